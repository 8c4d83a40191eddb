/- The second machine is right, first part: frames, operations that hand values on, operations without addresses, reads of memory. -/
import Derived.Test.YtmckaoeofikdaaaLiftB
namespace Go.Proofs.Ytmckaoeofikdaaa.Lift
open Go.RowKit
variable [Known] [Syms]

omit [Known] [Syms] in
theorem pureAt_run {P : Program} {α : Type} : ∀ (s : Sem α) (a : α), pureAt P s = some a → ∀ w, s.run P w = .ok a w
  | .pure b, a, h, w => by simp only [pureAt, Option.some.injEq] at h; subst h; rfl
  | .program k, a, h, w => by simp only [pureAt] at h; exact pureAt_run (k P) a h w
  | .mark _ k, a, h, w => by simp only [pureAt] at h; exact pureAt_run k a h w
  | .load .., a, h, _ => by simp [pureAt] at h
  | .store .., a, h, _ => by simp [pureAt] at h
  | .new .., a, h, _ => by simp [pureAt] at h
  | .shape .., a, h, _ => by simp [pureAt] at h
  | .freeze .., a, h, _ => by simp [pureAt] at h
  | .frozen .., a, h, _ => by simp [pureAt] at h
  | .getObj .., a, h, _ => by simp [pureAt] at h
  | .setObj .., a, h, _ => by simp [pureAt] at h
  | .choose .., a, h, _ => by simp [pureAt] at h
  | .sys .., a, h, _ => by simp [pureAt] at h
  | .halt _, a, h, _ => by simp [pureAt] at h

/-! ### Frames -/
omit [Known] [Syms] in
theorem Tr.get_zero (v : Value) (l r : Tr) : (Tr.nd v l r).get 0 = v := rfl
omit [Known] [Syms] in
theorem Tr.get_succ (v : Value) (l r : Tr) (i : Nat) : (Tr.nd v l r).get (i + 1) = if i % 2 = 0 then l.get (i / 2) else r.get (i / 2) := by
  show Nat.rec (motive := fun _ => Value) (l.get (i / 2)) (fun _ _ => r.get (i / 2)) (i % 2) = _
  rcases Nat.mod_two_eq_zero_or_one i with h | h <;> rw [h] <;> rfl
omit [Known] [Syms] in
theorem Tr.get_nil (i : Nat) : Tr.nil.get i = undef := rfl

omit [Known] [Syms] in
theorem half_ne {i j : Nat} (h : i ≠ j) (hp : i % 2 = j % 2) : i / 2 ≠ j / 2 := by omega

omit [Known] [Syms] in
theorem Tr.fPutNil_spec (f : Nat) : ∀ (i : Nat), i + 1 < 2 ^ f → ∀ (v : Value), ∃ t : Tr, (∀ {β : Type} (k : Tr → β), Tr.fPutNil f i v k = k t) ∧ ∀ j, t.get j = if j = i then v else undef := by
  induction f with
  | zero => intro i hi; simp at hi
  | succ f ih =>
    intro i hi v
    cases i with
    | zero =>
      refine ⟨.nd v .nil .nil, fun k => rfl, fun j => ?_⟩
      cases j with
      | zero => simp [Tr.get_zero]
      | succ j => rw [Tr.get_succ]; simp [Tr.get_nil]
    | succ i =>
      have hlt : i / 2 + 1 < 2 ^ f := by rw [Nat.pow_succ] at hi; omega
      obtain ⟨t, ht, hg⟩ := ih (i / 2) hlt v
      rcases Nat.mod_two_eq_zero_or_one i with h | h
      · refine ⟨.nd undef t .nil, fun k => ?_, fun j => ?_⟩
        · show Nat.rec (motive := fun _ => _) (Tr.fPutNil f (i / 2) v fun l => k (.nd undef l .nil)) (fun _ _ => Tr.fPutNil f (i / 2) v fun r => k (.nd undef .nil r)) (i % 2) = _
          rw [h]; exact ht _
        · cases j with
          | zero => simp [Tr.get_zero]
          | succ j =>
            rw [Tr.get_succ, hg, Tr.get_nil]
            by_cases hj : j = i
            · subst hj; simp [h]
            · rw [if_neg (by omega : ¬ j + 1 = i + 1)]
              by_cases h2 : j % 2 = 0
              · rw [if_pos h2, if_neg (half_ne hj (by omega))]
              · rw [if_neg h2]
      · refine ⟨.nd undef .nil t, fun k => ?_, fun j => ?_⟩
        · show Nat.rec (motive := fun _ => _) (Tr.fPutNil f (i / 2) v fun l => k (.nd undef l .nil)) (fun _ _ => Tr.fPutNil f (i / 2) v fun r => k (.nd undef .nil r)) (i % 2) = _
          rw [h]; exact ht _
        · cases j with
          | zero => simp [Tr.get_zero]
          | succ j =>
            rw [Tr.get_succ, hg, Tr.get_nil]
            by_cases hj : j = i
            · subst hj; simp [h]
            · rw [if_neg (by omega : ¬ j + 1 = i + 1)]
              by_cases h2 : j % 2 = 0
              · rw [if_pos h2]
              · rw [if_neg h2, if_neg (half_ne hj (by omega))]

omit [Known] [Syms] in
theorem Tr.fPut_spec (t : Tr) : ∀ (i : Nat), i < 1000000 → ∀ (v : Value), ∃ t' : Tr, (∀ {β : Type} (k : Tr → β), t.fPut i v k = k t') ∧ ∀ j, t'.get j = if j = i then v else t.get j := by
  induction t with
  | nil =>
    intro i hi v
    exact Tr.fPutNil_spec 20 i (by have : (2 : Nat) ^ 20 = 1048576 := by decide
                                   omega) v
  | nd u l r ihl ihr =>
    intro i hi v
    cases i with
    | zero =>
      refine ⟨.nd v l r, fun k => rfl, fun j => ?_⟩
      cases j with
      | zero => simp [Tr.get_zero]
      | succ j => rw [Tr.get_succ, Tr.get_succ, if_neg (by omega : ¬ j + 1 = 0)]
    | succ i =>
      rcases Nat.mod_two_eq_zero_or_one i with h | h
      · obtain ⟨t, ht, hg⟩ := ihl (i / 2) (by omega) v
        refine ⟨.nd u t r, fun k => ?_, fun j => ?_⟩
        · show Nat.rec (motive := fun _ => _) (l.fPut (i / 2) v fun l => k (.nd u l r)) (fun _ _ => r.fPut (i / 2) v fun r => k (.nd u l r)) (i % 2) = _
          rw [h]; exact ht _
        · cases j with
          | zero => simp [Tr.get_zero]
          | succ j =>
            rw [Tr.get_succ, Tr.get_succ, hg]
            by_cases hj : j = i
            · subst hj; simp [h]
            · rw [if_neg (by omega : ¬ j + 1 = i + 1)]
              by_cases h2 : j % 2 = 0
              · rw [if_pos h2, if_pos h2, if_neg (half_ne hj (by omega))]
              · rw [if_neg h2, if_neg h2]
      · obtain ⟨t, ht, hg⟩ := ihr (i / 2) (by omega) v
        refine ⟨.nd u l t, fun k => ?_, fun j => ?_⟩
        · show Nat.rec (motive := fun _ => _) (l.fPut (i / 2) v fun l => k (.nd u l r)) (fun _ _ => r.fPut (i / 2) v fun r => k (.nd u l r)) (i % 2) = _
          rw [h]; exact ht _
        · cases j with
          | zero => simp [Tr.get_zero]
          | succ j =>
            rw [Tr.get_succ, Tr.get_succ, hg]
            by_cases hj : j = i
            · subst hj; simp [h]
            · rw [if_neg (by omega : ¬ j + 1 = i + 1)]
              by_cases h2 : j % 2 = 0
              · rw [if_pos h2, if_pos h2]
              · rw [if_neg h2, if_neg h2, if_neg (half_ne hj (by omega))]

/-- What is known of signs is so. -/
class KnownOk (P : Program) : Prop where
  bin : ∀ {op : BinOp} {u v r : Value}, Known.bin op u v = some r → ∀ (ρ : Env) (t : TypeId) (x y : Operand) (w : World), (do eqGuard op t x y (ren3 ρ u) (ren3 ρ v); binOp op t (ren3 ρ u) (ren3 ρ v)).run P w = .ok (ren3 ρ r) w
  un : ∀ {op : UnOp} {u r : Value}, Known.un op u = some r → ∀ (ρ : Env) (w : World), (Op.unary op (ren3 ρ u)).run P w = .ok (ren3 ρ r) w
  conv : ∀ {s d : TypeId} {u r : Value}, Known.conv s d u = some r → ∀ (ρ : Env) (w : World), (convert s d (ren3 ρ u)).run P w = .ok (ren3 ρ r) w
  len : ∀ {t : TypeId} {u r : Value}, Known.len t u = some r → ∀ (ρ : Env) (w : World) (t' : TypeId), (Builtin.len_ #[t] t' #[ren3 ρ u]).run P w = .ok (ren3 ρ r) w

/-- A frame stands for a state of the model's. -/
structure FRel (ρ : Env) (l : Fr) (a : Act) : Prop where
  defers : a.defers = []
  size : a.tmps.size = l.n
  small : l.n ≤ 1000000
  slot : ∀ t, a.tmps.getD t undef = ren3 ρ (l.get t)

def WF (n : Nat) (l : Fr) : Prop := ∀ t, wf3 n (l.get t) = true
omit [Known] in
theorem WF.mono {n m : Nat} {l : Fr} (h : WF n l) (hnm : n ≤ m) : WF m l := fun t => wf3_mono hnm (h t)

omit [Known] in
theorem ren3_undef (ρ : Env) : ren3 ρ undef = undef := by simp [undef, ren3]
omit [Known] [Syms] in
theorem wf3_undef (n : Nat) : wf3 n undef = true := rfl

omit [Known] in
theorem FRel.agree {ρ ρ' : Env} {l : Fr} {a : Act} {n : Nat} (h : FRel ρ l a) (hw : WF n l) (hA : Agree n ρ ρ') : FRel ρ' l a :=
  ⟨h.defers, h.size, h.small, fun t => by rw [ren3_agree hA (hw t)]; exact h.slot t⟩

omit [Known] [Syms] in
theorem getD_set (xs : Array Value) (d t : Nat) (v : Value) : (xs.setIfInBounds d v).getD t undef = if t = d ∧ d < xs.size then v else xs.getD t undef := by
  simp only [Array.getD_eq_getD_getElem?, Array.getElem?_setIfInBounds]
  by_cases h : d = t
  · subst h
    by_cases hl : d < xs.size
    · simp [hl]
    · simp [hl]
  · simp [h, Ne.symm h]

omit [Known] in
theorem fPut_spec {ρ : Env} {l : Fr} {a : Act} (h : FRel ρ l a) (dst : Option Tmp) (v : Value) :
    ∃ l', (∀ {β : Type} (k : Fr → β), fPut l dst v k = k l') ∧ FRel ρ l' (a.put dst (ren3 ρ v)) ∧ ∀ n, WF n l → wf3 n v = true → WF n l' := by
  cases dst with
  | none => exact ⟨l, fun k => rfl, h, fun n hw _ => hw⟩
  | some d =>
    by_cases hd : d < l.n
    · obtain ⟨t', ht, hg⟩ := Tr.fPut_spec l.t d (Nat.lt_of_lt_of_le hd h.small) v
      refine ⟨⟨l.n, t'⟩, fun k => ?_, ⟨h.defers, ?_, h.small, fun t => ?_⟩, fun n hw hv t => ?_⟩
      · simp only [fPut, fVal_eq, Fr.fPut]
        rw [show Nat.ble (Nat.succ d) l.n = true from Nat.ble_eq_true_of_le hd]
        exact ht _
      · simpa [Act.put] using h.size
      · show ((a.tmps.setIfInBounds d (ren3 ρ v)).getD t undef) = ren3 ρ (t'.get t)
        rw [getD_set, hg, h.size]
        by_cases e : t = d
        · simp [e, hd]
        · simp only [e, false_and, if_false]; exact h.slot t
      · show wf3 n (t'.get t) = true
        rw [hg]
        split
        · exact hv
        · exact hw t
    · refine ⟨l, fun k => ?_, ⟨h.defers, ?_, h.small, fun t => ?_⟩, fun n hw _ => hw⟩
      · simp only [fPut, fVal_eq, Fr.fPut]
        have : Nat.ble (Nat.succ d) l.n = false := by
          cases hb : Nat.ble (Nat.succ d) l.n with
          | false => rfl
          | true => exact absurd (Nat.lt_of_succ_le (Nat.le_of_ble_eq_true hb)) hd
        rw [this]; rfl
      · simpa [Act.put] using h.size
      · show ((a.tmps.setIfInBounds d (ren3 ρ v)).getD t undef) = _
        rw [getD_set, h.size, if_neg (fun hh => hd hh.2)]; exact h.slot t

omit [Known] in
theorem evalL_spec {ρ : Env} {l : Fr} {a : Act} (h : FRel ρ l a) {x : Operand} {v : Value} (he : evalL l x = some v) : a.eval x = ren3 ρ v := by
  cases x with
  | tmp t => simp only [evalL, Option.some.injEq] at he; subst he; exact h.slot t
  | const u =>
    simp only [evalL] at he
    split at he
    · simp only [Option.some.injEq] at he; subst he; rw [ren3_no]; rfl; assumption
    · cases he
  | global g => simp [evalL] at he
  | func f => simp only [evalL, Option.some.injEq] at he; subst he; simp [Act.eval, ren3, ren2, ren1]

omit [Known] in
theorem evalL_wf {n : Nat} {l : Fr} (hw : WF n l) {x : Operand} {v : Value} (he : evalL l x = some v) : wf3 n v = true := by
  cases x with
  | tmp t => simp only [evalL, Option.some.injEq] at he; subst he; exact hw t
  | const u =>
    simp only [evalL] at he
    split at he
    · simp only [Option.some.injEq] at he; subst he; exact wf3_no (by assumption)
    · cases he
  | global g => simp [evalL] at he
  | func f => simp only [evalL, Option.some.injEq] at he; subst he; rfl

omit [Known] in
theorem isLit_spec {ρ : Env} {l : Fr} {a : Act} (h : FRel ρ l a) {x : Operand} (hl : isLit l x = true) : a.eval x = litAt l x := by
  unfold isLit at hl
  split at hl
  · rename_i v hv
    rw [evalL_spec h hv, ren3_no ρ hl]
    simp [litAt, hv]
  · cases hl

/-! ### What an operation comes to -/
def OpRes (P : Program) (o : Oper) (a : Act) (ρ : Env) (H : Hp) (w : World) (N : Nat) (v : Value) (H' : Hp) : Prop :=
  ∃ ρ' w' nx, (execOp a.eval o).run P w = .ok nx w' ∧ (nx = .value (ren3 ρ' v) ∨ (nx = .skip ∧ v = undef)) ∧ HRel ρ' H' w' N ∧ Agree H.length ρ ρ' ∧ Below N w w' ∧ H.length ≤ H'.length

omit [Known] in
theorem OpRes.same {P : Program} {o : Oper} {a : Act} {ρ : Env} {H : Hp} {w : World} {N : Nat} {v : Value} (hH : HRel ρ H w N)
    (h : (execOp a.eval o).run P w = .ok (.value (ren3 ρ v)) w) : OpRes P o a ρ H w N v H :=
  ⟨ρ, w, _, h, .inl rfl, hH, Agree.refl _ _, Below.refl _ _, Nat.le_refl _⟩

section data
variable {P : Program} {o : Oper} {a : Act} {ρ : Env} {l : Fr} {w : World} {v : Value} (h : FRel ρ l a)
include h

omit [Known] in
theorem aPick_spec {c x y : Operand} (ho : o.op = .pick c x y) (hv : aPick l c x y = some v) : (execOp a.eval o).run P w = .ok (.value (ren3 ρ v)) w := by
  unfold aPick at hv
  split at hv
  · rename_i b u u' hc hx hy
    simp only [Option.some.injEq] at hv
    subst hv
    simp only [execOp, ho, evalL_spec h hc, evalL_spec h hx, evalL_spec h hy]
    cases b <;> simp [ren3, ren2, ren1, asBool]
  · cases hv

omit [Known] in
theorem aExtract_spec {t : Operand} {i : Nat} (ho : o.op = .extract t i) (hv : aExtract l t i = some v) : (execOp a.eval o).run P w = .ok (.value (ren3 ρ v)) w := by
  unfold aExtract at hv
  split at hv
  · rename_i vs ht
    split at hv
    · rename_i u hu
      split at hv
      · cases hv
      · rename_i hf
        simp only [Option.some.injEq] at hv
        subst hv
        have e : a.eval t = .tuple (vs.map (ren2 ρ)) := evalL_spec h ht
        simp only [execOp, ho, e, Instr.extract, Array.getElem?_map, hu]
        rw [ren3_flat ρ (by simpa using hf)]
        simp
    · cases hv
  · cases hv
end data

omit [Known] [Syms] in
theorem run_isAgg {P : Program} {t : TypeId} {b : Bool} (h : rowT P t = some b) (w : World) : (isAgg t).run P w = .ok b w := by
  unfold rowT at h
  split at h
  · rename_i d hd
    simp only [Option.some.injEq] at h
    subst h
    unfold isAgg
    rw [Sem.run_bind, run_underlying hd w]
    cases d <;> simp [TypeDesc.isRow]
  · cases h

omit [Known] [Syms] in
theorem run_sizeOf {P : Program} {t : TypeId} {n : Nat} (h : szT P t = some n) (w : World) : (sizeOf t).run P w = .ok n w := by
  unfold szT at h
  cases hi : P.info? t with
  | none => simp [hi] at h
  | some i => simp [hi] at h; simp [sizeOf, typeInfo, hi, h]

omit [Known] in
theorem aPart_spec {P : Program} {t : TypeId} {cs : Array Value} {off : Nat} {v : Value} (ρ : Env) (h : aPart P t cs off = some v) (w : World) :
    (part t (cs.map (ren1 ρ)) off).run P w = .ok (ren3 ρ v) w := by
  unfold aPart at h
  split at h
  · rename_i hr
    split at h
    · rename_i n hn
      simp only [Option.some.injEq] at h
      subst h
      simp only [part, Sem.run_bind, run_isAgg hr, Result.andThen_ok, if_true, run_sizeOf hn, ren3, ren2, Sem.run_pure]
      simp
    · cases h
  · rename_i hr
    split at h
    · rename_i u hu
      split at h
      · rename_i hc
        simp only [Option.some.injEq] at h
        subst h
        simp only [part, Sem.run_bind, run_isAgg hr, Result.andThen_ok, Array.getElem?_map, hu, Option.map_some]
        rw [ren3_cell ρ hc]
        simp
      · cases h
    · cases h
  · cases h

/-! ### The quicker road -/
omit [Known] [Syms] in
theorem find1_spec {y z : Nat} : ∀ {row : List (Nat × Nat)}, find1 y row = some z → (y, z) ∈ row
  | [], h => by cases h
  | (b, c) :: r, h => by
    simp only [find1] at h
    cases hc : Nat.beq y b with
    | true =>
      rw [hc] at h
      simp only [cond_true, Option.some.injEq] at h
      rw [Nat.eq_of_beq_eq_true hc, h]; simp
    | false => rw [hc] at h; exact List.mem_cons_of_mem _ (find1_spec h)
omit [Known] [Syms] in
theorem find2_spec {x y z : Nat} : ∀ {T : Tab2}, find2 x y T = some z → ∃ row, (x, row) ∈ T ∧ (y, z) ∈ row
  | [], h => by cases h
  | (b, row) :: r, h => by
    simp only [find2] at h
    cases hc : Nat.beq x b with
    | true =>
      rw [hc] at h
      rw [Nat.eq_of_beq_eq_true hc]
      exact ⟨row, by simp, find1_spec h⟩
    | false =>
      rw [hc] at h
      obtain ⟨row', h1, h2⟩ := find2_spec h
      exact ⟨row', List.mem_cons_of_mem _ h1, h2⟩
def tabOk (f : Nat → Nat → Option Nat) (T : Tab2) : Bool := T.all fun r => r.2.all fun c => f r.1 c.1 == some c.2
omit [Known] [Syms] in
theorem tabOk_spec {f : Nat → Nat → Option Nat} {T : Tab2} (h : tabOk f T = true) {x y z : Nat} (hf : find2 x y T = some z) : f x y = some z := by
  obtain ⟨row, h1, h2⟩ := find2_spec hf
  have := List.all_eq_true.1 (List.all_eq_true.1 h _ h1) _ h2
  simpa using this
set_option maxRecDepth 100000 in
omit [Known] [Syms] in
theorem tabAdd_ok : tabOk (FloatKind.f64.format.add) tabAdd = true := by kernel_rfl
set_option maxRecDepth 100000 in
omit [Known] [Syms] in
theorem tabSub_ok : tabOk (FloatKind.f64.format.sub) tabSub = true := by kernel_rfl
set_option maxRecDepth 100000 in
omit [Known] [Syms] in
theorem tabMul_ok : tabOk (FloatKind.f64.format.mul) tabMul = true := by kernel_rfl

omit [Known] [Syms] in
theorem run_guard_int {P : Program} (op : BinOp) (t : TypeId) (x y : Operand) (k k' : IntKind) (m n : Int) (w : World) : (eqGuard op t x y (.int k m) (.int k' n)).run P w = .ok () w := by
  unfold eqGuard; cases op <;> rfl
omit [Known] [Syms] in
theorem run_guard_float {P : Program} (op : BinOp) (t : TypeId) (x y : Operand) (k k' : FloatKind) (m n : Nat) (w : World) : (eqGuard op t x y (.float k m) (.float k' n)).run P w = .ok () w := by
  unfold eqGuard; cases op <;> rfl
omit [Known] [Syms] in
theorem run_guard_complex {P : Program} (op : BinOp) (t : TypeId) (x y : Operand) (k k' : FloatKind) (a b c d : Nat) (w : World) : (eqGuard op t x y (.complex k a b) (.complex k' c d)).run P w = .ok () w := by
  unfold eqGuard; cases op <;> rfl

omit [Known] [Syms] in
theorem wrap_small {n : Nat} (h1 : n ≤ 9223372036854775807) : IntKind.wrap .i64 (n : Int) = (n : Int) := by
  have hm : (n : Int) % (2 ^ IntKind.i64.bits : Int) = (n : Int) := Int.emod_eq_of_lt (by omega) (by
    show (n : Int) < (2 : Int) ^ 64
    have : (2 : Int) ^ 64 = 18446744073709551616 := by decide
    omega)
  have hlt : ¬ ((n : Int) ≥ (2 ^ (IntKind.i64.bits - 1) : Int)) := by
    show ¬ ((n : Int) ≥ (2 : Int) ^ 63)
    have : (2 : Int) ^ 63 = 9223372036854775808 := by decide
    omega
  unfold IntKind.wrap
  simp only [hm]
  rw [if_neg (by simp [hlt])]

omit [Known] [Syms] in
theorem ble_iff {a b : Nat} : Nat.ble a b = decide (a ≤ b) := by
  cases h : Nat.ble a b with
  | true => simp [Nat.le_of_ble_eq_true h]
  | false =>
    have : ¬ a ≤ b := fun hh => by rw [Nat.ble_eq_true_of_le hh] at h; cases h
    simp [this]
omit [Known] [Syms] in
theorem beq_iff {a b : Nat} : Nat.beq a b = decide (a = b) := by
  cases h : Nat.beq a b with
  | true => simp [Nat.eq_of_beq_eq_true h]
  | false =>
    have : ¬ a = b := fun hh => by subst hh; simp at h
    simp [this]

omit [Known] [Syms] in
theorem int_beq (a b : Nat) : (((a : Nat) : Int) == ((b : Nat) : Int)) = decide (a = b) := by
  rw [Bool.eq_iff_iff, beq_iff_eq, decide_eq_true_eq]
  omega

omit [Known] [Syms] in
theorem fastInt_spec {P : Program} {op : BinOp} {a b : Nat} {r : Value} (h : fastInt op a b = some r) (t : TypeId) (w : World) :
    (binOp op t (.int .i64 (.ofNat a)) (.int .i64 (.ofNat b))).run P w = .ok r w ∧ no3 r = true := by
  unfold fastInt at h
  split at h
  · cases hc : Nat.ble (Nat.add a b) 9223372036854775807 with
    | false => rw [hc] at h; cases h
    | true =>
      rw [hc] at h
      simp only [cond_true, Option.some.injEq] at h
      subst h
      refine ⟨?_, rfl⟩
      have := wrap_small (n := a + b) (Nat.le_of_ble_eq_true hc)
      simp only [binOp, Op.intArith, ne_eq, not_true_eq_false, if_false, Sem.run_pure]
      rw [show (Int.ofNat a + Int.ofNat b : Int) = ((a + b : Nat) : Int) from rfl, this]
      rfl
  · cases hc : (Nat.ble b a && Nat.ble a 9223372036854775807) with
    | false => rw [hc] at h; cases h
    | true =>
      rw [hc] at h
      simp only [cond_true, Option.some.injEq] at h
      subst h
      refine ⟨?_, rfl⟩
      simp only [Bool.and_eq_true] at hc
      have h1 := Nat.le_of_ble_eq_true hc.1
      have h2 := Nat.le_of_ble_eq_true hc.2
      have := wrap_small (n := a - b) (by omega)
      simp only [binOp, Op.intArith, ne_eq, not_true_eq_false, if_false, Sem.run_pure]
      rw [show (Int.ofNat a - Int.ofNat b : Int) = ((a - b : Nat) : Int) from (Int.ofNat_sub h1).symm, this]
      rfl
  · cases hc : Nat.ble (Nat.mul a b) 9223372036854775807 with
    | false => rw [hc] at h; cases h
    | true =>
      rw [hc] at h
      simp only [cond_true, Option.some.injEq] at h
      subst h
      refine ⟨?_, rfl⟩
      have := wrap_small (n := a * b) (Nat.le_of_ble_eq_true hc)
      simp only [binOp, Op.intArith, ne_eq, not_true_eq_false, if_false, Sem.run_pure]
      rw [show (Int.ofNat a * Int.ofNat b : Int) = ((a * b : Nat) : Int) from rfl, this]
      rfl
  all_goals first | (cases h; done) | skip
  all_goals
    simp only [Option.some.injEq] at h
    subst h
    refine ⟨?_, rfl⟩
    simp only [binOp, Op.intCmp, ne_eq, not_true_eq_false, if_false, Sem.run_pure, ble_iff, beq_iff]
  · rw [show decide (Int.ofNat a < Int.ofNat b) = decide (Nat.succ a ≤ b) from decide_eq_decide.2 (by simp only [Int.ofNat_eq_natCast]; omega)]
  · rw [show decide (Int.ofNat a ≤ Int.ofNat b) = decide (a ≤ b) from decide_eq_decide.2 (by simp only [Int.ofNat_eq_natCast]; omega)]
  · rw [show decide (Int.ofNat a > Int.ofNat b) = decide (Nat.succ b ≤ a) from decide_eq_decide.2 (by simp only [Int.ofNat_eq_natCast]; omega)]
  · rw [show decide (Int.ofNat a ≥ Int.ofNat b) = decide (b ≤ a) from decide_eq_decide.2 (by simp only [Int.ofNat_eq_natCast]; omega)]
  · rw [show (Int.ofNat a == Int.ofNat b) = decide (a = b) from by rw [Int.ofNat_eq_natCast, Int.ofNat_eq_natCast, int_beq]]
  · rw [show (Int.ofNat a != Int.ofNat b) = !decide (a = b) from by rw [bne, Int.ofNat_eq_natCast, Int.ofNat_eq_natCast, int_beq]]

omit [Known] [Syms] in
theorem fastFloat_spec {P : Program} {op : BinOp} {a b r : Nat} (h : fastFloat op a b = some r) (w : World) : (Op.floatArith op .f64 a b).run P w = .ok (.float .f64 r) w := by
  unfold fastFloat at h
  split at h
  · have := tabOk_spec tabAdd_ok h; simp [Op.floatArith, this]
  · have := tabOk_spec tabSub_ok h; simp [Op.floatArith, this]
  · have := tabOk_spec tabMul_ok h; simp [Op.floatArith, this]
  · cases h

omit [Known] [Syms] in
theorem arith_spec {P : Program} {op : BinOp} {a b r : Nat} (h : fastFloat op a b = some r) (w : World) : (Op.Complex.arith op .f64 a b).run P w = .ok r w := by
  simp [Op.Complex.arith, fastFloat_spec h w]

omit [Known] [Syms] in
theorem fastMul_spec {P : Program} {a b c d : Nat} {r : Value} (h : fastMul a b c d = some r) (w : World) : (Op.complexOp .mul .f64 a b c d).run P w = .ok r w ∧ no3 r = true := by
  unfold fastMul at h
  split at h
  · rename_i ac bd ad bc h1 h2 h3 h4
    split at h
    · rename_i e f h5 h6
      simp only [Option.some.injEq] at h
      subst h
      refine ⟨?_, rfl⟩
      have k1 := fun w => arith_spec (P := P) (op := .mul) h1 w
      have k2 := fun w => arith_spec (P := P) (op := .mul) h2 w
      have k3 := fun w => arith_spec (P := P) (op := .mul) h3 w
      have k4 := fun w => arith_spec (P := P) (op := .mul) h4 w
      have k5 := fun w => arith_spec (P := P) (op := .sub) h5 w
      have k6 := fun w => arith_spec (P := P) (op := .add) h6 w
      simp [Op.complexOp, Op.Complex.conv, Op.Complex.product, Op.Complex.mul, Op.Complex.sub, Op.Complex.add, k1, k2, k3, k4, k5, k6]
    · cases h
  · cases h

omit [Known] [Syms] in
theorem fastAdd_spec {P : Program} {a b c d : Nat} {r : Value} (h : fastAdd a b c d = some r) (w : World) : (Op.complexOp .add .f64 a b c d).run P w = .ok r w ∧ no3 r = true := by
  unfold fastAdd at h
  split at h
  · rename_i e f h1 h2
    simp only [Option.some.injEq] at h
    subst h
    refine ⟨?_, rfl⟩
    have k1 := fun w => arith_spec (P := P) (op := .add) h1 w
    have k2 := fun w => arith_spec (P := P) (op := .add) h2 w
    simp [Op.complexOp, k1, k2]
  · cases h

omit [Known] in
theorem fastBin_spec {P : Program} {op : BinOp} {u u' r : Value} (h : fastBin op u u' = some r) (t : TypeId) (x y : Operand) (w : World) :
    (∀ ρ, ren3 ρ u = u) ∧ (∀ ρ, ren3 ρ u' = u') ∧ (∀ ρ, ren3 ρ r = r) ∧ (do eqGuard op t x y u u'; binOp op t u u').run P w = .ok r w := by
  unfold fastBin at h
  split at h
  · rename_i a b
    obtain ⟨h1, h2⟩ := fastInt_spec (P := P) h t w
    refine ⟨fun _ => rfl, fun _ => rfl, fun ρ => ren3_no ρ h2, ?_⟩
    rw [Sem.run_bind, run_guard_int]
    exact h1
  · rename_i a b
    cases hf : fastFloat op a b with
    | none => rw [hf] at h; cases h
    | some z =>
      rw [hf] at h
      simp only [Option.map_some, Option.some.injEq] at h
      subst h
      refine ⟨fun _ => rfl, fun _ => rfl, fun _ => rfl, ?_⟩
      rw [Sem.run_bind, run_guard_float]
      have hop : op = .add ∨ op = .sub ∨ op = .mul := by
        unfold fastFloat at hf
        split at hf
        · exact .inl rfl
        · exact .inr (.inl rfl)
        · exact .inr (.inr rfl)
        · cases hf
      have := fastFloat_spec (P := P) hf w
      rcases hop with rfl | rfl | rfl <;> simpa [binOp] using this
  · rename_i a b c d
    split at h
    · obtain ⟨h1, h2⟩ := fastMul_spec (P := P) h w
      refine ⟨fun _ => rfl, fun _ => rfl, fun ρ => ren3_no ρ h2, ?_⟩
      rw [Sem.run_bind, run_guard_complex]
      simpa [binOp] using h1
    · obtain ⟨h1, h2⟩ := fastAdd_spec (P := P) h w
      refine ⟨fun _ => rfl, fun _ => rfl, fun ρ => ren3_no ρ h2, ?_⟩
      rw [Sem.run_bind, run_guard_complex]
      simpa [binOp] using h1
    · cases h
  · cases h

section data2
variable {P : Program} {o : Oper} {a : Act} {ρ : Env} {l : Fr} {w : World} {v : Value} (h : FRel ρ l a)
include h

omit [Known] in
theorem aField_spec {t : TypeId} {x : Operand} {f : Nat} (ho : o.op = .field t x f) (hv : aField P l t x f = some v) : (execOp a.eval o).run P w = .ok (.value (ren3 ρ v)) w := by
  unfold aField at hv
  split at hv
  · rename_i cs fields hx hu
    split at hv
    · rename_i fd hfd
      simp [execOp, ho, evalL_spec h hx, ren3, ren2, Instr.field, run_underlying hu, hfd, asAgg, aPart_spec ρ hv]
    · cases hv
  · cases hv

omit [Known] in
theorem aIndex_spec {t : TypeId} {x ix : Operand} (ho : o.op = .index t x ix) (hv : aIndex P l t x ix = some v) : (execOp a.eval o).run P w = .ok (.value (ren3 ρ v)) w := by
  unfold aIndex at hv
  split at hv
  · rename_i cs k i len e hx hi hu
    split at hv
    · rename_i n hn
      split at hv
      · rename_i hb
        simp [execOp, ho, evalL_spec h hx, evalL_spec h hi, ren3, ren2, ren1, Instr.index, run_underlying hu, asIntOf, hb, run_sizeOf hn, aPart_spec ρ hv]
      · cases hv
    · cases hv
  · cases hv

omit [Known] in
theorem evalAll_spec : ∀ (xs : List Operand) (vs : List Value), evalAll l xs = some vs → xs.map a.eval = vs.map (ren3 ρ)
  | [], vs, hv => by simp [evalAll] at hv; subst hv; rfl
  | x :: xs, vs, hv => by
    simp only [evalAll] at hv
    split at hv
    · rename_i u us hx hxs
      simp only [Option.some.injEq] at hv
      subst hv
      simp [evalL_spec h hx, evalAll_spec xs us hxs]
    · cases hv

omit [Known] in
theorem aMakeFunc_spec {fn : Fn} {first captured : Array Operand} (ho : o.op = .makeFunc fn first captured) (hv : aMakeFunc l fn first captured = some v) :
    (execOp a.eval o).run P w = .ok (.value (ren3 ρ v)) w := by
  unfold aMakeFunc at hv
  split at hv
  · rename_i f
    split at hv
    · rename_i hf
      split at hv
      · rename_i vs hvs
        split at hv
        · rename_i hp
          simp only [Option.some.injEq] at hv
          subst hv
          have e1 : first = #[] := by simpa using hf
          subst e1
          have e2 : captured.map a.eval = (vs.map (ren3 ρ)).toArray := by
            apply Array.ext'
            rw [Array.toList_map, evalAll_spec h _ _ hvs]
          have e3 : vs.map (ren3 ρ) = vs.map (ren0 ρ) := List.map_congr_left fun u hu => by
            have := List.all_eq_true.1 hp u hu
            cases u <;> first | (simp [isPtr] at this; done) | skip
            rename_i q
            cases q <;> rfl
          simp [execOp, ho, Instr.makeFunc, e2, e3, ren3, ren2, ren1]
        · cases hv
      · cases hv
    · cases hv
  · cases hv

omit [Known] in
theorem aLen_spec {c : Call} {args : Array Operand} {argTypes : Array TypeId} (ho : o.op = .call c) (hc : c = { callee := .builtin .len, args, argTypes }) (hv : aLen P l args argTypes = some v) :
    (execOp a.eval o).run P w = .ok (.value (ren3 ρ v)) w := by
  subst hc
  unfold aLen at hv
  split at hv
  · rename_i x t hx ht
    have e1 : args = #[x] := by apply Array.ext'; simpa using hx
    have e2 : argTypes = #[t] := by apply Array.ext'; simpa using ht
    subst e1 e2
    split at hv
    · rename_i b n k e hx hu
      simp only [Option.some.injEq] at hv
      subst hv
      simp [execOp, ho, resolve, invoke, builtin, Builtin.len_, evalL_spec h hx, ren3, ren2, ren1, run_underlying hu, goInt]
    · cases hv
  · cases hv

omit [Known] in
theorem aBin_spec {op : BinOp} {t t' : TypeId} {x y : Operand} (ho : o.op = .binOp op t x y t') (hv : aBin P l op t x y = some v) : (execOp a.eval o).run P w = .ok (.value (ren3 ρ v)) w := by
  unfold aBin at hv
  split at hv
  · rename_i u u' hx hy
    have fin : ren3 ρ u = u → ren3 ρ u' = u' → ren3 ρ v = v → (do eqGuard op t x y u u'; binOp op t u u').run P w = .ok v w → (execOp a.eval o).run P w = .ok (.value (ren3 ρ v)) w := by
      intro h1 h2 h3 h4
      simp only [execOp, ho, evalL_spec h hx, evalL_spec h hy, h1, h2, h3]
      rw [Sem.run_bind, h4]
      rfl
    split at hv
    · rename_i r hr
      simp only [Option.some.injEq] at hv
      subst hv
      obtain ⟨h1, h2, h3, h4⟩ := fastBin_spec (P := P) hr t x y w
      exact fin (h1 ρ) (h2 ρ) (h3 ρ) h4
    · unfold slowBin at hv
      split at hv
      · rename_i hl
        simp only [Bool.and_eq_true] at hl
        split at hv
        · rename_i r hr
          split at hv
          · rename_i hno
            simp only [Option.some.injEq] at hv
            subst hv
            exact fin (ren3_no ρ hl.1) (ren3_no ρ hl.2) (ren3_no ρ hno) (pureAt_run _ _ hr w)
          · cases hv
        · cases hv
      · cases hv
  · cases hv

omit [Known] in
theorem aUn_spec {op : UnOp} {t : TypeId} {x : Operand} (ho : o.op = .unOp op t x) (hv : aUn P l op x = some v) : (execOp a.eval o).run P w = .ok (.value (ren3 ρ v)) w := by
  unfold aUn at hv
  split at hv
  · rename_i hl
    split at hv
    · rename_i u hu
      split at hv
      · rename_i hno
        simp only [Option.some.injEq] at hv
        subst hv
        have := pureAt_run _ _ hu w
        simp only [execOp, ho, isLit_spec h hl]
        rw [Sem.run_bind, this, ren3_no ρ hno]
        rfl
      · cases hv
    · cases hv
  · cases hv

omit [Known] in
theorem aPure_spec (hv : aPure P l o = some v) : (execOp a.eval o).run P w = .ok (.value (ren3 ρ v)) w := by
  unfold aPure at hv
  split at hv
  · rename_i hl
    simp only [Bool.and_eq_true, List.all_eq_true] at hl
    split at hv
    · rename_i u hu
      split at hv
      · rename_i hno
        simp only [Option.some.injEq] at hv
        subst hv
        have e : execOp a.eval o = execOp (litAt l) o := execOp_congr o (fun cs b hs => by simp [noSel, hs] at hl) (fun x hx => isLit_spec h (hl.2 x (by simpa using hx)))
        rw [e, pureAt_run _ _ hu w, ren3_no ρ hno]
      · cases hv
    · cases hv
  · cases hv

theorem aKnown_spec [KnownOk P] (hv : aKnown l o.op = some v) : (execOp a.eval o).run P w = .ok (.value (ren3 ρ v)) w := by
  unfold aKnown at hv
  split at hv
  · rename_i b t x y t' ho
    split at hv
    · rename_i u u' hx hy
      simp only [execOp, ho, evalL_spec h hx, evalL_spec h hy]
      rw [Sem.run_bind, KnownOk.bin hv ρ t x y w]
      rfl
    · cases hv
  · rename_i b t x ho
    split at hv
    · rename_i u hx
      simp only [execOp, ho, evalL_spec h hx]
      rw [Sem.run_bind, KnownOk.un hv ρ w]
      rfl
    · cases hv
  · rename_i s d x ho
    split at hv
    · rename_i u hx
      simp only [execOp, ho, evalL_spec h hx]
      rw [Sem.run_bind, KnownOk.conv hv ρ w]
      rfl
    · cases hv
  · rename_i args argTypes ho
    split at hv
    · rename_i x t hx ht
      have e1 : args = #[x] := by apply Array.ext'; simpa using hx
      have e2 : argTypes = #[t] := by apply Array.ext'; simpa using ht
      subst e1 e2
      split at hv
      · rename_i u hx
        have := KnownOk.len (P := P) hv ρ w o.type
        simp [execOp, ho, resolve, invoke, builtin, evalL_spec h hx, this]
      · cases hv
    · cases hv
  · cases hv

omit [Known] in
theorem aData_spec (hv : aData P l o.op = some v) : (execOp a.eval o).run P w = .ok (.value (ren3 ρ v)) w := by
  unfold aData at hv
  split at hv <;> rename_i ho
  · simp only [execOp, ho, evalL_spec h hv]; rfl
  · simp only [execOp, ho, evalL_spec h hv]; rfl
  · exact aPick_spec h ho hv
  · exact aExtract_spec h ho hv
  · exact aField_spec h ho hv
  · exact aIndex_spec h ho hv
  · exact aMakeFunc_spec h ho hv
  · exact aBin_spec h ho hv
  · exact aUn_spec h ho hv
  · exact aLen_spec h ho rfl hv
  · cases hv
end data2

/-! ### What is reckoned once comes to the same -/
omit [Known] [Syms] in
theorem opd_eq (x : Operand) (l : Fr) : (opd x).run l = evalL l x := by
  cases x with
  | const v =>
    simp only [opd, evalL]
    cases no3 v <;> rfl
  | _ => rfl
omit [Known] [Syms] in
theorem plain_no {v : Value} (h : plain v = true) : no3 v = true := by
  unfold plain at h
  split at h <;> first | rfl | cases h
omit [Known] in
theorem aWfQ_eq (H : Hp) (v : Value) : aWfQ H v = aWf H v := by
  unfold aWfQ
  cases h : plain v with
  | false => rfl
  | true =>
    unfold aWf
    rw [if_pos (wf3_no (plain_no h))]
    rfl
omit [Known] [Syms] in
theorem qInt_eq {op : BinOp} {f : Nat → Nat → Option Value} (h1 : ∀ a b, fastInt op a b = f a b) (h2 : ∀ a b, fastFloat op a b = none) (h3 : op ≠ .mul ∧ op ≠ .add) (u v : Value) : qInt f u v = fastBin op u v := by
  unfold qInt
  split
  · exact (h1 _ _).symm
  · rename_i hno
    unfold fastBin
    split
    · exact (hno _ _ rfl rfl).elim
    · rw [h2]; rfl
    · split
      · exact absurd rfl h3.1
      · exact absurd rfl h3.2
      · rfl
    · rfl
omit [Known] [Syms] in
theorem qAdd_eq (u v : Value) : qAdd u v = fastBin .add u v := by
  unfold qAdd fastBin
  split <;> first | rfl | (split <;> first | rfl | simp_all)
omit [Known] [Syms] in
theorem qMul_eq (u v : Value) : qMul u v = fastBin .mul u v := by
  unfold qMul fastBin
  split <;> first | rfl | (split <;> first | rfl | simp_all)
omit [Known] [Syms] in
theorem fastC_eq (op : BinOp) (u v : Value) : (fastC op).run u v = fastBin op u v := by
  unfold fastC
  split
  · exact qAdd_eq u v
  · exact qMul_eq u v
  · exact qInt_eq (op := .lss) (fun _ _ => rfl) (fun _ _ => rfl) (by simp) u v
  · exact qInt_eq (op := .leq) (fun _ _ => rfl) (fun _ _ => rfl) (by simp) u v
  · exact qInt_eq (op := .gtr) (fun _ _ => rfl) (fun _ _ => rfl) (by simp) u v
  · exact qInt_eq (op := .geq) (fun _ _ => rfl) (fun _ _ => rfl) (by simp) u v
  · exact qInt_eq (op := .eql) (fun _ _ => rfl) (fun _ _ => rfl) (by simp) u v
  · exact qInt_eq (op := .neq) (fun _ _ => rfl) (fun _ _ => rfl) (by simp) u v
  · rfl
omit [Known] [Syms] in
theorem binC_eq (P : Program) (op : BinOp) (t : TypeId) (x y : Operand) (l : Fr) : (binC P op t x y).run l = aBin P l op t x y := by
  unfold binC aBin
  simp only [opd_eq, fastC_eq]
theorem dataO_eq {P : Program} {o : Oper} {f : VFn} {l : Fr} {H : Hp} (hd : kData o = true) (h : f.run l = aData P l o.op) : (dataO P o f).run l H = aOp P l H o := by
  unfold aOp oData
  rw [hd, ← h]
  simp only [dataO, cond_true, aWfQ_eq]
omit [Known] [Syms] in
theorem aStore_undef {P : Program} {l : Fr} {H : Hp} {t : TypeId} {x y : Operand} {r : Value × Hp} (h : aStore P l H t x y = some r) : r.1 = undef := by
  unfold aStore at h
  split at h
  · split at h
    · rw [Option.map_eq_some_iff] at h
      obtain ⟨_, _, rfl⟩ := h
      rfl
    · cases h
  · cases h
theorem aOpQ_eq (P : Program) (l : Fr) (H : Hp) (o : Oper) : aOpQ P l H o = aOp P l H o := by
  unfold aOpQ opC
  split <;> rename_i ho
  · exact dataO_eq (by simp [kData, ho]) (by simp [aData, ho, opd_eq])
  · exact dataO_eq (by simp [kData, ho]) (by simp [aData, ho, opd_eq])
  · exact dataO_eq (by simp [kData, ho]) (by simp [aData, ho])
  · exact dataO_eq (by simp [kData, ho]) (by simp [aData, ho])
  · exact dataO_eq (by simp [kData, ho]) (by simp [aData, ho])
  · exact dataO_eq (by simp [kData, ho]) (by simp [aData, ho])
  · exact dataO_eq (by simp [kData, ho]) (by simp [aData, ho])
  · exact dataO_eq (by simp [kData, ho]) (by simp [aData, ho, binC_eq])
  · exact dataO_eq (by simp [kData, ho]) (by simp [aData, ho])
  · exact dataO_eq (by simp [kData, ho]) (by simp [aData, ho])
  · simp only [aOp, kData, kRead, ho, cond_false, cond_true, oRead, aRead, aWfQ_eq]
  · simp only [aOp, kData, kRead, ho, cond_false, cond_true, oRead, aRead]
  · simp only [aOp, kData, kRead, ho, cond_false, cond_true, oRead, aRead]
  · simp only [aOp, kData, kRead, ho, cond_false, cond_true, oRead, aRead]
  · simp only [aOp, kData, kRead, kMem, ho, cond_false, cond_true, oMem, aMem]
  · simp only [aOp, kData, kRead, kMem, ho, cond_false, cond_true, oMem, aMem]
  · rename_i t x y
    simp only [aOp, kData, kRead, kMem, ho, cond_false, cond_true, oMem, aMem]
    cases h : aStore P l H t x y with
    | none => rfl
    | some r =>
      have hu := aStore_undef h
      simp only
      unfold aWf'
      rw [hu, if_pos (wf3_undef _)]
  · rfl

end Go.Proofs.Ytmckaoeofikdaaa.Lift
