/- The second machine is right, eighth part: a region whose order is drawn comes, in every order, to what it comes to in the text's. -/
import Derived.Test.YtmckaoeofikdaaaLiftI
namespace Go.Proofs.Ytmckaoeofikdaaa.Lift
open Go.RowKit
variable [Known] [Syms]

/-! ### Frames, slot by slot -/
def PutRel (l : Fr) (dst : Option Tmp) (v : Value) (l' : Fr) : Prop := l'.n = l.n ∧ ∀ t, l'.get t = if dst = some t ∧ t < l.n then v else l.get t

omit [Known] [Syms] in
theorem fPut_get {l : Fr} (hs : l.n ≤ 1000000) (dst : Option Tmp) (v : Value) : ∃ l', (∀ {β : Type} (k : Fr → β), fPut l dst v k = k l') ∧ PutRel l dst v l' := by
  cases dst with
  | none => exact ⟨l, fun k => rfl, rfl, fun t => by simp⟩
  | some d =>
    by_cases hd : d < l.n
    · obtain ⟨t', ht, hg⟩ := Tr.fPut_spec l.t d (Nat.lt_of_lt_of_le hd hs) v
      refine ⟨⟨l.n, t'⟩, fun k => ?_, rfl, fun t => ?_⟩
      · simp only [fPut, fVal_eq, Fr.fPut]
        rw [show Nat.ble (Nat.succ d) l.n = true from Nat.ble_eq_true_of_le hd]
        exact ht _
      · show t'.get t = _
        rw [hg]
        by_cases e : t = d
        · subst e; simp [hd]
        · rw [if_neg e, if_neg (fun h => e (by simpa using h.1.symm))]; rfl
    · refine ⟨l, fun k => ?_, rfl, fun t => ?_⟩
      · simp only [fPut, fVal_eq, Fr.fPut]
        have : Nat.ble (Nat.succ d) l.n = false := by
          cases hb : Nat.ble (Nat.succ d) l.n with
          | false => rfl
          | true => exact absurd (Nat.lt_of_succ_le (Nat.le_of_ble_eq_true hb)) hd
        rw [this]; rfl
      · rw [if_neg]
        rintro ⟨h1, h2⟩
        simp only [Option.some.injEq] at h1
        exact hd (h1 ▸ h2)

/-! ### The walk in the text's order -/
inductive Pass (stp : Oper → Fr → Hp → Option (Value × Hp)) (eff : Oper → Bool) : List Oper → Fr → Hp → List Hp → List Rc → Fr → Hp → Prop
  | nil (l : Fr) (H : Hp) : Pass stp eff [] l H [H] [] l H
  | effect {o : Oper} {r : List Oper} {l l1 l2 : Fr} {H H1 H2 : Hp} {v : Value} {hs : List Hp} {rs : List Rc} (he : eff o = true) (hv : stp o l H = some (v, H1)) (hp : PutRel l o.dst v l1)
      (hr : Pass stp eff r l1 H1 hs rs l2 H2) : Pass stp eff (o :: r) l H (H :: hs) (⟨o, l, v⟩ :: rs) l2 H2
  | plain {o : Oper} {r : List Oper} {l l1 l2 : Fr} {H H2 : Hp} {v : Value} {hs : List Hp} {rs : List Rc} (he : eff o = false) (hv : stp o l H = some (v, H)) (hp : PutRel l o.dst v l1)
      (hr : Pass stp eff r l1 H hs rs l2 H2) : Pass stp eff (o :: r) l H hs (⟨o, l, v⟩ :: rs) l2 H2

omit [Known] [Syms] in
theorem aWf_heap {H H' : Hp} {u v : Value} (h : aWf H u = some (v, H')) : H' = H := by
  unfold aWf at h
  split at h
  · simp only [Option.some.injEq, Prod.mk.injEq] at h; exact h.2.symm
  · cases h

theorem stepW_non {P : Program} {F : Fns} {m : Mach} {ops : Array Oper} {o : Oper} {l : Fr} {H H' : Hp} {v : Value} (he : isEff o = false) (h : stepW P F m ops o l H = some (v, H')) : H' = H := by
  rw [stepW_eq] at h
  cases hw : Region.wanted o (yieldedL ops l) with
  | false => rw [hw] at h; simp only [cond_false, Option.some.injEq, Prod.mk.injEq] at h; exact h.2.symm
  | true =>
    rw [hw] at h
    simp only [cond_true] at h
    have pure : oPure P l H o = some (v, H') → H' = H := by
      intro h
      unfold oPure at h
      split at h
      · exact aWf_heap h
      · split at h
        · split at h
          · exact aWf_heap h
          · cases h
        · cases h
    have plain : aOp P l H o = some (v, H') → H' = H := by
      intro h
      unfold aOp at h
      cases h1 : kData o with
      | true =>
        rw [h1] at h
        simp only [cond_true] at h
        unfold oData at h
        split at h
        · exact aWf_heap h
        · exact pure h
      | false =>
        rw [h1] at h
        simp only [cond_false] at h
        cases h2 : kRead o with
        | true =>
          rw [h2] at h
          simp only [cond_true] at h
          unfold oRead at h
          split at h
          · exact aWf_heap h
          · cases h
        | false =>
          rw [h2] at h
          simp only [cond_false] at h
          cases h3 : kMem o with
          | false => rw [h3] at h; exact pure h
          | true =>
            rw [h3] at h
            simp only [cond_true] at h
            unfold oMem at h
            split at h
            · rename_i r hr
              unfold aMem at hr
              unfold isEff at he
              split at hr <;> rename_i ho <;> simp only [ho] at he <;> first | (cases he; done) | skip
              · unfold aBuild at hr
                split at hr
                · rename_i t parts _ ps hps
                  cases hb : builtL P t ps with
                  | none => rw [hb] at hr; cases hr
                  | some cs =>
                    rw [hb] at hr
                    simp only [Option.map_some, Option.some.injEq] at hr
                    subst hr
                    unfold aWf' at h
                    split at h
                    · simp only [Option.some.injEq, Prod.mk.injEq] at h; exact h.2.symm
                    · cases h
                · cases hr
              · cases hr
            · cases h
    unfold stepS at h
    rw [aOpQ_eq] at h
    cases hk : kCall o with
    | true =>
      unfold kCall at hk
      split at hk
      · rename_i ho
        unfold isEff at he
        simp only [ho] at he
        cases he
      · cases hk
    | false => rw [hk] at h; exact plain h

omit [Known] [Syms] in
theorem passS_spec {stp : Oper → Fr → Hp → Option (Value × Hp)} {eff : Oper → Bool} (hnon : ∀ {o l H v H'}, eff o = false → stp o l H = some (v, H') → H' = H) {β : Type} (todo : List Oper) : ∀ (l : Fr) (H : Hp) (pre : List Hp) (rs0 : List Rc) (k : Fr → Hp → List Hp → List Rc → Option β) (r : β),
    l.n ≤ 1000000 → passS stp eff todo l H (pre ++ [H]) rs0 k = some r →
    ∃ hs rs l2 H2, Pass stp eff todo l H hs rs l2 H2 ∧ k l2 H2 (pre ++ hs) (rs0 ++ rs) = some r := by
  induction todo with
  | nil =>
    intro l H pre rs0 k r _ h
    replace h : k l H (pre ++ [H]) rs0 = some r := h
    exact ⟨[H], [], l, H, .nil l H, by simpa using h⟩
  | cons o todo ih =>
    intro l H pre rs0 k r hn h
    replace h : (match stp o l H with
      | some (v, H') => fVal v fun v => fPut l o.dst v fun l' => passS stp eff todo l' H' (bif eff o then (pre ++ [H]) ++ [H'] else pre ++ [H]) (rs0 ++ [⟨o, l, v⟩]) k
      | none => none) = some r := h
    split at h
    · rename_i v H1 hv
      rw [fVal_eq] at h
      obtain ⟨l1, hput, hrel⟩ := fPut_get hn o.dst v
      rw [hput] at h
      have hn1 : l1.n ≤ 1000000 := by rw [hrel.1]; exact hn
      cases he : eff o with
      | true =>
        simp only [he, cond_true] at h
        obtain ⟨hs, rs, l2, H2, hp, hk⟩ := ih l1 H1 _ _ k r hn1 h
        exact ⟨H :: hs, _, l2, H2, .effect he hv hrel hp, by simpa using hk⟩
      | false =>
        simp only [he, cond_false] at h
        have := hnon he hv
        subst this
        obtain ⟨hs, rs, l2, H2, hp, hk⟩ := ih l1 H1 _ _ k r hn1 h
        exact ⟨hs, _, l2, H2, .plain he hv hrel hp, by simpa using hk⟩
    · cases h

/-- How many of the first i operations are effects. -/
noncomputable def ownAt (eff : Oper → Bool) (todo : List Oper) (i : Nat) : Nat := (todo.take i).countP eff
def frAt (rs : List Rc) (l2 : Fr) (i : Nat) : Fr := ((rs[i]?).map (·.l)).getD l2

omit [Known] [Syms] in
theorem frAt_zero {stp : Oper → Fr → Hp → Option (Value × Hp)} {eff : Oper → Bool} {todo : List Oper} {l l2 : Fr} {H H2 : Hp} {hs : List Hp} {rs : List Rc} (h : Pass stp eff todo l H hs rs l2 H2) : frAt rs l2 0 = l := by
  cases h <;> rfl
omit [Known] [Syms] in
theorem hs_zero {stp : Oper → Fr → Hp → Option (Value × Hp)} {eff : Oper → Bool} {todo : List Oper} {l l2 : Fr} {H H2 : Hp} {hs : List Hp} {rs : List Rc} (h : Pass stp eff todo l H hs rs l2 H2) : hs[0]? = some H := by
  induction h with
  | nil => rfl
  | effect => rfl
  | plain _ _ _ _ ih => exact ih

omit [Known] [Syms] in
theorem Pass.fact {stp : Oper → Fr → Hp → Option (Value × Hp)} {eff : Oper → Bool} {todo : List Oper} {l l2 : Fr} {H H2 : Hp} {hs : List Hp} {rs : List Rc} (h : Pass stp eff todo l H hs rs l2 H2) :
    ∀ (i : Nat) (o : Oper), todo[i]? = some o → ∃ r Hi Hi', rs[i]? = some r ∧ r.o = o ∧ hs[ownAt eff todo i]? = some Hi ∧ hs[ownAt eff todo (i + 1)]? = some Hi' ∧ stp o r.l Hi = some (r.v, Hi') ∧ PutRel r.l o.dst r.v (frAt rs l2 (i + 1)) := by
  induction h with
  | nil => intro i o ho; simp at ho
  | @effect o r l l1 l2 H H1 H2 v hs rs he hv hp hr ih =>
    intro i x hx
    cases i with
    | zero =>
      simp only [List.getElem?_cons_zero, Option.some.injEq] at hx
      subst hx
      refine ⟨⟨o, l, v⟩, H, H1, rfl, rfl, rfl, ?_, hv, ?_⟩
      · simp only [ownAt, List.take_succ_cons, List.take_zero, List.countP_cons, List.countP_nil, he, if_true]
        exact hs_zero hr
      · have := frAt_zero hr
        simp only [frAt, List.getElem?_cons_succ] at this ⊢
        rw [this]; exact hp
    | succ i =>
      obtain ⟨rc, Hi, Hi', h1, h2, h3, h4, h5, h6⟩ := ih i x (by simpa using hx)
      refine ⟨rc, Hi, Hi', by simpa using h1, h2, ?_, ?_, h5, ?_⟩
      · simp only [ownAt, List.take_succ_cons, List.countP_cons, he, if_true] at h3 ⊢; simpa using h3
      · simp only [ownAt, List.take_succ_cons, List.countP_cons, he, if_true] at h4 ⊢; simpa using h4
      · simpa [frAt] using h6
  | @plain o r l l1 l2 H H2 v hs rs he hv hp hr ih =>
    intro i x hx
    cases i with
    | zero =>
      simp only [List.getElem?_cons_zero, Option.some.injEq] at hx
      subst hx
      refine ⟨⟨o, l, v⟩, H, H, rfl, rfl, hs_zero hr, ?_, hv, ?_⟩
      · simp only [ownAt, List.take_succ_cons, List.take_zero, List.countP_cons, List.countP_nil, he]
        exact hs_zero hr
      · have := frAt_zero hr
        simp only [frAt, List.getElem?_cons_succ] at this ⊢
        rw [this]; exact hp
    | succ i =>
      obtain ⟨rc, Hi, Hi', h1, h2, h3, h4, h5, h6⟩ := ih i x (by simpa using hx)
      refine ⟨rc, Hi, Hi', by simpa using h1, h2, ?_, ?_, h5, ?_⟩
      · simp only [ownAt, List.take_succ_cons, List.countP_cons, he] at h3 ⊢; simpa using h3
      · simp only [ownAt, List.take_succ_cons, List.countP_cons, he] at h4 ⊢; simpa using h4
      · simpa [frAt] using h6

omit [Known] [Syms] in
theorem Pass.last {stp : Oper → Fr → Hp → Option (Value × Hp)} {eff : Oper → Bool} {todo : List Oper} {l l2 : Fr} {H H2 : Hp} {hs : List Hp} {rs : List Rc} (h : Pass stp eff todo l H hs rs l2 H2) :
    hs[ownAt eff todo todo.length]? = some H2 ∧ rs.length = todo.length := by
  induction h with
  | nil => exact ⟨rfl, rfl⟩
  | @effect o r l l1 l2 H H1 H2 v hs rs he hv hp hr ih =>
    refine ⟨?_, by simp [ih.2]⟩
    have := ih.1
    simp only [ownAt, List.length_cons, List.take_succ_cons, List.countP_cons, he, if_true] at this ⊢
    simpa using this
  | @plain o r l l1 l2 H H2 v hs rs he hv hp hr ih =>
    refine ⟨?_, by simp [ih.2]⟩
    have := ih.1
    simp only [ownAt, List.length_cons, List.take_succ_cons, List.countP_cons, he] at this ⊢
    simpa using this

/-! ### What was looked at beforehand -/
omit [Known] [Syms] in
theorem eqA_spec {a b : Option Addr} (h : eqA a b = true) : a = b := by
  unfold eqA at h
  split at h
  · rfl
  · simp only [Bool.and_eq_true, Nat.beq_eq] at h
    obtain ⟨rfl, rfl⟩ := h
    rfl
  · cases h
omit [Known] [Syms] in
theorem eqI_spec {a b : Int} (h : eqI a b = true) : a = b := by
  unfold eqI at h
  split at h
  · rw [Nat.beq_eq] at h; subst h; rfl
  · rw [Nat.beq_eq] at h; subst h; rfl
  · cases h
omit [Known] [Syms] in
theorem eq1_spec {u v : Value} (h : eq1 u v = true) : u = v := by
  unfold eq1 at h
  split at h
  · simp only [Bool.and_eq_true, decide_eq_true_eq] at h; obtain ⟨rfl, h⟩ := h; rw [eqI_spec h]
  · rw [eq_of_beq h]
  · simp only [Bool.and_eq_true, decide_eq_true_eq, Nat.beq_eq] at h; obtain ⟨rfl, rfl⟩ := h; rfl
  · simp only [Bool.and_eq_true, decide_eq_true_eq, Nat.beq_eq] at h; obtain ⟨⟨rfl, rfl⟩, rfl⟩ := h; rfl
  · rw [eqA_spec h]
  · simp only [Bool.and_eq_true, Nat.beq_eq] at h; obtain ⟨⟨h, rfl⟩, rfl⟩ := h; rw [eqA_spec h]
  · rw [Nat.beq_eq] at h; subst h; rfl
  · cases h
omit [Known] [Syms] in
theorem eqL_spec : ∀ {us vs : List Value}, eqL us vs = true → us = vs
  | [], [], _ => rfl
  | [], _ :: _, h => by cases h
  | _ :: _, [], h => by cases h
  | u :: us, v :: vs, h => by
    simp only [eqL, Bool.and_eq_true] at h
    rw [eq1_spec h.1, eqL_spec h.2]
omit [Known] [Syms] in
theorem eqV_spec {u v : Value} (h : eqV u v = true) : u = v := by
  unfold eqV at h
  split at h
  · exact congrArg _ (Array.ext' (eqL_spec h))
  · exact congrArg _ (Array.ext' (eqL_spec h))
  · exact eq1_spec h

omit [Known] [Syms] in
theorem sameOn_spec {stp : Oper → Fr → Hp → Option (Value × Hp)} {r : Rc} {own : Nat} : ∀ {ps : List Bool} {hs : List Hp} {c0 : Nat}, sameOn stp r own ps hs c0 = true →
    ∀ (c : Nat) (H : Hp), hs[c]? = some H → ps[c]? = some true → c0 + c ≠ own → ∃ H', stp r.o r.l H = some (r.v, H')
  | [], [], _, _, c, H, hc, _, _ => by simp at hc
  | [], _ :: _, _, h, _, _, _, _, _ => by simp [sameOn] at h
  | _ :: _, [], _, h, _, _, _, _, _ => by simp [sameOn] at h
  | p :: ps, H0 :: hs, c0, h, c, H, hc, hp, hne => by
    simp only [sameOn, Bool.and_eq_true, Bool.or_eq_true, Bool.not_eq_true', Nat.beq_eq] at h
    cases c with
    | zero =>
      simp only [List.getElem?_cons_zero, Option.some.injEq] at hc hp
      subst hc hp
      rcases h.1 with (h1 | h1) | h1
      · cases h1
      · exact absurd (by simpa using h1) hne
      · split at h1
        · rename_i v H' hv
          rw [eqV_spec h1] at hv
          exact ⟨H', hv⟩
        · cases h1
    | succ c => exact sameOn_spec h.2 c H (by simpa using hc) (by simpa using hp) (by omega)

omit [Known] [Syms] in
theorem allSame_spec {stp : Oper → Fr → Hp → Option (Value × Hp)} {eff : Oper → Bool} {hs : List Hp} : ∀ {rs : List Rc} {ps : List (List Bool)} {own : Nat}, allSame stp eff hs rs ps own = true →
    ∀ (i : Nat) (r : Rc), rs[i]? = some r → eff r.o = false → ∃ p, ps[i]? = some p ∧ (kSkip r = true ∨ sameOn stp r (own + ((rs.take i).countP fun r => eff r.o)) p hs 0 = true)
  | [], [], _, _, i, r, hr, _ => by simp at hr
  | [], _ :: _, _, h, _, _, _, _ => by simp [allSame] at h
  | _ :: _, [], _, h, _, _, _, _ => by simp [allSame] at h
  | r0 :: rs, p :: ps, own, h, i, r, hr, he => by
    simp only [allSame] at h
    cases he0 : eff r0.o with
    | true =>
      simp only [he0, cond_true] at h
      cases i with
      | zero =>
        simp only [List.getElem?_cons_zero, Option.some.injEq] at hr
        subst hr
        rw [he] at he0; cases he0
      | succ i =>
        obtain ⟨q, h1, h2⟩ := allSame_spec h i r (by simpa using hr) he
        refine ⟨q, by simpa using h1, ?_⟩
        simp only [List.take_succ_cons, List.countP_cons, he0, if_true]
        rw [show own + (((rs.take i).countP fun r => eff r.o) + 1) = own + 1 + ((rs.take i).countP fun r => eff r.o) by omega]
        exact h2
    | false =>
      simp only [he0, cond_false, Bool.and_eq_true] at h
      cases i with
      | zero =>
        simp only [List.getElem?_cons_zero, Option.some.injEq] at hr
        subst hr
        refine ⟨p, rfl, ?_⟩
        cases hk : kSkip r0 with
        | true => exact .inl rfl
        | false =>
          have h1 := h.1
          rw [hk] at h1
          exact .inr (by simpa using h1)
      | succ i =>
        obtain ⟨q, h1, h2⟩ := allSame_spec h.2 i r (by simpa using hr) he
        refine ⟨q, by simpa using h1, ?_⟩
        simp only [List.take_succ_cons, List.countP_cons, he0]
        simpa using h2

/-- What memory has no part in comes to the same on every heap. -/
theorem aOp_skip {P : Program} {l : Fr} {H H' : Hp} {o : Oper} {v : Value} (hd : kData o = true) (hn : no3 v = true) (h : aOp P l H o = some (v, H')) (H1 : Hp) : aOp P l H1 o = some (v, H1) := by
  have wf : ∀ {u : Value}, aWf H u = some (v, H') → aWf H1 u = some (v, H1) := by
    intro u hu
    unfold aWf at hu ⊢
    split at hu
    · simp only [Option.some.injEq, Prod.mk.injEq] at hu
      obtain ⟨rfl, _⟩ := hu
      rw [if_pos (wf3_no hn)]
    · cases hu
  unfold aOp at h ⊢
  rw [hd] at h ⊢
  simp only [cond_true] at h ⊢
  unfold oData at h ⊢
  cases h1 : aData P l o.op with
  | some u => rw [h1] at h; exact wf h
  | none =>
    rw [h1] at h
    simp only at h ⊢
    unfold oPure at h ⊢
    cases h2 : aPure P l o with
    | some u => rw [h2] at h; exact wf h
    | none =>
      rw [h2] at h
      simp only at h ⊢
      cases h3 : aKnown l o.op with
      | none => rw [h3] at h; cases h
      | some u =>
        rw [h3] at h
        simp only at h ⊢
        split at h
        · rename_i hc; rw [if_pos hc]; exact wf h
        · cases h
omit [Known] [Syms] in
theorem data_call {o : Oper} (hd : kData o = true) : kCall o = false := by
  unfold kData at hd
  unfold kCall
  split at hd <;> (try cases hd) <;> rename_i ho <;> (split; (rename_i h2; rw [ho] at h2; cases h2); rfl)
theorem stepW_skip {P : Program} {F : Fns} {m : Mach} {ops : Array Oper} {o : Oper} {l : Fr} {H H' : Hp} {v : Value} (hd : kData o = true) (hn : no3 v = true) (h : stepW P F m ops o l H = some (v, H')) (H1 : Hp) : ∃ H1', stepW P F m ops o l H1 = some (v, H1') := by
  rw [stepW_eq] at h ⊢
  cases hw : Region.wanted o (yieldedL ops l) with
  | false =>
    rw [hw] at h
    simp only [cond_false, Option.some.injEq, Prod.mk.injEq] at h ⊢
    exact ⟨H1, h.1, rfl⟩
  | true =>
    rw [hw] at h
    simp only [cond_true] at h ⊢
    unfold stepS at h ⊢
    rw [aOpQ_eq] at h ⊢
    rw [data_call hd] at h ⊢
    simp only [cond_false] at h ⊢
    exact ⟨H1, aOp_skip hd hn h H1⟩

/-! ### What must come before what -/
def Closed (ops : Array Oper) (listed : Array Bool) : Prop :=
  ∀ (k : Nat) (o : Oper), ops[k]? = some o → listed.getD k false = true → ∀ e ∈ o.after, Region.binds .any e = true → listed.getD e.on false = true

def MaskOk (ops : Array Oper) (acc : List Nat) : Prop :=
  ∀ (k i : Nat), k < acc.length → Nat.testBit (acc.getD k 0) i = true → ∀ listed, Closed ops listed → listed.getD k false = true → listed.getD i false = true

omit [Known] [Syms] in
theorem fold_bits (acc : List Nat) : ∀ (es : List Edge) (s i : Nat), Nat.testBit (es.foldl (fun s e => if Region.binds .any e then Nat.lor (Nat.lor s (2 ^ e.on)) (acc.getD e.on 0) else s) s) i = true →
    Nat.testBit s i = true ∨ ∃ e ∈ es, Region.binds .any e = true ∧ (i = e.on ∨ Nat.testBit (acc.getD e.on 0) i = true)
  | [], s, i, h => .inl h
  | e :: es, s, i, h => by
    simp only [List.foldl_cons] at h
    rcases fold_bits acc es _ i h with h | ⟨e', he', hb, hor⟩
    · split at h
      · rename_i hb
        have h' : Nat.testBit ((s ||| 2 ^ e.on) ||| acc.getD e.on 0) i = true := h
        rw [Nat.testBit_or, Nat.testBit_or, Nat.testBit_two_pow] at h'
        simp only [Bool.or_eq_true, decide_eq_true_eq] at h'
        rcases h' with (h' | h') | h'
        · exact .inl h'
        · exact .inr ⟨e, by simp, hb, .inl h'.symm⟩
        · exact .inr ⟨e, by simp, hb, .inr h'⟩
      · exact .inl h
    · exact .inr ⟨e', by simp [he'], hb, hor⟩

omit [Known] [Syms] in
theorem masks_ok {ops : Array Oper} : ∀ (todo : List Oper) (acc : List Nat), (∀ j, todo[j]? = ops[acc.length + j]?) → MaskOk ops acc → MaskOk ops (masksOf todo acc)
  | [], acc, _, h => h
  | o :: todo, acc, ht, h => by
    simp only [masksOf]
    refine masks_ok todo _ (fun j => ?_) ?_
    · have := ht (j + 1)
      simp only [List.getElem?_cons_succ] at this
      rw [this, List.length_append]
      congr 1
      simp; omega
    · intro k i hk hb listed hcl hl
      rw [List.length_append] at hk
      by_cases hlt : k < acc.length
      · rw [List.getD_eq_getElem?_getD, List.getElem?_append_left hlt, ← List.getD_eq_getElem?_getD] at hb
        exact h k i hlt hb listed hcl hl
      · have hke : k = acc.length := by simp at hk; omega
        subst hke
        rw [List.getD_eq_getElem?_getD, List.getElem?_append_right (Nat.le_refl _)] at hb
        simp only [Nat.sub_self, List.getElem?_cons_zero, Option.getD_some] at hb
        have h0 : ops[acc.length]? = some o := by have := ht 0; simpa using this.symm
        rcases fold_bits acc _ _ _ hb with h1 | ⟨e, he, hbd, hor⟩
        · simp at h1
        · have hon := hcl _ o h0 hl e (by simpa using he) hbd
          rcases hor with rfl | h2
          · exact hon
          · by_cases hlt2 : e.on < acc.length
            · exact h _ i hlt2 h2 listed hcl hon
            · rw [List.getD_eq_getElem?_getD, List.getElem?_eq_none (by omega)] at h2
              simp at h2

omit [Known] [Syms] in
theorem masksOf_len : ∀ (todo : List Oper) (acc : List Nat), (masksOf todo acc).length = acc.length + todo.length
  | [], acc => by simp [masksOf]
  | o :: todo, acc => by simp [masksOf, masksOf_len todo]; omega

omit [Known] [Syms] in
theorem comes_before {ops : Array Oper} {i k : Nat} (h : comesBefore (masksOf ops.toList []) i k = true) {listed : Array Bool} (hcl : Closed ops listed) (hl : listed.getD k false = true) : listed.getD i false = true := by
  unfold comesBefore at h
  by_cases hk : k < (masksOf ops.toList []).length
  · exact masks_ok ops.toList [] (by simp) (fun k i hk => by simp at hk) k i hk h listed hcl hl
  · rw [List.getD_eq_getElem?_getD, List.getElem?_eq_none (by omega)] at h
    simp at h

/-! ### The effects -/
omit [Known] [Syms] in
theorem effs_get {eff : Oper → Bool} : ∀ (todo : List Oper) (b j e : Nat), (effsOf eff todo b)[j]? = some e → ∃ i o, e = b + i ∧ todo[i]? = some o ∧ eff o = true ∧ ownAt eff todo i = j
  | [], b, j, e, h => by simp [effsOf] at h
  | o :: todo, b, j, e, h => by
    simp only [effsOf] at h
    cases he : eff o with
    | true =>
      simp only [he, cond_true] at h
      cases j with
      | zero =>
        simp only [List.getElem?_cons_zero, Option.some.injEq] at h
        exact ⟨0, o, by omega, rfl, he, rfl⟩
      | succ j =>
        obtain ⟨i, x, h1, h2, h3, h4⟩ := effs_get todo (b + 1) j e (by simpa using h)
        refine ⟨i + 1, x, by omega, by simpa using h2, h3, ?_⟩
        simp only [ownAt, List.take_succ_cons, List.countP_cons, he, if_true] at h4 ⊢
        omega
    | false =>
      simp only [he, cond_false] at h
      obtain ⟨i, x, h1, h2, h3, h4⟩ := effs_get todo (b + 1) j e h
      refine ⟨i + 1, x, by omega, by simpa using h2, h3, ?_⟩
      simp only [ownAt, List.take_succ_cons, List.countP_cons, he] at h4 ⊢
      simpa using h4

omit [Known] [Syms] in
theorem effs_has {eff : Oper → Bool} : ∀ (todo : List Oper) (b i : Nat) (o : Oper), todo[i]? = some o → eff o = true → (effsOf eff todo b)[ownAt eff todo i]? = some (b + i)
  | [], b, i, o, h, _ => by simp at h
  | x :: todo, b, i, o, h, he => by
    cases i with
    | zero =>
      simp only [List.getElem?_cons_zero, Option.some.injEq] at h
      subst h
      simp [effsOf, he, ownAt]
    | succ i =>
      have ih := effs_has todo (b + 1) i o (by simpa using h) he
      cases hx : eff x with
      | true =>
        simp only [effsOf, hx, cond_true, ownAt, List.take_succ_cons, List.countP_cons, if_true] at ih ⊢
        rw [List.getElem?_cons_succ, ih]
        congr 1; omega
      | false =>
        simp only [effsOf, hx, cond_false, ownAt, List.take_succ_cons, List.countP_cons] at ih ⊢
        have e : b + (i + 1) = b + 1 + i := by omega
        rw [e]
        simpa using ih

omit [Known] [Syms] in
theorem effs_len {eff : Oper → Bool} : ∀ (todo : List Oper) (b : Nat), (effsOf eff todo b).length = ownAt eff todo todo.length
  | [], b => rfl
  | o :: todo, b => by
    have ih := effs_len (eff := eff) todo (b + 1)
    cases he : eff o with
    | true => simp only [effsOf, he, cond_true, List.length_cons, ownAt, List.take_succ_cons, List.countP_cons, if_true, ih]
    | false => simp only [effsOf, he, cond_false, List.length_cons, ownAt, List.take_succ_cons, List.countP_cons, ih]; simp

omit [Known] [Syms] in
theorem chained_spec {masks : List Nat} : ∀ {es : List Nat}, chained masks es = true → ∀ (j a b : Nat), es[j]? = some a → es[j + 1]? = some b → comesBefore masks a b = true
  | [], _, j, a, b, h, _ => by simp at h
  | [_], _, j, a, b, _, h => by simp at h
  | x :: y :: es, hc, j, a, b, ha, hb => by
    simp only [chained, Bool.and_eq_true] at hc
    cases j with
    | zero =>
      simp only [List.getElem?_cons_zero, List.getElem?_cons_succ, Option.some.injEq, Nat.zero_add] at ha hb
      subst ha hb
      exact hc.1
    | succ j => exact chained_spec hc.2 j a b (by simpa using ha) (by simpa using hb)

/-! ### What may come in either order -/
omit [Known] [Syms] in
theorem freeOf_spec {ops : Array Oper} {o : Oper} {i : Nat} : ∀ {r : List Oper}, freeOf ops o i r = true → ∀ x ∈ r, directly x i = true ∨ Oper.apart ops o x = true
  | [], _, x, hx => by cases hx
  | y :: r, h, x, hx => by
    simp only [freeOf, Bool.and_eq_true, Bool.or_eq_true] at h
    rcases List.mem_cons.1 hx with rfl | hx
    · exact h.1
    · exact freeOf_spec h.2 x hx

omit [Known] [Syms] in
theorem allFree_spec {ops : Array Oper} : ∀ {todo : List Oper} {b : Nat}, allFree ops todo b = true →
    (∀ (i k : Nat) (oi ok : Oper), i < k → todo[i]? = some oi → todo[k]? = some ok → directly ok (b + i) = true ∨ Oper.apart ops oi ok = true) ∧
    ∀ (i : Nat) (o : Oper), todo[i]? = some o → ∀ e ∈ o.after, Region.binds .any e = true → e.on < b + i
  | [], b, _ => ⟨fun i k oi ok _ h => by simp at h, fun i o h => by simp at h⟩
  | x :: todo, b, h => by
    simp only [allFree, Bool.and_eq_true] at h
    obtain ⟨⟨h1, h2⟩, h3⟩ := h
    obtain ⟨g1, g2⟩ := allFree_spec h3
    refine ⟨fun i k oi ok hik hi hk => ?_, fun i o hi e he hb => ?_⟩
    · cases i with
      | zero =>
        simp only [List.getElem?_cons_zero, Option.some.injEq] at hi
        subst hi
        cases k with
        | zero => omega
        | succ k => exact freeOf_spec h2 ok (List.mem_of_getElem? (by simpa using hk))
      | succ i =>
        cases k with
        | zero => omega
        | succ k =>
          have := g1 i k oi ok (by omega) (by simpa using hi) (by simpa using hk)
          rw [show b + (i + 1) = b + 1 + i by omega]
          exact this
    · cases i with
      | zero =>
        simp only [List.getElem?_cons_zero, Option.some.injEq] at hi
        subst hi
        have := List.all_eq_true.1 h1 e (by simpa using he)
        simp only [hb, Bool.not_true, Bool.false_or] at this
        simp [Nat.blt] at this
        omega
      | succ i =>
        have := g2 i o (by simpa using hi) e he hb
        omega

omit [Known] [Syms] in
theorem directly_spec {o : Oper} {i : Nat} (h : directly o i = true) : ∃ e ∈ o.after, Region.binds .any e = true ∧ e.on = i := by
  unfold directly at h
  rw [List.any_eq_true] at h
  obtain ⟨e, he, h⟩ := h
  simp only [Bool.and_eq_true, Nat.beq_eq] at h
  exact ⟨e, by simpa using he, h.1, h.2⟩

end Go.Proofs.Ytmckaoeofikdaaa.Lift
