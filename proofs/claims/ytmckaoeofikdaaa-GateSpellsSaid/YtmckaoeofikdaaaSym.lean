/- Signs for whole numbers known by bounds, for strings known to differ from some, for slices known by their lengths. -/
import Derived.Test.YtmckaoeofikdaaaTab
namespace Go.Proofs.Ytmckaoeofikdaaa.Lift
open Go.RowKit

structure Facts where
  isI : Nat → Bool
  lo : Nat → Option Int
  hi : Nat → Option Int
  ne : List (Nat × Nat)
  str : Nat → List (List Nat)
  lens : List (Nat × Nat)
  fl : List (BinOp × Nat × Nat × Nat) := []

noncomputable def geK (lo : Option Int) (c : Int) : Bool :=
  match lo with
  | some l => decide (c ≤ l)
  | none => false
noncomputable def gtK (lo : Option Int) (c : Int) : Bool :=
  match lo with
  | some l => decide (c < l)
  | none => false
noncomputable def leK (hi : Option Int) (c : Int) : Bool :=
  match hi with
  | some h => decide (h ≤ c)
  | none => false
noncomputable def ltK (hi : Option Int) (c : Int) : Bool :=
  match hi with
  | some h => decide (h < c)
  | none => false
noncomputable def two (a b : Bool) : Option Bool := bif a then some true else bif b then some false else none
noncomputable def cmpC (op : BinOp) (lo hi : Option Int) (c : Int) : Option Bool :=
  match op with
  | .lss => two (ltK hi c) (geK lo c)
  | .leq => two (leK hi c) (gtK lo c)
  | .gtr => two (gtK lo c) (leK hi c)
  | .geq => two (geK lo c) (ltK hi c)
  | .eql => two false (ltK hi c || gtK lo c)
  | .neq => two (ltK hi c || gtK lo c) false
  | _ => none
noncomputable def flipO : BinOp → BinOp
  | .lss => .gtr
  | .leq => .geq
  | .gtr => .lss
  | .geq => .leq
  | op => op
noncomputable def sameO (op : BinOp) : Option Bool :=
  match op with
  | .eql => some true
  | .leq => some true
  | .geq => some true
  | .neq => some false
  | .lss => some false
  | .gtr => some false
  | _ => none
noncomputable def unlikeO (op : BinOp) : Option Bool :=
  match op with
  | .eql => some false
  | .neq => some true
  | _ => none
noncomputable def hasP (i j : Nat) (l : List (Nat × Nat)) : Bool := l.any fun p => Nat.beq p.1 i && Nat.beq p.2 j
noncomputable def eqN : List Nat → List Nat → Bool
  | [], [] => true
  | a :: r, b :: s => Nat.beq a b && eqN r s
  | _, _ => false
noncomputable def strL (s : ByteArray) : List Nat := s.data.toList.map UInt8.toNat
noncomputable def findP (i : Nat) : List (Nat × Nat) → Option Nat
  | [] => none
  | p :: r => bif Nat.beq p.1 i then some p.2 else findP i r

noncomputable def sameOp (a b : BinOp) : Bool :=
  match a, b with
  | .add, .add => true
  | .sub, .sub => true
  | .mul, .mul => true
  | _, _ => false
noncomputable def findFl (op : BinOp) (i j : Nat) : List (BinOp × Nat × Nat × Nat) → Option Nat
  | [] => none
  | (o, a, b, c) :: r => bif sameOp o op && (Nat.beq a i && Nat.beq b j) then some c else findFl op i j r

@[reducible] noncomputable def Facts.known (F : Facts) (ts : List TypeId) : Known where
  bin op u v :=
    match u, v with
    | .chan (some i), .int .i64 c => bif F.isI i then (cmpC op (F.lo i) (F.hi i) c).map .bool else none
    | .int .i64 c, .chan (some i) => bif F.isI i then (cmpC (flipO op) (F.lo i) (F.hi i) c).map .bool else none
    | .chan (some i), .chan (some j) =>
      bif F.isI i && F.isI j then
        bif Nat.beq i j then (sameO op).map .bool else bif hasP i j F.ne || hasP j i F.ne then (unlikeO op).map .bool else none
      else (findFl op i j F.fl).map fun k => .chan (some k)
    | .string s, .chan (some i) => bif (F.str i).any (eqN (strL s)) then (unlikeO op).map .bool else none
    | .chan (some i), .string s => bif (F.str i).any (eqN (strL s)) then (unlikeO op).map .bool else none
    | _, _ => none
  un _ _ := none
  conv s d u :=
    match u with
    | .chan (some i) => bif F.isI i && (ts.any (Nat.beq s) && ts.any (Nat.beq d)) then some u else none
    | _ => none
  len t u :=
    match u with
    | .chan (some i) =>
      match Try.prog.underlying t with
      | some (.slice _) => (findP i F.lens).map fun j => .chan (some j)
      | _ => none
    | _ => none

structure FactsOk (F : Facts) [Syms] : Prop where
  int : ∀ i, F.isI i = true → ∃ x : Int, Syms.sym i = .int .i64 x ∧ -9223372036854775808 ≤ x ∧ x ≤ 9223372036854775807 ∧ (∀ l, F.lo i = some l → l ≤ x) ∧ (∀ h, F.hi i = some h → x ≤ h)
  ne : ∀ i j, (i, j) ∈ F.ne → Syms.sym i ≠ Syms.sym j
  str : ∀ i s, s ∈ F.str i → ∃ b, Syms.sym i = .string b ∧ strL b ≠ s
  lens : ∀ i j, (i, j) ∈ F.lens → ∃ a n c, Syms.sym i = .slice a n c ∧ Syms.sym j = .int .i64 (n : Nat)
  fl : ∀ op i j k, (op, i, j, k) ∈ F.fl → ∃ x y r, Syms.sym i = .float .f64 x ∧ Syms.sym j = .float .f64 y ∧ floatBits op .f64 x y = some r ∧ Syms.sym k = .float .f64 r

noncomputable def TypesOk (ts : List TypeId) : Bool := ts.all fun t => match Try.prog.underlying t with
  | some (.int .i64) => true
  | _ => false

theorem two_true {a b r : Bool} (h : two a b = some r) : (a = true ∧ r = true) ∨ (a = false ∧ b = true ∧ r = false) := by
  unfold two at h
  cases a
  · cases b
    · cases h
    · simp at h; exact .inr ⟨rfl, rfl, h⟩
  · simp at h; exact .inl ⟨rfl, h⟩

theorem geK_spec {lo : Option Int} {c x : Int} (hl : ∀ l, lo = some l → l ≤ x) (h : geK lo c = true) : c ≤ x := by
  unfold geK at h; split at h
  · rename_i l; have := hl l rfl; have := of_decide_eq_true h; omega
  · cases h
theorem gtK_spec {lo : Option Int} {c x : Int} (hl : ∀ l, lo = some l → l ≤ x) (h : gtK lo c = true) : c < x := by
  unfold gtK at h; split at h
  · rename_i l; have := hl l rfl; have := of_decide_eq_true h; omega
  · cases h
theorem leK_spec {hi : Option Int} {c x : Int} (hl : ∀ h, hi = some h → x ≤ h) (h : leK hi c = true) : x ≤ c := by
  unfold leK at h; split at h
  · rename_i l; have := hl l rfl; have := of_decide_eq_true h; omega
  · cases h
theorem ltK_spec {hi : Option Int} {c x : Int} (hl : ∀ h, hi = some h → x ≤ h) (h : ltK hi c = true) : x < c := by
  unfold ltK at h; split at h
  · rename_i l; have := hl l rfl; have := of_decide_eq_true h; omega
  · cases h

theorem run_cmp {P : Program} {op : BinOp} {x y : Int} {b : Bool} (h : (op = .lss ∧ b = decide (x < y)) ∨ (op = .leq ∧ b = decide (x ≤ y)) ∨ (op = .gtr ∧ b = decide (y < x)) ∨ (op = .geq ∧ b = decide (y ≤ x)) ∨ (op = .eql ∧ b = decide (x = y)) ∨ (op = .neq ∧ b = !decide (x = y)))
    (t : TypeId) (p q : Operand) (w : World) : (do eqGuard op t p q (.int .i64 x) (.int .i64 y); binOp op t (.int .i64 x) (.int .i64 y)).run P w = .ok (.bool b) w := by
  rw [Sem.run_bind, run_guard_int]
  rcases h with ⟨rfl, rfl⟩ | ⟨rfl, rfl⟩ | ⟨rfl, rfl⟩ | ⟨rfl, rfl⟩ | ⟨rfl, rfl⟩ | ⟨rfl, rfl⟩
  · simp [binOp, Op.intCmp, Result.andThen]
  · simp [binOp, Op.intCmp, Result.andThen]
  · simp [binOp, Op.intCmp, Result.andThen]
  · simp [binOp, Op.intCmp, Result.andThen]
  · by_cases e : x = y <;> simp [binOp, Op.intCmp, Result.andThen, e]
  · by_cases e : x = y <;> simp [binOp, Op.intCmp, Result.andThen, e]

theorem cmpC_spec {op : BinOp} {lo hi : Option Int} {c x : Int} {b : Bool} (hl : ∀ l, lo = some l → l ≤ x) (hh : ∀ h, hi = some h → x ≤ h) (h : cmpC op lo hi c = some b) :
    (op = .lss ∧ b = decide (x < c)) ∨ (op = .leq ∧ b = decide (x ≤ c)) ∨ (op = .gtr ∧ b = decide (c < x)) ∨ (op = .geq ∧ b = decide (c ≤ x)) ∨ (op = .eql ∧ b = decide (x = c)) ∨ (op = .neq ∧ b = !decide (x = c)) := by
  unfold cmpC at h
  split at h
  · refine .inl ⟨rfl, ?_⟩
    rcases two_true h with ⟨h1, rfl⟩ | ⟨_, h1, rfl⟩
    · have := ltK_spec hh h1; simp; omega
    · have := geK_spec hl h1; simp; omega
  · refine .inr (.inl ⟨rfl, ?_⟩)
    rcases two_true h with ⟨h1, rfl⟩ | ⟨_, h1, rfl⟩
    · have := leK_spec hh h1; simp; omega
    · have := gtK_spec hl h1; simp; omega
  · refine .inr (.inr (.inl ⟨rfl, ?_⟩))
    rcases two_true h with ⟨h1, rfl⟩ | ⟨_, h1, rfl⟩
    · have := gtK_spec hl h1; simp; omega
    · have := leK_spec hh h1; simp; omega
  · refine .inr (.inr (.inr (.inl ⟨rfl, ?_⟩)))
    rcases two_true h with ⟨h1, rfl⟩ | ⟨_, h1, rfl⟩
    · have := geK_spec hl h1; simp; omega
    · have := ltK_spec hh h1; simp; omega
  · refine .inr (.inr (.inr (.inr (.inl ⟨rfl, ?_⟩))))
    rcases two_true h with ⟨h1, rfl⟩ | ⟨_, h1, rfl⟩
    · cases h1
    · simp only [Bool.or_eq_true] at h1
      rcases h1 with h1 | h1
      · have := ltK_spec hh h1; simp; omega
      · have := gtK_spec hl h1; simp; omega
  · refine .inr (.inr (.inr (.inr (.inr ⟨rfl, ?_⟩))))
    rcases two_true h with ⟨h1, rfl⟩ | ⟨_, h1, rfl⟩
    · simp only [Bool.or_eq_true] at h1
      rcases h1 with h1 | h1
      · have := ltK_spec hh h1; simp; omega
      · have := gtK_spec hl h1; simp; omega
    · cases h1
  · cases h

theorem eqN_spec : ∀ {a b : List Nat}, eqN a b = true → a = b
  | [], [], _ => rfl
  | x :: r, y :: s, h => by
    simp only [eqN, Bool.and_eq_true, Nat.beq_eq] at h
    rw [h.1, eqN_spec h.2]
  | [], _ :: _, h => by cases h
  | _ :: _, [], h => by cases h

theorem hasP_spec {i j : Nat} {l : List (Nat × Nat)} (h : hasP i j l = true) : (i, j) ∈ l := by
  unfold hasP at h
  rw [List.any_eq_true] at h
  obtain ⟨⟨a, b⟩, h1, h2⟩ := h
  simp only [Bool.and_eq_true, Nat.beq_eq] at h2
  obtain ⟨rfl, rfl⟩ := h2
  exact h1
theorem findP_spec {i j : Nat} : ∀ {l : List (Nat × Nat)}, findP i l = some j → (i, j) ∈ l
  | [], h => by cases h
  | p :: r, h => by
    simp only [findP] at h
    cases hc : Nat.beq p.1 i with
    | true =>
      rw [hc] at h
      simp only [cond_true, Option.some.injEq] at h
      have := Nat.eq_of_beq_eq_true hc
      obtain ⟨a, b⟩ := p
      simp only at h this
      subst h this
      exact List.mem_cons_self
    | false =>
      rw [hc] at h
      exact List.mem_cons_of_mem _ (findP_spec h)

theorem sameOp_spec {a b : BinOp} (h : sameOp a b = true) : a = b := by
  unfold sameOp at h
  split at h <;> first | rfl | cases h
theorem findFl_spec {op : BinOp} {i j k : Nat} : ∀ {l : List (BinOp × Nat × Nat × Nat)}, findFl op i j l = some k → (op, i, j, k) ∈ l
  | [], h => by cases h
  | (o, a, b, c) :: r, h => by
    simp only [findFl] at h
    cases hc : (sameOp o op && (Nat.beq a i && Nat.beq b j)) with
    | true =>
      rw [hc] at h
      simp only [cond_true, Option.some.injEq] at h
      simp only [Bool.and_eq_true, Nat.beq_eq] at hc
      obtain ⟨h1, rfl, rfl⟩ := hc
      rw [sameOp_spec h1, h]
      exact List.mem_cons_self
    | false =>
      rw [hc] at h
      exact List.mem_cons_of_mem _ (findFl_spec h)
theorem run_fl {P : Program} {op : BinOp} {x y r : Nat} (h : floatBits op .f64 x y = some r) (t : TypeId) (p q : Operand) (w : World) :
    (do eqGuard op t p q (.float .f64 x) (.float .f64 y); binOp op t (.float .f64 x) (.float .f64 y)).run P w = .ok (.float .f64 r) w := by
  rw [Sem.run_bind, run_guard_float]
  exact run_float_arith w op t .f64 x y r h

theorem run_str {P : Program} {op : BinOp} {a b : ByteArray} {r : Bool} (hab : strL a ≠ strL b) (h : unlikeO op = some r) (t : TypeId) (p q : Operand) (w : World) :
    (do eqGuard op t p q (.string a) (.string b); binOp op t (.string a) (.string b)).run P w = .ok (.bool r) w := by
  have hne : (a.toList == b.toList) = false := by
    rw [beq_eq_false_iff_ne]
    intro e
    apply hab
    unfold strL
    rw [← ByteArray.toList_eq a, ← ByteArray.toList_eq b, e]
  unfold unlikeO at h
  split at h
  · cases h
    rw [Sem.run_bind]
    simp [eqGuard, binOp, Op.stringOp, hne, Result.andThen]
  · cases h
    rw [Sem.run_bind]
    simp [eqGuard, binOp, Op.stringOp, hne, Result.andThen]
  · cases h

theorem types_ok {ts : List TypeId} (hT : TypesOk ts = true) {d : TypeId} (hd : ts.any (Nat.beq d) = true) : Try.prog.underlying d = some (.int .i64) := by
  rw [List.any_eq_true] at hd
  obtain ⟨d', hd', he⟩ := hd
  have e := Nat.eq_of_beq_eq_true he
  subst e
  unfold TypesOk at hT
  rw [List.all_eq_true] at hT
  have h := hT d hd'
  generalize Try.prog.underlying d = u at h ⊢
  split at h
  · rfl
  · cases h
theorem run_conv64 {s d : TypeId} (hs : Try.prog.underlying s = some (.int .i64)) (hd : Try.prog.underlying d = some (.int .i64)) {z : Int} (h1 : -9223372036854775808 ≤ z) (h2 : z ≤ 9223372036854775807) (w : World) :
    (convert s d (.int .i64 z)).run Try.prog w = .ok (.int .i64 z) w := by
  have e : IntKind.i64.wrap z = z := by rw [IntKind.wrap_i64]; omega
  simp [convert, run_underlying hs, run_underlying hd, Conv.intToInt, e]

theorem facts_ok {F : Facts} {ts : List TypeId} [Syms] (hF : FactsOk F) (hT : TypesOk ts = true) : @KnownOk (F.known ts) _ Try.prog := by
  refine @KnownOk.mk (F.known ts) _ Try.prog ?_ ?_ ?_ ?_
  · intro op u v r h ρ t x y w
    replace h : (F.known ts).bin op u v = some r := h
    unfold Facts.known at h
    simp only at h
    split at h
    · rename_i i c
      cases hi : F.isI i with
      | false => rw [hi] at h; cases h
      | true =>
        rw [hi] at h
        simp only [cond_true, Option.map_eq_some_iff] at h
        obtain ⟨b, hb, rfl⟩ := h
        obtain ⟨z, hz, _, _, hl, hh⟩ := hF.int i hi
        have e : ren3 ρ (.chan (some i)) = .int .i64 z := hz
        rw [e]
        exact run_cmp (cmpC_spec hl hh hb) t x y w
    · rename_i c i
      cases hi : F.isI i with
      | false => rw [hi] at h; cases h
      | true =>
        rw [hi] at h
        simp only [cond_true, Option.map_eq_some_iff] at h
        obtain ⟨b, hb, rfl⟩ := h
        obtain ⟨z, hz, _, _, hl, hh⟩ := hF.int i hi
        have e : ren3 ρ (.chan (some i)) = .int .i64 z := hz
        rw [e]
        refine run_cmp ?_ t x y w
        rcases cmpC_spec hl hh hb with ⟨h1, h2⟩ | ⟨h1, h2⟩ | ⟨h1, h2⟩ | ⟨h1, h2⟩ | ⟨h1, h2⟩ | ⟨h1, h2⟩ <;> cases op <;> simp [flipO] at h1 <;> subst h2 <;> simp [eq_comm]
    · rename_i i j
      have fl : ((findFl op i j F.fl).map fun k => Value.chan (some k)) = some r → (do eqGuard op t x y (ren3 ρ (.chan (some i))) (ren3 ρ (.chan (some j))); binOp op t (ren3 ρ (.chan (some i))) (ren3 ρ (.chan (some j)))).run Try.prog w = .ok (ren3 ρ r) w := by
        intro h
        simp only [Option.map_eq_some_iff] at h
        obtain ⟨k, hk, rfl⟩ := h
        obtain ⟨z, z', q, h1, h2, h3, h4⟩ := hF.fl op i j k (findFl_spec hk)
        have e1 : ren3 ρ (.chan (some i)) = .float .f64 z := h1
        have e2 : ren3 ρ (.chan (some j)) = .float .f64 z' := h2
        have e3 : ren3 ρ (.chan (some k)) = .float .f64 q := h4
        rw [e1, e2, e3]
        exact run_fl h3 t x y w
      cases hi : F.isI i with
      | false => rw [hi] at h; exact fl h
      | true =>
        cases hj : F.isI j with
        | false => rw [hi, hj] at h; exact fl h
        | true =>
          rw [hi, hj] at h
          obtain ⟨z, hz, _⟩ := hF.int i hi
          obtain ⟨z', hz', _⟩ := hF.int j hj
          have e : ren3 ρ (.chan (some i)) = .int .i64 z := hz
          have e' : ren3 ρ (.chan (some j)) = .int .i64 z' := hz'
          rw [e, e']
          cases hij : Nat.beq i j with
          | true =>
            rw [hij] at h
            have := Nat.eq_of_beq_eq_true hij
            subst this
            rw [hz] at hz'
            cases hz'
            simp only [Bool.and_self, cond_true, Option.map_eq_some_iff] at h
            obtain ⟨b, hb, rfl⟩ := h
            refine run_cmp ?_ t x y w
            unfold sameO at hb
            split at hb <;> cases hb <;> simp
          | false =>
            rw [hij] at h
            cases hn : (hasP i j F.ne || hasP j i F.ne) with
            | false => rw [hn] at h; cases h
            | true =>
              rw [hn] at h
              simp only [Bool.and_self, cond_true, cond_false, Option.map_eq_some_iff] at h
              obtain ⟨b, hb, rfl⟩ := h
              have hne : z ≠ z' := by
                rintro rfl
                rw [Bool.or_eq_true] at hn
                rcases hn with hn | hn
                · exact hF.ne i j (hasP_spec hn) (hz.trans hz'.symm)
                · exact hF.ne j i (hasP_spec hn) (hz'.trans hz.symm)
              refine run_cmp ?_ t x y w
              unfold unlikeO at hb
              split at hb <;> cases hb <;> simp [hne]
    · rename_i s i
      cases hs : (F.str i).any (eqN (strL s)) with
      | false => rw [hs] at h; cases h
      | true =>
        rw [hs] at h
        simp only [cond_true, Option.map_eq_some_iff] at h
        obtain ⟨b, hb, rfl⟩ := h
        rw [List.any_eq_true] at hs
        obtain ⟨l, hl, he⟩ := hs
        obtain ⟨bs, hbs, hne⟩ := hF.str i l hl
        have e : ren3 ρ (.chan (some i)) = .string bs := hbs
        rw [e]
        rw [← eqN_spec he] at hne
        exact run_str (Ne.symm hne) hb t x y w
    · rename_i i s
      cases hs : (F.str i).any (eqN (strL s)) with
      | false => rw [hs] at h; cases h
      | true =>
        rw [hs] at h
        simp only [cond_true, Option.map_eq_some_iff] at h
        obtain ⟨b, hb, rfl⟩ := h
        rw [List.any_eq_true] at hs
        obtain ⟨l, hl, he⟩ := hs
        obtain ⟨bs, hbs, hne⟩ := hF.str i l hl
        have e : ren3 ρ (.chan (some i)) = .string bs := hbs
        rw [e]
        rw [← eqN_spec he] at hne
        exact run_str hne hb t x y w
    · cases h
  · intro op u r h
    replace h : (F.known ts).un op u = some r := h
    cases h
  · intro s d u r h ρ w
    replace h : (F.known ts).conv s d u = some r := h
    unfold Facts.known at h
    simp only at h
    split at h
    · rename_i i
      cases hc : (F.isI i && (ts.any (Nat.beq s) && ts.any (Nat.beq d))) with
      | false => rw [hc] at h; cases h
      | true =>
        rw [hc] at h
        simp only [cond_true, Option.some.injEq] at h
        subst h
        simp only [Bool.and_eq_true] at hc
        obtain ⟨z, hz, h1, h2, _⟩ := hF.int i hc.1
        have e : ren3 ρ (.chan (some i)) = .int .i64 z := hz
        rw [e]
        exact run_conv64 (types_ok hT hc.2.1) (types_ok hT hc.2.2) h1 h2 w
    · cases h
  · intro t u r h ρ w t'
    replace h : (F.known ts).len t u = some r := h
    unfold Facts.known at h
    simp only at h
    split at h
    · rename_i i
      split at h
      · rename_i e hu
        simp only [Option.map_eq_some_iff] at h
        obtain ⟨j, hj, rfl⟩ := h
        obtain ⟨a, n, c, h1, h2⟩ := hF.lens i j (findP_spec hj)
        have e1 : ren3 ρ (.chan (some i)) = .slice a n c := h1
        have e2 : ren3 ρ (.chan (some j)) = .int .i64 (n : Nat) := h2
        rw [e1, e2]
        simp [Builtin.len_, run_underlying hu, goInt]
      · cases h
    · cases h

end Go.Proofs.Ytmckaoeofikdaaa.Lift
