/- The second machine is right: a region whose order is drawn, in which one variable is made at whatever time. -/
import Derived.Test.YtmckaoeofikdaaaLiftK
namespace Go.Proofs.Ytmckaoeofikdaaa.Lift
open Go.RowKit
variable [Known] [Syms]

/-! ### What does not speak of a row -/
omit [Known] [Syms] in
theorem ren0_noref {h : Nat} {v : Value} (ρ : Env) (p : Pl) (hv : noref0 h v = true) : ren0 (upd ρ h p) v = ren0 ρ v := by
  cases v <;> try rfl
  case pointer a =>
    cases a with
    | none => rfl
    | some a =>
      simp only [noref0, Bool.not_eq_true'] at hv
      have hne : a.block ≠ h := fun e => by simp [e] at hv
      simp only [ren0, renA, upd, if_neg hne]
omit [Known] in
theorem ren1_noref {h : Nat} {v : Value} (ρ : Env) (p : Pl) (hv : noref1 h v = true) : ren1 (upd ρ h p) v = ren1 ρ v := by
  cases v <;> try rfl
  case chan r => cases r <;> rfl
  case pointer a =>
    cases a with
    | none => rfl
    | some a =>
      simp only [noref1, Bool.not_eq_true'] at hv
      have hne : a.block ≠ h := fun e => by simp [e] at hv
      simp only [ren1, renA, upd, if_neg hne]
  case slice a l k =>
    cases a with
    | none => rfl
    | some a =>
      simp only [noref1, Bool.not_eq_true'] at hv
      have hne : a.block ≠ h := fun e => by simp [e] at hv
      simp only [ren1, renA, upd, if_neg hne]
  case func f first cap =>
    simp only [noref1, List.all_eq_true] at hv
    simp only [ren1]
    rw [map_congr_of _ _ _ (fun x hx => ren0_noref ρ p (hv x hx))]
omit [Known] in
theorem noref_two (v : Value) : (∃ cs, v = .agg cs) ∨ ((∀ ρ, ren2 ρ v = ren1 ρ v) ∧ (∀ n, wf2 n v = wf1 n v) ∧ ∀ n, noref2 n v = noref1 n v) := by
  cases v <;> first | exact .inl ⟨_, rfl⟩ | exact .inr ⟨fun _ => rfl, fun _ => rfl, fun _ => rfl⟩
omit [Known] in
theorem noref_three (v : Value) : (∃ cs, v = .tuple cs) ∨ ((∀ ρ, ren3 ρ v = ren2 ρ v) ∧ (∀ n, wf3 n v = wf2 n v) ∧ ∀ n, noref3 n v = noref2 n v) := by
  cases v <;> first | exact .inl ⟨_, rfl⟩ | exact .inr ⟨fun _ => rfl, fun _ => rfl, fun _ => rfl⟩
omit [Known] in
theorem ren2_noref {h : Nat} {v : Value} (ρ : Env) (p : Pl) (hv : noref2 h v = true) : ren2 (upd ρ h p) v = ren2 ρ v := by
  rcases noref_two v with ⟨cs, rfl⟩ | ⟨e1, _, e2⟩
  · simp only [noref2, List.all_eq_true] at hv
    simp only [ren2]
    rw [map_congr_of _ _ _ (fun x hx => ren1_noref ρ p (hv x hx))]
  · rw [e1, e1]; rw [e2] at hv; exact ren1_noref ρ p hv
omit [Known] in
theorem ren3_noref {h : Nat} {v : Value} (ρ : Env) (p : Pl) (hv : noref3 h v = true) : ren3 (upd ρ h p) v = ren3 ρ v := by
  rcases noref_three v with ⟨cs, rfl⟩ | ⟨e1, _, e2⟩
  · simp only [noref3, List.all_eq_true] at hv
    simp only [ren3]
    rw [map_congr_of _ _ _ (fun x hx => ren2_noref ρ p (hv x hx))]
  · rw [e1, e1]; rw [e2] at hv; exact ren2_noref ρ p hv

omit [Known] [Syms] in
theorem beq_false {a b : Nat} (h : a ≠ b) : Nat.beq a b = false := by
  cases hb : Nat.beq a b with
  | false => rfl
  | true => exact absurd (Nat.eq_of_beq_eq_true hb) h
omit [Known] [Syms] in
theorem noref0_wf {n : Nat} {v : Value} (hv : wf0 n v = true) : noref0 n v = true := by
  cases v <;> try rfl
  case pointer a => cases a <;> first | rfl | (simp only [wf0, decide_eq_true_eq] at hv; simp [noref0, beq_false (Nat.ne_of_lt hv)])
omit [Known] [Syms] in
theorem noref1_wf {n : Nat} {v : Value} (hv : wf1 n v = true) : noref1 n v = true := by
  cases v <;> try rfl
  case pointer a => cases a <;> first | rfl | (simp only [wf1, decide_eq_true_eq] at hv; simp [noref1, beq_false (Nat.ne_of_lt hv)])
  case slice a l k => cases a <;> first | rfl | (simp only [wf1, decide_eq_true_eq] at hv; simp [noref1, beq_false (Nat.ne_of_lt hv)])
  case func f first cap =>
    simp only [wf1, noref1, List.all_eq_true] at hv ⊢
    exact fun x hx => noref0_wf (hv x hx)
omit [Known] in
theorem noref2_wf {n : Nat} {v : Value} (hv : wf2 n v = true) : noref2 n v = true := by
  rcases noref_two v with ⟨cs, rfl⟩ | ⟨_, e1, e2⟩
  · simp only [wf2, noref2, List.all_eq_true] at hv ⊢; exact fun x hx => noref1_wf (hv x hx)
  · rw [e2]; rw [e1] at hv; exact noref1_wf hv
omit [Known] in
theorem noref3_wf {n : Nat} {v : Value} (hv : wf3 n v = true) : noref3 n v = true := by
  rcases noref_three v with ⟨cs, rfl⟩ | ⟨_, e1, e2⟩
  · simp only [wf3, noref3, List.all_eq_true] at hv ⊢; exact fun x hx => noref2_wf (hv x hx)
  · rw [e2]; rw [e1] at hv; exact noref2_wf hv

omit [Known] [Syms] in
theorem no1_cell {v : Value} (h : no1 v = true) : isCell v = true := by cases v <;> simp_all [no1, isCell]

/-! ### Rows, compared -/
omit [Known] [Syms] in
theorem eqB_spec {a b : Blk} (h : eqB a b = true) : a = b := by
  unfold eqB at h
  simp only [Bool.and_eq_true, decide_eq_true_eq, Nat.beq_eq, beq_iff_eq] at h
  obtain ⟨⟨⟨⟨h1, h2⟩, h3⟩, h4⟩, h5⟩ := h
  cases a; cases b
  simp only at h1 h2 h3 h4 h5
  subst h1 h3 h4 h5
  rw [eqL_spec h2]
omit [Known] [Syms] in
theorem eqH_spec : ∀ {a b : Hp}, eqH a b = true → a = b
  | [], [], _ => rfl
  | [], _ :: _, h => by cases h
  | _ :: _, [], h => by cases h
  | x :: a, y :: b, h => by
    simp only [eqH, Bool.and_eq_true] at h
    rw [eqB_spec h.1, eqH_spec h.2]

omit [Known] [Syms] in
theorem kill_len (h : Nat) (H : Hp) : (kill h H).length = H.length := by
  unfold kill
  split <;> simp
omit [Known] [Syms] in
theorem kill_get {h : Nat} {H : Hp} {blk : Blk} (hb : H[h]? = some blk) (j : Nat) : (kill h H)[j]? = if j = h then some (killB blk) else H[j]? := by
  unfold kill
  rw [hb]
  simp only [List.getElem?_set]
  have := lt_of_get hb
  by_cases hj : h = j
  · subst hj; simp [this]
  · rw [if_neg hj, if_neg (Ne.symm hj)]

omit [Known] in
/-- A row that sleeps. -/
theorem HRel.dead {ρ : Env} {H : Hp} {w : World} {N : Nat} (hH : HRel ρ H w N) (b : Blk) (hl : b.live = false) (hc : ∀ v ∈ b.cells, no1 v = true) : HRel ρ (H ++ [b]) w N := by
  refine ⟨?_, ?_, ?_, hH.base, ?_, ?_⟩
  · intro j c hj hl' ho
    rcases get_snoc hj with ⟨hj, _⟩ | ⟨_, rfl⟩
    · exact hH.own j c hj hl' ho
    · rw [hl] at hl'; cases hl'
  · intro j c hj hl' ho
    rcases get_snoc hj with ⟨hj, _⟩ | ⟨_, rfl⟩
    · exact hH.ro j c hj hl' ho
    · rw [hl] at hl'; cases hl'
  · intro i j ci cj hi hj h1 h2 h3 h4 hne
    rcases get_snoc hi with ⟨hi', _⟩ | ⟨_, rfl⟩
    · rcases get_snoc hj with ⟨hj', _⟩ | ⟨_, rfl⟩
      · exact hH.apart i j ci cj hi' hj' h1 h2 h3 h4 hne
      · rw [hl] at h2; cases h2
    · rw [hl] at h1; cases h1
  · intro j c hj v hv
    rw [List.length_append]
    rcases get_snoc hj with ⟨hj, _⟩ | ⟨_, rfl⟩
    · exact wf1_mono (by simp) (hH.wf j c hj v hv)
    · exact wf1_no (hc v hv)
  · intro j c hj v hv
    rcases get_snoc hj with ⟨hj, _⟩ | ⟨_, rfl⟩
    · exact hH.cell j c hj v hv
    · exact no1_cell (hc v hv)

omit [Known] in
/-- It wakes: the variable is made. -/
theorem HRel.wake {ρ : Env} {H : Hp} {w : World} {N : Nat} {h : Nat} {e : TypeId} {cs : List Value} (hH : HRel ρ (kill h H) w N) (hb : H[h]? = some ⟨e, cs, cs.length, true, true⟩) (hc : ∀ v ∈ cs, no1 v = true)
    (hno : ∀ b ∈ H, ∀ v ∈ b.cells, noref1 h v = true) : HRel (upd ρ h ⟨w.heap.size, 0, 1⟩) H (w.alloc (.cells cs.toArray e)) N := by
  have get := kill_get hb
  have oth : ∀ {j : Nat} {b : Blk}, H[j]? = some b → j ≠ h → (kill h H)[j]? = some b := fun {j b} hj hne => by rw [get, if_neg hne]; exact hj
  have map : ∀ {j : Nat} {b : Blk}, H[j]? = some b → b.cells.map (ren1 (upd ρ h ⟨w.heap.size, 0, 1⟩)) = b.cells.map (ren1 ρ) := fun {j b} hj =>
    List.map_congr_left fun v hv => ren1_noref ρ _ (hno b (List.mem_of_getElem? hj) v hv)
  have pl : ∀ {j : Nat}, j ≠ h → upd ρ h ⟨w.heap.size, 0, 1⟩ j = ρ j := fun {j} hne => by simp [upd, hne]
  have blt : ∀ {j : Nat} {b : Blk}, H[j]? = some b → j ≠ h → b.live = true → b.own = true → (ρ j).block < w.heap.size := fun {j b} hj hne hl ho => by
    obtain ⟨_, _, _, cur, h3, _⟩ := hH.own j b (oth hj hne) hl ho
    exact (Array.getElem?_eq_some_iff.1 h3).1
  refine ⟨?_, ?_, ?_, ?_, ?_, ?_⟩
  · intro j b hj hl ho
    by_cases hjh : j = h
    · subst hjh
      rw [hb] at hj
      simp only [Option.some.injEq] at hj
      subst hj
      rw [upd_same]
      refine ⟨rfl, hH.base, by simp [maxLen], cs.toArray, heap_alloc_new w _, by simp, ?_⟩
      rw [map hb, map_ren1_no ρ hc]
      simp
    · obtain ⟨h0, h1, h2, cur, h3, h4, h5⟩ := hH.own j b (oth hj hjh) hl ho
      rw [pl hjh]
      refine ⟨h0, h1, h2, cur, ?_, h4, ?_⟩
      · rw [Below.heap_alloc w _ _ (blt hj hjh hl ho)]; exact h3
      · rw [map hj]; exact h5
  · intro j b hj hl ho
    by_cases hjh : j = h
    · subst hjh
      rw [hb] at hj
      simp only [Option.some.injEq] at hj
      subst hj
      cases ho
    · obtain ⟨h1, h2⟩ := hH.ro j b (oth hj hjh) hl ho
      rw [pl hjh]
      refine ⟨h1, fun i v hv => ?_⟩
      rw [ren1_noref ρ _ (hno b (List.mem_of_getElem? hj) v (List.mem_of_getElem? hv)), World.cell?_alloc_lt _ _ _ (show (ρ j).block < w.heap.size from Nat.lt_of_lt_of_le h1 hH.base)]
      exact h2 i v hv
  · intro i j bi bj hi hj l1 l2 o1 o2 hne
    by_cases hih : i = h
    · have hjh : j ≠ h := fun e => hne (hih.trans e.symm)
      rw [hih, upd_same, pl hjh]
      have := blt hj hjh l2 o2
      simp only
      omega
    · by_cases hjh : j = h
      · rw [hjh, upd_same, pl hih]
        have := blt hi hih l1 o1
        simp only
        omega
      · rw [pl hih, pl hjh]
        exact hH.apart i j bi bj (oth hi hih) (oth hj hjh) l1 l2 o1 o2 hne
  · have := hH.base; simp; omega
  · intro j b hj v hv
    by_cases hjh : j = h
    · subst hjh
      rw [hb] at hj
      simp only [Option.some.injEq] at hj
      subst hj
      exact wf1_no (hc v hv)
    · have := hH.wf j b (oth hj hjh) v hv
      rw [kill_len] at this; exact this
  · intro j b hj v hv
    by_cases hjh : j = h
    · subst hjh
      rw [hb] at hj
      simp only [Option.some.injEq] at hj
      subst hj
      exact no1_cell (hc v hv)
    · exact hH.cell j b (oth hj hjh) v hv

/-! ### What was looked at beforehand -/
omit [Known] [Syms] in
theorem allocAt_spec : ∀ {todo : List Oper} {b x : Nat} {e : TypeId}, allocAt todo b = some (x, e) →
    ∃ i o, x = b + i ∧ todo[i]? = some o ∧ o.op = .alloc e ∧ o.guard = none ∧ ∀ (j : Nat) (o' : Oper), todo[j]? = some o' → isAlloc o' = true → j = i
  | [], b, x, e, h => by simp [allocAt] at h
  | o :: r, b, x, e, h => by
    unfold allocAt at h
    split at h
    · rename_i e' ho
      cases hc : (o.guard.isNone && r.all fun o => !isAlloc o) with
      | false => rw [hc] at h; cases h
      | true =>
        rw [hc] at h
        simp only [cond_true, Option.some.injEq, Prod.mk.injEq] at h
        obtain ⟨rfl, rfl⟩ := h
        simp only [Bool.and_eq_true, Option.isNone_iff_eq_none, List.all_eq_true, Bool.not_eq_true'] at hc
        refine ⟨0, o, by omega, rfl, ho, hc.1, fun j o' hj ha => ?_⟩
        cases j with
        | zero => rfl
        | succ j =>
          have := hc.2 o' (List.mem_of_getElem? (by simpa using hj))
          rw [ha] at this; cases this
    · rename_i hne
      obtain ⟨i, o', h1, h2, h3, h4, h5⟩ := allocAt_spec h
      refine ⟨i + 1, o', by omega, by simpa using h2, h3, h4, fun j o'' hj ha => ?_⟩
      cases j with
      | zero =>
        simp only [List.getElem?_cons_zero, Option.some.injEq] at hj
        subst hj
        unfold isAlloc at ha
        split at ha
        · rename_i e2 ho2; exact absurd ho2 (hne e2)
        · cases ha
      | succ j => rw [h5 j o'' (by simpa using hj) ha]

omit [Known] [Syms] in
theorem sleepsAll_spec {h : Nat} {blk : Blk} : ∀ {hs : List Hp}, sleepsAll h blk hs = true → ∀ (c : Nat) (H : Hp), hs[c]? = some H → H[h]? = some blk ∧ ∀ b ∈ H, ∀ v ∈ b.cells, noref1 h v = true
  | [], _, c, H, hc => by simp at hc
  | H0 :: hs, hh, c, H, hc => by
    simp only [sleepsAll, Bool.and_eq_true] at hh
    cases c with
    | zero =>
      simp only [List.getElem?_cons_zero, Option.some.injEq] at hc
      subst hc
      have h1 := hh.1
      unfold sleeps at h1
      simp only [Bool.and_eq_true, List.all_eq_true] at h1
      refine ⟨?_, h1.2⟩
      have h2 := h1.1
      split at h2
      · rename_i b hb; rw [hb, eqB_spec h2]
      · cases h2
    | succ c => exact sleepsAll_spec hh.2 c H (by simpa using hc)

omit [Known] [Syms] in
theorem sameAsleep_spec {stp : Oper → Fr → Hp → Option (Value × Hp)} {eff : Oper → Bool} {h : Nat} {r : Rc} {own : Nat} : ∀ {ps : List Bool} {hs : List Hp} {c0 : Nat}, sameAsleep stp eff h r own ps hs c0 = true →
    ∀ (c : Nat) (H : Hp), hs[c]? = some H → ∀ p, ps[c]? = some p → (eff r.o = false → p = true → ∃ H'', stp r.o r.l (kill h H) = some (r.v, H'')) ∧
      (eff r.o = true → c0 + c = own → ∃ H', hs[c + 1]? = some H' ∧ stp r.o r.l (kill h H) = some (r.v, kill h H'))
  | [], _, _, _, c, H, _, p, hp => by simp at hp
  | _ :: _, [], _, _, c, H, hc, _, _ => by simp at hc
  | p :: ps, H0 :: hs, c0, hh, c, H, hc, q, hq => by
    simp only [sameAsleep, Bool.and_eq_true] at hh
    cases c with
    | zero =>
      simp only [List.getElem?_cons_zero, Option.some.injEq] at hc hq
      subst hc hq
      have h1 := hh.1
      refine ⟨fun he hp => ?_, fun he ho => ?_⟩
      · rw [he] at h1
        simp only [cond_false, hp, Bool.not_true, Bool.false_or] at h1
        split at h1
        · rename_i v H'' hv
          rw [eqV_spec h1] at hv
          exact ⟨H'', hv⟩
        · cases h1
      · rw [he] at h1
        have hb : Nat.beq c0 own = true := by simpa using ho
        simp only [cond_true, hb, Bool.not_true, Bool.false_or] at h1
        split at h1
        · rename_i H' hs'
          split at h1
          · rename_i v H'' hv
            simp only [Bool.and_eq_true] at h1
            rw [eqV_spec h1.1, eqH_spec h1.2] at hv
            exact ⟨H', rfl, hv⟩
          · cases h1
        · cases h1
    | succ c =>
      obtain ⟨g1, g2⟩ := sameAsleep_spec hh.2 c H (by simpa using hc) q (by simpa using hq)
      exact ⟨g1, fun he ho => by
        obtain ⟨H', k1, k2⟩ := g2 he (by omega)
        exact ⟨H', by simpa using k1, k2⟩⟩

omit [Known] [Syms] in
theorem allAsleep_spec {stp : Oper → Fr → Hp → Option (Value × Hp)} {eff : Oper → Bool} {h : Nat} {hs : List Hp} : ∀ {rs : List Rc} {ps : List (List Bool)} {ds : List Bool} {own : Nat}, allAsleep stp eff h hs rs ps ds own = true →
    ∀ (i : Nat) (r : Rc), rs[i]? = some r → isAlloc r.o = false → ds[i]? = some false → ∃ p, ps[i]? = some p ∧ noref3 h r.v = true ∧ sameAsleep stp eff h r (own + ((rs.take i).countP fun r => eff r.o)) p hs 0 = true
  | [], _, _, _, _, i, r, hr, _, _ => by simp at hr
  | _ :: _, [], _, _, hh, _, _, _, _, _ => by simp [allAsleep] at hh
  | _ :: _, _ :: _, [], _, hh, _, _, _, _, _ => by simp [allAsleep] at hh
  | r0 :: rs, p :: ps, d :: ds, own, hh, i, r, hr, ha, hd => by
    simp only [allAsleep, Bool.and_eq_true] at hh
    cases i with
    | zero =>
      simp only [List.getElem?_cons_zero, Option.some.injEq] at hr hd
      subst hr hd
      have h1 := hh.1
      rw [ha] at h1
      simp only [Bool.false_or, Bool.and_eq_true] at h1
      exact ⟨p, rfl, h1.1, by simpa using h1.2⟩
    | succ i =>
      obtain ⟨q, h1, h2, h3⟩ := allAsleep_spec hh.2 i r (by simpa using hr) ha (by simpa using hd)
      refine ⟨q, by simpa using h1, h2, ?_⟩
      cases he : eff r0.o with
      | true =>
        rw [he] at h3
        simp only [cond_true] at h3
        simp only [List.take_succ_cons, List.countP_cons, he, if_true]
        rw [show own + (((rs.take i).countP fun r => eff r.o) + 1) = own + 1 + ((rs.take i).countP fun r => eff r.o) by omega]
        exact h3
      | false =>
        rw [he] at h3
        simp only [cond_false] at h3
        simp only [List.take_succ_cons, List.countP_cons, he]
        simpa using h3

omit [Known] [Syms] in
theorem takeWhile_stop (p : Nat → Bool) : ∀ (l : List Nat) (e : Nat), l[(l.takeWhile p).length]? = some e → p e = false
  | [], e, h => by simp at h
  | x :: l, e, h => by
    cases hx : p x with
    | true =>
      simp only [List.takeWhile_cons, hx, if_true, List.length_cons, List.getElem?_cons_succ] at h
      exact takeWhile_stop p l e h
    | false =>
      simp only [List.takeWhile_cons, hx, Bool.false_eq_true, if_false, List.length_nil, List.getElem?_cons_zero, Option.some.injEq] at h
      rw [← h]; exact hx

theorem stepA_non {P : Program} {F : Fns} {m : Mach} {ops : Array Oper} {h : Nat} {o : Oper} {l : Fr} {H H' : Hp} {v : Value} (he : effA o = false) (hv : stepA P F m ops h o l H = some (v, H')) : H' = H := by
  unfold stepA at hv
  cases ha : isAlloc o with
  | true => rw [ha] at hv; simp only [cond_true, Option.some.injEq, Prod.mk.injEq] at hv; exact hv.2.symm
  | false =>
    rw [ha] at hv
    simp only [cond_false] at hv
    exact stepW_non (by simpa [effA, ha] using he) hv

theorem stepA_skip {P : Program} {F : Fns} {m : Mach} {ops : Array Oper} {h : Nat} {o : Oper} {l : Fr} {H H' : Hp} {v : Value} (hd : kData o = true) (hn : no3 v = true) (hv : stepA P F m ops h o l H = some (v, H')) (H1 : Hp) : ∃ H1', stepA P F m ops h o l H1 = some (v, H1') := by
  have ha : isAlloc o = false := by
    unfold kData at hd
    unfold isAlloc
    split at hd <;> (try cases hd) <;> rename_i ho <;> (split; (rename_i h2; rw [ho] at h2; cases h2); rfl)
  unfold stepA at hv ⊢
  rw [ha] at hv ⊢
  simp only [cond_false] at hv ⊢
  exact stepW_skip hd hn hv H1

theorem drawA_spec {P : Program} [KnownOk P] {F : Fns} {m : Mach} (hm : CallSound P m.call) (hF : ∀ f fn, F f = some fn → P.funcs[f]? = some fn) (hmix : P.follows .mixedOrders = true)
    {id : Nat} {ops : Array Oper} {l l' : Fr} {H H' : Hp} {x : AEx} (hv : drawA P F m ops l H = some (x, l', H')) {ρ : Env} {a : Act} {w : World} {N : Nat} (h : FRel ρ l a) (hw : WF H.length l) (hH : HRel ρ H w N)
    {Q : Exit → Act → World → Prop} (hQ : ∀ ρ' a w', x = .normal → FRel ρ' l' a → WF H'.length l' → HRel ρ' H' w' N → Agree H.length ρ ρ' → Below N w w' → H.length ≤ H'.length → Q .normal a w') :
    (Code.region id ops true).wp P Q a w := by
  unfold drawA at hv
  split at hv
  · rename_i x0 e hal
    split at hv
    · rename_i ti hti
      split at hv
      · rename_i z hz
        cases hcc : (no2 z && drawOk effA ops) with
        | false => rw [hcc] at hv; cases hv
        | true =>
          rw [hcc] at hv
          simp only [cond_true, fNat_eq, fCells_eq, fSnoc_eq] at hv
          simp only [Bool.and_eq_true] at hcc
          obtain ⟨hno, hd⟩ := hcc
          have hcno : ∀ v ∈ cellsOf z, no1 v = true := no2_cells hno
          obtain ⟨hs, rs, l2, H2, hp, hk⟩ := passS_spec (fun he h => stepA_non he h) ops.toList l _ [] [] _ _ h.small hv
          simp only [List.nil_append] at hk
          cases hs' : (allSame (stepA P F m ops H.length) effA hs rs (drawPoss effA ops) 0 && sleepsAll H.length ⟨e, cellsOf z, (cellsOf z).length, true, true⟩ (hs.take (sleepN ops x0 + 1)) &&
              allAsleep (stepA P F m ops H.length) effA H.length (hs.take (sleepN ops x0 + 1)) rs (drawPoss effA ops) (hangs ops x0) 0) with
          | false => rw [hs'] at hk; cases hk
          | true =>
            rw [hs'] at hk
            simp only [cond_true, Option.some.injEq, Prod.mk.injEq] at hk
            obtain ⟨rfl, rfl, rfl⟩ := hk
            simp only [Bool.and_eq_true] at hs'
            obtain ⟨⟨hsame, hsl⟩, has⟩ := hs'
            unfold drawOk at hd
            simp only [Bool.and_eq_true, List.all_eq_true] at hd
            obtain ⟨⟨hsel, hfree⟩, hchain⟩ := hd
            obtain ⟨xi, ox, hxe, hox, hoxop, hoxg, huniq⟩ := allocAt_spec hal
            rw [Nat.zero_add] at hxe
            subst hxe
            have hoxa : isAlloc ox = true := by simp [isAlloc, hoxop]
            have hlen0 : (H ++ [⟨e, cellsOf z, (cellsOf z).length, true, true⟩] : Hp).length = H.length + 1 := by simp
            let St : Array Bool → Nat → Env → World → Prop := fun listed n ρ' w' => ∃ c Hc, (∀ (j e : Nat), (effsOf effA ops.toList 0)[j]? = some e → (listed.getD e false = true ↔ j < c)) ∧ c ≤ (effsOf effA ops.toList 0).length ∧
              hs[c]? = some Hc ∧ n = Hc.length ∧ (listed.getD x0 false = true → HRel ρ' Hc w' N) ∧ (listed.getD x0 false = false → HRel ρ' (kill H.length Hc) w' N) ∧ Agree H.length ρ ρ' ∧ Below N w w' ∧ H.length ≤ Hc.length
            let Ok : Array Bool → Nat → Value → Prop := fun listed n u => wf3 n u = true ∧ (listed.getD x0 false = false → noref3 H.length u = true)
            refine wp_region_any hmix (draw_any (St := St) (Ok := Ok) hp hfree hsel h.small (fun _ _ _ h => h.1) ?_ ?_ _ _ _ _ (inv_start (n := H.length + 1) h ?_ (fun t => ⟨wf3_mono (Nat.le_succ _) (hw t), fun _ => noref3_wf (hw t)⟩)))
            · intro listed i o r n ρ' w1 a' hsz hcl ho hif hall hr ⟨c, Hc, hpre, hc, hHc, hn, hR1, hR2, hA, hB, hL⟩ hFR hwfo
              subst hn
              have hol : ops.toList[i]? = some o := by simpa using ho
              have hils : i < listed.size := by rw [hsz]; exact (Array.getElem?_eq_some_iff.1 ho).1
              obtain ⟨r', c', Hn, hr', _, heff, hneff, hst, hHn, hc', hpre'⟩ := step_here (fun he h => stepA_non he h) hp hchain (same_of_all hp (fun hd hn h H1 => stepA_skip hd hn h H1) hsame) hsz hcl ho hif hall hpre hc hHc
              rw [hr] at hr'
              simp only [Option.some.injEq] at hr'
              subst hr'
              have hro : r.o = o := by
                obtain ⟨r2, _, _, k1, k2, _⟩ := hp.fact i o hol
                rw [hr] at k1
                simp only [Option.some.injEq] at k1
                rw [k1]; exact k2
              by_cases hix : i = x0
              · -- the variable is made
                subst hix
                rw [hol] at hox
                simp only [Option.some.injEq] at hox
                subst hox
                have hnoeff : effA o = false := by simp [effA, hoxa]
                obtain ⟨rfl, _⟩ := hneff hnoeff
                rw [hHc] at hHn
                simp only [Option.some.injEq] at hHn
                subst hHn
                have hrv : r.v = .pointer (some ⟨H.length, 0, none⟩) := by
                  unfold stepA at hst
                  rw [hoxa] at hst
                  simp only [cond_true, Option.some.injEq, Prod.mk.injEq] at hst
                  exact hst.1.symm
                have hcs : c' ≤ sleepN ops i := by
                  rcases Nat.lt_or_ge (sleepN ops i) c' with hlt | hge
                  · exfalso
                    have hl2 : sleepN ops i < (effsOf effA ops.toList 0).length := by omega
                    have hg : (effsOf effA ops.toList 0)[sleepN ops i]? = some ((effsOf effA ops.toList 0)[sleepN ops i]) := List.getElem?_eq_getElem hl2
                    have hst2 := takeWhile_stop _ _ _ hg
                    have hle := (hpre _ _ hg).2 hlt
                    simp only [Bool.not_eq_false'] at hst2
                    have := comes_before hst2 hcl hle
                    rw [hif] at this; cases this
                  · exact hge
                obtain ⟨hrow, hnoref⟩ := sleepsAll_spec hsl c' Hc (by rw [List.getElem?_take, if_pos (by omega)]; exact hHc)
                have hwake := (hR2 hif).wake hrow hcno hnoref
                have hwant : Region.wanted o (yieldedL ops r.l) = true := by simp [Region.wanted, hoxg]
                rw [if_pos hwant]
                have hrun : (execOp a'.eval o).run P w1 = .ok (.value (.pointer (some ⟨w1.heap.size, 0, none⟩))) (w1.alloc (.cells (cellsOf z).toArray e)) := by
                  simp [execOp, hoxop, Instr.alloc, zeroValue, typeInfo, hti, hz, newVar, newRow, cellsOf]
                rw [hrun]
                refine ⟨Hc.length, upd ρ' H.length ⟨w1.heap.size, 0, 1⟩, ?_, ⟨c', Hc, hpre', hc', hHc, rfl, fun _ => hwake, ?_, hA.trans (Agree.upd _ _ _) (Nat.le_refl _), hB.alloc (hR2 hif).base _, hL⟩, fun y hy => ⟨ren3_noref ρ' _ (hy.2 hif), hy.1, ?_⟩, ?_, ?_⟩
                · rw [hrv, renPtr_new]
                · intro hf; rw [set_getD hils] at hf; simp at hf
                · intro hf; rw [set_getD hils] at hf; simp at hf
                · rw [hrv]
                  have := lt_of_get hrow
                  simpa [wf3, wf2, wf1] using this
                · intro hf; rw [set_getD hils] at hf; simp at hf
              · -- another operation
                have hna : isAlloc o = false := by
                  cases ha : isAlloc o with
                  | false => rfl
                  | true => exact absurd (huniq i o hol ha) hix
                have hxs : ∀ b, (listed.setIfInBounds i true).getD x0 false = b ↔ listed.getD x0 false = b := fun b => by rw [set_getD hils, if_neg (Ne.symm hix)]
                have hstW : ∀ G, stepA P F m ops H.length o r.l G = stepW P F m ops o r.l G := fun G => by unfold stepA; rw [hna]; rfl
                cases hxl : listed.getD x0 false with
                | true =>
                  rw [hstW] at hst
                  have conv : ∀ v w', CallPost ρ' Hc w1 N r.v Hn v w' → Next St Ok listed i Hc.length ρ' r.v v w' := by
                    rintro v w' ⟨ρ'', rfl, g1, g2, g3, g4, g5⟩
                    exact ⟨Hn.length, ρ'', rfl, ⟨c', Hn, hpre', hc', hHn, rfl, fun _ => g1, fun hf => (by rw [hxs, hxl] at hf; cases hf), hA.trans g2 hL, hB.trans g3, Nat.le_trans hL g4⟩,
                      fun y hy => ⟨ren3_agree g2 hy.1, wf3_mono g4 hy.1, fun hf => (by rw [hxs, hxl] at hf; cases hf)⟩, g5, fun hf => (by rw [hxs, hxl] at hf; cases hf)⟩
                  have := stepW_here hm hF hFR hwfo (hR1 hxl) hst
                  split
                  · rename_i hwb
                    rw [if_pos hwb] at this
                    exact this.mono conv
                  · rename_i hwb
                    rw [if_neg hwb] at this
                    exact conv _ _ this
                | false =>
                  have hcl' := closed_set hcl ho hils hall
                  have hnb : comesBefore (masksOf ops.toList []) x0 i = false := by
                    cases hcb : comesBefore (masksOf ops.toList []) x0 i with
                    | false => rfl
                    | true =>
                      have := comes_before hcb hcl' (by rw [set_getD hils]; simp)
                      rw [hxs, hxl] at this; cases this
                  have hilt : i < ops.size := by rw [← hsz]; exact hils
                  have hds : (hangs ops x0)[i]? = some false := by
                    unfold hangs
                    rw [List.getElem?_map, List.getElem?_range hilt]
                    simp only [Option.map_some, hnb]
                  obtain ⟨p, hps, hnor, hsm⟩ := allAsleep_spec has i r hr (by rw [hro]; exact hna) hds
                  rw [Nat.zero_add, own_of_recs hp] at hsm
                  have hcs : ∀ {k : Nat}, (∀ (j e : Nat), (effsOf effA ops.toList 0)[j]? = some e → ((listed.setIfInBounds i true).getD e false = true ↔ j < k)) → k ≤ (effsOf effA ops.toList 0).length → k ≤ sleepN ops x0 := by
                    intro k hpk hkl
                    rcases Nat.lt_or_ge (sleepN ops x0) k with hlt | hge
                    · exfalso
                      have hl2 : sleepN ops x0 < (effsOf effA ops.toList 0).length := by omega
                      have hg : (effsOf effA ops.toList 0)[sleepN ops x0]? = some ((effsOf effA ops.toList 0)[sleepN ops x0]) := List.getElem?_eq_getElem hl2
                      have hst2 := takeWhile_stop _ _ _ hg
                      have hle := (hpk _ _ hg).2 hlt
                      simp only [Bool.not_eq_false'] at hst2
                      have := comes_before hst2 hcl' hle
                      rw [hxs, hxl] at this; cases this
                    · exact hge
                  have hc's := hcs hpre' hc'
                  have hstep : stepW P F m ops o r.l (kill H.length Hc) = some (r.v, kill H.length Hn) := by
                    cases he : effA o with
                    | true =>
                      obtain ⟨h1, h2⟩ := heff he
                      have hq : ∃ q, p[c]? = some q := by
                        unfold drawPoss at hps
                        rw [List.getElem?_map, List.getElem?_range hilt] at hps
                        simp only [Option.map_some, Option.some.injEq] at hps
                        rw [← hps, List.getElem?_map, List.getElem?_range (by omega)]
                        exact ⟨_, rfl⟩
                      obtain ⟨q, hq⟩ := hq
                      obtain ⟨Hx, k1, k2⟩ := (sameAsleep_spec hsm c Hc (by rw [List.getElem?_take, if_pos (by omega)]; exact hHc) q hq).2 (by rw [hro]; exact he) (by omega)
                      rw [List.getElem?_take, if_pos (by omega), ← h2, hHn] at k1
                      simp only [Option.some.injEq] at k1
                      subst k1
                      rw [hro, hstW] at k2
                      exact k2
                    | false =>
                      obtain ⟨rfl, hposs⟩ := hneff he
                      rw [hHc] at hHn
                      simp only [Option.some.injEq] at hHn
                      subst hHn
                      have hpc : p[c']? = some true := by
                        unfold drawPoss at hps
                        rw [List.getElem?_map, List.getElem?_range hilt] at hps
                        simp only [Option.map_some, Option.some.injEq] at hps
                        rw [← hps, List.getElem?_map, List.getElem?_range (by omega)]
                        simp only [Option.map_some, hposs]
                      obtain ⟨Hx, k2⟩ := (sameAsleep_spec hsm c' Hc (by rw [List.getElem?_take, if_pos (by omega)]; exact hHc) true hpc).1 (by rw [hro]; exact he) rfl
                      rw [hro] at k2
                      have := stepA_non he k2
                      subst this
                      rw [hstW] at k2
                      exact k2
                  have conv : ∀ v w', CallPost ρ' (kill H.length Hc) w1 N r.v (kill H.length Hn) v w' → Next St Ok listed i Hc.length ρ' r.v v w' := by
                    rintro v w' ⟨ρ'', rfl, g1, g2, g3, g4, g5⟩
                    rw [kill_len] at g2 g4 g5
                    rw [kill_len] at g4
                    exact ⟨Hn.length, ρ'', rfl, ⟨c', Hn, hpre', hc', hHn, rfl, fun hf => (by rw [hxs, hxl] at hf; cases hf), fun _ => g1, hA.trans g2 hL, hB.trans g3, Nat.le_trans hL g4⟩,
                      fun y hy => ⟨ren3_agree g2 hy.1, wf3_mono g4 hy.1, fun _ => hy.2 hxl⟩, g5, fun _ => hnor⟩
                  have := stepW_here hm hF hFR (by rw [kill_len]; exact hwfo) (hR2 hxl) hstep
                  split
                  · rename_i hwb
                    rw [if_pos hwb] at this
                    exact this.mono conv
                  · rename_i hwb
                    rw [if_neg hwb] at this
                    exact conv _ _ this
            · intro listed n ρ' a1 w1 hall ⟨c, Hc, hpre, hc, hHc, hn, hR1, hR2, hA, hB, hL⟩ hFR hok
              subst hn
              have hce := pre_end hpre hc hall
              have hH2 := hp.last.1
              rw [← hce, hHc] at hH2
              simp only [Option.some.injEq] at hH2
              subst hH2
              exact hQ ρ' a1 w1 rfl hFR (fun t => (hok t).1) (hR1 (hall x0 (by simpa using lt_of_get hox))) hA hB hL
            · refine ⟨0, _, pre_start effA, Nat.zero_le _, hs_zero hp, hlen0.symm, fun hf => ?_, fun _ => ?_, Agree.refl _ _, (Below.refl N w).drew, by omega⟩
              · exfalso
                simp only [Array.getD_eq_getD_getElem?, Array.getElem?_replicate] at hf
                split at hf <;> simp at hf
              · have : kill H.length (H ++ [⟨e, cellsOf z, (cellsOf z).length, true, true⟩]) = H ++ [⟨e, cellsOf z, (cellsOf z).length, true, false⟩] := by
                  simp [kill, killB]
                rw [this]
                exact (hH.drew).dead _ rfl hcno
      · cases hv
    · cases hv
  · cases hv

theorem drawR_spec {P : Program} [KnownOk P] {F : Fns} {m : Mach} (hm : CallSound P m.call) (hF : ∀ f fn, F f = some fn → P.funcs[f]? = some fn) (hmix : P.follows .mixedOrders = true)
    {id : Nat} {ops : Array Oper} {l l' : Fr} {H H' : Hp} {x : AEx} (hv : drawR P F m ops l H = some (x, l', H')) {ρ : Env} {a : Act} {w : World} {N : Nat} (h : FRel ρ l a) (hw : WF H.length l) (hH : HRel ρ H w N)
    {Q : Exit → Act → World → Prop} (hQ : ∀ ρ' a w', x = .normal → FRel ρ' l' a → WF H'.length l' → HRel ρ' H' w' N → Agree H.length ρ ρ' → Below N w w' → H.length ≤ H'.length → Q .normal a w') :
    (Code.region id ops true).wp P Q a w := by
  unfold drawR at hv
  cases hpl : drawPlain ops with
  | true => rw [hpl] at hv; exact drawN_spec hm hF hmix hpl hv h hw hH hQ
  | false =>
    rw [hpl] at hv
    simp only [cond_false] at hv
    cases hd : drawOk isEff ops with
    | true => rw [hd] at hv; exact drawS_spec hm hF hmix hv h hw hH hQ
    | false => rw [hd] at hv; exact drawA_spec hm hF hmix hv h hw hH hQ

end Go.Proofs.Ytmckaoeofikdaaa.Lift
