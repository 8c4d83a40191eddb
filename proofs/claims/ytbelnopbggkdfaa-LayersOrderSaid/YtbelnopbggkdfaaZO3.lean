/- A part of the proof: texts of this claim laid together by a program of its own; what the proof does not use is struck. -/
import Derived.Test.YtbelnopbggkdfaaZO2
import Derived.Test.YtbelnopbggkdfaaRows
import Derived.Deep.Light
import Derived.Lib.SliceRun
section
namespace Go.Proofs.Ytbelnopbggkdfaa.Lift
open Go.RowKit
variable [Known] [Syms]
omit [Known] [Syms] in
theorem ren0_noref {h : Nat} {v : Value} (ρ : Env) (p : Pl) (hv : noref0 h v = true) : ren0 (upd ρ h p) v = ren0 ρ v := by
  cases v <;> try rfl
  case pointer a =>
    cases a with
    | none => rfl
    | some a =>
      simp only [noref0, Bool.not_eq_true'] at hv
      have hne : a.block ≠ h := fun e => by simp [e] at hv
      simp only [ren0, renA, upd, if_neg hne]
omit [Known] in
theorem ren1_noref {h : Nat} {v : Value} (ρ : Env) (p : Pl) (hv : noref1 h v = true) : ren1 (upd ρ h p) v = ren1 ρ v := by
  cases v <;> try rfl
  case chan r => cases r <;> rfl
  case pointer a =>
    cases a with
    | none => rfl
    | some a =>
      simp only [noref1, Bool.not_eq_true'] at hv
      have hne : a.block ≠ h := fun e => by simp [e] at hv
      simp only [ren1, renA, upd, if_neg hne]
  case slice a l k =>
    cases a with
    | none => rfl
    | some a =>
      simp only [noref1, Bool.not_eq_true'] at hv
      have hne : a.block ≠ h := fun e => by simp [e] at hv
      simp only [ren1, renA, upd, if_neg hne]
  case func f first cap =>
    simp only [noref1, List.all_eq_true] at hv
    simp only [ren1]
    rw [map_congr_of _ _ _ (fun x hx => ren0_noref ρ p (hv x hx))]
omit [Known] in
theorem noref_two (v : Value) : (∃ cs, v = .agg cs) ∨ ((∀ ρ, ren2 ρ v = ren1 ρ v) ∧ (∀ n, wf2 n v = wf1 n v) ∧ ∀ n, noref2 n v = noref1 n v) := by
  cases v <;> first | exact .inl ⟨_, rfl⟩ | exact .inr ⟨fun _ => rfl, fun _ => rfl, fun _ => rfl⟩
omit [Known] in
theorem noref_three (v : Value) : (∃ cs, v = .tuple cs) ∨ ((∀ ρ, ren3 ρ v = ren2 ρ v) ∧ (∀ n, wf3 n v = wf2 n v) ∧ ∀ n, noref3 n v = noref2 n v) := by
  cases v <;> first | exact .inl ⟨_, rfl⟩ | exact .inr ⟨fun _ => rfl, fun _ => rfl, fun _ => rfl⟩
omit [Known] in
theorem ren2_noref {h : Nat} {v : Value} (ρ : Env) (p : Pl) (hv : noref2 h v = true) : ren2 (upd ρ h p) v = ren2 ρ v := by
  rcases noref_two v with ⟨cs, rfl⟩ | ⟨e1, _, e2⟩
  · simp only [noref2, List.all_eq_true] at hv
    simp only [ren2]
    rw [map_congr_of _ _ _ (fun x hx => ren1_noref ρ p (hv x hx))]
  · rw [e1, e1]; rw [e2] at hv; exact ren1_noref ρ p hv
omit [Known] in
theorem ren3_noref {h : Nat} {v : Value} (ρ : Env) (p : Pl) (hv : noref3 h v = true) : ren3 (upd ρ h p) v = ren3 ρ v := by
  rcases noref_three v with ⟨cs, rfl⟩ | ⟨e1, _, e2⟩
  · simp only [noref3, List.all_eq_true] at hv
    simp only [ren3]
    rw [map_congr_of _ _ _ (fun x hx => ren2_noref ρ p (hv x hx))]
  · rw [e1, e1]; rw [e2] at hv; exact ren2_noref ρ p hv
omit [Known] [Syms] in
theorem beq_false {a b : Nat} (h : a ≠ b) : Nat.beq a b = false := by
  cases hb : Nat.beq a b with
  | false => rfl
  | true => exact absurd (Nat.eq_of_beq_eq_true hb) h
omit [Known] [Syms] in
theorem noref0_wf {n : Nat} {v : Value} (hv : wf0 n v = true) : noref0 n v = true := by
  cases v <;> try rfl
  case pointer a => cases a <;> first | rfl | (simp only [wf0, decide_eq_true_eq] at hv; simp [noref0, beq_false (Nat.ne_of_lt hv)])
omit [Known] [Syms] in
theorem noref1_wf {n : Nat} {v : Value} (hv : wf1 n v = true) : noref1 n v = true := by
  cases v <;> try rfl
  case pointer a => cases a <;> first | rfl | (simp only [wf1, decide_eq_true_eq] at hv; simp [noref1, beq_false (Nat.ne_of_lt hv)])
  case slice a l k => cases a <;> first | rfl | (simp only [wf1, decide_eq_true_eq] at hv; simp [noref1, beq_false (Nat.ne_of_lt hv)])
  case func f first cap =>
    simp only [wf1, noref1, List.all_eq_true] at hv ⊢
    exact fun x hx => noref0_wf (hv x hx)
omit [Known] in
theorem noref2_wf {n : Nat} {v : Value} (hv : wf2 n v = true) : noref2 n v = true := by
  rcases noref_two v with ⟨cs, rfl⟩ | ⟨_, e1, e2⟩
  · simp only [wf2, noref2, List.all_eq_true] at hv ⊢; exact fun x hx => noref1_wf (hv x hx)
  · rw [e2]; rw [e1] at hv; exact noref1_wf hv
omit [Known] in
theorem noref3_wf {n : Nat} {v : Value} (hv : wf3 n v = true) : noref3 n v = true := by
  rcases noref_three v with ⟨cs, rfl⟩ | ⟨_, e1, e2⟩
  · simp only [wf3, noref3, List.all_eq_true] at hv ⊢; exact fun x hx => noref2_wf (hv x hx)
  · rw [e2]; rw [e1] at hv; exact noref2_wf hv
omit [Known] [Syms] in
theorem no1_cell {v : Value} (h : no1 v = true) : isCell v = true := by cases v <;> simp_all [no1, isCell]
omit [Known] [Syms] in
theorem eqB_spec {a b : Blk} (h : eqB a b = true) : a = b := by
  unfold eqB at h
  simp only [Bool.and_eq_true, decide_eq_true_eq, Nat.beq_eq, beq_iff_eq] at h
  obtain ⟨⟨⟨⟨h1, h2⟩, h3⟩, h4⟩, h5⟩ := h
  cases a; cases b
  simp only at h1 h2 h3 h4 h5
  subst h1 h3 h4 h5
  rw [eqL_spec h2]
omit [Known] [Syms] in
theorem eqH_spec : ∀ {a b : Hp}, eqH a b = true → a = b
  | [], [], _ => rfl
  | [], _ :: _, h => by cases h
  | _ :: _, [], h => by cases h
  | x :: a, y :: b, h => by
    simp only [eqH, Bool.and_eq_true] at h
    rw [eqB_spec h.1, eqH_spec h.2]
omit [Known] [Syms] in
theorem kill_len (h : Nat) (H : Hp) : (kill h H).length = H.length := by
  unfold kill
  split <;> simp
omit [Known] [Syms] in
theorem kill_get {h : Nat} {H : Hp} {blk : Blk} (hb : H[h]? = some blk) (j : Nat) : (kill h H)[j]? = if j = h then some (killB blk) else H[j]? := by
  unfold kill
  rw [hb]
  simp only [List.getElem?_set]
  have := lt_of_get hb
  by_cases hj : h = j
  · subst hj; simp [this]
  · rw [if_neg hj, if_neg (Ne.symm hj)]
omit [Known] in
/-- A row that sleeps. -/
theorem HRel.dead {ρ : Env} {H : Hp} {w : World} {N : Nat} (hH : HRel ρ H w N) (b : Blk) (hl : b.live = false) (hc : ∀ v ∈ b.cells, no1 v = true) : HRel ρ (H ++ [b]) w N := by
  refine ⟨?_, ?_, ?_, hH.base, ?_, ?_⟩
  · intro j c hj hl' ho
    rcases get_snoc hj with ⟨hj, _⟩ | ⟨_, rfl⟩
    · exact hH.own j c hj hl' ho
    · rw [hl] at hl'; cases hl'
  · intro j c hj hl' ho
    rcases get_snoc hj with ⟨hj, _⟩ | ⟨_, rfl⟩
    · exact hH.ro j c hj hl' ho
    · rw [hl] at hl'; cases hl'
  · intro i j ci cj hi hj h1 h2 h3 h4 hne
    rcases get_snoc hi with ⟨hi', _⟩ | ⟨_, rfl⟩
    · rcases get_snoc hj with ⟨hj', _⟩ | ⟨_, rfl⟩
      · exact hH.apart i j ci cj hi' hj' h1 h2 h3 h4 hne
      · rw [hl] at h2; cases h2
    · rw [hl] at h1; cases h1
  · intro j c hj v hv
    rw [List.length_append]
    rcases get_snoc hj with ⟨hj, _⟩ | ⟨_, rfl⟩
    · exact wf1_mono (by simp) (hH.wf j c hj v hv)
    · exact wf1_no (hc v hv)
  · intro j c hj v hv
    rcases get_snoc hj with ⟨hj, _⟩ | ⟨_, rfl⟩
    · exact hH.cell j c hj v hv
    · exact no1_cell (hc v hv)
omit [Known] in
/-- It wakes: the variable is made. -/
theorem HRel.wake {ρ : Env} {H : Hp} {w : World} {N : Nat} {h : Nat} {e : TypeId} {cs : List Value} (hH : HRel ρ (kill h H) w N) (hb : H[h]? = some ⟨e, cs, cs.length, true, true⟩) (hc : ∀ v ∈ cs, no1 v = true)
    (hno : ∀ b ∈ H, ∀ v ∈ b.cells, noref1 h v = true) : HRel (upd ρ h ⟨w.heap.size, 0, 1⟩) H (w.alloc (.cells cs.toArray e)) N := by
  have get := kill_get hb
  have oth : ∀ {j : Nat} {b : Blk}, H[j]? = some b → j ≠ h → (kill h H)[j]? = some b := fun {j b} hj hne => by rw [get, if_neg hne]; exact hj
  have map : ∀ {j : Nat} {b : Blk}, H[j]? = some b → b.cells.map (ren1 (upd ρ h ⟨w.heap.size, 0, 1⟩)) = b.cells.map (ren1 ρ) := fun {j b} hj =>
    List.map_congr_left fun v hv => ren1_noref ρ _ (hno b (List.mem_of_getElem? hj) v hv)
  have pl : ∀ {j : Nat}, j ≠ h → upd ρ h ⟨w.heap.size, 0, 1⟩ j = ρ j := fun {j} hne => by simp [upd, hne]
  have blt : ∀ {j : Nat} {b : Blk}, H[j]? = some b → j ≠ h → b.live = true → b.own = true → (ρ j).block < w.heap.size := fun {j b} hj hne hl ho => by
    obtain ⟨_, _, _, cur, h3, _⟩ := hH.own j b (oth hj hne) hl ho
    exact (Array.getElem?_eq_some_iff.1 h3).1
  refine ⟨?_, ?_, ?_, ?_, ?_, ?_⟩
  · intro j b hj hl ho
    by_cases hjh : j = h
    · subst hjh
      rw [hb] at hj
      simp only [Option.some.injEq] at hj
      subst hj
      rw [upd_same]
      refine ⟨rfl, hH.base, by simp [maxLen], cs.toArray, heap_alloc_new w _, by simp, ?_⟩
      rw [map hb, map_ren1_no ρ hc]
      simp
    · obtain ⟨h0, h1, h2, cur, h3, h4, h5⟩ := hH.own j b (oth hj hjh) hl ho
      rw [pl hjh]
      refine ⟨h0, h1, h2, cur, ?_, h4, ?_⟩
      · rw [Below.heap_alloc w _ _ (blt hj hjh hl ho)]; exact h3
      · rw [map hj]; exact h5
  · intro j b hj hl ho
    by_cases hjh : j = h
    · subst hjh
      rw [hb] at hj
      simp only [Option.some.injEq] at hj
      subst hj
      cases ho
    · obtain ⟨h1, h2⟩ := hH.ro j b (oth hj hjh) hl ho
      rw [pl hjh]
      refine ⟨h1, fun i v hv => ?_⟩
      rw [ren1_noref ρ _ (hno b (List.mem_of_getElem? hj) v (List.mem_of_getElem? hv)), World.cell?_alloc_lt _ _ _ (show (ρ j).block < w.heap.size from Nat.lt_of_lt_of_le h1 hH.base)]
      exact h2 i v hv
  · intro i j bi bj hi hj l1 l2 o1 o2 hne
    by_cases hih : i = h
    · have hjh : j ≠ h := fun e => hne (hih.trans e.symm)
      rw [hih, upd_same, pl hjh]
      have := blt hj hjh l2 o2
      simp only
      omega
    · by_cases hjh : j = h
      · rw [hjh, upd_same, pl hih]
        have := blt hi hih l1 o1
        simp only
        omega
      · rw [pl hih, pl hjh]
        exact hH.apart i j bi bj (oth hi hih) (oth hj hjh) l1 l2 o1 o2 hne
  · have := hH.base; simp; omega
  · intro j b hj v hv
    by_cases hjh : j = h
    · subst hjh
      rw [hb] at hj
      simp only [Option.some.injEq] at hj
      subst hj
      exact wf1_no (hc v hv)
    · have := hH.wf j b (oth hj hjh) v hv
      rw [kill_len] at this; exact this
  · intro j b hj v hv
    by_cases hjh : j = h
    · subst hjh
      rw [hb] at hj
      simp only [Option.some.injEq] at hj
      subst hj
      exact no1_cell (hc v hv)
    · exact hH.cell j b (oth hj hjh) v hv
omit [Known] [Syms] in
theorem allocAt_spec : ∀ {todo : List Oper} {b x : Nat} {e : TypeId}, allocAt todo b = some (x, e) →
    ∃ i o, x = b + i ∧ todo[i]? = some o ∧ o.op = .alloc e ∧ o.guard = none ∧ ∀ (j : Nat) (o' : Oper), todo[j]? = some o' → isAlloc o' = true → j = i
  | [], b, x, e, h => by simp [allocAt] at h
  | o :: r, b, x, e, h => by
    unfold allocAt at h
    split at h
    · rename_i e' ho
      cases hc : (o.guard.isNone && r.all fun o => !isAlloc o) with
      | false => rw [hc] at h; cases h
      | true =>
        rw [hc] at h
        simp only [cond_true, Option.some.injEq, Prod.mk.injEq] at h
        obtain ⟨rfl, rfl⟩ := h
        simp only [Bool.and_eq_true, Option.isNone_iff_eq_none, List.all_eq_true, Bool.not_eq_true'] at hc
        refine ⟨0, o, by omega, rfl, ho, hc.1, fun j o' hj ha => ?_⟩
        cases j with
        | zero => rfl
        | succ j =>
          have := hc.2 o' (List.mem_of_getElem? (by simpa using hj))
          rw [ha] at this; cases this
    · rename_i hne
      obtain ⟨i, o', h1, h2, h3, h4, h5⟩ := allocAt_spec h
      refine ⟨i + 1, o', by omega, by simpa using h2, h3, h4, fun j o'' hj ha => ?_⟩
      cases j with
      | zero =>
        simp only [List.getElem?_cons_zero, Option.some.injEq] at hj
        subst hj
        unfold isAlloc at ha
        split at ha
        · rename_i e2 ho2; exact absurd ho2 (hne e2)
        · cases ha
      | succ j => rw [h5 j o'' (by simpa using hj) ha]
omit [Known] [Syms] in
theorem sleepsAll_spec {h : Nat} {blk : Blk} : ∀ {hs : List Hp}, sleepsAll h blk hs = true → ∀ (c : Nat) (H : Hp), hs[c]? = some H → H[h]? = some blk ∧ ∀ b ∈ H, ∀ v ∈ b.cells, noref1 h v = true
  | [], _, c, H, hc => by simp at hc
  | H0 :: hs, hh, c, H, hc => by
    simp only [sleepsAll, Bool.and_eq_true] at hh
    cases c with
    | zero =>
      simp only [List.getElem?_cons_zero, Option.some.injEq] at hc
      subst hc
      have h1 := hh.1
      unfold sleeps at h1
      simp only [Bool.and_eq_true, List.all_eq_true] at h1
      refine ⟨?_, h1.2⟩
      have h2 := h1.1
      split at h2
      · rename_i b hb; rw [hb, eqB_spec h2]
      · cases h2
    | succ c => exact sleepsAll_spec hh.2 c H (by simpa using hc)
omit [Known] [Syms] in
theorem sameAsleep_spec {stp : Oper → Fr → Hp → Option (Value × Hp)} {eff : Oper → Bool} {h : Nat} {r : Rc} {own : Nat} : ∀ {ps : List Bool} {hs : List Hp} {c0 : Nat}, sameAsleep stp eff h r own ps hs c0 = true →
    ∀ (c : Nat) (H : Hp), hs[c]? = some H → ∀ p, ps[c]? = some p → (eff r.o = false → p = true → ∃ H'', stp r.o r.l (kill h H) = some (r.v, H'')) ∧
      (eff r.o = true → c0 + c = own → ∃ H', hs[c + 1]? = some H' ∧ stp r.o r.l (kill h H) = some (r.v, kill h H'))
  | [], _, _, _, c, H, _, p, hp => by simp at hp
  | _ :: _, [], _, _, c, H, hc, _, _ => by simp at hc
  | p :: ps, H0 :: hs, c0, hh, c, H, hc, q, hq => by
    simp only [sameAsleep, Bool.and_eq_true] at hh
    cases c with
    | zero =>
      simp only [List.getElem?_cons_zero, Option.some.injEq] at hc hq
      subst hc hq
      have h1 := hh.1
      refine ⟨fun he hp => ?_, fun he ho => ?_⟩
      · rw [he] at h1
        simp only [cond_false, hp, Bool.not_true, Bool.false_or] at h1
        split at h1
        · rename_i v H'' hv
          rw [eqV_spec h1] at hv
          exact ⟨H'', hv⟩
        · cases h1
      · rw [he] at h1
        have hb : Nat.beq c0 own = true := by simpa using ho
        simp only [cond_true, hb, Bool.not_true, Bool.false_or] at h1
        split at h1
        · rename_i H' hs'
          split at h1
          · rename_i v H'' hv
            simp only [Bool.and_eq_true] at h1
            rw [eqV_spec h1.1, eqH_spec h1.2] at hv
            exact ⟨H', rfl, hv⟩
          · cases h1
        · cases h1
    | succ c =>
      obtain ⟨g1, g2⟩ := sameAsleep_spec hh.2 c H (by simpa using hc) q (by simpa using hq)
      exact ⟨g1, fun he ho => by
        obtain ⟨H', k1, k2⟩ := g2 he (by omega)
        exact ⟨H', by simpa using k1, k2⟩⟩
omit [Known] [Syms] in
theorem allAsleep_spec {stp : Oper → Fr → Hp → Option (Value × Hp)} {eff : Oper → Bool} {h : Nat} {hs : List Hp} : ∀ {rs : List Rc} {ps : List (List Bool)} {ds : List Bool} {own : Nat}, allAsleep stp eff h hs rs ps ds own = true →
    ∀ (i : Nat) (r : Rc), rs[i]? = some r → isAlloc r.o = false → ds[i]? = some false → ∃ p, ps[i]? = some p ∧ noref3 h r.v = true ∧ sameAsleep stp eff h r (own + ((rs.take i).countP fun r => eff r.o)) p hs 0 = true
  | [], _, _, _, _, i, r, hr, _, _ => by simp at hr
  | _ :: _, [], _, _, hh, _, _, _, _, _ => by simp [allAsleep] at hh
  | _ :: _, _ :: _, [], _, hh, _, _, _, _, _ => by simp [allAsleep] at hh
  | r0 :: rs, p :: ps, d :: ds, own, hh, i, r, hr, ha, hd => by
    simp only [allAsleep, Bool.and_eq_true] at hh
    cases i with
    | zero =>
      simp only [List.getElem?_cons_zero, Option.some.injEq] at hr hd
      subst hr hd
      have h1 := hh.1
      rw [ha] at h1
      simp only [Bool.false_or, Bool.and_eq_true] at h1
      exact ⟨p, rfl, h1.1, by simpa using h1.2⟩
    | succ i =>
      obtain ⟨q, h1, h2, h3⟩ := allAsleep_spec hh.2 i r (by simpa using hr) ha (by simpa using hd)
      refine ⟨q, by simpa using h1, h2, ?_⟩
      cases he : eff r0.o with
      | true =>
        rw [he] at h3
        simp only [cond_true] at h3
        simp only [List.take_succ_cons, List.countP_cons, he, if_true]
        rw [show own + (((rs.take i).countP fun r => eff r.o) + 1) = own + 1 + ((rs.take i).countP fun r => eff r.o) by omega]
        exact h3
      | false =>
        rw [he] at h3
        simp only [cond_false] at h3
        simp only [List.take_succ_cons, List.countP_cons, he]
        simpa using h3
omit [Known] [Syms] in
theorem takeWhile_stop (p : Nat → Bool) : ∀ (l : List Nat) (e : Nat), l[(l.takeWhile p).length]? = some e → p e = false
  | [], e, h => by simp at h
  | x :: l, e, h => by
    cases hx : p x with
    | true =>
      simp only [List.takeWhile_cons, hx, if_true, List.length_cons, List.getElem?_cons_succ] at h
      exact takeWhile_stop p l e h
    | false =>
      simp only [List.takeWhile_cons, hx, Bool.false_eq_true, if_false, List.length_nil, List.getElem?_cons_zero, Option.some.injEq] at h
      rw [← h]; exact hx
theorem stepA_non {P : Program} {F : Fns} {m : Mach} {ops : Array Oper} {h : Nat} {o : Oper} {l : Fr} {H H' : Hp} {v : Value} (he : effA o = false) (hv : stepA P F m ops h o l H = some (v, H')) : H' = H := by
  unfold stepA at hv
  cases ha : isAlloc o with
  | true => rw [ha] at hv; simp only [cond_true, Option.some.injEq, Prod.mk.injEq] at hv; exact hv.2.symm
  | false =>
    rw [ha] at hv
    simp only [cond_false] at hv
    exact stepW_non (by simpa [effA, ha] using he) hv
theorem stepA_skip {P : Program} {F : Fns} {m : Mach} {ops : Array Oper} {h : Nat} {o : Oper} {l : Fr} {H H' : Hp} {v : Value} (hd : kData o = true) (hn : no3 v = true) (hv : stepA P F m ops h o l H = some (v, H')) (H1 : Hp) : ∃ H1', stepA P F m ops h o l H1 = some (v, H1') := by
  have ha : isAlloc o = false := by
    unfold kData at hd
    unfold isAlloc
    split at hd <;> (try cases hd) <;> rename_i ho <;> (split; (rename_i h2; rw [ho] at h2; cases h2); rfl)
  unfold stepA at hv ⊢
  rw [ha] at hv ⊢
  simp only [cond_false] at hv ⊢
  exact stepW_skip hd hn hv H1
theorem drawA_spec {P : Program} [KnownOk P] {F : Fns} {m : Mach} (hm : CallSound P m.call) (hF : ∀ f fn, F f = some fn → P.funcs[f]? = some fn) (hmix : P.follows .mixedOrders = true)
    {id : Nat} {ops : Array Oper} {l l' : Fr} {H H' : Hp} {x : AEx} (hv : drawA P F m ops l H = some (x, l', H')) {ρ : Env} {a : Act} {w : World} {N : Nat} (h : FRel ρ l a) (hw : WF H.length l) (hH : HRel ρ H w N)
    {Q : Exit → Act → World → Prop} (hQ : ∀ ρ' a w', x = .normal → FRel ρ' l' a → WF H'.length l' → HRel ρ' H' w' N → Agree H.length ρ ρ' → Below N w w' → H.length ≤ H'.length → Q .normal a w') :
    (Code.region id ops true).wp P Q a w := by
  unfold drawA at hv
  split at hv
  · rename_i x0 e hal
    split at hv
    · rename_i ti hti
      split at hv
      · rename_i z hz
        cases hcc : (no2 z && drawOk effA ops) with
        | false => rw [hcc] at hv; cases hv
        | true =>
          rw [hcc] at hv
          simp only [cond_true, fNat_eq, fCells_eq, fSnoc_eq] at hv
          simp only [Bool.and_eq_true] at hcc
          obtain ⟨hno, hd⟩ := hcc
          have hcno : ∀ v ∈ cellsOf z, no1 v = true := no2_cells hno
          obtain ⟨hs, rs, l2, H2, hp, hk⟩ := passS_spec (fun he h => stepA_non he h) ops.toList l _ [] [] _ _ h.small hv
          simp only [List.nil_append] at hk
          cases hs' : (allSame (stepA P F m ops H.length) effA hs rs (drawPoss effA ops) 0 && sleepsAll H.length ⟨e, cellsOf z, (cellsOf z).length, true, true⟩ (hs.take (sleepN ops x0 + 1)) &&
              allAsleep (stepA P F m ops H.length) effA H.length (hs.take (sleepN ops x0 + 1)) rs (drawPoss effA ops) (hangs ops x0) 0) with
          | false => rw [hs'] at hk; cases hk
          | true =>
            rw [hs'] at hk
            simp only [cond_true, Option.some.injEq, Prod.mk.injEq] at hk
            obtain ⟨rfl, rfl, rfl⟩ := hk
            simp only [Bool.and_eq_true] at hs'
            obtain ⟨⟨hsame, hsl⟩, has⟩ := hs'
            unfold drawOk at hd
            simp only [Bool.and_eq_true, List.all_eq_true] at hd
            obtain ⟨⟨hsel, hfree⟩, hchain⟩ := hd
            obtain ⟨xi, ox, hxe, hox, hoxop, hoxg, huniq⟩ := allocAt_spec hal
            rw [Nat.zero_add] at hxe
            subst hxe
            have hoxa : isAlloc ox = true := by simp [isAlloc, hoxop]
            have hlen0 : (H ++ [⟨e, cellsOf z, (cellsOf z).length, true, true⟩] : Hp).length = H.length + 1 := by simp
            let St : Array Bool → Nat → Env → World → Prop := fun listed n ρ' w' => ∃ c Hc, (∀ (j e : Nat), (effsOf effA ops.toList 0)[j]? = some e → (listed.getD e false = true ↔ j < c)) ∧ c ≤ (effsOf effA ops.toList 0).length ∧
              hs[c]? = some Hc ∧ n = Hc.length ∧ (listed.getD x0 false = true → HRel ρ' Hc w' N) ∧ (listed.getD x0 false = false → HRel ρ' (kill H.length Hc) w' N) ∧ Agree H.length ρ ρ' ∧ Below N w w' ∧ H.length ≤ Hc.length
            let Ok : Array Bool → Nat → Value → Prop := fun listed n u => wf3 n u = true ∧ (listed.getD x0 false = false → noref3 H.length u = true)
            refine wp_region_any hmix (draw_any (St := St) (Ok := Ok) hp hfree hsel h.small (fun _ _ _ h => h.1) ?_ ?_ _ _ _ _ (inv_start (n := H.length + 1) h ?_ (fun t => ⟨wf3_mono (Nat.le_succ _) (hw t), fun _ => noref3_wf (hw t)⟩)))
            · intro listed i o r n ρ' w1 a' hsz hcl ho hif hall hr ⟨c, Hc, hpre, hc, hHc, hn, hR1, hR2, hA, hB, hL⟩ hFR hwfo
              subst hn
              have hol : ops.toList[i]? = some o := by simpa using ho
              have hils : i < listed.size := by rw [hsz]; exact (Array.getElem?_eq_some_iff.1 ho).1
              obtain ⟨r', c', Hn, hr', _, heff, hneff, hst, hHn, hc', hpre'⟩ := step_here (fun he h => stepA_non he h) hp hchain (same_of_all hp (fun hd hn h H1 => stepA_skip hd hn h H1) hsame) hsz hcl ho hif hall hpre hc hHc
              rw [hr] at hr'
              simp only [Option.some.injEq] at hr'
              subst hr'
              have hro : r.o = o := by
                obtain ⟨r2, _, _, k1, k2, _⟩ := hp.fact i o hol
                rw [hr] at k1
                simp only [Option.some.injEq] at k1
                rw [k1]; exact k2
              by_cases hix : i = x0
              · -- the variable is made
                subst hix
                rw [hol] at hox
                simp only [Option.some.injEq] at hox
                subst hox
                have hnoeff : effA o = false := by simp [effA, hoxa]
                obtain ⟨rfl, _⟩ := hneff hnoeff
                rw [hHc] at hHn
                simp only [Option.some.injEq] at hHn
                subst hHn
                have hrv : r.v = .pointer (some ⟨H.length, 0, none⟩) := by
                  unfold stepA at hst
                  rw [hoxa] at hst
                  simp only [cond_true, Option.some.injEq, Prod.mk.injEq] at hst
                  exact hst.1.symm
                have hcs : c' ≤ sleepN ops i := by
                  rcases Nat.lt_or_ge (sleepN ops i) c' with hlt | hge
                  · exfalso
                    have hl2 : sleepN ops i < (effsOf effA ops.toList 0).length := by omega
                    have hg : (effsOf effA ops.toList 0)[sleepN ops i]? = some ((effsOf effA ops.toList 0)[sleepN ops i]) := List.getElem?_eq_getElem hl2
                    have hst2 := takeWhile_stop _ _ _ hg
                    have hle := (hpre _ _ hg).2 hlt
                    simp only [Bool.not_eq_false'] at hst2
                    have := comes_before hst2 hcl hle
                    rw [hif] at this; cases this
                  · exact hge
                obtain ⟨hrow, hnoref⟩ := sleepsAll_spec hsl c' Hc (by rw [List.getElem?_take, if_pos (by omega)]; exact hHc)
                have hwake := (hR2 hif).wake hrow hcno hnoref
                have hwant : Region.wanted o (yieldedL ops r.l) = true := by simp [Region.wanted, hoxg]
                rw [if_pos hwant]
                have hrun : (execOp a'.eval o).run P w1 = .ok (.value (.pointer (some ⟨w1.heap.size, 0, none⟩))) (w1.alloc (.cells (cellsOf z).toArray e)) := by
                  simp [execOp, hoxop, Instr.alloc, zeroValue, typeInfo, hti, hz, newVar, newRow, cellsOf]
                rw [hrun]
                refine ⟨Hc.length, upd ρ' H.length ⟨w1.heap.size, 0, 1⟩, ?_, ⟨c', Hc, hpre', hc', hHc, rfl, fun _ => hwake, ?_, hA.trans (Agree.upd _ _ _) (Nat.le_refl _), hB.alloc (hR2 hif).base _, hL⟩, fun y hy => ⟨ren3_noref ρ' _ (hy.2 hif), hy.1, ?_⟩, ?_, ?_⟩
                · rw [hrv, renPtr_new]
                · intro hf; rw [set_getD hils] at hf; simp at hf
                · intro hf; rw [set_getD hils] at hf; simp at hf
                · rw [hrv]
                  have := lt_of_get hrow
                  simpa [wf3, wf2, wf1] using this
                · intro hf; rw [set_getD hils] at hf; simp at hf
              · -- another operation
                have hna : isAlloc o = false := by
                  cases ha : isAlloc o with
                  | false => rfl
                  | true => exact absurd (huniq i o hol ha) hix
                have hxs : ∀ b, (listed.setIfInBounds i true).getD x0 false = b ↔ listed.getD x0 false = b := fun b => by rw [set_getD hils, if_neg (Ne.symm hix)]
                have hstW : ∀ G, stepA P F m ops H.length o r.l G = stepW P F m ops o r.l G := fun G => by unfold stepA; rw [hna]; rfl
                cases hxl : listed.getD x0 false with
                | true =>
                  rw [hstW] at hst
                  have conv : ∀ v w', CallPost ρ' Hc w1 N r.v Hn v w' → Next St Ok listed i Hc.length ρ' r.v v w' := by
                    rintro v w' ⟨ρ'', rfl, g1, g2, g3, g4, g5⟩
                    exact ⟨Hn.length, ρ'', rfl, ⟨c', Hn, hpre', hc', hHn, rfl, fun _ => g1, fun hf => (by rw [hxs, hxl] at hf; cases hf), hA.trans g2 hL, hB.trans g3, Nat.le_trans hL g4⟩,
                      fun y hy => ⟨ren3_agree g2 hy.1, wf3_mono g4 hy.1, fun hf => (by rw [hxs, hxl] at hf; cases hf)⟩, g5, fun hf => (by rw [hxs, hxl] at hf; cases hf)⟩
                  have := stepW_here hm hF hFR hwfo (hR1 hxl) hst
                  split
                  · rename_i hwb
                    rw [if_pos hwb] at this
                    exact this.mono conv
                  · rename_i hwb
                    rw [if_neg hwb] at this
                    exact conv _ _ this
                | false =>
                  have hcl' := closed_set hcl ho hils hall
                  have hnb : comesBefore (masksOf ops.toList []) x0 i = false := by
                    cases hcb : comesBefore (masksOf ops.toList []) x0 i with
                    | false => rfl
                    | true =>
                      have := comes_before hcb hcl' (by rw [set_getD hils]; simp)
                      rw [hxs, hxl] at this; cases this
                  have hilt : i < ops.size := by rw [← hsz]; exact hils
                  have hds : (hangs ops x0)[i]? = some false := by
                    unfold hangs
                    rw [List.getElem?_map, List.getElem?_range hilt]
                    simp only [Option.map_some, hnb]
                  obtain ⟨p, hps, hnor, hsm⟩ := allAsleep_spec has i r hr (by rw [hro]; exact hna) hds
                  rw [Nat.zero_add, own_of_recs hp] at hsm
                  have hcs : ∀ {k : Nat}, (∀ (j e : Nat), (effsOf effA ops.toList 0)[j]? = some e → ((listed.setIfInBounds i true).getD e false = true ↔ j < k)) → k ≤ (effsOf effA ops.toList 0).length → k ≤ sleepN ops x0 := by
                    intro k hpk hkl
                    rcases Nat.lt_or_ge (sleepN ops x0) k with hlt | hge
                    · exfalso
                      have hl2 : sleepN ops x0 < (effsOf effA ops.toList 0).length := by omega
                      have hg : (effsOf effA ops.toList 0)[sleepN ops x0]? = some ((effsOf effA ops.toList 0)[sleepN ops x0]) := List.getElem?_eq_getElem hl2
                      have hst2 := takeWhile_stop _ _ _ hg
                      have hle := (hpk _ _ hg).2 hlt
                      simp only [Bool.not_eq_false'] at hst2
                      have := comes_before hst2 hcl' hle
                      rw [hxs, hxl] at this; cases this
                    · exact hge
                  have hc's := hcs hpre' hc'
                  have hstep : stepW P F m ops o r.l (kill H.length Hc) = some (r.v, kill H.length Hn) := by
                    cases he : effA o with
                    | true =>
                      obtain ⟨h1, h2⟩ := heff he
                      have hq : ∃ q, p[c]? = some q := by
                        unfold drawPoss at hps
                        rw [List.getElem?_map, List.getElem?_range hilt] at hps
                        simp only [Option.map_some, Option.some.injEq] at hps
                        rw [← hps, List.getElem?_map, List.getElem?_range (by omega)]
                        exact ⟨_, rfl⟩
                      obtain ⟨q, hq⟩ := hq
                      obtain ⟨Hx, k1, k2⟩ := (sameAsleep_spec hsm c Hc (by rw [List.getElem?_take, if_pos (by omega)]; exact hHc) q hq).2 (by rw [hro]; exact he) (by omega)
                      rw [List.getElem?_take, if_pos (by omega), ← h2, hHn] at k1
                      simp only [Option.some.injEq] at k1
                      subst k1
                      rw [hro, hstW] at k2
                      exact k2
                    | false =>
                      obtain ⟨rfl, hposs⟩ := hneff he
                      rw [hHc] at hHn
                      simp only [Option.some.injEq] at hHn
                      subst hHn
                      have hpc : p[c']? = some true := by
                        unfold drawPoss at hps
                        rw [List.getElem?_map, List.getElem?_range hilt] at hps
                        simp only [Option.map_some, Option.some.injEq] at hps
                        rw [← hps, List.getElem?_map, List.getElem?_range (by omega)]
                        simp only [Option.map_some, hposs]
                      obtain ⟨Hx, k2⟩ := (sameAsleep_spec hsm c' Hc (by rw [List.getElem?_take, if_pos (by omega)]; exact hHc) true hpc).1 (by rw [hro]; exact he) rfl
                      rw [hro] at k2
                      have := stepA_non he k2
                      subst this
                      rw [hstW] at k2
                      exact k2
                  have conv : ∀ v w', CallPost ρ' (kill H.length Hc) w1 N r.v (kill H.length Hn) v w' → Next St Ok listed i Hc.length ρ' r.v v w' := by
                    rintro v w' ⟨ρ'', rfl, g1, g2, g3, g4, g5⟩
                    rw [kill_len] at g2 g4 g5
                    rw [kill_len] at g4
                    exact ⟨Hn.length, ρ'', rfl, ⟨c', Hn, hpre', hc', hHn, rfl, fun hf => (by rw [hxs, hxl] at hf; cases hf), fun _ => g1, hA.trans g2 hL, hB.trans g3, Nat.le_trans hL g4⟩,
                      fun y hy => ⟨ren3_agree g2 hy.1, wf3_mono g4 hy.1, fun _ => hy.2 hxl⟩, g5, fun _ => hnor⟩
                  have := stepW_here hm hF hFR (by rw [kill_len]; exact hwfo) (hR2 hxl) hstep
                  split
                  · rename_i hwb
                    rw [if_pos hwb] at this
                    exact this.mono conv
                  · rename_i hwb
                    rw [if_neg hwb] at this
                    exact conv _ _ this
            · intro listed n ρ' a1 w1 hall ⟨c, Hc, hpre, hc, hHc, hn, hR1, hR2, hA, hB, hL⟩ hFR hok
              subst hn
              have hce := pre_end hpre hc hall
              have hH2 := hp.last.1
              rw [← hce, hHc] at hH2
              simp only [Option.some.injEq] at hH2
              subst hH2
              exact hQ ρ' a1 w1 rfl hFR (fun t => (hok t).1) (hR1 (hall x0 (by simpa using lt_of_get hox))) hA hB hL
            · refine ⟨0, _, pre_start effA, Nat.zero_le _, hs_zero hp, hlen0.symm, fun hf => ?_, fun _ => ?_, Agree.refl _ _, (Below.refl N w).drew, by omega⟩
              · exfalso
                simp only [Array.getD_eq_getD_getElem?, Array.getElem?_replicate] at hf
                split at hf <;> simp at hf
              · have : kill H.length (H ++ [⟨e, cellsOf z, (cellsOf z).length, true, true⟩]) = H ++ [⟨e, cellsOf z, (cellsOf z).length, true, false⟩] := by
                  simp [kill, killB]
                rw [this]
                exact (hH.drew).dead _ rfl hcno
      · cases hv
    · cases hv
  · cases hv
theorem drawR_spec {P : Program} [KnownOk P] {F : Fns} {m : Mach} (hm : CallSound P m.call) (hF : ∀ f fn, F f = some fn → P.funcs[f]? = some fn) (hmix : P.follows .mixedOrders = true)
    {id : Nat} {ops : Array Oper} {l l' : Fr} {H H' : Hp} {x : AEx} (hv : drawR P F m ops l H = some (x, l', H')) {ρ : Env} {a : Act} {w : World} {N : Nat} (h : FRel ρ l a) (hw : WF H.length l) (hH : HRel ρ H w N)
    {Q : Exit → Act → World → Prop} (hQ : ∀ ρ' a w', x = .normal → FRel ρ' l' a → WF H'.length l' → HRel ρ' H' w' N → Agree H.length ρ ρ' → Below N w w' → H.length ≤ H'.length → Q .normal a w') :
    (Code.region id ops true).wp P Q a w := by
  unfold drawR at hv
  cases hpl : drawPlain ops with
  | true => rw [hpl] at hv; exact drawN_spec hm hF hmix hpl hv h hw hH hQ
  | false =>
    rw [hpl] at hv
    simp only [cond_false] at hv
    cases hd : drawOk isEff ops with
    | true => rw [hd] at hv; exact drawS_spec hm hF hmix hv h hw hH hQ
    | false => rw [hd] at hv; exact drawA_spec hm hF hmix hv h hw hH hQ
end Go.Proofs.Ytbelnopbggkdfaa.Lift
end

section
namespace Go.Proofs.Ytbelnopbggkdfaa.Lift
open Go.RowKit
variable [Known] [Syms]
def exOf : AEx → Exit
  | .normal => .normal
  | .exit id => .exit id
  | .ret => .ret
/-- What a piece of code comes to. -/
def Done (ρ : Env) (H : Hp) (w : World) (N : Nat) (x : AEx) (l' : Fr) (H' : Hp) (Q : Exit → Act → World → Prop) : Prop :=
  ∀ ρ' a' w', FRel ρ' l' a' → WF H'.length l' → HRel ρ' H' w' N → Agree H.length ρ ρ' → Below N w w' → H.length ≤ H'.length → Q (exOf x) a' w'
def Round (P : Program) (c : Code) (Q : Exit → Act → World → Prop) (a : Act) (w : World) : Prop :=
  ∀ (b : Frame) (k : List Item) (cs : List Frame), ∃ e a' w', Q e a' w' ∧ Arrives P (lone (b.at a (.code c :: .inLoop c :: k)) cs w) b k cs e a' w'
omit [Known] [Syms] in
theorem Round.loop {P : Program} {c : Code} {Q : Exit → Act → World → Prop} {a : Act} {w : World} (h : Round P c Q a w) : (Code.loop c).wp P Q a w := fun b k cs =>
  let ⟨e, a', w', q, r⟩ := h b k cs; ⟨e, a', w', q, .of_steps (.one step_loop) r⟩
omit [Known] [Syms] in
theorem Round.of {P : Program} {c : Code} {Q : Exit → Act → World → Prop} {a : Act} {w : World} (h : c.wp P (Exit.then (Round P c Q) Q) a w) : Round P c Q a w := by
  intro b k cs
  obtain ⟨e, a₁, w₁, hq, harr⟩ := h b (.inLoop c :: k) cs
  cases e with
  | normal =>
    obtain ⟨e₂, a₂, w₂, hq₂, harr₂⟩ := hq b k cs
    exact ⟨e₂, a₂, w₂, hq₂, .of_steps (Steps.trans harr (.one step_inLoop)) harr₂⟩
  | exit id => exact ⟨_, a₁, w₁, hq, .pass (x := .inLoop c) rfl (fun _ _ => .inl (by simp)) harr⟩
  | goto l => exact ⟨_, a₁, w₁, hq, .pass (x := .inLoop c) rfl (fun _ _ => .inl (by simp)) harr⟩
  | ret => exact ⟨_, a₁, w₁, hq, .pass (x := .inLoop c) rfl (fun _ _ => .inl (by simp)) harr⟩
  | panic ch => exact ⟨_, a₁, w₁, hq, .pass (x := .inLoop c) rfl (fun _ _ => .inl (by simp)) harr⟩
  | outgrown => exact ⟨_, a₁, w₁, hq, .pass (x := .inLoop c) rfl (fun _ _ => .inl (by simp)) harr⟩
def CodeSound (P : Program) (code : Code → Fr → Hp → Option (AEx × Fr × Hp)) : Prop :=
  ∀ c l H x l' H', code c l H = some (x, l', H') → ∀ ρ a w N, FRel ρ l a → WF H.length l → HRel ρ H w N → ∀ Q, Done ρ H w N x l' H' Q →
    c.wp P Q a w ∧ ∀ c', c = .loop c' → Round P c' Q a w
section ops
variable {P : Program} [KnownOk P] {F : Fns} {m : Mach} (hm : CallSound P m.call) (hF : ∀ f fn, F f = some fn → P.funcs[f]? = some fn)
include hm hF
theorem stepW_out {ops : Array Oper} {o : Oper} {a : Act} {ρ : Env} {l : Fr} {w : World} {v : Value} {H H' : Hp} {N : Nat} (h : FRel ρ l a) (hw : WF H.length l) (hH : HRel ρ H w N)
    (hv : stepW P F m ops o l H = some (v, H')) {K : Act → World → Prop} {Q : Exit → Act → World → Prop} (hK : ∀ r w', CallPost ρ H w N v H' r w' → K (a.put o.dst r) w') :
    if Region.wanted o (yielded ops a.tmps) then o.wp P a w K Q ∨ (o.asks P a w ∧ LetsOut Q) else K (a.put o.dst undef) w := by
  rw [wanted_spec h ops o]
  rw [stepW_eq] at hv
  cases hwb : Region.wanted o (yieldedL ops l) with
  | true =>
    rw [hwb] at hv
    simp only [cond_true] at hv
    simp only [if_true]
    left
    unfold Oper.wp
    exact Out.upon (stepS_spec hm hF h (fun x _ v hv => evalL_wf hw hv) hH hv) hK
  | false =>
    rw [hwb] at hv
    simp only [cond_false, Option.some.injEq, Prod.mk.injEq] at hv
    simp only [Bool.false_eq_true, if_false]
    obtain ⟨rfl, rfl⟩ := hv
    exact hK undef w ⟨ρ, (ren3_undef _).symm, hH, Agree.refl _ _, Below.refl _ _, Nat.le_refl _, wf3_undef _⟩
theorem opsS_spec {ops : Array Oper} (todo : List Oper) : ∀ (l : Fr) (H : Hp) (x : AEx) (l' : Fr) (H' : Hp), opsS P F m ops todo l H = some (x, l', H') → ∀ ρ a w N, FRel ρ l a → WF H.length l → HRel ρ H w N →
    ∀ Q, Done ρ H w N x l' H' Q → wpList P ops Q todo a w := by
  induction todo with
  | nil =>
    intro l H x l' H' hv ρ a w N h hw hH Q hQ
    replace hv : some (AEx.normal, l, H) = some (x, l', H') := hv
    simp only [Option.some.injEq, Prod.mk.injEq] at hv
    obtain ⟨rfl, rfl, rfl⟩ := hv
    exact hQ ρ a w h hw hH (Agree.refl _ _) (Below.refl _ _) (Nat.le_refl _)
  | cons o todo ih =>
    intro l H x l' H' hv ρ a w N h hw hH Q hQ
    replace hv : opS P F m ops o l H (fun l H => opsS P F m ops todo l H) = some (x, l', H') := hv
    unfold opS at hv
    split at hv
    · rename_i v H1 hst
      obtain ⟨_, _, _, _⟩ := h
      rename_i hd hsz hsm hsl
      have h : FRel ρ l a := ⟨hd, hsz, hsm, hsl⟩
      unfold wpList
      refine stepW_out hm hF h hw hH hst fun r w' hr => ?_
      obtain ⟨ρ', rfl, g1, g2, g3, g4, g5⟩ := hr
      obtain ⟨l1, hput, hF1, hW1⟩ := fPut_spec (h.agree hw g2) o.dst v
      rw [hput] at hv
      exact ih l1 H1 x l' H' hv ρ' _ w' N hF1 (hW1 _ (hw.mono g4) g5) g1 Q fun ρ'' a' w'' q1 q2 q3 q4 q5 q6 => hQ ρ'' a' w'' q1 q2 q3 (g2.trans q4 g4) (g3.trans q5) (Nat.le_trans g4 q6)
    · cases hv
theorem codeS_spec (hmix : P.follows .mixedOrders = true) (hc : CodeSound P m.code) : CodeSound P (codeS P F m) := by
  intro c l H x l' H' hv ρ a w N h hw hH Q hQ
  have now : ∀ {y : AEx}, some (y, l, H) = some (x, l', H') → Q (exOf y) a w := by
    intro y hy
    simp only [Option.some.injEq, Prod.mk.injEq] at hy
    obtain ⟨rfl, rfl, rfl⟩ := hy
    exact hQ ρ a w h hw hH (Agree.refl _ _) (Below.refl _ _) (Nat.le_refl _)
  -- one piece, then another
  have seq : ∀ (c1 : Code) (y : Code) (K : Act → World → Prop), (∀ l1 H1 x1 l2 H2, m.code y l1 H1 = some (x1, l2, H2) → ∀ ρ1 a1 w1, FRel ρ1 l1 a1 → WF H1.length l1 → HRel ρ1 H1 w1 N → Done ρ1 H1 w1 N x1 l2 H2 Q → K a1 w1) →
      thenS m y (m.code c1 l H) = some (x, l', H') → c1.wp P (Exit.then K Q) a w := by
    intro c1 y K hK hv
    cases hr : m.code c1 l H with
    | none => rw [hr] at hv; cases hv
    | some r =>
      obtain ⟨x1, l1, H1⟩ := r
      rw [hr] at hv
      refine (hc c1 l H x1 l1 H1 hr ρ a w N h hw hH (Exit.then K Q) ?_).1
      intro ρ1 a1 w1 q1 q2 q3 q4 q5 q6
      cases x1 with
      | normal =>
        exact hK l1 H1 x l' H' hv ρ1 a1 w1 q1 q2 q3 fun ρ2 a2 w2 r1 r2 r3 r4 r5 r6 => hQ ρ2 a2 w2 r1 r2 r3 (q4.trans r4 q6) (q5.trans r5) (Nat.le_trans q6 r6)
      | exit id =>
        simp only [thenS, Option.some.injEq, Prod.mk.injEq] at hv
        obtain ⟨rfl, rfl, rfl⟩ := hv
        exact hQ ρ1 a1 w1 q1 q2 q3 q4 q5 q6
      | ret =>
        simp only [thenS, Option.some.injEq, Prod.mk.injEq] at hv
        obtain ⟨rfl, rfl, rfl⟩ := hv
        exact hQ ρ1 a1 w1 q1 q2 q3 q4 q5 q6
  unfold codeS at hv
  split at hv
  · exact ⟨wp_skip (now hv), fun _ h => by cases h⟩
  · exact ⟨wp_label (now hv), fun _ h => by cases h⟩
  · exact ⟨wp_exit (now hv), fun _ h => by cases h⟩
  · exact ⟨wp_ret (now hv), fun _ h => by cases h⟩
  · rename_i c1 y
    exact ⟨wp_seq (seq c1 y _ (fun l1 H1 x1 l2 H2 hy ρ1 a1 w1 q1 q2 q3 q4 => (hc y l1 H1 x1 l2 H2 hy ρ1 a1 w1 N q1 q2 q3 Q q4).1) hv), fun _ h => by cases h⟩
  · rename_i cnd c1 y
    refine ⟨?_, fun _ h => by cases h⟩
    unfold condS at hv
    split at hv
    · rename_i he
      exact wp_cond (t := true) (by rw [evalL_spec h he]; rfl) (by simpa using (hc c1 l H x l' H' hv ρ a w N h hw hH Q hQ).1)
    · rename_i he
      exact wp_cond (t := false) (by rw [evalL_spec h he]; rfl) (by simpa using (hc y l H x l' H' hv ρ a w N h hw hH Q hQ).1)
    · cases hv
  · rename_i id c1
    refine ⟨?_, fun _ h => by cases h⟩
    cases hr : m.code c1 l H with
    | none => rw [hr] at hv; cases hv
    | some r =>
      obtain ⟨x1, l1, H1⟩ := r
      rw [hr] at hv
      refine wp_block ((hc c1 l H x1 l1 H1 hr ρ a w N h hw hH _ ?_).1)
      intro ρ1 a1 w1 q1 q2 q3 q4 q5 q6
      cases x1 with
      | exit id' =>
        simp only [blockS] at hv
        split at hv
        · rename_i hid
          simp only [Option.some.injEq, Prod.mk.injEq] at hv
          obtain ⟨rfl, rfl, rfl⟩ := hv
          simp only [exOf, Exit.inBlock, hid, if_true]
          exact hQ ρ1 a1 w1 q1 q2 q3 q4 q5 q6
        · rename_i hid
          simp only [Option.some.injEq, Prod.mk.injEq] at hv
          obtain ⟨rfl, rfl, rfl⟩ := hv
          simp only [exOf, Exit.inBlock, hid, if_false]
          exact hQ ρ1 a1 w1 q1 q2 q3 q4 q5 q6
      | normal =>
        simp only [blockS, Option.some.injEq, Prod.mk.injEq] at hv
        obtain ⟨rfl, rfl, rfl⟩ := hv
        exact hQ ρ1 a1 w1 q1 q2 q3 q4 q5 q6
      | ret =>
        simp only [blockS, Option.some.injEq, Prod.mk.injEq] at hv
        obtain ⟨rfl, rfl, rfl⟩ := hv
        exact hQ ρ1 a1 w1 q1 q2 q3 q4 q5 q6
  · rename_i c1
    have hround : Round P c1 Q a w := Round.of (seq c1 (.loop c1) _ (fun l1 H1 x1 l2 H2 hy ρ1 a1 w1 q1 q2 q3 q4 => (hc (.loop c1) l1 H1 x1 l2 H2 hy ρ1 a1 w1 N q1 q2 q3 Q q4).2 c1 rfl) hv)
    exact ⟨hround.loop, fun c' he => by cases he; exact hround⟩
  · rename_i id ops draw
    refine ⟨?_, fun _ h => by cases h⟩
    cases draw with
    | true =>
      simp only [cond_true] at hv
      refine drawR_spec hm hF hmix hv h hw hH fun ρ' a' w' hx q1 q2 q3 q4 q5 q6 => ?_
      have := hQ ρ' a' w' q1 q2 q3 q4 q5 q6
      rw [hx] at this
      exact this
    | false =>
      simp only [cond_false] at hv
      exact wp_region_list (opsS_spec hm hF ops.toList l H x l' H' hv ρ a w N h hw hH Q hQ)
  · cases hv
end ops
omit [Known] [Syms] in
theorem run_loadVar {P : Program} {t : TypeId} {ad : Addr} {w : World} {v : Value} (h : (Instr.loadAt t (.pointer (some ad))).run P w = .ok v w) : (loadVar t ad).run P w = .ok v w := by
  simpa [Instr.loadAt, Instr.sureAddr] using h
def resOne (tmps : Array Value) : ResultVar → Sem Value
  | .tmp t => pure (tmps.getD t undef)
  | .cell a t => do loadVar t (← asAddr (tmps.getD a undef))
omit [Known] in
theorem aResult_spec {P : Program} {ρ : Env} {l : Fr} {a : Act} {H : Hp} {w : World} {N : Nat} (h : FRel ρ l a) (hH : HRel ρ H w N) {r : ResultVar} {v : Value} (hv : aResult P l H r = some v) :
    (resOne a.tmps r).run P w = .ok (ren3 ρ v) w := by
  unfold aResult at hv
  split at hv
  · simp only [Option.some.injEq] at hv
    subst hv
    simp only [resOne, Sem.run_pure, h.slot]
  · rename_i s t
    have ptr : ∀ {p : Addr}, l.get s = .pointer (some p) → p.spot.isNone = true → a.tmps.getD s undef = .pointer (some ⟨(ρ p.block).block, (ρ p.block).off + p.off, none⟩) := by
      intro p hp hs
      rw [h.slot, hp]
      simp only [ren3, ren2, ren1]
      rw [renA_plain ρ hs]
    split at hv
    · rename_i p n hp hr hn
      split at hv
      · rename_i hs
        cases hseg : segOf H p.block p.off n with
        | none => rw [hseg] at hv; cases hv
        | some cs =>
          rw [hseg] at hv
          simp only [Option.map_some, Option.some.injEq] at hv
          subst hv
          have hrun := run_loadVar (run_loadAt_row (P := P) hr hn w _ _ _ (by rw [List.length_map]; exact segOf_len hseg) (segOf_at hseg hH))
          simp only [resOne, ptr hp hs, asAddr, Sem.run_bind, Sem.run_pure, Result.andThen_ok, hrun, map_toArray]
          rfl
      · cases hv
    · rename_i p _ hp hr
      split at hv
      · rename_i hs
        split at hv
        · rename_i u hseg
          simp only [Option.some.injEq] at hv
          subst hv
          have hc := segOf_at hseg hH 0 (ren1 ρ u) (by simp)
          have hcell := (segOf_mem hseg hH u (by simp)).2
          have hrun := run_loadVar (run_loadAt_cell (P := P) hr w _ _ (by simpa using hc))
          simp only [resOne, ptr hp hs, asAddr, Sem.run_bind, Sem.run_pure, Result.andThen_ok, hrun, ren3_cell ρ hcell]
        · cases hv
      · cases hv
    · cases hv
omit [Known] [Syms] in
theorem results_eq (fn : Func) (tmps : Array Value) : results fn tmps = (do let vs ← fn.results.mapM (resOne tmps); pure (if h : vs.size = 1 then vs[0] else .tuple vs)) := by
  unfold results
  congr 1
omit [Known] in
theorem aResults_spec {P : Program} {ρ : Env} {l : Fr} {a : Act} {H : Hp} {w : World} {N : Nat} (h : FRel ρ l a) (hH : HRel ρ H w N) {fn : Func} {v : Value} (hv : aResults P fn l H = some v) :
    (results fn a.tmps).run P w = .ok (ren3 ρ v) w := by
  rw [results_eq]
  have lit : ∀ {rs : List ResultVar}, fn.results.toList = rs → fn.results = rs.toArray := fun h => by rw [← h]
  unfold aResults at hv
  split at hv
  · rename_i r hr
    rw [lit hr]
    simp [aResult_spec h hH hv]
  · rename_i hr
    simp only [Option.some.injEq] at hv
    subst hv
    rw [lit hr]
    simp [ren3]
  · rename_i r s hr
    rw [lit hr]
    split at hv
    · rename_i u1 u2 h1 h2
      split at hv
      · cases hv
      · rename_i ht
        simp only [Bool.or_eq_true, not_or, Bool.not_eq_true] at ht
        simp only [Option.some.injEq] at hv
        subst hv
        have e : ren3 ρ (.tuple #[u1, u2]) = .tuple #[ren3 ρ u1, ren3 ρ u2] := by
          rw [ren3_flat ρ ht.1, ren3_flat ρ ht.2]; simp [ren3]
        rw [e]
        simp [aResult_spec h hH h1, aResult_spec h hH h2]
    · cases hv
  · rename_i r s t hr
    rw [lit hr]
    split at hv
    · rename_i u1 u2 u3 h1 h2 h3
      split at hv
      · cases hv
      · rename_i ht
        simp only [Bool.or_eq_true, not_or, Bool.not_eq_true] at ht
        simp only [Option.some.injEq] at hv
        subst hv
        have e : ren3 ρ (.tuple #[u1, u2, u3]) = .tuple #[ren3 ρ u1, ren3 ρ u2, ren3 ρ u3] := by
          rw [ren3_flat ρ ht.1.1, ren3_flat ρ ht.1.2, ren3_flat ρ ht.2]; simp [ren3]
        rw [e]
        simp [aResult_spec h hH h1, aResult_spec h hH h2, aResult_spec h hH h3]
    · cases hv
  · cases hv
omit [Known] [Syms] in
theorem fPuts_spec : ∀ (vs : List Value) (l : Fr) (i : Nat), l.n ≤ 1000000 → i + vs.length ≤ l.n →
    ∃ l', (∀ {β : Type} (k : Fr → β), fPuts l i vs k = k l') ∧ l'.n = l.n ∧ ∀ t, l'.get t = if i ≤ t ∧ t < i + vs.length then vs.getD (t - i) undef else l.get t
  | [], l, i, _, _ => ⟨l, fun k => rfl, rfl, fun t => by rw [if_neg (fun h => by have h2 := h.2; simp at h2; omega)]⟩
  | v :: vs, l, i, hn, hl => by
    simp only [List.length_cons] at hl
    obtain ⟨l1, hput, hrel⟩ := fPut_get hn (some i) v
    obtain ⟨l2, h1, h2, h3⟩ := fPuts_spec vs l1 (i + 1) (by rw [hrel.1]; exact hn) (by rw [hrel.1]; omega)
    refine ⟨l2, fun k => ?_, by rw [h2, hrel.1], fun t => ?_⟩
    · have e : fPuts l i (v :: vs) k = fPut l (some i) v fun l => fPuts l (i + 1) vs k := rfl
      rw [e, hput, h1]
    · rw [h3, hrel.2]
      simp only [List.length_cons]
      by_cases hti : t = i
      · subst hti
        rw [if_neg (by omega), if_pos ⟨rfl, by omega⟩, if_pos ⟨by omega, by omega⟩]
        simp
      · rw [if_neg (c := some i = some t ∧ t < l.n) (fun h => hti (by simpa using h.1.symm))]
        by_cases hc : i + 1 ≤ t ∧ t < i + 1 + vs.length
        · rw [if_pos hc, if_pos (by omega)]
          obtain ⟨d, hd⟩ : ∃ d, t - i = d + 1 := ⟨t - i - 1, by omega⟩
          rw [hd, show t - (i + 1) = d by omega]
          simp
        · rw [if_neg hc, if_neg (by omega)]
omit [Known] in
theorem bodyS_spec {P : Program} {m : Mach} (hc : CodeSound P m.code) {g : FuncId} {fn : Func} (hf : P.funcs[g]? = some fn) {vs : List Value} {H : Hp} {v : Value} {H' : Hp} (hv : bodyS P m fn vs H = some (v, H'))
    {ρ : Env} {w : World} {N : Nat} (hH : HRel ρ H w N) (hvs : ∀ u ∈ vs, wf3 H.length u = true) : Calls P g (vs.map (ren3 ρ)).toArray w (endPost (CallPost ρ H w N v H')) := by
  unfold bodyS at hv
  split at hv
  · rename_i c hb
    split at hv
    · rename_i hcc
      simp only [Bool.and_eq_true, decide_eq_true_eq] at hcc
      obtain ⟨l0, hput, hn0, hg0⟩ := fPuts_spec vs ⟨fn.ntmps, .nil⟩ 0 hcc.2 (by simpa using hcc.1)
      rw [hput] at hv
      have hget : ∀ t, l0.get t = vs.getD t undef := fun t => by
        rw [hg0]
        split
        · rfl
        · rename_i hh
          rw [List.getD_eq_getElem?_getD, List.getElem?_eq_none (by omega)]; rfl
      have hFR : FRel ρ l0 { tmps := (vs.map (ren3 ρ)).toArray ++ Array.replicate (fn.ntmps - (vs.map (ren3 ρ)).toArray.size) undef, defers := [] } := by
        refine ⟨rfl, ?_, by rw [hn0]; exact hcc.2, fun t => ?_⟩
        · rw [hn0]; simp; omega
        · rw [hget]
          simp only [Array.getD_eq_getD_getElem?, List.getD_eq_getElem?_getD]
          by_cases ht : t < vs.length
          · rw [Array.getElem?_append_left (by simpa using ht)]
            simp [ht]
          · have h1 : vs[t]? = none := List.getElem?_eq_none (Nat.le_of_not_lt ht)
            rw [Array.getElem?_append_right (by simpa using Nat.le_of_not_lt ht), h1, Array.getElem?_replicate]
            split <;> simp [ren3_undef]
      have hWF : WF H.length l0 := fun t => by
        rw [hget, List.getD_eq_getElem?_getD]
        cases ht : vs[t]? with
        | none => exact wf3_undef _
        | some u => exact hvs u (List.mem_of_getElem? ht)
      cases hr : m.code c l0 H with
      | none => rw [hr] at hv; cases hv
      | some r =>
        obtain ⟨x, l', H1⟩ := r
        rw [hr] at hv
        refine calls_of_wp hf hb ((hc c l0 H x l' H1 hr ρ _ w N hFR hWF hH _ ?_).1)
        intro ρ1 a1 w1 q1 q2 q3 q4 q5 q6
        have fin : ∀ {u : Value}, aResults P fn l' H1 = some u → aWf H1 u = some (v, H') → a1.defers = [] ∧ ∃ r, (results fn a1.tmps).run P w1 = .ok r w1 ∧ endPost (CallPost ρ H w N v H') (.returned r) w1 := by
          intro u hu hwf
          unfold aWf at hwf
          split at hwf
          · rename_i hw3
            simp only [Option.some.injEq, Prod.mk.injEq] at hwf
            obtain ⟨rfl, rfl⟩ := hwf
            exact ⟨q1.defers, _, aResults_spec q1 q3 hu, ρ1, rfl, q3, q4, q5, q6, hw3⟩
          · cases hwf
        cases x with
        | exit id => simp [endS] at hv
        | normal =>
          simp only [endS] at hv
          split at hv
          · rename_i u hu; exact fin hu hv
          · cases hv
        | ret =>
          simp only [endS] at hv
          split at hv
          · rename_i u hu; exact fin hu hv
          · cases hv
    · cases hv
  · cases hv
/-- What is already known of some calls. -/
def OrcSound (P : Program) (O : Orc) : Prop := CallSound P O
/-- Whatever the second machine tells of a call, the model's call does. -/
theorem mach_sound {P : Program} [KnownOk P] {F : Fns} {O : Orc} (hF : ∀ f fn, F f = some fn → P.funcs[f]? = some fn) (hmix : P.follows .mixedOrders = true) (hO : OrcSound P O) :
    ∀ n, CallSound P (mach P F O n).call ∧ CodeSound P (mach P F O n).code
  | 0 => ⟨fun g vs H v H' h => (by cases h), fun c l H x l' H' h => (by cases h)⟩
  | n + 1 => by
    obtain ⟨h1, h2⟩ := mach_sound hF hmix hO n
    refine ⟨fun g vs H v H' hv ρ w N hH hvs => ?_, codeS_spec h1 hF hmix h2⟩
    replace hv : callF P F O (mach P F O n) g vs H = some (v, H') := hv
    unfold callF at hv
    split at hv
    · rename_i r hr
      simp only [Option.some.injEq] at hv
      subst hv
      exact hO g vs H v H' hr ρ w N hH hvs
    · split at hv
      · rename_i fn hfn
        exact bodyS_spec h2 (hF _ _ hfn) hv hH hvs
      · cases hv
end Go.Proofs.Ytbelnopbggkdfaa.Lift
end

section
namespace Go.Proofs.Ytbelnopbggkdfaa.Lift
noncomputable def fnList : List Func := [Try.f3, Try.f4, Try.f5, Try.f6, Try.f7, Try.f8, Try.f9, Try.f10, Try.f11, Try.f12, Try.f13, Try.f14, Try.f15, Try.f16, Try.f17, Try.f18, Try.f19, Try.f20, Try.f21, Try.f22, Try.f23, Try.f24, Try.f25, Try.f26, Try.f27, Try.f28, Try.f29, Try.f30, Try.f31, Try.f32, Try.f33, Try.f34, Try.f35, Try.f36, Try.f37, Try.f38, Try.f39, Try.f40, Try.f41, Try.f42, Try.f43, Try.f44, Try.f45, Try.f46, Try.f47, Try.f48, Try.f49, Try.f50, Try.f51, Try.f52, Try.f53, Try.f54, Try.f55, Try.f56, Try.f57, Try.f58, Try.f59, Try.f60, Try.f61, Try.f62, Try.f63, Try.f64, Try.f65, Try.f66, Try.f67, Try.f68, Try.f69, Try.f70, Try.f71, Try.f72, Try.f73, Try.f74, Try.f75, Try.f76, Try.f77, Try.f78, Try.f79, Try.f80, Try.f81, Try.f82, Try.f83, Try.f84, Try.f85, Try.f86, Try.f87, Try.f88, Try.f89, Try.f90, Try.f91, Try.f92, Try.f93, Try.f94, Try.f95, Try.f96, Try.f97, Try.f98, Try.f99, Try.f100, Try.f101, Try.f102]
noncomputable def fns : Fns := fun f => if f < 3 then none else fnList[f - 3]?
theorem fns_list : fnList.map some = (List.range 100).map (fun j => Try.prog.funcs[3 + j]?) := by kernel_rfl
theorem fns_ok (f : FuncId) (fn : Func) (h : fns f = some fn) : Try.prog.funcs[f]? = some fn := by
  unfold fns at h
  by_cases h3 : f < 3
  · rw [if_pos h3] at h; cases h
  · rw [if_neg h3] at h
    have h1 : (fnList.map some)[f - 3]? = some (some fn) := by rw [List.getElem?_map, h]; rfl
    rw [fns_list, List.getElem?_map] at h1
    have hlt : f - 3 < 100 := by
      by_cases hl : f - 3 < 100
      · exact hl
      · rw [List.getElem?_eq_none (by simpa using hl)] at h1; cases h1
    rw [List.getElem?_range hlt] at h1
    have h2 : Try.prog.funcs[3 + (f - 3)]? = some fn := by simpa using h1
    have e : 3 + (f - 3) = f := by simp only [FuncId] at *; omega
    rw [e] at h2; exact h2
end Go.Proofs.Ytbelnopbggkdfaa.Lift
end

section
namespace Go.Proofs.Ytbelnopbggkdfaa.Lift
open Go.RowKit
instance (priority := low) noK : Known := ⟨fun _ _ _ => none, fun _ _ => none, fun _ _ _ => none, fun _ _ => none⟩
instance (priority := low) noS : Syms := ⟨fun _ => .int .i64 0, fun _ => rfl, fun _ _ h => by cases h⟩
instance noK_ok [Syms] : @KnownOk noK _ Try.prog := ⟨fun h => (by cases h), fun h => (by cases h), fun h => (by cases h), fun h => (by cases h)⟩
theorem mixed : Try.prog.follows .mixedOrders = true := by kernel_rfl
noncomputable def noO : Orc := fun _ _ _ => none
theorem noO_sound [Syms] : OrcSound Try.prog noO := fun _ _ _ _ _ h => by cases h
/-- An environment for a call that has no rows yet. -/
def env0 : Env := fun _ => ⟨0, 0, 0⟩
end Go.Proofs.Ytbelnopbggkdfaa.Lift
end

section
namespace Go.Proofs.Ytbelnopbggkdfaa.Lift
open Go.RowKit
/-- What is known: of these arguments this comes, and these rows. -/
structure Ent where
  args : List Value
  val : Value
  rows : Hp
noncomputable def findE (vs : List Value) : List Ent → Option (Value × Hp)
  | [] => none
  | e :: r => bif eqL vs e.args then some (e.val, e.rows) else findE vs r
noncomputable def findF (g : FuncId) : List (FuncId × List Ent) → List Ent
  | [] => []
  | (f, es) :: r => bif Nat.beq g f then es else findF g r
noncomputable def tabO (T : List (FuncId × List Ent)) : Orc := fun g vs H =>
  match H with
  | [] => findE vs (findF g T)
  | _ => none
variable [Syms]
def Good (f : FuncId) (e : Ent) : Prop := ∀ ρ w N, HRel ρ [] w N → Calls Try.prog f (e.args.map (ren3 ρ)).toArray w (endPost (CallPost ρ [] w N e.val e.rows))
def AllGood (f : FuncId) : List Ent → Prop
  | [] => True
  | e :: r => Good f e ∧ AllGood f r
def TabGood : List (FuncId × List Ent) → Prop
  | [] => True
  | (f, es) :: r => AllGood f es ∧ TabGood r
theorem findE_good {f : FuncId} {vs : List Value} {v : Value} {H' : Hp} : ∀ {es : List Ent}, AllGood f es → findE vs es = some (v, H') → ∃ e, Good f e ∧ e.args = vs ∧ e.val = v ∧ e.rows = H'
  | [], _, h => by cases h
  | e :: r, hg, h => by
    simp only [findE] at h
    cases hc : eqL vs e.args with
    | true =>
      rw [hc] at h
      simp only [cond_true, Option.some.injEq, Prod.mk.injEq] at h
      exact ⟨e, hg.1, (eqL_spec hc).symm, h.1, h.2⟩
    | false =>
      rw [hc] at h
      exact findE_good hg.2 h
theorem findF_good {g : FuncId} : ∀ {T : List (FuncId × List Ent)}, TabGood T → AllGood g (findF g T)
  | [], _ => trivial
  | (f, es) :: r, hg => by
    simp only [findF]
    cases hc : Nat.beq g f with
    | true =>
      have e : g = f := Nat.eq_of_beq_eq_true hc
      simp only [cond_true]
      rw [e]; exact hg.1
    | false => exact findF_good hg.2
theorem tabO_sound {T : List (FuncId × List Ent)} (h : TabGood T) : OrcSound Try.prog (tabO T) := by
  intro g vs H v H' hv ρ w N hH hvs
  unfold tabO at hv
  split at hv
  · obtain ⟨e, he, rfl, rfl, rfl⟩ := findE_good (findF_good h) hv
    exact he ρ w N hH
  · cases hv
/-- A plain value, told by the second machine: its rows forgotten. -/
theorem good_flat [Known] [KnownOk Try.prog] {O : Orc} (hO : OrcSound Try.prog O) {n : Nat} {g : FuncId} {vs : List Value} {v : Value} (hv : ((mach Try.prog fns O n).call g vs []).map Prod.fst = some v) (hn : vs.all no3 = true) (hno : no3 v = true) : Good g ⟨vs, v, []⟩ := by
  intro ρ w N hH
  cases hr : (mach Try.prog fns O n).call g vs [] with
  | none => rw [hr] at hv; cases hv
  | some r =>
    obtain ⟨u, H'⟩ := r
    rw [hr] at hv
    simp only [Option.map_some, Option.some.injEq] at hv
    subst hv
    refine ((mach_sound fns_ok mixed hO n).1 g vs [] u H' hr ρ w N hH (fun x hx => wf3_no (List.all_eq_true.1 hn x hx))).mono fun e w' he => ?_
    cases e with
    | returned r =>
      obtain ⟨ρ', rfl, h1, h2, h3, _, _⟩ := he
      exact ⟨ρ', rfl, ⟨by simp, by simp, by simp, h1.base, by simp, by simp⟩, h2, h3, Nat.le_refl _, wf3_no hno⟩
    | _ => exact he
end Go.Proofs.Ytbelnopbggkdfaa.Lift
end

section
namespace Go.Proofs.Ytbelnopbggkdfaa.Lift
set_option maxRecDepth 100000
variable [Syms]
noncomputable def rowOf1 : Ent := ⟨[.int .i64 1], .agg #[.string ⟨#[105, 100]⟩, .int .i64 1, .int .i64 0, .int .i64 1], []⟩
theorem rowOf1_good : Good 78 rowOf1 := good_flat noO_sound (n := 2000) (v := rowOf1.val) (by kernel_rfl) (by kernel_rfl) (by kernel_rfl)
noncomputable def rowOf2 : Ent := ⟨[.int .i64 2], .agg #[.string ⟨#[120]⟩, .int .i64 1, .int .i64 0, .int .i64 2], []⟩
theorem rowOf2_good : Good 78 rowOf2 := good_flat noO_sound (n := 2000) (v := rowOf2.val) (by kernel_rfl) (by kernel_rfl) (by kernel_rfl)
noncomputable def rowOf3 : Ent := ⟨[.int .i64 3], .agg #[.string ⟨#[121]⟩, .int .i64 1, .int .i64 0, .int .i64 3], []⟩
theorem rowOf3_good : Good 78 rowOf3 := good_flat noO_sound (n := 2000) (v := rowOf3.val) (by kernel_rfl) (by kernel_rfl) (by kernel_rfl)
noncomputable def rowOf4 : Ent := ⟨[.int .i64 4], .agg #[.string ⟨#[122]⟩, .int .i64 1, .int .i64 0, .int .i64 4], []⟩
theorem rowOf4_good : Good 78 rowOf4 := good_flat noO_sound (n := 2000) (v := rowOf4.val) (by kernel_rfl) (by kernel_rfl) (by kernel_rfl)
noncomputable def rowOf5 : Ent := ⟨[.int .i64 5], .agg #[.string ⟨#[115]⟩, .int .i64 1, .int .i64 0, .int .i64 6], []⟩
theorem rowOf5_good : Good 78 rowOf5 := good_flat noO_sound (n := 2000) (v := rowOf5.val) (by kernel_rfl) (by kernel_rfl) (by kernel_rfl)
noncomputable def rowOf6 : Ent := ⟨[.int .i64 6], .agg #[.string ⟨#[115, 100, 103]⟩, .int .i64 1, .int .i64 0, .int .i64 5], []⟩
theorem rowOf6_good : Good 78 rowOf6 := good_flat noO_sound (n := 2000) (v := rowOf6.val) (by kernel_rfl) (by kernel_rfl) (by kernel_rfl)
noncomputable def rowOf7 : Ent := ⟨[.int .i64 7], .agg #[.string ⟨#[115, 120]⟩, .int .i64 1, .int .i64 0, .int .i64 8], []⟩
theorem rowOf7_good : Good 78 rowOf7 := good_flat noO_sound (n := 2000) (v := rowOf7.val) (by kernel_rfl) (by kernel_rfl) (by kernel_rfl)
noncomputable def rowOf8 : Ent := ⟨[.int .i64 8], .agg #[.string ⟨#[115, 120, 100, 103]⟩, .int .i64 1, .int .i64 0, .int .i64 7], []⟩
theorem rowOf8_good : Good 78 rowOf8 := good_flat noO_sound (n := 2000) (v := rowOf8.val) (by kernel_rfl) (by kernel_rfl) (by kernel_rfl)
noncomputable def rowOf9 : Ent := ⟨[.int .i64 9], .agg #[.string ⟨#[115, 121]⟩, .int .i64 1, .int .i64 0, .int .i64 10], []⟩
theorem rowOf9_good : Good 78 rowOf9 := good_flat noO_sound (n := 2000) (v := rowOf9.val) (by kernel_rfl) (by kernel_rfl) (by kernel_rfl)
noncomputable def rowOf10 : Ent := ⟨[.int .i64 10], .agg #[.string ⟨#[115, 121, 100, 103]⟩, .int .i64 1, .int .i64 0, .int .i64 9], []⟩
theorem rowOf10_good : Good 78 rowOf10 := good_flat noO_sound (n := 2000) (v := rowOf10.val) (by kernel_rfl) (by kernel_rfl) (by kernel_rfl)
noncomputable def rowOf11 : Ent := ⟨[.int .i64 11], .agg #[.string ⟨#[99, 120]⟩, .int .i64 2, .int .i64 1, .int .i64 11], []⟩
theorem rowOf11_good : Good 78 rowOf11 := good_flat noO_sound (n := 2000) (v := rowOf11.val) (by kernel_rfl) (by kernel_rfl) (by kernel_rfl)
noncomputable def rowOf12 : Ent := ⟨[.int .i64 12], .agg #[.string ⟨#[99, 121]⟩, .int .i64 2, .int .i64 1, .int .i64 12], []⟩
theorem rowOf12_good : Good 78 rowOf12 := good_flat noO_sound (n := 2000) (v := rowOf12.val) (by kernel_rfl) (by kernel_rfl) (by kernel_rfl)
noncomputable def rowOf13 : Ent := ⟨[.int .i64 13], .agg #[.string ⟨#[99, 122]⟩, .int .i64 2, .int .i64 0, .int .i64 13], []⟩
theorem rowOf13_good : Good 78 rowOf13 := good_flat noO_sound (n := 2000) (v := rowOf13.val) (by kernel_rfl) (by kernel_rfl) (by kernel_rfl)
noncomputable def rowOf14 : Ent := ⟨[.int .i64 14], .agg #[.string ⟨#[115, 119, 97, 112]⟩, .int .i64 2, .int .i64 0, .int .i64 14], []⟩
theorem rowOf14_good : Good 78 rowOf14 := good_flat noO_sound (n := 2000) (v := rowOf14.val) (by kernel_rfl) (by kernel_rfl) (by kernel_rfl)
noncomputable def rowOf15 : Ent := ⟨[.int .i64 15], .agg #[.string ⟨#[105, 115, 119, 97, 112]⟩, .int .i64 2, .int .i64 0, .int .i64 16], []⟩
theorem rowOf15_good : Good 78 rowOf15 := good_flat noO_sound (n := 2000) (v := rowOf15.val) (by kernel_rfl) (by kernel_rfl) (by kernel_rfl)
noncomputable def rowOf16 : Ent := ⟨[.int .i64 16], .agg #[.string ⟨#[105, 115, 119, 97, 112, 100, 103]⟩, .int .i64 2, .int .i64 0, .int .i64 15], []⟩
theorem rowOf16_good : Good 78 rowOf16 := good_flat noO_sound (n := 2000) (v := rowOf16.val) (by kernel_rfl) (by kernel_rfl) (by kernel_rfl)
noncomputable def rowOf17 : Ent := ⟨[.int .i64 17], .agg #[.string ⟨#[104, 104]⟩, .int .i64 2, .int .i64 0, .int .i64 17], []⟩
theorem rowOf17_good : Good 78 rowOf17 := good_flat noO_sound (n := 2000) (v := rowOf17.val) (by kernel_rfl) (by kernel_rfl) (by kernel_rfl)
noncomputable def rowOf18 : Ent := ⟨[.int .i64 18], .agg #[.string ⟨#[99, 99, 120]⟩, .int .i64 3, .int .i64 2, .int .i64 18], []⟩
theorem rowOf18_good : Good 78 rowOf18 := good_flat noO_sound (n := 2000) (v := rowOf18.val) (by kernel_rfl) (by kernel_rfl) (by kernel_rfl)
noncomputable def rowOf19 : Ent := ⟨[.int .i64 19], .agg #[.string ⟨#[99, 99, 122]⟩, .int .i64 3, .int .i64 0, .int .i64 19], []⟩
theorem rowOf19_good : Good 78 rowOf19 := good_flat noO_sound (n := 2000) (v := rowOf19.val) (by kernel_rfl) (by kernel_rfl) (by kernel_rfl)
noncomputable def rowOf20 : Ent := ⟨[.int .i64 20], .agg #[.string ⟨#[99, 115, 119, 97, 112]⟩, .int .i64 3, .int .i64 1, .int .i64 20], []⟩
theorem rowOf20_good : Good 78 rowOf20 := good_flat noO_sound (n := 2000) (v := rowOf20.val) (by kernel_rfl) (by kernel_rfl) (by kernel_rfl)
noncomputable def tabA : List (FuncId × List Ent) := [(78, [rowOf1, rowOf2, rowOf3, rowOf4, rowOf5, rowOf6, rowOf7, rowOf8, rowOf9, rowOf10, rowOf11, rowOf12, rowOf13, rowOf14, rowOf15, rowOf16, rowOf17, rowOf18, rowOf19, rowOf20])]
theorem tabA_good : TabGood tabA := ⟨⟨rowOf1_good, rowOf2_good, rowOf3_good, rowOf4_good, rowOf5_good, rowOf6_good, rowOf7_good, rowOf8_good, rowOf9_good, rowOf10_good, rowOf11_good, rowOf12_good, rowOf13_good, rowOf14_good, rowOf15_good, rowOf16_good, rowOf17_good, rowOf18_good, rowOf19_good, rowOf20_good, trivial⟩, trivial⟩
theorem tabA_sound : OrcSound Try.prog (tabO tabA) := tabO_sound tabA_good
end Go.Proofs.Ytbelnopbggkdfaa.Lift
end

section
namespace Go.Proofs.Ytbelnopbggkdfaa.Lift
open Go.RowKit
structure Facts where
  isI : Nat → Bool
  lo : Nat → Option Int
  hi : Nat → Option Int
  ne : List (Nat × Nat)
  str : Nat → List (List Nat)
  lens : List (Nat × Nat)
  fl : List (BinOp × Nat × Nat × Nat) := []
noncomputable def geK (lo : Option Int) (c : Int) : Bool :=
  match lo with
  | some l => decide (c ≤ l)
  | none => false
noncomputable def gtK (lo : Option Int) (c : Int) : Bool :=
  match lo with
  | some l => decide (c < l)
  | none => false
noncomputable def leK (hi : Option Int) (c : Int) : Bool :=
  match hi with
  | some h => decide (h ≤ c)
  | none => false
noncomputable def ltK (hi : Option Int) (c : Int) : Bool :=
  match hi with
  | some h => decide (h < c)
  | none => false
noncomputable def two (a b : Bool) : Option Bool := bif a then some true else bif b then some false else none
noncomputable def cmpC (op : BinOp) (lo hi : Option Int) (c : Int) : Option Bool :=
  match op with
  | .lss => two (ltK hi c) (geK lo c)
  | .leq => two (leK hi c) (gtK lo c)
  | .gtr => two (gtK lo c) (leK hi c)
  | .geq => two (geK lo c) (ltK hi c)
  | .eql => two false (ltK hi c || gtK lo c)
  | .neq => two (ltK hi c || gtK lo c) false
  | _ => none
noncomputable def flipO : BinOp → BinOp
  | .lss => .gtr
  | .leq => .geq
  | .gtr => .lss
  | .geq => .leq
  | op => op
noncomputable def sameO (op : BinOp) : Option Bool :=
  match op with
  | .eql => some true
  | .leq => some true
  | .geq => some true
  | .neq => some false
  | .lss => some false
  | .gtr => some false
  | _ => none
noncomputable def unlikeO (op : BinOp) : Option Bool :=
  match op with
  | .eql => some false
  | .neq => some true
  | _ => none
noncomputable def hasP (i j : Nat) (l : List (Nat × Nat)) : Bool := l.any fun p => Nat.beq p.1 i && Nat.beq p.2 j
noncomputable def eqN : List Nat → List Nat → Bool
  | [], [] => true
  | a :: r, b :: s => Nat.beq a b && eqN r s
  | _, _ => false
noncomputable def strL (s : ByteArray) : List Nat := s.data.toList.map UInt8.toNat
noncomputable def findP (i : Nat) : List (Nat × Nat) → Option Nat
  | [] => none
  | p :: r => bif Nat.beq p.1 i then some p.2 else findP i r
noncomputable def sameOp (a b : BinOp) : Bool :=
  match a, b with
  | .add, .add => true
  | .sub, .sub => true
  | .mul, .mul => true
  | _, _ => false
noncomputable def findFl (op : BinOp) (i j : Nat) : List (BinOp × Nat × Nat × Nat) → Option Nat
  | [] => none
  | (o, a, b, c) :: r => bif sameOp o op && (Nat.beq a i && Nat.beq b j) then some c else findFl op i j r
@[reducible] noncomputable def Facts.known (F : Facts) (ts : List TypeId) : Known where
  bin op u v :=
    match u, v with
    | .chan (some i), .int .i64 c => bif F.isI i then (cmpC op (F.lo i) (F.hi i) c).map .bool else none
    | .int .i64 c, .chan (some i) => bif F.isI i then (cmpC (flipO op) (F.lo i) (F.hi i) c).map .bool else none
    | .chan (some i), .chan (some j) =>
      bif F.isI i && F.isI j then
        bif Nat.beq i j then (sameO op).map .bool else bif hasP i j F.ne || hasP j i F.ne then (unlikeO op).map .bool else none
      else (findFl op i j F.fl).map fun k => .chan (some k)
    | .string s, .chan (some i) => bif (F.str i).any (eqN (strL s)) then (unlikeO op).map .bool else none
    | .chan (some i), .string s => bif (F.str i).any (eqN (strL s)) then (unlikeO op).map .bool else none
    | _, _ => none
  un _ _ := none
  conv s d u :=
    match u with
    | .chan (some i) => bif F.isI i && (ts.any (Nat.beq s) && ts.any (Nat.beq d)) then some u else none
    | _ => none
  len t u :=
    match u with
    | .chan (some i) =>
      match Try.prog.underlying t with
      | some (.slice _) => (findP i F.lens).map fun j => .chan (some j)
      | _ => none
    | _ => none
structure FactsOk (F : Facts) [Syms] : Prop where
  int : ∀ i, F.isI i = true → ∃ x : Int, Syms.sym i = .int .i64 x ∧ -9223372036854775808 ≤ x ∧ x ≤ 9223372036854775807 ∧ (∀ l, F.lo i = some l → l ≤ x) ∧ (∀ h, F.hi i = some h → x ≤ h)
  ne : ∀ i j, (i, j) ∈ F.ne → Syms.sym i ≠ Syms.sym j
  str : ∀ i s, s ∈ F.str i → ∃ b, Syms.sym i = .string b ∧ strL b ≠ s
  lens : ∀ i j, (i, j) ∈ F.lens → ∃ a n c, Syms.sym i = .slice a n c ∧ Syms.sym j = .int .i64 (n : Nat)
  fl : ∀ op i j k, (op, i, j, k) ∈ F.fl → ∃ x y r, Syms.sym i = .float .f64 x ∧ Syms.sym j = .float .f64 y ∧ floatBits op .f64 x y = some r ∧ Syms.sym k = .float .f64 r
noncomputable def TypesOk (ts : List TypeId) : Bool := ts.all fun t => match Try.prog.underlying t with
  | some (.int .i64) => true
  | _ => false
theorem two_true {a b r : Bool} (h : two a b = some r) : (a = true ∧ r = true) ∨ (a = false ∧ b = true ∧ r = false) := by
  unfold two at h
  cases a
  · cases b
    · cases h
    · simp at h; exact .inr ⟨rfl, rfl, h⟩
  · simp at h; exact .inl ⟨rfl, h⟩
theorem geK_spec {lo : Option Int} {c x : Int} (hl : ∀ l, lo = some l → l ≤ x) (h : geK lo c = true) : c ≤ x := by
  unfold geK at h; split at h
  · rename_i l; have := hl l rfl; have := of_decide_eq_true h; omega
  · cases h
theorem gtK_spec {lo : Option Int} {c x : Int} (hl : ∀ l, lo = some l → l ≤ x) (h : gtK lo c = true) : c < x := by
  unfold gtK at h; split at h
  · rename_i l; have := hl l rfl; have := of_decide_eq_true h; omega
  · cases h
theorem leK_spec {hi : Option Int} {c x : Int} (hl : ∀ h, hi = some h → x ≤ h) (h : leK hi c = true) : x ≤ c := by
  unfold leK at h; split at h
  · rename_i l; have := hl l rfl; have := of_decide_eq_true h; omega
  · cases h
theorem ltK_spec {hi : Option Int} {c x : Int} (hl : ∀ h, hi = some h → x ≤ h) (h : ltK hi c = true) : x < c := by
  unfold ltK at h; split at h
  · rename_i l; have := hl l rfl; have := of_decide_eq_true h; omega
  · cases h
theorem run_cmp {P : Program} {op : BinOp} {x y : Int} {b : Bool} (h : (op = .lss ∧ b = decide (x < y)) ∨ (op = .leq ∧ b = decide (x ≤ y)) ∨ (op = .gtr ∧ b = decide (y < x)) ∨ (op = .geq ∧ b = decide (y ≤ x)) ∨ (op = .eql ∧ b = decide (x = y)) ∨ (op = .neq ∧ b = !decide (x = y)))
    (t : TypeId) (p q : Operand) (w : World) : (do eqGuard op t p q (.int .i64 x) (.int .i64 y); binOp op t (.int .i64 x) (.int .i64 y)).run P w = .ok (.bool b) w := by
  rw [Sem.run_bind, run_guard_int]
  rcases h with ⟨rfl, rfl⟩ | ⟨rfl, rfl⟩ | ⟨rfl, rfl⟩ | ⟨rfl, rfl⟩ | ⟨rfl, rfl⟩ | ⟨rfl, rfl⟩
  · simp [binOp, Op.intCmp, Result.andThen]
  · simp [binOp, Op.intCmp, Result.andThen]
  · simp [binOp, Op.intCmp, Result.andThen]
  · simp [binOp, Op.intCmp, Result.andThen]
  · by_cases e : x = y <;> simp [binOp, Op.intCmp, Result.andThen, e]
  · by_cases e : x = y <;> simp [binOp, Op.intCmp, Result.andThen, e]
theorem cmpC_spec {op : BinOp} {lo hi : Option Int} {c x : Int} {b : Bool} (hl : ∀ l, lo = some l → l ≤ x) (hh : ∀ h, hi = some h → x ≤ h) (h : cmpC op lo hi c = some b) :
    (op = .lss ∧ b = decide (x < c)) ∨ (op = .leq ∧ b = decide (x ≤ c)) ∨ (op = .gtr ∧ b = decide (c < x)) ∨ (op = .geq ∧ b = decide (c ≤ x)) ∨ (op = .eql ∧ b = decide (x = c)) ∨ (op = .neq ∧ b = !decide (x = c)) := by
  unfold cmpC at h
  split at h
  · refine .inl ⟨rfl, ?_⟩
    rcases two_true h with ⟨h1, rfl⟩ | ⟨_, h1, rfl⟩
    · have := ltK_spec hh h1; simp; omega
    · have := geK_spec hl h1; simp; omega
  · refine .inr (.inl ⟨rfl, ?_⟩)
    rcases two_true h with ⟨h1, rfl⟩ | ⟨_, h1, rfl⟩
    · have := leK_spec hh h1; simp; omega
    · have := gtK_spec hl h1; simp; omega
  · refine .inr (.inr (.inl ⟨rfl, ?_⟩))
    rcases two_true h with ⟨h1, rfl⟩ | ⟨_, h1, rfl⟩
    · have := gtK_spec hl h1; simp; omega
    · have := leK_spec hh h1; simp; omega
  · refine .inr (.inr (.inr (.inl ⟨rfl, ?_⟩)))
    rcases two_true h with ⟨h1, rfl⟩ | ⟨_, h1, rfl⟩
    · have := geK_spec hl h1; simp; omega
    · have := ltK_spec hh h1; simp; omega
  · refine .inr (.inr (.inr (.inr (.inl ⟨rfl, ?_⟩))))
    rcases two_true h with ⟨h1, rfl⟩ | ⟨_, h1, rfl⟩
    · cases h1
    · simp only [Bool.or_eq_true] at h1
      rcases h1 with h1 | h1
      · have := ltK_spec hh h1; simp; omega
      · have := gtK_spec hl h1; simp; omega
  · refine .inr (.inr (.inr (.inr (.inr ⟨rfl, ?_⟩))))
    rcases two_true h with ⟨h1, rfl⟩ | ⟨_, h1, rfl⟩
    · simp only [Bool.or_eq_true] at h1
      rcases h1 with h1 | h1
      · have := ltK_spec hh h1; simp; omega
      · have := gtK_spec hl h1; simp; omega
    · cases h1
  · cases h
theorem eqN_spec : ∀ {a b : List Nat}, eqN a b = true → a = b
  | [], [], _ => rfl
  | x :: r, y :: s, h => by
    simp only [eqN, Bool.and_eq_true, Nat.beq_eq] at h
    rw [h.1, eqN_spec h.2]
  | [], _ :: _, h => by cases h
  | _ :: _, [], h => by cases h
theorem hasP_spec {i j : Nat} {l : List (Nat × Nat)} (h : hasP i j l = true) : (i, j) ∈ l := by
  unfold hasP at h
  rw [List.any_eq_true] at h
  obtain ⟨⟨a, b⟩, h1, h2⟩ := h
  simp only [Bool.and_eq_true, Nat.beq_eq] at h2
  obtain ⟨rfl, rfl⟩ := h2
  exact h1
theorem findP_spec {i j : Nat} : ∀ {l : List (Nat × Nat)}, findP i l = some j → (i, j) ∈ l
  | [], h => by cases h
  | p :: r, h => by
    simp only [findP] at h
    cases hc : Nat.beq p.1 i with
    | true =>
      rw [hc] at h
      simp only [cond_true, Option.some.injEq] at h
      have := Nat.eq_of_beq_eq_true hc
      obtain ⟨a, b⟩ := p
      simp only at h this
      subst h this
      exact List.mem_cons_self
    | false =>
      rw [hc] at h
      exact List.mem_cons_of_mem _ (findP_spec h)
theorem sameOp_spec {a b : BinOp} (h : sameOp a b = true) : a = b := by
  unfold sameOp at h
  split at h <;> first | rfl | cases h
theorem findFl_spec {op : BinOp} {i j k : Nat} : ∀ {l : List (BinOp × Nat × Nat × Nat)}, findFl op i j l = some k → (op, i, j, k) ∈ l
  | [], h => by cases h
  | (o, a, b, c) :: r, h => by
    simp only [findFl] at h
    cases hc : (sameOp o op && (Nat.beq a i && Nat.beq b j)) with
    | true =>
      rw [hc] at h
      simp only [cond_true, Option.some.injEq] at h
      simp only [Bool.and_eq_true, Nat.beq_eq] at hc
      obtain ⟨h1, rfl, rfl⟩ := hc
      rw [sameOp_spec h1, h]
      exact List.mem_cons_self
    | false =>
      rw [hc] at h
      exact List.mem_cons_of_mem _ (findFl_spec h)
theorem run_fl {P : Program} {op : BinOp} {x y r : Nat} (h : floatBits op .f64 x y = some r) (t : TypeId) (p q : Operand) (w : World) :
    (do eqGuard op t p q (.float .f64 x) (.float .f64 y); binOp op t (.float .f64 x) (.float .f64 y)).run P w = .ok (.float .f64 r) w := by
  rw [Sem.run_bind, run_guard_float]
  exact run_float_arith w op t .f64 x y r h
theorem run_str {P : Program} {op : BinOp} {a b : ByteArray} {r : Bool} (hab : strL a ≠ strL b) (h : unlikeO op = some r) (t : TypeId) (p q : Operand) (w : World) :
    (do eqGuard op t p q (.string a) (.string b); binOp op t (.string a) (.string b)).run P w = .ok (.bool r) w := by
  have hne : (a.toList == b.toList) = false := by
    rw [beq_eq_false_iff_ne]
    intro e
    apply hab
    unfold strL
    rw [← ByteArray.toList_eq a, ← ByteArray.toList_eq b, e]
  unfold unlikeO at h
  split at h
  · cases h
    rw [Sem.run_bind]
    simp [eqGuard, binOp, Op.stringOp, hne, Result.andThen]
  · cases h
    rw [Sem.run_bind]
    simp [eqGuard, binOp, Op.stringOp, hne, Result.andThen]
  · cases h
theorem types_ok {ts : List TypeId} (hT : TypesOk ts = true) {d : TypeId} (hd : ts.any (Nat.beq d) = true) : Try.prog.underlying d = some (.int .i64) := by
  rw [List.any_eq_true] at hd
  obtain ⟨d', hd', he⟩ := hd
  have e := Nat.eq_of_beq_eq_true he
  subst e
  unfold TypesOk at hT
  rw [List.all_eq_true] at hT
  have h := hT d hd'
  generalize Try.prog.underlying d = u at h ⊢
  split at h
  · rfl
  · cases h
theorem run_conv64 {s d : TypeId} (hs : Try.prog.underlying s = some (.int .i64)) (hd : Try.prog.underlying d = some (.int .i64)) {z : Int} (h1 : -9223372036854775808 ≤ z) (h2 : z ≤ 9223372036854775807) (w : World) :
    (convert s d (.int .i64 z)).run Try.prog w = .ok (.int .i64 z) w := by
  have e : IntKind.i64.wrap z = z := by rw [IntKind.wrap_i64]; omega
  simp [convert, run_underlying hs, run_underlying hd, Conv.intToInt, e]
theorem facts_ok {F : Facts} {ts : List TypeId} [Syms] (hF : FactsOk F) (hT : TypesOk ts = true) : @KnownOk (F.known ts) _ Try.prog := by
  refine @KnownOk.mk (F.known ts) _ Try.prog ?_ ?_ ?_ ?_
  · intro op u v r h ρ t x y w
    replace h : (F.known ts).bin op u v = some r := h
    unfold Facts.known at h
    simp only at h
    split at h
    · rename_i i c
      cases hi : F.isI i with
      | false => rw [hi] at h; cases h
      | true =>
        rw [hi] at h
        simp only [cond_true, Option.map_eq_some_iff] at h
        obtain ⟨b, hb, rfl⟩ := h
        obtain ⟨z, hz, _, _, hl, hh⟩ := hF.int i hi
        have e : ren3 ρ (.chan (some i)) = .int .i64 z := hz
        rw [e]
        exact run_cmp (cmpC_spec hl hh hb) t x y w
    · rename_i c i
      cases hi : F.isI i with
      | false => rw [hi] at h; cases h
      | true =>
        rw [hi] at h
        simp only [cond_true, Option.map_eq_some_iff] at h
        obtain ⟨b, hb, rfl⟩ := h
        obtain ⟨z, hz, _, _, hl, hh⟩ := hF.int i hi
        have e : ren3 ρ (.chan (some i)) = .int .i64 z := hz
        rw [e]
        refine run_cmp ?_ t x y w
        rcases cmpC_spec hl hh hb with ⟨h1, h2⟩ | ⟨h1, h2⟩ | ⟨h1, h2⟩ | ⟨h1, h2⟩ | ⟨h1, h2⟩ | ⟨h1, h2⟩ <;> cases op <;> simp [flipO] at h1 <;> subst h2 <;> simp [eq_comm]
    · rename_i i j
      have fl : ((findFl op i j F.fl).map fun k => Value.chan (some k)) = some r → (do eqGuard op t x y (ren3 ρ (.chan (some i))) (ren3 ρ (.chan (some j))); binOp op t (ren3 ρ (.chan (some i))) (ren3 ρ (.chan (some j)))).run Try.prog w = .ok (ren3 ρ r) w := by
        intro h
        simp only [Option.map_eq_some_iff] at h
        obtain ⟨k, hk, rfl⟩ := h
        obtain ⟨z, z', q, h1, h2, h3, h4⟩ := hF.fl op i j k (findFl_spec hk)
        have e1 : ren3 ρ (.chan (some i)) = .float .f64 z := h1
        have e2 : ren3 ρ (.chan (some j)) = .float .f64 z' := h2
        have e3 : ren3 ρ (.chan (some k)) = .float .f64 q := h4
        rw [e1, e2, e3]
        exact run_fl h3 t x y w
      cases hi : F.isI i with
      | false => rw [hi] at h; exact fl h
      | true =>
        cases hj : F.isI j with
        | false => rw [hi, hj] at h; exact fl h
        | true =>
          rw [hi, hj] at h
          obtain ⟨z, hz, _⟩ := hF.int i hi
          obtain ⟨z', hz', _⟩ := hF.int j hj
          have e : ren3 ρ (.chan (some i)) = .int .i64 z := hz
          have e' : ren3 ρ (.chan (some j)) = .int .i64 z' := hz'
          rw [e, e']
          cases hij : Nat.beq i j with
          | true =>
            rw [hij] at h
            have := Nat.eq_of_beq_eq_true hij
            subst this
            rw [hz] at hz'
            cases hz'
            simp only [Bool.and_self, cond_true, Option.map_eq_some_iff] at h
            obtain ⟨b, hb, rfl⟩ := h
            refine run_cmp ?_ t x y w
            unfold sameO at hb
            split at hb <;> cases hb <;> simp
          | false =>
            rw [hij] at h
            cases hn : (hasP i j F.ne || hasP j i F.ne) with
            | false => rw [hn] at h; cases h
            | true =>
              rw [hn] at h
              simp only [Bool.and_self, cond_true, cond_false, Option.map_eq_some_iff] at h
              obtain ⟨b, hb, rfl⟩ := h
              have hne : z ≠ z' := by
                rintro rfl
                rw [Bool.or_eq_true] at hn
                rcases hn with hn | hn
                · exact hF.ne i j (hasP_spec hn) (hz.trans hz'.symm)
                · exact hF.ne j i (hasP_spec hn) (hz'.trans hz.symm)
              refine run_cmp ?_ t x y w
              unfold unlikeO at hb
              split at hb <;> cases hb <;> simp [hne]
    · rename_i s i
      cases hs : (F.str i).any (eqN (strL s)) with
      | false => rw [hs] at h; cases h
      | true =>
        rw [hs] at h
        simp only [cond_true, Option.map_eq_some_iff] at h
        obtain ⟨b, hb, rfl⟩ := h
        rw [List.any_eq_true] at hs
        obtain ⟨l, hl, he⟩ := hs
        obtain ⟨bs, hbs, hne⟩ := hF.str i l hl
        have e : ren3 ρ (.chan (some i)) = .string bs := hbs
        rw [e]
        rw [← eqN_spec he] at hne
        exact run_str (Ne.symm hne) hb t x y w
    · rename_i i s
      cases hs : (F.str i).any (eqN (strL s)) with
      | false => rw [hs] at h; cases h
      | true =>
        rw [hs] at h
        simp only [cond_true, Option.map_eq_some_iff] at h
        obtain ⟨b, hb, rfl⟩ := h
        rw [List.any_eq_true] at hs
        obtain ⟨l, hl, he⟩ := hs
        obtain ⟨bs, hbs, hne⟩ := hF.str i l hl
        have e : ren3 ρ (.chan (some i)) = .string bs := hbs
        rw [e]
        rw [← eqN_spec he] at hne
        exact run_str hne hb t x y w
    · cases h
  · intro op u r h
    replace h : (F.known ts).un op u = some r := h
    cases h
  · intro s d u r h ρ w
    replace h : (F.known ts).conv s d u = some r := h
    unfold Facts.known at h
    simp only at h
    split at h
    · rename_i i
      cases hc : (F.isI i && (ts.any (Nat.beq s) && ts.any (Nat.beq d))) with
      | false => rw [hc] at h; cases h
      | true =>
        rw [hc] at h
        simp only [cond_true, Option.some.injEq] at h
        subst h
        simp only [Bool.and_eq_true] at hc
        obtain ⟨z, hz, h1, h2, _⟩ := hF.int i hc.1
        have e : ren3 ρ (.chan (some i)) = .int .i64 z := hz
        rw [e]
        exact run_conv64 (types_ok hT hc.2.1) (types_ok hT hc.2.2) h1 h2 w
    · cases h
  · intro t u r h ρ w t'
    replace h : (F.known ts).len t u = some r := h
    unfold Facts.known at h
    simp only at h
    split at h
    · rename_i i
      split at h
      · rename_i e hu
        simp only [Option.map_eq_some_iff] at h
        obtain ⟨j, hj, rfl⟩ := h
        obtain ⟨a, n, c, h1, h2⟩ := hF.lens i j (findP_spec hj)
        have e1 : ren3 ρ (.chan (some i)) = .slice a n c := h1
        have e2 : ren3 ρ (.chan (some j)) = .int .i64 (n : Nat) := h2
        rw [e1, e2]
        simp [Builtin.len_, run_underlying hu, goInt]
      · cases h
    · cases h
end Go.Proofs.Ytbelnopbggkdfaa.Lift
end

section
namespace Go.Proofs.Ytbelnopbggkdfaa.Lift
open Go.RowKit
theorem sym_call [Known] [Syms] [KnownOk Try.prog] {O : Orc} (hO : OrcSound Try.prog O) {n : Nat} {g : FuncId} {vs : List Value} {v : Value} {H' : Hp} (hv : (mach Try.prog fns O n).call g vs [] = some (v, H')) (hn : vs.all (wf3 0) = true) (w : World) :
    Calls Try.prog g (vs.map (ren3 env0)).toArray w (endPost (CallPost env0 [] w w.heap.size v H')) :=
  (mach_sound fns_ok mixed hO n).1 g vs [] v H' hv env0 w w.heap.size (HRel.empty env0 w) (fun u hu => List.all_eq_true.1 hn u hu)
/-- A plain value of a call over signs: told alone. -/
theorem sym_flat [Known] [Syms] [KnownOk Try.prog] {O : Orc} (hO : OrcSound Try.prog O) {n : Nat} {g : FuncId} {vs : List Value} {v : Value} (hv : ((mach Try.prog fns O n).call g vs []).map Prod.fst = some v) (hn : vs.all (wf3 0) = true) (hno : ∀ ρ, ren3 ρ v = ren3 env0 v) (w : World) :
    Calls Try.prog g (vs.map (ren3 env0)).toArray w fun e w' => e = .returned (ren3 env0 v) ∧ Below w.heap.size w w' := by
  cases hr : (mach Try.prog fns O n).call g vs [] with
  | none => rw [hr] at hv; cases hv
  | some r =>
    obtain ⟨u, H'⟩ := r
    rw [hr] at hv
    simp only [Option.map_some, Option.some.injEq] at hv
    subst hv
    refine (sym_call hO hr hn w).mono fun e w' he => ?_
    cases e with
    | returned r =>
      obtain ⟨ρ', rfl, _, _, hB, _⟩ := he
      exact ⟨by rw [hno], hB⟩
    | _ => exact he.elim
/-- The types whose values are plain ints. -/
def ints : List TypeId := [3, 44, 26]
theorem ints_ok : TypesOk ints = true := by kernel_rfl
@[reducible] def symI (f : Nat → Int) : Syms := ⟨fun j => .int .i64 (f j), fun _ => rfl, fun _ _ h => by cases h⟩
/-- Signs that stand for whole numbers with bounds. -/
def bounds (los his : List (Option Int)) : Facts := ⟨fun i => Nat.blt i los.length, fun i => los.getD i none, fun i => his.getD i none, [], fun _ => [], [], []⟩
theorem bounds_ok {los his : List (Option Int)} {f : Nat → Int} (hw : ∀ i, -9223372036854775808 ≤ f i ∧ f i ≤ 9223372036854775807) (hl : ∀ i l, los.getD i none = some l → l ≤ f i) (hh : ∀ i h, his.getD i none = some h → f i ≤ h) :
    @FactsOk (bounds los his) (symI f) :=
  @FactsOk.mk (bounds los his) (symI f) (fun i _ => ⟨f i, rfl, (hw i).1, (hw i).2, hl i, hh i⟩) (fun i j h => by cases h) (fun i s h => by cases h) (fun i j h => by cases h) (fun op i j k h => by cases h)
@[reducible] noncomputable def kLow : Known := (bounds [none] [some 0]).known ints
@[reducible] noncomputable def kHigh : Known := (bounds [some 21] [none]).known ints
theorem low_ok {k : Int} (hk : (Lit.int .i64 k).wf = true) (h : k < 1) : @KnownOk kLow (symI fun _ => k) Try.prog := by
  have hw : -9223372036854775808 ≤ k ∧ k ≤ 9223372036854775807 := by simpa [Lit.wf, IntKind.min, IntKind.max, IntKind.signed, IntKind.bits] using hk
  refine @facts_ok _ _ (symI fun _ => k) (bounds_ok (fun _ => hw) (fun i l h => ?_) (fun i u h => ?_)) ints_ok
  · match i, h with
    | 0, h => cases h
    | i + 1, h => cases h
  · match i, h with
    | 0, h => cases h; omega
    | i + 1, h => cases h
theorem high_ok {k : Int} (hk : (Lit.int .i64 k).wf = true) (h : 20 < k) : @KnownOk kHigh (symI fun _ => k) Try.prog := by
  have hw : -9223372036854775808 ≤ k ∧ k ≤ 9223372036854775807 := by simpa [Lit.wf, IntKind.min, IntKind.max, IntKind.signed, IntKind.bits] using hk
  refine @facts_ok _ _ (symI fun _ => k) (bounds_ok (fun _ => hw) (fun i l h => ?_) (fun i u h => ?_)) ints_ok
  · match i, h with
    | 0, h => cases h; omega
    | i + 1, h => cases h
  · match i, h with
    | 0, h => cases h
    | i + 1, h => cases h
end Go.Proofs.Ytbelnopbggkdfaa.Lift
end

section
namespace Go.Proofs.Ytbelnopbggkdfaa.Lift
open Go.RowKit
set_option maxRecDepth 100000
theorem at_map {α : Type} {f g : Nat → α} {n : Nat} (h : (List.range n).map f = (List.range n).map g) (i : Nat) (hi : i < n) : f i = g i := by
  have h1 : ((List.range n).map f)[i]? = ((List.range n).map g)[i]? := by rw [h]
  rw [List.getElem?_map, List.getElem?_map, List.getElem?_range hi] at h1
  simpa using h1
/-- Of a kind the number that stands in a row; else what is told for all others. -/
def pick {α : Type} (vals : List α) (out : α) (k : Int) : α := if 1 ≤ k ∧ k ≤ 20 then vals.getD (k - 1).toNat out else out
theorem kind_any {g : FuncId} {α : Type} {mk : α → Value} {vals : List α} {out : α} (hno : ∀ x, no3 (mk x) = true)
    (hin : ((List.range 20).map fun i => ((mach Try.prog fns (tabO tabA) 2000).call g [.int .i64 ((i + 1 : Nat) : Int)] []).map Prod.fst) = (List.range 20).map fun i => some (mk (vals.getD i out)))
    (hlo : ((@mach kLow Try.prog fns (tabO tabA) 2000).call g [.chan (some 0)] []).map Prod.fst = some (mk out)) (hhi : ((@mach kHigh Try.prog fns (tabO tabA) 2000).call g [.chan (some 0)] []).map Prod.fst = some (mk out))
    (k : Int) (hk : (Lit.int .i64 k).wf = true) (w : World) : Calls Try.prog g #[.int .i64 k] w fun e w' => e = .returned (mk (pick vals out k)) ∧ Below w.heap.size w w' := by
  have flat : ∀ [Syms] ρ x, ren3 ρ (mk x) = mk x := fun ρ x => ren3_no ρ (hno x)
  by_cases h1 : k < 1
  · have := @sym_flat kLow (symI fun _ => k) (low_ok hk h1) (tabO tabA) (@tabA_sound (symI _)) 2000 g [.chan (some 0)] (mk out) hlo rfl (fun ρ => by rw [@flat (symI _), @flat (symI _)]) w
    rw [@flat (symI _)] at this
    unfold pick
    rw [if_neg (by omega)]
    exact this
  · by_cases h2 : 20 < k
    · have := @sym_flat kHigh (symI fun _ => k) (high_ok hk h2) (tabO tabA) (@tabA_sound (symI _)) 2000 g [.chan (some 0)] (mk out) hhi rfl (fun ρ => by rw [@flat (symI _), @flat (symI _)]) w
      rw [@flat (symI _)] at this
      unfold pick
      rw [if_neg (by omega)]
      exact this
    · obtain ⟨m, rfl⟩ := Int.eq_ofNat_of_zero_le (show 0 ≤ k by omega)
      obtain ⟨i, rfl⟩ : ∃ i, m = i + 1 := ⟨m - 1, by omega⟩
      have h3 := at_map hin i (by omega)
      have := @sym_flat noK noS noK_ok (tabO tabA) (@tabA_sound noS) 2000 g [.int .i64 ((i + 1 : Nat) : Int)] (mk (vals.getD i out)) h3 rfl (fun ρ => by rw [@flat noS, @flat noS]) w
      rw [@flat noS] at this
      unfold pick
      rw [if_pos (by omega), show (((i + 1 : Nat) : Int) - 1).toNat = i by omega]
      exact this
abbrev mkI (x : Int) : Value := .int .i64 x
def arityL : List Int := [1, 1, 1, 1, 1, 1, 1, 1, 1, 1, 2, 2, 2, 2, 2, 2, 2, 3, 3, 3]
def arityF (k : Int) : Int := pick arityL 0 k
theorem arity_any (k : Int) (hk : (Lit.int .i64 k).wf = true) (w : World) : Calls Try.prog 100 #[.int .i64 k] w fun e w' => e = .returned (.int .i64 (arityF k)) ∧ Below w.heap.size w w' :=
  kind_any (mk := mkI) (vals := arityL) (out := 0) (fun _ => rfl) (by kernel_rfl) (by kernel_rfl) (by kernel_rfl) k hk w
def isF (k : Int) : Bool := pick (List.replicate 20 true) false k
theorem rarity_any (k : Int) (hk : (Lit.int .i64 k).wf = true) (w : World) : Calls Try.prog 53 #[.int .i64 k] w fun e w' => e = .returned (.int .i64 (arityF k)) ∧ Below w.heap.size w w' :=
  kind_any (mk := mkI) (vals := arityL) (out := 0) (fun _ => rfl) (by kernel_rfl) (by kernel_rfl) (by kernel_rfl) k hk w
theorem is_any (k : Int) (hk : (Lit.int .i64 k).wf = true) (w : World) : Calls Try.prog 79 #[.int .i64 k] w fun e w' => e = .returned (.bool (isF k)) ∧ Below w.heap.size w w' :=
  kind_any (mk := fun x : Bool => Value.bool x) (vals := List.replicate 20 true) (out := false) (fun _ => rfl) (by kernel_rfl) (by kernel_rfl) (by kernel_rfl) k hk w
end Go.Proofs.Ytbelnopbggkdfaa.Lift
end

section
namespace Go.Proofs.Ytbelnopbggkdfaa
open Go.RowKit Lift
theorem IsL.below {w w' : World} {a : Option Addr} {zs : List Int} (h : IsL w a zs) (hb : Below w.heap.size w w') : IsL w' a zs := by
  obtain ⟨h1, h2⟩ := h
  refine ⟨h1, ?_⟩
  rcases h2 with rfl | ⟨b, off, rfl, hc⟩
  · exact .inl rfl
  · refine .inr ⟨b, off, rfl, fun i hi => ?_⟩
    have := hc i hi
    exact (hb.cell (World.block_lt_of_cell? w _ this)).trans this
/-- A qubit that a gate may have there. -/
def okAt (zs : List Int) (n : Int) (i : Nat) : Prop := 0 ≤ zs.getD i 0 ∧ zs.getD i 0 < n ∧ (zs.take i).contains (zs.getD i 0) = false
instance (zs : List Int) (n : Int) (i : Nat) : Decidable (okAt zs n i) := by unfold okAt; infer_instance
def allOk (zs : List Int) (n : Int) : Prop := ∀ i, i < zs.length → okAt zs n i
open Classical in
noncomputable def checkF (k : Int) (zs : List Int) (n : Int) : Int := if arityF k = 0 then 60 else if (zs.length : Int) ≠ arityF k then 61 else if allOk zs n then 0 else 61
theorem checkF_none {k : Int} {zs : List Int} {n : Int} (h : arityF k = 0) : checkF k zs n = 60 := by unfold checkF; rw [if_pos h]
theorem checkF_len {k : Int} {zs : List Int} {n : Int} (h : arityF k ≠ 0) (h2 : (zs.length : Int) ≠ arityF k) : checkF k zs n = 61 := by unfold checkF; rw [if_neg h, if_pos h2]
theorem checkF_bad {k : Int} {zs : List Int} {n : Int} (h : arityF k ≠ 0) {i : Nat} (hi : i < zs.length) (h3 : ¬ okAt zs n i) : checkF k zs n = 61 := by
  unfold checkF
  rw [if_neg h]
  split
  · rfl
  · rw [if_neg fun h' => h3 (h' i hi)]
theorem checkF_ok {k : Int} {zs : List Int} {n : Int} (h : arityF k ≠ 0) (h2 : (zs.length : Int) = arityF k) (h3 : allOk zs n) : checkF k zs n = 0 := by
  unfold checkF
  rw [if_neg h, if_neg (by simpa using h2), if_pos h3]
/-- A contract that makes memory, said of a world behind another. -/
theorem behind {P : Program} {f : FuncId} {args : Array Value} {v : Value} (h : ∀ w : World, Calls P f args w fun e w' => e = .returned v ∧ Below w.heap.size w w') (w w1 : World) (hb : Below w.heap.size w w1) :
    Calls P f args w1 fun e w' => e = .returned v ∧ Below w.heap.size w w' :=
  (h w1).mono fun _ _ ⟨he, hb'⟩ => ⟨he, hb.trans (hb'.mono hb.size)⟩
theorem contains_at (a : Option Addr) (len cap : Nat) (zs : List Int) (v : Int) (w : World) (h : IsL w a zs) (hl : zs.length = len) :
    Calls Try.prog 98 #[.slice a len cap, .int .i64 v] w fun e w' => e = .returned (.bool (zs.contains v)) ∧ w = w' := by
  subst hl; exact contains_any a cap zs v w h
set_option maxHeartbeats 1000000 in
theorem check_any (k : Int) (a : Option Addr) (len cap : Nat) (zs : List Int) (n : Int) (w : World) (hk : (Lit.int .i64 k).wf = true) (h : IsL w a zs) (hl : zs.length = len) (hcap : len ≤ cap) :
    Calls Try.prog 97 #[.int .i64 k, .slice a len cap, .int .i64 n] w fun e w' => e = .returned (.int .i64 (checkF k zs n)) ∧ Below w.heap.size w w' := by
  have hm := h.1
  rw [hl] at hm
  unfold maxLen at hm
  have ar := behind (fun w => arity_any k hk w) w
  have hb1 := Below.refl w.heap.size w
  have c1 := fun h => checkF_none (k := k) (zs := zs) (n := n) h
  have c2 := fun h h2 => checkF_len (k := k) (zs := zs) (n := n) h h2
  have c3 := fun h i hi h3 => checkF_bad (k := k) (zs := zs) (n := n) h (i := i) hi h3
  have c4 := fun h h2 h3 => checkF_ok (k := k) (zs := zs) (n := n) h h2 h3
  generalize checkF k zs n = R at c1 c2 c3 c4
  generalize arityF k = A at ar c1 c2 c3 c4
  rw [hl] at c2 c4
  by_cases ha : A = 0
  · have HR := Lib.hid (c1 ha)
    subst ha
    clear c1 c2 c3 c4
    go_enter Try.func97, Try.ntmps97
    go_wp2_with (go_at_call 100; refine (ar _ hb1).mono ?_; clear hb1; rintro e w1 ⟨rfl, hb1⟩)
    go_ret
    exact ⟨by rw [HR.out]; rfl, hb1⟩
  have ha' : (A == 0) = false := by simpa using ha
  by_cases h2 : (len : Int) = A
  case neg =>
    have HR := Lib.hid (c2 ha h2)
    have h2' : ((len : Int) == A) = false := by simpa using h2
    have h2'' : ((len : Int) != A) = true := by simpa using h2
    clear c1 c2 c3 c4 ha h2
    go_enter Try.func97, Try.ntmps97
    go_wp2_with (first | (go_at_call 100; refine (ar _ hb1).mono ?_; clear hb1; rintro e w1 ⟨rfl, hb1⟩))
    go_ret
    exact ⟨by rw [HR.out]; rfl, hb1⟩
  subst h2
  clear c1 c2
  have h2' : ((len : Int) != (len : Int)) = false := by simp
  have C3 := Lib.hid (c3 ha)
  have C4 := Lib.hid (c4 ha rfl)
  clear c3 c4 ha
  rcases h.2 with rfl | hne
  · simp only [List.length_nil] at hl
    subst hl
    simp at ha'
  have HC : Hid (∃ b off, a = some ⟨b, off, none⟩ ∧ ∀ i, i < zs.length → w.cell? ⟨b, off + i, none⟩ = some (.int .i64 (zs.getD i 0))) := Lib.hid hne
  have HL := Lib.hid h
  have Hl := Lib.hid hl
  clear hne h hl
  go_enter Try.func97, Try.ntmps97
  go_wp2_with (go_at_call 100; refine (ar _ hb1).mono ?_; clear hb1; rintro e w1 ⟨rfl, hb1⟩)
  have HL1 := Lib.hid (HL.out.below hb1)
  obtain ⟨b, off, rfl, hc⟩ := HC.out
  have HC1 : Hid (∀ i, i < zs.length → w1.cell? ⟨b, off + i, none⟩ = some (.int .i64 (zs.getD i 0))) := Lib.hid fun i hi => (hb1.cell (World.block_lt_of_cell? w _ (hc i hi))).trans (hc i hi)
  clear hc HC HL ar
  go_loop [7, 8, 19] (fun _ _ i => ∃ j : Nat, j ≤ len ∧ i = .int .i64 j ∧ Hid (∀ i, i < j → okAt zs n i)) (fun _ _ i => len - (intOf i).toNat)
  case atStart => exact ⟨0, Nat.zero_le _, rfl, Lib.hid fun j hj => by omega⟩
  case round =>
    obtain ⟨j, hj, rfl, HN⟩ := hrel
    by_cases hlt : j < len
    · have hcell := HC1.out j (by have := Hl.out; omega)
      obtain ⟨z, hz⟩ : ∃ z, zs.getD j 0 = z := ⟨_, rfl⟩
      rw [hz] at hcell
      have HT : IsL w1 (some ⟨b, off, none⟩) (zs.take j) := HL1.out.take j
      have HTl : (zs.take j).length = j := by rw [List.length_take, Hl.out]; omega
      have con := contains_at (some ⟨b, off, none⟩) j cap (zs.take j) z w1 HT HTl
      have hok : okAt zs n j ↔ 0 ≤ z ∧ z < n ∧ (zs.take j).contains z = false := by unfold okAt; rw [hz]
      have hjz : j < zs.length := by rw [Hl.out]; exact hlt
      have HB : Hid (¬ okAt zs n j → R = 61) := Lib.hid (C3.out j hjz)
      clear HT HTl hjz
      generalize (zs.take j).contains z = B at con hok
      have HK := Lib.hid hok
      have HZ := Lib.hid hz
      have CON := Lib.hid con
      clear hok hz con
      by_cases z0 : z < 0
      · have HR : Hid (R = 61) := Lib.hid (HB.out (by rw [HK.out]; omega))
        clear HB HK C3 C4
        go_wp2
        go_ret
        exact ⟨by rw [HR.out]; rfl, hb1⟩
      · by_cases zn : n ≤ z
        · have HR : Hid (R = 61) := Lib.hid (HB.out (by rw [HK.out]; omega))
          clear HB HK C3 C4
          go_wp2
          go_ret
          exact ⟨by rw [HR.out]; rfl, hb1⟩
        · cases B with
          | true =>
            have HR : Hid (R = 61) := Lib.hid (HB.out (by rw [HK.out]; simp))
            clear HB HK C3 C4
            go_wp2_with (go_at_call 98; refine CON.out.mono ?_; rintro e w2 ⟨rfl, rfl⟩)
            go_ret
            exact ⟨by rw [HR.out]; rfl, hb1⟩
          | false =>
            have HN' : Hid (∀ i, i < j + 1 → okAt zs n i) := Lib.hid fun i hi => by
              rcases Nat.lt_succ_iff_lt_or_eq.1 hi with h | h
              · exact HN.out i h
              · rw [h, HK.out]; exact ⟨by omega, by omega, rfl⟩
            clear HB HK HN
            go_wp2_with (go_at_call 98; refine CON.out.mono ?_; rintro e w2 ⟨rfl, rfl⟩)
            go_round
            case rel => exact ⟨j + 1, by omega, by go_num, HN'⟩
            case measure => simp [intOf]; omega
    · have HR : Hid (R = 0) := Lib.hid (C4.out fun i hi => HN.out i (by have := Hl.out; omega))
      clear HN C3 C4
      go_wp2
      go_ret
      exact ⟨by rw [HR.out]; rfl, hb1⟩
end Go.Proofs.Ytbelnopbggkdfaa
end

section
namespace Go.Proofs.Ytbelnopbggkdfaa
open Go.RowKit Lift
theorem pick_two {α β : Type} {vs : List α} {us : List β} {o : α} {p : β} (Q : α → β → Prop) (h : ∀ i, i < 20 → Q (vs.getD i o) (us.getD i p)) (ho : Q o p) (k : Int) : Q (pick vs o k) (pick us p k) := by
  unfold pick
  by_cases hk : 1 ≤ k ∧ k ≤ 20
  · rw [if_pos hk, if_pos hk]; exact h _ (by omega)
  · rw [if_neg hk, if_neg hk]; exact ho
theorem is_arity (k : Int) : isF k = !(arityF k == 0) :=
  pick_two (fun a b => a = !(b == 0)) (by decide) (by decide) k
set_option maxHeartbeats 1000000 in
theorem rcheck_any (k : Int) (a : Option Addr) (len cap : Nat) (zs : List Int) (n : Int) (w : World) (hk : (Lit.int .i64 k).wf = true) (h : IsL w a zs) (hl : zs.length = len) :
    Calls Try.prog 92 #[.int .i64 k, .slice a len cap, .int .i64 n] w fun e w' => e = .returned (.int .i64 (checkF k zs n)) ∧ Below w.heap.size w w' := by
  have hm := h.1
  rw [hl] at hm
  unfold maxLen at hm
  have ar := behind (fun w => rarity_any k hk w) w
  have is := behind (fun w => is_any k hk w) w
  rw [is_arity] at is
  have hb1 := Below.refl w.heap.size w
  have c1 := fun h => checkF_none (k := k) (zs := zs) (n := n) h
  have c2 := fun h h2 => checkF_len (k := k) (zs := zs) (n := n) h h2
  have c3 := fun h i hi h3 => checkF_bad (k := k) (zs := zs) (n := n) h (i := i) hi h3
  have c4 := fun h h2 h3 => checkF_ok (k := k) (zs := zs) (n := n) h h2 h3
  generalize checkF k zs n = R at c1 c2 c3 c4
  generalize arityF k = A at ar is c1 c2 c3 c4
  rw [hl] at c2 c4
  by_cases ha : A = 0
  · have HR := Lib.hid (c1 ha)
    subst ha
    clear c1 c2 c3 c4
    go_enter Try.func92, Try.ntmps92
    go_wp2_with (go_at_call 79; refine (is _ hb1).mono ?_; clear hb1; rintro e w1 ⟨rfl, hb1⟩)
    go_ret
    exact ⟨by rw [HR.out]; rfl, hb1⟩
  have ha' : (A == 0) = false := by simpa using ha
  by_cases h2 : (len : Int) = A
  case neg =>
    have HR := Lib.hid (c2 ha h2)
    have h2'' : ((len : Int) != A) = true := by simpa using h2
    clear c1 c2 c3 c4 ha h2
    go_enter Try.func92, Try.ntmps92
    go_wp2_with (first | (go_at_call 79; refine (is _ hb1).mono ?_; clear hb1; rintro e w1 ⟨rfl, hb1⟩) | (go_at_call 53; refine (ar _ hb1).mono ?_; clear hb1; rintro e w1 ⟨rfl, hb1⟩))
    go_ret
    exact ⟨by rw [HR.out]; rfl, hb1⟩
  subst h2
  clear c1 c2
  have h2' : ((len : Int) != (len : Int)) = false := by simp
  have C3 := Lib.hid (c3 ha)
  have C4 := Lib.hid (c4 ha rfl)
  clear c3 c4 ha
  rcases h.2 with rfl | hne
  · simp only [List.length_nil] at hl
    subst hl
    simp at ha'
  have HC : Hid (∃ b off, a = some ⟨b, off, none⟩ ∧ ∀ i, i < zs.length → w.cell? ⟨b, off + i, none⟩ = some (.int .i64 (zs.getD i 0))) := Lib.hid hne
  have Hl := Lib.hid hl
  clear hne h hl
  go_enter Try.func92, Try.ntmps92
  go_wp2_with (first | (go_at_call 79; refine (is _ hb1).mono ?_; clear hb1; rintro e w1 ⟨rfl, hb1⟩) | (go_at_call 53; refine (ar _ hb1).mono ?_; clear hb1; rintro e w1 ⟨rfl, hb1⟩))
  obtain ⟨b, off, rfl, hc⟩ := HC.out
  have HC1 : Hid (∀ i, i < zs.length → w1.cell? ⟨b, off + i, none⟩ = some (.int .i64 (zs.getD i 0))) := Lib.hid fun i hi => (hb1.cell (World.block_lt_of_cell? w _ (hc i hi))).trans (hc i hi)
  clear hc HC ar is
  go_loopw [7, 8] (fun i _ wr => ∃ m : Nat, m ≤ len ∧ i = .int .i64 m ∧ Hid (∀ i, i < m → okAt zs n i) ∧ Drawn w1 wr) (fun i _ _ => len - (intOf i).toNat)
  case atStart => exact ⟨0, Nat.zero_le _, rfl, Lib.hid fun j hj => by omega, Drawn.refl _⟩
  case round =>
    obtain ⟨m, hm1, rfl, HN, hdr⟩ := hrel
    obtain ⟨wo, rfl⟩ : ∃ wo : World, wo = wr := ⟨_, rfl⟩
    have hbo : Below w.heap.size w wo := hb1.trans (hdr.below.mono hb1.size)
    have HCo : Hid (∀ i, i < zs.length → wo.cell? ⟨b, off + i, none⟩ = some (.int .i64 (zs.getD i 0))) := Lib.hid fun i hi => (hdr.cell _).trans (HC1.out i hi)
    by_cases hlt : m < len
    · have hmz : m < zs.length := by rw [Hl.out]; exact hlt
      obtain ⟨z, hz⟩ : ∃ z, zs.getD m 0 = z := ⟨_, rfl⟩
      have hcell : wo.cell? ⟨b, off + m, none⟩ = some (.int .i64 z) := by rw [HCo.out m hmz, hz]
      have hok : okAt zs n m ↔ 0 ≤ z ∧ z < n ∧ (zs.take m).contains z = false := by unfold okAt; rw [hz]
      have HB : Hid (¬ okAt zs n m → R = 61) := Lib.hid (C3.out m hmz)
      have HK := Lib.hid hok
      have Hmz := Lib.hid hmz
      have Hdr := Lib.hid hdr
      clear hok hz hmz hdr
      by_cases z0 : z < 0
      · have HR : Hid (R = 61) := Lib.hid (HB.out (by rw [HK.out]; omega))
        clear HB HK C3 C4
        go_wp2
        go_ret
        exact ⟨by rw [HR.out]; rfl, hbo⟩
      · by_cases zn : n ≤ z
        · have HR : Hid (R = 61) := Lib.hid (HB.out (by rw [HK.out]; omega))
          clear HB HK C3 C4
          go_wp2
          go_ret
          exact ⟨by rw [HR.out]; rfl, hbo⟩
        · go_wp2
          go_loopw [8] (fun j wr => ∃ q : Nat, q ≤ m ∧ j = .int .i64 q ∧ Hid (∀ i, i < q → zs.getD i 0 ≠ z) ∧ Drawn wo wr) (fun j _ => m - (intOf j).toNat)
          case atStart => exact ⟨0, Nat.zero_le _, rfl, Lib.hid fun j hj => by omega, Drawn.refl _⟩
          case round =>
            obtain ⟨q, hq, rfl, HQ, hdq⟩ := hrel
            obtain ⟨wi, rfl⟩ : ∃ wi : World, wi = wr := ⟨_, rfl⟩
            have hbi : Below w.heap.size w wi := hbo.trans (hdq.below.mono hbo.size)
            have hci : wi.cell? ⟨b, off + m, none⟩ = some (.int .i64 z) := (hdq.cell _).trans hcell
            by_cases hqm : q < m
            · obtain ⟨y, hy⟩ : ∃ y, zs.getD q 0 = y := ⟨_, rfl⟩
              have hcq : wi.cell? ⟨b, off + q, none⟩ = some (.int .i64 y) := by rw [hdq.cell, HCo.out q (by have := Hmz.out; omega), hy]
              have Hy := Lib.hid hy
              have Hdq := Lib.hid hdq
              clear hy hdq
              by_cases e : z = y
              · have HR : Hid (R = 61) := Lib.hid (HB.out (by
                  rw [HK.out]
                  rintro ⟨_, _, h⟩
                  have : z ∈ zs.take m := by
                    rw [e, ← Hy.out, List.getD_eq_getElem?_getD, List.getElem?_eq_getElem (by have := Hmz.out; omega)]
                    rw [List.mem_take_iff_getElem]
                    exact ⟨q, by have := Hmz.out; omega, rfl⟩
                  rw [← List.contains_iff_mem] at this
                  rw [this] at h; cases h))
                subst e
                clear HB HK C3 C4
                go_wp2
                go_quiet (fail)
                go_wp2
                go_ret
                exact ⟨by rw [HR.out]; rfl, below_drewN hbi _⟩
              · have e' : (z == y) = false := by simpa using e
                have HQ' : Hid (∀ i, i < q + 1 → zs.getD i 0 ≠ z) := Lib.hid fun i hi => by
                  rcases Nat.lt_succ_iff_lt_or_eq.1 hi with h | h
                  · exact HQ.out i h
                  · rw [h, Hy.out]; exact Ne.symm e
                clear HQ e
                go_wp2
                go_quiet (fail)
                go_wp2
                go_roundw
                case rel => exact ⟨q + 1, by omega, by go_num, HQ', Drawn.drewN Hdq.out⟩
                case measure => simp [intOf]; omega
            · have HN' : Hid (∀ i, i < m + 1 → okAt zs n i) := Lib.hid fun i hi => by
                rcases Nat.lt_succ_iff_lt_or_eq.1 hi with h | h
                · exact HN.out i h
                · rw [h, HK.out]
                  refine ⟨by omega, by omega, ?_⟩
                  cases hb : (zs.take m).contains z with
                  | false => rfl
                  | true =>
                    rw [List.contains_iff_mem, List.mem_take_iff_getElem] at hb
                    obtain ⟨i, hi, he⟩ := hb
                    have := HQ.out i (by omega)
                    rw [List.getD_eq_getElem?_getD, List.getElem?_eq_getElem (by omega)] at this
                    exact absurd he this
              have Hdq := Lib.hid hdq
              clear HQ HN HB HK hdq
              go_wp2
              go_roundw
              case rel => exact ⟨m + 1, by omega, by go_num, HN', (by
                obtain ⟨x, rfl⟩ := Hdr.out
                obtain ⟨y, rfl⟩ := Hdq.out
                exact Drawn.drewN (Drawn.drewN (Drawn.refl _)))⟩
              case measure => simp [intOf]; omega
    · have HR : Hid (R = 0) := Lib.hid (C4.out fun i hi => HN.out i (by have := Hl.out; omega))
      clear HN C3 C4
      go_wp2
      go_ret
      exact ⟨by rw [HR.out]; rfl, hbo⟩
end Go.Proofs.Ytbelnopbggkdfaa
end

section
namespace Go.Proofs.Ytbelnopbggkdfaa
open Go.RowKit Lift Go.Proofs.YtbelnopbggkdfaaW.PrintWords
/-- A gate: R is what Check tells of it. -/
def gateB (R f3 f4 f5 b : Int) : Bool := R == 0 && (f3 == 0 && (f4 == -1 && f5 == 0 || decide (0 ≤ f4) && (decide (f4 < b) && (f5 == 0 || f5 == 1))))
theorem ret_bool {a b : Bool} (h : a = b) : Ending.returned (.bool a) = .returned (.bool b) := by rw [h]
set_option maxHeartbeats 4000000 in
set_option maxRecDepth 100000 in
theorem may_gate (f1 : Int) (A : Option Addr) (len cap : Nat) (f3 f4 f5 q b R : Int) (w : World)
    (chk : ∀ wx, Below w.heap.size w wx → Calls Try.prog 97 #[.int .i64 f1, .slice A len cap, .int .i64 q] wx fun e w' => e = .returned (.int .i64 R) ∧ Below wx.heap.size wx w') :
    Calls Try.prog 89 #[.agg #[.int .i64 1, .int .i64 f1, .slice A len cap, .int .i64 f3, .int .i64 f4, .int .i64 f5], .int .i64 q, .int .i64 b] w fun e w' => e = .returned (.bool (gateB R f3 f4 f5 b)) ∧ Below w.heap.size w w' := by
  have hu46 := Try.underlying46
  go_enter Try.func89, Try.ntmps89
  go_wp2_with (go_at_call 97; refine (chk _ ((Below.refl _ _).alloc (Nat.le_refl _) _)).mono ?_; clear chk; rintro e w1 ⟨rfl, hb1⟩; obtain ⟨hc, hf⟩ := bcell hb1)
  all_goals
    go_ret
    refine ⟨ret_bool ?_, ((Below.refl _ _).alloc (Nat.le_refl _) _).trans (hb1.mono (by simp))⟩
    go_light
    first | (simp [gateB, *]; done) | (simp [gateB, *]; omega)
/-- All but gates: ok tells whether the qubits are unlike ones below q. -/
def restB (f0 f1 : Int) (len : Nat) (ok : Bool) (f3 f4 f5 b : Int) : Bool :=
  f1 == 0 && (f4 == -1 && (f5 == 0 && (!(len == 0) && (ok && (if f0 = 2 then len == 1 && (decide (0 ≤ f3) && decide (f3 < b)) else if f0 = 3 then len == 1 && f3 == 0 else if f0 = 4 then f3 == 0 else false)))))
open Classical in
set_option maxHeartbeats 4000000 in
set_option maxRecDepth 100000 in
theorem may_rest (f0 f1 : Int) (A : Option Addr) (len cap : Nat) (zs : List Int) (f3 f4 f5 q b : Int) (w : World) (hk : f0 ≠ 1) (h : IsL w A zs) (hl : zs.length = len) (hcap : len ≤ cap) :
    Calls Try.prog 89 #[.agg #[.int .i64 f0, .int .i64 f1, .slice A len cap, .int .i64 f3, .int .i64 f4, .int .i64 f5], .int .i64 q, .int .i64 b] w fun e w' => e = .returned (.bool (restB f0 f1 len (decide (allOk zs q)) f3 f4 f5 b)) ∧ Below w.heap.size w w' := by
  have hu46 := Try.underlying46
  have k1 : (f0 == 1) = false := by simpa using hk
  have hm := h.1
  rw [hl] at hm
  unfold maxLen at hm
  by_cases g : f1 = 0 ∧ f4 = -1 ∧ f5 = 0 ∧ len ≠ 0
  · obtain ⟨rfl, rfl, rfl, hl0⟩ := g
    have hl1 : 0 < len := by omega
    have hl2 : ((len : Int) == 0) = false := by simpa using hl0
    have HR : Hid (restB f0 0 len (decide (allOk zs q)) f3 (-1) 0 b = (decide (allOk zs q) && (if f0 = 2 then len == 1 && (decide (0 ≤ f3) && decide (f3 < b)) else if f0 = 3 then len == 1 && f3 == 0 else if f0 = 4 then f3 == 0 else false))) := Lib.hid (by simp [restB, hl0])
    generalize restB f0 0 len (decide (allOk zs q)) f3 (-1) 0 b = R at HR
    rcases h.2 with rfl | hne
    · simp at hl; omega
    obtain ⟨bk, off, rfl, hc⟩ := hne
    have HC := Lib.hid hc
    have HL := Lib.hid h
    have Hl := Lib.hid hl
    clear hc h hl hl0
    go_enter Try.func89, Try.ntmps89
    go_wp2
    generalize hw1 : World.alloc _ _ = w1
    have hb1 : Below w.heap.size w w1 := by rw [← hw1]; exact (Below.refl _ _).alloc (Nat.le_refl _) _
    have HL1 := Lib.hid (HL.out.below hb1)
    have HC1 : Hid (∀ i, i < zs.length → w1.cell? ⟨bk, off + i, none⟩ = some (.int .i64 (zs.getD i 0))) := Lib.hid fun i hi => (hb1.cell (World.block_lt_of_cell? w _ (HC.out i hi))).trans (HC.out i hi)
    have b0 : w1.cell? ⟨w.heap.size, 0, none⟩ = some (.int .i64 f0) := by rw [← hw1]; exact (blk_cell (blk_new w _) 0).trans rfl
    have b2 : w1.cell? ⟨w.heap.size, 2, none⟩ = some (.slice (some ⟨bk, off, none⟩) len cap) := by rw [← hw1]; exact (blk_cell (blk_new w _) 2).trans rfl
    have b3 : w1.cell? ⟨w.heap.size, 3, none⟩ = some (.int .i64 f3) := by rw [← hw1]; exact (blk_cell (blk_new w _) 3).trans rfl
    clear hw1 HL HC
    go_loop [9, 10, 81] (fun _ _ i => ∃ j : Nat, j ≤ len ∧ i = .int .i64 j ∧ Hid (∀ i, i < j → okAt zs q i)) (fun _ _ i => len - (intOf i).toNat)
    case atStart => exact ⟨0, Nat.zero_le _, rfl, Lib.hid fun j hj => by omega⟩
    case round =>
      obtain ⟨j, hj, rfl, HN⟩ := hrel
      by_cases hlt : j < len
      · have hcell := HC1.out j (by have := Hl.out; omega)
        obtain ⟨z, hz⟩ : ∃ z, zs.getD j 0 = z := ⟨_, rfl⟩
        rw [hz] at hcell
        have HT : IsL w1 (some ⟨bk, off, none⟩) (zs.take j) := HL1.out.take j
        have HTl : (zs.take j).length = j := by rw [List.length_take, Hl.out]; omega
        have con := contains_at (some ⟨bk, off, none⟩) j cap (zs.take j) z w1 HT HTl
        have hok : okAt zs q j ↔ 0 ≤ z ∧ z < q ∧ (zs.take j).contains z = false := by unfold okAt; rw [hz]
        have HB : Hid (¬ okAt zs q j → R = false) := Lib.hid fun hn => by
          rw [HR.out, decide_eq_false (p := allOk zs q) (fun ha => hn (ha j (by rw [Hl.out]; exact hlt)))]; rfl
        clear HT HTl
        generalize (zs.take j).contains z = B at con hok
        have HK := Lib.hid hok
        have HZ := Lib.hid hz
        have CON := Lib.hid con
        clear hok hz con
        by_cases z0 : z < 0
        · have HE : Hid (R = false) := Lib.hid (HB.out (by rw [HK.out]; omega))
          clear HB HK HR b0 b3
          go_wp2
          go_ret
          exact ⟨by rw [HE.out]; rfl, hb1⟩
        · by_cases zn : q ≤ z
          · have HE : Hid (R = false) := Lib.hid (HB.out (by rw [HK.out]; omega))
            clear HB HK HR b0 b3
            go_wp2
            go_ret
            exact ⟨by rw [HE.out]; rfl, hb1⟩
          · cases B with
            | true =>
              have HE : Hid (R = false) := Lib.hid (HB.out (by rw [HK.out]; simp))
              clear HB HK HR b0 b3
              go_wp2_with (go_at_call 98; refine CON.out.mono ?_; rintro e w2 ⟨rfl, rfl⟩)
              go_ret
              exact ⟨by rw [HE.out]; rfl, hb1⟩
            | false =>
              have HN' : Hid (∀ i, i < j + 1 → okAt zs q i) := Lib.hid fun i hi => by
                rcases Nat.lt_succ_iff_lt_or_eq.1 hi with h | h
                · exact HN.out i h
                · rw [h, HK.out]; exact ⟨by omega, by omega, rfl⟩
              clear HB HK HN HR b0 b3
              go_wp2_with (go_at_call 98; refine CON.out.mono ?_; rintro e w2 ⟨rfl, rfl⟩)
              go_round
              case rel => exact ⟨j + 1, by omega, by go_num, HN'⟩
              case measure => simp [intOf]; omega
      · have HE : Hid (R = (if f0 = 2 then len == 1 && (decide (0 ≤ f3) && decide (f3 < b)) else if f0 = 3 then len == 1 && f3 == 0 else if f0 = 4 then f3 == 0 else false)) := Lib.hid (by
          rw [HR.out, decide_eq_true (p := allOk zs q) (fun i hi => HN.out i (by have := Hl.out; omega))]; rfl)
        clear HN HR HL1 HC1
        go_wp2
        all_goals
          go_ret
          refine ⟨ret_bool ?_, hb1⟩
          go_light
          rw [HE.out]
          clear HE hb1 hu46 hcap
          first | (simp_all; done) | (simp_all; omega)
  · go_enter Try.func89, Try.ntmps89
    go_wp2
    all_goals
      go_ret
      refine ⟨ret_bool ?_, (Below.refl _ _).alloc (Nat.le_refl _) _⟩
      go_light
      by_cases hz : len = 0
      · simp [restB, hz]
      · clear hu46 h
        simp_all [restB]
end Go.Proofs.Ytbelnopbggkdfaa
end

section
namespace Go.Proofs.Ytbelnopbggkdfaa
open Go.RowKit Lift
def okB (zs : List Int) (n : Int) : Bool := (List.range zs.length).all fun i => decide (0 ≤ zs.getD i 0) && (decide (zs.getD i 0 < n) && !(zs.take i).contains (zs.getD i 0))
theorem okB_iff {zs : List Int} {n : Int} : okB zs n = true ↔ allOk zs n := by
  unfold okB allOk okAt
  simp [List.all_eq_true]
theorem okB_bad {zs : List Int} {n : Int} {i : Nat} (hi : i < zs.length) (h : ¬ okAt zs n i) : okB zs n = false :=
  Bool.eq_false_iff.2 fun ha => h (okB_iff.1 ha i hi)
theorem okB_ok {zs : List Int} {n : Int} (h : allOk zs n) : okB zs n = true := okB_iff.2 h
set_option maxHeartbeats 1000000 in
theorem unlike_any (a : Option Addr) (len cap : Nat) (zs : List Int) (n : Int) (w : World) (h : IsL w a zs) (hl : zs.length = len) :
    Calls Try.prog 93 #[.slice a len cap, .int .i64 n] w fun e w' => e = .returned (.bool (okB zs n)) ∧ Below w.heap.size w w' := by
  have hm := h.1
  rw [hl] at hm
  unfold maxLen at hm
  have hb1 := Below.refl w.heap.size w
  have c3 := fun i hi h3 => okB_bad (zs := zs) (n := n) (i := i) hi h3
  have c4 := fun h3 => okB_ok (zs := zs) (n := n) h3
  generalize okB zs n = R at c3 c4
  rcases h.2 with rfl | hne
  · simp only [List.length_nil] at hl
    subst hl
    have HR : Hid (R = true) := Lib.hid (c4 fun i hi => by simp at hi)
    clear c3 c4
    go_enter Try.func93, Try.ntmps93
    go_wp2
    go_loop [5, 6] (fun i _ => i = .int .i64 0) (fun _ _ => 0)
    case atStart => rfl
    case round =>
      subst hrel
      go_wp2
      go_ret
      exact ⟨by rw [HR.out]; rfl, hb1⟩
  obtain ⟨b, off, rfl, hc⟩ := hne
  have C3 := Lib.hid c3
  have C4 := Lib.hid c4
  have Hl := Lib.hid hl
  have HC1 := Lib.hid hc
  clear hc h hl c3 c4
  go_enter Try.func93, Try.ntmps93
  go_wp2
  go_loopw [5, 6] (fun i _ wr => ∃ m : Nat, m ≤ len ∧ i = .int .i64 m ∧ Hid (∀ i, i < m → okAt zs n i) ∧ Drawn w wr) (fun i _ _ => len - (intOf i).toNat)
  case atStart => exact ⟨0, Nat.zero_le _, rfl, Lib.hid fun j hj => by omega, Drawn.refl _⟩
  case round =>
    obtain ⟨m, hm1, rfl, HN, hdr⟩ := hrel
    obtain ⟨wo, rfl⟩ : ∃ wo : World, wo = wr := ⟨_, rfl⟩
    have hbo : Below w.heap.size w wo := hb1.trans (hdr.below.mono hb1.size)
    have HCo : Hid (∀ i, i < zs.length → wo.cell? ⟨b, off + i, none⟩ = some (.int .i64 (zs.getD i 0))) := Lib.hid fun i hi => (hdr.cell _).trans (HC1.out i hi)
    by_cases hlt : m < len
    · have hmz : m < zs.length := by rw [Hl.out]; exact hlt
      obtain ⟨z, hz⟩ : ∃ z, zs.getD m 0 = z := ⟨_, rfl⟩
      have hcell : wo.cell? ⟨b, off + m, none⟩ = some (.int .i64 z) := by rw [HCo.out m hmz, hz]
      have hok : okAt zs n m ↔ 0 ≤ z ∧ z < n ∧ (zs.take m).contains z = false := by unfold okAt; rw [hz]
      have HB : Hid (¬ okAt zs n m → R = false) := Lib.hid (C3.out m hmz)
      have HK := Lib.hid hok
      have Hmz := Lib.hid hmz
      have Hdr := Lib.hid hdr
      clear hok hz hmz hdr
      by_cases z0 : z < 0
      · have HR : Hid (R = false) := Lib.hid (HB.out (by rw [HK.out]; omega))
        clear HB HK C3 C4
        go_wp2
        go_ret
        exact ⟨by rw [HR.out]; rfl, hbo⟩
      · by_cases zn : n ≤ z
        · have HR : Hid (R = false) := Lib.hid (HB.out (by rw [HK.out]; omega))
          clear HB HK C3 C4
          go_wp2
          go_ret
          exact ⟨by rw [HR.out]; rfl, hbo⟩
        · go_wp2
          go_loopw [6] (fun j wr => ∃ q : Nat, q ≤ m ∧ j = .int .i64 q ∧ Hid (∀ i, i < q → zs.getD i 0 ≠ z) ∧ Drawn wo wr) (fun j _ => m - (intOf j).toNat)
          case atStart => exact ⟨0, Nat.zero_le _, rfl, Lib.hid fun j hj => by omega, Drawn.refl _⟩
          case round =>
            obtain ⟨q, hq, rfl, HQ, hdq⟩ := hrel
            obtain ⟨wi, rfl⟩ : ∃ wi : World, wi = wr := ⟨_, rfl⟩
            have hbi : Below w.heap.size w wi := hbo.trans (hdq.below.mono hbo.size)
            have hci : wi.cell? ⟨b, off + m, none⟩ = some (.int .i64 z) := (hdq.cell _).trans hcell
            by_cases hqm : q < m
            · obtain ⟨y, hy⟩ : ∃ y, zs.getD q 0 = y := ⟨_, rfl⟩
              have hcq : wi.cell? ⟨b, off + q, none⟩ = some (.int .i64 y) := by rw [hdq.cell, HCo.out q (by have := Hmz.out; omega), hy]
              have Hy := Lib.hid hy
              have Hdq := Lib.hid hdq
              clear hy hdq
              by_cases e : z = y
              · have HR : Hid (R = false) := Lib.hid (HB.out (by
                  rw [HK.out]
                  rintro ⟨_, _, h⟩
                  have : z ∈ zs.take m := by
                    rw [e, ← Hy.out, List.getD_eq_getElem?_getD, List.getElem?_eq_getElem (by have := Hmz.out; omega)]
                    rw [List.mem_take_iff_getElem]
                    exact ⟨q, by have := Hmz.out; omega, rfl⟩
                  rw [← List.contains_iff_mem] at this
                  rw [this] at h; cases h))
                subst e
                clear HB HK C3 C4
                go_wp2
                go_quiet (fail)
                go_wp2
                go_ret
                exact ⟨by rw [HR.out]; rfl, below_drewN hbi _⟩
              · have e' : (z == y) = false := by simpa using e
                have HQ' : Hid (∀ i, i < q + 1 → zs.getD i 0 ≠ z) := Lib.hid fun i hi => by
                  rcases Nat.lt_succ_iff_lt_or_eq.1 hi with h | h
                  · exact HQ.out i h
                  · rw [h, Hy.out]; exact Ne.symm e
                clear HQ e
                go_wp2
                go_quiet (fail)
                go_wp2
                go_roundw
                case rel => exact ⟨q + 1, by omega, by go_num, HQ', Drawn.drewN Hdq.out⟩
                case measure => simp [intOf]; omega
            · have HN' : Hid (∀ i, i < m + 1 → okAt zs n i) := Lib.hid fun i hi => by
                rcases Nat.lt_succ_iff_lt_or_eq.1 hi with h | h
                · exact HN.out i h
                · rw [h, HK.out]
                  refine ⟨by omega, by omega, ?_⟩
                  cases hb : (zs.take m).contains z with
                  | false => rfl
                  | true =>
                    rw [List.contains_iff_mem, List.mem_take_iff_getElem] at hb
                    obtain ⟨i, hi, he⟩ := hb
                    have := HQ.out i (by omega)
                    rw [List.getD_eq_getElem?_getD, List.getElem?_eq_getElem (by omega)] at this
                    exact absurd he this
              have Hdq := Lib.hid hdq
              clear HQ HN HB HK hdq
              go_wp2
              go_roundw
              case rel => exact ⟨m + 1, by omega, by go_num, HN', (by
                obtain ⟨x, rfl⟩ := Hdr.out
                obtain ⟨y, rfl⟩ := Hdq.out
                exact Drawn.drewN (Drawn.drewN (Drawn.refl _)))⟩
              case measure => simp [intOf]; omega
    · have HR : Hid (R = true) := Lib.hid (C4.out fun i hi => HN.out i (by have := Hl.out; omega))
      clear HN C3 C4
      go_wp2
      go_ret
      exact ⟨by rw [HR.out]; rfl, hbo⟩
end Go.Proofs.Ytbelnopbggkdfaa
end

section
namespace Go.Proofs.Ytbelnopbggkdfaa
open Go.RowKit Lift Go.Proofs.YtbelnopbggkdfaaW.PrintWords
set_option maxHeartbeats 4000000 in
set_option maxRecDepth 100000 in
theorem rop_gate (f1 : Int) (A : Option Addr) (len cap : Nat) (f3 f4 f5 q b R : Int) (w : World)
    (chk : ∀ wx, Below w.heap.size w wx → Calls Try.prog 92 #[.int .i64 f1, .slice A len cap, .int .i64 q] wx fun e w' => e = .returned (.int .i64 R) ∧ Below wx.heap.size wx w') :
    Calls Try.prog 81 #[.agg #[.int .i64 1, .int .i64 f1, .slice A len cap, .int .i64 f3, .int .i64 f4, .int .i64 f5], .int .i64 q, .int .i64 b] w fun e w' => e = .returned (.bool (gateB R f3 f4 f5 b)) ∧ Below w.heap.size w w' := by
  have hu46 := Try.underlying46
  go_enter Try.func81, Try.ntmps81
  go_wp2_with (go_at_call 92; refine (chk _ ((Below.refl _ _).alloc (Nat.le_refl _) _)).mono ?_; clear chk; rintro e w1 ⟨rfl, hb1⟩; obtain ⟨hc, hf⟩ := bcell hb1)
  all_goals
    go_ret
    refine ⟨ret_bool ?_, ((Below.refl _ _).alloc (Nat.le_refl _) _).trans (hb1.mono (by simp))⟩
    go_light
    first | (simp [gateB, *]; done) | (simp [gateB, *]; omega)
set_option maxHeartbeats 4000000 in
set_option maxRecDepth 100000 in
theorem rop_rest (f0 f1 : Int) (A : Option Addr) (len cap : Nat) (f3 f4 f5 q b : Int) (R : Bool) (w : World) (hk : f0 ≠ 1)
    (unl : ∀ wx, Below w.heap.size w wx → Calls Try.prog 93 #[.slice A len cap, .int .i64 q] wx fun e w' => e = .returned (.bool R) ∧ Below wx.heap.size wx w') :
    Calls Try.prog 81 #[.agg #[.int .i64 f0, .int .i64 f1, .slice A len cap, .int .i64 f3, .int .i64 f4, .int .i64 f5], .int .i64 q, .int .i64 b] w fun e w' => e = .returned (.bool (restB f0 f1 len R f3 f4 f5 b)) ∧ Below w.heap.size w w' := by
  have hu46 := Try.underlying46
  have k1 : (f0 == 1) = false := by simpa using hk
  by_cases g : f0 = 2 ∨ f0 = 3 ∨ f0 = 4
  · rcases g with rfl | rfl | rfl <;> cases R
    all_goals
      go_enter Try.func81, Try.ntmps81
      go_wp2_with (go_at_call 93; refine (unl _ ((Below.refl _ _).alloc (Nat.le_refl _) _)).mono ?_; clear unl; rintro e w1 ⟨rfl, hb1⟩; obtain ⟨hc, hf⟩ := bcell hb1)
      all_goals
        go_ret
        refine ⟨ret_bool ?_, by first | exact ((Below.refl _ _).alloc (Nat.le_refl _) _).trans (hb1.mono (by simp)) | exact (Below.refl _ _).alloc (Nat.le_refl _) _⟩
        go_light
        clear hu46
        first | (simp_all [restB]; done) | (simp_all [restB]; omega)
  · have g2 : (f0 == 2) = false := by simp; omega
    have g3 : (f0 == 3) = false := by simp; omega
    have g4 : (f0 == 4) = false := by simp; omega
    have HR : Hid (restB f0 f1 len R f3 f4 f5 b = false) := Lib.hid (by simp at g2 g3 g4; simp [restB, g2, g3, g4])
    clear g unl
    go_enter Try.func81, Try.ntmps81
    go_wp2
    all_goals
      go_ret
      exact ⟨by rw [HR.out]; rfl, (Below.refl _ _).alloc (Nat.le_refl _) _⟩
end Go.Proofs.Ytbelnopbggkdfaa
end

section
namespace Go.Proofs.Ytbelnopbggkdfaa
open Go.RowKit Lift Go.Proofs.YtbelnopbggkdfaaW.PrintWords
def checkB (k : Int) (zs : List Int) (n : Int) : Int := if arityF k = 0 then 60 else if (zs.length : Int) ≠ arityF k then 61 else if okB zs n = true then 0 else 61
theorem checkB_eq (k : Int) (zs : List Int) (n : Int) : checkF k zs n = checkB k zs n := by
  unfold checkF checkB
  by_cases h : allOk zs n
  · rw [if_pos h, if_pos (okB_iff.2 h)]
  · rw [if_neg h, if_neg (fun e => h (okB_iff.1 e))]
def mayC (f0 f1 : Int) (zs : List Int) (f3 f4 f5 q b : Int) : Bool := if f0 = 1 then gateB (checkB f1 zs q) f3 f4 f5 b else restB f0 f1 zs.length (okB zs q) f3 f4 f5 b
theorem isL_of_C {w : World} {A : Option Addr} {xs : List Int} (h : Kd.C (Kd.int .i64) w A xs.length xs) : IsL w A xs := by
  obtain ⟨_, hm, hc⟩ := Kd.reads_of_C (enc := Value.int .i64) (d := (0 : Int)) (h1 := fun _ => rfl) h
  refine ⟨hm, ?_⟩
  by_cases h0 : xs = []
  · exact .inl h0
  · have hpos : 0 < xs.length := List.length_pos_iff.2 h0
    obtain ⟨⟨b, off, spot⟩, rfl, hcell⟩ := hc hpos
    have hspot : spot = none := by simpa [Addr.add] using World.cell?_spot (hcell 0 hpos)
    subst hspot
    refine .inr ⟨b, off, rfl, fun i hi => ?_⟩
    have := hcell i hi
    rw [← this]
    congr 1
    by_cases hi0 : i = 0
    · subst hi0; simp [Addr.add]
    · simp [Addr.add, hi0]
theorem may_any (f0 f1 : Int) (A : Option Addr) (cap : Nat) (zs : List Int) (f3 f4 f5 q b : Int) (w : World) (hk : (Lit.int .i64 f1).wf = true) (h : IsL w A zs) (hcap : zs.length ≤ cap) :
    Calls Try.prog 89 #[.agg #[.int .i64 f0, .int .i64 f1, .slice A zs.length cap, .int .i64 f3, .int .i64 f4, .int .i64 f5], .int .i64 q, .int .i64 b] w fun e w' => e = .returned (.bool (mayC f0 f1 zs f3 f4 f5 q b)) ∧ Below w.heap.size w w' := by
  unfold mayC
  by_cases h1 : f0 = 1
  · subst h1
    rw [if_pos rfl, ← checkB_eq]
    exact may_gate f1 A zs.length cap f3 f4 f5 q b (checkF f1 zs q) w fun wx hb => check_any f1 A zs.length cap zs q wx hk (h.below hb) rfl hcap
  · rw [if_neg h1]
    classical
    have := may_rest f0 f1 A zs.length cap zs f3 f4 f5 q b w h1 h rfl hcap
    rwa [show decide (allOk zs q) = okB zs q by rw [Bool.eq_iff_iff, okB_iff]; simp] at this
theorem rop_any (f0 f1 : Int) (A : Option Addr) (cap : Nat) (zs : List Int) (f3 f4 f5 q b : Int) (w : World) (hk : (Lit.int .i64 f1).wf = true) (h : IsL w A zs) :
    Calls Try.prog 81 #[.agg #[.int .i64 f0, .int .i64 f1, .slice A zs.length cap, .int .i64 f3, .int .i64 f4, .int .i64 f5], .int .i64 q, .int .i64 b] w fun e w' => e = .returned (.bool (mayC f0 f1 zs f3 f4 f5 q b)) ∧ Below w.heap.size w w' := by
  unfold mayC
  by_cases h1 : f0 = 1
  · subst h1
    rw [if_pos rfl, ← checkB_eq]
    exact rop_gate f1 A zs.length cap f3 f4 f5 q b (checkF f1 zs q) w fun wx hb => rcheck_any f1 A zs.length cap zs q wx hk (h.below hb) rfl
  · rw [if_neg h1]
    exact rop_rest f0 f1 A zs.length cap f3 f4 f5 q b (okB zs q) w h1 fun wx hb => unlike_any A zs.length cap zs q wx (h.below hb) rfl
end Go.Proofs.Ytbelnopbggkdfaa
end

section
namespace Go.Proofs.Ytbelnopbggkdfaa.Q
open Go.RowKit Go.Proofs.YtbelnopbggkdfaaW.PrintWords Go.Proofs.YtbelnopbggkdfaaW.PrintLast Go.Proofs.YtbelnopbggkdfaaW.PrintMore
attribute [local go_sem] max2_int min2_int max_two min_two max_three min_three max_four min_four   -- for this text's walks alone
set_option linter.unusedVariables false
set_option linter.unusedSimpArgs false
def circuit_may.f (a0_0 : Int) (a0_1 : Int) (l0_2 : List Int) (a0_3 : Int) (a0_4 : Int) (a0_5 : Int) (a1 : Int) (a2 : Int) : Option (Bool) := if (Lit.int .i64 a0_1).wf = true then some (mayC a0_0 a0_1 l0_2 a0_3 a0_4 a0_5 a1 a2) else none
theorem circuit_may.calls (a0_0 : Int) (a0_1 : Int) (A0_2 : Option Addr) (c0_2 : Nat) (l0_2 : List Int) (a0_3 : Int) (a0_4 : Int) (a0_5 : Int) (a1 : Int) (a2 : Int) (r : Bool) (w : World) (hr0_2 : Kd.C (Kd.int .i64) w A0_2 l0_2.length l0_2) (hc0_2 : l0_2.length ≤ c0_2) (h : circuit_may.f a0_0 a0_1 l0_2 a0_3 a0_4 a0_5 a1 a2 = some r) :
    Calls Try.prog 89 #[.agg #[.int .i64 a0_0, .int .i64 a0_1, .slice A0_2 l0_2.length c0_2, .int .i64 a0_3, .int .i64 a0_4, .int .i64 a0_5], .int .i64 a1, .int .i64 a2] w fun e w' => e = .returned (.bool r) ∧ Below w.heap.size w w' := by
  unfold circuit_may.f at h
  split at h
  · rename_i hk
    obtain rfl := Option.some.inj h
    exact may_any a0_0 a0_1 A0_2 c0_2 l0_2 a0_3 a0_4 a0_5 a1 a2 w hk (isL_of_C hr0_2) hc0_2
  · cases h
end Go.Proofs.Ytbelnopbggkdfaa.Q
end

section
namespace Go.Proofs.Ytbelnopbggkdfaa.Q
open Go.RowKit Go.Proofs.YtbelnopbggkdfaaW.PrintWords Go.Proofs.YtbelnopbggkdfaaW.PrintLast Go.Proofs.YtbelnopbggkdfaaW.PrintMore
attribute [local go_sem] max2_int min2_int max_two min_two max_three min_three max_four min_four   -- for this text's walks alone
set_option linter.unusedVariables false
set_option linter.unusedSimpArgs false
mutual
def circuit_Check.j0 : Nat → Bool → Int → Int → List (S46) → Option (Int × Int)
  | 0, _, _, _, _ => none
  | k + 1, x29, x127000, x127001, x127002 => if x29 = true then (some ((-1), 80)) else (circuit_Check.l0 k x127002 (x127002.length : Int) 0 x127000 x127001 x127002)
def circuit_Check.l0 : Nat → List (S46) → Int → Int → Int → Int → List (S46) → Option (Int × Int)
  | 0, _, _, _, _, _, _ => none
  | k + 1, x31, x32, x33, x127000, x127001, x127002 => if x33 < x32 then (if 0 ≤ x33 then (if x33 < (x31.length : Int) then ((circuit_may.f ((rd_T46 x31 x33).f0) ((rd_T46 x31 x33).f1) ((rd_T46 x31 x33).f2) ((rd_T46 x31 x33).f3) ((rd_T46 x31 x33).f4) ((rd_T46 x31 x33).f5) x127000 x127001).bind fun t129 => (if t129 = true then (circuit_Check.l0 k x31 x32 (wrap64 (x33 + 1)) x127000 x127001 x127002) else (some (x33, 80)))) else (none)) else (none)) else (some (0, 0))
end
def circuit_Check.f (k : Nat) (a0_0 : Int) (a0_1 : Int) (l0_2 : List (S46)) : Option (Int × Int) := if a0_0 < 0 then (circuit_Check.j0 k true a0_0 a0_1 l0_2) else (if a0_0 > 64 then (circuit_Check.j0 k true a0_0 a0_1 l0_2) else (if a0_1 < 0 then (circuit_Check.j0 k true a0_0 a0_1 l0_2) else (if a0_1 > 64 then (circuit_Check.j0 k true a0_0 a0_1 l0_2) else (circuit_Check.j0 k (decide ((l0_2.length : Int) > 4096)) a0_0 a0_1 l0_2))))
set_option maxHeartbeats 8000000 in
set_option maxRecDepth 100000 in
theorem circuit_Check.calls (k : Nat) (a0_0 : Int) (a0_1 : Int) (A0_2 : Option Addr) (c0_2 : Nat) (l0_2 : List (S46)) (r1 : Int) (r2 : Int) (w : World) (hr0_2 : Kd.C k46 w A0_2 l0_2.length l0_2) (hc0_2 : l0_2.length ≤ c0_2) (h : circuit_Check.f k a0_0 a0_1 l0_2 = some (r1, r2)) :
    Calls Try.prog 75 #[.agg #[.int .i64 a0_0, .int .i64 a0_1, .slice A0_2 l0_2.length c0_2]] w fun e w' => e = .returned (.tuple #[.int .i64 r1, .int .i64 r2]) ∧ Below w.heap.size w w' := by
  have hu24 := Try.underlying24
  have hu46 := Try.underlying46
  have HR0_2 := Aside0.mk hr0_2
  have HC0_2 := Aside0.mk hc0_2
  clear hr0_2 hc0_2
  have HB := Aside0.mk (Below.refl w.heap.size w)
  have H : (if a0_0 < 0 then (circuit_Check.j0 k true a0_0 a0_1 l0_2) else (if a0_0 > 64 then (circuit_Check.j0 k true a0_0 a0_1 l0_2) else (if a0_1 < 0 then (circuit_Check.j0 k true a0_0 a0_1 l0_2) else (if a0_1 > 64 then (circuit_Check.j0 k true a0_0 a0_1 l0_2) else (circuit_Check.j0 k (decide ((l0_2.length : Int) > 4096)) a0_0 a0_1 l0_2))))) = some (r1, r2) := h
  clear h
  have HC2 := Aside0.mk H
  clear H
  go_enter Try.func75, Try.ntmps75
  go_upto_region 1 with (first | ((with_reducible refine gate_dst (N := 1) rfl ?_); (try (refine gate_guard (by rfl) ?_; dsimp only)); refine box_event ?hg (N := 1) ?hd (cs := #[.int .i64 a0_0, .int .i64 a0_1, .slice A0_2 l0_2.length c0_2]) (t := 24) ?hr ?_; (case hd => rfl); (case hg => rfl); (case hr => first | (go_simp; done) | (go_simp; rfl)); intro gb126 hg w3 hbox hb; have n0_ := Aside0.mk (below_step (by repeat (first | (with_reducible first | exact HB.out | apply below_alloc | apply pw_below_drewN | apply below_drew1) | exact HB.out)) hb); have n1_ := Aside0.mk (hbox); have n2_ := Aside0.mk ((by rw [hg]; exact (below_size (by repeat (first | (with_reducible first | exact HB.out | apply below_alloc | apply pw_below_drewN | apply below_drew1) | exact HB.out))) : w.heap.size ≤ gb126)); have n3_ := Aside0.mk ((by rw [hg]; exact (below_size (by repeat (first | (with_reducible first | exact HB.out | apply below_alloc | apply pw_below_drewN | apply below_drew1) | exact HB.out))) : w.heap.size ≤ gb126)); clear HB; have HB := n0_; have BK126 := n1_; have GW126 := n2_; have GE126 := n3_; clear n0_ n1_ n2_ n3_; clear hb hbox hg))
  (try simp only [Act.put, List.setIfInBounds_toArray, List.set_cons_zero, List.set_cons_succ])
  go_cut [29] (fun v29 wc => ∃ (kq : Nat) (x29_1 : Bool), v29 = .bool x29_1 ∧ Aside0 (circuit_Check.j0 kq x29_1 a0_0 a0_1 l0_2 = some (r1, r2)) ∧ Aside0 (kq ≤ k) ∧ Aside0 (wc.heap[gb126]? = some (.cells #[.int .i64 a0_0, .int .i64 a0_1, (.slice A0_2 l0_2.length c0_2)] 24 (0, 0))) ∧ Aside0 (Below w.heap.size w wc))
  case first =>
    have H := HC2.out
    clear HC2
    by_cases c4 : a0_0 < 0
    · rw [if_pos c4] at H
      have c4b0 : decide (a0_0 < 0) = true := decide_eq_true c4
      clear c4
      (first | rw [c4b0] | (simp only [i64_w, i32_w]; rw [c4b0]) | skip)
      have H' := Aside0.mk H
      clear H
      have hcz5_0 : w3.cell? ⟨gb126, 0, none⟩ = some (.int .i64 a0_0) := (blk_cell BK126.out 0).trans rfl
      have hcz5_1 : w3.cell? ⟨gb126, 1, none⟩ = some (.int .i64 a0_1) := (blk_cell BK126.out 1).trans rfl
      have hcz5_2 : w3.cell? ⟨gb126, 2, none⟩ = some (.slice A0_2 l0_2.length c0_2) := (blk_cell BK126.out 2).trans rfl
      have hfz5_0 := blk_frozen BK126.out 0
      have hfz5_1 := blk_frozen BK126.out 1
      have hfz5_2 := blk_frozen BK126.out 2
      go_wp2
      go_meet
      case rel => exact ⟨_, (true), (by first | rfl | (simp; done) | (simp [*]; done)), H', ⟨by first | omega | exact Nat.le_refl _⟩, ⟨by (with_reducible repeat (first | refine blk_drewN ?_ _ | refine blk_drew ?_ | refine blk_alloc ?_ _)); exact BK126.out⟩, ⟨by repeat (first | (with_reducible first | exact HB.out | apply below_alloc | apply pw_below_drewN | apply below_drew1 | refine below_set ?_ GE126.out) | exact HB.out)⟩⟩
    · rw [if_neg c4] at H
      have c4b0 : decide (a0_0 < 0) = false := decide_eq_false c4
      clear c4
      (first | rw [c4b0] | (simp only [i64_w, i32_w]; rw [c4b0]) | skip)
      by_cases c6 : a0_0 > 64
      · rw [if_pos c6] at H
        have c6b0 : decide (64 < a0_0) = true := decide_eq_true c6
        clear c6
        have H' := Aside0.mk H
        clear H
        have hcz7_0 : w3.cell? ⟨gb126, 0, none⟩ = some (.int .i64 a0_0) := (blk_cell BK126.out 0).trans rfl
        have hcz7_1 : w3.cell? ⟨gb126, 1, none⟩ = some (.int .i64 a0_1) := (blk_cell BK126.out 1).trans rfl
        have hcz7_2 : w3.cell? ⟨gb126, 2, none⟩ = some (.slice A0_2 l0_2.length c0_2) := (blk_cell BK126.out 2).trans rfl
        have hfz7_0 := blk_frozen BK126.out 0
        have hfz7_1 := blk_frozen BK126.out 1
        have hfz7_2 := blk_frozen BK126.out 2
        go_wp2
        go_meet
        case rel => exact ⟨_, (true), (by first | rfl | (simp; done) | (simp [*]; done)), H', ⟨by first | omega | exact Nat.le_refl _⟩, ⟨by (with_reducible repeat (first | refine blk_drewN ?_ _ | refine blk_drew ?_ | refine blk_alloc ?_ _)); exact BK126.out⟩, ⟨by repeat (first | (with_reducible first | exact HB.out | apply below_alloc | apply pw_below_drewN | apply below_drew1 | refine below_set ?_ GE126.out) | exact HB.out)⟩⟩
      · rw [if_neg c6] at H
        have c6b0 : decide (64 < a0_0) = false := decide_eq_false c6
        clear c6
        by_cases c8 : a0_1 < 0
        · rw [if_pos c8] at H
          have c8b0 : decide (a0_1 < 0) = true := decide_eq_true c8
          clear c8
          have H' := Aside0.mk H
          clear H
          have hcz9_0 : w3.cell? ⟨gb126, 0, none⟩ = some (.int .i64 a0_0) := (blk_cell BK126.out 0).trans rfl
          have hcz9_1 : w3.cell? ⟨gb126, 1, none⟩ = some (.int .i64 a0_1) := (blk_cell BK126.out 1).trans rfl
          have hcz9_2 : w3.cell? ⟨gb126, 2, none⟩ = some (.slice A0_2 l0_2.length c0_2) := (blk_cell BK126.out 2).trans rfl
          have hfz9_0 := blk_frozen BK126.out 0
          have hfz9_1 := blk_frozen BK126.out 1
          have hfz9_2 := blk_frozen BK126.out 2
          go_wp2
          go_meet
          case rel => exact ⟨_, (true), (by first | rfl | (simp; done) | (simp [*]; done)), H', ⟨by first | omega | exact Nat.le_refl _⟩, ⟨by (with_reducible repeat (first | refine blk_drewN ?_ _ | refine blk_drew ?_ | refine blk_alloc ?_ _)); exact BK126.out⟩, ⟨by repeat (first | (with_reducible first | exact HB.out | apply below_alloc | apply pw_below_drewN | apply below_drew1 | refine below_set ?_ GE126.out) | exact HB.out)⟩⟩
        · rw [if_neg c8] at H
          have c8b0 : decide (a0_1 < 0) = false := decide_eq_false c8
          clear c8
          by_cases c10 : a0_1 > 64
          · rw [if_pos c10] at H
            have c10b0 : decide (64 < a0_1) = true := decide_eq_true c10
            clear c10
            have H' := Aside0.mk H
            clear H
            have hcz11_0 : w3.cell? ⟨gb126, 0, none⟩ = some (.int .i64 a0_0) := (blk_cell BK126.out 0).trans rfl
            have hcz11_1 : w3.cell? ⟨gb126, 1, none⟩ = some (.int .i64 a0_1) := (blk_cell BK126.out 1).trans rfl
            have hcz11_2 : w3.cell? ⟨gb126, 2, none⟩ = some (.slice A0_2 l0_2.length c0_2) := (blk_cell BK126.out 2).trans rfl
            have hfz11_0 := blk_frozen BK126.out 0
            have hfz11_1 := blk_frozen BK126.out 1
            have hfz11_2 := blk_frozen BK126.out 2
            go_wp2
            go_meet
            case rel => exact ⟨_, (true), (by first | rfl | (simp; done) | (simp [*]; done)), H', ⟨by first | omega | exact Nat.le_refl _⟩, ⟨by (with_reducible repeat (first | refine blk_drewN ?_ _ | refine blk_drew ?_ | refine blk_alloc ?_ _)); exact BK126.out⟩, ⟨by repeat (first | (with_reducible first | exact HB.out | apply below_alloc | apply pw_below_drewN | apply below_drew1 | refine below_set ?_ GE126.out) | exact HB.out)⟩⟩
          · rw [if_neg c10] at H
            have c10b0 : decide (64 < a0_1) = false := decide_eq_false c10
            clear c10
            have H' := Aside0.mk H
            clear H
            have hcz12_0 : w3.cell? ⟨gb126, 0, none⟩ = some (.int .i64 a0_0) := (blk_cell BK126.out 0).trans rfl
            have hcz12_1 : w3.cell? ⟨gb126, 1, none⟩ = some (.int .i64 a0_1) := (blk_cell BK126.out 1).trans rfl
            have hcz12_2 : w3.cell? ⟨gb126, 2, none⟩ = some (.slice A0_2 l0_2.length c0_2) := (blk_cell BK126.out 2).trans rfl
            have hfz12_0 := blk_frozen BK126.out 0
            have hfz12_1 := blk_frozen BK126.out 1
            have hfz12_2 := blk_frozen BK126.out 2
            go_wp2
            go_meet
            case rel => exact ⟨_, (decide ((l0_2.length : Int) > 4096)), (by first | rfl | (simp; done) | (simp [*]; done)), H', ⟨by first | omega | exact Nat.le_refl _⟩, ⟨by (with_reducible repeat (first | refine blk_drewN ?_ _ | refine blk_drew ?_ | refine blk_alloc ?_ _)); exact BK126.out⟩, ⟨by repeat (first | (with_reducible first | exact HB.out | apply below_alloc | apply pw_below_drewN | apply below_drew1 | refine below_set ?_ GE126.out) | exact HB.out)⟩⟩
  case rest =>
    clear HC2
    try clear c1
    try clear p2
    try clear c4
    try clear c4b0
    try clear c6
    try clear c6b0
    try clear c7
    try clear c8
    try clear c8b0
    try clear c10
    try clear c10b0
    try clear hcz11_0
    try clear hcz11_1
    try clear hcz11_2
    try clear hcz12_0
    try clear hcz12_1
    try clear hcz12_2
    try clear hcz5_0
    try clear hcz5_1
    try clear hcz5_2
    try clear hcz7_0
    try clear hcz7_1
    try clear hcz7_2
    try clear hcz9_0
    try clear hcz9_1
    try clear hcz9_2
    try clear hfz11_0
    try clear hfz11_1
    try clear hfz11_2
    try clear hfz12_0
    try clear hfz12_1
    try clear hfz12_2
    try clear hfz5_0
    try clear hfz5_1
    try clear hfz5_2
    try clear hfz7_0
    try clear hfz7_1
    try clear hfz7_2
    try clear hfz9_0
    try clear hfz9_1
    try clear hfz9_2
    obtain ⟨kq, x29_1, rfl, HA, HJ1, BK126, HB⟩ := hcut
    cases kq with
    | zero => exact absurd HA.out (by simp [circuit_Check.j0])
    | succ kj1 =>
      have H := HA.out
      clear HA
      simp only [circuit_Check.j0] at H
      by_cases c13 : x29_1 = true
      · subst c13
        have H1 : (some ((-1), 80)) = some (r1, r2) := by rw [if_pos rfl] at H; exact H
        clear H
        have H := H1
        clear H1
        simp only [Option.some.injEq, Prod.mk.injEq] at H
        obtain ⟨rfl, rfl⟩ := H
        go_wp2
        go_ret2
        exact ⟨by first | rfl | (simp [errW_none, errW_some] <;> rfl) | (simp [*, errW_none, errW_some] <;> rfl), by repeat (first | (with_reducible first | exact HB.out | apply below_alloc | apply pw_below_drewN | apply below_drew1 | refine below_set ?_ GE126.out) | exact HB.out)⟩
      · replace c13 := Bool.eq_false_iff.mpr c13
        subst c13
        have H1 : (circuit_Check.l0 kj1 l0_2 (l0_2.length : Int) 0 a0_0 a0_1 l0_2) = some (r1, r2) := by rw [if_neg (show ¬ (false = true) by decide)] at H; exact H
        clear H
        have H := H1
        clear H1
        have H' := Aside0.mk H
        clear H
        have hcz14_0 : wc.cell? ⟨gb126, 0, none⟩ = some (.int .i64 a0_0) := (blk_cell BK126.out 0).trans rfl
        have hcz14_1 : wc.cell? ⟨gb126, 1, none⟩ = some (.int .i64 a0_1) := (blk_cell BK126.out 1).trans rfl
        have hcz14_2 : wc.cell? ⟨gb126, 2, none⟩ = some (.slice A0_2 l0_2.length c0_2) := (blk_cell BK126.out 2).trans rfl
        have hfz14_0 := blk_frozen BK126.out 0
        have hfz14_1 := blk_frozen BK126.out 1
        have hfz14_2 := blk_frozen BK126.out 2
        go_wp2
        go_loopg [33] kj1 (fun kq v33 w' => ∃ (x33_2 : Int), v33 = .int .i64 x33_2 ∧ Aside0 (circuit_Check.l0 kq l0_2 (l0_2.length : Int) x33_2 a0_0 a0_1 l0_2 = some (r1, r2)) ∧ Aside0 (kq ≤ kj1) ∧ Aside0 (w'.heap[gb126]? = some (.cells #[.int .i64 a0_0, .int .i64 a0_1, (.slice A0_2 l0_2.length c0_2)] 24 (0, 0))) ∧ Aside0 (Below w.heap.size w w'))
        case atStart => exact ⟨(0), (by first | rfl | (simp; done) | (simp [*]; done)), H', ⟨Nat.le_refl _⟩, ⟨by (with_reducible repeat (first | refine blk_drewN ?_ _ | refine blk_drew ?_ | refine blk_alloc ?_ _)); exact BK126.out⟩, ⟨by repeat (first | (with_reducible first | exact HB.out | apply below_alloc | apply pw_below_drewN | apply below_drew1 | refine below_set ?_ GE126.out) | exact HB.out)⟩⟩
        case round =>
          clear H'
          try clear c1
          try clear p2
          try clear c4
          try clear c4b0
          try clear c6
          try clear c6b0
          try clear c7
          try clear c8
          try clear c8b0
          try clear c10
          try clear c10b0
          try clear c13
          try clear hcz11_0
          try clear hcz11_1
          try clear hcz11_2
          try clear hcz12_0
          try clear hcz12_1
          try clear hcz12_2
          try clear hcz14_0
          try clear hcz14_1
          try clear hcz14_2
          try clear hcz5_0
          try clear hcz5_1
          try clear hcz5_2
          try clear hcz7_0
          try clear hcz7_1
          try clear hcz7_2
          try clear hcz9_0
          try clear hcz9_1
          try clear hcz9_2
          try clear hfz11_0
          try clear hfz11_1
          try clear hfz11_2
          try clear hfz12_0
          try clear hfz12_1
          try clear hfz12_2
          try clear hfz14_0
          try clear hfz14_1
          try clear hfz14_2
          try clear hfz5_0
          try clear hfz5_1
          try clear hfz5_2
          try clear hfz7_0
          try clear hfz7_1
          try clear hfz7_2
          try clear hfz9_0
          try clear hfz9_1
          try clear hfz9_2
          try clear p2
          obtain ⟨x33_2, rfl, HA, HK2, BK126, HB⟩ := hrel
          cases gk with
          | zero => exact absurd HA.out (by simp [circuit_Check.l0])
          | succ k2 =>
            have H := HA.out
            clear HA
            simp only [circuit_Check.l0] at H
            by_cases c15 : x33_2 < (l0_2.length : Int)
            · rw [if_pos c15] at H
              have c15b0 : decide (x33_2 < (l0_2.length : Int)) = true := decide_eq_true c15
              clear c15
              by_cases c16 : 0 ≤ x33_2
              · rw [if_pos c16] at H
                have c16b0 : decide (0 ≤ x33_2) = true := decide_eq_true c16
                clear c16
                by_cases c17 : x33_2 < (l0_2.length : Int)
                · rw [if_pos c17] at H
                  have c17b0 : decide (x33_2 < (l0_2.length : Int)) = true := decide_eq_true c17
                  clear c17
                  replace H := Option.bind_eq_some_iff.mp H
                  obtain ⟨t129, A180, H⟩ := H
                  replace H : (if t129 = true then (circuit_Check.l0 k2 l0_2 (l0_2.length : Int) (wrap64 (x33_2 + 1)) a0_0 a0_1 l0_2) else (some (x33_2, 80))) = some (r1, r2) := H
                  have A18 := Aside0.mk A180
                  clear A180
                  by_cases c19 : t129 = true
                  · subst c19
                    have H1 : (circuit_Check.l0 k2 l0_2 (l0_2.length : Int) (wrap64 (x33_2 + 1)) a0_0 a0_1 l0_2) = some (r1, r2) := by rw [if_pos rfl] at H; exact H
                    clear H
                    have H := H1
                    clear H1
                    have H' := Aside0.mk H
                    clear H
                    have p127 : 0 ≤ (x33_2 : Int) := of_decide_eq_true (by first | (with_reducible assumption) | assumption)
                    have q127 : x33_2 < (l0_2.length : Int) := of_decide_eq_true (by first | (with_reducible assumption) | assumption)
                    obtain ⟨ad127, A127_2, c127_2, e127, hx127_0, hx127_1, hx127_2, hx127_3, hx127_4, hx127_5, hl127_2, hi127_2⟩ := at_T46 HR0_2.out x33_2 p127 q127
                    cases e127
                    replace hx127_0 := (HB.out.cell (World.block_lt_of_cell? w _ hx127_0)).trans hx127_0
                    replace hx127_1 := (HB.out.cell (World.block_lt_of_cell? w _ hx127_1)).trans hx127_1
                    replace hx127_2 := (HB.out.cell (World.block_lt_of_cell? w _ hx127_2)).trans hx127_2
                    replace hx127_3 := (HB.out.cell (World.block_lt_of_cell? w _ hx127_3)).trans hx127_3
                    replace hx127_4 := (HB.out.cell (World.block_lt_of_cell? w _ hx127_4)).trans hx127_4
                    replace hx127_5 := (HB.out.cell (World.block_lt_of_cell? w _ hx127_5)).trans hx127_5
                    have HR127_2 := Aside0.mk hi127_2
                    have HC127_2 := Aside0.mk hl127_2
                    clear hi127_2 hl127_2
                    replace p127 := eq_true p127
                    replace q127 := eq_true q127
                    go_wp2_with (first | ((with_reducible refine gate_dst (N := 5) rfl ?_); (try (refine gate_guard (by rfl) ?_; dsimp only)); refine box_event ?hg (N := 5) ?hd (cs := #[.int .i64 0, .int .i64 0, .slice none 0 0, .int .i64 0, .int .i64 0, .int .i64 0]) (t := 46) ?hr ?_; (case hd => rfl); (case hg => rfl); (case hr => first | (go_simp; done) | (go_simp; rfl)); intro gb128 hg w20 hbox hb; have n0_ := Aside0.mk (blk_below (g := gb126) (o := .cells #[.int .i64 a0_0, .int .i64 a0_1, .slice (some ad127) l0_2.length c0_2] 24 (0, 0)) (by (with_reducible repeat (first | refine blk_drewN ?_ _ | refine blk_drew ?_ | refine blk_alloc ?_ _)); exact BK126.out) hb); have n1_ := Aside0.mk (below_step (by repeat (first | (with_reducible first | exact HB.out | apply below_alloc | apply pw_below_drewN | apply below_drew1 | refine below_set ?_ GE126.out) | exact HB.out)) hb); have n2_ := Aside0.mk (hbox); have n3_ := Aside0.mk ((by rw [hg]; exact (below_size (by repeat (first | (with_reducible first | exact HB.out | apply below_alloc | apply pw_below_drewN | apply below_drew1 | refine below_set ?_ GE126.out) | exact HB.out))) : w.heap.size ≤ gb128)); have n4_ := Aside0.mk ((by rw [hg]; exact (below_size (by repeat (first | (with_reducible first | exact HB.out | apply below_alloc | apply pw_below_drewN | apply below_drew1 | refine below_set ?_ GE126.out) | exact HB.out))) : w.heap.size ≤ gb128)); have n5_ := Aside0.mk ((by rw [hg]; exact Nat.ne_of_lt (blk_lt (g := gb126) (o := .cells #[.int .i64 a0_0, .int .i64 a0_1, .slice (some ad127) l0_2.length c0_2] 24 (0, 0)) (by (with_reducible repeat (first | refine blk_drewN ?_ _ | refine blk_drew ?_ | refine blk_alloc ?_ _)); exact BK126.out)) : gb126 ≠ gb128)); have n6_ := Aside0.mk ((by rw [hg]; exact Nat.ne_of_gt (blk_lt (g := gb126) (o := .cells #[.int .i64 a0_0, .int .i64 a0_1, .slice (some ad127) l0_2.length c0_2] 24 (0, 0)) (by (with_reducible repeat (first | refine blk_drewN ?_ _ | refine blk_drew ?_ | refine blk_alloc ?_ _)); exact BK126.out)) : gb128 ≠ gb126)); clear BK126; clear HB; have BK126 := n0_; have HB := n1_; have BK128 := n2_; have GW128 := n3_; have GE128 := n4_; have NB126_128 := n5_; have NB128_126 := n6_; clear n0_ n1_ n2_ n3_ n4_ n5_ n6_; clear hb hbox hg; have hnb21 := NB128_126.out; have hnc21 := NB126_128.out; have hcz22_0 : w20.cell? ⟨gb128, 0, none⟩ = some (.int .i64 0) := (blk_cell BK128.out 0).trans rfl; have hcz22_1 : w20.cell? ⟨gb128, 1, none⟩ = some (.int .i64 0) := (blk_cell BK128.out 1).trans rfl; have hcz22_2 : w20.cell? ⟨gb128, 2, none⟩ = some (.slice none 0 0) := (blk_cell BK128.out 2).trans rfl; have hcz22_3 : w20.cell? ⟨gb128, 3, none⟩ = some (.int .i64 0) := (blk_cell BK128.out 3).trans rfl; have hcz22_4 : w20.cell? ⟨gb128, 4, none⟩ = some (.int .i64 0) := (blk_cell BK128.out 4).trans rfl; have hcz22_5 : w20.cell? ⟨gb128, 5, none⟩ = some (.int .i64 0) := (blk_cell BK128.out 5).trans rfl; have hfz22_0 := blk_frozen BK128.out 0; have hfz22_1 := blk_frozen BK128.out 1; have hfz22_2 := blk_frozen BK128.out 2; have hfz22_3 := blk_frozen BK128.out 3; have hfz22_4 := blk_frozen BK128.out 4; have hfz22_5 := blk_frozen BK128.out 5; have hcz23_0 : w20.cell? ⟨gb126, 0, none⟩ = some (.int .i64 a0_0) := (blk_cell BK126.out 0).trans rfl; have hcz23_1 : w20.cell? ⟨gb126, 1, none⟩ = some (.int .i64 a0_1) := (blk_cell BK126.out 1).trans rfl; have hcz23_2 : w20.cell? ⟨gb126, 2, none⟩ = some (.slice (some ad127) l0_2.length c0_2) := (blk_cell BK126.out 2).trans rfl; have hfz23_0 := blk_frozen BK126.out 0; have hfz23_1 := blk_frozen BK126.out 1; have hfz23_2 := blk_frozen BK126.out 2) | ((with_reducible refine gate_callee (f := 89) rfl ?_); refine goesL_ (some 43) rfl rfl Try.func89 (by kernel_rfl) rfl #[.agg #[.int .i64 ((rd_T46 l0_2 x33_2).f0), .int .i64 ((rd_T46 l0_2 x33_2).f1), .slice A127_2 ((rd_T46 l0_2 x33_2).f2).length c127_2, .int .i64 ((rd_T46 l0_2 x33_2).f3), .int .i64 ((rd_T46 l0_2 x33_2).f4), .int .i64 ((rd_T46 l0_2 x33_2).f5)], .int .i64 a0_0, .int .i64 a0_1] rfl (by (try simp only [List.map_toArray, List.map_cons, List.map_nil]); first | done | rfl | (simp only [List.length_drop, List.length_take]; rfl)) ?_; (with_reducible refine (circuit_may.calls ((rd_T46 l0_2 x33_2).f0) ((rd_T46 l0_2 x33_2).f1) _ _ ((rd_T46 l0_2 x33_2).f2) ((rd_T46 l0_2 x33_2).f3) ((rd_T46 l0_2 x33_2).f4) ((rd_T46 l0_2 x33_2).f5) a0_0 a0_1 true _ ?side1 ?side2 A18.out).mono ?_); (case side1 => exact Kd.C_below HR127_2.out (by repeat (first | (with_reducible first | exact HB.out | apply below_alloc | apply pw_below_drewN | apply below_drew1 | refine below_set ?_ GE126.out | refine below_set ?_ GE128.out) | exact HB.out))); (case side2 => exact HC127_2.out); rintro e w24 ⟨rfl, hb⟩; refine ⟨_, rfl, ?_⟩; have n0_ := Aside0.mk (blk_below (g := gb126) (o := .cells #[.int .i64 a0_0, .int .i64 a0_1, .slice (some ad127) l0_2.length c0_2] 24 (0, 0)) (by (with_reducible repeat (first | refine blk_drewN ?_ _ | refine blk_drew ?_ | refine blk_alloc ?_ _)); refine blk_far ?_ NB126_128.out _; (with_reducible repeat (first | refine blk_drewN ?_ _ | refine blk_drew ?_ | refine blk_alloc ?_ _)); refine blk_far ?_ NB126_128.out _; (with_reducible repeat (first | refine blk_drewN ?_ _ | refine blk_drew ?_ | refine blk_alloc ?_ _)); refine blk_far ?_ NB126_128.out _; (with_reducible repeat (first | refine blk_drewN ?_ _ | refine blk_drew ?_ | refine blk_alloc ?_ _)); refine blk_far ?_ NB126_128.out _; (with_reducible repeat (first | refine blk_drewN ?_ _ | refine blk_drew ?_ | refine blk_alloc ?_ _)); refine blk_far ?_ NB126_128.out _; (with_reducible repeat (first | refine blk_drewN ?_ _ | refine blk_drew ?_ | refine blk_alloc ?_ _)); refine blk_far ?_ NB126_128.out _; (with_reducible repeat (first | refine blk_drewN ?_ _ | refine blk_drew ?_ | refine blk_alloc ?_ _)); exact BK126.out) hb); have n1_ := Aside0.mk (blk_below (g := gb128) (o := .cells #[.int .i64 ((rd_T46 l0_2 x33_2).f0), .int .i64 ((rd_T46 l0_2 x33_2).f1), .slice A127_2 ((rd_T46 l0_2 x33_2).f2).length c127_2, .int .i64 ((rd_T46 l0_2 x33_2).f3), .int .i64 ((rd_T46 l0_2 x33_2).f4), .int .i64 ((rd_T46 l0_2 x33_2).f5)] 46 (0, 0)) (by (with_reducible repeat (first | refine blk_drewN ?_ _ | refine blk_drew ?_ | refine blk_alloc ?_ _)); refine blk_put (cs := #[.int .i64 ((rd_T46 l0_2 x33_2).f0), .int .i64 ((rd_T46 l0_2 x33_2).f1), .slice A127_2 ((rd_T46 l0_2 x33_2).f2).length c127_2, .int .i64 ((rd_T46 l0_2 x33_2).f3), .int .i64 ((rd_T46 l0_2 x33_2).f4), .int .i64 0]) ?_ 5 _ rfl; (with_reducible repeat (first | refine blk_drewN ?_ _ | refine blk_drew ?_ | refine blk_alloc ?_ _)); refine blk_put (cs := #[.int .i64 ((rd_T46 l0_2 x33_2).f0), .int .i64 ((rd_T46 l0_2 x33_2).f1), .slice A127_2 ((rd_T46 l0_2 x33_2).f2).length c127_2, .int .i64 ((rd_T46 l0_2 x33_2).f3), .int .i64 0, .int .i64 0]) ?_ 4 _ rfl; (with_reducible repeat (first | refine blk_drewN ?_ _ | refine blk_drew ?_ | refine blk_alloc ?_ _)); refine blk_put (cs := #[.int .i64 ((rd_T46 l0_2 x33_2).f0), .int .i64 ((rd_T46 l0_2 x33_2).f1), .slice A127_2 ((rd_T46 l0_2 x33_2).f2).length c127_2, .int .i64 0, .int .i64 0, .int .i64 0]) ?_ 3 _ rfl; (with_reducible repeat (first | refine blk_drewN ?_ _ | refine blk_drew ?_ | refine blk_alloc ?_ _)); refine blk_put (cs := #[.int .i64 ((rd_T46 l0_2 x33_2).f0), .int .i64 ((rd_T46 l0_2 x33_2).f1), .slice none 0 0, .int .i64 0, .int .i64 0, .int .i64 0]) ?_ 2 _ rfl; (with_reducible repeat (first | refine blk_drewN ?_ _ | refine blk_drew ?_ | refine blk_alloc ?_ _)); refine blk_put (cs := #[.int .i64 ((rd_T46 l0_2 x33_2).f0), .int .i64 0, .slice none 0 0, .int .i64 0, .int .i64 0, .int .i64 0]) ?_ 1 _ rfl; (with_reducible repeat (first | refine blk_drewN ?_ _ | refine blk_drew ?_ | refine blk_alloc ?_ _)); refine blk_put (cs := #[.int .i64 0, .int .i64 0, .slice none 0 0, .int .i64 0, .int .i64 0, .int .i64 0]) ?_ 0 _ rfl; (with_reducible repeat (first | refine blk_drewN ?_ _ | refine blk_drew ?_ | refine blk_alloc ?_ _)); exact BK128.out) hb); have n2_ := Aside0.mk (below_step (by repeat (first | (with_reducible first | exact HB.out | apply below_alloc | apply pw_below_drewN | apply below_drew1 | refine below_set ?_ GE126.out | refine below_set ?_ GE128.out) | exact HB.out)) hb); clear BK126; clear BK128; clear HB; have BK126 := n0_; have BK128 := n1_; have HB := n2_; clear n0_ n1_ n2_; (try clear hb); (try clear hb2); (try clear hk); (try clear hi)))
                    go_roundg k2
                    case measure => have := HJ1.out; have := HK2.out; omega
                    case rel => exact ⟨(wrap64 (x33_2 + 1)), (by first | rfl | (simp; done) | (simp [*]; done)), H', ⟨by have := HJ1.out; have := HK2.out; omega⟩, ⟨by (with_reducible repeat (first | refine blk_drewN ?_ _ | refine blk_drew ?_ | refine blk_alloc ?_ _)); exact BK126.out⟩, ⟨by repeat (first | (with_reducible first | exact HB.out | apply below_alloc | apply pw_below_drewN | apply below_drew1 | refine below_set ?_ GE126.out | refine below_set ?_ GE128.out) | exact HB.out)⟩⟩
                  · replace c19 := Bool.eq_false_iff.mpr c19
                    subst c19
                    have H1 : (some (x33_2, 80)) = some (r1, r2) := by rw [if_neg (show ¬ (false = true) by decide)] at H; exact H
                    clear H
                    have H := H1
                    clear H1
                    simp only [Option.some.injEq, Prod.mk.injEq] at H
                    obtain ⟨rfl, rfl⟩ := H
                    have p127 : 0 ≤ (x33_2 : Int) := of_decide_eq_true (by first | (with_reducible assumption) | assumption)
                    have q127 : x33_2 < (l0_2.length : Int) := of_decide_eq_true (by first | (with_reducible assumption) | assumption)
                    obtain ⟨ad127, A127_2, c127_2, e127, hx127_0, hx127_1, hx127_2, hx127_3, hx127_4, hx127_5, hl127_2, hi127_2⟩ := at_T46 HR0_2.out x33_2 p127 q127
                    cases e127
                    replace hx127_0 := (HB.out.cell (World.block_lt_of_cell? w _ hx127_0)).trans hx127_0
                    replace hx127_1 := (HB.out.cell (World.block_lt_of_cell? w _ hx127_1)).trans hx127_1
                    replace hx127_2 := (HB.out.cell (World.block_lt_of_cell? w _ hx127_2)).trans hx127_2
                    replace hx127_3 := (HB.out.cell (World.block_lt_of_cell? w _ hx127_3)).trans hx127_3
                    replace hx127_4 := (HB.out.cell (World.block_lt_of_cell? w _ hx127_4)).trans hx127_4
                    replace hx127_5 := (HB.out.cell (World.block_lt_of_cell? w _ hx127_5)).trans hx127_5
                    have HR127_2 := Aside0.mk hi127_2
                    have HC127_2 := Aside0.mk hl127_2
                    clear hi127_2 hl127_2
                    replace p127 := eq_true p127
                    replace q127 := eq_true q127
                    go_wp2_with (first | ((with_reducible refine gate_dst (N := 5) rfl ?_); (try (refine gate_guard (by rfl) ?_; dsimp only)); refine box_event ?hg (N := 5) ?hd (cs := #[.int .i64 0, .int .i64 0, .slice none 0 0, .int .i64 0, .int .i64 0, .int .i64 0]) (t := 46) ?hr ?_; (case hd => rfl); (case hg => rfl); (case hr => first | (go_simp; done) | (go_simp; rfl)); intro gb128 hg w25 hbox hb; have n0_ := Aside0.mk (blk_below (g := gb126) (o := .cells #[.int .i64 a0_0, .int .i64 a0_1, .slice (some ad127) l0_2.length c0_2] 24 (0, 0)) (by (with_reducible repeat (first | refine blk_drewN ?_ _ | refine blk_drew ?_ | refine blk_alloc ?_ _)); exact BK126.out) hb); have n1_ := Aside0.mk (below_step (by repeat (first | (with_reducible first | exact HB.out | apply below_alloc | apply pw_below_drewN | apply below_drew1 | refine below_set ?_ GE126.out) | exact HB.out)) hb); have n2_ := Aside0.mk (hbox); have n3_ := Aside0.mk ((by rw [hg]; exact (below_size (by repeat (first | (with_reducible first | exact HB.out | apply below_alloc | apply pw_below_drewN | apply below_drew1 | refine below_set ?_ GE126.out) | exact HB.out))) : w.heap.size ≤ gb128)); have n4_ := Aside0.mk ((by rw [hg]; exact (below_size (by repeat (first | (with_reducible first | exact HB.out | apply below_alloc | apply pw_below_drewN | apply below_drew1 | refine below_set ?_ GE126.out) | exact HB.out))) : w.heap.size ≤ gb128)); have n5_ := Aside0.mk ((by rw [hg]; exact Nat.ne_of_lt (blk_lt (g := gb126) (o := .cells #[.int .i64 a0_0, .int .i64 a0_1, .slice (some ad127) l0_2.length c0_2] 24 (0, 0)) (by (with_reducible repeat (first | refine blk_drewN ?_ _ | refine blk_drew ?_ | refine blk_alloc ?_ _)); exact BK126.out)) : gb126 ≠ gb128)); have n6_ := Aside0.mk ((by rw [hg]; exact Nat.ne_of_gt (blk_lt (g := gb126) (o := .cells #[.int .i64 a0_0, .int .i64 a0_1, .slice (some ad127) l0_2.length c0_2] 24 (0, 0)) (by (with_reducible repeat (first | refine blk_drewN ?_ _ | refine blk_drew ?_ | refine blk_alloc ?_ _)); exact BK126.out)) : gb128 ≠ gb126)); clear BK126; clear HB; have BK126 := n0_; have HB := n1_; have BK128 := n2_; have GW128 := n3_; have GE128 := n4_; have NB126_128 := n5_; have NB128_126 := n6_; clear n0_ n1_ n2_ n3_ n4_ n5_ n6_; clear hb hbox hg; have hnb26 := NB128_126.out; have hnc26 := NB126_128.out; have hcz27_0 : w25.cell? ⟨gb128, 0, none⟩ = some (.int .i64 0) := (blk_cell BK128.out 0).trans rfl; have hcz27_1 : w25.cell? ⟨gb128, 1, none⟩ = some (.int .i64 0) := (blk_cell BK128.out 1).trans rfl; have hcz27_2 : w25.cell? ⟨gb128, 2, none⟩ = some (.slice none 0 0) := (blk_cell BK128.out 2).trans rfl; have hcz27_3 : w25.cell? ⟨gb128, 3, none⟩ = some (.int .i64 0) := (blk_cell BK128.out 3).trans rfl; have hcz27_4 : w25.cell? ⟨gb128, 4, none⟩ = some (.int .i64 0) := (blk_cell BK128.out 4).trans rfl; have hcz27_5 : w25.cell? ⟨gb128, 5, none⟩ = some (.int .i64 0) := (blk_cell BK128.out 5).trans rfl; have hfz27_0 := blk_frozen BK128.out 0; have hfz27_1 := blk_frozen BK128.out 1; have hfz27_2 := blk_frozen BK128.out 2; have hfz27_3 := blk_frozen BK128.out 3; have hfz27_4 := blk_frozen BK128.out 4; have hfz27_5 := blk_frozen BK128.out 5; have hcz28_0 : w25.cell? ⟨gb126, 0, none⟩ = some (.int .i64 a0_0) := (blk_cell BK126.out 0).trans rfl; have hcz28_1 : w25.cell? ⟨gb126, 1, none⟩ = some (.int .i64 a0_1) := (blk_cell BK126.out 1).trans rfl; have hcz28_2 : w25.cell? ⟨gb126, 2, none⟩ = some (.slice (some ad127) l0_2.length c0_2) := (blk_cell BK126.out 2).trans rfl; have hfz28_0 := blk_frozen BK126.out 0; have hfz28_1 := blk_frozen BK126.out 1; have hfz28_2 := blk_frozen BK126.out 2) | ((with_reducible refine gate_callee (f := 89) rfl ?_); refine goesL_ (some 43) rfl rfl Try.func89 (by kernel_rfl) rfl #[.agg #[.int .i64 ((rd_T46 l0_2 x33_2).f0), .int .i64 ((rd_T46 l0_2 x33_2).f1), .slice A127_2 ((rd_T46 l0_2 x33_2).f2).length c127_2, .int .i64 ((rd_T46 l0_2 x33_2).f3), .int .i64 ((rd_T46 l0_2 x33_2).f4), .int .i64 ((rd_T46 l0_2 x33_2).f5)], .int .i64 a0_0, .int .i64 a0_1] rfl (by (try simp only [List.map_toArray, List.map_cons, List.map_nil]); first | done | rfl | (simp only [List.length_drop, List.length_take]; rfl)) ?_; (with_reducible refine (circuit_may.calls ((rd_T46 l0_2 x33_2).f0) ((rd_T46 l0_2 x33_2).f1) _ _ ((rd_T46 l0_2 x33_2).f2) ((rd_T46 l0_2 x33_2).f3) ((rd_T46 l0_2 x33_2).f4) ((rd_T46 l0_2 x33_2).f5) a0_0 a0_1 false _ ?side1 ?side2 A18.out).mono ?_); (case side1 => exact Kd.C_below HR127_2.out (by repeat (first | (with_reducible first | exact HB.out | apply below_alloc | apply pw_below_drewN | apply below_drew1 | refine below_set ?_ GE126.out | refine below_set ?_ GE128.out) | exact HB.out))); (case side2 => exact HC127_2.out); rintro e w29 ⟨rfl, hb⟩; refine ⟨_, rfl, ?_⟩; have n0_ := Aside0.mk (blk_below (g := gb126) (o := .cells #[.int .i64 a0_0, .int .i64 a0_1, .slice (some ad127) l0_2.length c0_2] 24 (0, 0)) (by (with_reducible repeat (first | refine blk_drewN ?_ _ | refine blk_drew ?_ | refine blk_alloc ?_ _)); refine blk_far ?_ NB126_128.out _; (with_reducible repeat (first | refine blk_drewN ?_ _ | refine blk_drew ?_ | refine blk_alloc ?_ _)); refine blk_far ?_ NB126_128.out _; (with_reducible repeat (first | refine blk_drewN ?_ _ | refine blk_drew ?_ | refine blk_alloc ?_ _)); refine blk_far ?_ NB126_128.out _; (with_reducible repeat (first | refine blk_drewN ?_ _ | refine blk_drew ?_ | refine blk_alloc ?_ _)); refine blk_far ?_ NB126_128.out _; (with_reducible repeat (first | refine blk_drewN ?_ _ | refine blk_drew ?_ | refine blk_alloc ?_ _)); refine blk_far ?_ NB126_128.out _; (with_reducible repeat (first | refine blk_drewN ?_ _ | refine blk_drew ?_ | refine blk_alloc ?_ _)); refine blk_far ?_ NB126_128.out _; (with_reducible repeat (first | refine blk_drewN ?_ _ | refine blk_drew ?_ | refine blk_alloc ?_ _)); exact BK126.out) hb); have n1_ := Aside0.mk (blk_below (g := gb128) (o := .cells #[.int .i64 ((rd_T46 l0_2 x33_2).f0), .int .i64 ((rd_T46 l0_2 x33_2).f1), .slice A127_2 ((rd_T46 l0_2 x33_2).f2).length c127_2, .int .i64 ((rd_T46 l0_2 x33_2).f3), .int .i64 ((rd_T46 l0_2 x33_2).f4), .int .i64 ((rd_T46 l0_2 x33_2).f5)] 46 (0, 0)) (by (with_reducible repeat (first | refine blk_drewN ?_ _ | refine blk_drew ?_ | refine blk_alloc ?_ _)); refine blk_put (cs := #[.int .i64 ((rd_T46 l0_2 x33_2).f0), .int .i64 ((rd_T46 l0_2 x33_2).f1), .slice A127_2 ((rd_T46 l0_2 x33_2).f2).length c127_2, .int .i64 ((rd_T46 l0_2 x33_2).f3), .int .i64 ((rd_T46 l0_2 x33_2).f4), .int .i64 0]) ?_ 5 _ rfl; (with_reducible repeat (first | refine blk_drewN ?_ _ | refine blk_drew ?_ | refine blk_alloc ?_ _)); refine blk_put (cs := #[.int .i64 ((rd_T46 l0_2 x33_2).f0), .int .i64 ((rd_T46 l0_2 x33_2).f1), .slice A127_2 ((rd_T46 l0_2 x33_2).f2).length c127_2, .int .i64 ((rd_T46 l0_2 x33_2).f3), .int .i64 0, .int .i64 0]) ?_ 4 _ rfl; (with_reducible repeat (first | refine blk_drewN ?_ _ | refine blk_drew ?_ | refine blk_alloc ?_ _)); refine blk_put (cs := #[.int .i64 ((rd_T46 l0_2 x33_2).f0), .int .i64 ((rd_T46 l0_2 x33_2).f1), .slice A127_2 ((rd_T46 l0_2 x33_2).f2).length c127_2, .int .i64 0, .int .i64 0, .int .i64 0]) ?_ 3 _ rfl; (with_reducible repeat (first | refine blk_drewN ?_ _ | refine blk_drew ?_ | refine blk_alloc ?_ _)); refine blk_put (cs := #[.int .i64 ((rd_T46 l0_2 x33_2).f0), .int .i64 ((rd_T46 l0_2 x33_2).f1), .slice none 0 0, .int .i64 0, .int .i64 0, .int .i64 0]) ?_ 2 _ rfl; (with_reducible repeat (first | refine blk_drewN ?_ _ | refine blk_drew ?_ | refine blk_alloc ?_ _)); refine blk_put (cs := #[.int .i64 ((rd_T46 l0_2 x33_2).f0), .int .i64 0, .slice none 0 0, .int .i64 0, .int .i64 0, .int .i64 0]) ?_ 1 _ rfl; (with_reducible repeat (first | refine blk_drewN ?_ _ | refine blk_drew ?_ | refine blk_alloc ?_ _)); refine blk_put (cs := #[.int .i64 0, .int .i64 0, .slice none 0 0, .int .i64 0, .int .i64 0, .int .i64 0]) ?_ 0 _ rfl; (with_reducible repeat (first | refine blk_drewN ?_ _ | refine blk_drew ?_ | refine blk_alloc ?_ _)); exact BK128.out) hb); have n2_ := Aside0.mk (below_step (by repeat (first | (with_reducible first | exact HB.out | apply below_alloc | apply pw_below_drewN | apply below_drew1 | refine below_set ?_ GE126.out | refine below_set ?_ GE128.out) | exact HB.out)) hb); clear BK126; clear BK128; clear HB; have BK126 := n0_; have BK128 := n1_; have HB := n2_; clear n0_ n1_ n2_; (try clear hb); (try clear hb2); (try clear hk); (try clear hi)))
                    go_ret2
                    exact ⟨by first | rfl | (simp [errW_none, errW_some] <;> rfl) | (simp [*, errW_none, errW_some] <;> rfl), by repeat (first | (with_reducible first | exact HB.out | apply below_alloc | apply pw_below_drewN | apply below_drew1 | refine below_set ?_ GE126.out | refine below_set ?_ GE128.out) | exact HB.out)⟩
                · rw [if_neg c17] at H
                  exact absurd H (by simp)
              · rw [if_neg c16] at H
                exact absurd H (by simp)
            · rw [if_neg c15] at H
              have c15b0 : decide (x33_2 < (l0_2.length : Int)) = false := decide_eq_false c15
              clear c15
              simp only [Option.some.injEq, Prod.mk.injEq] at H
              obtain ⟨rfl, rfl⟩ := H
              go_wp2
              go_ret2
              exact ⟨by first | rfl | (simp [errW_none, errW_some] <;> rfl) | (simp [*, errW_none, errW_some] <;> rfl), by repeat (first | (with_reducible first | exact HB.out | apply below_alloc | apply pw_below_drewN | apply below_drew1 | refine below_set ?_ GE126.out) | exact HB.out)⟩
end Go.Proofs.Ytbelnopbggkdfaa.Q
end

section
namespace Go.Proofs.Ytbelnopbggkdfaa.Q
open Go.RowKit Go.Proofs.YtbelnopbggkdfaaW.PrintWords Go.Proofs.YtbelnopbggkdfaaW.PrintLast Go.Proofs.YtbelnopbggkdfaaW.PrintMore
attribute [local go_sem] max2_int min2_int max_two min_two max_three min_three max_four min_four   -- for this text's walks alone
set_option linter.unusedVariables false
set_option linter.unusedSimpArgs false
def layers_checked.f (k : Nat) (a0_0 : Int) (a0_1 : Int) (l0_2 : List (S46)) : Option (Int) := (circuit_Check.f k a0_0 a0_1 l0_2).bind fun bt474 => (if bt474.2 = 0 then (some 0) else (some 80))
set_option maxHeartbeats 8000000 in
set_option maxRecDepth 100000 in
theorem layers_checked.calls (k : Nat) (a0_0 : Int) (a0_1 : Int) (A0_2 : Option Addr) (c0_2 : Nat) (l0_2 : List (S46)) (r : Int) (w : World) (hr0_2 : Kd.C k46 w A0_2 l0_2.length l0_2) (hc0_2 : l0_2.length ≤ c0_2) (h : layers_checked.f k a0_0 a0_1 l0_2 = some r) :
    Calls Try.prog 60 #[.agg #[.int .i64 a0_0, .int .i64 a0_1, .slice A0_2 l0_2.length c0_2]] w fun e w' => e = .returned (.int .i64 r) ∧ Below w.heap.size w w' := by
  have hu24 := Try.underlying24
  have HR0_2 := Aside0.mk hr0_2
  have HC0_2 := Aside0.mk hc0_2
  clear hr0_2 hc0_2
  have HB := Aside0.mk (Below.refl w.heap.size w)
  have H : ((circuit_Check.f k a0_0 a0_1 l0_2).bind fun bt474 => (if bt474.2 = 0 then (some 0) else (some 80))) = some r := h
  clear h
  replace H := Option.bind_eq_some_iff.mp H
  obtain ⟨⟨t474, t475⟩, A20, H⟩ := H
  replace H : (if t475 = 0 then (some 0) else (some 80)) = some r := H
  have A2 := Aside0.mk A20
  clear A20
  by_cases c3 : t475 = 0
  · rw [if_pos c3] at H
    have c3b0 : (t475 == 0) = true := beq_iff_eq.mpr c3
    have c3b1 : (t475 != 0) = false := bne_eq_false_iff_eq.mpr c3
    clear c3
    obtain rfl := Option.some.inj H
    go_enter Try.func60, Try.ntmps60
    go_wp2_with (first | ((with_reducible refine gate_dst (N := 1) rfl ?_); refine box_event ?hg (N := 1) ?hd (cs := #[.int .i64 a0_0, .int .i64 a0_1, .slice A0_2 l0_2.length c0_2]) (t := 24) ?hr ?_; (case hd => rfl); (case hg => rfl); (case hr => first | (go_simp; done) | (go_simp; rfl)); intro gb473 hg w4 hbox hb; have n0_ := Aside0.mk (below_step (by repeat (first | (with_reducible first | exact HB.out | apply below_alloc | apply pw_below_drewN | apply below_drew1) | exact HB.out)) hb); have n1_ := Aside0.mk (hbox); have n2_ := Aside0.mk ((by rw [hg]; exact (below_size (by repeat (first | (with_reducible first | exact HB.out | apply below_alloc | apply pw_below_drewN | apply below_drew1) | exact HB.out))) : w.heap.size ≤ gb473)); have n3_ := Aside0.mk ((by rw [hg]; exact (below_size (by repeat (first | (with_reducible first | exact HB.out | apply below_alloc | apply pw_below_drewN | apply below_drew1) | exact HB.out))) : w.heap.size ≤ gb473)); clear HB; have HB := n0_; have BK473 := n1_; have GW473 := n2_; have GE473 := n3_; clear n0_ n1_ n2_ n3_; clear hb hbox hg; have hcz5_0 : w4.cell? ⟨gb473, 0, none⟩ = some (.int .i64 a0_0) := (blk_cell BK473.out 0).trans rfl; have hcz5_1 : w4.cell? ⟨gb473, 1, none⟩ = some (.int .i64 a0_1) := (blk_cell BK473.out 1).trans rfl; have hcz5_2 : w4.cell? ⟨gb473, 2, none⟩ = some (.slice A0_2 l0_2.length c0_2) := (blk_cell BK473.out 2).trans rfl; have hfz5_0 := blk_frozen BK473.out 0; have hfz5_1 := blk_frozen BK473.out 1; have hfz5_2 := blk_frozen BK473.out 2) | ((with_reducible refine gate_callee (f := 75) rfl ?_); refine goesL_ (some 7) rfl rfl Try.func75 (by kernel_rfl) rfl #[.agg #[.int .i64 a0_0, .int .i64 a0_1, .slice A0_2 l0_2.length c0_2]] rfl (by (try simp only [List.map_toArray, List.map_cons, List.map_nil]); first | done | rfl | (simp only [List.length_drop, List.length_take]; rfl)) ?_; (with_reducible refine (circuit_Check.calls k a0_0 a0_1 _ _ l0_2 t474 t475 _ ?side1 ?side2 A2.out).mono ?_); (case side1 => repeat (first | exact (Kd.C_below HR0_2.out HB.out) | (with_reducible refine Kd.C_alloc ?_ _) | (with_reducible refine Kd.C_drewN ?_ _) | (with_reducible refine Kd.C_drew ?_))); (case side2 => exact HC0_2.out); rintro e w6 ⟨rfl, hb⟩; refine ⟨_, rfl, ?_⟩; have n0_ := Aside0.mk (blk_below (g := gb473) (o := .cells #[.int .i64 a0_0, .int .i64 a0_1, .slice A0_2 l0_2.length c0_2] 24 (0, 0)) (by (with_reducible repeat (first | refine blk_drewN ?_ _ | refine blk_drew ?_ | refine blk_alloc ?_ _)); exact BK473.out) hb); have n1_ := Aside0.mk (below_step (by repeat (first | (with_reducible first | exact HB.out | apply below_alloc | apply pw_below_drewN | apply below_drew1 | refine below_set ?_ GE473.out) | exact HB.out)) hb); clear BK473; clear HB; have BK473 := n0_; have HB := n1_; clear n0_ n1_; (try clear hb); (try clear hb2); (try clear hk); (try clear hi)))
    go_ret
    exact ⟨by first | rfl | (simp [errW_none, errW_some] <;> rfl) | (simp [*, errW_none, errW_some] <;> rfl), by repeat (first | (with_reducible first | exact HB.out | apply below_alloc | apply pw_below_drewN | apply below_drew1 | refine below_set ?_ GE473.out) | exact HB.out)⟩
  · rw [if_neg c3] at H
    have c3b0 : (t475 == 0) = false := beq_eq_false_iff_ne.mpr c3
    have c3b1 : (t475 != 0) = true := bne_iff_ne.mpr c3
    obtain rfl := Option.some.inj H
    go_enter Try.func60, Try.ntmps60
    go_wp2_with (first | ((with_reducible refine gate_dst (N := 1) rfl ?_); refine box_event ?hg (N := 1) ?hd (cs := #[.int .i64 a0_0, .int .i64 a0_1, .slice A0_2 l0_2.length c0_2]) (t := 24) ?hr ?_; (case hd => rfl); (case hg => rfl); (case hr => first | (go_simp; done) | (go_simp; rfl)); intro gb473 hg w7 hbox hb; have n0_ := Aside0.mk (below_step (by repeat (first | (with_reducible first | exact HB.out | apply below_alloc | apply pw_below_drewN | apply below_drew1) | exact HB.out)) hb); have n1_ := Aside0.mk (hbox); have n2_ := Aside0.mk ((by rw [hg]; exact (below_size (by repeat (first | (with_reducible first | exact HB.out | apply below_alloc | apply pw_below_drewN | apply below_drew1) | exact HB.out))) : w.heap.size ≤ gb473)); have n3_ := Aside0.mk ((by rw [hg]; exact (below_size (by repeat (first | (with_reducible first | exact HB.out | apply below_alloc | apply pw_below_drewN | apply below_drew1) | exact HB.out))) : w.heap.size ≤ gb473)); clear HB; have HB := n0_; have BK473 := n1_; have GW473 := n2_; have GE473 := n3_; clear n0_ n1_ n2_ n3_; clear hb hbox hg; have hcz8_0 : w7.cell? ⟨gb473, 0, none⟩ = some (.int .i64 a0_0) := (blk_cell BK473.out 0).trans rfl; have hcz8_1 : w7.cell? ⟨gb473, 1, none⟩ = some (.int .i64 a0_1) := (blk_cell BK473.out 1).trans rfl; have hcz8_2 : w7.cell? ⟨gb473, 2, none⟩ = some (.slice A0_2 l0_2.length c0_2) := (blk_cell BK473.out 2).trans rfl; have hfz8_0 := blk_frozen BK473.out 0; have hfz8_1 := blk_frozen BK473.out 1; have hfz8_2 := blk_frozen BK473.out 2) | ((with_reducible refine gate_callee (f := 75) rfl ?_); refine goesL_ (some 7) rfl rfl Try.func75 (by kernel_rfl) rfl #[.agg #[.int .i64 a0_0, .int .i64 a0_1, .slice A0_2 l0_2.length c0_2]] rfl (by (try simp only [List.map_toArray, List.map_cons, List.map_nil]); first | done | rfl | (simp only [List.length_drop, List.length_take]; rfl)) ?_; (with_reducible refine (circuit_Check.calls k a0_0 a0_1 _ _ l0_2 t474 t475 _ ?side1 ?side2 A2.out).mono ?_); (case side1 => repeat (first | exact (Kd.C_below HR0_2.out HB.out) | (with_reducible refine Kd.C_alloc ?_ _) | (with_reducible refine Kd.C_drewN ?_ _) | (with_reducible refine Kd.C_drew ?_))); (case side2 => exact HC0_2.out); rintro e w9 ⟨rfl, hb⟩; refine ⟨_, rfl, ?_⟩; have n0_ := Aside0.mk (blk_below (g := gb473) (o := .cells #[.int .i64 a0_0, .int .i64 a0_1, .slice A0_2 l0_2.length c0_2] 24 (0, 0)) (by (with_reducible repeat (first | refine blk_drewN ?_ _ | refine blk_drew ?_ | refine blk_alloc ?_ _)); exact BK473.out) hb); have n1_ := Aside0.mk (below_step (by repeat (first | (with_reducible first | exact HB.out | apply below_alloc | apply pw_below_drewN | apply below_drew1 | refine below_set ?_ GE473.out) | exact HB.out)) hb); clear BK473; clear HB; have BK473 := n0_; have HB := n1_; clear n0_ n1_; (try clear hb); (try clear hb2); (try clear hk); (try clear hi)))
    go_ret
    exact ⟨by first | rfl | (simp [errW_none, errW_some] <;> rfl) | (simp [*, errW_none, errW_some] <;> rfl), by repeat (first | (with_reducible first | exact HB.out | apply below_alloc | apply pw_below_drewN | apply below_drew1 | refine below_set ?_ GE473.out) | exact HB.out)⟩
end Go.Proofs.Ytbelnopbggkdfaa.Q
end

section
namespace Go.Proofs.Ytbelnopbggkdfaa.Q
open Go.RowKit Go.Proofs.YtbelnopbggkdfaaW.PrintWords Go.Proofs.YtbelnopbggkdfaaW.PrintLast Go.Proofs.YtbelnopbggkdfaaW.PrintMore
attribute [local go_sem] max2_int min2_int max_two min_two max_three min_three max_four min_four   -- for this text's walks alone
set_option linter.unusedVariables false
set_option linter.unusedSimpArgs false
def slices_Clone_int_int.f (l0 : List Int) : Option (List Int) := if l0.length < 17592186044416 then some l0 else none
set_option maxHeartbeats 1000000 in
set_option maxRecDepth 100000 in
theorem slices_Clone_int_int.calls (A0 : Option Addr) (c0 : Nat) (l0 : List Int) (r : List Int) (w : World) (hr0 : Kd.C (Kd.int .i64) w A0 l0.length l0) (hc0 : l0.length ≤ c0) (h : slices_Clone_int_int.f l0 = some r) :
    Calls Try.prog 50 #[.slice A0 l0.length c0] w fun e w' => ∃ v0_ : Value, e = .returned (v0_) ∧ Kd.R (Kd.int .i64) 3 w' w.heap.size (fun _ => True) v0_ r ∧ Below w.heap.size w w' := by
  unfold slices_Clone_int_int.f at h
  split at h
  · rename_i hlen
    have LM := Aside0.mk hlen
    clear hlen
    obtain rfl := Option.some.inj h
    clear h
    cases A0 with
    | none =>
      obtain rfl : l0 = [] := by
        cases l0 with
        | nil => rfl
        | cons x xs =>
          obtain ⟨ad, e, _⟩ := hr0.2.2 (by simp)
          cases e
      clear hr0 hc0 LM
      have he := fun W : World => Lib.run_eql_slice_nil (P := Try.prog) W 37 3 none 0 c0 0 0 Try.underlying37
      simp only [Option.isNone_none] at he
      go_enter Try.func50, Try.ntmps50
      go_wp2
      go_ret
      exact ⟨_, rfl, Kd.R_nil _ _ _ _ _, Below.refl _ _⟩
    | some ad =>
      have HR0 := Aside0.mk hr0
      clear hr0 hc0
      have he := fun W : World => Lib.run_eql_slice_nil (P := Try.prog) W 37 3 (some ad) l0.length c0 0 0 Try.underlying37
      simp only [Option.isNone_some] at he
      have HB := Aside0.mk (Below.refl w.heap.size w)
      go_enter Try.func50, Try.ntmps50
      go_wp2_with (first
        | ((with_reducible refine gate_dst (N := 5) rfl ?_); refine Kd.R_lit (Kd.int .i64) _ 3 ?hg (N := 5) ?hd (xs := ([] : List Int)) (inner := []) (ok := fun _ => True) (okp := fun _ => True) ?hr ?hp (fun _ hk => hk) trivial (Below.refl _ _) (Nat.le_refl _) (by simp) ?_; (case hd => rfl); (case hg => rfl); (case hr => first | (go_simp; done) | (go_simp; rfl)); (case hp => exact (Reps.none _ _)); intro v5 w5 ho5 hb hg_ hnew_; clear hg_ hnew_; have HO5 := Aside0.mk (Kd.R_lower ho5 HB.out.size); have n0_ := Aside0.mk (below_step HB.out hb); clear HB; have HB := n0_; clear n0_ hb ho5)
        | ((with_reducible refine gate_builtin (b := .append) (xs := #[.tmp 5, .tmp 6]) rfl ?_); at_builtin; refine Kd.R_append_rows (Kd.int .i64) (w0 := w) w.heap.size rfl (.tmp 5) (.tmp 6) 37 3 (.int .i64 0) 8 rfl Try.underlying37 info3 rfl (by decide) (by omega) v5 [] l0 _ _ _ (fun _ => True) (fun _ => False) rfl rfl HO5.out (Kd.C_below HR0.out HB.out) (fun _ _ h => h) (fun _ h => h.elim) (fun _ _ => trivial) HB.out HB.out.size (by have := LM.out; simp; omega) ?_; intro v7 w7 ho hb hg hat; rw [List.nil_append] at ho; have HO7 := Aside0.mk ho; have n0_ := Aside0.mk hb; clear HB HO5; have HB := n0_; clear n0_ ho hb hg hat))
      go_ret
      exact ⟨_, rfl, HO7.out, HB.out⟩
  · cases h
end Go.Proofs.Ytbelnopbggkdfaa.Q
end

section
namespace Go.Proofs.Ytbelnopbggkdfaa.Q
open Go.RowKit Go.Proofs.YtbelnopbggkdfaaW.PrintWords Go.Proofs.YtbelnopbggkdfaaW.PrintLast Go.Proofs.YtbelnopbggkdfaaW.PrintMore
attribute [local go_sem] max2_int min2_int max_two min_two max_three min_three max_four min_four   -- for this text's walks alone
set_option linter.unusedVariables false
set_option linter.unusedSimpArgs false
def layers_wires.f (a0_0 : Int) (a0_1 : Int) (l0_2 : List Int) (a0_3 : Int) (a0_4 : Int) (a0_5 : Int) : Option (List Int) := (slices_Clone_int_int.f l0_2).bind fun t477 => (if a0_0 = 2 then (if t477.length < 17592186044416 then ((some (t477 ++ [wrap64 (64 + a0_3)] : List Int)).bind fun y480 => (if a0_4 ≥ 0 then (if y480.length < 17592186044416 then (some (y480 ++ [wrap64 (64 + a0_4)])) else (none)) else (some y480))) else (none)) else (if a0_4 ≥ 0 then (if t477.length < 17592186044416 then (some (t477 ++ [wrap64 (64 + a0_4)])) else (none)) else (some t477)))
set_option maxHeartbeats 8000000 in
set_option maxRecDepth 100000 in
theorem layers_wires.calls (a0_0 : Int) (a0_1 : Int) (A0_2 : Option Addr) (c0_2 : Nat) (l0_2 : List Int) (a0_3 : Int) (a0_4 : Int) (a0_5 : Int) (r : List Int) (w : World) (hr0_2 : Kd.C (Kd.int .i64) w A0_2 l0_2.length l0_2) (hc0_2 : l0_2.length ≤ c0_2) (h : layers_wires.f a0_0 a0_1 l0_2 a0_3 a0_4 a0_5 = some r) :
    Calls Try.prog 62 #[.agg #[.int .i64 a0_0, .int .i64 a0_1, .slice A0_2 l0_2.length c0_2, .int .i64 a0_3, .int .i64 a0_4, .int .i64 a0_5]] w fun e w' => ∃ v0_ : Value, e = .returned (v0_) ∧ Kd.R (Kd.int .i64) 3 w' w.heap.size (fun _ => True) v0_ r ∧ Below w.heap.size w w' := by
  have hu46 := Try.underlying46
  have HR0_2 := Aside0.mk hr0_2
  have HC0_2 := Aside0.mk hc0_2
  clear hr0_2 hc0_2
  have HB := Aside0.mk (Below.refl w.heap.size w)
  have H : ((slices_Clone_int_int.f l0_2).bind fun t477 => (if a0_0 = 2 then (if t477.length < 17592186044416 then ((some (t477 ++ [wrap64 (64 + a0_3)] : List Int)).bind fun y480 => (if a0_4 ≥ 0 then (if y480.length < 17592186044416 then (some (y480 ++ [wrap64 (64 + a0_4)])) else (none)) else (some y480))) else (none)) else (if a0_4 ≥ 0 then (if t477.length < 17592186044416 then (some (t477 ++ [wrap64 (64 + a0_4)])) else (none)) else (some t477)))) = some r := h
  clear h
  replace H := Option.bind_eq_some_iff.mp H
  obtain ⟨t477, A20, H⟩ := H
  replace H : (if a0_0 = 2 then (if t477.length < 17592186044416 then ((some (t477 ++ [wrap64 (64 + a0_3)] : List Int)).bind fun y480 => (if a0_4 ≥ 0 then (if y480.length < 17592186044416 then (some (y480 ++ [wrap64 (64 + a0_4)])) else (none)) else (some y480))) else (none)) else (if a0_4 ≥ 0 then (if t477.length < 17592186044416 then (some (t477 ++ [wrap64 (64 + a0_4)])) else (none)) else (some t477))) = some r := H
  have A2 := Aside0.mk A20
  clear A20
  by_cases c3 : a0_0 = 2
  · rw [if_pos c3] at H
    have c3b0 : (a0_0 == 2) = true := beq_iff_eq.mpr c3
    have c3b1 : (a0_0 != 2) = false := bne_eq_false_iff_eq.mpr c3
    clear c3
    by_cases c4 : t477.length < 17592186044416
    · rw [if_pos c4] at H
      have LMc4 := Aside0.mk c4
      clear c4
      obtain ⟨y480, hy480⟩ : ∃ y_ : List Int, y_ = (t477 ++ [wrap64 (64 + a0_3)]) := ⟨_, rfl⟩
      replace H : (if a0_4 ≥ 0 then (if y480.length < 17592186044416 then (some (y480 ++ [wrap64 (64 + a0_4)])) else (none)) else (some y480)) = some r := by first | (rw [hy480]; with_reducible exact H) | (have H2_ := (Option.bind_some _ _).symm.trans H; rw [hy480]; with_reducible exact H2_) | (have H2_ := (Option.bind_some _ _).symm.trans H; with_reducible exact H2_) | with_reducible exact H | (rw [hy480]; exact H) | exact H
      have Ny480 := Aside0.mk hy480
      clear hy480
      by_cases c5 : a0_4 ≥ 0
      · rw [if_pos c5] at H
        have c5b0 : decide (0 ≤ a0_4) = true := decide_eq_true c5
        clear c5
        by_cases c6 : y480.length < 17592186044416
        · rw [if_pos c6] at H
          have LMc6 := Aside0.mk c6
          clear c6
          obtain ⟨y483, hy483⟩ : ∃ y_ : List Int, y_ = (y480 ++ [wrap64 (64 + a0_4)]) := ⟨_, rfl⟩
          replace H : (some y483) = some r := by first | (rw [hy483]; with_reducible exact H) | (have H2_ := (Option.bind_some _ _).symm.trans H; rw [hy483]; with_reducible exact H2_) | (have H2_ := (Option.bind_some _ _).symm.trans H; with_reducible exact H2_) | with_reducible exact H | (rw [hy483]; exact H) | exact H
          have Ny483 := Aside0.mk hy483
          clear hy483
          obtain rfl := Option.some.inj H
          go_enter Try.func62, Try.ntmps62
          go_wp2_with (first | ((with_reducible refine gate_dst (N := 1) rfl ?_); refine box_event ?hg (N := 1) ?hd (cs := #[.int .i64 a0_0, .int .i64 a0_1, .slice A0_2 l0_2.length c0_2, .int .i64 a0_3, .int .i64 a0_4, .int .i64 a0_5]) (t := 46) ?hr ?_; (case hd => rfl); (case hg => rfl); (case hr => first | (go_simp; done) | (go_simp; rfl)); intro gb476 hg w7 hbox hb; have n0_ := Aside0.mk (below_step (by repeat (first | (with_reducible first | exact HB.out | apply below_alloc | apply pw_below_drewN | apply below_drew1) | exact HB.out)) hb); have n1_ := Aside0.mk (hbox); have n2_ := Aside0.mk ((by rw [hg]; exact (below_size (by repeat (first | (with_reducible first | exact HB.out | apply below_alloc | apply pw_below_drewN | apply below_drew1) | exact HB.out))) : w.heap.size ≤ gb476)); have n3_ := Aside0.mk ((by rw [hg]; exact (below_size (by repeat (first | (with_reducible first | exact HB.out | apply below_alloc | apply pw_below_drewN | apply below_drew1) | exact HB.out))) : w.heap.size ≤ gb476)); clear HB; have HB := n0_; have BK476 := n1_; have GW476 := n2_; have GE476 := n3_; clear n0_ n1_ n2_ n3_; clear hb hbox hg; have hcz8_0 : w7.cell? ⟨gb476, 0, none⟩ = some (.int .i64 a0_0) := (blk_cell BK476.out 0).trans rfl; have hcz8_1 : w7.cell? ⟨gb476, 1, none⟩ = some (.int .i64 a0_1) := (blk_cell BK476.out 1).trans rfl; have hcz8_2 : w7.cell? ⟨gb476, 2, none⟩ = some (.slice A0_2 l0_2.length c0_2) := (blk_cell BK476.out 2).trans rfl; have hcz8_3 : w7.cell? ⟨gb476, 3, none⟩ = some (.int .i64 a0_3) := (blk_cell BK476.out 3).trans rfl; have hcz8_4 : w7.cell? ⟨gb476, 4, none⟩ = some (.int .i64 a0_4) := (blk_cell BK476.out 4).trans rfl; have hcz8_5 : w7.cell? ⟨gb476, 5, none⟩ = some (.int .i64 a0_5) := (blk_cell BK476.out 5).trans rfl; have hfz8_0 := blk_frozen BK476.out 0; have hfz8_1 := blk_frozen BK476.out 1; have hfz8_2 := blk_frozen BK476.out 2; have hfz8_3 := blk_frozen BK476.out 3; have hfz8_4 := blk_frozen BK476.out 4; have hfz8_5 := blk_frozen BK476.out 5) | ((with_reducible refine gate_callee (f := 50) rfl ?_); refine goesL_ (some 6) rfl rfl Try.func50 (by kernel_rfl) rfl #[.slice A0_2 l0_2.length c0_2] rfl (by (try simp only [List.map_toArray, List.map_cons, List.map_nil]); first | done | rfl | (simp only [List.length_drop, List.length_take]; rfl)) ?_; (with_reducible refine (slices_Clone_int_int.calls _ _ l0_2 t477 _ ?side1 ?side2 A2.out).mono ?_); (case side1 => repeat (first | exact (Kd.C_below HR0_2.out HB.out) | (with_reducible refine Kd.C_alloc ?_ _) | (with_reducible refine Kd.C_drewN ?_ _) | (with_reducible refine Kd.C_drew ?_))); (case side2 => exact HC0_2.out); rintro e w9 ⟨v478, rfl, ho0, hb⟩; refine ⟨_, rfl, ?_⟩; have n0_ := Aside0.mk (Kd.R_lower ho0 (below_size (by repeat (first | (with_reducible first | exact HB.out | apply below_alloc | apply pw_below_drewN | apply below_drew1 | refine below_set ?_ GE476.out) | exact HB.out)))); have n1_ := Aside0.mk (blk_below (g := gb476) (o := .cells #[.int .i64 a0_0, .int .i64 a0_1, .slice A0_2 l0_2.length c0_2, .int .i64 a0_3, .int .i64 a0_4, .int .i64 a0_5] 46 (0, 0)) (by (with_reducible repeat (first | refine blk_drewN ?_ _ | refine blk_drew ?_ | refine blk_alloc ?_ _)); exact BK476.out) hb); have n2_ := Aside0.mk (below_step (by repeat (first | (with_reducible first | exact HB.out | apply below_alloc | apply pw_below_drewN | apply below_drew1 | refine below_set ?_ GE476.out) | exact HB.out)) hb); clear BK476; clear HB; have HO479 := n0_; have BK476 := n1_; have HB := n2_; clear n0_ n1_ n2_; (try clear hb); (try clear hb2); (try clear hk); (try clear hi); (try clear ho0); have hcz10_0 : w9.cell? ⟨gb476, 0, none⟩ = some (.int .i64 a0_0) := (blk_cell BK476.out 0).trans rfl; have hcz10_1 : w9.cell? ⟨gb476, 1, none⟩ = some (.int .i64 a0_1) := (blk_cell BK476.out 1).trans rfl; have hcz10_2 : w9.cell? ⟨gb476, 2, none⟩ = some (.slice A0_2 l0_2.length c0_2) := (blk_cell BK476.out 2).trans rfl; have hcz10_3 : w9.cell? ⟨gb476, 3, none⟩ = some (.int .i64 a0_3) := (blk_cell BK476.out 3).trans rfl; have hcz10_4 : w9.cell? ⟨gb476, 4, none⟩ = some (.int .i64 a0_4) := (blk_cell BK476.out 4).trans rfl; have hcz10_5 : w9.cell? ⟨gb476, 5, none⟩ = some (.int .i64 a0_5) := (blk_cell BK476.out 5).trans rfl; have hfz10_0 := blk_frozen BK476.out 0; have hfz10_1 := blk_frozen BK476.out 1; have hfz10_2 := blk_frozen BK476.out 2; have hfz10_3 := blk_frozen BK476.out 3; have hfz10_4 := blk_frozen BK476.out 4; have hfz10_5 := blk_frozen BK476.out 5) | ((with_reducible refine gate_builtin (b := .append) (xs := #[.tmp 10, .tmp 14]) rfl ?_); at_builtin; refine Kd.R_append (Kd.int .i64) (w0 := w) w.heap.size rfl (.tmp 10) (.tmp 14) 37 3 (.int .i64 0) 8 rfl Try.underlying37 info3 rfl (by decide) (by omega) v478 t477 (wrap64 (64 + a0_3)) [.int .i64 (wrap64 (64 + a0_3))] (fun _ => True) (fun _ => False) rfl rfl ?aP (fun _ hk => hk.elim) ?aF ?aO ?aB ?aS ?aL ?_; (case aP => exact rfl); (case aB => exact (by repeat (first | (with_reducible first | exact HB.out | apply below_alloc | apply pw_below_drewN | apply below_drew1 | refine below_set ?_ GE476.out) | exact HB.out))); (case aF => exact (fun _ _ => trivial)); (case aO => exact (by (with_reducible repeat (first | apply Kd.R_alloc | apply Kd.R_drewN | apply Kd.R_drew)); exact HO479.out)); (case aS => exact (below_size (by repeat (first | (with_reducible first | exact HB.out | apply below_alloc | apply pw_below_drewN | apply below_drew1 | refine below_set ?_ GE476.out) | exact HB.out)))); (case aL => have := LMc4.out; omega); intro v481 w11 ho hb hg hat; rw [← Ny480.out] at ho; have n0_ := Aside0.mk (blk_grown (g := gb476) (o := .cells #[.int .i64 a0_0, .int .i64 a0_1, .slice A0_2 l0_2.length c0_2, .int .i64 a0_3, .int .i64 a0_4, .int .i64 a0_5] 46 (0, 0)) (by (with_reducible repeat (first | refine blk_drewN ?_ _ | refine blk_drew ?_ | refine blk_alloc ?_ _)); exact BK476.out) hg (Kd.R_ne HO479.out BK476.out (by decide))); have n1_ := Aside0.mk (hb); have n2_ := Aside0.mk (ho); clear BK476; clear HB; clear HO479; have BK476 := n0_; have HB := n1_; have HO482 := n2_; clear n0_ n1_ n2_; clear ho hb hg hat; have hcz12_0 : w11.cell? ⟨gb476, 0, none⟩ = some (.int .i64 a0_0) := (blk_cell BK476.out 0).trans rfl; have hcz12_1 : w11.cell? ⟨gb476, 1, none⟩ = some (.int .i64 a0_1) := (blk_cell BK476.out 1).trans rfl; have hcz12_2 : w11.cell? ⟨gb476, 2, none⟩ = some (.slice A0_2 l0_2.length c0_2) := (blk_cell BK476.out 2).trans rfl; have hcz12_3 : w11.cell? ⟨gb476, 3, none⟩ = some (.int .i64 a0_3) := (blk_cell BK476.out 3).trans rfl; have hcz12_4 : w11.cell? ⟨gb476, 4, none⟩ = some (.int .i64 a0_4) := (blk_cell BK476.out 4).trans rfl; have hcz12_5 : w11.cell? ⟨gb476, 5, none⟩ = some (.int .i64 a0_5) := (blk_cell BK476.out 5).trans rfl; have hfz12_0 := blk_frozen BK476.out 0; have hfz12_1 := blk_frozen BK476.out 1; have hfz12_2 := blk_frozen BK476.out 2; have hfz12_3 := blk_frozen BK476.out 3; have hfz12_4 := blk_frozen BK476.out 4; have hfz12_5 := blk_frozen BK476.out 5) | ((with_reducible refine gate_builtin (b := .append) (xs := #[.tmp 19, .tmp 23]) rfl ?_); at_builtin; refine Kd.R_append (Kd.int .i64) (w0 := w) w.heap.size rfl (.tmp 19) (.tmp 23) 37 3 (.int .i64 0) 8 rfl Try.underlying37 info3 rfl (by decide) (by omega) v481 y480 (wrap64 (64 + a0_4)) [.int .i64 (wrap64 (64 + a0_4))] (fun _ => True) (fun _ => False) rfl rfl ?aP (fun _ hk => hk.elim) ?aF ?aO ?aB ?aS ?aL ?_; (case aP => exact rfl); (case aB => exact (by repeat (first | (with_reducible first | exact HB.out | apply below_alloc | apply pw_below_drewN | apply below_drew1 | refine below_set ?_ GE476.out) | exact HB.out))); (case aF => exact (fun _ _ => trivial)); (case aO => exact (by (with_reducible repeat (first | apply Kd.R_alloc | apply Kd.R_drewN | apply Kd.R_drew)); exact HO482.out)); (case aS => exact (below_size (by repeat (first | (with_reducible first | exact HB.out | apply below_alloc | apply pw_below_drewN | apply below_drew1 | refine below_set ?_ GE476.out) | exact HB.out)))); (case aL => have := LMc6.out; omega); intro v484 w13 ho hb hg hat; rw [← Ny483.out] at ho; have n0_ := Aside0.mk (blk_grown (g := gb476) (o := .cells #[.int .i64 a0_0, .int .i64 a0_1, .slice A0_2 l0_2.length c0_2, .int .i64 a0_3, .int .i64 a0_4, .int .i64 a0_5] 46 (0, 0)) (by (with_reducible repeat (first | refine blk_drewN ?_ _ | refine blk_drew ?_ | refine blk_alloc ?_ _)); exact BK476.out) hg (Kd.R_ne HO482.out BK476.out (by decide))); have n1_ := Aside0.mk (hb); have n2_ := Aside0.mk (ho); clear BK476; clear HB; clear HO482; have BK476 := n0_; have HB := n1_; have HO485 := n2_; clear n0_ n1_ n2_; clear ho hb hg hat))
          go_ret
          exact ⟨_, by first | rfl | (simp [errW_none, errW_some] <;> rfl) | (simp [*, errW_none, errW_some] <;> rfl), by (with_reducible repeat (first | apply Kd.R_alloc | apply Kd.R_drewN | apply Kd.R_drew)); exact HO485.out, by repeat (first | (with_reducible first | exact HB.out | apply below_alloc | apply pw_below_drewN | apply below_drew1 | refine below_set ?_ GE476.out) | exact HB.out)⟩
        · rw [if_neg c6] at H
          exact absurd H (by simp)
      · rw [if_neg c5] at H
        have c5b0 : decide (0 ≤ a0_4) = false := decide_eq_false c5
        clear c5
        obtain rfl := Option.some.inj H
        go_enter Try.func62, Try.ntmps62
        go_wp2_with (first | ((with_reducible refine gate_dst (N := 1) rfl ?_); refine box_event ?hg (N := 1) ?hd (cs := #[.int .i64 a0_0, .int .i64 a0_1, .slice A0_2 l0_2.length c0_2, .int .i64 a0_3, .int .i64 a0_4, .int .i64 a0_5]) (t := 46) ?hr ?_; (case hd => rfl); (case hg => rfl); (case hr => first | (go_simp; done) | (go_simp; rfl)); intro gb476 hg w14 hbox hb; have n0_ := Aside0.mk (below_step (by repeat (first | (with_reducible first | exact HB.out | apply below_alloc | apply pw_below_drewN | apply below_drew1) | exact HB.out)) hb); have n1_ := Aside0.mk (hbox); have n2_ := Aside0.mk ((by rw [hg]; exact (below_size (by repeat (first | (with_reducible first | exact HB.out | apply below_alloc | apply pw_below_drewN | apply below_drew1) | exact HB.out))) : w.heap.size ≤ gb476)); have n3_ := Aside0.mk ((by rw [hg]; exact (below_size (by repeat (first | (with_reducible first | exact HB.out | apply below_alloc | apply pw_below_drewN | apply below_drew1) | exact HB.out))) : w.heap.size ≤ gb476)); clear HB; have HB := n0_; have BK476 := n1_; have GW476 := n2_; have GE476 := n3_; clear n0_ n1_ n2_ n3_; clear hb hbox hg; have hcz15_0 : w14.cell? ⟨gb476, 0, none⟩ = some (.int .i64 a0_0) := (blk_cell BK476.out 0).trans rfl; have hcz15_1 : w14.cell? ⟨gb476, 1, none⟩ = some (.int .i64 a0_1) := (blk_cell BK476.out 1).trans rfl; have hcz15_2 : w14.cell? ⟨gb476, 2, none⟩ = some (.slice A0_2 l0_2.length c0_2) := (blk_cell BK476.out 2).trans rfl; have hcz15_3 : w14.cell? ⟨gb476, 3, none⟩ = some (.int .i64 a0_3) := (blk_cell BK476.out 3).trans rfl; have hcz15_4 : w14.cell? ⟨gb476, 4, none⟩ = some (.int .i64 a0_4) := (blk_cell BK476.out 4).trans rfl; have hcz15_5 : w14.cell? ⟨gb476, 5, none⟩ = some (.int .i64 a0_5) := (blk_cell BK476.out 5).trans rfl; have hfz15_0 := blk_frozen BK476.out 0; have hfz15_1 := blk_frozen BK476.out 1; have hfz15_2 := blk_frozen BK476.out 2; have hfz15_3 := blk_frozen BK476.out 3; have hfz15_4 := blk_frozen BK476.out 4; have hfz15_5 := blk_frozen BK476.out 5) | ((with_reducible refine gate_callee (f := 50) rfl ?_); refine goesL_ (some 6) rfl rfl Try.func50 (by kernel_rfl) rfl #[.slice A0_2 l0_2.length c0_2] rfl (by (try simp only [List.map_toArray, List.map_cons, List.map_nil]); first | done | rfl | (simp only [List.length_drop, List.length_take]; rfl)) ?_; (with_reducible refine (slices_Clone_int_int.calls _ _ l0_2 t477 _ ?side1 ?side2 A2.out).mono ?_); (case side1 => repeat (first | exact (Kd.C_below HR0_2.out HB.out) | (with_reducible refine Kd.C_alloc ?_ _) | (with_reducible refine Kd.C_drewN ?_ _) | (with_reducible refine Kd.C_drew ?_))); (case side2 => exact HC0_2.out); rintro e w16 ⟨v478, rfl, ho0, hb⟩; refine ⟨_, rfl, ?_⟩; have n0_ := Aside0.mk (Kd.R_lower ho0 (below_size (by repeat (first | (with_reducible first | exact HB.out | apply below_alloc | apply pw_below_drewN | apply below_drew1 | refine below_set ?_ GE476.out) | exact HB.out)))); have n1_ := Aside0.mk (blk_below (g := gb476) (o := .cells #[.int .i64 a0_0, .int .i64 a0_1, .slice A0_2 l0_2.length c0_2, .int .i64 a0_3, .int .i64 a0_4, .int .i64 a0_5] 46 (0, 0)) (by (with_reducible repeat (first | refine blk_drewN ?_ _ | refine blk_drew ?_ | refine blk_alloc ?_ _)); exact BK476.out) hb); have n2_ := Aside0.mk (below_step (by repeat (first | (with_reducible first | exact HB.out | apply below_alloc | apply pw_below_drewN | apply below_drew1 | refine below_set ?_ GE476.out) | exact HB.out)) hb); clear BK476; clear HB; have HO479 := n0_; have BK476 := n1_; have HB := n2_; clear n0_ n1_ n2_; (try clear hb); (try clear hb2); (try clear hk); (try clear hi); (try clear ho0); have hcz17_0 : w16.cell? ⟨gb476, 0, none⟩ = some (.int .i64 a0_0) := (blk_cell BK476.out 0).trans rfl; have hcz17_1 : w16.cell? ⟨gb476, 1, none⟩ = some (.int .i64 a0_1) := (blk_cell BK476.out 1).trans rfl; have hcz17_2 : w16.cell? ⟨gb476, 2, none⟩ = some (.slice A0_2 l0_2.length c0_2) := (blk_cell BK476.out 2).trans rfl; have hcz17_3 : w16.cell? ⟨gb476, 3, none⟩ = some (.int .i64 a0_3) := (blk_cell BK476.out 3).trans rfl; have hcz17_4 : w16.cell? ⟨gb476, 4, none⟩ = some (.int .i64 a0_4) := (blk_cell BK476.out 4).trans rfl; have hcz17_5 : w16.cell? ⟨gb476, 5, none⟩ = some (.int .i64 a0_5) := (blk_cell BK476.out 5).trans rfl; have hfz17_0 := blk_frozen BK476.out 0; have hfz17_1 := blk_frozen BK476.out 1; have hfz17_2 := blk_frozen BK476.out 2; have hfz17_3 := blk_frozen BK476.out 3; have hfz17_4 := blk_frozen BK476.out 4; have hfz17_5 := blk_frozen BK476.out 5) | ((with_reducible refine gate_builtin (b := .append) (xs := #[.tmp 10, .tmp 14]) rfl ?_); at_builtin; refine Kd.R_append (Kd.int .i64) (w0 := w) w.heap.size rfl (.tmp 10) (.tmp 14) 37 3 (.int .i64 0) 8 rfl Try.underlying37 info3 rfl (by decide) (by omega) v478 t477 (wrap64 (64 + a0_3)) [.int .i64 (wrap64 (64 + a0_3))] (fun _ => True) (fun _ => False) rfl rfl ?aP (fun _ hk => hk.elim) ?aF ?aO ?aB ?aS ?aL ?_; (case aP => exact rfl); (case aB => exact (by repeat (first | (with_reducible first | exact HB.out | apply below_alloc | apply pw_below_drewN | apply below_drew1 | refine below_set ?_ GE476.out) | exact HB.out))); (case aF => exact (fun _ _ => trivial)); (case aO => exact (by (with_reducible repeat (first | apply Kd.R_alloc | apply Kd.R_drewN | apply Kd.R_drew)); exact HO479.out)); (case aS => exact (below_size (by repeat (first | (with_reducible first | exact HB.out | apply below_alloc | apply pw_below_drewN | apply below_drew1 | refine below_set ?_ GE476.out) | exact HB.out)))); (case aL => have := LMc4.out; omega); intro v481 w18 ho hb hg hat; rw [← Ny480.out] at ho; have n0_ := Aside0.mk (blk_grown (g := gb476) (o := .cells #[.int .i64 a0_0, .int .i64 a0_1, .slice A0_2 l0_2.length c0_2, .int .i64 a0_3, .int .i64 a0_4, .int .i64 a0_5] 46 (0, 0)) (by (with_reducible repeat (first | refine blk_drewN ?_ _ | refine blk_drew ?_ | refine blk_alloc ?_ _)); exact BK476.out) hg (Kd.R_ne HO479.out BK476.out (by decide))); have n1_ := Aside0.mk (hb); have n2_ := Aside0.mk (ho); clear BK476; clear HB; clear HO479; have BK476 := n0_; have HB := n1_; have HO482 := n2_; clear n0_ n1_ n2_; clear ho hb hg hat; have hcz19_0 : w18.cell? ⟨gb476, 0, none⟩ = some (.int .i64 a0_0) := (blk_cell BK476.out 0).trans rfl; have hcz19_1 : w18.cell? ⟨gb476, 1, none⟩ = some (.int .i64 a0_1) := (blk_cell BK476.out 1).trans rfl; have hcz19_2 : w18.cell? ⟨gb476, 2, none⟩ = some (.slice A0_2 l0_2.length c0_2) := (blk_cell BK476.out 2).trans rfl; have hcz19_3 : w18.cell? ⟨gb476, 3, none⟩ = some (.int .i64 a0_3) := (blk_cell BK476.out 3).trans rfl; have hcz19_4 : w18.cell? ⟨gb476, 4, none⟩ = some (.int .i64 a0_4) := (blk_cell BK476.out 4).trans rfl; have hcz19_5 : w18.cell? ⟨gb476, 5, none⟩ = some (.int .i64 a0_5) := (blk_cell BK476.out 5).trans rfl; have hfz19_0 := blk_frozen BK476.out 0; have hfz19_1 := blk_frozen BK476.out 1; have hfz19_2 := blk_frozen BK476.out 2; have hfz19_3 := blk_frozen BK476.out 3; have hfz19_4 := blk_frozen BK476.out 4; have hfz19_5 := blk_frozen BK476.out 5))
        go_ret
        exact ⟨_, by first | rfl | (simp [errW_none, errW_some] <;> rfl) | (simp [*, errW_none, errW_some] <;> rfl), by (with_reducible repeat (first | apply Kd.R_alloc | apply Kd.R_drewN | apply Kd.R_drew)); exact HO482.out, by repeat (first | (with_reducible first | exact HB.out | apply below_alloc | apply pw_below_drewN | apply below_drew1 | refine below_set ?_ GE476.out) | exact HB.out)⟩
    · rw [if_neg c4] at H
      exact absurd H (by simp)
  · rw [if_neg c3] at H
    have c3b0 : (a0_0 == 2) = false := beq_eq_false_iff_ne.mpr c3
    have c3b1 : (a0_0 != 2) = true := bne_iff_ne.mpr c3
    by_cases c20 : a0_4 ≥ 0
    · rw [if_pos c20] at H
      have c20b0 : decide (0 ≤ a0_4) = true := decide_eq_true c20
      clear c20
      by_cases c21 : t477.length < 17592186044416
      · rw [if_pos c21] at H
        have LMc21 := Aside0.mk c21
        clear c21
        obtain ⟨y486, hy486⟩ : ∃ y_ : List Int, y_ = (t477 ++ [wrap64 (64 + a0_4)]) := ⟨_, rfl⟩
        replace H : (some y486) = some r := by first | (rw [hy486]; with_reducible exact H) | (have H2_ := (Option.bind_some _ _).symm.trans H; rw [hy486]; with_reducible exact H2_) | (have H2_ := (Option.bind_some _ _).symm.trans H; with_reducible exact H2_) | with_reducible exact H | (rw [hy486]; exact H) | exact H
        have Ny486 := Aside0.mk hy486
        clear hy486
        obtain rfl := Option.some.inj H
        go_enter Try.func62, Try.ntmps62
        go_wp2_with (first | ((with_reducible refine gate_dst (N := 1) rfl ?_); refine box_event ?hg (N := 1) ?hd (cs := #[.int .i64 a0_0, .int .i64 a0_1, .slice A0_2 l0_2.length c0_2, .int .i64 a0_3, .int .i64 a0_4, .int .i64 a0_5]) (t := 46) ?hr ?_; (case hd => rfl); (case hg => rfl); (case hr => first | (go_simp; done) | (go_simp; rfl)); intro gb476 hg w22 hbox hb; have n0_ := Aside0.mk (below_step (by repeat (first | (with_reducible first | exact HB.out | apply below_alloc | apply pw_below_drewN | apply below_drew1) | exact HB.out)) hb); have n1_ := Aside0.mk (hbox); have n2_ := Aside0.mk ((by rw [hg]; exact (below_size (by repeat (first | (with_reducible first | exact HB.out | apply below_alloc | apply pw_below_drewN | apply below_drew1) | exact HB.out))) : w.heap.size ≤ gb476)); have n3_ := Aside0.mk ((by rw [hg]; exact (below_size (by repeat (first | (with_reducible first | exact HB.out | apply below_alloc | apply pw_below_drewN | apply below_drew1) | exact HB.out))) : w.heap.size ≤ gb476)); clear HB; have HB := n0_; have BK476 := n1_; have GW476 := n2_; have GE476 := n3_; clear n0_ n1_ n2_ n3_; clear hb hbox hg; have hcz23_0 : w22.cell? ⟨gb476, 0, none⟩ = some (.int .i64 a0_0) := (blk_cell BK476.out 0).trans rfl; have hcz23_1 : w22.cell? ⟨gb476, 1, none⟩ = some (.int .i64 a0_1) := (blk_cell BK476.out 1).trans rfl; have hcz23_2 : w22.cell? ⟨gb476, 2, none⟩ = some (.slice A0_2 l0_2.length c0_2) := (blk_cell BK476.out 2).trans rfl; have hcz23_3 : w22.cell? ⟨gb476, 3, none⟩ = some (.int .i64 a0_3) := (blk_cell BK476.out 3).trans rfl; have hcz23_4 : w22.cell? ⟨gb476, 4, none⟩ = some (.int .i64 a0_4) := (blk_cell BK476.out 4).trans rfl; have hcz23_5 : w22.cell? ⟨gb476, 5, none⟩ = some (.int .i64 a0_5) := (blk_cell BK476.out 5).trans rfl; have hfz23_0 := blk_frozen BK476.out 0; have hfz23_1 := blk_frozen BK476.out 1; have hfz23_2 := blk_frozen BK476.out 2; have hfz23_3 := blk_frozen BK476.out 3; have hfz23_4 := blk_frozen BK476.out 4; have hfz23_5 := blk_frozen BK476.out 5) | ((with_reducible refine gate_callee (f := 50) rfl ?_); refine goesL_ (some 6) rfl rfl Try.func50 (by kernel_rfl) rfl #[.slice A0_2 l0_2.length c0_2] rfl (by (try simp only [List.map_toArray, List.map_cons, List.map_nil]); first | done | rfl | (simp only [List.length_drop, List.length_take]; rfl)) ?_; (with_reducible refine (slices_Clone_int_int.calls _ _ l0_2 t477 _ ?side1 ?side2 A2.out).mono ?_); (case side1 => repeat (first | exact (Kd.C_below HR0_2.out HB.out) | (with_reducible refine Kd.C_alloc ?_ _) | (with_reducible refine Kd.C_drewN ?_ _) | (with_reducible refine Kd.C_drew ?_))); (case side2 => exact HC0_2.out); rintro e w24 ⟨v478, rfl, ho0, hb⟩; refine ⟨_, rfl, ?_⟩; have n0_ := Aside0.mk (Kd.R_lower ho0 (below_size (by repeat (first | (with_reducible first | exact HB.out | apply below_alloc | apply pw_below_drewN | apply below_drew1 | refine below_set ?_ GE476.out) | exact HB.out)))); have n1_ := Aside0.mk (blk_below (g := gb476) (o := .cells #[.int .i64 a0_0, .int .i64 a0_1, .slice A0_2 l0_2.length c0_2, .int .i64 a0_3, .int .i64 a0_4, .int .i64 a0_5] 46 (0, 0)) (by (with_reducible repeat (first | refine blk_drewN ?_ _ | refine blk_drew ?_ | refine blk_alloc ?_ _)); exact BK476.out) hb); have n2_ := Aside0.mk (below_step (by repeat (first | (with_reducible first | exact HB.out | apply below_alloc | apply pw_below_drewN | apply below_drew1 | refine below_set ?_ GE476.out) | exact HB.out)) hb); clear BK476; clear HB; have HO479 := n0_; have BK476 := n1_; have HB := n2_; clear n0_ n1_ n2_; (try clear hb); (try clear hb2); (try clear hk); (try clear hi); (try clear ho0); have hcz25_0 : w24.cell? ⟨gb476, 0, none⟩ = some (.int .i64 a0_0) := (blk_cell BK476.out 0).trans rfl; have hcz25_1 : w24.cell? ⟨gb476, 1, none⟩ = some (.int .i64 a0_1) := (blk_cell BK476.out 1).trans rfl; have hcz25_2 : w24.cell? ⟨gb476, 2, none⟩ = some (.slice A0_2 l0_2.length c0_2) := (blk_cell BK476.out 2).trans rfl; have hcz25_3 : w24.cell? ⟨gb476, 3, none⟩ = some (.int .i64 a0_3) := (blk_cell BK476.out 3).trans rfl; have hcz25_4 : w24.cell? ⟨gb476, 4, none⟩ = some (.int .i64 a0_4) := (blk_cell BK476.out 4).trans rfl; have hcz25_5 : w24.cell? ⟨gb476, 5, none⟩ = some (.int .i64 a0_5) := (blk_cell BK476.out 5).trans rfl; have hfz25_0 := blk_frozen BK476.out 0; have hfz25_1 := blk_frozen BK476.out 1; have hfz25_2 := blk_frozen BK476.out 2; have hfz25_3 := blk_frozen BK476.out 3; have hfz25_4 := blk_frozen BK476.out 4; have hfz25_5 := blk_frozen BK476.out 5) | ((with_reducible refine gate_builtin (b := .append) (xs := #[.tmp 19, .tmp 23]) rfl ?_); at_builtin; refine Kd.R_append (Kd.int .i64) (w0 := w) w.heap.size rfl (.tmp 19) (.tmp 23) 37 3 (.int .i64 0) 8 rfl Try.underlying37 info3 rfl (by decide) (by omega) v478 t477 (wrap64 (64 + a0_4)) [.int .i64 (wrap64 (64 + a0_4))] (fun _ => True) (fun _ => False) rfl rfl ?aP (fun _ hk => hk.elim) ?aF ?aO ?aB ?aS ?aL ?_; (case aP => exact rfl); (case aB => exact (by repeat (first | (with_reducible first | exact HB.out | apply below_alloc | apply pw_below_drewN | apply below_drew1 | refine below_set ?_ GE476.out) | exact HB.out))); (case aF => exact (fun _ _ => trivial)); (case aO => exact (by (with_reducible repeat (first | apply Kd.R_alloc | apply Kd.R_drewN | apply Kd.R_drew)); exact HO479.out)); (case aS => exact (below_size (by repeat (first | (with_reducible first | exact HB.out | apply below_alloc | apply pw_below_drewN | apply below_drew1 | refine below_set ?_ GE476.out) | exact HB.out)))); (case aL => have := LMc21.out; omega); intro v487 w26 ho hb hg hat; rw [← Ny486.out] at ho; have n0_ := Aside0.mk (blk_grown (g := gb476) (o := .cells #[.int .i64 a0_0, .int .i64 a0_1, .slice A0_2 l0_2.length c0_2, .int .i64 a0_3, .int .i64 a0_4, .int .i64 a0_5] 46 (0, 0)) (by (with_reducible repeat (first | refine blk_drewN ?_ _ | refine blk_drew ?_ | refine blk_alloc ?_ _)); exact BK476.out) hg (Kd.R_ne HO479.out BK476.out (by decide))); have n1_ := Aside0.mk (hb); have n2_ := Aside0.mk (ho); clear BK476; clear HB; clear HO479; have BK476 := n0_; have HB := n1_; have HO488 := n2_; clear n0_ n1_ n2_; clear ho hb hg hat))
        go_ret
        exact ⟨_, by first | rfl | (simp [errW_none, errW_some] <;> rfl) | (simp [*, errW_none, errW_some] <;> rfl), by (with_reducible repeat (first | apply Kd.R_alloc | apply Kd.R_drewN | apply Kd.R_drew)); exact HO488.out, by repeat (first | (with_reducible first | exact HB.out | apply below_alloc | apply pw_below_drewN | apply below_drew1 | refine below_set ?_ GE476.out) | exact HB.out)⟩
      · rw [if_neg c21] at H
        exact absurd H (by simp)
    · rw [if_neg c20] at H
      have c20b0 : decide (0 ≤ a0_4) = false := decide_eq_false c20
      clear c20
      obtain rfl := Option.some.inj H
      go_enter Try.func62, Try.ntmps62
      go_wp2_with (first | ((with_reducible refine gate_dst (N := 1) rfl ?_); refine box_event ?hg (N := 1) ?hd (cs := #[.int .i64 a0_0, .int .i64 a0_1, .slice A0_2 l0_2.length c0_2, .int .i64 a0_3, .int .i64 a0_4, .int .i64 a0_5]) (t := 46) ?hr ?_; (case hd => rfl); (case hg => rfl); (case hr => first | (go_simp; done) | (go_simp; rfl)); intro gb476 hg w27 hbox hb; have n0_ := Aside0.mk (below_step (by repeat (first | (with_reducible first | exact HB.out | apply below_alloc | apply pw_below_drewN | apply below_drew1) | exact HB.out)) hb); have n1_ := Aside0.mk (hbox); have n2_ := Aside0.mk ((by rw [hg]; exact (below_size (by repeat (first | (with_reducible first | exact HB.out | apply below_alloc | apply pw_below_drewN | apply below_drew1) | exact HB.out))) : w.heap.size ≤ gb476)); have n3_ := Aside0.mk ((by rw [hg]; exact (below_size (by repeat (first | (with_reducible first | exact HB.out | apply below_alloc | apply pw_below_drewN | apply below_drew1) | exact HB.out))) : w.heap.size ≤ gb476)); clear HB; have HB := n0_; have BK476 := n1_; have GW476 := n2_; have GE476 := n3_; clear n0_ n1_ n2_ n3_; clear hb hbox hg; have hcz28_0 : w27.cell? ⟨gb476, 0, none⟩ = some (.int .i64 a0_0) := (blk_cell BK476.out 0).trans rfl; have hcz28_1 : w27.cell? ⟨gb476, 1, none⟩ = some (.int .i64 a0_1) := (blk_cell BK476.out 1).trans rfl; have hcz28_2 : w27.cell? ⟨gb476, 2, none⟩ = some (.slice A0_2 l0_2.length c0_2) := (blk_cell BK476.out 2).trans rfl; have hcz28_3 : w27.cell? ⟨gb476, 3, none⟩ = some (.int .i64 a0_3) := (blk_cell BK476.out 3).trans rfl; have hcz28_4 : w27.cell? ⟨gb476, 4, none⟩ = some (.int .i64 a0_4) := (blk_cell BK476.out 4).trans rfl; have hcz28_5 : w27.cell? ⟨gb476, 5, none⟩ = some (.int .i64 a0_5) := (blk_cell BK476.out 5).trans rfl; have hfz28_0 := blk_frozen BK476.out 0; have hfz28_1 := blk_frozen BK476.out 1; have hfz28_2 := blk_frozen BK476.out 2; have hfz28_3 := blk_frozen BK476.out 3; have hfz28_4 := blk_frozen BK476.out 4; have hfz28_5 := blk_frozen BK476.out 5) | ((with_reducible refine gate_callee (f := 50) rfl ?_); refine goesL_ (some 6) rfl rfl Try.func50 (by kernel_rfl) rfl #[.slice A0_2 l0_2.length c0_2] rfl (by (try simp only [List.map_toArray, List.map_cons, List.map_nil]); first | done | rfl | (simp only [List.length_drop, List.length_take]; rfl)) ?_; (with_reducible refine (slices_Clone_int_int.calls _ _ l0_2 t477 _ ?side1 ?side2 A2.out).mono ?_); (case side1 => repeat (first | exact (Kd.C_below HR0_2.out HB.out) | (with_reducible refine Kd.C_alloc ?_ _) | (with_reducible refine Kd.C_drewN ?_ _) | (with_reducible refine Kd.C_drew ?_))); (case side2 => exact HC0_2.out); rintro e w29 ⟨v478, rfl, ho0, hb⟩; refine ⟨_, rfl, ?_⟩; have n0_ := Aside0.mk (Kd.R_lower ho0 (below_size (by repeat (first | (with_reducible first | exact HB.out | apply below_alloc | apply pw_below_drewN | apply below_drew1 | refine below_set ?_ GE476.out) | exact HB.out)))); have n1_ := Aside0.mk (blk_below (g := gb476) (o := .cells #[.int .i64 a0_0, .int .i64 a0_1, .slice A0_2 l0_2.length c0_2, .int .i64 a0_3, .int .i64 a0_4, .int .i64 a0_5] 46 (0, 0)) (by (with_reducible repeat (first | refine blk_drewN ?_ _ | refine blk_drew ?_ | refine blk_alloc ?_ _)); exact BK476.out) hb); have n2_ := Aside0.mk (below_step (by repeat (first | (with_reducible first | exact HB.out | apply below_alloc | apply pw_below_drewN | apply below_drew1 | refine below_set ?_ GE476.out) | exact HB.out)) hb); clear BK476; clear HB; have HO479 := n0_; have BK476 := n1_; have HB := n2_; clear n0_ n1_ n2_; (try clear hb); (try clear hb2); (try clear hk); (try clear hi); (try clear ho0); have hcz30_0 : w29.cell? ⟨gb476, 0, none⟩ = some (.int .i64 a0_0) := (blk_cell BK476.out 0).trans rfl; have hcz30_1 : w29.cell? ⟨gb476, 1, none⟩ = some (.int .i64 a0_1) := (blk_cell BK476.out 1).trans rfl; have hcz30_2 : w29.cell? ⟨gb476, 2, none⟩ = some (.slice A0_2 l0_2.length c0_2) := (blk_cell BK476.out 2).trans rfl; have hcz30_3 : w29.cell? ⟨gb476, 3, none⟩ = some (.int .i64 a0_3) := (blk_cell BK476.out 3).trans rfl; have hcz30_4 : w29.cell? ⟨gb476, 4, none⟩ = some (.int .i64 a0_4) := (blk_cell BK476.out 4).trans rfl; have hcz30_5 : w29.cell? ⟨gb476, 5, none⟩ = some (.int .i64 a0_5) := (blk_cell BK476.out 5).trans rfl; have hfz30_0 := blk_frozen BK476.out 0; have hfz30_1 := blk_frozen BK476.out 1; have hfz30_2 := blk_frozen BK476.out 2; have hfz30_3 := blk_frozen BK476.out 3; have hfz30_4 := blk_frozen BK476.out 4; have hfz30_5 := blk_frozen BK476.out 5))
      go_ret
      exact ⟨_, by first | rfl | (simp [errW_none, errW_some] <;> rfl) | (simp [*, errW_none, errW_some] <;> rfl), by (with_reducible repeat (first | apply Kd.R_alloc | apply Kd.R_drewN | apply Kd.R_drew)); exact HO479.out, by repeat (first | (with_reducible first | exact HB.out | apply below_alloc | apply pw_below_drewN | apply below_drew1 | refine below_set ?_ GE476.out) | exact HB.out)⟩
end Go.Proofs.Ytbelnopbggkdfaa.Q
end

section
namespace Go.Proofs.Ytbelnopbggkdfaa.Q
open Go.RowKit Go.Proofs.YtbelnopbggkdfaaW.PrintWords Go.Proofs.YtbelnopbggkdfaaW.PrintLast Go.Proofs.YtbelnopbggkdfaaW.PrintMore
attribute [local go_sem] max2_int min2_int max_two min_two max_three min_three max_four min_four   -- for this text's walks alone
set_option linter.unusedVariables false
set_option linter.unusedSimpArgs false
/-- The greatest of some numbers of a row, and of another one. -/
def maxL (L : List Int) (ws : List Int) (m : Int) : Int := ws.foldl (fun m x => mx m (rd L x)) m
/-- One number at some places of a row. -/
def setL (L : List Int) (ws : List Int) (m : Int) : List Int := ws.foldl (fun L x => L.set x.toNat m) L
def wireOk (ws : List Int) : Bool := ws.all fun x => decide (0 ≤ x) && decide (x < 128)
def early_go : List S46 → List Int → Option (List Int)
  | [], _ => some []
  | o :: os, L => (layers_wires.f o.f0 o.f1 o.f2 o.f3 o.f4 o.f5).bind fun ws =>
    if wireOk ws = true then (early_go os (setL L ws (if o.f0 = 4 then maxL L ws 0 else wrap64 (maxL L ws 0 + 1)))).bind fun r => some ((if o.f0 = 4 then maxL L ws 0 else wrap64 (maxL L ws 0 + 1)) :: r) else none
def layers_early.f (a0_0 : Int) (a0_1 : Int) (l0_2 : List S46) : Option (List Int) := if l0_2.length < 2199023255552 then early_go l0_2 (List.replicate 128 0) else none
theorem setL_len (ws : List Int) (m : Int) : ∀ L : List Int, (setL L ws m).length = L.length := by
  induction ws with
  | nil => intro L; rfl
  | cons x xs ih => intro L; simp only [setL, List.foldl_cons] at ih ⊢; rw [ih]; simp
theorem maxL_snoc (L ws : List Int) (x m : Int) : maxL L (ws ++ [x]) m = mx (maxL L ws m) (rd L x) := by simp [maxL]
theorem setL_snoc (L ws : List Int) (x m : Int) : setL L (ws ++ [x]) m = (setL L ws m).set x.toNat m := by simp [setL]
theorem take_snoc_rd (ws : List Int) (j : Nat) (h : j < ws.length) : ws.take (j + 1) = ws.take j ++ [rd ws j] := by
  rw [List.take_succ_eq_append_getElem h]; simp [rd, List.getD_eq_getElem?_getD, List.getElem?_eq_getElem h]
/-- The rows that early holds: the circuit's variable, the array, what it tells. -/
structure EarlyS (w W : World) (g1 g3 : Nat) (cs : Array Value) (L : List Int) (v : Value) (out : List Int) : Prop where
  hb : Below w.heap.size w W
  b1 : W.heap[g1]? = some (.cells cs 24 (0, 0))
  b3 : W.heap[g3]? = some (.cells (L.map (Value.int .i64)).toArray 75 (0, 0))
  ho : Kd.R (Kd.int .i64) 3 W w.heap.size (fun _ => True) v out
  n1 : w.heap.size ≤ g1
  n3 : w.heap.size ≤ g3
theorem EarlyS.below {w W W' : World} {g1 g3 : Nat} {cs : Array Value} {L : List Int} {v : Value} {out : List Int} (h : EarlyS w W g1 g3 cs L v out) (hb : Below W.heap.size W W') : EarlyS w W' g1 g3 cs L v out :=
  ⟨below_step h.hb hb, blk_below h.b1 hb, blk_below h.b3 hb, Kd.R_below h.ho hb, h.n1, h.n3⟩
theorem EarlyS.ne {w W : World} {g1 g3 : Nat} {cs : Array Value} {L : List Int} {v : Value} {out : List Int} (h : EarlyS w W g1 g3 cs L v out) : g1 ≠ g3 := by
  rintro rfl
  have := h.b1.symm.trans h.b3
  injection this with h1
  injection h1 with _ h2
  exact absurd h2 (by decide)
theorem EarlyS.put {w W : World} {g1 g3 : Nat} {cs : Array Value} {L : List Int} {v : Value} {out : List Int} (h : EarlyS w W g1 g3 cs L v out) (i : Nat) (x : Int) : EarlyS w (W.setCell ⟨g3, i, none⟩ (.int .i64 x)) g1 g3 cs (L.set i x) v out :=
  ⟨below_set h.hb h.n3, blk_far h.b1 h.ne _, by rw [List.map_set]; simpa using blk_set h.b3 i (.int .i64 x), Kd.R_set h.ho h.b3 (by decide) i _, h.n1, h.n3⟩
theorem EarlyS.grown {w W W' : World} {g1 g3 : Nat} {cs : Array Value} {L : List Int} {v v' : Value} {out out' : List Int} (h : EarlyS w W g1 g3 cs L v out) (hg : W.grownBy W' v.ownBlock) (hb : Below w.heap.size w W') (ho : Kd.R (Kd.int .i64) 3 W' w.heap.size (fun _ => True) v' out') : EarlyS w W' g1 g3 cs L v' out' :=
  ⟨hb, blk_grown h.b1 hg (Kd.R_ne h.ho h.b1 (by decide)), blk_grown h.b3 hg (Kd.R_ne h.ho h.b3 (by decide)), ho, h.n1, h.n3⟩
set_option maxHeartbeats 8000000 in
set_option maxRecDepth 100000 in
theorem layers_early.calls (a0_0 : Int) (a0_1 : Int) (A0_2 : Option Addr) (c0_2 : Nat) (l0_2 : List S46) (r : List Int) (w : World) (hr0_2 : Kd.C k46 w A0_2 l0_2.length l0_2) (hc0_2 : l0_2.length ≤ c0_2) (h : layers_early.f a0_0 a0_1 l0_2 = some r) :
    Calls Try.prog 61 #[.agg #[.int .i64 a0_0, .int .i64 a0_1, .slice A0_2 l0_2.length c0_2]] w fun e w' => ∃ v0_ : Value, e = .returned (v0_) ∧ Kd.R (Kd.int .i64) 3 w' w.heap.size (fun _ => True) v0_ r ∧ Below w.heap.size w w' := by
  have hu24 := Try.underlying24
  have hu46 := Try.underlying46
  unfold layers_early.f at h
  split at h
  case isFalse => cases h
  rename_i hlen
  have LM := Aside0.mk hlen
  have HR := Aside0.mk hr0_2
  have H := Aside0.mk h
  clear hr0_2 hlen h
  generalize hn : l0_2.length = n at *
  have hn64 : (n : Int) ≤ 2199023255552 := by have := LM.out; omega
  have HN := Aside0.mk hn
  clear hn
  go_enter Try.func61, Try.ntmps61
  go_wp2
  obtain ⟨g1, hg1⟩ : ∃ g, g = w.heap.size := ⟨_, rfl⟩
  obtain ⟨g3, hg3⟩ : ∃ g, g = w.heap.size + 1 := ⟨_, rfl⟩
  rw [← hg3, ← hg1]
  have hs : EarlyS w ((w.alloc (.cells #[.int .i64 a0_0, .int .i64 a0_1, .slice A0_2 n c0_2] 24)).alloc (.cells Try.zeroCells75 75)) g1 g3 #[.int .i64 a0_0, .int .i64 a0_1, .slice A0_2 n c0_2] (List.replicate 128 0) (.slice none 0 0) [] := by
    subst hg1 hg3
    exact ⟨below_alloc (below_alloc (Below.refl _ _) _) _, blk_alloc (blk_new w _) _, by
      have := blk_new (w.alloc (.cells #[.int .i64 a0_0, .int .i64 a0_1, .slice A0_2 n c0_2] 24)) (.cells Try.zeroCells75 75)
      rw [World.size_alloc] at this
      rw [this]
      rfl, Kd.R_nil _ _ _ _ _, Nat.le_refl _, by omega⟩
  generalize (w.alloc (.cells #[.int .i64 a0_0, .int .i64 a0_1, .slice A0_2 n c0_2] 24)).alloc (.cells Try.zeroCells75 75) = W0 at hs ⊢
  have HS := Aside0.mk hs
  clear hs hg1 hg3
  go_loopw [4, 6, 7, 9, 11, 15] (fun v4 _ _ _ _ v15 wr => ∃ (j : Nat) (L out rest : List Int), j ≤ n ∧ v15 = .int .i64 j ∧ Aside0 (early_go (l0_2.drop j) L = some rest) ∧ Aside0 (out ++ rest = r) ∧ Aside0 (L.length = 128) ∧ Aside0 (out.length = j) ∧ Aside0 (EarlyS w wr g1 g3 #[.int .i64 a0_0, .int .i64 a0_1, .slice A0_2 n c0_2] L v4 out)) (fun _ _ _ _ _ i _ => n - (intOf i).toNat)
  case atStart => exact ⟨0, _, [], r, Nat.zero_le _, rfl, H, ⟨rfl⟩, ⟨by simp⟩, ⟨rfl⟩, HS⟩
  case round =>
    clear HS H
    obtain ⟨j, L, out, rest, hj, rfl, H, HO, HL, HJ, HS⟩ := hrel
    by_cases hlt : j < n
    · have hq : ((j : Nat) : Int) < (n : Int) := by omega
      obtain ⟨ad, A2, c2, rfl, x0, x1, x2, x3, x4, x5, hl2, hi2⟩ := at_T46 (by rw [HN.out]; exact HR.out : Kd.C k46 w A0_2 l0_2.length l0_2) (j : Int) (by omega) (by rw [HN.out]; exact hq)
      simp only [Int.toNat_natCast] at x0 x1 x2 x3 x4 x5
      have hb := HS.out.hb
      replace x0 := (hb.cell (World.block_lt_of_cell? w _ x0)).trans x0
      replace x1 := (hb.cell (World.block_lt_of_cell? w _ x1)).trans x1
      replace x2 := (hb.cell (World.block_lt_of_cell? w _ x2)).trans x2
      replace x3 := (hb.cell (World.block_lt_of_cell? w _ x3)).trans x3
      replace x4 := (hb.cell (World.block_lt_of_cell? w _ x4)).trans x4
      replace x5 := (hb.cell (World.block_lt_of_cell? w _ x5)).trans x5
      generalize hO : rd_T46 l0_2 (j : Int) = o at *
      have HL2 := Aside0.mk hl2
      have HI2 := Aside0.mk hi2
      have HOO := Aside0.mk hO
      clear hl2 hi2 hO hb hq
      go_upto_region 7 with (fail)
      have hs1 := HS.out.below (below_alloc (Below.refl _ wr) (.cells #[.int .i64 o.f0, .int .i64 o.f1, .slice A2 o.f2.length c2, .int .i64 o.f3, .int .i64 o.f4, .int .i64 o.f5] 46))
      have b6 := blk_new wr (.cells #[.int .i64 o.f0, .int .i64 o.f1, .slice A2 o.f2.length c2, .int .i64 o.f3, .int .i64 o.f4, .int .i64 o.f5] 46)
      obtain ⟨g6, hg6⟩ : ∃ g, g = wr.heap.size := ⟨_, rfl⟩
      have n6 : w.heap.size ≤ g6 := by rw [hg6]; exact HS.out.hb.size
      rw [← hg6] at b6
      rw [← hg6]
      generalize wr.alloc _ = W1 at hs1 b6 ⊢
      have HB6 := Aside0.mk b6
      have HN6 := Aside0.mk n6
      have HS1 := Aside0.mk hs1
      clear x0 x1 x2 x3 x4 x5 hs1 b6 n6 hg6 HS
      have H2 := H.out
      rw [List.drop_eq_getElem_cons (by rw [HN.out]; exact hlt)] at H2
      rw [show l0_2[j]'(by rw [HN.out]; exact hlt) = o by rw [← HOO.out]; simp [rd_T46, List.getD_eq_getElem?_getD, List.getElem?_eq_getElem (show j < l0_2.length by rw [HN.out]; exact hlt)]] at H2
      simp only [early_go] at H2
      obtain ⟨ws, hws, H3⟩ := Option.bind_eq_some_iff.1 H2
      clear H2 H
      split at H3
      case isFalse => cases H3
      rename_i hwo
      generalize hm' : (if o.f0 = 4 then maxL L ws 0 else wrap64 (maxL L ws 0 + 1)) = m' at H3
      obtain ⟨rest', hrest, H4⟩ := Option.bind_eq_some_iff.1 H3
      obtain rfl := Option.some.inj H4
      have HW := Aside0.mk hws
      have HWO := Aside0.mk hwo
      have HM := Aside0.mk hm'
      have HRE := Aside0.mk hrest
      clear hws hwo hm' hrest H3 H4 HOO
      have f0c : W1.cell? ⟨g6, 0, none⟩ = some (.int .i64 o.f0) := (blk_cell HB6.out 0).trans rfl
      have f1c : W1.cell? ⟨g6, 1, none⟩ = some (.int .i64 o.f1) := (blk_cell HB6.out 1).trans rfl
      have f2c : W1.cell? ⟨g6, 2, none⟩ = some (.slice A2 o.f2.length c2) := (blk_cell HB6.out 2).trans rfl
      have f3c : W1.cell? ⟨g6, 3, none⟩ = some (.int .i64 o.f3) := (blk_cell HB6.out 3).trans rfl
      have f4c : W1.cell? ⟨g6, 4, none⟩ = some (.int .i64 o.f4) := (blk_cell HB6.out 4).trans rfl
      have f5c : W1.cell? ⟨g6, 5, none⟩ = some (.int .i64 o.f5) := (blk_cell HB6.out 5).trans rfl
      go_wp2_with (go_at_call 62; (with_reducible refine (layers_wires.calls o.f0 o.f1 _ _ o.f2 o.f3 o.f4 o.f5 ws _ (Kd.C_below HI2.out HS1.out.hb) HL2.out HW.out).mono ?_); clear f0c f1c f2c f3c f4c f5c; rintro e W2 ⟨v20, rfl, hv20, hb2⟩; obtain ⟨A20, c20, rfl, hl20, hi20⟩ := Kd.R_reads hv20)
      have HS2 := Aside0.mk (HS1.out.below hb2)
      have HB62 := Aside0.mk (blk_below HB6.out hb2)
      have HV := Aside0.mk (Kd.R_lower hv20 HS1.out.hb.size)
      have HI20 := Aside0.mk (Kd.reads_of_C (enc := Value.int .i64) (d := (0 : Int)) (h1 := fun _ => rfl) hi20)
      have hlw : (ws.length : Int) ≤ 9223372036854775807 := by have := hi20.2.1; omega
      clear hb2 hv20 hi20 HS1 HB6 hl20
      go_loop [7, 9, 22] (fun v7 _ v22 => ∃ q : Nat, q ≤ ws.length ∧ v22 = .int .i64 q ∧ v7 = .int .i64 (maxL L (ws.take q) 0)) (fun _ _ i => ws.length - (intOf i).toNat)
      case atStart => exact ⟨0, Nat.zero_le _, rfl, rfl⟩
      case round =>
        obtain ⟨q, hq, rfl, rfl⟩ := hrel
        by_cases hqt : q < ws.length
        · obtain ⟨ad2, rfl, hcell0⟩ := HI20.out.2.2 (by omega)
          have hcell := hcell0 q hqt
          rw [show ws.getD q 0 = rd ws q by simp [rd]] at hcell
          have hx : 0 ≤ rd ws q ∧ rd ws q < 128 := by
            have := List.all_eq_true.1 HWO.out (ws[q]'hqt) (List.getElem_mem _)
            simp only [Bool.and_eq_true, decide_eq_true_eq] at this
            simpa [rd, List.getD_eq_getElem?_getD, List.getElem?_eq_getElem hqt] using this
          have hs := maxL_snoc L (ws.take q) (rd ws q) 0
          rw [← take_snoc_rd ws q hqt] at hs
          generalize rd ws q = x at hcell hx hs
          obtain ⟨hx0, hx1⟩ := hx
          have harr : W2.cell? ⟨g3, x.toNat, none⟩ = some (.int .i64 (rd L x)) := by
            rw [blk_cell HS2.out.b3]
            simp [rd, List.getD_eq_getElem?_getD, List.getElem?_eq_getElem (show x.toNat < L.length by rw [HL.out]; omega)]
          have HSN := Aside0.mk hs
          clear hcell0 hs
          go_wp2
          go_round
          case rel => exact ⟨q + 1, by omega, by go_num, by rw [HSN.out]; rfl⟩
          case measure => simp [intOf]; omega
        · obtain rfl : q = ws.length := by omega
          rw [List.take_length] at *
          clear HI20
          have f0c : W2.cell? ⟨g6, 0, none⟩ = some (.int .i64 o.f0) := (blk_cell HB62.out 0).trans rfl
          have f1c : W2.cell? ⟨g6, 1, none⟩ = some (.int .i64 o.f1) := (blk_cell HB62.out 1).trans rfl
          have f2c : W2.cell? ⟨g6, 2, none⟩ = some (.slice A2 o.f2.length c2) := (blk_cell HB62.out 2).trans rfl
          have f3c : W2.cell? ⟨g6, 3, none⟩ = some (.int .i64 o.f3) := (blk_cell HB62.out 3).trans rfl
          have f4c : W2.cell? ⟨g6, 4, none⟩ = some (.int .i64 o.f4) := (blk_cell HB62.out 4).trans rfl
          have f5c : W2.cell? ⟨g6, 5, none⟩ = some (.int .i64 o.f5) := (blk_cell HB62.out 5).trans rfl
          have hm1 : Aside0 (o.f0 = 4 → maxL L ws 0 = m') := ⟨fun h => by rw [← HM.out, if_pos h]⟩
          have hm2 : Aside0 (o.f0 ≠ 4 → wrap64 (maxL L ws 0 + 1) = m') := ⟨fun h => by rw [← HM.out, if_neg h]⟩
          generalize maxL L ws 0 = m0 at hm1 hm2 ⊢
          clear HM
          by_cases h4 : o.f0 = 4
          · have h4b : (o.f0 != 4) = false := by simpa using h4
            have e := hm1.out h4
            clear hm1 hm2 h4
            go_upto_region 14 with (fail)
            rw [e]
            clear e h4b
            go_wp2_with (go_at_call 62; (with_reducible refine (layers_wires.calls o.f0 o.f1 _ _ o.f2 o.f3 o.f4 o.f5 ws _ (Kd.C_below HI2.out HS2.out.hb) HL2.out HW.out).mono ?_); clear f0c f1c f2c f3c f4c f5c; rintro e W3 ⟨v38, rfl, hv38, hb3⟩; obtain ⟨A38, c38, rfl, hl38, hi38⟩ := Kd.R_reads hv38)
            have HS3 := Aside0.mk (HS2.out.below hb3)
            have HV3 := Aside0.mk (Kd.R_lower hv38 HS2.out.hb.size)
            clear hb3 hv38 hi38 HS2 HB62 HV hl38
            go_loopw [11, 40] (fun _ v40 wr => ∃ q : Nat, q ≤ ws.length ∧ v40 = .int .i64 q ∧ Aside0 (EarlyS w wr g1 g3 #[.int .i64 a0_0, .int .i64 a0_1, .slice (some ad) n c0_2] (setL L (ws.take q) m') u4 out) ∧ Aside0 (Kd.R (Kd.int .i64) 3 wr w.heap.size (fun _ => True) (.slice A38 ws.length c38) ws)) (fun _ i _ => ws.length - (intOf i).toNat)
            case atStart => exact ⟨0, Nat.zero_le _, rfl, HS3, HV3⟩
            case round =>
              clear HS3 HV3
              obtain ⟨q, hq, rfl, HS3, HV3⟩ := hrel
              by_cases hqt : q < ws.length
              · obtain ⟨ad2, e38, hcell0⟩ := (Kd.reads_of_C (enc := Value.int .i64) (d := (0 : Int)) (h1 := fun _ => rfl) (Kd.R_reads' HV3.out).2.2).2.2 (by omega)
                cases e38
                have hcell := hcell0 q hqt
                rw [show ws.getD q 0 = rd ws q by simp [rd]] at hcell
                have hx : 0 ≤ rd ws q ∧ rd ws q < 128 := by
                  have := List.all_eq_true.1 HWO.out (ws[q]'hqt) (List.getElem_mem _)
                  simp only [Bool.and_eq_true, decide_eq_true_eq] at this
                  simpa [rd, List.getD_eq_getElem?_getD, List.getElem?_eq_getElem hqt] using this
                have hs := setL_snoc L (ws.take q) (rd ws q) m'
                rw [← take_snoc_rd ws q hqt] at hs
                generalize rd ws q = x at hcell hx hs
                obtain ⟨hx0, hx1⟩ := hx
                have harr : wr.cell? ⟨g3, x.toNat, none⟩ = some (.int .i64 (rd (setL L (ws.take q) m') x)) := by
                  rw [blk_cell HS3.out.b3]
                  simp [rd, List.getD_eq_getElem?_getD, List.getElem?_eq_getElem (show x.toNat < (setL L (ws.take q) m').length by rw [setL_len, HL.out]; omega)]
                have hfr : wr.frozen? ⟨g3, x.toNat, none⟩ = false := blk_frozen HS3.out.b3 _
                have HSN := Aside0.mk hs
                clear hcell0 hs
                go_wp2
                go_roundw
                case rel => exact ⟨q + 1, by omega, by go_num, ⟨by rw [HSN.out]; exact HS3.out.put x.toNat m'⟩, ⟨Kd.R_set HV3.out HS3.out.b3 (by decide) _ _⟩⟩
                case measure => simp [intOf]; omega
              · obtain rfl : q = ws.length := by omega
                rw [List.take_length] at *
                have hj8 : (out.length + 1) * 8 ≤ 140737488355328 := by have := HJ.out; omega
                go_wp2_with ((with_reducible refine gate_builtin (b := .append) (xs := #[.tmp 48, .tmp 50]) rfl ?_); at_builtin; refine Kd.R_append (Kd.int .i64) (w0 := w) w.heap.size rfl (.tmp 48) (.tmp 50) 37 3 (.int .i64 0) 8 rfl Try.underlying37 info3 rfl (by decide) (by omega) u4 out m' [.int .i64 m'] (fun _ => True) (fun _ => False) rfl rfl rfl (fun _ hk => hk.elim) (fun _ _ => trivial) HS3.out.ho HS3.out.hb HS3.out.hb.size hj8 ?_; intro v51 w51 ho hb hg hat; have HS5 := Aside0.mk (HS3.out.grown hg hb ho); clear ho hb hg hat HS3 HV3)
                go_roundw
                case rel => exact ⟨j + 1, _, _, rest', by omega, by go_num, HRE, ⟨by rw [List.append_assoc]; exact HO.out⟩, ⟨by rw [setL_len]; exact HL.out⟩, ⟨by rw [List.length_append, HJ.out]; rfl⟩, HS5⟩
                case measure => simp [intOf]; omega
          · have h4b : (o.f0 != 4) = true := by simpa using h4
            have e := hm2.out h4
            clear hm1 hm2 h4
            go_upto_region 14 with (fail)
            rw [e]
            clear e h4b
            go_wp2_with (go_at_call 62; (with_reducible refine (layers_wires.calls o.f0 o.f1 _ _ o.f2 o.f3 o.f4 o.f5 ws _ (Kd.C_below HI2.out HS2.out.hb) HL2.out HW.out).mono ?_); clear f0c f1c f2c f3c f4c f5c; rintro e W3 ⟨v38, rfl, hv38, hb3⟩; obtain ⟨A38, c38, rfl, hl38, hi38⟩ := Kd.R_reads hv38)
            have HS3 := Aside0.mk (HS2.out.below hb3)
            have HV3 := Aside0.mk (Kd.R_lower hv38 HS2.out.hb.size)
            clear hb3 hv38 hi38 HS2 HB62 HV hl38
            go_loopw [11, 40] (fun _ v40 wr => ∃ q : Nat, q ≤ ws.length ∧ v40 = .int .i64 q ∧ Aside0 (EarlyS w wr g1 g3 #[.int .i64 a0_0, .int .i64 a0_1, .slice (some ad) n c0_2] (setL L (ws.take q) m') u4 out) ∧ Aside0 (Kd.R (Kd.int .i64) 3 wr w.heap.size (fun _ => True) (.slice A38 ws.length c38) ws)) (fun _ i _ => ws.length - (intOf i).toNat)
            case atStart => exact ⟨0, Nat.zero_le _, rfl, HS3, HV3⟩
            case round =>
              clear HS3 HV3
              obtain ⟨q, hq, rfl, HS3, HV3⟩ := hrel
              by_cases hqt : q < ws.length
              · obtain ⟨ad2, e38, hcell0⟩ := (Kd.reads_of_C (enc := Value.int .i64) (d := (0 : Int)) (h1 := fun _ => rfl) (Kd.R_reads' HV3.out).2.2).2.2 (by omega)
                cases e38
                have hcell := hcell0 q hqt
                rw [show ws.getD q 0 = rd ws q by simp [rd]] at hcell
                have hx : 0 ≤ rd ws q ∧ rd ws q < 128 := by
                  have := List.all_eq_true.1 HWO.out (ws[q]'hqt) (List.getElem_mem _)
                  simp only [Bool.and_eq_true, decide_eq_true_eq] at this
                  simpa [rd, List.getD_eq_getElem?_getD, List.getElem?_eq_getElem hqt] using this
                have hs := setL_snoc L (ws.take q) (rd ws q) m'
                rw [← take_snoc_rd ws q hqt] at hs
                generalize rd ws q = x at hcell hx hs
                obtain ⟨hx0, hx1⟩ := hx
                have harr : wr.cell? ⟨g3, x.toNat, none⟩ = some (.int .i64 (rd (setL L (ws.take q) m') x)) := by
                  rw [blk_cell HS3.out.b3]
                  simp [rd, List.getD_eq_getElem?_getD, List.getElem?_eq_getElem (show x.toNat < (setL L (ws.take q) m').length by rw [setL_len, HL.out]; omega)]
                have hfr : wr.frozen? ⟨g3, x.toNat, none⟩ = false := blk_frozen HS3.out.b3 _
                have HSN := Aside0.mk hs
                clear hcell0 hs
                go_wp2
                go_roundw
                case rel => exact ⟨q + 1, by omega, by go_num, ⟨by rw [HSN.out]; exact HS3.out.put x.toNat m'⟩, ⟨Kd.R_set HV3.out HS3.out.b3 (by decide) _ _⟩⟩
                case measure => simp [intOf]; omega
              · obtain rfl : q = ws.length := by omega
                rw [List.take_length] at *
                have hj8 : (out.length + 1) * 8 ≤ 140737488355328 := by have := HJ.out; omega
                go_wp2_with ((with_reducible refine gate_builtin (b := .append) (xs := #[.tmp 48, .tmp 50]) rfl ?_); at_builtin; refine Kd.R_append (Kd.int .i64) (w0 := w) w.heap.size rfl (.tmp 48) (.tmp 50) 37 3 (.int .i64 0) 8 rfl Try.underlying37 info3 rfl (by decide) (by omega) u4 out m' [.int .i64 m'] (fun _ => True) (fun _ => False) rfl rfl rfl (fun _ hk => hk.elim) (fun _ _ => trivial) HS3.out.ho HS3.out.hb HS3.out.hb.size hj8 ?_; intro v51 w51 ho hb hg hat; have HS5 := Aside0.mk (HS3.out.grown hg hb ho); clear ho hb hg hat HS3 HV3)
                go_roundw
                case rel => exact ⟨j + 1, _, _, rest', by omega, by go_num, HRE, ⟨by rw [List.append_assoc]; exact HO.out⟩, ⟨by rw [setL_len]; exact HL.out⟩, ⟨by rw [List.length_append, HJ.out]; rfl⟩, HS5⟩
                case measure => simp [intOf]; omega
    · obtain rfl : j = n := by omega
      have hr : out = r := by
        have h2 := H.out
        rw [List.drop_eq_nil_of_le (by rw [HN.out]; exact Nat.le_refl _)] at h2
        simp only [early_go] at h2
        obtain rfl := Option.some.inj h2
        rw [← HO.out, List.append_nil]
      subst hr
      go_wp2
      go_ret
      exact ⟨_, rfl, HS.out.ho, HS.out.hb⟩
end Go.Proofs.Ytbelnopbggkdfaa.Q
end

section
namespace Go.Proofs.Ytbelnopbggkdfaa.Q
open Go.RowKit Go.Proofs.YtbelnopbggkdfaaW.PrintWords Go.Proofs.YtbelnopbggkdfaaW.PrintLast Go.Proofs.YtbelnopbggkdfaaW.PrintMore
attribute [local go_sem] max2_int min2_int max_two min_two max_three min_three max_four min_four   -- for this text's walks alone
set_option linter.unusedVariables false
set_option linter.unusedSimpArgs false
def layers_Early.f (k : Nat) (a0_0 : Int) (a0_1 : Int) (l0_2 : List (S46)) : Option (List Int × Int) := (layers_checked.f k a0_0 a0_1 l0_2).bind fun t490 => (if t490 = 0 then ((layers_early.f a0_0 a0_1 l0_2).bind fun t491 => (some (t491, 0))) else (some (([] : List Int), t490)))
set_option maxHeartbeats 8000000 in
set_option maxRecDepth 100000 in
theorem layers_Early.calls (k : Nat) (a0_0 : Int) (a0_1 : Int) (A0_2 : Option Addr) (c0_2 : Nat) (l0_2 : List (S46)) (r1 : List Int) (r2 : Int) (w : World) (hr0_2 : Kd.C k46 w A0_2 l0_2.length l0_2) (hc0_2 : l0_2.length ≤ c0_2) (h : layers_Early.f k a0_0 a0_1 l0_2 = some (r1, r2)) :
    Calls Try.prog 21 #[.agg #[.int .i64 a0_0, .int .i64 a0_1, .slice A0_2 l0_2.length c0_2]] w fun e w' => ∃ v0_ : Value, e = .returned (.tuple #[v0_, .int .i64 r2]) ∧ Kd.R (Kd.int .i64) 3 w' w.heap.size (fun _ => True) v0_ r1 ∧ Below w.heap.size w w' := by
  have hu24 := Try.underlying24
  have HR0_2 := Aside0.mk hr0_2
  have HC0_2 := Aside0.mk hc0_2
  clear hr0_2 hc0_2
  have HB := Aside0.mk (Below.refl w.heap.size w)
  have H : ((layers_checked.f k a0_0 a0_1 l0_2).bind fun t490 => (if t490 = 0 then ((layers_early.f a0_0 a0_1 l0_2).bind fun t491 => (some (t491, 0))) else (some (([] : List Int), t490)))) = some (r1, r2) := h
  clear h
  replace H := Option.bind_eq_some_iff.mp H
  obtain ⟨t490, A20, H⟩ := H
  replace H : (if t490 = 0 then ((layers_early.f a0_0 a0_1 l0_2).bind fun t491 => (some (t491, 0))) else (some (([] : List Int), t490))) = some (r1, r2) := H
  have A2 := Aside0.mk A20
  clear A20
  by_cases c3 : t490 = 0
  · rw [if_pos c3] at H
    have c3b0 : (t490 == 0) = true := beq_iff_eq.mpr c3
    have c3b1 : (t490 != 0) = false := bne_eq_false_iff_eq.mpr c3
    clear c3
    replace H := Option.bind_eq_some_iff.mp H
    obtain ⟨t491, A40, H⟩ := H
    replace H : (some (t491, 0)) = some (r1, r2) := H
    have A4 := Aside0.mk A40
    clear A40
    simp only [Option.some.injEq, Prod.mk.injEq] at H
    obtain ⟨rfl, rfl⟩ := H
    go_enter Try.func21, Try.ntmps21
    go_wp2_with (first | ((with_reducible refine gate_dst (N := 1) rfl ?_); refine box_event ?hg (N := 1) ?hd (cs := #[.int .i64 a0_0, .int .i64 a0_1, .slice A0_2 l0_2.length c0_2]) (t := 24) ?hr ?_; (case hd => rfl); (case hg => rfl); (case hr => first | (go_simp; done) | (go_simp; rfl)); intro gb489 hg w5 hbox hb; have n0_ := Aside0.mk (below_step (by repeat (first | (with_reducible first | exact HB.out | apply below_alloc | apply pw_below_drewN | apply below_drew1) | exact HB.out)) hb); have n1_ := Aside0.mk (hbox); have n2_ := Aside0.mk ((by rw [hg]; exact (below_size (by repeat (first | (with_reducible first | exact HB.out | apply below_alloc | apply pw_below_drewN | apply below_drew1) | exact HB.out))) : w.heap.size ≤ gb489)); have n3_ := Aside0.mk ((by rw [hg]; exact (below_size (by repeat (first | (with_reducible first | exact HB.out | apply below_alloc | apply pw_below_drewN | apply below_drew1) | exact HB.out))) : w.heap.size ≤ gb489)); clear HB; have HB := n0_; have BK489 := n1_; have GW489 := n2_; have GE489 := n3_; clear n0_ n1_ n2_ n3_; clear hb hbox hg; have hcz6_0 : w5.cell? ⟨gb489, 0, none⟩ = some (.int .i64 a0_0) := (blk_cell BK489.out 0).trans rfl; have hcz6_1 : w5.cell? ⟨gb489, 1, none⟩ = some (.int .i64 a0_1) := (blk_cell BK489.out 1).trans rfl; have hcz6_2 : w5.cell? ⟨gb489, 2, none⟩ = some (.slice A0_2 l0_2.length c0_2) := (blk_cell BK489.out 2).trans rfl; have hfz6_0 := blk_frozen BK489.out 0; have hfz6_1 := blk_frozen BK489.out 1; have hfz6_2 := blk_frozen BK489.out 2) | ((with_reducible refine gate_callee (f := 60) rfl ?_); refine goesL_ (some 6) rfl rfl Try.func60 (by kernel_rfl) rfl #[.agg #[.int .i64 a0_0, .int .i64 a0_1, .slice A0_2 l0_2.length c0_2]] rfl (by (try simp only [List.map_toArray, List.map_cons, List.map_nil]); first | done | rfl | (simp only [List.length_drop, List.length_take]; rfl)) ?_; (with_reducible refine (layers_checked.calls k a0_0 a0_1 _ _ l0_2 t490 _ ?side1 ?side2 A2.out).mono ?_); (case side1 => repeat (first | exact (Kd.C_below HR0_2.out HB.out) | (with_reducible refine Kd.C_alloc ?_ _) | (with_reducible refine Kd.C_drewN ?_ _) | (with_reducible refine Kd.C_drew ?_))); (case side2 => exact HC0_2.out); rintro e w7 ⟨rfl, hb⟩; refine ⟨_, rfl, ?_⟩; have n0_ := Aside0.mk (blk_below (g := gb489) (o := .cells #[.int .i64 a0_0, .int .i64 a0_1, .slice A0_2 l0_2.length c0_2] 24 (0, 0)) (by (with_reducible repeat (first | refine blk_drewN ?_ _ | refine blk_drew ?_ | refine blk_alloc ?_ _)); exact BK489.out) hb); have n1_ := Aside0.mk (below_step (by repeat (first | (with_reducible first | exact HB.out | apply below_alloc | apply pw_below_drewN | apply below_drew1 | refine below_set ?_ GE489.out) | exact HB.out)) hb); clear BK489; clear HB; have BK489 := n0_; have HB := n1_; clear n0_ n1_; (try clear hb); (try clear hb2); (try clear hk); (try clear hi); have hcz8_0 : w7.cell? ⟨gb489, 0, none⟩ = some (.int .i64 a0_0) := (blk_cell BK489.out 0).trans rfl; have hcz8_1 : w7.cell? ⟨gb489, 1, none⟩ = some (.int .i64 a0_1) := (blk_cell BK489.out 1).trans rfl; have hcz8_2 : w7.cell? ⟨gb489, 2, none⟩ = some (.slice A0_2 l0_2.length c0_2) := (blk_cell BK489.out 2).trans rfl; have hfz8_0 := blk_frozen BK489.out 0; have hfz8_1 := blk_frozen BK489.out 1; have hfz8_2 := blk_frozen BK489.out 2) | ((with_reducible refine gate_callee (f := 61) rfl ?_); refine goesL_ (some 11) rfl rfl Try.func61 (by kernel_rfl) rfl #[.agg #[.int .i64 a0_0, .int .i64 a0_1, .slice A0_2 l0_2.length c0_2]] rfl (by (try simp only [List.map_toArray, List.map_cons, List.map_nil]); first | done | rfl | (simp only [List.length_drop, List.length_take]; rfl)) ?_; (with_reducible refine (layers_early.calls a0_0 a0_1 _ _ l0_2 t491 _ ?side1 ?side2 A4.out).mono ?_); (case side1 => repeat (first | exact (Kd.C_below HR0_2.out HB.out) | (with_reducible refine Kd.C_alloc ?_ _) | (with_reducible refine Kd.C_drewN ?_ _) | (with_reducible refine Kd.C_drew ?_))); (case side2 => exact HC0_2.out); rintro e w9 ⟨v492, rfl, ho0, hb⟩; refine ⟨_, rfl, ?_⟩; have n0_ := Aside0.mk (Kd.R_lower ho0 (below_size (by repeat (first | (with_reducible first | exact HB.out | apply below_alloc | apply pw_below_drewN | apply below_drew1 | refine below_set ?_ GE489.out) | exact HB.out)))); have n1_ := Aside0.mk (blk_below (g := gb489) (o := .cells #[.int .i64 a0_0, .int .i64 a0_1, .slice A0_2 l0_2.length c0_2] 24 (0, 0)) (by (with_reducible repeat (first | refine blk_drewN ?_ _ | refine blk_drew ?_ | refine blk_alloc ?_ _)); exact BK489.out) hb); have n2_ := Aside0.mk (below_step (by repeat (first | (with_reducible first | exact HB.out | apply below_alloc | apply pw_below_drewN | apply below_drew1 | refine below_set ?_ GE489.out) | exact HB.out)) hb); clear BK489; clear HB; have HO493 := n0_; have BK489 := n1_; have HB := n2_; clear n0_ n1_ n2_; (try clear hb); (try clear hb2); (try clear hk); (try clear hi); (try clear ho0)))
    go_ret2
    exact ⟨_, by first | rfl | (simp [errW_none, errW_some] <;> rfl) | (simp [*, errW_none, errW_some] <;> rfl), by (with_reducible repeat (first | apply Kd.R_alloc | apply Kd.R_drewN | apply Kd.R_drew)); exact HO493.out, by repeat (first | (with_reducible first | exact HB.out | apply below_alloc | apply pw_below_drewN | apply below_drew1 | refine below_set ?_ GE489.out) | exact HB.out)⟩
  · rw [if_neg c3] at H
    have c3b0 : (t490 == 0) = false := beq_eq_false_iff_ne.mpr c3
    have c3b1 : (t490 != 0) = true := bne_iff_ne.mpr c3
    simp only [Option.some.injEq, Prod.mk.injEq] at H
    obtain ⟨rfl, rfl⟩ := H
    go_enter Try.func21, Try.ntmps21
    go_wp2_with (first | ((with_reducible refine gate_dst (N := 1) rfl ?_); refine box_event ?hg (N := 1) ?hd (cs := #[.int .i64 a0_0, .int .i64 a0_1, .slice A0_2 l0_2.length c0_2]) (t := 24) ?hr ?_; (case hd => rfl); (case hg => rfl); (case hr => first | (go_simp; done) | (go_simp; rfl)); intro gb489 hg w10 hbox hb; have n0_ := Aside0.mk (below_step (by repeat (first | (with_reducible first | exact HB.out | apply below_alloc | apply pw_below_drewN | apply below_drew1) | exact HB.out)) hb); have n1_ := Aside0.mk (hbox); have n2_ := Aside0.mk ((by rw [hg]; exact (below_size (by repeat (first | (with_reducible first | exact HB.out | apply below_alloc | apply pw_below_drewN | apply below_drew1) | exact HB.out))) : w.heap.size ≤ gb489)); have n3_ := Aside0.mk ((by rw [hg]; exact (below_size (by repeat (first | (with_reducible first | exact HB.out | apply below_alloc | apply pw_below_drewN | apply below_drew1) | exact HB.out))) : w.heap.size ≤ gb489)); clear HB; have HB := n0_; have BK489 := n1_; have GW489 := n2_; have GE489 := n3_; clear n0_ n1_ n2_ n3_; clear hb hbox hg; have hcz11_0 : w10.cell? ⟨gb489, 0, none⟩ = some (.int .i64 a0_0) := (blk_cell BK489.out 0).trans rfl; have hcz11_1 : w10.cell? ⟨gb489, 1, none⟩ = some (.int .i64 a0_1) := (blk_cell BK489.out 1).trans rfl; have hcz11_2 : w10.cell? ⟨gb489, 2, none⟩ = some (.slice A0_2 l0_2.length c0_2) := (blk_cell BK489.out 2).trans rfl; have hfz11_0 := blk_frozen BK489.out 0; have hfz11_1 := blk_frozen BK489.out 1; have hfz11_2 := blk_frozen BK489.out 2) | ((with_reducible refine gate_callee (f := 60) rfl ?_); refine goesL_ (some 6) rfl rfl Try.func60 (by kernel_rfl) rfl #[.agg #[.int .i64 a0_0, .int .i64 a0_1, .slice A0_2 l0_2.length c0_2]] rfl (by (try simp only [List.map_toArray, List.map_cons, List.map_nil]); first | done | rfl | (simp only [List.length_drop, List.length_take]; rfl)) ?_; (with_reducible refine (layers_checked.calls k a0_0 a0_1 _ _ l0_2 t490 _ ?side1 ?side2 A2.out).mono ?_); (case side1 => repeat (first | exact (Kd.C_below HR0_2.out HB.out) | (with_reducible refine Kd.C_alloc ?_ _) | (with_reducible refine Kd.C_drewN ?_ _) | (with_reducible refine Kd.C_drew ?_))); (case side2 => exact HC0_2.out); rintro e w12 ⟨rfl, hb⟩; refine ⟨_, rfl, ?_⟩; have n0_ := Aside0.mk (blk_below (g := gb489) (o := .cells #[.int .i64 a0_0, .int .i64 a0_1, .slice A0_2 l0_2.length c0_2] 24 (0, 0)) (by (with_reducible repeat (first | refine blk_drewN ?_ _ | refine blk_drew ?_ | refine blk_alloc ?_ _)); exact BK489.out) hb); have n1_ := Aside0.mk (below_step (by repeat (first | (with_reducible first | exact HB.out | apply below_alloc | apply pw_below_drewN | apply below_drew1 | refine below_set ?_ GE489.out) | exact HB.out)) hb); clear BK489; clear HB; have BK489 := n0_; have HB := n1_; clear n0_ n1_; (try clear hb); (try clear hb2); (try clear hk); (try clear hi)))
    go_ret2
    exact ⟨_, by first | rfl | (simp [errW_none, errW_some] <;> rfl) | (simp [*, errW_none, errW_some] <;> rfl), by first | exact Kd.R_nil _ _ _ _ _ | exact Kd.N_nil _ _ _ _ _ | exact Kd.V_nil _ _ _ _ _ | exact Kd.Q_nil _ _ _ _ _ | exact Kd.S_nil _ _ _ _ _, by repeat (first | (with_reducible first | exact HB.out | apply below_alloc | apply pw_below_drewN | apply below_drew1 | refine below_set ?_ GE489.out) | exact HB.out)⟩
end Go.Proofs.Ytbelnopbggkdfaa.Q
end

section
namespace Go.Proofs.Ytbelnopbggkdfaa.Q
open Go.RowKit Go.Proofs.YtbelnopbggkdfaaW.PrintWords Go.Proofs.YtbelnopbggkdfaaW.PrintLast Go.Proofs.YtbelnopbggkdfaaW.PrintMore
attribute [local go_sem] max2_int min2_int max_two min_two max_three min_three max_four min_four   -- for this text's walks alone
set_option linter.unusedVariables false
set_option linter.unusedSimpArgs false
def phasorref08_Op.f (a0_0 : Int) (a0_1 : Int) (l0_2 : List Int) (a0_3 : Int) (a0_4 : Int) (a0_5 : Int) (a1 : Int) (a2 : Int) : Option (Bool) := if (Lit.int .i64 a0_1).wf = true then some (mayC a0_0 a0_1 l0_2 a0_3 a0_4 a0_5 a1 a2) else none
theorem phasorref08_Op.calls (a0_0 : Int) (a0_1 : Int) (A0_2 : Option Addr) (c0_2 : Nat) (l0_2 : List Int) (a0_3 : Int) (a0_4 : Int) (a0_5 : Int) (a1 : Int) (a2 : Int) (r : Bool) (w : World) (hr0_2 : Kd.C (Kd.int .i64) w A0_2 l0_2.length l0_2) (hc0_2 : l0_2.length ≤ c0_2) (h : phasorref08_Op.f a0_0 a0_1 l0_2 a0_3 a0_4 a0_5 a1 a2 = some r) :
    Calls Try.prog 81 #[.agg #[.int .i64 a0_0, .int .i64 a0_1, .slice A0_2 l0_2.length c0_2, .int .i64 a0_3, .int .i64 a0_4, .int .i64 a0_5], .int .i64 a1, .int .i64 a2] w fun e w' => e = .returned (.bool r) ∧ Below w.heap.size w w' := by
  unfold phasorref08_Op.f at h
  split at h
  · rename_i hk
    obtain rfl := Option.some.inj h
    exact rop_any a0_0 a0_1 A0_2 c0_2 l0_2 a0_3 a0_4 a0_5 a1 a2 w hk (isL_of_C hr0_2)
  · cases h
end Go.Proofs.Ytbelnopbggkdfaa.Q
end
