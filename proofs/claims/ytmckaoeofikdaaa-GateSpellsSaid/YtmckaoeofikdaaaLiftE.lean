/- The second machine is right, third part: slicing; new rows. -/
import Derived.Test.YtmckaoeofikdaaaLiftD
namespace Go.Proofs.Ytmckaoeofikdaaa.Lift
open Go.RowKit
variable [Known] [Syms]

omit [Known] [Syms] in
theorem run_bounds {P : Program} (w : World) (len cap : Nat) (lo hi mx : Option Value) (l h m : Nat) (hl : (lo = none ∧ l = 0) ∨ ∃ k, lo = some (.int k (l : Int)))
    (hh : (hi = none ∧ h = len ∧ mx = none) ∨ ∃ k, hi = some (.int k (h : Int))) (hm : (mx = none ∧ m = cap) ∨ ∃ k, mx = some (.int k (m : Int))) (h1 : l ≤ h) (h2 : h ≤ m) (h3 : m ≤ cap) :
    (Instr.sliceBounds true len cap lo hi mx).run P w = .ok (l, h, m) w := by
  have b1 : (0 : Int) ≤ (l : Int) := Int.natCast_nonneg _
  have b2 : (0 : Int) ≤ (h : Int) := Int.natCast_nonneg _
  have b3 : (0 : Int) ≤ (m : Int) := Int.natCast_nonneg _
  have c1 : (l : Int) ≤ ((h : Nat) : Int) := by omega
  have c2 : (h : Int) ≤ ((m : Nat) : Int) := by omega
  have c3 : (m : Int) ≤ ((cap : Nat) : Int) := by omega
  rcases hl with ⟨rfl, rfl⟩ | ⟨kl, rfl⟩ <;> rcases hh with ⟨rfl, rfl, rfl⟩ | ⟨kh, rfl⟩ <;> rcases hm with ⟨hm0, rfl⟩ | ⟨km, hm0⟩ <;> first | (cases hm0; done) | skip
  all_goals first | subst hm0 | skip
  all_goals simp only [Instr.sliceBounds, Instr.sliceBound, asIntOf, Sem.run_bind, Sem.run_pure, Result.andThen_ok, b1, b2, b3, c1, c2, c3, and_self, if_true, Int.toNat_natCast, Option.isSome_none, Option.isSome_some, Bool.false_eq_true, if_false]

omit [Known] in
theorem bound_spec {ρ : Env} {l : Fr} {a : Act} (h : FRel ρ l a) {x : Option Operand} {d n : Nat} (hb : boundOf l x d = some n) :
    (x = none ∧ n = d) ∨ ∃ k, x.map a.eval = some (.int k (n : Int)) := by
  unfold boundOf at hb
  split at hb
  · simp only [Option.some.injEq] at hb; exact .inl ⟨rfl, hb.symm⟩
  · rename_i y
    split at hb
    · rename_i k m hy
      simp only [Option.some.injEq] at hb
      subst hb
      have e : a.eval y = .int k (m : Int) := evalL_spec h hy
      exact .inr ⟨k, by rw [Option.map_some, e]⟩
    · cases hb

omit [Known] [Syms] in
theorem run_slice_own {P : Program} {t e : TypeId} {sz : Nat} (hu : P.underlying t = some (.slice e)) (hsz : szT P e = some sz) (w : World) (B O len cap : Nat) (lo hi mx : Option Value) (l h m : Nat)
    (hr : (Instr.sliceBounds true len cap lo hi mx).run P w = .ok (l, h, m) w) :
    (Instr.sliceAt t (.slice (some ⟨B, O, none⟩) len cap) lo hi mx).run P w = .ok (.slice (some (if m = l then ⟨B, O, none⟩ else ⟨B, O + l * sz, none⟩)) (h - l) (m - l)) w := by
  simp only [Instr.sliceAt, Sem.run_bind, run_underlying hu, Result.andThen_ok, Instr.slice, hr, run_sizeOf hsz, Sem.run_pure]
  by_cases e : m = l
  · simp [e]
  · simp [e, Addr.add_mid]

omit [Known] in
theorem roomy_spec {H : Hp} {b sz n : Nat} (h : roomy H b sz n = true) {ρ : Env} {w : World} {N : Nat} (hH : HRel ρ H w N) : n ≤ (ρ b).cap ∧ (ρ b).off = 0 := by
  unfold roomy at h
  split at h
  · rename_i blk hb
    simp only [Bool.and_eq_true, Nat.beq_eq, Nat.ble_eq] at h
    obtain ⟨⟨⟨⟨h1, h2⟩, h3⟩, h4⟩, h5⟩ := h
    obtain ⟨h0, _, _, cur, hcur, hs, ht⟩ := hH.own b blk hb h1 h2
    have hl := congrArg List.length ht
    simp only [List.length_take, Array.length_toList, List.length_map] at hl
    refine ⟨?_, h0⟩
    have hle : n * sz ≤ (ρ b).cap * sz := by rw [← h3, ← hs, h3]; omega
    exact Nat.le_of_mul_le_mul_right hle h5
  · cases h

section slice
variable {P : Program} {o : Oper} {a : Act} {ρ : Env} {l : Fr} {w : World} {v : Value} {H : Hp} {N : Nat} (h : FRel ρ l a) (hH : HRel ρ H w N)
include h hH

omit [Known] in
theorem aSlice_spec {t : TypeId} {x : Operand} {lo hi mx : Option Operand} (ho : o.op = .slice t x lo hi mx) (hv : aSlice P l H t x lo hi mx = some v) : (execOp a.eval o).run P w = .ok (.value (ren3 ρ v)) w := by
  unfold aSlice at hv
  split at hv
  · rename_i p n k e hx hu
    split at hv
    · rename_i sz lo' hi' mx' hsz hlo hhi hmx
      split at hv
      · rename_i hs
        simp only [Bool.and_eq_true, Bool.or_eq_true] at hs
        have e1 : a.eval x = .slice (some (renA ρ p)) n (if k = 0 then (ρ p.block).cap else k - 1) := evalL_spec h hx
        rw [renA_plain ρ hs.1] at e1
        have el := bound_spec h hlo
        have eh := bound_spec h hhi
        have em := bound_spec h hmx
        have hl' : (lo.map a.eval = none ∧ lo' = 0) ∨ ∃ k, lo.map a.eval = some (.int k (lo' : Int)) := by
          rcases el with ⟨rfl, rfl⟩ | hh
          · exact .inl ⟨rfl, rfl⟩
          · exact .inr hh
        have hh' : (hi.map a.eval = none ∧ hi' = n ∧ mx.map a.eval = none) ∨ ∃ k, hi.map a.eval = some (.int k (hi' : Int)) := by
          rcases eh with ⟨rfl, rfl⟩ | hh
          · rcases hs.2 with h2 | h2
            · cases mx with
              | none => exact .inl ⟨rfl, rfl, rfl⟩
              | some _ => cases h2
            · cases h2
          · exact .inr hh
        split at hv
        · rename_i hk
          split at hv
          · rename_i hroom
            obtain ⟨hcap, h0⟩ := roomy_spec hroom hH
            rw [if_pos hk] at e1
            unfold sliceUnk at hv
            split at hv
            · rename_i hc
              simp only [Bool.and_eq_true, decide_eq_true_eq, Bool.not_eq_true'] at hc
              obtain ⟨⟨c1, c2⟩, c3⟩ := hc
              simp only [Option.some.injEq] at hv
              subst hv
              have emx : mx = none := by cases mx <;> simp_all
              subst emx
              have hb := run_bounds (P := P) w n (ρ p.block).cap (lo.map a.eval) (hi.map a.eval) none lo' hi' (ρ p.block).cap hl' hh' (.inl ⟨rfl, rfl⟩) (by omega) (by omega) (Nat.le_refl _)
              have hr := run_slice_own hu hsz w (ρ p.block).block ((ρ p.block).off + p.off) n (ρ p.block).cap _ _ _ _ _ _ hb
              subst c2
              simp only [execOp, ho, e1, Sem.run_bind, Option.map_none, hr, Result.andThen_ok, Nat.zero_mul, Nat.add_zero, Nat.sub_zero, ite_self, ren3, ren2, ren1, if_true, renA_plain ρ hs.1]
              rfl
            · split at hv
              · rename_i hc
                simp only [Bool.and_eq_true, decide_eq_true_eq] at hc
                obtain ⟨⟨⟨c1, c2⟩, c3⟩, c4⟩ := hc
                simp only [Option.some.injEq] at hv
                subst hv
                have em' : ∃ k, mx.map a.eval = some (.int k (mx' : Int)) := by
                  rcases em with ⟨rfl, _⟩ | hh
                  · cases c1
                  · exact hh
                have hb := run_bounds (P := P) w n (ρ p.block).cap (lo.map a.eval) (hi.map a.eval) (mx.map a.eval) lo' hi' mx' hl' hh' (.inr em') c2 c3 (by omega)
                have hr := run_slice_own hu hsz w (ρ p.block).block ((ρ p.block).off + p.off) n (ρ p.block).cap _ _ _ _ _ _ hb
                have h3 : renA ρ (if mx' = lo' then p else ⟨p.block, p.off + lo' * sz, none⟩) = (if mx' = lo' then ⟨(ρ p.block).block, (ρ p.block).off + p.off, none⟩ else ⟨(ρ p.block).block, (ρ p.block).off + p.off + lo' * sz, none⟩) := by
                  split
                  · exact renA_plain ρ hs.1
                  · simp [renA, Nat.add_assoc]
                simp only [execOp, ho, e1, Sem.run_bind, hr, Result.andThen_ok, ren3, ren2, ren1, h3]
                simp
              · cases hv
          · cases hv
        · rename_i hk
          rw [if_neg hk] at e1
          unfold sliceKnown at hv
          split at hv
          · rename_i hc
            simp only [Bool.and_eq_true, decide_eq_true_eq] at hc
            obtain ⟨⟨c1, c2⟩, c3⟩ := hc
            simp only [Option.some.injEq] at hv
            subst hv
            have em' : (mx.map a.eval = none ∧ mx' = k - 1) ∨ ∃ k, mx.map a.eval = some (.int k (mx' : Int)) := by
              rcases em with ⟨rfl, rfl⟩ | hh
              · exact .inl ⟨rfl, rfl⟩
              · exact .inr hh
            have hb := run_bounds (P := P) w n (k - 1) (lo.map a.eval) (hi.map a.eval) (mx.map a.eval) lo' hi' mx' hl' hh' em' c1 c2 c3
            have hr := run_slice_own hu hsz w (ρ p.block).block ((ρ p.block).off + p.off) n (k - 1) _ _ _ _ _ _ hb
            have h3 : renA ρ (if mx' = lo' then p else ⟨p.block, p.off + lo' * sz, none⟩) = (if mx' = lo' then ⟨(ρ p.block).block, (ρ p.block).off + p.off, none⟩ else ⟨(ρ p.block).block, (ρ p.block).off + p.off + lo' * sz, none⟩) := by
              split
              · exact renA_plain ρ hs.1
              · simp [renA, Nat.add_assoc]
            simp only [execOp, ho, e1, Sem.run_bind, hr, Result.andThen_ok, ren3, ren2, ren1, h3]
            simp
          · cases hv
      · cases hv
    · cases hv
  · cases hv

omit [Known] in
theorem aRead_spec (hv : aRead P l H o.op = some v) : (execOp a.eval o).run P w = .ok (.value (ren3 ρ v)) w := by
  unfold aRead at hv
  split at hv <;> rename_i ho
  · exact aLoad_spec h hH ho hv
  · exact aFieldAddr_spec h ho hv
  · exact aIndexAddr_spec h ho hv
  · exact aSlice_spec h hH ho hv
  · cases hv
end slice

/-! ### New rows -/
omit [Known] in
theorem cellsOf_ren2 (ρ : Env) (v : Value) : (ren2 ρ v).cells.toList = (cellsOf v).map (ren1 ρ) := by
  cases v with
  | agg cs => simp [ren2, Value.cells, cellsOf]
  | pointer q => cases q <;> rfl
  | slice q n c => cases q <;> rfl
  | chan r =>
    cases r with
    | none => rfl
    | some j =>
      have h := Syms.cell j
      show (Syms.sym j).cells.toList = [Syms.sym j]
      cases e : Syms.sym j <;> first | rfl | (rw [e] at h; cases h)
  | _ => rfl

omit [Known] [Syms] in
theorem newBlk_spec {H H' : Hp} {e : TypeId} {cells : List Value} {sz : Nat} (h : newBlk H e cells sz = some H') :
    H' = H ++ [⟨e, cells, sz, true, true⟩] ∧ (∀ v ∈ cells, wf1 H.length v = true) ∧ ∀ v ∈ cells, isCell v = true := by
  unfold newBlk at h
  split at h
  · rename_i hc
    rw [fCells_eq, fNat_eq, fSnoc_eq] at h
    simp only [Option.some.injEq] at h
    simp only [List.all_eq_true, Bool.and_eq_true] at hc
    exact ⟨h.symm, fun v hv => (hc v hv).2, fun v hv => (hc v hv).1⟩
  · cases h

omit [Known] in
theorem no2_cells {v : Value} (h : no2 v = true) : ∀ u ∈ cellsOf v, no1 u = true := by
  rcases two_or v with ⟨cs, rfl⟩ | ⟨_, e, _⟩
  · simp only [no2, List.all_eq_true] at h; exact h
  · rw [e] at h
    intro u hu
    cases v <;> first | (simp only [cellsOf, Value.cells, List.mem_singleton] at hu; subst hu; exact h) | skip
    simp [no1] at h

omit [Known] in
theorem map_ren1_no {cs : List Value} (ρ : Env) (h : ∀ u ∈ cs, no1 u = true) : cs.map (ren1 ρ) = cs := by
  rw [List.map_congr_left (f := ren1 ρ) (g := id) (fun u hu => ren1_no ρ (h u hu)), List.map_id]

omit [Known] in
/-- A new row is the world's new block. -/
theorem OpRes.new {P : Program} {o : Oper} {a : Act} {ρ : Env} {H H' : Hp} {w : World} {N : Nat} (hH : HRel ρ H w N) {e : TypeId} {cells : List Value} {sz : Nat} (hn : newBlk H e cells sz = some H')
    (cap : Nat) (cs : Array Value) (hcs : cs.toList = cells.map (ren1 ρ)) (hsz : cells.length = cap * sz) (hcap : cap ≤ maxLen) {v : Value}
    (hrun : (execOp a.eval o).run P w = .ok (.value (ren3 (upd ρ H.length ⟨w.heap.size, 0, cap⟩) v)) (w.alloc (.cells cs e))) : OpRes P o a ρ H w N v H' := by
  obtain ⟨rfl, hwf, hcell⟩ := newBlk_spec hn
  refine ⟨_, _, _, hrun, .inl rfl, hH.alloc e cells sz cap cs ?_ ?_ hcap hwf hcell, Agree.upd _ _ _, (Below.refl _ _).alloc hH.base _, by simp⟩
  · rw [hcs, List.take_of_length_le (by simp)]
  · rw [← hsz, ← Array.length_toList, hcs, List.length_map]

section news
variable {P : Program} {o : Oper} {a : Act} {ρ : Env} {l : Fr} {w : World} {v : Value} {H H' : Hp} {N : Nat} (h : FRel ρ l a) (hH : HRel ρ H w N)

omit [Known] in
theorem renPtr_new (ρ : Env) (n : Nat) (p : Pl) : ren3 (upd ρ n p) (.pointer (some ⟨n, 0, none⟩)) = .pointer (some ⟨p.block, p.off, none⟩) := by
  simp [ren3, ren2, ren1, renA, upd_same]

include hH in
omit [Known] in
theorem aAlloc_spec {e : TypeId} (ho : o.op = .alloc e) (hv : aAlloc P H e = some (v, H')) : OpRes P o a ρ H w N v H' := by
  unfold aAlloc at hv
  split at hv
  · rename_i i hi
    split at hv
    · rename_i z hz
      split at hv
      · rename_i hno
        cases hn : newBlk H e (cellsOf z) (cellsOf z).length with
        | none => simp [hn] at hv
        | some H1 =>
          simp only [hn, Option.map_some, Option.some.injEq, Prod.mk.injEq] at hv
          obtain ⟨rfl, rfl⟩ := hv
          refine OpRes.new hH hn 1 z.cells (by rw [map_ren1_no ρ (no2_cells hno)]; rfl) (by simp) (by simp [maxLen]) ?_
          rw [renPtr_new]
          simp [execOp, ho, Instr.alloc, zeroValue, typeInfo, hi, hz, newVar, newRow]
      · cases hv
    · cases hv
  · cases hv

include h hH in
omit [Known] in
theorem aBox_spec {e : TypeId} {x : Operand} (ho : o.op = .box e x) (hv : aBox l H e x = some (v, H')) : OpRes P o a ρ H w N v H' := by
  unfold aBox at hv
  split at hv
  · rename_i u hx
    split at hv
    · cases hv
    · rename_i ht
      cases hn : newBlk H e (cellsOf u) (cellsOf u).length with
      | none => simp [hn] at hv
      | some H1 =>
        simp only [hn, Option.map_some, Option.some.injEq, Prod.mk.injEq] at hv
        obtain ⟨rfl, rfl⟩ := hv
        have e1 : a.eval x = ren2 ρ u := by rw [evalL_spec h hx, ren3_flat ρ (by simpa using ht)]
        refine OpRes.new hH hn 1 (ren2 ρ u).cells (cellsOf_ren2 ρ u) (by simp) (by simp [maxLen]) ?_
        rw [renPtr_new]
        simp [execOp, ho, e1, Instr.box, newVar, newRow]
  · cases hv
end news

end Go.Proofs.Ytmckaoeofikdaaa.Lift
