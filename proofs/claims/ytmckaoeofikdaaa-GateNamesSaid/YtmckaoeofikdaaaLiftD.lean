/- The second machine is right, second part: reads of memory, new rows, stores. -/
import Derived.Test.YtmckaoeofikdaaaLiftC
namespace Go.Proofs.Ytmckaoeofikdaaa.Lift
open Go.RowKit

/-! ### Rows -/
theorem segOf_spec {H : Hp} {b off n : Nat} {cs : List Value} (h : segOf H b off n = some cs) :
    ∃ blk, H[b]? = some blk ∧ blk.live = true ∧ off + n ≤ blk.cells.length ∧ cs = (blk.cells.drop off).take n := by
  unfold segOf at h
  split at h
  · rename_i blk hb
    split at h
    · rename_i hc
      simp only [Bool.and_eq_true, decide_eq_true_eq] at hc
      simp only [Option.some.injEq] at h
      exact ⟨blk, hb, hc.1, hc.2, h.symm⟩
    · cases h
  · cases h

theorem segOf_len {H : Hp} {b off n : Nat} {cs : List Value} (h : segOf H b off n = some cs) : cs.length = n := by
  obtain ⟨blk, _, _, hl, rfl⟩ := segOf_spec h
  simp; omega

theorem segOf_mem {H : Hp} {b off n : Nat} {cs : List Value} (h : segOf H b off n = some cs) {ρ : Env} {w : World} {N : Nat} (hH : HRel ρ H w N) :
    ∀ v ∈ cs, wf1 H.length v = true ∧ isCell v = true := by
  obtain ⟨blk, hb, _, _, rfl⟩ := segOf_spec h
  intro v hv
  have hm : v ∈ blk.cells := List.mem_of_mem_drop (List.mem_of_mem_take hv)
  exact ⟨hH.wf _ _ hb v hm, hH.cell _ _ hb v hm⟩

theorem segOf_at {H : Hp} {b off n : Nat} {cs : List Value} (h : segOf H b off n = some cs) {ρ : Env} {w : World} {N : Nat} (hH : HRel ρ H w N) :
    w.rangeAt (ρ b).block ((ρ b).off + off) (cs.map (ren1 ρ)) := by
  obtain ⟨blk, hb, hl, hlen, rfl⟩ := segOf_spec h
  intro j v hv
  rw [List.getElem?_map, List.getElem?_take, List.getElem?_drop] at hv
  split at hv
  · cases hu : blk.cells[off + j]? with
    | none => simp [hu] at hv
    | some u =>
      simp only [hu, Option.map_some, Option.some.injEq] at hv
      subst hv
      have := hH.cellAt hb hl hu
      rw [Nat.add_assoc]; exact this
  · simp at hv

theorem renA_plain (ρ : Env) {a : Addr} (h : a.spot.isNone = true) : renA ρ a = ⟨(ρ a.block).block, (ρ a.block).off + a.off, none⟩ := by
  cases a with
  | mk b o s => cases s <;> simp_all [renA]

theorem map_toArray (cs : List Value) (f : Value → Value) : (cs.map f).toArray = cs.toArray.map f := by apply Array.ext'; simp

theorem run_loadAt_cell {P : Program} {t : TypeId} (h : rowT P t = some false) (w : World) (a : Addr) (v : Value) (hc : w.cell? a = some v) :
    (Instr.loadAt t (.pointer (some a))).run P w = .ok v w := by
  simp [Instr.loadAt, Instr.sureAddr, loadVar, run_isAgg h, hc]

theorem run_loadAt_row {P : Program} {t : TypeId} {n : Nat} (h : rowT P t = some true) (hn : szT P t = some n) (w : World) (b o : Nat) (cs : List Value) (hl : cs.length = n) (hc : w.rangeAt b o cs) :
    (Instr.loadAt t (.pointer (some ⟨b, o, none⟩))).run P w = .ok (.agg cs.toArray) w := by
  unfold rowT at h
  split at h
  · rename_i d hd
    simp only [Option.some.injEq] at h
    exact run_loadAt_mid w b o t cs d hc hd h (by rw [hl]; exact hn)
  · cases h

section reads
variable {P : Program} {o : Oper} {a : Act} {ρ : Env} {l : Fr} {w : World} {v : Value} {H : Hp} {N : Nat} (h : FRel ρ l a) (hH : HRel ρ H w N)
include h hH

theorem aLoad_spec {t : TypeId} {x : Operand} (ho : o.op = .load t x) (hv : aLoad P l H t x = some v) : (execOp a.eval o).run P w = .ok (.value (ren3 ρ v)) w := by
  unfold aLoad at hv
  split at hv
  · rename_i p hx hr
    split at hv
    · rename_i n hn
      split at hv
      · rename_i hs
        cases hseg : segOf H p.block p.off n with
        | none => simp [hseg] at hv
        | some cs =>
          simp only [hseg, Option.map_some, Option.some.injEq] at hv
          subst hv
          have e : a.eval x = .pointer (some (renA ρ p)) := evalL_spec h hx
          rw [renA_plain ρ hs] at e
          have hrun := run_loadAt_row (P := P) hr hn w _ _ _ (by rw [List.length_map]; exact segOf_len hseg) (segOf_at hseg hH)
          simp only [execOp, ho, e, Sem.run_bind, hrun, Result.andThen_ok, map_toArray]
          rfl
      · cases hv
    · cases hv
  · rename_i p hx hr
    split at hv
    · rename_i hs
      split at hv
      · rename_i u hseg
        simp only [Option.some.injEq] at hv
        subst hv
        have e : a.eval x = .pointer (some (renA ρ p)) := evalL_spec h hx
        rw [renA_plain ρ hs] at e
        have hc := segOf_at hseg hH 0 (ren1 ρ u) (by simp)
        have hcell := (segOf_mem hseg hH u (by simp)).2
        have hrun := run_loadAt_cell (P := P) hr w _ _ (by simpa using hc)
        simp only [execOp, ho, e, Sem.run_bind, hrun, Result.andThen_ok, ren3_cell ρ hcell]
        rfl
      · cases hv
    · cases hv
  · cases hv

omit hH in
theorem aFieldAddr_spec {s : TypeId} {x : Operand} {f : Nat} (ho : o.op = .fieldAddr s x f) (hv : aFieldAddr P l s x f = some v) : (execOp a.eval o).run P w = .ok (.value (ren3 ρ v)) w := by
  unfold aFieldAddr at hv
  split at hv
  · rename_i p fields hx hu
    split at hv
    · rename_i fd hfd
      split at hv
      · rename_i n hn
        split at hv
        · cases hv
        · rename_i hn0
          split at hv
          · rename_i hs
            simp only [Option.some.injEq] at hv
            subst hv
            have e : a.eval x = .pointer (some (renA ρ p)) := evalL_spec h hx
            rw [renA_plain ρ hs] at e
            simp [execOp, ho, e, Instr.fieldAt, run_underlying hu, hfd, Instr.sureAddr, fieldPlace, run_sizeOf hn, hn0, Addr.add_mid, ren3, ren2, ren1, renA, Nat.add_assoc]
          · cases hv
      · cases hv
    · cases hv
  · cases hv

omit hH in
theorem aIndexAddr_spec {t : TypeId} {x ix : Operand} (ho : o.op = .indexAddr t x ix) (hv : aIndexAddr P l t x ix = some v) : (execOp a.eval o).run P w = .ok (.value (ren3 ρ v)) w := by
  unfold aIndexAddr at hv
  split at hv
  · rename_i p n c k i e hx hi hu
    split at hv
    · rename_i sz hsz
      split at hv
      · rename_i hb
        simp only [Bool.and_eq_true, decide_eq_true_eq] at hb
        simp only [Option.some.injEq] at hv
        subst hv
        have e1 : a.eval x = .slice (some (renA ρ p)) n (if c = 0 then (ρ p.block).cap else c - 1) := evalL_spec h hx
        have e2 : a.eval ix = .int k i := evalL_spec h hi
        rw [renA_plain ρ hb.1] at e1
        simp [execOp, ho, e1, e2, Instr.indexAt, run_underlying hu, asIntOf, hb.2, run_sizeOf hsz, Addr.add_mid, ren3, ren2, ren1, renA, Nat.add_assoc]
      · cases hv
    · cases hv
  · rename_i p k i n e hx hi hu
    split at hv
    · rename_i sz hsz
      split at hv
      · rename_i hb
        simp only [Bool.and_eq_true, decide_eq_true_eq] at hb
        simp only [Option.some.injEq] at hv
        subst hv
        have e1 : a.eval x = .pointer (some (renA ρ p)) := evalL_spec h hx
        have e2 : a.eval ix = .int k i := evalL_spec h hi
        rw [renA_plain ρ hb.1] at e1
        simp [execOp, ho, e1, e2, Instr.indexAt, run_underlying hu, asIntOf, Instr.sureAddr, hb.2, run_sizeOf hsz, Addr.add_mid, ren3, ren2, ren1, renA, Nat.add_assoc]
      · cases hv
    · cases hv
  · cases hv

end reads

end Go.Proofs.Ytmckaoeofikdaaa.Lift
