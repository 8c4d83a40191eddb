/- The second machine is right, second part: reads of memory, new rows, stores. -/
import Derived.Test.YtmckaoeofikdaaaLiftC
namespace Go.Proofs.Ytmckaoeofikdaaa.Lift
open Go.RowKit
variable [Known] [Syms]

/-! ### Rows -/
omit [Known] [Syms] in
theorem segOf_spec {H : Hp} {b off n : Nat} {cs : List Value} (h : segOf H b off n = some cs) :
    ∃ blk, H[b]? = some blk ∧ blk.live = true ∧ n ≤ blk.cells.length - off ∧ cs = (blk.cells.drop off).take n := by
  unfold segOf at h
  rw [nth_eq] at h
  split at h
  · rename_i blk hb
    cases hl : blk.live with
    | false => rw [hl] at h; cases h
    | true =>
      rw [hl, cond_true, dropN_eq, takeN_eq] at h
      split at h
      · rename_i hn
        simp only [Option.some.injEq] at h
        exact ⟨blk, hb, hl, by simpa using hn, h.symm⟩
      · cases h
  · cases h

omit [Known] [Syms] in
theorem segOf_len {H : Hp} {b off n : Nat} {cs : List Value} (h : segOf H b off n = some cs) : cs.length = n := by
  obtain ⟨blk, _, _, hl, rfl⟩ := segOf_spec h
  simp; omega

omit [Known] in
theorem segOf_mem {H : Hp} {b off n : Nat} {cs : List Value} (h : segOf H b off n = some cs) {ρ : Env} {w : World} {N : Nat} (hH : HRel ρ H w N) :
    ∀ v ∈ cs, wf1 H.length v = true ∧ isCell v = true := by
  obtain ⟨blk, hb, _, _, rfl⟩ := segOf_spec h
  intro v hv
  have hm : v ∈ blk.cells := List.mem_of_mem_drop (List.mem_of_mem_take hv)
  exact ⟨hH.wf _ _ hb v hm, hH.cell _ _ hb v hm⟩

omit [Known] in
theorem segOf_at {H : Hp} {b off n : Nat} {cs : List Value} (h : segOf H b off n = some cs) {ρ : Env} {w : World} {N : Nat} (hH : HRel ρ H w N) :
    w.rangeAt (ρ b).block ((ρ b).off + off) (cs.map (ren1 ρ)) := by
  obtain ⟨blk, hb, hl, hlen, rfl⟩ := segOf_spec h
  intro j v hv
  rw [List.getElem?_map, List.getElem?_take, List.getElem?_drop] at hv
  split at hv
  · cases hu : blk.cells[off + j]? with
    | none => simp [hu] at hv
    | some u =>
      simp only [hu, Option.map_some, Option.some.injEq] at hv
      subst hv
      have := hH.cellAt hb hl hu
      rw [Nat.add_assoc]; exact this
  · simp at hv

omit [Known] [Syms] in
theorem renA_plain (ρ : Env) {a : Addr} (h : a.spot.isNone = true) : renA ρ a = ⟨(ρ a.block).block, (ρ a.block).off + a.off, none⟩ := by
  cases a with
  | mk b o s => cases s <;> simp_all [renA]

omit [Known] [Syms] in
theorem map_toArray (cs : List Value) (f : Value → Value) : (cs.map f).toArray = cs.toArray.map f := by apply Array.ext'; simp

omit [Known] [Syms] in
theorem run_loadAt_cell {P : Program} {t : TypeId} (h : rowT P t = some false) (w : World) (a : Addr) (v : Value) (hc : w.cell? a = some v) :
    (Instr.loadAt t (.pointer (some a))).run P w = .ok v w := by
  simp [Instr.loadAt, Instr.sureAddr, loadVar, run_isAgg h, hc]

omit [Known] [Syms] in
theorem run_loadAt_row {P : Program} {t : TypeId} {n : Nat} (h : rowT P t = some true) (hn : szT P t = some n) (w : World) (b o : Nat) (cs : List Value) (hl : cs.length = n) (hc : w.rangeAt b o cs) :
    (Instr.loadAt t (.pointer (some ⟨b, o, none⟩))).run P w = .ok (.agg cs.toArray) w := by
  unfold rowT at h
  split at h
  · rename_i d hd
    simp only [Option.some.injEq] at h
    exact run_loadAt_mid w b o t cs d hc hd h (by rw [hl]; exact hn)
  · cases h

section reads
variable {P : Program} {o : Oper} {a : Act} {ρ : Env} {l : Fr} {w : World} {v : Value} {H : Hp} {N : Nat} (h : FRel ρ l a) (hH : HRel ρ H w N)
include h hH

omit [Known] in
theorem aLoad_spec {t : TypeId} {x : Operand} (ho : o.op = .load t x) (hv : aLoad P l H t x = some v) : (execOp a.eval o).run P w = .ok (.value (ren3 ρ v)) w := by
  unfold aLoad at hv
  split at hv
  · rename_i p hx hr
    split at hv
    · rename_i n hn
      split at hv
      · rename_i hs
        cases hseg : segOf H p.block p.off n with
        | none => simp [hseg] at hv
        | some cs =>
          simp only [hseg, Option.map_some, Option.some.injEq] at hv
          subst hv
          have e : a.eval x = .pointer (some (renA ρ p)) := evalL_spec h hx
          rw [renA_plain ρ hs] at e
          have hrun := run_loadAt_row (P := P) hr hn w _ _ _ (by rw [List.length_map]; exact segOf_len hseg) (segOf_at hseg hH)
          simp only [execOp, ho, e, Sem.run_bind, hrun, Result.andThen_ok, map_toArray]
          rfl
      · cases hv
    · cases hv
  · rename_i p hx hr
    split at hv
    · rename_i hs
      split at hv
      · rename_i u hseg
        simp only [Option.some.injEq] at hv
        subst hv
        have e : a.eval x = .pointer (some (renA ρ p)) := evalL_spec h hx
        rw [renA_plain ρ hs] at e
        have hc := segOf_at hseg hH 0 (ren1 ρ u) (by simp)
        have hcell := (segOf_mem hseg hH u (by simp)).2
        have hrun := run_loadAt_cell (P := P) hr w _ _ (by simpa using hc)
        simp only [execOp, ho, e, Sem.run_bind, hrun, Result.andThen_ok, ren3_cell ρ hcell]
        rfl
      · cases hv
    · cases hv
  · cases hv

omit hH in
omit [Known] in
theorem aFieldAddr_spec {s : TypeId} {x : Operand} {f : Nat} (ho : o.op = .fieldAddr s x f) (hv : aFieldAddr P l s x f = some v) : (execOp a.eval o).run P w = .ok (.value (ren3 ρ v)) w := by
  unfold aFieldAddr at hv
  split at hv
  · rename_i p fields hx hu
    split at hv
    · rename_i fd hfd
      split at hv
      · rename_i n hn
        split at hv
        · cases hv
        · rename_i hn0
          split at hv
          · rename_i hs
            simp only [Option.some.injEq] at hv
            subst hv
            have e : a.eval x = .pointer (some (renA ρ p)) := evalL_spec h hx
            rw [renA_plain ρ hs] at e
            simp [execOp, ho, e, Instr.fieldAt, run_underlying hu, hfd, Instr.sureAddr, fieldPlace, run_sizeOf hn, hn0, Addr.add_mid, ren3, ren2, ren1, renA, Nat.add_assoc]
          · cases hv
      · cases hv
    · cases hv
  · cases hv

omit hH in
omit [Known] in
theorem aIndexAddr_spec {t : TypeId} {x ix : Operand} (ho : o.op = .indexAddr t x ix) (hv : aIndexAddr P l t x ix = some v) : (execOp a.eval o).run P w = .ok (.value (ren3 ρ v)) w := by
  have bnd : ∀ {i n : Nat}, Nat.ble (Nat.succ i) n = true → (0 : Int) ≤ Int.ofNat i ∧ Int.ofNat i < (n : Int) := fun {i n} hb => by
    have := Nat.le_of_ble_eq_true hb
    simp only [Int.ofNat_eq_natCast]; omega
  unfold aIndexAddr at hv
  split at hv
  · rename_i p n c k i e hx hi hu
    split at hv
    · rename_i sz hsz
      cases hb : (p.spot.isNone && Nat.ble (Nat.succ i) n) with
      | false => rw [hb] at hv; cases hv
      | true =>
        rw [hb] at hv
        simp only [Bool.and_eq_true] at hb
        simp only [cond_true, Option.some.injEq] at hv
        subst hv
        have e1 : a.eval x = .slice (some (renA ρ p)) n (if c = 0 then (ρ p.block).cap else c - 1) := evalL_spec h hx
        have e2 : a.eval ix = .int k (Int.ofNat i) := evalL_spec h hi
        rw [renA_plain ρ hb.1] at e1
        simp only [execOp, ho, e1, e2, Instr.indexAt, Sem.run_bind, run_underlying hu, Result.andThen_ok, asIntOf, bnd hb.2, and_self, if_true, run_sizeOf hsz, Sem.run_pure, Addr.add_mid, ren3, ren2, ren1, renA]
        simp [Nat.add_assoc]
    · cases hv
  · rename_i p k i n e hx hi hu
    split at hv
    · rename_i sz hsz
      cases hb : (p.spot.isNone && Nat.ble (Nat.succ i) n) with
      | false => rw [hb] at hv; cases hv
      | true =>
        rw [hb] at hv
        simp only [Bool.and_eq_true] at hb
        simp only [cond_true, Option.some.injEq] at hv
        subst hv
        have e1 : a.eval x = .pointer (some (renA ρ p)) := evalL_spec h hx
        have e2 : a.eval ix = .int k (Int.ofNat i) := evalL_spec h hi
        rw [renA_plain ρ hb.1] at e1
        simp only [execOp, ho, e1, e2, Instr.indexAt, Sem.run_bind, run_underlying hu, Result.andThen_ok, asIntOf, Instr.sureAddr, bnd hb.2, and_self, if_true, run_sizeOf hsz, Sem.run_pure, Addr.add_mid, ren3, ren2, ren1, renA]
        simp [Nat.add_assoc]
    · cases hv
  · cases hv

end reads

end Go.Proofs.Ytmckaoeofikdaaa.Lift
