/- The second machine is right, fifth part: stores, append, copy; every operation that is no call. -/
import Derived.Test.YtmckaoeofikdaaaLiftF
import Derived.Maps.AppendAt
namespace Go.Proofs.Ytmckaoeofikdaaa.Lift
open Go.RowKit
variable [Known] [Syms]

omit [Known] [Syms] in
theorem fRow_eq {β : Type} : ∀ (l : List Value) (off : Nat) (vs : List Value) (k : List Value → Option β) (r : β), fRow l off vs k = some r → vs ≠ [] → off + vs.length ≤ l.length ∧ k (splice l off vs) = some r
  | [], off, vs, k, r, h, hne => by
    cases vs with
    | nil => exact absurd rfl hne
    | cons v vs => cases h
  | x :: l, 0, vs, k, r, h, hne => by
    cases vs with
    | nil => exact absurd rfl hne
    | cons v vs =>
      replace h : fRow l 0 vs (fun r => k (v :: r)) = some r := h
      cases vs with
      | nil =>
        have h2 : k (v :: l) = some r := by
          cases l with
          | nil => exact h
          | cons y l => exact h
        exact ⟨by simp, by simpa [splice] using h2⟩
      | cons u vs =>
        obtain ⟨h1, h2⟩ := fRow_eq l 0 (u :: vs) _ r h (by simp)
        refine ⟨by simp only [List.length_cons] at h1 ⊢; omega, ?_⟩
        simpa [splice] using h2
  | x :: l, off + 1, vs, k, r, h, hne => by
    replace h : fRow l off vs (fun r => k (x :: r)) = some r := h
    obtain ⟨h1, h2⟩ := fRow_eq l off vs _ r h hne
    refine ⟨by simp only [List.length_cons]; omega, ?_⟩
    have e : splice (x :: l) (off + 1) vs = x :: splice l off vs := by
      simp [splice, show off + 1 + vs.length = (off + vs.length) + 1 by omega]
    rw [e]; exact h2

omit [Known] [Syms] in
theorem storeAt_spec {H H' : Hp} {b off : Nat} {vs : List Value} (h : storeAt H b off vs = some H') :
    ∃ blk, H[b]? = some blk ∧ blk.live = true ∧ blk.own = true ∧ off + vs.length ≤ blk.cells.length ∧ (∀ v ∈ vs, wf1 H.length v = true) ∧ (∀ v ∈ vs, isCell v = true) ∧
      H' = H.set b { blk with cells := splice blk.cells off vs } := by
  unfold storeAt at h
  split at h
  · cases h
  · rename_i v vs
    rw [nth_eq] at h
    split at h
    · rename_i blk hb
      cases hc : (blk.live && blk.own && (v :: vs).all fun v => isCell v && wf1 H.length v) with
      | false => rw [hc] at h; cases h
      | true =>
        rw [hc] at h
        simp only [Bool.and_eq_true, List.all_eq_true] at hc
        obtain ⟨⟨c1, c2⟩, c4⟩ := hc
        rw [cond_true, fCells_eq] at h
        obtain ⟨h1, h2⟩ := fRow_eq _ _ _ _ _ h (by simp)
        rw [fSet_eq] at h2
        simp only [Option.some.injEq] at h2
        exact ⟨blk, hb, c1, c2, h1, fun v hv => (c4 v hv).2, fun v hv => (c4 v hv).1, h2.symm⟩
    · cases h

omit [Known] [Syms] in
theorem get_set {α : Type} {l : List α} {b j : Nat} {x y : α} (h : (l.set b x)[j]? = some y) : (j = b ∧ y = x) ∨ (j ≠ b ∧ l[j]? = some y) := by
  rw [List.getElem?_set] at h
  by_cases hj : b = j
  · subst hj
    simp only [if_true] at h
    split at h
    · exact .inl ⟨rfl, by simpa using h.symm⟩
    · cases h
  · rw [if_neg hj] at h
    exact .inr ⟨Ne.symm hj, h⟩

omit [Known] in
/-- One own row is written anew (or given up). -/
theorem HRel.change {ρ : Env} {H : Hp} {w w' : World} {N : Nat} (hH : HRel ρ H w N) {b : Nat} {blk : Blk} (hb : H[b]? = some blk) (hl : blk.live = true) (ho : blk.own = true)
    (hg : w.grownBy w' (some (ρ b).block)) (cells' : List Value) (live' : Bool)
    (hnew : live' = true → ∃ cur', w'.heap[(ρ b).block]? = some (.cells cur' blk.elem (0, 0)) ∧ cur'.size = (ρ b).cap * blk.sz ∧ cur'.toList.take cells'.length = cells'.map (ren1 ρ))
    (hwf : ∀ v ∈ cells', wf1 H.length v = true) (hcell : ∀ v ∈ cells', isCell v = true) :
    HRel ρ (H.set b ⟨blk.elem, cells', blk.sz, blk.own, live'⟩) w' N := by
  have hN := (hH.own b blk hb hl ho).2.1
  refine ⟨?_, ?_, ?_, ?_, ?_, ?_⟩
  · intro j c hj hl' ho'
    rcases get_set hj with ⟨rfl, rfl⟩ | ⟨hne, hj⟩
    · obtain ⟨h0, h1, h2, _⟩ := hH.own j blk hb hl ho
      obtain ⟨cur', h3, h4, h5⟩ := hnew hl'
      exact ⟨h0, h1, h2, cur', h3, h4, h5⟩
    · obtain ⟨h0, h1, h2, cur, h3, h4⟩ := hH.own j c hj hl' ho'
      refine ⟨h0, h1, h2, cur, ?_, h4⟩
      rw [hg.block _ (Array.getElem?_eq_some_iff.1 h3).1 (fun e => hH.apart j b c blk hj hb hl' hl ho' ho hne (by simpa using e))]
      exact h3
  · intro j c hj hl' ho'
    rcases get_set hj with ⟨rfl, rfl⟩ | ⟨hne, hj⟩
    · rw [ho] at ho'; cases ho'
    · obtain ⟨h1, h2⟩ := hH.ro j c hj hl' ho'
      refine ⟨h1, fun i v hv => ?_⟩
      exact hg.cell (h2 i v hv) (fun e => by
        have : (ρ j).block = (ρ b).block := by simpa using e
        omega)
  · intro i j ci cj hi hj h1 h2 h3 h4 hne
    rcases get_set hi with ⟨ei, _⟩ | ⟨hine, hi2⟩ <;> rcases get_set hj with ⟨ej, _⟩ | ⟨hjne, hj2⟩
    · exact absurd (ei.trans ej.symm) hne
    · rw [ei]; exact hH.apart b j blk cj hb hj2 hl h2 ho h4 (Ne.symm hjne)
    · rw [ej]; exact hH.apart i b ci blk hi2 hb h1 hl h3 ho hine
    · exact hH.apart i j ci cj hi2 hj2 h1 h2 h3 h4 hne
  · exact Nat.le_trans hH.base hg.size
  · intro j c hj v hv
    rw [List.length_set]
    rcases get_set hj with ⟨rfl, rfl⟩ | ⟨hne, hj⟩
    · exact hwf v hv
    · exact hH.wf j c hj v hv
  · intro j c hj v hv
    rcases get_set hj with ⟨rfl, rfl⟩ | ⟨hne, hj⟩
    · exact hcell v hv
    · exact hH.cell j c hj v hv

omit [Known] in
/-- A row that lies already in a block of its own is listed. -/
theorem HRel.add {ρ : Env} {H : Hp} {w : World} {N : Nat} (hH : HRel ρ H w N) (e : TypeId) (cells : List Value) (sz cap g : Nat) (cur : Array Value) (hg : w.heap[g]? = some (.cells cur e (0, 0))) (hN : N ≤ g)
    (ht : cur.toList.take cells.length = cells.map (ren1 ρ)) (hsz : cur.size = cap * sz) (hcap : cap ≤ maxLen) (hwf : ∀ v ∈ cells, wf1 H.length v = true) (hcell : ∀ v ∈ cells, isCell v = true)
    (hap : ∀ (j : Nat) (b : Blk), H[j]? = some b → b.live = true → b.own = true → (ρ j).block ≠ g) :
    HRel (upd ρ H.length ⟨g, 0, cap⟩) (H ++ [⟨e, cells, sz, true, true⟩]) w N := by
  have hA : Agree H.length ρ (upd ρ H.length ⟨g, 0, cap⟩) := Agree.upd _ _ _
  refine ⟨?_, ?_, ?_, hH.base, ?_, ?_⟩
  · intro j b hj hl ho
    rcases get_snoc hj with ⟨hj, hlt⟩ | ⟨rfl, rfl⟩
    · rw [hA j hlt, map_ren1_agree hA (hH.wf j b hj)]
      exact hH.own j b hj hl ho
    · rw [upd_same]
      refine ⟨rfl, hN, hcap, cur, hg, hsz, ?_⟩
      rw [map_ren1_agree hA hwf]; exact ht
  · intro j b hj hl ho
    rcases get_snoc hj with ⟨hj, hlt⟩ | ⟨rfl, rfl⟩
    · rw [hA j hlt]
      refine ⟨(hH.ro j b hj hl ho).1, fun i v hv => ?_⟩
      rw [ren1_agree hA (hH.wf j b hj v (List.mem_of_getElem? hv))]
      exact (hH.ro j b hj hl ho).2 i v hv
    · cases ho
  · intro i j bi bj hi hj h1 h2 h3 h4 hne
    rcases get_snoc hi with ⟨hi, hilt⟩ | ⟨rfl, rfl⟩ <;> rcases get_snoc hj with ⟨hj, hjlt⟩ | ⟨rfl, rfl⟩
    · rw [hA i hilt, hA j hjlt]; exact hH.apart i j bi bj hi hj h1 h2 h3 h4 hne
    · rw [hA i hilt, upd_same]; exact hap i bi hi h1 h3
    · rw [hA j hjlt, upd_same]; exact Ne.symm (hap j bj hj h2 h4)
    · exact absurd rfl hne
  · intro j b hj v hv
    rw [List.length_append]
    rcases get_snoc hj with ⟨hj, hlt⟩ | ⟨rfl, rfl⟩
    · exact wf1_mono (by simp) (hH.wf j b hj v hv)
    · exact wf1_mono (by simp) (hwf v hv)
  · intro j b hj v hv
    rcases get_snoc hj with ⟨hj, hlt⟩ | ⟨rfl, rfl⟩
    · exact hH.cell j b hj v hv
    · exact hcell v hv

omit [Known] [Syms] in
theorem below_setRow {N : Nat} (w : World) {g : Nat} (hN : N ≤ g) (cs : Array Value) : Below N w (w.setRow g cs) :=
  ⟨rfl, rfl, rfl, by simp, fun k hk => setRow_other w g k cs (by omega)⟩

omit [Known] [Syms] in
theorem grownBy_setRow (w : World) (g : Nat) (cs : Array Value) : w.grownBy (w.setRow g cs) (some g) :=
  ⟨rfl, rfl, rfl, by simp, fun k _ hne => setRow_other w g k cs (fun e => hne (by rw [e]))⟩

omit [Known] [Syms] in
theorem below_grown {N : Nat} {w w' : World} {row : Option Nat} (hg : w.grownBy w' row) (hr : ∀ k, row = some k → N ≤ k) (hN : N ≤ w.heap.size) : Below N w w' := (Below.refl N w).grown hg hN hr

omit [Known] [Syms] in
theorem take_splice {l : List Value} {off n : Nat} {vs : List Value} (h : off + vs.length ≤ n) (hn : n ≤ l.length) : (splice l off vs).take n = splice (l.take n) off vs := by
  unfold splice
  apply List.ext_getElem?
  intro i
  simp only [List.getElem?_take, List.getElem?_append, List.length_take, List.getElem?_drop, List.length_append]
  have e1 : min off l.length = off := by omega
  have e2 : min off (min n l.length) = off := by omega
  simp only [e1, e2]
  by_cases h1 : i < n
  · by_cases h2 : i < off
    · simp [h1, h2, show i < off + vs.length by omega]
    · by_cases h3 : i < off + vs.length
      · simp [h1, h2, h3]
      · simp [h1, h3, show off + vs.length + (i - (off + vs.length)) = i by omega]
  · have h4 : ¬ i < off + vs.length := by omega
    simp [h1, h4]
    omega

omit [Known] [Syms] in
theorem splice_map (f : Value → Value) (l : List Value) (off : Nat) (vs : List Value) : (splice l off vs).map f = splice (l.map f) off (vs.map f) := by
  simp [splice, List.map_take, List.map_drop]
omit [Known] [Syms] in
theorem splice_len {l : List Value} {off : Nat} {vs : List Value} (h : off + vs.length ≤ l.length) : (splice l off vs).length = l.length := by
  simp [splice]; omega
omit [Known] [Syms] in
theorem splice_mem {l : List Value} {off : Nat} {vs : List Value} {v : Value} (h : v ∈ splice l off vs) : v ∈ l ∨ v ∈ vs := by
  simp only [splice, List.mem_append] at h
  rcases h with (h | h) | h
  · exact .inl (List.mem_of_mem_take h)
  · exact .inr h
  · exact .inl (List.mem_of_mem_drop h)

omit [Known] in
/-- A store into an own row. -/
theorem HRel.store {ρ : Env} {H H' : Hp} {w : World} {N : Nat} (hH : HRel ρ H w N) {b off : Nat} {vs : List Value} (h : storeAt H b off vs = some H') :
    ∃ cur e, w.heap[(ρ b).block]? = some (.cells cur e (0, 0)) ∧ (ρ b).off = 0 ∧ off + vs.length ≤ cur.size ∧ (∀ v ∈ vs.map (ren1 ρ), v.oneCell' = true) ∧
      HRel ρ H' (w.setRow (ρ b).block (cur.toList.take off ++ vs.map (ren1 ρ) ++ cur.toList.drop (off + vs.length)).toArray) N ∧
      Below N w (w.setRow (ρ b).block (cur.toList.take off ++ vs.map (ren1 ρ) ++ cur.toList.drop (off + vs.length)).toArray) ∧ H'.length = H.length := by
  obtain ⟨blk, hb, hl, ho, hlen, hwf, hcell, rfl⟩ := storeAt_spec h
  obtain ⟨h0, hN, _, cur, hcur, hs, ht⟩ := hH.own b blk hb hl ho
  have hcl : blk.cells.length ≤ cur.size := by
    have := congrArg List.length ht
    simp only [List.length_take, Array.length_toList, List.length_map] at this
    omega
  have hsp : (cur.toList.take off ++ vs.map (ren1 ρ) ++ cur.toList.drop (off + vs.length)) = splice cur.toList off (vs.map (ren1 ρ)) := by simp [splice]
  refine ⟨cur, blk.elem, hcur, h0, by omega, ?_, ?_, below_setRow w hN _, by simp⟩
  · intro v hv
    obtain ⟨u, hu, rfl⟩ := List.mem_map.1 hv
    exact oneCell_of (by rw [isCell_ren1]; exact hcell u hu)
  · refine hH.change hb hl ho (grownBy_setRow _ _ _) _ _ (fun _ => ?_) ?_ ?_
    · refine ⟨_, setRow_heap w _ cur _ _ _ hcur, ?_, ?_⟩
      · rw [hsp, ← hs]
        have := splice_len (l := cur.toList) (off := off) (vs := vs.map (ren1 ρ)) (by simp; omega)
        simpa using this
      · rw [hsp, splice_len hlen, splice_map, ← ht]
        exact take_splice (by simpa using hlen) (by simpa using hcl)
    · intro v hv
      rcases splice_mem hv with hv | hv
      · exact hH.wf b blk hb v hv
      · exact hwf v hv
    · intro v hv
      rcases splice_mem hv with hv | hv
      · exact hH.cell b blk hb v hv
      · exact hcell v hv

section ops
variable {P : Program} {o : Oper} {a : Act} {ρ : Env} {l : Fr} {w : World} {v : Value} {H H' : Hp} {N : Nat} (h : FRel ρ l a) (hH : HRel ρ H w N)
include h hH

omit [Known] in
theorem aStore_spec {t : TypeId} {x y : Operand} (ho : o.op = .store t x y) (hv : aStore P l H t x y = some (v, H')) : OpRes P o a ρ H w N v H' := by
  unfold aStore at hv
  split at hv
  · rename_i p u n hx hy hn
    split at hv
    · rename_i hc
      simp only [Bool.and_eq_true, decide_eq_true_eq, Bool.not_eq_true'] at hc
      obtain ⟨⟨c1, c2⟩, c3⟩ := hc
      cases hs : storeAt H p.block p.off (cellsOf u) with
      | none => simp [hs] at hv
      | some H1 =>
        simp only [hs, Option.map_some, Option.some.injEq, Prod.mk.injEq] at hv
        obtain ⟨rfl, rfl⟩ := hv
        obtain ⟨cur, e, hcur, h0, hfit, hone, hR, hB, hlen⟩ := hH.store hs
        have e1 : a.eval x = .pointer (some (renA ρ p)) := evalL_spec h hx
        rw [renA_plain ρ c1, h0, Nat.zero_add] at e1
        have e2 : a.eval y = ren2 ρ u := by rw [evalL_spec h hy, ren3_flat ρ c2]
        have hcl := cellsOf_ren2 ρ u
        have hsz : (ren2 ρ u).cells.size = n := by rw [← Array.length_toList, hcl, List.length_map]; exact c3
        have hrun := run_storeCells_at P (ρ p.block).block p.off e ((cellsOf u).map (ren1 ρ)) 0 cur w hcur (by simpa using hfit) hone
        simp only [Nat.add_zero, List.length_map] at hrun
        refine ⟨ρ, _, _, ?_, .inr ⟨rfl, rfl⟩, hR, Agree.refl _ _, hB, by omega⟩
        simp only [execOp, ho, e1, e2, Instr.storeAt, Instr.sureAddr, Sem.run_bind, Sem.run_pure, Result.andThen_ok, storeVar, run_sizeOf hn, hsz, ne_eq, not_true_eq_false, if_false, hcl, hrun]
    · cases hv
  · cases hv

omit [Known] in
theorem aCopyOp_spec {c : Call} {args : Array Operand} {argTypes : Array TypeId} (ho : o.op = .call c) (hc : c = { callee := .builtin .copy, args, argTypes }) (hv : aCopyOp P l H args argTypes = some (v, H')) : OpRes P o a ρ H w N v H' := by
  subst hc
  unfold aCopyOp at hv
  split at hv
  · rename_i d s t t' hd ht
    have e1 : args = #[d, s] := by apply Array.ext'; simpa using hd
    have e2 : argTypes = #[t, t'] := by apply Array.ext'; simpa using ht
    subst e1 e2
    split at hv
    · rename_i pa n ca pb m cb e hx hy hu
      split at hv
      · rename_i sz hsz
        split at hv
        · rename_i hcc
          simp only [Bool.and_eq_true, decide_eq_true_eq] at hcc
          obtain ⟨⟨c1, c2⟩, rfl⟩ := hcc
          split at hv
          · rename_i cs hseg
            cases hs : storeAt H pa.block pa.off cs with
            | none => simp [hs] at hv
            | some H1 =>
              simp only [hs, Option.map_some, Option.some.injEq, Prod.mk.injEq] at hv
              obtain ⟨rfl, rfl⟩ := hv
              obtain ⟨cur, e', hcur, h0, hfit, hone, hR, hB, hlen⟩ := hH.store hs
              have e1 : a.eval d = .slice (some (renA ρ pa)) n (if ca = 0 then (ρ pa.block).cap else ca - 1) := evalL_spec h hx
              have e2 : a.eval s = .slice (some (renA ρ pb)) m (if cb = 0 then (ρ pb.block).cap else cb - 1) := evalL_spec h hy
              rw [renA_plain ρ c1, h0, Nat.zero_add] at e1
              rw [renA_plain ρ c2] at e2
              have hl := segOf_len hseg
              have hat := segOf_at hseg hH
              have hrun := run_copy_row (P := P) w t t' o.type e (ρ pa.block).block pa.off n (if ca = 0 then (ρ pa.block).cap else ca - 1) ⟨(ρ pb.block).block, (ρ pb.block).off + pb.off, none⟩ m (if cb = 0 then (ρ pb.block).cap else cb - 1) cur e' (cs.map (ren1 ρ)) hu hsz hcur
                (by rw [List.length_map, hl]) (fun j u hu => by rw [Addr.add_mid]; exact hat j u hu) (by simpa using hfit) hone
              rw [List.length_map, hl] at hrun
              rw [hl] at hR hB
              refine ⟨ρ, _, _, ?_, .inl rfl, hR, Agree.refl _ _, hB, by omega⟩
              simp only [execOp, ho, resolve, invoke, builtin, Sem.run_bind, Sem.run_pure, Result.andThen_ok, List.map_toArray, List.map_cons, List.map_nil, e1, e2, hrun]
              simp [ren3, ren2, ren1, goInt]
          · cases hv
        · cases hv
      · cases hv
    · cases hv
  · cases hv

end ops

end Go.Proofs.Ytmckaoeofikdaaa.Lift
