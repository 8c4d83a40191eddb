/- The second machine is right, fourth part: aggregates, rows with elements, stores. -/
import Derived.Test.YtmckaoeofikdaaaLiftE
namespace Go.Proofs.Ytmckaoeofikdaaa.Lift
open Go.RowKit
variable [Known] [Syms]

omit [Known] [Syms] in
theorem foldl_set (off : Nat) : ∀ (vs : List Value) (k : Nat) (cs : Array Value), off + k + vs.length ≤ cs.size →
    ((vs.zipIdx k).foldl (fun (cs : Array Value) (p : Value × Nat) => cs.setIfInBounds (off + p.2) p.1) cs).toList = splice cs.toList (off + k) vs
  | [], k, cs, _ => by simp [splice]
  | v :: vs, k, cs, h => by
    simp only [List.zipIdx_cons, List.foldl_cons]
    simp only [List.length_cons] at h
    rw [foldl_set off vs (k + 1) _ (by simp; omega)]
    have e := list_seg_step cs.toList (off + k) v vs (by simp; omega)
    simp only [splice, Array.toList_setIfInBounds, List.length_cons]
    rw [← Nat.add_assoc off k 1]
    exact e

omit [Known] in
theorem evalParts_spec {ρ : Env} {l : Fr} {a : Act} (h : FRel ρ l a) : ∀ (parts : List (Nat × Operand)) (ps : List (Nat × Value)), evalParts l parts = some ps →
    parts.map (fun x => (x.1, a.eval x.2)) = ps.map (fun p => (p.1, ren3 ρ p.2)) ∧ ∀ p ∈ ps, isTup p.2 = false
  | [], ps, hp => by simp [evalParts] at hp; subst hp; exact ⟨rfl, by simp⟩
  | (i, x) :: parts, ps, hp => by
    simp only [evalParts] at hp
    split at hp
    · rename_i v vs hx hxs
      split at hp
      · cases hp
      · rename_i ht
        simp only [Option.some.injEq] at hp
        subst hp
        obtain ⟨e1, e2⟩ := evalParts_spec h parts vs hxs
        refine ⟨by simp [evalL_spec h hx, e1], fun p hp => ?_⟩
        rcases List.mem_cons.1 hp with rfl | hp
        · simpa using ht
        · exact e2 p hp
    · cases hp

omit [Known] in
theorem fillL_spec (ρ : Env) (place : Nat → Option (Nat × Nat)) : ∀ (ps : List (Nat × Value)) (cells cs : List Value), fillL place ps cells = some cs → (∀ p ∈ ps, isTup p.2 = false) →
    Instr.fill place (cells.map (ren1 ρ)).toArray (ps.map fun p => (p.1, ren3 ρ p.2)) = some (cs.map (ren1 ρ)).toArray
  | [], cells, cs, h, _ => by simp [fillL] at h; subst h; rfl
  | (i, v) :: ps, cells, cs, h, ht => by
    simp only [fillL] at h
    split at h
    · cases h
    · rename_i off size hp
      cases hc : (Nat.beq (cellsOf v).length size && Nat.ble (off + size) cells.length) with
      | false => simp [hc] at h
      | true =>
        simp only [hc, cond_true, fCells_eq] at h
        simp only [Bool.and_eq_true, Nat.beq_eq, Nat.ble_eq] at hc
        have hv : isTup v = false := ht (i, v) (by simp)
        have hcl : (ren3 ρ v).cells.toList = (cellsOf v).map (ren1 ρ) := by rw [ren3_flat ρ hv]; exact cellsOf_ren2 ρ v
        have hsz : (ren3 ρ v).cells.size = size := by rw [← Array.length_toList, hcl, List.length_map]; exact hc.1
        have ih := fillL_spec ρ place ps _ cs h (fun p hp => ht p (by simp [hp]))
        simp only [List.map_cons, Instr.fill, hp, hsz]
        rw [if_neg (by simp; omega)]
        have hfold : (ren3 ρ v).cells.zipIdx.foldl (fun cs (x : Value × Nat) => cs.setIfInBounds (off + x.2) x.1) (cells.map (ren1 ρ)).toArray = ((splice cells off (cellsOf v)).map (ren1 ρ)).toArray := by
          rw [← Array.foldl_toList, Array.toList_zipIdx, hcl]
          apply Array.ext'
          rw [foldl_set off _ 0 _ (by simp; omega)]
          simp [splice, List.map_take, List.map_drop]
        rw [← ih]
        exact congrArg (fun z => Instr.fill place z _) hfold

omit [Known] in
theorem builtL_spec {P : Program} {t : TypeId} {ps : List (Nat × Value)} {cs : List Value} (ρ : Env) (h : builtL P t ps = some cs) (ht : ∀ p ∈ ps, isTup p.2 = false) :
    P.built t (ps.map fun p => (p.1, ren3 ρ p.2)) = some (cs.map (ren1 ρ)).toArray := by
  have zero : ∀ z : Value, no2 z = true → z.cells = (z.cells.toList.map (ren1 ρ)).toArray := fun z hz => by
    have e := map_ren1_no ρ (no2_cells hz)
    unfold cellsOf at e
    rw [e]
  unfold builtL at h
  unfold Program.built
  split at h
  · rename_i it n e hi hu
    simp only [hi, hu]
    split at h
    · rename_i z ie hz hie
      simp only [hz, hie]
      split at h
      · rename_i hno
        rw [zero z hno]
        exact fillL_spec ρ _ _ _ _ h ht
      · cases h
    · cases h
  · rename_i it fields hi hu
    simp only [hi, hu]
    split at h
    · rename_i z places hz hpl
      simp only [hz, hpl]
      split at h
      · rename_i hno
        rw [zero z hno]
        exact fillL_spec ρ _ _ _ _ h ht
      · cases h
    · cases h
  · cases h

section build
variable {P : Program} {o : Oper} {a : Act} {ρ : Env} {l : Fr} {w : World} {v : Value} {H H' : Hp} {N : Nat} (h : FRel ρ l a) (hH : HRel ρ H w N)
include h hH

omit [Known] in
theorem aBuild_spec {t : TypeId} {parts : Array (Nat × Operand)} (ho : o.op = .build t parts) (hv : aBuild P l H t parts = some (v, H')) : OpRes P o a ρ H w N v H' := by
  unfold aBuild at hv
  split at hv
  · rename_i ps hps
    obtain ⟨e1, e2⟩ := evalParts_spec h _ _ hps
    cases hb : builtL P t ps with
    | none => simp [hb] at hv
    | some cs =>
      simp only [hb, Option.map_some, Option.some.injEq, Prod.mk.injEq] at hv
      obtain ⟨rfl, rfl⟩ := hv
      refine OpRes.same hH ?_
      have hbl := builtL_spec ρ hb e2
      rw [← e1] at hbl
      have hrun := run_build (P := P) w t (parts.map fun x => (x.1, a.eval x.2)) _ (by rw [Array.toList_map]; exact hbl)
      simp only [execOp, ho, Sem.run_bind, hrun, Result.andThen_ok, map_toArray]
      rfl
  · cases hv
end build

/-! ### Rows of zero values -/
omit [Known] [Syms] in
theorem zeroRow_len (z : List Value) (n : Nat) : (zeroRow z n).length = n * z.length := by
  induction n with
  | zero => simp [zeroRow]
  | succ n ih => simp [zeroRow, ih, Nat.add_mul, Nat.add_comm]

omit [Known] [Syms] in
theorem zeroRow_get (z : List Value) (n : Nat) : ∀ i, i < n * z.length → (zeroRow z n)[i]? = z[i % z.length]? := by
  induction n with
  | zero => intro i hi; simp at hi
  | succ n ih =>
    intro i hi
    rw [Nat.add_mul, Nat.one_mul] at hi
    simp only [zeroRow]
    by_cases hlt : i < z.length
    · rw [List.getElem?_append_left hlt, Nat.mod_eq_of_lt hlt]
    · rw [List.getElem?_append_right (by omega), ih _ (by omega), ← Nat.mod_eq_sub_mod (by omega)]

omit [Known] [Syms] in
theorem zeroRow_made (z : Array Value) (n : Nat) : (Array.range (n * z.size)).map (z[· % z.size]!) = (zeroRow z.toList n).toArray := by
  apply Array.ext'
  apply List.ext_getElem?
  intro i
  simp only [Array.toList_map, Array.toList_range, List.getElem?_map]
  by_cases hi : i < n * z.size
  · rw [zeroRow_get _ _ _ (by simpa using hi), List.getElem?_range hi]
    have hp : 0 < z.size := by
      rcases Nat.eq_zero_or_pos z.size with h0 | h0
      · rw [h0, Nat.mul_zero] at hi; omega
      · exact h0
    have hlt : i % z.size < z.size := Nat.mod_lt _ hp
    simp [hlt]
  · rw [List.getElem?_eq_none (by simpa using hi), List.getElem?_eq_none (by rw [zeroRow_len]; simpa using hi)]
    rfl

omit [Known] [Syms] in
theorem zeroRow_mem {z : List Value} {n : Nat} {v : Value} (h : v ∈ zeroRow z n) : v ∈ z := by
  induction n with
  | zero => simp [zeroRow] at h
  | succ n ih =>
    simp only [zeroRow, List.mem_append] at h
    rcases h with h | h
    · exact h
    · exact ih h

omit [Known] in
theorem renSlice_new (ρ : Env) (n : Nat) (p : Pl) (len c : Nat) (hoff : p.off = 0) :
    ren3 (upd ρ n p) (.slice (some ⟨n, 0, none⟩) len (c + 1)) = .slice (some ⟨p.block, 0, none⟩) len c := by
  simp [ren3, ren2, ren1, renA, upd_same, hoff]

section rows
variable {P : Program} {o : Oper} {a : Act} {ρ : Env} {l : Fr} {w : World} {v : Value} {H H' : Hp} {N : Nat} (h : FRel ρ l a) (hH : HRel ρ H w N)
include h hH

omit [Known] in
theorem aBuildSlice_spec {t : TypeId} {len : Nat} {parts : Array (Nat × Operand)} (ho : o.op = .buildSlice t len parts) (hv : aBuildSlice P l H t len parts = some (v, H')) : OpRes P o a ρ H w N v H' := by
  unfold aBuildSlice at hv
  split at hv
  · rename_i ps e hps hu
    obtain ⟨e1, e2⟩ := evalParts_spec h _ _ hps
    split at hv
    · rename_i i hi
      split at hv
      · rename_i z hz
        split at hv
        · rename_i hc
          simp only [Bool.and_eq_true, decide_eq_true_eq] at hc
          obtain ⟨⟨⟨c1, c2⟩, c3⟩, c4⟩ := hc
          split at hv
          · rename_i cs hf
            cases hn : newBlk H e cs i.size with
            | none => simp [hn] at hv
            | some H1 =>
              simp only [hn, Option.map_some, Option.some.injEq, Prod.mk.injEq] at hv
              obtain ⟨rfl, rfl⟩ := hv
              have hsz : z.cells.size = i.size := by rw [← c3]; simp [cellsOf]
              have hzr : ∀ u ∈ zeroRow (cellsOf z) len, no1 u = true := fun u hu => no2_cells c1 u (zeroRow_mem hu)
              have hfl := fillL_spec ρ _ _ _ _ hf e2
              rw [map_ren1_no ρ hzr, ← e1] at hfl
              have hlen : cs.length = len * i.size := by
                have : ∀ (place : Nat → Option (Nat × Nat)) (ps : List (Nat × Value)) (cells cs : List Value), fillL place ps cells = some cs → cs.length = cells.length := by
                  intro place ps
                  induction ps with
                  | nil => intro cells cs h; simp [fillL] at h; rw [h]
                  | cons p ps ih =>
                    intro cells cs h
                    obtain ⟨j, u⟩ := p
                    simp only [fillL] at h
                    split at h
                    · cases h
                    · rename_i off size hp
                      cases hcc : (Nat.beq (cellsOf u).length size && Nat.ble (off + size) cells.length) with
                      | false => simp [hcc] at h
                      | true =>
                        simp only [hcc, cond_true, fCells_eq] at h
                        simp only [Bool.and_eq_true, Nat.beq_eq, Nat.ble_eq] at hcc
                        rw [ih _ _ h]
                        simp [splice]; omega
                rw [this _ _ _ _ hf, zeroRow_len, c3]
              refine OpRes.new hH hn len (cs.map (ren1 ρ)).toArray (by simp) hlen (by have : len ≤ len * i.size := Nat.le_mul_of_pos_right _ c4; simp [maxLen]; omega) ?_
              rw [renSlice_new _ _ _ _ _ rfl]
              have hg : ¬ (len * i.size > 2 ^ 24) := by have : (2 : Nat) ^ 24 = 16777216 := by decide
                                                        omega
              by_cases h0 : len * i.size = 0
              · have hl0 : len = 0 := by
                  rcases Nat.mul_eq_zero.1 h0 with h | h
                  · exact h
                  · omega
                subst hl0
                simp only [zeroRow] at hfl
                simp [execOp, ho, Instr.buildSlice, run_underlying hu, sizeOf, typeInfo, hi, newRow, Array.range_zero']
                have hfl' : Instr.fill (fun j => some (j * i.size, i.size)) #[] (List.map (fun x => (x.fst, a.eval x.snd)) parts.toList) = some (cs.map (ren1 ρ)).toArray := hfl
                rw [hfl']
                simp
              · have hzm := zeroRow_made z.cells len
                rw [hsz] at hzm
                have hfl' : Instr.fill (fun j => some (j * i.size, i.size)) ((Array.range (len * i.size)).map (z.cells[· % i.size]!)) (List.map (fun x => (x.fst, a.eval x.snd)) parts.toList) = some (cs.map (ren1 ρ)).toArray := by
                  rw [hzm]; exact hfl
                simp only [execOp, ho, Instr.buildSlice, Sem.run_bind, run_underlying hu, Result.andThen_ok, sizeOf, typeInfo, run_program, hi, Sem.run_pure, if_neg hg, if_neg h0, zeroValue, hz, hsz, Array.toList_map, hfl', newRow, run_newObj]
                simp
          · cases hv
        · cases hv
      · cases hv
    · cases hv
  · cases hv

omit [Known] in
theorem aMake_spec {t : TypeId} {x y : Operand} (ho : o.op = .makeSlice t x y) (hv : aMake P l H t x y = some (v, H')) : OpRes P o a ρ H w N v H' := by
  unfold aMake at hv
  split at hv
  · rename_i kx n ky c e hx hy hu
    split at hv
    · rename_i i hi
      split at hv
      · rename_i z hz
        split at hv
        · rename_i hc
          simp only [Bool.and_eq_true, decide_eq_true_eq] at hc
          obtain ⟨⟨⟨⟨⟨c1, c2⟩, c3⟩, c4⟩, c5⟩, c6⟩ := hc
          cases hn : newBlk H e (zeroRow (cellsOf z) c) i.size with
          | none => simp [hn] at hv
          | some H1 =>
            simp only [hn, Option.map_some, Option.some.injEq, Prod.mk.injEq] at hv
            obtain ⟨rfl, rfl⟩ := hv
            have hsz : z.cells.size = i.size := by rw [← c5]; simp [cellsOf]
            have hzr : ∀ u ∈ zeroRow (cellsOf z) c, no1 u = true := fun u hu => no2_cells c1 u (zeroRow_mem hu)
            have e1 : a.eval x = .int kx (n : Int) := evalL_spec h hx
            have e2 : a.eval y = .int ky (c : Int) := evalL_spec h hy
            refine OpRes.new hH hn c (madeCells z.cells (c * i.size)) ?_ (by rw [zeroRow_len, c5]) (by simp [maxLen]; omega) ?_
            · rw [map_ren1_no ρ hzr]
              unfold madeCells
              rw [← hsz, zeroRow_made]; rfl
            · rw [renSlice_new _ _ _ _ _ rfl]
              have hb : ((i.bytes : Int) * (c : Int)) ≤ 281474976710656 := by
                rw [← Int.natCast_mul]; omega
              have hrun := run_make (P := P) w t e i z hu hi hz kx ky n c (by omega) (by omega) hb (by omega)
              simp only [Int.toNat_natCast] at hrun
              simp only [execOp, ho, e1, e2, Sem.run_bind, hrun, Result.andThen_ok, Sem.run_pure]
        · cases hv
      · cases hv
    · cases hv
  · cases hv
end rows

end Go.Proofs.Ytmckaoeofikdaaa.Lift
