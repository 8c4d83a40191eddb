/- The document's matrices: rows of pairs. -/
import Derived.Test.YtmckaoeofikdaaaMat
namespace Go.Proofs.Ytmckaoeofikdaaa
open Go.RowKit Lift
set_option maxRecDepth 100000

/-- A matrix of rows of pairs that lies in memory. -/
def HoldsR (w : World) (b n s : Nat) (A : Nat → Zi) : Prop := ∀ i, i < n → ∃ r, w.cell? ⟨b, i, none⟩ = some (.slice (some ⟨r, 0, none⟩) n n) ∧ ∀ j, j < n → ∃ x y, w.cell? ⟨r, j * 2, none⟩ = some (.float .f64 x) ∧ w.cell? ⟨r, j * 2 + 1, none⟩ = some (.float .f64 y) ∧ IsC x y s (A (n * i + j))
theorem HoldsR.below {w w' : World} {b n s : Nat} {A : Nat → Zi} (h : HoldsR w b n s A) (hb : Below w.heap.size w w') : HoldsR w' b n s A := fun i hi => by
  obtain ⟨r, h1, h2⟩ := h i hi
  refine ⟨r, (hb.cell (World.block_lt_of_cell? w _ h1)).trans h1, fun j hj => ?_⟩
  obtain ⟨x, y, h3, h4, h5⟩ := h2 j hj
  exact ⟨x, y, (hb.cell (World.block_lt_of_cell? w _ h3)).trans h3, (hb.cell (World.block_lt_of_cell? w _ h4)).trans h4, h5⟩

def RMatPost (n : Nat) (A : Nat → Zi) (w : World) (e : Ending) (w' : World) : Prop :=
  ∃ b, e = .returned (.tuple #[.slice (some ⟨b, 0, none⟩) n n, .int .i64 0]) ∧ w.heap.size ≤ b ∧ b < w'.heap.size ∧ HoldsR w' b n 1 A ∧ Below w.heap.size w w'

def fz (u v : Option Value) : Option Zi :=
  match u, v with
  | some (.float .f64 a), some (.float .f64 b) =>
    match zOf a, zOf b with
    | some x, some y => some (x, y)
    | _, _ => none
  | _, _ => none
theorem fz_ok {u v : Option Value} {z : Zi} (h : fz u v = some z) : ∃ x y, u = some (.float .f64 x) ∧ v = some (.float .f64 y) ∧ IsC x y 1 z := by
  unfold fz at h
  split at h
  · rename_i a b
    split at h
    · rename_i x y h1 h2
      cases h
      exact ⟨a, b, rfl, rfl, zOf_ok h1, zOf_ok h2⟩
    · cases h
  · cases h
def rowAt (e : Ent) (n : Nat) (v : Option Value) : Option (List Value) :=
  match v with
  | some (.slice (some ⟨r, 0, none⟩) m c) =>
    if m = n ∧ c = n + 1 then
      match e.rows[r]? with
      | some ⟨_, cells, _, true, true⟩ => some cells
      | _ => none
    else none
  | _ => none
theorem rowAt_ok {e : Ent} {n : Nat} {v : Option Value} {l : List Value} (h : rowAt e n v = some l) : ∃ r el sz, v = some (.slice (some ⟨r, 0, none⟩) n (n + 1)) ∧ e.rows[r]? = some ⟨el, l, sz, true, true⟩ := by
  unfold rowAt at h
  split at h
  · rename_i r m c
    split at h
    · rename_i hc
      obtain ⟨rfl, rfl⟩ := hc
      split at h
      · rename_i el cells sz hr
        cases h
        exact ⟨r, el, sz, rfl, hr⟩
      · cases h
    · cases h
  · cases h
def rOk (e : Ent) (n : Nat) (l : List Zi) (cells : List Value) : Bool :=
  (List.range n).all fun i =>
    match rowAt e n cells[i]? with
    | some row => (List.range n).all fun j => decide (fz row[j * 2]? row[j * 2 + 1]? = some (l.getD (n * i + j) (0, 0)))
    | none => false
def entR (e : Ent) (k : Int) (n : Nat) (l : List Zi) : Prop :=
  ∃ (j el : Nat) (cells : List Value), e.rows[j]? = some ⟨el, cells, 1, true, true⟩ ∧ e.args = [.int .i64 k] ∧ e.val = .tuple #[.slice (some ⟨j, 0, none⟩) n (n + 1), .int .i64 0] ∧ rOk e n l cells = true

theorem rmat_of {e : Ent} {k : Int} {n : Nat} {l : List Zi} (he : entR e k n l) (hg : @Lift.Good noS 52 e) (w : World) : Calls Try.prog 52 #[.int .i64 k] w (RMatPost n (fun i => l.getD i (0, 0)) w) := by
  obtain ⟨j, el, cells, h1, ha, hv, hok⟩ := he
  have h := hg env0 w w.heap.size (HRel.empty env0 w)
  rw [ha] at h
  refine h.mono fun x w' hx => ?_
  cases x with
  | returned r =>
    obtain ⟨ρ', rfl, hH, _, hB, _, _⟩ := hx
    obtain ⟨hoff, hbl, _, cur, hcur, _⟩ := hH.own j _ h1 rfl rfl
    refine ⟨(ρ' j).block, ?_, hbl, (Array.getElem?_eq_some_iff.1 hcur).1, fun i hi => ?_, hB⟩
    · rw [hv]
      simp [ren3, ren2, ren1, renA, hoff]
    · unfold rOk at hok
      have h2 := List.all_eq_true.1 hok i (List.mem_range.2 hi)
      split at h2
      · rename_i row hrow
        obtain ⟨r, el', sz', e1, e2⟩ := rowAt_ok hrow
        obtain ⟨hoff2, _, _, _, _, _⟩ := hH.own r _ e2 rfl rfl
        have c1 := hH.cellAt h1 rfl e1
        rw [hoff, Nat.zero_add] at c1
        refine ⟨(ρ' r).block, ?_, fun q hq => ?_⟩
        · rw [c1]
          simp [ren1, renA, hoff2]
        · have h3 := of_decide_eq_true (List.all_eq_true.1 h2 q (List.mem_range.2 hq))
          obtain ⟨x, y, f1, f2, f3⟩ := fz_ok h3
          have d1 := hH.cellAt e2 rfl f1
          have d2 := hH.cellAt e2 rfl f2
          rw [hoff2, Nat.zero_add] at d1 d2
          exact ⟨x, y, d1, d2, f3⟩
      · cases h2
  | _ => exact hx.elim

theorem entR1 : entR matC1 1 2 (matL.getD 0 []) := ⟨0, _, _, rfl, rfl, rfl, by decide +kernel⟩
theorem entR2 : entR matC2 2 2 (matL.getD 1 []) := ⟨0, _, _, rfl, rfl, rfl, by decide +kernel⟩
theorem entR3 : entR matC3 3 2 (matL.getD 2 []) := ⟨0, _, _, rfl, rfl, rfl, by decide +kernel⟩
theorem entR4 : entR matC4 4 2 (matL.getD 3 []) := ⟨0, _, _, rfl, rfl, rfl, by decide +kernel⟩
theorem entR5 : entR matC5 5 2 (matL.getD 4 []) := ⟨0, _, _, rfl, rfl, rfl, by decide +kernel⟩
theorem entR6 : entR matC6 6 2 (matL.getD 5 []) := ⟨0, _, _, rfl, rfl, rfl, by decide +kernel⟩
theorem entR7 : entR matC7 7 2 (matL.getD 6 []) := ⟨0, _, _, rfl, rfl, rfl, by decide +kernel⟩
theorem entR8 : entR matC8 8 2 (matL.getD 7 []) := ⟨0, _, _, rfl, rfl, rfl, by decide +kernel⟩
theorem entR9 : entR matC9 9 2 (matL.getD 8 []) := ⟨0, _, _, rfl, rfl, rfl, by decide +kernel⟩
theorem entR10 : entR matC10 10 2 (matL.getD 9 []) := ⟨0, _, _, rfl, rfl, rfl, by decide +kernel⟩
theorem entR11 : entR matC11 11 4 (matL.getD 10 []) := ⟨0, _, _, rfl, rfl, rfl, by decide +kernel⟩
theorem entR12 : entR matC12 12 4 (matL.getD 11 []) := ⟨0, _, _, rfl, rfl, rfl, by decide +kernel⟩
theorem entR13 : entR matC13 13 4 (matL.getD 12 []) := ⟨0, _, _, rfl, rfl, rfl, by decide +kernel⟩
theorem entR14 : entR matC14 14 4 (matL.getD 13 []) := ⟨0, _, _, rfl, rfl, rfl, by decide +kernel⟩
theorem entR15 : entR matC15 15 4 (matL.getD 14 []) := ⟨0, _, _, rfl, rfl, rfl, by decide +kernel⟩
theorem entR16 : entR matC16 16 4 (matL.getD 15 []) := ⟨0, _, _, rfl, rfl, rfl, by decide +kernel⟩
theorem entR17 : entR matC17 17 4 (matL.getD 16 []) := ⟨0, _, _, rfl, rfl, rfl, by decide +kernel⟩
theorem entR18 : entR matC18 18 8 (matL.getD 17 []) := ⟨0, _, _, rfl, rfl, rfl, by decide +kernel⟩
theorem entR19 : entR matC19 19 8 (matL.getD 18 []) := ⟨0, _, _, rfl, rfl, rfl, by decide +kernel⟩
theorem entR20 : entR matC20 20 8 (matL.getD 19 []) := ⟨0, _, _, rfl, rfl, rfl, by decide +kernel⟩

theorem rmatrix_any (k : Int) (h1 : 1 ≤ k) (h2 : k ≤ 20) (w : World) : Calls Try.prog 52 #[.int .i64 k] w (RMatPost (sideF k) (matF k) w) := by
  have h : k = 1 ∨ k = 2 ∨ k = 3 ∨ k = 4 ∨ k = 5 ∨ k = 6 ∨ k = 7 ∨ k = 8 ∨ k = 9 ∨ k = 10 ∨ k = 11 ∨ k = 12 ∨ k = 13 ∨ k = 14 ∨ k = 15 ∨ k = 16 ∨ k = 17 ∨ k = 18 ∨ k = 19 ∨ k = 20 := by omega
  rcases h with rfl | rfl | rfl | rfl | rfl | rfl | rfl | rfl | rfl | rfl | rfl | rfl | rfl | rfl | rfl | rfl | rfl | rfl | rfl | rfl
  · exact rmat_of entR1 (@matC1_good noS) w
  · exact rmat_of entR2 (@matC2_good noS) w
  · exact rmat_of entR3 (@matC3_good noS) w
  · exact rmat_of entR4 (@matC4_good noS) w
  · exact rmat_of entR5 (@matC5_good noS) w
  · exact rmat_of entR6 (@matC6_good noS) w
  · exact rmat_of entR7 (@matC7_good noS) w
  · exact rmat_of entR8 (@matC8_good noS) w
  · exact rmat_of entR9 (@matC9_good noS) w
  · exact rmat_of entR10 (@matC10_good noS) w
  · exact rmat_of entR11 (@matC11_good noS) w
  · exact rmat_of entR12 (@matC12_good noS) w
  · exact rmat_of entR13 (@matC13_good noS) w
  · exact rmat_of entR14 (@matC14_good noS) w
  · exact rmat_of entR15 (@matC15_good noS) w
  · exact rmat_of entR16 (@matC16_good noS) w
  · exact rmat_of entR17 (@matC17_good noS) w
  · exact rmat_of entR18 (@matC18_good noS) w
  · exact rmat_of entR19 (@matC19_good noS) w
  · exact rmat_of entR20 (@matC20_good noS) w
end Go.Proofs.Ytmckaoeofikdaaa
