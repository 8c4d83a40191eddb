/- The functions of one kind: what they answer, for every kind. -/
import Derived.Test.YtmckaoeofikdaaaOrcA
import Derived.Test.YtmckaoeofikdaaaSymE
namespace Go.Proofs.Ytmckaoeofikdaaa.Lift
open Go.RowKit
set_option maxRecDepth 100000

theorem at_map {α : Type} {f g : Nat → α} {n : Nat} (h : (List.range n).map f = (List.range n).map g) (i : Nat) (hi : i < n) : f i = g i := by
  have h1 : ((List.range n).map f)[i]? = ((List.range n).map g)[i]? := by rw [h]
  rw [List.getElem?_map, List.getElem?_map, List.getElem?_range hi] at h1
  simpa using h1

/-- Of a kind the number that stands in a row; else what is told for all others. -/
def pick {α : Type} (vals : List α) (out : α) (k : Int) : α := if 1 ≤ k ∧ k ≤ 20 then vals.getD (k - 1).toNat out else out

theorem kind_any {g : FuncId} {α : Type} {mk : α → Value} {vals : List α} {out : α} (hno : ∀ x, no3 (mk x) = true)
    (hin : ((List.range 20).map fun i => ((mach Try.prog fns (tabO tabA) 2000).call g [.int .i64 ((i + 1 : Nat) : Int)] []).map Prod.fst) = (List.range 20).map fun i => some (mk (vals.getD i out)))
    (hlo : ((@mach kLow Try.prog fns (tabO tabA) 2000).call g [.chan (some 0)] []).map Prod.fst = some (mk out)) (hhi : ((@mach kHigh Try.prog fns (tabO tabA) 2000).call g [.chan (some 0)] []).map Prod.fst = some (mk out))
    (k : Int) (hk : (Lit.int .i64 k).wf = true) (w : World) : Calls Try.prog g #[.int .i64 k] w fun e w' => e = .returned (mk (pick vals out k)) ∧ Below w.heap.size w w' := by
  have flat : ∀ [Syms] ρ x, ren3 ρ (mk x) = mk x := fun ρ x => ren3_no ρ (hno x)
  by_cases h1 : k < 1
  · have := @sym_flat kLow (symI fun _ => k) (low_ok hk h1) (tabO tabA) (@tabA_sound (symI _)) 2000 g [.chan (some 0)] (mk out) hlo rfl (fun ρ => by rw [@flat (symI _), @flat (symI _)]) w
    rw [@flat (symI _)] at this
    unfold pick
    rw [if_neg (by omega)]
    exact this
  · by_cases h2 : 20 < k
    · have := @sym_flat kHigh (symI fun _ => k) (high_ok hk h2) (tabO tabA) (@tabA_sound (symI _)) 2000 g [.chan (some 0)] (mk out) hhi rfl (fun ρ => by rw [@flat (symI _), @flat (symI _)]) w
      rw [@flat (symI _)] at this
      unfold pick
      rw [if_neg (by omega)]
      exact this
    · obtain ⟨m, rfl⟩ := Int.eq_ofNat_of_zero_le (show 0 ≤ k by omega)
      obtain ⟨i, rfl⟩ : ∃ i, m = i + 1 := ⟨m - 1, by omega⟩
      have h3 := at_map hin i (by omega)
      have := @sym_flat noK noS noK_ok (tabO tabA) (@tabA_sound noS) 2000 g [.int .i64 ((i + 1 : Nat) : Int)] (mk (vals.getD i out)) h3 rfl (fun ρ => by rw [@flat noS, @flat noS]) w
      rw [@flat noS] at this
      unfold pick
      rw [if_pos (by omega), show (((i + 1 : Nat) : Int) - 1).toNat = i by omega]
      exact this

/-- What is told of all that is no kind. -/
theorem kind_none {g : FuncId} {v : Value} (hno : no3 v = true) (hlo : ((@mach kLow Try.prog fns (tabO tabA) 2000).call g [.chan (some 0)] []).map Prod.fst = some v) (hhi : ((@mach kHigh Try.prog fns (tabO tabA) 2000).call g [.chan (some 0)] []).map Prod.fst = some v)
    (k : Int) (hk : (Lit.int .i64 k).wf = true) (h : k < 1 ∨ 20 < k) (w : World) : Calls Try.prog g #[.int .i64 k] w fun e w' => e = .returned v ∧ Below w.heap.size w w' := by
  rcases h with h | h
  · have := @sym_flat kLow (symI fun _ => k) (low_ok hk h) (tabO tabA) (@tabA_sound (symI _)) 2000 g [.chan (some 0)] v hlo rfl (fun ρ => by rw [@ren3_no (symI _) _ _ hno, @ren3_no (symI _) _ _ hno]) w
    rw [@ren3_no (symI _) _ _ hno] at this
    exact this
  · have := @sym_flat kHigh (symI fun _ => k) (high_ok hk h) (tabO tabA) (@tabA_sound (symI _)) 2000 g [.chan (some 0)] v hhi rfl (fun ρ => by rw [@ren3_no (symI _) _ _ hno, @ren3_no (symI _) _ _ hno]) w
    rw [@ren3_no (symI _) _ _ hno] at this
    exact this

abbrev mkI (x : Int) : Value := .int .i64 x
abbrev mkB (x : Bool) : Value := .bool x
def arityL : List Int := [1, 1, 1, 1, 1, 1, 1, 1, 1, 1, 2, 2, 2, 2, 2, 2, 2, 3, 3, 3]
def inverseL : List Int := [1, 2, 3, 4, 6, 5, 8, 7, 10, 9, 11, 12, 13, 14, 16, 15, 17, 18, 19, 20]
def diagonalL : List Bool := [true, false, false, true, true, true, false, false, false, false, false, false, true, false, false, false, false, false, true, false]
def monomialL : List Bool := [true, true, true, true, true, true, false, false, false, false, true, true, true, true, true, true, false, true, true, true]
def arityF (k : Int) : Int := pick arityL 0 k
def inverseF (k : Int) : Int := pick inverseL 0 k
def diagonalF (k : Int) : Bool := pick diagonalL false k
def monomialF (k : Int) : Bool := pick monomialL false k
def isF (k : Int) : Bool := pick (List.replicate 20 true) false k
theorem arity_any (k : Int) (hk : (Lit.int .i64 k).wf = true) (w : World) : Calls Try.prog 25 #[.int .i64 k] w fun e w' => e = .returned (.int .i64 (arityF k)) ∧ Below w.heap.size w w' :=
  kind_any (mk := mkI) (vals := arityL) (out := 0) (fun _ => rfl) (by kernel_rfl) (by kernel_rfl) (by kernel_rfl) k hk w
theorem rarity_any (k : Int) (hk : (Lit.int .i64 k).wf = true) (w : World) : Calls Try.prog 26 #[.int .i64 k] w fun e w' => e = .returned (.int .i64 (arityF k)) ∧ Below w.heap.size w w' :=
  kind_any (mk := mkI) (vals := arityL) (out := 0) (fun _ => rfl) (by kernel_rfl) (by kernel_rfl) (by kernel_rfl) k hk w
theorem inverse_any (k : Int) (hk : (Lit.int .i64 k).wf = true) (w : World) : Calls Try.prog 37 #[.int .i64 k] w fun e w' => e = .returned (.int .i64 (inverseF k)) ∧ Below w.heap.size w w' :=
  kind_any (mk := mkI) (vals := inverseL) (out := 0) (fun _ => rfl) (by kernel_rfl) (by kernel_rfl) (by kernel_rfl) k hk w
theorem diagonal_any (k : Int) (hk : (Lit.int .i64 k).wf = true) (w : World) : Calls Try.prog 33 #[.int .i64 k] w fun e w' => e = .returned (.bool (diagonalF k)) ∧ Below w.heap.size w w' :=
  kind_any (mk := mkB) (vals := diagonalL) (out := false) (fun _ => rfl) (by kernel_rfl) (by kernel_rfl) (by kernel_rfl) k hk w
theorem monomial_any (k : Int) (hk : (Lit.int .i64 k).wf = true) (w : World) : Calls Try.prog 35 #[.int .i64 k] w fun e w' => e = .returned (.bool (monomialF k)) ∧ Below w.heap.size w w' :=
  kind_any (mk := mkB) (vals := monomialL) (out := false) (fun _ => rfl) (by kernel_rfl) (by kernel_rfl) (by kernel_rfl) k hk w
theorem is_any (k : Int) (hk : (Lit.int .i64 k).wf = true) (w : World) : Calls Try.prog 66 #[.int .i64 k] w fun e w' => e = .returned (.bool (isF k)) ∧ Below w.heap.size w w' :=
  kind_any (mk := mkB) (vals := List.replicate 20 true) (out := false) (fun _ => rfl) (by kernel_rfl) (by kernel_rfl) (by kernel_rfl) k hk w
end Go.Proofs.Ytmckaoeofikdaaa.Lift
