/- Commute: what it answers. -/
import Derived.Test.YtmckaoeofikdaaaPlace
import Derived.Test.YtmckaoeofikdaaaWideG
import Derived.Test.YtmckaoeofikdaaaCompL
namespace Go.Proofs.Ytmckaoeofikdaaa
open Go.RowKit Lift

def poN (ws zs : List Int) : Nat → List Nat
  | 0 => []
  | k + 1 => poN ws zs k ++ [posF (pw ws zs k) (zs.getD k 0)]
theorem po_poN (ws zs : List Int) (k : Nat) : po ws zs k = (poN ws zs k).map fun (n : Nat) => (n : Int) := by
  induction k with
  | zero => rfl
  | succ k ih => simp [po, poN, ih]
theorem poN_len (ws zs : List Int) (k : Nat) : (poN ws zs k).length = k := by
  have := po_len ws zs k
  rw [po_poN] at this
  simpa using this
theorem posF_lt (ws : List Int) (q : Int) : posF ws q ≤ ws.length := by
  unfold posF
  split
  · exact Nat.le_refl _
  · rename_i h
    have hi : idxF ws q = -1 ∨ ∃ i : Nat, i < ws.length ∧ idxF ws q = i := by
      unfold idxF
      split
      · rename_i i hi
        obtain ⟨h1, _⟩ := List.findIdx?_eq_some_iff_getElem.1 hi
        exact .inr ⟨i, h1, rfl⟩
      · exact .inl rfl
    rcases hi with hi | ⟨i, h1, h2⟩
    · omega
    · omega
theorem poN_lt (ws zs : List Int) (k m : Nat) (h : ws.length + k ≤ m) (hm : 0 < m) : ∀ i, (poN ws zs k).getD i 0 < m := by
  induction k with
  | zero => intro i; simpa [poN] using hm
  | succ k ih =>
    intro i
    show (poN ws zs k ++ [_]).getD i 0 < m
    rw [List.getD_eq_getElem?_getD, List.getElem?_append]
    split
    · rw [← List.getD_eq_getElem?_getD]; exact ih (by omega) i
    · have h1 := posF_lt (pw ws zs k) (zs.getD k 0)
      have h2 := pw_len ws zs k
      rcases Nat.eq_zero_or_pos (i - (poN ws zs k).length) with h3 | h3
      · rw [h3]; show posF _ _ < m; omega
      · rw [List.getElem?_eq_none (by simp; omega)]; exact hm

/-- The row that a place answered, as a list of wires. -/
theorem holdsN_of_row {w : World} {B g c : Nat} {O : List Nat} {n : Nat} (h : w.ownsRow B 3 1 (.slice (some ⟨g, 0, none⟩) n c) n ((O.map fun (n : Nat) => (n : Int)).map (.int .i64))) : HoldsN w g O := fun i hi => by
  have hl : O.length = n := by have := h.1; simpa using this
  rw [h.cellAt i (by omega)]
  simp [hi]

/-- Do two wide matrices commute? -/
def commR (a1 a2 n : Nat) (A1 A2 : Nat → Zi) (o1 o2 : List Nat) : Bool :=
  sameM (2 ^ n * 2 ^ n) (mulM (2 ^ n) (wideM a1 n A1 o1) (wideM a2 n A2 o2)) (mulM (2 ^ n) (wideM a2 n A2 o2) (wideM a1 n A1 o1))
def commF (k1 k2 : Int) (zs1 zs2 : List Int) : Bool :=
  commR zs1.length zs2.length (pw (pw [] zs1 zs1.length) zs2 zs2.length).length (matF k1) (matF k2) (poN [] zs1 zs1.length) (poN (pw [] zs1 zs1.length) zs2 zs2.length)
end Go.Proofs.Ytmckaoeofikdaaa
