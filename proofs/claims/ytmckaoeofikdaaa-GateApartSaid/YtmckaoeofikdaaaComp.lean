/- Compose: what it answers, and the pieces. -/
import Derived.Test.YtmckaoeofikdaaaRTimesW
import Derived.Test.YtmckaoeofikdaaaChkW
import Derived.Test.YtmckaoeofikdaaaGa
namespace Go.Proofs.Ytmckaoeofikdaaa
open Go.RowKit Lift

def dbl (A : Nat → Zi) : Nat → Zi := fun i => ((A i).1 * 2, (A i).2 * 2)
theorem IsC.dbl {x y : Nat} {z : Zi} (h : IsC x y 1 z) : IsC x y (1 + 1) (z.1 * 2, z.2 * 2) :=
  ⟨(h.1.more 1 (by decide)).cast (by simp), (h.2.more 1 (by decide)).cast (by simp)⟩
theorem HoldsC.dbl {w : World} {b n : Nat} {A : Nat → Zi} (h : HoldsC w b n 1 A) : HoldsC w b n (1 + 1) (dbl A) := fun i hi => by
  obtain ⟨x, y, h1, h2⟩ := h i hi
  exact ⟨x, y, h1, h2.dbl⟩
theorem HoldsR.dbl {w : World} {b n : Nat} {A : Nat → Zi} (h : HoldsR w b n 1 A) : HoldsR w b n (1 + 1) (dbl A) := fun i hi => by
  obtain ⟨r, h1, h2⟩ := h i hi
  refine ⟨r, h1, fun j hj => ?_⟩
  obtain ⟨x, y, h3, h4, h5⟩ := h2 j hj
  exact ⟨x, y, h3, h4, h5.dbl⟩

/-- The least of twenty. -/
def leastF (p : Nat → Bool) : Int × Bool := match (List.range 20).find? p with
  | some i => ((i : Int) + 1, true)
  | none => (0, false)
theorem leastF_hit {p : Nat → Bool} {i : Nat} (hi : i < 20) (h : p i = true) (hb : ∀ j, j < i → p j = false) : leastF p = ((i : Int) + 1, true) := by
  have : (List.range 20).find? p = some i := by
    rw [List.find?_range_eq_some]
    exact ⟨h, List.mem_range.2 hi, fun j hj => by rw [hb j hj]; rfl⟩
  unfold leastF; rw [this]
theorem leastF_none {p : Nat → Bool} (h : ∀ j, j < 20 → p j = false) : leastF p = (0, false) := by
  have : (List.range 20).find? p = none := by
    rw [List.find?_eq_none]
    intro j hj
    rw [h j (List.mem_range.1 hj)]
    simp
  unfold leastF; rw [this]

/-- The kinds, in a row. -/
theorem kinds_list (w : World) : Calls Try.prog 15 #[] w fun e w' => ∃ g cap, e = .returned (.slice (some ⟨g, 0, none⟩) 20 cap) ∧ (∀ i, i < 20 → w'.cell? ⟨g, i, none⟩ = some (.int .i64 ((i : Int) + 1))) ∧ Below w.heap.size w w' := by
  refine (kinds_any w).mono fun e w' h => ?_
  obtain ⟨v, rfl, ho, hb⟩ := h
  obtain ⟨g, cap, rfl⟩ : ∃ g cap, v = .slice (some ⟨g, 0, none⟩) 20 cap := by
    rcases ho.2 with ⟨_, h⟩ | ⟨g, cap, _, h, _⟩
    · cases h
    · exact ⟨g, cap, h⟩
  refine ⟨g, cap, rfl, fun i hi => ?_, hb⟩
  rw [ho.cellAt i (by omega)]
  simp [kindsTo, hi]

theorem cequal_len (n m ca cb : Nat) (a b : Option Addr) (h : n ≠ m) (w : World) :
    Calls Try.prog 74 #[.slice a n ca, .slice b m cb] w fun e w' => e = .returned (.bool false) ∧ Drawn w w' := by
  have h' : ((n : Int) != (m : Int)) = true := by simp; omega
  clear h
  go_enter Try.func74, Try.ntmps74
  go_wp2
  go_ret
  exact ⟨rfl, Drawn.refl _⟩
theorem alike_len (n m ca cb : Nat) (a b : Option Addr) (h : n ≠ m) (w : World) :
    Calls Try.prog 76 #[.slice a n ca, .slice b m cb] w fun e w' => e = .returned (.bool false) ∧ Drawn w w' := by
  have h' : ((n : Int) != (m : Int)) = true := by simp; omega
  clear h
  go_enter Try.func76, Try.ntmps76
  go_wp2
  go_ret
  exact ⟨rfl, Drawn.refl _⟩
end Go.Proofs.Ytmckaoeofikdaaa
