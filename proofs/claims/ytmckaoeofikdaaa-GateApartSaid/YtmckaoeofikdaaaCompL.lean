/- The law GateComposes, walked. -/
import Derived.Test.YtmckaoeofikdaaaCompW
import Derived.Test.YtmckaoeofikdaaaCompR
namespace Go.Proofs.Ytmckaoeofikdaaa
open Go.RowKit Lift

theorem isF_in {k : Int} (h : isF k = true) : 1 ≤ k ∧ k ≤ 20 := by
  unfold isF pick at h
  split at h
  · assumption
  · cases h
theorem isF_of {k : Int} (h1 : 1 ≤ k) (h2 : k ≤ 20) : isF k = true := by
  unfold isF pick
  rw [if_pos ⟨h1, h2⟩, List.getD_eq_getElem?_getD, List.getElem?_replicate, if_pos (by omega)]
  rfl
theorem side_le (k : Int) : sideF k ≤ 8 := pick_two (fun a (_ : Nat) => a ≤ 8) (us := []) (p := 0) (by decide) (by decide) k
theorem side_arity (k : Int) : sideF k = if arityF k = 0 then 0 else 2 ^ (arityF k).toNat := pick_two (fun a (b : Int) => a = if b = 0 then 0 else 2 ^ b.toNat) (vs := [2, 2, 2, 2, 2, 2, 2, 2, 2, 2, 4, 4, 4, 4, 4, 4, 4, 8, 8, 8]) (us := arityL) (o := 0) (p := 0) (by decide) (by decide) k
theorem arity_range (k : Int) : arityF k = 0 ∨ arityF k = 1 ∨ arityF k = 2 ∨ arityF k = 3 := pick_two (fun a (_ : Nat) => a = 0 ∨ a = 1 ∨ a = 2 ∨ a = 3) (us := []) (p := 0) (by decide) (by decide) k
theorem side_eq {k l : Int} : sideF k = sideF l ↔ arityF k = arityF l := by
  rw [side_arity k, side_arity l]
  rcases arity_range k with h | h | h | h <;> rcases arity_range l with h' | h' | h' | h' <;> rw [h, h'] <;> decide

def hitF (k1 k2 : Int) (i : Nat) : Bool := if sideF ((i : Int) + 1) = sideF k1 then sameM (sideF k1 * sideF k1) (dbl (matF ((i : Int) + 1))) (mulM (sideF k1) (matF k2) (matF k1)) else false
def composeF (k1 k2 : Int) : Int × Bool := if isF k1 = true ∧ isF k2 = true ∧ arityF k1 = arityF k2 then leastF (hitF k1 k2) else (0, false)

theorem mat_gen (k : Int) (hk : (Lit.int .i64 k).wf = true) (w : World) : Calls Try.prog 40 #[.int .i64 k] w (MatGen (fun n x => n = (sideF k : Int) ∧ x = if isF k = true then 0 else 60) w) := by
  by_cases h : 1 ≤ k ∧ k ≤ 20
  · refine (matrix_any k h.1 h.2 w).mono ?_
    rintro e w' ⟨b, rfl, _, _, _, hb⟩
    exact ⟨_, _, _, _, _, rfl, ⟨rfl, by rw [if_pos (isF_of h.1 h.2)]⟩, hb⟩
  · refine (matrix_none k hk (by omega) w).mono ?_
    rintro e w' ⟨rfl, hb⟩
    refine ⟨_, _, _, _, _, rfl, ⟨?_, ?_⟩, hb⟩
    · unfold sideF pick; rw [if_neg h]; rfl
    · rw [if_neg (fun hf => h (isF_in hf))]

theorem hit_out {k1 k2 : Int} {i : Nat} (h : sideF ((i : Int) + 1) ≠ sideF k1) : hitF k1 k2 i = false := if_neg h
theorem hit_in {k1 k2 : Int} {i : Nat} (h : sideF ((i : Int) + 1) = sideF k1) : hitF k1 k2 i = sameM (sideF k1 * sideF k1) (dbl (matF ((i : Int) + 1))) (mulM (sideF k1) (matF k2) (matF k1)) := if_pos h

theorem compose_any (k1 k2 : Int) (h1 : (Lit.int .i64 k1).wf = true) (h2 : (Lit.int .i64 k2).wf = true) (w : World) :
    Calls Try.prog 46 #[.int .i64 k1, .int .i64 k2] w fun e w' => e = .returned (.tuple #[.int .i64 (composeF k1 k2).1, .bool (composeF k1 k2).2]) ∧ Below w.heap.size w w' := by
  by_cases h : isF k1 = true ∧ isF k2 = true ∧ arityF k1 = arityF k2
  · have hc : composeF k1 k2 = leastF (hitF k1 k2) := if_pos h
    rw [hc]
    obtain ⟨f1, f2, f3⟩ := h
    have g1 := isF_in f1
    have g2 := isF_in f2
    have e : sideF k2 = sideF k1 := side_eq.2 f3.symm
    have m2 := fun w => matrix_any k2 g2.1 g2.2 w
    rw [e] at m2
    refine compose_main k1 k2 (sideF k1) (side_le k1) (matF k1) (matF k2) (hitF k1 k2) w (fun w => matrix_any k1 g1.1 g1.2 w) m2 (matF_small k1) (matF_small k2) fun i hi => ⟨_, _, side_le _, fun w => matrix_any _ (by omega) (by omega) w, fun h => hit_out h, fun h => hit_in h⟩
  · have hc : composeF k1 k2 = (0, false) := if_neg h
    rw [hc]
    refine compose_none k1 k2 _ _ _ _ w (mat_gen k1 h1) (mat_gen k2 h2) ?_
    by_cases f1 : isF k1 = true
    · by_cases f2 : isF k2 = true
      · have f3 : ¬ sideF k1 = sideF k2 := fun e => h ⟨f1, f2, side_eq.1 e⟩
        simp [f1, f2]
        omega
      · simp [f2]
    · simp [f1]

theorem rcompose_any (k1 k2 : Int) (h1 : (Lit.int .i64 k1).wf = true) (h2 : (Lit.int .i64 k2).wf = true) (w : World) :
    Calls Try.prog 47 #[.int .i64 k1, .int .i64 k2] w fun e w' => e = .returned (.tuple #[.int .i64 (composeF k1 k2).1, .bool (composeF k1 k2).2]) ∧ Below w.heap.size w w' := by
  have hw : ∀ k, k = k1 ∨ k = k2 → (Lit.int .i64 k).wf = true := fun k h => by rcases h with rfl | rfl <;> assumption
  have is := fun k w h => is_any k (hw k h) w
  have ra := fun k w h => rarity_any k (hw k h) w
  by_cases h : isF k1 = true ∧ isF k2 = true ∧ arityF k1 = arityF k2
  · have hc : composeF k1 k2 = leastF (hitF k1 k2) := if_pos h
    rw [hc]
    obtain ⟨f1, f2, f3⟩ := h
    have g1 := isF_in f1
    have g2 := isF_in f2
    have e : sideF k2 = sideF k1 := side_eq.2 f3.symm
    have m2 := fun w => rmatrix_any k2 g2.1 g2.2 w
    rw [e] at m2
    refine rcompose_main k1 k2 (sideF k1) (side_le k1) (matF k1) (matF k2) (hitF k1 k2) w (arityF k1) (fun k w h => ?_) (fun k w h => ?_) (fun w => rmatrix_any k1 g1.1 g1.2 w) m2 (matF_small k1) (matF_small k2) fun i hi => ⟨_, _, side_le _, fun w => rmatrix_any _ (by omega) (by omega) w, fun h => hit_out h, fun h => hit_in h⟩
    · have := is k w h
      rw [show isF k = true by rcases h with rfl | rfl <;> assumption] at this
      exact this
    · have := ra k w h
      rw [show arityF k = arityF k1 by rcases h with rfl | rfl; rfl; exact f3.symm] at this
      exact this
  · have hc : composeF k1 k2 = (0, false) := if_neg h
    rw [hc]
    refine rcompose_none k1 k2 w isF arityF is ra ?_
    by_cases f1 : isF k1 = true
    · by_cases f2 : isF k2 = true
      · have f3 : ¬ arityF k1 = arityF k2 := fun e => h ⟨f1, f2, e⟩
        simp [f1, f2, f3]
      · simp [f2]
    · simp [f1]

set_option maxRecDepth 100000 in
theorem composes_walk (k1 k2 : Int) (w : World) (h1 : (Lit.int .i64 k1).wf = true) (h2 : (Lit.int .i64 k2).wf = true) :
    Calls Try.prog 8 #[.int .i64 k1, .int .i64 k2] w fun e w' => e = .returned (.bool true) ∧ Below w.heap.size w w' := by
  have c1 := fun w => compose_any k1 k2 h1 h2 w
  have c2 := fun w => rcompose_any k1 k2 h1 h2 w
  generalize composeF k1 k2 = R at c1 c2
  obtain ⟨R1, R2⟩ := R
  go_enter Try.func8, Try.ntmps8
  go_wp2_with (first | (go_at_call 46; refine (c1 _).mono ?_; rintro e w1 ⟨rfl, hb1⟩) | (go_at_call 47; refine (c2 _).mono ?_; rintro e w2 ⟨rfl, hb2⟩) | (go_at_call 39; refine (alive_calls _).mono ?_; rintro e w3 ⟨rfl, hb3⟩))
  go_ret
  exact ⟨rfl, bchain hb1 (bchain hb2 hb3)⟩
end Go.Proofs.Ytmckaoeofikdaaa
