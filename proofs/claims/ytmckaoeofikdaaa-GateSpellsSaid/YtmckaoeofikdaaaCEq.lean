/- slices.Equal at []complex128: exact numbers. -/
import Derived.Test.YtmckaoeofikdaaaTimes
namespace Go.Proofs.Ytmckaoeofikdaaa
open Go.RowKit

theorem order_eqB {x y s : Nat} {n m : Int} (hx : Fp.IsF x s n) (hy : Fp.IsF y s m) : (FloatKind.f64.format.order x y == some Ordering.eq) = decide (n = m) := by
  have e : FloatKind.f64.format.order x y = some (compare n m) := Fp.order_exact hx hy
  rw [e]
  by_cases h : n = m
  · subst h
    have : compare n n = .eq := by simp [compare, compareOfLessAndEq]
    rw [this]; simp
  · have : compare n m ≠ .eq := by
      simp only [compare, compareOfLessAndEq, h, if_false]
      split <;> simp
    rw [decide_eq_false h, beq_eq_false_iff_ne]
    intro h2
    exact this (Option.some.inj h2)

theorem run_cneq {P : Program} {x y x' y' s : Nat} {z z' : Zi} (h : IsC x y s z) (h' : IsC x' y' s z') (t : TypeId) (w : World) : (binOp .neq t (.complex .f64 x y) (.complex .f64 x' y')).run P w = .ok (.bool (decide (z ≠ z'))) w := by
  have e1 := order_eqB h.1 h'.1
  have e2 := order_eqB h.2 h'.2
  have : decide (z ≠ z') = !(decide (z.1 = z'.1) && decide (z.2 = z'.2)) := by
    obtain ⟨a, b⟩ := z; obtain ⟨c, d⟩ := z'
    by_cases h1 : a = c <;> by_cases h2 : b = d <;> simp [h1, h2]
  rw [this]
  simp [binOp, Op.complexOp, Op.Complex.cmp, Op.floatCmp, asBool, e1, e2]

/-- Are rows of numbers the same? -/
def sameM (n : Nat) (A B : Nat → Zi) : Bool := (List.range n).all fun i => decide (A i = B i)
theorem sameM_true {n : Nat} {A B : Nat → Zi} (h : ∀ i, i < n → A i = B i) : sameM n A B = true := by
  unfold sameM; rw [List.all_eq_true]
  intro i hi; exact decide_eq_true (h i (List.mem_range.1 hi))
theorem sameM_false {n : Nat} {A B : Nat → Zi} {i : Nat} (hi : i < n) (h : A i ≠ B i) : sameM n A B = false := by
  cases hs : sameM n A B with
  | false => rfl
  | true =>
    unfold sameM at hs; rw [List.all_eq_true] at hs
    exact absurd (of_decide_eq_true (hs i (List.mem_range.2 hi))) h

set_option maxHeartbeats 1000000 in
theorem cequal_any (n s ba bb ca cb : Nat) (hn : n ≤ 4096) (A B : Nat → Zi) (w : World) (hA : HoldsC w ba n s A) (hB : HoldsC w bb n s B) :
    Calls Try.prog 74 #[.slice (some ⟨ba, 0, none⟩) n ca, .slice (some ⟨bb, 0, none⟩) n cb] w fun e w' => e = .returned (.bool (sameM n A B)) ∧ Drawn w w' := by
  have HA := Lib.hid hA
  have HB := Lib.hid hB
  have C1 := Lib.hid (fun h => sameM_true (n := n) (A := A) (B := B) h)
  have C2 := Lib.hid (fun i hi h => sameM_false (n := n) (A := A) (B := B) (i := i) hi h)
  generalize sameM n A B = R at C1 C2
  clear hA hB
  go_enter Try.func74, Try.ntmps74
  go_wp2
  go_loopw [5, 13] (fun _ i wr => ∃ k : Nat, k ≤ n ∧ i = .int .i64 k ∧ Hid (∀ i, i < k → A i = B i) ∧ Drawn w wr) (fun _ i _ => n - (intOf i).toNat)
  case atStart => exact ⟨0, Nat.zero_le _, rfl, Lib.hid fun j hj => by omega, Drawn.refl _⟩
  case round =>
    obtain ⟨k, hk, rfl, HN, hdr⟩ := hrel
    obtain ⟨wo, rfl⟩ : ∃ wo : World, wo = wr := ⟨_, rfl⟩
    have Hdr := Lib.hid hdr
    by_cases hlt : k < n
    · obtain ⟨x, y, h1, z1⟩ := HA.out k hlt
      obtain ⟨x', y', h2, z2⟩ := HB.out k hlt
      have c1 : wo.cell? ⟨ba, k, none⟩ = some (.complex .f64 x y) := (hdr.cell _).trans h1
      have c2 : wo.cell? ⟨bb, k, none⟩ = some (.complex .f64 x' y') := (hdr.cell _).trans h2
      have hne := fun t w => run_cneq (P := Try.prog) z1 z2 t w
      clear h1 h2 z1 z2 hdr
      by_cases e : A k = B k
      · rw [decide_eq_false (by simp [e])] at hne
        have HN' : Hid (∀ i, i < k + 1 → A i = B i) := Lib.hid fun i hi => by
          rcases Nat.lt_succ_iff_lt_or_eq.1 hi with h | h
          · exact HN.out i h
          · rw [h]; exact e
        clear HN e
        go_wp2
        go_quiet (fail)
        go_wp2
        go_roundw
        case rel => exact ⟨k + 1, by omega, by go_num, HN', Drawn.drewN Hdr.out⟩
        case measure => simp [intOf]; omega
      · rw [decide_eq_true e] at hne
        have HR : Hid (R = false) := Lib.hid (C2.out k hlt e)
        clear HN e
        go_wp2
        go_quiet (fail)
        go_wp2
        go_ret
        exact ⟨by rw [HR.out]; rfl, Drawn.drewN Hdr.out⟩
    · have HR : Hid (R = true) := Lib.hid (C1.out fun i hi => HN.out i (by omega))
      clear HN hdr
      go_wp2
      go_ret
      exact ⟨by rw [HR.out]; rfl, Hdr.out⟩
end Go.Proofs.Ytmckaoeofikdaaa
