/- The law GateMatrices, for every kind and every index. -/
import Derived.Test.YtmckaoeofikdaaaMatsA
import Derived.Test.YtmckaoeofikdaaaMatsB
import Derived.Test.YtmckaoeofikdaaaMatsC
import Derived.Test.YtmckaoeofikdaaaMatsD
namespace Go.Proofs.Ytmckaoeofikdaaa.Lift
open Go.RowKit
set_option maxRecDepth 100000
theorem mats_lo : yes ((@mach kLow Try.prog fns (tabO tabD) 4000).call 12 [.chan (some 0), .chan (some 1)] []) = true := by kernel_rfl
theorem mats_hi : yes ((@mach kHigh Try.prog fns (tabO tabD) 4000).call 12 [.chan (some 0), .chan (some 1)] []) = true := by kernel_rfl
theorem mats_in (k : Nat) (hk : k < 20) (b : Bool) (hb : b = true → monoB k = true) : matsAt k b = true := by
  have h : k = 0 ∨ k = 1 ∨ k = 2 ∨ k = 3 ∨ k = 4 ∨ k = 5 ∨ k = 6 ∨ k = 7 ∨ k = 8 ∨ k = 9 ∨ k = 10 ∨ k = 11 ∨ k = 12 ∨ k = 13 ∨ k = 14 ∨ k = 15 ∨ k = 16 ∨ k = 17 ∨ k = 18 ∨ k = 19 := by omega
  rcases h with rfl | rfl | rfl | rfl | rfl | rfl | rfl | rfl | rfl | rfl | rfl | rfl | rfl | rfl | rfl | rfl | rfl | rfl | rfl | rfl <;> cases b
  · exact mats0_f
  · exact mats0_t
  · exact mats1_f
  · exact mats1_t
  · exact mats2_f
  · exact mats2_t
  · exact mats3_f
  · exact mats3_t
  · exact mats4_f
  · exact mats4_t
  · exact mats5_f
  · exact mats5_t
  · exact mats6_f
  · exact absurd (hb rfl) (by decide)
  · exact mats7_f
  · exact absurd (hb rfl) (by decide)
  · exact mats8_f
  · exact absurd (hb rfl) (by decide)
  · exact mats9_f
  · exact absurd (hb rfl) (by decide)
  · exact mats10_f
  · exact mats10_t
  · exact mats11_f
  · exact mats11_t
  · exact mats12_f
  · exact mats12_t
  · exact mats13_f
  · exact mats13_t
  · exact mats14_f
  · exact mats14_t
  · exact mats15_f
  · exact mats15_t
  · exact mats16_f
  · exact absurd (hb rfl) (by decide)
  · exact mats17_f
  · exact mats17_t
  · exact mats18_f
  · exact mats18_t
  · exact mats19_f
  · exact mats19_t

theorem mats_walk (k i : Int) (w : World) (hk : (Lit.int .i64 k).wf = true) (hi : (Lit.int .i64 i).wf = true) :
    Calls Try.prog 12 #[.int .i64 k, .int .i64 i] w fun e w' => e = .returned (.bool true) ∧ Below w.heap.size w w' := by
  have hw := hk
  have hwi := hi
  simp only [Lit.wf, IntKind.min, IntKind.max, IntKind.signed, IntKind.bits] at hw hwi
  simp at hw hwi
  let f : Nat → Int := fun j => if j = 1 then i else k
  have hf : ∀ j, -9223372036854775808 ≤ f j ∧ f j ≤ 9223372036854775807 := fun j => by
    show -9223372036854775808 ≤ (if j = 1 then i else k) ∧ (if j = 1 then i else k) ≤ 9223372036854775807
    split <;> omega
  by_cases h1 : k < 1
  · have hK : @KnownOk kLow (symI f) Try.prog := by
      refine @facts_ok _ _ (symI f) (bounds_ok hf (fun j l h => ?_) (fun j u h => ?_)) ints_ok
      · match j, h with
        | 0, h => cases h
        | j + 1, h => cases h
      · match j, h with
        | 0, h => cases h; show k ≤ 0; omega
        | j + 1, h => cases h
    exact @sym_true kLow (symI f) hK _ (@tabD_sound (symI f)) 4000 _ [.chan (some 0), .chan (some 1)] mats_lo rfl w
  · by_cases h2 : 20 < k
    · have hK : @KnownOk kHigh (symI f) Try.prog := by
        refine @facts_ok _ _ (symI f) (bounds_ok hf (fun j l h => ?_) (fun j u h => ?_)) ints_ok
        · match j, h with
          | 0, h => cases h; show 21 ≤ k; omega
          | j + 1, h => cases h
        · match j, h with
          | 0, h => cases h
          | j + 1, h => cases h
      exact @sym_true kHigh (symI f) hK _ (@tabD_sound (symI f)) 4000 _ [.chan (some 0), .chan (some 1)] mats_hi rfl w
    · obtain ⟨m, rfl⟩ := Int.eq_ofNat_of_zero_le (show 0 ≤ k by omega)
      obtain ⟨j, rfl⟩ : ∃ j, m = j + 1 := ⟨m - 1, by omega⟩
      obtain ⟨x, p, b, hx, hp, hb, g1, g2⟩ := moves_both j (by omega) i hi
      have hK : @KnownOk kM (symM i x p) Try.prog := by
        refine @facts_ok (bounds [none, none, none, none] []) ints (symM i x p) (@FactsOk.mk (bounds [none, none, none, none] []) (symM i x p) (fun q _ => ?_) (fun i j h => by cases h) (fun i l h => by cases h) (fun i j h => by cases h) (fun op i j k h => by cases h)) ints_ok
        have none_lo : ∀ q l, (bounds [none, none, none, none] []).lo q = some l → False := fun q l h => by
          match q, h with
          | 0, h => cases h
          | 1, h => cases h
          | 2, h => cases h
          | 3, h => cases h
          | q + 4, h => cases h
        have none_hi : ∀ q l, (bounds [none, none, none, none] []).hi q = some l → False := fun q l h => by cases h
        match q with
        | 0 => exact ⟨p, rfl, by omega, by omega, fun l h => (none_lo _ l h).elim, fun l h => (none_hi _ l h).elim⟩
        | 1 => exact ⟨i, rfl, by omega, by omega, fun l h => (none_lo _ l h).elim, fun l h => (none_hi _ l h).elim⟩
        | 2 => exact ⟨x, rfl, by omega, by omega, fun l h => (none_lo _ l h).elim, fun l h => (none_hi _ l h).elim⟩
        | q + 3 => exact ⟨p, rfl, by omega, by omega, fun l h => (none_lo _ l h).elim, fun l h => (none_hi _ l h).elim⟩
      have hO : @OrcSound (symM i x p) Try.prog (tabO (tabM j b)) := @tabO_sound (symM i x p) _ ⟨⟨g1, trivial⟩, ⟨g2, trivial⟩, @tabD_good (symM i x p)⟩
      exact @sym_true kM (symM i x p) hK _ hO 4000 _ [.int .i64 ((j + 1 : Nat) : Int), .chan (some 1)] (mats_in j (by omega) b hb) rfl w
end Go.Proofs.Ytmckaoeofikdaaa.Lift
