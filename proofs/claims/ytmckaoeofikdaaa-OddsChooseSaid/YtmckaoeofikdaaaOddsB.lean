/- The document's Choose: what it computes. -/
import Derived.Test.YtmckaoeofikdaaaOddsA
namespace Go.Proofs.Ytmckaoeofikdaaa
open Go.RowKit

theorem rchoose_walk (z o u : Nat) (r : Int × Int) (w : World)
    (h : (finB z = false ∧ r = (0, 110)) ∨ (finB z = true ∧ finB o = false ∧ r = (0, 110)) ∨ ∃ s, FloatKind.f64.format.add z o = some s ∧ finB z = true ∧ finB o = true ∧
      ((finB s = false ∧ r = (0, 110)) ∨ finB s = true ∧ ((gtB s 0 = false ∧ r = (0, 110)) ∨ gtB s 0 = true ∧ ((geB u 0 = false ∧ r = (0, 110)) ∨ geB u 0 = true ∧ ((ltB u 4607182418800017408 = false ∧ r = (0, 110)) ∨ ltB u 4607182418800017408 = true ∧
      ((eqB o 0 = true ∧ r = (0, 0)) ∨ eqB o 0 = false ∧ ((eqB z 0 = true ∧ r = (1, 0)) ∨ eqB z 0 = false ∧ ∃ p, FloatKind.f64.format.mul u s = some p ∧ ((ltB p o = true ∧ r = (1, 0)) ∨ (ltB p o = false ∧ r = (0, 0)))))))))) :
    Calls Try.prog 21 #[.float .f64 z, .float .f64 o, .float .f64 u] w fun e w' => e = .returned (.tuple #[.int .i64 r.1, .int .i64 r.2]) ∧ ∃ n, w' = w.drewN n := by
  have hadd : (∃ s, ∀ t w, (binOp .add t (.float .f64 z) (.float .f64 o)).run Try.prog w = .ok (.float .f64 s) w) ∨ ∃ f : World → Nat, ∀ t w, (binOp .add t (.float .f64 z) (.float .f64 o)).run Try.prog w = .ok (.float .f64 (f w)) w.drew := by
    cases ha : floatBits .add .f64 z o with
    | some s => exact .inl ⟨s, fun t w => run_float_arith w .add t .f64 z o s ha⟩
    | none => exact .inr ⟨fun w => nanAt w z o, fun t w => run_nan (.inl rfl) ha t w⟩
  have fin : ∀ {w' : World}, Drawn w w' → ∃ n, w' = w.drewN n := fun h => h
  rcases h with ⟨hz, rfl⟩ | ⟨hz, ho, rfl⟩ | ⟨s, ha, hz, ho, h⟩
  · rcases hadd with ⟨s, hrun⟩ | ⟨f, hrun⟩ <;>
    · go_enter Try.func21, Try.ntmps21
      go_wp2_with (go_at_call 59; refine (finite_any _ _).mono ?_; rintro e w' ⟨rfl, n, rfl⟩)
      go_ret2
      refine ⟨rfl, fin ?_⟩
      repeat (first | exact Drawn.refl _ | apply Drawn.drewN | apply Drawn.drew)
  · rcases hadd with ⟨s, hrun⟩ | ⟨f, hrun⟩ <;>
    · go_enter Try.func21, Try.ntmps21
      go_wp2_with (go_at_call 59; refine (finite_any _ _).mono ?_; rintro e w' ⟨rfl, n, rfl⟩)
      go_ret2
      refine ⟨rfl, fin ?_⟩
      repeat (first | exact Drawn.refl _ | apply Drawn.drewN | apply Drawn.drew)
  · clear hadd
    have hrun := fun t w => run_float_arith (P := Try.prog) w .add t .f64 z o s ha
    clear ha
    unfold eqB geB ltB gtB at h
    rcases h with ⟨h1, rfl⟩ | ⟨h1, ⟨h2, rfl⟩ | ⟨h2, ⟨h3, rfl⟩ | ⟨h3, ⟨h4, rfl⟩ | ⟨h4, ⟨h5, rfl⟩ | ⟨h5, ⟨h6, rfl⟩ | ⟨h6, p, hp, ⟨h7, rfl⟩ | ⟨h7, rfl⟩⟩⟩⟩⟩⟩⟩
    all_goals try have hrun2 := fun t w => run_float_arith (P := Try.prog) w .mul t .f64 u s p hp
    all_goals try clear hp
    all_goals
      go_enter Try.func21, Try.ntmps21
      go_wp2_with (go_at_call 59; refine (finite_any _ _).mono ?_; rintro e w' ⟨rfl, n, rfl⟩)
      go_ret2
      refine ⟨rfl, fin ?_⟩
      repeat (first | exact Drawn.refl _ | apply Drawn.drewN | apply Drawn.drew)
end Go.Proofs.Ytmckaoeofikdaaa
