/- The law OddsChoose, walked. -/
import Derived.Test.YtmckaoeofikdaaaOddsF
import Derived.Test.YtmckaoeofikdaaaEval
namespace Go.Proofs.Ytmckaoeofikdaaa
open Go.RowKit

set_option maxRecDepth 100000 in
theorem odds_heads (w : World) : Calls Try.prog 22 #[] w fun e w' => e = .returned (.bool true) ∧ Below w.heap.size w w' :=
  Lift.eval_true Lift.noO_sound (n := 4000) (by kernel_rfl) rfl w

theorem oddsChoose_walk (z o u : Nat) (w : World) (hz : (Lit.float .f64 z).wf = true) (ho : (Lit.float .f64 o).wf = true) (_hu : (Lit.float .f64 u).wf = true) :
    Calls Try.prog 5 #[.float .f64 z, .float .f64 o, .float .f64 u] w fun e w' => e = .returned (.bool true) ∧ Below w.heap.size w w' := by
  have hz' : z < 2 ^ 64 := by simpa [Lit.wf] using hz
  have ho' : o < 2 ^ 64 := by simpa [Lit.wf] using ho
  obtain ⟨r, hr, h1, h2⟩ := choose_both z o u hz' ho'
  obtain ⟨c, e⟩ := r
  simp only at hr h1 h2
  have fin : ∀ {n : Nat} {w' : World}, Below (w.drewN n).heap.size (w.drewN n) w' → Below w.heap.size w w' := fun {n w'} h => (below_drewN (Below.refl _ w) n).trans h
  have H := Lib.hid hr
  clear hr hz ho hz' ho' _hu
  by_cases he : e = 0
  · subst he
    by_cases hc : c = 0
    · subst hc
      have hq : (FloatKind.f64.format.order z 0 == some Ordering.eq) = false := (H.out rfl).1 rfl
      clear H
      go_enter Try.func5, Try.ntmps5
      go_wp2_with (first | (go_at_call 20; refine (h1 _).mono ?_; rintro e w' ⟨rfl, n, rfl⟩) | (go_at_call 21; refine (h2 _).mono ?_; rintro e w' ⟨rfl, m, rfl⟩) | (go_at_call 22; refine (odds_heads _).mono ?_; rintro e w' ⟨rfl, hb⟩))
      go_ret
      exact ⟨rfl, fin hb⟩
    · by_cases hc1 : c = 1
      · subst hc1
        have hq : (FloatKind.f64.format.order o 0 == some Ordering.eq) = false := (H.out rfl).2 rfl
        clear H hc
        go_enter Try.func5, Try.ntmps5
        go_wp2_with (first | (go_at_call 20; refine (h1 _).mono ?_; rintro e w' ⟨rfl, n, rfl⟩) | (go_at_call 21; refine (h2 _).mono ?_; rintro e w' ⟨rfl, m, rfl⟩) | (go_at_call 22; refine (odds_heads _).mono ?_; rintro e w' ⟨rfl, hb⟩))
        go_ret
        exact ⟨rfl, fin hb⟩
      · have g0 : (c == 0) = false := by simpa using hc
        have g1 : (c == 1) = false := by simpa using hc1
        clear H hc hc1
        go_enter Try.func5, Try.ntmps5
        go_wp2_with (first | (go_at_call 20; refine (h1 _).mono ?_; rintro e w' ⟨rfl, n, rfl⟩) | (go_at_call 21; refine (h2 _).mono ?_; rintro e w' ⟨rfl, m, rfl⟩) | (go_at_call 22; refine (odds_heads _).mono ?_; rintro e w' ⟨rfl, hb⟩))
        go_ret
        exact ⟨rfl, fin hb⟩
  · have g0 : (e == 0) = false := by simpa using he
    clear H he
    go_enter Try.func5, Try.ntmps5
    go_wp2_with (first | (go_at_call 20; refine (h1 _).mono ?_; rintro e w' ⟨rfl, n, rfl⟩) | (go_at_call 21; refine (h2 _).mono ?_; rintro e w' ⟨rfl, m, rfl⟩) | (go_at_call 22; refine (odds_heads _).mono ?_; rintro e w' ⟨rfl, hb⟩))
    go_ret
    exact ⟨rfl, fin hb⟩
end Go.Proofs.Ytmckaoeofikdaaa
