import Derived.Test.YtmckaoeofikdaaaBase
import Derived.Outline
import Derived.Lib.Hide
import Derived.Test.YtmckaoeofikdaaaFp
namespace Go.Proofs.Ytmckaoeofikdaaa
open Go.RowKit

/-- Nothing but draws. -/
def Drawn (w w' : World) : Prop := ∃ n, w' = w.drewN n
theorem Drawn.refl (w : World) : Drawn w w := ⟨0, rfl⟩
theorem Drawn.drewN {w w' : World} {m : Nat} (h : Drawn w w') : Drawn w (w'.drewN m) := by
  obtain ⟨n, rfl⟩ := h
  exact ⟨n + m, by simp [World.drewN, Nat.add_assoc]⟩
theorem Drawn.drew {w w' : World} (h : Drawn w w') : Drawn w w'.drew := by
  obtain ⟨n, rfl⟩ := h
  exact ⟨n + 1, rfl⟩

theorem run_f64bits (x : Nat) (w : World) : (callFunc 110 #[.float .f64 x]).run Try.prog w = .ok (.value (.int .u64 x)) w := by
  rw [run_callFunc_extern (P := Try.prog) (f := 110) (e := Extern.MathFloatBits.float64bits) Try.func110 (by kernel_rfl) (by kernel_rfl) (by kernel_rfl) (by kernel_rfl)]
  rfl
theorem run_f64from (x : Int) (w : World) : (callFunc 109 #[.int .u64 x]).run Try.prog w = .ok (.value (.float .f64 x.toNat)) w := by
  rw [run_callFunc_extern (P := Try.prog) (f := 109) (e := Extern.MathFloatBits.float64frombits) Try.func109 (by kernel_rfl) (by kernel_rfl) (by kernel_rfl) (by kernel_rfl)]
  rfl

/-- The word without its sign. -/
def absW (x : Nat) : Nat := (bits BinOp.andNot IntKind.u64 (x : Int) 9223372036854775808).toNat

theorem abs_any (x : Nat) (w : World) : Calls Try.prog 105 #[.float .f64 x] w fun e w' => e = .returned (.float .f64 (absW x)) ∧ w = w' := by
  have h1 := run_f64bits
  have h2 := run_f64from
  go_enter Try.func105, Try.ntmps105
  go_wp2
  go_ret
  exact ⟨rfl, rfl⟩

/-- Is it an infinity? -/
def infB (x : Nat) : Bool := FloatKind.f64.format.order (absW x) 9218868437227405311 == some .gt
theorem isInf_any (x : Nat) (w : World) : Calls Try.prog 92 #[.float .f64 x, .int .i64 0] w fun e w' => e = .returned (.bool (infB x)) ∧ w = w' := by
  go_enter Try.func92, Try.ntmps92
  go_wp2_with (go_at_call 105; refine (abs_any _ _).mono ?_; rintro e w' ⟨rfl, rfl⟩)
  go_ret
  exact ⟨rfl, rfl⟩

def geB (x y : Nat) : Bool := FloatKind.f64.format.order x y == some .gt || FloatKind.f64.format.order x y == some .eq
def fairB (x : Nat) : Bool := geB x 0 && !infB x
theorem geB_true {x y : Nat} (h : FloatKind.f64.format.order x y = some .gt ∨ FloatKind.f64.format.order x y = some .eq) : geB x y = true := by
  unfold geB; rcases h with h | h <;> rw [h] <;> rfl
theorem geB_false {x y : Nat} (h : ¬(FloatKind.f64.format.order x y = some .gt ∨ FloatKind.f64.format.order x y = some .eq)) : geB x y = false := by
  cases hg : geB x y with
  | false => rfl
  | true =>
    exfalso; apply h
    unfold geB at hg
    simpa using hg
theorem fair_any (x : Nat) (w : World) : Calls Try.prog 58 #[.float .f64 x] w fun e w' => e = .returned (.bool (fairB x)) ∧ w = w' := by
  go_enter Try.func58, Try.ntmps58
  go_wp2_with (go_at_call 92; refine (isInf_any _ _).mono ?_; rintro e w' ⟨rfl, rfl⟩)
  · go_ret
    exact ⟨rfl, rfl⟩
  · rename_i h
    have h' : geB x 0 = false := geB_false h
    go_ret
    refine ⟨?_, rfl⟩
    show Ending.returned (.bool false) = Ending.returned (.bool (fairB x))
    rw [fairB, h']; rfl

/-- x - x == 0 -/
def zeroB (x : Nat) : Bool :=
  match FloatKind.f64.format.sub x x with
  | some r => FloatKind.f64.format.order r 0 == some .eq
  | none => false
def finB (x : Nat) : Bool := geB x 0 && zeroB x
def nanAt (w : World) (x y : Nat) : Nat := Question.cut (.nanBits .f64 x y) (w.tape w.drawn (.nanBits .f64 x y))
theorem nan_read (s t : Nat) : ∃ b p, Ieee.double.read ((s % 2) * 2 ^ 63 + 0x7ff0000000000000 + 1 + (t / 2) % (2 ^ 52 - 1)) = .nan b p := by
  have h1 : s % 2 < 2 := Nat.mod_lt _ (by decide)
  have h2 : (t / 2) % (2 ^ 52 - 1) < 2 ^ 52 - 1 := Nat.mod_lt _ (by decide)
  generalize s % 2 = a at h1
  generalize (t / 2) % (2 ^ 52 - 1) = b at h2
  have e : (a * 2 ^ 63 + 0x7ff0000000000000 + 1 + b) % 2 ^ 63 = 0x7ff0000000000000 + 1 + b := by omega
  refine ⟨(a * 2 ^ 63 + 0x7ff0000000000000 + 1 + b) / 2 ^ 63 % 2 == 1, 0x7ff0000000000000 + 1 + b - 2047 * 2 ^ 52, ?_⟩
  rw [Fp.double_read]
  simp only [e]
  rw [if_neg (by omega), if_neg (by omega), if_neg (by omega)]
theorem nan_order (w : World) (x x' y : Nat) : FloatKind.f64.format.order (nanAt w x x') y = none := by
  obtain ⟨b, p, h⟩ := nan_read (w.tape w.drawn (.nanBits .f64 x x')) (w.tape w.drawn (.nanBits .f64 x x'))
  show (Ieee.double.read (nanAt w x x')).order (Ieee.double.read y) = none
  have e : Ieee.double.read (nanAt w x x') = .nan b p := h
  rw [e]; rfl
theorem run_nan {op : BinOp} {x y : Nat} (ho : op = .add ∨ op = .sub ∨ op = .mul) (h : floatBits op .f64 x y = none) (t : TypeId) (w : World) :
    (binOp op t (.float .f64 x) (.float .f64 y)).run Try.prog w = .ok (.float .f64 (nanAt w x y)) w.drew := by
  rcases ho with rfl | rfl | rfl <;>
  · simp only [floatBits] at h
    simp [binOp, Op.floatArith, h, nanAt, Question.forced]

theorem finite_any (x : Nat) (w : World) : Calls Try.prog 59 #[.float .f64 x] w fun e w' => e = .returned (.bool (finB x)) ∧ ∃ n, w' = w.drewN n := by
  cases hs : FloatKind.f64.format.sub x x with
  | some r =>
    have hz : zeroB x = (FloatKind.f64.format.order r 0 == some .eq) := by unfold zeroB; rw [hs]
    have hrun := fun t w => run_float_arith (P := Try.prog) w .sub t .f64 x x r hs
    have HZ := Lib.hid hz
    clear hz hs
    go_enter Try.func59, Try.ntmps59
    go_wp2
    · go_ret
      refine ⟨?_, 0, rfl⟩
      show Ending.returned (.bool (geB x 0 && _)) = Ending.returned (.bool (geB x 0 && zeroB x))
      rw [HZ.out]
    · rename_i h
      have h' : geB x 0 = false := geB_false h
      go_ret
      refine ⟨?_, 0, rfl⟩
      show Ending.returned (.bool false) = Ending.returned (.bool (finB x))
      rw [finB, h']; rfl
  | none =>
    have hz : zeroB x = false := by unfold zeroB; rw [hs]
    have hrun := fun t w => run_nan (op := .sub) (x := x) (y := x) (.inr (.inl rfl)) hs t w
    have hn := fun w => nan_order w x x 0
    have HZ := Lib.hid hz
    clear hz hs
    go_enter Try.func59, Try.ntmps59
    go_wp2
    · go_ret
      refine ⟨?_, 1, rfl⟩
      show Ending.returned (.bool false) = Ending.returned (.bool (finB x))
      rw [finB, HZ.out, Bool.and_false]
    · rename_i h
      have h' : geB x 0 = false := geB_false h
      go_ret
      refine ⟨?_, 0, rfl⟩
      show Ending.returned (.bool false) = Ending.returned (.bool (finB x))
      rw [finB, h']; rfl

def eqB (x y : Nat) : Bool := FloatKind.f64.format.order x y == some .eq
def ltB (x y : Nat) : Bool := FloatKind.f64.format.order x y == some .lt
def gtB (x y : Nat) : Bool := FloatKind.f64.format.order x y == some .gt
def unitB (u : Nat) : Bool := geB u 0 && ltB u 4607182418800017408
def chooseS (z o u : Nat) : Int × Int :=
  if fairB z = false then (0, 110) else if fairB o = false then (0, 110) else
  match FloatKind.f64.format.add z o with
  | none => (0, 110)
  | some s => if fairB s = false then (0, 110) else if eqB s 0 = true then (0, 110) else if unitB u = false then (0, 110) else if eqB o 0 = true then (0, 0) else if eqB z 0 = true then (1, 0) else
    match FloatKind.f64.format.mul u s with
    | none => (0, 0)
    | some p => if ltB p o = true then (1, 0) else (0, 0)

/-- What the walk goes by: one row of its tests. -/
theorem choose_walk (z o u : Nat) (r : Int × Int) (w : World)
    (h : (fairB z = false ∧ r = (0, 110)) ∨ (fairB z = true ∧ fairB o = false ∧ r = (0, 110)) ∨ ∃ s, FloatKind.f64.format.add z o = some s ∧ fairB z = true ∧ fairB o = true ∧
      ((fairB s = false ∧ r = (0, 110)) ∨ fairB s = true ∧ ((eqB s 0 = true ∧ r = (0, 110)) ∨ eqB s 0 = false ∧ ((geB u 0 = false ∧ r = (0, 110)) ∨ geB u 0 = true ∧ ((ltB u 4607182418800017408 = false ∧ r = (0, 110)) ∨ ltB u 4607182418800017408 = true ∧
      ((eqB o 0 = true ∧ r = (0, 0)) ∨ eqB o 0 = false ∧ ((eqB z 0 = true ∧ r = (1, 0)) ∨ eqB z 0 = false ∧ ∃ p, FloatKind.f64.format.mul u s = some p ∧ ((ltB p o = true ∧ r = (1, 0)) ∨ (ltB p o = false ∧ r = (0, 0)))))))))) :
    Calls Try.prog 20 #[.float .f64 z, .float .f64 o, .float .f64 u] w fun e w' => e = .returned (.tuple #[.int .i64 r.1, .int .i64 r.2]) ∧ ∃ n, w' = w.drewN n := by
  have fin : ∀ {e : Ending} {w' : World}, e = .returned (.tuple #[.int .i64 r.1, .int .i64 r.2]) → w' = w.drewN 0 ∨ w' = w.drewN 1 → e = .returned (.tuple #[.int .i64 r.1, .int .i64 r.2]) ∧ ∃ n, w' = w.drewN n := by
    rintro e w' he (hw | hw)
    · exact ⟨he, 0, hw⟩
    · exact ⟨he, 1, hw⟩
  have hadd : (∃ s, ∀ t w, (binOp .add t (.float .f64 z) (.float .f64 o)).run Try.prog w = .ok (.float .f64 s) w) ∨ ∃ f : World → Nat, ∀ t w, (binOp .add t (.float .f64 z) (.float .f64 o)).run Try.prog w = .ok (.float .f64 (f w)) w.drew := by
    cases ha : floatBits .add .f64 z o with
    | some s => exact .inl ⟨s, fun t w => run_float_arith w .add t .f64 z o s ha⟩
    | none => exact .inr ⟨fun w => nanAt w z o, fun t w => run_nan (.inl rfl) ha t w⟩
  rcases h with ⟨hz, rfl⟩ | ⟨hz, ho, rfl⟩ | ⟨s, ha, hz, ho, h⟩
  · rcases hadd with ⟨s, hrun⟩ | ⟨f, hrun⟩ <;>
    · go_enter Try.func20, Try.ntmps20
      go_wp2_with (go_at_call 58; refine (fair_any _ _).mono ?_; rintro e w' ⟨rfl, rfl⟩)
      go_ret2
      exact fin rfl (by first | exact .inl rfl | exact .inr rfl)
  · rcases hadd with ⟨s, hrun⟩ | ⟨f, hrun⟩ <;>
    · go_enter Try.func20, Try.ntmps20
      go_wp2_with (go_at_call 58; refine (fair_any _ _).mono ?_; rintro e w' ⟨rfl, rfl⟩)
      go_ret2
      exact fin rfl (by first | exact .inl rfl | exact .inr rfl)
  · clear hadd
    have hrun := fun t w => run_float_arith (P := Try.prog) w .add t .f64 z o s ha
    clear ha
    unfold eqB geB ltB at h
    rcases h with ⟨h1, rfl⟩ | ⟨h1, ⟨h2, rfl⟩ | ⟨h2, ⟨h3, rfl⟩ | ⟨h3, ⟨h4, rfl⟩ | ⟨h4, ⟨h5, rfl⟩ | ⟨h5, ⟨h6, rfl⟩ | ⟨h6, p, hp, ⟨h7, rfl⟩ | ⟨h7, rfl⟩⟩⟩⟩⟩⟩⟩
    all_goals try have hrun2 := fun t w => run_float_arith (P := Try.prog) w .mul t .f64 u s p hp
    all_goals try clear hp
    all_goals
      go_enter Try.func20, Try.ntmps20
      go_wp2_with (go_at_call 58; refine (fair_any _ _).mono ?_; rintro e w' ⟨rfl, rfl⟩)
      go_ret2
      exact fin rfl (.inl rfl)
end Go.Proofs.Ytmckaoeofikdaaa
