/- Plain law of Choose: the program's tests and the document's come to the same. -/
import Derived.Test.YtmckaoeofikdaaaOddsB
namespace Go.Proofs.Ytmckaoeofikdaaa
open Go.RowKit Ieee

theorem top_bit (b : BitVec 64) : (b &&& ~~~ (9223372036854775808#64)).toNat = b.toNat % 2 ^ 63 := by
  have e : b &&& ~~~ (9223372036854775808#64) = b &&& 9223372036854775807#64 := by congr 1
  rw [e, BitVec.toNat_and]
  have : (9223372036854775807#64).toNat = 2 ^ 63 - 1 := by decide
  rw [this, Nat.and_two_pow_sub_one_eq_mod]

theorem absW_eq (x : Nat) (hx : x < 2 ^ 64) : absW x = x % 2 ^ 63 := by
  unfold absW bits
  have e1 : BitVec.ofInt 64 (x : Int) = BitVec.ofNat 64 x := by simp
  have e2 : BitVec.ofInt 64 9223372036854775808 = 9223372036854775808#64 := by decide
  show (IntKind.u64.wrap ((BitVec.ofInt 64 (x : Int) &&& ~~~ BitVec.ofInt 64 9223372036854775808).toNat : Int)).toNat = _
  rw [e1, e2, top_bit]
  have e3 : (BitVec.ofNat 64 x).toNat = x := by rw [BitVec.toNat_ofNat]; exact Nat.mod_eq_of_lt hx
  rw [e3]
  have e4 : x % 2 ^ 63 < 2 ^ 63 := Nat.mod_lt _ (by decide)
  generalize x % 2 ^ 63 = r at e4
  have : IntKind.u64.wrap (r : Int) = r := by
    simp only [IntKind.wrap, IntKind.bits, IntKind.signed]
    simp
    omega
  rw [this]; simp
theorem cmp_gt {a b : Int} : compare a b = .gt ↔ b < a := by
  simp only [compare, compareOfLessAndEq]
  by_cases h : a < b
  · rw [if_pos h]; constructor
    · intro h'; cases h'
    · intro; omega
  · rw [if_neg h]
    by_cases h2 : a = b
    · rw [if_pos h2]; constructor
      · intro h'; cases h'
      · intro; omega
    · rw [if_neg h2]; constructor
      · intro; omega
      · intro; rfl
theorem cmp_eq {a b : Int} : compare a b = .eq ↔ a = b := by
  simp only [compare, compareOfLessAndEq]
  by_cases h : a < b
  · rw [if_pos h]; constructor
    · intro h'; cases h'
    · intro; omega
  · rw [if_neg h]
    by_cases h2 : a = b
    · rw [if_pos h2]; constructor
      · intro; exact h2
      · intro; rfl
    · rw [if_neg h2]; constructor
      · intro h'; cases h'
      · intro; omega

theorem read_cases (x : Nat) : (∃ neg m p, double.read x = .number neg m p ∧ -1074 ≤ p ∧ p ≤ 971 ∧ m < 2 ^ 53 ∧ double.read (x % 2 ^ 63) = .number false m p) ∨
    (∃ neg, double.read x = .infinity neg ∧ double.read (x % 2 ^ 63) = .infinity false) ∨ ∃ neg f, double.read x = .nan neg f ∧ double.read (x % 2 ^ 63) = .nan false f := by
  have e1 : x % 2 ^ 63 % 2 ^ 63 = x % 2 ^ 63 := Nat.mod_mod _ _
  have e2 : x % 2 ^ 63 / 2 ^ 63 = 0 := Nat.div_eq_of_lt (Nat.mod_lt _ (by decide))
  rw [Fp.double_read, Fp.double_read]
  simp only [e1, e2]
  have hr : x % 2 ^ 63 < 2 ^ 63 := Nat.mod_lt _ (by decide)
  generalize x % 2 ^ 63 = r at hr
  by_cases h1 : r < 2 ^ 52
  · rw [if_pos h1, if_pos h1]
    exact .inl ⟨_, _, _, rfl, by omega, by omega, by omega, rfl⟩
  · rw [if_neg h1, if_neg h1]
    by_cases h2 : r < 2047 * 2 ^ 52
    · rw [if_pos h2, if_pos h2]
      have h3 : r % 2 ^ 52 < 2 ^ 52 := Nat.mod_lt _ (by decide)
      have h4 : r / 2 ^ 52 < 2047 := Nat.div_lt_of_lt_mul (by omega)
      exact .inl ⟨_, _, _, rfl, by omega, by omega, by omega, rfl⟩
    · rw [if_neg h2, if_neg h2]
      by_cases h3 : r = 2047 * 2 ^ 52
      · rw [if_pos h3, if_pos h3]
        exact .inr (.inl ⟨_, rfl, rfl⟩)
      · rw [if_neg h3, if_neg h3]
        exact .inr (.inr ⟨_, _, rfl, rfl⟩)

theorem isF_of {x : Nat} {neg : Bool} {m : Nat} {p : Int} (h : double.read x = .number neg m p) (hp : -1074 ≤ p) : Fp.IsF x 1074 (Fp.sgn neg m * (2 ^ (p + 1074).toNat : Nat)) :=
  ⟨Nat.le_refl _, neg, m, p, h, hp, by simp⟩
theorem isF_zero : Fp.IsF 0 1074 0 := ⟨Nat.le_refl _, false, 0, -1074, by decide +kernel, by decide, by simp [Fp.sgn]⟩
theorem f64 : FloatKind.f64.format = double := rfl

theorem infB_eq (x : Nat) (hx : x < 2 ^ 64) : infB x = true ↔ ∃ neg, double.read x = .infinity neg := by
  have e : infB x = ((double.read (x % 2 ^ 63)).order (double.read 9218868437227405311) == some .gt) := by
    unfold infB; rw [absW_eq x hx]; rfl
  have emax : double.read 9218868437227405311 = .number false (2 ^ 53 - 1) 971 := by decide +kernel
  rw [e, emax]
  rcases read_cases x with ⟨neg, m, p, h1, h2, h3, h4, h5⟩ | ⟨neg, h1, h5⟩ | ⟨neg, f, h1, h5⟩
  · rw [h5, h1]
    constructor
    · intro h
      exfalso
      simp only [Datum.order, beq_iff_eq, Option.some.injEq] at h
      rw [cmp_gt] at h
      rw [Fp.signed_eq, Fp.signed_eq] at h
      simp only [Fp.sgn, Bool.false_eq_true, if_false] at h
      rw [show min p 971 = p from by omega, show (p - p).toNat = 0 from by omega] at h
      have h6 : (1 : Nat) ≤ 2 ^ (971 - p).toNat := Nat.one_le_two_pow
      have h7 : (2 ^ 53 - 1) * 1 ≤ (2 ^ 53 - 1) * 2 ^ (971 - p).toNat := Nat.mul_le_mul_left _ h6
      generalize (2 : Nat) ^ (971 - p).toNat = q at h h6 h7
      omega
    · rintro ⟨n, h⟩; cases h
  · rw [h5, h1]
    exact ⟨fun _ => ⟨_, rfl⟩, fun _ => rfl⟩
  · rw [h5, h1]
    constructor
    · intro h; simp [Datum.order] at h
    · rintro ⟨n, h⟩; cases h

theorem zeroB_of_isF {x : Nat} {n : Int} (h : Fp.IsF x 1074 n) : zeroB x = true := by
  obtain ⟨r, h1, h2⟩ := Fp.sub_exact h h (by simp)
  unfold zeroB
  rw [f64, h1]
  simp only
  rw [Fp.order_exact (h2.cast (Int.sub_self n)) isF_zero]
  rfl

theorem zeroB_inf {x : Nat} {neg : Bool} (h : double.read x = .infinity neg) : zeroB x = false := by
  have e : double.sub x x = none := by
    show ((double.read x).sum (double.read x).opposite).map double.write = none
    rw [h]
    cases neg <;> rfl
  unfold zeroB
  rw [f64, e]

theorem fin_fair (x : Nat) (hx : x < 2 ^ 64) : finB x = fairB x := by
  unfold finB fairB
  rcases read_cases x with ⟨neg, m, p, h1, h2, h3, h4, h5⟩ | ⟨neg, h1, h5⟩ | ⟨neg, f, h1, h5⟩
  · have hi : infB x = false := by
      cases hb : infB x with
      | false => rfl
      | true => obtain ⟨n, h⟩ := (infB_eq x hx).1 hb; rw [h1] at h; cases h
    rw [hi, zeroB_of_isF (isF_of h1 h2)]; rfl
  · rw [zeroB_inf h1, (infB_eq x hx).2 ⟨_, h1⟩]; rfl
  · have : geB x 0 = false := by
      unfold geB
      have e : FloatKind.f64.format.order x 0 = none := by
        show (double.read x).order (double.read 0) = none
        rw [h1]; rfl
      rw [e]; rfl
    rw [this]; rfl

theorem fair_isF {x : Nat} (hx : x < 2 ^ 64) (h : fairB x = true) : ∃ n, 0 ≤ n ∧ Fp.IsF x 1074 n := by
  unfold fairB at h
  simp only [Bool.and_eq_true, Bool.not_eq_true'] at h
  obtain ⟨hg, hi⟩ := h
  rcases read_cases x with ⟨neg, m, p, h1, h2, h3, h4, h5⟩ | ⟨neg, h1, h5⟩ | ⟨neg, f, h1, h5⟩
  · refine ⟨_, ?_, isF_of h1 h2⟩
    unfold geB at hg
    rw [f64, Fp.order_exact (isF_of h1 h2) isF_zero] at hg
    generalize Fp.sgn neg m * ((2 ^ (p + 1074).toNat : Nat) : Int) = n at hg ⊢
    simp only [Bool.or_eq_true, beq_iff_eq, Option.some.injEq, cmp_gt, cmp_eq] at hg
    omega
  · rw [(infB_eq x hx).2 ⟨_, h1⟩] at hi; cases hi
  · have e : FloatKind.f64.format.order x 0 = none := by
      show (double.read x).order (double.read 0) = none
      rw [h1]; rfl
    unfold geB at hg
    rw [e] at hg
    cases hg

theorem gt_not_eq {s : Nat} (hs : s < 2 ^ 64) (h : fairB s = true) : gtB s 0 = !eqB s 0 := by
  obtain ⟨n, hn, hf⟩ := fair_isF hs h
  unfold gtB eqB
  rw [f64, Fp.order_exact hf isF_zero]
  rcases Int.lt_or_eq_of_le hn with h | h
  · have : compare n 0 = .gt := cmp_gt.2 h
    rw [this]; rfl
  · subst h; rfl

theorem sum_some {x y : Nat} (hx : x < 2 ^ 64) (hy : y < 2 ^ 64) (h1 : fairB x = true) (h2 : fairB y = true) : ∃ s, FloatKind.f64.format.add x y = some s ∧ s < 2 ^ 64 := by
  obtain ⟨n, _, _, a, b, c, hr, _⟩ := fair_isF hx h1
  obtain ⟨n', _, _, a', b', c', hr', _⟩ := fair_isF hy h2
  have e : FloatKind.f64.format.add x y = some (double.write (.number (if signed a b (c - min c c').toNat + signed a' b' (c' - min c c').toNat = 0 then a && a' else decide (signed a b (c - min c c').toNat + signed a' b' (c' - min c c').toNat < 0)) (signed a b (c - min c c').toNat + signed a' b' (c' - min c c').toNat).natAbs (min c c'))) := by
    show ((double.read x).sum (double.read y)).map double.write = _
    rw [hr, hr']; rfl
  exact ⟨_, e, double.add_lt e⟩

theorem unit_num {u : Nat} (h : geB u 0 = true) (h' : ltB u 4607182418800017408 = true) : ∃ a b c, double.read u = .number a b c := by
  rcases read_cases u with ⟨neg, m, p, h1, _⟩ | ⟨neg, h1, _⟩ | ⟨neg, f, h1, _⟩
  · exact ⟨_, _, _, h1⟩
  · exfalso
    have e1 : FloatKind.f64.format.order u 0 = some (if neg then .lt else .gt) := by
      show (double.read u).order (double.read 0) = _
      rw [h1, show double.read 0 = .number false 0 (-1074) from by decide +kernel]; rfl
    have e2 : FloatKind.f64.format.order u 4607182418800017408 = some (if neg then .lt else .gt) := by
      show (double.read u).order (double.read 4607182418800017408) = _
      rw [h1, show double.read 4607182418800017408 = .number false (2 ^ 52) (-52) from by decide +kernel]; rfl
    unfold geB at h; unfold ltB at h'
    rw [e1] at h; rw [e2] at h'
    cases neg
    · simp at h'
    · simp at h
  · exfalso
    have e1 : FloatKind.f64.format.order u 0 = none := by
      show (double.read u).order (double.read 0) = _
      rw [h1]; rfl
    unfold geB at h
    rw [e1] at h; cases h

theorem mul_some {u s : Nat} (hs : s < 2 ^ 64) (h : geB u 0 = true) (h' : ltB u 4607182418800017408 = true) (h2 : fairB s = true) : ∃ p, FloatKind.f64.format.mul u s = some p := by
  obtain ⟨n', _, _, a', b', c', hr', _⟩ := fair_isF hs h2
  obtain ⟨a, b, c, hr⟩ := unit_num h h'
  refine ⟨double.write (.number (a ^^ a') (b * b') (c + c')), ?_⟩
  show ((double.read u).product (double.read s)).map double.write = _
  rw [hr, hr']; rfl

theorem isF_of_eq {x : Nat} (h : eqB x 0 = true) : Fp.IsF x 1074 0 := by
  unfold eqB at h
  rcases read_cases x with ⟨neg, m, p, h1, h2, _⟩ | ⟨neg, h1, _⟩ | ⟨neg, f, h1, _⟩
  · rw [f64, Fp.order_exact (isF_of h1 h2) isF_zero] at h
    simp only [beq_iff_eq, Option.some.injEq, cmp_eq] at h
    exact (isF_of h1 h2).cast h
  · have e1 : FloatKind.f64.format.order x 0 = some (if neg then .lt else .gt) := by
      show (double.read x).order (double.read 0) = _
      rw [h1, show double.read 0 = .number false 0 (-1074) from by decide +kernel]; rfl
    rw [e1] at h
    cases neg <;> simp at h
  · have e1 : FloatKind.f64.format.order x 0 = none := by
      show (double.read x).order (double.read 0) = _
      rw [h1]; rfl
    rw [e1] at h; cases h

theorem eq_sum {x y s : Nat} (hx : eqB x 0 = true) (hy : eqB y 0 = true) (h : FloatKind.f64.format.add x y = some s) : eqB s 0 = true := by
  obtain ⟨r, h1, h2⟩ := Fp.add_exact (isF_of_eq hx) (isF_of_eq hy) (by simp)
  rw [f64, h1] at h
  cases h
  unfold eqB
  rw [f64, Fp.order_exact (h2.cast (Int.add_zero 0)) isF_zero]
  rfl

/-- What both come to. -/
theorem choose_both (z o u : Nat) (hz : z < 2 ^ 64) (ho : o < 2 ^ 64) : ∃ r : Int × Int, (r.2 = 0 → (r.1 = 0 → eqB z 0 = false) ∧ (r.1 = 1 → eqB o 0 = false)) ∧
    (∀ w, Calls Try.prog 20 #[.float .f64 z, .float .f64 o, .float .f64 u] w fun e w' => e = .returned (.tuple #[.int .i64 r.1, .int .i64 r.2]) ∧ ∃ n, w' = w.drewN n) ∧
    ∀ w, Calls Try.prog 21 #[.float .f64 z, .float .f64 o, .float .f64 u] w fun e w' => e = .returned (.tuple #[.int .i64 r.1, .int .i64 r.2]) ∧ ∃ n, w' = w.drewN n := by
  have ez := fin_fair z hz
  have eo := fin_fair o ho
  cases h1 : fairB z with
  | false => exact ⟨(0, 110), fun h => by simp at h, fun w => choose_walk z o u _ w (.inl ⟨h1, rfl⟩), fun w => rchoose_walk z o u _ w (.inl ⟨by rw [ez, h1], rfl⟩)⟩
  | true =>
    cases h2 : fairB o with
    | false => exact ⟨(0, 110), fun h => by simp at h, fun w => choose_walk z o u _ w (.inr (.inl ⟨h1, h2, rfl⟩)), fun w => rchoose_walk z o u _ w (.inr (.inl ⟨by rw [ez, h1], by rw [eo, h2], rfl⟩))⟩
    | true =>
      obtain ⟨s, hs, hlt⟩ := sum_some hz ho h1 h2
      have es := fin_fair s hlt
      rw [h1] at ez; rw [h2] at eo
      cases h3 : fairB s with
      | false => exact ⟨(0, 110), fun h => by simp at h, fun w => choose_walk z o u _ w (.inr (.inr ⟨s, hs, h1, h2, .inl ⟨h3, rfl⟩⟩)), fun w => rchoose_walk z o u _ w (.inr (.inr ⟨s, hs, ez, eo, .inl ⟨by rw [es, h3], rfl⟩⟩))⟩
      | true =>
        rw [h3] at es
        have eg := gt_not_eq hlt h3
        cases h4 : eqB s 0 with
        | true =>
          rw [h4] at eg
          exact ⟨(0, 110), fun h => by simp at h, fun w => choose_walk z o u _ w (.inr (.inr ⟨s, hs, h1, h2, .inr ⟨h3, .inl ⟨h4, rfl⟩⟩⟩)), fun w => rchoose_walk z o u _ w (.inr (.inr ⟨s, hs, ez, eo, .inr ⟨es, .inl ⟨eg, rfl⟩⟩⟩))⟩
        | false =>
          rw [h4] at eg
          cases h5 : geB u 0 with
          | false => exact ⟨(0, 110), fun h => by simp at h, fun w => choose_walk z o u _ w (.inr (.inr ⟨s, hs, h1, h2, .inr ⟨h3, .inr ⟨h4, .inl ⟨h5, rfl⟩⟩⟩⟩)), fun w => rchoose_walk z o u _ w (.inr (.inr ⟨s, hs, ez, eo, .inr ⟨es, .inr ⟨eg, .inl ⟨h5, rfl⟩⟩⟩⟩))⟩
          | true =>
            cases h6 : ltB u 4607182418800017408 with
            | false => exact ⟨(0, 110), fun h => by simp at h, fun w => choose_walk z o u _ w (.inr (.inr ⟨s, hs, h1, h2, .inr ⟨h3, .inr ⟨h4, .inr ⟨h5, .inl ⟨h6, rfl⟩⟩⟩⟩⟩)), fun w => rchoose_walk z o u _ w (.inr (.inr ⟨s, hs, ez, eo, .inr ⟨es, .inr ⟨eg, .inr ⟨h5, .inl ⟨h6, rfl⟩⟩⟩⟩⟩))⟩
            | true =>
              cases h7 : eqB o 0 with
              | true =>
                have h8 : eqB z 0 = false := by
                  cases h8 : eqB z 0 with
                  | false => rfl
                  | true => rw [eq_sum h8 h7 hs] at h4; cases h4
                exact ⟨(0, 0), fun _ => ⟨fun _ => h8, fun h => by simp at h⟩, fun w => choose_walk z o u _ w (.inr (.inr ⟨s, hs, h1, h2, .inr ⟨h3, .inr ⟨h4, .inr ⟨h5, .inr ⟨h6, .inl ⟨h7, rfl⟩⟩⟩⟩⟩⟩)), fun w => rchoose_walk z o u _ w (.inr (.inr ⟨s, hs, ez, eo, .inr ⟨es, .inr ⟨eg, .inr ⟨h5, .inr ⟨h6, .inl ⟨h7, rfl⟩⟩⟩⟩⟩⟩))⟩
              | false =>
                cases h8 : eqB z 0 with
                | true => exact ⟨(1, 0), fun _ => ⟨fun h => by simp at h, fun _ => rfl⟩, fun w => choose_walk z o u _ w (.inr (.inr ⟨s, hs, h1, h2, .inr ⟨h3, .inr ⟨h4, .inr ⟨h5, .inr ⟨h6, .inr ⟨h7, .inl ⟨h8, rfl⟩⟩⟩⟩⟩⟩⟩)), fun w => rchoose_walk z o u _ w (.inr (.inr ⟨s, hs, ez, eo, .inr ⟨es, .inr ⟨eg, .inr ⟨h5, .inr ⟨h6, .inr ⟨h7, .inl ⟨h8, rfl⟩⟩⟩⟩⟩⟩⟩))⟩
                | false =>
                  obtain ⟨p, hp⟩ := mul_some hlt h5 h6 h3
                  cases h9 : ltB p o with
                  | true => exact ⟨(1, 0), fun _ => ⟨fun h => by simp at h, fun _ => rfl⟩, fun w => choose_walk z o u _ w (.inr (.inr ⟨s, hs, h1, h2, .inr ⟨h3, .inr ⟨h4, .inr ⟨h5, .inr ⟨h6, .inr ⟨h7, .inr ⟨h8, p, hp, .inl ⟨h9, rfl⟩⟩⟩⟩⟩⟩⟩⟩)), fun w => rchoose_walk z o u _ w (.inr (.inr ⟨s, hs, ez, eo, .inr ⟨es, .inr ⟨eg, .inr ⟨h5, .inr ⟨h6, .inr ⟨h7, .inr ⟨h8, p, hp, .inl ⟨h9, rfl⟩⟩⟩⟩⟩⟩⟩⟩))⟩
                  | false => exact ⟨(0, 0), fun _ => ⟨fun _ => rfl, fun h => by simp at h⟩, fun w => choose_walk z o u _ w (.inr (.inr ⟨s, hs, h1, h2, .inr ⟨h3, .inr ⟨h4, .inr ⟨h5, .inr ⟨h6, .inr ⟨h7, .inr ⟨h8, p, hp, .inr ⟨h9, rfl⟩⟩⟩⟩⟩⟩⟩⟩)), fun w => rchoose_walk z o u _ w (.inr (.inr ⟨s, hs, ez, eo, .inr ⟨es, .inr ⟨eg, .inr ⟨h5, .inr ⟨h6, .inr ⟨h7, .inr ⟨h8, p, hp, .inr ⟨h9, rfl⟩⟩⟩⟩⟩⟩⟩⟩))⟩
end Go.Proofs.Ytmckaoeofikdaaa
