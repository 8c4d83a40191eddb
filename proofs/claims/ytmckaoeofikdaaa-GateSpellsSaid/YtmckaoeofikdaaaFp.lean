/- Exact arithmetic of binary64 words: a word that stands for n / 2^s; sums, products and comparisons of such words, as long as the numbers stay below 2^53. -/
import Ieee.Arith
import Derived.Laws.FloatBits
namespace Go.Proofs.Ytmckaoeofikdaaa.Fp
open Ieee

def sgn (neg : Bool) (m : Nat) : Int := if neg then -(m : Int) else m

/-- The word x stands for n / 2^s (the sign of a nought is open). -/
def IsF (x : Nat) (s : Nat) (n : Int) : Prop :=
  s ≤ 1074 ∧ ∃ neg m p, double.read x = .number neg m p ∧ -1074 ≤ p ∧ sgn neg m * (2 ^ (p + 1074).toNat : Nat) = n * (2 ^ (1074 - s) : Nat)

theorem signed_eq (neg : Bool) (m up : Nat) : signed neg m up = sgn neg m * (2 ^ up : Nat) := by
  unfold signed sgn
  rw [Nat.shiftLeft_eq]
  split
  · rw [Int.natCast_mul, Int.neg_mul]
  · rw [Int.natCast_mul]

theorem natAbs_sgn (neg : Bool) (m : Nat) : (sgn neg m).natAbs = m := by
  unfold sgn; split <;> simp

theorem cut_zero (neg : Bool) (n : Nat) : Toward.even.cut neg n 0 = n := by
  unfold Toward.cut
  simp [Nat.mod_one]

theorem cut_dvd (neg : Bool) (n d : Nat) (h0 : n ≠ 0) (h : 2 ^ d ∣ n) : Toward.even.cut neg n d = n / 2 ^ d := by
  have hle : 2 ^ d ≤ n := Nat.le_of_dvd (Nat.pos_of_ne_zero h0) h
  have hd : d ≤ n.log2 := (Nat.le_log2 h0).2 hle
  unfold Toward.cut
  rw [Nat.min_eq_left (by omega), Nat.one_shiftLeft]
  have hr : n % 2 ^ d = 0 := Nat.mod_eq_zero_of_dvd h
  have hp : 0 < 2 ^ d := Nat.two_pow_pos d
  simp [hr]

theorem double_read (w : Nat) : double.read w =
    (let neg := w / 2 ^ 63 % 2 == 1
     let rung := w % 2 ^ 63
     if rung < 2 ^ 52 then .number neg rung (-1074)
     else if rung < 2047 * 2 ^ 52 then .number neg (2 ^ 52 + rung % 2 ^ 52) (-1074 + (rung / 2 ^ 52 - 1 : Nat))
     else if rung = 2047 * 2 ^ 52 then .infinity neg
     else .nan neg (rung - 2047 * 2 ^ 52)) := rfl

theorem double_nearest (neg : Bool) (mag : Nat) (place : Int) : double.nearest neg mag place =
    (if mag = 0 then double.word neg 0 else
     let last := max (place + mag.log2 - 52) (-1074)
     let kept := Toward.even.cut neg (mag <<< (place - last).toNat) (last - place).toNat
     double.word neg (min ((last - -1074).toNat * 2 ^ 52 + kept) (2047 * 2 ^ 52))) := rfl

theorem double_word (neg : Bool) (r : Nat) : double.word neg r = if neg then 2 ^ 63 + r else r := rfl

theorem read_word (neg : Bool) (r : Nat) (h : r < 2 ^ 63) : double.word neg r / 2 ^ 63 % 2 = neg.toNat ∧ double.word neg r % 2 ^ 63 = r := by
  rw [double_word]
  cases neg
  · simp; omega
  · simp; omega

theorem nearest_exact (neg : Bool) (mag : Nat) (place : Int) (k s : Nat) (hs : s ≤ 1074) (hp : -2148 ≤ place)
    (h : mag * 2 ^ (place + 2148).toNat = k * 2 ^ (2148 - s)) (hk : k < 2 ^ 53) :
    ∃ m p, double.read (double.nearest neg mag place) = .number neg m p ∧ -1074 ≤ p ∧ m * 2 ^ (p + 1074).toNat = k * 2 ^ (1074 - s) := by
  rw [double_nearest]
  by_cases hm : mag = 0
  · rw [if_pos hm]
    obtain ⟨h1, h2⟩ := read_word neg 0 (by decide)
    refine ⟨0, -1074, ?_, by omega, ?_⟩
    · rw [double_read]; simp only [h1, h2]; cases neg <;> simp
    · subst hm
      have : k = 0 := by
        rw [Nat.zero_mul] at h
        rcases Nat.mul_eq_zero.1 h.symm with h | h
        · exact h
        · exact absurd h (Nat.ne_of_gt (Nat.two_pow_pos _))
      simp [this]
  · rw [if_neg hm]
    obtain ⟨a, ha⟩ : ∃ a : Nat, place = (a : Int) - 2148 := ⟨(place + 2148).toNat, by omega⟩
    subst ha
    have e1 : ((a : Int) - 2148 + 2148).toNat = a := by omega
    rw [e1] at h
    generalize hL : mag.log2 = L
    have hLlo : 2 ^ L ≤ mag := by rw [← hL]; exact Nat.log2_self_le hm
    have hLhi : mag < 2 ^ (L + 1) := by rw [← hL]; exact Nat.lt_log2_self
    obtain ⟨t, ht⟩ : ∃ t : Nat, t = max (a + L - 52) 1074 := ⟨_, rfl⟩
    have hlast : max ((a : Int) - 2148 + (L : Int) - 52) (-1074) = (t : Int) - 2148 := by omega
    simp only [hlast]
    have e2 : ((a : Int) - 2148 - ((t : Int) - 2148)).toNat = a - t := by omega
    have e3 : (((t : Int) - 2148) - ((a : Int) - 2148)).toNat = t - a := by omega
    have e4 : (((t : Int) - 2148) - -1074).toNat = t - 1074 := by omega
    simp only [e2, e3, e4]
    have ht1 : 1074 ≤ t := by omega
    have hkept : ∃ q, Toward.even.cut neg (mag <<< (a - t)) (t - a) = q ∧ q * 2 ^ t = mag * 2 ^ a := by
      by_cases hta : t ≤ a
      · refine ⟨mag * 2 ^ (a - t), ?_, ?_⟩
        · rw [show t - a = 0 from by omega, cut_zero, Nat.shiftLeft_eq]
        · rw [Nat.mul_assoc, ← Nat.pow_add, show a - t + t = a from by omega]
      · have hdvd : 2 ^ (t - a) ∣ mag := by
          by_cases hb : a ≤ 2148 - s
          · have hmag : mag = k * 2 ^ (2148 - s - a) := by
              have : mag * 2 ^ a = k * 2 ^ (2148 - s - a) * 2 ^ a := by
                rw [h, Nat.mul_assoc, ← Nat.pow_add, show 2148 - s - a + a = 2148 - s from by omega]
              exact Nat.eq_of_mul_eq_mul_right (Nat.two_pow_pos a) this
            have hLb : L ≤ 52 + (2148 - s - a) := by
              have h1 : 2 ^ L < 2 ^ (53 + (2148 - s - a)) := by
                refine Nat.lt_of_le_of_lt hLlo ?_
                rw [hmag, Nat.pow_add]
                exact Nat.mul_lt_mul_of_pos_right hk (Nat.two_pow_pos _)
              have := (Nat.pow_lt_pow_iff_right (by decide : 1 < 2)).1 h1
              omega
            have : t - a ≤ 2148 - s - a := by omega
            rw [hmag]
            exact Nat.dvd_trans (Nat.pow_dvd_pow 2 this) (Nat.dvd_mul_left _ _)
          · exfalso
            have hkm : k = mag * 2 ^ (a - (2148 - s)) := by
              have : k * 2 ^ (2148 - s) = mag * 2 ^ (a - (2148 - s)) * 2 ^ (2148 - s) := by
                rw [← h, Nat.mul_assoc, ← Nat.pow_add, show a - (2148 - s) + (2148 - s) = a from by omega]
              exact Nat.eq_of_mul_eq_mul_right (Nat.two_pow_pos _) this
            have hL53 : 53 ≤ L := by omega
            have h1 : 2 ^ 53 ≤ mag := Nat.le_trans (Nat.pow_le_pow_right (by decide) hL53) hLlo
            have h2 : mag ≤ k := by rw [hkm]; exact Nat.le_mul_of_pos_right _ (Nat.two_pow_pos _)
            omega
        refine ⟨mag / 2 ^ (t - a), ?_, ?_⟩
        · rw [show a - t = 0 from by omega, Nat.shiftLeft_zero]
          exact cut_dvd neg mag _ hm hdvd
        · have : mag / 2 ^ (t - a) * 2 ^ (t - a) = mag := Nat.div_mul_cancel hdvd
          calc mag / 2 ^ (t - a) * 2 ^ t = mag / 2 ^ (t - a) * (2 ^ (t - a) * 2 ^ a) := by rw [← Nat.pow_add, show t - a + a = t from by omega]
            _ = mag * 2 ^ a := by rw [← Nat.mul_assoc, this]
    obtain ⟨q, hq, hqe⟩ := hkept
    rw [hq]
    have hq53 : q < 2 ^ 53 := by
      have h1 : q * 2 ^ t < 2 ^ 53 * 2 ^ t := by
        rw [hqe]
        refine Nat.lt_of_lt_of_le (Nat.mul_lt_mul_of_pos_right hLhi (Nat.two_pow_pos a)) ?_
        rw [← Nat.pow_add, ← Nat.pow_add]
        exact Nat.pow_le_pow_right (by decide) (by omega)
      exact Nat.lt_of_mul_lt_mul_right h1
    have hq52 : t = 1074 ∨ 2 ^ 52 ≤ q := by
      by_cases h1074 : t = 1074
      · exact .inl h1074
      · right
        have h1 : 2 ^ 52 * 2 ^ t ≤ q * 2 ^ t := by
          rw [hqe]
          refine Nat.le_trans ?_ (Nat.mul_le_mul_right _ hLlo)
          rw [← Nat.pow_add, ← Nat.pow_add]
          exact Nat.pow_le_pow_right (by decide) (by omega)
        exact Nat.le_of_mul_le_mul_right h1 (Nat.two_pow_pos _)
    have ht2 : t < 2149 := by
      rcases hq52 with h1 | h1
      · omega
      · have h2 : 2 ^ (52 + t) < 2 ^ (53 + (2148 - s)) := by
          rw [Nat.pow_add, Nat.pow_add]
          calc 2 ^ 52 * 2 ^ t ≤ q * 2 ^ t := Nat.mul_le_mul_right _ h1
            _ = k * 2 ^ (2148 - s) := by rw [hqe, h]
            _ < 2 ^ 53 * 2 ^ (2148 - s) := Nat.mul_lt_mul_of_pos_right hk (Nat.two_pow_pos _)
        have := (Nat.pow_lt_pow_iff_right (by decide : 1 < 2)).1 h2
        omega
    obtain ⟨e, he⟩ : ∃ e, t = e + 1074 := ⟨t - 1074, by omega⟩
    subst he
    have hval : q * 2 ^ e = k * 2 ^ (1074 - s) := by
      obtain ⟨c, hc⟩ : ∃ c, c = 1074 := ⟨_, rfl⟩
      have h1 : q * 2 ^ e * 2 ^ c = k * 2 ^ (1074 - s) * 2 ^ c := by
        rw [Nat.mul_assoc, ← Nat.pow_add, show e + c = e + 1074 from by omega, hqe, h, Nat.mul_assoc, ← Nat.pow_add, show 1074 - s + c = 2148 - s from by omega]
      exact Nat.eq_of_mul_eq_mul_right (Nat.two_pow_pos _) h1
    rw [show e + 1074 - 1074 = e from by omega]
    have hr : e * 2 ^ 52 + q < 2047 * 2 ^ 52 := by omega
    rw [Nat.min_eq_left (Nat.le_of_lt hr)]
    obtain ⟨h1, h2⟩ := read_word neg (e * 2 ^ 52 + q) (by omega)
    have hneg : (neg.toNat == 1) = neg := by cases neg <;> rfl
    by_cases hlow : e * 2 ^ 52 + q < 2 ^ 52
    · have he0 : e = 0 := by omega
      subst he0
      refine ⟨q, -1074, ?_, by omega, ?_⟩
      · rw [double_read]; simp only [h1, h2, hneg]; rw [if_pos hlow]; simp
      · simpa using hval
    · have hq' : 2 ^ 52 ≤ q := by
        rcases hq52 with h3 | h3
        · have : e = 0 := by omega
          subst this; omega
        · exact h3
      refine ⟨q, -1074 + (e : Int), ?_, by omega, ?_⟩
      · rw [double_read]; simp only [h1, h2, hneg]; rw [if_neg hlow, if_pos hr]
        have d1 : (e * 2 ^ 52 + q) / 2 ^ 52 - 1 = e := by omega
        have d2 : 2 ^ 52 + (e * 2 ^ 52 + q) % 2 ^ 52 = q := by omega
        rw [d1, d2]
      · rw [show (-1074 + (e : Int) + 1074).toNat = e from by omega]; exact hval

/-- Whatever number is written that is n / 2^s: its word stands for n / 2^s. -/
theorem write_exact (neg : Bool) (mag : Nat) (place : Int) (n : Int) (s : Nat) (hs : s ≤ 1074) (hp : -2148 ≤ place)
    (h : sgn neg mag * (2 ^ (place + 2148).toNat : Nat) = n * (2 ^ (2148 - s) : Nat)) (hn : n.natAbs < 2 ^ 53) :
    IsF (double.write (.number neg mag place)) s n := by
  have habs : mag * 2 ^ (place + 2148).toNat = n.natAbs * 2 ^ (2148 - s) := by
    have := congrArg Int.natAbs h
    rwa [Int.natAbs_mul, Int.natAbs_mul, Int.natAbs_natCast, Int.natAbs_natCast, natAbs_sgn] at this
  obtain ⟨m, p, hr, hp1, hv⟩ := nearest_exact neg mag place n.natAbs s hs hp habs hn
  refine ⟨hs, neg, m, p, hr, hp1, ?_⟩
  have hv' : ((m * 2 ^ (p + 1074).toNat : Nat) : Int) = ((n.natAbs * 2 ^ (1074 - s) : Nat) : Int) := by rw [hv]
  rw [Int.natCast_mul, Int.natCast_mul] at hv'
  have hpos : (0 : Int) < ((2 ^ (2148 - s) : Nat) : Int) := Int.natCast_pos.2 (Nat.two_pow_pos _)
  have hpos' : (0 : Int) ≤ ((2 ^ (place + 2148).toNat : Nat) : Int) := Int.natCast_nonneg _
  unfold sgn at h ⊢
  cases neg
  · simp only [Bool.false_eq_true, if_false] at h ⊢
    have : 0 ≤ n := by
      have h1 : 0 ≤ n * ((2 ^ (2148 - s) : Nat) : Int) := by rw [← h]; exact Int.mul_nonneg (Int.natCast_nonneg _) hpos'
      exact Int.nonneg_of_mul_nonneg_left h1 hpos
    rw [hv', Int.natAbs_of_nonneg this]
  · simp only [if_true] at h ⊢
    have : n ≤ 0 := by
      have h1 : 0 ≤ -n * ((2 ^ (2148 - s) : Nat) : Int) := by
        rw [Int.neg_mul, ← h, Int.neg_mul, Int.neg_neg]; exact Int.mul_nonneg (Int.natCast_nonneg _) hpos'
      have := Int.nonneg_of_mul_nonneg_left h1 hpos
      omega
    rw [Int.neg_mul, hv', show ((n.natAbs : Nat) : Int) = -n from by omega, Int.neg_mul, Int.neg_neg]

theorem two_pow_cast (a b : Nat) : ((2 ^ (a + b) : Nat) : Int) = (2 ^ a : Nat) * (2 ^ b : Nat) := by
  rw [Nat.pow_add, Int.natCast_mul]

theorem sum_exact {sx sy : Bool} {mx my : Nat} {px py : Int} {s : Nat} {n m : Int} (hs : s ≤ 1074) (hpx : -1074 ≤ px) (hpy : -1074 ≤ py)
    (hx : sgn sx mx * (2 ^ (px + 1074).toNat : Nat) = n * (2 ^ (1074 - s) : Nat)) (hy : sgn sy my * (2 ^ (py + 1074).toNat : Nat) = m * (2 ^ (1074 - s) : Nat))
    (hb : (n + m).natAbs < 2 ^ 53) :
    ∃ d, (Datum.number sx mx px).sum (.number sy my py) = some d ∧ IsF (double.write d) s (n + m) := by
  refine ⟨_, rfl, ?_⟩
  generalize hbase : min px py = base
  have hbx : base ≤ px := by omega
  have hby : base ≤ py := by omega
  have hb0 : -1074 ≤ base := by omega
  have ex : signed sx mx (px - base).toNat * (2 ^ (base + 1074).toNat : Nat) = n * (2 ^ (1074 - s) : Nat) := by
    rw [signed_eq, Int.mul_assoc, ← two_pow_cast, show (px - base).toNat + (base + 1074).toNat = (px + 1074).toNat from by omega, hx]
  have ey : signed sy my (py - base).toNat * (2 ^ (base + 1074).toNat : Nat) = m * (2 ^ (1074 - s) : Nat) := by
    rw [signed_eq, Int.mul_assoc, ← two_pow_cast, show (py - base).toNat + (base + 1074).toNat = (py + 1074).toNat from by omega, hy]
  generalize signed sx mx (px - base).toNat = A at ex ⊢
  generalize signed sy my (py - base).toNat = B at ey ⊢
  refine write_exact _ _ _ _ _ hs (by omega) ?_ hb
  have e1 : sgn (if A + B = 0 then sx && sy else decide (A + B < 0)) (A + B).natAbs = A + B := by
    unfold sgn
    by_cases h0 : A + B = 0
    · simp [h0]
    · rw [if_neg h0]
      by_cases hlt : A + B < 0
      · simp only [hlt, decide_true, if_true]; omega
      · simp only [hlt, decide_false, Bool.false_eq_true, if_false]; omega
  obtain ⟨c, hc⟩ : ∃ c, c = 1074 := ⟨_, rfl⟩
  rw [e1, show (base + 2148).toNat = (base + 1074).toNat + c from by omega, two_pow_cast, ← Int.mul_assoc, Int.add_mul A B, ex, ey, ← Int.add_mul, Int.mul_assoc, ← two_pow_cast, show 1074 - s + c = 2148 - s from by omega]

theorem add_exact {x y s : Nat} {n m : Int} (hx : IsF x s n) (hy : IsF y s m) (hb : (n + m).natAbs < 2 ^ 53) : ∃ r, double.add x y = some r ∧ IsF r s (n + m) := by
  obtain ⟨hs, sx, mx, px, rx, hpx, vx⟩ := hx
  obtain ⟨_, sy, my, py, ry, hpy, vy⟩ := hy
  obtain ⟨d, hd, hF⟩ := sum_exact hs hpx hpy vx vy hb
  exact ⟨double.write d, by simp only [Format.add, rx, ry, hd, Option.map_some], hF⟩

theorem sgn_not (neg : Bool) (m : Nat) : sgn (!neg) m = - sgn neg m := by cases neg <;> simp [sgn]

theorem sub_exact {x y s : Nat} {n m : Int} (hx : IsF x s n) (hy : IsF y s m) (hb : (n - m).natAbs < 2 ^ 53) : ∃ r, double.sub x y = some r ∧ IsF r s (n - m) := by
  obtain ⟨hs, sx, mx, px, rx, hpx, vx⟩ := hx
  obtain ⟨_, sy, my, py, ry, hpy, vy⟩ := hy
  have vy' : sgn (!sy) my * (2 ^ (py + 1074).toNat : Nat) = (-m) * (2 ^ (1074 - s) : Nat) := by rw [sgn_not, Int.neg_mul, vy, Int.neg_mul]
  obtain ⟨d, hd, hF⟩ := sum_exact (m := -m) hs hpx hpy vx vy' (by rw [← Int.sub_eq_add_neg]; exact hb)
  refine ⟨double.write d, ?_, ?_⟩
  · simp only [Format.sub, rx, ry, Datum.opposite, hd, Option.map_some]
  · rw [Int.sub_eq_add_neg]; exact hF

theorem sgn_mul (a b : Bool) (m n : Nat) : sgn (a ^^ b) (m * n) = sgn a m * sgn b n := by
  cases a <;> cases b <;> simp [sgn, Int.neg_mul, Int.mul_neg, Int.natCast_mul]

theorem mul_exact {x y s t : Nat} {n m : Int} (hx : IsF x s n) (hy : IsF y t m) (hst : s + t ≤ 1074) (hb : (n * m).natAbs < 2 ^ 53) : ∃ r, double.mul x y = some r ∧ IsF r (s + t) (n * m) := by
  obtain ⟨hs, sx, mx, px, rx, hpx, vx⟩ := hx
  obtain ⟨ht, sy, my, py, ry, hpy, vy⟩ := hy
  refine ⟨double.write (.number (sx ^^ sy) (mx * my) (px + py)), by simp only [Format.mul, rx, ry, Datum.product, Option.map_some], ?_⟩
  refine write_exact _ _ _ _ _ hst (by omega) ?_ hb
  rw [sgn_mul, show (px + py + 2148).toNat = (px + 1074).toNat + (py + 1074).toNat from by omega, two_pow_cast]
  have : sgn sx mx * sgn sy my * (((2 ^ (px + 1074).toNat : Nat) : Int) * ((2 ^ (py + 1074).toNat : Nat) : Int)) = (sgn sx mx * ((2 ^ (px + 1074).toNat : Nat) : Int)) * (sgn sy my * ((2 ^ (py + 1074).toNat : Nat) : Int)) := by
    simp only [Int.mul_assoc, Int.mul_left_comm]
  rw [this, vx, vy]
  have e : ((2 ^ (2148 - (s + t)) : Nat) : Int) = ((2 ^ (1074 - s) : Nat) : Int) * ((2 ^ (1074 - t) : Nat) : Int) := by
    rw [← two_pow_cast, show 2148 - (s + t) = 1074 - s + (1074 - t) from by omega]
  rw [e]
  simp only [Int.mul_assoc, Int.mul_left_comm]

theorem compare_scale (a b : Int) {c : Int} (hc : 0 < c) : compare (a * c) (b * c) = compare a b := by
  simp only [compare, compareOfLessAndEq]
  have h1 : a * c < b * c ↔ a < b := ⟨fun h => Int.lt_of_mul_lt_mul_right h (Int.le_of_lt hc), fun h => Int.mul_lt_mul_of_pos_right h hc⟩
  have h2 : a * c = b * c ↔ a = b := ⟨fun h => Int.eq_of_mul_eq_mul_right (Int.ne_of_gt hc) h, fun h => by rw [h]⟩
  simp only [h1, h2]

theorem order_exact {x y s : Nat} {n m : Int} (hx : IsF x s n) (hy : IsF y s m) : double.order x y = some (compare n m) := by
  obtain ⟨hs, sx, mx, px, rx, hpx, vx⟩ := hx
  obtain ⟨_, sy, my, py, ry, hpy, vy⟩ := hy
  simp only [Format.order, rx, ry, Datum.order, Option.some.injEq]
  generalize hbase : min px py = base
  have hbx : base ≤ px := by omega
  have hby : base ≤ py := by omega
  have hb0 : -1074 ≤ base := by omega
  have ex : signed sx mx (px - base).toNat * (2 ^ (base + 1074).toNat : Nat) = n * (2 ^ (1074 - s) : Nat) := by
    rw [signed_eq, Int.mul_assoc, ← two_pow_cast, show (px - base).toNat + (base + 1074).toNat = (px + 1074).toNat from by omega, vx]
  have ey : signed sy my (py - base).toNat * (2 ^ (base + 1074).toNat : Nat) = m * (2 ^ (1074 - s) : Nat) := by
    rw [signed_eq, Int.mul_assoc, ← two_pow_cast, show (py - base).toNat + (base + 1074).toNat = (py + 1074).toNat from by omega, vy]
  have p1 : (0 : Int) < ((2 ^ (base + 1074).toNat : Nat) : Int) := Int.natCast_pos.2 (Nat.two_pow_pos _)
  have p2 : (0 : Int) < ((2 ^ (1074 - s) : Nat) : Int) := Int.natCast_pos.2 (Nat.two_pow_pos _)
  rw [← compare_scale _ _ p1, ex, ey, compare_scale _ _ p2]

/-- More halves. -/
theorem IsF.more {x s : Nat} {n : Int} (h : IsF x s n) (t : Nat) (ht : s + t ≤ 1074) : IsF x (s + t) (n * (2 ^ t : Nat)) := by
  obtain ⟨hs, sx, mx, px, rx, hpx, vx⟩ := h
  refine ⟨ht, sx, mx, px, rx, hpx, ?_⟩
  rw [vx, Int.mul_assoc, ← two_pow_cast, show t + (1074 - (s + t)) = 1074 - s from by omega]

theorem IsF.cast {x s : Nat} {n m : Int} (h : IsF x s n) (e : n = m) : IsF x s m := e ▸ h

end Go.Proofs.Ytmckaoeofikdaaa.Fp
