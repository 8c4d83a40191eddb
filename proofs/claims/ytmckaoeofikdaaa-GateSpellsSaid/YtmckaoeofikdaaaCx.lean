/- Exact complex arithmetic: pairs of words that stand for pairs of whole numbers over a power of two. -/
import Derived.Test.YtmckaoeofikdaaaFp
import Derived.Laws.ComplexArith
namespace Go.Proofs.Ytmckaoeofikdaaa
open Ieee

abbrev Zi := Int × Int
def zadd (z w : Zi) : Zi := (z.1 + w.1, z.2 + w.2)
def zmul (z w : Zi) : Zi := (z.1 * w.1 - z.2 * w.2, z.1 * w.2 + z.2 * w.1)
def IsC (x y : Nat) (s : Nat) (z : Zi) : Prop := Fp.IsF x s z.1 ∧ Fp.IsF y s z.2
def Small (z : Zi) (b : Nat) : Prop := z.1.natAbs ≤ b ∧ z.2.natAbs ≤ b

theorem Small.mono {z : Zi} {a b : Nat} (h : Small z a) (hab : a ≤ b) : Small z b := ⟨Nat.le_trans h.1 hab, Nat.le_trans h.2 hab⟩
theorem Small.add {z w : Zi} {a b : Nat} (h : Small z a) (k : Small w b) : Small (zadd z w) (a + b) := by
  obtain ⟨h1, h2⟩ := h; obtain ⟨k1, k2⟩ := k
  unfold Small zadd
  exact ⟨by show (z.1 + w.1).natAbs ≤ _; omega, by show (z.2 + w.2).natAbs ≤ _; omega⟩
theorem Small.mul {z w : Zi} {a b : Nat} (h : Small z a) (k : Small w b) : Small (zmul z w) (2 * (a * b)) := by
  obtain ⟨h1, h2⟩ := h; obtain ⟨k1, k2⟩ := k
  have m : ∀ {x y : Int}, x.natAbs ≤ a → y.natAbs ≤ b → (x * y).natAbs ≤ a * b := fun hx hy => by rw [Int.natAbs_mul]; exact Nat.mul_le_mul hx hy
  have q1 := m h1 k1
  have q2 := m h2 k2
  have q3 := m h1 k2
  have q4 := m h2 k1
  unfold Small zmul
  exact ⟨by show (z.1 * w.1 - z.2 * w.2).natAbs ≤ _; omega, by show (z.1 * w.2 + z.2 * w.1).natAbs ≤ _; omega⟩

theorem addC {a b c d s : Nat} {z w : Zi} (h : IsC a b s z) (k : IsC c d s w) (hb : Small (zadd z w) (2 ^ 50)) : ∃ x y, cSumBits .add .f64 a b c d = some (x, y) ∧ IsC x y s (zadd z w) := by
  have e : (2 : Nat) ^ 50 < 2 ^ 53 := by decide
  obtain ⟨x, h1, h2⟩ := Fp.add_exact h.1 k.1 (Nat.lt_of_le_of_lt hb.1 e)
  obtain ⟨y, h3, h4⟩ := Fp.add_exact h.2 k.2 (Nat.lt_of_le_of_lt hb.2 e)
  refine ⟨x, y, ?_, h2, h4⟩
  have g1 : floatBits .add .f64 a c = some x := h1
  have g2 : floatBits .add .f64 b d = some y := h3
  simp [cSumBits, g1, g2]

theorem mulC {a b c d s t : Nat} {z w : Zi} (h : IsC a b s z) (k : IsC c d t w) (hst : s + t ≤ 1074) {p q : Nat} (hz : Small z p) (hw : Small w q) (hpq : 2 * (p * q) ≤ 2 ^ 50) : ∃ x y, cMulBits a b c d = some (x, y) ∧ IsC x y (s + t) (zmul z w) := by
  have e : (2 : Nat) ^ 50 < 2 ^ 53 := by decide
  have m : ∀ {x y : Int}, x.natAbs ≤ p → y.natAbs ≤ q → (x * y).natAbs < 2 ^ 53 := fun hx hy => by
    rw [Int.natAbs_mul]
    have := Nat.mul_le_mul hx hy
    omega
  obtain ⟨ac, h1, g1⟩ := Fp.mul_exact h.1 k.1 hst (m hz.1 hw.1)
  obtain ⟨bd, h2, g2⟩ := Fp.mul_exact h.2 k.2 hst (m hz.2 hw.2)
  obtain ⟨ad, h3, g3⟩ := Fp.mul_exact h.1 k.2 hst (m hz.1 hw.2)
  obtain ⟨bc, h4, g4⟩ := Fp.mul_exact h.2 k.1 hst (m hz.2 hw.1)
  have hs := hz.mul hw
  obtain ⟨x, h5, g5⟩ := Fp.sub_exact g1 g2 (Nat.lt_of_le_of_lt (Nat.le_trans hs.1 hpq) e)
  obtain ⟨y, h6, g6⟩ := Fp.add_exact g3 g4 (Nat.lt_of_le_of_lt (Nat.le_trans hs.2 hpq) e)
  refine ⟨x, y, ?_, g5, g6⟩
  have f1 : floatBits .mul .f64 a c = some ac := h1
  have f2 : floatBits .mul .f64 b d = some bd := h2
  have f3 : floatBits .mul .f64 a d = some ad := h3
  have f4 : floatBits .mul .f64 b c = some bc := h4
  have f5 : floatBits .sub .f64 ac bd = some x := h5
  have f6 : floatBits .add .f64 ad bc = some y := h6
  simp [cMulBits, f1, f2, f3, f4, f5, f6]

/-! ### Products of matrices that lie in rows -/
def psum (n : Nat) (A B : Nat → Zi) (k idx : Nat) : Zi := (List.range k).foldl (fun acc q => zadd acc (zmul (A (n * (idx / n) + q)) (B (n * q + idx % n)))) (0, 0)
def mulM (n : Nat) (A B : Nat → Zi) : Nat → Zi := psum n A B n
theorem psum_zero (n : Nat) (A B : Nat → Zi) (idx : Nat) : psum n A B 0 idx = (0, 0) := rfl
theorem psum_succ (n : Nat) (A B : Nat → Zi) (k idx : Nat) : psum n A B (k + 1) idx = zadd (psum n A B k idx) (zmul (A (n * (idx / n) + k)) (B (n * k + idx % n))) := by
  unfold psum; rw [List.range_succ, List.foldl_append]; rfl
theorem idx_lt {n i j : Nat} (hi : i < n) (hj : j < n) : n * i + j < n * n := by
  have : n * i + n ≤ n * n := by rw [← Nat.mul_succ]; exact Nat.mul_le_mul_left _ hi
  omega
theorem psum_small {n : Nat} {A B : Nat → Zi} {p q : Nat} (hA : ∀ i, i < n * n → Small (A i) p) (hB : ∀ i, i < n * n → Small (B i) q) {k idx : Nat} (hk : k ≤ n) (hi : idx < n * n) : Small (psum n A B k idx) (k * (2 * (p * q))) := by
  induction k with
  | zero => exact ⟨Nat.zero_le _, Nat.zero_le _⟩
  | succ k ih =>
    rw [psum_succ, Nat.succ_mul]
    have hn : 0 < n := by omega
    have h1 : idx / n < n := Nat.div_lt_of_lt_mul hi
    have h2 : idx % n < n := Nat.mod_lt _ hn
    exact (ih (by omega)).add ((hA _ (idx_lt h1 (by omega))).mul (hB _ (idx_lt (by omega) h2)))
theorem idx_div {n i j : Nat} (hj : j < n) : (n * i + j) / n = i := by
  rw [Nat.mul_add_div (by omega), Nat.div_eq_of_lt hj, Nat.add_zero]
theorem idx_mod {n i j : Nat} (hj : j < n) : (n * i + j) % n = j := by
  rw [Nat.mul_add_mod, Nat.mod_eq_of_lt hj]

/-- How far a product has come: whole up to a place, in part there, nought behind. -/
def part (n : Nat) (A B : Nat → Zi) (at' k : Nat) : Nat → Zi := fun idx => if idx < at' then mulM n A B idx else if idx = at' then psum n A B k idx else (0, 0)
theorem part_start (n : Nat) (A B : Nat → Zi) (idx : Nat) : part n A B 0 0 idx = (0, 0) := by
  unfold part
  split
  · omega
  · split
    · rfl
    · rfl
theorem part_next (n : Nat) (A B : Nat → Zi) (a idx : Nat) : part n A B a n idx = part n A B (a + 1) 0 idx := by
  unfold part
  by_cases h : idx < a
  · rw [if_pos h, if_pos (by omega)]
  · by_cases h2 : idx = a
    · subst h2; rw [if_neg h, if_pos rfl, if_pos (by omega)]; rfl
    · rw [if_neg h, if_neg h2, if_neg (by omega)]
      by_cases h3 : idx = a + 1
      · rw [if_pos h3]; rfl
      · rw [if_neg h3]
theorem part_step (n : Nat) (A B : Nat → Zi) (a k idx : Nat) : part n A B a (k + 1) idx = if idx = a then zadd (part n A B a k a) (zmul (A (n * (a / n) + k)) (B (n * k + a % n))) else part n A B a k idx := by
  unfold part
  by_cases h2 : idx = a
  · subst h2
    rw [if_neg (by omega), if_pos rfl, if_pos rfl, if_neg (by omega), if_pos rfl, psum_succ]
  · by_cases h : idx < a
    · simp [h, h2]
    · simp [h, h2]
theorem part_end (n : Nat) (A B : Nat → Zi) {idx : Nat} (h : idx < n * n) : part n A B (n * n) 0 idx = mulM n A B idx := by
  unfold part; rw [if_pos h]
theorem part_small {n : Nat} {A B : Nat → Zi} {p q : Nat} (hA : ∀ i, i < n * n → Small (A i) p) (hB : ∀ i, i < n * n → Small (B i) q) {a k idx : Nat} (hk : k ≤ n) (hi : idx < n * n) : Small (part n A B a k idx) (n * (2 * (p * q))) := by
  unfold part
  split
  · exact psum_small hA hB (Nat.le_refl _) hi
  · split
    · exact (psum_small hA hB hk hi).mono (Nat.mul_le_mul_right _ hk)
    · exact ⟨Nat.zero_le _, Nat.zero_le _⟩
end Go.Proofs.Ytmckaoeofikdaaa
