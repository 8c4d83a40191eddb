/- A product of two matrices of the table is a matrix of the table. -/
import Derived.Test.YtmckaoeofikdaaaSplB
namespace Go.Proofs.Ytmckaoeofikdaaa.Lift
open Go.Proofs.Ytmckaoeofikdaaa.Spl

theorem isF_half {x s : Nat} {n : Int} (h : Fp.IsF x (s + 1) (2 * n)) : Fp.IsF x s n := by
  obtain ⟨hs, neg, m, p, h1, h2, h3⟩ := h
  refine ⟨by omega, neg, m, p, h1, h2, ?_⟩
  rw [h3, show 1074 - s = (1074 - (s + 1)) + 1 by omega, Nat.pow_succ]
  generalize 2 ^ (1074 - (s + 1)) = X
  rw [Int.natCast_mul, Int.mul_comm 2 n, Int.mul_assoc, Int.mul_comm (X : Int)]
  rfl
theorem HoldsC.half {w : World} {b n s : Nat} {A A' : Nat → Zi} (h : HoldsC w b n (s + 1) A) (hA : ∀ i, i < n → A i = (2 * (A' i).1, 2 * (A' i).2)) : HoldsC w b n s A' := fun i hi => by
  obtain ⟨x, y, h1, h2, h3⟩ := h i hi
  rw [hA i hi] at h2 h3
  exact ⟨x, y, h1, isF_half h2, isF_half h3⟩
/-- The k-th kind's matrix times the table's i-th is the table's to_ i k-th. -/
theorem times_tab {i k : Nat} (hi : i < 96) (hk : k < 10) (ba bb ca cb : Nat) (w : World) (hA : HoldsC w ba 4 1 (matF ((k + 1 : Nat) : Int))) (hB : HoldsC w bb 4 1 (toZ (at_ i))) (hba : ba < w.heap.size) (hbb : bb < w.heap.size) :
    Calls Try.prog 73 #[.agg #[.int .i64 2, .slice (some ⟨ba, 0, none⟩) 4 ca], .agg #[.int .i64 2, .slice (some ⟨bb, 0, none⟩) 4 cb]] w (TimesPost 2 1 (toZ (at_ (to_ i (k + 1)))) w) := by
  have hA' : HoldsC w ba (2 * 2) 1 (toZ (gen (k + 1))) := fun j hj => by
    have h := gen_mat ⟨k, hk⟩ ⟨j, hj⟩
    simp only at h
    rw [← h]
    exact hA j hj
  have sA : ∀ j, j < 2 * 2 → Small (toZ (gen (k + 1)) j) 2 := fun j hj => by
    have h := gen_mat ⟨k, hk⟩ ⟨j, hj⟩
    simp only at h
    rw [← h]
    exact matF_small _ _
  have sB : ∀ j, j < 2 * 2 → Small (toZ (at_ i) j) 2 := fun j hj => at_small ⟨i, hi⟩ ⟨j, hj⟩
  refine (times_any 2 (by decide) ba bb ca cb 1 1 2 2 _ _ w hA' hB sA sB (by decide) (by decide) hba hbb).mono fun e w' ⟨be, he, hH, h1, h2⟩ => ?_
  exact ⟨be, he, HoldsC.half hH (fun j hj => gen_mul ⟨i, hi⟩ ⟨k, hk⟩ ⟨j, hj⟩), h1, h2⟩
end Go.Proofs.Ytmckaoeofikdaaa.Lift
