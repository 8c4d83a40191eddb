/- slices.Index and slices.Contains at []int. -/
import Derived.Test.YtmckaoeofikdaaaBase
import Derived.Lib.Hide
import Derived.Deep.LoopGhost
namespace Go.Proofs.Ytmckaoeofikdaaa
open Go.RowKit

/-- Whole numbers that lie in memory. -/
def IsL (w : World) (a : Option Addr) (zs : List Int) : Prop := zs.length ≤ maxLen ∧ (zs = [] ∨ ∃ b off, a = some ⟨b, off, none⟩ ∧ ∀ i, i < zs.length → w.cell? ⟨b, off + i, none⟩ = some (.int .i64 (zs.getD i 0)))
theorem IsL.nil (w : World) (a : Option Addr) : IsL w a [] := ⟨Nat.zero_le _, .inl rfl⟩
theorem IsL.take {w : World} {a : Option Addr} {zs : List Int} (h : IsL w a zs) (n : Nat) : IsL w a (zs.take n) := by
  obtain ⟨h1, h2⟩ := h
  refine ⟨Nat.le_trans (List.length_take_le' n zs) h1, ?_⟩
  rcases h2 with rfl | ⟨b, off, rfl, hc⟩
  · exact .inl (by simp)
  · refine .inr ⟨b, off, rfl, fun i hi => ?_⟩
    have hi' : i < zs.length := by rw [List.length_take] at hi; omega
    rw [hc i hi']
    congr 2
    rw [List.length_take] at hi
    rw [List.getD_eq_getElem?_getD, List.getD_eq_getElem?_getD, List.getElem?_take, if_pos (by omega)]

/-- Where a number stands first. -/
def idxF (zs : List Int) (v : Int) : Int :=
  match zs.findIdx? (· == v) with
  | some i => (i : Nat)
  | none => -1
theorem idxF_hit {zs : List Int} {v : Int} {k : Nat} (hk : k < zs.length) (hv : zs.getD k 0 = v) (hn : ∀ j, j < k → zs.getD j 0 ≠ v) : idxF zs v = k := by
  have : zs.findIdx? (· == v) = some k := by
    rw [List.findIdx?_eq_some_iff_getElem]
    refine ⟨hk, ?_, fun j hj => ?_⟩
    · rw [List.getD_eq_getElem?_getD, List.getElem?_eq_getElem hk] at hv
      simpa using hv
    · have := hn j hj
      rw [List.getD_eq_getElem?_getD, List.getElem?_eq_getElem (by omega)] at this
      simpa using this
  unfold idxF; rw [this]
theorem idxF_miss {zs : List Int} {v : Int} (hn : ∀ j, j < zs.length → zs.getD j 0 ≠ v) : idxF zs v = -1 := by
  have : zs.findIdx? (· == v) = none := by
    rw [List.findIdx?_eq_none_iff]
    intro x hx
    obtain ⟨j, hj, rfl⟩ := List.mem_iff_getElem.1 hx
    have := hn j hj
    rw [List.getD_eq_getElem?_getD, List.getElem?_eq_getElem hj] at this
    simpa using this
  unfold idxF; rw [this]
theorem idxF_ge {zs : List Int} {v : Int} : decide (0 ≤ idxF zs v) = zs.contains v := by
  rw [Bool.eq_iff_iff, decide_eq_true_iff, List.contains_iff_mem]
  unfold idxF
  constructor
  · intro h
    split at h
    · rename_i i hi
      obtain ⟨h1, h2, _⟩ := List.findIdx?_eq_some_iff_getElem.1 hi
      have : zs[i] = v := by simpa using h2
      rw [← this]; exact List.getElem_mem h1
    · omega
  · intro h
    split
    · omega
    · rename_i hn
      rw [List.findIdx?_eq_none_iff] at hn
      have := hn v h
      simp at this

theorem index_any (a : Option Addr) (cap : Nat) (zs : List Int) (v : Int) (w : World) (h : IsL w a zs) :
    Calls Try.prog 80 #[.slice a zs.length cap, .int .i64 v] w fun e w' => e = .returned (.int .i64 (idxF zs v)) ∧ w = w' := by
  obtain ⟨hm, h⟩ := h
  unfold maxLen at hm
  rcases h with rfl | ⟨b, off, rfl, hc⟩
  · have HI : Hid (idxF [] v = -1) := Lib.hid (idxF_miss fun j hj => by simp at hj)
    go_enter Try.func80, Try.ntmps80
    go_wp2
    go_loop [8] (fun i => i = .int .i64 0) (fun _ => 0)
    case atStart => rfl
    case round =>
      subst hrel
      go_wp2
      go_ret
      exact ⟨by rw [HI.out]; rfl, rfl⟩
  · generalize hn : zs.length = n at hm
    have HC := Lib.hid hc
    clear hc
    go_enter Try.func80, Try.ntmps80
    go_wp2
    go_loop [5, 8] (fun _ i => ∃ k : Nat, k ≤ n ∧ i = .int .i64 k ∧ Hid (∀ j, j < k → zs.getD j 0 ≠ v)) (fun _ i => n - (intOf i).toNat)
    case atStart => exact ⟨0, Nat.zero_le _, rfl, Lib.hid fun j hj => by omega⟩
    case round =>
      obtain ⟨k, hk, rfl, HN⟩ := hrel
      by_cases hlt : k < n
      · have hcell : w.cell? ⟨b, off + k, none⟩ = some (.int .i64 (zs.getD k 0)) := HC.out k (by omega)
        obtain ⟨z, hz⟩ : ∃ z, zs.getD k 0 = z := ⟨_, rfl⟩
        rw [hz] at hcell
        have HZ := Lib.hid hz
        clear hz
        by_cases hv : z = v
        · have HI := Lib.hid (idxF_hit (zs := zs) (v := v) (k := k) (by omega) (HZ.out.trans hv) HN.out)
          subst hv
          clear HN HZ
          go_wp2
          go_ret
          exact ⟨by rw [HI.out]; rfl, rfl⟩
        · have HN' : Hid (∀ j, j < k + 1 → zs.getD j 0 ≠ v) := Lib.hid fun j hj => by
            rcases Nat.lt_succ_iff_lt_or_eq.1 hj with h | h
            · exact HN.out j h
            · rw [h, HZ.out]; exact hv
          have hv' : (v == z) = false := by
            rw [beq_eq_false_iff_ne]; exact Ne.symm hv
          clear hv HN HZ
          go_wp2
          go_round
          case rel => exact ⟨k + 1, by omega, by go_num, HN'⟩
          case measure => simp [intOf]; omega
      · have HI : Hid (idxF zs v = -1) := Lib.hid (idxF_miss fun j hj => HN.out j (by omega))
        clear HN
        go_wp2
        go_ret
        exact ⟨by rw [HI.out]; rfl, rfl⟩

theorem contains_any (a : Option Addr) (cap : Nat) (zs : List Int) (v : Int) (w : World) (h : IsL w a zs) :
    Calls Try.prog 77 #[.slice a zs.length cap, .int .i64 v] w fun e w' => e = .returned (.bool (zs.contains v)) ∧ w = w' := by
  have H := Lib.hid (idxF_ge (zs := zs) (v := v))
  go_enter Try.func77, Try.ntmps77
  go_wp2_with (go_at_call 80; refine (index_any _ _ _ _ _ h).mono ?_; rintro e w' ⟨rfl, rfl⟩)
  go_ret
  exact ⟨by rw [← H.out]; rfl, rfl⟩
end Go.Proofs.Ytmckaoeofikdaaa
