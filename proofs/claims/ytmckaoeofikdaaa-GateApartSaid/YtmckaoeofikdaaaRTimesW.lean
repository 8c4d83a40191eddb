/- Times of the document, walked. -/
import Derived.Test.YtmckaoeofikdaaaRTimes
namespace Go.Proofs.Ytmckaoeofikdaaa
open Go.RowKit

/-- What a product of the document's answers. -/
def RTimesPost (n s : Nat) (E : Nat → Zi) (w : World) (e : Ending) (w' : World) : Prop :=
  ∃ be, e = .returned (.slice (some ⟨be, 0, none⟩) n n) ∧ HoldsR w' be n s E ∧ w.heap.size ≤ be ∧ be < w'.heap.size ∧ Below w.heap.size w w'

set_option maxHeartbeats 4000000 in
set_option maxRecDepth 100000 in
theorem rtimes_any (n : Nat) (hn : n ≤ 64) (ba bb ca cb s t p q : Nat) (A B : Nat → Zi) (w : World) (hA : HoldsR w ba n s A) (hB : HoldsR w bb n t B) (sA : ∀ i, i < n * n → Small (A i) p) (sB : ∀ i, i < n * n → Small (B i) q)
    (hpq : 64 * (2 * (p * q)) ≤ 2 ^ 49) (hst : s + t ≤ 1074) :
    Calls Try.prog 75 #[.slice (some ⟨ba, 0, none⟩) n ca, .slice (some ⟨bb, 0, none⟩) n cb] w (RTimesPost n (s + t) (mulM n A B) w) := by
  obtain ⟨i0, hi, hz0, hz1, hz2⟩ := info_parts info111
  obtain ⟨i1, hj, hy0, hy1, hy2⟩ := info_parts info51
  have HA := Lib.hid hA
  have HB := Lib.hid hB
  have SA := Lib.hid sA
  have SB := Lib.hid sB
  have HPQ := Lib.hid hpq
  clear hA hB sA sB hpq
  have hmk1 := fun w => run_makeSlice (P := Try.prog) w 69 111 i0 (.slice none 0 0) Try.underlying69 hi hz0 .i64 .i64 (n : Int) (n : Int) (by omega) (Int.le_refl _) (by rw [hz1]; omega) (by rw [hz2]; omega) (by omega)
  have hmk2 := fun w => run_makeSlice (P := Try.prog) w 111 51 i1 (.agg #[.float .f64 0, .float .f64 0]) Try.underlying111 hj hy0 .i64 .i64 (n : Int) (n : Int) (by omega) (Int.le_refl _) (by rw [hy1]; omega) (by rw [hy2]; omega) (by omega)
  have HMK2 := Lib.hid hmk2
  clear hmk2
  go_enter Try.func75, Try.ntmps75
  go_wp2
  go_loopw [7, 8, 9, 10] (fun i _ _ _ wr => ∃ r : Nat, r ≤ n ∧ i = .int .i64 r ∧ Hid (RT w n (s + t) w.heap.size r (mulM n A B) wr)) (fun i _ _ _ _ => n - (intOf i).toNat)
  case atStart => exact ⟨0, Nat.zero_le _, rfl, Lib.hid (RT.start _)⟩
  case round =>
    obtain ⟨r, hr, rfl, HT⟩ := hrel
    clear hmk1
    obtain ⟨w1, rfl⟩ : ∃ w1 : World, w1 = wr := ⟨_, rfl⟩
    by_cases hlt : r < n
    · have hmk2 := HMK2.out
      obtain ⟨v0, g1⟩ := HT.out.rest r (Nat.le_refl _) hlt
      have g2 := HT.out.fr r hlt
      have g3 := HT.out.bt1
      have hrow := HT.out.row hlt 51
      rw [World.setCell_alloc_past _ _ _ _ g3] at hrow
      go_wp2
      go_loopw [8, 9, 10] (fun c _ _ wr => ∃ c' : Nat, c' ≤ n ∧ c = .int .i64 c' ∧ Hid (RS w n (s + t) w.heap.size w1.heap.size r c' (mulM n A B) wr)) (fun c _ _ _ => n - (intOf c).toNat)
      case atStart => exact ⟨0, Nat.zero_le _, rfl, Lib.hid hrow⟩
      case round =>
        obtain ⟨c, hc, rfl, HS⟩ := hrel
        clear hmk2 g1 g2 g3 hrow HT
        obtain ⟨w2, rfl⟩ : ∃ w2 : World, w2 = wr := ⟨_, rfl⟩
        by_cases hct : c < n
        · have hX := idx_lt hlt hct
          have f0 : (w2.alloc (.cells #[.float .f64 0, .float .f64 0] 51)).cell? ⟨w2.heap.size, 0, none⟩ = some (.float .f64 0) := new_cell _ _ _ _ _ _ rfl rfl
          have f1 : (w2.alloc (.cells #[.float .f64 0, .float .f64 0] 51)).cell? ⟨w2.heap.size, 1, none⟩ = some (.float .f64 0) := new_cell _ _ _ _ _ _ rfl rfl
          have F0 := Lib.hid f0
          have F1 := Lib.hid f1
          clear f0 f1
          go_wp2
          go_loopw [10] (fun k wr => ∃ m x y : Nat, m ≤ n ∧ k = .int .i64 m ∧ Hid (wr.cell? ⟨w2.heap.size, 0, none⟩ = some (.float .f64 x) ∧ wr.cell? ⟨w2.heap.size, 1, none⟩ = some (.float .f64 y) ∧ IsC x y (s + t) (psum n A B m (n * r + c)) ∧ wr.frozen? ⟨w2.heap.size, 0, none⟩ = false ∧ wr.frozen? ⟨w2.heap.size, 1, none⟩ = false ∧ Below w2.heap.size w2 wr ∧ w2.heap.size < wr.heap.size)) (fun k _ => n - (intOf k).toNat)
          case atStart => exact ⟨0, 0, 0, Nat.zero_le _, rfl, Lib.hid ⟨F0.out, F1.out, ⟨isF_nought _ hst, isF_nought _ hst⟩, new_frozen _ _ _ _ _ rfl, new_frozen _ _ _ _ _ rfl, (Below.refl _ _).alloc (Nat.le_refl _) _, by simp⟩⟩
          case round =>
            obtain ⟨m, x, y, hm, rfl, HI⟩ := hrel
            clear F0 F1
            obtain ⟨w3, rfl⟩ : ∃ w3 : World, w3 = wr := ⟨_, rfl⟩
            obtain ⟨i1', i2', iC, j1, j2, iB, iL⟩ := HI.out
            clear HI
            by_cases hmt : m < n
            · have hbel : Below w.heap.size w w3 := HS.out.bel.trans (iB.mono HS.out.bel.size)
              obtain ⟨ra, c1, hra⟩ := HA.out r hlt
              obtain ⟨a1, a2, c2, c3, z1⟩ := hra m hmt
              obtain ⟨rb, c4, hrb⟩ := HB.out m hmt
              obtain ⟨b1, b2, c5, c6, z2⟩ := hrb c hct
              have K : ∀ wx, Below w.heap.size w wx → wx.cell? ⟨ba, r, none⟩ = some (.slice (some ⟨ra, 0, none⟩) n n) ∧ wx.cell? ⟨ra, m * 2, none⟩ = some (.float .f64 a1) ∧ wx.cell? ⟨ra, m * 2 + 1, none⟩ = some (.float .f64 a2) ∧
                  wx.cell? ⟨bb, m, none⟩ = some (.slice (some ⟨rb, 0, none⟩) n n) ∧ wx.cell? ⟨rb, c * 2, none⟩ = some (.float .f64 b1) ∧ wx.cell? ⟨rb, c * 2 + 1, none⟩ = some (.float .f64 b2) := fun wx hb =>
                ⟨(hb.cell (World.block_lt_of_cell? w _ c1)).trans c1, (hb.cell (World.block_lt_of_cell? w _ c2)).trans c2, (hb.cell (World.block_lt_of_cell? w _ c3)).trans c3, (hb.cell (World.block_lt_of_cell? w _ c4)).trans c4, (hb.cell (World.block_lt_of_cell? w _ c5)).trans c5, (hb.cell (World.block_lt_of_cell? w _ c6)).trans c6⟩
              obtain ⟨p1, s1, p2, s2, q1, u1, q2, u2, e1, e2, e3, e4, e5, e6, e7, e8, zz⟩ := stepC iC z1 z2 hst (SA.out _ (idx_lt hlt hmt)) (SB.out _ (idx_lt hmt hct)) (psum_small SA.out SB.out (k := m) (by omega) hX) (by
                have h1 := HPQ.out
                have h2 : m * (2 * (p * q)) + 2 * (p * q) = (m + 1) * (2 * (p * q)) := (Nat.succ_mul m _).symm
                have h3 : (m + 1) * (2 * (p * q)) ≤ 64 * (2 * (p * q)) := Nat.mul_le_mul_right _ (by omega)
                omega)
              have zz' : IsC s2 u2 (s + t) (psum n A B (m + 1) (n * r + c)) := by rw [psum_succ, idx_div hct, idx_mod hct]; exact zz
              have ZZ := Lib.hid zz'
              have k1 := fun t w => run_fl .mul (.inr (.inr rfl)) t e1 w
              have k2 := fun t w => run_fl .add (.inl rfl) t e2 w
              have k3 := fun t w => run_fl .mul (.inr (.inr rfl)) t e3 w
              have k4 := fun t w => run_fl .sub (.inr (.inl rfl)) t e4 w
              have k5 := Lib.hid fun t w => run_fl .mul (.inr (.inr rfl)) t e5 w
              have k6 := Lib.hid fun t w => run_fl .add (.inl rfl) t e6 w
              have k7 := Lib.hid fun t w => run_fl .mul (.inr (.inr rfl)) t e7 w
              have k8 := Lib.hid fun t w => run_fl .add (.inl rfl) t e8 w
              obtain ⟨d1, d2, d3, d4, d5, d6⟩ := K w3 hbel
              have HK := Lib.hid K
              have I2 := Lib.hid i2'
              have J1 := Lib.hid j1
              have J2 := Lib.hid j2
              clear K c1 c2 c3 c4 c5 c6 z1 z2 hra hrb e1 e2 e3 e4 e5 e6 e7 e8 zz zz' iC hbel i2' j1 j2
              go_upto_region 14 with fail
              go_still_tail 39, (by kernel_rfl)
              change wpList _ _ _ _ _ w3.drew
              have h1 : w3.drew.cell? ⟨w2.heap.size, 0, none⟩ = some (.float .f64 x) := i1'
              have h2 : w3.drew.cell? ⟨w2.heap.size, 1, none⟩ = some (.float .f64 y) := I2.out
              have h3 : w3.drew.frozen? ⟨w2.heap.size, 0, none⟩ = false := J1.out
              have h4 : w3.drew.frozen? ⟨w2.heap.size, 1, none⟩ = false := J2.out
              have h5 : Below w2.heap.size w2 w3.drew := iB.drew
              have h6 : w2.heap.size < w3.drew.heap.size := iL
              clear d1 d2 d3 d4 d5 d6 i1' I2 J1 J2 iB iL k1 k2 k3 k4
              generalize w3.drew = w4 at h1 h2 h3 h4 h5 h6 ⊢
              have H2 := Lib.hid h2
              have H4 := Lib.hid h4
              have H5 := Lib.hid h5
              have H6 := Lib.hid h6
              clear h2 h4 h5 h6
              go_upto_region 15 with fail
              have i1 : (w4.setCell ⟨w2.heap.size, 0, none⟩ (.float .f64 s2)).cell? ⟨w2.heap.size, 0, none⟩ = some (.float .f64 s2) := World.cell?_setCell_same _ _ _ h1
              have i2 : (w4.setCell ⟨w2.heap.size, 0, none⟩ (.float .f64 s2)).cell? ⟨w2.heap.size, 1, none⟩ = some (.float .f64 y) := (cell_set_ne _ _ _ _ _ _ (.inr (by decide))).trans H2.out
              have i3 : (w4.setCell ⟨w2.heap.size, 0, none⟩ (.float .f64 s2)).frozen? ⟨w2.heap.size, 0, none⟩ = false := (World.frozen?_setCell _ _ _ _).trans h3
              have i4 : (w4.setCell ⟨w2.heap.size, 0, none⟩ (.float .f64 s2)).frozen? ⟨w2.heap.size, 1, none⟩ = false := (World.frozen?_setCell _ _ _ _).trans H4.out
              have i5 : Below w2.heap.size w2 (w4.setCell ⟨w2.heap.size, 0, none⟩ (.float .f64 s2)) := H5.out.setCell (Nat.le_refl _) _
              have i6 : w2.heap.size < (w4.setCell ⟨w2.heap.size, 0, none⟩ (.float .f64 s2)).heap.size := by simp; exact H6.out
              clear h1 H2 h3 H4 H5 H6
              generalize w4.setCell ⟨w2.heap.size, 0, none⟩ (.float .f64 s2) = w5 at i1 i2 i3 i4 i5 i6 ⊢
              obtain ⟨d1, d2, d3, d4, d5, d6⟩ := HK.out w5 (HS.out.bel.trans (i5.mono HS.out.bel.size))
              have k1 := k5.out
              have k2 := k6.out
              have k3 := k7.out
              have k4 := k8.out
              have I1 := Lib.hid i1
              have I3 := Lib.hid i3
              have I4 := Lib.hid i4
              clear k5 k6 k7 k8 i1 i3 i4
              go_still_tail 39, (by kernel_rfl)
              change wpList _ _ _ _ _ w5.drew
              have h1 : w5.drew.cell? ⟨w2.heap.size, 0, none⟩ = some (.float .f64 s2) := I1.out
              have h2 : w5.drew.cell? ⟨w2.heap.size, 1, none⟩ = some (.float .f64 y) := i2
              have h3 : w5.drew.frozen? ⟨w2.heap.size, 0, none⟩ = false := I3.out
              have h4 : w5.drew.frozen? ⟨w2.heap.size, 1, none⟩ = false := I4.out
              have h5 : Below w2.heap.size w2 w5.drew := i5.drew
              have h6 : w2.heap.size < w5.drew.heap.size := i6
              clear d1 d2 d3 d4 d5 d6 I1 i2 I3 I4 i5 i6 k1 k2 k3 k4
              generalize w5.drew = w6 at h1 h2 h3 h4 h5 h6 ⊢
              have HN : Hid ((w6.setCell ⟨w2.heap.size, 1, none⟩ (.float .f64 u2)).cell? ⟨w2.heap.size, 0, none⟩ = some (.float .f64 s2) ∧ (w6.setCell ⟨w2.heap.size, 1, none⟩ (.float .f64 u2)).cell? ⟨w2.heap.size, 1, none⟩ = some (.float .f64 u2) ∧ IsC s2 u2 (s + t) (psum n A B (m + 1) (n * r + c)) ∧ (w6.setCell ⟨w2.heap.size, 1, none⟩ (.float .f64 u2)).frozen? ⟨w2.heap.size, 0, none⟩ = false ∧ (w6.setCell ⟨w2.heap.size, 1, none⟩ (.float .f64 u2)).frozen? ⟨w2.heap.size, 1, none⟩ = false ∧ Below w2.heap.size w2 (w6.setCell ⟨w2.heap.size, 1, none⟩ (.float .f64 u2)) ∧ w2.heap.size < (w6.setCell ⟨w2.heap.size, 1, none⟩ (.float .f64 u2)).heap.size) := Lib.hid
                ⟨(cell_set_ne _ _ _ _ _ _ (.inr (by decide))).trans h1, World.cell?_setCell_same _ _ _ h2, ZZ.out, (World.frozen?_setCell _ _ _ _).trans h3, (World.frozen?_setCell _ _ _ _).trans h4, h5.setCell (Nat.le_refl _) _, by simp; exact h6⟩
              clear h1 h3 h5 h6 ZZ
              go_wp2
              go_roundw
              case rel => exact ⟨m + 1, s2, u2, by omega, by go_num, HN⟩
              case measure => simp [intOf]; omega
            · have hmn : m = n := by omega
              rw [hmn] at iC
              have hS3 := HS.out.later iB
              have g1 := hS3.cur
              have G6 := Lib.hid (HS.out.later (iB.drew))
              have IC := Lib.hid iC
              clear hS3 iC hmn iB iL j1 j2
              go_upto_region 16 with fail
              go_still_tail 7, (by kernel_rfl)
              change wpList _ _ _ _ _ w3.drew
              generalize w3.drew = w4 at G6 ⊢
              have hS3 := G6.out
              obtain ⟨u0, v0, g2, g3⟩ := hS3.todo c hct
              have g4 := hS3.fw (c * 2)
              have g5 := hS3.fw (c * 2 + 1)
              have HE := Lib.hid (hS3.entry hct IC.out)
              clear hS3 G6
              go_wp2
              go_roundw
              case rel => exact ⟨c + 1, by omega, by go_num, HE⟩
              case measure => simp [intOf]; omega
        · have hcn : c = n := by omega
          have HT' : Hid (RT w n (s + t) w.heap.size (r + 1) (mulM n A B) w2) := Lib.hid (by have := HS.out; rw [hcn] at this; exact this.whole)
          clear hcn
          go_wp2
          go_roundw
          case rel => exact ⟨r + 1, by omega, by go_num, HT'⟩
          case measure => simp [intOf]; omega
    · have hrn : r = n := by omega
      have hfin := HT.out
      rw [hrn] at hfin
      have g3 := hfin.bt1
      have HF := Lib.hid hfin
      clear hrn hfin
      go_wp2
      go_ret
      exact ⟨_, rfl, HF.out.holds, Nat.le_refl _, g3, HF.out.bel⟩
end Go.Proofs.Ytmckaoeofikdaaa
