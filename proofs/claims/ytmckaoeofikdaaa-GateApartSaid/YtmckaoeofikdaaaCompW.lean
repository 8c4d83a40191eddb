/- Compose of package gate, walked. -/
import Derived.Test.YtmckaoeofikdaaaComp
namespace Go.Proofs.Ytmckaoeofikdaaa
open Go.RowKit Lift

set_option maxHeartbeats 4000000 in
set_option maxRecDepth 100000 in
theorem compose_main (k1 k2 : Int) (n : Nat) (hn : n ≤ 8) (A B : Nat → Zi) (p : Nat → Bool) (w : World)
    (m1 : ∀ w, Calls Try.prog 40 #[.int .i64 k1] w (MatPost n A w)) (m2 : ∀ w, Calls Try.prog 40 #[.int .i64 k2] w (MatPost n B w))
    (sA : ∀ i, Small (A i) 2) (sB : ∀ i, Small (B i) 2)
    (mk : ∀ i : Nat, i < 20 → ∃ (m : Nat) (M : Nat → Zi), m ≤ 8 ∧ (∀ w, Calls Try.prog 40 #[.int .i64 ((i : Int) + 1)] w (MatPost m M w)) ∧ (m ≠ n → p i = false) ∧ (m = n → p i = sameM (n * n) (dbl M) (mulM n B A))) :
    Calls Try.prog 46 #[.int .i64 k1, .int .i64 k2] w fun e w' => e = .returned (.tuple #[.int .i64 (leastF p).1, .bool (leastF p).2]) ∧ Below w.heap.size w w' := by
  have C1 := Lib.hid (fun i hi h hb => leastF_hit (p := p) (i := i) hi h hb)
  have C2 := Lib.hid (fun h => leastF_none (p := p) h)
  have MK := Lib.hid mk
  have SA := Lib.hid sA
  have SB := Lib.hid sB
  generalize leastF p = R at C1 C2 ⊢
  obtain ⟨R1, R2⟩ := R
  clear sA sB mk
  go_enter Try.func46, Try.ntmps46
  go_upto_region 1 with fail
  go_upto_region 2 with (go_at_call 40; refine (m1 _).mono ?_; rintro e w1 ⟨b1, rfl, h10, h11, h12, h13⟩)
  clear m1
  go_upto_region 3 with (go_at_call 40; refine (m2 _).mono ?_; rintro e w2 ⟨b2, rfl, h20, h21, h22, h23⟩)
  have ca0 : (w2.alloc (.cells #[.int .i64 n, .slice (some ⟨b2, 0, none⟩) (n * n) (n * n)] 45)).cell? ⟨w1.heap.size, 0, none⟩ = some (.int .i64 n) :=
    old_cell _ _ _ _ _ (Nat.lt_of_lt_of_le (by simp) h23.size) ((h23.cell (by simp)).trans (new_cell _ _ _ _ _ _ rfl rfl))
  have ca1 : (w2.alloc (.cells #[.int .i64 n, .slice (some ⟨b2, 0, none⟩) (n * n) (n * n)] 45)).cell? ⟨w1.heap.size, 1, none⟩ = some (.slice (some ⟨b1, 0, none⟩) (n * n) (n * n)) :=
    old_cell _ _ _ _ _ (Nat.lt_of_lt_of_le (by simp) h23.size) ((h23.cell (by simp)).trans (new_cell _ _ _ _ _ _ rfl rfl))
  have cb0 : (w2.alloc (.cells #[.int .i64 n, .slice (some ⟨b2, 0, none⟩) (n * n) (n * n)] 45)).cell? ⟨w2.heap.size, 0, none⟩ = some (.int .i64 n) := new_cell _ _ _ _ _ _ rfl rfl
  have cb1 : (w2.alloc (.cells #[.int .i64 n, .slice (some ⟨b2, 0, none⟩) (n * n) (n * n)] 45)).cell? ⟨w2.heap.size, 1, none⟩ = some (.slice (some ⟨b2, 0, none⟩) (n * n) (n * n)) := new_cell _ _ _ _ _ _ rfl rfl
  have bt1 : Below w1.heap.size w1 w2 := ((Below.refl _ _).alloc (Nat.le_refl _) _).trans (h23.mono (by simp))
  have bt2 : Below w2.heap.size w2 (w2.alloc (.cells #[.int .i64 n, .slice (some ⟨b2, 0, none⟩) (n * n) (n * n)] 45)) := (Below.refl _ _).alloc (Nat.le_refl _) _
  have hA := Lib.hid ((h12.below bt1).below bt2)
  have hB := Lib.hid (h22.below bt2)
  have hW := Lib.hid (bchain h13 (bchain bt1 bt2))
  have q1 : b1 < (w2.alloc (.cells #[.int .i64 n, .slice (some ⟨b2, 0, none⟩) (n * n) (n * n)] 45)).heap.size := Nat.lt_of_lt_of_le h11 (Nat.le_trans bt1.size bt2.size)
  have q2 : b2 < (w2.alloc (.cells #[.int .i64 n, .slice (some ⟨b2, 0, none⟩) (n * n) (n * n)] 45)).heap.size := Nat.lt_of_lt_of_le h21 bt2.size
  clear h10 h11 h12 h13 h20 h21 h22 h23 bt1 bt2
  generalize w2.alloc (.cells #[.int .i64 n, .slice (some ⟨b2, 0, none⟩) (n * n) (n * n)] 45) = w3 at ca0 ca1 cb0 cb1 hA hB hW q1 q2 ⊢
  obtain ⟨u, hu⟩ : ∃ u, w1.heap.size = u := ⟨_, rfl⟩
  obtain ⟨v, hv⟩ : ∃ v, w2.heap.size = v := ⟨_, rfl⟩
  rw [hu] at ca0 ca1 ⊢
  rw [hv] at cb0 cb1 ⊢
  clear hu hv w1 w2
  go_upto_region 5 with fail
  have HT := Lib.hid (times_any n (by omega) b2 b1 (n * n) (n * n) 1 1 2 2 B A w3 hB.out hA.out (fun i _ => SB.out i) (fun i _ => SA.out i) (by decide) (by decide) q2 q1)
  clear hA hB SA SB q1 q2
  go_upto_region 6 with (go_at_call 73; refine HT.out.mono ?_; rintro e w4 ⟨be, rfl, h40, h41, h42⟩)
  have d1 : (w4.alloc (.cells #[.int .i64 n, .slice (some ⟨be, 0, none⟩) (n * n) (n * n)] 45)).cell? ⟨w4.heap.size, 1, none⟩ = some (.slice (some ⟨be, 0, none⟩) (n * n) (n * n)) := new_cell _ _ _ _ _ _ rfl rfl
  have bt3 : Below w4.heap.size w4 (w4.alloc (.cells #[.int .i64 n, .slice (some ⟨be, 0, none⟩) (n * n) (n * n)] 45)) := (Below.refl _ _).alloc (Nat.le_refl _) _
  have hE := h40.below bt3
  have hW4 := bchain hW.out (bchain h42 bt3)
  have q3 : w4.heap.size < (w4.alloc (.cells #[.int .i64 n, .slice (some ⟨be, 0, none⟩) (n * n) (n * n)] 45)).heap.size := by simp
  clear ca0 ca1 cb0 cb1 hW HT h40 h41 h42 bt3
  generalize w4.alloc (.cells #[.int .i64 n, .slice (some ⟨be, 0, none⟩) (n * n) (n * n)] 45) = w5 at d1 hE hW4 q3 ⊢
  obtain ⟨x, hx⟩ : ∃ x, w4.heap.size = x := ⟨_, rfl⟩
  rw [hx] at d1 q3 ⊢
  clear hx w4 w3
  have D1 := Lib.hid d1
  have HE := Lib.hid hE
  have HW := Lib.hid hW4
  have HQ := Lib.hid q3
  clear d1 hE hW4 q3
  go_wp2_with (go_at_call 15; refine (kinds_list _).mono ?_; rintro e w6 ⟨g, cap, rfl, h60, h61⟩)
  have G := Lib.hid h60
  have D2 := Lib.hid ((h61.cell HQ.out).trans D1.out)
  have HE2 := Lib.hid (HE.out.below h61)
  have HW2 := Lib.hid (bchain HW.out h61)
  clear h60 h61 D1 HE HW HQ
  go_loopw [12, 13, 14, 43] (fun _ _ _ i wr => ∃ j : Nat, j ≤ 20 ∧ i = .int .i64 j ∧ Hid (∀ i, i < j → p i = false) ∧ Hid (Below w6.heap.size w6 wr)) (fun _ _ _ i _ => 20 - (intOf i).toNat)
  case atStart => exact ⟨0, Nat.zero_le _, rfl, Lib.hid fun j hj => by omega, Lib.hid (Below.refl _ _)⟩
  case round =>
    obtain ⟨j, hj, rfl, HN, HB⟩ := hrel
    obtain ⟨w7, rfl⟩ : ∃ w7 : World, w7 = wr := ⟨_, rfl⟩
    by_cases hlt : j < 20
    · obtain ⟨m, M, hm, hcall, hp1, hp2⟩ := MK.out j hlt
      have c1 : w7.cell? ⟨g, j, none⟩ = some (.int .i64 ((j : Int) + 1)) := (HB.out.cell (World.block_lt_of_cell? w6 _ (G.out j hlt))).trans (G.out j hlt)
      have P1 := Lib.hid hp1
      have P2 := Lib.hid hp2
      clear hp1 hp2 MK
      go_upto_region 10 with (go_at_call 40; refine (hcall _).mono ?_; rintro e w8 ⟨bm, rfl, h80, h81, h82, h83⟩)
      have e1 : (w8.alloc (.cells #[.int .i64 m, .slice (some ⟨bm, 0, none⟩) (m * m) (m * m)] 45)).cell? ⟨w8.heap.size, 1, none⟩ = some (.slice (some ⟨bm, 0, none⟩) (m * m) (m * m)) := new_cell _ _ _ _ _ _ rfl rfl
      have bt4 : Below w8.heap.size w8 (w8.alloc (.cells #[.int .i64 m, .slice (some ⟨bm, 0, none⟩) (m * m) (m * m)] 45)) := (Below.refl _ _).alloc (Nat.le_refl _) _
      have hM := h82.below bt4
      have hW9 := HB.out.trans ((bchain h83 bt4).mono HB.out.size)
      clear h80 h81 h82 h83 bt4 c1 hcall
      generalize w8.alloc (.cells #[.int .i64 m, .slice (some ⟨bm, 0, none⟩) (m * m) (m * m)] 45) = w9 at e1 hM hW9 ⊢
      obtain ⟨y, hy⟩ : ∃ y, w8.heap.size = y := ⟨_, rfl⟩
      rw [hy] at e1 ⊢
      clear hy w8
      have e2 : w9.cell? ⟨x, 1, none⟩ = some (.slice (some ⟨be, 0, none⟩) (n * n) (n * n)) := (hW9.cell (World.block_lt_of_cell? w6 _ D2.out)).trans D2.out
      have hE9 := HE2.out.below hW9
      have HW9 := Lib.hid hW9
      by_cases hmn : m = n
      · subst hmn
        have hp := P2.out rfl
        have EQ := Lib.hid (cequal_any (m * m) (1 + 1) bm be (m * m) (m * m) (by have := Nat.mul_le_mul hm hm; omega) (dbl M) (mulM m B A) w9 hM.dbl hE9)
        rw [← hp] at EQ
        clear hp hM hE9 hW9 P1 P2
        cases hpj : p j with
        | true =>
          have hR := C1.out j hlt hpj HN.out
          obtain ⟨rfl, rfl⟩ : R1 = (j : Int) + 1 ∧ R2 = true := by simpa using hR
          rw [hpj] at EQ
          clear hR hpj C1 C2
          go_wp2_with (go_at_call 74; refine EQ.out.mono ?_; rintro e w10 ⟨rfl, hd⟩)
          go_ret2
          exact ⟨rfl, bchain HW2.out (HW9.out.trans (hd.below.mono HW9.out.size))⟩
        | false =>
          have HN' : Hid (∀ i, i < j + 1 → p i = false) := Lib.hid fun i hi => by
            rcases Nat.lt_succ_iff_lt_or_eq.1 hi with h | h
            · exact HN.out i h
            · rw [h]; exact hpj
          rw [hpj] at EQ
          clear hpj HN
          go_wp2_with (go_at_call 74; refine EQ.out.mono ?_; rintro e w10 ⟨rfl, hd⟩)
          go_roundw
          case rel => exact ⟨j + 1, by omega, by go_num, HN', Lib.hid (HW9.out.trans (hd.below.mono HW9.out.size))⟩
          case measure => simp [intOf]; omega
      · have hpj := P1.out hmn
        have EQ := Lib.hid (cequal_len (m * m) (n * n) (m * m) (n * n) (some ⟨bm, 0, none⟩) (some ⟨be, 0, none⟩) (fun h => hmn (Nat.mul_self_inj.1 h)) w9)
        have HN' : Hid (∀ i, i < j + 1 → p i = false) := Lib.hid fun i hi => by
          rcases Nat.lt_succ_iff_lt_or_eq.1 hi with h | h
          · exact HN.out i h
          · rw [h]; exact hpj
        clear hM hE9 hW9 P1 P2 hpj hmn HN
        go_wp2_with (go_at_call 74; refine EQ.out.mono ?_; rintro e w10 ⟨rfl, hd⟩)
        go_roundw
        case rel => exact ⟨j + 1, by omega, by go_num, HN', Lib.hid (HW9.out.trans (hd.below.mono HW9.out.size))⟩
        case measure => simp [intOf]; omega
    · have hR := C2.out (fun i hi => HN.out i (by omega))
      obtain ⟨rfl, rfl⟩ : R1 = 0 ∧ R2 = false := by simpa using hR
      clear hR
      go_wp2
      go_ret2
      exact ⟨rfl, bchain HW2.out HB.out⟩

/-- Whatever Matrix answers of a kind or of none. -/
def MatGen (err : Int → Int → Prop) (w : World) (e : Ending) (w' : World) : Prop :=
  ∃ n a l c x, e = .returned (.tuple #[.agg #[.int .i64 n, .slice a l c], .int .i64 x]) ∧ err n x ∧ Below w.heap.size w w'

set_option maxHeartbeats 1000000 in
set_option maxRecDepth 100000 in
/-- One is no kind, or their sides differ. -/
theorem compose_none (k1 k2 n1 n2 x1 x2 : Int) (w : World)
    (m1 : ∀ w, Calls Try.prog 40 #[.int .i64 k1] w (MatGen (fun n x => n = n1 ∧ x = x1) w))
    (m2 : ∀ w, Calls Try.prog 40 #[.int .i64 k2] w (MatGen (fun n x => n = n2 ∧ x = x2) w))
    (h : ((x1 != 0) || (x2 != 0) || (n1 != n2)) = true) :
    Calls Try.prog 46 #[.int .i64 k1, .int .i64 k2] w fun e w' => e = .returned (.tuple #[.int .i64 0, .bool false]) ∧ Below w.heap.size w w' := by
  go_enter Try.func46, Try.ntmps46
  go_upto_region 2 with (go_at_call 40; refine (m1 _).mono ?_; rintro e w1 ⟨y1, a1, l1, c1, z1, rfl, ⟨rfl, rfl⟩, h13⟩)
  go_upto_region 3 with (go_at_call 40; refine (m2 _).mono ?_; rintro e w2 ⟨y2, a2, l2, c2, z2, rfl, ⟨rfl, rfl⟩, h23⟩)
  have ca0 : (w2.alloc (.cells #[.int .i64 y2, .slice a2 l2 c2] 45)).cell? ⟨w1.heap.size, 0, none⟩ = some (.int .i64 y1) :=
    old_cell _ _ _ _ _ (Nat.lt_of_lt_of_le (by simp) h23.size) ((h23.cell (by simp)).trans (new_cell _ _ _ _ _ _ rfl rfl))
  have cb0 : (w2.alloc (.cells #[.int .i64 y2, .slice a2 l2 c2] 45)).cell? ⟨w2.heap.size, 0, none⟩ = some (.int .i64 y2) := new_cell _ _ _ _ _ _ rfl rfl
  have bt1 : Below w1.heap.size w1 w2 := ((Below.refl _ _).alloc (Nat.le_refl _) _).trans (h23.mono (by simp))
  have bt2 : Below w2.heap.size w2 (w2.alloc (.cells #[.int .i64 y2, .slice a2 l2 c2] 45)) := (Below.refl _ _).alloc (Nat.le_refl _) _
  have hW := bchain h13 (bchain bt1 bt2)
  clear h13 h23 bt1 bt2 m1 m2
  generalize w2.alloc (.cells #[.int .i64 y2, .slice a2 l2 c2] 45) = w3 at ca0 cb0 hW ⊢
  obtain ⟨u, hu⟩ : ∃ u, w1.heap.size = u := ⟨_, rfl⟩
  obtain ⟨v, hv⟩ : ∃ v, w2.heap.size = v := ⟨_, rfl⟩
  rw [hu] at ca0 ⊢
  rw [hv] at cb0 ⊢
  clear hu hv w1 w2
  cases e1 : (z1 != 0) with
  | true =>
    clear h
    go_wp2
    go_ret2
    exact ⟨rfl, hW⟩
  | false =>
    cases e2 : (z2 != 0) with
    | true =>
      clear h
      go_wp2
      go_ret2
      exact ⟨rfl, hW⟩
    | false =>
      have e3 : (y1 != y2) = true := by rw [e1, e2] at h; simpa using h
      clear h
      go_wp2
      go_ret2
      exact ⟨rfl, hW⟩
end Go.Proofs.Ytmckaoeofikdaaa
