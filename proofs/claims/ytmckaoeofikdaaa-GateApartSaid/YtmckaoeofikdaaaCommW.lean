/- Commute of package gate, walked. -/
import Derived.Test.YtmckaoeofikdaaaComm
import Derived.Deep.RegionHeld3
namespace Go.Proofs.Ytmckaoeofikdaaa
open Go.RowKit Lift

theorem owns_same {w w' : World} {B g n c : Nat} {xs : List Value} (h : w.ownsRow B 3 1 (.slice (some ⟨g, 0, none⟩) n c) n xs) (he : w'.heap[g]? = w.heap[g]?) : w'.ownsRow B 3 1 (.slice (some ⟨g, 0, none⟩) n c) n xs := by
  refine ⟨h.1, ?_⟩
  rcases h.2 with ⟨h2, _⟩ | ⟨g', cap, cur, hv, hb, hg, r⟩
  · cases h2
  · cases hv
    exact .inr ⟨g, _, cur, rfl, hb, by rw [he]; exact hg, r⟩
theorem PI.start {B Bw : Nat} {w : World} (h1 : B ≤ Bw) (h2 : B ≤ w.heap.size) (h3 : w.heap[Bw]? = some (.cells #[.slice none 0 0] 60 (0, 0))) : PI B Bw none w none 0 0 [] none 0 0 [] w :=
  ⟨Below.refl _ _, fun _ _ _ _ => rfl, ⟨h1, h2⟩, h3, World.ownsRow_nil _ _ _ _, fun _ h => by (cases h), World.ownsRow_nil _ _ _ _, fun _ h => by (cases h), fun _ _ h => by (cases h)⟩
theorem PI.again {B Bw : Nat} {own : Option Nat} {w1 : World} {aw : Option Addr} {nw cw : Nat} {W : List Int} {ao : Option Addr} {no co : Nat} {O : List Int} {wx : World} (h : PI B Bw own w1 aw nw cw W ao no co O wx) :
    PI B Bw (Value.slice aw nw cw).ownBlock wx aw nw cw W none 0 0 [] wx :=
  ⟨Below.refl _ _, fun _ _ _ _ => rfl, ⟨h.bw.1, h.sz⟩, h.box, h.row, fun x hx => .inl (by rw [hx]; rfl), World.ownsRow_nil _ _ _ _, fun _ h => by (cases h), fun _ _ _ h => by (cases h)⟩

theorem field_data (n : Int) (a : Option Addr) (l c : Nat) (w : World) : (Instr.field 45 (.agg #[.int .i64 n, .slice a l c]) 1).run Try.prog w = .ok (.slice a l c) w := by kernel_rfl

set_option maxHeartbeats 4000000 in
set_option maxRecDepth 100000 in
theorem commute_main (k1 k2 : Int) (b1 f1 c1 b2 f2 c2 : Nat) (l1 l2 : Nat) (zs1 zs2 : List Int) (S1 S2 : Nat) (A1 A2 : Nat → Zi) (w : World)
    (hl1 : zs1.length = l1) (hl2 : zs2.length = l2) (p1 : 0 < l1) (p2 : 0 < l2) (q1 : l1 ≤ 3) (q2 : l2 ≤ 3) (hc1 : l1 ≤ c1) (hc2 : l2 ≤ c2) (hS1 : 2 ^ l1 = S1) (hS2 : 2 ^ l2 = S2)
    (z1 : ∀ i, i < zs1.length → w.cell? ⟨b1, f1 + i, none⟩ = some (.int .i64 (zs1.getD i 0))) (z2 : ∀ i, i < zs2.length → w.cell? ⟨b2, f2 + i, none⟩ = some (.int .i64 (zs2.getD i 0)))
    (t1 : apartF zs1 = true) (t2 : apartF zs2 = true)
    (ar1 : ∀ w, Calls Try.prog 25 #[.int .i64 k1] w fun e w' => e = .returned (.int .i64 l1) ∧ Below w.heap.size w w')
    (ar2 : ∀ w, Calls Try.prog 25 #[.int .i64 k2] w fun e w' => e = .returned (.int .i64 l2) ∧ Below w.heap.size w w')
    (m1 : ∀ w, Calls Try.prog 40 #[.int .i64 k1] w (MatPost S1 A1 w)) (m2 : ∀ w, Calls Try.prog 40 #[.int .i64 k2] w (MatPost S2 A2 w))
    (sA : ∀ i, Small (A1 i) 2) (sB : ∀ i, Small (A2 i) 2) :
    Calls Try.prog 50 #[.int .i64 k1, .slice (some ⟨b1, f1, none⟩) l1 c1, .int .i64 k2, .slice (some ⟨b2, f2, none⟩) l2 c2] w fun e w' =>
      e = .returned (.tuple #[.bool (commR l1 l2 (pw (pw [] zs1 l1) zs2 l2).length A1 A2 (poN [] zs1 l1) (poN (pw [] zs1 l1) zs2 l2)), .int .i64 0]) ∧ Below w.heap.size w w' := by
  obtain ⟨R, hR⟩ : ∃ R, commR l1 l2 (pw (pw [] zs1 l1) zs2 l2).length A1 A2 (poN [] zs1 l1) (poN (pw [] zs1 l1) zs2 l2) = R := ⟨_, rfl⟩
  rw [hR]
  have HR0 := Lib.hid hR
  clear hR
  have Z1 := Lib.hid z1
  have Z2 := Lib.hid z2
  have SA := Lib.hid sA
  have SB := Lib.hid sB
  have ap1 : ∀ wx, Below w.heap.size w wx → Calls Try.prog 78 #[.slice (some ⟨b1, f1, none⟩) l1 c1] wx fun e w' => e = .returned (.bool true) ∧ wx = w' := fun wx hb => by
    have := apart_any b1 f1 l1 c1 zs1 wx (by simp only [maxLen]; omega) (fun i hi => (hb.cell (World.block_lt_of_cell? w _ (z1 i hi))).trans (z1 i hi)) hl1 hc1
    rw [t1] at this
    exact this
  have ap2 : ∀ wx, Below w.heap.size w wx → Calls Try.prog 78 #[.slice (some ⟨b2, f2, none⟩) l2 c2] wx fun e w' => e = .returned (.bool true) ∧ wx = w' := fun wx hb => by
    have := apart_any b2 f2 l2 c2 zs2 wx (by simp only [maxLen]; omega) (fun i hi => (hb.cell (World.block_lt_of_cell? w _ (z2 i hi))).trans (z2 i hi)) hl2 hc2
    rw [t2] at this
    exact this
  clear z1 z2 sA sB t1 t2
  have n1 : ((l1 : Int) == 0) = false := by simp; omega
  have n2 : ((l2 : Int) == 0) = false := by simp; omega
  have n3 : ((l1 : Int) != (l1 : Int)) = false := by simp
  have n4 : ((l2 : Int) != (l2 : Int)) = false := by simp
  have hb1 := Below.refl w.heap.size w
  go_enter Try.func50, Try.ntmps50
  go_upto_region 5 with (first | (go_at_call 25; with_reducible (refine (ar1 _).mono ?_); rintro e w1 ⟨rfl, hb2⟩; replace hb1 := bchain hb1 hb2; clear hb2) | (go_at_call 25; with_reducible (refine (ar2 _).mono ?_); rintro e w1 ⟨rfl, hb2⟩; replace hb1 := bchain hb1 hb2; clear hb2) | (go_at_call 78; with_reducible (refine (ap1 _ hb1).mono ?_); rintro e w1 ⟨rfl, rfl⟩) | (go_at_call 78; with_reducible (refine (ap2 _ hb1).mono ?_); rintro e w1 ⟨rfl, rfl⟩))
  clear ap1 ap2 ar1 ar2 n1 n2 n3 n4
  have hB1 : b1 < w.heap.size := World.block_lt_of_cell? w _ (Z1.out 0 (by omega))
  have hB2 : b2 < w.heap.size := World.block_lt_of_cell? w _ (Z2.out 0 (by omega))
  go_upto_region 7 with fail
  have P0 : PI w.heap.size w1.heap.size none (w1.alloc (.cells #[.slice none 0 0] 60)) none 0 0 [] none 0 0 [] (w1.alloc (.cells #[.slice none 0 0] 60)) := PI.start hb1.size (by have := hb1.size; simp; omega) (heap_alloc_new w1 _)
  have hbA : Below w.heap.size w (w1.alloc (.cells #[.slice none 0 0] 60)) := hb1.alloc hb1.size _
  obtain ⟨Bw, hBw⟩ : ∃ x, w1.heap.size = x := ⟨_, rfl⟩
  rw [hBw] at P0 ⊢
  clear hb1 hBw
  generalize w1.alloc (.cells #[.slice none 0 0] 60) = w2 at P0 hbA ⊢
  have PL1 := Lib.hid (place_any w.heap.size Bw none b1 f1 l1 c1 zs1 none 0 0 [] w2 P0 (fun i hi => (hbA.cell (World.block_lt_of_cell? w _ (Z1.out i hi))).trans (Z1.out i hi)) hB1 hl1 q1 (by decide) hc1)
  have HBA := Lib.hid hbA
  clear P0 hbA
  go_upto_region 8 with fail
  go_at_call 79
  with_reducible (refine PL1.out.mono ?_)
  rintro e w3 ⟨aw1, cw1, ao1, co1, rfl, hP1⟩
  have HP1 := Lib.hid hP1
  clear hP1
  go_upto_region 8 with fail
  go_at_call 79
  refine (place_any w.heap.size Bw _ b2 f2 l2 c2 zs2 _ _ _ _ w3 HP1.out.again (fun i hi => ((HBA.out.trans HP1.out.bel).cell (World.block_lt_of_cell? w _ (Z2.out i hi))).trans (Z2.out i hi)) hB2 hl2 q2 (by have := pw_len [] zs1 l1; simp only [List.length_nil] at this; omega) hc2).mono ?_
  rintro e w4 ⟨aw2, cw2, ao2, co2, rfl, hP2⟩
  have HP2 := Lib.hid hP2
  clear hP2
  go_upto_region 8 with fail
  obtain ⟨gx, cx, hx, _, hgx⟩ := HP1.out.out.form p1
  simp only [Value.slice.injEq] at hx
  obtain ⟨rfl, _, rfl⟩ := hx
  obtain ⟨gy, cy, hy, _, _⟩ := HP2.out.out.form p2
  simp only [Value.slice.injEq] at hy
  obtain ⟨rfl, _, rfl⟩ := hy
  have r1 := owns_same HP1.out.out (HP2.out.kept gx hgx (HP1.out.outBw _ rfl) (fun e => by
    obtain ⟨x, hx, hxb⟩ := slice_block e.symm
    exact HP1.out.ne x ⟨gx, 0, none⟩ hx rfl hxb))
  have r2 := HP2.out.out
  rw [po_poN] at r1 r2
  have H1 := Lib.hid (holdsN_of_row r1)
  have H2 := Lib.hid (holdsN_of_row r2)
  have box4 := cell_of_one HP2.out.box
  have BEL4 := Lib.hid (HBA.out.trans (HP1.out.bel.trans HP2.out.bel))
  have hV : (pw (pw [] zs1 l1) zs2 l2).length ≤ 6 := by
    have h1 := pw_len [] zs1 l1
    have h2 := pw_len (pw [] zs1 l1) zs2 l2
    simp only [List.length_nil] at h1
    omega
  have L1 := Lib.hid (poN_len [] zs1 l1)
  have L2 := Lib.hid (poN_len (pw [] zs1 l1) zs2 l2)
  have W1 := Lib.hid (poN_lt [] zs1 l1 6 (by simp; omega) (by decide))
  have W2 := Lib.hid (poN_lt (pw [] zs1 l1) zs2 l2 6 (by have h1 := pw_len [] zs1 l1; simp only [List.length_nil] at h1; omega) (by decide))
  have G1 : gx < w4.heap.size := by
    have := H1.out 0 (by rw [L1.out]; exact p1)
    exact World.block_lt_of_cell? w4 _ this
  have G2 : gy < w4.heap.size := by
    have := H2.out 0 (by rw [L2.out]; exact p2)
    exact World.block_lt_of_cell? w4 _ this
  clear r1 r2 HP1 HP2 PL1 HBA Z1 Z2 hgx hB1 hB2 hl1 hl2
  generalize (pw (pw [] zs1 l1) zs2 l2).length = n at box4 hV HR0 ⊢
  generalize poN [] zs1 l1 = o1 at H1 L1 W1 HR0 ⊢
  generalize poN (pw [] zs1 l1) zs2 l2 = o2 at H2 L2 W2 HR0 ⊢
  obtain ⟨N, hN⟩ : ∃ N, 2 ^ n = N := ⟨_, rfl⟩
  have hN64 : N ≤ 64 := by rw [← hN]; exact Nat.pow_le_pow_right (by decide) hV
  have HR : Hid (R = sameM (N * N) (mulM N (wideM l1 n A1 o1) (wideM l2 n A2 o2)) (mulM N (wideM l2 n A2 o2) (wideM l1 n A1 o1))) := Lib.hid (by rw [← HR0.out]; unfold commR; rw [hN])
  clear HR0
  clear w1 w2 w3
  go_upto_region 9 with (go_at_call 40; refine (m1 _).mono ?_; rintro e w5 ⟨e1, rfl, h10, h11, h12, h13⟩)
  clear m1
  go_upto_region 10 with (go_at_call 40; refine (m2 _).mono ?_; rintro e w6 ⟨e2, rfl, h20, h21, h22, h23⟩)
  have ca0 : (w6.alloc (.cells #[.int .i64 S2, .slice (some ⟨e2, 0, none⟩) (S2 * S2) (S2 * S2)] 45)).cell? ⟨w5.heap.size, 0, none⟩ = some (.int .i64 S1) :=
    old_cell _ _ _ _ _ (Nat.lt_of_lt_of_le (by simp) h23.size) ((h23.cell (by simp)).trans (new_cell _ _ _ _ _ _ rfl rfl))
  have ca1 : (w6.alloc (.cells #[.int .i64 S2, .slice (some ⟨e2, 0, none⟩) (S2 * S2) (S2 * S2)] 45)).cell? ⟨w5.heap.size, 1, none⟩ = some (.slice (some ⟨e1, 0, none⟩) (S1 * S1) (S1 * S1)) :=
    old_cell _ _ _ _ _ (Nat.lt_of_lt_of_le (by simp) h23.size) ((h23.cell (by simp)).trans (new_cell _ _ _ _ _ _ rfl rfl))
  have cb0 : (w6.alloc (.cells #[.int .i64 S2, .slice (some ⟨e2, 0, none⟩) (S2 * S2) (S2 * S2)] 45)).cell? ⟨w6.heap.size, 0, none⟩ = some (.int .i64 S2) := new_cell _ _ _ _ _ _ rfl rfl
  have cb1 : (w6.alloc (.cells #[.int .i64 S2, .slice (some ⟨e2, 0, none⟩) (S2 * S2) (S2 * S2)] 45)).cell? ⟨w6.heap.size, 1, none⟩ = some (.slice (some ⟨e2, 0, none⟩) (S2 * S2) (S2 * S2)) := new_cell _ _ _ _ _ _ rfl rfl
  have bt1 : Below w5.heap.size w5 w6 := ((Below.refl _ _).alloc (Nat.le_refl _) _).trans (h23.mono (by simp))
  have bt2 : Below w6.heap.size w6 (w6.alloc (.cells #[.int .i64 S2, .slice (some ⟨e2, 0, none⟩) (S2 * S2) (S2 * S2)] 45)) := (Below.refl _ _).alloc (Nat.le_refl _) _
  have hA := Lib.hid ((h12.below bt1).below bt2)
  have hB := Lib.hid (h22.below bt2)
  have b47 := bchain h13 (bchain bt1 bt2)
  have g1 : e1 < (w6.alloc (.cells #[.int .i64 S2, .slice (some ⟨e2, 0, none⟩) (S2 * S2) (S2 * S2)] 45)).heap.size := Nat.lt_of_lt_of_le h11 (Nat.le_trans bt1.size bt2.size)
  have g2 : e2 < (w6.alloc (.cells #[.int .i64 S2, .slice (some ⟨e2, 0, none⟩) (S2 * S2) (S2 * S2)] 45)).heap.size := Nat.lt_of_lt_of_le h21 bt2.size
  have g3 : w5.heap.size < (w6.alloc (.cells #[.int .i64 S2, .slice (some ⟨e2, 0, none⟩) (S2 * S2) (S2 * S2)] 45)).heap.size := World.block_lt_of_cell? _ _ ca0
  have g4 : w6.heap.size < (w6.alloc (.cells #[.int .i64 S2, .slice (some ⟨e2, 0, none⟩) (S2 * S2) (S2 * S2)] 45)).heap.size := by simp
  clear h10 h11 h12 h13 h20 h21 h22 h23 bt1 bt2 m2
  generalize w6.alloc (.cells #[.int .i64 S2, .slice (some ⟨e2, 0, none⟩) (S2 * S2) (S2 * S2)] 45) = w7 at ca0 ca1 cb0 cb1 hA hB b47 g1 g2 g3 g4 ⊢
  obtain ⟨u, hu⟩ : ∃ u, w5.heap.size = u := ⟨_, rfl⟩
  obtain ⟨v, hv⟩ : ∃ v, w6.heap.size = v := ⟨_, rfl⟩
  rw [hu] at ca0 ca1 g3 ⊢
  rw [hv] at cb0 cb1 g4 ⊢
  clear hu hv w5 w6
  have box7 := (b47.cell (World.block_lt_of_cell? w4 _ box4)).trans box4
  have K1 := Lib.hid (H1.out.below b47)
  have K2 := Lib.hid (H2.out.below b47)
  have BEL7 := Lib.hid (BEL4.out.trans (b47.mono (BEL4.out.size)))
  have j1 : gx < w7.heap.size := Nat.lt_of_lt_of_le G1 b47.size
  have j2 : gy < w7.heap.size := Nat.lt_of_lt_of_le G2 b47.size
  clear box4 H1 H2 BEL4 b47 G1 G2
  have WD1 := Lib.hid (wide_any (cm := S1 * S1) (cg := co1) n hV q1 hS1 hN L1.out W1.out w7 hA.out K1.out g1 j1)
  go_upto_region 11 with (go_at_call 81; refine WD1.out.mono ?_; rintro e w8 ⟨ep, rfl, h80, h81, h82⟩)
  have cp0 : (w8.alloc (.cells #[.int .i64 N, .slice (some ⟨ep, 0, none⟩) (N * N) (N * N)] 45)).cell? ⟨w8.heap.size, 0, none⟩ = some (.int .i64 N) := new_cell _ _ _ _ _ _ rfl rfl
  have cp1 : (w8.alloc (.cells #[.int .i64 N, .slice (some ⟨ep, 0, none⟩) (N * N) (N * N)] 45)).cell? ⟨w8.heap.size, 1, none⟩ = some (.slice (some ⟨ep, 0, none⟩) (N * N) (N * N)) := new_cell _ _ _ _ _ _ rfl rfl
  have bt3 : Below w8.heap.size w8 (w8.alloc (.cells #[.int .i64 N, .slice (some ⟨ep, 0, none⟩) (N * N) (N * N)] 45)) := (Below.refl _ _).alloc (Nat.le_refl _) _
  have b79 := bchain h82 bt3
  have hP := Lib.hid (h80.below bt3)
  have hB9 := Lib.hid (hB.out.below b79)
  have K29 := Lib.hid (K2.out.below b79)
  have cb0' := (b79.cell (p := ⟨v, 0, none⟩) g4).trans cb0
  have cb1' := (b79.cell (p := ⟨v, 1, none⟩) g4).trans cb1
  have box9 := (b79.cell (World.block_lt_of_cell? w7 _ box7)).trans box7
  have BEL9 := Lib.hid (bchain BEL7.out b79)
  have g2' := Nat.lt_of_lt_of_le g2 b79.size
  have j2' := Nat.lt_of_lt_of_le j2 b79.size
  have g5 : w8.heap.size < (w8.alloc (.cells #[.int .i64 N, .slice (some ⟨ep, 0, none⟩) (N * N) (N * N)] 45)).heap.size := by simp
  clear WD1 h80 h81 h82 bt3 b79 hA hB K1 K2 ca0 ca1 cb0 cb1 box7 BEL7 g1 g2 g3 g4 j1 j2
  generalize w8.alloc (.cells #[.int .i64 N, .slice (some ⟨ep, 0, none⟩) (N * N) (N * N)] 45) = w9 at cp0 cp1 hP hB9 K29 cb0' cb1' box9 BEL9 g2' j2' g5 ⊢
  obtain ⟨up, hup⟩ : ∃ x, w8.heap.size = x := ⟨_, rfl⟩
  rw [hup] at cp0 cp1 g5 ⊢
  clear hup w8 w7
  have WD2 := Lib.hid (wide_any (cm := S2 * S2) (cg := co2) n hV q2 hS2 hN L2.out W2.out w9 hB9.out K29.out g2' j2')
  have CP0 := Lib.hid cp0
  have CP1 := Lib.hid cp1
  clear cp0 cp1
  go_upto_region 12 with (go_at_call 81; refine WD2.out.mono ?_; rintro e w10 ⟨eq, rfl, h100, h101, h102⟩)
  have cq0 : (w10.alloc (.cells #[.int .i64 N, .slice (some ⟨eq, 0, none⟩) (N * N) (N * N)] 45)).cell? ⟨w10.heap.size, 0, none⟩ = some (.int .i64 N) := new_cell _ _ _ _ _ _ rfl rfl
  have cq1 : (w10.alloc (.cells #[.int .i64 N, .slice (some ⟨eq, 0, none⟩) (N * N) (N * N)] 45)).cell? ⟨w10.heap.size, 1, none⟩ = some (.slice (some ⟨eq, 0, none⟩) (N * N) (N * N)) := new_cell _ _ _ _ _ _ rfl rfl
  have bt4 : Below w10.heap.size w10 (w10.alloc (.cells #[.int .i64 N, .slice (some ⟨eq, 0, none⟩) (N * N) (N * N)] 45)) := (Below.refl _ _).alloc (Nat.le_refl _) _
  have b9 := bchain h102 bt4
  have hP' := Lib.hid (hP.out.below b9)
  have hQ' := Lib.hid (h100.below bt4)
  have cp0 := (b9.cell (p := ⟨up, 0, none⟩) g5).trans CP0.out
  have cp1 := (b9.cell (p := ⟨up, 1, none⟩) g5).trans CP1.out
  have BEL := Lib.hid (bchain BEL9.out b9)
  clear WD2 CP0 CP1 h100 h101 h102 bt4 b9 hP hB9 K29 cb0' cb1' box9 BEL9 g2' j2' g5 L1 L2 W1 W2
  generalize w10.alloc (.cells #[.int .i64 N, .slice (some ⟨eq, 0, none⟩) (N * N) (N * N)] 45) = w11 at cq0 cq1 hP' hQ' cp0 cp1 BEL ⊢
  obtain ⟨uq, huq⟩ : ∃ x, w10.heap.size = x := ⟨_, rfl⟩
  rw [huq] at cq0 cq1 ⊢
  clear huq w10 w9
  have PS : ∀ i, Small (wideM l1 n A1 o1 i) 2 := fun i => wideM_small SA.out i
  have QS : ∀ i, Small (wideM l2 n A2 o2 i) 2 := fun i => wideM_small SB.out i
  generalize wideM l1 n A1 o1 = P at hP' HR PS
  generalize wideM l2 n A2 o2 = Q at hQ' HR QS
  have hep : 0 < N → ep < w11.heap.size := fun h => by
    obtain ⟨_, _, h1, _⟩ := hP'.out 0 (Nat.mul_pos h h)
    exact World.block_lt_of_cell? _ _ h1
  have heq : 0 < N → eq < w11.heap.size := fun h => by
    obtain ⟨_, _, h1, _⟩ := hQ'.out 0 (Nat.mul_pos h h)
    exact World.block_lt_of_cell? _ _ h1
  have hN0 : 0 < N := by rw [← hN]; exact Nat.two_pow_pos n
  have hep' := hep hN0
  have heq' := heq hN0
  have u1 := World.block_lt_of_cell? _ _ cp0
  have u2 := World.block_lt_of_cell? _ _ cq0
  have CC : Hid (∀ wx, Below w11.heap.size w11 wx → wx.cell? ⟨up, 0, none⟩ = some (.int .i64 N) ∧ wx.cell? ⟨up, 1, none⟩ = some (.slice (some ⟨ep, 0, none⟩) (N * N) (N * N)) ∧ wx.cell? ⟨uq, 0, none⟩ = some (.int .i64 N) ∧ wx.cell? ⟨uq, 1, none⟩ = some (.slice (some ⟨eq, 0, none⟩) (N * N) (N * N))) := Lib.hid fun wx hb =>
    ⟨(hb.cell (p := ⟨up, 0, none⟩) u1).trans cp0, (hb.cell (p := ⟨up, 1, none⟩) u1).trans cp1, (hb.cell (p := ⟨uq, 0, none⟩) u2).trans cq0, (hb.cell (p := ⟨uq, 1, none⟩) u2).trans cq1⟩
  have T1 : Hid (∀ wx, Below w11.heap.size w11 wx → Calls Try.prog 73 #[.agg #[.int .i64 N, .slice (some ⟨ep, 0, none⟩) (N * N) (N * N)], .agg #[.int .i64 N, .slice (some ⟨eq, 0, none⟩) (N * N) (N * N)]] wx fun e w' => ∃ be, e = .returned (.agg #[.int .i64 N, .slice (some ⟨be, 0, none⟩) (N * N) (N * N)]) ∧ HoldsC w' be (N * N) (1 + 1) (mulM N P Q) ∧ Below w11.heap.size w11 w' ∧
      w'.cell? ⟨up, 0, none⟩ = some (.int .i64 N) ∧ w'.cell? ⟨up, 1, none⟩ = some (.slice (some ⟨ep, 0, none⟩) (N * N) (N * N)) ∧ w'.cell? ⟨uq, 0, none⟩ = some (.int .i64 N) ∧ w'.cell? ⟨uq, 1, none⟩ = some (.slice (some ⟨eq, 0, none⟩) (N * N) (N * N))) := Lib.hid fun wx hb => by
    refine (times_any N hN64 ep eq (N * N) (N * N) 1 1 2 2 P Q wx (hP'.out.below hb) (hQ'.out.below hb) (fun i _ => PS i) (fun i _ => QS i) (by decide) (by decide) (Nat.lt_of_lt_of_le hep' hb.size) (Nat.lt_of_lt_of_le heq' hb.size)).mono ?_
    rintro e w' ⟨be, rfl, h1, _, h2⟩
    have hb' := hb.trans (h2.mono hb.size)
    exact ⟨be, rfl, h1, hb', CC.out _ hb'⟩
  have T2 : Hid (∀ wx be1, Below w11.heap.size w11 wx → HoldsC wx be1 (N * N) (1 + 1) (mulM N P Q) → Calls Try.prog 73 #[.agg #[.int .i64 N, .slice (some ⟨eq, 0, none⟩) (N * N) (N * N)], .agg #[.int .i64 N, .slice (some ⟨ep, 0, none⟩) (N * N) (N * N)]] wx fun e w' => ∃ be, e = .returned (.agg #[.int .i64 N, .slice (some ⟨be, 0, none⟩) (N * N) (N * N)]) ∧ HoldsC w' be (N * N) (1 + 1) (mulM N Q P) ∧ HoldsC w' be1 (N * N) (1 + 1) (mulM N P Q) ∧ Below w11.heap.size w11 w' ∧
      w'.cell? ⟨up, 0, none⟩ = some (.int .i64 N) ∧ w'.cell? ⟨up, 1, none⟩ = some (.slice (some ⟨ep, 0, none⟩) (N * N) (N * N)) ∧ w'.cell? ⟨uq, 0, none⟩ = some (.int .i64 N) ∧ w'.cell? ⟨uq, 1, none⟩ = some (.slice (some ⟨eq, 0, none⟩) (N * N) (N * N))) := Lib.hid fun wx be1 hb h0 => by
    refine (times_any N hN64 eq ep (N * N) (N * N) 1 1 2 2 Q P wx (hQ'.out.below hb) (hP'.out.below hb) (fun i _ => QS i) (fun i _ => PS i) (by decide) (by decide) (Nat.lt_of_lt_of_le heq' hb.size) (Nat.lt_of_lt_of_le hep' hb.size)).mono ?_
    rintro e w' ⟨be, rfl, h1, _, h2⟩
    have hb' := hb.trans (h2.mono hb.size)
    exact ⟨be, rfl, h1, h0.below h2, hb', CC.out _ hb'⟩
  have T3 : Hid (∀ wx be1 be2, Below w11.heap.size w11 wx → HoldsC wx be1 (N * N) (1 + 1) (mulM N P Q) → HoldsC wx be2 (N * N) (1 + 1) (mulM N Q P) → Calls Try.prog 74 #[.slice (some ⟨be1, 0, none⟩) (N * N) (N * N), .slice (some ⟨be2, 0, none⟩) (N * N) (N * N)] wx fun e w' => e = .returned (.bool R) ∧ Below w11.heap.size w11 w' ∧
      w'.cell? ⟨up, 0, none⟩ = some (.int .i64 N) ∧ w'.cell? ⟨up, 1, none⟩ = some (.slice (some ⟨ep, 0, none⟩) (N * N) (N * N)) ∧ w'.cell? ⟨uq, 0, none⟩ = some (.int .i64 N) ∧ w'.cell? ⟨uq, 1, none⟩ = some (.slice (some ⟨eq, 0, none⟩) (N * N) (N * N))) := Lib.hid fun wx be1 be2 hb h1 h2 => by
    refine (cequal_any (N * N) (1 + 1) be1 be2 (N * N) (N * N) (Nat.mul_le_mul hN64 hN64) _ _ wx h1 h2).mono ?_
    rintro e w' ⟨rfl, hd⟩
    have hb' := hb.trans (hd.below.mono hb.size)
    exact ⟨by rw [HR.out], hb', CC.out _ hb'⟩
  have hfd := field_data
  have hS : Below w11.heap.size w11 w11.drew := (Below.refl w11.heap.size w11).drew
  clear HR PS QS hep heq hep' heq' u1 u2 CC hP' hQ' SA SB
  go_region_held3 (fun w' => w'.cell? ⟨up, 0, none⟩ = some (.int .i64 N) ∧ w'.cell? ⟨up, 1, none⟩ = some (.slice (some ⟨ep, 0, none⟩) (N * N) (N * N)) ∧ w'.cell? ⟨uq, 0, none⟩ = some (.int .i64 N) ∧ w'.cell? ⟨uq, 1, none⟩ = some (.slice (some ⟨eq, 0, none⟩) (N * N) (N * N)) ∧ Below w11.heap.size w11 w') (go_keep)
    (first | (go_at_call 73; with_reducible (refine (T1.out _ (by assumption)).mono ?_); rintro e w12 ⟨be1, rfl, h121, h122, h123, h124, h125, h126⟩) | (go_at_call 73; with_reducible (refine (T2.out _ _ (by assumption) (by assumption)).mono ?_); rintro e w13 ⟨be2, rfl, h131, h130, h132, h133, h134, h135, h136⟩) | (go_at_call 74; with_reducible (refine (T3.out _ _ _ (by assumption) (by assumption) (by assumption)).mono ?_); rintro e w14 ⟨rfl, h142, h143, h144, h145, h146⟩))
  have hfin : Below w11.heap.size w11 w14 := by assumption
  go_wp2
  go_ret2
  exact ⟨rfl, bchain BEL.out hfin⟩
end Go.Proofs.Ytmckaoeofikdaaa
