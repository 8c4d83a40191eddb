/- Commute of the document, walked. -/
import Derived.Test.YtmckaoeofikdaaaWideR
namespace Go.Proofs.Ytmckaoeofikdaaa
open Go.RowKit Lift

/-- Three rows of the call's own. -/
structure PJ (B : Nat) (w0 : World) (aw : Option Addr) (nw cw : Nat) (W : List Int) (ao : Option Addr) (no co : Nat) (O : List Int) (ap : Option Addr) (np cp : Nat) (P : List Int) (wx : World) : Prop where
  bel : Below B w0 wx
  b0 : B ≤ w0.heap.size
  row : wx.ownsRow B 3 1 (.slice aw nw cw) nw (W.map (.int .i64))
  out : wx.ownsRow B 3 1 (.slice ao no co) no (O.map (.int .i64))
  old : wx.ownsRow B 3 1 (.slice ap np cp) np (P.map (.int .i64))
  ne1 : ∀ x y, aw = some x → ao = some y → x.block ≠ y.block
  ne2 : ∀ x y, aw = some x → ap = some y → x.block ≠ y.block
  ne3 : ∀ x y, ao = some x → ap = some y → x.block ≠ y.block

variable {B : Nat} {w0 : World} {aw : Option Addr} {nw cw : Nat} {W : List Int} {ao : Option Addr} {no co : Nat} {O : List Int} {ap : Option Addr} {np cp : Nat} {P : List Int} {wx : World}

theorem PJ.sz (h : PJ B w0 aw nw cw W ao no co O ap np cp P wx) : B ≤ wx.heap.size := Nat.le_trans h.b0 h.bel.size
theorem row_free {a b : Option Addr} {n m c d : Nat} (h : ∀ x y, a = some x → b = some y → x.block ≠ y.block) : (Value.slice b m d).ownBlock = none ∨ (Value.slice b m d).ownBlock ≠ (Value.slice a n c).ownBlock := by
  cases hb : b with
  | none => exact .inl rfl
  | some y =>
    right
    intro e
    obtain ⟨x, hx, hxb⟩ := slice_block e.symm
    exact h x y hx hb hxb

theorem PJ.find (h : PJ B w0 aw nw cw W ao no co O ap np cp P wx) {aw' : Option Addr} {n' cw' : Nat} {W' : List Int} {w' : World} (h1 : w'.ownsRow B 3 1 (.slice aw' n' cw') n' (W'.map (.int .i64)))
    (h2 : wx.grownBy w' (Value.slice aw nw cw).ownBlock) (h3 : ∀ x, aw' = some x → (Value.slice aw nw cw).ownBlock = some x.block ∨ wx.heap.size ≤ x.block) (h4 : Below B wx w') :
    PJ B w0 aw' n' cw' W' ao no co O ap np cp P w' := by
  have hout : ∀ y, ao = some y → y.block < wx.heap.size := fun y hy => (h.out.lt y.block (by rw [hy]; rfl)).2
  have hold : ∀ y, ap = some y → y.block < wx.heap.size := fun y hy => (h.old.lt y.block (by rw [hy]; rfl)).2
  refine ⟨h.bel.trans h4, h.b0, h1, h.out.kept h2 (row_free h.ne1), h.old.kept h2 (row_free h.ne2), fun x y hx hy => ?_, fun x y hx hy => ?_, h.ne3⟩
  · rcases h3 x hx with e | e
    · obtain ⟨z, hz, hzb⟩ := slice_block e
      rw [← hzb]; exact h.ne1 z y hz hy
    · have := hout y hy; omega
  · rcases h3 x hx with e | e
    · obtain ⟨z, hz, hzb⟩ := slice_block e
      rw [← hzb]; exact h.ne2 z y hz hy
    · have := hold y hy; omega
theorem PJ.push (h : PJ B w0 aw nw cw W ao no co O ap np cp P wx) {o : Obj} {q : Int} {g cap : Nat} {w' : World}
    (h1 : w'.ownsRow B 3 1 (.slice (some ⟨g, 0, none⟩) (no + 1) cap) (no + 1) (O.map (.int .i64) ++ [.int .i64 q]))
    (h2 : (wx.alloc o).grownBy w' (Value.slice ao no co).ownBlock) (h3 : (Value.slice ao no co).ownBlock = some g ∨ g = wx.heap.size + 1) :
    PJ B w0 aw nw cw W (some ⟨g, 0, none⟩) (no + 1) cap (O ++ [q]) ap np cp P w' := by
  have hs := h.sz
  have hrow : ∀ y, aw = some y → y.block < wx.heap.size := fun y hy => (h.row.lt y.block (by rw [hy]; rfl)).2
  have hold : ∀ y, ap = some y → y.block < wx.heap.size := fun y hy => (h.old.lt y.block (by rw [hy]; rfl)).2
  refine ⟨(h.bel.alloc hs o).grown h2 (by simp; omega) (fun k hk => (h.out.lt k hk).1), h.b0, (h.row.alloc o).kept h2 (row_free fun x y hx hy => (h.ne1 y x hy hx).symm), by rw [List.map_append]; exact h1, (h.old.alloc o).kept h2 (row_free h.ne3), fun x y hx hy => ?_, h.ne2, fun x y hx hy => ?_⟩
  · cases hy
    rcases h3 with e | e
    · obtain ⟨z, hz, hzb⟩ := slice_block e
      show x.block ≠ g
      rw [← hzb]; exact h.ne1 x z hx hz
    · have := hrow x hx
      show x.block ≠ g
      omega
  · cases hx
    rcases h3 with e | e
    · obtain ⟨z, hz, hzb⟩ := slice_block e
      show g ≠ y.block
      rw [← hzb]; exact h.ne3 z y hz hy
    · have := hold y hy
      show g ≠ y.block
      omega
theorem PJ.start {w : World} (h : Below B w0 w) (hb : B ≤ w0.heap.size) : PJ B w0 none 0 0 [] none 0 0 [] none 0 0 [] w :=
  ⟨h, hb, World.ownsRow_nil _ _ _ _, World.ownsRow_nil _ _ _ _, World.ownsRow_nil _ _ _ _, fun _ _ h => by (cases h), fun _ _ h => by (cases h), fun _ _ h => by (cases h)⟩
theorem PJ.turn (h : PJ B w0 aw nw cw W ao no co O none 0 0 [] wx) : PJ B w0 aw nw cw W none 0 0 [] ao no co O wx :=
  ⟨h.bel, h.b0, h.row, World.ownsRow_nil _ _ _ _, h.out, fun _ _ _ h => by (cases h), h.ne1, fun _ _ h => by (cases h)⟩

set_option maxHeartbeats 4000000 in
set_option maxRecDepth 100000 in
theorem rcommute_main (k1 k2 : Int) (b1 f1 c1 b2 f2 c2 : Nat) (l1 l2 : Nat) (zs1 zs2 : List Int) (S1 S2 : Nat) (A1 A2 : Nat → Zi) (w : World)
    (hl1 : zs1.length = l1) (hl2 : zs2.length = l2) (p1 : 0 < l1) (p2 : 0 < l2) (q1 : l1 ≤ 3) (q2 : l2 ≤ 3) (hS1 : 2 ^ l1 = S1) (hS2 : 2 ^ l2 = S2)
    (z1 : ∀ i, i < zs1.length → w.cell? ⟨b1, f1 + i, none⟩ = some (.int .i64 (zs1.getD i 0))) (z2 : ∀ i, i < zs2.length → w.cell? ⟨b2, f2 + i, none⟩ = some (.int .i64 (zs2.getD i 0)))
    (t1 : apartF zs1 = true) (t2 : apartF zs2 = true)
    (is : ∀ k w, k = k1 ∨ k = k2 → Calls Try.prog 66 #[.int .i64 k] w fun e w' => e = .returned (.bool true) ∧ Below w.heap.size w w')
    (ar1 : ∀ w, Calls Try.prog 26 #[.int .i64 k1] w fun e w' => e = .returned (.int .i64 l1) ∧ Below w.heap.size w w')
    (ar2 : ∀ w, Calls Try.prog 26 #[.int .i64 k2] w fun e w' => e = .returned (.int .i64 l2) ∧ Below w.heap.size w w')
    (m1 : ∀ w, Calls Try.prog 52 #[.int .i64 k1] w (RMatPost S1 A1 w)) (m2 : ∀ w, Calls Try.prog 52 #[.int .i64 k2] w (RMatPost S2 A2 w))
    (sA : ∀ i, Small (A1 i) 2) (sB : ∀ i, Small (A2 i) 2) :
    Calls Try.prog 51 #[.int .i64 k1, .slice (some ⟨b1, f1, none⟩) l1 c1, .int .i64 k2, .slice (some ⟨b2, f2, none⟩) l2 c2] w fun e w' =>
      e = .returned (.tuple #[.bool (commR l1 l2 (pw (pw [] zs1 l1) zs2 l2).length A1 A2 (poN [] zs1 l1) (poN (pw [] zs1 l1) zs2 l2)), .int .i64 0]) ∧ Below w.heap.size w w' := by
  obtain ⟨i0, hi, hz0, hz1, hz2⟩ := info_parts infoInt
  obtain ⟨R, hR⟩ : ∃ R, commR l1 l2 (pw (pw [] zs1 l1) zs2 l2).length A1 A2 (poN [] zs1 l1) (poN (pw [] zs1 l1) zs2 l2) = R := ⟨_, rfl⟩
  rw [hR]
  have HR0 := Lib.hid hR
  clear hR
  have Z1 := Lib.hid z1
  have Z2 := Lib.hid z2
  have SA := Lib.hid sA
  have SB := Lib.hid sB
  have M1 := Lib.hid m1
  have M2 := Lib.hid m2
  have apt1 : ∀ wx, Below w.heap.size w wx → Calls Try.prog 82 #[.slice (some ⟨b1, f1, none⟩) l1 c1] wx fun e w' => e = .returned (.bool true) ∧ Drawn wx w' := fun wx hb => by
    have := rapart_any b1 f1 l1 c1 zs1 wx (by simp only [maxLen]; omega) (fun i hi => (hb.cell (World.block_lt_of_cell? w _ (z1 i hi))).trans (z1 i hi)) hl1
    rw [t1] at this
    exact this
  have apt2 : ∀ wx, Below w.heap.size w wx → Calls Try.prog 82 #[.slice (some ⟨b2, f2, none⟩) l2 c2] wx fun e w' => e = .returned (.bool true) ∧ Drawn wx w' := fun wx hb => by
    have := rapart_any b2 f2 l2 c2 zs2 wx (by simp only [maxLen]; omega) (fun i hi => (hb.cell (World.block_lt_of_cell? w _ (z2 i hi))).trans (z2 i hi)) hl2
    rw [t2] at this
    exact this
  clear z1 z2 sA sB t1 t2 m1 m2
  have n3 : ((l1 : Int) != (l1 : Int)) = false := by simp
  have n4 : ((l2 : Int) != (l2 : Int)) = false := by simp
  have hb1 := Below.refl w.heap.size w
  go_enter Try.func51, Try.ntmps51
  go_upto_region 5 with (first | (go_at_call 66; refine (is _ _ (by first | exact .inl rfl | exact .inr rfl)).mono ?_; rintro e w1 ⟨rfl, hb2⟩; replace hb1 := bchain hb1 hb2; clear hb2) | (go_at_call 26; with_reducible (refine (ar1 _).mono ?_); rintro e w1 ⟨rfl, hb2⟩; replace hb1 := bchain hb1 hb2; clear hb2) | (go_at_call 26; with_reducible (refine (ar2 _).mono ?_); rintro e w1 ⟨rfl, hb2⟩; replace hb1 := bchain hb1 hb2; clear hb2) | (go_at_call 82; with_reducible (refine (apt1 _ hb1).mono ?_); rintro e w1 ⟨rfl, hd2⟩; replace hb1 := bchain hb1 hd2.below; clear hd2) | (go_at_call 82; with_reducible (refine (apt2 _ hb1).mono ?_); rintro e w1 ⟨rfl, hd2⟩; replace hb1 := bchain hb1 hd2.below; clear hd2))
  clear apt1 apt2 is ar1 ar2 n3 n4
  have hB1 : b1 < w.heap.size := World.block_lt_of_cell? w _ (Z1.out 0 (by omega))
  have hB2 : b2 < w.heap.size := World.block_lt_of_cell? w _ (Z2.out 0 (by omega))
  have HJ := Lib.hid (PJ.start (B := w.heap.size) hb1 (Nat.le_refl _))
  clear hb1
  go_wp2
  go_loopw [10, 11, 13, 14] (fun v x _ i wr => ∃ k : Nat, k ≤ l1 ∧ i = .int .i64 k ∧ ∃ aw cw ao co, v = .slice aw (pw [] zs1 k).length cw ∧ x = .slice ao k co ∧ Hid (PJ w.heap.size w aw (pw [] zs1 k).length cw (pw [] zs1 k) ao k co (po [] zs1 k) none 0 0 [] wr)) (fun _ _ _ i _ => l1 - (intOf i).toNat)
  case atStart => exact ⟨0, Nat.zero_le _, rfl, none, 0, none, 0, rfl, rfl, HJ⟩
  case round =>
    obtain ⟨k, hk, rfl, aw1, cw1, ao, co, rfl, rfl, HI⟩ := hrel
    clear HJ
    obtain ⟨w2, rfl⟩ : ∃ w2 : World, w2 = wr := ⟨_, rfl⟩
    by_cases hlt : k < l1
    · have hcz : w2.cell? ⟨b1, f1 + k, none⟩ = some (.int .i64 (zs1.getD k 0)) := (HI.out.bel.cell hB1).trans (Z1.out k (by omega))
      have hlen := pw_len [] zs1 k
      simp only [List.length_nil] at hlen
      have hg : Hid (pw [] zs1 (k + 1) = growF (pw [] zs1 k) (zs1.getD k 0)) := Lib.hid rfl
      have hp : Hid (po [] zs1 (k + 1) = po [] zs1 k ++ [((posF (pw [] zs1 k) (zs1.getD k 0) : Nat) : Int)]) := Lib.hid rfl
      generalize zs1.getD k 0 = z at hcz hg hp
      generalize pw [] zs1 k = V at HI hlen hg hp
      generalize po [] zs1 k = O at HI hp
      have FA := Lib.hid (find_any w.heap.size aw1 V.length cw1 V z w2 HI.out.row HI.out.sz (by omega))
      go_upto_region 11 with (go_at_call 83; refine FA.out.mono ?_; rintro e w3 ⟨aw', cw', rfl, r1, r2, r3, r4⟩)
      have HK := Lib.hid (HI.out.find r1 r2 r3 r4)
      clear r1 r2 r3 r4 HI FA hcz
      go_wp2_with (at_builtin; refine wpList_append_lies _ rfl _ _ 60 rfl w.heap.size 3 i0 (.int .i64 0) 1 8 Try.underlying60 hi hz0 hz1 hz2 rfl (by decide) _ _ _ rfl (HK.out.out.alloc _) ⟨w3.heap.size, 0, none⟩ 1 1 [.int .i64 (posF V z : Nat)] rfl rfl ?d1 ?d2 (by decide) ?d3 ?d4 ?d5 _ rfl ?_)
      case d1 => exact cell_one_new _ _ _
      case d2 => intro u hu; simp only [List.mem_singleton] at hu; subst hu; rfl
      case d3 => simp only [maxLen]; omega
      case d4 => omega
      case d5 => have := HK.out.sz; simp; omega
      intro g2 cap2 w6 hown hgrow hat hlt6
      have HM := Lib.hid (HK.out.push hown hgrow hat)
      clear hown hgrow hat hlt6 HK
      go_wp2
      go_roundw
      case rel => exact ⟨k + 1, by omega, by go_num, aw', cw', some ⟨g2, 0, none⟩, cap2, by rw [hg.out], rfl, by rw [hg.out, hp.out]; exact HM⟩
      case measure => simp [intOf]; omega
    · have hkl : k = l1 := by omega
      subst hkl
      obtain ⟨gx, cx, hx, _, _⟩ := HI.out.out.form p1
      simp only [Value.slice.injEq] at hx
      obtain ⟨rfl, _, rfl⟩ := hx
      have HJ := Lib.hid HI.out.turn
      have HV1 : Hid ((pw [] zs1 k).length ≤ 3) := Lib.hid (by have := pw_len [] zs1 k; simp only [List.length_nil] at this; omega)
      clear HI Z1
      obtain ⟨l1, rfl⟩ : ∃ x, x = k := ⟨_, rfl⟩
      go_wp2
      go_loopw [10, 12, 13, 15] (fun v x _ i wr => ∃ k : Nat, k ≤ l2 ∧ i = .int .i64 k ∧ ∃ aw cw ao co', v = .slice aw (pw (pw [] zs1 l1) zs2 k).length cw ∧ x = .slice ao k co' ∧ Hid (PJ w.heap.size w aw (pw (pw [] zs1 l1) zs2 k).length cw (pw (pw [] zs1 l1) zs2 k) ao k co' (po (pw [] zs1 l1) zs2 k) (some ⟨gx, 0, none⟩) l1 co (po [] zs1 l1) wr)) (fun _ _ _ i _ => l2 - (intOf i).toNat)
      case atStart => exact ⟨0, Nat.zero_le _, rfl, aw1, cw1, none, 0, rfl, rfl, HJ⟩
      case round =>
        obtain ⟨k, hk, rfl, aw1, cw1, ao, co2, rfl, rfl, HI⟩ := hrel
        clear HJ
        obtain ⟨w2, rfl⟩ : ∃ w2 : World, w2 = wr := ⟨_, rfl⟩
        by_cases hlt : k < l2
        · have hcz : w2.cell? ⟨b2, f2 + k, none⟩ = some (.int .i64 (zs2.getD k 0)) := (HI.out.bel.cell hB2).trans (Z2.out k (by omega))
          have hlen := pw_len (pw [] zs1 l1) zs2 k
          have hV1 := HV1.out
          have hg : Hid (pw (pw [] zs1 l1) zs2 (k + 1) = growF (pw (pw [] zs1 l1) zs2 k) (zs2.getD k 0)) := Lib.hid rfl
          have hp : Hid (po (pw [] zs1 l1) zs2 (k + 1) = po (pw [] zs1 l1) zs2 k ++ [((posF (pw (pw [] zs1 l1) zs2 k) (zs2.getD k 0) : Nat) : Int)]) := Lib.hid rfl
          generalize zs2.getD k 0 = z at hcz hg hp
          generalize pw (pw [] zs1 l1) zs2 k = V at HI hlen hg hp
          generalize po (pw [] zs1 l1) zs2 k = O at HI hp
          have FA := Lib.hid (find_any w.heap.size aw1 V.length cw1 V z w2 HI.out.row HI.out.sz (by omega))
          go_upto_region 16 with (go_at_call 83; refine FA.out.mono ?_; rintro e w3 ⟨aw', cw', rfl, r1, r2, r3, r4⟩)
          have HK := Lib.hid (HI.out.find r1 r2 r3 r4)
          clear r1 r2 r3 r4 HI FA hcz
          go_wp2_with (at_builtin; refine wpList_append_lies _ rfl _ _ 60 rfl w.heap.size 3 i0 (.int .i64 0) 1 8 Try.underlying60 hi hz0 hz1 hz2 rfl (by decide) _ _ _ rfl (HK.out.out.alloc _) ⟨w3.heap.size, 0, none⟩ 1 1 [.int .i64 (posF V z : Nat)] rfl rfl ?d1 ?d2 (by decide) ?d3 ?d4 ?d5 _ rfl ?_)
          case d1 => exact cell_one_new _ _ _
          case d2 => intro u hu; simp only [List.mem_singleton] at hu; subst hu; rfl
          case d3 => simp only [maxLen]; omega
          case d4 => omega
          case d5 => have := HK.out.sz; simp; omega
          intro g2 cap2 w6 hown hgrow hat hlt6
          have HM := Lib.hid (HK.out.push hown hgrow hat)
          clear hown hgrow hat hlt6 HK
          go_wp2
          go_roundw
          case rel => exact ⟨k + 1, by omega, by go_num, aw', cw', some ⟨g2, 0, none⟩, cap2, by rw [hg.out], rfl, by rw [hg.out, hp.out]; exact HM⟩
          case measure => simp [intOf]; omega
        · have hkl : k = l2 := by omega
          subst hkl
          obtain ⟨gy, cy, hy, _, _⟩ := HI.out.out.form p2
          simp only [Value.slice.injEq] at hy
          obtain ⟨rfl, _, rfl⟩ := hy
          have r1 := HI.out.old
          have r2 := HI.out.out
          rw [po_poN] at r1 r2
          have H1 := Lib.hid (holdsN_of_row r1)
          have H2 := Lib.hid (holdsN_of_row r2)
          have BEL2 := Lib.hid HI.out.bel
          have hV1 := HV1.out
          have hV : (pw (pw [] zs1 l1) zs2 k).length ≤ 6 := by
            have h2 := pw_len (pw [] zs1 l1) zs2 k
            omega
          have L1 := Lib.hid (poN_len [] zs1 l1)
          have L2 := Lib.hid (poN_len (pw [] zs1 l1) zs2 k)
          have W1 := Lib.hid (poN_lt [] zs1 l1 6 (by simp; omega) (by decide))
          have W2 := Lib.hid (poN_lt (pw [] zs1 l1) zs2 k 6 (by omega) (by decide))
          clear r1 r2 HI HV1 hV1 Z2 hB1 hB2 hl2
          generalize (pw (pw [] zs1 l1) zs2 k).length = n at hV HR0 ⊢
          generalize poN [] zs1 l1 = o1 at H1 L1 W1 HR0 ⊢
          generalize poN (pw [] zs1 l1) zs2 k = o2 at H2 L2 W2 HR0 ⊢
          obtain ⟨N, hN⟩ : ∃ N, 2 ^ n = N := ⟨_, rfl⟩
          have hN64 : N ≤ 64 := by rw [← hN]; exact Nat.pow_le_pow_right (by decide) hV
          have HR : Hid (R = sameM (N * N) (mulM N (wideM l1 n A1 o1) (wideM k n A2 o2)) (mulM N (wideM k n A2 o2) (wideM l1 n A1 o1))) := Lib.hid (by rw [← HR0.out]; unfold commR; rw [hN])
          clear HR0
          go_upto_region 18 with fail
          go_at_call 84
          refine (rwide_any k1 n l1 S1 N gx co A1 o1 hV q1 hS1 hN L1.out W1.out w2 H1.out M1.out).mono ?_
          rintro e w3 ⟨be1, rfl, h31, _, _, h32⟩
          have E1 := Lib.hid h31
          have H2' := Lib.hid (H2.out.below h32)
          have BEL3 := Lib.hid (bchain BEL2.out h32)
          clear h31 h32 H1 H2 BEL2 L1 W1 M1
          go_upto_region 18 with fail
          go_at_call 84
          refine (rwide_any k2 n k S2 N gy co2 A2 o2 hV q2 hS2 hN L2.out W2.out w3 H2'.out M2.out).mono ?_
          rintro e w4 ⟨be2, rfl, h41, _, _, h42⟩
          have E2 := Lib.hid h41
          have E1' := Lib.hid (E1.out.below h42)
          have BEL4 := Lib.hid (bchain BEL3.out h42)
          clear h41 h42 H2' E1 BEL3 L2 W2 M2
          have PS : ∀ i, Small (wideM l1 n A1 o1 i) 2 := fun i => wideM_small SA.out i
          have QS : ∀ i, Small (wideM k n A2 o2 i) 2 := fun i => wideM_small SB.out i
          generalize wideM l1 n A1 o1 = P at E1' HR PS
          generalize wideM k n A2 o2 = Q at E2 HR QS
          have T1 := Lib.hid (rtimes_any N hN64 be1 be2 N N 1 1 2 2 P Q w4 E1'.out E2.out (fun i _ => PS i) (fun i _ => QS i) (by decide) (by decide))
          have T2 := Lib.hid (fun wx (hb : Below w4.heap.size w4 wx) => rtimes_any N hN64 be2 be1 N N 1 1 2 2 Q P wx (E2.out.below hb) (E1'.out.below hb) (fun i _ => QS i) (fun i _ => PS i) (by decide) (by decide))
          clear PS QS E1' E2 SA SB
          go_upto_region 18 with fail
          go_wp2_with fail
          go_at_call 75
          refine T1.out.mono ?_
          rintro e w5 ⟨bf1, rfl, h51, _, _, h52⟩
          have G1 := Lib.hid h51
          have BEL5 := Lib.hid (bchain BEL4.out h52)
          have B5 := Lib.hid h52
          clear h51 h52 T1
          go_wp2_with fail
          go_at_call 75
          refine (T2.out w5 B5.out).mono ?_
          rintro e w6 ⟨bf2, rfl, h61, _, _, h62⟩
          have EQ := Lib.hid (alike_any N (1 + 1) bf1 bf2 N N hN64 (mulM N P Q) (mulM N Q P) w6 (G1.out.below h62) h61)
          have BEL6 := Lib.hid (bchain BEL5.out h62)
          rw [← HR.out] at EQ
          clear h61 h62 G1 T2 HR
          go_wp2_with (go_at_call 76; refine EQ.out.mono ?_; rintro e w7 ⟨rfl, hd⟩)
          go_ret2
          exact ⟨rfl, bchain BEL6.out hd.below⟩
end Go.Proofs.Ytmckaoeofikdaaa
