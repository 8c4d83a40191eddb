/- The law GateApart, walked. -/
import Derived.Test.YtmckaoeofikdaaaApartU
namespace Go.Proofs.Ytmckaoeofikdaaa
open Go.RowKit Lift

theorem inverse_facts : ((List.range 20).all fun i => decide (arityF (inverseF ((i : Int) + 1)) = arityF ((i : Int) + 1)) && decide ((Lit.int .i64 (inverseF ((i : Int) + 1))).wf = true)) = true := by decide +kernel
theorem inverse_at {k : Int} (h1 : 1 ≤ k) (h2 : k ≤ 20) : arityF (inverseF k) = arityF k ∧ (Lit.int .i64 (inverseF k)).wf = true := by
  have h := List.all_eq_true.1 inverse_facts (k - 1).toNat (List.mem_range.2 (by omega))
  have ek : (((k - 1).toNat : Nat) : Int) + 1 = k := by omega
  rw [ek] at h
  simpa using h

set_option maxHeartbeats 4000000 in
set_option maxRecDepth 100000 in
theorem gapart_not (k1 k2 : Int) (s1 s2 : Value) (w : World) (E1 E2 : Int) (n1 : (E1 != 0) = true) (n2 : (E2 != 0) = true)
    (c1 : ∀ wx, Below w.heap.size w wx → Calls Try.prog 50 #[.int .i64 k1, s1, .int .i64 k2, s2] wx fun e w' => e = .returned (.tuple #[.bool false, .int .i64 E1]) ∧ Below wx.heap.size wx w')
    (c2 : ∀ wx, Below w.heap.size w wx → Calls Try.prog 50 #[.int .i64 k2, s2, .int .i64 k1, s1] wx fun e w' => e = .returned (.tuple #[.bool false, .int .i64 E2]) ∧ Below wx.heap.size wx w') :
    Calls Try.prog 11 #[.int .i64 k1, s1, .int .i64 k2, s2] w fun e w' => e = .returned (.bool true) ∧ Below w.heap.size w w' := by
  have hb := Below.refl w.heap.size w
  go_enter Try.func11, Try.ntmps11
  go_upto_region 2 with (go_at_call 50; refine (c1 _ hb).mono ?_; rintro e w1 ⟨rfl, hb1⟩; replace hb := bchain hb hb1; clear hb1)
  go_upto_region 3 with (go_at_call 50; refine (c2 _ hb).mono ?_; rintro e w2 ⟨rfl, hb2⟩; replace hb := bchain hb hb2; clear hb2)
  clear c1 c2
  go_wp2_with (first | (go_at_call 19; refine (num_any _ _).mono ?_; rintro e w' ⟨rfl, rfl⟩) | (go_at_call 39; refine (alive_calls _).mono ?_; rintro e w6 ⟨rfl, hb6⟩; replace hb := bchain hb hb6; clear hb6))
  go_ret
  exact ⟨rfl, hb⟩

set_option maxHeartbeats 4000000 in
set_option maxRecDepth 100000 in
theorem gapart_fine (k1 k2 kin : Int) (b1 f1 c1 b2 f2 c2 l1 l2 : Nat) (zs1 zs2 : List Int) (w : World) (R D1 D2 : Bool) (hl1 : zs1.length = l1) (hl2 : zs2.length = l2) (q1 : l1 ≤ 3) (q2 : l2 ≤ 3)
    (z1 : ∀ i, i < zs1.length → w.cell? ⟨b1, f1 + i, none⟩ = some (.int .i64 (zs1.getD i 0))) (z2 : ∀ i, i < zs2.length → w.cell? ⟨b2, f2 + i, none⟩ = some (.int .i64 (zs2.getD i 0)))
    (far : (∀ i k, i < l1 → k < l2 → zs1.getD i 0 ≠ zs2.getD k 0) → R = true) (dg : D1 = true → D2 = true → R = true)
    (cc1 : ∀ wx, Below w.heap.size w wx → Calls Try.prog 50 #[.int .i64 k1, .slice (some ⟨b1, f1, none⟩) l1 c1, .int .i64 k2, .slice (some ⟨b2, f2, none⟩) l2 c2] wx fun e w' => e = .returned (.tuple #[.bool R, .int .i64 0]) ∧ Below wx.heap.size wx w')
    (cc2 : ∀ wx, Below w.heap.size w wx → Calls Try.prog 50 #[.int .i64 k2, .slice (some ⟨b2, f2, none⟩) l2 c2, .int .i64 k1, .slice (some ⟨b1, f1, none⟩) l1 c1] wx fun e w' => e = .returned (.tuple #[.bool R, .int .i64 0]) ∧ Below wx.heap.size wx w')
    (cc3 : ∀ wx, Below w.heap.size w wx → Calls Try.prog 50 #[.int .i64 k1, .slice (some ⟨b1, f1, none⟩) l1 c1, .int .i64 k1, .slice (some ⟨b1, f1, none⟩) l1 c1] wx fun e w' => e = .returned (.tuple #[.bool true, .int .i64 0]) ∧ Below wx.heap.size wx w')
    (cc4 : ∀ wx, Below w.heap.size w wx → Calls Try.prog 50 #[.int .i64 k1, .slice (some ⟨b1, f1, none⟩) l1 c1, .int .i64 kin, .slice (some ⟨b1, f1, none⟩) l1 c1] wx fun e w' => e = .returned (.tuple #[.bool true, .int .i64 0]) ∧ Below wx.heap.size wx w')
    (inv : ∀ wx, Calls Try.prog 37 #[.int .i64 k1] wx fun e w' => e = .returned (.int .i64 kin) ∧ Below wx.heap.size wx w')
    (d1 : ∀ wx, Calls Try.prog 33 #[.int .i64 k1] wx fun e w' => e = .returned (.bool D1) ∧ Below wx.heap.size wx w')
    (d2 : ∀ wx, Calls Try.prog 33 #[.int .i64 k2] wx fun e w' => e = .returned (.bool D2) ∧ Below wx.heap.size wx w') :
    Calls Try.prog 11 #[.int .i64 k1, .slice (some ⟨b1, f1, none⟩) l1 c1, .int .i64 k2, .slice (some ⟨b2, f2, none⟩) l2 c2] w fun e w' => e = .returned (.bool true) ∧ Below w.heap.size w w' := by
  have Z1 := Lib.hid z1
  have Z2 := Lib.hid z2
  have FAR := Lib.hid far
  have DG := Lib.hid dg
  have Hl1 := Lib.hid hl1
  have Hl2 := Lib.hid hl2
  have C3 := Lib.hid cc3
  have C4 := Lib.hid cc4
  clear z1 z2 far dg hl1 hl2 cc3 cc4
  have hb := Below.refl w.heap.size w
  go_enter Try.func11, Try.ntmps11
  go_upto_region 2 with (go_at_call 50; refine (cc1 _ hb).mono ?_; rintro e w1 ⟨rfl, hb1⟩; replace hb := bchain hb hb1; clear hb1)
  go_upto_region 3 with (go_at_call 50; refine (cc2 _ hb).mono ?_; rintro e w2 ⟨rfl, hb2⟩; replace hb := bchain hb hb2; clear hb2)
  clear cc1 cc2
  go_upto_region 5 with (first | (go_at_call 19; refine (num_any _ _).mono ?_; rintro e w' ⟨rfl, rfl⟩))
  have HB := Lib.hid hb
  clear hb
  go_wp2
  go_loopw [13, 14, 15] (fun v i _ wr => ∃ m : Nat, m ≤ l1 ∧ i = .int .i64 m ∧ ∃ B : Bool, v = .bool B ∧ Hid (B = false → ∀ i k, i < m → k < l2 → zs1.getD i 0 ≠ zs2.getD k 0) ∧ Drawn w2 wr) (fun _ i _ _ => l1 - (intOf i).toNat)
  case atStart => exact ⟨0, Nat.zero_le _, rfl, false, rfl, Lib.hid fun _ i k hi => by omega, Drawn.refl _⟩
  case round =>
    obtain ⟨m, hm, rfl, B, rfl, HN, hd⟩ := hrel
    obtain ⟨w3, rfl⟩ : ∃ w3 : World, w3 = wr := ⟨_, rfl⟩
    have Hd := Lib.hid hd
    clear hd
    by_cases hlt : m < l1
    · go_wp2
      go_loopw [13, 15] (fun v k wr => ∃ q : Nat, q ≤ l2 ∧ k = .int .i64 q ∧ ∃ B : Bool, v = .bool B ∧ Hid (B = false → (∀ i k, i < m → k < l2 → zs1.getD i 0 ≠ zs2.getD k 0) ∧ ∀ k, k < q → zs1.getD m 0 ≠ zs2.getD k 0) ∧ Drawn w2 wr) (fun _ k _ => l2 - (intOf k).toNat)
      case atStart => exact ⟨0, Nat.zero_le _, rfl, B, rfl, Lib.hid fun h => ⟨HN.out h, fun k hk => by omega⟩, Hd.out⟩
      case round =>
        obtain ⟨q, hq, rfl, B', rfl, HM, hd⟩ := hrel
        clear HN Hd
        obtain ⟨w4, rfl⟩ : ∃ w4 : World, w4 = wr := ⟨_, rfl⟩
        have Hd := Lib.hid hd
        clear hd
        by_cases hqt : q < l2
        · have hb4 := HB.out.trans (Hd.out.below.mono HB.out.size)
          have s1 := (hb4.cell (World.block_lt_of_cell? w _ (Z1.out m (by rw [Hl1.out]; exact hlt)))).trans (Z1.out m (by rw [Hl1.out]; exact hlt))
          have s2 := (hb4.cell (World.block_lt_of_cell? w _ (Z2.out q (by rw [Hl2.out]; exact hqt)))).trans (Z2.out q (by rw [Hl2.out]; exact hqt))
          clear hb4
          cases B' with
          | true =>
            clear s1 s2 HM
            go_wp2
            go_quiet (fail)
            go_wp2
            go_roundw
            case rel => exact ⟨q + 1, by omega, by go_num, true, rfl, Lib.hid (fun h => by cases h), Drawn.drewN Hd.out⟩
            case measure => simp [intOf]; omega
          | false =>
            have HE : Hid (∀ x y, zs1.getD m 0 = x → zs2.getD q 0 = y → x ≠ y → ∀ k, k < q + 1 → zs1.getD m 0 ≠ zs2.getD k 0) := Lib.hid fun x y hx hy hne k hk => by
              rcases Nat.lt_succ_iff_lt_or_eq.1 hk with h | h
              · exact (HM.out rfl).2 k h
              · rw [h, hx, hy]; exact hne
            obtain ⟨x, hx⟩ : ∃ x, zs1.getD m 0 = x := ⟨_, rfl⟩
            obtain ⟨y, hy⟩ : ∃ y, zs2.getD q 0 = y := ⟨_, rfl⟩
            rw [hx] at s1
            rw [hy] at s2
            have HE2 : Hid (x ≠ y → ∀ k, k < q + 1 → zs1.getD m 0 ≠ zs2.getD k 0) := Lib.hid (HE.out x y hx hy)
            clear HE hx hy
            by_cases e : x = y
            · subst e
              clear HM HE2
              go_wp2
              go_quiet (fail)
              go_wp2
              go_roundw
              case rel => exact ⟨q + 1, by omega, by go_num, true, rfl, Lib.hid (fun h => by cases h), Drawn.drewN Hd.out⟩
              case measure => simp [intOf]; omega
            · have e' : (x == y) = false := by simpa using e
              have HM' : Hid ((∀ i k, i < m → k < l2 → zs1.getD i 0 ≠ zs2.getD k 0) ∧ ∀ k, k < q + 1 → zs1.getD m 0 ≠ zs2.getD k 0) := Lib.hid ⟨(HM.out rfl).1, HE2.out e⟩
              clear HM HE2 e
              go_wp2
              go_quiet (fail)
              go_wp2
              go_roundw
              case rel => exact ⟨q + 1, by omega, by go_num, false, rfl, Lib.hid (fun _ => HM'.out), Drawn.drewN Hd.out⟩
              case measure => simp [intOf]; omega
        · have HM' : Hid (B' = false → ∀ i k, i < m + 1 → k < l2 → zs1.getD i 0 ≠ zs2.getD k 0) := Lib.hid fun h i k hi hk => by
            rcases Nat.lt_succ_iff_lt_or_eq.1 hi with h' | h'
            · exact (HM.out h).1 i k h' hk
            · rw [h']; exact (HM.out h).2 k (by omega)
          clear HM
          go_wp2
          go_roundw
          case rel => exact ⟨m + 1, by omega, by go_num, B', rfl, HM', Hd.out⟩
          case measure => simp [intOf]; omega
    · have HF : Hid (B = false → R = true) := Lib.hid fun h => FAR.out fun i k hi hk => HN.out h i k (by omega) hk
      have hb := bchain HB.out Hd.out.below
      clear HN FAR Hd HB Z1 Z2
      have cc3 := C3.out
      have cc4 := C4.out
      clear C3 C4
      go_upto_region 14 with (go_at_call 50; refine (cc3 _ hb).mono ?_; rintro e w4 ⟨rfl, hb1⟩; replace hb := bchain hb hb1; clear hb1)
      go_upto_region 15 with (first | (go_at_call 37; refine (inv _).mono ?_; rintro e w5 ⟨rfl, hb1⟩; replace hb := bchain hb hb1; clear hb1) | (go_at_call 50; refine (cc4 _ hb).mono ?_; rintro e w6 ⟨rfl, hb1⟩; replace hb := bchain hb hb1; clear hb1))
      clear cc3 cc4 inv
      have HF' := HF.out
      have DG' := DG.out
      clear HF DG
      cases R with
      | true =>
        clear HF' DG'
        cases B <;> cases D1 <;> cases D2 <;> (
          go_wp2_with (first | (go_at_call 19; refine (num_any _ _).mono ?_; rintro e w' ⟨rfl, rfl⟩) | (go_at_call 33; with_reducible (refine (d1 _).mono ?_); rintro e w7 ⟨rfl, hb1⟩; replace hb := bchain hb hb1; clear hb1) | (go_at_call 33; with_reducible (refine (d2 _).mono ?_); rintro e w7 ⟨rfl, hb1⟩; replace hb := bchain hb hb1; clear hb1) | (go_at_call 39; refine (alive_calls _).mono ?_; rintro e w8 ⟨rfl, hb1⟩; replace hb := bchain hb hb1; clear hb1))
          go_ret
          exact ⟨rfl, hb⟩)
      | false =>
        have hB : B = true := by
          cases B with
          | true => rfl
          | false => exact absurd (HF' rfl) (by decide)
        subst hB
        have hD : ¬ (D1 = true ∧ D2 = true) := fun h => absurd (DG' h.1 h.2) (by decide)
        clear HF' DG'
        cases D1 <;> cases D2 <;> first | exact absurd ⟨rfl, rfl⟩ hD | skip
        all_goals (
          clear hD
          go_wp2_with (first | (go_at_call 19; refine (num_any _ _).mono ?_; rintro e w' ⟨rfl, rfl⟩) | (go_at_call 33; with_reducible (refine (d1 _).mono ?_); rintro e w7 ⟨rfl, hb1⟩; replace hb := bchain hb hb1; clear hb1) | (go_at_call 33; with_reducible (refine (d2 _).mono ?_); rintro e w7 ⟨rfl, hb1⟩; replace hb := bchain hb hb1; clear hb1) | (go_at_call 39; refine (alive_calls _).mono ?_; rintro e w8 ⟨rfl, hb1⟩; replace hb := bchain hb hb1; clear hb1))
          go_ret
          exact ⟨rfl, hb⟩)

/-! The law GateApart, joined: the walk and the plain laws. -/
theorem gapart_row (k1 : Int) (a1 : Option Addr) (l1 c1 : Nat) (z1 : List Int) (k2 : Int) (a2 : Option Addr) (l2 c2 : Nat) (z2 : List Int) (w : World) (hk1 : (Lit.int .i64 k1).wf = true) (g1 : IsRow .i64 w a1 l1 c1 z1) (hk2 : (Lit.int .i64 k2).wf = true)
    (g2 : IsRow .i64 w a2 l2 c2 z2) :
    Calls Try.prog 11 #[.int .i64 k1, .slice a1 l1 c1, .int .i64 k2, .slice a2 l2 c2] w fun e w' => e = .returned (.bool true) ∧ Below w.heap.size w w' := by
  obtain ⟨h1, hl1, hc1⟩ := g1.isL
  obtain ⟨h2, hl2, hc2⟩ := g2.isL
  generalize z1.take l1 = zs1 at *
  generalize z2.take l2 = zs2 at *
  have com := fun (ka kb : Int) (hka : (Lit.int .i64 ka).wf = true) (hkb : (Lit.int .i64 kb).wf = true) (aa ab : Option Addr) (la ca lb cb : Nat) (za zb : List Int) (ha : IsL w aa za) (hb : IsL w ab zb) (ela : za.length = la) (elb : zb.length = lb) (eca : la ≤ ca) (ecb : lb ≤ cb) (wx : World) (hbx : Below w.heap.size w wx) =>
    commute_any ka kb aa ab la ca lb cb za zb wx hka hkb (ha.below hbx) (hb.below hbx) ela elb eca ecb
  have cA := com k1 k2 hk1 hk2 a1 a2 l1 c1 l2 c2 zs1 zs2 h1 h2 hl1 hl2 hc1 hc2
  have cB := com k2 k1 hk2 hk1 a2 a1 l2 c2 l1 c1 zs2 zs1 h2 h1 hl2 hl1 hc2 hc1
  by_cases hf : Fine k1 zs1 k2 zs2
  · obtain ⟨p1, q1, p2, q2⟩ := hf.len
    have f1 := hf.2.2.2.2.1
    have f2 := hf.2.2.2.2.2
    have e1 := hf.2.2.1
    have e2 := hf.2.2.2.1
    have r1 := isF_in (k := k1) (by rw [is_arity]; simpa using hf.1)
    obtain ⟨i1, i2⟩ := inverse_at r1.1 r1.2
    have o1 : Fine k1 zs1 k1 zs1 := ⟨hf.1, hf.1, e1, e1, f1, f1⟩
    have o2 : Fine k1 zs1 (inverseF k1) zs1 := ⟨hf.1, by rw [i1]; exact hf.1, e1, by rw [i1]; exact e1, f1, f1⟩
    have cC := com k1 k1 hk1 hk1 a1 a1 l1 c1 l1 c1 zs1 zs1 h1 h1 hl1 hl1 hc1 hc1
    have cD := com k1 (inverseF k1) hk1 i2 a1 a1 l1 c1 l1 c1 zs1 zs1 h1 h1 hl1 hl1 hc1 hc1
    rw [commuteF_fine hf] at cA
    rw [commuteF_fine hf.symm, ← commF_symm k1 k2 f1 f2 p1 q1 p2 q2] at cB
    rw [commuteF_fine o1, commF_own f1] at cC
    rw [commuteF_fine o2, commF_inverse f1 p1 q1 e1] at cD
    obtain ⟨b1, x1, rfl, y1⟩ := isL_cells h1 p1
    obtain ⟨b2, x2, rfl, y2⟩ := isL_cells h2 p2
    refine gapart_fine k1 k2 (inverseF k1) b1 x1 c1 b2 x2 c2 l1 l2 zs1 zs2 w (commF k1 k2 zs1 zs2) (diagonalF k1) (diagonalF k2) hl1 hl2 (by omega) (by omega) y1 y2 (fun hd => ?_) (fun d1 d2 => commF_diag f1 f2 p1 q1 p2 q2 e1 e2 d1 d2) cA cB cC cD (fun wx => inverse_any k1 hk1 wx) (fun wx => diagonal_any k1 hk1 wx) (fun wx => diagonal_any k2 hk2 wx)
    refine commF_far f1 f2 q1 q2 fun x hx2 hx1 => ?_
    obtain ⟨k, hk, rfl⟩ := List.mem_iff_getElem.1 hx2
    obtain ⟨i, hi, hik⟩ := List.mem_iff_getElem.1 hx1
    refine hd i k (by omega) (by omega) ?_
    rw [List.getD_eq_getElem?_getD, List.getD_eq_getElem?_getD, List.getElem?_eq_getElem hi, List.getElem?_eq_getElem hk, hik]
  · have hf' : ¬ Fine k2 zs2 k1 zs1 := fun h => hf h.symm
    rcases commuteF_not hf with e1 | e1 <;> rcases commuteF_not hf' with e2 | e2 <;>
    · rw [e1] at cA
      rw [e2] at cB
      exact gapart_not k1 k2 _ _ w _ _ (by decide) (by decide) cA cB
end Go.Proofs.Ytmckaoeofikdaaa
