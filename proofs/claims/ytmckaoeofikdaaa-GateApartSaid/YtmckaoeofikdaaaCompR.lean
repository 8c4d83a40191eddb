/- Compose of the document, walked. -/
import Derived.Test.YtmckaoeofikdaaaComp
namespace Go.Proofs.Ytmckaoeofikdaaa
open Go.RowKit Lift

set_option maxHeartbeats 4000000 in
set_option maxRecDepth 100000 in
theorem rcompose_main (k1 k2 : Int) (n : Nat) (hn : n ≤ 8) (A B : Nat → Zi) (p : Nat → Bool) (w : World) (ar : Int)
    (is : ∀ k w, k = k1 ∨ k = k2 → Calls Try.prog 66 #[.int .i64 k] w fun e w' => e = .returned (.bool true) ∧ Below w.heap.size w w')
    (ra : ∀ k w, k = k1 ∨ k = k2 → Calls Try.prog 26 #[.int .i64 k] w fun e w' => e = .returned (.int .i64 ar) ∧ Below w.heap.size w w')
    (m1 : ∀ w, Calls Try.prog 52 #[.int .i64 k1] w (RMatPost n A w)) (m2 : ∀ w, Calls Try.prog 52 #[.int .i64 k2] w (RMatPost n B w))
    (sA : ∀ i, Small (A i) 2) (sB : ∀ i, Small (B i) 2)
    (mk : ∀ i : Nat, i < 20 → ∃ (m : Nat) (M : Nat → Zi), m ≤ 8 ∧ (∀ w, Calls Try.prog 52 #[.int .i64 ((i : Int) + 1)] w (RMatPost m M w)) ∧ (m ≠ n → p i = false) ∧ (m = n → p i = sameM (n * n) (dbl M) (mulM n B A))) :
    Calls Try.prog 47 #[.int .i64 k1, .int .i64 k2] w fun e w' => e = .returned (.tuple #[.int .i64 (leastF p).1, .bool (leastF p).2]) ∧ Below w.heap.size w w' := by
  have C1 := Lib.hid (fun i hi h hb => leastF_hit (p := p) (i := i) hi h hb)
  have C2 := Lib.hid (fun h => leastF_none (p := p) h)
  have MK := Lib.hid mk
  have SA := Lib.hid sA
  have SB := Lib.hid sB
  generalize leastF p = R at C1 C2 ⊢
  obtain ⟨R1, R2⟩ := R
  clear sA sB mk
  go_enter Try.func47, Try.ntmps47
  have hb1 := Below.refl w.heap.size w
  go_upto_region 3 with (first | (go_at_call 66; refine (is _ _ (by first | exact .inl rfl | exact .inr rfl)).mono ?_; rintro e w1 ⟨rfl, hb2⟩; replace hb1 := bchain hb1 hb2; clear hb2) | (go_at_call 26; refine (ra _ _ (by first | exact .inl rfl | exact .inr rfl)).mono ?_; rintro e w1 ⟨rfl, hb2⟩; replace hb1 := bchain hb1 hb2; clear hb2))
  have HB1 := Lib.hid hb1
  clear is ra hb1
  go_upto_region 4 with (go_at_call 52; refine (m1 _).mono ?_; rintro e w2 ⟨q1, rfl, h10, h11, h12, h13⟩)
  go_upto_region 5 with (go_at_call 52; refine (m2 _).mono ?_; rintro e w3 ⟨q2, rfl, h20, h21, h22, h23⟩)
  have HT := Lib.hid (rtimes_any n (by omega) q2 q1 n n 1 1 2 2 B A w3 h22 (h12.below h23) (fun i _ => SB.out i) (fun i _ => SA.out i) (by decide) (by decide))
  have HW := Lib.hid (bchain HB1.out (bchain h13 h23))
  clear h10 h11 h12 h13 h20 h21 h22 h23 HB1 m1 m2 SA SB
  go_upto_region 6 with (go_at_call 75; refine HT.out.mono ?_; rintro e w6 ⟨be, rfl, h60, _, h61, h62⟩)
  have HE2 := Lib.hid h60
  have HW2 := Lib.hid (bchain HW.out h62)
  clear h60 h61 h62 HW HT
  go_wp2
  go_loopw [11, 12, 13] (fun k _ _ wr => ∃ j : Nat, j ≤ 20 ∧ k = .int .i64 ((j : Int) + 1) ∧ Hid (∀ i, i < j → p i = false) ∧ Hid (Below w6.heap.size w6 wr)) (fun k _ _ _ => 21 - (intOf k).toNat)
  case atStart => exact ⟨0, Nat.zero_le _, rfl, Lib.hid fun j hj => by omega, Lib.hid (Below.refl _ _)⟩
  case round =>
    obtain ⟨j, hj, rfl, HN, HB⟩ := hrel
    obtain ⟨w7, rfl⟩ : ∃ w7 : World, w7 = wr := ⟨_, rfl⟩
    by_cases hlt : j < 20
    · obtain ⟨m, M, hm, hcall, hp1, hp2⟩ := MK.out j hlt
      have P1 := Lib.hid hp1
      have P2 := Lib.hid hp2
      clear hp1 hp2 MK
      go_upto_region 10 with (go_at_call 52; refine (hcall _).mono ?_; rintro e w9 ⟨bm, rfl, h80, h81, hM, h83⟩)
      have hW9 := HB.out.trans (h83.mono HB.out.size)
      clear h80 h81 h83 hcall
      have hE9 := HE2.out.below hW9
      have HW9 := Lib.hid hW9
      by_cases hmn : m = n
      · subst hmn
        have hp := P2.out rfl
        have EQ := Lib.hid (alike_any m (1 + 1) bm be m m (by omega) (dbl M) (mulM m B A) w9 hM.dbl hE9)
        rw [← hp] at EQ
        clear hp hM hE9 hW9 P1 P2
        cases hpj : p j with
        | true =>
          have hR := C1.out j hlt hpj HN.out
          obtain ⟨rfl, rfl⟩ : R1 = (j : Int) + 1 ∧ R2 = true := by simpa using hR
          rw [hpj] at EQ
          clear hR hpj C1 C2
          go_wp2_with (go_at_call 76; refine EQ.out.mono ?_; rintro e w10 ⟨rfl, hd⟩)
          go_ret2
          exact ⟨rfl, bchain HW2.out (HW9.out.trans (hd.below.mono HW9.out.size))⟩
        | false =>
          have HN' : Hid (∀ i, i < j + 1 → p i = false) := Lib.hid fun i hi => by
            rcases Nat.lt_succ_iff_lt_or_eq.1 hi with h | h
            · exact HN.out i h
            · rw [h]; exact hpj
          rw [hpj] at EQ
          clear hpj HN
          go_wp2_with (go_at_call 76; refine EQ.out.mono ?_; rintro e w10 ⟨rfl, hd⟩)
          go_roundw
          case rel => exact ⟨j + 1, by omega, by go_num, HN', Lib.hid (HW9.out.trans (hd.below.mono HW9.out.size))⟩
          case measure => simp [intOf]; omega
      · have hpj := P1.out hmn
        have EQ := Lib.hid (alike_len m n m n (some ⟨bm, 0, none⟩) (some ⟨be, 0, none⟩) hmn w9)
        have HN' : Hid (∀ i, i < j + 1 → p i = false) := Lib.hid fun i hi => by
          rcases Nat.lt_succ_iff_lt_or_eq.1 hi with h | h
          · exact HN.out i h
          · rw [h]; exact hpj
        clear hM hE9 hW9 P1 P2 hpj hmn HN
        go_wp2_with (go_at_call 76; refine EQ.out.mono ?_; rintro e w10 ⟨rfl, hd⟩)
        go_roundw
        case rel => exact ⟨j + 1, by omega, by go_num, HN', Lib.hid (HW9.out.trans (hd.below.mono HW9.out.size))⟩
        case measure => simp [intOf]; omega
    · have hR := C2.out (fun i hi => HN.out i (by omega))
      obtain ⟨rfl, rfl⟩ : R1 = 0 ∧ R2 = false := by simpa using hR
      clear hR
      go_wp2
      go_ret2
      exact ⟨rfl, bchain HW2.out HB.out⟩

set_option maxHeartbeats 1000000 in
set_option maxRecDepth 100000 in
/-- One is no kind, or their arities differ. -/
theorem rcompose_none (k1 k2 : Int) (w : World) (fi : Int → Bool) (fa : Int → Int)
    (is : ∀ k w, k = k1 ∨ k = k2 → Calls Try.prog 66 #[.int .i64 k] w fun e w' => e = .returned (.bool (fi k)) ∧ Below w.heap.size w w')
    (ra : ∀ k w, k = k1 ∨ k = k2 → Calls Try.prog 26 #[.int .i64 k] w fun e w' => e = .returned (.int .i64 (fa k)) ∧ Below w.heap.size w w')
    (h : (!fi k1 || !fi k2 || (fa k1 != fa k2)) = true) :
    Calls Try.prog 47 #[.int .i64 k1, .int .i64 k2] w fun e w' => e = .returned (.tuple #[.int .i64 0, .bool false]) ∧ Below w.heap.size w w' := by
  have hb1 := Below.refl w.heap.size w
  cases e1 : fi k1 with
  | false =>
    clear h
    go_enter Try.func47, Try.ntmps47
    go_wp2_with (first | (go_at_call 66; refine (is _ _ (by first | exact .inl rfl | exact .inr rfl)).mono ?_; rintro e w1 ⟨rfl, hb2⟩; replace hb1 := bchain hb1 hb2; clear hb2) | (go_at_call 26; refine (ra _ _ (by first | exact .inl rfl | exact .inr rfl)).mono ?_; rintro e w1 ⟨rfl, hb2⟩; replace hb1 := bchain hb1 hb2; clear hb2))
    go_ret2
    exact ⟨rfl, hb1⟩
  | true =>
    cases e2 : fi k2 with
    | false =>
      clear h
      go_enter Try.func47, Try.ntmps47
      go_wp2_with (first | (go_at_call 66; refine (is _ _ (by first | exact .inl rfl | exact .inr rfl)).mono ?_; rintro e w1 ⟨rfl, hb2⟩; replace hb1 := bchain hb1 hb2; clear hb2) | (go_at_call 26; refine (ra _ _ (by first | exact .inl rfl | exact .inr rfl)).mono ?_; rintro e w1 ⟨rfl, hb2⟩; replace hb1 := bchain hb1 hb2; clear hb2))
      go_ret2
      exact ⟨rfl, hb1⟩
    | true =>
      have e3 : (fa k1 != fa k2) = true := by rw [e1, e2] at h; simpa using h
      clear h
      go_enter Try.func47, Try.ntmps47
      go_wp2_with (first | (go_at_call 66; refine (is _ _ (by first | exact .inl rfl | exact .inr rfl)).mono ?_; rintro e w1 ⟨rfl, hb2⟩; replace hb1 := bchain hb1 hb2; clear hb2) | (go_at_call 26; refine (ra _ _ (by first | exact .inl rfl | exact .inr rfl)).mono ?_; rintro e w1 ⟨rfl, hb2⟩; replace hb1 := bchain hb1 hb2; clear hb2))
      go_ret2
      exact ⟨rfl, hb1⟩
end Go.Proofs.Ytmckaoeofikdaaa
