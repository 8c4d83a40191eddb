/- Check of the document; the law GateChecks. -/
import Derived.Test.YtmckaoeofikdaaaChk
import Derived.Test.YtmckaoeofikdaaaAlive
namespace Go.Proofs.Ytmckaoeofikdaaa
open Go.RowKit Lift

theorem pick_two {α β : Type} {vs : List α} {us : List β} {o : α} {p : β} (Q : α → β → Prop) (h : ∀ i, i < 20 → Q (vs.getD i o) (us.getD i p)) (ho : Q o p) (k : Int) : Q (pick vs o k) (pick us p k) := by
  unfold pick
  by_cases hk : 1 ≤ k ∧ k ≤ 20
  · rw [if_pos hk, if_pos hk]; exact h _ (by omega)
  · rw [if_neg hk, if_neg hk]; exact ho
theorem is_arity (k : Int) : isF k = !(arityF k == 0) :=
  pick_two (fun a b => a = !(b == 0)) (by decide) (by decide) k

set_option maxHeartbeats 1000000 in
theorem rcheck_any (k : Int) (a : Option Addr) (len cap : Nat) (zs : List Int) (n : Int) (w : World) (hk : (Lit.int .i64 k).wf = true) (h : IsL w a zs) (hl : zs.length = len) :
    Calls Try.prog 49 #[.int .i64 k, .slice a len cap, .int .i64 n] w fun e w' => e = .returned (.int .i64 (checkF k zs n)) ∧ Below w.heap.size w w' := by
  have hm := h.1
  rw [hl] at hm
  unfold maxLen at hm
  have ar := behind (fun w => rarity_any k hk w) w
  have is := behind (fun w => is_any k hk w) w
  rw [is_arity] at is
  have hb1 := Below.refl w.heap.size w
  have c1 := fun h => checkF_none (k := k) (zs := zs) (n := n) h
  have c2 := fun h h2 => checkF_len (k := k) (zs := zs) (n := n) h h2
  have c3 := fun h i hi h3 => checkF_bad (k := k) (zs := zs) (n := n) h (i := i) hi h3
  have c4 := fun h h2 h3 => checkF_ok (k := k) (zs := zs) (n := n) h h2 h3
  generalize checkF k zs n = R at c1 c2 c3 c4
  generalize arityF k = A at ar is c1 c2 c3 c4
  rw [hl] at c2 c4
  by_cases ha : A = 0
  · have HR := Lib.hid (c1 ha)
    subst ha
    clear c1 c2 c3 c4
    go_enter Try.func49, Try.ntmps49
    go_wp2_with (go_at_call 66; refine (is _ hb1).mono ?_; clear hb1; rintro e w1 ⟨rfl, hb1⟩)
    go_ret
    exact ⟨by rw [HR.out]; rfl, hb1⟩
  have ha' : (A == 0) = false := by simpa using ha
  by_cases h2 : (len : Int) = A
  case neg =>
    have HR := Lib.hid (c2 ha h2)
    have h2'' : ((len : Int) != A) = true := by simpa using h2
    clear c1 c2 c3 c4 ha h2
    go_enter Try.func49, Try.ntmps49
    go_wp2_with (first | (go_at_call 66; refine (is _ hb1).mono ?_; clear hb1; rintro e w1 ⟨rfl, hb1⟩) | (go_at_call 26; refine (ar _ hb1).mono ?_; clear hb1; rintro e w1 ⟨rfl, hb1⟩))
    go_ret
    exact ⟨by rw [HR.out]; rfl, hb1⟩
  subst h2
  clear c1 c2
  have h2' : ((len : Int) != (len : Int)) = false := by simp
  have C3 := Lib.hid (c3 ha)
  have C4 := Lib.hid (c4 ha rfl)
  clear c3 c4 ha
  rcases h.2 with rfl | hne
  · simp only [List.length_nil] at hl
    subst hl
    simp at ha'
  have HC : Hid (∃ b off, a = some ⟨b, off, none⟩ ∧ ∀ i, i < zs.length → w.cell? ⟨b, off + i, none⟩ = some (.int .i64 (zs.getD i 0))) := Lib.hid hne
  have Hl := Lib.hid hl
  clear hne h hl
  go_enter Try.func49, Try.ntmps49
  go_wp2_with (first | (go_at_call 66; refine (is _ hb1).mono ?_; clear hb1; rintro e w1 ⟨rfl, hb1⟩) | (go_at_call 26; refine (ar _ hb1).mono ?_; clear hb1; rintro e w1 ⟨rfl, hb1⟩))
  obtain ⟨b, off, rfl, hc⟩ := HC.out
  have HC1 : Hid (∀ i, i < zs.length → w1.cell? ⟨b, off + i, none⟩ = some (.int .i64 (zs.getD i 0))) := Lib.hid fun i hi => (hb1.cell (World.block_lt_of_cell? w _ (hc i hi))).trans (hc i hi)
  clear hc HC ar is
  go_loopw [7, 8] (fun i _ wr => ∃ m : Nat, m ≤ len ∧ i = .int .i64 m ∧ Hid (∀ i, i < m → okAt zs n i) ∧ Drawn w1 wr) (fun i _ _ => len - (intOf i).toNat)
  case atStart => exact ⟨0, Nat.zero_le _, rfl, Lib.hid fun j hj => by omega, Drawn.refl _⟩
  case round =>
    obtain ⟨m, hm1, rfl, HN, hdr⟩ := hrel
    obtain ⟨wo, rfl⟩ : ∃ wo : World, wo = wr := ⟨_, rfl⟩
    have hbo : Below w.heap.size w wo := hb1.trans (hdr.below.mono hb1.size)
    have HCo : Hid (∀ i, i < zs.length → wo.cell? ⟨b, off + i, none⟩ = some (.int .i64 (zs.getD i 0))) := Lib.hid fun i hi => (hdr.cell _).trans (HC1.out i hi)
    by_cases hlt : m < len
    · have hmz : m < zs.length := by rw [Hl.out]; exact hlt
      obtain ⟨z, hz⟩ : ∃ z, zs.getD m 0 = z := ⟨_, rfl⟩
      have hcell : wo.cell? ⟨b, off + m, none⟩ = some (.int .i64 z) := by rw [HCo.out m hmz, hz]
      have hok : okAt zs n m ↔ 0 ≤ z ∧ z < n ∧ (zs.take m).contains z = false := by unfold okAt; rw [hz]
      have HB : Hid (¬ okAt zs n m → R = 61) := Lib.hid (C3.out m hmz)
      have HK := Lib.hid hok
      have Hmz := Lib.hid hmz
      have Hdr := Lib.hid hdr
      clear hok hz hmz hdr
      by_cases z0 : z < 0
      · have HR : Hid (R = 61) := Lib.hid (HB.out (by rw [HK.out]; omega))
        clear HB HK C3 C4
        go_wp2
        go_ret
        exact ⟨by rw [HR.out]; rfl, hbo⟩
      · by_cases zn : n ≤ z
        · have HR : Hid (R = 61) := Lib.hid (HB.out (by rw [HK.out]; omega))
          clear HB HK C3 C4
          go_wp2
          go_ret
          exact ⟨by rw [HR.out]; rfl, hbo⟩
        · go_wp2
          go_loopw [8] (fun j wr => ∃ q : Nat, q ≤ m ∧ j = .int .i64 q ∧ Hid (∀ i, i < q → zs.getD i 0 ≠ z) ∧ Drawn wo wr) (fun j _ => m - (intOf j).toNat)
          case atStart => exact ⟨0, Nat.zero_le _, rfl, Lib.hid fun j hj => by omega, Drawn.refl _⟩
          case round =>
            obtain ⟨q, hq, rfl, HQ, hdq⟩ := hrel
            obtain ⟨wi, rfl⟩ : ∃ wi : World, wi = wr := ⟨_, rfl⟩
            have hbi : Below w.heap.size w wi := hbo.trans (hdq.below.mono hbo.size)
            have hci : wi.cell? ⟨b, off + m, none⟩ = some (.int .i64 z) := (hdq.cell _).trans hcell
            by_cases hqm : q < m
            · obtain ⟨y, hy⟩ : ∃ y, zs.getD q 0 = y := ⟨_, rfl⟩
              have hcq : wi.cell? ⟨b, off + q, none⟩ = some (.int .i64 y) := by rw [hdq.cell, HCo.out q (by have := Hmz.out; omega), hy]
              have Hy := Lib.hid hy
              have Hdq := Lib.hid hdq
              clear hy hdq
              by_cases e : z = y
              · have HR : Hid (R = 61) := Lib.hid (HB.out (by
                  rw [HK.out]
                  rintro ⟨_, _, h⟩
                  have : z ∈ zs.take m := by
                    rw [e, ← Hy.out, List.getD_eq_getElem?_getD, List.getElem?_eq_getElem (by have := Hmz.out; omega)]
                    rw [List.mem_take_iff_getElem]
                    exact ⟨q, by have := Hmz.out; omega, rfl⟩
                  rw [← List.contains_iff_mem] at this
                  rw [this] at h; cases h))
                subst e
                clear HB HK C3 C4
                go_wp2
                go_quiet (fail)
                go_wp2
                go_ret
                exact ⟨by rw [HR.out]; rfl, below_drewN hbi _⟩
              · have e' : (z == y) = false := by simpa using e
                have HQ' : Hid (∀ i, i < q + 1 → zs.getD i 0 ≠ z) := Lib.hid fun i hi => by
                  rcases Nat.lt_succ_iff_lt_or_eq.1 hi with h | h
                  · exact HQ.out i h
                  · rw [h, Hy.out]; exact Ne.symm e
                clear HQ e
                go_wp2
                go_quiet (fail)
                go_wp2
                go_roundw
                case rel => exact ⟨q + 1, by omega, by go_num, HQ', Drawn.drewN Hdq.out⟩
                case measure => simp [intOf]; omega
            · have HN' : Hid (∀ i, i < m + 1 → okAt zs n i) := Lib.hid fun i hi => by
                rcases Nat.lt_succ_iff_lt_or_eq.1 hi with h | h
                · exact HN.out i h
                · rw [h, HK.out]
                  refine ⟨by omega, by omega, ?_⟩
                  cases hb : (zs.take m).contains z with
                  | false => rfl
                  | true =>
                    rw [List.contains_iff_mem, List.mem_take_iff_getElem] at hb
                    obtain ⟨i, hi, he⟩ := hb
                    have := HQ.out i (by omega)
                    rw [List.getD_eq_getElem?_getD, List.getElem?_eq_getElem (by omega)] at this
                    exact absurd he this
              have Hdq := Lib.hid hdq
              clear HQ HN HB HK hdq
              go_wp2
              go_roundw
              case rel => exact ⟨m + 1, by omega, by go_num, HN', (by
                obtain ⟨x, rfl⟩ := Hdr.out
                obtain ⟨y, rfl⟩ := Hdq.out
                exact Drawn.drewN (Drawn.drewN (Drawn.refl _)))⟩
              case measure => simp [intOf]; omega
    · have HR : Hid (R = 0) := Lib.hid (C4.out fun i hi => HN.out i (by have := Hl.out; omega))
      clear HN C3 C4
      go_wp2
      go_ret
      exact ⟨by rw [HR.out]; rfl, hbo⟩
end Go.Proofs.Ytmckaoeofikdaaa
