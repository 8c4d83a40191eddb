/- apart, of package gate and of the document. -/
import Derived.Test.YtmckaoeofikdaaaChkW
namespace Go.Proofs.Ytmckaoeofikdaaa
open Go.RowKit Lift

theorem Drawn.trans {a b c : World} (h : Drawn a b) (k : Drawn b c) : Drawn a c := by
  obtain ⟨n, rfl⟩ := k
  exact Drawn.drewN h

def okA (zs : List Int) (i : Nat) : Prop := 0 ≤ zs.getD i 0 ∧ (zs.take i).contains (zs.getD i 0) = false
instance (zs : List Int) (i : Nat) : Decidable (okA zs i) := by unfold okA; infer_instance
def apartF (zs : List Int) : Bool := (List.range zs.length).all fun i => decide (okA zs i)
theorem apartF_bad {zs : List Int} {i : Nat} (hi : i < zs.length) (h : ¬ okA zs i) : apartF zs = false := by
  unfold apartF
  rw [List.all_eq_false]
  exact ⟨i, List.mem_range.2 hi, by simpa using h⟩
theorem apartF_ok {zs : List Int} (h : ∀ i, i < zs.length → okA zs i) : apartF zs = true := by
  unfold apartF
  rw [List.all_eq_true]
  exact fun i hi => by simpa using h i (List.mem_range.1 hi)

set_option maxHeartbeats 1000000 in
set_option maxRecDepth 100000 in
theorem apart_any (b off len cap : Nat) (zs : List Int) (w : World) (hm : zs.length ≤ maxLen) (hc : ∀ i, i < zs.length → w.cell? ⟨b, off + i, none⟩ = some (.int .i64 (zs.getD i 0))) (hl : zs.length = len) (hcap : len ≤ cap) :
    Calls Try.prog 78 #[.slice (some ⟨b, off, none⟩) len cap] w fun e w' => e = .returned (.bool (apartF zs)) ∧ w = w' := by
  have HL : Hid (IsL w (some ⟨b, off, none⟩) zs) := Lib.hid ⟨hm, .inr ⟨b, off, rfl, hc⟩⟩
  rw [hl] at hm
  unfold maxLen at hm
  have C3 := Lib.hid (fun i hi h => apartF_bad (zs := zs) (i := i) hi h)
  have C4 := Lib.hid (fun h => apartF_ok (zs := zs) h)
  generalize apartF zs = R at C3 C4 ⊢
  have HC1 := Lib.hid hc
  have Hl := Lib.hid hl
  clear hc hl
  go_enter Try.func78, Try.ntmps78
  go_wp2
  go_loop [3, 4, 7] (fun _ _ i => ∃ j : Nat, j ≤ len ∧ i = .int .i64 j ∧ Hid (∀ i, i < j → okA zs i)) (fun _ _ i => len - (intOf i).toNat)
  case atStart => exact ⟨0, Nat.zero_le _, rfl, Lib.hid fun j hj => by omega⟩
  case round =>
    obtain ⟨j, hj, rfl, HN⟩ := hrel
    by_cases hlt : j < len
    · have hcell := HC1.out j (by have := Hl.out; omega)
      obtain ⟨z, hz⟩ : ∃ z, zs.getD j 0 = z := ⟨_, rfl⟩
      rw [hz] at hcell
      have HT : IsL w (some ⟨b, off, none⟩) (zs.take j) := HL.out.take j
      have HTl : (zs.take j).length = j := by rw [List.length_take, Hl.out]; omega
      have con := contains_at (some ⟨b, off, none⟩) j cap (zs.take j) z w HT HTl
      have hok : okA zs j ↔ 0 ≤ z ∧ (zs.take j).contains z = false := by unfold okA; rw [hz]
      have hjz : j < zs.length := by rw [Hl.out]; exact hlt
      have HB : Hid (¬ okA zs j → R = false) := Lib.hid (C3.out j hjz)
      clear HT HTl hjz
      generalize (zs.take j).contains z = B at con hok
      have HK := Lib.hid hok
      have CON := Lib.hid con
      clear hok hz con
      by_cases z0 : z < 0
      · have HR := HB.out (by rw [HK.out]; omega)
        subst HR
        clear HB HK C3 C4
        go_wp2
        go_ret
        exact ⟨rfl, rfl⟩
      · cases B with
        | true =>
          have HR := HB.out (by rw [HK.out]; simp)
          subst HR
          clear HB HK C3 C4
          go_wp2_with (go_at_call 77; refine CON.out.mono ?_; rintro e w2 ⟨rfl, rfl⟩)
          go_ret
          exact ⟨rfl, rfl⟩
        | false =>
          have HN' : Hid (∀ i, i < j + 1 → okA zs i) := Lib.hid fun i hi => by
            rcases Nat.lt_succ_iff_lt_or_eq.1 hi with h | h
            · exact HN.out i h
            · rw [h]; exact HK.out.2 ⟨by omega, rfl⟩
          clear HN HB HK
          go_wp2_with (go_at_call 77; refine CON.out.mono ?_; rintro e w2 ⟨rfl, rfl⟩)
          go_round
          case rel => exact ⟨j + 1, by omega, by go_num, HN'⟩
          case measure => simp [intOf]; omega
    · have HR := C4.out (fun i hi => HN.out i (by have := Hl.out; omega))
      subst HR
      clear C3 C4
      go_wp2
      go_ret
      exact ⟨rfl, rfl⟩

set_option maxHeartbeats 1000000 in
set_option maxRecDepth 100000 in
theorem rapart_any (b off len cap : Nat) (zs : List Int) (w : World) (hm : zs.length ≤ maxLen) (hc : ∀ i, i < zs.length → w.cell? ⟨b, off + i, none⟩ = some (.int .i64 (zs.getD i 0))) (hl : zs.length = len) :
    Calls Try.prog 82 #[.slice (some ⟨b, off, none⟩) len cap] w fun e w' => e = .returned (.bool (apartF zs)) ∧ Drawn w w' := by
  rw [hl] at hm
  unfold maxLen at hm
  have C3 := Lib.hid (fun i hi h => apartF_bad (zs := zs) (i := i) hi h)
  have C4 := Lib.hid (fun h => apartF_ok (zs := zs) h)
  generalize apartF zs = R at C3 C4 ⊢
  have HC1 := Lib.hid hc
  have Hl := Lib.hid hl
  clear hc hl
  go_enter Try.func82, Try.ntmps82
  go_wp2
  go_loopw [3, 4] (fun i _ wr => ∃ m : Nat, m ≤ len ∧ i = .int .i64 m ∧ Hid (∀ i, i < m → okA zs i) ∧ Drawn w wr) (fun i _ _ => len - (intOf i).toNat)
  case atStart => exact ⟨0, Nat.zero_le _, rfl, Lib.hid fun j hj => by omega, Drawn.refl _⟩
  case round =>
    obtain ⟨m, hm1, rfl, HN, hdr⟩ := hrel
    obtain ⟨wo, rfl⟩ : ∃ wo : World, wo = wr := ⟨_, rfl⟩
    have HCo : Hid (∀ i, i < zs.length → wo.cell? ⟨b, off + i, none⟩ = some (.int .i64 (zs.getD i 0))) := Lib.hid fun i hi => (hdr.cell _).trans (HC1.out i hi)
    by_cases hlt : m < len
    · have hmz : m < zs.length := by rw [Hl.out]; exact hlt
      obtain ⟨z, hz⟩ : ∃ z, zs.getD m 0 = z := ⟨_, rfl⟩
      have hcell : wo.cell? ⟨b, off + m, none⟩ = some (.int .i64 z) := by rw [HCo.out m hmz, hz]
      have hok : okA zs m ↔ 0 ≤ z ∧ (zs.take m).contains z = false := by unfold okA; rw [hz]
      have HB : Hid (¬ okA zs m → R = false) := Lib.hid (C3.out m hmz)
      have HK := Lib.hid hok
      have Hmz := Lib.hid hmz
      have Hdr := Lib.hid hdr
      clear hok hz hmz hdr
      by_cases z0 : z < 0
      · have HR := HB.out (by rw [HK.out]; omega)
        subst HR
        clear HB HK C3 C4
        go_wp2
        go_ret
        exact ⟨rfl, Hdr.out⟩
      · go_wp2
        go_loopw [4] (fun j wr => ∃ q : Nat, q ≤ m ∧ j = .int .i64 q ∧ Hid (∀ i, i < q → zs.getD i 0 ≠ z) ∧ Drawn wo wr) (fun j _ => m - (intOf j).toNat)
        case atStart => exact ⟨0, Nat.zero_le _, rfl, Lib.hid fun j hj => by omega, Drawn.refl _⟩
        case round =>
          obtain ⟨q, hq, rfl, HQ, hdq⟩ := hrel
          obtain ⟨wi, rfl⟩ : ∃ wi : World, wi = wr := ⟨_, rfl⟩
          have hci : wi.cell? ⟨b, off + m, none⟩ = some (.int .i64 z) := (hdq.cell _).trans hcell
          by_cases hqm : q < m
          · obtain ⟨y, hy⟩ : ∃ y, zs.getD q 0 = y := ⟨_, rfl⟩
            have hcq : wi.cell? ⟨b, off + q, none⟩ = some (.int .i64 y) := by rw [hdq.cell, HCo.out q (by have := Hmz.out; omega), hy]
            have Hy := Lib.hid hy
            have Hdq := Lib.hid hdq
            clear hy hdq
            by_cases e : y = z
            · have HR := HB.out (by
                rw [HK.out]
                rintro ⟨_, h⟩
                have : z ∈ zs.take m := by
                  rw [← e, ← Hy.out, List.getD_eq_getElem?_getD, List.getElem?_eq_getElem (by have := Hmz.out; omega)]
                  rw [List.mem_take_iff_getElem]
                  exact ⟨q, by have := Hmz.out; omega, rfl⟩
                rw [← List.contains_iff_mem] at this
                rw [this] at h; cases h)
              subst HR
              subst e
              clear HB HK C3 C4
              go_wp2
              go_quiet (fail)
              go_wp2
              go_ret
              exact ⟨rfl, Drawn.drewN (Hdr.out.trans Hdq.out)⟩
            · have e' : (y == z) = false := by simpa using e
              have HQ' : Hid (∀ i, i < q + 1 → zs.getD i 0 ≠ z) := Lib.hid fun i hi => by
                rcases Nat.lt_succ_iff_lt_or_eq.1 hi with h | h
                · exact HQ.out i h
                · rw [h, Hy.out]; exact e
              clear HQ e
              go_wp2
              go_quiet (fail)
              go_wp2
              go_roundw
              case rel => exact ⟨q + 1, by omega, by go_num, HQ', Drawn.drewN Hdq.out⟩
              case measure => simp [intOf]; omega
          · have HN' : Hid (∀ i, i < m + 1 → okA zs i) := Lib.hid fun i hi => by
              rcases Nat.lt_succ_iff_lt_or_eq.1 hi with h | h
              · exact HN.out i h
              · subst h
                refine HK.out.2 ⟨by omega, ?_⟩
                have : ¬ z ∈ zs.take i := fun hin => by
                  rw [List.mem_take_iff_getElem] at hin
                  obtain ⟨j, hj, hjz⟩ := hin
                  refine HQ.out j (by omega) ?_
                  rw [List.getD_eq_getElem?_getD, List.getElem?_eq_getElem (by omega)]
                  exact hjz
                simpa using this
            clear HN HB HK
            go_wp2
            go_roundw
            case rel => exact ⟨m + 1, by omega, by go_num, HN', Hdr.out.trans hdq⟩
            case measure => simp [intOf]; omega
    · have HR := C4.out (fun i hi => HN.out i (by have := Hl.out; omega))
      subst HR
      clear C3 C4
      go_wp2
      go_ret
      exact ⟨rfl, hdr⟩
end Go.Proofs.Ytmckaoeofikdaaa
