/- Alike of the document: exact numbers. -/
import Derived.Test.YtmckaoeofikdaaaMatR
namespace Go.Proofs.Ytmckaoeofikdaaa
open Go.RowKit

theorem fneq {x y s : Nat} {n m : Int} (h : Fp.IsF x s n) (h' : Fp.IsF y s m) : (FloatKind.f64.format.order x y != some Ordering.eq) = decide (n ≠ m) := by
  have e1 := order_eqB h h'
  have : decide (n ≠ m) = !decide (n = m) := by by_cases e : n = m <;> simp [e]
  rw [this, ← e1]
  rfl

set_option maxHeartbeats 2000000 in
set_option maxRecDepth 100000 in
theorem alike_any (n s ba bb ca cb : Nat) (hn : n ≤ 64) (A B : Nat → Zi) (w : World) (hA : HoldsR w ba n s A) (hB : HoldsR w bb n s B) :
    Calls Try.prog 76 #[.slice (some ⟨ba, 0, none⟩) n ca, .slice (some ⟨bb, 0, none⟩) n cb] w fun e w' => e = .returned (.bool (sameM (n * n) A B)) ∧ Drawn w w' := by
  have HA := Lib.hid hA
  have HB := Lib.hid hB
  have C1 := Lib.hid (fun h => sameM_true (n := n * n) (A := A) (B := B) h)
  have C2 := Lib.hid (fun i hi h => sameM_false (n := n * n) (A := A) (B := B) (i := i) hi h)
  generalize sameM (n * n) A B = R at C1 C2
  clear hA hB
  go_enter Try.func76, Try.ntmps76
  go_wp2
  go_loopw [5, 6] (fun i _ wr => ∃ r : Nat, r ≤ n ∧ i = .int .i64 r ∧ Hid (∀ i, i < n * r → A i = B i) ∧ Drawn w wr) (fun i _ _ => n - (intOf i).toNat)
  case atStart => exact ⟨0, Nat.zero_le _, rfl, Lib.hid fun j hj => by simp at hj, Drawn.refl _⟩
  case round =>
    obtain ⟨r, hr, rfl, HN, hdr⟩ := hrel
    obtain ⟨w1, rfl⟩ : ∃ w1 : World, w1 = wr := ⟨_, rfl⟩
    have Hdr := Lib.hid hdr
    clear hdr
    by_cases hlt : r < n
    · go_wp2
      go_loopw [6] (fun j wr => ∃ c : Nat, c ≤ n ∧ j = .int .i64 c ∧ Hid (∀ i, i < n * r + c → A i = B i) ∧ Drawn w wr) (fun j _ => n - (intOf j).toNat)
      case atStart => exact ⟨0, Nat.zero_le _, rfl, HN, Hdr.out⟩
      case round =>
        obtain ⟨c, hc, rfl, HM, hdq⟩ := hrel
        obtain ⟨w2, rfl⟩ : ∃ w2 : World, w2 = wr := ⟨_, rfl⟩
        have Hdq := Lib.hid hdq
        clear HN Hdr
        by_cases hct : c < n
        · obtain ⟨ra, q1, q2⟩ := HA.out r hlt
          obtain ⟨x, y, q3, q4, zx, zy⟩ := q2 c hct
          obtain ⟨rb, p1, p2⟩ := HB.out r hlt
          obtain ⟨x', y', p3, p4, zx', zy'⟩ := p2 c hct
          have k1 := (hdq.cell _).trans q1
          have k2 := (hdq.cell _).trans q3
          have k3 := (hdq.cell _).trans q4
          have k4 := (hdq.cell _).trans p1
          have k5 := (hdq.cell _).trans p3
          have k6 := (hdq.cell _).trans p4
          have n1 := fneq zx zx'
          have n2 := fneq zy zy'
          have hlx := idx_lt (n := n) hlt hct
          clear q1 q2 q3 q4 p1 p2 p3 p4 zx zy zx' zy' hdq
          by_cases e1 : (A (n * r + c)).1 = (B (n * r + c)).1
          · rw [decide_eq_false (by simp [e1])] at n1
            by_cases e2 : (A (n * r + c)).2 = (B (n * r + c)).2
            · rw [decide_eq_false (by simp [e2])] at n2
              have HM' : Hid (∀ i, i < n * r + (c + 1) → A i = B i) := Lib.hid fun i hi => by
                rcases Nat.lt_succ_iff_lt_or_eq.1 (show i < (n * r + c) + 1 from hi) with h | h
                · exact HM.out i h
                · rw [h]; exact Prod.ext e1 e2
              clear HM e1 e2 hlx
              go_wp2
              go_quiet (fail)
              go_wp2
              go_roundw
              case rel => exact ⟨c + 1, by omega, by go_num, HM', Drawn.drewN Hdq.out⟩
              case measure => simp [intOf]; omega
            · rw [decide_eq_true e2] at n2
              have HR : Hid (R = false) := Lib.hid (C2.out _ hlx fun h => e2 (by rw [h]))
              clear HM e1 e2 hlx
              go_wp2
              go_quiet (fail)
              go_wp2
              go_ret
              exact ⟨by rw [HR.out]; rfl, Drawn.drewN Hdq.out⟩
          · rw [decide_eq_true e1] at n1
            have HR : Hid (R = false) := Lib.hid (C2.out _ hlx fun h => e1 (by rw [h]))
            clear HM e1 hlx n2
            go_wp2
            go_quiet (fail)
            go_wp2
            go_ret
            exact ⟨by rw [HR.out]; rfl, Drawn.drewN Hdq.out⟩
        · have HN' : Hid (∀ i, i < n * (r + 1) → A i = B i) := Lib.hid fun i hi => HM.out i (by rw [Nat.mul_succ] at hi; omega)
          clear HM hdq
          go_wp2
          go_roundw
          case rel => exact ⟨r + 1, by omega, by go_num, HN', Hdq.out⟩
          case measure => simp [intOf]; omega
    · have HR : Hid (R = true) := Lib.hid (C1.out fun i hi => HN.out i (by rw [show r = n by omega]; exact hi))
      clear HN
      go_wp2
      go_ret
      exact ⟨by rw [HR.out]; rfl, Hdr.out⟩
end Go.Proofs.Ytmckaoeofikdaaa
