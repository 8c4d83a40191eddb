/- A part of the proof: texts of this claim laid together by a program of its own; what the proof does not use is struck. -/
import Derived.Test.YtbelnopbggkdfaaZO5
import Derived.Deep.RegionWith
import Derived.Deep.RegionHeld3
import Derived.Lib.Hide
import Derived.Lib.SmallJoins
import Derived.OpenShut
import Derived.Laws.Cover2
section
namespace Go.Proofs.Ytbelnopbggkdfaa.Q
open Go.RowKit Go.Proofs.YtbelnopbggkdfaaW.PrintWords Go.Proofs.YtbelnopbggkdfaaW.PrintLast Go.Proofs.YtbelnopbggkdfaaW.PrintMore
attribute [local go_sem] max2_int min2_int max_two min_two max_three min_three max_four min_four   -- for this text's walks alone
set_option linter.unusedVariables false
set_option linter.unusedSimpArgs false
def phasorlaw19_ints.l0 : Nat → List Int → List Int → Int → Option (Bool)
  | 0, _, _, _ => none
  | k + 1, x0, x1, x5 => if x5 < (x0.length : Int) then (if 0 ≤ x5 then (if x5 < (x1.length : Int) then (if (rd x0 x5) = (rd x1 x5) then (phasorlaw19_ints.l0 k x0 x1 (wrap64 (x5 + 1))) else (some false)) else (none)) else (none)) else (some true)
def phasorlaw19_ints.f (k : Nat) (l0 : List Int) (l1 : List Int) : Option (Bool) := if (l0.length : Int) = (l1.length : Int) then (phasorlaw19_ints.l0 k l0 l1 0) else (some false)
set_option maxHeartbeats 8000000 in
set_option maxRecDepth 100000 in
theorem phasorlaw19_ints.calls (k : Nat) (A0 : Option Addr) (c0 : Nat) (l0 : List Int) (A1 : Option Addr) (c1 : Nat) (l1 : List Int) (r : Bool) (w : World) (hr0 : Kd.C (Kd.int .i64) w A0 l0.length l0) (hc0 : l0.length ≤ c0) (hr1 : Kd.C (Kd.int .i64) w A1 l1.length l1) (hc1 : l1.length ≤ c1) (h : phasorlaw19_ints.f k l0 l1 = some r) :
    Calls Try.prog 36 #[.slice A0 l0.length c0, .slice A1 l1.length c1] w fun e w' => e = .returned (.bool r) ∧ Drawn0 w w' := by
  have HR0 := Aside0.mk hr0
  have HC0 := Aside0.mk hc0
  clear hr0 hc0
  have HR1 := Aside0.mk hr1
  have HC1 := Aside0.mk hc1
  clear hr1 hc1
  have H : (if (l0.length : Int) = (l1.length : Int) then (phasorlaw19_ints.l0 k l0 l1 0) else (some false)) = some r := h
  clear h
  by_cases c3 : (l0.length : Int) = (l1.length : Int)
  · rw [if_pos c3] at H
    have c3b0 : ((l0.length : Int) == (l1.length : Int)) = true := beq_iff_eq.mpr c3
    have c3b1 : ((l0.length : Int) != (l1.length : Int)) = false := bne_eq_false_iff_eq.mpr c3
    have c3b2 : (l0.length == l1.length) = true := by first | simpa using c3 | (simp at c3 ⊢; omega)
    clear c3
    have H' := Aside0.mk H
    clear H
    go_enter Try.func36, Try.ntmps36
    go_wp2
    repeat (go_quiet (fail); try go_wp2)
    go_loopg [5] k (fun kq v5 w' => ∃ (x5_1 : Int), v5 = .int .i64 x5_1 ∧ Aside0 (phasorlaw19_ints.l0 kq l0 l1 x5_1 = some r) ∧ Aside0 (kq ≤ k) ∧ Drawn0 w w')
    case atStart => exact ⟨(0), (by first | rfl | (simp; done) | (simp [*]; done)), H', ⟨Nat.le_refl _⟩, by repeat (first | exact Drawn0.refl _ | apply Drawn0.step)⟩
    case round =>
      clear H'
      try clear c1
      try clear p2
      try clear c3
      try clear c3b0
      try clear c3b1
      try clear c3b2
      obtain ⟨x5_1, rfl, HA, HK1, ⟨m1, rfl⟩⟩ := hrel
      cases gk with
      | zero => exact absurd HA.out (by simp [phasorlaw19_ints.l0])
      | succ k1 =>
        have H := HA.out
        clear HA
        simp only [phasorlaw19_ints.l0] at H
        by_cases c4 : x5_1 < (l0.length : Int)
        · rw [if_pos c4] at H
          have c4b0 : decide (x5_1 < (l0.length : Int)) = true := decide_eq_true c4
          clear c4
          by_cases c5 : 0 ≤ x5_1
          · rw [if_pos c5] at H
            have c5b0 : decide (0 ≤ x5_1) = true := decide_eq_true c5
            clear c5
            by_cases c6 : x5_1 < (l1.length : Int)
            · rw [if_pos c6] at H
              have c6b0 : decide (x5_1 < (l1.length : Int)) = true := decide_eq_true c6
              clear c6
              by_cases c7 : (rd l0 x5_1) = (rd l1 x5_1)
              · rw [if_pos c7] at H
                have c7b0 : ((rd l0 x5_1) == (rd l1 x5_1)) = true := beq_iff_eq.mpr c7
                have c7b1 : ((rd l0 x5_1) != (rd l1 x5_1)) = false := bne_eq_false_iff_eq.mpr c7
                clear c7
                have H' := Aside0.mk H
                clear H
                have p528 : 0 ≤ (x5_1 : Int) := of_decide_eq_true (by first | (with_reducible assumption) | assumption)
                have q528 : x5_1 < (l0.length : Int) := of_decide_eq_true (by first | (with_reducible assumption) | assumption)
                obtain ⟨ad528, e528, hx528_0⟩ := Kd.at_int HR0.out x5_1 p528 q528
                cases e528
                replace p528 := eq_true p528
                replace q528 := eq_true q528
                have p529 : 0 ≤ (x5_1 : Int) := of_decide_eq_true (by first | (with_reducible assumption) | assumption)
                have q529 : x5_1 < (l1.length : Int) := of_decide_eq_true (by first | (with_reducible assumption) | assumption)
                obtain ⟨ad529, e529, hx529_0⟩ := Kd.at_int HR1.out x5_1 p529 q529
                cases e529
                replace p529 := eq_true p529
                replace q529 := eq_true q529
                go_wp2
                repeat (go_quiet (fail); try go_wp2)
                go_roundg k1
                case measure => have := HK1.out; omega
                case rel => exact ⟨(wrap64 (x5_1 + 1)), (by first | rfl | (simp; done) | (simp [*]; done)), H', ⟨by have := HK1.out; omega⟩, by repeat (first | exact Drawn0.refl _ | apply Drawn0.step)⟩
              · rw [if_neg c7] at H
                have c7b0 : ((rd l0 x5_1) == (rd l1 x5_1)) = false := beq_eq_false_iff_ne.mpr c7
                have c7b1 : ((rd l0 x5_1) != (rd l1 x5_1)) = true := bne_iff_ne.mpr c7
                obtain rfl := Option.some.inj H
                have p528 : 0 ≤ (x5_1 : Int) := of_decide_eq_true (by first | (with_reducible assumption) | assumption)
                have q528 : x5_1 < (l0.length : Int) := of_decide_eq_true (by first | (with_reducible assumption) | assumption)
                obtain ⟨ad528, e528, hx528_0⟩ := Kd.at_int HR0.out x5_1 p528 q528
                cases e528
                replace p528 := eq_true p528
                replace q528 := eq_true q528
                have p529 : 0 ≤ (x5_1 : Int) := of_decide_eq_true (by first | (with_reducible assumption) | assumption)
                have q529 : x5_1 < (l1.length : Int) := of_decide_eq_true (by first | (with_reducible assumption) | assumption)
                obtain ⟨ad529, e529, hx529_0⟩ := Kd.at_int HR1.out x5_1 p529 q529
                cases e529
                replace p529 := eq_true p529
                replace q529 := eq_true q529
                go_wp2
                repeat (go_quiet (fail); try go_wp2)
                go_ret
                exact ⟨by first | rfl | (simp; done) | (simp [*]; done), by repeat (first | exact Drawn0.refl _ | apply Drawn0.step)⟩
            · rw [if_neg c6] at H
              exact absurd H (by simp)
          · rw [if_neg c5] at H
            exact absurd H (by simp)
        · rw [if_neg c4] at H
          have c4b0 : decide (x5_1 < (l0.length : Int)) = false := decide_eq_false c4
          clear c4
          obtain rfl := Option.some.inj H
          go_wp2
          repeat (go_quiet (fail); try go_wp2)
          go_ret
          exact ⟨by first | rfl | (simp; done) | (simp [*]; done), by repeat (first | exact Drawn0.refl _ | apply Drawn0.step)⟩
  · rw [if_neg c3] at H
    have c3b0 : ((l0.length : Int) == (l1.length : Int)) = false := beq_eq_false_iff_ne.mpr c3
    have c3b1 : ((l0.length : Int) != (l1.length : Int)) = true := bne_iff_ne.mpr c3
    have c3b2 : (l0.length == l1.length) = false := by first | simpa using c3 | (simp at c3 ⊢; omega)
    obtain rfl := Option.some.inj H
    go_enter Try.func36, Try.ntmps36
    go_wp2
    repeat (go_quiet (fail); try go_wp2)
    go_ret
    exact ⟨by first | rfl | (simp; done) | (simp [*]; done), by repeat (first | exact Drawn0.refl _ | apply Drawn0.step)⟩
end Go.Proofs.Ytbelnopbggkdfaa.Q
end

section
namespace Go.Proofs.Ytbelnopbggkdfaa.Q
open Go.RowKit Go.Proofs.YtbelnopbggkdfaaW.PrintWords Go.Proofs.YtbelnopbggkdfaaW.PrintLast Go.Proofs.YtbelnopbggkdfaaW.PrintMore
attribute [local go_sem] max2_int min2_int max_two min_two max_three min_three max_four min_four   -- for this text's walks alone
set_option linter.unusedVariables false
set_option linter.unusedSimpArgs false
def layers_Moments.l0 : Nat → List (List Int) → List Int → Int → Int → Int → Int → List (S46) → Option ((List (List Int)) × Int)
  | 0, _, _, _, _, _, _, _ => none
  | k + 1, x6, x20, x21, x22, x531000, x531001, x531002 => if x22 < x21 then (if 0 ≤ x22 then (if x22 < (x20.length : Int) then (if x22 < (x531002.length : Int) then (if ((rd_T46 x531002 x22).f0) = 4 then (layers_Moments.l0 k x6 x20 x21 (wrap64 (x22 + 1)) x531000 x531001 x531002) else (if 0 ≤ (wrap64 ((rd x20 x22) - 1)) then (if (wrap64 ((rd x20 x22) - 1)) < (x6.length : Int) then (if (rd_L1 x6 (wrap64 ((rd x20 x22) - 1))).length < 17592186044416 then (layers_Moments.l0 k (x6.set ((wrap64 ((rd x20 x22) - 1)) : Int).toNat ((rd_L1 x6 (wrap64 ((rd x20 x22) - 1))) ++ [x22])) x20 x21 (wrap64 (x22 + 1)) x531000 x531001 x531002) else (none)) else (none)) else (none))) else (none)) else (none)) else (none)) else (some (x6, 0))
def layers_Moments.f (k : Nat) (a0_0 : Int) (a0_1 : Int) (l0_2 : List (S46)) : Option ((List (List Int)) × Int) := (layers_Depth.f k a0_0 a0_1 l0_2).bind fun bt531 => (if bt531.2 = 0 then (if 0 ≤ bt531.1 then (if (bt531.1 : Int).toNat ≤ 11728124029610 then ((layers_early.f a0_0 a0_1 l0_2).bind fun t536 => (layers_Moments.l0 k (List.replicate (bt531.1 : Int).toNat []) t536 (t536.length : Int) 0 a0_0 a0_1 l0_2)) else (none)) else (none)) else (some (([] : List (List Int)), bt531.2)))
set_option maxHeartbeats 8000000 in
set_option maxRecDepth 100000 in
theorem layers_Moments.calls (k : Nat) (a0_0 : Int) (a0_1 : Int) (A0_2 : Option Addr) (c0_2 : Nat) (l0_2 : List (S46)) (r1 : List (List Int)) (r2 : Int) (w : World) (hr0_2 : Kd.C k46 w A0_2 l0_2.length l0_2) (hc0_2 : l0_2.length ≤ c0_2) (h : layers_Moments.f k a0_0 a0_1 l0_2 = some (r1, r2)) :
    Calls Try.prog 37 #[.agg #[.int .i64 a0_0, .int .i64 a0_1, .slice A0_2 l0_2.length c0_2]] w fun e w' => ∃ v0_ : Value, e = .returned (.tuple #[v0_, .int .i64 r2]) ∧ Kd.S (Kd.slice 3 (Kd.int .i64)) 37 w' w.heap.size (fun _ => True) v0_ r1 ∧ Below w.heap.size w w' := by
  have hu24 := Try.underlying24
  have HR0_2 := Aside0.mk hr0_2
  have HC0_2 := Aside0.mk hc0_2
  clear hr0_2 hc0_2
  have HB := Aside0.mk (Below.refl w.heap.size w)
  have H : ((layers_Depth.f k a0_0 a0_1 l0_2).bind fun bt531 => (if bt531.2 = 0 then (if 0 ≤ bt531.1 then (if (bt531.1 : Int).toNat ≤ 11728124029610 then ((layers_early.f a0_0 a0_1 l0_2).bind fun t536 => (layers_Moments.l0 k (List.replicate (bt531.1 : Int).toNat []) t536 (t536.length : Int) 0 a0_0 a0_1 l0_2)) else (none)) else (none)) else (some (([] : List (List Int)), bt531.2)))) = some (r1, r2) := h
  clear h
  replace H := Option.bind_eq_some_iff.mp H
  obtain ⟨⟨t531, t532⟩, A20, H⟩ := H
  replace H : (if t532 = 0 then (if 0 ≤ t531 then (if (t531 : Int).toNat ≤ 11728124029610 then ((layers_early.f a0_0 a0_1 l0_2).bind fun t536 => (layers_Moments.l0 k (List.replicate (t531 : Int).toNat []) t536 (t536.length : Int) 0 a0_0 a0_1 l0_2)) else (none)) else (none)) else (some (([] : List (List Int)), t532))) = some (r1, r2) := H
  have A2 := Aside0.mk A20
  clear A20
  by_cases c3 : t532 = 0
  · rw [if_pos c3] at H
    have c3b0 : (t532 == 0) = true := beq_iff_eq.mpr c3
    have c3b1 : (t532 != 0) = false := bne_eq_false_iff_eq.mpr c3
    clear c3
    by_cases c4 : 0 ≤ t531
    · rw [if_pos c4] at H
      have c4b0 := eq_true c4
      have c4b1 : decide (0 ≤ t531) = true := decide_eq_true c4
      clear c4
      by_cases c5 : (t531 : Int).toNat ≤ 11728124029610
      · rw [if_pos c5] at H
        have c5b0 := eq_true c5
        have c5b1 : decide ((t531 : Int).toNat ≤ 11728124029610) = true := decide_eq_true c5
        clear c5
        obtain ⟨y533, hy533⟩ : ∃ y_ : List (List Int), y_ = (List.replicate (t531 : Int).toNat []) := ⟨_, rfl⟩
        replace H : ((layers_early.f a0_0 a0_1 l0_2).bind fun t536 => (layers_Moments.l0 k y533 t536 (t536.length : Int) 0 a0_0 a0_1 l0_2)) = some (r1, r2) := by first | (rw [hy533]; with_reducible exact H) | (have H2_ := (Option.bind_some _ _).symm.trans H; rw [hy533]; with_reducible exact H2_) | (have H2_ := (Option.bind_some _ _).symm.trans H; with_reducible exact H2_) | with_reducible exact H | (rw [hy533]; exact H) | exact H
        have Ny533 := Aside0.mk hy533
        clear hy533
        replace H := Option.bind_eq_some_iff.mp H
        obtain ⟨t536, A60, H⟩ := H
        replace H : (layers_Moments.l0 k y533 t536 (t536.length : Int) 0 a0_0 a0_1 l0_2) = some (r1, r2) := H
        have A6 := Aside0.mk A60
        clear A60
        have H' := Aside0.mk H
        clear H
        go_enter Try.func37, Try.ntmps37
        go_wp2_with (first | ((with_reducible refine gate_dst (N := 1) rfl ?_); refine box_event ?hg (N := 1) ?hd (cs := #[.int .i64 a0_0, .int .i64 a0_1, .slice A0_2 l0_2.length c0_2]) (t := 24) ?hr ?_; (case hd => rfl); (case hg => rfl); (case hr => first | (go_simp; done) | (go_simp; rfl)); intro gb530 hg w7 hbox hb; have n0_ := Aside0.mk (below_step (by repeat (first | (with_reducible first | exact HB.out | apply below_alloc | apply pw_below_drewN | apply below_drew1) | exact HB.out)) hb); have n1_ := Aside0.mk (hbox); have n2_ := Aside0.mk ((by rw [hg]; exact (below_size (by repeat (first | (with_reducible first | exact HB.out | apply below_alloc | apply pw_below_drewN | apply below_drew1) | exact HB.out))) : w.heap.size ≤ gb530)); have n3_ := Aside0.mk ((by rw [hg]; exact (below_size (by repeat (first | (with_reducible first | exact HB.out | apply below_alloc | apply pw_below_drewN | apply below_drew1) | exact HB.out))) : w.heap.size ≤ gb530)); clear HB; have HB := n0_; have BK530 := n1_; have GW530 := n2_; have GE530 := n3_; clear n0_ n1_ n2_ n3_; clear hb hbox hg; have hcz8_0 : w7.cell? ⟨gb530, 0, none⟩ = some (.int .i64 a0_0) := (blk_cell BK530.out 0).trans rfl; have hcz8_1 : w7.cell? ⟨gb530, 1, none⟩ = some (.int .i64 a0_1) := (blk_cell BK530.out 1).trans rfl; have hcz8_2 : w7.cell? ⟨gb530, 2, none⟩ = some (.slice A0_2 l0_2.length c0_2) := (blk_cell BK530.out 2).trans rfl; have hfz8_0 := blk_frozen BK530.out 0; have hfz8_1 := blk_frozen BK530.out 1; have hfz8_2 := blk_frozen BK530.out 2) | ((with_reducible refine gate_callee (f := 23) rfl ?_); refine goesL_ (some 11) rfl rfl Try.func23 (by kernel_rfl) rfl #[.agg #[.int .i64 a0_0, .int .i64 a0_1, .slice A0_2 l0_2.length c0_2]] rfl (by (try simp only [List.map_toArray, List.map_cons, List.map_nil]); first | done | rfl | (simp only [List.length_drop, List.length_take]; rfl)) ?_; (with_reducible refine (layers_Depth.calls k a0_0 a0_1 _ _ l0_2 t531 t532 _ ?side1 ?side2 A2.out).mono ?_); (case side1 => repeat (first | exact (Kd.C_below HR0_2.out HB.out) | (with_reducible refine Kd.C_alloc ?_ _) | (with_reducible refine Kd.C_drewN ?_ _) | (with_reducible refine Kd.C_drew ?_))); (case side2 => exact HC0_2.out); rintro e w9 ⟨rfl, hb⟩; refine ⟨_, rfl, ?_⟩; have n0_ := Aside0.mk (blk_below (g := gb530) (o := .cells #[.int .i64 a0_0, .int .i64 a0_1, .slice A0_2 l0_2.length c0_2] 24 (0, 0)) (by (with_reducible repeat (first | refine blk_drewN ?_ _ | refine blk_drew ?_ | refine blk_alloc ?_ _)); exact BK530.out) hb); have n1_ := Aside0.mk (below_step (by repeat (first | (with_reducible first | exact HB.out | apply below_alloc | apply pw_below_drewN | apply below_drew1 | refine below_set ?_ GE530.out) | exact HB.out)) hb); clear BK530; clear HB; have BK530 := n0_; have HB := n1_; clear n0_ n1_; (try clear hb); (try clear hb2); (try clear hk); (try clear hi)) | ((with_reducible refine gate_dst (N := 18) rfl ?_); refine Kd.S_make (Kd.slice 3 (Kd.int .i64)) _ 37 rfl (N := 18) rfl 57 _ _ rfl t531 rfl rfl Try.underlying57 (.slice none 0 0) 24 info37 rfl (by decide) (by omega) [] (ok := fun _ => True) (okp := fun _ => True) ⟨_, rfl, Kd.R_nil _ _ _ _ _⟩ (fun _ hk => hk) trivial (of_decide_eq_true (by first | (with_reducible assumption) | assumption)) (Nat.le_trans (Nat.mul_le_mul_right _ (of_decide_eq_true (by first | (with_reducible assumption) | assumption) : t531.toNat ≤ 11728124029610)) (by omega)) (Below.refl _ _) (Nat.le_refl _) ?_; intro v534 w10 ho11 hb hg_ hnew_; clear hg_ hnew_; (first | rw [← Ny533.out] at ho11 | (simp only [Int.reduceToNat] at ho11; rw [← Ny533.out] at ho11)); have n0_ := Aside0.mk (Kd.S_lower ho11 (below_size (by repeat (first | (with_reducible first | exact HB.out | apply below_alloc | apply pw_below_drewN | apply below_drew1 | refine below_set ?_ GE530.out) | exact HB.out)))); have n1_ := Aside0.mk (blk_below (g := gb530) (o := .cells #[.int .i64 a0_0, .int .i64 a0_1, .slice A0_2 l0_2.length c0_2] 24 (0, 0)) (by (with_reducible repeat (first | refine blk_drewN ?_ _ | refine blk_drew ?_ | refine blk_alloc ?_ _)); exact BK530.out) hb); have n2_ := Aside0.mk (below_step (by repeat (first | (with_reducible first | exact HB.out | apply below_alloc | apply pw_below_drewN | apply below_drew1 | refine below_set ?_ GE530.out) | exact HB.out)) hb); clear BK530; clear HB; have HO535 := n0_; have BK530 := n1_; have HB := n2_; clear n0_ n1_ n2_; clear hb ho11; have hcz12_0 : w10.cell? ⟨gb530, 0, none⟩ = some (.int .i64 a0_0) := (blk_cell BK530.out 0).trans rfl; have hcz12_1 : w10.cell? ⟨gb530, 1, none⟩ = some (.int .i64 a0_1) := (blk_cell BK530.out 1).trans rfl; have hcz12_2 : w10.cell? ⟨gb530, 2, none⟩ = some (.slice A0_2 l0_2.length c0_2) := (blk_cell BK530.out 2).trans rfl; have hfz12_0 := blk_frozen BK530.out 0; have hfz12_1 := blk_frozen BK530.out 1; have hfz12_2 := blk_frozen BK530.out 2) | ((with_reducible refine gate_callee (f := 61) rfl ?_); refine goesL_ (some 20) rfl rfl Try.func61 (by kernel_rfl) rfl #[.agg #[.int .i64 a0_0, .int .i64 a0_1, .slice A0_2 l0_2.length c0_2]] rfl (by (try simp only [List.map_toArray, List.map_cons, List.map_nil]); first | done | rfl | (simp only [List.length_drop, List.length_take]; rfl)) ?_; (with_reducible refine (layers_early.calls a0_0 a0_1 _ _ l0_2 t536 _ ?side1 ?side2 A6.out).mono ?_); (case side1 => repeat (first | exact (Kd.C_below HR0_2.out HB.out) | (with_reducible refine Kd.C_alloc ?_ _) | (with_reducible refine Kd.C_drewN ?_ _) | (with_reducible refine Kd.C_drew ?_))); (case side2 => exact HC0_2.out); rintro e w13 ⟨v537, rfl, ho0, hb⟩; refine ⟨_, rfl, ?_⟩; have n0_ := Aside0.mk (Kd.S_elder' (by (with_reducible repeat (first | apply Kd.S_alloc | apply Kd.S_drewN | apply Kd.S_drew)); exact HO535.out) (Kd.R_base ho0) hb); have n1_ := Aside0.mk (Kd.R_lower ho0 (below_size (by repeat (first | (with_reducible first | exact HB.out | apply below_alloc | apply pw_below_drewN | apply below_drew1 | refine below_set ?_ GE530.out) | exact HB.out)))); have n2_ := Aside0.mk (blk_below (g := gb530) (o := .cells #[.int .i64 a0_0, .int .i64 a0_1, .slice A0_2 l0_2.length c0_2] 24 (0, 0)) (by (with_reducible repeat (first | refine blk_drewN ?_ _ | refine blk_drew ?_ | refine blk_alloc ?_ _)); exact BK530.out) hb); have n3_ := Aside0.mk (below_step (by repeat (first | (with_reducible first | exact HB.out | apply below_alloc | apply pw_below_drewN | apply below_drew1 | refine below_set ?_ GE530.out) | exact HB.out)) hb); clear HO535; clear BK530; clear HB; have HO535 := n0_; have HO538 := n1_; have BK530 := n2_; have HB := n3_; clear n0_ n1_ n2_ n3_; (try clear hb); (try clear hb2); (try clear hk); (try clear hi); (try clear ho0); obtain ⟨Ao14, co14, eo14⟩ := Kd.R_slice HO538.out; subst eo14))
        go_loopg [22] k (fun kq v22 w' => ∃ (x6_1 : List (List Int)) (x22_1 : Int), v22 = .int .i64 x22_1 ∧ Aside0 (layers_Moments.l0 kq x6_1 t536 (t536.length : Int) x22_1 a0_0 a0_1 l0_2 = some (r1, r2)) ∧ Aside0 (kq ≤ k) ∧ Aside0 (Kd.S (Kd.slice 3 (Kd.int .i64)) 37 w' w.heap.size (fun k_ => some k_ ≠ ((.slice Ao14 t536.length co14) : Value).ownBlock) v534 x6_1) ∧ Aside0 (Kd.R (Kd.int .i64) 3 w' w.heap.size (fun _ => True) (.slice Ao14 t536.length co14) t536) ∧ Aside0 (w'.heap[gb530]? = some (.cells #[.int .i64 a0_0, .int .i64 a0_1, (.slice A0_2 l0_2.length c0_2)] 24 (0, 0))) ∧ Aside0 (Below w.heap.size w w'))
        case atStart => exact ⟨(y533), (0), (by first | rfl | (simp; done) | (simp [*]; done)), H', ⟨Nat.le_refl _⟩, ⟨by (with_reducible repeat (first | apply Kd.S_alloc | apply Kd.S_drewN | apply Kd.S_drew)); exact Kd.S_mono HO535.out (fun _ hk => hk.2)⟩, ⟨by (with_reducible repeat (first | apply Kd.R_alloc | apply Kd.R_drewN | apply Kd.R_drew)); exact HO538.out⟩, ⟨by (with_reducible repeat (first | refine blk_drewN ?_ _ | refine blk_drew ?_ | refine blk_alloc ?_ _)); exact BK530.out⟩, ⟨by repeat (first | (with_reducible first | exact HB.out | apply below_alloc | apply pw_below_drewN | apply below_drew1 | refine below_set ?_ GE530.out) | exact HB.out)⟩⟩
        case round =>
          clear H'
          try clear c2
          try clear p2
          try clear c3
          try clear c3b0
          try clear c3b1
          try clear c4
          try clear c4b0
          try clear c4b1
          try clear c5
          try clear c5b0
          try clear c5b1
          try clear c6
          try clear hcz12_0
          try clear hcz12_1
          try clear hcz12_2
          try clear hcz8_0
          try clear hcz8_1
          try clear hcz8_2
          try clear hfz12_0
          try clear hfz12_1
          try clear hfz12_2
          try clear hfz8_0
          try clear hfz8_1
          try clear hfz8_2
          obtain ⟨x6_1, x22_1, rfl, HA, HK1, HO_6, HO_20, BK530, HB⟩ := hrel
          cases gk with
          | zero => exact absurd HA.out (by simp [layers_Moments.l0])
          | succ k1 =>
            have H := HA.out
            clear HA
            simp only [layers_Moments.l0] at H
            by_cases c15 : x22_1 < (t536.length : Int)
            · rw [if_pos c15] at H
              have c15b0 : decide (x22_1 < (t536.length : Int)) = true := decide_eq_true c15
              clear c15
              by_cases c16 : 0 ≤ x22_1
              · rw [if_pos c16] at H
                have c16b0 : decide (0 ≤ x22_1) = true := decide_eq_true c16
                clear c16
                by_cases c17 : x22_1 < (t536.length : Int)
                · rw [if_pos c17] at H
                  have c17b0 : decide (x22_1 < (t536.length : Int)) = true := decide_eq_true c17
                  clear c17
                  by_cases c18 : x22_1 < (l0_2.length : Int)
                  · rw [if_pos c18] at H
                    have c18b0 : decide (x22_1 < (l0_2.length : Int)) = true := decide_eq_true c18
                    clear c18
                    by_cases c19 : ((rd_T46 l0_2 x22_1).f0) = 4
                    · rw [if_pos c19] at H
                      have c19b0 : (((rd_T46 l0_2 x22_1).f0) == 4) = true := beq_iff_eq.mpr c19
                      have c19b1 : (((rd_T46 l0_2 x22_1).f0) != 4) = false := bne_eq_false_iff_eq.mpr c19
                      clear c19
                      have H' := Aside0.mk H
                      clear H
                      have p539 : 0 ≤ (x22_1 : Int) := of_decide_eq_true (by first | (with_reducible assumption) | assumption)
                      have q539 : x22_1 < (t536.length : Int) := of_decide_eq_true (by first | (with_reducible assumption) | assumption)
                      obtain ⟨ad539, e539, hx539_0⟩ := Kd.at_int (Kd.R_reads' HO_20.out).2.2 x22_1 p539 q539
                      cases e539
                      replace p539 := eq_true p539
                      replace q539 := eq_true q539
                      have hcz20_0 : wr.cell? ⟨gb530, 0, none⟩ = some (.int .i64 a0_0) := (blk_cell BK530.out 0).trans rfl
                      have hcz20_1 : wr.cell? ⟨gb530, 1, none⟩ = some (.int .i64 a0_1) := (blk_cell BK530.out 1).trans rfl
                      have hcz20_2 : wr.cell? ⟨gb530, 2, none⟩ = some (.slice A0_2 l0_2.length c0_2) := (blk_cell BK530.out 2).trans rfl
                      have hfz20_0 := blk_frozen BK530.out 0
                      have hfz20_1 := blk_frozen BK530.out 1
                      have hfz20_2 := blk_frozen BK530.out 2
                      have p540 : 0 ≤ (x22_1 : Int) := of_decide_eq_true (by first | (with_reducible assumption) | assumption)
                      have q540 : x22_1 < (l0_2.length : Int) := of_decide_eq_true (by first | (with_reducible assumption) | assumption)
                      obtain ⟨ad540, A540_2, c540_2, e540, hx540_0, hx540_1, hx540_2, hx540_3, hx540_4, hx540_5, hl540_2, hi540_2⟩ := at_T46 HR0_2.out x22_1 p540 q540
                      cases e540
                      replace hx540_0 := (HB.out.cell (World.block_lt_of_cell? w _ hx540_0)).trans hx540_0
                      replace hx540_1 := (HB.out.cell (World.block_lt_of_cell? w _ hx540_1)).trans hx540_1
                      replace hx540_2 := (HB.out.cell (World.block_lt_of_cell? w _ hx540_2)).trans hx540_2
                      replace hx540_3 := (HB.out.cell (World.block_lt_of_cell? w _ hx540_3)).trans hx540_3
                      replace hx540_4 := (HB.out.cell (World.block_lt_of_cell? w _ hx540_4)).trans hx540_4
                      replace hx540_5 := (HB.out.cell (World.block_lt_of_cell? w _ hx540_5)).trans hx540_5
                      have HR540_2 := Aside0.mk hi540_2
                      have HC540_2 := Aside0.mk hl540_2
                      clear hi540_2 hl540_2
                      replace p540 := eq_true p540
                      replace q540 := eq_true q540
                      go_wp2
                      go_roundg k1
                      case measure => have := HK1.out; omega
                      case rel => exact ⟨(x6_1), (wrap64 (x22_1 + 1)), (by first | rfl | (simp; done) | (simp [*]; done)), H', ⟨by have := HK1.out; omega⟩, ⟨by (with_reducible repeat (first | apply Kd.S_alloc | apply Kd.S_drewN | apply Kd.S_drew)); exact HO_6.out⟩, ⟨by (with_reducible repeat (first | apply Kd.R_alloc | apply Kd.R_drewN | apply Kd.R_drew)); exact HO_20.out⟩, ⟨by (with_reducible repeat (first | refine blk_drewN ?_ _ | refine blk_drew ?_ | refine blk_alloc ?_ _)); exact BK530.out⟩, ⟨by repeat (first | (with_reducible first | exact HB.out | apply below_alloc | apply pw_below_drewN | apply below_drew1 | refine below_set ?_ GE530.out) | exact HB.out)⟩⟩
                    · rw [if_neg c19] at H
                      have c19b0 : (((rd_T46 l0_2 x22_1).f0) == 4) = false := beq_eq_false_iff_ne.mpr c19
                      have c19b1 : (((rd_T46 l0_2 x22_1).f0) != 4) = true := bne_iff_ne.mpr c19
                      obtain ⟨ji21, hji21⟩ : ∃ j_ : Int, (wrap64 ((rd t536 x22_1) - 1)) = j_ := ⟨_, rfl⟩
                      replace H : (if 0 ≤ (ji21) then (if (ji21) < (x6_1.length : Int) then (if (rd_L1 x6_1 (ji21)).length < 17592186044416 then (layers_Moments.l0 k1 (x6_1.set ((ji21) : Int).toNat ((rd_L1 x6_1 (ji21)) ++ [x22_1])) t536 (t536.length : Int) (wrap64 (x22_1 + 1)) a0_0 a0_1 l0_2) else (none)) else (none)) else (none)) = some (r1, r2) := by first | (rw [hji21] at H; exact H) | (simp only [hji21] at H ⊢; exact H)
                      have hji21w : (IntKind.i64.wrap ((rd t536 x22_1) - 1)) = ji21 := (i64_w _).trans hji21
                      by_cases c22 : 0 ≤ (ji21)
                      · rw [if_pos c22] at H
                        have c22b0 : decide (0 ≤ (ji21)) = true := decide_eq_true c22
                        clear c22
                        by_cases c23 : (ji21) < (x6_1.length : Int)
                        · rw [if_pos c23] at H
                          have c23b0 : decide ((ji21) < (x6_1.length : Int)) = true := decide_eq_true c23
                          clear c23
                          by_cases c24 : (rd_L1 x6_1 (ji21)).length < 17592186044416
                          · rw [if_pos c24] at H
                            have LMc24 := Aside0.mk c24
                            clear c24
                            obtain ⟨y542, hy542⟩ : ∃ y_ : List Int, y_ = ((rd_L1 x6_1 (ji21)) ++ [x22_1]) := ⟨_, rfl⟩
                            replace H : (layers_Moments.l0 k1 (x6_1.set ((ji21) : Int).toNat y542) t536 (t536.length : Int) (wrap64 (x22_1 + 1)) a0_0 a0_1 l0_2) = some (r1, r2) := by first | (rw [hy542]; with_reducible exact H) | (have H2_ := (Option.bind_some _ _).symm.trans H; rw [hy542]; with_reducible exact H2_) | (have H2_ := (Option.bind_some _ _).symm.trans H; with_reducible exact H2_) | with_reducible exact H | (rw [hy542]; exact H) | exact H
                            have Ny542 := Aside0.mk hy542
                            clear hy542
                            obtain ⟨y545, hy545⟩ : ∃ y_ : List (List Int), y_ = (x6_1.set ((ji21) : Int).toNat y542) := ⟨_, rfl⟩
                            replace H : (layers_Moments.l0 k1 y545 t536 (t536.length : Int) (wrap64 (x22_1 + 1)) a0_0 a0_1 l0_2) = some (r1, r2) := by first | (rw [hy545]; with_reducible exact H) | (have H2_ := (Option.bind_some _ _).symm.trans H; rw [hy545]; with_reducible exact H2_) | (have H2_ := (Option.bind_some _ _).symm.trans H; with_reducible exact H2_) | with_reducible exact H | (rw [hy545]; exact H) | exact H
                            have Ny545 := Aside0.mk hy545
                            clear hy545
                            have H' := Aside0.mk H
                            clear H
                            have p539 : 0 ≤ (x22_1 : Int) := of_decide_eq_true (by first | (with_reducible assumption) | assumption)
                            have q539 : x22_1 < (t536.length : Int) := of_decide_eq_true (by first | (with_reducible assumption) | assumption)
                            obtain ⟨ad539, e539, hx539_0⟩ := Kd.at_int (Kd.R_reads' HO_20.out).2.2 x22_1 p539 q539
                            cases e539
                            replace p539 := eq_true p539
                            replace q539 := eq_true q539
                            have hcz26_0 : wr.cell? ⟨gb530, 0, none⟩ = some (.int .i64 a0_0) := (blk_cell BK530.out 0).trans rfl
                            have hcz26_1 : wr.cell? ⟨gb530, 1, none⟩ = some (.int .i64 a0_1) := (blk_cell BK530.out 1).trans rfl
                            have hcz26_2 : wr.cell? ⟨gb530, 2, none⟩ = some (.slice A0_2 l0_2.length c0_2) := (blk_cell BK530.out 2).trans rfl
                            have hfz26_0 := blk_frozen BK530.out 0
                            have hfz26_1 := blk_frozen BK530.out 1
                            have hfz26_2 := blk_frozen BK530.out 2
                            have p540 : 0 ≤ (x22_1 : Int) := of_decide_eq_true (by first | (with_reducible assumption) | assumption)
                            have q540 : x22_1 < (l0_2.length : Int) := of_decide_eq_true (by first | (with_reducible assumption) | assumption)
                            obtain ⟨ad540, A540_2, c540_2, e540, hx540_0, hx540_1, hx540_2, hx540_3, hx540_4, hx540_5, hl540_2, hi540_2⟩ := at_T46 HR0_2.out x22_1 p540 q540
                            cases e540
                            replace hx540_0 := (HB.out.cell (World.block_lt_of_cell? w _ hx540_0)).trans hx540_0
                            replace hx540_1 := (HB.out.cell (World.block_lt_of_cell? w _ hx540_1)).trans hx540_1
                            replace hx540_2 := (HB.out.cell (World.block_lt_of_cell? w _ hx540_2)).trans hx540_2
                            replace hx540_3 := (HB.out.cell (World.block_lt_of_cell? w _ hx540_3)).trans hx540_3
                            replace hx540_4 := (HB.out.cell (World.block_lt_of_cell? w _ hx540_4)).trans hx540_4
                            replace hx540_5 := (HB.out.cell (World.block_lt_of_cell? w _ hx540_5)).trans hx540_5
                            have HR540_2 := Aside0.mk hi540_2
                            have HC540_2 := Aside0.mk hl540_2
                            clear hi540_2 hl540_2
                            replace p540 := eq_true p540
                            replace q540 := eq_true q540
                            obtain ⟨Ao27, co27, eo27⟩ := Kd.S_slice HO_6.out
                            subst eo27
                            have p541 : 0 ≤ ((ji21) : Int) := of_decide_eq_true (by first | (with_reducible assumption) | assumption)
                            have q541 : (ji21) < (x6_1.length : Int) := of_decide_eq_true (by first | (with_reducible assumption) | assumption)
                            obtain ⟨ad541, A541_0, c541_0, e541, hx541_0, hl541_0, hi541_0⟩ := at_L1 (Kd.S_reads' HO_6.out).2.2 (ji21) p541 q541
                            cases e541
                            obtain ⟨ce541, hce541, hMe541, hcc541⟩ := Kd.S_get HO_6.out [] (ji21) p541 (by first | exact q541 | exact of_decide_eq_true (by first | (with_reducible assumption) | assumption) | (have e_ := (Kd.S_reads' HO_6.out).1; omega))
                            obtain ⟨ve541_0, rfl, ge541_0⟩ := hMe541
                            have hv541_0 := hcc541 0 _ rfl
                            rw [Nat.add_zero, show ((Kd.slice 3 (Kd.int .i64))).sz = 1 from rfl, Nat.mul_one] at hv541_0
                            replace hv541_0 := Option.some.inj (hv541_0.symm.trans hx541_0)
                            rw [hv541_0] at ge541_0
                            have HL541_0 := Aside0.mk (show Kd.R (Kd.int .i64) 3 _ _ _ _ (rd_L1 x6_1 (ji21)) from ge541_0)
                            clear hv541_0 ge541_0
                            have HX541_0 := Aside0.mk hx541_0
                            clear hcc541 hce541
                            have HR541_0 := Aside0.mk hi541_0
                            have HC541_0 := Aside0.mk hl541_0
                            clear hi541_0 hl541_0
                            replace p541 := eq_true p541
                            replace q541 := eq_true q541
                            obtain ⟨go28, co28, eo28, gb28, gl28, cl28, HG28⟩ := Kd.S_form HO_6.out (by have h_ : ((ji21) : Int) < ((x6_1.length : Int) : Int) := of_decide_eq_true (by first | (with_reducible assumption) | assumption); have h2_ : 0 ≤ ((ji21) : Int) := (of_decide_eq_true (by first | (with_reducible assumption) | assumption)); omega)
                            (first | cases eo28 | (injection eo28 with ea_ en_ ec_; (first | subst ea_ | (injection ea_ with ea_; subst ea_)); subst ec_; clear en_))
                            have GB28 := Aside0.mk gb28
                            have GG28 := Aside0.mk HG28
                            clear gb28 gl28 HG28
                            (first | simp only [add_plain] at hx541_0 | skip)
                            obtain ⟨oki28, ce28, hcl28, hM28, hcc28, _, _, hH28⟩ := Kd.S_elem HO_6.out [] ((ji21) : Int) (of_decide_eq_true (by first | (with_reducible assumption) | assumption)) (by have h_ : ((ji21) : Int) < ((x6_1.length : Int) : Int) := of_decide_eq_true (by first | (with_reducible assumption) | assumption); first | exact h_ | (have e_ := (Kd.S_reads' HO_6.out).1; omega) | simpa using h_)
                            obtain ⟨ve28_0, rfl, ge28_0⟩ := hM28
                            have hv28 := hcc28 0 _ rfl
                            have hX28 := HX541_0.out
                            (try simp only [add_plain] at hX28)
                            (try simp only [Nat.add_zero] at hv28)
                            (try rw [show ((Kd.slice 3 (Kd.int .i64))).sz = 1 from rfl, Nat.mul_one] at hv28)
                            replace hv28 := Option.some.inj (hv28.symm.trans hX28)
                            subst hv28
                            clear hX28 hcc28 hcl28
                            have UU28 := Aside0.mk (show Kd.R (Kd.int .i64) 3 _ w.heap.size oki28 (.slice A541_0 (rd_L1 x6_1 (ji21)).length c541_0) (rd_L1 x6_1 (ji21)) from ge28_0)
                            have HH28 := Aside0.mk hH28
                            have HN28 := Aside0.mk (Kd.S_reads' HO_6.out).1
                            clear hH28 ge28_0
                            go_wp2_with (first | ((with_reducible refine gate_builtin (b := .append) (xs := #[.tmp 41, .tmp 43]) rfl ?_); at_builtin; refine Kd.R_append (Kd.int .i64) (w0 := w) w.heap.size rfl (.tmp 41) (.tmp 43) 37 3 (.int .i64 0) 8 rfl Try.underlying37 info3 rfl (by decide) (by omega) (.slice A541_0 (rd_L1 x6_1 (ji21)).length c541_0) (rd_L1 x6_1 (ji21)) x22_1 [.int .i64 x22_1] (fun k_ => oki28 k_ ∨ ((fun k_ => some k_ ≠ (.slice (some ad539) t536.length co14 : Value).ownBlock)) k_ ∧ wr.heap.size ≤ k_) (fun _ => False) rfl rfl ?aP (fun _ hk => hk.elim) ?aF ?aO ?aB ?aS ?aL ?_; (case aP => exact rfl); (case aB => exact (by repeat (first | (with_reducible first | exact HB.out | apply below_alloc | apply pw_below_drewN | apply below_drew1 | refine below_set ?_ GE530.out) | exact HB.out))); (case aF => exact (fun k_ hk => .inr ⟨Kd.fresh' (Kd.R_lt (by (with_reducible repeat (first | apply Kd.R_alloc | apply Kd.R_drewN | apply Kd.R_drew)); exact HO_20.out)) k_ hk, hk⟩)); (case aO => exact (by (with_reducible repeat (first | apply Kd.R_alloc | apply Kd.R_drewN | apply Kd.R_drew)); exact Kd.R_mono UU28.out (fun _ hk => .inl hk))); (case aS => exact (below_size (by repeat (first | (with_reducible first | exact HB.out | apply below_alloc | apply pw_below_drewN | apply below_drew1 | refine below_set ?_ GE530.out) | exact HB.out)))); (case aL => have := LMc24.out; omega); intro v543 w29 ho hb hg hat; rw [← Ny542.out] at ho; have n0_ := Aside0.mk (Kd.R_grown2 (by (with_reducible repeat (first | apply Kd.R_alloc | apply Kd.R_drewN | apply Kd.R_drew)); exact HO_20.out) rfl hg (fun k_ e_ => (HL541_0.out.1 k_ e_).1)); have n1_ := Aside0.mk (blk_grown (g := gb530) (o := .cells #[.int .i64 a0_0, .int .i64 a0_1, .slice (some ad540) l0_2.length c0_2] 24 (0, 0)) (by (with_reducible repeat (first | refine blk_drewN ?_ _ | refine blk_drew ?_ | refine blk_alloc ?_ _)); exact BK530.out) hg (Kd.R_ne HL541_0.out BK530.out (by decide))); have n2_ := Aside0.mk (hb); have n3_ := Aside0.mk (Kd.H_grown (Kd.H_widen (by repeat (first | exact HH28.out | refine Kd.H_alloc ?_ _ | refine Kd.H_drewN ?_ _ | refine Kd.H_drew ?_))) hg (fun k_ e_ => .inl (UU28.out.1 k_ e_))); have n4_ := Aside0.mk (ho); clear HO_20; clear BK530; clear HB; clear HH28; clear HO_6; clear UU28; clear HL541_0; have HO_20 := n0_; have BK530 := n1_; have HB := n2_; have HH28 := n3_; have HO544 := n4_; clear n0_ n1_ n2_ n3_ n4_; clear ho hb hg hat; have p25 : 0 ≤ ((ji21) : Int) := of_decide_eq_true (by first | (with_reducible assumption) | assumption); have q25 : ((ji21) : Int) < ((x6_1.length : Int) : Int) := of_decide_eq_true (by first | (with_reducible assumption) | assumption); replace p25 := eq_true p25; replace q25 := eq_true q25; obtain ⟨Ao32, co32, eo32⟩ := Kd.R_slice HO544.out; subst eo32; obtain ⟨_, _, hraw30, _, _, hcc30, _⟩ := Kd.H_raw HH28.out (of_decide_eq_true (by first | (with_reducible assumption) | assumption)) (by have h_ : ((ji21) : Int) < ((x6_1.length : Int) : Int) := of_decide_eq_true (by first | (with_reducible assumption) | assumption); first | exact h_ | (have e_ := (HN28.out); omega) | simpa using h_); obtain ⟨_, hfr30⟩ := Kd.H_at HH28.out (of_decide_eq_true (by first | (with_reducible assumption) | assumption)) (by have h_ : ((ji21) : Int) < ((x6_1.length : Int) : Int) := of_decide_eq_true (by first | (with_reducible assumption) | assumption); first | exact h_ | (have e_ := (HN28.out); omega) | simpa using h_); have hx30_0 := hcc30 0 _ rfl; have hf30_0 := hfr30 0; (try simp only [Nat.add_zero] at hx30_0 hf30_0); (try rw [show ((Kd.slice 3 (Kd.int .i64))).sz = 1 from rfl, Nat.mul_one] at hx30_0); (try rw [show ((Kd.slice 3 (Kd.int .i64))).sz = 1 from rfl, Nat.mul_one] at hf30_0); have HP30 := Kd.S_seg0 HH28.out (of_decide_eq_true (by first | (with_reducible assumption) | assumption)) (by have h_ : ((ji21) : Int) < ((x6_1.length : Int) : Int) := of_decide_eq_true (by first | (with_reducible assumption) | assumption); first | exact h_ | (have e_ := (HN28.out); omega) | simpa using h_) (seg := [.slice Ao32 y542.length co32]) (j := 0) (show 1 ≤ 1 from by decide) (x' := y542) (Kd.M_row HO544.out) (fun _ hk => hk); (try simp only [show ((Kd.slice 3 (Kd.int .i64))).sz = 1 from rfl, Nat.mul_one, Nat.add_zero] at HP30); clear hcc30 hfr30) | ((with_reducible refine gate_store (t := 37) (p := 45) rfl ?_); refine store_event (t := 37) (p := 45) (v := ?vo_w31) (w1 := (w29.setCell ⟨go28, ((ji21) : Int).toNat, none⟩ (.slice Ao32 y542.length co32))) ?hg ?ho ?hn ?hr ?_; (case ho => rfl); (case hg => rfl); (case hn => rfl); (case hr => first | (go_simp; done) | (go_simp; rfl)); intro w31 hw; have hg : w29.grownBy w31 (some go28) := (by rw [hw]; exact HP30.2); have hp_ : Kd.S (Kd.slice 3 (Kd.int .i64)) 37 w31 w.heap.size (fun k_ => some k_ ≠ (.slice (some ad539) t536.length co14 : Value).ownBlock) (.slice (some ⟨go28, 0, none⟩) x6_1.length co27) y545 := (by rw [hw, Ny545.out]; exact HP30.1); clear HP30; have n0_ := Aside0.mk (Kd.R_over' (v := (.slice (some ⟨go28, 0, none⟩) x6_1.length co27)) (by (with_reducible repeat (first | apply Kd.R_alloc | apply Kd.R_drewN | apply Kd.R_drew)); exact HO_20.out) (Kd.R_typed hraw30) (by decide) hg); have n1_ := Aside0.mk (blk_grown (g := gb530) (o := .cells #[.int .i64 a0_0, .int .i64 a0_1, .slice (some ad540) l0_2.length c0_2] 24 (0, 0)) (by (with_reducible repeat (first | refine blk_drewN ?_ _ | refine blk_drew ?_ | refine blk_alloc ?_ _)); exact BK530.out) hg (Kd.R_ne hraw30 BK530.out (by decide))); have n2_ := Aside0.mk ((by rw [hw]; exact below_set HB.out GB28.out : Below w.heap.size w w31)); have n3_ := Aside0.mk (hp_); clear HO_20; clear BK530; clear HB; clear HO544; clear HH28; have HO_20 := n0_; have BK530 := n1_; have HB := n2_; have HO_6 := n3_; clear n0_ n1_ n2_ n3_; clear hg hw hp_ hraw30))
                            go_roundg k1
                            case measure => have := HK1.out; omega
                            case rel => exact ⟨(y545), (wrap64 (x22_1 + 1)), (by first | rfl | (simp; done) | (simp [*]; done)), H', ⟨by have := HK1.out; omega⟩, ⟨by (with_reducible repeat (first | apply Kd.S_alloc | apply Kd.S_drewN | apply Kd.S_drew)); exact HO_6.out⟩, ⟨by (with_reducible repeat (first | apply Kd.R_alloc | apply Kd.R_drewN | apply Kd.R_drew)); exact HO_20.out⟩, ⟨by (with_reducible repeat (first | refine blk_drewN ?_ _ | refine blk_drew ?_ | refine blk_alloc ?_ _)); exact BK530.out⟩, ⟨by repeat (first | (with_reducible first | exact HB.out | apply below_alloc | apply pw_below_drewN | apply below_drew1 | refine below_set ?_ GE530.out) | exact HB.out)⟩⟩
                          · rw [if_neg c24] at H
                            exact absurd H (by simp)
                        · rw [if_neg c23] at H
                          exact absurd H (by simp)
                      · rw [if_neg c22] at H
                        exact absurd H (by simp)
                  · rw [if_neg c18] at H
                    exact absurd H (by simp)
                · rw [if_neg c17] at H
                  exact absurd H (by simp)
              · rw [if_neg c16] at H
                exact absurd H (by simp)
            · rw [if_neg c15] at H
              have c15b0 : decide (x22_1 < (t536.length : Int)) = false := decide_eq_false c15
              clear c15
              simp only [Option.some.injEq, Prod.mk.injEq] at H
              obtain ⟨rfl, rfl⟩ := H
              go_wp2
              go_ret2
              exact ⟨_, by first | rfl | (simp [errW_none, errW_some] <;> rfl) | (simp [*, errW_none, errW_some] <;> rfl), by (with_reducible repeat (first | apply Kd.S_alloc | apply Kd.S_drewN | apply Kd.S_drew)); exact Kd.S_mono HO_6.out (fun _ hk => trivial), by repeat (first | (with_reducible first | exact HB.out | apply below_alloc | apply pw_below_drewN | apply below_drew1 | refine below_set ?_ GE530.out) | exact HB.out)⟩
      · rw [if_neg c5] at H
        exact absurd H (by simp)
    · rw [if_neg c4] at H
      exact absurd H (by simp)
  · rw [if_neg c3] at H
    have c3b0 : (t532 == 0) = false := beq_eq_false_iff_ne.mpr c3
    have c3b1 : (t532 != 0) = true := bne_iff_ne.mpr c3
    simp only [Option.some.injEq, Prod.mk.injEq] at H
    obtain ⟨rfl, rfl⟩ := H
    go_enter Try.func37, Try.ntmps37
    go_wp2_with (first | ((with_reducible refine gate_dst (N := 1) rfl ?_); refine box_event ?hg (N := 1) ?hd (cs := #[.int .i64 a0_0, .int .i64 a0_1, .slice A0_2 l0_2.length c0_2]) (t := 24) ?hr ?_; (case hd => rfl); (case hg => rfl); (case hr => first | (go_simp; done) | (go_simp; rfl)); intro gb530 hg w33 hbox hb; have n0_ := Aside0.mk (below_step (by repeat (first | (with_reducible first | exact HB.out | apply below_alloc | apply pw_below_drewN | apply below_drew1) | exact HB.out)) hb); have n1_ := Aside0.mk (hbox); have n2_ := Aside0.mk ((by rw [hg]; exact (below_size (by repeat (first | (with_reducible first | exact HB.out | apply below_alloc | apply pw_below_drewN | apply below_drew1) | exact HB.out))) : w.heap.size ≤ gb530)); have n3_ := Aside0.mk ((by rw [hg]; exact (below_size (by repeat (first | (with_reducible first | exact HB.out | apply below_alloc | apply pw_below_drewN | apply below_drew1) | exact HB.out))) : w.heap.size ≤ gb530)); clear HB; have HB := n0_; have BK530 := n1_; have GW530 := n2_; have GE530 := n3_; clear n0_ n1_ n2_ n3_; clear hb hbox hg; have hcz34_0 : w33.cell? ⟨gb530, 0, none⟩ = some (.int .i64 a0_0) := (blk_cell BK530.out 0).trans rfl; have hcz34_1 : w33.cell? ⟨gb530, 1, none⟩ = some (.int .i64 a0_1) := (blk_cell BK530.out 1).trans rfl; have hcz34_2 : w33.cell? ⟨gb530, 2, none⟩ = some (.slice A0_2 l0_2.length c0_2) := (blk_cell BK530.out 2).trans rfl; have hfz34_0 := blk_frozen BK530.out 0; have hfz34_1 := blk_frozen BK530.out 1; have hfz34_2 := blk_frozen BK530.out 2) | ((with_reducible refine gate_callee (f := 23) rfl ?_); refine goesL_ (some 11) rfl rfl Try.func23 (by kernel_rfl) rfl #[.agg #[.int .i64 a0_0, .int .i64 a0_1, .slice A0_2 l0_2.length c0_2]] rfl (by (try simp only [List.map_toArray, List.map_cons, List.map_nil]); first | done | rfl | (simp only [List.length_drop, List.length_take]; rfl)) ?_; (with_reducible refine (layers_Depth.calls k a0_0 a0_1 _ _ l0_2 t531 t532 _ ?side1 ?side2 A2.out).mono ?_); (case side1 => repeat (first | exact (Kd.C_below HR0_2.out HB.out) | (with_reducible refine Kd.C_alloc ?_ _) | (with_reducible refine Kd.C_drewN ?_ _) | (with_reducible refine Kd.C_drew ?_))); (case side2 => exact HC0_2.out); rintro e w35 ⟨rfl, hb⟩; refine ⟨_, rfl, ?_⟩; have n0_ := Aside0.mk (blk_below (g := gb530) (o := .cells #[.int .i64 a0_0, .int .i64 a0_1, .slice A0_2 l0_2.length c0_2] 24 (0, 0)) (by (with_reducible repeat (first | refine blk_drewN ?_ _ | refine blk_drew ?_ | refine blk_alloc ?_ _)); exact BK530.out) hb); have n1_ := Aside0.mk (below_step (by repeat (first | (with_reducible first | exact HB.out | apply below_alloc | apply pw_below_drewN | apply below_drew1 | refine below_set ?_ GE530.out) | exact HB.out)) hb); clear BK530; clear HB; have BK530 := n0_; have HB := n1_; clear n0_ n1_; (try clear hb); (try clear hb2); (try clear hk); (try clear hi)))
    go_ret2
    exact ⟨_, by first | rfl | (simp [errW_none, errW_some] <;> rfl) | (simp [*, errW_none, errW_some] <;> rfl), by first | exact Kd.S_nil _ _ _ _ _ | exact Kd.N_nil _ _ _ _ _ | exact Kd.V_nil _ _ _ _ _ | exact Kd.Q_nil _ _ _ _ _ | exact Kd.R_nil _ _ _ _ _, by repeat (first | (with_reducible first | exact HB.out | apply below_alloc | apply pw_below_drewN | apply below_drew1 | refine below_set ?_ GE530.out) | exact HB.out)⟩
end Go.Proofs.Ytbelnopbggkdfaa.Q
end

section
namespace Go.Proofs.Ytbelnopbggkdfaa.Q
open Go.RowKit Go.Proofs.YtbelnopbggkdfaaW.PrintWords Go.Proofs.YtbelnopbggkdfaaW.PrintLast Go.Proofs.YtbelnopbggkdfaaW.PrintMore
theorem ex_early : layers_Early.f 40 3 0 exOps = some ([1, 2, 1, 2, 3], 0) := by kernel_rfl
theorem ex_late : layers_Late.f 40 3 0 exOps = some ([1, 2, 2, 2, 3], 0) := by kernel_rfl
theorem ex_depth : layers_Depth.f 40 3 0 exOps = some (3, 0) := by kernel_rfl
theorem ex_moments : layers_Moments.f 40 3 0 exOps = some ([[0, 2], [1], [4]], 0) := by kernel_rfl
theorem ex_past : layers_Past.f 40 3 0 exOps [2] = some ([2, 4], 0) := by kernel_rfl
theorem ex_past3 : layers_Past.f 40 3 0 exOps [3] = some ([], 190) := by kernel_rfl
def exSorted : List S46 := [⟨1, 2, [0], 0, -1, 0⟩, ⟨1, 2, [2], 0, -1, 0⟩, ⟨1, 11, [0, 1], 0, -1, 0⟩, ⟨4, 0, [1, 2], 0, -1, 0⟩, ⟨1, 2, [2], 0, -1, 0⟩]
theorem ex_sorted : layers_Sorted.f 40 3 0 exOps = some (3, 0, exSorted, 0) := by kernel_rfl
theorem ex_ints1 : phasorlaw19_ints.f 40 [1, 2, 1, 2, 3] [1, 2, 1, 2, 3] = some true := by kernel_rfl
theorem ex_ints2 : phasorlaw19_ints.f 40 [1, 2, 2, 2, 3] [1, 2, 2, 2, 3] = some true := by kernel_rfl
theorem ex_ints3 : phasorlaw19_ints.f 40 [2, 4] [2, 4] = some true := by kernel_rfl
theorem exE (W : World) (A : Option Addr) (h : Kd.C k46 W A 5 exOps) : Calls Try.prog 21 #[.agg #[.int .i64 3, .int .i64 0, .slice A 5 5]] W fun e w' => ∃ A' c', e = .returned (.tuple #[.slice A' 5 c', .int .i64 0]) ∧ Kd.R (Kd.int .i64) 3 w' W.heap.size (fun _ => True) (.slice A' 5 c') [1, 2, 1, 2, 3] ∧ Below W.heap.size W w' :=
  (layers_Early.calls 40 3 0 A 5 exOps _ _ W h (by decide) ex_early).mono fun e w' ⟨v, a, b, c⟩ => by obtain ⟨A', c', rfl⟩ := Kd.R_slice b; exact ⟨A', c', a, b, c⟩
theorem exL (W : World) (A : Option Addr) (h : Kd.C k46 W A 5 exOps) : Calls Try.prog 22 #[.agg #[.int .i64 3, .int .i64 0, .slice A 5 5]] W fun e w' => ∃ A' c', e = .returned (.tuple #[.slice A' 5 c', .int .i64 0]) ∧ Kd.R (Kd.int .i64) 3 w' W.heap.size (fun _ => True) (.slice A' 5 c') [1, 2, 2, 2, 3] ∧ Below W.heap.size W w' :=
  (layers_Late.calls 40 3 0 A 5 exOps _ _ W h (by decide) ex_late).mono fun e w' ⟨v, a, b, c⟩ => by obtain ⟨A', c', rfl⟩ := Kd.R_slice b; exact ⟨A', c', a, b, c⟩
theorem exD (W : World) (A : Option Addr) (h : Kd.C k46 W A 5 exOps) : Calls Try.prog 23 #[.agg #[.int .i64 3, .int .i64 0, .slice A 5 5]] W fun e w' => e = .returned (.tuple #[.int .i64 3, .int .i64 0]) ∧ Below W.heap.size W w' :=
  (layers_Depth.calls 40 3 0 A 5 exOps _ _ W h (by decide) ex_depth).mono fun e w' h => h
theorem exM (W : World) (A : Option Addr) (h : Kd.C k46 W A 5 exOps) : Calls Try.prog 37 #[.agg #[.int .i64 3, .int .i64 0, .slice A 5 5]] W fun e w' => ∃ A' c, e = .returned (.tuple #[.slice A' 3 c, .int .i64 0]) ∧ Below W.heap.size W w' :=
  (layers_Moments.calls 40 3 0 A 5 exOps _ _ W h (by decide) ex_moments).mono fun e w' ⟨v, a, b, c⟩ => by obtain ⟨A', c', hv⟩ := Kd.S_slice b; exact ⟨A', c', by rw [a, hv]; rfl, c⟩
theorem exS (W : World) (A : Option Addr) (h : Kd.C k46 W A 5 exOps) : Calls Try.prog 27 #[.agg #[.int .i64 3, .int .i64 0, .slice A 5 5]] W fun e w' => ∃ g c, e = .returned (.tuple #[.agg #[.int .i64 3, .int .i64 0, .slice (some ⟨g, 0, none⟩) 5 c], .int .i64 0]) ∧ g < w'.heap.size ∧ w'.cell? ⟨g, 7, none⟩ = some (.int .i64 2) ∧ Below W.heap.size W w' := by
  refine (layers_Sorted.calls 40 3 0 A 5 exOps _ _ _ _ W h (by decide) ex_sorted).mono ?_
  rintro e w' ⟨v, rfl, b, c⟩
  obtain ⟨g, cap, rfl, _, hlt, _⟩ := Kd.N_form b (by decide)
  obtain ⟨_, _, hC⟩ := Kd.N_reads' b
  obtain ⟨ad, A2, c2, e, _, k1, _⟩ := at_T46 hC 1 (by decide) (by decide)
  cases e
  exact ⟨g, cap, rfl, hlt, k1, c⟩
theorem exP (W : World) (A : Option Addr) (B : Option Addr) (h : Kd.C k46 W A 5 exOps) (hq : Kd.C (Kd.int .i64) W B 1 [2]) : Calls Try.prog 31 #[.agg #[.int .i64 3, .int .i64 0, .slice A 5 5], .slice B 1 1] W fun e w' => ∃ A' c', e = .returned (.tuple #[.slice A' 2 c', .int .i64 0]) ∧ Kd.R (Kd.int .i64) 3 w' W.heap.size (fun _ => True) (.slice A' 2 c') [2, 4] ∧ Below W.heap.size W w' :=
  (layers_Past.calls 40 3 0 A 5 exOps B 1 [2] _ _ W h (by decide) hq (by decide) ex_past).mono fun e w' ⟨v, a, b, c⟩ => by obtain ⟨A', c', rfl⟩ := Kd.R_slice b; exact ⟨A', c', a, b, c⟩
theorem exP3 (W : World) (A : Option Addr) (B : Option Addr) (h : Kd.C k46 W A 5 exOps) (hq : Kd.C (Kd.int .i64) W B 1 [3]) : Calls Try.prog 31 #[.agg #[.int .i64 3, .int .i64 0, .slice A 5 5], .slice B 1 1] W fun e w' => ∃ v, e = .returned (.tuple #[v, .int .i64 190]) ∧ Below W.heap.size W w' :=
  (layers_Past.calls 40 3 0 A 5 exOps B 1 [3] _ _ W h (by decide) hq (by decide) ex_past3).mono fun e w' ⟨v, a, b, c⟩ => ⟨v, a, c⟩
theorem exI (W : World) {base c n : Nat} {A B : Option Addr} (l : List Int) (hn : l.length = n) (h : Kd.R (Kd.int .i64) 3 W base (fun _ => True) (.slice A n c) l) (hq : Kd.C (Kd.int .i64) W B n l) (hi : phasorlaw19_ints.f 40 l l = some true) : Calls Try.prog 36 #[.slice A n c, .slice B n n] W fun e w' => e = .returned (.bool true) ∧ Below W.heap.size W w' := by
  subst hn
  obtain ⟨_, h1, h2⟩ := Kd.R_reads' h
  exact (phasorlaw19_ints.calls 40 A c l B l.length l true W h2 h1 hq (Nat.le_refl _) hi).mono fun e w' ⟨a, b⟩ => ⟨a, b.below⟩
end Go.Proofs.Ytbelnopbggkdfaa.Q
end

section
namespace Go.Proofs.Ytbelnopbggkdfaa.Q
open Go.RowKit Go.Proofs.YtbelnopbggkdfaaW.PrintWords Go.Proofs.YtbelnopbggkdfaaW.PrintLast Go.Proofs.YtbelnopbggkdfaaW.PrintMore
set_option maxHeartbeats 4000000 in
set_option maxRecDepth 1000000 in
theorem heads_any (w : World) : Calls Try.prog 25 #[] w fun e w' => e = .returned (.bool true) ∧ Below w.heap.size w w' := by
  have hu24 := Try.underlying24
  have hu46 := Try.underlying46
  have HB := Aside0.mk (Below.refl w.heap.size w)
  go_enter Try.func25, Try.ntmps25
  go_upto_region 2 with (first | (go_at_call 65; (with_reducible refine (example_any _).mono ?_); rintro e w1 ⟨g1, rfl, hC1, hb1⟩) | (go_at_call 21; (with_reducible refine (exE _ _ hC1).mono ?_); rintro e w2 ⟨v1, c1, rfl, ho1, hb2⟩))
  have HO1 := Aside0.mk (Kd.R_lower ho1 (hb1.size))
  replace HB := Aside0.mk (below_step (below_step HB.out hb1) hb2)
  clear ho1 hb2 hC1 hb1
  go_upto_region 3 with (first | (go_at_call 65; (with_reducible refine (example_any _).mono ?_); rintro e w3 ⟨g1, rfl, hC1, hb1⟩) | (go_at_call 22; (with_reducible refine (exL _ _ hC1).mono ?_); rintro e w4 ⟨v3, c3, rfl, ho3, hb2⟩))
  have HO3 := Aside0.mk (Kd.R_lower ho3 (hb1.size))
  replace HO1 := Aside0.mk (Kd.R_below (Kd.R_below HO1.out hb1) hb2)
  replace HB := Aside0.mk (below_step (below_step HB.out hb1) hb2)
  clear ho3 hb2 hC1 hb1
  go_upto_region 4 with (first | (go_at_call 65; (with_reducible refine (example_any _).mono ?_); rintro e w5 ⟨g1, rfl, hC1, hb1⟩) | (go_at_call 23; (with_reducible refine (exD _ _ hC1).mono ?_); rintro e w6 ⟨rfl, hb2⟩))
  replace HO1 := Aside0.mk (Kd.R_below (Kd.R_below HO1.out hb1) hb2)
  replace HO3 := Aside0.mk (Kd.R_below (Kd.R_below HO3.out hb1) hb2)
  replace HB := Aside0.mk (below_step (below_step HB.out hb1) hb2)
  clear hb2 hC1 hb1
  go_upto_region 5 with (first | (go_at_call 65; (with_reducible refine (example_any _).mono ?_); rintro e w7 ⟨g1, rfl, hC1, hb1⟩) | (go_at_call 37; (with_reducible refine (exM _ _ hC1).mono ?_); rintro e w8 ⟨v7, c7, rfl, hb2⟩))
  replace HO1 := Aside0.mk (Kd.R_below (Kd.R_below HO1.out hb1) hb2)
  replace HO3 := Aside0.mk (Kd.R_below (Kd.R_below HO3.out hb1) hb2)
  replace HB := Aside0.mk (below_step (below_step HB.out hb1) hb2)
  clear hb2 hC1 hb1
  go_upto_region 6 with (first | (go_at_call 65; (with_reducible refine (example_any _).mono ?_); rintro e w9 ⟨g1, rfl, hC1, hb1⟩) | (go_at_call 31; (with_reducible refine (exP _ _ _ (Kd.C_alloc hC1 _) (rowC_reads (l := [2]) (blk_new _ _) (by decide))).mono ?_); rintro e w10 ⟨v9, c9, rfl, ho9, hb2⟩))
  have hb3 := below_step (below_alloc (Below.refl w9.heap.size w9) (.cells #[.int .i64 2] 3)) hb2
  have HO9 := Aside0.mk (Kd.R_lower (base' := w.heap.size) ho9 (by have := hb1.size; have := HB.out.size; simp only [World.size_alloc]; omega))
  replace HO1 := Aside0.mk (Kd.R_below (Kd.R_below HO1.out hb1) hb3)
  replace HO3 := Aside0.mk (Kd.R_below (Kd.R_below HO3.out hb1) hb3)
  replace HB := Aside0.mk (below_step (below_step HB.out hb1) hb3)
  clear ho9 hb2 hC1 hb1 hb3
  go_upto_region 7 with (first | (go_at_call 65; (with_reducible refine (example_any _).mono ?_); rintro e w11 ⟨g1, rfl, hC1, hb1⟩) | (go_at_call 27; (with_reducible refine (exS _ _ hC1).mono ?_); rintro e w12 ⟨g11, c11, rfl, hl11, hc11, hb2⟩))
  have hc11' : (w12.alloc (.cells #[.int .i64 3, .int .i64 0, .slice (some ⟨g11, 0, none⟩) 5 c11] 24)).cell? ⟨g11, 7, none⟩ = some (.int .i64 2) := (Below.cell (below_alloc (Below.refl w12.heap.size w12) _) (p := ⟨g11, 7, none⟩) hl11).trans hc11
  have hx11 := blk_new w12 (.cells #[.int .i64 3, .int .i64 0, .slice (some ⟨g11, 0, none⟩) 5 c11] 24)
  have hb3 := below_alloc (below_step hb1 hb2) (.cells #[.int .i64 3, .int .i64 0, .slice (some ⟨g11, 0, none⟩) 5 c11] 24)
  have hl12 : g11 < (w12.alloc (.cells #[.int .i64 3, .int .i64 0, .slice (some ⟨g11, 0, none⟩) 5 c11] 24)).heap.size := by simp only [World.size_alloc]; omega
  have hl13 : w12.heap.size < (w12.alloc (.cells #[.int .i64 3, .int .i64 0, .slice (some ⟨g11, 0, none⟩) 5 c11] 24)).heap.size := by simp only [World.size_alloc]; omega
  replace HO1 := Aside0.mk (Kd.R_below HO1.out hb3)
  replace HO3 := Aside0.mk (Kd.R_below HO3.out hb3)
  replace HO9 := Aside0.mk (Kd.R_below HO9.out hb3)
  replace HB := Aside0.mk (below_step HB.out hb3)
  clear hb2 hC1 hb1 hb3 hc11 hl11
  generalize w12.heap.size = x11 at *
  generalize w12.alloc _ = w13 at *
  go_upto_region 8 with (first | (go_at_call 65; (with_reducible refine (example_any _).mono ?_); rintro e w14 ⟨g1, rfl, hC1, hb1⟩) | (go_at_call 31; (with_reducible refine (exP3 _ _ _ (Kd.C_alloc hC1 _) (rowC_reads (l := [3]) (blk_new _ _) (by decide))).mono ?_); rintro e w15 ⟨v13, rfl, hb2⟩))
  have hb3 := below_step hb1 (below_step (below_alloc (Below.refl w14.heap.size w14) (.cells #[.int .i64 3] 3)) hb2)
  replace HO1 := Aside0.mk (Kd.R_below HO1.out hb3)
  replace HO3 := Aside0.mk (Kd.R_below HO3.out hb3)
  replace HO9 := Aside0.mk (Kd.R_below HO9.out hb3)
  replace HB := Aside0.mk (below_step HB.out hb3)
  replace hc11' := (Below.cell hb3 (p := ⟨g11, 7, none⟩) hl12).trans hc11'
  replace hl12 := Nat.lt_of_lt_of_le hl12 hb3.size
  replace hx11 := blk_below hx11 hb3
  clear hb2 hC1 hb1 hb3 hl13
  go_upto_region 9 with (go_at_call 36; (with_reducible refine (exI _ _ (by decide) (Kd.R_alloc HO1.out _) (rowC_reads (l := [1, 2, 1, 2, 3]) (blk_new _ _) (by decide)) ex_ints1).mono ?_); rintro e w16 ⟨rfl, hb2⟩)
  replace hb2 := below_step (below_alloc (Below.refl w15.heap.size w15) _) hb2
  replace HO3 := Aside0.mk (Kd.R_below HO3.out hb2)
  replace HO9 := Aside0.mk (Kd.R_below HO9.out hb2)
  replace HB := Aside0.mk (below_step HB.out hb2)
  replace hc11' := (Below.cell hb2 (p := ⟨g11, 7, none⟩) hl12).trans hc11'
  replace hl12 := Nat.lt_of_lt_of_le hl12 hb2.size
  replace hx11 := blk_below hx11 hb2
  clear hb2 HO1
  go_upto_region 10 with (go_at_call 36; (with_reducible refine (exI _ _ (by decide) (Kd.R_alloc HO3.out _) (rowC_reads (l := [1, 2, 2, 2, 3]) (blk_new _ _) (by decide)) ex_ints2).mono ?_); rintro e w17 ⟨rfl, hb2⟩)
  replace hb2 := below_step (below_alloc (Below.refl w16.heap.size w16) _) hb2
  replace HO9 := Aside0.mk (Kd.R_below HO9.out hb2)
  replace HB := Aside0.mk (below_step HB.out hb2)
  replace hc11' := (Below.cell hb2 (p := ⟨g11, 7, none⟩) hl12).trans hc11'
  replace hl12 := Nat.lt_of_lt_of_le hl12 hb2.size
  replace hx11 := blk_below hx11 hb2
  clear hb2 HO3
  go_upto_region 11 with (go_at_call 36; (with_reducible refine (exI _ _ (by decide) (Kd.R_alloc HO9.out _) (rowC_reads (l := [2, 4]) (blk_new _ _) (by decide)) ex_ints3).mono ?_); rintro e w18 ⟨rfl, hb2⟩)
  replace hb2 := below_step (below_alloc (Below.refl w17.heap.size w17) _) hb2
  replace HB := Aside0.mk (below_step HB.out hb2)
  replace hc11' := (Below.cell hb2 (p := ⟨g11, 7, none⟩) hl12).trans hc11'
  replace hx11 := blk_below hx11 hb2
  have hx2 : w18.cell? ⟨x11, 2, none⟩ = some (.slice (some ⟨g11, 0, none⟩) 5 c11) := by rw [blk_cell hx11]; rfl
  clear hb2 HO9 hx11 hl12
  go_wp2
  go_ret
  exact ⟨rfl, HB.out⟩
end Go.Proofs.Ytbelnopbggkdfaa.Q
end

section
namespace Go.Proofs.Ytbelnopbggkdfaa.Q
open Go.RowKit Go.Proofs.YtbelnopbggkdfaaW.PrintWords Go.Proofs.YtbelnopbggkdfaaW.PrintLast Go.Proofs.YtbelnopbggkdfaaW.PrintMore
def ordL (i : Nat) : Array Bool := ((List.range 44).map fun j => decide (j < i)).toArray
def ordT : Bool × List (List Nat × List Nat) := (true, [([], []), ([0], [0]), ([], []), ([1, 2], [1, 2]), ([3], [3]), ([4], [4]), ([5], [5]), ([6], [6]), ([7], [7]), ([8, 7], [7, 8]), ([7], [7]), ([9, 10, 7], [7, 9, 10]), ([11, 7], [7, 11]), ([12, 7], [7, 12]), ([13, 7], [7, 13]), ([7, 14], [7, 14]), ([15, 7], [15]), ([16], [16]), ([16], [16]), ([16], [16]), ([17, 18, 19, 16, 16], [16, 17, 18, 19]), ([16, 20], [16, 20]), ([21, 20], [21]), ([22], [22]), ([22], [22]), ([23, 24, 22], [22, 23, 24]), ([25, 22], [22, 25]), ([22], [22]), ([22], [22]), ([27, 28, 22], [22, 27, 28]), ([29, 22], [22, 29]), ([26, 30, 22], [22, 26, 30]), ([31, 22, 22], [22, 31]), ([32], [32]), ([32], [32]), ([33, 34, 32], [32, 33, 34]), ([35, 32], [32, 35]), ([32], [32]), ([32], [32]), ([37, 38, 32], [32, 37, 38]), ([39, 32], [32, 39]), ([36, 40, 32], [32, 36, 40]), ([32, 41, 22], [22, 32, 41]), ([22, 42], [22, 42])])
def ordB : List Nat := [0, 1, 0, 7, 15, 31, 63, 127, 255, 511, 255, 2047, 4095, 8191, 16383, 32767, 65535, 131071, 131071, 131071, 1048575, 2097151, 4194303, 8388607, 8388607, 33554431, 67108863, 8388607, 8388607, 411041791, 947912703, 2147483647, 4294967295, 8589934591, 8589934591, 34359738367, 68719476735, 8589934591, 8589934591, 420906795007, 970662608895, 2199023255551, 4398046511103, 8796093022207]
theorem ordTab : rtab .any (opsOf Try.f4 16) = ordT := by kernel_rfl
theorem ordBits : waitsOk ordT.2 ordB = true := by kernel_rfl
theorem Evt.get {p : Nat → Prop} (h : Evt p) : ∃ k, p k := ⟨h.choose, h.choose_spec _ (Nat.le_refl _)⟩
set_option maxHeartbeats 4000000 in
set_option maxRecDepth 1000000 in
theorem order_no (q b : Int) (A : Option Addr) (c : Nat) (l : List Opn) (w : World) (HC : Kd.C k46 w A l.length l) (hc : l.length ≤ c) (hw : WfL l) (hok : okc q b l = false) :
    Calls Try.prog 4 #[.agg #[.int .i64 q, .int .i64 b, .slice A l.length c]] w fun e w' => e = .returned (.bool true) ∧ Below w.heap.size w w' := by
  have hu24 := Try.underlying24
  obtain ⟨k1, e1⟩ := (early_no (q := q) (b := b) hw hok).get
  obtain ⟨k2, e2⟩ := (late_no (q := q) (b := b) hw hok).get
  obtain ⟨k3, e3⟩ := (depth_no (q := q) (b := b) hw hok).get
  obtain ⟨k4, e4⟩ := (may_is (q := q) (b := b) hw).get
  rw [hok] at e4
  have E1 := Aside0.mk e1
  have E2 := Aside0.mk e2
  have E3 := Aside0.mk e3
  have E4 := Aside0.mk e4
  have HR := Aside0.mk HC
  have HS := Aside0.mk hc
  have HB := Aside0.mk (Below.refl w.heap.size w)
  clear e1 e2 e3 e4 HC hc hw hok
  go_enter Try.func4, Try.ntmps4
  go_upto_region 2 with (go_at_call 21; (with_reducible refine (layers_Early.calls k1 q b _ _ l _ _ _ (Kd.C_alloc HR.out _) HS.out E1.out).mono ?_); rintro e w1 ⟨v1, rfl, ho1, hb1⟩)
  have b0 := blk_new w (.cells #[.int .i64 q, .int .i64 b, .slice A l.length c] 24)
  replace HR := Aside0.mk (Kd.C_below (Kd.C_alloc HR.out (.cells #[.int .i64 q, .int .i64 b, .slice A l.length c] 24)) hb1)
  replace HB := Aside0.mk (below_step (below_alloc HB.out (.cells #[.int .i64 q, .int .i64 b, .slice A l.length c] 24)) hb1)
  replace b0 := blk_below b0 hb1
  clear ho1 hb1
  generalize w.heap.size = g0 at b0 ⊢
  have y0 : w1.cell? ⟨g0, 0, none⟩ = some (.int .i64 q) := by rw [blk_cell b0]; rfl
  have y1 : w1.cell? ⟨g0, 1, none⟩ = some (.int .i64 b) := by rw [blk_cell b0]; rfl
  have y2 : w1.cell? ⟨g0, 2, none⟩ = some (.slice A l.length c) := by rw [blk_cell b0]; rfl
  go_upto_region 3 with (go_at_call 22; (with_reducible refine (layers_Late.calls k2 q b _ _ l _ _ _ HR.out HS.out E2.out).mono ?_); rintro e w2 ⟨v2, rfl, ho1, hb1⟩)
  replace HR := Aside0.mk (Kd.C_below HR.out hb1)
  replace HB := Aside0.mk (below_step HB.out hb1)
  replace b0 := blk_below b0 hb1
  replace y0 : w2.cell? ⟨g0, 0, none⟩ = some (.int .i64 q) := by rw [blk_cell b0]; rfl
  replace y1 : w2.cell? ⟨g0, 1, none⟩ = some (.int .i64 b) := by rw [blk_cell b0]; rfl
  replace y2 : w2.cell? ⟨g0, 2, none⟩ = some (.slice A l.length c) := by rw [blk_cell b0]; rfl
  clear ho1 hb1
  go_upto_region 4 with (go_at_call 23; (with_reducible refine (layers_Depth.calls k3 q b _ _ l _ _ _ HR.out HS.out E3.out).mono ?_); rintro e w3 ⟨rfl, hb1⟩)
  replace HR := Aside0.mk (Kd.C_below HR.out hb1)
  replace HB := Aside0.mk (below_step HB.out hb1)
  replace b0 := blk_below b0 hb1
  replace y0 : w3.cell? ⟨g0, 0, none⟩ = some (.int .i64 q) := by rw [blk_cell b0]; rfl
  replace y1 : w3.cell? ⟨g0, 1, none⟩ = some (.int .i64 b) := by rw [blk_cell b0]; rfl
  replace y2 : w3.cell? ⟨g0, 2, none⟩ = some (.slice A l.length c) := by rw [blk_cell b0]; rfl
  clear hb1
  go_wp2_with (first | (go_at_call 24; (with_reducible refine (phasorref08_May.calls k4 q b _ _ l _ _ HR.out HS.out E4.out).mono ?_); rintro e w4 ⟨rfl, hb4⟩) | (go_at_call 25; (with_reducible refine (heads_any _).mono ?_); rintro e w5 ⟨rfl, hb5⟩))
  go_ret
  exact ⟨rfl, below_step (below_step HB.out hb4) hb5⟩
end Go.Proofs.Ytbelnopbggkdfaa.Q
end

section
namespace Go.Proofs.Ytbelnopbggkdfaa.Q
set_option linter.unusedSimpArgs false
open Go.RowKit Go.Proofs.YtbelnopbggkdfaaW.PrintWords Go.Proofs.YtbelnopbggkdfaaW.PrintLast Go.Proofs.YtbelnopbggkdfaaW.PrintMore
set_option maxHeartbeats 4000000 in
set_option maxRecDepth 1000000 in
theorem order_yes (q b : Int) (A : Option Addr) (c : Nat) (l : List Opn) (w : World) (hC : Kd.C k46 w A l.length l) (hc : l.length ≤ c) (hw : WfL l) (hok : CircF q b l) :
    Calls Try.prog 4 #[.agg #[.int .i64 q, .int .i64 b, .slice A l.length c]] w fun e w' => e = .returned (.bool true) ∧ Below w.heap.size w w' := by
  have hu24 := Try.underlying24
  have hu46 := Try.underlying46
  obtain ⟨E, B, D, s, e1, e2, e3, e5, e6, l1, l2, f1, f2⟩ := order_facts hw hok
  obtain ⟨k1, e1⟩ := e1.get
  obtain ⟨k2, e2⟩ := e2.get
  obtain ⟨k3, e3⟩ := e3.get
  obtain ⟨k5, e5⟩ := e5.get
  obtain ⟨k6, e6⟩ := e6.get
  have hn : (l.length : Int) ≤ 4096 := by have := hok.n; omega
  have T : Hid (∀ x y : Int, 0 ≤ x → x < l.length → 0 ≤ y → y < x → ∃ k, phasorref19_Touch.f k q b l x y = some (tch (rd_T46 l x) (rd_T46 l y))) := Lib.hid fun x y h0 h1 h2 h3 => by
    obtain ⟨i, rfl⟩ : ∃ i : Nat, x = i := ⟨x.toNat, by omega⟩
    obtain ⟨j, rfl⟩ : ∃ j : Nat, y = j := ⟨y.toNat, by omega⟩
    obtain ⟨k, hk⟩ := (touch_is hok (i := i) (j := j) (by omega) (by omega)).get
    refine ⟨k, ?_⟩
    unfold phasorref19_Touch.f
    rw [hk, rdT_nat, rdT_nat]
    rfl
  have F1 : Hid (∀ x : Int, 0 ≤ x → x < l.length → decide (rd B x < rd E x) = false ∧ decide (D < rd B x) = false ∧ ((rd_T46 l x).f0 = 4 ∨ decide (rd E x < 1) = false)) := Lib.hid fun x h0 h1 => by
    obtain ⟨i, rfl⟩ : ∃ i : Nat, x = i := ⟨x.toNat, by omega⟩
    obtain ⟨g1, g2, g3⟩ := f1 i (by omega)
    rw [rd_nth, rd_nth, rdT_nat (by omega), ← at_get (by omega)]
    refine ⟨decide_eq_false (by omega), decide_eq_false (by omega), ?_⟩
    by_cases h4 : (at_ l i).f0 = 4
    · exact .inl h4
    · exact .inr (decide_eq_false (by have := g3 h4; omega))
  have F2 : Hid (∀ x y : Int, 0 ≤ x → x < l.length → 0 ≤ y → y < x → (rd_T46 l x).f0 ≠ 4 → (rd_T46 l y).f0 ≠ 4 → tch (rd_T46 l x) (rd_T46 l y) = true → decide (rd E x ≤ rd E y) = false ∧ decide (rd B x ≤ rd B y) = false) := Lib.hid fun x y h0 h1 h2 h3 => by
    obtain ⟨i, rfl⟩ : ∃ i : Nat, x = i := ⟨x.toNat, by omega⟩
    obtain ⟨j, rfl⟩ : ∃ j : Nat, y = j := ⟨y.toNat, by omega⟩
    intro h4 h5 ht
    rw [rdT_nat (by omega), ← at_get (by omega)] at h4 ht
    rw [rdT_nat (l := l) (i := j) (by omega), ← at_get (by omega)] at h5 ht
    obtain ⟨g1, g2⟩ := f2 i j (by omega) (by omega) h4 h5 ht
    rw [rd_nth, rd_nth, rd_nth, rd_nth]
    exact ⟨decide_eq_false (by omega), decide_eq_false (by omega)⟩
  have E1 := Aside0.mk e1
  have E2 := Aside0.mk e2
  have E3 := Aside0.mk e3
  have E5 := Aside0.mk e5
  have E6 := Aside0.mk e6
  have HR := Aside0.mk hC
  have HS := Aside0.mk hc
  have L1 := Aside0.mk l1
  have L2 := Aside0.mk l2
  have HB := Aside0.mk (Below.refl w.heap.size w)
  clear e1 e2 e3 e5 e6 hC hc hw hok l1 l2 f1 f2
  go_enter Try.func4, Try.ntmps4
  go_upto_region 2 with (go_at_call 21; (with_reducible refine (layers_Early.calls k1 q b _ _ l _ _ _ (Kd.C_alloc HR.out _) HS.out E1.out).mono ?_); rintro e w1 ⟨v1, rfl, ho1, hb1⟩)
  obtain ⟨A1, c1, rfl⟩ := Kd.R_slice ho1
  have HE := Aside0.mk (Kd.R_reads' ho1).2.2
  rw [L1.out] at HE ⊢
  have b0 := blk_new w (.cells #[.int .i64 q, .int .i64 b, .slice A l.length c] 24)
  replace HR := Aside0.mk (Kd.C_below (Kd.C_alloc HR.out (.cells #[.int .i64 q, .int .i64 b, .slice A l.length c] 24)) hb1)
  replace HB := Aside0.mk (below_step (below_alloc HB.out (.cells #[.int .i64 q, .int .i64 b, .slice A l.length c] 24)) hb1)
  replace b0 := blk_below b0 hb1
  clear ho1 hb1
  generalize w.heap.size = g0 at b0 ⊢
  have y0 : w1.cell? ⟨g0, 0, none⟩ = some (.int .i64 q) := by rw [blk_cell b0]; rfl
  have y1 : w1.cell? ⟨g0, 1, none⟩ = some (.int .i64 b) := by rw [blk_cell b0]; rfl
  have y2 : w1.cell? ⟨g0, 2, none⟩ = some (.slice A l.length c) := by rw [blk_cell b0]; rfl
  go_upto_region 3 with (go_at_call 22; (with_reducible refine (layers_Late.calls k2 q b _ _ l _ _ _ HR.out HS.out E2.out).mono ?_); rintro e w2 ⟨v2, rfl, ho1, hb1⟩)
  obtain ⟨A2, c2, rfl⟩ := Kd.R_slice ho1
  have HL := Aside0.mk (Kd.R_reads' ho1).2.2
  rw [L2.out] at HL ⊢
  replace HR := Aside0.mk (Kd.C_below HR.out hb1)
  replace HE := Aside0.mk (Kd.C_below HE.out hb1)
  replace HB := Aside0.mk (below_step HB.out hb1)
  replace b0 := blk_below b0 hb1
  replace y0 : w2.cell? ⟨g0, 0, none⟩ = some (.int .i64 q) := by rw [blk_cell b0]; rfl
  replace y1 : w2.cell? ⟨g0, 1, none⟩ = some (.int .i64 b) := by rw [blk_cell b0]; rfl
  replace y2 : w2.cell? ⟨g0, 2, none⟩ = some (.slice A l.length c) := by rw [blk_cell b0]; rfl
  clear ho1 hb1
  go_upto_region 4 with (go_at_call 23; (with_reducible refine (layers_Depth.calls k3 q b _ _ l _ _ _ HR.out HS.out E3.out).mono ?_); rintro e w3 ⟨rfl, hb1⟩)
  replace HR := Aside0.mk (Kd.C_below HR.out hb1)
  replace HE := Aside0.mk (Kd.C_below HE.out hb1)
  replace HL := Aside0.mk (Kd.C_below HL.out hb1)
  replace HB := Aside0.mk (below_step HB.out hb1)
  replace b0 := blk_below b0 hb1
  replace y0 : w3.cell? ⟨g0, 0, none⟩ = some (.int .i64 q) := by rw [blk_cell b0]; rfl
  replace y1 : w3.cell? ⟨g0, 1, none⟩ = some (.int .i64 b) := by rw [blk_cell b0]; rfl
  replace y2 : w3.cell? ⟨g0, 2, none⟩ = some (.slice A l.length c) := by rw [blk_cell b0]; rfl
  clear hb1
  go_wp2_with fail
  go_loopg [9, 10] l.length (fun gk v9 v10 wr => ∃ x : Int, 0 ≤ x ∧ x ≤ l.length ∧ (gk : Int) + x = l.length ∧ v9 = .int .i64 x ∧ Below w3.heap.size w3 wr)
  case atStart => exact ⟨0, by omega, by omega, by omega, rfl, Below.refl _ _⟩
  case round =>
    obtain ⟨x, hx0, hx1, hx2, rfl, hbr⟩ := hrel
    by_cases hx : x < l.length
    · have z2 : wr.cell? ⟨g0, 2, none⟩ = some (.slice A l.length c) := by rw [blk_cell (blk_below b0 hbr)]; rfl
      obtain ⟨a0, _, _, hA0, z3, -⟩ := at_T46 (Kd.C_below HR.out hbr) x hx0 hx
      obtain ⟨a1, hA1, z4⟩ := Kd.at_int (Kd.C_below HE.out hbr) x hx0 hx
      obtain ⟨a2, hA2, z5⟩ := Kd.at_int (Kd.C_below HL.out hbr) x hx0 hx
      have hxb : x ≤ 4096 := by omega
      subst hA0 hA1 hA2
      have HBR := Aside0.mk hbr
      have X2 := Aside0.mk hx2
      obtain ⟨d1, d2, d3⟩ := F1 x hx0 hx
      clear hbr hx2 hx1
      go_upto_region 11 with fail
      by_cases h4 : (rd_T46 l x).f0 = 4
      · rw [h4] at z3
        clear d3
        go_quiet (fail)
        have HBS := Aside0.mk (pw_below_drewN HBR.out nq)
        generalize wr.drewN nq = w4 at HBS ⊢
        clear z2 z3 z4 z5
        go_wp2_with fail
        go_loopg [10] l.length (fun gk2 v10 wr => ∃ y : Int, 0 ≤ y ∧ y ≤ x ∧ (gk2 : Int) + y = l.length ∧ v10 = .int .i64 y ∧ Below w3.heap.size w3 wr)
        case atStart => exact ⟨0, by omega, by omega, by omega, rfl, HBS.out⟩
        case round =>
          obtain ⟨y, hy0, hy1, hy2, rfl, hbr⟩ := hrel
          by_cases hy : y < x
          · have z2 : wr.cell? ⟨g0, 2, none⟩ = some (.slice (some a0) l.length c) := by rw [blk_cell (blk_below b0 hbr)]; rfl
            obtain ⟨a0', _, _, hA0, z3, -⟩ := at_T46 (Kd.C_below HR.out hbr) x hx0 hx
            obtain rfl := Option.some.inj hA0
            rw [h4] at z3
            have Y2 := Aside0.mk hy2
            have HBQ := Aside0.mk hbr
            clear hbr hy2 hy1
            go_upto_region 16 with fail
            go_quiet (fail)
            go_wp2_with fail
            go_roundg (l.length - (y + 1).toNat)
            case measure => have := Y2.out; omega
            case rel => exact ⟨y + 1, by omega, by omega, by have := Y2.out; omega, by go_num, (pw_below_drewN HBQ.out nq)⟩
          · obtain rfl : y = x := by omega
            have HBQ := Aside0.mk hbr
            clear hbr hy2 hy1
            go_wp2_with fail
            go_roundg (l.length - (y + 1).toNat)
            case measure => have := X2.out; omega
            case rel => exact ⟨y + 1, by omega, by omega, by have := X2.out; omega, by go_num, HBQ.out⟩
      · have n1 : decide ((rd_T46 l x).f0 = 4) = false := decide_eq_false h4
        have n2 : ((rd_T46 l x).f0 == 4) = false := beq_eq_false_iff_ne.2 h4
        have n3 : ((rd_T46 l x).f0 != 4) = true := bne_iff_ne.2 h4
        have d4 := d3.resolve_left h4
        clear d3
        go_quiet (fail)
        have HBS := Aside0.mk (pw_below_drewN HBR.out nq)
        generalize wr.drewN nq = w4 at HBS ⊢
        clear z2 z3 z4 z5
        go_wp2_with fail
        go_loopg [10] l.length (fun gk2 v10 wr => ∃ y : Int, 0 ≤ y ∧ y ≤ x ∧ (gk2 : Int) + y = l.length ∧ v10 = .int .i64 y ∧ Below w3.heap.size w3 wr)
        case atStart => exact ⟨0, by omega, by omega, by omega, rfl, HBS.out⟩
        case round =>
          obtain ⟨y, hy0, hy1, hy2, rfl, hbr⟩ := hrel
          by_cases hy : y < x
          · have CC : Hid (∀ w', Below w3.heap.size w3 w' → w'.cell? ⟨g0, 0, none⟩ = some (.int .i64 q) ∧ w'.cell? ⟨g0, 1, none⟩ = some (.int .i64 b) ∧ w'.cell? ⟨g0, 2, none⟩ = some (.slice (some a0) l.length c) ∧ w'.cell? (a0.add (x.toNat * 6)) = some (.int .i64 (rd_T46 l x).f0) ∧ w'.cell? (a0.add (y.toNat * 6)) = some (.int .i64 (rd_T46 l y).f0) ∧ w'.cell? (a1.add x.toNat) = some (.int .i64 (rd E x)) ∧ w'.cell? (a1.add y.toNat) = some (.int .i64 (rd E y)) ∧ w'.cell? (a2.add x.toNat) = some (.int .i64 (rd B x)) ∧ w'.cell? (a2.add y.toNat) = some (.int .i64 (rd B y)) ∧ Below w3.heap.size w3 w') := Lib.hid fun w' hb => by
              obtain ⟨a0', _, _, hA0, z3, -⟩ := at_T46 (Kd.C_below HR.out hb) x hx0 hx
              obtain rfl := Option.some.inj hA0
              obtain ⟨a0', _, _, hA0, z3', -⟩ := at_T46 (Kd.C_below HR.out hb) y hy0 (by omega)
              obtain rfl := Option.some.inj hA0
              obtain ⟨a1', hA1, z4⟩ := Kd.at_int (Kd.C_below HE.out hb) x hx0 hx
              obtain rfl := Option.some.inj hA1
              obtain ⟨a1', hA1, z4'⟩ := Kd.at_int (Kd.C_below HE.out hb) y hy0 (by omega)
              obtain rfl := Option.some.inj hA1
              obtain ⟨a2', hA2, z5⟩ := Kd.at_int (Kd.C_below HL.out hb) x hx0 hx
              obtain rfl := Option.some.inj hA2
              obtain ⟨a2', hA2, z5'⟩ := Kd.at_int (Kd.C_below HL.out hb) y hy0 (by omega)
              obtain rfl := Option.some.inj hA2
              have b1 := blk_below b0 hb
              exact ⟨by rw [blk_cell b1]; rfl, by rw [blk_cell b1]; rfl, by rw [blk_cell b1]; rfl, z3, z3', z4, z4', z5, z5', hb⟩
            obtain ⟨s0, s1, s2, s3, s4, s5, s6, s7, s8, -⟩ := CC.out _ hbr
            have Y2 := Aside0.mk hy2
            have HBQ := Aside0.mk hbr
            obtain ⟨kt, ht⟩ := T.out x y hx0 hx hy0 hy
            have F := Aside0.mk (F2.out x y hx0 hx hy0 hy h4)
            have TT : Hid (∀ wx, Below w3.heap.size w3 wx → Calls Try.prog 26 #[.agg #[.int .i64 q, .int .i64 b, .slice (some a0) l.length c], .int .i64 x, .int .i64 y] wx fun e w' => e = .returned (.bool (tch (rd_T46 l x) (rd_T46 l y))) ∧ w'.cell? ⟨g0, 0, none⟩ = some (.int .i64 q) ∧ w'.cell? ⟨g0, 1, none⟩ = some (.int .i64 b) ∧ w'.cell? ⟨g0, 2, none⟩ = some (.slice (some a0) l.length c) ∧ w'.cell? (a0.add (x.toNat * 6)) = some (.int .i64 (rd_T46 l x).f0) ∧ w'.cell? (a0.add (y.toNat * 6)) = some (.int .i64 (rd_T46 l y).f0) ∧ w'.cell? (a1.add x.toNat) = some (.int .i64 (rd E x)) ∧ w'.cell? (a1.add y.toNat) = some (.int .i64 (rd E y)) ∧ w'.cell? (a2.add x.toNat) = some (.int .i64 (rd B x)) ∧ w'.cell? (a2.add y.toNat) = some (.int .i64 (rd B y)) ∧ Below w3.heap.size w3 w') := Lib.hid fun wx hb => by
              refine (phasorref19_Touch.calls kt q b _ c l x y _ wx (Kd.C_below HR.out hb) HS.out ht).mono ?_
              rintro e w' ⟨rfl, h⟩
              exact ⟨rfl, CC.out _ (below_step hb h)⟩
            clear hy2 hy1 ht
            have hyl : y < l.length := by omega
            go_upto_region 16 with fail
            by_cases h5 : (rd_T46 l y).f0 = 4
            · rw [h5] at s4
              clear s0 s1 s5 s6 s7 s8 hbr
              go_quiet (fail)
              go_wp2_with fail
              go_roundg (l.length - (y + 1).toNat)
              case measure => have := Y2.out; omega
              case rel => exact ⟨y + 1, by omega, by omega, by have := Y2.out; omega, by go_num, (pw_below_drewN HBQ.out nq)⟩
            · have m1 : decide ((rd_T46 l y).f0 = 4) = false := decide_eq_false h5
              have m2 : ((rd_T46 l y).f0 == 4) = false := beq_eq_false_iff_ne.2 h5
              have m3 : ((rd_T46 l y).f0 != 4) = true := bne_iff_ne.2 h5
              replace F := Aside0.mk (F.out h5)
              clear CC hbr
              generalize tch (rd_T46 l x) (rd_T46 l y) = tv at TT F
              have hbq : Below w3.heap.size w3 wr.drew := HBQ.out.drew
              cases tv
              · clear F
                clear HBS
                refine start_ (n := 44) (S := (fun w' => w'.cell? ⟨g0, 0, none⟩ = some (.int .i64 q) ∧ w'.cell? ⟨g0, 1, none⟩ = some (.int .i64 b) ∧ w'.cell? ⟨g0, 2, none⟩ = some (.slice (some a0) l.length c) ∧ w'.cell? (a0.add (x.toNat * 6)) = some (.int .i64 (rd_T46 l x).f0) ∧ w'.cell? (a0.add (y.toNat * 6)) = some (.int .i64 (rd_T46 l y).f0) ∧ w'.cell? (a1.add x.toNat) = some (.int .i64 (rd E x)) ∧ w'.cell? (a1.add y.toNat) = some (.int .i64 (rd E y)) ∧ w'.cell? (a2.add x.toNat) = some (.int .i64 (rd B x)) ∧ w'.cell? (a2.add y.toNat) = some (.int .i64 (rd B y)) ∧ Below w3.heap.size w3 w')) (ds := []) (ordL 0) (by kernel_rfl) (by kernel_rfl) rfl ⟨s0, s1, s2, s3, s4, s5, s6, s7, s8, hbq⟩ (fun hHeld => ?_)
                refine with_tabW ordTab ordBits (fun HT_ HW_ => ?_)
                refine pure_ (i := 0) (N := some 104) (v := ?_) (a' := ?_) (ordL 1) rfl rfl (any_of HT_.out (by kernel_rfl)) (fun _ _ _ h => h) (Or.inl ⟨by rfl, ?_⟩) ?_ ?_
                rotate_left
                · intro w'
                  go_simp
                  with_reducible rfl
                rotate_left
                · simp only [Act.put, List.setIfInBounds_toArray, List.set_cons_zero, List.set_cons_succ, i64_w]
                  rfl
                refine take_ (i := 1) (N := some 105) (v := ?_) (a' := ?_) (ordL 2) rfl rfl (take_ofW HT_.out HW_.out (by kernel_rfl)) (fun _ _ _ h => h) (Or.inl ⟨by rfl, ?_⟩) hHeld ?_ ?_
                rotate_left
                · rintro w' ⟨s0, s1, s2, s3, s4, s5, s6, s7, s8, -⟩
                  go_simp
                  with_reducible rfl
                rotate_left
                · simp only [Act.put, List.setIfInBounds_toArray, List.set_cons_zero, List.set_cons_succ, i64_w]
                  rfl
                refine pure_ (i := 2) (N := some 106) (v := ?_) (a' := ?_) (ordL 3) rfl rfl (any_of HT_.out (by kernel_rfl)) (fun _ _ _ h => h) (Or.inl ⟨by rfl, ?_⟩) ?_ ?_
                rotate_left
                · intro w'
                  go_simp
                  with_reducible rfl
                rotate_left
                · simp only [Act.put, List.setIfInBounds_toArray, List.set_cons_zero, List.set_cons_succ, i64_w]
                  rfl
                refine pure_ (i := 3) (N := some 107) (v := ?_) (a' := ?_) (ordL 4) rfl rfl (any_of HT_.out (by kernel_rfl)) (fun _ _ _ h => h) (Or.inl ⟨by rfl, ?_⟩) ?_ ?_
                rotate_left
                · intro w'
                  go_simp
                  with_reducible rfl
                rotate_left
                · simp only [Act.put, List.setIfInBounds_toArray, List.set_cons_zero, List.set_cons_succ, i64_w]
                  rfl
                refine pure_ (i := 4) (N := some 108) (v := ?_) (a' := ?_) (ordL 5) rfl rfl (any_of HT_.out (by kernel_rfl)) (fun _ _ _ h => h) (Or.inl ⟨by rfl, ?_⟩) ?_ ?_
                rotate_left
                · intro w'
                  go_simp
                  with_reducible rfl
                rotate_left
                · simp only [Act.put, List.setIfInBounds_toArray, List.set_cons_zero, List.set_cons_succ, i64_w]
                  rfl
                refine take_ (i := 5) (N := some 109) (v := ?_) (a' := ?_) (ordL 6) rfl rfl (take_ofW HT_.out HW_.out (by kernel_rfl)) (fun _ _ _ h => h) (Or.inl ⟨by rfl, ?_⟩) hHeld ?_ ?_
                rotate_left
                · rintro w' ⟨s0, s1, s2, s3, s4, s5, s6, s7, s8, -⟩
                  go_simp
                  with_reducible rfl
                rotate_left
                · simp only [Act.put, List.setIfInBounds_toArray, List.set_cons_zero, List.set_cons_succ, i64_w]
                  rfl
                refine pure_ (i := 6) (N := some 110) (v := ?_) (a' := ?_) (ordL 7) rfl rfl (any_of HT_.out (by kernel_rfl)) (fun _ _ _ h => h) (Or.inl ⟨by rfl, ?_⟩) ?_ ?_
                rotate_left
                · intro w'
                  go_simp
                  with_reducible rfl
                rotate_left
                · simp only [Act.put, List.setIfInBounds_toArray, List.set_cons_zero, List.set_cons_succ, i64_w]
                  rfl
                refine pure_ (i := 7) (N := some 111) (v := ?_) (a' := ?_) (ordL 8) rfl rfl (any_of HT_.out (by kernel_rfl)) (fun _ _ _ h => h) (Or.inl ⟨by rfl, ?_⟩) ?_ ?_
                rotate_left
                · intro w'
                  go_simp
                  with_reducible rfl
                rotate_left
                · simp only [Act.put, List.setIfInBounds_toArray, List.set_cons_zero, List.set_cons_succ, i64_w]
                  rfl
                refine pure_ (i := 8) (N := some 112) (v := ?_) (a' := ?_) (ordL 9) rfl rfl (any_of HT_.out (by kernel_rfl)) (fun _ _ _ h => h) (Or.inl ⟨by rfl, ?_⟩) ?_ ?_
                rotate_left
                · intro w'
                  go_simp
                  with_reducible rfl
                rotate_left
                · simp only [Act.put, List.setIfInBounds_toArray, List.set_cons_zero, List.set_cons_succ, i64_w]
                  rfl
                refine take_ (i := 9) (N := some 113) (v := ?_) (a' := ?_) (ordL 10) rfl rfl (take_ofW HT_.out HW_.out (by kernel_rfl)) (fun _ _ _ h => h) (Or.inl ⟨by rfl, ?_⟩) hHeld ?_ ?_
                rotate_left
                · rintro w' ⟨s0, s1, s2, s3, s4, s5, s6, s7, s8, -⟩
                  go_simp
                  with_reducible rfl
                rotate_left
                · simp only [Act.put, List.setIfInBounds_toArray, List.set_cons_zero, List.set_cons_succ, i64_w]
                  rfl
                refine pure_ (i := 10) (N := some 114) (v := ?_) (a' := ?_) (ordL 11) rfl rfl (any_of HT_.out (by kernel_rfl)) (fun _ _ _ h => h) (Or.inl ⟨by rfl, ?_⟩) ?_ ?_
                rotate_left
                · intro w'
                  go_simp
                  with_reducible rfl
                rotate_left
                · simp only [Act.put, List.setIfInBounds_toArray, List.set_cons_zero, List.set_cons_succ, i64_w]
                  rfl
                refine pure_ (i := 11) (N := some 115) (v := ?_) (a' := ?_) (ordL 12) rfl rfl (any_of HT_.out (by kernel_rfl)) (fun _ _ _ h => h) (Or.inl ⟨by rfl, ?_⟩) ?_ ?_
                rotate_left
                · intro w'
                  go_simp
                  with_reducible rfl
                rotate_left
                · simp only [Act.put, List.setIfInBounds_toArray, List.set_cons_zero, List.set_cons_succ, i64_w]
                  rfl
                refine pure_ (i := 12) (N := some 116) (v := ?_) (a' := ?_) (ordL 13) rfl rfl (any_of HT_.out (by kernel_rfl)) (fun _ _ _ h => h) (Or.inl ⟨by rfl, ?_⟩) ?_ ?_
                rotate_left
                · intro w'
                  go_simp
                  with_reducible rfl
                rotate_left
                · simp only [Act.put, List.setIfInBounds_toArray, List.set_cons_zero, List.set_cons_succ, i64_w]
                  rfl
                refine take_ (i := 13) (N := some 117) (v := ?_) (a' := ?_) (ordL 14) rfl rfl (take_ofW HT_.out HW_.out (by kernel_rfl)) (fun _ _ _ h => h) (Or.inl ⟨by rfl, ?_⟩) hHeld ?_ ?_
                rotate_left
                · rintro w' ⟨s0, s1, s2, s3, s4, s5, s6, s7, s8, -⟩
                  go_simp
                  with_reducible rfl
                rotate_left
                · simp only [Act.put, List.setIfInBounds_toArray, List.set_cons_zero, List.set_cons_succ, i64_w]
                  rfl
                refine pure_ (i := 14) (N := some 118) (v := ?_) (a' := ?_) (ordL 15) rfl rfl (any_of HT_.out (by kernel_rfl)) (fun _ _ _ h => h) (Or.inl ⟨by rfl, ?_⟩) ?_ ?_
                rotate_left
                · intro w'
                  go_simp
                  with_reducible rfl
                rotate_left
                · simp only [Act.put, List.setIfInBounds_toArray, List.set_cons_zero, List.set_cons_succ, i64_w]
                  rfl
                refine pure_ (i := 15) (N := some 119) (v := ?_) (a' := ?_) (ordL 16) rfl rfl (any_of HT_.out (by kernel_rfl)) (fun _ _ _ h => h) (Or.inl ⟨by rfl, ?_⟩) ?_ ?_
                rotate_left
                · intro w'
                  go_simp
                  with_reducible rfl
                rotate_left
                · simp only [Act.put, List.setIfInBounds_toArray, List.set_cons_zero, List.set_cons_succ, i64_w]
                  rfl
                refine pure_ (i := 16) (N := some 120) (v := ?_) (a' := ?_) (ordL 17) rfl rfl (any_of HT_.out (by kernel_rfl)) (fun _ _ _ h => h) (Or.inl ⟨by rfl, ?_⟩) ?_ ?_
                rotate_left
                · intro w'
                  go_simp
                  with_reducible rfl
                rotate_left
                · simp only [Act.put, List.setIfInBounds_toArray, List.set_cons_zero, List.set_cons_succ, i64_w]
                  rfl
                refine take_ (i := 17) (N := some 121) (v := ?_) (a' := ?_) (ordL 18) rfl rfl (take_ofW HT_.out HW_.out (by kernel_rfl)) (fun _ _ _ h => h) (Or.inl ⟨by rfl, ?_⟩) hHeld ?_ ?_
                rotate_left
                · rintro w' ⟨s0, s1, s2, s3, s4, s5, s6, s7, s8, -⟩
                  go_simp
                  with_reducible rfl
                rotate_left
                · simp only [Act.put, List.setIfInBounds_toArray, List.set_cons_zero, List.set_cons_succ, i64_w]
                  rfl
                refine pure_ (i := 18) (N := some 122) (v := ?_) (a' := ?_) (ordL 19) rfl rfl (any_of HT_.out (by kernel_rfl)) (fun _ _ _ h => h) (Or.inl ⟨by rfl, ?_⟩) ?_ ?_
                rotate_left
                · intro w'
                  go_simp
                  with_reducible rfl
                rotate_left
                · simp only [Act.put, List.setIfInBounds_toArray, List.set_cons_zero, List.set_cons_succ, i64_w]
                  rfl
                refine pure_ (i := 19) (N := some 123) (v := ?_) (a' := ?_) (ordL 20) rfl rfl (any_of HT_.out (by kernel_rfl)) (fun _ _ _ h => h) (Or.inl ⟨by rfl, ?_⟩) ?_ ?_
                rotate_left
                · intro w'
                  go_simp
                  with_reducible rfl
                rotate_left
                · simp only [Act.put, List.setIfInBounds_toArray, List.set_cons_zero, List.set_cons_succ, i64_w]
                  rfl
                refine one_ (i := 20) (N := some 124) (ordL 21) rfl rfl (one_of HT_.out (by kernel_rfl)) (by decide) (fun K hK => ?_)
                refine goes_ Try.func26 (by kernel_rfl) rfl #[.agg #[.int .i64 q, .int .i64 b, .slice (some a0) l.length c], .int .i64 x, .int .i64 y] (by rfl) rfl rfl (by (try simp only [List.map_toArray, List.map_cons, List.map_nil]); first | done | rfl) ?_
                refine (TT.out _ hbq).mono ?_
                rintro e w5 ⟨rfl, r0, r1, r2, r3, r4, r5, r6, r7, r8, r9⟩
                refine ⟨_, rfl, ?_⟩
                refine hK.out _ _ ⟨r0, r1, r2, r3, r4, r5, r6, r7, r8, r9⟩ (fun hHeld => ?_)
                clear hK K
                refine norm_ (a' := ?_) ?_ ?_
                rotate_left
                · show Act.put _ (some 124) _ = _
                  simp only [Act.put, List.setIfInBounds_toArray, List.set_cons_zero, List.set_cons_succ, i64_w]
                  rfl
                refine pure_ (i := 21) (N := some 125) (v := ?_) (a' := ?_) (ordL 22) rfl rfl (any_of HT_.out (by kernel_rfl)) (fun _ _ _ h => h) (Or.inl ⟨by rfl, ?_⟩) ?_ ?_
                rotate_left
                · intro w'
                  go_simp
                  with_reducible rfl
                rotate_left
                · simp only [Act.put, List.setIfInBounds_toArray, List.set_cons_zero, List.set_cons_succ, i64_w]
                  rfl
                refine pure_ (i := 22) (N := some 126) (v := ?_) (a' := ?_) (ordL 23) rfl rfl (any_of HT_.out (by kernel_rfl)) (fun _ _ _ h => h) (Or.inl ⟨by rfl, ?_⟩) ?_ ?_
                rotate_left
                · intro w'
                  go_simp
                  with_reducible rfl
                rotate_left
                · simp only [Act.put, List.setIfInBounds_toArray, List.set_cons_zero, List.set_cons_succ, i64_w]
                  rfl
                refine pure_ (i := 23) (N := some 127) (v := undef) (a' := ?_) (ordL 24) rfl rfl (any_of HT_.out (by kernel_rfl)) (fun _ _ _ h => h) (Or.inr ⟨by rfl, rfl⟩) ?_ ?_
                rotate_left
                · simp only [Act.put, List.setIfInBounds_toArray, List.set_cons_zero, List.set_cons_succ, i64_w]
                  rfl
                refine pure_ (i := 24) (N := some 128) (v := undef) (a' := ?_) (ordL 25) rfl rfl (any_of HT_.out (by kernel_rfl)) (fun _ _ _ h => h) (Or.inr ⟨by rfl, rfl⟩) ?_ ?_
                rotate_left
                · simp only [Act.put, List.setIfInBounds_toArray, List.set_cons_zero, List.set_cons_succ, i64_w]
                  rfl
                refine pure_ (i := 25) (N := some 129) (v := undef) (a' := ?_) (ordL 26) rfl rfl (any_of HT_.out (by kernel_rfl)) (fun _ _ _ h => h) (Or.inr ⟨by rfl, rfl⟩) ?_ ?_
                rotate_left
                · simp only [Act.put, List.setIfInBounds_toArray, List.set_cons_zero, List.set_cons_succ, i64_w]
                  rfl
                refine pure_ (i := 26) (N := some 130) (v := undef) (a' := ?_) (ordL 27) rfl rfl (any_of HT_.out (by kernel_rfl)) (fun _ _ _ h => h) (Or.inr ⟨by rfl, rfl⟩) ?_ ?_
                rotate_left
                · simp only [Act.put, List.setIfInBounds_toArray, List.set_cons_zero, List.set_cons_succ, i64_w]
                  rfl
                refine pure_ (i := 27) (N := some 131) (v := undef) (a' := ?_) (ordL 28) rfl rfl (any_of HT_.out (by kernel_rfl)) (fun _ _ _ h => h) (Or.inr ⟨by rfl, rfl⟩) ?_ ?_
                rotate_left
                · simp only [Act.put, List.setIfInBounds_toArray, List.set_cons_zero, List.set_cons_succ, i64_w]
                  rfl
                refine pure_ (i := 28) (N := some 132) (v := undef) (a' := ?_) (ordL 29) rfl rfl (any_of HT_.out (by kernel_rfl)) (fun _ _ _ h => h) (Or.inr ⟨by rfl, rfl⟩) ?_ ?_
                rotate_left
                · simp only [Act.put, List.setIfInBounds_toArray, List.set_cons_zero, List.set_cons_succ, i64_w]
                  rfl
                refine pure_ (i := 29) (N := some 133) (v := undef) (a' := ?_) (ordL 30) rfl rfl (any_of HT_.out (by kernel_rfl)) (fun _ _ _ h => h) (Or.inr ⟨by rfl, rfl⟩) ?_ ?_
                rotate_left
                · simp only [Act.put, List.setIfInBounds_toArray, List.set_cons_zero, List.set_cons_succ, i64_w]
                  rfl
                refine pure_ (i := 30) (N := some 134) (v := undef) (a' := ?_) (ordL 31) rfl rfl (any_of HT_.out (by kernel_rfl)) (fun _ _ _ h => h) (Or.inr ⟨by rfl, rfl⟩) ?_ ?_
                rotate_left
                · simp only [Act.put, List.setIfInBounds_toArray, List.set_cons_zero, List.set_cons_succ, i64_w]
                  rfl
                refine pure_ (i := 31) (N := some 135) (v := undef) (a' := ?_) (ordL 32) rfl rfl (any_of HT_.out (by kernel_rfl)) (fun _ _ _ h => h) (Or.inr ⟨by rfl, rfl⟩) ?_ ?_
                rotate_left
                · simp only [Act.put, List.setIfInBounds_toArray, List.set_cons_zero, List.set_cons_succ, i64_w]
                  rfl
                refine pure_ (i := 32) (N := some 136) (v := undef) (a' := ?_) (ordL 33) rfl rfl (any_of HT_.out (by kernel_rfl)) (fun _ _ _ h => h) (Or.inr ⟨by rfl, rfl⟩) ?_ ?_
                rotate_left
                · simp only [Act.put, List.setIfInBounds_toArray, List.set_cons_zero, List.set_cons_succ, i64_w]
                  rfl
                refine pure_ (i := 33) (N := some 137) (v := undef) (a' := ?_) (ordL 34) rfl rfl (any_of HT_.out (by kernel_rfl)) (fun _ _ _ h => h) (Or.inr ⟨by rfl, rfl⟩) ?_ ?_
                rotate_left
                · simp only [Act.put, List.setIfInBounds_toArray, List.set_cons_zero, List.set_cons_succ, i64_w]
                  rfl
                refine pure_ (i := 34) (N := some 138) (v := undef) (a' := ?_) (ordL 35) rfl rfl (any_of HT_.out (by kernel_rfl)) (fun _ _ _ h => h) (Or.inr ⟨by rfl, rfl⟩) ?_ ?_
                rotate_left
                · simp only [Act.put, List.setIfInBounds_toArray, List.set_cons_zero, List.set_cons_succ, i64_w]
                  rfl
                refine pure_ (i := 35) (N := some 139) (v := undef) (a' := ?_) (ordL 36) rfl rfl (any_of HT_.out (by kernel_rfl)) (fun _ _ _ h => h) (Or.inr ⟨by rfl, rfl⟩) ?_ ?_
                rotate_left
                · simp only [Act.put, List.setIfInBounds_toArray, List.set_cons_zero, List.set_cons_succ, i64_w]
                  rfl
                refine pure_ (i := 36) (N := some 140) (v := undef) (a' := ?_) (ordL 37) rfl rfl (any_of HT_.out (by kernel_rfl)) (fun _ _ _ h => h) (Or.inr ⟨by rfl, rfl⟩) ?_ ?_
                rotate_left
                · simp only [Act.put, List.setIfInBounds_toArray, List.set_cons_zero, List.set_cons_succ, i64_w]
                  rfl
                refine pure_ (i := 37) (N := some 141) (v := undef) (a' := ?_) (ordL 38) rfl rfl (any_of HT_.out (by kernel_rfl)) (fun _ _ _ h => h) (Or.inr ⟨by rfl, rfl⟩) ?_ ?_
                rotate_left
                · simp only [Act.put, List.setIfInBounds_toArray, List.set_cons_zero, List.set_cons_succ, i64_w]
                  rfl
                refine pure_ (i := 38) (N := some 142) (v := undef) (a' := ?_) (ordL 39) rfl rfl (any_of HT_.out (by kernel_rfl)) (fun _ _ _ h => h) (Or.inr ⟨by rfl, rfl⟩) ?_ ?_
                rotate_left
                · simp only [Act.put, List.setIfInBounds_toArray, List.set_cons_zero, List.set_cons_succ, i64_w]
                  rfl
                refine pure_ (i := 39) (N := some 143) (v := undef) (a' := ?_) (ordL 40) rfl rfl (any_of HT_.out (by kernel_rfl)) (fun _ _ _ h => h) (Or.inr ⟨by rfl, rfl⟩) ?_ ?_
                rotate_left
                · simp only [Act.put, List.setIfInBounds_toArray, List.set_cons_zero, List.set_cons_succ, i64_w]
                  rfl
                refine pure_ (i := 40) (N := some 144) (v := undef) (a' := ?_) (ordL 41) rfl rfl (any_of HT_.out (by kernel_rfl)) (fun _ _ _ h => h) (Or.inr ⟨by rfl, rfl⟩) ?_ ?_
                rotate_left
                · simp only [Act.put, List.setIfInBounds_toArray, List.set_cons_zero, List.set_cons_succ, i64_w]
                  rfl
                refine pure_ (i := 41) (N := some 145) (v := undef) (a' := ?_) (ordL 42) rfl rfl (any_of HT_.out (by kernel_rfl)) (fun _ _ _ h => h) (Or.inr ⟨by rfl, rfl⟩) ?_ ?_
                rotate_left
                · simp only [Act.put, List.setIfInBounds_toArray, List.set_cons_zero, List.set_cons_succ, i64_w]
                  rfl
                refine pure_ (i := 42) (N := some 146) (v := undef) (a' := ?_) (ordL 43) rfl rfl (any_of HT_.out (by kernel_rfl)) (fun _ _ _ h => h) (Or.inr ⟨by rfl, rfl⟩) ?_ ?_
                rotate_left
                · simp only [Act.put, List.setIfInBounds_toArray, List.set_cons_zero, List.set_cons_succ, i64_w]
                  rfl
                refine pure_ (i := 43) (N := some 147) (v := ?_) (a' := ?_) (ordL 44) rfl rfl (any_of HT_.out (by kernel_rfl)) (fun _ _ _ h => h) (Or.inl ⟨by rfl, ?_⟩) ?_ ?_
                rotate_left
                · intro w'
                  go_simp
                  with_reducible rfl
                rotate_left
                · simp only [Act.put, List.setIfInBounds_toArray, List.set_cons_zero, List.set_cons_succ, i64_w]
                  rfl
                refine done_ (done_of HT_.out (by kernel_rfl)) ?_
                go_wp2_with fail
                go_roundg (l.length - (y + 1).toNat)
                case measure => have := Y2.out; omega
                case rel => exact ⟨y + 1, by omega, by omega, by have := Y2.out; omega, by go_num, r9⟩
              · obtain ⟨q1, q2⟩ := F.out rfl
                clear F
                go_region_held3 (fun w' => w'.cell? ⟨g0, 0, none⟩ = some (.int .i64 q) ∧ w'.cell? ⟨g0, 1, none⟩ = some (.int .i64 b) ∧ w'.cell? ⟨g0, 2, none⟩ = some (.slice (some a0) l.length c) ∧ w'.cell? (a0.add (x.toNat * 6)) = some (.int .i64 (rd_T46 l x).f0) ∧ w'.cell? (a0.add (y.toNat * 6)) = some (.int .i64 (rd_T46 l y).f0) ∧ w'.cell? (a1.add x.toNat) = some (.int .i64 (rd E x)) ∧ w'.cell? (a1.add y.toNat) = some (.int .i64 (rd E y)) ∧ w'.cell? (a2.add x.toNat) = some (.int .i64 (rd B x)) ∧ w'.cell? (a2.add y.toNat) = some (.int .i64 (rd B y)) ∧ Below w3.heap.size w3 w') (go_keep)
                  (first | (go_at_call 26; with_reducible (refine (TT.out _ (by assumption)).mono ?_); rintro e w5 ⟨rfl, r0, r1, r2, r3, r4, r5, r6, r7, r8, r9⟩))
                go_wp2_with fail
                go_roundg (l.length - (y + 1).toNat)
                case measure => have := Y2.out; omega
                case rel => exact ⟨y + 1, by omega, by omega, by have := Y2.out; omega, by go_num, r9⟩
          · obtain rfl : y = x := by omega
            have HBQ := Aside0.mk hbr
            clear hbr hy2 hy1
            go_wp2_with fail
            go_roundg (l.length - (y + 1).toNat)
            case measure => have := X2.out; omega
            case rel => exact ⟨y + 1, by omega, by omega, by have := X2.out; omega, by go_num, HBQ.out⟩
    · obtain rfl : x = l.length := by omega
      have HBR := Aside0.mk hbr
      have b1 := blk_below b0 hbr
      have y0 : wr.cell? ⟨g0, 0, none⟩ = some (.int .i64 q) := by rw [blk_cell b1]; rfl
      have y1 : wr.cell? ⟨g0, 1, none⟩ = some (.int .i64 b) := by rw [blk_cell b1]; rfl
      have y2 : wr.cell? ⟨g0, 2, none⟩ = some (.slice A l.length c) := by rw [blk_cell b1]; rfl
      clear hbr hx2 hx1
      go_upto_region 19 with (go_at_call 27; (with_reducible refine (layers_Sorted.calls k5 q b _ _ l _ _ _ _ _ (Kd.C_below HR.out HBR.out) HS.out E5.out).mono ?_); rintro e w5 ⟨v5, rfl, ho5, hb5⟩; obtain ⟨A5, c5, rfl⟩ := Kd.N_slice ho5; have HO := Aside0.mk ho5; clear ho5)
      have HS5 := Aside0.mk (Kd.N_reads' HO.out)
      have HC5 := Aside0.mk (Kd.C_alloc HS5.out.2.2 (.cells #[.int .i64 q, .int .i64 b, .slice A5 s.length c5] 24))
      have HB5 := Aside0.mk (below_alloc (below_step (below_step HB.out HBR.out) hb5) (.cells #[.int .i64 q, .int .i64 b, .slice A5 s.length c5] 24))
      clear hb5 HO
      go_wp2_with (first | (go_at_call 23; (with_reducible refine (layers_Depth.calls k6 q b _ _ s _ _ _ HC5.out HS5.out.2.1 E6.out).mono ?_); rintro e w6 ⟨rfl, hb6⟩) | (go_at_call 25; (with_reducible refine (heads_any _).mono ?_); rintro e w7 ⟨rfl, hb7⟩))
      go_ret
      exact ⟨rfl, below_step (below_step HB5.out hb6) hb7⟩
theorem order_walk (q b : Int) (A : Option Addr) (c : Nat) (l : List Opn) (w : World) (hC : Kd.C k46 w A l.length l) (hc : l.length ≤ c) (hw : WfL l) :
    Calls Try.prog 4 #[.agg #[.int .i64 q, .int .i64 b, .slice A l.length c]] w fun e w' => e = .returned (.bool true) ∧ Below w.heap.size w w' := by
  cases h : okc q b l
  · exact order_no q b A c l w hC hc hw h
  · exact order_yes q b A c l w hC hc hw (okc_facts h)
end Go.Proofs.Ytbelnopbggkdfaa.Q
end

section
namespace Go.Proofs.Ytbelnopbggkdfaa.Q
open Go.ChangeShapes Go.WideShapes Go.ChangeAt Go.Deep Go.Joins
open Go.RowKit Go.Proofs.YtbelnopbggkdfaaW.PrintWords Go.Proofs.YtbelnopbggkdfaaW.PrintLast Go.Proofs.YtbelnopbggkdfaaW.PrintMore
section
variable {H : Type} {enc : TypeId × Value → H} {W : World} {spare : Nat → Bool} {held : Bool}
theorem cells1 : Try.prog.cellsOf 3 = 1 := by kernel_rfl
theorem cells6 : Try.prog.cellsOf 46 = 6 := by kernel_rfl
theorem cells1k : Try.prog.cellsOf 44 = 1 := by kernel_rfl
theorem cells1o : Try.prog.cellsOf 43 = 1 := by kernel_rfl
theorem cells1s : Try.prog.cellsOf 37 = 1 := by kernel_rfl
/-- A row of whole numbers. -/
theorem open_intsC {fuel : Nat} {cs : List Value} {x : DataW H × List MemPlace} (h : DataW.trod enc Try.prog W 0 (fun _ => true) held fuel 37 cs = some x) :
    ∃ (A : Option Addr) (c : Nat) (zs : List Int), cs = [.slice A zs.length c] ∧ zs.length ≤ c ∧ Kd.C (Kd.int .i64) W A zs.length zs ∧ (∀ z ∈ zs, (Lit.int .i64 z).wf = true) := by
  rcases open_slice Try.underlying37 h with ⟨rfl, -⟩ | ⟨a, len, cap, m, n, D, Pl, rfl, -, hl, hm, hmm, -, hi⟩
  · exact ⟨none, 0, [], rfl, Nat.le_refl _, Kd.C_nil _ _, by simp⟩
  · rw [if_pos rfl] at hmm
    subst hmm
    rw [cells1] at hi
    have hz : ∀ i, i < m → ∃ z, W.cell? (a.add i) = some (.int .i64 z) ∧ (Lit.int .i64 z).wf = true := fun i hi' => by
      obtain ⟨cs', hc, ht⟩ := hi i hi'
      obtain ⟨z, rfl, -, hw⟩ := DataW.trod_int Try.underlying3 ht
      obtain ⟨-, -, hat⟩ := World.cells?_some hc
      have := hat 0 (by decide)
      rw [Go.Deep.add_add, Nat.mul_one] at this
      exact ⟨z, by simpa using this, hw⟩
    have hz2 : ∀ i : Nat, ∃ z, i < m → W.cell? (a.add i) = some (.int .i64 z) ∧ (Lit.int .i64 z).wf = true := fun i => by
      by_cases h : i < m
      · obtain ⟨z, hz'⟩ := hz i h
        exact ⟨z, fun _ => hz'⟩
      · exact ⟨0, fun h' => absurd h' h⟩
    let g : Nat → Int := fun i => (hz2 i).choose
    have hg : ∀ i, i < m → W.cell? (a.add i) = some (.int .i64 (g i)) ∧ (Lit.int .i64 (g i)).wf = true := fun i h => (hz2 i).choose_spec h
    have hlen : ((List.range len).map g).length = len := by simp
    refine ⟨some a, m, (List.range len).map g, by rw [hlen], by rw [hlen]; exact hl, ?_, ?_⟩
    · rw [hlen]
      refine Kd.C_of_reads (enc := Value.int .i64) (d := (0 : Int)) (h1 := fun _ => rfl) ⟨hlen, Nat.le_trans hl hm, fun _ => ⟨a, rfl, fun j hj => ?_⟩⟩
      rw [(hg j (by omega)).1]
      simp [List.getD_eq_getElem?_getD, List.getElem?_map, List.getElem?_range hj]
    · intro z hz
      obtain ⟨i, hi', rfl⟩ := List.mem_map.1 hz
      exact (hg i (by have := List.mem_range.1 hi'; omega)).2
set_option maxRecDepth 100000 in
/-- One operation. -/
theorem open_opC {fuel : Nat} {cs : List Value} {x : DataW H × List MemPlace} (h : DataW.trod enc Try.prog W 0 (fun _ => true) held fuel 46 cs = some x) :
    ∃ o : Opn, Kd.K k46 W o cs ∧ (Lit.int .i64 o.f1).wf = true ∧ cs.length = 6 := by
  obtain ⟨xs, n, -, -, hlen, hxl, hf⟩ := DataW.trod_struct Try.underlying46 h
  rw [cells6] at hlen
  match cs, hlen with
  | [u0, u1, u2, u3, u4, u5], _ =>
    have hx : ∀ i, i < 6 → ∃ y, xs[i]? = some y := fun i hi => ⟨xs[i]'(by rw [hxl]; exact hi), List.getElem?_eq_getElem _⟩
    obtain ⟨y0, hy0⟩ := hx 0 (by decide)
    have h0 := (hf 0 _ rfl).trans hy0
    obtain ⟨y1, hy1⟩ := hx 1 (by decide)
    have h1 := (hf 1 _ rfl).trans hy1
    obtain ⟨y2, hy2⟩ := hx 2 (by decide)
    have h2 := (hf 2 _ rfl).trans hy2
    obtain ⟨y3, hy3⟩ := hx 3 (by decide)
    have h3 := (hf 3 _ rfl).trans hy3
    obtain ⟨y4, hy4⟩ := hx 4 (by decide)
    have h4 := (hf 4 _ rfl).trans hy4
    obtain ⟨y5, hy5⟩ := hx 5 (by decide)
    have h5 := (hf 5 _ rfl).trans hy5
    simp only [List.getElem_toArray, List.getElem_cons_succ, List.getElem_cons_zero, cells1, cells1k, cells1o, cells1s, List.drop_zero, List.drop_succ_cons, List.take_succ_cons, List.take_zero] at h0 h1 h2 h3 h4 h5
    obtain ⟨z0, e0, -, w0⟩ := DataW.trod_int Try.underlying43 h0
    obtain ⟨z1, e1, -, w1⟩ := DataW.trod_int Try.underlying44 h1
    obtain ⟨A, c, zs, e2, hc, hC, -⟩ := open_intsC h2
    obtain ⟨z3, e3, -, w3⟩ := DataW.trod_int Try.underlying3 h3
    obtain ⟨z4, e4, -, w4⟩ := DataW.trod_int Try.underlying3 h4
    obtain ⟨z5, e5, -, w5⟩ := DataW.trod_int Try.underlying3 h5
    cases e0; cases e1; cases e2; cases e3; cases e4; cases e5
    exact ⟨⟨z0, z1, zs, z3, z4, z5⟩, k46_mk W _ hc hC, w1, rfl⟩
set_option maxRecDepth 100000 in
/-- A circuit. -/
theorem open_circC {b0 : Nat} {v : Value} {d : DataW H} {p : List MemPlace} (hv : Value.okWide Try.prog W .any b0 24 v) (h : DataW.Trod enc Try.prog W 0 (fun _ => true) held 24 v d p) :
    ∃ (q b : Int) (A : Option Addr) (c : Nat) (l : List Opn), v = .agg #[.int .i64 q, .int .i64 b, .slice A l.length c] ∧ l.length ≤ c ∧ Kd.C k46 W A l.length l ∧ WfL l := by
  obtain ⟨v0, v1, v2, y0, y1, y2, n, rfl, -, -, h0, h1, h2⟩ := open_agg3 Try.underlying24 (by kernel_rfl) (by kernel_rfl) hv h
  obtain ⟨q, e0, -, -⟩ := DataW.trod_int Try.underlying3 h0
  obtain ⟨b, e1, -, -⟩ := DataW.trod_int Try.underlying3 h1
  cases e0; cases e1
  rcases open_slice Try.underlying22 h2 with ⟨e2, -⟩ | ⟨a, len, cap, m, n', D, Pl, e2, -, hl, hm, hmm, -, hi⟩
  · cases e2
    exact ⟨q, b, none, 0, [], rfl, Nat.le_refl _, Kd.C_nil _ _, by simp [WfL]⟩
  · cases e2
    rw [if_pos rfl] at hmm
    subst hmm
    rw [cells6] at hi
    have hz2 : ∀ i : Nat, ∃ o : Opn, i < m → ∃ cs, Kd.K k46 W o cs ∧ (Lit.int .i64 o.f1).wf = true ∧ cs.length = 6 ∧ ∀ j u, cs[j]? = some u → W.cell? (a.add (i * 6 + j)) = some u := fun i => by
      by_cases h : i < m
      · obtain ⟨cs', hc, ht⟩ := hi i h
        obtain ⟨o, k1, k2, k3⟩ := open_opC ht
        obtain ⟨-, hcl, hat⟩ := World.cells?_some hc
        refine ⟨o, fun _ => ⟨cs', k1, k2, k3, fun j u hu => ?_⟩⟩
        have hj := (List.getElem?_eq_some_iff.1 hu).1
        rw [← Go.Deep.add_add, hat j (by omega), hu]
      · exact ⟨z46, fun h' => absurd h' h⟩
    let g : Nat → Opn := fun i => (hz2 i).choose
    have hg : ∀ i, i < m → ∃ cs, Kd.K k46 W (g i) cs ∧ (Lit.int .i64 (g i).f1).wf = true ∧ cs.length = 6 ∧ ∀ j u, cs[j]? = some u → W.cell? (a.add (i * 6 + j)) = some u := fun i h => (hz2 i).choose_spec h
    have hlen : ((List.range len).map g).length = len := by simp
    refine ⟨q, b, some a, m, (List.range len).map g, by rw [hlen], by rw [hlen]; exact hl, ?_, ?_⟩
    · rw [hlen]
      refine ⟨hlen, Nat.le_trans hl hm, fun _ => ⟨a, rfl, fun j p hj => ?_⟩⟩
      have hjl := (List.getElem?_eq_some_iff.1 hj).1
      rw [hlen] at hjl
      have : p = g j := by
        simp [List.getElem?_map, List.getElem?_range hjl] at hj
        exact hj.symm
      subst this
      obtain ⟨cs, k1, -, k3, k4⟩ := hg j (by omega)
      exact ⟨cs, k3, k1, fun i u hu => k4 i u hu⟩
    · intro o ho
      obtain ⟨i, hi', rfl⟩ := List.mem_map.1 ho
      obtain ⟨_, _, k2, _⟩ := hg i (by have := List.mem_range.1 hi'; omega)
      exact k2
end
end Go.Proofs.Ytbelnopbggkdfaa.Q
end
