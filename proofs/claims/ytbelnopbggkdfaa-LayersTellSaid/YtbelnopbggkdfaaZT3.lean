/- A part of the proof: texts of this claim laid together by a program of its own; what the proof does not use is struck. -/
import Derived.Test.YtbelnopbggkdfaaZT2
import Derived.Lib.Hide
import Derived.RegionTactic
import Derived.BigRegion
import Derived.Deep.Light
import Derived.Deep.LoopGhost
import Derived.Deep.QuietTactic
import Derived.BigQuiet
import Derived.Shelf.Abstract
import Derived.Deep.RegionWith
import Derived.StillTailTactics
import Derived.Deep.Upon
import Derived.Laws.EntriesVeiled
section
namespace Go.Proofs.Ytbelnopbggkdfaa.Q
open Go.RowKit Go.Proofs.YtbelnopbggkdfaaW.PrintWords Go.Proofs.YtbelnopbggkdfaaW.PrintLast Go.Proofs.YtbelnopbggkdfaaW.PrintMore
attribute [local go_sem] max2_int min2_int max_two min_two max_three min_three max_four min_four   -- for this text's walks alone
set_option linter.unusedVariables false
set_option linter.unusedSimpArgs false
def layers_Depth.f (k : Nat) (a0_0 : Int) (a0_1 : Int) (l0_2 : List (S46)) : Option (Int × Int) := (layers_Early.f k a0_0 a0_1 l0_2).bind fun bt495 => (if bt495.2 = 0 then (if (bt495.1.length : Int) = 0 then (some (0, bt495.2)) else ((slices_Max_int_int.f bt495.1).bind fun t499 => (some (t499, 0)))) else (some (0, bt495.2)))
set_option maxHeartbeats 8000000 in
set_option maxRecDepth 100000 in
theorem layers_Depth.calls (k : Nat) (a0_0 : Int) (a0_1 : Int) (A0_2 : Option Addr) (c0_2 : Nat) (l0_2 : List (S46)) (r1 : Int) (r2 : Int) (w : World) (hr0_2 : Kd.C k46 w A0_2 l0_2.length l0_2) (hc0_2 : l0_2.length ≤ c0_2) (h : layers_Depth.f k a0_0 a0_1 l0_2 = some (r1, r2)) :
    Calls Try.prog 23 #[.agg #[.int .i64 a0_0, .int .i64 a0_1, .slice A0_2 l0_2.length c0_2]] w fun e w' => e = .returned (.tuple #[.int .i64 r1, .int .i64 r2]) ∧ Below w.heap.size w w' := by
  have hu24 := Try.underlying24
  have HR0_2 := Aside0.mk hr0_2
  have HC0_2 := Aside0.mk hc0_2
  clear hr0_2 hc0_2
  have HB := Aside0.mk (Below.refl w.heap.size w)
  have H : ((layers_Early.f k a0_0 a0_1 l0_2).bind fun bt495 => (if bt495.2 = 0 then (if (bt495.1.length : Int) = 0 then (some (0, bt495.2)) else ((slices_Max_int_int.f bt495.1).bind fun t499 => (some (t499, 0)))) else (some (0, bt495.2)))) = some (r1, r2) := h
  clear h
  replace H := Option.bind_eq_some_iff.mp H
  obtain ⟨⟨t495, t498⟩, A20, H⟩ := H
  replace H : (if t498 = 0 then (if (t495.length : Int) = 0 then (some (0, t498)) else ((slices_Max_int_int.f t495).bind fun t499 => (some (t499, 0)))) else (some (0, t498))) = some (r1, r2) := H
  have A2 := Aside0.mk A20
  clear A20
  by_cases c3 : t498 = 0
  · rw [if_pos c3] at H
    have c3b0 : (t498 == 0) = true := beq_iff_eq.mpr c3
    have c3b1 : (t498 != 0) = false := bne_eq_false_iff_eq.mpr c3
    clear c3
    by_cases c4 : (t495.length : Int) = 0
    · rw [if_pos c4] at H
      have c4b0 : ((t495.length : Int) == 0) = true := beq_iff_eq.mpr c4
      have c4b1 : ((t495.length : Int) != 0) = false := bne_eq_false_iff_eq.mpr c4
      clear c4
      simp only [Option.some.injEq, Prod.mk.injEq] at H
      obtain ⟨rfl, rfl⟩ := H
      go_enter Try.func23, Try.ntmps23
      go_wp2_with (first | ((with_reducible refine gate_dst (N := 1) rfl ?_); (try (refine gate_guard (by rfl) ?_; dsimp only)); refine box_event ?hg (N := 1) ?hd (cs := #[.int .i64 a0_0, .int .i64 a0_1, .slice A0_2 l0_2.length c0_2]) (t := 24) ?hr ?_; (case hd => rfl); (case hg => rfl); (case hr => first | (go_simp; done) | (go_simp; rfl)); intro gb494 hg w5 hbox hb; have n0_ := Aside0.mk (below_step (by repeat (first | (with_reducible first | exact HB.out | apply below_alloc | apply pw_below_drewN | apply below_drew1) | exact HB.out)) hb); have n1_ := Aside0.mk (hbox); have n2_ := Aside0.mk ((by rw [hg]; exact (below_size (by repeat (first | (with_reducible first | exact HB.out | apply below_alloc | apply pw_below_drewN | apply below_drew1) | exact HB.out))) : w.heap.size ≤ gb494)); have n3_ := Aside0.mk ((by rw [hg]; exact (below_size (by repeat (first | (with_reducible first | exact HB.out | apply below_alloc | apply pw_below_drewN | apply below_drew1) | exact HB.out))) : w.heap.size ≤ gb494)); clear HB; have HB := n0_; have BK494 := n1_; have GW494 := n2_; have GE494 := n3_; clear n0_ n1_ n2_ n3_; clear hb hbox hg; have hcz6_0 : w5.cell? ⟨gb494, 0, none⟩ = some (.int .i64 a0_0) := (blk_cell BK494.out 0).trans rfl; have hcz6_1 : w5.cell? ⟨gb494, 1, none⟩ = some (.int .i64 a0_1) := (blk_cell BK494.out 1).trans rfl; have hcz6_2 : w5.cell? ⟨gb494, 2, none⟩ = some (.slice A0_2 l0_2.length c0_2) := (blk_cell BK494.out 2).trans rfl; have hfz6_0 := blk_frozen BK494.out 0; have hfz6_1 := blk_frozen BK494.out 1; have hfz6_2 := blk_frozen BK494.out 2) | ((with_reducible refine gate_callee (f := 21) rfl ?_); refine goesL_ (some 8) rfl rfl Try.func21 (by kernel_rfl) rfl #[.agg #[.int .i64 a0_0, .int .i64 a0_1, .slice A0_2 l0_2.length c0_2]] rfl (by (try simp only [List.map_toArray, List.map_cons, List.map_nil]); first | done | rfl | (simp only [List.length_drop, List.length_take]; rfl)) ?_; (with_reducible refine (layers_Early.calls k a0_0 a0_1 _ _ l0_2 t495 t498 _ ?side1 ?side2 A2.out).mono ?_); (case side1 => repeat (first | exact (Kd.C_below HR0_2.out HB.out) | (with_reducible refine Kd.C_alloc ?_ _) | (with_reducible refine Kd.C_drewN ?_ _) | (with_reducible refine Kd.C_drew ?_))); (case side2 => exact HC0_2.out); rintro e w7 ⟨v496, rfl, ho0, hb⟩; refine ⟨_, rfl, ?_⟩; have n0_ := Aside0.mk (Kd.R_lower ho0 (below_size (by repeat (first | (with_reducible first | exact HB.out | apply below_alloc | apply pw_below_drewN | apply below_drew1 | refine below_set ?_ GE494.out) | exact HB.out)))); have n1_ := Aside0.mk (blk_below (g := gb494) (o := .cells #[.int .i64 a0_0, .int .i64 a0_1, .slice A0_2 l0_2.length c0_2] 24 (0, 0)) (by (with_reducible repeat (first | refine blk_drewN ?_ _ | refine blk_drew ?_ | refine blk_alloc ?_ _)); exact BK494.out) hb); have n2_ := Aside0.mk (below_step (by repeat (first | (with_reducible first | exact HB.out | apply below_alloc | apply pw_below_drewN | apply below_drew1 | refine below_set ?_ GE494.out) | exact HB.out)) hb); clear BK494; clear HB; have HO497 := n0_; have BK494 := n1_; have HB := n2_; clear n0_ n1_ n2_; (try clear hb); (try clear hb2); (try clear hk); (try clear hi); (try clear ho0); obtain ⟨Ao8, co8, eo8⟩ := Kd.R_slice HO497.out; subst eo8))
      go_ret2
      exact ⟨by first | rfl | (simp [errW_none, errW_some] <;> rfl) | (simp [*, errW_none, errW_some] <;> rfl), by repeat (first | (with_reducible first | exact HB.out | apply below_alloc | apply pw_below_drewN | apply below_drew1 | refine below_set ?_ GE494.out) | exact HB.out)⟩
    · rw [if_neg c4] at H
      have c4b0 : ((t495.length : Int) == 0) = false := beq_eq_false_iff_ne.mpr c4
      have c4b1 : ((t495.length : Int) != 0) = true := bne_iff_ne.mpr c4
      have c4b2 : ¬ (t495 = []) := fun h_ => c4 (by rw [h_]; rfl)
      replace H := Option.bind_eq_some_iff.mp H
      obtain ⟨t499, A90, H⟩ := H
      replace H : (some (t499, 0)) = some (r1, r2) := H
      have A9 := Aside0.mk A90
      clear A90
      simp only [Option.some.injEq, Prod.mk.injEq] at H
      obtain ⟨rfl, rfl⟩ := H
      go_enter Try.func23, Try.ntmps23
      go_wp2_with (first | ((with_reducible refine gate_dst (N := 1) rfl ?_); (try (refine gate_guard (by rfl) ?_; dsimp only)); refine box_event ?hg (N := 1) ?hd (cs := #[.int .i64 a0_0, .int .i64 a0_1, .slice A0_2 l0_2.length c0_2]) (t := 24) ?hr ?_; (case hd => rfl); (case hg => rfl); (case hr => first | (go_simp; done) | (go_simp; rfl)); intro gb494 hg w10 hbox hb; have n0_ := Aside0.mk (below_step (by repeat (first | (with_reducible first | exact HB.out | apply below_alloc | apply pw_below_drewN | apply below_drew1) | exact HB.out)) hb); have n1_ := Aside0.mk (hbox); have n2_ := Aside0.mk ((by rw [hg]; exact (below_size (by repeat (first | (with_reducible first | exact HB.out | apply below_alloc | apply pw_below_drewN | apply below_drew1) | exact HB.out))) : w.heap.size ≤ gb494)); have n3_ := Aside0.mk ((by rw [hg]; exact (below_size (by repeat (first | (with_reducible first | exact HB.out | apply below_alloc | apply pw_below_drewN | apply below_drew1) | exact HB.out))) : w.heap.size ≤ gb494)); clear HB; have HB := n0_; have BK494 := n1_; have GW494 := n2_; have GE494 := n3_; clear n0_ n1_ n2_ n3_; clear hb hbox hg; have hcz11_0 : w10.cell? ⟨gb494, 0, none⟩ = some (.int .i64 a0_0) := (blk_cell BK494.out 0).trans rfl; have hcz11_1 : w10.cell? ⟨gb494, 1, none⟩ = some (.int .i64 a0_1) := (blk_cell BK494.out 1).trans rfl; have hcz11_2 : w10.cell? ⟨gb494, 2, none⟩ = some (.slice A0_2 l0_2.length c0_2) := (blk_cell BK494.out 2).trans rfl; have hfz11_0 := blk_frozen BK494.out 0; have hfz11_1 := blk_frozen BK494.out 1; have hfz11_2 := blk_frozen BK494.out 2) | ((with_reducible refine gate_callee (f := 21) rfl ?_); refine goesL_ (some 8) rfl rfl Try.func21 (by kernel_rfl) rfl #[.agg #[.int .i64 a0_0, .int .i64 a0_1, .slice A0_2 l0_2.length c0_2]] rfl (by (try simp only [List.map_toArray, List.map_cons, List.map_nil]); first | done | rfl | (simp only [List.length_drop, List.length_take]; rfl)) ?_; (with_reducible refine (layers_Early.calls k a0_0 a0_1 _ _ l0_2 t495 t498 _ ?side1 ?side2 A2.out).mono ?_); (case side1 => repeat (first | exact (Kd.C_below HR0_2.out HB.out) | (with_reducible refine Kd.C_alloc ?_ _) | (with_reducible refine Kd.C_drewN ?_ _) | (with_reducible refine Kd.C_drew ?_))); (case side2 => exact HC0_2.out); rintro e w12 ⟨v496, rfl, ho0, hb⟩; refine ⟨_, rfl, ?_⟩; have n0_ := Aside0.mk (Kd.R_lower ho0 (below_size (by repeat (first | (with_reducible first | exact HB.out | apply below_alloc | apply pw_below_drewN | apply below_drew1 | refine below_set ?_ GE494.out) | exact HB.out)))); have n1_ := Aside0.mk (blk_below (g := gb494) (o := .cells #[.int .i64 a0_0, .int .i64 a0_1, .slice A0_2 l0_2.length c0_2] 24 (0, 0)) (by (with_reducible repeat (first | refine blk_drewN ?_ _ | refine blk_drew ?_ | refine blk_alloc ?_ _)); exact BK494.out) hb); have n2_ := Aside0.mk (below_step (by repeat (first | (with_reducible first | exact HB.out | apply below_alloc | apply pw_below_drewN | apply below_drew1 | refine below_set ?_ GE494.out) | exact HB.out)) hb); clear BK494; clear HB; have HO497 := n0_; have BK494 := n1_; have HB := n2_; clear n0_ n1_ n2_; (try clear hb); (try clear hb2); (try clear hk); (try clear hi); (try clear ho0); obtain ⟨Ao13, co13, eo13⟩ := Kd.R_slice HO497.out; subst eo13) | ((with_reducible refine gate_callee (f := 63) rfl ?_); refine goesL_ (some 20) rfl rfl Try.func63 (by kernel_rfl) rfl #[.slice Ao13 t495.length co13] rfl (by (try simp only [List.map_toArray, List.map_cons, List.map_nil]); first | done | rfl | (simp only [List.length_drop, List.length_take]; rfl)) ?_; (with_reducible refine (slices_Max_int_int.calls _ _ t495 t499 _ ?side1 ?side2 A9.out).mono ?_); (case side1 => repeat (first | exact (Kd.R_reads' HO497.out).2.2 | (with_reducible refine Kd.C_alloc ?_ _) | (with_reducible refine Kd.C_drewN ?_ _) | (with_reducible refine Kd.C_drew ?_))); (case side2 => exact (Kd.R_reads' HO497.out).2.1); rintro e w14 ⟨rfl, hb⟩; refine ⟨_, rfl, ?_⟩; have n0_ := Aside0.mk (Kd.R_below (by (with_reducible repeat (first | apply Kd.R_alloc | apply Kd.R_drewN | apply Kd.R_drew)); exact HO497.out) hb); have n1_ := Aside0.mk (blk_below (g := gb494) (o := .cells #[.int .i64 a0_0, .int .i64 a0_1, .slice A0_2 l0_2.length c0_2] 24 (0, 0)) (by (with_reducible repeat (first | refine blk_drewN ?_ _ | refine blk_drew ?_ | refine blk_alloc ?_ _)); exact BK494.out) hb); have n2_ := Aside0.mk (below_step (by repeat (first | (with_reducible first | exact HB.out | apply below_alloc | apply pw_below_drewN | apply below_drew1 | refine below_set ?_ GE494.out) | exact HB.out)) hb); clear HO497; clear BK494; clear HB; have HO497 := n0_; have BK494 := n1_; have HB := n2_; clear n0_ n1_ n2_; (try clear hb); (try clear hb2); (try clear hk); (try clear hi)))
      go_ret2
      exact ⟨by first | rfl | (simp [errW_none, errW_some] <;> rfl) | (simp [*, errW_none, errW_some] <;> rfl), by repeat (first | (with_reducible first | exact HB.out | apply below_alloc | apply pw_below_drewN | apply below_drew1 | refine below_set ?_ GE494.out) | exact HB.out)⟩
  · rw [if_neg c3] at H
    have c3b0 : (t498 == 0) = false := beq_eq_false_iff_ne.mpr c3
    have c3b1 : (t498 != 0) = true := bne_iff_ne.mpr c3
    simp only [Option.some.injEq, Prod.mk.injEq] at H
    obtain ⟨rfl, rfl⟩ := H
    go_enter Try.func23, Try.ntmps23
    go_wp2_with (first | ((with_reducible refine gate_dst (N := 1) rfl ?_); (try (refine gate_guard (by rfl) ?_; dsimp only)); refine box_event ?hg (N := 1) ?hd (cs := #[.int .i64 a0_0, .int .i64 a0_1, .slice A0_2 l0_2.length c0_2]) (t := 24) ?hr ?_; (case hd => rfl); (case hg => rfl); (case hr => first | (go_simp; done) | (go_simp; rfl)); intro gb494 hg w15 hbox hb; have n0_ := Aside0.mk (below_step (by repeat (first | (with_reducible first | exact HB.out | apply below_alloc | apply pw_below_drewN | apply below_drew1) | exact HB.out)) hb); have n1_ := Aside0.mk (hbox); have n2_ := Aside0.mk ((by rw [hg]; exact (below_size (by repeat (first | (with_reducible first | exact HB.out | apply below_alloc | apply pw_below_drewN | apply below_drew1) | exact HB.out))) : w.heap.size ≤ gb494)); have n3_ := Aside0.mk ((by rw [hg]; exact (below_size (by repeat (first | (with_reducible first | exact HB.out | apply below_alloc | apply pw_below_drewN | apply below_drew1) | exact HB.out))) : w.heap.size ≤ gb494)); clear HB; have HB := n0_; have BK494 := n1_; have GW494 := n2_; have GE494 := n3_; clear n0_ n1_ n2_ n3_; clear hb hbox hg; have hcz16_0 : w15.cell? ⟨gb494, 0, none⟩ = some (.int .i64 a0_0) := (blk_cell BK494.out 0).trans rfl; have hcz16_1 : w15.cell? ⟨gb494, 1, none⟩ = some (.int .i64 a0_1) := (blk_cell BK494.out 1).trans rfl; have hcz16_2 : w15.cell? ⟨gb494, 2, none⟩ = some (.slice A0_2 l0_2.length c0_2) := (blk_cell BK494.out 2).trans rfl; have hfz16_0 := blk_frozen BK494.out 0; have hfz16_1 := blk_frozen BK494.out 1; have hfz16_2 := blk_frozen BK494.out 2) | ((with_reducible refine gate_callee (f := 21) rfl ?_); refine goesL_ (some 8) rfl rfl Try.func21 (by kernel_rfl) rfl #[.agg #[.int .i64 a0_0, .int .i64 a0_1, .slice A0_2 l0_2.length c0_2]] rfl (by (try simp only [List.map_toArray, List.map_cons, List.map_nil]); first | done | rfl | (simp only [List.length_drop, List.length_take]; rfl)) ?_; (with_reducible refine (layers_Early.calls k a0_0 a0_1 _ _ l0_2 t495 t498 _ ?side1 ?side2 A2.out).mono ?_); (case side1 => repeat (first | exact (Kd.C_below HR0_2.out HB.out) | (with_reducible refine Kd.C_alloc ?_ _) | (with_reducible refine Kd.C_drewN ?_ _) | (with_reducible refine Kd.C_drew ?_))); (case side2 => exact HC0_2.out); rintro e w17 ⟨v496, rfl, ho0, hb⟩; refine ⟨_, rfl, ?_⟩; have n0_ := Aside0.mk (Kd.R_lower ho0 (below_size (by repeat (first | (with_reducible first | exact HB.out | apply below_alloc | apply pw_below_drewN | apply below_drew1 | refine below_set ?_ GE494.out) | exact HB.out)))); have n1_ := Aside0.mk (blk_below (g := gb494) (o := .cells #[.int .i64 a0_0, .int .i64 a0_1, .slice A0_2 l0_2.length c0_2] 24 (0, 0)) (by (with_reducible repeat (first | refine blk_drewN ?_ _ | refine blk_drew ?_ | refine blk_alloc ?_ _)); exact BK494.out) hb); have n2_ := Aside0.mk (below_step (by repeat (first | (with_reducible first | exact HB.out | apply below_alloc | apply pw_below_drewN | apply below_drew1 | refine below_set ?_ GE494.out) | exact HB.out)) hb); clear BK494; clear HB; have HO497 := n0_; have BK494 := n1_; have HB := n2_; clear n0_ n1_ n2_; (try clear hb); (try clear hb2); (try clear hk); (try clear hi); (try clear ho0)))
    go_ret2
    exact ⟨by first | rfl | (simp [errW_none, errW_some] <;> rfl) | (simp [*, errW_none, errW_some] <;> rfl), by repeat (first | (with_reducible first | exact HB.out | apply below_alloc | apply pw_below_drewN | apply below_drew1 | refine below_set ?_ GE494.out) | exact HB.out)⟩
end Go.Proofs.Ytbelnopbggkdfaa.Q
end

section
namespace Go.Proofs.Ytbelnopbggkdfaa.Q
open Go.RowKit Go.Proofs.YtbelnopbggkdfaaW.PrintWords Go.Proofs.YtbelnopbggkdfaaW.PrintLast Go.Proofs.YtbelnopbggkdfaaW.PrintMore
attribute [local go_sem] max2_int min2_int max_two min_two max_three min_three max_four min_four   -- for this text's walks alone
set_option linter.unusedVariables false
set_option linter.unusedSimpArgs false
/-- The least of some numbers of a row, and of another one. -/
def minL (L : List Int) (ws : List Int) (m : Int) : Int := ws.foldl (fun m x => mn m (rd L x)) m
theorem minL_snoc (L ws : List Int) (x m : Int) : minL L (ws ++ [x]) m = mn (minL L ws m) (rd L x) := by simp [minL]
def late_go (d : Int) : List S46 → List Int → Option (List Int)
  | [], _ => some []
  | o :: os, L => (layers_wires.f o.f0 o.f1 o.f2 o.f3 o.f4 o.f5).bind fun ws =>
    if wireOk ws = true then (late_go d os (setL L ws (if o.f0 = 4 then minL L ws d else wrap64 (minL L ws d - 1)))).bind fun r => some (minL L ws d :: r) else none
def layers_Late.f (k : Nat) (a0_0 : Int) (a0_1 : Int) (l0_2 : List S46) : Option (List Int × Int) :=
  (layers_Depth.f k a0_0 a0_1 l0_2).bind fun t => if t.2 = 0 then (if l0_2.length < 2199023255552 then (late_go t.1 l0_2.reverse (List.replicate 128 t.1)).bind fun r => some (r.reverse, 0) else none) else some ([], t.2)
theorem fill_set {q : Nat} {d : Int} (h : q < 128) : (List.replicate q d ++ List.replicate (128 - q) (0 : Int)).set q d = List.replicate (q + 1) d ++ List.replicate (128 - (q + 1)) (0 : Int) := by
  rw [List.set_append_right _ _ (by simp), List.length_replicate, Nat.sub_self, show 128 - q = (128 - (q + 1)) + 1 by omega, List.replicate_succ, List.set_cons_zero, List.replicate_succ']
  simp
theorem back_set {n p : Nat} {done : List Int} {m : Int} (h : p < n) : (List.replicate (n - p) (0 : Int) ++ done).set (n - 1 - p) m = List.replicate (n - (p + 1)) (0 : Int) ++ m :: done := by
  rw [List.set_append_left _ _ (by simp; omega), show n - p = (n - (p + 1)) + 1 by omega, List.replicate_succ', List.set_append_right _ _ (by simp; omega)]
  rw [show n - 1 - p - (List.replicate (n - (p + 1)) (0 : Int)).length = 0 by simp; omega]
  simp
theorem back_at {α : Type} {l : List α} {n p : Nat} (hn : l.length = n) (h : p < n) : ∃ h1 h2, l.reverse[p]'h1 = l[n - 1 - p]'h2 := by
  refine ⟨by simp; omega, by omega, ?_⟩
  rw [List.getElem_reverse]
  congr 1
  omega
set_option maxHeartbeats 8000000 in
set_option maxRecDepth 100000 in
theorem layers_Late.calls (k : Nat) (a0_0 : Int) (a0_1 : Int) (A0_2 : Option Addr) (c0_2 : Nat) (l0_2 : List S46) (r1 : List Int) (r2 : Int) (w : World) (hr0_2 : Kd.C k46 w A0_2 l0_2.length l0_2) (hc0_2 : l0_2.length ≤ c0_2) (h : layers_Late.f k a0_0 a0_1 l0_2 = some (r1, r2)) :
    Calls Try.prog 22 #[.agg #[.int .i64 a0_0, .int .i64 a0_1, .slice A0_2 l0_2.length c0_2]] w fun e w' => ∃ v0_ : Value, e = .returned (.tuple #[v0_, .int .i64 r2]) ∧ Kd.R (Kd.int .i64) 3 w' w.heap.size (fun _ => True) v0_ r1 ∧ Below w.heap.size w w' := by
  have hu24 := Try.underlying24
  have hu46 := Try.underlying46
  unfold layers_Late.f at h
  obtain ⟨⟨d, e0⟩, hd, h2⟩ := Option.bind_eq_some_iff.1 h
  simp only at h2
  clear h
  have HD := Aside0.mk hd
  have HC := Aside0.mk hc0_2
  have HR := Aside0.mk hr0_2
  clear hd hr0_2 hc0_2
  split at h2
  case isFalse =>
    rename_i hne
    simp only [Option.some.injEq, Prod.mk.injEq] at h2
    obtain ⟨rfl, rfl⟩ := h2
    have hne' : (e0 != 0) = true := by simpa using hne
    clear hne
    go_enter Try.func22, Try.ntmps22
    go_wp2_with (go_at_call 23; (with_reducible refine (layers_Depth.calls k a0_0 a0_1 _ _ l0_2 d e0 _ (Kd.C_alloc HR.out _) HC.out HD.out).mono ?_); rintro e w1 ⟨rfl, hb1⟩)
    go_ret2
    exact ⟨_, rfl, Kd.R_nil _ _ _ _ _, below_step (below_alloc (Below.refl _ _) _) hb1⟩
  rename_i he
  obtain rfl : e0 = 0 := he
  split at h2
  case isFalse => cases h2
  rename_i hlen
  obtain ⟨res, hres, h3⟩ := Option.bind_eq_some_iff.1 h2
  simp only [Option.some.injEq, Prod.mk.injEq] at h3
  obtain ⟨rfl, rfl⟩ := h3
  have H := Aside0.mk hres
  have LM := Aside0.mk hlen
  clear h2 hres hlen
  go_enter Try.func22, Try.ntmps22
  go_upto_region 2 with (go_at_call 23; (with_reducible refine (layers_Depth.calls k a0_0 a0_1 _ _ l0_2 d 0 _ (Kd.C_alloc HR.out _) HC.out HD.out).mono ?_); rintro e w1 ⟨rfl, hb1⟩)
  have b1 := blk_below (blk_new w (.cells #[.int .i64 a0_0, .int .i64 a0_1, .slice A0_2 l0_2.length c0_2] 24)) hb1
  have hb := below_step (below_alloc (Below.refl _ w) (.cells #[.int .i64 a0_0, .int .i64 a0_1, .slice A0_2 l0_2.length c0_2] 24)) hb1
  clear hb1
  obtain ⟨g1, hg1⟩ : ∃ g, g = w.heap.size := ⟨_, rfl⟩
  rw [← hg1] at b1
  have n1 : w.heap.size ≤ g1 := by omega
  rw [← hg1]
  clear hg1
  generalize hn : l0_2.length = n at *
  have hn64 : (n : Int) ≤ 2199023255552 := by have := LM.out; omega
  have HN := Aside0.mk hn
  have HB := Aside0.mk hb
  have B1 := Aside0.mk b1
  have N1 := Aside0.mk n1
  have f2c : w1.cell? ⟨g1, 2, none⟩ = some (.slice A0_2 n c0_2) := (blk_cell b1 2).trans rfl
  clear hn hb b1 n1
  go_upto_region 5 with ((with_reducible refine gate_dst (N := 27) rfl ?_); refine Kd.R_make (Kd.int .i64) _ 3 rfl (N := 27) rfl 37 _ _ rfl (n : Int) rfl rfl Try.underlying37 (.int .i64 0) 8 info3 rfl (by decide) (by omega) 0 (ok := fun _ => True) (okp := fun _ => True) rfl (fun _ hk => hk) trivial (by omega) (by rw [Int.toNat_natCast]; omega) (Below.refl _ _) (Nat.le_refl _) ?_; intro v27 w2 ho hb hg hnew; clear hg hnew f2c)
  go_upto_region 6 with (fail)
  obtain ⟨g3, hg3⟩ : ∃ g, g = w2.heap.size := ⟨_, rfl⟩
  have hs : EarlyS w (w2.alloc (.cells Try.zeroCells75 75)) g1 g3 #[.int .i64 a0_0, .int .i64 a0_1, .slice A0_2 n c0_2] (List.replicate 128 0) v27 (List.replicate n 0) := by
    have h2 := below_step HB.out hb
    have n3 := h2.size
    subst hg3
    exact ⟨below_alloc h2 _, blk_alloc (blk_below B1.out hb) _, by
      have := blk_new w2 (.cells Try.zeroCells75 75)
      rw [this]
      rfl, by
      have := Kd.R_alloc (Kd.R_lower ho HB.out.size) (.cells Try.zeroCells75 75)
      rw [Int.toNat_natCast] at this
      exact this, N1.out, n3⟩
  rw [← hg3]
  generalize w2.alloc (.cells Try.zeroCells75 75) = W0 at hs ⊢
  have HS := Aside0.mk hs
  clear hs hg3 ho hb HB B1 N1 HD
  go_wp2
  go_loopw [8, 28] (fun _ v28 wr => ∃ q : Nat, q ≤ 128 ∧ v28 = .int .i64 q ∧ Aside0 (EarlyS w wr g1 g3 #[.int .i64 a0_0, .int .i64 a0_1, .slice A0_2 n c0_2] (List.replicate q d ++ List.replicate (128 - q) 0) v27 (List.replicate n 0))) (fun _ i _ => 128 - (intOf i).toNat)
  case atStart => exact ⟨0, by omega, rfl, HS⟩
  case round =>
    clear HS
    obtain ⟨q, hq, rfl, HS⟩ := hrel
    by_cases hqt : q < 128
    · have hqi : (q : Int) < 128 := by omega
      have hfr : wr.frozen? ⟨g3, q, none⟩ = false := blk_frozen HS.out.b3 _
      have hcc : wr.cell? ⟨g3, q, none⟩ = some (.int .i64 ((List.replicate q d ++ List.replicate (128 - q) 0).getD q 0)) := by
        rw [blk_cell HS.out.b3]
        rw [List.getElem?_toArray, List.getElem?_map, List.getElem?_eq_getElem (by simp; omega)]
        simp [List.getD_eq_getElem?_getD, List.getElem?_eq_getElem (show q < (List.replicate q d ++ List.replicate (128 - q) (0 : Int)).length by simp; omega)]
      generalize (List.replicate q d ++ List.replicate (128 - q) 0).getD q 0 = x at hcc
      go_wp2
      go_roundw
      case rel => exact ⟨q + 1, by omega, by go_num, ⟨by
        have := HS.out.put q d
        rw [fill_set hqt] at this
        exact this⟩⟩
      case measure => simp [intOf]; omega
    · obtain rfl : q = 128 := by omega
      simp only [Nat.sub_self, List.replicate_zero, List.append_nil] at HS
      rw [show ((128 : Nat) : Int) = 128 from rfl]
      have f2c : wr.cell? ⟨g1, 2, none⟩ = some (.slice A0_2 n c0_2) := (blk_cell HS.out.b1 2).trans rfl
      go_wp2
      clear f2c
      go_loopw [9, 10, 11, 13, 15] (fun v9 _ _ _ _ wr => ∃ (p : Nat) (L done rest : List Int), p ≤ n ∧ v9 = .int .i64 ((n : Int) - 1 - p) ∧ Aside0 (late_go d (l0_2.reverse.drop p) L = some rest) ∧ Aside0 (done ++ rest = res) ∧ Aside0 (L.length = 128) ∧ Aside0 (done.length = p) ∧ Aside0 (EarlyS w wr g1 g3 #[.int .i64 a0_0, .int .i64 a0_1, .slice A0_2 n c0_2] L v27 (List.replicate (n - p) 0 ++ done.reverse))) (fun i _ _ _ _ _ => (intOf i + 1).toNat)
      case atStart => exact ⟨0, _, [], res, Nat.zero_le _, by simp, H, ⟨rfl⟩, ⟨by simp⟩, ⟨rfl⟩, ⟨by simpa using HS.out⟩⟩
      case round =>
        clear HS H
        obtain ⟨p, L, done, rest, hp, rfl, H, HO, HL, HJ, HS⟩ := hrel
        by_cases hlt : p < n
        · obtain ⟨hr1, hr2, hrv⟩ := back_at HN.out hlt
          obtain ⟨ad, A2, c2, rfl, x0, x1, x2, x3, x4, x5, hl2, hi2⟩ := at_T46 (by rw [HN.out]; exact HR.out : Kd.C k46 w A0_2 l0_2.length l0_2) ((n : Int) - 1 - p) (by omega) (by rw [HN.out]; omega)
          simp only [show ((n : Int) - 1 - p).toNat = n - 1 - p by omega] at x0 x1 x2 x3 x4 x5
          have hb := HS.out.hb
          replace x0 := (hb.cell (World.block_lt_of_cell? w _ x0)).trans x0
          replace x1 := (hb.cell (World.block_lt_of_cell? w _ x1)).trans x1
          replace x2 := (hb.cell (World.block_lt_of_cell? w _ x2)).trans x2
          replace x3 := (hb.cell (World.block_lt_of_cell? w _ x3)).trans x3
          replace x4 := (hb.cell (World.block_lt_of_cell? w _ x4)).trans x4
          replace x5 := (hb.cell (World.block_lt_of_cell? w _ x5)).trans x5
          have hO : rd_T46 l0_2 ((n : Int) - 1 - p) = l0_2.reverse[p]'hr1 := by
            rw [hrv]
            have : ((n : Int) - 1 - p).toNat = n - 1 - p := by omega
            simp [rd_T46, this, List.getD_eq_getElem?_getD, List.getElem?_eq_getElem hr2]
          have H2 := H.out
          rw [List.drop_eq_getElem_cons hr1, ← hO] at H2
          clear hO hrv
          generalize rd_T46 l0_2 ((n : Int) - 1 - p) = o at *
          simp only [late_go] at H2
          obtain ⟨ws, hws, H3⟩ := Option.bind_eq_some_iff.1 H2
          clear H2 H
          split at H3
          case isFalse => cases H3
          rename_i hwo
          obtain ⟨rest', hrest, H4⟩ := Option.bind_eq_some_iff.1 H3
          obtain rfl := Option.some.inj H4
          have HW := Aside0.mk hws
          have HWO := Aside0.mk hwo
          have HL2 := Aside0.mk hl2
          have HI2 := Aside0.mk hi2
          have HRE := Aside0.mk hrest
          have hi0 : decide ((p : Int) ≤ (n : Int) - 1) = true := by simp; omega
          have hi1 : (0 : Int) ≤ (n : Int) - 1 - p := by omega
          have hi3 : (n : Int) - 1 - p < (n : Int) := by omega
          have f2d : wr.cell? ⟨g1, 2, none⟩ = some (.slice (some ad) n c0_2) := (blk_cell HS.out.b1 2).trans rfl
          clear hws hwo hl2 hi2 hrest H3 H4 hb
          go_upto_region 15 with (fail)
          have hs1 := HS.out.below (below_alloc (Below.refl _ wr) (.cells #[.int .i64 o.f0, .int .i64 o.f1, .slice A2 o.f2.length c2, .int .i64 o.f3, .int .i64 o.f4, .int .i64 o.f5] 46))
          have b6 := blk_new wr (.cells #[.int .i64 o.f0, .int .i64 o.f1, .slice A2 o.f2.length c2, .int .i64 o.f3, .int .i64 o.f4, .int .i64 o.f5] 46)
          obtain ⟨g6, hg6⟩ : ∃ g, g = wr.heap.size := ⟨_, rfl⟩
          rw [← hg6] at b6
          rw [← hg6]
          generalize wr.alloc _ = W1 at hs1 b6 ⊢
          have HB6 := Aside0.mk b6
          have HS1 := Aside0.mk hs1
          clear x0 x1 x2 x3 x4 x5 hs1 b6 hg6 HS f2d
          have f0c : W1.cell? ⟨g6, 0, none⟩ = some (.int .i64 o.f0) := (blk_cell HB6.out 0).trans rfl
          have f1c : W1.cell? ⟨g6, 1, none⟩ = some (.int .i64 o.f1) := (blk_cell HB6.out 1).trans rfl
          have f2c : W1.cell? ⟨g6, 2, none⟩ = some (.slice A2 o.f2.length c2) := (blk_cell HB6.out 2).trans rfl
          have f3c : W1.cell? ⟨g6, 3, none⟩ = some (.int .i64 o.f3) := (blk_cell HB6.out 3).trans rfl
          have f4c : W1.cell? ⟨g6, 4, none⟩ = some (.int .i64 o.f4) := (blk_cell HB6.out 4).trans rfl
          have f5c : W1.cell? ⟨g6, 5, none⟩ = some (.int .i64 o.f5) := (blk_cell HB6.out 5).trans rfl
          go_wp2_with (go_at_call 62; (with_reducible refine (layers_wires.calls o.f0 o.f1 _ _ o.f2 o.f3 o.f4 o.f5 ws _ (Kd.C_below HI2.out HS1.out.hb) HL2.out HW.out).mono ?_); clear f0c f1c f2c f3c f4c f5c; rintro e W2 ⟨v20, rfl, hv20, hb2⟩; obtain ⟨A20, c20, rfl, hl20, hi20⟩ := Kd.R_reads hv20)
          have HS2 := Aside0.mk (HS1.out.below hb2)
          have HB62 := Aside0.mk (blk_below HB6.out hb2)
          have HI20 := Aside0.mk (Kd.reads_of_C (enc := Value.int .i64) (d := (0 : Int)) (h1 := fun _ => rfl) hi20)
          have hlw : (ws.length : Int) ≤ 9223372036854775807 := by have := hi20.2.1; omega
          clear hb2 hv20 hi20 HS1 HB6 hl20
          go_loop [11, 13, 52] (fun v11 _ v52 => ∃ q : Nat, q ≤ ws.length ∧ v52 = .int .i64 q ∧ v11 = .int .i64 (minL L (ws.take q) d)) (fun _ _ i => ws.length - (intOf i).toNat)
          case atStart => exact ⟨0, Nat.zero_le _, rfl, rfl⟩
          case round =>
            obtain ⟨q, hq, rfl, rfl⟩ := hrel
            by_cases hqt : q < ws.length
            · obtain ⟨ad2, rfl, hcell0⟩ := HI20.out.2.2 (by omega)
              have hcell := hcell0 q hqt
              rw [show ws.getD q 0 = rd ws q by simp [rd]] at hcell
              have hx : 0 ≤ rd ws q ∧ rd ws q < 128 := by
                have := List.all_eq_true.1 HWO.out (ws[q]'hqt) (List.getElem_mem _)
                simp only [Bool.and_eq_true, decide_eq_true_eq] at this
                simpa [rd, List.getD_eq_getElem?_getD, List.getElem?_eq_getElem hqt] using this
              have hs := minL_snoc L (ws.take q) (rd ws q) d
              rw [← take_snoc_rd ws q hqt] at hs
              generalize rd ws q = x at hcell hx hs
              obtain ⟨hx0, hx1⟩ := hx
              have harr : W2.cell? ⟨g3, x.toNat, none⟩ = some (.int .i64 (rd L x)) := by
                rw [blk_cell HS2.out.b3]
                simp [rd, List.getD_eq_getElem?_getD, List.getElem?_eq_getElem (show x.toNat < L.length by rw [HL.out]; omega)]
              have HSN := Aside0.mk hs
              clear hcell0 hs
              go_wp2
              go_round
              case rel => exact ⟨q + 1, by omega, by go_num, by rw [HSN.out]; rfl⟩
              case measure => simp [intOf]; omega
            · obtain rfl : q = ws.length := by omega
              rw [List.take_length] at *
              clear HI20
              generalize minL L ws d = m0 at *
              obtain ⟨gr, cr, hv, _, _, cells, hcells⟩ := Kd.R_form HS2.out.ho (by simp; omega)
              have hln : (List.replicate (n - p) 0 ++ done.reverse).length = n := by simp [HJ.out]; omega
              rw [hln] at hv
              subst hv
              have hput := Kd.R_putg HS2.out.ho ((n : Int) - 1 - p) m0
              rw [show ((n : Int) - 1 - p).toNat = n - 1 - p by omega, back_set hlt] at hput
              have HS3 := Aside0.mk (HS2.out.grown (v' := .slice (some ⟨gr, 0, none⟩) n cr) (by simpa [Value.ownBlock] using hput.2) (below_set HS2.out.hb (by
                obtain ⟨inner, ho⟩ := Kd.R_own HS2.out.ho
                exact own_base ho gr (by simp [Value.ownBlock]))) hput.1)
              have hce := Kd.R_celln (0 : Int) HS2.out.ho ((n : Int) - 1 - p) (by omega) (by omega)
              rw [show ((n : Int) - 1 - p).toNat = n - 1 - p by omega] at hce
              obtain ⟨hce1, hce2⟩ := hce
              generalize rdOf (0 : Int) (List.replicate (n - p) 0 ++ done.reverse) ((n : Int) - 1 - p) = y at hce1
              have hne6 : g6 ≠ gr := by
                rintro rfl
                have := HB62.out.symm.trans hcells
                injection this with h1
                injection h1 with _ h2
                exact absurd h2 (by decide)
              have HB63 := Aside0.mk (blk_far (p := ⟨gr, n - 1 - p, none⟩) HB62.out hne6 (.int .i64 m0))
              clear hput hcells hln hne6 HS2 HB62
              go_upto_region 21 with (fail)
              generalize W2.setCell _ _ = W4 at HS3 HB63 ⊢
              have HS4 := HS3
              clear HS3 hce1 hce2
              have f0c : W4.cell? ⟨g6, 0, none⟩ = some (.int .i64 o.f0) := (blk_cell HB63.out 0).trans rfl
              have f1c : W4.cell? ⟨g6, 1, none⟩ = some (.int .i64 o.f1) := (blk_cell HB63.out 1).trans rfl
              have f2c : W4.cell? ⟨g6, 2, none⟩ = some (.slice A2 o.f2.length c2) := (blk_cell HB63.out 2).trans rfl
              have f3c : W4.cell? ⟨g6, 3, none⟩ = some (.int .i64 o.f3) := (blk_cell HB63.out 3).trans rfl
              have f4c : W4.cell? ⟨g6, 4, none⟩ = some (.int .i64 o.f4) := (blk_cell HB63.out 4).trans rfl
              have f5c : W4.cell? ⟨g6, 5, none⟩ = some (.int .i64 o.f5) := (blk_cell HB63.out 5).trans rfl
              by_cases h4 : o.f0 = 4
              · have h4b : (o.f0 != 4) = false := by simpa using h4
                rw [if_pos h4] at HRE
                clear h4
                go_upto_region 23 with (fail)
                clear h4b
                go_wp2_with (go_at_call 62; (with_reducible refine (layers_wires.calls o.f0 o.f1 _ _ o.f2 o.f3 o.f4 o.f5 ws _ (Kd.C_below HI2.out HS4.out.hb) HL2.out HW.out).mono ?_); clear f0c f1c f2c f3c f4c f5c; rintro e W3 ⟨v38, rfl, hv38, hb3⟩; obtain ⟨A38, c38, rfl, hl38, hi38⟩ := Kd.R_reads hv38)
                have HS5 := Aside0.mk (HS4.out.below hb3)
                have HV3 := Aside0.mk (Kd.R_lower hv38 HS4.out.hb.size)
                clear hb3 hv38 hi38 HS4 hl38
                go_loopw [15, 74] (fun _ v74 wr => ∃ q : Nat, q ≤ ws.length ∧ v74 = .int .i64 q ∧ Aside0 (EarlyS w wr g1 g3 #[.int .i64 a0_0, .int .i64 a0_1, .slice (some ad) n c0_2] (setL L (ws.take q) m0) (.slice (some ⟨gr, 0, none⟩) n cr) (List.replicate (n - (p + 1)) 0 ++ m0 :: done.reverse)) ∧ Aside0 (Kd.R (Kd.int .i64) 3 wr w.heap.size (fun _ => True) (.slice A38 ws.length c38) ws)) (fun _ i _ => ws.length - (intOf i).toNat)
                case atStart => exact ⟨0, Nat.zero_le _, rfl, HS5, HV3⟩
                case round =>
                  clear HS5 HV3
                  obtain ⟨q, hq, rfl, HS5, HV3⟩ := hrel
                  by_cases hqt : q < ws.length
                  · obtain ⟨ad2, e38, hcell0⟩ := (Kd.reads_of_C (enc := Value.int .i64) (d := (0 : Int)) (h1 := fun _ => rfl) (Kd.R_reads' HV3.out).2.2).2.2 (by omega)
                    cases e38
                    have hcell := hcell0 q hqt
                    rw [show ws.getD q 0 = rd ws q by simp [rd]] at hcell
                    have hx : 0 ≤ rd ws q ∧ rd ws q < 128 := by
                      have := List.all_eq_true.1 HWO.out (ws[q]'hqt) (List.getElem_mem _)
                      simp only [Bool.and_eq_true, decide_eq_true_eq] at this
                      simpa [rd, List.getD_eq_getElem?_getD, List.getElem?_eq_getElem hqt] using this
                    have hs := setL_snoc L (ws.take q) (rd ws q) m0
                    rw [← take_snoc_rd ws q hqt] at hs
                    generalize rd ws q = x at hcell hx hs
                    obtain ⟨hx0, hx1⟩ := hx
                    have harr : wr.cell? ⟨g3, x.toNat, none⟩ = some (.int .i64 (rd (setL L (ws.take q) m0) x)) := by
                      rw [blk_cell HS5.out.b3]
                      simp [rd, List.getD_eq_getElem?_getD, List.getElem?_eq_getElem (show x.toNat < (setL L (ws.take q) m0).length by rw [setL_len, HL.out]; omega)]
                    have hfr : wr.frozen? ⟨g3, x.toNat, none⟩ = false := blk_frozen HS5.out.b3 _
                    have HSN := Aside0.mk hs
                    clear hcell0 hs
                    go_wp2
                    go_roundw
                    case rel => exact ⟨q + 1, by omega, by go_num, ⟨by rw [HSN.out]; exact HS5.out.put x.toNat m0⟩, ⟨Kd.R_set HV3.out HS5.out.b3 (by decide) _ _⟩⟩
                    case measure => simp [intOf]; omega
                  · obtain rfl : q = ws.length := by omega
                    rw [List.take_length] at *
                    go_wp2
                    go_roundw
                    case rel => exact ⟨p + 1, _, done ++ [m0], rest', by omega, by congr 1; omega, HRE, ⟨by rw [List.append_assoc]; exact HO.out⟩, ⟨by rw [setL_len]; exact HL.out⟩, ⟨by rw [List.length_append, HJ.out]; rfl⟩, ⟨by rw [List.reverse_append]; exact HS5.out⟩⟩
                    case measure => simp [intOf]; omega
              · have h4b : (o.f0 != 4) = true := by simpa using h4
                rw [if_neg h4] at HRE
                clear h4
                go_upto_region 23 with (fail)
                clear h4b
                generalize wrap64 (m0 - 1) = m' at HRE ⊢
                go_wp2_with (go_at_call 62; (with_reducible refine (layers_wires.calls o.f0 o.f1 _ _ o.f2 o.f3 o.f4 o.f5 ws _ (Kd.C_below HI2.out HS4.out.hb) HL2.out HW.out).mono ?_); clear f0c f1c f2c f3c f4c f5c; rintro e W3 ⟨v38, rfl, hv38, hb3⟩; obtain ⟨A38, c38, rfl, hl38, hi38⟩ := Kd.R_reads hv38)
                have HS5 := Aside0.mk (HS4.out.below hb3)
                have HV3 := Aside0.mk (Kd.R_lower hv38 HS4.out.hb.size)
                clear hb3 hv38 hi38 HS4 hl38
                go_loopw [15, 74] (fun _ v74 wr => ∃ q : Nat, q ≤ ws.length ∧ v74 = .int .i64 q ∧ Aside0 (EarlyS w wr g1 g3 #[.int .i64 a0_0, .int .i64 a0_1, .slice (some ad) n c0_2] (setL L (ws.take q) m') (.slice (some ⟨gr, 0, none⟩) n cr) (List.replicate (n - (p + 1)) 0 ++ m0 :: done.reverse)) ∧ Aside0 (Kd.R (Kd.int .i64) 3 wr w.heap.size (fun _ => True) (.slice A38 ws.length c38) ws)) (fun _ i _ => ws.length - (intOf i).toNat)
                case atStart => exact ⟨0, Nat.zero_le _, rfl, HS5, HV3⟩
                case round =>
                  clear HS5 HV3
                  obtain ⟨q, hq, rfl, HS5, HV3⟩ := hrel
                  by_cases hqt : q < ws.length
                  · obtain ⟨ad2, e38, hcell0⟩ := (Kd.reads_of_C (enc := Value.int .i64) (d := (0 : Int)) (h1 := fun _ => rfl) (Kd.R_reads' HV3.out).2.2).2.2 (by omega)
                    cases e38
                    have hcell := hcell0 q hqt
                    rw [show ws.getD q 0 = rd ws q by simp [rd]] at hcell
                    have hx : 0 ≤ rd ws q ∧ rd ws q < 128 := by
                      have := List.all_eq_true.1 HWO.out (ws[q]'hqt) (List.getElem_mem _)
                      simp only [Bool.and_eq_true, decide_eq_true_eq] at this
                      simpa [rd, List.getD_eq_getElem?_getD, List.getElem?_eq_getElem hqt] using this
                    have hs := setL_snoc L (ws.take q) (rd ws q) m'
                    rw [← take_snoc_rd ws q hqt] at hs
                    generalize rd ws q = x at hcell hx hs
                    obtain ⟨hx0, hx1⟩ := hx
                    have harr : wr.cell? ⟨g3, x.toNat, none⟩ = some (.int .i64 (rd (setL L (ws.take q) m') x)) := by
                      rw [blk_cell HS5.out.b3]
                      simp [rd, List.getD_eq_getElem?_getD, List.getElem?_eq_getElem (show x.toNat < (setL L (ws.take q) m').length by rw [setL_len, HL.out]; omega)]
                    have hfr : wr.frozen? ⟨g3, x.toNat, none⟩ = false := blk_frozen HS5.out.b3 _
                    have HSN := Aside0.mk hs
                    clear hcell0 hs
                    go_wp2
                    go_roundw
                    case rel => exact ⟨q + 1, by omega, by go_num, ⟨by rw [HSN.out]; exact HS5.out.put x.toNat m'⟩, ⟨Kd.R_set HV3.out HS5.out.b3 (by decide) _ _⟩⟩
                    case measure => simp [intOf]; omega
                  · obtain rfl : q = ws.length := by omega
                    rw [List.take_length] at *
                    go_wp2
                    go_roundw
                    case rel => exact ⟨p + 1, _, done ++ [m0], rest', by omega, by congr 1; omega, HRE, ⟨by rw [List.append_assoc]; exact HO.out⟩, ⟨by rw [setL_len]; exact HL.out⟩, ⟨by rw [List.length_append, HJ.out]; rfl⟩, ⟨by rw [List.reverse_append]; exact HS5.out⟩⟩
                    case measure => simp [intOf]; omega
        · obtain rfl : p = n := by omega
          have hr : done = res := by
            have h2 := H.out
            rw [List.drop_eq_nil_of_le (by simp [HN.out])] at h2
            simp only [late_go] at h2
            obtain rfl := Option.some.inj h2
            rw [← HO.out, List.append_nil]
          subst hr
          simp only [Nat.sub_self, List.replicate_zero, List.nil_append] at HS
          have hi0 : decide ((p : Int) ≤ (p : Int) - 1) = false := by simp; omega
          go_wp2
          go_ret2
          exact ⟨_, rfl, HS.out.ho, HS.out.hb⟩
end Go.Proofs.Ytbelnopbggkdfaa.Q
end

section
namespace Go.Proofs.Ytbelnopbggkdfaa.Q
open Go.RowKit Go.Proofs.YtbelnopbggkdfaaW.PrintWords Go.Proofs.YtbelnopbggkdfaaW.PrintLast Go.Proofs.YtbelnopbggkdfaaW.PrintMore
def inc (o : Opn) : Int := if o.f0 = 4 then 0 else 1
theorem inc_01 (o : Opn) : 0 ≤ inc o ∧ inc o ≤ 1 := by unfold inc; split <;> omega
def at_ (l : List Opn) (k : Nat) : Opn := l.getD k z46
def nth (E : List Int) (k : Nat) : Int := E.getD k 0
theorem at_get {l : List Opn} {k : Nat} (h : k < l.length) : at_ l k = l[k] := by simp [at_, List.getD_eq_getElem?_getD, List.getElem?_eq_getElem h]
theorem nth_get {l : List Int} {k : Nat} (h : k < l.length) : nth l k = l[k] := by simp [nth, List.getD_eq_getElem?_getD, List.getElem?_eq_getElem h]
theorem rd_nth (l : List Int) (k : Nat) : rd l (k : Int) = nth l k := by simp [rd, nth]
theorem at_app1 {l m : List Opn} {k : Nat} (h : k < l.length) : at_ (l ++ m) k = at_ l k := by
  simp [at_, List.getD_eq_getElem?_getD, List.getElem?_append_left h]
theorem nth_app1 {l m : List Int} {k : Nat} (h : k < l.length) : nth (l ++ m) k = nth l k := by
  simp [nth, List.getD_eq_getElem?_getD, List.getElem?_append_left h]
theorem at_mid (l m : List Opn) (o : Opn) : at_ (l ++ o :: m) l.length = o := by
  simp [at_, List.getD_eq_getElem?_getD]
theorem nth_mid (l m : List Int) (o : Int) : nth (l ++ o :: m) l.length = o := by
  simp [nth, List.getD_eq_getElem?_getD]
/-- The least number that is no less than 0 and all of these. -/
def Lub (P : Int → Prop) (m : Int) : Prop := (∀ x, P x → x ≤ m) ∧ 0 ≤ m ∧ (m = 0 ∨ P m)
theorem Lub.uniq {P : Int → Prop} {m m' : Int} (h : Lub P m) (h' : Lub P m') : m = m' := by
  obtain ⟨a, b, c⟩ := h
  obtain ⟨a', b', c'⟩ := h'
  rcases c with rfl | c
  · rcases c' with rfl | c'
    · rfl
    · have := a _ c'; omega
  · have := a' _ c
    rcases c' with rfl | c'
    · omega
    · have := a _ c'; omega
theorem Lub.congr {P Q : Int → Prop} {m : Int} (h : Lub P m) (e : ∀ x, P x ↔ Q x) : Lub Q m :=
  ⟨fun x hx => h.1 x ((e x).2 hx), h.2.1, h.2.2.elim .inl fun c => .inr ((e m).1 c)⟩
theorem Lub.or {P Q : Int → Prop} {m m' : Int} (h : Lub P m) (h' : Lub Q m') : Lub (fun x => P x ∨ Q x) (mx m m') := by
  obtain ⟨a, b, c⟩ := h
  obtain ⟨a', b', c'⟩ := h'
  unfold mx
  split
  · refine ⟨fun x hx => ?_, b', c'.elim .inl fun c => .inr (.inr c)⟩
    rcases hx with hx | hx
    · have := a x hx; omega
    · exact a' x hx
  · refine ⟨fun x hx => ?_, b, c.elim .inl fun c => .inr (.inl c)⟩
    rcases hx with hx | hx
    · exact a x hx
    · have := a' x hx; omega
theorem Lub.none {P : Int → Prop} (h : ∀ x, ¬ P x) : Lub P 0 := ⟨fun x hx => absurd hx (h x), Int.le_refl _, .inl rfl⟩
def EarlyP (n : Nat) (L : Nat → Opn) (E : Nat → Int) : Prop := ∀ i, i < n → Lub (fun x => ∃ k, k < i ∧ tch (L i) (L k) = true ∧ x = E k) (E i - inc (L i))
theorem EarlyP.uniq {n : Nat} {L : Nat → Opn} {E E' : Nat → Int} (h : EarlyP n L E) (h' : EarlyP n L E') : ∀ i, i < n → E i = E' i := by
  intro i
  induction i using Nat.strongRecOn with
  | _ i ih =>
    intro hi
    have h1 := h i hi
    have h2 : Lub (fun x => ∃ k, k < i ∧ tch (L i) (L k) = true ∧ x = E k) (E' i - inc (L i)) := (h' i hi).congr fun x => by
      constructor
      · rintro ⟨k, hk, ht, rfl⟩; exact ⟨k, hk, ht, (ih k hk (by omega)).symm⟩
      · rintro ⟨k, hk, ht, rfl⟩; exact ⟨k, hk, ht, ih k hk (by omega)⟩
    have := h1.uniq h2
    omega
theorem maxL_lub {LW : List Int} {Pw : Int → Int → Prop} : ∀ (ws : List Int) (m : Int) (Q0 : Int → Prop), (∀ w ∈ ws, Lub (Pw w) (rd LW w)) → Lub Q0 m → Lub (fun x => Q0 x ∨ ∃ w, w ∈ ws ∧ Pw w x) (maxL LW ws m)
  | [], m, Q0, _, h => h.congr fun x => by simp
  | w :: ws, m, Q0, hw, h => by
    have h1 := Lub.or h (hw w (by simp))
    have h2 := maxL_lub ws _ _ (fun w hw' => hw w (by simp [hw'])) h1
    show Lub _ (maxL LW ws (mx m (rd LW w)))
    exact h2.congr fun x => by
      constructor
      · rintro ((a | a) | ⟨w', a, b⟩)
        · exact .inl a
        · exact .inr ⟨w, by simp, a⟩
        · exact .inr ⟨w', by simp [a], b⟩
      · rintro (a | ⟨w', a, b⟩)
        · exact .inl (.inl a)
        · rcases List.mem_cons.1 a with rfl | a
          · exact .inl (.inr b)
          · exact .inr ⟨w', a, b⟩
theorem rd_set {L : List Int} {x w m : Int} (hx0 : 0 ≤ x) (hx1 : x.toNat < L.length) (hw : 0 ≤ w) : rd (L.set x.toNat m) w = if w = x then m else rd L w := by
  unfold rd
  rw [List.getD_eq_getElem?_getD, List.getD_eq_getElem?_getD, List.getElem?_set]
  by_cases e : w = x
  · subst e
    rw [if_pos rfl, if_pos rfl, if_pos hx1]
    rfl
  · rw [if_neg e, if_neg (by omega)]
theorem setL_lenB (m : Int) : ∀ (ws LW : List Int), (setL LW ws m).length = LW.length
  | [], LW => rfl
  | w :: ws, LW => by show (setL (LW.set w.toNat m) ws m).length = _; rw [setL_lenB m ws]; simp
theorem rd_setL (m : Int) : ∀ (ws LW : List Int), LW.length = 128 → (∀ w ∈ ws, 0 ≤ w ∧ w < 128) → ∀ w, 0 ≤ w → rd (setL LW ws m) w = if w ∈ ws then m else rd LW w
  | [], LW, _, _, w, _ => by simp [setL]
  | x :: ws, LW, hl, hws, w, hw => by
    show rd (setL (LW.set x.toNat m) ws m) w = _
    have hx := hws x (by simp)
    rw [rd_setL m ws _ (by simp [hl]) (fun y hy => hws y (by simp [hy])) w hw, rd_set hx.1 (by omega) hw]
    by_cases h1 : w ∈ ws
    · simp [h1]
    · by_cases h2 : w = x
      · simp [h2]
      · simp [h1, h2]
/-- What the early walk knows of a wire. -/
def WireI (pre : List Opn) (done LW : List Int) : Prop := ∀ w : Int, 0 ≤ w → w < 128 → Lub (fun x => ∃ k, k < pre.length ∧ w ∈ wsF 64 (at_ pre k) ∧ x = nth done k) (rd LW w)
theorem early_go_is {q b : Int} (hq : q ≤ 64) (hb : b ≤ 64) : ∀ (os pre : List Opn) (done LW : List Int), (∀ o ∈ os, OpF q b o) → done.length = pre.length → LW.length = 128 → pre.length + os.length ≤ 100000 → (∀ x ∈ done, 0 ≤ x ∧ x ≤ pre.length) → WireI pre done LW →
    EarlyP pre.length (at_ pre) (nth done) → ∃ r, early_go os LW = some r ∧ r.length = os.length ∧ (∀ x ∈ r, 0 ≤ x ∧ x ≤ pre.length + os.length) ∧ EarlyP (pre.length + os.length) (at_ (pre ++ os)) (nth (done ++ r))
  | [], pre, done, LW, _, _, _, _, _, _, hE => ⟨[], rfl, rfl, by simp, by simpa using hE⟩
  | o :: os, pre, done, LW, ho, hd, hl, hn, hdn, hI, hE => by
    have oo := ho o (by simp)
    simp only [List.length_cons] at hn
    have hr : ∀ w ∈ wsF 64 o, 0 ≤ w ∧ w < 128 := fun w hw => ws_range oo hq hb hw
    have hM0 := maxL_lub (LW := LW) (Pw := fun w x => ∃ k, k < pre.length ∧ w ∈ wsF 64 (at_ pre k) ∧ x = nth done k) (wsF 64 o) 0 (fun _ => False) (fun w hw => hI w (hr w hw).1 (hr w hw).2) (Lub.none fun _ h => h)
    have hM : Lub (fun x => ∃ k, k < pre.length ∧ tch o (at_ pre k) = true ∧ x = nth done k) (maxL LW (wsF 64 o) 0) := hM0.congr fun x => by
      constructor
      · rintro (h | ⟨w, hw, k, hk, hwk, rfl⟩)
        · exact h.elim
        · exact ⟨k, hk, tch_iff.2 ⟨w, hw, hwk⟩, rfl⟩
      · rintro ⟨k, hk, ht, rfl⟩
        obtain ⟨w, hw, hwk⟩ := tch_iff.1 ht
        exact .inr ⟨w, hw, k, hk, hwk, rfl⟩
    have hm0 := hM.2.1
    have hm1 : maxL LW (wsF 64 o) 0 ≤ pre.length := by
      rcases hM.2.2 with e | ⟨k, hk, _, e⟩
      · omega
      · rw [e, nth_get (by omega)]; exact (hdn _ (List.getElem_mem _)).2
    have hv : (if o.f0 = 4 then maxL LW (wsF 64 o) 0 else wrap64 (maxL LW (wsF 64 o) 0 + 1)) = maxL LW (wsF 64 o) 0 + inc o := by
      unfold inc
      split
      · omega
      · rw [w64 (by omega) (by omega)]
    have hi := inc_01 o
    obtain ⟨v, hvv⟩ : ∃ v, v = maxL LW (wsF 64 o) 0 + inc o := ⟨_, rfl⟩
    have hlast : ∀ k, k < pre.length → at_ (pre ++ [o]) k = at_ pre k ∧ nth (done ++ [v]) k = nth done k := fun k hk => ⟨at_app1 hk, nth_app1 (by omega)⟩
    have ho1 : at_ (pre ++ [o]) pre.length = o := at_mid pre [] o
    have hv1 : nth (done ++ [v]) pre.length = v := by rw [← hd]; exact nth_mid done [] v
    have hI2 : WireI (pre ++ [o]) (done ++ [v]) (setL LW (wsF 64 o) v) := fun w h0 h1 => by
      rw [rd_setL v _ _ hl hr w h0]
      have hw0 := hI w h0 h1
      by_cases hw : w ∈ wsF 64 o
      · rw [if_pos hw]
        refine ⟨?_, by omega, .inr ⟨pre.length, by simp, by rw [ho1]; exact hw, hv1.symm⟩⟩
        rintro x ⟨k, hk, hwk, rfl⟩
        simp only [List.length_append, List.length_cons, List.length_nil] at hk
        by_cases hk2 : k < pre.length
        · rw [(hlast k hk2).2]
          rw [(hlast k hk2).1] at hwk
          have := hM.1 _ ⟨k, hk2, tch_iff.2 ⟨w, hw, hwk⟩, rfl⟩
          omega
        · obtain rfl : k = pre.length := by omega
          rw [hv1]; omega
      · rw [if_neg hw]
        refine hw0.congr fun x => ?_
        constructor
        · rintro ⟨k, hk, hwk, rfl⟩
          exact ⟨k, by simp; omega, by rw [(hlast k hk).1]; exact hwk, (hlast k hk).2.symm⟩
        · rintro ⟨k, hk, hwk, rfl⟩
          simp only [List.length_append, List.length_cons, List.length_nil] at hk
          by_cases hk2 : k < pre.length
          · rw [(hlast k hk2).1] at hwk
            exact ⟨k, hk2, hwk, (hlast k hk2).2⟩
          · obtain rfl : k = pre.length := by omega
            rw [ho1] at hwk
            exact absurd hwk hw
    have hE2 : EarlyP (pre ++ [o]).length (at_ (pre ++ [o])) (nth (done ++ [v])) := fun i hi2 => by
      simp only [List.length_append, List.length_cons, List.length_nil] at hi2
      by_cases hk2 : i < pre.length
      · rw [(hlast i hk2).1, (hlast i hk2).2]
        refine (hE i hk2).congr fun x => ?_
        constructor
        · rintro ⟨k, hk, ht, rfl⟩
          exact ⟨k, hk, by rw [(hlast k (by omega)).1]; exact ht, (hlast k (by omega)).2.symm⟩
        · rintro ⟨k, hk, ht, rfl⟩
          rw [(hlast k (by omega)).1] at ht
          exact ⟨k, hk, ht, (hlast k (by omega)).2⟩
      · obtain rfl : i = pre.length := by omega
        rw [ho1, hv1, show v - inc o = maxL LW (wsF 64 o) 0 by omega]
        refine hM.congr fun x => ?_
        constructor
        · rintro ⟨k, hk, ht, rfl⟩
          exact ⟨k, hk, by rw [(hlast k (by omega)).1]; exact ht, (hlast k (by omega)).2.symm⟩
        · rintro ⟨k, hk, ht, rfl⟩
          rw [(hlast k (by omega)).1] at ht
          exact ⟨k, hk, ht, (hlast k (by omega)).2⟩
    obtain ⟨r, hr1, hr2, hr3, hr4⟩ := early_go_is hq hb os (pre ++ [o]) (done ++ [v]) (setL LW (wsF 64 o) v) (fun p hp => ho p (by simp [hp])) (by simp [hd]) (by rw [setL_lenB]; exact hl) (by simp; omega) (fun x hx => by
      rcases List.mem_append.1 hx with h | h
      · have := hdn x h; simp; omega
      · obtain rfl := List.mem_singleton.1 h; simp; omega) hI2 hE2
    refine ⟨v :: r, ?_, by simp [hr2], fun x hx => ?_, ?_⟩
    · unfold early_go
      rw [wires64 oo hb]
      simp only [Option.bind_some]
      rw [if_pos (wires_ok oo hq hb), hv, ← hvv, hr1]
      rfl
    · rcases List.mem_cons.1 hx with rfl | h
      · simp only [List.length_cons]; omega
      · have := hr3 x h
        simp only [List.length_append, List.length_cons, List.length_nil] at this ⊢
        omega
    · have e1 : pre ++ [o] ++ os = pre ++ o :: os := by simp
      have e2 : done ++ [v] ++ r = done ++ v :: r := by simp
      have e3 : (pre ++ [o]).length + os.length = pre.length + (o :: os).length := by simp; omega
      rw [e1, e2, e3] at hr4
      exact hr4
theorem early_is {q b : Int} {l : List Opn} (h : CircF q b l) : ∃ r, early_go l (List.replicate 128 0) = some r ∧ r.length = l.length ∧ (∀ x ∈ r, 0 ≤ x ∧ x ≤ l.length) ∧ EarlyP l.length (at_ l) (nth r) := by
  have hn := h.n
  obtain ⟨r, h1, h2, h3, h4⟩ := early_go_is h.q1 h.b1 l [] [] (List.replicate 128 0) h.op rfl (by simp) (by simp; omega) (by simp) (fun w _ h1 => by
    have : rd (List.replicate 128 0) w = 0 := by
      unfold rd
      rw [List.getD_eq_getElem?_getD, List.getElem?_replicate, if_pos (by omega)]
      rfl
    rw [this]
    exact Lub.none fun x => by rintro ⟨k, hk, _⟩; simp at hk) (fun i hi => by simp at hi)
  exact ⟨r, h1, h2, by simpa using h3, by simpa using h4⟩
theorem rd_map {LW : List Int} {d w : Int} (h1 : w.toNat < LW.length) : rd (LW.map (fun x => d - x)) w = d - rd LW w := by
  simp [rd, List.getD_eq_getElem?_getD, List.getElem?_eq_getElem h1]
theorem minL_map {LW : List Int} {d : Int} (hl : LW.length = 128) : ∀ (ws : List Int) (m : Int), (∀ w ∈ ws, 0 ≤ w ∧ w < 128) → minL (LW.map (fun x => d - x)) ws (d - m) = d - maxL LW ws m
  | [], m, _ => rfl
  | w :: ws, m, h => by
    have hw := h w (by simp)
    show minL (LW.map (fun x => d - x)) ws (mn (d - m) (rd (LW.map (fun x => d - x)) w)) = d - maxL LW ws (mx m (rd LW w))
    rw [rd_map (by omega), ← minL_map hl ws _ (fun y hy => h y (by simp [hy]))]
    congr 1
    unfold mn mx
    split <;> split <;> omega
theorem setL_map {d v : Int} : ∀ (ws LW : List Int), setL (LW.map (fun x => d - x)) ws (d - v) = (setL LW ws v).map (fun x => d - x)
  | [], LW => rfl
  | w :: ws, LW => by
    show setL ((LW.map (fun x => d - x)).set w.toNat (d - v)) ws (d - v) = (setL (LW.set w.toNat v) ws v).map (fun x => d - x)
    rw [← setL_map ws, List.map_set]
theorem maxL_bound {LW : List Int} {c : Int} : ∀ (ws : List Int) (m : Int), (∀ w ∈ ws, 0 ≤ rd LW w ∧ rd LW w ≤ c) → 0 ≤ m → m ≤ c → 0 ≤ maxL LW ws m ∧ maxL LW ws m ≤ c
  | [], m, _, h0, h1 => ⟨h0, h1⟩
  | w :: ws, m, h, h0, h1 => by
    have hw := h w (by simp)
    show 0 ≤ maxL LW ws (mx m (rd LW w)) ∧ maxL LW ws (mx m (rd LW w)) ≤ c
    exact maxL_bound ws _ (fun y hy => h y (by simp [hy])) (by unfold mx; split <;> omega) (by unfold mx; split <;> omega)
theorem late_early {q b d : Int} (hq : q ≤ 64) (hb : b ≤ 64) (hd0 : 0 ≤ d) (hd : d ≤ 100000) : ∀ (os : List Opn) (LW : List Int) (c : Int), (∀ o ∈ os, OpF q b o) → LW.length = 128 → 0 ≤ c → (∀ w : Int, 0 ≤ w → w < 128 → 0 ≤ rd LW w ∧ rd LW w ≤ c) → c + os.length ≤ 100000 →
    ∀ r, early_go os LW = some r → late_go d os (LW.map (fun x => d - x)) = some (List.zipWith (fun o g => d + inc o - g) os r)
  | [], LW, c, _, _, _, _, _, r, hr => by simp [early_go] at hr; subst hr; rfl
  | o :: os, LW, c, ho, hl, hc, hw, hn, r, hr => by
    have oo := ho o (by simp)
    simp only [List.length_cons] at hn
    have hrg : ∀ w ∈ wsF 64 o, 0 ≤ w ∧ w < 128 := fun w hw => ws_range oo hq hb hw
    have hmb := maxL_bound (LW := LW) (c := c) (wsF 64 o) 0 (fun w h => hw w (hrg w h).1 (hrg w h).2) (by omega) hc
    have hmin := minL_map (d := d) hl (wsF 64 o) 0 hrg
    rw [Int.sub_zero] at hmin
    have hi := inc_01 o
    have hv : (if o.f0 = 4 then maxL LW (wsF 64 o) 0 else wrap64 (maxL LW (wsF 64 o) 0 + 1)) = maxL LW (wsF 64 o) 0 + inc o := by
      unfold inc
      split
      · omega
      · rw [w64 (by omega) (by omega)]
    have hv2 : (if o.f0 = 4 then minL (LW.map (fun x => d - x)) (wsF 64 o) d else wrap64 (minL (LW.map (fun x => d - x)) (wsF 64 o) d - 1)) = d - (maxL LW (wsF 64 o) 0 + inc o) := by
      rw [hmin]
      unfold inc
      split
      · omega
      · rw [w64 (by omega) (by omega)]; omega
    unfold early_go at hr
    rw [wires64 oo hb] at hr
    simp only [Option.bind_some] at hr
    rw [if_pos (wires_ok oo hq hb), hv] at hr
    obtain ⟨r', h1, h2⟩ := Option.bind_eq_some_iff.1 hr
    obtain rfl := Option.some.inj h2
    have ih := late_early hq hb hd0 hd os (setL LW (wsF 64 o) (maxL LW (wsF 64 o) 0 + inc o)) (c + 1) (fun p hp => ho p (by simp [hp])) (by rw [setL_lenB]; exact hl) (by omega) (fun w h0 h1 => by
      rw [rd_setL _ _ _ hl hrg w h0]
      have := hw w h0 h1
      split <;> omega) (by omega) r' h1
    unfold late_go
    rw [wires64 oo hb]
    simp only [Option.bind_some]
    rw [if_pos (wires_ok oo hq hb), hv2, setL_map, ih, hmin]
    simp only [Option.bind_some, List.zipWith_cons_cons, Option.some.injEq, List.cons.injEq, and_true]
    omega
/-- The greatest number that is no more than d and all of these. -/
def Glb (d : Int) (P : Int → Prop) (m : Int) : Prop := (∀ x, P x → m ≤ x) ∧ m ≤ d ∧ (m = d ∨ P m)
theorem Glb.uniq {d : Int} {P : Int → Prop} {m m' : Int} (h : Glb d P m) (h' : Glb d P m') : m = m' := by
  obtain ⟨a, b, c⟩ := h
  obtain ⟨a', b', c'⟩ := h'
  rcases c with rfl | c
  · rcases c' with rfl | c'
    · rfl
    · have := a _ c'; omega
  · have := a' _ c
    rcases c' with rfl | c'
    · omega
    · have := a _ c'; omega
theorem Glb.congr {d : Int} {P Q : Int → Prop} {m : Int} (h : Glb d P m) (e : ∀ x, P x ↔ Q x) : Glb d Q m :=
  ⟨fun x hx => h.1 x ((e x).2 hx), h.2.1, h.2.2.elim .inl fun c => .inr ((e m).1 c)⟩
def LateP (n : Nat) (L : Nat → Opn) (d : Int) (B : Nat → Int) : Prop := ∀ i, i < n → Glb d (fun x => ∃ k, i < k ∧ k < n ∧ tch (L i) (L k) = true ∧ x = B k - inc (L k)) (B i)
theorem LateP.uniq {n : Nat} {L : Nat → Opn} {d : Int} {E E' : Nat → Int} (h : LateP n L d E) (h' : LateP n L d E') : ∀ j i, n - i = j → i < n → E i = E' i := by
  intro j
  induction j using Nat.strongRecOn with
  | _ j ih =>
    intro i hj hi
    have h1 := h i hi
    have h2 : Glb d (fun x => ∃ k, i < k ∧ k < n ∧ tch (L i) (L k) = true ∧ x = E k - inc (L k)) (E' i) := (h' i hi).congr fun x => by
      constructor
      · rintro ⟨k, hk, hkn, ht, rfl⟩; exact ⟨k, hk, hkn, ht, by rw [ih (n - k) (by omega) k rfl hkn]⟩
      · rintro ⟨k, hk, hkn, ht, rfl⟩; exact ⟨k, hk, hkn, ht, by rw [ih (n - k) (by omega) k rfl hkn]⟩
    exact h1.uniq h2
theorem late_is {q b d : Int} {l : List Opn} (h : CircF q b l) (hd0 : 0 ≤ d) (hd : d ≤ 100000) : ∃ r, late_go d l.reverse (List.replicate 128 d) = some r ∧ r.length = l.length ∧ LateP l.length (at_ l) d (nth r.reverse) := by
  have hn := h.n
  have hr : CircF q b l.reverse := ⟨h.q0, h.q1, h.b0, h.b1, by simpa using h.n, fun o ho => h.op o (by simpa using ho), fun o ho => h.may o (by simpa using ho)⟩
  obtain ⟨g, g1, g2, g3, g4⟩ := early_is hr
  have hg := late_early h.q1 h.b1 hd0 hd l.reverse (List.replicate 128 0) 0 hr.op (by simp) (by omega) (fun w h0 h1 => by
    have : rd (List.replicate 128 0) w = 0 := by
      unfold rd
      rw [List.getD_eq_getElem?_getD, List.getElem?_replicate, if_pos (by omega)]
      rfl
    omega) (by simp; omega) g g1
  rw [List.map_replicate, Int.sub_zero] at hg
  simp only [List.length_reverse] at g2 g4
  refine ⟨_, hg, by simp [g2], fun i hi => ?_⟩
  have rev : ∀ k, k < l.length → nth (List.zipWith (fun o g => d + inc o - g) l.reverse g).reverse k = d + inc (at_ l k) - nth g (l.length - 1 - k) ∧ at_ l.reverse (l.length - 1 - k) = at_ l k := fun k hk => by
    have hk2 : l.length - 1 - k < l.length := by omega
    have e2 : at_ l.reverse (l.length - 1 - k) = at_ l k := by
      rw [at_get (by simpa using hk2), at_get hk, List.getElem_reverse]
      congr 1
      omega
    refine ⟨?_, e2⟩
    rw [nth_get (by simp [g2]; omega), List.getElem_reverse, List.getElem_zipWith]
    simp only [List.length_zipWith, List.length_reverse, g2, Nat.min_self]
    rw [nth_get (by omega), ← e2, at_get (by simpa using hk2)]
  have hl := g4 (l.length - 1 - i) (by omega)
  obtain ⟨e1, e2⟩ := rev i hi
  rw [e1]
  rw [e2] at hl
  obtain ⟨a, b2, c⟩ := hl
  refine ⟨?_, by omega, ?_⟩
  · rintro x ⟨k, hk, hkn, ht, rfl⟩
    obtain ⟨f1, f2⟩ := rev k hkn
    have := a (nth g (l.length - 1 - k)) ⟨l.length - 1 - k, by omega, by rw [f2]; exact ht, rfl⟩
    rw [f1]
    omega
  · rcases c with c | ⟨k, hk, ht, c⟩
    · exact .inl (by omega)
    · refine .inr ⟨l.length - 1 - k, by omega, by omega, ?_, ?_⟩
      · obtain ⟨_, f2⟩ := rev (l.length - 1 - k) (by omega)
        rw [← f2, show l.length - 1 - (l.length - 1 - k) = k by omega]
        exact ht
      · obtain ⟨f1, _⟩ := rev (l.length - 1 - k) (by omega)
        rw [f1, show l.length - 1 - (l.length - 1 - k) = k by omega]
        omega
end Go.Proofs.Ytbelnopbggkdfaa.Q
end

section
namespace Go.Proofs.Ytbelnopbggkdfaa
open Go.RowKit Go.Proofs.YtbelnopbggkdfaaW.PrintWords
/-- A sort's world: the row (block gd, n numbers) reads as d; what compares is a function value (f, captured cap); it tells the keys' difference of numbers that are allowed. -/
structure SortEnv (St : World → List Int → Prop) (gd n : Nat) (f : Nat) (cap : Array Value) (V : Int → Prop) (key : Int → Int) : Prop where
  len : ∀ {W d}, St W d → d.length = n
  n64 : (n : Int) ≤ 1152921504606846976
  eg : ∀ args w, (callFunc f args).run Try.prog w = .ok (.enter f args) w
  rd : ∀ {W d}, St W d → ∀ i : Nat, i < n → W.cell? ⟨gd, i, none⟩ = some (.int .i64 (rd d i)) ∧ W.frozen? ⟨gd, i, none⟩ = false
  wr : ∀ {W d}, St W d → ∀ (i : Nat) (x : Int), i < n → St (W.setCell ⟨gd, i, none⟩ (.int .i64 x)) (d.set i x)
  dr : ∀ {W d}, St W d → ∀ m, St (W.drewN m) d
  cmp : ∀ {W d}, St W d → ∀ x y, V x → V y → Calls Try.prog f (#[.int .i64 x, .int .i64 y] ++ cap) W fun e w' => e = .returned (.int .i64 (key x - key y)) ∧ ∃ m, w' = W.drewN m
theorem rd_set (d : List Int) (i j : Nat) (x : Int) (hi : i < d.length) : rd (d.set i x) (j : Int) = if j = i then x else rd d (j : Int) := by
  simp only [rd, Int.toNat_natCast, List.getD_eq_getElem?_getD, List.getElem?_set]
  by_cases h : i = j
  · subst h; simp [hi]
  · rw [if_neg h, if_neg (Ne.symm h)]
/-- Two numbers change places. -/
def swapL (d : List Int) (i j : Nat) : List Int := (d.set i (rd d (j : Int))).set j (rd d (i : Int))
theorem swapL_rd (d : List Int) (i j k : Nat) (hi : i < d.length) (hj : j < d.length) : rd (swapL d i j) (k : Int) = if k = j then rd d (i : Int) else if k = i then rd d (j : Int) else rd d (k : Int) := by
  unfold swapL
  rw [rd_set _ _ _ _ (by simpa using hj), rd_set _ _ _ _ hi]
theorem swapL_perm (d : List Int) (i j : Nat) (hi : i < d.length) (hj : j < d.length) : List.Perm (swapL d i j) d := by
  unfold swapL
  have hi' : rd d (i : Int) = d[i] := by simp [rd, List.getD_eq_getElem?_getD, List.getElem?_eq_getElem hi]
  have hj' : rd d (j : Int) = d[j] := by simp [rd, List.getD_eq_getElem?_getD, List.getElem?_eq_getElem hj]
  rw [hi', hj']
  exact List.set_set_perm hi hj
/-- The order of the sort: by key, then by the number itself. -/
def ltK (key : Int → Int) (x y : Int) : Prop := key x < key y ∨ key x = key y ∧ x < y
theorem ltK_trans {key : Int → Int} {x y z : Int} (h1 : ltK key x y) (h2 : ltK key y z) : ltK key x z := by
  unfold ltK at *; omega
end Go.Proofs.Ytbelnopbggkdfaa
end

section
namespace Go.Proofs.Ytbelnopbggkdfaa
open Go.RowKit Go.Proofs.YtbelnopbggkdfaaW.PrintWords
variable {St : World → List Int → Prop} {gd n f : Nat} {cap : Array Value} {V : Int → Prop} {key : Int → Int}
/-- Behind i rounds: the first numbers of the part stand in order, those behind are as they were. -/
structure InsI (key : Int → Int) (n a i : Nat) (d dk : List Int) : Prop where
  perm : dk.Perm d
  out : ∀ k : Nat, k < a ∨ i ≤ k → rd dk k = rd d k
  mem : ∀ p : Nat, a ≤ p → p < i → ∃ q : Nat, a ≤ q ∧ q < i ∧ rd dk p = rd d q
  srt : ∀ p q : Nat, a ≤ p → p < q → q < i → ltK key (rd dk p) (rd dk q)
/-- Within a round: the number x stands at j; what is greater has moved up one place. -/
structure InsJ (key : Int → Int) (n a i j : Nat) (dk dj : List Int) : Prop where
  perm : dj.Perm dk
  at' : rd dj j = rd dk i
  low : ∀ k : Nat, k < j ∨ i < k → rd dj k = rd dk k
  up : ∀ p : Nat, j < p → p ≤ i → rd dj p = rd dk ((p - 1 : Nat) : Int)
  gt : ∀ p : Nat, j ≤ p → p < i → ltK key (rd dk i) (rd dk p)
theorem InsI.start (a : Nat) (d : List Int) (n : Nat) : InsI key n a (a + 1) d d :=
  ⟨List.Perm.refl _, fun _ _ => rfl, fun p h1 h2 => ⟨p, h1, h2, rfl⟩, fun p q h1 h2 h3 => by omega⟩
theorem InsJ.start (a i : Nat) (dk : List Int) (n : Nat) : InsJ key n a i i dk dk :=
  ⟨List.Perm.refl _, rfl, fun _ _ => rfl, fun p h1 h2 => by omega, fun p h1 h2 => by omega⟩
theorem InsJ.step {a i j n : Nat} {dk dj : List Int} (h : InsJ key n a i (j + 1) dk dj) (hl : dj.length = n) (hi : i < n) (hj : j + 1 ≤ i)
    (hc : key (rd dj ((j + 1 : Nat) : Int)) < key (rd dj (j : Int))) : InsJ key n a i j dk (swapL dj (j + 1) j) := by
  have e := swapL_rd dj (j + 1) j
  have hjd : rd dj (j : Int) = rd dk (j : Int) := h.low j (.inl (by omega))
  refine ⟨(swapL_perm dj (j + 1) j (by omega) (by omega)).trans h.perm, ?_, fun k hk => ?_, fun p h1 h2 => ?_, fun p h1 h2 => ?_⟩
  · rw [e j (by omega) (by omega), if_pos rfl, h.at']
  · rw [e k (by omega) (by omega), if_neg (by omega), if_neg (by omega)]
    exact h.low k (by omega)
  · rw [e p (by omega) (by omega), if_neg (by omega)]
    by_cases hp : p = j + 1
    · subst hp
      rw [if_pos rfl]
      exact hjd
    · rw [if_neg hp]
      exact h.up p (by omega) h2
  · by_cases hp : p = j
    · subst hp
      rw [← h.at', ← hjd]
      exact .inl hc
    · exact h.gt p (by omega) h2
theorem InsJ.done {a i j n : Nat} {d dk dj : List Int} (H : InsI key n a i d dk) (h : InsJ key n a i j dk dj) (ha : a ≤ j) (hj : j ≤ i) (hai : a < i) (hi : i < n)
    (hasc : ∀ p q : Nat, a ≤ p → p < q → q < n → rd d p < rd d q)
    (hs : j = a ∨ (a < j ∧ key (rd dj ((j - 1 : Nat) : Int)) ≤ key (rd dj (j : Int)))) : InsI key n a (i + 1) d dj := by
  have hx : rd dk (i : Int) = rd d (i : Int) := H.out i (.inr (Nat.le_refl _))
  -- all that stands below j is below x
  have low : ∀ p : Nat, a ≤ p → p < j → ltK key (rd dj (p : Int)) (rd dk (i : Int)) := by
    intro p h1 h2
    rcases hs with hs | ⟨hs1, hs2⟩
    · omega
    · have last : ltK key (rd dj ((j - 1 : Nat) : Int)) (rd dk (i : Int)) := by
        rw [← h.at']
        rcases Int.lt_or_eq_of_le hs2 with hs3 | hs3
        · exact .inl hs3
        · refine .inr ⟨hs3, ?_⟩
          rw [h.at', hx, h.low (j - 1) (.inl (by omega))]
          obtain ⟨q, q1, q2, q3⟩ := H.mem (j - 1) (by omega) (by omega)
          rw [q3]
          exact hasc q i q1 (by omega) hi
      by_cases hp : p = j - 1
      · rw [hp]; exact last
      · refine ltK_trans ?_ last
        rw [h.low p (.inl h2), h.low (j - 1) (.inl (by omega))]
        exact H.srt p (j - 1) h1 (by omega) (by omega)
  refine ⟨h.perm.trans H.perm, fun k hk => ?_, fun p h1 h2 => ?_, fun p q h1 h2 h3 => ?_⟩
  · rw [h.low k (by omega)]
    exact H.out k (by omega)
  · rcases Nat.lt_trichotomy p j with c | c | c
    · rw [h.low p (.inl c)]
      obtain ⟨q, q1, q2, q3⟩ := H.mem p h1 (by omega)
      exact ⟨q, q1, by omega, q3⟩
    · subst c
      exact ⟨i, by omega, by omega, by rw [h.at', hx]⟩
    · rw [h.up p c (by omega)]
      obtain ⟨q, q1, q2, q3⟩ := H.mem (p - 1) (by omega) (by omega)
      exact ⟨q, q1, by omega, q3⟩
  · rcases Nat.lt_trichotomy q j with c | c | c
    · rw [h.low p (.inl (by omega)), h.low q (.inl c)]
      exact H.srt p q h1 h2 (by omega)
    · subst c
      rw [h.at']
      exact low p h1 h2
    · rw [h.up q c (by omega)]
      have g := h.gt (q - 1) (by omega) (by omega)
      rcases Nat.lt_trichotomy p j with c2 | c2 | c2
      · exact ltK_trans (low p h1 c2) g
      · subst c2
        rw [h.at']
        exact g
      · rw [h.up p c2 (by omega)]
        exact H.srt (p - 1) (q - 1) (by omega) (by omega) (by omega)
set_option maxHeartbeats 4000000 in
set_option maxRecDepth 1000000 in
theorem ins_any (E : SortEnv St gd n f cap V key) {W : World} {d : List Int} (hS : St W d) (c a b : Nat) (hab : a ≤ b) (hb : b ≤ n) (hV : ∀ i : Nat, i < n → V (rd d i))
    (hasc : ∀ p q : Nat, a ≤ p → p < q → q < n → rd d p < rd d q) :
    Calls Try.prog 94 #[.slice (some ⟨gd, 0, none⟩) n c, .int .i64 a, .int .i64 b, .func (.func f) #[] cap] W fun e w' =>
      e = .returned (.tuple #[]) ∧ ∃ d', St w' d' ∧ InsI key n a b d d' := by
  have h64 := E.n64
  have eg := E.eg
  have HE := Aside0.mk E
  have HV := Aside0.mk hV
  have HA := Aside0.mk hasc
  have HS := Aside0.mk hS
  clear hS hV hasc E
  go_enter Try.func94, Try.ntmps94
  go_wp2
  go_loopg [8] (b - a) (fun g1 vi wr => ∃ (i : Nat) (dk : List Int), vi = .int .i64 i ∧ a < i ∧ (i ≤ b ∨ i = a + 1) ∧ b + 1 - i ≤ g1 + 1 ∧ Aside0 (St wr dk ∧ InsI key n a i d dk))
  case atStart => exact ⟨a + 1, d, by go_num, by omega, by omega, by omega, ⟨HS.out, InsI.start _ _ _⟩⟩
  case round =>
    obtain ⟨i, dk, rfl, hai, hib, hg1, HI⟩ := hrel
    by_cases hlt : i < b
    · have hltz : (i : Int) < (b : Int) := by omega
      go_wp2
      go_loopg [9] i (fun g2 vj wr2 => ∃ (j : Nat) (dj : List Int), vj = .int .i64 j ∧ a ≤ j ∧ j ≤ i ∧ j ≤ g2 ∧ Aside0 (St wr2 dj ∧ InsJ key n a i j dk dj))
      case atStart => exact ⟨i, dk, rfl, by omega, Nat.le_refl _, Nat.le_refl _, ⟨HI.out.1, InsJ.start _ _ _ _⟩⟩
      case round =>
        obtain ⟨j, dj, rfl, haj, hji, hg2, HJ⟩ := hrel
        by_cases hja : a < j
        · have E := HE.out
          have hS2 := HJ.out.1
          have hl := E.len hS2
          have hV2 : ∀ i : Nat, i < n → V (rd dj i) := by
            intro k hk
            by_cases h1 : k = j
            · rw [h1, HJ.out.2.at', HI.out.2.out i (.inr (Nat.le_refl _))]; exact HV.out i (by omega)
            · by_cases h2 : k < j ∨ i < k
              · rw [HJ.out.2.low k h2]
                by_cases h3 : k < a ∨ i ≤ k
                · rw [HI.out.2.out k h3]; exact HV.out k hk
                · obtain ⟨q, q1, q2, q3⟩ := HI.out.2.mem k (by omega) (by omega)
                  rw [q3]; exact HV.out q (by omega)
              · rw [HJ.out.2.up k (by omega) (by omega)]
                obtain ⟨q, q1, q2, q3⟩ := HI.out.2.mem (k - 1) (by omega) (by omega)
                rw [q3]; exact HV.out q (by omega)
          obtain ⟨jp, rfl⟩ : ∃ jp, j = jp + 1 := ⟨j - 1, by omega⟩
          obtain ⟨cj, fj⟩ := E.rd hS2 (jp + 1) (by omega)
          obtain ⟨cp, fp⟩ := E.rd hS2 jp (by omega)
          have hc := fun m => E.cmp (E.dr hS2 m) _ _ (hV2 (jp + 1) (by omega)) (hV2 jp (by omega))
          have HSTEP := Aside0.mk (show key (rd dj ((jp + 1 : Nat) : Int)) < key (rd dj (jp : Int)) → InsJ key n a i jp dk (swapL dj (jp + 1) jp) from fun h => HJ.out.2.step hl (by omega) (by omega) h)
          have HOUT := Aside0.mk (show key (rd dj (jp : Int)) ≤ key (rd dj ((jp + 1 : Nat) : Int)) → InsI key n a (i + 1) d dj from fun h => HJ.out.2.done HI.out.2 haj hji hai (by omega) HA.out (.inr ⟨hja, h⟩))
          have HSW := Aside0.mk (show ∀ m, St (((wr.drewN m).setCell ⟨gd, jp + 1, none⟩ (.int .i64 (rd dj (jp : Int)))).setCell ⟨gd, jp, none⟩ (.int .i64 (rd dj ((jp + 1 : Nat) : Int)))) (swapL dj (jp + 1) jp) from fun m => E.wr (E.wr (E.dr hS2 m) (jp + 1) _ (by omega)) jp _ (by omega))
          have HS2 := Aside0.mk hS2
          have hjaz : (a : Int) < (jp : Int) + 1 := by omega
          have hwp : IntKind.i64.wrap (jp : Int) = (jp : Int) := by rw [IntKind.wrap_i64]; omega
          have jz : (jp : Int) + 1 < (n : Int) := by omega
          have jz1 : (jp : Int) < (n : Int) := by omega
          have p0 : (0 : Int) ≤ (jp : Int) + 1 := by omega
          have e0 : ((jp : Int) + 1).toNat = jp + 1 := by omega
          clear E hS2 hV2 hl
          generalize rd dj ((jp + 1 : Nat) : Int) = xj at cj hc HSTEP HOUT HSW
          generalize rd dj (jp : Int) = xp at cp hc HSTEP HOUT HSW
          by_cases hlv : key xj - key xp < 0
          · go_wp2_with fail
            go_quiet (first | (go_at_fn f; refine Calls.quiet_of (hc _)))
            go_wp2_with fail
            have cj2 : (wr.drewN nq).cell? ⟨gd, jp + 1, none⟩ = some (.int .i64 xj) := cj
            have cp2 : (wr.drewN nq).cell? ⟨gd, jp, none⟩ = some (.int .i64 xp) := cp
            have fj2 : (wr.drewN nq).frozen? ⟨gd, jp + 1, none⟩ = false := fj
            have fp2 : (wr.drewN nq).frozen? ⟨gd, jp, none⟩ = false := fp
            have HSW2 := Aside0.mk (HSW.out nq)
            clear cj cp fj fp hc HSW
            generalize wr.drewN nq = wq at HSW2 cj2 cp2 fj2 fp2 ⊢
            obtain ⟨j1, hj1⟩ : ∃ j1, j1 = jp + 1 := ⟨_, rfl⟩
            rw [← hj1] at cj2 fj2 e0
            have J1 := Aside0.mk hj1
            clear hj1
            go_region
            all_goals go_wp2
            go_roundg jp
            case measure => omega
            case rel => exact ⟨jp, _, by go_num, by omega, by omega, Nat.le_refl _, ⟨by rw [J1.out]; exact HE.out.dr HSW2.out 1, HSTEP.out (by omega)⟩⟩
          · go_wp2_with fail
            go_quiet (first | (go_at_fn f; refine Calls.quiet_of (hc _)))
            go_wp2
            go_roundg (b - (i + 1))
            case measure => omega
            case rel => exact ⟨i + 1, dj, by go_num, by omega, by omega, by omega, ⟨HE.out.dr HS2.out _, HOUT.out (by omega)⟩⟩
        · obtain rfl : j = a := by omega
          have hjaz : decide ((j : Int) > (j : Int)) = false := decide_eq_false (by omega)
          have HOUT := Aside0.mk (HJ.out.2.done HI.out.2 haj hji hai (by omega) HA.out (.inl rfl))
          have HS2 := Aside0.mk HJ.out.1
          go_wp2_with fail
          go_region
          all_goals go_wp2
          go_roundg (b - (i + 1))
          case measure => omega
          case rel => exact ⟨i + 1, dj, by go_num, by omega, by omega, by omega, ⟨HE.out.dr HS2.out 1, HOUT.out⟩⟩
    · have hltz : ¬ (i : Int) < (b : Int) := by omega
      go_wp2
      go_end0
      refine ⟨rfl, dk, HI.out.1, ?_⟩
      have h := HI.out.2
      refine ⟨h.perm, fun k hk => ?_, fun p h1 h2 => ?_, fun p q h1 h2 h3 => h.srt p q h1 h2 (by omega)⟩
      · by_cases hka : k < a ∨ i ≤ k
        · exact h.out k hka
        · obtain ⟨q, q1, q2, q3⟩ := h.mem k (by omega) (by omega)
          rw [q3]
          congr 2
          omega
      · obtain ⟨q, q1, q2, q3⟩ := h.mem p h1 (by omega)
        exact ⟨q, q1, by omega, q3⟩
end Go.Proofs.Ytbelnopbggkdfaa
end

section
namespace Go.Proofs.Ytbelnopbggkdfaa
open Go.RowKit Go.Proofs.YtbelnopbggkdfaaW.PrintWords
variable {St : World → List Int → Prop} {gd n f : Nat} {cap : Array Value} {V : Int → Prop} {key : Int → Int}
/-- m numbers from a and m numbers from b change places. -/
structure SwR (a b m : Nat) (d d' : List Int) : Prop where
  perm : d'.Perm d
  lo : ∀ p q : Nat, a ≤ p → p < a + m → q + a = p + b → rd d' p = rd d q
  hi : ∀ p q : Nat, b ≤ p → p < b + m → q + b = p + a → rd d' p = rd d q
  out : ∀ p : Nat, (p < a ∨ a + m ≤ p) → (p < b ∨ b + m ≤ p) → rd d' p = rd d p
theorem SwR.start (a b : Nat) (d : List Int) : SwR a b 0 d d :=
  ⟨List.Perm.refl _, fun p q _ _ _ => by omega, fun p q _ _ _ => by omega, fun _ _ _ => rfl⟩
theorem SwR.step {a b m n : Nat} {d d' : List Int} (h : SwR a b m d d') (hl : d'.length = n) (hab : a + m < b) (hb : b + m < n) : SwR a b (m + 1) d (swapL d' (a + m) (b + m)) := by
  have e := fun k => swapL_rd d' (a + m) (b + m) k (by omega) (by omega)
  refine ⟨(swapL_perm d' _ _ (by omega) (by omega)).trans h.perm, fun p q h1 h2 h3 => ?_, fun p q h1 h2 h3 => ?_, fun p h1 h2 => ?_⟩
  · rw [e p, if_neg (by omega)]
    by_cases c : p = a + m
    · rw [if_pos c, show q = b + m by omega]
      exact h.out (b + m) (by omega) (by omega)
    · rw [if_neg c]
      exact h.lo p q h1 (by omega) h3
  · rw [e p]
    by_cases c : p = b + m
    · rw [if_pos c, show q = a + m by omega]
      exact h.out (a + m) (by omega) (by omega)
    · rw [if_neg c, if_neg (by omega)]
      exact h.hi p q h1 (by omega) h3
  · rw [e p, if_neg (by omega), if_neg (by omega)]
    exact h.out p (by omega) (by omega)
/-- The numbers from a to b turned about m. -/
structure Rot (a m b : Nat) (d d' : List Int) : Prop where
  perm : d'.Perm d
  lo : ∀ p q : Nat, a ≤ p → q < b → q + a = p + m → rd d' p = rd d q
  hi : ∀ p q : Nat, a ≤ q → q < m → p + m = q + b → rd d' p = rd d q
  out : ∀ p : Nat, p < a ∨ b ≤ p → rd d' p = rd d p
theorem Rot.left {i j m : Nat} {d d2 d' : List Int} (hi : i ≤ m) (hij : j < i) (hs : SwR (m - i) m j d d2) (h : Rot (m - (i - j)) m (m + j) d2 d') : Rot (m - i) m (m + j) d d' := by
  refine ⟨h.perm.trans hs.perm, fun p q h1 h2 h3 => ?_, fun p q h1 h2 h3 => ?_, fun p h1 => ?_⟩
  · rw [h.out p (by omega)]
    exact hs.lo p q h1 (by omega) (by omega)
  · by_cases c : q < m - i + j
    · rw [h.lo p (p + (i - j)) (by omega) (by omega) (by omega)]
      exact hs.hi (p + (i - j)) q (by omega) (by omega) (by omega)
    · rw [h.hi p q (by omega) h2 h3]
      exact hs.out q (by omega) (by omega)
  · rw [h.out p (by omega)]
    exact hs.out p (by omega) (by omega)
theorem Rot.right {i j m : Nat} {d d2 d' : List Int} (hi : i ≤ m) (hij : i < j) (hs : SwR (m - i) (m + j - i) i d d2) (h : Rot (m - i) m (m + (j - i)) d2 d') : Rot (m - i) m (m + j) d d' := by
  refine ⟨h.perm.trans hs.perm, fun p q h1 h2 h3 => ?_, fun p q h1 h2 h3 => ?_, fun p h1 => ?_⟩
  · by_cases c : q < m + (j - i)
    · rw [h.lo p q h1 c h3]
      exact hs.out q (by omega) (by omega)
    · rw [h.hi p (p + m - (m + (j - i))) (by omega) (by omega) (by omega)]
      exact hs.lo _ q (by omega) (by omega) (by omega)
  · rw [h.out p (by omega)]
    exact hs.hi p q (by omega) (by omega) (by omega)
  · rw [h.out p (by omega)]
    exact hs.out p (by omega) (by omega)
theorem Rot.last {i m : Nat} {d d' : List Int} (hi : i ≤ m) (hs : SwR (m - i) m i d d') : Rot (m - i) m (m + i) d d' :=
  ⟨hs.perm, fun p q h1 h2 h3 => hs.lo p q h1 (by omega) (by omega), fun p q h1 h2 h3 => hs.hi p q (by omega) (by omega) (by omega), fun p h1 => hs.out p (by omega) (by omega)⟩
set_option maxHeartbeats 4000000 in
set_option maxRecDepth 1000000 in
theorem swr_any (E : SortEnv St gd n f cap V key) {W : World} {d : List Int} (hS : St W d) (c a b m : Nat) (g : Value) (hab : a + m ≤ b) (hb : b + m ≤ n) :
    Calls Try.prog 102 #[.slice (some ⟨gd, 0, none⟩) n c, .int .i64 a, .int .i64 b, .int .i64 m, g] W fun e w' =>
      e = .returned (.tuple #[]) ∧ ∃ d', St w' d' ∧ SwR a b m d d' := by
  have h64 := E.n64
  have HE := Aside0.mk E
  have HS := Aside0.mk hS
  clear hS E
  go_enter Try.func102, Try.ntmps102
  go_wp2
  go_loopg [10] m (fun g1 vi wr => ∃ (i : Nat) (dk : List Int), vi = .int .i64 i ∧ i ≤ m ∧ m - i ≤ g1 ∧ Aside0 (St wr dk ∧ SwR a b i d dk))
  case atStart => exact ⟨0, d, rfl, by omega, by omega, ⟨HS.out, SwR.start _ _ _⟩⟩
  case round =>
    obtain ⟨i, dk, rfl, him, hg1, HI⟩ := hrel
    by_cases hlt : i < m
    · have hltz : (i : Int) < (m : Int) := by omega
      have hS2 := HI.out.1
      obtain ⟨ca, fa⟩ := HE.out.rd hS2 (a + i) (by omega)
      obtain ⟨cb, fb⟩ := HE.out.rd hS2 (b + i) (by omega)
      have HST := Aside0.mk (show SwR a b (i + 1) d (swapL dk (a + i) (b + i)) from HI.out.2.step (HE.out.len hS2) (by omega) (by omega))
      have HSW := Aside0.mk (show St ((wr.setCell ⟨gd, a + i, none⟩ (.int .i64 (rd dk ((b + i : Nat) : Int)))).setCell ⟨gd, b + i, none⟩ (.int .i64 (rd dk ((a + i : Nat) : Int)))) (swapL dk (a + i) (b + i)) from HE.out.wr (HE.out.wr hS2 (a + i) _ (by omega)) (b + i) _ (by omega))
      have e1 : (a : Int) + (i : Int) = ((a + i : Nat) : Int) := by omega
      have e2 : (b : Int) + (i : Int) = ((b + i : Nat) : Int) := by omega
      have l1 : ((a + i : Nat) : Int) < (n : Int) := by omega
      have l2 : ((b + i : Nat) : Int) < (n : Int) := by omega
      generalize rd dk ((a + i : Nat) : Int) = xa at ca HSW
      generalize rd dk ((b + i : Nat) : Int) = xb at cb HSW
      generalize a + i = pa at *
      generalize b + i = pb at *
      clear hS2
      go_wp2_with fail
      go_region
      all_goals go_wp2
      go_roundg (m - (i + 1))
      case measure => omega
      case rel => exact ⟨i + 1, _, by go_num, by omega, Nat.le_refl _, ⟨HE.out.dr HSW.out 1, HST.out⟩⟩
    · have hltz : ¬ (i : Int) < (m : Int) := by omega
      obtain rfl : i = m := by omega
      go_wp2
      go_end0
      exact ⟨rfl, dk, HI.out⟩
set_option maxHeartbeats 4000000 in
set_option maxRecDepth 1000000 in
theorem rot_any (E : SortEnv St gd n f cap V key) {W : World} {d : List Int} (hS : St W d) (c a b m : Nat) (g : Value) (ham : a < m) (hmb : m < b) (hb : b ≤ n) :
    Calls Try.prog 99 #[.slice (some ⟨gd, 0, none⟩) n c, .int .i64 a, .int .i64 m, .int .i64 b, g] W fun e w' =>
      e = .returned (.tuple #[]) ∧ ∃ d', St w' d' ∧ Rot a m b d d' := by
  have h64 := E.n64
  have HE := Aside0.mk E
  have HS := Aside0.mk hS
  have HC := fun {W d} (hS : St W d) => swr_any E hS c
  have HSR := Aside0.mk (show ∀ d', Rot (m - (m - a)) m (m + (b - m)) d d' → Rot a m b d d' from fun d' h => by rwa [show m - (m - a) = a by omega, show m + (b - m) = b by omega] at h)
  have e1 : (m : Int) - (a : Int) = ((m - a : Nat) : Int) := by omega
  have e2 : (b : Int) - (m : Int) = ((b - m : Nat) : Int) := by omega
  have hi0 : 0 < m - a := by omega
  have hj0 : 0 < b - m := by omega
  have hi1 : m - a ≤ m := by omega
  have hj1 : m + (b - m) ≤ n := by omega
  generalize m - a = i0 at e1 HSR hi0 hi1
  generalize b - m = j0 at e2 HSR hj0 hj1
  clear hS E
  go_enter Try.func99, Try.ntmps99
  go_wp2
  go_loopg [10, 11] (i0 + j0) (fun g1 vi vj wr => ∃ (i j : Nat) (dk : List Int), vi = .int .i64 i ∧ vj = .int .i64 j ∧ 0 < i ∧ 0 < j ∧ i ≤ m ∧ m + j ≤ n ∧ i + j ≤ g1 ∧ Aside0 (St wr dk ∧ ∀ d', Rot (m - i) m (m + j) dk d' → Rot a m b d d'))
  case atStart => exact ⟨i0, j0, d, rfl, rfl, hi0, hj0, hi1, hj1, Nat.le_refl _, ⟨HS.out, HSR.out⟩⟩
  case round =>
    obtain ⟨i, j, dk, rfl, rfl, hi0', hj0', him, hjn, hg1, HI⟩ := hrel
    have e3 : (m : Int) - (i : Int) = ((m - i : Nat) : Int) := by omega
    rcases Nat.lt_trichotomy i j with hij | hij | hij
    · have hc := HC HI.out.1 (m - i) (m + j - i) i g (by omega) (by omega)
      have HL := Aside0.mk (fun d2 (h : SwR (m - i) (m + j - i) i dk d2) d' h' => HI.out.2 d' (Rot.right him hij h h'))
      have e4 : (m : Int) + (j : Int) = ((m + j : Nat) : Int) := by omega
      have e5 : ((m + j : Nat) : Int) - (i : Int) = ((m + j - i : Nat) : Int) := by omega
      have e6 : (j : Int) - (i : Int) = ((j - i : Nat) : Int) := by omega
      have hgt : ¬ (j : Int) < (i : Int) := by omega
      have hne : ¬ i = j := by omega
      have b1 : m + j - i ≤ n := by omega
      have b2 : j - i ≤ n := by omega
      have b3 : 0 < j - i := by omega
      have b4 : m + (j - i) ≤ n := by omega
      have b5 : i + (j - i) < i + j := by omega
      generalize m + j - i = pj at hc HL e5 b1
      generalize m + j = pk at e4 e5 hjn
      generalize j - i = j2 at HL e6 b2 b3 b4 b5
      generalize hpm : m - i = pm at hc HL e3
      have HPM := Aside0.mk hpm
      clear hpm
      go_wp2_with (go_at_call 102; refine hc.mono ?_; rintro e w2 ⟨rfl, d2, hs2⟩; have HS2 := Aside0.mk hs2; clear hs2)
      go_roundg (i + j2)
      case measure => omega
      case rel => exact ⟨i, j2, d2, rfl, by go_num, hi0', b3, him, b4, Nat.le_refl _, ⟨HS2.out.1, by rw [HPM.out]; exact HL.out d2 HS2.out.2⟩⟩
    · subst hij
      have hc := HC HI.out.1 (m - i) m i g (by omega) hjn
      have HL := Aside0.mk (fun d' h => HI.out.2 d' (Rot.last (d := dk) (d' := d') him h))
      generalize hpm : m - i = pm at hc HL e3
      have HPM := Aside0.mk hpm
      clear hpm
      go_wp2_with (go_at_call 102; refine hc.mono ?_; rintro e w2 ⟨rfl, d2, hs2⟩; have HS2 := Aside0.mk hs2; clear hs2)
      go_end0
      exact ⟨rfl, d2, HS2.out.1, HL.out _ HS2.out.2⟩
    · have hc := HC HI.out.1 (m - i) m j g (by omega) (by omega)
      have HL := Aside0.mk (fun d2 (h : SwR (m - i) m j dk d2) d' h' => HI.out.2 d' (Rot.left him hij h h'))
      have e6 : (i : Int) - (j : Int) = ((i - j : Nat) : Int) := by omega
      have hgt : (j : Int) < (i : Int) := by omega
      have hne : ¬ i = j := by omega
      have b2 : i - j ≤ n := by omega
      have b3 : 0 < i - j := by omega
      have b4 : i - j ≤ m := by omega
      have b5 : (i - j) + j < i + j := by omega
      generalize i - j = i2 at HL e6 b2 b3 b4 b5
      generalize hpm : m - i = pm at hc HL e3
      have HPM := Aside0.mk hpm
      clear hpm
      go_wp2_with (go_at_call 102; refine hc.mono ?_; rintro e w2 ⟨rfl, d2, hs2⟩; have HS2 := Aside0.mk hs2; clear hs2)
      go_roundg (i2 + j)
      case measure => omega
      case rel => exact ⟨i2, j, d2, by go_num, rfl, b3, hj0', b4, hjn, Nat.le_refl _, ⟨HS2.out.1, HL.out d2 HS2.out.2⟩⟩
end Go.Proofs.Ytbelnopbggkdfaa
end

section
namespace Go.Proofs.Ytbelnopbggkdfaa
open Go.RowKit Go.Proofs.YtbelnopbggkdfaaW.PrintWords
variable {key : Int → Int}
/-- Two ordered parts; what stands in the left one is smaller as a number. -/
structure Pre (key : Int → Int) (a m b : Nat) (d : List Int) : Prop where
  sl : ∀ p q : Nat, a ≤ p → p < q → q < m → ltK key (rd d p) (rd d q)
  sr : ∀ p q : Nat, m ≤ p → p < q → q < b → ltK key (rd d p) (rd d q)
  asc : ∀ p q : Nat, a ≤ p → p < m → m ≤ q → q < b → rd d p < rd d q
/-- The part from a to b is in order and holds what it held. -/
structure Mrg (key : Int → Int) (a b : Nat) (d d' : List Int) : Prop where
  perm : d'.Perm d
  out : ∀ p : Nat, p < a ∨ b ≤ p → rd d' p = rd d p
  mem : ∀ p : Nat, a ≤ p → p < b → ∃ q : Nat, a ≤ q ∧ q < b ∧ rd d' p = rd d q
  srt : ∀ p q : Nat, a ≤ p → p < q → q < b → ltK key (rd d' p) (rd d' q)
theorem ltK_of_le {x y : Int} (h : key x ≤ key y) (h2 : x < y) : ltK key x y := by unfold ltK; omega
theorem ltK_key {x y : Int} (h : ltK key x y) : key x ≤ key y := by unfold ltK at h; omega
theorem Pre.keyl {a m b : Nat} {d : List Int} (h : Pre key a m b d) {p q : Nat} (h1 : a ≤ p) (h2 : p ≤ q) (h3 : q < m) : key (rd d p) ≤ key (rd d q) := by
  rcases Nat.lt_or_eq_of_le h2 with c | c
  · exact ltK_key (h.sl p q h1 c h3)
  · rw [c]; exact Int.le_refl _
theorem Pre.keyr {a m b : Nat} {d : List Int} (h : Pre key a m b d) {p q : Nat} (h1 : m ≤ p) (h2 : p ≤ q) (h3 : q < b) : key (rd d p) ≤ key (rd d q) := by
  rcases Nat.lt_or_eq_of_le h2 with c | c
  · exact ltK_key (h.sr p q h1 c h3)
  · rw [c]; exact Int.le_refl _
theorem Rot.refl {s m e : Nat} {d : List Int} (h : s = m ∨ e = m) (hs : s ≤ m) (he : m ≤ e) : Rot s m e d d :=
  ⟨List.Perm.refl _, fun p q h1 h2 h3 => by congr 2; omega, fun p q h1 h2 h3 => by congr 2; omega, fun _ _ => rfl⟩
/-- From where a number stands behind the turning: whence it came. -/
theorem Rot.from {s m e : Nat} {d d' : List Int} (h : Rot s m e d d') (_hs : s ≤ m) (_he : m ≤ e) (p : Nat) :
    (p < s ∨ e ≤ p) ∧ rd d' p = rd d p ∨ (s ≤ p ∧ p + m < s + e ∧ rd d' p = rd d ((p + m - s : Nat) : Int)) ∨ (s + e ≤ p + m ∧ p < e ∧ rd d' p = rd d ((p + m - e : Nat) : Int)) := by
  by_cases c1 : p < s ∨ e ≤ p
  · exact .inl ⟨c1, h.out p c1⟩
  · by_cases c2 : p + m < s + e
    · exact .inr (.inl ⟨by omega, c2, h.lo p _ (by omega) (by omega) (by omega)⟩)
    · exact .inr (.inr ⟨by omega, by omega, h.hi p _ (by omega) (by omega) (by omega)⟩)
/-- One turning orders the whole. -/
theorem Rot.merge {a s m e b : Nat} {d d' : List Int} (h : Rot s m e d d') (P : Pre key a m b d) (has : a ≤ s) (hs : s ≤ m) (he : m ≤ e) (heb : e ≤ b)
    (h1 : ∀ p q : Nat, a ≤ p → p < s → m ≤ q → q < b → ltK key (rd d p) (rd d q))
    (h2 : ∀ p q : Nat, s ≤ p → p < m → m ≤ q → q < e → ltK key (rd d q) (rd d p))
    (h3 : ∀ p q : Nat, s ≤ p → p < m → e ≤ q → q < b → ltK key (rd d p) (rd d q)) : Mrg key a b d d' := by
  refine ⟨h.perm, fun p c => h.out p (by omega), fun p c1 c2 => ?_, fun p q c1 c2 c3 => ?_⟩
  · rcases h.from hs he p with ⟨_, e1⟩ | ⟨_, _, e1⟩ | ⟨_, _, e1⟩
    · exact ⟨p, c1, c2, e1⟩
    · exact ⟨_, by omega, by omega, e1⟩
    · exact ⟨_, by omega, by omega, e1⟩
  · rcases h.from hs he p with ⟨o1, e1⟩ | ⟨o1, o2, e1⟩ | ⟨o1, o2, e1⟩ <;> rcases h.from hs he q with ⟨x1, f1⟩ | ⟨x1, x2, f1⟩ | ⟨x1, x2, f1⟩ <;> rw [e1, f1]
    · by_cases c4 : q < s
      · exact P.sl p q c1 c2 (by omega)
      · by_cases c5 : p < s
        · exact h1 p q c1 c5 (by omega) c3
        · exact P.sr p q (by omega) c2 c3
    · exact h1 p _ c1 (by omega) (by omega) (by omega)
    · exact P.sl p _ c1 (by omega) (by omega)
    · exact P.sr _ q (by omega) (by omega) c3
    · exact P.sr _ _ (by omega) (by omega) (by omega)
    · exact h2 _ _ (by omega) (by omega) (by omega) (by omega)
    · exact h3 _ q (by omega) (by omega) (by omega) c3
    · omega
    · exact P.sl _ _ (by omega) (by omega) (by omega)
/-- The halves behind the main turning. -/
theorem Rot.halves {a s m e b mid : Nat} {d d' : List Int} (h : Rot s m e d d') (P : Pre key a m b d) (has : a ≤ s) (hs : s ≤ m) (he : m ≤ e) (heb : e ≤ b) (hmid : mid + m = s + e)
    (h1 : ∀ p q : Nat, a ≤ p → p < s → e ≤ q → q < b → ltK key (rd d p) (rd d q))
    (h2 : ∀ p q : Nat, s ≤ p → p < m → m ≤ q → q < e → ltK key (rd d q) (rd d p)) :
    Pre key a s mid d' ∧ Pre key mid e b d' ∧ ∀ p q : Nat, a ≤ p → p < mid → mid ≤ q → q < b → ltK key (rd d' p) (rd d' q) := by
  have lo : ∀ p : Nat, s ≤ p → p < mid → rd d' p = rd d ((p + m - s : Nat) : Int) := fun p c1 c2 => h.lo p _ c1 (by omega) (by omega)
  have hi : ∀ p : Nat, mid ≤ p → p < e → rd d' p = rd d ((p + m - e : Nat) : Int) := fun p c1 c2 => h.hi p _ (by omega) (by omega) (by omega)
  refine ⟨⟨fun p q c1 c2 c3 => ?_, fun p q c1 c2 c3 => ?_, fun p q c1 c2 c3 c4 => ?_⟩, ⟨fun p q c1 c2 c3 => ?_, fun p q c1 c2 c3 => ?_, fun p q c1 c2 c3 c4 => ?_⟩, fun p q c1 c2 c3 c4 => ?_⟩
  · rw [h.out p (by omega), h.out q (by omega)]; exact P.sl p q c1 c2 (by omega)
  · rw [lo p c1 (by omega), lo q (by omega) c3]; exact P.sr _ _ (by omega) (by omega) (by omega)
  · rw [h.out p (by omega), lo q c3 c4]; exact P.asc _ _ c1 (by omega) (by omega) (by omega)
  · rw [hi p c1 (by omega), hi q (by omega) c3]; exact P.sl _ _ (by omega) (by omega) (by omega)
  · rw [h.out p (by omega), h.out q (by omega)]; exact P.sr p q (by omega) c2 c3
  · rw [hi p c1 c2, h.out q (by omega)]; exact P.asc _ _ (by omega) (by omega) (by omega) c4
  · by_cases c5 : p < s
    · rw [h.out p (by omega)]
      by_cases c6 : q < e
      · rw [hi q c3 c6]; exact P.sl _ _ c1 (by omega) (by omega)
      · rw [h.out q (by omega)]; exact h1 p q c1 c5 (by omega) c4
    · rw [lo p (by omega) c2]
      by_cases c6 : q < e
      · rw [hi q c3 c6]; exact h2 _ _ (by omega) (by omega) (by omega) (by omega)
      · rw [h.out q (by omega)]; exact P.sr _ _ (by omega) (by omega) c4
theorem Mrg.join {a mid b : Nat} {d d1 d2 d3 : List Int} (ham : a ≤ mid) (hmb : mid ≤ b) (hp : d1.Perm d) (ho : ∀ p : Nat, p < a ∨ b ≤ p → rd d1 p = rd d p) (hm : ∀ p : Nat, a ≤ p → p < b → ∃ q : Nat, a ≤ q ∧ q < b ∧ rd d1 p = rd d q)
    (hx : ∀ p q : Nat, a ≤ p → p < mid → mid ≤ q → q < b → ltK key (rd d1 p) (rd d1 q)) (h1 : Mrg key a mid d1 d2) (h2 : Mrg key mid b d2 d3) : Mrg key a b d d3 := by
  refine ⟨h2.perm.trans (h1.perm.trans hp), fun p c => ?_, fun p c1 c2 => ?_, fun p q c1 c2 c3 => ?_⟩
  · rw [h2.out p (by omega), h1.out p (by omega)]; exact ho p c
  · by_cases c : p < mid
    · rw [h2.out p (by omega)]
      obtain ⟨q, q1, q2, q3⟩ := h1.mem p c1 c
      rw [q3]
      exact hm q q1 (by omega)
    · obtain ⟨q, q1, q2, q3⟩ := h2.mem p (by omega) c2
      rw [q3, h1.out q (by omega)]
      exact hm q (by omega) q2
  · by_cases c : q < mid
    · rw [h2.out p (by omega), h2.out q (by omega)]; exact h1.srt p q c1 c2 c
    · by_cases c' : p < mid
      · rw [h2.out p (by omega)]
        obtain ⟨p', p1, p2, p3⟩ := h1.mem p c1 c'
        obtain ⟨q', q1, q2, q3⟩ := h2.mem q (by omega) c3
        rw [p3, q3, h1.out q' (by omega)]
        exact hx p' q' p1 p2 q1 q2
      · exact h2.srt p q (by omega) c2 c3
theorem Mrg.refl {a b : Nat} {d : List Int} (h : ∀ p q : Nat, a ≤ p → p < q → q < b → ltK key (rd d p) (rd d q)) : Mrg key a b d d :=
  ⟨List.Perm.refl _, fun _ _ => rfl, fun p c1 c2 => ⟨p, c1, c2, rfl⟩, h⟩
theorem Rot.mem {a s m e b : Nat} {d d' : List Int} (h : Rot s m e d d') (has : a ≤ s) (hs : s ≤ m) (he : m ≤ e) (heb : e ≤ b) (p : Nat) (c1 : a ≤ p) (c2 : p < b) : ∃ q : Nat, a ≤ q ∧ q < b ∧ rd d' p = rd d q := by
  rcases h.from hs he p with ⟨_, e1⟩ | ⟨_, _, e1⟩ | ⟨_, _, e1⟩
  · exact ⟨p, c1, c2, e1⟩
  · exact ⟨_, by omega, by omega, e1⟩
  · exact ⟨_, by omega, by omega, e1⟩
end Go.Proofs.Ytbelnopbggkdfaa
end

section
namespace Go.Proofs.Ytbelnopbggkdfaa
open Go.RowKit Go.Proofs.YtbelnopbggkdfaaW.PrintWords
variable {St : World → List Int → Prop} {gd n f : Nat} {cap : Array Value} {V : Int → Prop} {key : Int → Int}
theorem Rot.up {a k n : Nat} {d dk : List Int} (h : Rot a (a + 1) (k + 1) d dk) (hl : dk.length = n) (ha : a ≤ k) (hk : k + 1 < n) : Rot a (a + 1) (k + 2) d (swapL dk k (k + 1)) := by
  have e := fun p => swapL_rd dk k (k + 1) p (by omega) (by omega)
  refine ⟨(swapL_perm dk _ _ (by omega) (by omega)).trans h.perm, fun p q h1 h2 h3 => ?_, fun p q h1 h2 h3 => ?_, fun p h1 => ?_⟩
  · rw [e p, if_neg (by omega)]
    by_cases c : p = k
    · rw [if_pos c, h.out _ (by omega)]
      congr 2
      omega
    · rw [if_neg c]
      exact h.lo p q h1 (by omega) h3
  · rw [e p, if_pos (by omega)]
    exact h.hi k q h1 h2 (by omega)
  · rw [e p, if_neg (by omega), if_neg (by omega)]
    exact h.out p (by omega)
theorem Rot.down {m k n : Nat} {d dk : List Int} (h : Rot (k + 1) m (m + 1) d dk) (hl : dk.length = n) (hk : k < m) (hm : m < n) : Rot k m (m + 1) d (swapL dk (k + 1) k) := by
  have e := fun p => swapL_rd dk (k + 1) k p (by omega) (by omega)
  refine ⟨(swapL_perm dk _ _ (by omega) (by omega)).trans h.perm, fun p q h1 h2 h3 => ?_, fun p q h1 h2 h3 => ?_, fun p h1 => ?_⟩
  · rw [e p, if_pos (by omega)]
    exact h.lo (k + 1) q (Nat.le_refl _) h2 (by omega)
  · rw [e p, if_neg (by omega)]
    by_cases c : p = k + 1
    · rw [if_pos c, h.out k (by omega)]
      congr 2
      omega
    · rw [if_neg c]
      exact h.hi p q (by omega) h2 h3
  · rw [e p, if_neg (by omega), if_neg (by omega)]
    exact h.out p (by omega)
set_option maxHeartbeats 4000000 in
set_option maxRecDepth 1000000 in
theorem sym_one (E : SortEnv St gd n f cap V key) {W : World} {d : List Int} (hS : St W d) (c a m b : Nat) (ham : m = a + 1) (hmb : m < b) (hb : b ≤ n) (hV : ∀ i : Nat, i < n → V (rd d i)) (P : Pre key a m b d) :
    Calls Try.prog 95 #[.slice (some ⟨gd, 0, none⟩) n c, .int .i64 a, .int .i64 m, .int .i64 b, .func (.func f) #[] cap] W fun e w' =>
      e = .returned (.tuple #[]) ∧ ∃ d', St w' d' ∧ Mrg key a b d d' := by
  have h64 := E.n64
  have eg := E.eg
  have HE := Aside0.mk E
  have HV := Aside0.mk hV
  have HP := Aside0.mk P
  have HS := Aside0.mk hS
  have HAM := Aside0.mk ham
  have hone : (m : Int) - (a : Int) = 1 := by omega
  have hand : a < m := by omega
  clear hS hV E P ham
  go_enter Try.func95, Try.ntmps95
  go_wp2
  go_loopg [10, 11] (b - m) (fun g1 vi vj wr => ∃ (i j : Nat), vi = .int .i64 i ∧ vj = .int .i64 j ∧ m ≤ i ∧ i ≤ j ∧ j ≤ b ∧ j - i ≤ g1 ∧ Aside0 (St wr d ∧ (∀ p : Nat, m ≤ p → p < i → key (rd d p) < key (rd d a)) ∧ (∀ p : Nat, j ≤ p → p < b → key (rd d a) ≤ key (rd d p))))
  case atStart => exact ⟨m, b, rfl, rfl, Nat.le_refl _, by omega, Nat.le_refl _, Nat.le_refl _, ⟨HS.out, fun p h1 h2 => by omega, fun p h1 h2 => by omega⟩⟩
  case round =>
    obtain ⟨i, j, rfl, rfl, hmi, hij, hjb, hg1, HI⟩ := hrel
    by_cases hlt : i < j
    · have hltz : (i : Int) < (j : Int) := by omega
      obtain ⟨h, hh⟩ : ∃ h, h = (i + j) / 2 := ⟨_, rfl⟩
      have b1 : i ≤ h := by omega
      have b2 : h < j := by omega
      have e1 : ((i : Int) + (j : Int)) / 2 = (h : Int) := by omega
      clear hh
      have hS2 := HI.out.1
      obtain ⟨ch, fh⟩ := HE.out.rd hS2 h (by omega)
      obtain ⟨ca, fa⟩ := HE.out.rd hS2 a (by omega)
      have hc := fun q => HE.out.cmp (HE.out.dr hS2 q) _ _ (HV.out h (by omega)) (HV.out a (by omega))
      have HLO := Aside0.mk (show key (rd d h) < key (rd d a) → ∀ p : Nat, m ≤ p → p < h + 1 → key (rd d p) < key (rd d a) from fun hk p p1 p2 => by have := HP.out.keyr p1 (show p ≤ h by omega) (by omega); omega)
      have HHI := Aside0.mk (show key (rd d a) ≤ key (rd d h) → ∀ p : Nat, h ≤ p → p < b → key (rd d a) ≤ key (rd d p) from fun hk p p1 p2 => by have := HP.out.keyr (show m ≤ h by omega) p1 p2; omega)
      have l1 : (h : Int) < (n : Int) := by omega
      have l2 : (a : Int) < (n : Int) := by omega
      have l3 : (h : Int) + 1 ≤ (n : Int) := by omega
      clear hS2
      generalize rd d (h : Int) = xh at ch hc HLO HHI
      generalize hxa : rd d (a : Int) = xa at ca hc HLO HHI
      have HXA := Aside0.mk hxa
      clear hxa
      by_cases hlv : key xh - key xa < 0
      · go_wp2_with fail
        go_quiet (first | (go_at_fn f; refine Calls.quiet_of (hc _)))
        go_wp2
        go_roundg (j - (h + 1))
        case measure => omega
        case rel => exact ⟨h + 1, j, by go_num, rfl, by omega, by omega, hjb, Nat.le_refl _, ⟨HE.out.dr HI.out.1 _, by rw [HXA.out]; exact HLO.out (by omega), HI.out.2.2⟩⟩
      · go_wp2_with fail
        go_quiet (first | (go_at_fn f; refine Calls.quiet_of (hc _)))
        go_wp2
        go_roundg (h - i)
        case measure => omega
        case rel => exact ⟨i, h, rfl, rfl, hmi, b1, by omega, Nat.le_refl _, ⟨HE.out.dr HI.out.1 _, HI.out.2.1, by rw [HXA.out]; exact HHI.out (by omega)⟩⟩
    · obtain rfl : i = j := by omega
      have HI' := Aside0.mk HI.out
      obtain ⟨ip, rfl⟩ : ∃ ip, i = ip + 1 := ⟨i - 1, by omega⟩
      have hap : a ≤ ip := by have := HAM.out; omega
      go_wp2_with fail
      go_loopg [13] (ip - a) (fun g1 vk wr => ∃ (k : Nat) (dk : List Int), vk = .int .i64 k ∧ a ≤ k ∧ k ≤ ip ∧ ip - k ≤ g1 ∧ Aside0 (St wr dk ∧ Rot a (a + 1) (k + 1) d dk))
      case atStart => exact ⟨a, d, rfl, Nat.le_refl _, hap, Nat.le_refl _, ⟨HI.out.1, Rot.refl (.inr rfl) (by omega) (by omega)⟩⟩
      case round =>
        obtain ⟨k, dk, rfl, hak, hki, hg2, HK⟩ := hrel
        by_cases hlt2 : k < ip
        · have hltz2 : (k : Int) < (ip : Int) := by omega
          have hS2 := HK.out.1
          obtain ⟨ck, fk⟩ := HE.out.rd hS2 k (by omega)
          obtain ⟨cl, fl⟩ := HE.out.rd hS2 (k + 1) (by omega)
          have HST := Aside0.mk (HK.out.2.up (HE.out.len hS2) hak (by omega))
          have HSW := Aside0.mk (show St ((wr.setCell ⟨gd, k, none⟩ (.int .i64 (rd dk ((k + 1 : Nat) : Int)))).setCell ⟨gd, k + 1, none⟩ (.int .i64 (rd dk (k : Int)))) (swapL dk k (k + 1)) from HE.out.wr (HE.out.wr hS2 k _ (by omega)) (k + 1) _ (by omega))
          have e3 : (k : Int) + 1 = ((k + 1 : Nat) : Int) := by omega
          have l1 : (k : Int) < (n : Int) := by omega
          have l2 : ((k + 1 : Nat) : Int) < (n : Int) := by omega
          generalize rd dk (k : Int) = xa at ck HSW
          generalize rd dk ((k + 1 : Nat) : Int) = xb at cl HSW
          generalize hk1 : k + 1 = k1 at e3 l2 ck cl HSW HST fl
          have HK1 := Aside0.mk hk1
          clear hk1 hS2
          go_wp2_with fail
          go_region
          all_goals go_wp2
          go_roundg (ip - (k + 1))
          case measure => omega
          case rel => exact ⟨k1, _, by go_num, by have := HK1.out; omega, by have := HK1.out; omega, by have := HK1.out; omega, ⟨HE.out.dr HSW.out 1, by rw [← HK1.out]; rw [← HK1.out] at HST; exact HST.out⟩⟩
        · obtain rfl : k = ip := by omega
          go_wp2
          (try simp only [Exit.inBlock, Exit.then]); refine bodyPost_ret (results_none rfl _ _ _) rfl ?_
          have ham := HAM.out
          subst ham
          refine ⟨rfl, dk, HK.out.1, HK.out.2.merge HP.out (Nat.le_refl _) (by omega) (by omega) (by omega) (fun p q h1 h2 => by omega) (fun p q h1 h2 h3 h4 => ?_) (fun p q h1 h2 h3 h4 => ?_)⟩
          · obtain rfl : p = a := by omega
            exact .inl (HI'.out.2.1 q h3 h4)
          · obtain rfl : p = a := by omega
            exact ltK_of_le (HI'.out.2.2 q h3 h4) (HP.out.asc p q (Nat.le_refl _) h2 (by omega) h4)
end Go.Proofs.Ytbelnopbggkdfaa
end

section
namespace Go.Proofs.Ytbelnopbggkdfaa
open Go.RowKit Go.Proofs.YtbelnopbggkdfaaW.PrintWords
variable {St : World → List Int → Prop} {gd n f : Nat} {cap : Array Value} {V : Int → Prop} {key : Int → Int}
set_option maxHeartbeats 4000000 in
set_option maxRecDepth 1000000 in
theorem sym_two (E : SortEnv St gd n f cap V key) {W : World} {d : List Int} (hS : St W d) (c a m b : Nat) (ham : a + 1 < m) (hmb : b = m + 1) (hb : b ≤ n) (hV : ∀ i : Nat, i < n → V (rd d i)) (P : Pre key a m b d) :
    Calls Try.prog 95 #[.slice (some ⟨gd, 0, none⟩) n c, .int .i64 a, .int .i64 m, .int .i64 b, .func (.func f) #[] cap] W fun e w' =>
      e = .returned (.tuple #[]) ∧ ∃ d', St w' d' ∧ Mrg key a b d d' := by
  have h64 := E.n64
  have eg := E.eg
  have HE := Aside0.mk E
  have HV := Aside0.mk hV
  have HP := Aside0.mk P
  have HS := Aside0.mk hS
  have HMB := Aside0.mk hmb
  have hn1 : ¬ (m : Int) - (a : Int) = 1 := by omega
  have hn1' : ((m : Int) - (a : Int) == 1) = false := beq_false_of_ne hn1
  have hone : (b : Int) - (m : Int) = 1 := by omega
  have hn2 : (a : Int) ≤ (m : Int) := by omega
  have hn3 : (m : Int) ≤ (b : Int) := by omega
  have hn4 : (b : Int) ≤ (n : Int) := by omega
  clear hS hV E P hmb
  go_enter Try.func95, Try.ntmps95
  go_wp2
  go_loopg [14, 15] (m - a) (fun g1 vi vj wr => ∃ (i j : Nat), vi = .int .i64 i ∧ vj = .int .i64 j ∧ a ≤ i ∧ i ≤ j ∧ j ≤ m ∧ j - i ≤ g1 ∧ Aside0 (St wr d ∧ (∀ p : Nat, a ≤ p → p < i → key (rd d p) ≤ key (rd d m)) ∧ (∀ p : Nat, j ≤ p → p < m → key (rd d m) < key (rd d p))))
  case atStart => exact ⟨a, m, rfl, rfl, Nat.le_refl _, by omega, Nat.le_refl _, Nat.le_refl _, ⟨HS.out, fun p h1 h2 => by omega, fun p h1 h2 => by omega⟩⟩
  case round =>
    obtain ⟨i, j, rfl, rfl, hmi, hij, hjb, hg1, HI⟩ := hrel
    by_cases hlt : i < j
    · have hltz : (i : Int) < (j : Int) := by omega
      obtain ⟨h, hh⟩ : ∃ h, h = (i + j) / 2 := ⟨_, rfl⟩
      have b1 : i ≤ h := by omega
      have b2 : h < j := by omega
      have e1 : ((i : Int) + (j : Int)) / 2 = (h : Int) := by omega
      clear hh
      have hS2 := HI.out.1
      obtain ⟨ch, fh⟩ := HE.out.rd hS2 h (by omega)
      obtain ⟨ca, fa⟩ := HE.out.rd hS2 m (by omega)
      have hc := fun q => HE.out.cmp (HE.out.dr hS2 q) _ _ (HV.out m (by omega)) (HV.out h (by omega))
      have HLO := Aside0.mk (show key (rd d h) ≤ key (rd d m) → ∀ p : Nat, a ≤ p → p < h + 1 → key (rd d p) ≤ key (rd d m) from fun hk p p1 p2 => by have := HP.out.keyl p1 (show p ≤ h by omega) (by omega); omega)
      have HHI := Aside0.mk (show key (rd d m) < key (rd d h) → ∀ p : Nat, h ≤ p → p < m → key (rd d m) < key (rd d p) from fun hk p p1 p2 => by have := HP.out.keyl (show a ≤ h by omega) p1 p2; omega)
      have l1 : (h : Int) < (n : Int) := by omega
      have l2 : (m : Int) < (n : Int) := by omega
      have l3 : (h : Int) + 1 ≤ (n : Int) := by omega
      clear hS2
      generalize rd d (h : Int) = xh at ch hc HLO HHI
      generalize hxa : rd d (m : Int) = xa at ca hc HLO HHI
      have HXA := Aside0.mk hxa
      clear hxa
      by_cases hlv : key xa - key xh < 0
      · go_wp2_with fail
        go_quiet (first | (go_at_fn f; refine Calls.quiet_of (hc _)))
        go_wp2
        go_roundg (h - i)
        case measure => omega
        case rel => exact ⟨i, h, rfl, rfl, hmi, b1, by omega, Nat.le_refl _, ⟨HE.out.dr HI.out.1 _, HI.out.2.1, by rw [HXA.out]; exact HHI.out (by omega)⟩⟩
      · have hlv2 : decide (key xa - key xh < 0) = false := decide_eq_false hlv
        go_wp2_with fail
        go_quiet (first | (go_at_fn f; refine Calls.quiet_of (hc _)))
        go_wp2
        go_roundg (j - (h + 1))
        case measure => omega
        case rel => exact ⟨h + 1, j, by go_num, rfl, by omega, by omega, hjb, Nat.le_refl _, ⟨HE.out.dr HI.out.1 _, by rw [HXA.out]; exact HLO.out (by omega), HI.out.2.2⟩⟩
    · obtain rfl : i = j := by omega
      have HI' := Aside0.mk HI.out
      go_wp2_with fail
      go_loopg [17] (m - i) (fun g1 vk wr => ∃ (k : Nat) (dk : List Int), vk = .int .i64 k ∧ i ≤ k ∧ k ≤ m ∧ k - i ≤ g1 ∧ Aside0 (St wr dk ∧ Rot k m (m + 1) d dk))
      case atStart => exact ⟨m, d, rfl, hjb, Nat.le_refl _, Nat.le_refl _, ⟨HI.out.1, Rot.refl (.inl rfl) (by omega) (by omega)⟩⟩
      case round =>
        obtain ⟨k, dk, rfl, hik, hkm, hg2, HK⟩ := hrel
        by_cases hlt2 : i < k
        · obtain ⟨kp, rfl⟩ : ∃ kp, k = kp + 1 := ⟨k - 1, by omega⟩
          have hS2 := HK.out.1
          obtain ⟨ck, fk⟩ := HE.out.rd hS2 kp (by omega)
          obtain ⟨cl, fl⟩ := HE.out.rd hS2 (kp + 1) (by omega)
          have HST := Aside0.mk (HK.out.2.down (HE.out.len hS2) (by omega) (by omega))
          have HSW := Aside0.mk (show St ((wr.setCell ⟨gd, kp + 1, none⟩ (.int .i64 (rd dk (kp : Int)))).setCell ⟨gd, kp, none⟩ (.int .i64 (rd dk ((kp + 1 : Nat) : Int)))) (swapL dk (kp + 1) kp) from HE.out.wr (HE.out.wr hS2 (kp + 1) _ (by omega)) kp _ (by omega))
          have l1 : (kp : Int) < (n : Int) := by omega
          have l2 : ((kp + 1 : Nat) : Int) < (n : Int) := by omega
          have e3 : ((kp + 1 : Nat) : Int) - 1 = (kp : Int) := by omega
          have hltz2 : (i : Int) < ((kp + 1 : Nat) : Int) := by omega
          generalize rd dk (kp : Int) = xa at ck HSW
          generalize rd dk ((kp + 1 : Nat) : Int) = xb at cl HSW
          generalize hk1 : kp + 1 = k1 at *
          have HK1 := Aside0.mk hk1
          clear hk1 hS2
          go_wp2_with fail
          go_region
          all_goals go_wp2
          go_roundg (kp - i)
          case measure => have := HK1.out; omega
          case rel => exact ⟨kp, _, by go_num, by have := HK1.out; omega, by have := HK1.out; omega, Nat.le_refl _, ⟨HE.out.dr HSW.out 1, HST.out⟩⟩
        · obtain rfl : k = i := by omega
          go_wp2
          (try simp only [Exit.inBlock, Exit.then]); refine bodyPost_ret (results_none rfl _ _ _) rfl ?_
          have hmb := HMB.out
          subst hmb
          refine ⟨rfl, dk, HK.out.1, HK.out.2.merge HP.out (by omega) (by omega) (by omega) (Nat.le_refl _) (fun p q h1 h2 h3 h4 => ?_) (fun p q h1 h2 h3 h4 => ?_) (fun p q h1 h2 h3 h4 => by omega)⟩
          · obtain rfl : q = m := by omega
            exact ltK_of_le (HI'.out.2.1 p h1 h2) (HP.out.asc p q h1 (by omega) (Nat.le_refl _) h4)
          · obtain rfl : q = m := by omega
            exact .inl (HI'.out.2.2 p h1 h2)
end Go.Proofs.Ytbelnopbggkdfaa
end

section
namespace Go.Proofs.Ytbelnopbggkdfaa
open Go.RowKit Go.Proofs.YtbelnopbggkdfaaW.PrintWords
variable {St : World → List Int → Prop} {gd n f : Nat} {cap : Array Value} {V : Int → Prop} {key : Int → Int}
/-- What the search between the parts has found. -/
theorem sym_cross {a m b mid s0 r0 s e : Nat} {d : List Int} (P : Pre key a m b d) (hc : (mid < m ∧ s0 + b = mid + m ∧ r0 = mid) ∨ (m ≤ mid ∧ s0 = a ∧ r0 = m)) (hmid : mid = (a + b) / 2) (_ : a < m) (_ : m < b)
    (h0 : s0 ≤ s) (h1 : s ≤ r0) (he : e + s = mid + m) (lo : ∀ q : Nat, s0 ≤ q → q < s → key (rd d q) ≤ key (rd d ((mid + m - 1 - q : Nat) : Int))) (hi : ∀ q : Nat, s ≤ q → q < r0 → key (rd d ((mid + m - 1 - q : Nat) : Int)) < key (rd d q)) :
    a ≤ s ∧ s ≤ m ∧ m ≤ e ∧ e ≤ b ∧ (∀ p q : Nat, a ≤ p → p < s → e ≤ q → q < b → ltK key (rd d p) (rd d q)) ∧ (∀ p q : Nat, s ≤ p → p < m → m ≤ q → q < e → ltK key (rd d q) (rd d p)) := by
  refine ⟨by omega, by omega, by omega, by omega, fun p q c1 c2 c3 c4 => ?_, fun p q c1 c2 c3 c4 => ?_⟩
  · have hs : s0 < s := by omega
    have h := lo (s - 1) (by omega) (by omega)
    rw [show mid + m - 1 - (s - 1) = e by omega] at h
    have k1 := P.keyl c1 (show p ≤ s - 1 by omega) (by omega)
    have k2 := P.keyr (show m ≤ e by omega) c3 c4
    exact ltK_of_le (by omega) (P.asc p q c1 (by omega) (by omega) c4)
  · have hs : s < r0 := by omega
    have h := hi s (Nat.le_refl _) hs
    rw [show mid + m - 1 - s = e - 1 by omega] at h
    have k1 := P.keyr c3 (show q ≤ e - 1 by omega) (by omega)
    have k2 := P.keyl (show a ≤ s by omega) c1 c2
    exact .inl (by omega)
/-- What a merge of a part asks and gives, wherever it stands. -/
def SymOk (St : World → List Int → Prop) (gd n f : Nat) (cap : Array Value) (V : Int → Prop) (key : Int → Int) (c a m b : Nat) : Prop :=
  ∀ {W : World} {d : List Int}, St W d → (∀ i : Nat, i < n → V (rd d i)) → Pre key a m b d →
    Calls Try.prog 95 #[.slice (some ⟨gd, 0, none⟩) n c, .int .i64 a, .int .i64 m, .int .i64 b, .func (.func f) #[] cap] W fun e w' =>
      e = .returned (.tuple #[]) ∧ ∃ d', St w' d' ∧ Mrg key a b d d'
set_option maxHeartbeats 8000000 in
set_option maxRecDepth 1000000 in
theorem sym_hi (E : SortEnv St gd n f cap V key) (c a m b mid : Nat) (hmid : mid = (a + b) / 2) (ham : a + 1 < m) (hmb : m + 1 < b) (hb : b ≤ n) (hsel : mid < m)
    (ih1 : ∀ s, a < s → s < mid → SymOk St gd n f cap V key c a s mid) (ih2 : ∀ s, mid < s → s < b → SymOk St gd n f cap V key c mid s b) : SymOk St gd n f cap V key c a m b := by
  intro W d hS hV P
  have h64 := E.n64
  have eg := E.eg
  have HROT := Aside0.mk (fun {W d} (hS : St W d) => rot_any E hS c)
  have HE := Aside0.mk E
  have HV := Aside0.mk hV
  have HP := Aside0.mk P
  have HS := Aside0.mk hS
  have H1 := Aside0.mk @ih1
  have H2 := Aside0.mk @ih2
  obtain ⟨nn, hnn⟩ : ∃ nn, nn = mid + m := ⟨_, rfl⟩
  obtain ⟨s0, hs0⟩ : ∃ s0, s0 = mid + m - b := ⟨_, rfl⟩
  have hn1 : ¬ (m : Int) - (a : Int) = 1 := by omega
  have hn1' : ((m : Int) - (a : Int) == 1) = false := beq_false_of_ne hn1
  have hn2 : ¬ (b : Int) - (m : Int) = 1 := by omega
  have hn2' : ((b : Int) - (m : Int) == 1) = false := beq_false_of_ne hn2
  have hn3 : (a : Int) ≤ (m : Int) := by omega
  have hn4 : (m : Int) ≤ (b : Int) := by omega
  have hn5 : (b : Int) ≤ (n : Int) := by omega
  have em : ((a : Int) + (b : Int)) / 2 = (mid : Int) := by omega
  have en : (mid : Int) + (m : Int) = (nn : Int) := by omega
  have ep : (nn : Int) - 1 = ((nn - 1 : Nat) : Int) := by omega
  have hsl : (mid : Int) < (m : Int) := by omega
  have es : (nn : Int) - (b : Int) = (s0 : Int) := by omega
  have b1 : s0 ≤ mid := by omega
  have b2 : mid ≤ m := by omega
  have b3 : a ≤ s0 := by omega
  have b4 : nn ≤ 2 * n := by omega
  have b5 : mid ≤ mid := by omega
  have b6 : mid < b := by omega
  have b7 : a < mid := by omega
  have HC := Aside0.mk (show (∀ q : Nat, s0 ≤ q → q < mid → m ≤ nn - 1 - q ∧ nn - 1 - q < b ∧ a ≤ q ∧ q < m) from fun q q1 q2 => by omega)
  have HX := Aside0.mk (fun s e h0 h1 he lo hi => sym_cross (s := s) (e := e) (r0 := mid) P (show (mid < m ∧ s0 + b = mid + m ∧ mid = mid) ∨ (m ≤ mid ∧ s0 = a ∧ mid = m) by omega) hmid (by omega) (by omega) h0 h1 he lo hi)
  rw [← hnn] at HX
  generalize hp : nn - 1 = p at ep HC HX
  have hpn : p < nn := by omega
  have hpb : p + 1 = nn := by omega
  have HP1 := Aside0.mk hpb
  have HNN := Aside0.mk hnn
  clear hpb hp hnn hs0 hmid hsel hS hV E P ih1 ih2
  go_enter Try.func95, Try.ntmps95
  go_wp2
  go_loopg [20, 21] (mid - s0) (fun g1 vi vj wr => ∃ (i j : Nat), vi = .int .i64 i ∧ vj = .int .i64 j ∧ s0 ≤ i ∧ i ≤ j ∧ j ≤ mid ∧ j - i ≤ g1 ∧ Aside0 (St wr d ∧ (∀ q : Nat, s0 ≤ q → q < i → key (rd d q) ≤ key (rd d ((p - q : Nat) : Int))) ∧ (∀ q : Nat, j ≤ q → q < mid → key (rd d ((p - q : Nat) : Int)) < key (rd d q))))
  case atStart => exact ⟨s0, mid, rfl, rfl, Nat.le_refl _, b1, Nat.le_refl _, Nat.le_refl _, ⟨HS.out, fun p h1 h2 => by omega, fun p h1 h2 => by omega⟩⟩
  case round =>
    obtain ⟨i, j, rfl, rfl, hmi, hij, hjb, hg1, HI⟩ := hrel
    by_cases hlt : i < j
    · have hltz : (i : Int) < (j : Int) := by omega
      obtain ⟨h, hh⟩ : ∃ h, h = (i + j) / 2 := ⟨_, rfl⟩
      have d1 : i ≤ h := by omega
      have d2 : h < j := by omega
      have e1 : ((i : Int) + (j : Int)) / 2 = (h : Int) := by omega
      clear hh
      have hS2 := HI.out.1
      have hC := HC.out h (by omega) (by omega)
      have e2 : (p : Int) - (h : Int) = ((p - h : Nat) : Int) := by omega
      obtain ⟨ch, fh⟩ := HE.out.rd hS2 h (by omega)
      obtain ⟨ca, fa⟩ := HE.out.rd hS2 (p - h) (by omega)
      have hc := fun q => HE.out.cmp (HE.out.dr hS2 q) _ _ (HV.out (p - h) (by omega)) (HV.out h (by omega))
      have HLO := Aside0.mk (show key (rd d h) ≤ key (rd d ((p - h : Nat) : Int)) → ∀ q : Nat, s0 ≤ q → q < h + 1 → key (rd d q) ≤ key (rd d ((p - q : Nat) : Int)) from fun hk q q1 q2 => by
        have hq := HC.out q q1 (by omega)
        have := HP.out.keyl hq.2.2.1 (show q ≤ h by omega) hC.2.2.2
        have := HP.out.keyr hC.1 (show p - h ≤ p - q by omega) hq.2.1
        omega)
      have HHI := Aside0.mk (show key (rd d ((p - h : Nat) : Int)) < key (rd d h) → ∀ q : Nat, h ≤ q → q < mid → key (rd d ((p - q : Nat) : Int)) < key (rd d q) from fun hk q q1 q2 => by
        have hq := HC.out q (by omega) q2
        have := HP.out.keyl hC.2.2.1 q1 hq.2.2.2
        have := HP.out.keyr hq.1 (show p - q ≤ p - h by omega) hC.2.1
        omega)
      have l1 : (h : Int) < (n : Int) := by omega
      have l2 : ((p - h : Nat) : Int) < (n : Int) := by omega
      have l3 : (h : Int) + 1 ≤ (n : Int) := by omega
      clear hS2 hC
      generalize rd d (h : Int) = xh at ch hc HLO HHI
      generalize rd d ((p - h : Nat) : Int) = xa at ca hc HLO HHI
      generalize p - h = ph at e2 ca fa l2
      by_cases hlv : key xa - key xh < 0
      · go_wp2_with fail
        go_quiet (first | (go_at_fn f; refine Calls.quiet_of (hc _)))
        go_wp2
        go_roundg (h - i)
        case measure => omega
        case rel => exact ⟨i, h, rfl, rfl, hmi, d1, by omega, Nat.le_refl _, ⟨HE.out.dr HI.out.1 _, HI.out.2.1, HHI.out (by omega)⟩⟩
      · have hlv2 : decide (key xa - key xh < 0) = false := decide_eq_false hlv
        go_wp2_with fail
        go_quiet (first | (go_at_fn f; refine Calls.quiet_of (hc _)))
        go_wp2
        go_roundg (j - (h + 1))
        case measure => omega
        case rel => exact ⟨h + 1, j, by go_num, rfl, by omega, by omega, hjb, Nat.le_refl _, ⟨HE.out.dr HI.out.1 _, HLO.out (by omega), HI.out.2.2⟩⟩
    · obtain rfl : i = j := by omega
      obtain ⟨e, he⟩ : ∃ e, e = nn - i := ⟨_, rfl⟩
      have hnn := HNN.out
      have e1 : (nn : Int) - (i : Int) = (e : Int) := by omega
      have hcr := HX.out i e hmi hjb (by omega) HI.out.2.1 HI.out.2.2
      obtain ⟨x1, x2, x3, x4, x5, x6⟩ := hcr
      obtain ⟨D1, hD1⟩ : ∃ D : World → Prop, ∀ w, D w ↔ ∃ d1, St w d1 ∧ Rot i m e d d1 := ⟨_, fun _ => Iff.rfl⟩
      obtain ⟨D2, hD2⟩ : ∃ D : World → Prop, ∀ w, D w ↔ ∃ d1 d2, St w d2 ∧ Rot i m e d d1 ∧ Mrg key a mid d1 d2 := ⟨_, fun _ => Iff.rfl⟩
      obtain ⟨D3, hD3⟩ : ∃ D : World → Prop, ∀ w, D w ↔ ∃ d', St w d' ∧ Mrg key a b d d' := ⟨_, fun _ => Iff.rfl⟩
      have hal := fun d1 (h : Rot i m e d d1) => h.halves (mid := mid) HP.out x1 x2 x3 x4 (by omega) x5 x6
      have vof : ∀ d1, (∀ p : Nat, p < a ∨ b ≤ p → rd d1 p = rd d p) → (∀ p : Nat, a ≤ p → p < b → ∃ q : Nat, a ≤ q ∧ q < b ∧ rd d1 p = rd d q) → ∀ i : Nat, i < n → V (rd d1 i) := fun d1 ho hm k hk => by
        by_cases hkk : k < a ∨ b ≤ k
        · rw [ho k hkk]; exact HV.out k hk
        · obtain ⟨q, q1, q2, q3⟩ := hm k (by omega) (by omega)
          rw [q3]; exact HV.out q (by omega)
      -- the turning
      have R1 := Aside0.mk (show i < m → m < e → Calls Try.prog 99 #[.slice (some ⟨gd, 0, none⟩) n c, .int .i64 i, .int .i64 m, .int .i64 e, .func (.func f) #[] cap] wr fun e w' => e = .returned (.tuple #[]) ∧ D1 w' from fun h1 h2 =>
        (HROT.out HI.out.1 i e m _ h1 h2 (by omega)).mono fun _ _ ⟨h1, d', h2, h3⟩ => ⟨h1, (hD1 _).2 ⟨d', h2, h3⟩⟩)
      have R1' := Aside0.mk (show ¬ (i < m ∧ m < e) → D1 wr from fun h => (hD1 _).2 ⟨d, HI.out.1, Rot.refl (by omega) x2 x3⟩)
      -- the left half
      have R2 := Aside0.mk (show a < i → i < mid → ∀ w, D1 w → Calls Try.prog 95 #[.slice (some ⟨gd, 0, none⟩) n c, .int .i64 a, .int .i64 i, .int .i64 mid, .func (.func f) #[] cap] w fun e w' => e = .returned (.tuple #[]) ∧ D2 w' from fun h1 h2 w hd => by
        obtain ⟨d1, hs1, hr1⟩ := (hD1 _).1 hd
        exact (H1.out i h1 h2 hs1 (vof d1 (fun p hp => hr1.out p (by omega)) (hr1.mem x1 x2 x3 x4)) (hal d1 hr1).1).mono fun _ _ ⟨h1, d2, h2, h3⟩ => ⟨h1, (hD2 _).2 ⟨d1, d2, h2, hr1, h3⟩⟩)
      have R2' := Aside0.mk (show ¬ (a < i ∧ i < mid) → ∀ w, D1 w → D2 w from fun h w hd => by
        obtain ⟨d1, hs1, hr1⟩ := (hD1 _).1 hd
        refine (hD2 _).2 ⟨d1, d1, hs1, hr1, Mrg.refl fun p q c1 c2 c3 => ?_⟩
        by_cases hi : i = a
        · exact (hal d1 hr1).1.sr p q (by omega) c2 c3
        · exact (hal d1 hr1).1.sl p q c1 c2 (by omega))
      -- the right half
      have fin : ∀ {d1 d2 d3 : List Int}, Rot i m e d d1 → Mrg key a mid d1 d2 → Mrg key mid b d2 d3 → Mrg key a b d d3 := fun {d1 d2 d3} hr1 h1 h2 =>
        h1.join (by omega) (by omega) hr1.perm (fun p hp => hr1.out p (by omega)) (hr1.mem x1 x2 x3 x4) (hal d1 hr1).2.2 h2
      have pre2 : ∀ {d1 d2 : List Int}, Rot i m e d d1 → Mrg key a mid d1 d2 → Pre key mid e b d2 := fun {d1 d2} hr1 h1 => by
        have h := (hal d1 hr1).2.1
        refine ⟨fun p q c1 c2 c3 => ?_, fun p q c1 c2 c3 => ?_, fun p q c1 c2 c3 c4 => ?_⟩ <;> rw [h1.out p (by omega), h1.out q (by omega)]
        · exact h.sl p q c1 c2 c3
        · exact h.sr p q c1 c2 c3
        · exact h.asc p q c1 c2 c3 c4
      have R3 := Aside0.mk (show mid < e → e < b → ∀ w, D2 w → Calls Try.prog 95 #[.slice (some ⟨gd, 0, none⟩) n c, .int .i64 mid, .int .i64 e, .int .i64 b, .func (.func f) #[] cap] w fun e w' => e = .returned (.tuple #[]) ∧ D3 w' from fun h1 h2 w hd => by
        obtain ⟨d1, d2, hs2, hr1, hm2⟩ := (hD2 _).1 hd
        refine (H2.out e h1 h2 hs2 (vof d2 (fun p hp => by rw [hm2.out p (by omega), hr1.out p (by omega)]) (fun p c1 c2 => ?_)) (pre2 hr1 hm2)).mono fun _ _ ⟨h1, d3, h2, h3⟩ => ⟨h1, (hD3 _).2 ⟨d3, h2, fin hr1 hm2 h3⟩⟩
        by_cases hpm : p < mid
        · obtain ⟨q, q1, q2, q3⟩ := hm2.mem p c1 hpm
          rw [q3]
          exact hr1.mem x1 x2 x3 x4 q q1 (by omega)
        · rw [hm2.out p (by omega)]
          exact hr1.mem x1 x2 x3 x4 p c1 c2)
      have R3' := Aside0.mk (show ¬ (mid < e ∧ e < b) → ∀ w, D2 w → D3 w from fun h w hd => by
        obtain ⟨d1, d2, hs2, hr1, hm2⟩ := (hD2 _).1 hd
        refine (hD3 _).2 ⟨d2, hs2, fin hr1 hm2 (Mrg.refl fun p q c1 c2 c3 => ?_)⟩
        by_cases hi : e = b
        · exact (pre2 hr1 hm2).sl p q c1 c2 (by omega)
        · exact (pre2 hr1 hm2).sr p q (by omega) c2 c3)
      have HEND := Aside0.mk (fun w => (hD3 w).1)
      clear fin pre2 hal vof hD1 hD2 hD3 x5 x6 hnn he HI HX HC HP HS HV HE H1 H2 HROT
      have g1 : (i < m ∧ (i : Int) < (m : Int)) ∧ (m < e ∧ (m : Int) < (e : Int)) ∨ (¬ i < m ∧ ¬ (i : Int) < (m : Int)) ∨ (i < m ∧ (i : Int) < (m : Int)) ∧ (¬ m < e ∧ ¬ (m : Int) < (e : Int)) := by omega
      have g2 : (a < i ∧ (a : Int) < (i : Int)) ∧ (i < mid ∧ (i : Int) < (mid : Int)) ∨ (¬ a < i ∧ ¬ (a : Int) < (i : Int)) ∨ (a < i ∧ (a : Int) < (i : Int)) ∧ (¬ i < mid ∧ ¬ (i : Int) < (mid : Int)) := by omega
      have g3 : (mid < e ∧ (mid : Int) < (e : Int)) ∧ (e < b ∧ (e : Int) < (b : Int)) ∨ (¬ mid < e ∧ ¬ (mid : Int) < (e : Int)) ∨ (mid < e ∧ (mid : Int) < (e : Int)) ∧ (¬ e < b ∧ ¬ (e : Int) < (b : Int)) := by omega
      rcases g1 with ⟨⟨p1, p2⟩, ⟨p3, p4⟩⟩ | ⟨p1, p2⟩ | ⟨⟨p1, p2⟩, ⟨p3, p4⟩⟩ <;> rcases g2 with ⟨⟨q1, q2⟩, ⟨q3, q4⟩⟩ | ⟨q1, q2⟩ | ⟨⟨q1, q2⟩, ⟨q3, q4⟩⟩ <;> rcases g3 with ⟨⟨r1, r2⟩, ⟨r3, r4⟩⟩ | ⟨r1, r2⟩ | ⟨⟨r1, r2⟩, ⟨r3, r4⟩⟩ <;> first | (exfalso; omega) | (
      go_wp2_with (first
        | (go_at_call 99; refine (R1.out p1 p3).mono ?_; rintro e' w2 ⟨rfl, k1⟩)
        | (go_at_call_of 95 (Value.int .i64 (a : Int)); refine (R2.out q1 q3 _ (by first | assumption | exact R1'.out (by omega))).mono ?_; rintro e' w2 ⟨rfl, k2⟩)
        | (go_at_call_of 95 (Value.int .i64 (e : Int)); refine (R3.out r1 r3 _ (by first | assumption | (refine R2'.out (by omega) _ ?_; first | assumption | exact R1'.out (by omega)))).mono ?_; rintro e' w2 ⟨rfl, k3⟩))
      go_end0
      refine ⟨rfl, HEND.out _ ?_⟩
      first | assumption | (refine R3'.out (by omega) _ ?_; first | assumption | (refine R2'.out (by omega) _ ?_; first | assumption | exact R1'.out (by omega))))
set_option maxHeartbeats 8000000 in
set_option maxRecDepth 1000000 in
theorem sym_lo (E : SortEnv St gd n f cap V key) (c a m b mid : Nat) (hmid : mid = (a + b) / 2) (ham : a + 1 < m) (hmb : m + 1 < b) (hb : b ≤ n) (hsel : m ≤ mid)
    (ih1 : ∀ s, a < s → s < mid → SymOk St gd n f cap V key c a s mid) (ih2 : ∀ s, mid < s → s < b → SymOk St gd n f cap V key c mid s b) : SymOk St gd n f cap V key c a m b := by
  intro W d hS hV P
  have h64 := E.n64
  have eg := E.eg
  have HROT := Aside0.mk (fun {W d} (hS : St W d) => rot_any E hS c)
  have HE := Aside0.mk E
  have HV := Aside0.mk hV
  have HP := Aside0.mk P
  have HS := Aside0.mk hS
  have H1 := Aside0.mk @ih1
  have H2 := Aside0.mk @ih2
  obtain ⟨nn, hnn⟩ : ∃ nn, nn = mid + m := ⟨_, rfl⟩
  have hn1 : ¬ (m : Int) - (a : Int) = 1 := by omega
  have hn1' : ((m : Int) - (a : Int) == 1) = false := beq_false_of_ne hn1
  have hn2 : ¬ (b : Int) - (m : Int) = 1 := by omega
  have hn2' : ((b : Int) - (m : Int) == 1) = false := beq_false_of_ne hn2
  have hn3 : (a : Int) ≤ (m : Int) := by omega
  have hn4 : (m : Int) ≤ (b : Int) := by omega
  have hn5 : (b : Int) ≤ (n : Int) := by omega
  have em : ((a : Int) + (b : Int)) / 2 = (mid : Int) := by omega
  have en : (mid : Int) + (m : Int) = (nn : Int) := by omega
  have ep : (nn : Int) - 1 = ((nn - 1 : Nat) : Int) := by omega
  have hsl : ¬ (mid : Int) < (m : Int) := by omega
  have b1 : a ≤ m := by omega
  have b2 : m ≤ m := by omega
  have b3 : a ≤ a := by omega
  have b4 : nn ≤ 2 * n := by omega
  have b5 : m ≤ mid := by omega
  have b6 : mid < b := by omega
  have b7 : a < mid := by omega
  have HC := Aside0.mk (show (∀ q : Nat, a ≤ q → q < m → m ≤ nn - 1 - q ∧ nn - 1 - q < b ∧ a ≤ q ∧ q < m) from fun q q1 q2 => by omega)
  have HX := Aside0.mk (fun s e h0 h1 he lo hi => sym_cross (s := s) (e := e) (r0 := m) P (show (mid < m ∧ a + b = mid + m ∧ m = mid) ∨ (m ≤ mid ∧ a = a ∧ m = m) by omega) hmid (by omega) (by omega) h0 h1 he lo hi)
  rw [← hnn] at HX
  generalize hp : nn - 1 = p at ep HC HX
  have hpn : p < nn := by omega
  have hpb : p + 1 = nn := by omega
  have HP1 := Aside0.mk hpb
  have HNN := Aside0.mk hnn
  clear hpb hp hnn  hmid hsel hS hV E P ih1 ih2
  go_enter Try.func95, Try.ntmps95
  go_wp2
  go_loopg [20, 21] (m - a) (fun g1 vi vj wr => ∃ (i j : Nat), vi = .int .i64 i ∧ vj = .int .i64 j ∧ a ≤ i ∧ i ≤ j ∧ j ≤ m ∧ j - i ≤ g1 ∧ Aside0 (St wr d ∧ (∀ q : Nat, a ≤ q → q < i → key (rd d q) ≤ key (rd d ((p - q : Nat) : Int))) ∧ (∀ q : Nat, j ≤ q → q < m → key (rd d ((p - q : Nat) : Int)) < key (rd d q))))
  case atStart => exact ⟨a, m, rfl, rfl, Nat.le_refl _, b1, Nat.le_refl _, Nat.le_refl _, ⟨HS.out, fun p h1 h2 => by omega, fun p h1 h2 => by omega⟩⟩
  case round =>
    obtain ⟨i, j, rfl, rfl, hmi, hij, hjb, hg1, HI⟩ := hrel
    by_cases hlt : i < j
    · have hltz : (i : Int) < (j : Int) := by omega
      obtain ⟨h, hh⟩ : ∃ h, h = (i + j) / 2 := ⟨_, rfl⟩
      have d1 : i ≤ h := by omega
      have d2 : h < j := by omega
      have e1 : ((i : Int) + (j : Int)) / 2 = (h : Int) := by omega
      clear hh
      have hS2 := HI.out.1
      have hC := HC.out h (by omega) (by omega)
      have e2 : (p : Int) - (h : Int) = ((p - h : Nat) : Int) := by omega
      obtain ⟨ch, fh⟩ := HE.out.rd hS2 h (by omega)
      obtain ⟨ca, fa⟩ := HE.out.rd hS2 (p - h) (by omega)
      have hc := fun q => HE.out.cmp (HE.out.dr hS2 q) _ _ (HV.out (p - h) (by omega)) (HV.out h (by omega))
      have HLO := Aside0.mk (show key (rd d h) ≤ key (rd d ((p - h : Nat) : Int)) → ∀ q : Nat, a ≤ q → q < h + 1 → key (rd d q) ≤ key (rd d ((p - q : Nat) : Int)) from fun hk q q1 q2 => by
        have hq := HC.out q q1 (by omega)
        have := HP.out.keyl hq.2.2.1 (show q ≤ h by omega) hC.2.2.2
        have := HP.out.keyr hC.1 (show p - h ≤ p - q by omega) hq.2.1
        omega)
      have HHI := Aside0.mk (show key (rd d ((p - h : Nat) : Int)) < key (rd d h) → ∀ q : Nat, h ≤ q → q < m → key (rd d ((p - q : Nat) : Int)) < key (rd d q) from fun hk q q1 q2 => by
        have hq := HC.out q (by omega) q2
        have := HP.out.keyl hC.2.2.1 q1 hq.2.2.2
        have := HP.out.keyr hq.1 (show p - q ≤ p - h by omega) hC.2.1
        omega)
      have l1 : (h : Int) < (n : Int) := by omega
      have l2 : ((p - h : Nat) : Int) < (n : Int) := by omega
      have l3 : (h : Int) + 1 ≤ (n : Int) := by omega
      clear hS2 hC
      generalize rd d (h : Int) = xh at ch hc HLO HHI
      generalize rd d ((p - h : Nat) : Int) = xa at ca hc HLO HHI
      generalize p - h = ph at e2 ca fa l2
      by_cases hlv : key xa - key xh < 0
      · go_wp2_with fail
        go_quiet (first | (go_at_fn f; refine Calls.quiet_of (hc _)))
        go_wp2
        go_roundg (h - i)
        case measure => omega
        case rel => exact ⟨i, h, rfl, rfl, hmi, d1, by omega, Nat.le_refl _, ⟨HE.out.dr HI.out.1 _, HI.out.2.1, HHI.out (by omega)⟩⟩
      · have hlv2 : decide (key xa - key xh < 0) = false := decide_eq_false hlv
        go_wp2_with fail
        go_quiet (first | (go_at_fn f; refine Calls.quiet_of (hc _)))
        go_wp2
        go_roundg (j - (h + 1))
        case measure => omega
        case rel => exact ⟨h + 1, j, by go_num, rfl, by omega, by omega, hjb, Nat.le_refl _, ⟨HE.out.dr HI.out.1 _, HLO.out (by omega), HI.out.2.2⟩⟩
    · obtain rfl : i = j := by omega
      obtain ⟨e, he⟩ : ∃ e, e = nn - i := ⟨_, rfl⟩
      have hnn := HNN.out
      have e1 : (nn : Int) - (i : Int) = (e : Int) := by omega
      have hcr := HX.out i e hmi hjb (by omega) HI.out.2.1 HI.out.2.2
      obtain ⟨x1, x2, x3, x4, x5, x6⟩ := hcr
      obtain ⟨D1, hD1⟩ : ∃ D : World → Prop, ∀ w, D w ↔ ∃ d1, St w d1 ∧ Rot i m e d d1 := ⟨_, fun _ => Iff.rfl⟩
      obtain ⟨D2, hD2⟩ : ∃ D : World → Prop, ∀ w, D w ↔ ∃ d1 d2, St w d2 ∧ Rot i m e d d1 ∧ Mrg key a mid d1 d2 := ⟨_, fun _ => Iff.rfl⟩
      obtain ⟨D3, hD3⟩ : ∃ D : World → Prop, ∀ w, D w ↔ ∃ d', St w d' ∧ Mrg key a b d d' := ⟨_, fun _ => Iff.rfl⟩
      have hal := fun d1 (h : Rot i m e d d1) => h.halves (mid := mid) HP.out x1 x2 x3 x4 (by omega) x5 x6
      have vof : ∀ d1, (∀ p : Nat, p < a ∨ b ≤ p → rd d1 p = rd d p) → (∀ p : Nat, a ≤ p → p < b → ∃ q : Nat, a ≤ q ∧ q < b ∧ rd d1 p = rd d q) → ∀ i : Nat, i < n → V (rd d1 i) := fun d1 ho hm k hk => by
        by_cases hkk : k < a ∨ b ≤ k
        · rw [ho k hkk]; exact HV.out k hk
        · obtain ⟨q, q1, q2, q3⟩ := hm k (by omega) (by omega)
          rw [q3]; exact HV.out q (by omega)
      -- the turning
      have R1 := Aside0.mk (show i < m → m < e → Calls Try.prog 99 #[.slice (some ⟨gd, 0, none⟩) n c, .int .i64 i, .int .i64 m, .int .i64 e, .func (.func f) #[] cap] wr fun e w' => e = .returned (.tuple #[]) ∧ D1 w' from fun h1 h2 =>
        (HROT.out HI.out.1 i e m _ h1 h2 (by omega)).mono fun _ _ ⟨h1, d', h2, h3⟩ => ⟨h1, (hD1 _).2 ⟨d', h2, h3⟩⟩)
      have R1' := Aside0.mk (show ¬ (i < m ∧ m < e) → D1 wr from fun h => (hD1 _).2 ⟨d, HI.out.1, Rot.refl (by omega) x2 x3⟩)
      -- the left half
      have R2 := Aside0.mk (show a < i → i < mid → ∀ w, D1 w → Calls Try.prog 95 #[.slice (some ⟨gd, 0, none⟩) n c, .int .i64 a, .int .i64 i, .int .i64 mid, .func (.func f) #[] cap] w fun e w' => e = .returned (.tuple #[]) ∧ D2 w' from fun h1 h2 w hd => by
        obtain ⟨d1, hs1, hr1⟩ := (hD1 _).1 hd
        exact (H1.out i h1 h2 hs1 (vof d1 (fun p hp => hr1.out p (by omega)) (hr1.mem x1 x2 x3 x4)) (hal d1 hr1).1).mono fun _ _ ⟨h1, d2, h2, h3⟩ => ⟨h1, (hD2 _).2 ⟨d1, d2, h2, hr1, h3⟩⟩)
      have R2' := Aside0.mk (show ¬ (a < i ∧ i < mid) → ∀ w, D1 w → D2 w from fun h w hd => by
        obtain ⟨d1, hs1, hr1⟩ := (hD1 _).1 hd
        refine (hD2 _).2 ⟨d1, d1, hs1, hr1, Mrg.refl fun p q c1 c2 c3 => ?_⟩
        by_cases hi : i = a
        · exact (hal d1 hr1).1.sr p q (by omega) c2 c3
        · exact (hal d1 hr1).1.sl p q c1 c2 (by omega))
      -- the right half
      have fin : ∀ {d1 d2 d3 : List Int}, Rot i m e d d1 → Mrg key a mid d1 d2 → Mrg key mid b d2 d3 → Mrg key a b d d3 := fun {d1 d2 d3} hr1 h1 h2 =>
        h1.join (by omega) (by omega) hr1.perm (fun p hp => hr1.out p (by omega)) (hr1.mem x1 x2 x3 x4) (hal d1 hr1).2.2 h2
      have pre2 : ∀ {d1 d2 : List Int}, Rot i m e d d1 → Mrg key a mid d1 d2 → Pre key mid e b d2 := fun {d1 d2} hr1 h1 => by
        have h := (hal d1 hr1).2.1
        refine ⟨fun p q c1 c2 c3 => ?_, fun p q c1 c2 c3 => ?_, fun p q c1 c2 c3 c4 => ?_⟩ <;> rw [h1.out p (by omega), h1.out q (by omega)]
        · exact h.sl p q c1 c2 c3
        · exact h.sr p q c1 c2 c3
        · exact h.asc p q c1 c2 c3 c4
      have R3 := Aside0.mk (show mid < e → e < b → ∀ w, D2 w → Calls Try.prog 95 #[.slice (some ⟨gd, 0, none⟩) n c, .int .i64 mid, .int .i64 e, .int .i64 b, .func (.func f) #[] cap] w fun e w' => e = .returned (.tuple #[]) ∧ D3 w' from fun h1 h2 w hd => by
        obtain ⟨d1, d2, hs2, hr1, hm2⟩ := (hD2 _).1 hd
        refine (H2.out e h1 h2 hs2 (vof d2 (fun p hp => by rw [hm2.out p (by omega), hr1.out p (by omega)]) (fun p c1 c2 => ?_)) (pre2 hr1 hm2)).mono fun _ _ ⟨h1, d3, h2, h3⟩ => ⟨h1, (hD3 _).2 ⟨d3, h2, fin hr1 hm2 h3⟩⟩
        by_cases hpm : p < mid
        · obtain ⟨q, q1, q2, q3⟩ := hm2.mem p c1 hpm
          rw [q3]
          exact hr1.mem x1 x2 x3 x4 q q1 (by omega)
        · rw [hm2.out p (by omega)]
          exact hr1.mem x1 x2 x3 x4 p c1 c2)
      have R3' := Aside0.mk (show ¬ (mid < e ∧ e < b) → ∀ w, D2 w → D3 w from fun h w hd => by
        obtain ⟨d1, d2, hs2, hr1, hm2⟩ := (hD2 _).1 hd
        refine (hD3 _).2 ⟨d2, hs2, fin hr1 hm2 (Mrg.refl fun p q c1 c2 c3 => ?_)⟩
        by_cases hi : e = b
        · exact (pre2 hr1 hm2).sl p q c1 c2 (by omega)
        · exact (pre2 hr1 hm2).sr p q (by omega) c2 c3)
      have HEND := Aside0.mk (fun w => (hD3 w).1)
      clear fin pre2 hal vof hD1 hD2 hD3 x5 x6 hnn he HI HX HC HP HS HV HE H1 H2 HROT
      have g1 : (i < m ∧ (i : Int) < (m : Int)) ∧ (m < e ∧ (m : Int) < (e : Int)) ∨ (¬ i < m ∧ ¬ (i : Int) < (m : Int)) ∨ (i < m ∧ (i : Int) < (m : Int)) ∧ (¬ m < e ∧ ¬ (m : Int) < (e : Int)) := by omega
      have g2 : (a < i ∧ (a : Int) < (i : Int)) ∧ (i < mid ∧ (i : Int) < (mid : Int)) ∨ (¬ a < i ∧ ¬ (a : Int) < (i : Int)) ∨ (a < i ∧ (a : Int) < (i : Int)) ∧ (¬ i < mid ∧ ¬ (i : Int) < (mid : Int)) := by omega
      have g3 : (mid < e ∧ (mid : Int) < (e : Int)) ∧ (e < b ∧ (e : Int) < (b : Int)) ∨ (¬ mid < e ∧ ¬ (mid : Int) < (e : Int)) ∨ (mid < e ∧ (mid : Int) < (e : Int)) ∧ (¬ e < b ∧ ¬ (e : Int) < (b : Int)) := by omega
      rcases g1 with ⟨⟨p1, p2⟩, ⟨p3, p4⟩⟩ | ⟨p1, p2⟩ | ⟨⟨p1, p2⟩, ⟨p3, p4⟩⟩ <;> rcases g2 with ⟨⟨q1, q2⟩, ⟨q3, q4⟩⟩ | ⟨q1, q2⟩ | ⟨⟨q1, q2⟩, ⟨q3, q4⟩⟩ <;> rcases g3 with ⟨⟨r1, r2⟩, ⟨r3, r4⟩⟩ | ⟨r1, r2⟩ | ⟨⟨r1, r2⟩, ⟨r3, r4⟩⟩ <;> first | (exfalso; omega) | (
      go_wp2_with (first
        | (go_at_call 99; refine (R1.out p1 p3).mono ?_; rintro e' w2 ⟨rfl, k1⟩)
        | (go_at_call_of 95 (Value.int .i64 (a : Int)); refine (R2.out q1 q3 _ (by first | assumption | exact R1'.out (by omega))).mono ?_; rintro e' w2 ⟨rfl, k2⟩)
        | (go_at_call_of 95 (Value.int .i64 (e : Int)); refine (R3.out r1 r3 _ (by first | assumption | (refine R2'.out (by omega) _ ?_; first | assumption | exact R1'.out (by omega)))).mono ?_; rintro e' w2 ⟨rfl, k3⟩))
      go_end0
      refine ⟨rfl, HEND.out _ ?_⟩
      first | assumption | (refine R3'.out (by omega) _ ?_; first | assumption | (refine R2'.out (by omega) _ ?_; first | assumption | exact R1'.out (by omega))))
theorem sym_any (E : SortEnv St gd n f cap V key) (c : Nat) : ∀ N a m b : Nat, b - a ≤ N → a < m → m < b → b ≤ n → SymOk St gd n f cap V key c a m b := by
  intro N
  induction N with
  | zero => intro a m b h1 h2 h3 _; omega
  | succ N ih =>
    intro a m b h1 h2 h3 h4
    by_cases c1 : m = a + 1
    · exact fun hS hV P => sym_one E hS c a m b c1 h3 h4 hV P
    · by_cases c2 : b = m + 1
      · exact fun hS hV P => sym_two E hS c a m b (by omega) c2 h4 hV P
      · by_cases c3 : (a + b) / 2 < m
        · exact sym_hi E c a m b _ rfl (by omega) (by omega) h4 c3 (fun s s1 s2 => ih _ _ _ (by omega) s1 s2 (by omega)) (fun s s1 s2 => ih _ _ _ (by omega) s1 s2 (by omega))
        · exact sym_lo E c a m b _ rfl (by omega) (by omega) h4 (by omega) (fun s s1 s2 => ih _ _ _ (by omega) s1 s2 (by omega)) (fun s s1 s2 => ih _ _ _ (by omega) s1 s2 (by omega))
end Go.Proofs.Ytbelnopbggkdfaa
end

section
namespace Go.Proofs.Ytbelnopbggkdfaa
open Go.RowKit Go.Proofs.YtbelnopbggkdfaaW.PrintWords
variable {St : World → List Int → Prop} {gd n f : Nat} {cap : Array Value} {V : Int → Prop} {key : Int → Int}
/-- u is where a block of size s begins. -/
def Ali (s u : Nat) : Prop := ∃ t, u = t * s
theorem Ali.zero (s : Nat) : Ali s 0 := ⟨0, by simp⟩
theorem Ali.next {s u : Nat} (h : Ali s u) : Ali s (u + s) := by
  obtain ⟨t, rfl⟩ := h
  exact ⟨t + 1, by rw [Nat.add_mul, Nat.one_mul]⟩
theorem Ali.half {s u : Nat} (h : Ali (2 * s) u) : Ali s u := by
  obtain ⟨t, rfl⟩ := h
  exact ⟨t * 2, by rw [Nat.mul_assoc]⟩
theorem Ali.sep {s u v : Nat} (hu : Ali s u) (hv : Ali s v) (h : u < v) : u + s ≤ v := by
  obtain ⟨t, rfl⟩ := hu
  obtain ⟨r, rfl⟩ := hv
  have : t < r := by
    rcases Nat.lt_or_ge t r with c | c
    · exact c
    · exact absurd (Nat.mul_le_mul_right s c) (by omega)
  calc t * s + s = (t + 1) * s := by rw [Nat.add_mul, Nat.one_mul]
    _ ≤ r * s := Nat.mul_le_mul_right s this
/-- The block at u (of size s, cut at n) is in order, and holds what the block of d held. -/
structure Blk (key : Int → Int) (n s u : Nat) (d dk : List Int) : Prop where
  srt : ∀ p q : Nat, u ≤ p → p < q → q < u + s → q < n → ltK key (rd dk p) (rd dk q)
  mem : ∀ p : Nat, u ≤ p → p < u + s → p < n → ∃ q : Nat, u ≤ q ∧ q < u + s ∧ q < n ∧ rd dk p = rd d q
theorem Blk.keep {s u : Nat} {d dk d' : List Int} (h : Blk key n s u d dk) (e : ∀ p : Nat, u ≤ p → p < u + s → p < n → rd d' p = rd dk p) : Blk key n s u d d' :=
  ⟨fun p q h1 h2 h3 h4 => by rw [e p h1 (by omega) (by omega), e q (by omega) h3 h4]; exact h.srt p q h1 h2 h3 h4, fun p h1 h2 h3 => by rw [e p h1 h2 h3]; exact h.mem p h1 h2 h3⟩
/-- All blocks of size s. -/
def Out (key : Int → Int) (n s : Nat) (d dk : List Int) : Prop := dk.Perm d ∧ ∀ u, Ali s u → Blk key n s u d dk
/-- The first loop: below a all blocks are in order, from a on nothing has moved. -/
structure Fst (key : Int → Int) (n s a : Nat) (d dk : List Int) : Prop where
  perm : dk.Perm d
  ali : Ali s a
  low : ∀ u, Ali s u → u < a → Blk key n s u d dk
  out : ∀ p : Nat, a ≤ p → rd dk p = rd d p
/-- The second loop: below a blocks of size 2 s, from a on blocks of size s. -/
structure Snd (key : Int → Int) (n s a : Nat) (d dk : List Int) : Prop where
  perm : dk.Perm d
  ali : Ali (2 * s) a
  low : ∀ u, Ali (2 * s) u → u < a → Blk key n (2 * s) u d dk
  hi : ∀ u, Ali s u → a ≤ u → Blk key n s u d dk
theorem Fst.step {s a b : Nat} {d dk d' : List Int} (h : Fst key n s a d dk) (hi : InsI key n a b dk d') (hbn : b ≤ n) (hb : b = a + s ∨ (b = n ∧ n ≤ a + s)) : Fst key n s (a + s) d d' := by
  refine ⟨hi.perm.trans h.perm, h.ali.next, fun u hu hlt => ?_, fun p hp => ?_⟩
  · by_cases c : u = a
    · subst c
      refine ⟨fun p q h1 h2 h3 h4 => hi.srt p q h1 h2 (by omega), fun p h1 h2 h3 => ?_⟩
      obtain ⟨q, q1, q2, q3⟩ := hi.mem p h1 (by omega)
      exact ⟨q, q1, by omega, by omega, by rw [q3, h.out q q1]⟩
    · have hua : u < a := by
        rcases Nat.lt_or_ge u a with c2 | c2
        · exact c2
        · have := h.ali.sep hu (by omega)
          omega
      have := hu.sep h.ali hua
      exact (h.low u hu hua).keep fun p h1 h2 _ => hi.out p (.inl (by omega))
  · rw [hi.out p (.inr (by omega)), h.out p (by omega)]
theorem Fst.fin {s a : Nat} {d dk : List Int} (h : Fst key n s a d dk) (hn : n ≤ a) : Out key n s d dk := by
  refine ⟨h.perm, fun u hu => ?_⟩
  by_cases c : u < a
  · exact h.low u hu c
  · exact ⟨fun p q h1 h2 h3 h4 => by omega, fun p h1 h2 h3 => by omega⟩
theorem Out.start {s : Nat} {d dk : List Int} (h : Out key n s d dk) : Snd key n s 0 d dk :=
  ⟨h.1, Ali.zero _, fun u _ hlt => by omega, fun u hu _ => h.2 u hu⟩
theorem Snd.pre {s a b : Nat} {d dk : List Int} (h : Snd key n s a d dk) (hasc : ∀ p q : Nat, p < q → q < n → rd d p < rd d q) (hb : b ≤ n) (hb2 : b ≤ a + 2 * s) (hb3 : a + s < b) : Pre key a (a + s) b dk := by
  have h1 := h.hi a h.ali.half (Nat.le_refl _)
  have h2 := h.hi (a + s) h.ali.half.next (by omega)
  refine ⟨fun p q c1 c2 c3 => ?_, fun p q c1 c2 c3 => h2.srt p q c1 c2 (by omega) (by omega), fun p q c1 c2 c3 c4 => ?_⟩
  · exact h1.srt p q c1 c2 c3 (by omega)
  · obtain ⟨p', p1, p2, p3, p4⟩ := h1.mem p c1 c2 (by omega)
    obtain ⟨q', q1, q2, q3, q4⟩ := h2.mem q c3 (by omega) (by omega)
    rw [p4, q4]
    exact hasc p' q' (by omega) q3
theorem Snd.step {s a b : Nat} {d dk d' : List Int} (hs : 0 < s) (h : Snd key n s a d dk) (hm : Mrg key a b dk d') (hbn : b ≤ n) (hb : b = a + 2 * s ∨ (b = n ∧ n ≤ a + 2 * s)) : Snd key n s (a + 2 * s) d d' := by
  have hn := h.ali.next
  refine ⟨hm.perm.trans h.perm, hn, fun u hu hlt => ?_, fun u hu hge => ?_⟩
  · by_cases c : u = a
    · subst c
      refine ⟨fun p q h1 h2 h3 h4 => hm.srt p q h1 h2 (by omega), fun p h1 h2 h3 => ?_⟩
      obtain ⟨q, q1, q2, q3⟩ := hm.mem p h1 (by omega)
      rw [q3]
      by_cases c2 : q < u + s
      · obtain ⟨r, r1, r2, r3, r4⟩ := (h.hi u h.ali.half (Nat.le_refl _)).mem q q1 c2 (by omega)
        exact ⟨r, r1, by omega, r3, r4⟩
      · obtain ⟨r, r1, r2, r3, r4⟩ := (h.hi (u + s) h.ali.half.next (by omega)).mem q (by omega) (by omega) (by omega)
        exact ⟨r, by omega, by omega, r3, r4⟩
    · have hua : u < a := by
        rcases Nat.lt_or_ge u a with c2 | c2
        · exact c2
        · have := h.ali.sep hu (by omega)
          omega
      have := hu.sep h.ali hua
      exact (h.low u hu hua).keep fun p h1 h2 _ => hm.out p (.inl (by omega))
  · exact (h.hi u hu (by omega)).keep fun p h1 h2 h3 => hm.out p (.inr (by omega))
theorem Snd.skip {s a : Nat} {d dk : List Int} (h : Snd key n s a d dk) (hn : n ≤ a + s) : Snd key n s (a + 2 * s) d dk := by
  have hn2 := h.ali.next
  refine ⟨h.perm, hn2, fun u hu hlt => ?_, fun u hu hge => h.hi u hu (by omega)⟩
  by_cases c : u = a
  · subst c
    have hb := h.hi u h.ali.half (Nat.le_refl _)
    refine ⟨fun p q h1 h2 h3 h4 => hb.srt p q h1 h2 (by omega) h4, fun p h1 h2 h3 => ?_⟩
    obtain ⟨r, r1, r2, r3, r4⟩ := hb.mem p h1 (by omega) h3
    exact ⟨r, r1, by omega, r3, r4⟩
  · have hua : u < a := by
      rcases Nat.lt_or_ge u a with c2 | c2
      · exact c2
      · have := h.ali.sep hu (by omega)
        omega
    exact h.low u hu hua
theorem Snd.fin {s a : Nat} {d dk : List Int} (h : Snd key n s a d dk) (hn : n ≤ a) : Out key n (2 * s) d dk := by
  refine ⟨h.perm, fun u hu => ?_⟩
  by_cases c : u < a
  · exact h.low u hu c
  · exact ⟨fun p q h1 h2 h3 h4 => by omega, fun p h1 h2 h3 => by omega⟩
theorem vperm {d dk : List Int} (hp : dk.Perm d) (hl : d.length = n) (hV : ∀ i : Nat, i < n → V (rd d i)) : ∀ i : Nat, i < n → V (rd dk i) := fun i hi => by
  have hl2 : dk.length = n := by rw [hp.length_eq, hl]
  have e1 : rd dk i = dk[i] := by simp [rd, List.getD_eq_getElem?_getD, List.getElem?_eq_getElem (show i < dk.length by omega)]
  have hm : rd dk i ∈ d := hp.mem_iff.1 (by rw [e1]; exact List.getElem_mem _)
  obtain ⟨j, hj, e⟩ := List.getElem_of_mem hm
  have h := hV j (by omega)
  have e2 : rd d j = d[j] := by simp [rd, List.getD_eq_getElem?_getD, List.getElem?_eq_getElem hj]
  rw [e2, e] at h
  exact h
set_option maxHeartbeats 8000000 in
set_option maxRecDepth 1000000 in
theorem stable_any (E : SortEnv St gd n f cap V key) {W : World} {d : List Int} (hS : St W d) (c : Nat) (hV : ∀ i : Nat, i < n → V (rd d i)) (hasc : ∀ p q : Nat, p < q → q < n → rd d p < rd d q) :
    Calls Try.prog 84 #[.slice (some ⟨gd, 0, none⟩) n c, .int .i64 n, .func (.func f) #[] cap] W fun e w' =>
      e = .returned (.tuple #[]) ∧ ∃ d', St w' d' ∧ ∃ s, n ≤ s ∧ Out key n s d d' := by
  have h64 := E.n64
  have HINS := Aside0.mk (fun {W d} (hS : St W d) => ins_any E hS c)
  have HSYM := Aside0.mk (sym_any E c)
  have HV := Aside0.mk hV
  have HA := Aside0.mk hasc
  have HS := Aside0.mk hS
  have HL := Aside0.mk (E.len hS)
  clear hS hV hasc E
  go_enter Try.func84, Try.ntmps84
  go_wp2
  go_loopg [7, 8] n (fun g1 va vb wr => ∃ (a : Nat) (dk : List Int), va = .int .i64 a ∧ vb = .int .i64 ((a : Int) + 20) ∧ a ≤ n ∧ n - a ≤ g1 ∧ Aside0 (St wr dk ∧ Fst key n 20 a d dk))
  case atStart => exact ⟨0, d, rfl, rfl, by omega, by omega, ⟨HS.out, List.Perm.refl _, Ali.zero _, fun u _ hlt => by omega, fun _ _ => rfl⟩⟩
  case round =>
    obtain ⟨a, dk, rfl, rfl, han, hg1, HI⟩ := hrel
    have vof := vperm HI.out.2.perm HL.out HV.out
    by_cases hlt : a + 20 ≤ n
    · have hltz : (a : Int) + 20 ≤ (n : Int) := by omega
      have hc := HINS.out HI.out.1 a (a + 20) (by omega) hlt vof (fun p q h1 h2 h3 => by rw [HI.out.2.out p h1, HI.out.2.out q (by omega)]; exact HA.out p q h2 h3)
      have HVO := Aside0.mk vof
      clear vof
      rw [show ((a + 20 : Nat) : Int) = (a : Int) + 20 by omega] at hc
      go_wp2_with (go_at_call 94; refine hc.mono ?_; rintro e w2 ⟨rfl, d2, hs2⟩; have HS2 := Aside0.mk hs2; clear hs2)
      go_roundg (n - (a + 20))
      case measure => omega
      case rel => exact ⟨a + 20, d2, by go_num, by go_num, hlt, Nat.le_refl _, ⟨HS2.out.1, HI.out.2.step HS2.out.2 hlt (.inl rfl)⟩⟩
    · have hltz : ¬ (a : Int) + 20 ≤ (n : Int) := by omega
      have hc := HINS.out HI.out.1 a n han (Nat.le_refl _) vof (fun p q h1 h2 h3 => by rw [HI.out.2.out p h1, HI.out.2.out q (by omega)]; exact HA.out p q h2 h3)
      have HVO := Aside0.mk vof
      clear vof
      go_wp2_with (go_at_call 94; refine hc.mono ?_; rintro e w2 ⟨rfl, d2, hs2⟩; have HS2 := Aside0.mk hs2; clear hs2)
      have HO := Aside0.mk (show Out key n 20 d d2 from (HI.out.2.step HS2.out.2 (Nat.le_refl _) (.inr ⟨rfl, by omega⟩)).fin (by omega))
      clear hc HI HVO
      go_loopg [6] n (fun g1 vs wr => ∃ (s : Nat) (dk : List Int), vs = .int .i64 s ∧ 0 < s ∧ s ≤ 2 * n + 20 ∧ n - s ≤ g1 ∧ Aside0 (St wr dk ∧ Out key n s d dk))
      case atStart => exact ⟨20, d2, rfl, by omega, by omega, by omega, ⟨HS2.out.1, HO.out⟩⟩
      case round =>
        obtain ⟨s, dk2, rfl, hs0, hs1, hg2, HI⟩ := hrel
        by_cases hlt2 : s < n
        · have hltz2 : (s : Int) < (n : Int) := by omega
          obtain ⟨s2, hs2⟩ : ∃ s2, s2 = 2 * s := ⟨_, rfl⟩
          have es : 2 * (s : Int) = (s2 : Int) := by omega
          have es2 : (s : Int) * 2 = (s2 : Int) := by omega
          have HS2E := Aside0.mk hs2
          have hsb : s < s2 := by omega
          have hsb2 : s2 ≤ 2 * n := by omega
          clear hs2
          go_wp2_with fail
          go_loopg [7, 8] n (fun g1 va vb wr => ∃ (a : Nat) (dk : List Int), va = .int .i64 a ∧ vb = .int .i64 ((a : Int) + s2) ∧ a ≤ n ∧ n - a ≤ g1 ∧ Aside0 (St wr dk ∧ Snd key n s a d dk))
          case atStart => exact ⟨0, dk2, rfl, by go_num, by omega, by omega, ⟨HI.out.1, HI.out.2.start⟩⟩
          case round =>
            obtain ⟨a, dk, rfl, rfl, han, hg3, HJ⟩ := hrel
            have vof := vperm HJ.out.2.perm HL.out HV.out
            have hs2 := HS2E.out
            obtain ⟨m, hm⟩ : ∃ m, m = a + s := ⟨_, rfl⟩
            have em : (a : Int) + (s : Int) = (m : Int) := by omega
            by_cases hlt3 : a + s2 ≤ n
            · have hltz3 : (a : Int) + (s2 : Int) ≤ (n : Int) := by omega
              have hc := HSYM.out n a (a + s) (a + s2) (by omega) (by omega) (by omega) hlt3 HJ.out.1 vof (HJ.out.2.pre HA.out hlt3 (by omega) (by omega))
              rw [show ((a + s2 : Nat) : Int) = (a : Int) + (s2 : Int) by omega, ← hm] at hc
              have HST := Aside0.mk (fun d' (h : Mrg key a (a + s2) dk d') => HJ.out.2.step hs0 h hlt3 (.inl (by omega)))
              rw [← hs2] at HST
              clear vof hm hs2
              go_wp2_with (go_at_call 95; refine hc.mono ?_; rintro e w2 ⟨rfl, d3, h3⟩; have H3 := Aside0.mk h3; clear h3)
              go_roundg (n - (a + s2))
              case measure => omega
              case rel => exact ⟨a + s2, d3, by go_num, by go_num, hlt3, Nat.le_refl _, ⟨H3.out.1, HST.out d3 H3.out.2⟩⟩
            · have hltz3 : ¬ (a : Int) + (s2 : Int) ≤ (n : Int) := by omega
              by_cases hmn : m < n
              · have hmz : (m : Int) < (n : Int) := by omega
                have hc := HSYM.out n a (a + s) n (by omega) (by omega) (by omega) (Nat.le_refl _) HJ.out.1 vof (HJ.out.2.pre HA.out (Nat.le_refl _) (by omega) (by omega))
                rw [← hm] at hc
                have HST := Aside0.mk (fun d' (h : Mrg key a n dk d') => (HJ.out.2.step hs0 h (Nat.le_refl _) (.inr (by omega))).fin (by omega))
                rw [← hs2] at HST
                clear vof hm hs2
                go_wp2_with (go_at_call 95; refine hc.mono ?_; rintro e w2 ⟨rfl, d3, h3⟩; have H3 := Aside0.mk h3; clear h3)
                go_roundg (n - s2)
                case measure => omega
                case rel => exact ⟨s2, d3, by go_num, by omega, by omega, Nat.le_refl _, ⟨H3.out.1, HST.out d3 H3.out.2⟩⟩
              · have hmz : ¬ (m : Int) < (n : Int) := by omega
                have HST := Aside0.mk ((HJ.out.2.skip (by omega)).fin (by omega))
                rw [← hs2] at HST
                clear vof hm hs2
                go_wp2
                go_roundg (n - s2)
                case measure => omega
                case rel => exact ⟨s2, dk, by go_num, by omega, by omega, Nat.le_refl _, ⟨HJ.out.1, HST.out⟩⟩
        · have hltz2 : ¬ (s : Int) < (n : Int) := by omega
          go_wp2
          go_end0
          exact ⟨rfl, dk2, HI.out.1, s, by omega, HI.out.2⟩
set_option maxHeartbeats 8000000 in
set_option maxRecDepth 1000000 in
/-- slices.SortStableFunc: the one ordered row of the numbers. -/
theorem sort_any (E : SortEnv St gd n f cap V key) {W : World} {d : List Int} (hS : St W d) (c : Nat) (hV : ∀ i : Nat, i < n → V (rd d i)) (hasc : ∀ p q : Nat, p < q → q < n → rd d p < rd d q) :
    Calls Try.prog 68 #[.slice (some ⟨gd, 0, none⟩) n c, .func (.func f) #[] cap] W fun e w' =>
      e = .returned (.tuple #[]) ∧ ∃ d', St w' d' ∧ d'.Perm d ∧ ∀ p q : Nat, p < q → q < n → ltK key (rd d' p) (rd d' q) := by
  have hc := stable_any E hS c hV hasc
  go_enter Try.func68, Try.ntmps68
  go_wp2_with (go_at_call 84; refine hc.mono ?_; rintro e w2 ⟨rfl, d3, h3⟩; have H3 := Aside0.mk h3; clear h3)
  go_end0
  obtain ⟨h1, s, hs, h2, h4⟩ := H3.out
  exact ⟨rfl, d3, h1, h2, fun p q c1 c2 => (h4 0 (Ali.zero _)).srt p q (by omega) c1 (by omega) c2⟩
end Go.Proofs.Ytbelnopbggkdfaa
end

section
namespace Go.Proofs.Ytbelnopbggkdfaa
open Go.RowKit Go.Proofs.YtbelnopbggkdfaaW.PrintWords
/-- The moment of an operation, doubled; one more for a measurement. -/
def mkey (k t : Int) : Int := if k = 4 then 2 * t + 1 else 2 * t
set_option maxHeartbeats 2000000 in
set_option maxRecDepth 100000 in
theorem key_any {W : World} {g1 g4 : Nat} (x : Int) {A B : Addr} {n c n2 c2 : Nat} {k t : Int} (h0 : 0 ≤ x) (h1 : x < n) (h2 : x < n2) (ht0 : 0 ≤ t) (ht : t ≤ 1152921504606846976)
    (c1 : W.cell? ⟨g1, 2, none⟩ = some (.slice (some A) n c)) (ck : W.cell? (A.add (x.toNat * 6)) = some (.int .i64 k)) (c4 : W.cell? ⟨g4, 0, none⟩ = some (.slice (some B) n2 c2)) (ct : W.cell? (B.add x.toNat) = some (.int .i64 t)) :
    Calls Try.prog 67 #[.int .i64 x, .pointer (some ⟨g1, 0, none⟩), .pointer (some ⟨g4, 0, none⟩)] W fun e w' => e = .returned (.int .i64 (mkey k t)) ∧ w' = W := by
  by_cases hk : k = 4
  · subst hk
    have e : mkey 4 t = 2 * t + 1 := rfl
    rw [e]
    go_enter Try.func67, Try.ntmps67
    go_wp2
    go_ret
    exact ⟨rfl, rfl⟩
  · have e : mkey k t = 2 * t := if_neg hk
    rw [e]
    go_enter Try.func67, Try.ntmps67
    go_wp2
    go_ret
    exact ⟨rfl, rfl⟩
set_option maxHeartbeats 2000000 in
set_option maxRecDepth 100000 in
theorem cmp_any {W : World} {g8 g : Nat} {cap : Array Value} (x y kx ky : Int) (b1 : 0 ≤ kx) (b2 : kx ≤ 4611686018427387904) (b3 : 0 ≤ ky) (b4 : ky ≤ 4611686018427387904)
    (eg : ∀ args w, (callFunc g args).run Try.prog w = .ok (.enter g args) w) (c8 : W.cell? ⟨g8, 0, none⟩ = some (.func (.func g) #[] cap))
    (hx : ∀ m, Calls Try.prog g (#[.int .i64 x] ++ cap) (W.drewN m) fun e w' => e = .returned (.int .i64 kx) ∧ w' = W.drewN m)
    (hy : ∀ m, Calls Try.prog g (#[.int .i64 y] ++ cap) (W.drewN m) fun e w' => e = .returned (.int .i64 ky) ∧ w' = W.drewN m) :
    Calls Try.prog 69 #[.int .i64 x, .int .i64 y, .pointer (some ⟨g8, 0, none⟩)] W fun e w' => e = .returned (.int .i64 (kx - ky)) ∧ ∃ m, w' = W.drewN m := by
  go_enter Try.func69, Try.ntmps69
  go_wp2_with fail
  go_quiet (first | with_reducible exact Calls.quiet_of_same (hx _) | with_reducible exact Calls.quiet_of_same (hy _))
  go_wp2
  go_ret
  exact ⟨rfl, nq, rfl⟩
end Go.Proofs.Ytbelnopbggkdfaa
end

section
namespace Go.Proofs.Ytbelnopbggkdfaa
open Go.RowKit Go.Proofs.YtbelnopbggkdfaaW.PrintWords
def insO (key : Int → Int) (x : Int) : List Int → List Int
  | [] => [x]
  | y :: ys => if key x < key y ∨ key x = key y ∧ x < y then x :: y :: ys else y :: insO key x ys
def sortO (key : Int → Int) : List Int → List Int
  | [] => []
  | x :: xs => insO key x (sortO key xs)
theorem insO_perm (key : Int → Int) (x : Int) : ∀ l, (insO key x l).Perm (x :: l)
  | [] => List.Perm.refl _
  | y :: ys => by
    unfold insO
    split
    · exact List.Perm.refl _
    · exact ((insO_perm key x ys).cons y).trans (List.Perm.swap x y ys)
theorem sortO_perm (key : Int → Int) : ∀ l, (sortO key l).Perm l
  | [] => List.Perm.refl _
  | x :: xs => (insO_perm key x _).trans ((sortO_perm key xs).cons x)
theorem insO_srt (key : Int → Int) (x : Int) : ∀ l, l.Pairwise (ltK key) → x ∉ l → (insO key x l).Pairwise (ltK key)
  | [], _, _ => by simp [insO]
  | y :: ys, h, hx => by
    have h' := List.pairwise_cons.1 h
    simp only [List.mem_cons, not_or] at hx
    unfold insO
    split
    · rename_i c
      refine List.pairwise_cons.2 ⟨fun z hz => ?_, h⟩
      rcases List.mem_cons.1 hz with rfl | hz
      · exact c
      · exact ltK_trans c (h'.1 z hz)
    · rename_i c
      refine List.pairwise_cons.2 ⟨fun z hz => ?_, insO_srt key x ys h'.2 hx.2⟩
      rcases List.mem_cons.1 ((insO_perm key x ys).mem_iff.1 hz) with rfl | hz
      · unfold ltK
        omega
      · exact h'.1 z hz
theorem sortO_srt (key : Int → Int) : ∀ l : List Int, l.Nodup → (sortO key l).Pairwise (ltK key)
  | [], _ => List.Pairwise.nil
  | x :: xs, h => by
    have h' := List.nodup_cons.1 h
    exact insO_srt key x _ (sortO_srt key xs h'.2) fun hm => h'.1 ((sortO_perm key xs).mem_iff.1 hm)
theorem ltK_asymm {key : Int → Int} {x y : Int} (h1 : ltK key x y) (h2 : ltK key y x) : False := by
  unfold ltK at *
  omega
theorem srt_unique {key : Int → Int} : ∀ {l m : List Int}, l.Perm m → l.Pairwise (ltK key) → m.Pairwise (ltK key) → l = m
  | [], m, hp, _, _ => (List.perm_nil.1 hp.symm).symm
  | x :: xs, [], hp, _, _ => List.perm_nil.1 hp
  | x :: xs, y :: ys, hp, h1, h2 => by
    have a1 := List.pairwise_cons.1 h1
    have a2 := List.pairwise_cons.1 h2
    have e : x = y := by
      have m1 := hp.mem_iff.1 (List.mem_cons_self (a := x) (l := xs))
      have m2 := hp.mem_iff.2 (List.mem_cons_self (a := y) (l := ys))
      rcases List.mem_cons.1 m1 with c | c
      · exact c
      · rcases List.mem_cons.1 m2 with c2 | c2
        · exact c2.symm
        · exact absurd (ltK_asymm (a1.1 y c2) (a2.1 x c)) id
    subst e
    rw [srt_unique (List.Perm.cons_inv hp) a1.2 a2.2]
theorem srt_of_rd {key : Int → Int} {l : List Int} {n : Nat} (hl : l.length = n) (h : ∀ p q : Nat, p < q → q < n → ltK key (rd l p) (rd l q)) : l.Pairwise (ltK key) := by
  rw [List.pairwise_iff_getElem]
  intro i j hi hj hij
  have := h i j hij (by omega)
  simpa [rd, List.getD_eq_getElem?_getD, List.getElem?_eq_getElem hi, List.getElem?_eq_getElem hj] using this
/-- What the sort leaves is the ordered list. -/
theorem sort_is {key : Int → Int} {l d : List Int} {n : Nat} (hp : l.Perm d) (hl : d.length = n) (hd : d.Nodup) (h : ∀ p q : Nat, p < q → q < n → ltK key (rd l p) (rd l q)) : l = sortO key d :=
  srt_unique (hp.trans (sortO_perm key d).symm) (srt_of_rd (by rw [hp.length_eq, hl]) h) (sortO_srt key d hd)
set_option maxHeartbeats 2000000 in
set_option maxRecDepth 100000 in
theorem ins_nil {W : World} (g : Value) : Calls Try.prog 94 #[.slice none 0 0, .int .i64 0, .int .i64 0, g] W fun e w' => e = .returned (.tuple #[]) ∧ w' = W := by
  go_enter Try.func94, Try.ntmps94
  go_wp2
  go_loopg [8] 1 (fun g1 vi wr => vi = .int .i64 1 ∧ wr = W)
  case atStart => exact ⟨by go_num, rfl⟩
  case round =>
    obtain ⟨rfl, rfl⟩ := hrel
    go_wp2
    go_end0
    exact ⟨rfl, rfl⟩
set_option maxHeartbeats 2000000 in
set_option maxRecDepth 100000 in
theorem stable_nil {W : World} (g : Value) : Calls Try.prog 84 #[.slice none 0 0, .int .i64 0, g] W fun e w' => e = .returned (.tuple #[]) ∧ w' = W := by
  go_enter Try.func84, Try.ntmps84
  go_wp2
  go_loopg [7, 8] 1 (fun g1 va vb wr => va = .int .i64 0 ∧ vb = .int .i64 20 ∧ wr = W)
  case atStart => exact ⟨rfl, rfl, rfl⟩
  case round =>
    obtain ⟨rfl, rfl, rfl⟩ := hrel
    go_wp2_with (go_at_call 94; refine (ins_nil g).mono ?_; rintro e w2 ⟨rfl, rfl⟩)
    go_loopg [6] 1 (fun g1 va wr => va = .int .i64 20 ∧ wr = w2)
    case atStart => exact ⟨rfl, rfl⟩
    case round =>
      obtain ⟨rfl, rfl⟩ := hrel
      go_wp2
      go_end0
      exact ⟨rfl, rfl⟩
set_option maxHeartbeats 2000000 in
set_option maxRecDepth 100000 in
theorem sort_nil {W : World} (g : Value) : Calls Try.prog 68 #[.slice none 0 0, g] W fun e w' => e = .returned (.tuple #[]) ∧ w' = W := by
  go_enter Try.func68, Try.ntmps68
  go_wp2_with (go_at_call 84; refine (stable_nil g).mono ?_; rintro e w2 ⟨rfl, rfl⟩)
  go_end0
  exact ⟨rfl, rfl⟩
end Go.Proofs.Ytbelnopbggkdfaa
end

section
namespace Go.Proofs.Ytbelnopbggkdfaa.Q
open Go.RowKit Go.Proofs.YtbelnopbggkdfaaW.PrintWords Go.Proofs.YtbelnopbggkdfaaW.PrintLast Go.Proofs.YtbelnopbggkdfaaW.PrintMore
structure SrtS (w : World) (N g1 g2 g4 g8 gd cap : Nat) (a0 a1 : Int) (A : Option Addr) (c : Nat) (l : List S46) (A4 : Option Addr) (c4 : Nat) (into : List Int) (W : World) (d : List Int) : Prop where
  hb : Below w.heap.size w W
  b1 : W.heap[g1]? = some (.cells #[.int .i64 a0, .int .i64 a1, .slice A l.length c] 24 (0, 0))
  b2 : W.heap[g2]? = some (.cells #[.int .i64 0, .int .i64 0, .slice none 0 0] 24 (0, 0))
  b4 : W.heap[g4]? = some (.cells #[.slice A4 into.length c4] 37 (0, 0))
  b8 : W.heap[g8]? = some (.cells #[.func (.func 67) #[] #[.pointer (some ⟨g1, 0, none⟩), .pointer (some ⟨g4, 0, none⟩)]] 79 (0, 0))
  hi : Kd.R (Kd.int .i64) 3 W w.heap.size (fun k => k < N) (.slice A4 into.length c4) into
  ho : Kd.R (Kd.int .i64) 3 W N (fun k => N ≤ k) (.slice (some ⟨gd, 0, none⟩) d.length cap) d
  l1 : d.length = into.length
  hN : w.heap.size ≤ N
variable {w : World} {N g1 g2 g4 g8 gd cap : Nat} {a0 a1 : Int} {A : Option Addr} {c : Nat} {l : List S46} {A4 : Option Addr} {c4 : Nat} {into : List Int} {W : World} {d : List Int}
theorem SrtS.ge (h : SrtS w N g1 g2 g4 g8 gd cap a0 a1 A c l A4 c4 into W d) : N ≤ gd := Kd.R_base h.ho gd rfl
theorem SrtS.drew (h : SrtS w N g1 g2 g4 g8 gd cap a0 a1 A c l A4 c4 into W d) (m : Nat) : SrtS w N g1 g2 g4 g8 gd cap a0 a1 A c l A4 c4 into (W.drewN m) d :=
  ⟨pw_below_drewN h.hb m, h.b1, h.b2, h.b4, h.b8, Kd.R_drewN h.hi m, Kd.R_drewN h.ho m, h.l1, h.hN⟩
theorem SrtS.ne {g t : Nat} {cs : Array Value} (h : SrtS w N g1 g2 g4 g8 gd cap a0 a1 A c l A4 c4 into W d) (hb : W.heap[g]? = some (.cells cs t (0, 0))) (ht : 3 ≠ t) : g ≠ gd := fun e => Kd.R_ne h.ho hb ht (by rw [e]; rfl)
theorem SrtS.put (h : SrtS w N g1 g2 g4 g8 gd cap a0 a1 A c l A4 c4 into W d) (i : Nat) (x : Int) : SrtS w N g1 g2 g4 g8 gd cap a0 a1 A c l A4 c4 into (W.setCell ⟨gd, i, none⟩ (.int .i64 x)) (d.set i x) := by
  have hg := h.ge
  have hN := h.hN
  refine ⟨below_set h.hb (by omega), blk_far h.b1 (h.ne h.b1 (by decide)) _, blk_far h.b2 (h.ne h.b2 (by decide)) _, blk_far h.b4 (h.ne h.b4 (by decide)) _, blk_far h.b8 (h.ne h.b8 (by decide)) _, Kd.R_far h.hi (fun k hk => by show k ≠ gd; omega) _, ?_, by rw [List.length_set]; exact h.l1, h.hN⟩
  have := (Kd.R_put h.ho (i : Int) x).1
  rw [Int.toNat_natCast] at this
  rw [List.length_set]
  exact this
/-- The key of the sort. -/
def skey (l : List S46) (into : List Int) (x : Int) : Int := mkey (rd_T46 l x).f0 (rd into x)
theorem SrtS.env (hl : l.length = into.length) (hn : (into.length : Int) ≤ 1152921504606846976) (hc : Kd.C k46 w A l.length l) (ht : ∀ x : Int, 0 ≤ x → x < into.length → 0 ≤ rd into x ∧ rd into x ≤ 1152921504606846976) :
    SortEnv (SrtS w N g1 g2 g4 g8 gd cap a0 a1 A c l A4 c4 into) gd into.length 69 #[.pointer (some ⟨g8, 0, none⟩)] (fun x => 0 ≤ x ∧ x < into.length) (skey l into) where
  len := fun h => h.l1
  n64 := hn
  eg := enters_of Try.func69 (by kernel_rfl) rfl
  rd := fun h i hi => by
    have := Kd.R_cell (0 : Int) h.ho (i : Int) (by omega) (by rw [h.l1]; omega)
    rw [Int.toNat_natCast] at this
    exact this
  wr := fun h i x hi => h.put i x
  dr := fun h m => h.drew m
  cmp := fun {W d} h x y hx hy => by
    have key : ∀ z : Int, 0 ≤ z ∧ z < into.length → ∀ m, Calls Try.prog 67 (#[.int .i64 z] ++ #[.pointer (some ⟨g1, 0, none⟩), .pointer (some ⟨g4, 0, none⟩)]) (W.drewN m) fun e w' => e = .returned (.int .i64 (skey l into z)) ∧ w' = W.drewN m := fun z hz m => by
      have h := h.drew m
      obtain ⟨ad, A2, c2, rfl, k0, _⟩ := at_T46 (Kd.C_below hc h.hb) z hz.1 (by omega)
      obtain ⟨A', c', e, _, hC⟩ := Kd.R_reads h.hi
      injection e with e1 _ e2
      subst e1 e2
      obtain ⟨_, _, hcells⟩ := Kd.reads_of_C (enc := Value.int .i64) (d := (0 : Int)) (h1 := fun _ => rfl) hC
      obtain ⟨ad4, rfl, hc4⟩ := hcells (by omega)
      have ct := hc4 z.toNat (by omega)
      exact key_any (n := l.length) (c := c) (n2 := into.length) (c2 := c4) z hz.1 (by omega) hz.2 (ht z hz.1 hz.2).1 (ht z hz.1 hz.2).2 (by rw [blk_cell h.b1]; rfl) k0 (by rw [blk_cell h.b4]; rfl) ct
    have kb : ∀ z : Int, 0 ≤ z ∧ z < into.length → 0 ≤ skey l into z ∧ skey l into z ≤ 4611686018427387904 := fun z hz => by
      have := ht z hz.1 hz.2
      unfold skey mkey
      split <;> omega
    exact cmp_any x y _ _ (kb x hx).1 (kb x hx).2 (kb y hy).1 (kb y hy).2 (enters_of Try.func67 (by kernel_rfl) rfl) (by rw [blk_cell h.b8]; rfl) (key x hx) (key y hy)
end Go.Proofs.Ytbelnopbggkdfaa.Q
end

section
namespace Go.Proofs.Ytbelnopbggkdfaa.Q
open Go.RowKit Go.Proofs.YtbelnopbggkdfaaW.PrintWords Go.Proofs.YtbelnopbggkdfaaW.PrintLast Go.Proofs.YtbelnopbggkdfaaW.PrintMore
attribute [local go_sem] max2_int min2_int max_two min_two max_three min_three max_four min_four   -- for this text's walks alone
set_option linter.unusedVariables false
set_option linter.unusedSimpArgs false
def circuit_Copy.l0 : Nat → List (S46) → Int → Int → Int → Int → List (S46) → Option (Int × Int × (List (S46)))
  | 0, _, _, _, _, _, _ => none
  | k + 1, x12, x13, x14, x115000, x115001, x115002 => if x14 < x13 then (if 0 ≤ x14 then (if x14 < (x12.length : Int) then ((slices_Clone_int_int.f ((rd_T46 x12 x14).f2)).bind fun t117 => (if x115002.length < 2199023255552 then (circuit_Copy.l0 k x12 x13 (wrap64 (x14 + 1)) x115000 x115001 (x115002 ++ [(⟨(rd_T46 x12 x14).f0, (rd_T46 x12 x14).f1, t117, (rd_T46 x12 x14).f3, (rd_T46 x12 x14).f4, (rd_T46 x12 x14).f5⟩ : S46)])) else (none))) else (none)) else (none)) else (some (x115000, x115001, x115002))
def circuit_Copy.f (k : Nat) (a0_0 : Int) (a0_1 : Int) (l0_2 : List (S46)) : Option (Int × Int × (List (S46))) := circuit_Copy.l0 k l0_2 (l0_2.length : Int) 0 a0_0 a0_1 ([] : List (S46))
set_option maxHeartbeats 8000000 in
set_option maxRecDepth 100000 in
theorem circuit_Copy.calls (k : Nat) (a0_0 : Int) (a0_1 : Int) (A0_2 : Option Addr) (c0_2 : Nat) (l0_2 : List (S46)) (r1 : Int) (r2 : Int) (r3 : List (S46)) (w : World) (hr0_2 : Kd.C k46 w A0_2 l0_2.length l0_2) (hc0_2 : l0_2.length ≤ c0_2) (h : circuit_Copy.f k a0_0 a0_1 l0_2 = some (r1, r2, r3)) :
    Calls Try.prog 54 #[.agg #[.int .i64 a0_0, .int .i64 a0_1, .slice A0_2 l0_2.length c0_2]] w fun e w' => ∃ v2_ : Value, e = .returned (.agg #[.int .i64 r1, .int .i64 r2, v2_]) ∧ Kd.S k46 46 w' w.heap.size (fun _ => True) v2_ r3 ∧ Below w.heap.size w w' := by
  have hu24 := Try.underlying24
  have hu46 := Try.underlying46
  have HR0_2 := Aside0.mk hr0_2
  have HC0_2 := Aside0.mk hc0_2
  clear hr0_2 hc0_2
  have HB := Aside0.mk (Below.refl w.heap.size w)
  have H : (circuit_Copy.l0 k l0_2 (l0_2.length : Int) 0 a0_0 a0_1 ([] : List (S46))) = some (r1, r2, r3) := h
  clear h
  have H' := Aside0.mk H
  clear H
  go_enter Try.func54, Try.ntmps54
  go_wp2_with (first | ((with_reducible refine gate_dst (N := 1) rfl ?_); refine box_event ?hg (N := 1) ?hd (cs := #[.int .i64 a0_0, .int .i64 a0_1, .slice A0_2 l0_2.length c0_2]) (t := 24) ?hr ?_; (case hd => rfl); (case hg => rfl); (case hr => first | (go_simp; done) | (go_simp; rfl)); intro gb112 hg w2 hbox hb; have n0_ := Aside0.mk (below_step (by repeat (first | (with_reducible first | exact HB.out | apply below_alloc | apply pw_below_drewN | apply below_drew1) | exact HB.out)) hb); have n1_ := Aside0.mk (hbox); have n2_ := Aside0.mk ((by rw [hg]; exact (below_size (by repeat (first | (with_reducible first | exact HB.out | apply below_alloc | apply pw_below_drewN | apply below_drew1) | exact HB.out))) : w.heap.size ≤ gb112)); have n3_ := Aside0.mk ((by rw [hg]; exact (below_size (by repeat (first | (with_reducible first | exact HB.out | apply below_alloc | apply pw_below_drewN | apply below_drew1) | exact HB.out))) : w.heap.size ≤ gb112)); clear HB; have HB := n0_; have BK112 := n1_; have GW112 := n2_; have GE112 := n3_; clear n0_ n1_ n2_ n3_; clear hb hbox hg) | ((with_reducible refine gate_dst (N := 2) rfl ?_); refine box_event ?hg (N := 2) ?hd (cs := #[.int .i64 0, .int .i64 0, .slice none 0 0]) (t := 24) ?hr ?_; (case hd => rfl); (case hg => rfl); (case hr => first | (go_simp; done) | (go_simp; rfl)); intro gb113 hg w3 hbox hb; have n0_ := Aside0.mk (blk_below (g := gb112) (o := .cells #[.int .i64 a0_0, .int .i64 a0_1, .slice A0_2 l0_2.length c0_2] 24 (0, 0)) (by (with_reducible repeat (first | refine blk_drewN ?_ _ | refine blk_drew ?_ | refine blk_alloc ?_ _)); exact BK112.out) hb); have n1_ := Aside0.mk (below_step (by repeat (first | (with_reducible first | exact HB.out | apply below_alloc | apply pw_below_drewN | apply below_drew1 | refine below_set ?_ GE112.out) | exact HB.out)) hb); have n2_ := Aside0.mk (hbox); have n3_ := Aside0.mk ((by rw [hg]; exact (below_size (by repeat (first | (with_reducible first | exact HB.out | apply below_alloc | apply pw_below_drewN | apply below_drew1 | refine below_set ?_ GE112.out) | exact HB.out))) : w.heap.size ≤ gb113)); have n4_ := Aside0.mk ((by rw [hg]; exact (below_size (by repeat (first | (with_reducible first | exact HB.out | apply below_alloc | apply pw_below_drewN | apply below_drew1 | refine below_set ?_ GE112.out) | exact HB.out))) : w.heap.size ≤ gb113)); have n5_ := Aside0.mk ((by rw [hg]; exact Nat.ne_of_lt (blk_lt (g := gb112) (o := .cells #[.int .i64 a0_0, .int .i64 a0_1, .slice A0_2 l0_2.length c0_2] 24 (0, 0)) (by (with_reducible repeat (first | refine blk_drewN ?_ _ | refine blk_drew ?_ | refine blk_alloc ?_ _)); exact BK112.out)) : gb112 ≠ gb113)); have n6_ := Aside0.mk ((by rw [hg]; exact Nat.ne_of_gt (blk_lt (g := gb112) (o := .cells #[.int .i64 a0_0, .int .i64 a0_1, .slice A0_2 l0_2.length c0_2] 24 (0, 0)) (by (with_reducible repeat (first | refine blk_drewN ?_ _ | refine blk_drew ?_ | refine blk_alloc ?_ _)); exact BK112.out)) : gb113 ≠ gb112)); clear BK112; clear HB; have BK112 := n0_; have HB := n1_; have BK113 := n2_; have GW113 := n3_; have GE113 := n4_; have NB112_113 := n5_; have NB113_112 := n6_; clear n0_ n1_ n2_ n3_ n4_ n5_ n6_; clear hb hbox hg; have hnb4 := NB112_113.out; have hnc4 := NB113_112.out; have hcz5_0 : w3.cell? ⟨gb112, 0, none⟩ = some (.int .i64 a0_0) := (blk_cell BK112.out 0).trans rfl; have hcz5_1 : w3.cell? ⟨gb112, 1, none⟩ = some (.int .i64 a0_1) := (blk_cell BK112.out 1).trans rfl; have hcz5_2 : w3.cell? ⟨gb112, 2, none⟩ = some (.slice A0_2 l0_2.length c0_2) := (blk_cell BK112.out 2).trans rfl; have hfz5_0 := blk_frozen BK112.out 0; have hfz5_1 := blk_frozen BK112.out 1; have hfz5_2 := blk_frozen BK112.out 2) | ((with_reducible refine gate_dst (N := 3) rfl ?_); refine box_event ?hg (N := 3) ?hd (cs := #[.int .i64 0, .int .i64 0, .slice none 0 0]) (t := 24) ?hr ?_; (case hd => rfl); (case hg => rfl); (case hr => first | (go_simp; done) | (go_simp; rfl)); intro gb114 hg w6 hbox hb; have n0_ := Aside0.mk (blk_below (g := gb112) (o := .cells #[.int .i64 a0_0, .int .i64 a0_1, .slice A0_2 l0_2.length c0_2] 24 (0, 0)) (by (with_reducible repeat (first | refine blk_drewN ?_ _ | refine blk_drew ?_ | refine blk_alloc ?_ _)); exact BK112.out) hb); have n1_ := Aside0.mk (blk_below (g := gb113) (o := .cells #[.int .i64 0, .int .i64 0, .slice none 0 0] 24 (0, 0)) (by (with_reducible repeat (first | refine blk_drewN ?_ _ | refine blk_drew ?_ | refine blk_alloc ?_ _)); exact BK113.out) hb); have n2_ := Aside0.mk (below_step (by repeat (first | (with_reducible first | exact HB.out | apply below_alloc | apply pw_below_drewN | apply below_drew1 | refine below_set ?_ GE112.out | refine below_set ?_ GE113.out) | exact HB.out)) hb); have n3_ := Aside0.mk (hbox); have n4_ := Aside0.mk ((by rw [hg]; exact (below_size (by repeat (first | (with_reducible first | exact HB.out | apply below_alloc | apply pw_below_drewN | apply below_drew1 | refine below_set ?_ GE112.out | refine below_set ?_ GE113.out) | exact HB.out))) : w.heap.size ≤ gb114)); have n5_ := Aside0.mk ((by rw [hg]; exact (below_size (by repeat (first | (with_reducible first | exact HB.out | apply below_alloc | apply pw_below_drewN | apply below_drew1 | refine below_set ?_ GE112.out | refine below_set ?_ GE113.out) | exact HB.out))) : w.heap.size ≤ gb114)); have n6_ := Aside0.mk ((by rw [hg]; exact Nat.ne_of_lt (blk_lt (g := gb112) (o := .cells #[.int .i64 a0_0, .int .i64 a0_1, .slice A0_2 l0_2.length c0_2] 24 (0, 0)) (by (with_reducible repeat (first | refine blk_drewN ?_ _ | refine blk_drew ?_ | refine blk_alloc ?_ _)); exact BK112.out)) : gb112 ≠ gb114)); have n7_ := Aside0.mk ((by rw [hg]; exact Nat.ne_of_gt (blk_lt (g := gb112) (o := .cells #[.int .i64 a0_0, .int .i64 a0_1, .slice A0_2 l0_2.length c0_2] 24 (0, 0)) (by (with_reducible repeat (first | refine blk_drewN ?_ _ | refine blk_drew ?_ | refine blk_alloc ?_ _)); exact BK112.out)) : gb114 ≠ gb112)); have n8_ := Aside0.mk ((by rw [hg]; exact Nat.ne_of_lt (blk_lt (g := gb113) (o := .cells #[.int .i64 0, .int .i64 0, .slice none 0 0] 24 (0, 0)) (by (with_reducible repeat (first | refine blk_drewN ?_ _ | refine blk_drew ?_ | refine blk_alloc ?_ _)); exact BK113.out)) : gb113 ≠ gb114)); have n9_ := Aside0.mk ((by rw [hg]; exact Nat.ne_of_gt (blk_lt (g := gb113) (o := .cells #[.int .i64 0, .int .i64 0, .slice none 0 0] 24 (0, 0)) (by (with_reducible repeat (first | refine blk_drewN ?_ _ | refine blk_drew ?_ | refine blk_alloc ?_ _)); exact BK113.out)) : gb114 ≠ gb113)); clear BK112; clear BK113; clear HB; have BK112 := n0_; have BK113 := n1_; have HB := n2_; have BK114 := n3_; have GW114 := n4_; have GE114 := n5_; have NB112_114 := n6_; have NB114_112 := n7_; have NB113_114 := n8_; have NB114_113 := n9_; clear n0_ n1_ n2_ n3_ n4_ n5_ n6_ n7_ n8_ n9_; clear hb hbox hg; have hnb7 := NB114_112.out; have hnc7 := NB112_114.out; have hnb8 := NB114_113.out; have hnc8 := NB113_114.out; have hcz9_0 : w6.cell? ⟨gb114, 0, none⟩ = some (.int .i64 0) := (blk_cell BK114.out 0).trans rfl; have hcz9_1 : w6.cell? ⟨gb114, 1, none⟩ = some (.int .i64 0) := (blk_cell BK114.out 1).trans rfl; have hcz9_2 : w6.cell? ⟨gb114, 2, none⟩ = some (.slice none 0 0) := (blk_cell BK114.out 2).trans rfl; have hfz9_0 := blk_frozen BK114.out 0; have hfz9_1 := blk_frozen BK114.out 1; have hfz9_2 := blk_frozen BK114.out 2; have hcz10_0 : w6.cell? ⟨gb112, 0, none⟩ = some (.int .i64 a0_0) := (blk_cell BK112.out 0).trans rfl; have hcz10_1 : w6.cell? ⟨gb112, 1, none⟩ = some (.int .i64 a0_1) := (blk_cell BK112.out 1).trans rfl; have hcz10_2 : w6.cell? ⟨gb112, 2, none⟩ = some (.slice A0_2 l0_2.length c0_2) := (blk_cell BK112.out 2).trans rfl; have hfz10_0 := blk_frozen BK112.out 0; have hfz10_1 := blk_frozen BK112.out 1; have hfz10_2 := blk_frozen BK112.out 2))
  go_loopg [14] k (fun kq v14 w' => ∃ (x14_1 : Int) (x115002_1 : List (S46)) (u115002 : Value), v14 = .int .i64 x14_1 ∧ Aside0 (circuit_Copy.l0 kq l0_2 (l0_2.length : Int) x14_1 a0_0 a0_1 x115002_1 = some (r1, r2, r3)) ∧ Aside0 (kq ≤ k) ∧ Aside0 (Kd.S k46 46 w' w.heap.size (fun _ => True) u115002 x115002_1) ∧ Aside0 (w'.heap[gb112]? = some (.cells #[.int .i64 a0_0, .int .i64 a0_1, (.slice A0_2 l0_2.length c0_2)] 24 (0, 0))) ∧ Aside0 (w'.heap[gb113]? = some (.cells #[.int .i64 0, .int .i64 0, (.slice none 0 0)] 24 (0, 0))) ∧ Aside0 (w'.heap[gb114]? = some (.cells #[.int .i64 a0_0, .int .i64 a0_1, u115002] 24 (0, 0))) ∧ Aside0 (Below w.heap.size w w'))
  case atStart => exact ⟨(0), (([] : List (S46))), (.slice none 0 0), (by first | rfl | (simp; done) | (simp [*]; done)), H', ⟨Nat.le_refl _⟩, ⟨by first | exact Kd.S_nil _ _ _ _ _ | exact Kd.N_nil _ _ _ _ _ | exact Kd.V_nil _ _ _ _ _ | exact Kd.Q_nil _ _ _ _ _ | exact Kd.R_nil _ _ _ _ _⟩, ⟨by (with_reducible repeat (first | refine blk_drewN ?_ _ | refine blk_drew ?_ | refine blk_alloc ?_ _)); refine blk_far ?_ NB112_114.out _; (with_reducible repeat (first | refine blk_drewN ?_ _ | refine blk_drew ?_ | refine blk_alloc ?_ _)); refine blk_far ?_ NB112_114.out _; (with_reducible repeat (first | refine blk_drewN ?_ _ | refine blk_drew ?_ | refine blk_alloc ?_ _)); refine blk_far ?_ NB112_114.out _; (with_reducible repeat (first | refine blk_drewN ?_ _ | refine blk_drew ?_ | refine blk_alloc ?_ _)); exact BK112.out⟩, ⟨by (with_reducible repeat (first | refine blk_drewN ?_ _ | refine blk_drew ?_ | refine blk_alloc ?_ _)); refine blk_far ?_ NB113_114.out _; (with_reducible repeat (first | refine blk_drewN ?_ _ | refine blk_drew ?_ | refine blk_alloc ?_ _)); refine blk_far ?_ NB113_114.out _; (with_reducible repeat (first | refine blk_drewN ?_ _ | refine blk_drew ?_ | refine blk_alloc ?_ _)); refine blk_far ?_ NB113_114.out _; (with_reducible repeat (first | refine blk_drewN ?_ _ | refine blk_drew ?_ | refine blk_alloc ?_ _)); exact BK113.out⟩, ⟨by (with_reducible repeat (first | refine blk_drewN ?_ _ | refine blk_drew ?_ | refine blk_alloc ?_ _)); refine blk_put (cs := #[.int .i64 a0_0, .int .i64 a0_1, .slice none 0 0]) ?_ 2 _ rfl; (with_reducible repeat (first | refine blk_drewN ?_ _ | refine blk_drew ?_ | refine blk_alloc ?_ _)); refine blk_put (cs := #[.int .i64 a0_0, .int .i64 0, .slice none 0 0]) ?_ 1 _ rfl; (with_reducible repeat (first | refine blk_drewN ?_ _ | refine blk_drew ?_ | refine blk_alloc ?_ _)); refine blk_put (cs := #[.int .i64 0, .int .i64 0, .slice none 0 0]) ?_ 0 _ rfl; (with_reducible repeat (first | refine blk_drewN ?_ _ | refine blk_drew ?_ | refine blk_alloc ?_ _)); exact BK114.out⟩, ⟨by repeat (first | (with_reducible first | exact HB.out | apply below_alloc | apply pw_below_drewN | apply below_drew1 | refine below_set ?_ GE112.out | refine below_set ?_ GE113.out | refine below_set ?_ GE114.out) | exact HB.out)⟩⟩
  case round =>
    clear H'
    try clear p2
    try clear c4
    try clear c5
    try clear c7
    try clear c8
    try clear hcz10_0
    try clear hcz10_1
    try clear hcz10_2
    try clear hcz5_0
    try clear hcz5_1
    try clear hcz5_2
    try clear hcz9_0
    try clear hcz9_1
    try clear hcz9_2
    try clear hfz10_0
    try clear hfz10_1
    try clear hfz10_2
    try clear hfz5_0
    try clear hfz5_1
    try clear hfz5_2
    try clear hfz9_0
    try clear hfz9_1
    try clear hfz9_2
    obtain ⟨x14_1, x115002_1, u115002, rfl, HA, HK1, HO_115002, BK112, BK113, BK114, HB⟩ := hrel
    cases gk with
    | zero => exact absurd HA.out (by simp [circuit_Copy.l0])
    | succ k1 =>
      have H := HA.out
      clear HA
      simp only [circuit_Copy.l0] at H
      by_cases c11 : x14_1 < (l0_2.length : Int)
      · rw [if_pos c11] at H
        have c11b0 : decide (x14_1 < (l0_2.length : Int)) = true := decide_eq_true c11
        clear c11
        by_cases c12 : 0 ≤ x14_1
        · rw [if_pos c12] at H
          have c12b0 : decide (0 ≤ x14_1) = true := decide_eq_true c12
          clear c12
          by_cases c13 : x14_1 < (l0_2.length : Int)
          · rw [if_pos c13] at H
            have c13b0 : decide (x14_1 < (l0_2.length : Int)) = true := decide_eq_true c13
            clear c13
            replace H := Option.bind_eq_some_iff.mp H
            obtain ⟨t117, A140, H⟩ := H
            replace H : (if x115002_1.length < 2199023255552 then (circuit_Copy.l0 k1 l0_2 (l0_2.length : Int) (wrap64 (x14_1 + 1)) a0_0 a0_1 (x115002_1 ++ [(⟨(rd_T46 l0_2 x14_1).f0, (rd_T46 l0_2 x14_1).f1, t117, (rd_T46 l0_2 x14_1).f3, (rd_T46 l0_2 x14_1).f4, (rd_T46 l0_2 x14_1).f5⟩ : S46)])) else (none)) = some (r1, r2, r3) := H
            have A14 := Aside0.mk A140
            clear A140
            by_cases c15 : x115002_1.length < 2199023255552
            · rw [if_pos c15] at H
              have LMc15 := Aside0.mk c15
              clear c15
              obtain ⟨y120, hy120⟩ : ∃ y_ : List (S46), y_ = (x115002_1 ++ [(⟨(rd_T46 l0_2 x14_1).f0, (rd_T46 l0_2 x14_1).f1, t117, (rd_T46 l0_2 x14_1).f3, (rd_T46 l0_2 x14_1).f4, (rd_T46 l0_2 x14_1).f5⟩ : S46)]) := ⟨_, rfl⟩
              replace H : (circuit_Copy.l0 k1 l0_2 (l0_2.length : Int) (wrap64 (x14_1 + 1)) a0_0 a0_1 y120) = some (r1, r2, r3) := by first | (rw [hy120]; with_reducible exact H) | (have H2_ := (Option.bind_some _ _).symm.trans H; rw [hy120]; with_reducible exact H2_) | (have H2_ := (Option.bind_some _ _).symm.trans H; with_reducible exact H2_) | with_reducible exact H | (rw [hy120]; exact H) | exact H
              have Ny120 := Aside0.mk hy120
              clear hy120
              have H' := Aside0.mk H
              clear H
              have p115 : 0 ≤ (x14_1 : Int) := of_decide_eq_true (by first | (with_reducible assumption) | assumption)
              have q115 : x14_1 < (l0_2.length : Int) := of_decide_eq_true (by first | (with_reducible assumption) | assumption)
              obtain ⟨ad115, A115_2, c115_2, e115, hx115_0, hx115_1, hx115_2, hx115_3, hx115_4, hx115_5, hl115_2, hi115_2⟩ := at_T46 HR0_2.out x14_1 p115 q115
              cases e115
              replace hx115_0 := (HB.out.cell (World.block_lt_of_cell? w _ hx115_0)).trans hx115_0
              replace hx115_1 := (HB.out.cell (World.block_lt_of_cell? w _ hx115_1)).trans hx115_1
              replace hx115_2 := (HB.out.cell (World.block_lt_of_cell? w _ hx115_2)).trans hx115_2
              replace hx115_3 := (HB.out.cell (World.block_lt_of_cell? w _ hx115_3)).trans hx115_3
              replace hx115_4 := (HB.out.cell (World.block_lt_of_cell? w _ hx115_4)).trans hx115_4
              replace hx115_5 := (HB.out.cell (World.block_lt_of_cell? w _ hx115_5)).trans hx115_5
              have HR115_2 := Aside0.mk hi115_2
              have HC115_2 := Aside0.mk hl115_2
              clear hi115_2 hl115_2
              replace p115 := eq_true p115
              replace q115 := eq_true q115
              go_wp2_with (first | ((with_reducible refine gate_dst (N := 5) rfl ?_); refine box_event ?hg (N := 5) ?hd (cs := #[.int .i64 0, .int .i64 0, .slice none 0 0, .int .i64 0, .int .i64 0, .int .i64 0]) (t := 46) ?hr ?_; (case hd => rfl); (case hg => rfl); (case hr => first | (go_simp; done) | (go_simp; rfl)); intro gb116 hg w16 hbox hb; have n0_ := Aside0.mk (Kd.S_below (Kd.S_elderB (by (with_reducible repeat (first | apply Kd.S_alloc | apply Kd.S_drewN | apply Kd.S_drew)); exact HO_115002.out) gb116 (Nat.le_of_eq hg.symm)) hb); have n1_ := Aside0.mk (blk_below (g := gb112) (o := .cells #[.int .i64 a0_0, .int .i64 a0_1, .slice (some ad115) l0_2.length c0_2] 24 (0, 0)) (by (with_reducible repeat (first | refine blk_drewN ?_ _ | refine blk_drew ?_ | refine blk_alloc ?_ _)); exact BK112.out) hb); have n2_ := Aside0.mk (blk_below (g := gb113) (o := .cells #[.int .i64 0, .int .i64 0, .slice none 0 0] 24 (0, 0)) (by (with_reducible repeat (first | refine blk_drewN ?_ _ | refine blk_drew ?_ | refine blk_alloc ?_ _)); exact BK113.out) hb); have n3_ := Aside0.mk (blk_below (g := gb114) (o := .cells #[.int .i64 a0_0, .int .i64 a0_1, u115002] 24 (0, 0)) (by (with_reducible repeat (first | refine blk_drewN ?_ _ | refine blk_drew ?_ | refine blk_alloc ?_ _)); exact BK114.out) hb); have n4_ := Aside0.mk (below_step (by repeat (first | (with_reducible first | exact HB.out | apply below_alloc | apply pw_below_drewN | apply below_drew1 | refine below_set ?_ GE112.out | refine below_set ?_ GE113.out | refine below_set ?_ GE114.out) | exact HB.out)) hb); have n5_ := Aside0.mk (hbox); have n6_ := Aside0.mk ((by rw [hg]; exact (below_size (by repeat (first | (with_reducible first | exact HB.out | apply below_alloc | apply pw_below_drewN | apply below_drew1 | refine below_set ?_ GE112.out | refine below_set ?_ GE113.out | refine below_set ?_ GE114.out) | exact HB.out))) : w.heap.size ≤ gb116)); have n7_ := Aside0.mk ((by rw [hg]; exact (below_size (by repeat (first | (with_reducible first | exact HB.out | apply below_alloc | apply pw_below_drewN | apply below_drew1 | refine below_set ?_ GE112.out | refine below_set ?_ GE113.out | refine below_set ?_ GE114.out) | exact HB.out))) : w.heap.size ≤ gb116)); have n8_ := Aside0.mk ((by rw [hg]; exact Nat.ne_of_lt (blk_lt (g := gb112) (o := .cells #[.int .i64 a0_0, .int .i64 a0_1, .slice (some ad115) l0_2.length c0_2] 24 (0, 0)) (by (with_reducible repeat (first | refine blk_drewN ?_ _ | refine blk_drew ?_ | refine blk_alloc ?_ _)); exact BK112.out)) : gb112 ≠ gb116)); have n9_ := Aside0.mk ((by rw [hg]; exact Nat.ne_of_gt (blk_lt (g := gb112) (o := .cells #[.int .i64 a0_0, .int .i64 a0_1, .slice (some ad115) l0_2.length c0_2] 24 (0, 0)) (by (with_reducible repeat (first | refine blk_drewN ?_ _ | refine blk_drew ?_ | refine blk_alloc ?_ _)); exact BK112.out)) : gb116 ≠ gb112)); have n10_ := Aside0.mk ((by rw [hg]; exact Nat.ne_of_lt (blk_lt (g := gb113) (o := .cells #[.int .i64 0, .int .i64 0, .slice none 0 0] 24 (0, 0)) (by (with_reducible repeat (first | refine blk_drewN ?_ _ | refine blk_drew ?_ | refine blk_alloc ?_ _)); exact BK113.out)) : gb113 ≠ gb116)); have n11_ := Aside0.mk ((by rw [hg]; exact Nat.ne_of_gt (blk_lt (g := gb113) (o := .cells #[.int .i64 0, .int .i64 0, .slice none 0 0] 24 (0, 0)) (by (with_reducible repeat (first | refine blk_drewN ?_ _ | refine blk_drew ?_ | refine blk_alloc ?_ _)); exact BK113.out)) : gb116 ≠ gb113)); have n12_ := Aside0.mk ((by rw [hg]; exact Nat.ne_of_lt (blk_lt (g := gb114) (o := .cells #[.int .i64 a0_0, .int .i64 a0_1, u115002] 24 (0, 0)) (by (with_reducible repeat (first | refine blk_drewN ?_ _ | refine blk_drew ?_ | refine blk_alloc ?_ _)); exact BK114.out)) : gb114 ≠ gb116)); have n13_ := Aside0.mk ((by rw [hg]; exact Nat.ne_of_gt (blk_lt (g := gb114) (o := .cells #[.int .i64 a0_0, .int .i64 a0_1, u115002] 24 (0, 0)) (by (with_reducible repeat (first | refine blk_drewN ?_ _ | refine blk_drew ?_ | refine blk_alloc ?_ _)); exact BK114.out)) : gb116 ≠ gb114)); clear HO_115002; clear BK112; clear BK113; clear BK114; clear HB; have HO_115002 := n0_; have BK112 := n1_; have BK113 := n2_; have BK114 := n3_; have HB := n4_; have BK116 := n5_; have GW116 := n6_; have GE116 := n7_; have NB112_116 := n8_; have NB116_112 := n9_; have NB113_116 := n10_; have NB116_113 := n11_; have NB114_116 := n12_; have NB116_114 := n13_; clear n0_ n1_ n2_ n3_ n4_ n5_ n6_ n7_ n8_ n9_ n10_ n11_ n12_ n13_; clear hb hbox hg; have hnb17 := NB116_112.out; have hnc17 := NB112_116.out; have hnb18 := NB116_113.out; have hnc18 := NB113_116.out; have hnb19 := NB116_114.out; have hnc19 := NB114_116.out; have hcz20_0 : w16.cell? ⟨gb116, 0, none⟩ = some (.int .i64 0) := (blk_cell BK116.out 0).trans rfl; have hcz20_1 : w16.cell? ⟨gb116, 1, none⟩ = some (.int .i64 0) := (blk_cell BK116.out 1).trans rfl; have hcz20_2 : w16.cell? ⟨gb116, 2, none⟩ = some (.slice none 0 0) := (blk_cell BK116.out 2).trans rfl; have hcz20_3 : w16.cell? ⟨gb116, 3, none⟩ = some (.int .i64 0) := (blk_cell BK116.out 3).trans rfl; have hcz20_4 : w16.cell? ⟨gb116, 4, none⟩ = some (.int .i64 0) := (blk_cell BK116.out 4).trans rfl; have hcz20_5 : w16.cell? ⟨gb116, 5, none⟩ = some (.int .i64 0) := (blk_cell BK116.out 5).trans rfl; have hfz20_0 := blk_frozen BK116.out 0; have hfz20_1 := blk_frozen BK116.out 1; have hfz20_2 := blk_frozen BK116.out 2; have hfz20_3 := blk_frozen BK116.out 3; have hfz20_4 := blk_frozen BK116.out 4; have hfz20_5 := blk_frozen BK116.out 5) | ((with_reducible refine gate_callee (f := 50) rfl ?_); refine goesL_ (some 20) rfl rfl Try.func50 (by kernel_rfl) rfl #[.slice A115_2 ((rd_T46 l0_2 x14_1).f2).length c115_2] rfl (by (try simp only [List.map_toArray, List.map_cons, List.map_nil]); first | done | rfl | (simp only [List.length_drop, List.length_take]; rfl)) ?_; (with_reducible refine (slices_Clone_int_int.calls _ _ ((rd_T46 l0_2 x14_1).f2) t117 _ ?side1 ?side2 A14.out).mono ?_); (case side1 => exact Kd.C_below HR115_2.out (by repeat (first | (with_reducible first | exact HB.out | apply below_alloc | apply pw_below_drewN | apply below_drew1 | refine below_set ?_ GE112.out | refine below_set ?_ GE113.out | refine below_set ?_ GE114.out | refine below_set ?_ GE116.out) | exact HB.out))); (case side2 => exact HC115_2.out); rintro e w21 ⟨v118, rfl, ho0, hb⟩; refine ⟨_, rfl, ?_⟩; have n0_ := Aside0.mk (Kd.S_elder' (by (with_reducible repeat (first | apply Kd.S_alloc | apply Kd.S_drewN | apply Kd.S_drew)); exact (Kd.S_mono (Kd.S_far (p := ⟨gb116, 5, none⟩) (Kd.S_far (p := ⟨gb116, 4, none⟩) (Kd.S_far (p := ⟨gb116, 3, none⟩) (Kd.S_far (p := ⟨gb116, 2, none⟩) (Kd.S_far (p := ⟨gb116, 1, none⟩) (Kd.S_far (p := ⟨gb116, 0, none⟩) (Kd.S_mono HO_115002.out (fun k_ hk => (⟨hk, hk.2⟩ : _ ∧ k_ ≠ gb116))) (fun _ hk => hk.2) (.int .i64 ((rd_T46 l0_2 x14_1).f0))) (fun _ hk => hk.2) (.int .i64 ((rd_T46 l0_2 x14_1).f1))) (fun _ hk => hk.2) (.slice A115_2 ((rd_T46 l0_2 x14_1).f2).length c115_2)) (fun _ hk => hk.2) (.int .i64 ((rd_T46 l0_2 x14_1).f3))) (fun _ hk => hk.2) (.int .i64 ((rd_T46 l0_2 x14_1).f4))) (fun _ hk => hk.2) (.int .i64 ((rd_T46 l0_2 x14_1).f5))) (fun _ h_ => h_.1))) (Kd.R_base ho0) hb); have n1_ := Aside0.mk (Kd.R_lower ho0 (below_size (by repeat (first | (with_reducible first | exact HB.out | apply below_alloc | apply pw_below_drewN | apply below_drew1 | refine below_set ?_ GE112.out | refine below_set ?_ GE113.out | refine below_set ?_ GE114.out | refine below_set ?_ GE116.out) | exact HB.out)))); have n2_ := Aside0.mk (blk_below (g := gb112) (o := .cells #[.int .i64 a0_0, .int .i64 a0_1, .slice (some ad115) l0_2.length c0_2] 24 (0, 0)) (by (with_reducible repeat (first | refine blk_drewN ?_ _ | refine blk_drew ?_ | refine blk_alloc ?_ _)); refine blk_far ?_ NB112_116.out _; (with_reducible repeat (first | refine blk_drewN ?_ _ | refine blk_drew ?_ | refine blk_alloc ?_ _)); refine blk_far ?_ NB112_116.out _; (with_reducible repeat (first | refine blk_drewN ?_ _ | refine blk_drew ?_ | refine blk_alloc ?_ _)); refine blk_far ?_ NB112_116.out _; (with_reducible repeat (first | refine blk_drewN ?_ _ | refine blk_drew ?_ | refine blk_alloc ?_ _)); refine blk_far ?_ NB112_116.out _; (with_reducible repeat (first | refine blk_drewN ?_ _ | refine blk_drew ?_ | refine blk_alloc ?_ _)); refine blk_far ?_ NB112_116.out _; (with_reducible repeat (first | refine blk_drewN ?_ _ | refine blk_drew ?_ | refine blk_alloc ?_ _)); refine blk_far ?_ NB112_116.out _; (with_reducible repeat (first | refine blk_drewN ?_ _ | refine blk_drew ?_ | refine blk_alloc ?_ _)); exact BK112.out) hb); have n3_ := Aside0.mk (blk_below (g := gb113) (o := .cells #[.int .i64 0, .int .i64 0, .slice none 0 0] 24 (0, 0)) (by (with_reducible repeat (first | refine blk_drewN ?_ _ | refine blk_drew ?_ | refine blk_alloc ?_ _)); refine blk_far ?_ NB113_116.out _; (with_reducible repeat (first | refine blk_drewN ?_ _ | refine blk_drew ?_ | refine blk_alloc ?_ _)); refine blk_far ?_ NB113_116.out _; (with_reducible repeat (first | refine blk_drewN ?_ _ | refine blk_drew ?_ | refine blk_alloc ?_ _)); refine blk_far ?_ NB113_116.out _; (with_reducible repeat (first | refine blk_drewN ?_ _ | refine blk_drew ?_ | refine blk_alloc ?_ _)); refine blk_far ?_ NB113_116.out _; (with_reducible repeat (first | refine blk_drewN ?_ _ | refine blk_drew ?_ | refine blk_alloc ?_ _)); refine blk_far ?_ NB113_116.out _; (with_reducible repeat (first | refine blk_drewN ?_ _ | refine blk_drew ?_ | refine blk_alloc ?_ _)); refine blk_far ?_ NB113_116.out _; (with_reducible repeat (first | refine blk_drewN ?_ _ | refine blk_drew ?_ | refine blk_alloc ?_ _)); exact BK113.out) hb); have n4_ := Aside0.mk (blk_below (g := gb114) (o := .cells #[.int .i64 a0_0, .int .i64 a0_1, u115002] 24 (0, 0)) (by (with_reducible repeat (first | refine blk_drewN ?_ _ | refine blk_drew ?_ | refine blk_alloc ?_ _)); refine blk_far ?_ NB114_116.out _; (with_reducible repeat (first | refine blk_drewN ?_ _ | refine blk_drew ?_ | refine blk_alloc ?_ _)); refine blk_far ?_ NB114_116.out _; (with_reducible repeat (first | refine blk_drewN ?_ _ | refine blk_drew ?_ | refine blk_alloc ?_ _)); refine blk_far ?_ NB114_116.out _; (with_reducible repeat (first | refine blk_drewN ?_ _ | refine blk_drew ?_ | refine blk_alloc ?_ _)); refine blk_far ?_ NB114_116.out _; (with_reducible repeat (first | refine blk_drewN ?_ _ | refine blk_drew ?_ | refine blk_alloc ?_ _)); refine blk_far ?_ NB114_116.out _; (with_reducible repeat (first | refine blk_drewN ?_ _ | refine blk_drew ?_ | refine blk_alloc ?_ _)); refine blk_far ?_ NB114_116.out _; (with_reducible repeat (first | refine blk_drewN ?_ _ | refine blk_drew ?_ | refine blk_alloc ?_ _)); exact BK114.out) hb); have n5_ := Aside0.mk (blk_below (g := gb116) (o := .cells #[.int .i64 ((rd_T46 l0_2 x14_1).f0), .int .i64 ((rd_T46 l0_2 x14_1).f1), .slice A115_2 ((rd_T46 l0_2 x14_1).f2).length c115_2, .int .i64 ((rd_T46 l0_2 x14_1).f3), .int .i64 ((rd_T46 l0_2 x14_1).f4), .int .i64 ((rd_T46 l0_2 x14_1).f5)] 46 (0, 0)) (by (with_reducible repeat (first | refine blk_drewN ?_ _ | refine blk_drew ?_ | refine blk_alloc ?_ _)); refine blk_put (cs := #[.int .i64 ((rd_T46 l0_2 x14_1).f0), .int .i64 ((rd_T46 l0_2 x14_1).f1), .slice A115_2 ((rd_T46 l0_2 x14_1).f2).length c115_2, .int .i64 ((rd_T46 l0_2 x14_1).f3), .int .i64 ((rd_T46 l0_2 x14_1).f4), .int .i64 0]) ?_ 5 _ rfl; (with_reducible repeat (first | refine blk_drewN ?_ _ | refine blk_drew ?_ | refine blk_alloc ?_ _)); refine blk_put (cs := #[.int .i64 ((rd_T46 l0_2 x14_1).f0), .int .i64 ((rd_T46 l0_2 x14_1).f1), .slice A115_2 ((rd_T46 l0_2 x14_1).f2).length c115_2, .int .i64 ((rd_T46 l0_2 x14_1).f3), .int .i64 0, .int .i64 0]) ?_ 4 _ rfl; (with_reducible repeat (first | refine blk_drewN ?_ _ | refine blk_drew ?_ | refine blk_alloc ?_ _)); refine blk_put (cs := #[.int .i64 ((rd_T46 l0_2 x14_1).f0), .int .i64 ((rd_T46 l0_2 x14_1).f1), .slice A115_2 ((rd_T46 l0_2 x14_1).f2).length c115_2, .int .i64 0, .int .i64 0, .int .i64 0]) ?_ 3 _ rfl; (with_reducible repeat (first | refine blk_drewN ?_ _ | refine blk_drew ?_ | refine blk_alloc ?_ _)); refine blk_put (cs := #[.int .i64 ((rd_T46 l0_2 x14_1).f0), .int .i64 ((rd_T46 l0_2 x14_1).f1), .slice none 0 0, .int .i64 0, .int .i64 0, .int .i64 0]) ?_ 2 _ rfl; (with_reducible repeat (first | refine blk_drewN ?_ _ | refine blk_drew ?_ | refine blk_alloc ?_ _)); refine blk_put (cs := #[.int .i64 ((rd_T46 l0_2 x14_1).f0), .int .i64 0, .slice none 0 0, .int .i64 0, .int .i64 0, .int .i64 0]) ?_ 1 _ rfl; (with_reducible repeat (first | refine blk_drewN ?_ _ | refine blk_drew ?_ | refine blk_alloc ?_ _)); refine blk_put (cs := #[.int .i64 0, .int .i64 0, .slice none 0 0, .int .i64 0, .int .i64 0, .int .i64 0]) ?_ 0 _ rfl; (with_reducible repeat (first | refine blk_drewN ?_ _ | refine blk_drew ?_ | refine blk_alloc ?_ _)); exact BK116.out) hb); have n6_ := Aside0.mk (below_step (by repeat (first | (with_reducible first | exact HB.out | apply below_alloc | apply pw_below_drewN | apply below_drew1 | refine below_set ?_ GE112.out | refine below_set ?_ GE113.out | refine below_set ?_ GE114.out | refine below_set ?_ GE116.out) | exact HB.out)) hb); clear HO_115002; clear BK112; clear BK113; clear BK114; clear BK116; clear HB; have HO_115002 := n0_; have HO119 := n1_; have BK112 := n2_; have BK113 := n3_; have BK114 := n4_; have BK116 := n5_; have HB := n6_; clear n0_ n1_ n2_ n3_ n4_ n5_ n6_; (try clear hb); (try clear hb2); (try clear hk); (try clear hi); (try clear ho0); obtain ⟨Ao22, co22, eo22⟩ := Kd.R_slice HO119.out; subst eo22; have hcz23_0 : w21.cell? ⟨gb116, 0, none⟩ = some (.int .i64 ((rd_T46 l0_2 x14_1).f0)) := (blk_cell BK116.out 0).trans rfl; have hcz23_1 : w21.cell? ⟨gb116, 1, none⟩ = some (.int .i64 ((rd_T46 l0_2 x14_1).f1)) := (blk_cell BK116.out 1).trans rfl; have hcz23_2 : w21.cell? ⟨gb116, 2, none⟩ = some (.slice A115_2 ((rd_T46 l0_2 x14_1).f2).length c115_2) := (blk_cell BK116.out 2).trans rfl; have hcz23_3 : w21.cell? ⟨gb116, 3, none⟩ = some (.int .i64 ((rd_T46 l0_2 x14_1).f3)) := (blk_cell BK116.out 3).trans rfl; have hcz23_4 : w21.cell? ⟨gb116, 4, none⟩ = some (.int .i64 ((rd_T46 l0_2 x14_1).f4)) := (blk_cell BK116.out 4).trans rfl; have hcz23_5 : w21.cell? ⟨gb116, 5, none⟩ = some (.int .i64 ((rd_T46 l0_2 x14_1).f5)) := (blk_cell BK116.out 5).trans rfl; have hfz23_0 := blk_frozen BK116.out 0; have hfz23_1 := blk_frozen BK116.out 1; have hfz23_2 := blk_frozen BK116.out 2; have hfz23_3 := blk_frozen BK116.out 3; have hfz23_4 := blk_frozen BK116.out 4; have hfz23_5 := blk_frozen BK116.out 5) | ((with_reducible refine gate_store (t := 37) (p := 21) rfl ?_); refine store_event (t := 37) (p := 21) (v := ?vo_w24) (w1 := (w21.setCell ⟨gb116, 2, none⟩ (.slice Ao22 t117.length co22))) ?hg ?ho ?hn ?hr ?_; (case ho => rfl); (case hg => rfl); (case hn => rfl); (case hr => first | (go_simp; done) | (go_simp; rfl)); intro w24 hw; have n0_ : Aside0 (Kd.S k46 46 w24 w.heap.size (fun k_ => some k_ ≠ (.slice Ao22 t117.length co22 : Value).ownBlock ∧ k_ ≠ gb116) u115002 x115002_1) := ⟨(by rw [hw]; exact (by (with_reducible repeat (first | apply Kd.S_alloc | apply Kd.S_drewN | apply Kd.S_drew)); exact Kd.S_mono (Kd.S_far (p := ⟨gb116, 2, none⟩) (Kd.S_mono HO_115002.out (fun k_ hk => (⟨hk, hk.1.2⟩ : _ ∧ k_ ≠ gb116))) (fun _ hk => hk.2) (.slice Ao22 t117.length co22)) (fun _ hk => ⟨hk.1.2, hk.1.1.2⟩)))⟩; have n1_ : Aside0 (Kd.R (Kd.int .i64) 3 w24 w.heap.size (fun _ => True) (.slice Ao22 t117.length co22) t117) := ⟨(by rw [hw]; exact (by (with_reducible repeat (first | apply Kd.R_alloc | apply Kd.R_drewN | apply Kd.R_drew)); exact Kd.R_mono (Kd.R_far (p := ⟨gb116, 2, none⟩) (Kd.R_types HO119.out BK116.out (by decide)) (fun _ hk => hk.2) (.slice Ao22 t117.length co22)) (fun _ hk => trivial)))⟩; have n2_ : Aside0 (w24.heap[gb112]? = some (.cells #[.int .i64 a0_0, .int .i64 a0_1, .slice (some ad115) l0_2.length c0_2] 24 (0, 0))) := ⟨(by rw [hw]; exact (by (with_reducible repeat (first | refine blk_drewN ?_ _ | refine blk_drew ?_ | refine blk_alloc ?_ _)); refine blk_far ?_ NB112_116.out _; (with_reducible repeat (first | refine blk_drewN ?_ _ | refine blk_drew ?_ | refine blk_alloc ?_ _)); exact BK112.out))⟩; have n3_ : Aside0 (w24.heap[gb113]? = some (.cells #[.int .i64 0, .int .i64 0, .slice none 0 0] 24 (0, 0))) := ⟨(by rw [hw]; exact (by (with_reducible repeat (first | refine blk_drewN ?_ _ | refine blk_drew ?_ | refine blk_alloc ?_ _)); refine blk_far ?_ NB113_116.out _; (with_reducible repeat (first | refine blk_drewN ?_ _ | refine blk_drew ?_ | refine blk_alloc ?_ _)); exact BK113.out))⟩; have n4_ : Aside0 (w24.heap[gb114]? = some (.cells #[.int .i64 a0_0, .int .i64 a0_1, u115002] 24 (0, 0))) := ⟨(by rw [hw]; exact (by (with_reducible repeat (first | refine blk_drewN ?_ _ | refine blk_drew ?_ | refine blk_alloc ?_ _)); refine blk_far ?_ NB114_116.out _; (with_reducible repeat (first | refine blk_drewN ?_ _ | refine blk_drew ?_ | refine blk_alloc ?_ _)); exact BK114.out))⟩; have n5_ : Aside0 (w24.heap[gb116]? = some (.cells #[.int .i64 ((rd_T46 l0_2 x14_1).f0), .int .i64 ((rd_T46 l0_2 x14_1).f1), .slice Ao22 t117.length co22, .int .i64 ((rd_T46 l0_2 x14_1).f3), .int .i64 ((rd_T46 l0_2 x14_1).f4), .int .i64 ((rd_T46 l0_2 x14_1).f5)] 46 (0, 0))) := ⟨(by rw [hw]; exact (by (with_reducible repeat (first | refine blk_drewN ?_ _ | refine blk_drew ?_ | refine blk_alloc ?_ _)); refine blk_put (cs := #[.int .i64 ((rd_T46 l0_2 x14_1).f0), .int .i64 ((rd_T46 l0_2 x14_1).f1), .slice A115_2 ((rd_T46 l0_2 x14_1).f2).length c115_2, .int .i64 ((rd_T46 l0_2 x14_1).f3), .int .i64 ((rd_T46 l0_2 x14_1).f4), .int .i64 ((rd_T46 l0_2 x14_1).f5)]) ?_ 2 _ rfl; (with_reducible repeat (first | refine blk_drewN ?_ _ | refine blk_drew ?_ | refine blk_alloc ?_ _)); exact BK116.out))⟩; have n6_ : Aside0 (Below w.heap.size w w24) := ⟨(by rw [hw]; exact (by repeat (first | (with_reducible first | exact HB.out | apply below_alloc | apply pw_below_drewN | apply below_drew1 | refine below_set ?_ GE112.out | refine below_set ?_ GE113.out | refine below_set ?_ GE114.out | refine below_set ?_ GE116.out) | exact HB.out)))⟩; clear hw; clear HO_115002; clear HO119; clear BK112; clear BK113; clear BK114; clear BK116; clear HB; have HO_115002 := n0_; have HO119 := n1_; have BK112 := n2_; have BK113 := n3_; have BK114 := n4_; have BK116 := n5_; have HB := n6_; clear n0_ n1_ n2_ n3_ n4_ n5_ n6_; have hnb25 := NB114_112.out; have hnc25 := NB112_114.out; have hnb26 := NB114_113.out; have hnc26 := NB113_114.out; have hcz27_0 : w24.cell? ⟨gb114, 0, none⟩ = some (.int .i64 a0_0) := (blk_cell BK114.out 0).trans rfl; have hcz27_1 : w24.cell? ⟨gb114, 1, none⟩ = some (.int .i64 a0_1) := (blk_cell BK114.out 1).trans rfl; have hcz27_2 : w24.cell? ⟨gb114, 2, none⟩ = some (u115002) := (blk_cell BK114.out 2).trans rfl; have hfz27_0 := blk_frozen BK114.out 0; have hfz27_1 := blk_frozen BK114.out 1; have hfz27_2 := blk_frozen BK114.out 2; have hcz28_0 : w24.cell? ⟨gb116, 0, none⟩ = some (.int .i64 ((rd_T46 l0_2 x14_1).f0)) := (blk_cell BK116.out 0).trans rfl; have hcz28_1 : w24.cell? ⟨gb116, 1, none⟩ = some (.int .i64 ((rd_T46 l0_2 x14_1).f1)) := (blk_cell BK116.out 1).trans rfl; have hcz28_2 : w24.cell? ⟨gb116, 2, none⟩ = some (.slice Ao22 t117.length co22) := (blk_cell BK116.out 2).trans rfl; have hcz28_3 : w24.cell? ⟨gb116, 3, none⟩ = some (.int .i64 ((rd_T46 l0_2 x14_1).f3)) := (blk_cell BK116.out 3).trans rfl; have hcz28_4 : w24.cell? ⟨gb116, 4, none⟩ = some (.int .i64 ((rd_T46 l0_2 x14_1).f4)) := (blk_cell BK116.out 4).trans rfl; have hcz28_5 : w24.cell? ⟨gb116, 5, none⟩ = some (.int .i64 ((rd_T46 l0_2 x14_1).f5)) := (blk_cell BK116.out 5).trans rfl; have hfz28_0 := blk_frozen BK116.out 0; have hfz28_1 := blk_frozen BK116.out 1; have hfz28_2 := blk_frozen BK116.out 2; have hfz28_3 := blk_frozen BK116.out 3; have hfz28_4 := blk_frozen BK116.out 4; have hfz28_5 := blk_frozen BK116.out 5) | ((with_reducible refine gate_builtin (b := .append) (xs := #[.tmp 23, .tmp 25]) rfl ?_); at_builtin; refine Kd.S_append k46 (w0 := w) w.heap.size rfl (.tmp 23) (.tmp 25) 22 46 (.agg #[(.int .i64 0), (.int .i64 0), (.slice none 0 0), (.int .i64 0), (.int .i64 0), (.int .i64 0)]) 64 rfl Try.underlying22 info46 rfl (by decide) (by omega) u115002 x115002_1 (⟨(rd_T46 l0_2 x14_1).f0, (rd_T46 l0_2 x14_1).f1, t117, (rd_T46 l0_2 x14_1).f3, (rd_T46 l0_2 x14_1).f4, (rd_T46 l0_2 x14_1).f5⟩ : S46) [.int .i64 ((rd_T46 l0_2 x14_1).f0), .int .i64 ((rd_T46 l0_2 x14_1).f1), .slice Ao22 t117.length co22, .int .i64 ((rd_T46 l0_2 x14_1).f3), .int .i64 ((rd_T46 l0_2 x14_1).f4), .int .i64 ((rd_T46 l0_2 x14_1).f5)] (fun k_ => k_ ≠ gb116) (fun k_ => some k_ = (.slice Ao22 t117.length co22 : Value).ownBlock) rfl rfl ?aP (fun k_ hk_ => ((Kd.R_mono (ok' := fun k_ => ((fun k_ => k_ ≠ gb116)) k_ ∧ some k_ ≠ (u115002 : Value).ownBlock) (Kd.R_types (Kd.R_apart' (HO119.out) (Kd.S_typed HO_115002.out) (by decide)) BK116.out (by decide)) (fun k_ hk => ⟨hk.2, hk.1.2⟩))).1 k_ hk_.symm) ?aF ?aO ?aB ?aS ?aL ?_; (case aP => exact k46_mkM _ _ _ (⟨(rd_T46 l0_2 x14_1).f0, (rd_T46 l0_2 x14_1).f1, t117, (rd_T46 l0_2 x14_1).f3, (rd_T46 l0_2 x14_1).f4, (rd_T46 l0_2 x14_1).f5⟩ : S46) (Kd.R_mono (Kd.R_tight rfl (Kd.R_mono (ok' := fun k_ => ((fun k_ => k_ ≠ gb116)) k_ ∧ some k_ ≠ (u115002 : Value).ownBlock) (Kd.R_types (Kd.R_apart' (HO119.out) (Kd.S_typed HO_115002.out) (by decide)) BK116.out (by decide)) (fun k_ hk => ⟨hk.2, hk.1.2⟩))) (fun _ h_ => h_))); (case aB => exact (by repeat (first | (with_reducible first | exact HB.out | apply below_alloc | apply pw_below_drewN | apply below_drew1 | refine below_set ?_ GE112.out | refine below_set ?_ GE113.out | refine below_set ?_ GE114.out | refine below_set ?_ GE116.out) | exact HB.out))); (case aF => exact (fun k_ hk => Kd.freshB (g := gb116) (o := .cells #[.int .i64 ((rd_T46 l0_2 x14_1).f0), .int .i64 ((rd_T46 l0_2 x14_1).f1), .slice Ao22 t117.length co22, .int .i64 ((rd_T46 l0_2 x14_1).f3), .int .i64 ((rd_T46 l0_2 x14_1).f4), .int .i64 ((rd_T46 l0_2 x14_1).f5)] 46 (0, 0)) (by (with_reducible repeat (first | refine blk_drewN ?_ _ | refine blk_drew ?_ | refine blk_alloc ?_ _)); exact BK116.out) k_ hk)); (case aO => exact (by (with_reducible repeat (first | apply Kd.S_alloc | apply Kd.S_drewN | apply Kd.S_drew)); exact Kd.S_mono HO_115002.out (fun k_ hk => ⟨hk.2, fun e_ => hk.1 e_⟩))); (case aS => exact (below_size (by repeat (first | (with_reducible first | exact HB.out | apply below_alloc | apply pw_below_drewN | apply below_drew1 | refine below_set ?_ GE112.out | refine below_set ?_ GE113.out | refine below_set ?_ GE114.out | refine below_set ?_ GE116.out) | exact HB.out)))); (case aL => have := LMc15.out; omega); intro v121 w29 ho hb hg hat; rw [← Ny120.out] at ho; have n0_ := Aside0.mk (blk_grown (g := gb112) (o := .cells #[.int .i64 a0_0, .int .i64 a0_1, .slice (some ad115) l0_2.length c0_2] 24 (0, 0)) (by (with_reducible repeat (first | refine blk_drewN ?_ _ | refine blk_drew ?_ | refine blk_alloc ?_ _)); exact BK112.out) hg (Kd.S_ne HO_115002.out BK112.out (by decide))); have n1_ := Aside0.mk (blk_grown (g := gb113) (o := .cells #[.int .i64 0, .int .i64 0, .slice none 0 0] 24 (0, 0)) (by (with_reducible repeat (first | refine blk_drewN ?_ _ | refine blk_drew ?_ | refine blk_alloc ?_ _)); exact BK113.out) hg (Kd.S_ne HO_115002.out BK113.out (by decide))); have n2_ := Aside0.mk (blk_grown (g := gb114) (o := .cells #[.int .i64 a0_0, .int .i64 a0_1, u115002] 24 (0, 0)) (by (with_reducible repeat (first | refine blk_drewN ?_ _ | refine blk_drew ?_ | refine blk_alloc ?_ _)); exact BK114.out) hg (Kd.S_ne HO_115002.out BK114.out (by decide))); have n3_ := Aside0.mk (blk_grown (g := gb116) (o := .cells #[.int .i64 ((rd_T46 l0_2 x14_1).f0), .int .i64 ((rd_T46 l0_2 x14_1).f1), .slice Ao22 t117.length co22, .int .i64 ((rd_T46 l0_2 x14_1).f3), .int .i64 ((rd_T46 l0_2 x14_1).f4), .int .i64 ((rd_T46 l0_2 x14_1).f5)] 46 (0, 0)) (by (with_reducible repeat (first | refine blk_drewN ?_ _ | refine blk_drew ?_ | refine blk_alloc ?_ _)); exact BK116.out) hg (Kd.S_away HO_115002.out (fun _ hk => hk.2))); have n4_ := Aside0.mk (hb); have n5_ := Aside0.mk (ho); clear BK112; clear BK113; clear BK114; clear BK116; clear HB; clear HO_115002; clear HO119; have BK112 := n0_; have BK113 := n1_; have BK114 := n2_; have BK116 := n3_; have HB := n4_; have HO122 := n5_; clear n0_ n1_ n2_ n3_ n4_ n5_; clear ho hb hg hat; obtain ⟨Ao30, co30, eo30⟩ := Kd.S_slice HO122.out; subst eo30; have hcz31_0 : w29.cell? ⟨gb114, 0, none⟩ = some (.int .i64 a0_0) := (blk_cell BK114.out 0).trans rfl; have hcz31_1 : w29.cell? ⟨gb114, 1, none⟩ = some (.int .i64 a0_1) := (blk_cell BK114.out 1).trans rfl; have hcz31_2 : w29.cell? ⟨gb114, 2, none⟩ = some (u115002) := (blk_cell BK114.out 2).trans rfl; have hfz31_0 := blk_frozen BK114.out 0; have hfz31_1 := blk_frozen BK114.out 1; have hfz31_2 := blk_frozen BK114.out 2))
              go_roundg k1
              case measure => have := HK1.out; omega
              case rel => exact ⟨(wrap64 (x14_1 + 1)), (y120), (.slice Ao30 y120.length co30), (by first | rfl | (simp; done) | (simp [*]; done)), H', ⟨by have := HK1.out; omega⟩, ⟨by (with_reducible repeat (first | apply Kd.S_alloc | apply Kd.S_drewN | apply Kd.S_drew)); exact Kd.S_mono (Kd.S_far (p := ⟨gb114, 2, none⟩) (Kd.S_types HO122.out BK114.out (by decide)) (fun _ hk => hk.2) (.slice Ao30 y120.length co30)) (fun _ hk => trivial)⟩, ⟨by (with_reducible repeat (first | refine blk_drewN ?_ _ | refine blk_drew ?_ | refine blk_alloc ?_ _)); refine blk_far ?_ NB112_114.out _; (with_reducible repeat (first | refine blk_drewN ?_ _ | refine blk_drew ?_ | refine blk_alloc ?_ _)); exact BK112.out⟩, ⟨by (with_reducible repeat (first | refine blk_drewN ?_ _ | refine blk_drew ?_ | refine blk_alloc ?_ _)); refine blk_far ?_ NB113_114.out _; (with_reducible repeat (first | refine blk_drewN ?_ _ | refine blk_drew ?_ | refine blk_alloc ?_ _)); exact BK113.out⟩, ⟨by (with_reducible repeat (first | refine blk_drewN ?_ _ | refine blk_drew ?_ | refine blk_alloc ?_ _)); refine blk_put (cs := #[.int .i64 a0_0, .int .i64 a0_1, u115002]) ?_ 2 _ rfl; (with_reducible repeat (first | refine blk_drewN ?_ _ | refine blk_drew ?_ | refine blk_alloc ?_ _)); exact BK114.out⟩, ⟨by repeat (first | (with_reducible first | exact HB.out | apply below_alloc | apply pw_below_drewN | apply below_drew1 | refine below_set ?_ GE112.out | refine below_set ?_ GE113.out | refine below_set ?_ GE114.out | refine below_set ?_ GE116.out) | exact HB.out)⟩⟩
            · rw [if_neg c15] at H
              exact absurd H (by simp)
          · rw [if_neg c13] at H
            exact absurd H (by simp)
        · rw [if_neg c12] at H
          exact absurd H (by simp)
      · rw [if_neg c11] at H
        have c11b0 : decide (x14_1 < (l0_2.length : Int)) = false := decide_eq_false c11
        clear c11
        simp only [Option.some.injEq, Prod.mk.injEq] at H
        obtain ⟨rfl, rfl, rfl⟩ := H
        have hnb32 := NB114_112.out
        have hnc32 := NB112_114.out
        have hnb33 := NB114_113.out
        have hnc33 := NB113_114.out
        have hcz34_0 : wr.cell? ⟨gb114, 0, none⟩ = some (.int .i64 a0_0) := (blk_cell BK114.out 0).trans rfl
        have hcz34_1 : wr.cell? ⟨gb114, 1, none⟩ = some (.int .i64 a0_1) := (blk_cell BK114.out 1).trans rfl
        have hcz34_2 : wr.cell? ⟨gb114, 2, none⟩ = some (u115002) := (blk_cell BK114.out 2).trans rfl
        have hfz34_0 := blk_frozen BK114.out 0
        have hfz34_1 := blk_frozen BK114.out 1
        have hfz34_2 := blk_frozen BK114.out 2
        have hnb35 := NB113_112.out
        have hnc35 := NB112_113.out
        have hcz36_0 : wr.cell? ⟨gb113, 0, none⟩ = some (.int .i64 0) := (blk_cell BK113.out 0).trans rfl
        have hcz36_1 : wr.cell? ⟨gb113, 1, none⟩ = some (.int .i64 0) := (blk_cell BK113.out 1).trans rfl
        have hcz36_2 : wr.cell? ⟨gb113, 2, none⟩ = some (.slice none 0 0) := (blk_cell BK113.out 2).trans rfl
        have hfz36_0 := blk_frozen BK113.out 0
        have hfz36_1 := blk_frozen BK113.out 1
        have hfz36_2 := blk_frozen BK113.out 2
        obtain ⟨Ao37, co37, eo37⟩ := Kd.S_slice HO_115002.out
        subst eo37
        go_wp2
        refine bodyPost_ret (results_cell_row rfl _ _ gb113 24 #[.int .i64 a0_0, .int .i64 a0_1, .slice Ao37 x115002_1.length co37] (0, 0) _ rfl (by (with_reducible repeat (first | refine blk_drewN ?_ _ | refine blk_drew ?_ | refine blk_alloc ?_ _)); refine blk_put (cs := #[.int .i64 a0_0, .int .i64 a0_1, .slice none 0 0]) ?_ 2 _ rfl; (with_reducible repeat (first | refine blk_drewN ?_ _ | refine blk_drew ?_ | refine blk_alloc ?_ _)); refine blk_put (cs := #[.int .i64 a0_0, .int .i64 0, .slice none 0 0]) ?_ 1 _ rfl; (with_reducible repeat (first | refine blk_drewN ?_ _ | refine blk_drew ?_ | refine blk_alloc ?_ _)); refine blk_put (cs := #[.int .i64 0, .int .i64 0, .slice none 0 0]) ?_ 0 _ rfl; (with_reducible repeat (first | refine blk_drewN ?_ _ | refine blk_drew ?_ | refine blk_alloc ?_ _)); exact BK113.out) Try.underlying24 rfl (by kernel_rfl)) rfl ?_
        exact ⟨_, by first | rfl | (simp [errW_none, errW_some] <;> rfl) | (simp [*, errW_none, errW_some] <;> rfl), by (with_reducible repeat (first | apply Kd.S_alloc | apply Kd.S_drewN | apply Kd.S_drew)); exact Kd.S_mono (Kd.S_far (p := ⟨gb113, 2, none⟩) (Kd.S_far (p := ⟨gb113, 1, none⟩) (Kd.S_far (p := ⟨gb113, 0, none⟩) (Kd.S_types HO_115002.out BK113.out (by decide)) (fun _ hk => hk.2) (.int .i64 a0_0)) (fun _ hk => hk.2) (.int .i64 a0_1)) (fun _ hk => hk.2) (.slice Ao37 x115002_1.length co37)) (fun _ hk => trivial), by repeat (first | (with_reducible first | exact HB.out | apply below_alloc | apply pw_below_drewN | apply below_drew1 | refine below_set ?_ GE112.out | refine below_set ?_ GE113.out | refine below_set ?_ GE114.out) | exact HB.out)⟩
end Go.Proofs.Ytbelnopbggkdfaa.Q
end

section
namespace Go.Proofs.Ytbelnopbggkdfaa.Q
open Go.RowKit Go.Proofs.YtbelnopbggkdfaaW.PrintWords Go.Proofs.YtbelnopbggkdfaaW.PrintLast Go.Proofs.YtbelnopbggkdfaaW.PrintMore
attribute [local go_sem] max2_int min2_int max_two min_two max_three min_three max_four min_four   -- for this text's walks alone
set_option linter.unusedVariables false
set_option linter.unusedSimpArgs false
def layers_only.l0 : Nat → List (S46) → List Int → Int → Int → Int → Int → List (S46) → Option (Int × Int × (List (S46)))
  | 0, _, _, _, _, _, _, _ => none
  | k + 1, x6, x11, x12, x13, x508000, x508001, x508002 => if x13 < x12 then (if 0 ≤ x13 then (if x13 < (x11.length : Int) then (if 0 ≤ (rd x11 x13) then (if (rd x11 x13) < (x508002.length : Int) then (if x6.length < 2199023255552 then (layers_only.l0 k (x6 ++ [(⟨(rd_T46 x508002 (rd x11 x13)).f0, (rd_T46 x508002 (rd x11 x13)).f1, (rd_T46 x508002 (rd x11 x13)).f2, (rd_T46 x508002 (rd x11 x13)).f3, (rd_T46 x508002 (rd x11 x13)).f4, (rd_T46 x508002 (rd x11 x13)).f5⟩ : S46)]) x11 x12 (wrap64 (x13 + 1)) x508000 x508001 x508002) else (none)) else (none)) else (none)) else (none)) else (none)) else (some (x508000, x508001, x6))
def layers_only.f (k : Nat) (a0_0 : Int) (a0_1 : Int) (l0_2 : List (S46)) (l1 : List Int) : Option (Int × Int × (List (S46))) := (circuit_Copy.f k a0_0 a0_1 l0_2).bind fun bt502 => (layers_only.l0 k ([] : List (S46)) l1 (l1.length : Int) 0 bt502.1 bt502.2.1 bt502.2.2)
set_option maxHeartbeats 8000000 in
set_option maxRecDepth 100000 in
theorem layers_only.calls (k : Nat) (a0_0 : Int) (a0_1 : Int) (A0_2 : Option Addr) (c0_2 : Nat) (l0_2 : List (S46)) (A1 : Option Addr) (c1 : Nat) (l1 : List Int) (r1 : Int) (r2 : Int) (r3 : List (S46)) (w : World) (hr0_2 : Kd.C k46 w A0_2 l0_2.length l0_2) (hc0_2 : l0_2.length ≤ c0_2) (hr1 : Kd.C (Kd.int .i64) w A1 l1.length l1) (hc1 : l1.length ≤ c1) (h : layers_only.f k a0_0 a0_1 l0_2 l1 = some (r1, r2, r3)) :
    Calls Try.prog 70 #[.agg #[.int .i64 a0_0, .int .i64 a0_1, .slice A0_2 l0_2.length c0_2], .slice A1 l1.length c1] w fun e w' => ∃ v2_ : Value, e = .returned (.agg #[.int .i64 r1, .int .i64 r2, v2_]) ∧ Kd.N k46 46 w' w.heap.size (fun k_ => (w.heap.size ≤ k_)) v2_ r3 ∧ Below w.heap.size w w' := by
  have hu24 := Try.underlying24
  have hu46 := Try.underlying46
  have HR0_2 := Aside0.mk hr0_2
  have HC0_2 := Aside0.mk hc0_2
  clear hr0_2 hc0_2
  have HR1 := Aside0.mk hr1
  have HC1 := Aside0.mk hc1
  clear hr1 hc1
  have HB := Aside0.mk (Below.refl w.heap.size w)
  have H : ((circuit_Copy.f k a0_0 a0_1 l0_2).bind fun bt502 => (layers_only.l0 k ([] : List (S46)) l1 (l1.length : Int) 0 bt502.1 bt502.2.1 bt502.2.2)) = some (r1, r2, r3) := h
  clear h
  replace H := Option.bind_eq_some_iff.mp H
  obtain ⟨⟨t502, t503, t504⟩, A30, H⟩ := H
  replace H : (layers_only.l0 k ([] : List (S46)) l1 (l1.length : Int) 0 t502 t503 t504) = some (r1, r2, r3) := H
  have A3 := Aside0.mk A30
  clear A30
  have H' := Aside0.mk H
  clear H
  go_enter Try.func70, Try.ntmps70
  go_wp2_with (first | ((with_reducible refine gate_dst (N := 2) rfl ?_); refine box_event ?hg (N := 2) ?hd (cs := #[.int .i64 a0_0, .int .i64 a0_1, .slice A0_2 l0_2.length c0_2]) (t := 24) ?hr ?_; (case hd => rfl); (case hg => rfl); (case hr => first | (go_simp; done) | (go_simp; rfl)); intro gb500 hg w4 hbox hb; have n0_ := Aside0.mk (below_step (by repeat (first | (with_reducible first | exact HB.out | apply below_alloc | apply pw_below_drewN | apply below_drew1) | exact HB.out)) hb); have n1_ := Aside0.mk (hbox); have n2_ := Aside0.mk ((by rw [hg]; exact (below_size (by repeat (first | (with_reducible first | exact HB.out | apply below_alloc | apply pw_below_drewN | apply below_drew1) | exact HB.out))) : w.heap.size ≤ gb500)); have n3_ := Aside0.mk ((by rw [hg]; exact (below_size (by repeat (first | (with_reducible first | exact HB.out | apply below_alloc | apply pw_below_drewN | apply below_drew1) | exact HB.out))) : w.heap.size ≤ gb500)); clear HB; have HB := n0_; have BK500 := n1_; have GW500 := n2_; have GE500 := n3_; clear n0_ n1_ n2_ n3_; clear hb hbox hg) | ((with_reducible refine gate_dst (N := 4) rfl ?_); refine box_event ?hg (N := 4) ?hd (cs := #[.int .i64 0, .int .i64 0, .slice none 0 0]) (t := 24) ?hr ?_; (case hd => rfl); (case hg => rfl); (case hr => first | (go_simp; done) | (go_simp; rfl)); intro gb501 hg w5 hbox hb; have n0_ := Aside0.mk (blk_below (g := gb500) (o := .cells #[.int .i64 a0_0, .int .i64 a0_1, .slice A0_2 l0_2.length c0_2] 24 (0, 0)) (by (with_reducible repeat (first | refine blk_drewN ?_ _ | refine blk_drew ?_ | refine blk_alloc ?_ _)); exact BK500.out) hb); have n1_ := Aside0.mk (below_step (by repeat (first | (with_reducible first | exact HB.out | apply below_alloc | apply pw_below_drewN | apply below_drew1 | refine below_set ?_ GE500.out) | exact HB.out)) hb); have n2_ := Aside0.mk (hbox); have n3_ := Aside0.mk ((by rw [hg]; exact (below_size (by repeat (first | (with_reducible first | exact HB.out | apply below_alloc | apply pw_below_drewN | apply below_drew1 | refine below_set ?_ GE500.out) | exact HB.out))) : w.heap.size ≤ gb501)); have n4_ := Aside0.mk ((by rw [hg]; exact (below_size (by repeat (first | (with_reducible first | exact HB.out | apply below_alloc | apply pw_below_drewN | apply below_drew1 | refine below_set ?_ GE500.out) | exact HB.out))) : w.heap.size ≤ gb501)); have n5_ := Aside0.mk ((by rw [hg]; exact Nat.ne_of_lt (blk_lt (g := gb500) (o := .cells #[.int .i64 a0_0, .int .i64 a0_1, .slice A0_2 l0_2.length c0_2] 24 (0, 0)) (by (with_reducible repeat (first | refine blk_drewN ?_ _ | refine blk_drew ?_ | refine blk_alloc ?_ _)); exact BK500.out)) : gb500 ≠ gb501)); have n6_ := Aside0.mk ((by rw [hg]; exact Nat.ne_of_gt (blk_lt (g := gb500) (o := .cells #[.int .i64 a0_0, .int .i64 a0_1, .slice A0_2 l0_2.length c0_2] 24 (0, 0)) (by (with_reducible repeat (first | refine blk_drewN ?_ _ | refine blk_drew ?_ | refine blk_alloc ?_ _)); exact BK500.out)) : gb501 ≠ gb500)); clear BK500; clear HB; have BK500 := n0_; have HB := n1_; have BK501 := n2_; have GW501 := n3_; have GE501 := n4_; have NB500_501 := n5_; have NB501_500 := n6_; clear n0_ n1_ n2_ n3_ n4_ n5_ n6_; clear hb hbox hg; have hnb6 := NB500_501.out; have hnc6 := NB501_500.out; have hcz7_0 : w5.cell? ⟨gb500, 0, none⟩ = some (.int .i64 a0_0) := (blk_cell BK500.out 0).trans rfl; have hcz7_1 : w5.cell? ⟨gb500, 1, none⟩ = some (.int .i64 a0_1) := (blk_cell BK500.out 1).trans rfl; have hcz7_2 : w5.cell? ⟨gb500, 2, none⟩ = some (.slice A0_2 l0_2.length c0_2) := (blk_cell BK500.out 2).trans rfl; have hfz7_0 := blk_frozen BK500.out 0; have hfz7_1 := blk_frozen BK500.out 1; have hfz7_2 := blk_frozen BK500.out 2) | ((with_reducible refine gate_callee (f := 54) rfl ?_); refine goesL_ (some 10) rfl rfl Try.func54 (by kernel_rfl) rfl #[.agg #[.int .i64 a0_0, .int .i64 a0_1, .slice A0_2 l0_2.length c0_2]] rfl (by (try simp only [List.map_toArray, List.map_cons, List.map_nil]); first | done | rfl | (simp only [List.length_drop, List.length_take]; rfl)) ?_; (with_reducible refine (circuit_Copy.calls k a0_0 a0_1 _ _ l0_2 t502 t503 t504 _ ?side1 ?side2 A3.out).mono ?_); (case side1 => repeat (first | exact (Kd.C_below HR0_2.out HB.out) | (with_reducible refine Kd.C_alloc ?_ _) | (with_reducible refine Kd.C_drewN ?_ _) | (with_reducible refine Kd.C_drew ?_))); (case side2 => exact HC0_2.out); rintro e w8 ⟨v505, rfl, ho0, hb⟩; refine ⟨_, rfl, ?_⟩; have n0_ := Aside0.mk (Kd.N_lower (Kd.N_mono (ok' := fun k_ => (w.heap.size ≤ k_) ∧ k_ ≠ gb500 ∧ k_ ≠ gb501) (Kd.S_N (Kd.S_bound ho0)) (fun k_ hk_ => ⟨(Nat.le_trans (below_size (by repeat (first | (with_reducible first | exact HB.out | apply below_alloc | apply pw_below_drewN | apply below_drew1 | refine below_set ?_ GE500.out | refine below_set ?_ GE501.out) | exact HB.out))) hk_.2.1), (Kd.freshB (g := gb500) (o := .cells #[.int .i64 a0_0, .int .i64 a0_1, .slice A0_2 l0_2.length c0_2] 24 (0, 0)) (by (with_reducible repeat (first | refine blk_drewN ?_ _ | refine blk_drew ?_ | refine blk_alloc ?_ _)); exact BK500.out) k_ hk_.2.1), (Kd.freshB (g := gb501) (o := .cells #[.int .i64 0, .int .i64 0, .slice none 0 0] 24 (0, 0)) (by (with_reducible repeat (first | refine blk_drewN ?_ _ | refine blk_drew ?_ | refine blk_alloc ?_ _)); exact BK501.out) k_ hk_.2.1)⟩)) (below_size (by repeat (first | (with_reducible first | exact HB.out | apply below_alloc | apply pw_below_drewN | apply below_drew1 | refine below_set ?_ GE500.out | refine below_set ?_ GE501.out) | exact HB.out)))); have n1_ := Aside0.mk (blk_below (g := gb500) (o := .cells #[.int .i64 a0_0, .int .i64 a0_1, .slice A0_2 l0_2.length c0_2] 24 (0, 0)) (by (with_reducible repeat (first | refine blk_drewN ?_ _ | refine blk_drew ?_ | refine blk_alloc ?_ _)); exact BK500.out) hb); have n2_ := Aside0.mk (blk_below (g := gb501) (o := .cells #[.int .i64 0, .int .i64 0, .slice none 0 0] 24 (0, 0)) (by (with_reducible repeat (first | refine blk_drewN ?_ _ | refine blk_drew ?_ | refine blk_alloc ?_ _)); exact BK501.out) hb); have n3_ := Aside0.mk (below_step (by repeat (first | (with_reducible first | exact HB.out | apply below_alloc | apply pw_below_drewN | apply below_drew1 | refine below_set ?_ GE500.out | refine below_set ?_ GE501.out) | exact HB.out)) hb); clear BK500; clear BK501; clear HB; have HO506 := n0_; have BK500 := n1_; have BK501 := n2_; have HB := n3_; clear n0_ n1_ n2_ n3_; (try clear hb); (try clear hb2); (try clear hk); (try clear hi); (try clear ho0)) | ((with_reducible refine gate_dst (N := 5) rfl ?_); refine box_event ?hg (N := 5) ?hd (cs := #[.int .i64 0, .int .i64 0, .slice none 0 0]) (t := 24) ?hr ?_; (case hd => rfl); (case hg => rfl); (case hr => first | (go_simp; done) | (go_simp; rfl)); intro gb507 hg w9 hbox hb; have n0_ := Aside0.mk (Kd.N_below (Kd.N_elderB (by (with_reducible repeat (first | apply Kd.N_alloc | apply Kd.N_drewN | apply Kd.N_drew)); exact HO506.out) gb507 (Nat.le_of_eq hg.symm)) hb); have n1_ := Aside0.mk (blk_below (g := gb500) (o := .cells #[.int .i64 a0_0, .int .i64 a0_1, .slice A0_2 l0_2.length c0_2] 24 (0, 0)) (by (with_reducible repeat (first | refine blk_drewN ?_ _ | refine blk_drew ?_ | refine blk_alloc ?_ _)); exact BK500.out) hb); have n2_ := Aside0.mk (blk_below (g := gb501) (o := .cells #[.int .i64 0, .int .i64 0, .slice none 0 0] 24 (0, 0)) (by (with_reducible repeat (first | refine blk_drewN ?_ _ | refine blk_drew ?_ | refine blk_alloc ?_ _)); exact BK501.out) hb); have n3_ := Aside0.mk (below_step (by repeat (first | (with_reducible first | exact HB.out | apply below_alloc | apply pw_below_drewN | apply below_drew1 | refine below_set ?_ GE500.out | refine below_set ?_ GE501.out) | exact HB.out)) hb); have n4_ := Aside0.mk (hbox); have n5_ := Aside0.mk ((by rw [hg]; exact (below_size (by repeat (first | (with_reducible first | exact HB.out | apply below_alloc | apply pw_below_drewN | apply below_drew1 | refine below_set ?_ GE500.out | refine below_set ?_ GE501.out) | exact HB.out))) : w.heap.size ≤ gb507)); have n6_ := Aside0.mk ((by rw [hg]; exact (below_size (by repeat (first | (with_reducible first | exact HB.out | apply below_alloc | apply pw_below_drewN | apply below_drew1 | refine below_set ?_ GE500.out | refine below_set ?_ GE501.out) | exact HB.out))) : w.heap.size ≤ gb507)); have n7_ := Aside0.mk ((by rw [hg]; exact Nat.ne_of_lt (blk_lt (g := gb500) (o := .cells #[.int .i64 a0_0, .int .i64 a0_1, .slice A0_2 l0_2.length c0_2] 24 (0, 0)) (by (with_reducible repeat (first | refine blk_drewN ?_ _ | refine blk_drew ?_ | refine blk_alloc ?_ _)); exact BK500.out)) : gb500 ≠ gb507)); have n8_ := Aside0.mk ((by rw [hg]; exact Nat.ne_of_gt (blk_lt (g := gb500) (o := .cells #[.int .i64 a0_0, .int .i64 a0_1, .slice A0_2 l0_2.length c0_2] 24 (0, 0)) (by (with_reducible repeat (first | refine blk_drewN ?_ _ | refine blk_drew ?_ | refine blk_alloc ?_ _)); exact BK500.out)) : gb507 ≠ gb500)); have n9_ := Aside0.mk ((by rw [hg]; exact Nat.ne_of_lt (blk_lt (g := gb501) (o := .cells #[.int .i64 0, .int .i64 0, .slice none 0 0] 24 (0, 0)) (by (with_reducible repeat (first | refine blk_drewN ?_ _ | refine blk_drew ?_ | refine blk_alloc ?_ _)); exact BK501.out)) : gb501 ≠ gb507)); have n10_ := Aside0.mk ((by rw [hg]; exact Nat.ne_of_gt (blk_lt (g := gb501) (o := .cells #[.int .i64 0, .int .i64 0, .slice none 0 0] 24 (0, 0)) (by (with_reducible repeat (first | refine blk_drewN ?_ _ | refine blk_drew ?_ | refine blk_alloc ?_ _)); exact BK501.out)) : gb507 ≠ gb501)); clear HO506; clear BK500; clear BK501; clear HB; have HO506 := n0_; have BK500 := n1_; have BK501 := n2_; have HB := n3_; have BK507 := n4_; have GW507 := n5_; have GE507 := n6_; have NB500_507 := n7_; have NB507_500 := n8_; have NB501_507 := n9_; have NB507_501 := n10_; clear n0_ n1_ n2_ n3_ n4_ n5_ n6_ n7_ n8_ n9_ n10_; clear hb hbox hg; have hnb10 := NB507_500.out; have hnc10 := NB500_507.out; have hnb11 := NB507_501.out; have hnc11 := NB501_507.out; have hcz12_0 : w9.cell? ⟨gb507, 0, none⟩ = some (.int .i64 0) := (blk_cell BK507.out 0).trans rfl; have hcz12_1 : w9.cell? ⟨gb507, 1, none⟩ = some (.int .i64 0) := (blk_cell BK507.out 1).trans rfl; have hcz12_2 : w9.cell? ⟨gb507, 2, none⟩ = some (.slice none 0 0) := (blk_cell BK507.out 2).trans rfl; have hfz12_0 := blk_frozen BK507.out 0; have hfz12_1 := blk_frozen BK507.out 1; have hfz12_2 := blk_frozen BK507.out 2; obtain ⟨Ao13, co13, eo13⟩ := Kd.N_slice HO506.out; subst eo13))
  go_loopg [6, 13] k (fun kq v6 v13 w' => ∃ (x6_1 : List (S46)) (x13_1 : Int), v13 = .int .i64 x13_1 ∧ Aside0 (layers_only.l0 kq x6_1 l1 (l1.length : Int) x13_1 t502 t503 t504 = some (r1, r2, r3)) ∧ Aside0 (kq ≤ k) ∧ Aside0 (Kd.N k46 46 w' w.heap.size (fun k_ => (w.heap.size ≤ k_) ∧ some k_ ≠ ((.slice Ao13 t504.length co13) : Value).ownBlock ∧ k_ ≠ gb500 ∧ k_ ≠ gb501 ∧ k_ ≠ gb507) v6 x6_1) ∧ Aside0 (Kd.N k46 46 w' w.heap.size (fun k_ => (w.heap.size ≤ k_) ∧ some k_ ≠ (v6 : Value).ownBlock ∧ k_ ≠ gb500 ∧ k_ ≠ gb501 ∧ k_ ≠ gb507) (.slice Ao13 t504.length co13) t504) ∧ Aside0 (w'.heap[gb500]? = some (.cells #[.int .i64 a0_0, .int .i64 a0_1, (.slice A0_2 l0_2.length c0_2)] 24 (0, 0))) ∧ Aside0 (w'.heap[gb501]? = some (.cells #[.int .i64 0, .int .i64 0, (.slice none 0 0)] 24 (0, 0))) ∧ Aside0 (w'.heap[gb507]? = some (.cells #[.int .i64 t502, .int .i64 t503, (.slice Ao13 t504.length co13)] 24 (0, 0))) ∧ Aside0 (Below w.heap.size w w'))
  case atStart => exact ⟨(([] : List (S46))), (0), (by first | rfl | (simp; done) | (simp [*]; done)), H', ⟨Nat.le_refl _⟩, ⟨by first | exact Kd.S_nil _ _ _ _ _ | exact Kd.N_nil _ _ _ _ _ | exact Kd.V_nil _ _ _ _ _ | exact Kd.Q_nil _ _ _ _ _ | exact Kd.R_nil _ _ _ _ _⟩, ⟨by (with_reducible repeat (first | apply Kd.N_alloc | apply Kd.N_drewN | apply Kd.N_drew)); exact Kd.N_mono (Kd.N_far (p := ⟨gb507, 2, none⟩) (Kd.N_far (p := ⟨gb507, 1, none⟩) (Kd.N_far (p := ⟨gb507, 0, none⟩) (Kd.N_mono HO506.out (fun k_ hk => (⟨hk, hk.2⟩ : _ ∧ k_ ≠ gb507))) (fun _ hk => hk.2) (.int .i64 t502)) (fun _ hk => hk.2) (.int .i64 t503)) (fun _ hk => hk.2) (.slice Ao13 t504.length co13)) (fun _ hk => ⟨hk.1.1.1, ⟨(by simp [Value.ownBlock]), ⟨hk.1.1.2.1, ⟨hk.1.1.2.2, hk.1.2⟩⟩⟩⟩)⟩, ⟨by (with_reducible repeat (first | refine blk_drewN ?_ _ | refine blk_drew ?_ | refine blk_alloc ?_ _)); refine blk_far ?_ NB500_507.out _; (with_reducible repeat (first | refine blk_drewN ?_ _ | refine blk_drew ?_ | refine blk_alloc ?_ _)); refine blk_far ?_ NB500_507.out _; (with_reducible repeat (first | refine blk_drewN ?_ _ | refine blk_drew ?_ | refine blk_alloc ?_ _)); refine blk_far ?_ NB500_507.out _; (with_reducible repeat (first | refine blk_drewN ?_ _ | refine blk_drew ?_ | refine blk_alloc ?_ _)); exact BK500.out⟩, ⟨by (with_reducible repeat (first | refine blk_drewN ?_ _ | refine blk_drew ?_ | refine blk_alloc ?_ _)); refine blk_far ?_ NB501_507.out _; (with_reducible repeat (first | refine blk_drewN ?_ _ | refine blk_drew ?_ | refine blk_alloc ?_ _)); refine blk_far ?_ NB501_507.out _; (with_reducible repeat (first | refine blk_drewN ?_ _ | refine blk_drew ?_ | refine blk_alloc ?_ _)); refine blk_far ?_ NB501_507.out _; (with_reducible repeat (first | refine blk_drewN ?_ _ | refine blk_drew ?_ | refine blk_alloc ?_ _)); exact BK501.out⟩, ⟨by (with_reducible repeat (first | refine blk_drewN ?_ _ | refine blk_drew ?_ | refine blk_alloc ?_ _)); refine blk_put (cs := #[.int .i64 t502, .int .i64 t503, .slice none 0 0]) ?_ 2 _ rfl; (with_reducible repeat (first | refine blk_drewN ?_ _ | refine blk_drew ?_ | refine blk_alloc ?_ _)); refine blk_put (cs := #[.int .i64 t502, .int .i64 0, .slice none 0 0]) ?_ 1 _ rfl; (with_reducible repeat (first | refine blk_drewN ?_ _ | refine blk_drew ?_ | refine blk_alloc ?_ _)); refine blk_put (cs := #[.int .i64 0, .int .i64 0, .slice none 0 0]) ?_ 0 _ rfl; (with_reducible repeat (first | refine blk_drewN ?_ _ | refine blk_drew ?_ | refine blk_alloc ?_ _)); exact BK507.out⟩, ⟨by repeat (first | (with_reducible first | exact HB.out | apply below_alloc | apply pw_below_drewN | apply below_drew1 | refine below_set ?_ GE500.out | refine below_set ?_ GE501.out | refine below_set ?_ GE507.out) | exact HB.out)⟩⟩
  case round =>
    clear H'
    try clear c1
    try clear p2
    try clear c5
    try clear c6
    try clear c7
    try clear c10
    try clear c11
    try clear hcz12_0
    try clear hcz12_1
    try clear hcz12_2
    try clear hcz7_0
    try clear hcz7_1
    try clear hcz7_2
    try clear hfz12_0
    try clear hfz12_1
    try clear hfz12_2
    try clear hfz7_0
    try clear hfz7_1
    try clear hfz7_2
    obtain ⟨x6_1, x13_1, rfl, HA, HK1, HO_6, HO_508002, BK500, BK501, BK507, HB⟩ := hrel
    cases gk with
    | zero => exact absurd HA.out (by simp [layers_only.l0])
    | succ k1 =>
      have H := HA.out
      clear HA
      simp only [layers_only.l0] at H
      by_cases c14 : x13_1 < (l1.length : Int)
      · rw [if_pos c14] at H
        have c14b0 : decide (x13_1 < (l1.length : Int)) = true := decide_eq_true c14
        clear c14
        by_cases c15 : 0 ≤ x13_1
        · rw [if_pos c15] at H
          have c15b0 : decide (0 ≤ x13_1) = true := decide_eq_true c15
          clear c15
          by_cases c16 : x13_1 < (l1.length : Int)
          · rw [if_pos c16] at H
            have c16b0 : decide (x13_1 < (l1.length : Int)) = true := decide_eq_true c16
            clear c16
            by_cases c17 : 0 ≤ (rd l1 x13_1)
            · rw [if_pos c17] at H
              have c17b0 : decide (0 ≤ (rd l1 x13_1)) = true := decide_eq_true c17
              clear c17
              by_cases c18 : (rd l1 x13_1) < (t504.length : Int)
              · rw [if_pos c18] at H
                have c18b0 : decide ((rd l1 x13_1) < (t504.length : Int)) = true := decide_eq_true c18
                clear c18
                by_cases c19 : x6_1.length < 2199023255552
                · rw [if_pos c19] at H
                  have LMc19 := Aside0.mk c19
                  clear c19
                  obtain ⟨y510, hy510⟩ : ∃ y_ : List (S46), y_ = (x6_1 ++ [(⟨(rd_T46 t504 (rd l1 x13_1)).f0, (rd_T46 t504 (rd l1 x13_1)).f1, (rd_T46 t504 (rd l1 x13_1)).f2, (rd_T46 t504 (rd l1 x13_1)).f3, (rd_T46 t504 (rd l1 x13_1)).f4, (rd_T46 t504 (rd l1 x13_1)).f5⟩ : S46)]) := ⟨_, rfl⟩
                  replace H : (layers_only.l0 k1 y510 l1 (l1.length : Int) (wrap64 (x13_1 + 1)) t502 t503 t504) = some (r1, r2, r3) := by first | (rw [hy510]; with_reducible exact H) | (have H2_ := (Option.bind_some _ _).symm.trans H; rw [hy510]; with_reducible exact H2_) | (have H2_ := (Option.bind_some _ _).symm.trans H; with_reducible exact H2_) | with_reducible exact H | (rw [hy510]; exact H) | exact H
                  have Ny510 := Aside0.mk hy510
                  clear hy510
                  have H' := Aside0.mk H
                  clear H
                  have p508 : 0 ≤ (x13_1 : Int) := of_decide_eq_true (by first | (with_reducible assumption) | assumption)
                  have q508 : x13_1 < (l1.length : Int) := of_decide_eq_true (by first | (with_reducible assumption) | assumption)
                  obtain ⟨ad508, e508, hx508_0⟩ := Kd.at_int HR1.out x13_1 p508 q508
                  cases e508
                  replace hx508_0 := (HB.out.cell (World.block_lt_of_cell? w _ hx508_0)).trans hx508_0
                  replace p508 := eq_true p508
                  replace q508 := eq_true q508
                  have hnb20 := NB507_500.out
                  have hnc20 := NB500_507.out
                  have hnb21 := NB507_501.out
                  have hnc21 := NB501_507.out
                  have hcz22_0 : wr.cell? ⟨gb507, 0, none⟩ = some (.int .i64 t502) := (blk_cell BK507.out 0).trans rfl
                  have hcz22_1 : wr.cell? ⟨gb507, 1, none⟩ = some (.int .i64 t503) := (blk_cell BK507.out 1).trans rfl
                  have hcz22_2 : wr.cell? ⟨gb507, 2, none⟩ = some (.slice Ao13 t504.length co13) := (blk_cell BK507.out 2).trans rfl
                  have hfz22_0 := blk_frozen BK507.out 0
                  have hfz22_1 := blk_frozen BK507.out 1
                  have hfz22_2 := blk_frozen BK507.out 2
                  have p509 : 0 ≤ ((rd l1 x13_1) : Int) := of_decide_eq_true (by first | (with_reducible assumption) | assumption)
                  have q509 : (rd l1 x13_1) < (t504.length : Int) := of_decide_eq_true (by first | (with_reducible assumption) | assumption)
                  obtain ⟨ad509, A509_2, c509_2, e509, hx509_0, hx509_1, hx509_2, hx509_3, hx509_4, hx509_5, hl509_2, hi509_2⟩ := at_T46 (Kd.N_reads' HO_508002.out).2.2 (rd l1 x13_1) p509 q509
                  cases e509
                  obtain ⟨ce509, hce509, hMe509, hcc509⟩ := Kd.N_get HO_508002.out z46 (rd l1 x13_1) p509 (by first | exact q509 | exact of_decide_eq_true (by first | (with_reducible assumption) | assumption) | (have e_ := (Kd.N_reads' HO_508002.out).1; omega))
                  obtain ⟨ua509_2, uc509_2, rfl, ul509_2, ge509_2⟩ := k46_openF hMe509
                  have hv509_2 := hcc509 2 _ rfl
                  rw [add_field _ _ 2 (by omega)] at hv509_2
                  replace hv509_2 := Option.some.inj (hv509_2.symm.trans hx509_2)
                  injection hv509_2 with hva_ hvn_ hvc_
                  rw [hva_] at ge509_2
                  rw [hvc_] at ul509_2
                  have HL509_2 := Aside0.mk (show Kd.V (Kd.int .i64) 3 _ w.heap.size _ _ ((rd_T46 t504 (rd l1 x13_1)).f2) from Kd.V_mk ul509_2 ge509_2)
                  clear hva_ hvn_ hvc_ ge509_2 ul509_2
                  clear hcc509 hce509
                  have HR509_2 := Aside0.mk hi509_2
                  have HC509_2 := Aside0.mk hl509_2
                  clear hi509_2 hl509_2
                  replace p509 := eq_true p509
                  replace q509 := eq_true q509
                  go_wp2_with (first | ((with_reducible refine gate_builtin (b := .append) (xs := #[.tmp 17, .tmp 23]) rfl ?_); at_builtin; refine Kd.N_append k46 (w0 := w) w.heap.size rfl (.tmp 17) (.tmp 23) 22 46 (.agg #[(.int .i64 0), (.int .i64 0), (.slice none 0 0), (.int .i64 0), (.int .i64 0), (.int .i64 0)]) 64 rfl Try.underlying22 info46 rfl (by decide) (by omega) u6 x6_1 (⟨(rd_T46 t504 (rd l1 x13_1)).f0, (rd_T46 t504 (rd l1 x13_1)).f1, (rd_T46 t504 (rd l1 x13_1)).f2, (rd_T46 t504 (rd l1 x13_1)).f3, (rd_T46 t504 (rd l1 x13_1)).f4, (rd_T46 t504 (rd l1 x13_1)).f5⟩ : S46) [.int .i64 ((rd_T46 t504 (rd l1 x13_1)).f0), .int .i64 ((rd_T46 t504 (rd l1 x13_1)).f1), .slice A509_2 ((rd_T46 t504 (rd l1 x13_1)).f2).length c509_2, .int .i64 ((rd_T46 t504 (rd l1 x13_1)).f3), .int .i64 ((rd_T46 t504 (rd l1 x13_1)).f4), .int .i64 ((rd_T46 t504 (rd l1 x13_1)).f5)] (fun k_ => (w.heap.size ≤ k_) ∧ some k_ ≠ (.slice (some ad509) t504.length co13 : Value).ownBlock ∧ k_ ≠ gb500 ∧ k_ ≠ gb501 ∧ k_ ≠ gb507) (fun k_ => ((fun k_ => (w.heap.size ≤ k_) ∧ some k_ ≠ (.slice (some ad509) t504.length co13 : Value).ownBlock ∧ k_ ≠ gb500 ∧ k_ ≠ gb501 ∧ k_ ≠ gb507)) k_ ∧ some k_ ≠ (u6 : Value).ownBlock) rfl rfl ?aP (fun _ hk => hk) ?aF ?aO ?aB ?aS ?aL ?_; (case aP => exact (k46_mkF _ _ (⟨(rd_T46 t504 (rd l1 x13_1)).f0, (rd_T46 t504 (rd l1 x13_1)).f1, (rd_T46 t504 (rd l1 x13_1)).f2, (rd_T46 t504 (rd l1 x13_1)).f3, (rd_T46 t504 (rd l1 x13_1)).f4, (rd_T46 t504 (rd l1 x13_1)).f5⟩ : S46) (Kd.V_reads' (Kd.V_mono (ok' := (fun k_ => ((fun k_ => (w.heap.size ≤ k_) ∧ some k_ ≠ (.slice (some ad509) t504.length co13 : Value).ownBlock ∧ k_ ≠ gb500 ∧ k_ ≠ gb501 ∧ k_ ≠ gb507)) k_ ∧ some k_ ≠ (u6 : Value).ownBlock)) (HL509_2.out) (fun k_ hk => ⟨⟨hk.1.1, ⟨hk.2, ⟨hk.1.2.2.1, ⟨hk.1.2.2.2.1, hk.1.2.2.2.2⟩⟩⟩⟩, hk.1.2.1⟩))).2.1 (Kd.V_F (Kd.V_mono (ok' := (fun k_ => ((fun k_ => (w.heap.size ≤ k_) ∧ some k_ ≠ (.slice (some ad509) t504.length co13 : Value).ownBlock ∧ k_ ≠ gb500 ∧ k_ ≠ gb501 ∧ k_ ≠ gb507)) k_ ∧ some k_ ≠ (u6 : Value).ownBlock)) (HL509_2.out) (fun k_ hk => ⟨⟨hk.1.1, ⟨hk.2, ⟨hk.1.2.2.1, ⟨hk.1.2.2.2.1, hk.1.2.2.2.2⟩⟩⟩⟩, hk.1.2.1⟩))))); (case aB => exact (by repeat (first | (with_reducible first | exact HB.out | apply below_alloc | apply pw_below_drewN | apply below_drew1 | refine below_set ?_ GE500.out | refine below_set ?_ GE501.out | refine below_set ?_ GE507.out) | exact HB.out))); (case aF => exact (fun k_ hk => ⟨(Nat.le_trans (below_size (by repeat (first | (with_reducible first | exact HB.out | apply below_alloc | apply pw_below_drewN | apply below_drew1 | refine below_set ?_ GE500.out | refine below_set ?_ GE501.out | refine below_set ?_ GE507.out) | exact HB.out))) hk), Kd.fresh' (Kd.N_lt (by (with_reducible repeat (first | apply Kd.N_alloc | apply Kd.N_drewN | apply Kd.N_drew)); exact HO_508002.out)) k_ hk, Kd.freshB (g := gb500) (o := .cells #[.int .i64 a0_0, .int .i64 a0_1, .slice A0_2 l0_2.length c0_2] 24 (0, 0)) (by (with_reducible repeat (first | refine blk_drewN ?_ _ | refine blk_drew ?_ | refine blk_alloc ?_ _)); exact BK500.out) k_ hk, Kd.freshB (g := gb501) (o := .cells #[.int .i64 0, .int .i64 0, .slice none 0 0] 24 (0, 0)) (by (with_reducible repeat (first | refine blk_drewN ?_ _ | refine blk_drew ?_ | refine blk_alloc ?_ _)); exact BK501.out) k_ hk, Kd.freshB (g := gb507) (o := .cells #[.int .i64 t502, .int .i64 t503, .slice (some ad509) t504.length co13] 24 (0, 0)) (by (with_reducible repeat (first | refine blk_drewN ?_ _ | refine blk_drew ?_ | refine blk_alloc ?_ _)); exact BK507.out) k_ hk⟩)); (case aO => exact (by (with_reducible repeat (first | apply Kd.N_alloc | apply Kd.N_drewN | apply Kd.N_drew)); exact HO_6.out)); (case aS => exact (below_size (by repeat (first | (with_reducible first | exact HB.out | apply below_alloc | apply pw_below_drewN | apply below_drew1 | refine below_set ?_ GE500.out | refine below_set ?_ GE501.out | refine below_set ?_ GE507.out) | exact HB.out)))); (case aL => have := LMc19.out; omega); intro v511 w23 ho hb hg hat; rw [← Ny510.out] at ho; have n0_ := Aside0.mk (Kd.N_afterv (ok := (fun k_ => (w.heap.size ≤ k_) ∧ k_ ≠ gb500 ∧ k_ ≠ gb501 ∧ k_ ≠ gb507)) (by (with_reducible repeat (first | apply Kd.N_alloc | apply Kd.N_drewN | apply Kd.N_drew)); exact Kd.N_mono HO_508002.out (fun _ hk => ⟨⟨hk.1, ⟨hk.2.2.1, ⟨hk.2.2.2.1, hk.2.2.2.2⟩⟩⟩, hk.2.1⟩)) hg hat); have n1_ := Aside0.mk (blk_grown (g := gb500) (o := .cells #[.int .i64 a0_0, .int .i64 a0_1, .slice A0_2 l0_2.length c0_2] 24 (0, 0)) (by (with_reducible repeat (first | refine blk_drewN ?_ _ | refine blk_drew ?_ | refine blk_alloc ?_ _)); exact BK500.out) hg (Kd.N_ne HO_6.out BK500.out (by decide))); have n2_ := Aside0.mk (blk_grown (g := gb501) (o := .cells #[.int .i64 0, .int .i64 0, .slice none 0 0] 24 (0, 0)) (by (with_reducible repeat (first | refine blk_drewN ?_ _ | refine blk_drew ?_ | refine blk_alloc ?_ _)); exact BK501.out) hg (Kd.N_ne HO_6.out BK501.out (by decide))); have n3_ := Aside0.mk (blk_grown (g := gb507) (o := .cells #[.int .i64 t502, .int .i64 t503, .slice (some ad509) t504.length co13] 24 (0, 0)) (by (with_reducible repeat (first | refine blk_drewN ?_ _ | refine blk_drew ?_ | refine blk_alloc ?_ _)); exact BK507.out) hg (Kd.N_ne HO_6.out BK507.out (by decide))); have n4_ := Aside0.mk (Kd.V_afterv (ok := (fun k_ => (w.heap.size ≤ k_) ∧ some k_ ≠ (.slice (some ad509) t504.length co13 : Value).ownBlock ∧ k_ ≠ gb500 ∧ k_ ≠ gb501 ∧ k_ ≠ gb507)) (by (with_reducible repeat (first | apply Kd.V_alloc | apply Kd.V_drewN | apply Kd.V_drew)); exact Kd.V_mono HL509_2.out (fun _ hk => ⟨⟨hk.1.1, ⟨hk.2, ⟨hk.1.2.2.1, ⟨hk.1.2.2.2.1, hk.1.2.2.2.2⟩⟩⟩⟩, hk.1.2.1⟩)) hg hat); have n5_ := Aside0.mk (hb); have n6_ := Aside0.mk (ho); clear HO_508002; clear BK500; clear BK501; clear BK507; clear HL509_2; clear HB; clear HO_6; have HO_508002 := n0_; have BK500 := n1_; have BK501 := n2_; have BK507 := n3_; have HL509_2 := n4_; have HB := n5_; have HO512 := n6_; clear n0_ n1_ n2_ n3_ n4_ n5_ n6_; clear ho hb hg hat))
                  go_roundg k1
                  case measure => have := HK1.out; omega
                  case rel => exact ⟨(y510), (wrap64 (x13_1 + 1)), (by first | rfl | (simp; done) | (simp [*]; done)), H', ⟨by have := HK1.out; omega⟩, ⟨by (with_reducible repeat (first | apply Kd.N_alloc | apply Kd.N_drewN | apply Kd.N_drew)); exact HO512.out⟩, ⟨by (with_reducible repeat (first | apply Kd.N_alloc | apply Kd.N_drewN | apply Kd.N_drew)); exact Kd.N_mono HO_508002.out (fun _ hk => ⟨hk.1.1, ⟨hk.2, ⟨hk.1.2.1, ⟨hk.1.2.2.1, hk.1.2.2.2⟩⟩⟩⟩)⟩, ⟨by (with_reducible repeat (first | refine blk_drewN ?_ _ | refine blk_drew ?_ | refine blk_alloc ?_ _)); exact BK500.out⟩, ⟨by (with_reducible repeat (first | refine blk_drewN ?_ _ | refine blk_drew ?_ | refine blk_alloc ?_ _)); exact BK501.out⟩, ⟨by (with_reducible repeat (first | refine blk_drewN ?_ _ | refine blk_drew ?_ | refine blk_alloc ?_ _)); exact BK507.out⟩, ⟨by repeat (first | (with_reducible first | exact HB.out | apply below_alloc | apply pw_below_drewN | apply below_drew1 | refine below_set ?_ GE500.out | refine below_set ?_ GE501.out | refine below_set ?_ GE507.out) | exact HB.out)⟩⟩
                · rw [if_neg c19] at H
                  exact absurd H (by simp)
              · rw [if_neg c18] at H
                exact absurd H (by simp)
            · rw [if_neg c17] at H
              exact absurd H (by simp)
          · rw [if_neg c16] at H
            exact absurd H (by simp)
        · rw [if_neg c15] at H
          exact absurd H (by simp)
      · rw [if_neg c14] at H
        have c14b0 : decide (x13_1 < (l1.length : Int)) = false := decide_eq_false c14
        clear c14
        simp only [Option.some.injEq, Prod.mk.injEq] at H
        obtain ⟨rfl, rfl, rfl⟩ := H
        obtain ⟨Ao24, co24, eo24⟩ := Kd.N_slice HO_6.out
        subst eo24
        have hnb25 := NB507_500.out
        have hnc25 := NB500_507.out
        have hnb26 := NB507_501.out
        have hnc26 := NB501_507.out
        have hcz27_0 : wr.cell? ⟨gb507, 0, none⟩ = some (.int .i64 t502) := (blk_cell BK507.out 0).trans rfl
        have hcz27_1 : wr.cell? ⟨gb507, 1, none⟩ = some (.int .i64 t503) := (blk_cell BK507.out 1).trans rfl
        have hcz27_2 : wr.cell? ⟨gb507, 2, none⟩ = some (.slice Ao13 t504.length co13) := (blk_cell BK507.out 2).trans rfl
        have hfz27_0 := blk_frozen BK507.out 0
        have hfz27_1 := blk_frozen BK507.out 1
        have hfz27_2 := blk_frozen BK507.out 2
        have hnb28 := NB501_500.out
        have hnc28 := NB500_501.out
        have hcz29_0 : wr.cell? ⟨gb501, 0, none⟩ = some (.int .i64 0) := (blk_cell BK501.out 0).trans rfl
        have hcz29_1 : wr.cell? ⟨gb501, 1, none⟩ = some (.int .i64 0) := (blk_cell BK501.out 1).trans rfl
        have hcz29_2 : wr.cell? ⟨gb501, 2, none⟩ = some (.slice none 0 0) := (blk_cell BK501.out 2).trans rfl
        have hfz29_0 := blk_frozen BK501.out 0
        have hfz29_1 := blk_frozen BK501.out 1
        have hfz29_2 := blk_frozen BK501.out 2
        go_wp2
        refine bodyPost_ret (results_cell_row rfl _ _ gb501 24 #[.int .i64 t502, .int .i64 t503, .slice Ao24 x6_1.length co24] (0, 0) _ rfl (by (with_reducible repeat (first | refine blk_drewN ?_ _ | refine blk_drew ?_ | refine blk_alloc ?_ _)); refine blk_put (cs := #[.int .i64 t502, .int .i64 t503, .slice none 0 0]) ?_ 2 _ rfl; (with_reducible repeat (first | refine blk_drewN ?_ _ | refine blk_drew ?_ | refine blk_alloc ?_ _)); refine blk_put (cs := #[.int .i64 t502, .int .i64 0, .slice none 0 0]) ?_ 1 _ rfl; (with_reducible repeat (first | refine blk_drewN ?_ _ | refine blk_drew ?_ | refine blk_alloc ?_ _)); refine blk_put (cs := #[.int .i64 0, .int .i64 0, .slice none 0 0]) ?_ 0 _ rfl; (with_reducible repeat (first | refine blk_drewN ?_ _ | refine blk_drew ?_ | refine blk_alloc ?_ _)); refine blk_far ?_ NB501_507.out _; (with_reducible repeat (first | refine blk_drewN ?_ _ | refine blk_drew ?_ | refine blk_alloc ?_ _)); exact BK501.out) Try.underlying24 rfl (by kernel_rfl)) rfl ?_
        exact ⟨_, by first | rfl | (simp [errW_none, errW_some] <;> rfl) | (simp [*, errW_none, errW_some] <;> rfl), by (with_reducible repeat (first | apply Kd.N_alloc | apply Kd.N_drewN | apply Kd.N_drew)); exact Kd.N_mono (Kd.N_far (p := ⟨gb501, 2, none⟩) (Kd.N_far (p := ⟨gb501, 1, none⟩) (Kd.N_far (p := ⟨gb501, 0, none⟩) (Kd.N_far (p := ⟨gb507, 2, none⟩) (Kd.N_mono (Kd.N_mono HO_6.out (fun k_ hk => (⟨hk, hk.2.2.2.2⟩ : _ ∧ k_ ≠ gb507))) (fun k_ hk => (⟨hk, hk.1.2.2.2.1⟩ : _ ∧ k_ ≠ gb501))) (fun _ hk => hk.1.2) (.slice Ao24 x6_1.length co24)) (fun _ hk => hk.2) (.int .i64 t502)) (fun _ hk => hk.2) (.int .i64 t503)) (fun _ hk => hk.2) (.slice Ao24 x6_1.length co24)) (fun _ hk => hk.1.1.1), by repeat (first | (with_reducible first | exact HB.out | apply below_alloc | apply pw_below_drewN | apply below_drew1 | refine below_set ?_ GE500.out | refine below_set ?_ GE501.out | refine below_set ?_ GE507.out) | exact HB.out)⟩
end Go.Proofs.Ytbelnopbggkdfaa.Q
end

section
namespace Go.Proofs.Ytbelnopbggkdfaa.Q
open Go.RowKit Go.Proofs.YtbelnopbggkdfaaW.PrintWords Go.Proofs.YtbelnopbggkdfaaW.PrintLast Go.Proofs.YtbelnopbggkdfaaW.PrintMore
def upTo (n : Nat) : List Int := (List.range n).map fun (i : Nat) => (i : Int)
def layers_Sorted.f (k : Nat) (a0 a1 : Int) (l : List S46) : Option (Int × Int × List S46 × Int) :=
  (layers_Early.f k a0 a1 l).bind fun t => if t.2 = 0 then
    (if l.length = t.1.length ∧ l.length < 2199023255552 ∧ (t.1.all fun x => decide (0 ≤ x ∧ x ≤ 1152921504606846976)) = true then (layers_only.f k a0 a1 l (sortO (skey l t.1) (upTo t.1.length))).bind fun r => some (r.1, r.2.1, r.2.2, 0) else none)
    else some (0, 0, [], t.2)
theorem upTo_len (n : Nat) : (upTo n).length = n := by simp [upTo]
theorem upTo_succ (n : Nat) : upTo (n + 1) = upTo n ++ [(n : Int)] := by simp [upTo, List.range_succ]
set_option maxHeartbeats 8000000 in
set_option maxRecDepth 1000000 in
theorem layers_Sorted.calls (k : Nat) (a0 a1 : Int) (A : Option Addr) (c : Nat) (l : List S46) (r1 r2 : Int) (r3 : List S46) (r4 : Int) (w : World) (hr : Kd.C k46 w A l.length l) (hc : l.length ≤ c) (h : layers_Sorted.f k a0 a1 l = some (r1, r2, r3, r4)) :
    Calls Try.prog 27 #[.agg #[.int .i64 a0, .int .i64 a1, .slice A l.length c]] w fun e w' => ∃ v, e = .returned (.tuple #[.agg #[.int .i64 r1, .int .i64 r2, v], .int .i64 r4]) ∧ Kd.N k46 46 w' w.heap.size (fun k_ => w.heap.size ≤ k_) v r3 ∧ Below w.heap.size w w' := by
  have hu24 := Try.underlying24
  have hu46 := Try.underlying46
  unfold layers_Sorted.f at h
  obtain ⟨⟨into, err⟩, ht, h2⟩ := Option.bind_eq_some_iff.1 h
  clear h
  have HD := Aside0.mk ht
  have HC := Aside0.mk hc
  have HR := Aside0.mk hr
  clear ht hr hc
  simp only at h2
  split at h2
  case isFalse =>
    rename_i hne
    simp only [Option.some.injEq, Prod.mk.injEq] at h2
    obtain ⟨rfl, rfl, rfl, rfl⟩ := h2
    have hne' : (err != 0) = true := by simpa using hne
    clear hne
    go_enter Try.func27, Try.ntmps27
    go_upto_region 2 with (go_at_call 21; (with_reducible refine (layers_Early.calls k a0 a1 _ _ l into err _ (Kd.C_alloc (Kd.C_alloc HR.out _) _) HC.out HD.out).mono ?_); rintro e w1 ⟨v, rfl, ho, hb1⟩; obtain ⟨Ai, ci, rfl⟩ := Kd.R_slice ho; have HO := Aside0.mk ho; clear ho)
    have b2 : ((w1.alloc (.cells #[.slice Ai into.length ci] 37))).heap[w.heap.size + 1]? = some (.cells #[.int .i64 0, .int .i64 0, .slice none 0 0] 24 (0, 0)) := by
      refine blk_alloc (blk_below ?_ hb1) _
      have := blk_new (w.alloc (.cells #[.int .i64 a0, .int .i64 a1, .slice A l.length c] 24)) (.cells #[.int .i64 0, .int .i64 0, .slice none 0 0] 24)
      simpa using this
    have hb : Below w.heap.size w (w1.alloc (.cells #[.slice Ai into.length ci] 37)) := below_alloc (below_step (below_alloc (below_alloc (Below.refl _ w) _) _) hb1) _
    obtain ⟨g2, hg2⟩ : ∃ g, g = w.heap.size + 1 := ⟨_, rfl⟩
    have ge : w.heap.size ≤ g2 := by omega
    rw [← hg2] at b2
    rw [← hg2]
    generalize w1.alloc (.cells #[.slice Ai into.length ci] 37) = W at b2 hb ⊢
    clear hg2 hb1
    have c0 : W.cell? ⟨g2, 0, none⟩ = some (.int .i64 0) := by rw [blk_cell b2]; rfl
    have c1 : W.cell? ⟨g2, 1, none⟩ = some (.int .i64 0) := by rw [blk_cell b2]; rfl
    have c2 : W.cell? ⟨g2, 2, none⟩ = some (.slice none 0 0) := by rw [blk_cell b2]; rfl
    have f0 : W.frozen? ⟨g2, 0, none⟩ = false := blk_frozen b2 0
    have f1 : W.frozen? ⟨g2, 1, none⟩ = false := blk_frozen b2 1
    have f2 : W.frozen? ⟨g2, 2, none⟩ = false := blk_frozen b2 2
    go_wp2
    (try simp only [Exit.inBlock, Exit.then])
    refine bodyPost_ret (results_ct rfl _ _ g2 24 #[.int .i64 0, .int .i64 0, .slice none 0 0] (0, 0) _ rfl (blk_put (cs := #[.int .i64 0, .int .i64 0, .slice none 0 0]) (blk_put (cs := #[.int .i64 0, .int .i64 0, .slice none 0 0]) (blk_put (cs := #[.int .i64 0, .int .i64 0, .slice none 0 0]) b2 0 _ rfl) 1 _ rfl) 2 _ rfl) Try.underlying24 rfl (by kernel_rfl)) rfl ?_
    exact ⟨_, rfl, Kd.N_nil _ _ _ _ _, below_set (below_set (below_set hb ge) ge) ge⟩
  rename_i he
  obtain rfl : err = 0 := he
  split at h2
  case isFalse => cases h2
  rename_i hcond
  obtain ⟨hll, hl41, hall⟩ := hcond
  obtain ⟨⟨q1, q2, q3⟩, hq, h3⟩ := Option.bind_eq_some_iff.1 h2
  simp only [Option.some.injEq, Prod.mk.injEq] at h3
  obtain ⟨rfl, rfl, rfl, rfl⟩ := h3
  have HQ := Aside0.mk hq
  have HA := Aside0.mk hall
  have HLL := Aside0.mk hll
  have HL41 := Aside0.mk hl41
  clear h2 hq hall hll hl41
  go_enter Try.func27, Try.ntmps27
  go_upto_region 2 with (go_at_call 21; (with_reducible refine (layers_Early.calls k a0 a1 _ _ l into 0 _ (Kd.C_alloc (Kd.C_alloc HR.out _) _) HC.out HD.out).mono ?_); rintro e w1 ⟨v, rfl, ho, hb1⟩; obtain ⟨Ai, ci, rfl⟩ := Kd.R_slice ho; have HO := Aside0.mk ho; clear ho)
  have b1 : ((w1.alloc (.cells #[.slice Ai into.length ci] 37))).heap[w.heap.size]? = some (.cells #[.int .i64 a0, .int .i64 a1, .slice A l.length c] 24 (0, 0)) :=
    blk_alloc (blk_below (blk_alloc (blk_new w (.cells #[.int .i64 a0, .int .i64 a1, .slice A l.length c] 24)) _) hb1) _
  have b2 : ((w1.alloc (.cells #[.slice Ai into.length ci] 37))).heap[w.heap.size + 1]? = some (.cells #[.int .i64 0, .int .i64 0, .slice none 0 0] 24 (0, 0)) := by
    refine blk_alloc (blk_below ?_ hb1) _
    have := blk_new (w.alloc (.cells #[.int .i64 a0, .int .i64 a1, .slice A l.length c] 24)) (.cells #[.int .i64 0, .int .i64 0, .slice none 0 0] 24)
    simpa using this
  have b4 := blk_new w1 (.cells #[.slice Ai into.length ci] 37)
  have hb := below_alloc (below_step (below_alloc (below_alloc (Below.refl _ w) (.cells #[.int .i64 a0, .int .i64 a1, .slice A l.length c] 24)) (.cells #[.int .i64 0, .int .i64 0, .slice none 0 0] 24)) hb1) (.cells #[.slice Ai into.length ci] 37)
  have hi : Kd.R (Kd.int .i64) 3 (w1.alloc (.cells #[.slice Ai into.length ci] 37)) w.heap.size (fun k => k < (w1.alloc (.cells #[.slice Ai into.length ci] 37)).heap.size) (.slice Ai into.length ci) into := by
    refine Kd.R_alloc (Kd.R_mono (Kd.R_bound (Kd.R_lower HO.out ?_)) (fun k hk => ?_)) _
    · simp; omega
    · have := hk.2.2.1
      simp
      omega
  obtain ⟨g1, hg1⟩ : ∃ g, g = w.heap.size := ⟨_, rfl⟩
  obtain ⟨g2, hg2⟩ : ∃ g, g = w.heap.size + 1 := ⟨_, rfl⟩
  obtain ⟨g4, hg4⟩ : ∃ g, g = w1.heap.size := ⟨_, rfl⟩
  rw [← hg1] at b1
  rw [← hg2] at b2
  rw [← hg4] at b4
  rw [← hg2, ← hg4]
  have n1 : w.heap.size ≤ g1 := by omega
  have n2 : w.heap.size ≤ g2 := by omega
  have n4 : w.heap.size ≤ g4 := by have := hb1.size; simp at this; omega
  rw [← hg1]
  clear hb1 HO HD
  generalize w1.alloc (.cells #[.slice Ai into.length ci] 37) = W0 at b1 b2 b4 hb hi ⊢
  have HB1 := Aside0.mk b1
  have HB2 := Aside0.mk b2
  have HB := Aside0.mk hb
  have HI := Aside0.mk hi
  have c4 : W0.cell? ⟨g4, 0, none⟩ = some (.slice Ai into.length ci) := by rw [blk_cell b4]; rfl
  have HB4 := Aside0.mk b4
  have hn64 : (into.length : Int) ≤ 9223372036854775807 := by have := HL41.out; have := HLL.out; omega
  clear b1 b2 b4 hb hi hg1 hg2 hg4
  generalize hn : into.length = n at *
  have HN := Aside0.mk hn
  clear hn
  go_wp2_with fail
  go_loopg [6, 20] n (fun g v6 v20 W => ∃ p : Nat, p ≤ n ∧ v20 = .int .i64 (p : Int) ∧ n - p ≤ g ∧ (p = 0 → v6 = .slice none 0 0) ∧ Aside0 (Kd.R (Kd.int .i64) 3 W W0.heap.size (fun k => W0.heap.size ≤ k) v6 (upTo p) ∧ Below W0.heap.size W0 W))
  case atStart => exact ⟨0, by omega, rfl, by omega, fun _ => rfl, ⟨Kd.R_nil _ _ _ _ _, Below.refl _ _⟩⟩
  case round =>
    obtain ⟨p, hp, rfl, hg, hz0, HP⟩ := hrel
    have HZ := Aside0.mk hz0
    clear hz0
    by_cases hlt : p < n
    · have hltz : (p : Int) < (n : Int) := by omega
      have hj8 : ((upTo p).length + 1) * 8 ≤ 140737488355328 := by rw [upTo_len]; have := HL41.out; have := HLL.out; have := HN.out; omega
      go_wp2_with ((with_reducible refine gate_builtin (b := .append) (xs := #[.tmp 23, .tmp 25]) rfl ?_); at_builtin; refine Kd.R_append (Kd.int .i64) (w0 := W0) W0.heap.size rfl (.tmp 23) (.tmp 25) 37 3 (.int .i64 0) 8 rfl Try.underlying37 info3 rfl (by decide) (by omega) u6 (upTo p) (p : Int) [.int .i64 (p : Int)] (fun k => W0.heap.size ≤ k) (fun _ => False) rfl rfl rfl (fun _ hk => hk.elim) (fun k hk => Nat.le_trans HP.out.2.size hk) HP.out.1 HP.out.2 HP.out.2.size hj8 ?_; intro v51 w51 ho hb hg' hat; have HP2 := Aside0.mk (And.intro ho hb); clear ho hb hg' hat)
      go_roundg (n - (p + 1))
      case measure => omega
      case rel => exact ⟨p + 1, by omega, by go_num, by omega, fun h => by omega, ⟨by rw [upTo_succ]; exact HP2.out.1, HP2.out.2⟩⟩
    · have hltz : ¬ (p : Int) < (n : Int) := by omega
      obtain rfl : p = n := by omega
      by_cases hz : p = 0
      · obtain rfl := HZ.out hz
        subst hz
        have hin : into = [] := List.eq_nil_of_length_eq_zero HN.out
        subst hin
        have hb2 := HP.out.2
        have e0 : upTo 0 = [] := rfl
        have b3 := blk_below HB2.out hb2
        have b1 := blk_below HB1.out hb2
        have hbb := below_step HB.out hb2
        have hcall := fun (w2 : World) (hw : Below w.heap.size w w2) => layers_only.calls k a0 a1 A c l none 0 [] _ _ _ w2 (Kd.C_below HR.out hw) HC.out (Kd.R_reads' (Kd.R_nil (Kd.int .i64) 3 w2 w2.heap.size (fun _ => True))).2.2 (Nat.le_refl _) HQ.out
        simp only [List.length_nil] at hcall
        have HCALL := Aside0.mk hcall
        clear hcall
        go_upto_region 11 with (fail)
        have b3 := blk_alloc b3 (.cells #[.func (.func 67) #[] #[.pointer (some ⟨g1, 0, none⟩), .pointer (some ⟨g4, 0, none⟩)]] 79)
        have b1 := blk_alloc b1 (.cells #[.func (.func 67) #[] #[.pointer (some ⟨g1, 0, none⟩), .pointer (some ⟨g4, 0, none⟩)]] 79)
        have hbb := below_alloc hbb (.cells #[.func (.func 67) #[] #[.pointer (some ⟨g1, 0, none⟩), .pointer (some ⟨g4, 0, none⟩)]] 79)
        generalize wr.alloc (.cells #[.func (.func 67) #[] #[.pointer (some ⟨g1, 0, none⟩), .pointer (some ⟨g4, 0, none⟩)]] 79) = w2 at b1 b3 hbb ⊢
        have k1 : w2.cell? ⟨g1, 0, none⟩ = some (.int .i64 a0) := by rw [blk_cell b1]; rfl
        have k2 : w2.cell? ⟨g1, 1, none⟩ = some (.int .i64 a1) := by rw [blk_cell b1]; rfl
        have k3 : w2.cell? ⟨g1, 2, none⟩ = some (.slice A l.length c) := by rw [blk_cell b1]; rfl
        have HB2' := Aside0.mk b3
        have HBB := Aside0.mk hbb
        clear b1 b3 hbb hb2
        go_wp2_with (first
          | (go_at_call 68; refine (sort_nil _).mono ?_; rintro e w4 ⟨rfl, rfl⟩)
          | (go_at_call 70; (with_reducible refine (HCALL.out _ HBB.out).mono ?_); rintro e w3 ⟨v2, rfl, ho3, hb3⟩; obtain ⟨Ao, co, rfl⟩ := Kd.N_slice ho3; have HO3 := Aside0.mk ho3; have HB3 := Aside0.mk hb3; have b3 := blk_below HB2'.out hb3; have m0 : w3.cell? ⟨g2, 0, none⟩ = some (.int .i64 0) := (by rw [blk_cell b3]; rfl); have m1 : w3.cell? ⟨g2, 1, none⟩ = some (.int .i64 0) := (by rw [blk_cell b3]; rfl); have m2 : w3.cell? ⟨g2, 2, none⟩ = some (.slice none 0 0) := (by rw [blk_cell b3]; rfl); have f0 : w3.frozen? ⟨g2, 0, none⟩ = false := blk_frozen b3 0; have f1 : w3.frozen? ⟨g2, 1, none⟩ = false := blk_frozen b3 1; have f2 : w3.frozen? ⟨g2, 2, none⟩ = false := blk_frozen b3 2; have B3 := Aside0.mk b3; clear ho3 hb3 b3))
        (try simp only [Exit.inBlock, Exit.then])
        refine bodyPost_ret (results_ct rfl _ _ g2 24 #[.int .i64 q1, .int .i64 q2, .slice Ao q3.length co] (0, 0) _ rfl (blk_put (cs := #[.int .i64 q1, .int .i64 q2, .slice none 0 0]) (blk_put (cs := #[.int .i64 q1, .int .i64 0, .slice none 0 0]) (blk_put (cs := #[.int .i64 0, .int .i64 0, .slice none 0 0]) B3.out 0 _ rfl) 1 _ rfl) 2 _ rfl) Try.underlying24 rfl (by kernel_rfl)) rfl ?_
        have hw2 := HBB.out.size
        have hg2 := blk_lt HB2'.out
        have far : ∀ k, w4.heap.size ≤ k → k ≠ g2 := fun k hk => by omega
        have hbl := below_step HBB.out HB3.out
        exact ⟨_, rfl, Kd.N_far (p := ⟨g2, 2, none⟩) (Kd.N_far (p := ⟨g2, 1, none⟩) (Kd.N_far (p := ⟨g2, 0, none⟩) (Kd.N_lower HO3.out hw2) far _) far _) far _ |> fun h => Kd.N_mono h (fun k hk => Nat.le_trans hw2 hk), below_set (below_set (below_set hbl n2) n2) n2⟩
      · have hHO := HP.out.1
        obtain ⟨gd, cap, rfl, hgd1, hgd2, _⟩ := Kd.R_form hHO (by rw [upTo_len]; omega)
        have HP1 := Aside0.mk hHO
        clear hHO
        rw [upTo_len]
        go_upto_region 11 with (fail)
        have hb2 := HP.out.2
        have hN := HN.out
        subst hN
        have hS : SrtS w W0.heap.size g1 g2 g4 wr.heap.size gd cap a0 a1 A c l Ai ci into (wr.alloc (.cells #[.func (.func 67) #[] #[.pointer (some ⟨g1, 0, none⟩), .pointer (some ⟨g4, 0, none⟩)]] 79)) (upTo into.length) :=
          ⟨below_alloc (below_step HB.out hb2) _, blk_alloc (blk_below HB1.out hb2) _, blk_alloc (blk_below HB2.out hb2) _, blk_alloc (blk_below HB4.out hb2) _, blk_new _ _, Kd.R_alloc (Kd.R_below HI.out hb2) _, Kd.R_alloc HP1.out _, upTo_len _, HB.out.size⟩
        have hall := HA.out
        have hE := SrtS.env (w := w) (N := W0.heap.size) (g1 := g1) (g2 := g2) (g4 := g4) (g8 := wr.heap.size) (gd := gd) (cap := cap) (a0 := a0) (a1 := a1) (A := A) (c := c) (l := l) (A4 := Ai) (c4 := ci) (into := into) HLL.out (by have := HLL.out; have := HL41.out; omega) HR.out (fun x h0 h1 => by
          have hm : rd into x ∈ into := by
            have hx : x.toNat < into.length := by omega
            simp only [rd, List.getD_eq_getElem?_getD, List.getElem?_eq_getElem hx, Option.getD_some]
            exact List.getElem_mem _
          simpa using List.all_eq_true.1 hall _ hm)
        have hup : ∀ i : Nat, i < into.length → rd (upTo into.length) i = i := fun i hi => by simp [rd, upTo, List.getD_eq_getElem?_getD, hi]
        have hsort := sort_any hE hS cap (fun i hi => by rw [hup i hi]; omega) (fun p q h1 h2 => by rw [hup p (by omega), hup q h2]; omega)
        clear hE hS hup hall
        have HSO := Aside0.mk hsort
        clear hsort
        go_upto_region 12 with (go_at_call 68; (with_reducible refine (HSO.out).mono ?_); rintro e w2 ⟨rfl, d2, hs2, hp2, ho2⟩; have HS2 := Aside0.mk hs2; have HD2 := Aside0.mk (And.intro hp2 ho2); clear hs2 hp2 ho2)
        have hd2 : d2 = sortO (skey l into) (upTo into.length) := sort_is HD2.out.1 (upTo_len _) (by
          unfold upTo
          exact List.Pairwise.map _ (fun a b (h : a ≠ b) => by omega) List.nodup_range) HD2.out.2
        subst hd2
        obtain ⟨hl1, hl2, hC⟩ := Kd.R_reads' HS2.out.ho
        have hlen : (sortO (skey l into) (upTo into.length)).length = into.length := HS2.out.l1
        have HCO := Aside0.mk hC
        have HLE := Aside0.mk hl2
        have HLEN := Aside0.mk hlen
        have k1 : w2.cell? ⟨g1, 0, none⟩ = some (.int .i64 a0) := by rw [blk_cell HS2.out.b1]; rfl
        have k2 : w2.cell? ⟨g1, 1, none⟩ = some (.int .i64 a1) := by rw [blk_cell HS2.out.b1]; rfl
        have k3 : w2.cell? ⟨g1, 2, none⟩ = some (.slice A l.length c) := by rw [blk_cell HS2.out.b1]; rfl
        have hcall := layers_only.calls k a0 a1 A c l (some ⟨gd, 0, none⟩) cap (sortO (skey l into) (upTo into.length)) _ _ _ w2 (Kd.C_below HR.out HS2.out.hb) HC.out HCO.out HLE.out HQ.out
        rw [hlen] at hcall
        have HCALL := Aside0.mk hcall
        clear hl1 hl2 hC hlen hcall
        go_wp2_with (go_at_call 70; (with_reducible refine (HCALL.out).mono ?_); rintro e w3 ⟨v2, rfl, ho3, hb3⟩; obtain ⟨Ao, co, rfl⟩ := Kd.N_slice ho3; have HO3 := Aside0.mk ho3; have HB3 := Aside0.mk hb3; have b3 := blk_below HS2.out.b2 hb3; have m0 : w3.cell? ⟨g2, 0, none⟩ = some (.int .i64 0) := (by rw [blk_cell b3]; rfl); have m1 : w3.cell? ⟨g2, 1, none⟩ = some (.int .i64 0) := (by rw [blk_cell b3]; rfl); have m2 : w3.cell? ⟨g2, 2, none⟩ = some (.slice none 0 0) := (by rw [blk_cell b3]; rfl); have f0 : w3.frozen? ⟨g2, 0, none⟩ = false := blk_frozen b3 0; have f1 : w3.frozen? ⟨g2, 1, none⟩ = false := blk_frozen b3 1; have f2 : w3.frozen? ⟨g2, 2, none⟩ = false := blk_frozen b3 2; have B3 := Aside0.mk b3; clear ho3 hb3 b3)
        (try simp only [Exit.inBlock, Exit.then])
        refine bodyPost_ret (results_ct rfl _ _ g2 24 #[.int .i64 q1, .int .i64 q2, .slice Ao q3.length co] (0, 0) _ rfl (blk_put (cs := #[.int .i64 q1, .int .i64 q2, .slice none 0 0]) (blk_put (cs := #[.int .i64 q1, .int .i64 0, .slice none 0 0]) (blk_put (cs := #[.int .i64 0, .int .i64 0, .slice none 0 0]) B3.out 0 _ rfl) 1 _ rfl) 2 _ rfl) Try.underlying24 rfl (by kernel_rfl)) rfl ?_
        have hw2 := HS2.out.hb.size
        have hg2 : g2 < w2.heap.size := blk_lt HS2.out.b2
        have far : ∀ k, w2.heap.size ≤ k → k ≠ g2 := fun k hk => by omega
        have hbl := below_step HS2.out.hb HB3.out
        exact ⟨_, rfl, Kd.N_far (p := ⟨g2, 2, none⟩) (Kd.N_far (p := ⟨g2, 1, none⟩) (Kd.N_far (p := ⟨g2, 0, none⟩) (Kd.N_lower HO3.out hw2) far _) far _) far _ |> fun h => Kd.N_mono h (fun k hk => Nat.le_trans hw2 hk), below_set (below_set (below_set hbl n2) n2) n2⟩
end Go.Proofs.Ytbelnopbggkdfaa.Q
end

section
namespace Go.Proofs.Ytbelnopbggkdfaa.Q
open Go.RowKit Go.Proofs.YtbelnopbggkdfaaW.PrintWords Go.Proofs.YtbelnopbggkdfaaW.PrintLast Go.Proofs.YtbelnopbggkdfaaW.PrintMore
theorem early_no {q b : Int} {l : List Opn} (hw : WfL l) (h : okc q b l = false) : Evt fun k => layers_Early.f k q b l = some ([], 80) :=
  (checked_is (q := q) (b := b) hw).mono fun k hk => by
    unfold layers_Early.f
    rw [hk, h]
    rfl
theorem Early_is {q b : Int} {l : List Opn} (hw : WfL l) (h : CircF q b l) : ∃ E, (Evt fun k => layers_Early.f k q b l = some (E, 0)) ∧ E.length = l.length ∧ (∀ x ∈ E, 0 ≤ x ∧ x ≤ l.length) ∧ EarlyP l.length (at_ l) (nth E) := by
  obtain ⟨r, h1, h2, h3, h4⟩ := early_is h
  refine ⟨r, (checked_is (q := q) (b := b) hw).mono fun k hk => ?_, h2, h3, h4⟩
  have hn := h.n
  unfold layers_Early.f layers_early.f
  rw [hk, h.okc, if_pos (show l.length < 2199023255552 by omega), h1]
  rfl
theorem maxTo_lub {l : List Int} (h0 : ∀ x ∈ l, 0 ≤ x) : ∀ c, c < l.length → Lub (fun x => ∃ i, i ≤ c ∧ x = nth l i) (maxTo l c)
  | 0, hc => by
    have e : maxTo l 0 = nth l 0 := rd_nth l 0
    rw [e]
    refine ⟨?_, ?_, .inr ⟨0, Nat.le_refl _, rfl⟩⟩
    · rintro x ⟨i, hi, rfl⟩
      obtain rfl : i = 0 := by omega
      exact Int.le_refl _
    · rw [nth_get hc]; exact h0 _ (List.getElem_mem _)
  | c + 1, hc => by
    have e : maxTo l (c + 1) = mx (maxTo l c) (nth l (c + 1)) := by
      show mx (maxTo l c) (rd l ((c : Int) + 1)) = _
      rw [show (c : Int) + 1 = ((c + 1 : Nat) : Int) by omega, rd_nth]
    rw [e]
    have h1 := maxTo_lub h0 c (by omega)
    have h2 : Lub (fun x => x = nth l (c + 1)) (nth l (c + 1)) := ⟨fun x hx => by omega, by rw [nth_get hc]; exact h0 _ (List.getElem_mem _), .inr rfl⟩
    refine (h1.or h2).congr fun x => ?_
    constructor
    · rintro (⟨i, hi, rfl⟩ | rfl)
      · exact ⟨i, by omega, rfl⟩
      · exact ⟨c + 1, by omega, rfl⟩
    · rintro ⟨i, hi, rfl⟩
      by_cases hic : i ≤ c
      · exact .inl ⟨i, hic, rfl⟩
      · obtain rfl : i = c + 1 := by omega
        exact .inr rfl
theorem depth_no {q b : Int} {l : List Opn} (hw : WfL l) (h : okc q b l = false) : Evt fun k => layers_Depth.f k q b l = some (0, 80) :=
  (early_no (q := q) (b := b) hw h).mono fun k hk => by
    unfold layers_Depth.f
    rw [hk]
    rfl
theorem Depth_is {q b : Int} {l : List Opn} {E : List Int} (hE : Evt fun k => layers_Early.f k q b l = some (E, 0)) (hl : E.length = l.length) (h0 : ∀ x ∈ E, 0 ≤ x ∧ x ≤ l.length) :
    ∃ D, (Evt fun k => layers_Depth.f k q b l = some (D, 0)) ∧ 0 ≤ D ∧ D ≤ l.length ∧ Lub (fun x => ∃ i, i < l.length ∧ x = nth E i) D := by
  by_cases hn : E = []
  · subst hn
    refine ⟨0, hE.mono fun k hk => ?_, Int.le_refl _, by omega, Lub.none ?_⟩
    · unfold layers_Depth.f
      rw [hk]
      rfl
    · rintro x ⟨i, hi, _⟩
      simp only [List.length_nil] at hl
      omega
  · have hp : 0 < E.length := List.length_pos_iff.2 hn
    have h1 := maxTo_lub (fun x hx => (h0 x hx).1) (E.length - 1) (by omega)
    refine ⟨maxTo E (E.length - 1), hE.mono fun k hk => ?_, h1.2.1, ?_, h1.congr fun x => ⟨fun ⟨i, a, c⟩ => ⟨i, by omega, c⟩, fun ⟨i, a, c⟩ => ⟨i, by omega, c⟩⟩⟩
    · unfold layers_Depth.f slices_Max_int_int.f
      rw [hk]
      simp only [Option.bind_some]
      rw [if_pos trivial, if_neg (by omega), if_neg (by omega)]
      rfl
    · rcases h1.2.2 with c | ⟨i, hi, c⟩
      · omega
      · rw [c, nth_get (by omega)]; exact (h0 _ (List.getElem_mem _)).2
theorem late_no {q b : Int} {l : List Opn} (hw : WfL l) (h : okc q b l = false) : Evt fun k => layers_Late.f k q b l = some ([], 80) :=
  (depth_no (q := q) (b := b) hw h).mono fun k hk => by
    unfold layers_Late.f
    rw [hk]
    rfl
theorem Late_is {q b D : Int} {l : List Opn} (h : CircF q b l) (hD : Evt fun k => layers_Depth.f k q b l = some (D, 0)) (h0 : 0 ≤ D) (h1 : D ≤ l.length) :
    ∃ B, (Evt fun k => layers_Late.f k q b l = some (B, 0)) ∧ B.length = l.length ∧ LateP l.length (at_ l) D (nth B) := by
  have hn := h.n
  obtain ⟨r, r1, r2, r3⟩ := late_is (d := D) h h0 (by omega)
  refine ⟨r.reverse, hD.mono fun k hk => ?_, by simp [r2], r3⟩
  unfold layers_Late.f
  rw [hk]
  simp only [Option.bind_some]
  rw [if_pos trivial, if_pos (by omega), r1]
  rfl
end Go.Proofs.Ytbelnopbggkdfaa.Q
end
