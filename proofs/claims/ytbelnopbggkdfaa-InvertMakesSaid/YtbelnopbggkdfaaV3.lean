/- A part of the proof: texts of this claim laid together by a program of its own; what the proof does not use is struck. -/
import Derived.Test.YtbelnopbggkdfaaV2
import Derived.StillTailTactics
import Derived.Great.Walk
section
namespace Go.Proofs.Ytbelnopbggkdfaa.Q
open Go.RowKit Go.Proofs.YtbelnopbggkdfaaW.PrintWords Go.Proofs.YtbelnopbggkdfaaW.PrintLast Go.Proofs.YtbelnopbggkdfaaW.PrintMore
attribute [local go_sem] max2_int min2_int max_two min_two max_three min_three max_four min_four   -- for this text's walks alone
set_option linter.unusedVariables false
set_option linter.unusedSimpArgs false
mutual
def phasorref08_Same.j0 : Nat→Bool→Int→Int→List (S46)→Int→Int→List (S46)→Option (Bool)
 | 0,_,_,_,_,_,_,_ => none
 | k + 1,x26,x205000,x205001,x205002,x206000,x206001,x206002 => if x26=true then (some false) else (phasorref08_Same.l0 k 0 x205000 x205001 x205002 x206000 x206001 x206002)
def phasorref08_Same.l0 : Nat→Int→Int→Int→List (S46)→Int→Int→List (S46)→Option (Bool)
 | 0,_,_,_,_,_,_,_ => none
 | k + 1,x5,x205000,x205001,x205002,x206000,x206001,x206002 => if x5 < (x205002.length : Int) then (if 0≤x5 then (if x5 < (x206002.length : Int) then ((phasorref08_SameOp.f k ((rd_T46 x205002 x5).f0) ((rd_T46 x205002 x5).f1) ((rd_T46 x205002 x5).f2) ((rd_T46 x205002 x5).f3) ((rd_T46 x205002 x5).f4) ((rd_T46 x205002 x5).f5) ((rd_T46 x206002 x5).f0) ((rd_T46 x206002 x5).f1) ((rd_T46 x206002 x5).f2) ((rd_T46 x206002 x5).f3) ((rd_T46 x206002 x5).f4) ((rd_T46 x206002 x5).f5)).bind fun t208 => (if t208=true then (phasorref08_Same.l0 k (wrap64 (x5 + 1)) x205000 x205001 x205002 x206000 x206001 x206002) else (some false))) else (none)) else (none)) else (some true)
end
def phasorref08_Same.f (k : Nat) (a0_0 : Int) (a0_1 : Int) (l0_2 : List (S46)) (a1_0 : Int) (a1_1 : Int) (l1_2 : List (S46)) : Option (Bool):=if a0_0=a1_0 then (if a0_1=a1_1 then (phasorref08_Same.j0 k ((l0_2.length : Int) != (l1_2.length : Int)) a0_0 a0_1 l0_2 a1_0 a1_1 l1_2) else (phasorref08_Same.j0 k true a0_0 a0_1 l0_2 a1_0 a1_1 l1_2)) else (phasorref08_Same.j0 k true a0_0 a0_1 l0_2 a1_0 a1_1 l1_2)
def phasorref08_Same.T6 : Bool × List (List Nat × List Nat):=(true,[([],[]),([0],[0]),([],[]),([1,2],[1,2]),([3],[3]),([],[]),([5],[5]),([],[]),([6,7],[6,7]),([8],[8]),([4,9],[4,9]),([10],[10])])
def phasorref08_Same.B6 : List Nat:=[0,1,0,7,15,0,32,0,224,480,1023,2047]
theorem phasorref08_Same.tab6 : rtab .any (opsOf Try.f19 6)=phasorref08_Same.T6:=by kernel_rfl
theorem phasorref08_Same.bits6 : waitsOk phasorref08_Same.T6.2 phasorref08_Same.B6=true:=by kernel_rfl
set_option maxHeartbeats 8000000 in
set_option maxRecDepth 100000 in
theorem phasorref08_Same.calls (k : Nat) (a0_0 : Int) (a0_1 : Int) (A0_2 : Option Addr) (c0_2 : Nat) (l0_2 : List (S46)) (a1_0 : Int) (a1_1 : Int) (A1_2 : Option Addr) (c1_2 : Nat) (l1_2 : List (S46)) (r : Bool) (w : World) (hr0_2 : Kd.C k46 w A0_2 l0_2.length l0_2) (hc0_2 : l0_2.length≤c0_2) (hr1_2 : Kd.C k46 w A1_2 l1_2.length l1_2) (hc1_2 : l1_2.length≤c1_2) (h : phasorref08_Same.f k a0_0 a0_1 l0_2 a1_0 a1_1 l1_2=some r) :
  Calls Try.prog 19 #[.agg #[.int .i64 a0_0,.int .i64 a0_1,.slice A0_2 l0_2.length c0_2],.agg #[.int .i64 a1_0,.int .i64 a1_1,.slice A1_2 l1_2.length c1_2]] w fun e w' => e=.returned (.bool r)∧Below w.heap.size w w':=by
 have hu24:=Try.underlying24
 have hu46:=Try.underlying46
 have HR0_2:=Aside0.mk hr0_2
 have HC0_2:=Aside0.mk hc0_2
 clear hr0_2 hc0_2
 have HR1_2:=Aside0.mk hr1_2
 have HC1_2:=Aside0.mk hc1_2
 clear hr1_2 hc1_2
 have HB:=Aside0.mk (Below.refl w.heap.size w)
 have H : (if a0_0=a1_0 then (if a0_1=a1_1 then (phasorref08_Same.j0 k ((l0_2.length : Int) != (l1_2.length : Int)) a0_0 a0_1 l0_2 a1_0 a1_1 l1_2) else (phasorref08_Same.j0 k true a0_0 a0_1 l0_2 a1_0 a1_1 l1_2)) else (phasorref08_Same.j0 k true a0_0 a0_1 l0_2 a1_0 a1_1 l1_2))=some r:=h
 clear h
 have HC3:=Aside0.mk H
 clear H
 go_enter Try.func19,Try.ntmps19
 go_upto_region 1 with (first|((with_reducible refine gate_dst (N:=2) rfl ?_);(try (refine gate_guard (by rfl) ?_;dsimp only));refine box_event ?hg (N:=2) ?hd (cs:=#[.int .i64 a0_0,.int .i64 a0_1,.slice A0_2 l0_2.length c0_2]) (t:=24) ?hr ?_;(case hd => rfl);(case hg => rfl);(case hr => first|(go_simp;done)|(go_simp;rfl));intro gb204 hg w4 hbox hb;have n0_:=Aside0.mk (below_step (by repeat (first|(with_reducible first|exact HB.out|apply below_alloc|apply pw_below_drewN|apply below_drew1)|exact HB.out)) hb);have n1_:=Aside0.mk (hbox);have n2_:=Aside0.mk ((by rw [hg];exact (below_size (by repeat (first|(with_reducible first|exact HB.out|apply below_alloc|apply pw_below_drewN|apply below_drew1)|exact HB.out))) : w.heap.size≤gb204));have n3_:=Aside0.mk ((by rw [hg];exact (below_size (by repeat (first|(with_reducible first|exact HB.out|apply below_alloc|apply pw_below_drewN|apply below_drew1)|exact HB.out))) : w.heap.size≤gb204));clear HB;have HB:=n0_;have BK204:=n1_;have GW204:=n2_;have GE204:=n3_;clear n0_ n1_ n2_ n3_;clear hb hbox hg)|((with_reducible refine gate_dst (N:=3) rfl ?_);(try (refine gate_guard (by rfl) ?_;dsimp only));refine box_event ?hg (N:=3) ?hd (cs:=#[.int .i64 a1_0,.int .i64 a1_1,.slice A1_2 l1_2.length c1_2]) (t:=24) ?hr ?_;(case hd => rfl);(case hg => rfl);(case hr => first|(go_simp;done)|(go_simp;rfl));intro gb205 hg w5 hbox hb;have n0_:=Aside0.mk (blk_below (g:=gb204) (o:=.cells #[.int .i64 a0_0,.int .i64 a0_1,.slice A0_2 l0_2.length c0_2] 24 (0,0)) (by (with_reducible repeat (first|refine blk_drewN ?_ _|refine blk_drew ?_|refine blk_alloc ?_ _));exact BK204.out) hb);have n1_:=Aside0.mk (below_step (by repeat (first|(with_reducible first|exact HB.out|apply below_alloc|apply pw_below_drewN|apply below_drew1|refine below_set ?_ GE204.out)|exact HB.out)) hb);have n2_:=Aside0.mk (hbox);have n3_:=Aside0.mk ((by rw [hg];exact (below_size (by repeat (first|(with_reducible first|exact HB.out|apply below_alloc|apply pw_below_drewN|apply below_drew1|refine below_set ?_ GE204.out)|exact HB.out))) : w.heap.size≤gb205));have n4_:=Aside0.mk ((by rw [hg];exact (below_size (by repeat (first|(with_reducible first|exact HB.out|apply below_alloc|apply pw_below_drewN|apply below_drew1|refine below_set ?_ GE204.out)|exact HB.out))) : w.heap.size≤gb205));have n5_:=Aside0.mk ((by rw [hg];exact Nat.ne_of_lt (blk_lt (g:=gb204) (o:=.cells #[.int .i64 a0_0,.int .i64 a0_1,.slice A0_2 l0_2.length c0_2] 24 (0,0)) (by (with_reducible repeat (first|refine blk_drewN ?_ _|refine blk_drew ?_|refine blk_alloc ?_ _));exact BK204.out)) : gb204≠gb205));have n6_:=Aside0.mk ((by rw [hg];exact Nat.ne_of_gt (blk_lt (g:=gb204) (o:=.cells #[.int .i64 a0_0,.int .i64 a0_1,.slice A0_2 l0_2.length c0_2] 24 (0,0)) (by (with_reducible repeat (first|refine blk_drewN ?_ _|refine blk_drew ?_|refine blk_alloc ?_ _));exact BK204.out)) : gb205≠gb204));clear BK204;clear HB;have BK204:=n0_;have HB:=n1_;have BK205:=n2_;have GW205:=n3_;have GE205:=n4_;have NB204_205:=n5_;have NB205_204:=n6_;clear n0_ n1_ n2_ n3_ n4_ n5_ n6_;clear hb hbox hg))
 (try simp only [Act.put,List.setIfInBounds_toArray,List.set_cons_zero,List.set_cons_succ])
 go_cut [26] (fun v26 wc => ∃ (kq : Nat) (x26_2 : Bool),v26=.bool x26_2∧Aside0 (phasorref08_Same.j0 kq x26_2 a0_0 a0_1 l0_2 a1_0 a1_1 l1_2=some r)∧Aside0 (kq≤k)∧Aside0 (wc.heap[gb204]?=some (.cells #[.int .i64 a0_0,.int .i64 a0_1,(.slice A0_2 l0_2.length c0_2)] 24 (0,0)))∧Aside0 (wc.heap[gb205]?=some (.cells #[.int .i64 a1_0,.int .i64 a1_1,(.slice A1_2 l1_2.length c1_2)] 24 (0,0)))∧Aside0 (Below w.heap.size w wc))
 case first =>
  have H:=HC3.out
  clear HC3
  by_cases c6 : a0_0=a1_0
  ·rw [if_pos c6] at H
   have c6b0 : (a0_0 == a1_0)=true:=beq_iff_eq.mpr c6
   have c6b1 : (a0_0 != a1_0)=false:=bne_eq_false_iff_eq.mpr c6
   clear c6
   (first|rw [c6b0]|(simp only [i64_w,i32_w];rw [c6b0])|skip)
   by_cases c7 : a0_1=a1_1
   ·rw [if_pos c7] at H
    have c7b0 : (a0_1 == a1_1)=true:=beq_iff_eq.mpr c7
    have c7b1 : (a0_1 != a1_1)=false:=bne_eq_false_iff_eq.mpr c7
    clear c7
    have H':=Aside0.mk H
    clear H
    have hnb8:=NB204_205.out
    have hnc8:=NB205_204.out
    have hcz9_0 : w5.cell? ⟨gb204,0,none⟩=some (.int .i64 a0_0):=(blk_cell BK204.out 0).trans rfl
    have hcz9_1 : w5.cell? ⟨gb204,1,none⟩=some (.int .i64 a0_1):=(blk_cell BK204.out 1).trans rfl
    have hcz9_2 : w5.cell? ⟨gb204,2,none⟩=some (.slice A0_2 l0_2.length c0_2):=(blk_cell BK204.out 2).trans rfl
    have hfz9_0:=blk_frozen BK204.out 0
    have hfz9_1:=blk_frozen BK204.out 1
    have hfz9_2:=blk_frozen BK204.out 2
    have hcz10_0 : w5.cell? ⟨gb205,0,none⟩=some (.int .i64 a1_0):=(blk_cell BK205.out 0).trans rfl
    have hcz10_1 : w5.cell? ⟨gb205,1,none⟩=some (.int .i64 a1_1):=(blk_cell BK205.out 1).trans rfl
    have hcz10_2 : w5.cell? ⟨gb205,2,none⟩=some (.slice A1_2 l1_2.length c1_2):=(blk_cell BK205.out 2).trans rfl
    have hfz10_0:=blk_frozen BK205.out 0
    have hfz10_1:=blk_frozen BK205.out 1
    have hfz10_2:=blk_frozen BK205.out 2
    go_wp2
    go_meet
    case rel => exact ⟨_,(((l0_2.length : Int) != (l1_2.length : Int))),(by first|rfl|(simp;done)|(simp [*];done)),H',⟨by first|omega|exact Nat.le_refl _⟩,⟨by (with_reducible repeat (first|refine blk_drewN ?_ _|refine blk_drew ?_|refine blk_alloc ?_ _));exact BK204.out⟩,⟨by (with_reducible repeat (first|refine blk_drewN ?_ _|refine blk_drew ?_|refine blk_alloc ?_ _));exact BK205.out⟩,⟨by repeat (first|(with_reducible first|exact HB.out|apply below_alloc|apply pw_below_drewN|apply below_drew1|refine below_set ?_ GE204.out|refine below_set ?_ GE205.out)|exact HB.out)⟩⟩
   ·rw [if_neg c7] at H
    have c7b0 : (a0_1 == a1_1)=false:=beq_eq_false_iff_ne.mpr c7
    have c7b1 : (a0_1 != a1_1)=true:=bne_iff_ne.mpr c7
    have H':=Aside0.mk H
    clear H
    have hnb11:=NB204_205.out
    have hnc11:=NB205_204.out
    have hcz12_0 : w5.cell? ⟨gb204,0,none⟩=some (.int .i64 a0_0):=(blk_cell BK204.out 0).trans rfl
    have hcz12_1 : w5.cell? ⟨gb204,1,none⟩=some (.int .i64 a0_1):=(blk_cell BK204.out 1).trans rfl
    have hcz12_2 : w5.cell? ⟨gb204,2,none⟩=some (.slice A0_2 l0_2.length c0_2):=(blk_cell BK204.out 2).trans rfl
    have hfz12_0:=blk_frozen BK204.out 0
    have hfz12_1:=blk_frozen BK204.out 1
    have hfz12_2:=blk_frozen BK204.out 2
    have hcz13_0 : w5.cell? ⟨gb205,0,none⟩=some (.int .i64 a1_0):=(blk_cell BK205.out 0).trans rfl
    have hcz13_1 : w5.cell? ⟨gb205,1,none⟩=some (.int .i64 a1_1):=(blk_cell BK205.out 1).trans rfl
    have hcz13_2 : w5.cell? ⟨gb205,2,none⟩=some (.slice A1_2 l1_2.length c1_2):=(blk_cell BK205.out 2).trans rfl
    have hfz13_0:=blk_frozen BK205.out 0
    have hfz13_1:=blk_frozen BK205.out 1
    have hfz13_2:=blk_frozen BK205.out 2
    go_wp2
    go_meet
    case rel => exact ⟨_,(true),(by first|rfl|(simp;done)|(simp [*];done)),H',⟨by first|omega|exact Nat.le_refl _⟩,⟨by (with_reducible repeat (first|refine blk_drewN ?_ _|refine blk_drew ?_|refine blk_alloc ?_ _));exact BK204.out⟩,⟨by (with_reducible repeat (first|refine blk_drewN ?_ _|refine blk_drew ?_|refine blk_alloc ?_ _));exact BK205.out⟩,⟨by repeat (first|(with_reducible first|exact HB.out|apply below_alloc|apply pw_below_drewN|apply below_drew1|refine below_set ?_ GE204.out|refine below_set ?_ GE205.out)|exact HB.out)⟩⟩
  ·rw [if_neg c6] at H
   have c6b0 : (a0_0 == a1_0)=false:=beq_eq_false_iff_ne.mpr c6
   have c6b1 : (a0_0 != a1_0)=true:=bne_iff_ne.mpr c6
   (first|rw [c6b0]|(simp only [i64_w,i32_w];rw [c6b0])|skip)
   have H':=Aside0.mk H
   clear H
   have hnb14:=NB204_205.out
   have hnc14:=NB205_204.out
   have hcz15_0 : w5.cell? ⟨gb204,0,none⟩=some (.int .i64 a0_0):=(blk_cell BK204.out 0).trans rfl
   have hcz15_1 : w5.cell? ⟨gb204,1,none⟩=some (.int .i64 a0_1):=(blk_cell BK204.out 1).trans rfl
   have hcz15_2 : w5.cell? ⟨gb204,2,none⟩=some (.slice A0_2 l0_2.length c0_2):=(blk_cell BK204.out 2).trans rfl
   have hfz15_0:=blk_frozen BK204.out 0
   have hfz15_1:=blk_frozen BK204.out 1
   have hfz15_2:=blk_frozen BK204.out 2
   have hcz16_0 : w5.cell? ⟨gb205,0,none⟩=some (.int .i64 a1_0):=(blk_cell BK205.out 0).trans rfl
   have hcz16_1 : w5.cell? ⟨gb205,1,none⟩=some (.int .i64 a1_1):=(blk_cell BK205.out 1).trans rfl
   have hcz16_2 : w5.cell? ⟨gb205,2,none⟩=some (.slice A1_2 l1_2.length c1_2):=(blk_cell BK205.out 2).trans rfl
   have hfz16_0:=blk_frozen BK205.out 0
   have hfz16_1:=blk_frozen BK205.out 1
   have hfz16_2:=blk_frozen BK205.out 2
   go_wp2
   go_meet
   case rel => exact ⟨_,(true),(by first|rfl|(simp;done)|(simp [*];done)),H',⟨by first|omega|exact Nat.le_refl _⟩,⟨by (with_reducible repeat (first|refine blk_drewN ?_ _|refine blk_drew ?_|refine blk_alloc ?_ _));exact BK204.out⟩,⟨by (with_reducible repeat (first|refine blk_drewN ?_ _|refine blk_drew ?_|refine blk_alloc ?_ _));exact BK205.out⟩,⟨by repeat (first|(with_reducible first|exact HB.out|apply below_alloc|apply pw_below_drewN|apply below_drew1|refine below_set ?_ GE204.out|refine below_set ?_ GE205.out)|exact HB.out)⟩⟩
 case rest =>
  clear HC3
  try clear c1
  try clear p2
  try clear c6
  try clear c6b0
  try clear c6b1
  try clear c7
  try clear c7b0
  try clear c7b1
  try clear c8
  try clear c11
  try clear c14
  try clear hcz10_0
  try clear hcz10_1
  try clear hcz10_2
  try clear hcz12_0
  try clear hcz12_1
  try clear hcz12_2
  try clear hcz13_0
  try clear hcz13_1
  try clear hcz13_2
  try clear hcz15_0
  try clear hcz15_1
  try clear hcz15_2
  try clear hcz16_0
  try clear hcz16_1
  try clear hcz16_2
  try clear hcz9_0
  try clear hcz9_1
  try clear hcz9_2
  try clear hfz10_0
  try clear hfz10_1
  try clear hfz10_2
  try clear hfz12_0
  try clear hfz12_1
  try clear hfz12_2
  try clear hfz13_0
  try clear hfz13_1
  try clear hfz13_2
  try clear hfz15_0
  try clear hfz15_1
  try clear hfz15_2
  try clear hfz16_0
  try clear hfz16_1
  try clear hfz16_2
  try clear hfz9_0
  try clear hfz9_1
  try clear hfz9_2
  obtain ⟨kq,x26_2,rfl,HA,HJ2,BK204,BK205,HB⟩:=hcut
  cases kq with
  | zero => exact absurd HA.out (by simp [phasorref08_Same.j0])
  | succ kj2 =>
   have H:=HA.out
   clear HA
   simp only [phasorref08_Same.j0] at H
   by_cases c17 : x26_2=true
   ·subst c17
    have H1 : (some false)=some r:=by rw [if_pos rfl] at H;exact H
    clear H
    have H:=H1
    clear H1
    obtain rfl:=Option.some.inj H
    go_wp2
    go_ret
    exact ⟨by first|rfl|(simp [errW_none,errW_some] <;> rfl)|(simp [*,errW_none,errW_some] <;> rfl),by repeat (first|(with_reducible first|exact HB.out|apply below_alloc|apply pw_below_drewN|apply below_drew1|refine below_set ?_ GE204.out|refine below_set ?_ GE205.out)|exact HB.out)⟩
   ·replace c17:=Bool.eq_false_iff.mpr c17
    subst c17
    have H1 : (phasorref08_Same.l0 kj2 0 a0_0 a0_1 l0_2 a1_0 a1_1 l1_2)=some r:=by rw [if_neg (show ¬ (false=true) by decide)] at H;exact H
    clear H
    have H:=H1
    clear H1
    have H':=Aside0.mk H
    clear H
    go_wp2
    go_loopg [5] kj2 (fun kq v5 w' => ∃ (x5_2 : Int),v5=.int .i64 x5_2∧Aside0 (phasorref08_Same.l0 kq x5_2 a0_0 a0_1 l0_2 a1_0 a1_1 l1_2=some r)∧Aside0 (kq≤kj2)∧Aside0 (w'.heap[gb204]?=some (.cells #[.int .i64 a0_0,.int .i64 a0_1,(.slice A0_2 l0_2.length c0_2)] 24 (0,0)))∧Aside0 (w'.heap[gb205]?=some (.cells #[.int .i64 a1_0,.int .i64 a1_1,(.slice A1_2 l1_2.length c1_2)] 24 (0,0)))∧Aside0 (Below w.heap.size w w'))
    case atStart => exact ⟨(0),(by first|rfl|(simp;done)|(simp [*];done)),H',⟨Nat.le_refl _⟩,⟨by (with_reducible repeat (first|refine blk_drewN ?_ _|refine blk_drew ?_|refine blk_alloc ?_ _));exact BK204.out⟩,⟨by (with_reducible repeat (first|refine blk_drewN ?_ _|refine blk_drew ?_|refine blk_alloc ?_ _));exact BK205.out⟩,⟨by repeat (first|(with_reducible first|exact HB.out|apply below_alloc|apply pw_below_drewN|apply below_drew1|refine below_set ?_ GE204.out|refine below_set ?_ GE205.out)|exact HB.out)⟩⟩
    case round =>
     clear H'
     try clear c1
     try clear p2
     try clear c6
     try clear c6b0
     try clear c6b1
     try clear c7
     try clear c7b0
     try clear c7b1
     try clear c8
     try clear c11
     try clear c14
     try clear c17
     try clear hcz10_0
     try clear hcz10_1
     try clear hcz10_2
     try clear hcz12_0
     try clear hcz12_1
     try clear hcz12_2
     try clear hcz13_0
     try clear hcz13_1
     try clear hcz13_2
     try clear hcz15_0
     try clear hcz15_1
     try clear hcz15_2
     try clear hcz16_0
     try clear hcz16_1
     try clear hcz16_2
     try clear hcz9_0
     try clear hcz9_1
     try clear hcz9_2
     try clear hfz10_0
     try clear hfz10_1
     try clear hfz10_2
     try clear hfz12_0
     try clear hfz12_1
     try clear hfz12_2
     try clear hfz13_0
     try clear hfz13_1
     try clear hfz13_2
     try clear hfz15_0
     try clear hfz15_1
     try clear hfz15_2
     try clear hfz16_0
     try clear hfz16_1
     try clear hfz16_2
     try clear hfz9_0
     try clear hfz9_1
     try clear hfz9_2
     try clear p2
     obtain ⟨x5_2,rfl,HA,HK2,BK204,BK205,HB⟩:=hrel
     cases gk with
     | zero => exact absurd HA.out (by simp [phasorref08_Same.l0])
     | succ k2 =>
      have H:=HA.out
      clear HA
      simp only [phasorref08_Same.l0] at H
      by_cases c18 : x5_2 < (l0_2.length : Int)
      ·rw [if_pos c18] at H
       have c18b0 : decide (x5_2 < (l0_2.length : Int))=true:=decide_eq_true c18
       clear c18
       by_cases c19 : 0≤x5_2
       ·rw [if_pos c19] at H
        have c19b0 : decide (0≤x5_2)=true:=decide_eq_true c19
        clear c19
        by_cases c20 : x5_2 < (l1_2.length : Int)
        ·rw [if_pos c20] at H
         have c20b0 : decide (x5_2 < (l1_2.length : Int))=true:=decide_eq_true c20
         clear c20
         replace H:=Option.bind_eq_some_iff.mp H
         obtain ⟨t208,A210,H⟩:=H
         replace H : (if t208=true then (phasorref08_Same.l0 k2 (wrap64 (x5_2 + 1)) a0_0 a0_1 l0_2 a1_0 a1_1 l1_2) else (some false))=some r:=H
         have A21:=Aside0.mk A210
         clear A210
         by_cases c22 : t208=true
         ·subst c22
          have H1 : (phasorref08_Same.l0 k2 (wrap64 (x5_2 + 1)) a0_0 a0_1 l0_2 a1_0 a1_1 l1_2)=some r:=by rw [if_pos rfl] at H;exact H
          clear H
          have H:=H1
          clear H1
          have H':=Aside0.mk H
          clear H
          have hnb23:=NB204_205.out
          have hnc23:=NB205_204.out
          have hcz24_0 : wr.cell? ⟨gb204,0,none⟩=some (.int .i64 a0_0):=(blk_cell BK204.out 0).trans rfl
          have hcz24_1 : wr.cell? ⟨gb204,1,none⟩=some (.int .i64 a0_1):=(blk_cell BK204.out 1).trans rfl
          have hcz24_2 : wr.cell? ⟨gb204,2,none⟩=some (.slice A0_2 l0_2.length c0_2):=(blk_cell BK204.out 2).trans rfl
          have hfz24_0:=blk_frozen BK204.out 0
          have hfz24_1:=blk_frozen BK204.out 1
          have hfz24_2:=blk_frozen BK204.out 2
          try go_wp2
          have n0_:=Aside0.mk (blk_drew BK204.out)
          have n1_:=Aside0.mk (blk_drew BK205.out)
          have n2_:=Aside0.mk (below_drew1 HB.out)
          clear BK204
          clear BK205
          clear HB
          have BK204:=n0_
          have BK205:=n1_
          have HB:=n2_
          clear n0_ n1_ n2_
          have p206 : 0≤(x5_2 : Int):=of_decide_eq_true (by first|(with_reducible assumption)|assumption)
          have q206 : x5_2 < (l0_2.length : Int):=of_decide_eq_true (by first|(with_reducible assumption)|assumption)
          obtain ⟨ad206,A206_2,c206_2,e206,hx206_0,hx206_1,hx206_2,hx206_3,hx206_4,hx206_5,hl206_2,hi206_2⟩:=at_T46 HR0_2.out x5_2 p206 q206
          have hw206_5:=hx206_5
          have hw206_4:=hx206_4
          have hw206_3:=hx206_3
          have hw206_2:=hx206_2
          have hw206_1:=hx206_1
          have hw206_0:=hx206_0
          cases e206
          replace hx206_0:=(HB.out.cell (World.block_lt_of_cell? w _ hx206_0)).trans hx206_0
          replace hx206_1:=(HB.out.cell (World.block_lt_of_cell? w _ hx206_1)).trans hx206_1
          replace hx206_2:=(HB.out.cell (World.block_lt_of_cell? w _ hx206_2)).trans hx206_2
          replace hx206_3:=(HB.out.cell (World.block_lt_of_cell? w _ hx206_3)).trans hx206_3
          replace hx206_4:=(HB.out.cell (World.block_lt_of_cell? w _ hx206_4)).trans hx206_4
          replace hx206_5:=(HB.out.cell (World.block_lt_of_cell? w _ hx206_5)).trans hx206_5
          have HR206_2:=Aside0.mk hi206_2
          have HC206_2:=Aside0.mk hl206_2
          clear hi206_2 hl206_2
          replace p206:=eq_true p206
          replace q206:=eq_true q206
          have p207 : 0≤(x5_2 : Int):=of_decide_eq_true (by first|(with_reducible assumption)|assumption)
          have q207 : x5_2 < (l1_2.length : Int):=of_decide_eq_true (by first|(with_reducible assumption)|assumption)
          obtain ⟨ad207,A207_2,c207_2,e207,hx207_0,hx207_1,hx207_2,hx207_3,hx207_4,hx207_5,hl207_2,hi207_2⟩:=at_T46 HR1_2.out x5_2 p207 q207
          have hw207_5:=hx207_5
          have hw207_4:=hx207_4
          have hw207_3:=hx207_3
          have hw207_2:=hx207_2
          have hw207_1:=hx207_1
          have hw207_0:=hx207_0
          cases e207
          replace hx207_0:=(HB.out.cell (World.block_lt_of_cell? w _ hx207_0)).trans hx207_0
          replace hx207_1:=(HB.out.cell (World.block_lt_of_cell? w _ hx207_1)).trans hx207_1
          replace hx207_2:=(HB.out.cell (World.block_lt_of_cell? w _ hx207_2)).trans hx207_2
          replace hx207_3:=(HB.out.cell (World.block_lt_of_cell? w _ hx207_3)).trans hx207_3
          replace hx207_4:=(HB.out.cell (World.block_lt_of_cell? w _ hx207_4)).trans hx207_4
          replace hx207_5:=(HB.out.cell (World.block_lt_of_cell? w _ hx207_5)).trans hx207_5
          have HR207_2:=Aside0.mk hi207_2
          have HC207_2:=Aside0.mk hl207_2
          clear hi207_2 hl207_2
          replace p207:=eq_true p207
          replace q207:=eq_true q207
          refine start_ (n:=12) (S:=fun w' => w'.cell? ⟨gb204,0,none⟩=some (.int .i64 a0_0)∧w'.cell? ⟨gb204,1,none⟩=some (.int .i64 a0_1)∧w'.cell? ⟨gb204,2,none⟩=some (.slice (some ad206) l0_2.length c0_2)∧w'.cell? ⟨gb205,0,none⟩=some (.int .i64 a1_0)∧w'.cell? ⟨gb205,1,none⟩=some (.int .i64 a1_1)∧w'.cell? ⟨gb205,2,none⟩=some (.slice (some ad207) l1_2.length c1_2)∧w'.cell? (ad206.add ((x5_2).toNat * 6))=some (.int .i64 ((rd_T46 l0_2 x5_2).f0))∧w'.cell? ⟨(ad206.add ((x5_2).toNat * 6)).block,(ad206.add ((x5_2).toNat * 6)).off + 1,none⟩=some (.int .i64 ((rd_T46 l0_2 x5_2).f1))∧w'.cell? ⟨(ad206.add ((x5_2).toNat * 6)).block,(ad206.add ((x5_2).toNat * 6)).off + 2,none⟩=some (.slice A206_2 ((rd_T46 l0_2 x5_2).f2).length c206_2)∧w'.cell? ⟨(ad206.add ((x5_2).toNat * 6)).block,(ad206.add ((x5_2).toNat * 6)).off + 3,none⟩=some (.int .i64 ((rd_T46 l0_2 x5_2).f3))∧w'.cell? ⟨(ad206.add ((x5_2).toNat * 6)).block,(ad206.add ((x5_2).toNat * 6)).off + 4,none⟩=some (.int .i64 ((rd_T46 l0_2 x5_2).f4))∧w'.cell? ⟨(ad206.add ((x5_2).toNat * 6)).block,(ad206.add ((x5_2).toNat * 6)).off + 5,none⟩=some (.int .i64 ((rd_T46 l0_2 x5_2).f5))∧w'.cell? (ad207.add ((x5_2).toNat * 6))=some (.int .i64 ((rd_T46 l1_2 x5_2).f0))∧w'.cell? ⟨(ad207.add ((x5_2).toNat * 6)).block,(ad207.add ((x5_2).toNat * 6)).off + 1,none⟩=some (.int .i64 ((rd_T46 l1_2 x5_2).f1))∧w'.cell? ⟨(ad207.add ((x5_2).toNat * 6)).block,(ad207.add ((x5_2).toNat * 6)).off + 2,none⟩=some (.slice A207_2 ((rd_T46 l1_2 x5_2).f2).length c207_2)∧w'.cell? ⟨(ad207.add ((x5_2).toNat * 6)).block,(ad207.add ((x5_2).toNat * 6)).off + 3,none⟩=some (.int .i64 ((rd_T46 l1_2 x5_2).f3))∧w'.cell? ⟨(ad207.add ((x5_2).toNat * 6)).block,(ad207.add ((x5_2).toNat * 6)).off + 4,none⟩=some (.int .i64 ((rd_T46 l1_2 x5_2).f4))∧w'.cell? ⟨(ad207.add ((x5_2).toNat * 6)).block,(ad207.add ((x5_2).toNat * 6)).off + 5,none⟩=some (.int .i64 ((rd_T46 l1_2 x5_2).f5))) (ds:=[]) #[false,false,false,false,false,false,false,false,false,false,false,false] (by kernel_rfl) rfl rfl ⟨(blk_cell BK204.out 0).trans rfl,(blk_cell BK204.out 1).trans rfl,(blk_cell BK204.out 2).trans rfl,(blk_cell BK205.out 0).trans rfl,(blk_cell BK205.out 1).trans rfl,(blk_cell BK205.out 2).trans rfl,((HB.out.cell (World.block_lt_of_cell? w _ hw206_0)).trans hw206_0),((HB.out.cell (World.block_lt_of_cell? w _ hw206_1)).trans hw206_1),((HB.out.cell (World.block_lt_of_cell? w _ hw206_2)).trans hw206_2),((HB.out.cell (World.block_lt_of_cell? w _ hw206_3)).trans hw206_3),((HB.out.cell (World.block_lt_of_cell? w _ hw206_4)).trans hw206_4),((HB.out.cell (World.block_lt_of_cell? w _ hw206_5)).trans hw206_5),((HB.out.cell (World.block_lt_of_cell? w _ hw207_0)).trans hw207_0),((HB.out.cell (World.block_lt_of_cell? w _ hw207_1)).trans hw207_1),((HB.out.cell (World.block_lt_of_cell? w _ hw207_2)).trans hw207_2),((HB.out.cell (World.block_lt_of_cell? w _ hw207_3)).trans hw207_3),((HB.out.cell (World.block_lt_of_cell? w _ hw207_4)).trans hw207_4),((HB.out.cell (World.block_lt_of_cell? w _ hw207_5)).trans hw207_5)⟩ (fun hHeld => ?_);refine with_tabW phasorref08_Same.tab6 phasorref08_Same.bits6 (fun HT_ HW_ => ?_)
          generalize wr.drew=w25 at BK204 BK205 HB HR206_2 HR207_2 hx206_0 hx206_1 hx206_2 hx206_3 hx206_4 hx206_5 hx207_0 hx207_1 hx207_2 hx207_3 hx207_4 hx207_5 hHeld ⊢
          refine pure_ (i:=0) (N:=some 34) (v:=?_) (a':=?_) #[true,false,false,false,false,false,false,false,false,false,false,false] rfl rfl (any_of HT_.out (by kernel_rfl)) (fun _ _ _ h => h) (Or.inl ⟨by rfl,?_⟩) ?_ ?_
          rotate_left
          ·intro w'
           go_simp
           with_reducible rfl
          rotate_left
          ·simp only [Act.put,List.setIfInBounds_toArray,List.set_cons_zero,List.set_cons_succ,i64_w,i32_w]
           rfl
          refine pure_ (i:=2) (N:=some 36) (v:=?_) (a':=?_) #[true,false,true,false,false,false,false,false,false,false,false,false] rfl rfl (any_of HT_.out (by kernel_rfl)) (fun _ _ _ h => h) (Or.inl ⟨by rfl,?_⟩) ?_ ?_
          rotate_left
          ·intro w'
           go_simp
           with_reducible rfl
          rotate_left
          ·simp only [Act.put,List.setIfInBounds_toArray,List.set_cons_zero,List.set_cons_succ,i64_w,i32_w]
           rfl
          refine pure_ (i:=5) (N:=some 39) (v:=?_) (a':=?_) #[true,false,true,false,false,true,false,false,false,false,false,false] rfl rfl (any_of HT_.out (by kernel_rfl)) (fun _ _ _ h => h) (Or.inl ⟨by rfl,?_⟩) ?_ ?_
          rotate_left
          ·intro w'
           go_simp
           with_reducible rfl
          rotate_left
          ·simp only [Act.put,List.setIfInBounds_toArray,List.set_cons_zero,List.set_cons_succ,i64_w,i32_w]
           rfl
          refine pure_ (i:=7) (N:=some 41) (v:=?_) (a':=?_) #[true,false,true,false,false,true,false,true,false,false,false,false] rfl rfl (any_of HT_.out (by kernel_rfl)) (fun _ _ _ h => h) (Or.inl ⟨by rfl,?_⟩) ?_ ?_
          rotate_left
          ·intro w'
           go_simp
           with_reducible rfl
          rotate_left
          ·simp only [Act.put,List.setIfInBounds_toArray,List.set_cons_zero,List.set_cons_succ,i64_w,i32_w]
           rfl
          refine take_ (i:=1) (N:=some 35) (v:=?_) (a':=?_) #[true,true,true,false,false,true,false,true,false,false,false,false] rfl rfl (take_ofW HT_.out HW_.out (by kernel_rfl)) (fun _ _ _ h => h) (Or.inl ⟨by rfl,?_⟩) hHeld ?_ ?_
          rotate_left
          ·rintro w' ⟨s0,s1,s2,s3,s4,s5,s6,s7,s8,s9,s10,s11,s12,s13,s14,s15,s16,s17⟩
           go_simp
           with_reducible rfl
          rotate_left
          ·simp only [Act.put,List.setIfInBounds_toArray,List.set_cons_zero,List.set_cons_succ,i64_w,i32_w]
           rfl
          refine pure_ (i:=3) (N:=some 37) (v:=?_) (a':=?_) #[true,true,true,true,false,true,false,true,false,false,false,false] rfl rfl (any_of HT_.out (by kernel_rfl)) (fun _ _ _ h => h) (Or.inl ⟨by rfl,?_⟩) ?_ ?_
          rotate_left
          ·intro w'
           go_simp
           with_reducible rfl
          rotate_left
          ·simp only [Act.put,List.setIfInBounds_toArray,List.set_cons_zero,List.set_cons_succ,i64_w,i32_w]
           rfl
          refine take_ (i:=4) (N:=some 38) (v:=?_) (a':=?_) #[true,true,true,true,true,true,false,true,false,false,false,false] rfl rfl (take_ofW HT_.out HW_.out (by kernel_rfl)) (fun _ _ _ h => h) (Or.inl ⟨by rfl,?_⟩) hHeld ?_ ?_
          rotate_left
          ·rintro w' ⟨s0,s1,s2,s3,s4,s5,s6,s7,s8,s9,s10,s11,s12,s13,s14,s15,s16,s17⟩
           go_simp
           with_reducible rfl
          rotate_left
          ·simp only [Act.put,List.setIfInBounds_toArray,List.set_cons_zero,List.set_cons_succ,i64_w,i32_w]
           rfl
          refine take_ (i:=6) (N:=some 40) (v:=?_) (a':=?_) #[true,true,true,true,true,true,true,true,false,false,false,false] rfl rfl (take_ofW HT_.out HW_.out (by kernel_rfl)) (fun _ _ _ h => h) (Or.inl ⟨by rfl,?_⟩) hHeld ?_ ?_
          rotate_left
          ·rintro w' ⟨s0,s1,s2,s3,s4,s5,s6,s7,s8,s9,s10,s11,s12,s13,s14,s15,s16,s17⟩
           go_simp
           with_reducible rfl
          rotate_left
          ·simp only [Act.put,List.setIfInBounds_toArray,List.set_cons_zero,List.set_cons_succ,i64_w,i32_w]
           rfl
          refine pure_ (i:=8) (N:=some 42) (v:=?_) (a':=?_) #[true,true,true,true,true,true,true,true,true,false,false,false] rfl rfl (any_of HT_.out (by kernel_rfl)) (fun _ _ _ h => h) (Or.inl ⟨by rfl,?_⟩) ?_ ?_
          rotate_left
          ·intro w'
           go_simp
           with_reducible rfl
          rotate_left
          ·simp only [Act.put,List.setIfInBounds_toArray,List.set_cons_zero,List.set_cons_succ,i64_w,i32_w]
           rfl
          refine take_ (i:=9) (N:=some 43) (v:=?_) (a':=?_) #[true,true,true,true,true,true,true,true,true,true,false,false] rfl rfl (take_ofW HT_.out HW_.out (by kernel_rfl)) (fun _ _ _ h => h) (Or.inl ⟨by rfl,?_⟩) hHeld ?_ ?_
          rotate_left
          ·rintro w' ⟨s0,s1,s2,s3,s4,s5,s6,s7,s8,s9,s10,s11,s12,s13,s14,s15,s16,s17⟩
           go_simp
           with_reducible rfl
          rotate_left
          ·simp only [Act.put,List.setIfInBounds_toArray,List.set_cons_zero,List.set_cons_succ,i64_w,i32_w]
           rfl
          refine one_ (i:=10) (N:=some 44) #[true,true,true,true,true,true,true,true,true,true,true,false] rfl rfl (one_of HT_.out (by kernel_rfl)) (by decide) (fun K hK => ?_)
          refine goes_ Try.func58 (by kernel_rfl) rfl #[.agg #[.int .i64 ((rd_T46 l0_2 x5_2).f0),.int .i64 ((rd_T46 l0_2 x5_2).f1),.slice A206_2 ((rd_T46 l0_2 x5_2).f2).length c206_2,.int .i64 ((rd_T46 l0_2 x5_2).f3),.int .i64 ((rd_T46 l0_2 x5_2).f4),.int .i64 ((rd_T46 l0_2 x5_2).f5)],.agg #[.int .i64 ((rd_T46 l1_2 x5_2).f0),.int .i64 ((rd_T46 l1_2 x5_2).f1),.slice A207_2 ((rd_T46 l1_2 x5_2).f2).length c207_2,.int .i64 ((rd_T46 l1_2 x5_2).f3),.int .i64 ((rd_T46 l1_2 x5_2).f4),.int .i64 ((rd_T46 l1_2 x5_2).f5)]] (by rfl) rfl rfl (by (try simp only [List.map_toArray,List.map_cons,List.map_nil]);first|done|rfl|(simp only [List.length_drop,List.length_take];rfl)) ?_
          with_reducible refine (phasorref08_SameOp.calls k2 ((rd_T46 l0_2 x5_2).f0) ((rd_T46 l0_2 x5_2).f1) _ _ ((rd_T46 l0_2 x5_2).f2) ((rd_T46 l0_2 x5_2).f3) ((rd_T46 l0_2 x5_2).f4) ((rd_T46 l0_2 x5_2).f5) ((rd_T46 l1_2 x5_2).f0) ((rd_T46 l1_2 x5_2).f1) _ _ ((rd_T46 l1_2 x5_2).f2) ((rd_T46 l1_2 x5_2).f3) ((rd_T46 l1_2 x5_2).f4) ((rd_T46 l1_2 x5_2).f5) true _ ?side1 ?side2 ?side3 ?side4 A21.out).mono ?_
          (case side1 => repeat (first|exact (Kd.C_below HR206_2.out HB.out)|(with_reducible refine Kd.C_alloc ?_ _)|(with_reducible refine Kd.C_drewN ?_ _)|(with_reducible refine Kd.C_drew ?_)))
          (case side2 => exact HC206_2.out)
          (case side3 => repeat (first|exact (Kd.C_below HR207_2.out HB.out)|(with_reducible refine Kd.C_alloc ?_ _)|(with_reducible refine Kd.C_drewN ?_ _)|(with_reducible refine Kd.C_drew ?_)))
          (case side4 => exact HC207_2.out)
          rintro e w26 ⟨rfl,hb⟩
          refine ⟨_,rfl,?_⟩
          have n0_:=Aside0.mk (blk_below (g:=gb204) (o:=.cells #[.int .i64 a0_0,.int .i64 a0_1,.slice (some ad206) l0_2.length c0_2] 24 (0,0)) (by (with_reducible repeat (first|refine blk_drewN ?_ _|refine blk_drew ?_|refine blk_alloc ?_ _));exact BK204.out) hb)
          have n1_:=Aside0.mk (blk_below (g:=gb205) (o:=.cells #[.int .i64 a1_0,.int .i64 a1_1,.slice (some ad207) l1_2.length c1_2] 24 (0,0)) (by (with_reducible repeat (first|refine blk_drewN ?_ _|refine blk_drew ?_|refine blk_alloc ?_ _));exact BK205.out) hb)
          have n2_:=Aside0.mk (below_step (by repeat (first|(with_reducible first|exact HB.out|apply below_alloc|apply pw_below_drewN|apply below_drew1|refine below_set ?_ GE204.out|refine below_set ?_ GE205.out)|exact HB.out)) hb)
          clear BK204
          clear BK205
          clear HB
          have BK204:=n0_
          have BK205:=n1_
          have HB:=n2_
          clear n0_ n1_ n2_
          (try clear hb)
          (try clear hb2)
          (try clear hk)
          (try clear hi)
          refine hK.out _ _ ⟨(blk_cell BK204.out 0).trans rfl,(blk_cell BK204.out 1).trans rfl,(blk_cell BK204.out 2).trans rfl,(blk_cell BK205.out 0).trans rfl,(blk_cell BK205.out 1).trans rfl,(blk_cell BK205.out 2).trans rfl,((HB.out.cell (World.block_lt_of_cell? w _ hw206_0)).trans hw206_0),((HB.out.cell (World.block_lt_of_cell? w _ hw206_1)).trans hw206_1),((HB.out.cell (World.block_lt_of_cell? w _ hw206_2)).trans hw206_2),((HB.out.cell (World.block_lt_of_cell? w _ hw206_3)).trans hw206_3),((HB.out.cell (World.block_lt_of_cell? w _ hw206_4)).trans hw206_4),((HB.out.cell (World.block_lt_of_cell? w _ hw206_5)).trans hw206_5),((HB.out.cell (World.block_lt_of_cell? w _ hw207_0)).trans hw207_0),((HB.out.cell (World.block_lt_of_cell? w _ hw207_1)).trans hw207_1),((HB.out.cell (World.block_lt_of_cell? w _ hw207_2)).trans hw207_2),((HB.out.cell (World.block_lt_of_cell? w _ hw207_3)).trans hw207_3),((HB.out.cell (World.block_lt_of_cell? w _ hw207_4)).trans hw207_4),((HB.out.cell (World.block_lt_of_cell? w _ hw207_5)).trans hw207_5)⟩ (fun hHeld => ?_)
          clear hK K
          refine norm_ (a':=?_) ?_ ?_
          rotate_left
          ·show Act.put _ (some 44) _=_
           simp only [Act.put,List.setIfInBounds_toArray,List.set_cons_zero,List.set_cons_succ,i64_w,i32_w]
           rfl
          refine pure_ (i:=11) (N:=some 45) (v:=?_) (a':=?_) #[true,true,true,true,true,true,true,true,true,true,true,true] rfl rfl (any_of HT_.out (by kernel_rfl)) (fun _ _ _ h => h) (Or.inl ⟨by rfl,?_⟩) ?_ ?_
          rotate_left
          ·intro w'
           go_simp
           with_reducible rfl
          rotate_left
          ·simp only [Act.put,List.setIfInBounds_toArray,List.set_cons_zero,List.set_cons_succ,i64_w,i32_w]
           rfl
          refine done_ (done_of HT_.out (by kernel_rfl)) ?_
          try go_wp2
          go_roundg k2
          case measure => have:=HJ2.out;have:=HK2.out;omega
          case rel => exact ⟨(wrap64 (x5_2 + 1)),(by first|rfl|(simp;done)|(simp [*];done)),H',⟨by have:=HJ2.out;have:=HK2.out;omega⟩,⟨by (with_reducible repeat (first|refine blk_drewN ?_ _|refine blk_drew ?_|refine blk_alloc ?_ _));exact BK204.out⟩,⟨by (with_reducible repeat (first|refine blk_drewN ?_ _|refine blk_drew ?_|refine blk_alloc ?_ _));exact BK205.out⟩,⟨by repeat (first|(with_reducible first|exact HB.out|apply below_alloc|apply pw_below_drewN|apply below_drew1|refine below_set ?_ GE204.out|refine below_set ?_ GE205.out)|exact HB.out)⟩⟩
         ·replace c22:=Bool.eq_false_iff.mpr c22
          subst c22
          have H1 : (some false)=some r:=by rw [if_neg (show ¬ (false=true) by decide)] at H;exact H
          clear H
          have H:=H1
          clear H1
          obtain rfl:=Option.some.inj H
          have hnb27:=NB204_205.out
          have hnc27:=NB205_204.out
          have hcz28_0 : wr.cell? ⟨gb204,0,none⟩=some (.int .i64 a0_0):=(blk_cell BK204.out 0).trans rfl
          have hcz28_1 : wr.cell? ⟨gb204,1,none⟩=some (.int .i64 a0_1):=(blk_cell BK204.out 1).trans rfl
          have hcz28_2 : wr.cell? ⟨gb204,2,none⟩=some (.slice A0_2 l0_2.length c0_2):=(blk_cell BK204.out 2).trans rfl
          have hfz28_0:=blk_frozen BK204.out 0
          have hfz28_1:=blk_frozen BK204.out 1
          have hfz28_2:=blk_frozen BK204.out 2
          try go_wp2
          have n0_:=Aside0.mk (blk_drew BK204.out)
          have n1_:=Aside0.mk (blk_drew BK205.out)
          have n2_:=Aside0.mk (below_drew1 HB.out)
          clear BK204
          clear BK205
          clear HB
          have BK204:=n0_
          have BK205:=n1_
          have HB:=n2_
          clear n0_ n1_ n2_
          have p206 : 0≤(x5_2 : Int):=of_decide_eq_true (by first|(with_reducible assumption)|assumption)
          have q206 : x5_2 < (l0_2.length : Int):=of_decide_eq_true (by first|(with_reducible assumption)|assumption)
          obtain ⟨ad206,A206_2,c206_2,e206,hx206_0,hx206_1,hx206_2,hx206_3,hx206_4,hx206_5,hl206_2,hi206_2⟩:=at_T46 HR0_2.out x5_2 p206 q206
          have hw206_5:=hx206_5
          have hw206_4:=hx206_4
          have hw206_3:=hx206_3
          have hw206_2:=hx206_2
          have hw206_1:=hx206_1
          have hw206_0:=hx206_0
          cases e206
          replace hx206_0:=(HB.out.cell (World.block_lt_of_cell? w _ hx206_0)).trans hx206_0
          replace hx206_1:=(HB.out.cell (World.block_lt_of_cell? w _ hx206_1)).trans hx206_1
          replace hx206_2:=(HB.out.cell (World.block_lt_of_cell? w _ hx206_2)).trans hx206_2
          replace hx206_3:=(HB.out.cell (World.block_lt_of_cell? w _ hx206_3)).trans hx206_3
          replace hx206_4:=(HB.out.cell (World.block_lt_of_cell? w _ hx206_4)).trans hx206_4
          replace hx206_5:=(HB.out.cell (World.block_lt_of_cell? w _ hx206_5)).trans hx206_5
          have HR206_2:=Aside0.mk hi206_2
          have HC206_2:=Aside0.mk hl206_2
          clear hi206_2 hl206_2
          replace p206:=eq_true p206
          replace q206:=eq_true q206
          have p207 : 0≤(x5_2 : Int):=of_decide_eq_true (by first|(with_reducible assumption)|assumption)
          have q207 : x5_2 < (l1_2.length : Int):=of_decide_eq_true (by first|(with_reducible assumption)|assumption)
          obtain ⟨ad207,A207_2,c207_2,e207,hx207_0,hx207_1,hx207_2,hx207_3,hx207_4,hx207_5,hl207_2,hi207_2⟩:=at_T46 HR1_2.out x5_2 p207 q207
          have hw207_5:=hx207_5
          have hw207_4:=hx207_4
          have hw207_3:=hx207_3
          have hw207_2:=hx207_2
          have hw207_1:=hx207_1
          have hw207_0:=hx207_0
          cases e207
          replace hx207_0:=(HB.out.cell (World.block_lt_of_cell? w _ hx207_0)).trans hx207_0
          replace hx207_1:=(HB.out.cell (World.block_lt_of_cell? w _ hx207_1)).trans hx207_1
          replace hx207_2:=(HB.out.cell (World.block_lt_of_cell? w _ hx207_2)).trans hx207_2
          replace hx207_3:=(HB.out.cell (World.block_lt_of_cell? w _ hx207_3)).trans hx207_3
          replace hx207_4:=(HB.out.cell (World.block_lt_of_cell? w _ hx207_4)).trans hx207_4
          replace hx207_5:=(HB.out.cell (World.block_lt_of_cell? w _ hx207_5)).trans hx207_5
          have HR207_2:=Aside0.mk hi207_2
          have HC207_2:=Aside0.mk hl207_2
          clear hi207_2 hl207_2
          replace p207:=eq_true p207
          replace q207:=eq_true q207
          refine start_ (n:=12) (S:=fun w' => w'.cell? ⟨gb204,0,none⟩=some (.int .i64 a0_0)∧w'.cell? ⟨gb204,1,none⟩=some (.int .i64 a0_1)∧w'.cell? ⟨gb204,2,none⟩=some (.slice (some ad206) l0_2.length c0_2)∧w'.cell? ⟨gb205,0,none⟩=some (.int .i64 a1_0)∧w'.cell? ⟨gb205,1,none⟩=some (.int .i64 a1_1)∧w'.cell? ⟨gb205,2,none⟩=some (.slice (some ad207) l1_2.length c1_2)∧w'.cell? (ad206.add ((x5_2).toNat * 6))=some (.int .i64 ((rd_T46 l0_2 x5_2).f0))∧w'.cell? ⟨(ad206.add ((x5_2).toNat * 6)).block,(ad206.add ((x5_2).toNat * 6)).off + 1,none⟩=some (.int .i64 ((rd_T46 l0_2 x5_2).f1))∧w'.cell? ⟨(ad206.add ((x5_2).toNat * 6)).block,(ad206.add ((x5_2).toNat * 6)).off + 2,none⟩=some (.slice A206_2 ((rd_T46 l0_2 x5_2).f2).length c206_2)∧w'.cell? ⟨(ad206.add ((x5_2).toNat * 6)).block,(ad206.add ((x5_2).toNat * 6)).off + 3,none⟩=some (.int .i64 ((rd_T46 l0_2 x5_2).f3))∧w'.cell? ⟨(ad206.add ((x5_2).toNat * 6)).block,(ad206.add ((x5_2).toNat * 6)).off + 4,none⟩=some (.int .i64 ((rd_T46 l0_2 x5_2).f4))∧w'.cell? ⟨(ad206.add ((x5_2).toNat * 6)).block,(ad206.add ((x5_2).toNat * 6)).off + 5,none⟩=some (.int .i64 ((rd_T46 l0_2 x5_2).f5))∧w'.cell? (ad207.add ((x5_2).toNat * 6))=some (.int .i64 ((rd_T46 l1_2 x5_2).f0))∧w'.cell? ⟨(ad207.add ((x5_2).toNat * 6)).block,(ad207.add ((x5_2).toNat * 6)).off + 1,none⟩=some (.int .i64 ((rd_T46 l1_2 x5_2).f1))∧w'.cell? ⟨(ad207.add ((x5_2).toNat * 6)).block,(ad207.add ((x5_2).toNat * 6)).off + 2,none⟩=some (.slice A207_2 ((rd_T46 l1_2 x5_2).f2).length c207_2)∧w'.cell? ⟨(ad207.add ((x5_2).toNat * 6)).block,(ad207.add ((x5_2).toNat * 6)).off + 3,none⟩=some (.int .i64 ((rd_T46 l1_2 x5_2).f3))∧w'.cell? ⟨(ad207.add ((x5_2).toNat * 6)).block,(ad207.add ((x5_2).toNat * 6)).off + 4,none⟩=some (.int .i64 ((rd_T46 l1_2 x5_2).f4))∧w'.cell? ⟨(ad207.add ((x5_2).toNat * 6)).block,(ad207.add ((x5_2).toNat * 6)).off + 5,none⟩=some (.int .i64 ((rd_T46 l1_2 x5_2).f5))) (ds:=[]) #[false,false,false,false,false,false,false,false,false,false,false,false] (by kernel_rfl) rfl rfl ⟨(blk_cell BK204.out 0).trans rfl,(blk_cell BK204.out 1).trans rfl,(blk_cell BK204.out 2).trans rfl,(blk_cell BK205.out 0).trans rfl,(blk_cell BK205.out 1).trans rfl,(blk_cell BK205.out 2).trans rfl,((HB.out.cell (World.block_lt_of_cell? w _ hw206_0)).trans hw206_0),((HB.out.cell (World.block_lt_of_cell? w _ hw206_1)).trans hw206_1),((HB.out.cell (World.block_lt_of_cell? w _ hw206_2)).trans hw206_2),((HB.out.cell (World.block_lt_of_cell? w _ hw206_3)).trans hw206_3),((HB.out.cell (World.block_lt_of_cell? w _ hw206_4)).trans hw206_4),((HB.out.cell (World.block_lt_of_cell? w _ hw206_5)).trans hw206_5),((HB.out.cell (World.block_lt_of_cell? w _ hw207_0)).trans hw207_0),((HB.out.cell (World.block_lt_of_cell? w _ hw207_1)).trans hw207_1),((HB.out.cell (World.block_lt_of_cell? w _ hw207_2)).trans hw207_2),((HB.out.cell (World.block_lt_of_cell? w _ hw207_3)).trans hw207_3),((HB.out.cell (World.block_lt_of_cell? w _ hw207_4)).trans hw207_4),((HB.out.cell (World.block_lt_of_cell? w _ hw207_5)).trans hw207_5)⟩ (fun hHeld => ?_);refine with_tabW phasorref08_Same.tab6 phasorref08_Same.bits6 (fun HT_ HW_ => ?_)
          generalize wr.drew=w29 at BK204 BK205 HB HR206_2 HR207_2 hx206_0 hx206_1 hx206_2 hx206_3 hx206_4 hx206_5 hx207_0 hx207_1 hx207_2 hx207_3 hx207_4 hx207_5 hHeld ⊢
          refine pure_ (i:=0) (N:=some 34) (v:=?_) (a':=?_) #[true,false,false,false,false,false,false,false,false,false,false,false] rfl rfl (any_of HT_.out (by kernel_rfl)) (fun _ _ _ h => h) (Or.inl ⟨by rfl,?_⟩) ?_ ?_
          rotate_left
          ·intro w'
           go_simp
           with_reducible rfl
          rotate_left
          ·simp only [Act.put,List.setIfInBounds_toArray,List.set_cons_zero,List.set_cons_succ,i64_w,i32_w]
           rfl
          refine pure_ (i:=2) (N:=some 36) (v:=?_) (a':=?_) #[true,false,true,false,false,false,false,false,false,false,false,false] rfl rfl (any_of HT_.out (by kernel_rfl)) (fun _ _ _ h => h) (Or.inl ⟨by rfl,?_⟩) ?_ ?_
          rotate_left
          ·intro w'
           go_simp
           with_reducible rfl
          rotate_left
          ·simp only [Act.put,List.setIfInBounds_toArray,List.set_cons_zero,List.set_cons_succ,i64_w,i32_w]
           rfl
          refine pure_ (i:=5) (N:=some 39) (v:=?_) (a':=?_) #[true,false,true,false,false,true,false,false,false,false,false,false] rfl rfl (any_of HT_.out (by kernel_rfl)) (fun _ _ _ h => h) (Or.inl ⟨by rfl,?_⟩) ?_ ?_
          rotate_left
          ·intro w'
           go_simp
           with_reducible rfl
          rotate_left
          ·simp only [Act.put,List.setIfInBounds_toArray,List.set_cons_zero,List.set_cons_succ,i64_w,i32_w]
           rfl
          refine pure_ (i:=7) (N:=some 41) (v:=?_) (a':=?_) #[true,false,true,false,false,true,false,true,false,false,false,false] rfl rfl (any_of HT_.out (by kernel_rfl)) (fun _ _ _ h => h) (Or.inl ⟨by rfl,?_⟩) ?_ ?_
          rotate_left
          ·intro w'
           go_simp
           with_reducible rfl
          rotate_left
          ·simp only [Act.put,List.setIfInBounds_toArray,List.set_cons_zero,List.set_cons_succ,i64_w,i32_w]
           rfl
          refine take_ (i:=1) (N:=some 35) (v:=?_) (a':=?_) #[true,true,true,false,false,true,false,true,false,false,false,false] rfl rfl (take_ofW HT_.out HW_.out (by kernel_rfl)) (fun _ _ _ h => h) (Or.inl ⟨by rfl,?_⟩) hHeld ?_ ?_
          rotate_left
          ·rintro w' ⟨s0,s1,s2,s3,s4,s5,s6,s7,s8,s9,s10,s11,s12,s13,s14,s15,s16,s17⟩
           go_simp
           with_reducible rfl
          rotate_left
          ·simp only [Act.put,List.setIfInBounds_toArray,List.set_cons_zero,List.set_cons_succ,i64_w,i32_w]
           rfl
          refine pure_ (i:=3) (N:=some 37) (v:=?_) (a':=?_) #[true,true,true,true,false,true,false,true,false,false,false,false] rfl rfl (any_of HT_.out (by kernel_rfl)) (fun _ _ _ h => h) (Or.inl ⟨by rfl,?_⟩) ?_ ?_
          rotate_left
          ·intro w'
           go_simp
           with_reducible rfl
          rotate_left
          ·simp only [Act.put,List.setIfInBounds_toArray,List.set_cons_zero,List.set_cons_succ,i64_w,i32_w]
           rfl
          refine take_ (i:=4) (N:=some 38) (v:=?_) (a':=?_) #[true,true,true,true,true,true,false,true,false,false,false,false] rfl rfl (take_ofW HT_.out HW_.out (by kernel_rfl)) (fun _ _ _ h => h) (Or.inl ⟨by rfl,?_⟩) hHeld ?_ ?_
          rotate_left
          ·rintro w' ⟨s0,s1,s2,s3,s4,s5,s6,s7,s8,s9,s10,s11,s12,s13,s14,s15,s16,s17⟩
           go_simp
           with_reducible rfl
          rotate_left
          ·simp only [Act.put,List.setIfInBounds_toArray,List.set_cons_zero,List.set_cons_succ,i64_w,i32_w]
           rfl
          refine take_ (i:=6) (N:=some 40) (v:=?_) (a':=?_) #[true,true,true,true,true,true,true,true,false,false,false,false] rfl rfl (take_ofW HT_.out HW_.out (by kernel_rfl)) (fun _ _ _ h => h) (Or.inl ⟨by rfl,?_⟩) hHeld ?_ ?_
          rotate_left
          ·rintro w' ⟨s0,s1,s2,s3,s4,s5,s6,s7,s8,s9,s10,s11,s12,s13,s14,s15,s16,s17⟩
           go_simp
           with_reducible rfl
          rotate_left
          ·simp only [Act.put,List.setIfInBounds_toArray,List.set_cons_zero,List.set_cons_succ,i64_w,i32_w]
           rfl
          refine pure_ (i:=8) (N:=some 42) (v:=?_) (a':=?_) #[true,true,true,true,true,true,true,true,true,false,false,false] rfl rfl (any_of HT_.out (by kernel_rfl)) (fun _ _ _ h => h) (Or.inl ⟨by rfl,?_⟩) ?_ ?_
          rotate_left
          ·intro w'
           go_simp
           with_reducible rfl
          rotate_left
          ·simp only [Act.put,List.setIfInBounds_toArray,List.set_cons_zero,List.set_cons_succ,i64_w,i32_w]
           rfl
          refine take_ (i:=9) (N:=some 43) (v:=?_) (a':=?_) #[true,true,true,true,true,true,true,true,true,true,false,false] rfl rfl (take_ofW HT_.out HW_.out (by kernel_rfl)) (fun _ _ _ h => h) (Or.inl ⟨by rfl,?_⟩) hHeld ?_ ?_
          rotate_left
          ·rintro w' ⟨s0,s1,s2,s3,s4,s5,s6,s7,s8,s9,s10,s11,s12,s13,s14,s15,s16,s17⟩
           go_simp
           with_reducible rfl
          rotate_left
          ·simp only [Act.put,List.setIfInBounds_toArray,List.set_cons_zero,List.set_cons_succ,i64_w,i32_w]
           rfl
          refine one_ (i:=10) (N:=some 44) #[true,true,true,true,true,true,true,true,true,true,true,false] rfl rfl (one_of HT_.out (by kernel_rfl)) (by decide) (fun K hK => ?_)
          refine goes_ Try.func58 (by kernel_rfl) rfl #[.agg #[.int .i64 ((rd_T46 l0_2 x5_2).f0),.int .i64 ((rd_T46 l0_2 x5_2).f1),.slice A206_2 ((rd_T46 l0_2 x5_2).f2).length c206_2,.int .i64 ((rd_T46 l0_2 x5_2).f3),.int .i64 ((rd_T46 l0_2 x5_2).f4),.int .i64 ((rd_T46 l0_2 x5_2).f5)],.agg #[.int .i64 ((rd_T46 l1_2 x5_2).f0),.int .i64 ((rd_T46 l1_2 x5_2).f1),.slice A207_2 ((rd_T46 l1_2 x5_2).f2).length c207_2,.int .i64 ((rd_T46 l1_2 x5_2).f3),.int .i64 ((rd_T46 l1_2 x5_2).f4),.int .i64 ((rd_T46 l1_2 x5_2).f5)]] (by rfl) rfl rfl (by (try simp only [List.map_toArray,List.map_cons,List.map_nil]);first|done|rfl|(simp only [List.length_drop,List.length_take];rfl)) ?_
          with_reducible refine (phasorref08_SameOp.calls k2 ((rd_T46 l0_2 x5_2).f0) ((rd_T46 l0_2 x5_2).f1) _ _ ((rd_T46 l0_2 x5_2).f2) ((rd_T46 l0_2 x5_2).f3) ((rd_T46 l0_2 x5_2).f4) ((rd_T46 l0_2 x5_2).f5) ((rd_T46 l1_2 x5_2).f0) ((rd_T46 l1_2 x5_2).f1) _ _ ((rd_T46 l1_2 x5_2).f2) ((rd_T46 l1_2 x5_2).f3) ((rd_T46 l1_2 x5_2).f4) ((rd_T46 l1_2 x5_2).f5) false _ ?side1 ?side2 ?side3 ?side4 A21.out).mono ?_
          (case side1 => repeat (first|exact (Kd.C_below HR206_2.out HB.out)|(with_reducible refine Kd.C_alloc ?_ _)|(with_reducible refine Kd.C_drewN ?_ _)|(with_reducible refine Kd.C_drew ?_)))
          (case side2 => exact HC206_2.out)
          (case side3 => repeat (first|exact (Kd.C_below HR207_2.out HB.out)|(with_reducible refine Kd.C_alloc ?_ _)|(with_reducible refine Kd.C_drewN ?_ _)|(with_reducible refine Kd.C_drew ?_)))
          (case side4 => exact HC207_2.out)
          rintro e w30 ⟨rfl,hb⟩
          refine ⟨_,rfl,?_⟩
          have n0_:=Aside0.mk (blk_below (g:=gb204) (o:=.cells #[.int .i64 a0_0,.int .i64 a0_1,.slice (some ad206) l0_2.length c0_2] 24 (0,0)) (by (with_reducible repeat (first|refine blk_drewN ?_ _|refine blk_drew ?_|refine blk_alloc ?_ _));exact BK204.out) hb)
          have n1_:=Aside0.mk (blk_below (g:=gb205) (o:=.cells #[.int .i64 a1_0,.int .i64 a1_1,.slice (some ad207) l1_2.length c1_2] 24 (0,0)) (by (with_reducible repeat (first|refine blk_drewN ?_ _|refine blk_drew ?_|refine blk_alloc ?_ _));exact BK205.out) hb)
          have n2_:=Aside0.mk (below_step (by repeat (first|(with_reducible first|exact HB.out|apply below_alloc|apply pw_below_drewN|apply below_drew1|refine below_set ?_ GE204.out|refine below_set ?_ GE205.out)|exact HB.out)) hb)
          clear BK204
          clear BK205
          clear HB
          have BK204:=n0_
          have BK205:=n1_
          have HB:=n2_
          clear n0_ n1_ n2_
          (try clear hb)
          (try clear hb2)
          (try clear hk)
          (try clear hi)
          refine hK.out _ _ ⟨(blk_cell BK204.out 0).trans rfl,(blk_cell BK204.out 1).trans rfl,(blk_cell BK204.out 2).trans rfl,(blk_cell BK205.out 0).trans rfl,(blk_cell BK205.out 1).trans rfl,(blk_cell BK205.out 2).trans rfl,((HB.out.cell (World.block_lt_of_cell? w _ hw206_0)).trans hw206_0),((HB.out.cell (World.block_lt_of_cell? w _ hw206_1)).trans hw206_1),((HB.out.cell (World.block_lt_of_cell? w _ hw206_2)).trans hw206_2),((HB.out.cell (World.block_lt_of_cell? w _ hw206_3)).trans hw206_3),((HB.out.cell (World.block_lt_of_cell? w _ hw206_4)).trans hw206_4),((HB.out.cell (World.block_lt_of_cell? w _ hw206_5)).trans hw206_5),((HB.out.cell (World.block_lt_of_cell? w _ hw207_0)).trans hw207_0),((HB.out.cell (World.block_lt_of_cell? w _ hw207_1)).trans hw207_1),((HB.out.cell (World.block_lt_of_cell? w _ hw207_2)).trans hw207_2),((HB.out.cell (World.block_lt_of_cell? w _ hw207_3)).trans hw207_3),((HB.out.cell (World.block_lt_of_cell? w _ hw207_4)).trans hw207_4),((HB.out.cell (World.block_lt_of_cell? w _ hw207_5)).trans hw207_5)⟩ (fun hHeld => ?_)
          clear hK K
          refine norm_ (a':=?_) ?_ ?_
          rotate_left
          ·show Act.put _ (some 44) _=_
           simp only [Act.put,List.setIfInBounds_toArray,List.set_cons_zero,List.set_cons_succ,i64_w,i32_w]
           rfl
          refine pure_ (i:=11) (N:=some 45) (v:=?_) (a':=?_) #[true,true,true,true,true,true,true,true,true,true,true,true] rfl rfl (any_of HT_.out (by kernel_rfl)) (fun _ _ _ h => h) (Or.inl ⟨by rfl,?_⟩) ?_ ?_
          rotate_left
          ·intro w'
           go_simp
           with_reducible rfl
          rotate_left
          ·simp only [Act.put,List.setIfInBounds_toArray,List.set_cons_zero,List.set_cons_succ,i64_w,i32_w]
           rfl
          refine done_ (done_of HT_.out (by kernel_rfl)) ?_
          try go_wp2
          go_ret
          exact ⟨by first|rfl|(simp [errW_none,errW_some] <;> rfl)|(simp [*,errW_none,errW_some] <;> rfl),by repeat (first|(with_reducible first|exact HB.out|apply below_alloc|apply pw_below_drewN|apply below_drew1|refine below_set ?_ GE204.out|refine below_set ?_ GE205.out)|exact HB.out)⟩
        ·rw [if_neg c20] at H
         exact absurd H (by simp)
       ·rw [if_neg c19] at H
        exact absurd H (by simp)
      ·rw [if_neg c18] at H
       have c18b0 : decide (x5_2 < (l0_2.length : Int))=false:=decide_eq_false c18
       clear c18
       obtain rfl:=Option.some.inj H
       have hnb31:=NB204_205.out
       have hnc31:=NB205_204.out
       have hcz32_0 : wr.cell? ⟨gb204,0,none⟩=some (.int .i64 a0_0):=(blk_cell BK204.out 0).trans rfl
       have hcz32_1 : wr.cell? ⟨gb204,1,none⟩=some (.int .i64 a0_1):=(blk_cell BK204.out 1).trans rfl
       have hcz32_2 : wr.cell? ⟨gb204,2,none⟩=some (.slice A0_2 l0_2.length c0_2):=(blk_cell BK204.out 2).trans rfl
       have hfz32_0:=blk_frozen BK204.out 0
       have hfz32_1:=blk_frozen BK204.out 1
       have hfz32_2:=blk_frozen BK204.out 2
       go_wp2
       go_ret
       exact ⟨by first|rfl|(simp [errW_none,errW_some] <;> rfl)|(simp [*,errW_none,errW_some] <;> rfl),by repeat (first|(with_reducible first|exact HB.out|apply below_alloc|apply pw_below_drewN|apply below_drew1|refine below_set ?_ GE204.out|refine below_set ?_ GE205.out)|exact HB.out)⟩
end Go.Proofs.Ytbelnopbggkdfaa.Q
end

section
namespace Go.Proofs.Ytbelnopbggkdfaa.Q
open Go.RowKit Go.Proofs.YtbelnopbggkdfaaW.PrintWords Go.Proofs.YtbelnopbggkdfaaW.PrintLast Go.Proofs.YtbelnopbggkdfaaW.PrintMore
theorem rcopy_l0 {q b : Int} {l : List Opn} (hf : ∀ o ∈ l,o.f2.length < 17592186044416) (hn : l.length < 2199023255552) :
    ∀ (d i : Nat),l.length - i=d→i≤l.length→Evt fun k => phasorref08_Copy.l0 k (i : Int) q b l q b (l.take i)=some (q,b,l)
  | 0,i,hd,hi => by
    refine (Evt.all (p:=fun _ => True) fun _ => trivial).succ fun k _ => ?_
    unfold phasorref08_Copy.l0
    rw [if_neg (by omega),List.take_of_length_le (by omega)]
  | d + 1,i,hd,hi => by
    have hil : i < l.length:=by omega
    refine (rcopy_l0 (q:=q) (b:=b) hf hn d (i + 1) (by omega) (by omega)).succ fun k hk => ?_
    have h2:=hf _ (List.getElem_mem hil)
    unfold phasorref08_Copy.l0
    rw [if_pos (by omega),if_pos (by omega),rdT_nat hil,if_pos (by simpa using h2),if_pos (by rw [List.length_take];omega),w64 (by omega) (by omega),show (i : Int) + 1=((i + 1 : Nat) : Int) by omega]
    have e : l.take i ++ [(⟨l[i].f0,l[i].f1,([] : List Int) ++ l[i].f2,l[i].f3,l[i].f4,l[i].f5⟩ : Opn)]=l.take (i + 1):=by
      rw [List.take_add_one,List.getElem?_eq_getElem hil,List.nil_append];rfl
    rw [e,hk]
theorem rcopy_is {q b : Int} {l : List Opn} (hf : ∀ o ∈ l,o.f2.length < 17592186044416) (hn : l.length < 2199023255552) : Evt fun k => phasorref08_Copy.f k q b l=some (q,b,l) :=
  (rcopy_l0 hf hn l.length 0 (by omega) (by omega)).mono fun k hk => by simpa [phasorref08_Copy.f] using hk
theorem ints8_l0 {l : List Int} (hn : l.length≤4611686018427387904) : ∀ (d i : Nat),l.length - i=d→i≤l.length→Evt fun k => phasorref08_ints.l0 k l l (i : Int)=some true
  | 0,i,hd,hi => by
    refine (Evt.all (p:=fun _ => True) fun _ => trivial).succ fun k _ => ?_
    unfold phasorref08_ints.l0
    rw [if_neg (by omega)]
  | d + 1,i,hd,hi => by
    refine (ints8_l0 hn d (i + 1) (by omega) (by omega)).succ fun k hk => ?_
    unfold phasorref08_ints.l0
    rw [if_pos (by omega),if_pos (by omega),if_pos (by omega),if_pos rfl,w64 (by omega) (by omega),show (i : Int) + 1=((i + 1 : Nat) : Int) by omega,hk]
theorem ints8_is {l : List Int} (hn : l.length≤4611686018427387904) : Evt fun k => phasorref08_ints.f k l l=some true :=
  (ints8_l0 hn l.length 0 (by omega) (by omega)).mono fun k hk => by simpa [phasorref08_ints.f] using hk
theorem same_l0 {q b : Int} {l : List Opn} (hf : ∀ o ∈ l,o.f2.length < 17592186044416) (hn : l.length < 2199023255552) :
    ∀ (d i : Nat),l.length - i=d→i≤l.length→Evt fun k => phasorref08_Same.l0 k (i : Int) q b l q b l=some true
  | 0,i,hd,hi => by
    refine (Evt.all (p:=fun _ => True) fun _ => trivial).succ fun k _ => ?_
    unfold phasorref08_Same.l0
    rw [if_neg (by omega)]
  | d + 1,i,hd,hi => by
    have hil : i < l.length:=by omega
    have h2:=hf _ (List.getElem_mem hil)
    refine ((same_l0 (q:=q) (b:=b) hf hn d (i + 1) (by omega) (by omega)).and (ints8_is (l:=l[i].f2) (by omega))).succ fun k ⟨hk,hk2⟩ => ?_
    unfold phasorref08_Same.l0 phasorref08_SameOp.f
    rw [if_pos (by omega),if_pos (by omega),if_pos (by omega),rdT_nat hil,if_pos rfl,if_pos rfl,if_pos rfl,if_pos rfl,if_pos rfl,hk2]
    simp only [Option.bind_some]
    rw [if_pos trivial,w64 (by omega) (by omega),show (i : Int) + 1=((i + 1 : Nat) : Int) by omega,hk]
theorem same_is {q b : Int} {l : List Opn} (hf : ∀ o ∈ l,o.f2.length < 17592186044416) (hn : l.length < 2199023255552) : Evt fun k => phasorref08_Same.f k q b l q b l=some true :=
  (same_l0 (q:=q) (b:=b) hf hn l.length 0 (by omega) (by omega)).succ fun k hk => by simpa [phasorref08_Same.f,phasorref08_Same.j0] using hk
end Go.Proofs.Ytbelnopbggkdfaa.Q
end

section
namespace Go.Proofs.Ytbelnopbggkdfaa.Q
open Go.RowKit Go.Proofs.YtbelnopbggkdfaaW.PrintWords Go.Proofs.YtbelnopbggkdfaaW.PrintLast Go.Proofs.YtbelnopbggkdfaaW.PrintMore
attribute [local go_sem] max2_int min2_int max_two min_two max_three min_three max_four min_four   -- for this text's walks alone
set_option linter.unusedVariables false
set_option linter.unusedSimpArgs false
def phasorref08_Unitary.l0 : Nat→Int→Int→Int→List (S46)→Option (Bool)
 | 0,_,_,_,_ => none
 | k + 1,x3,x169000,x169001,x169002 => if x3 < (x169002.length : Int) then (if 0≤x3 then (if ((rd_T46 x169002 x3).f0)=4 then (phasorref08_Unitary.l0 k (wrap64 (x3 + 1)) x169000 x169001 x169002) else (if ((rd_T46 x169002 x3).f0)=1 then (if ((rd_T46 x169002 x3).f4)=(-1) then (phasorref08_Unitary.l0 k (wrap64 (x3 + 1)) x169000 x169001 x169002) else (some false)) else (some false))) else (none)) else (some true)
def phasorref08_Unitary.f (k : Nat) (a0_0 : Int) (a0_1 : Int) (l0_2 : List (S46)) : Option (Bool):=phasorref08_Unitary.l0 k 0 a0_0 a0_1 l0_2
set_option maxHeartbeats 8000000 in
set_option maxRecDepth 100000 in
theorem phasorref08_Unitary.calls (k : Nat) (a0_0 : Int) (a0_1 : Int) (A0_2 : Option Addr) (c0_2 : Nat) (l0_2 : List (S46)) (r : Bool) (w : World) (hr0_2 : Kd.C k46 w A0_2 l0_2.length l0_2) (hc0_2 : l0_2.length≤c0_2) (h : phasorref08_Unitary.f k a0_0 a0_1 l0_2=some r) :
  Calls Try.prog 46 #[.agg #[.int .i64 a0_0,.int .i64 a0_1,.slice A0_2 l0_2.length c0_2]] w fun e w' => e=.returned (.bool r)∧Below w.heap.size w w':=by
 have hu24:=Try.underlying24
 have hu46:=Try.underlying46
 have HR0_2:=Aside0.mk hr0_2
 have HC0_2:=Aside0.mk hc0_2
 clear hr0_2 hc0_2
 have HB:=Aside0.mk (Below.refl w.heap.size w)
 have H : (phasorref08_Unitary.l0 k 0 a0_0 a0_1 l0_2)=some r:=h
 clear h
 have H':=Aside0.mk H
 clear H
 go_enter Try.func46,Try.ntmps46
 go_wp2_with (first|((with_reducible refine gate_dst (N:=1) rfl ?_);refine box_event ?hg (N:=1) ?hd (cs:=#[.int .i64 a0_0,.int .i64 a0_1,.slice A0_2 l0_2.length c0_2]) (t:=24) ?hr ?_;(case hd => rfl);(case hg => rfl);(case hr => first|(go_simp;done)|(go_simp;rfl));intro gb168 hg w2 hbox hb;have n0_:=Aside0.mk (below_step (by repeat (first|(with_reducible first|exact HB.out|apply below_alloc|apply pw_below_drewN|apply below_drew1)|exact HB.out)) hb);have n1_:=Aside0.mk (hbox);have n2_:=Aside0.mk ((by rw [hg];exact (below_size (by repeat (first|(with_reducible first|exact HB.out|apply below_alloc|apply pw_below_drewN|apply below_drew1)|exact HB.out))) : w.heap.size≤gb168));have n3_:=Aside0.mk ((by rw [hg];exact (below_size (by repeat (first|(with_reducible first|exact HB.out|apply below_alloc|apply pw_below_drewN|apply below_drew1)|exact HB.out))) : w.heap.size≤gb168));clear HB;have HB:=n0_;have BK168:=n1_;have GW168:=n2_;have GE168:=n3_;clear n0_ n1_ n2_ n3_;clear hb hbox hg))
 go_loopg [3] k (fun kq v3 w' => ∃ (x3_1 : Int),v3=.int .i64 x3_1∧Aside0 (phasorref08_Unitary.l0 kq x3_1 a0_0 a0_1 l0_2=some r)∧Aside0 (kq≤k)∧Aside0 (w'.heap[gb168]?=some (.cells #[.int .i64 a0_0,.int .i64 a0_1,(.slice A0_2 l0_2.length c0_2)] 24 (0,0)))∧Aside0 (Below w.heap.size w w'))
 case atStart => exact ⟨(0),(by first|rfl|(simp;done)|(simp [*];done)),H',⟨Nat.le_refl _⟩,⟨by (with_reducible repeat (first|refine blk_drewN ?_ _|refine blk_drew ?_|refine blk_alloc ?_ _));exact BK168.out⟩,⟨by repeat (first|(with_reducible first|exact HB.out|apply below_alloc|apply pw_below_drewN|apply below_drew1|refine below_set ?_ GE168.out)|exact HB.out)⟩⟩
 case round =>
  clear H'
  try clear p2
  obtain ⟨x3_1,rfl,HA,HK1,BK168,HB⟩:=hrel
  cases gk with
  | zero => exact absurd HA.out (by simp [phasorref08_Unitary.l0])
  | succ k1 =>
   have H:=HA.out
   clear HA
   simp only [phasorref08_Unitary.l0] at H
   by_cases c3 : x3_1 < (l0_2.length : Int)
   ·rw [if_pos c3] at H
    have c3b0 : decide (x3_1 < (l0_2.length : Int))=true:=decide_eq_true c3
    clear c3
    by_cases c4 : 0≤x3_1
    ·rw [if_pos c4] at H
     have c4b0 : decide (0≤x3_1)=true:=decide_eq_true c4
     clear c4
     by_cases c5 : ((rd_T46 l0_2 x3_1).f0)=4
     ·rw [if_pos c5] at H
      have c5b0 : (((rd_T46 l0_2 x3_1).f0) == 4)=true:=beq_iff_eq.mpr c5
      have c5b1 : (((rd_T46 l0_2 x3_1).f0) != 4)=false:=bne_eq_false_iff_eq.mpr c5
      clear c5
      have H':=Aside0.mk H
      clear H
      have hcz6_0 : wr.cell? ⟨gb168,0,none⟩=some (.int .i64 a0_0):=(blk_cell BK168.out 0).trans rfl
      have hcz6_1 : wr.cell? ⟨gb168,1,none⟩=some (.int .i64 a0_1):=(blk_cell BK168.out 1).trans rfl
      have hcz6_2 : wr.cell? ⟨gb168,2,none⟩=some (.slice A0_2 l0_2.length c0_2):=(blk_cell BK168.out 2).trans rfl
      have hfz6_0:=blk_frozen BK168.out 0
      have hfz6_1:=blk_frozen BK168.out 1
      have hfz6_2:=blk_frozen BK168.out 2
      have p169 : 0≤(x3_1 : Int):=of_decide_eq_true (by first|(with_reducible assumption)|assumption)
      have q169 : x3_1 < (l0_2.length : Int):=of_decide_eq_true (by first|(with_reducible assumption)|assumption)
      obtain ⟨ad169,A169_2,c169_2,e169,hx169_0,hx169_1,hx169_2,hx169_3,hx169_4,hx169_5,hl169_2,hi169_2⟩:=at_T46 HR0_2.out x3_1 p169 q169
      cases e169
      replace hx169_0:=(HB.out.cell (World.block_lt_of_cell? w _ hx169_0)).trans hx169_0
      replace hx169_1:=(HB.out.cell (World.block_lt_of_cell? w _ hx169_1)).trans hx169_1
      replace hx169_2:=(HB.out.cell (World.block_lt_of_cell? w _ hx169_2)).trans hx169_2
      replace hx169_3:=(HB.out.cell (World.block_lt_of_cell? w _ hx169_3)).trans hx169_3
      replace hx169_4:=(HB.out.cell (World.block_lt_of_cell? w _ hx169_4)).trans hx169_4
      replace hx169_5:=(HB.out.cell (World.block_lt_of_cell? w _ hx169_5)).trans hx169_5
      have HR169_2:=Aside0.mk hi169_2
      have HC169_2:=Aside0.mk hl169_2
      clear hi169_2 hl169_2
      replace p169:=eq_true p169
      replace q169:=eq_true q169
      go_wp2_with (first|((with_reducible refine gate_dst (N:=4) rfl ?_);refine box_event ?hg (N:=4) ?hd (cs:=#[.int .i64 0,.int .i64 0,.slice none 0 0,.int .i64 0,.int .i64 0,.int .i64 0]) (t:=46) ?hr ?_;(case hd => rfl);(case hg => rfl);(case hr => first|(go_simp;done)|(go_simp;rfl));intro gb170 hg w7 hbox hb;have n0_:=Aside0.mk (blk_below (g:=gb168) (o:=.cells #[.int .i64 a0_0,.int .i64 a0_1,.slice (some ad169) l0_2.length c0_2] 24 (0,0)) (by (with_reducible repeat (first|refine blk_drewN ?_ _|refine blk_drew ?_|refine blk_alloc ?_ _));exact BK168.out) hb);have n1_:=Aside0.mk (below_step (by repeat (first|(with_reducible first|exact HB.out|apply below_alloc|apply pw_below_drewN|apply below_drew1|refine below_set ?_ GE168.out)|exact HB.out)) hb);have n2_:=Aside0.mk (hbox);have n3_:=Aside0.mk ((by rw [hg];exact (below_size (by repeat (first|(with_reducible first|exact HB.out|apply below_alloc|apply pw_below_drewN|apply below_drew1|refine below_set ?_ GE168.out)|exact HB.out))) : w.heap.size≤gb170));have n4_:=Aside0.mk ((by rw [hg];exact (below_size (by repeat (first|(with_reducible first|exact HB.out|apply below_alloc|apply pw_below_drewN|apply below_drew1|refine below_set ?_ GE168.out)|exact HB.out))) : w.heap.size≤gb170));have n5_:=Aside0.mk ((by rw [hg];exact Nat.ne_of_lt (blk_lt (g:=gb168) (o:=.cells #[.int .i64 a0_0,.int .i64 a0_1,.slice (some ad169) l0_2.length c0_2] 24 (0,0)) (by (with_reducible repeat (first|refine blk_drewN ?_ _|refine blk_drew ?_|refine blk_alloc ?_ _));exact BK168.out)) : gb168≠gb170));have n6_:=Aside0.mk ((by rw [hg];exact Nat.ne_of_gt (blk_lt (g:=gb168) (o:=.cells #[.int .i64 a0_0,.int .i64 a0_1,.slice (some ad169) l0_2.length c0_2] 24 (0,0)) (by (with_reducible repeat (first|refine blk_drewN ?_ _|refine blk_drew ?_|refine blk_alloc ?_ _));exact BK168.out)) : gb170≠gb168));clear BK168;clear HB;have BK168:=n0_;have HB:=n1_;have BK170:=n2_;have GW170:=n3_;have GE170:=n4_;have NB168_170:=n5_;have NB170_168:=n6_;clear n0_ n1_ n2_ n3_ n4_ n5_ n6_;clear hb hbox hg;have hnb8:=NB170_168.out;have hnc8:=NB168_170.out;have hcz9_0 : w7.cell? ⟨gb170,0,none⟩=some (.int .i64 0):=(blk_cell BK170.out 0).trans rfl;have hcz9_1 : w7.cell? ⟨gb170,1,none⟩=some (.int .i64 0):=(blk_cell BK170.out 1).trans rfl;have hcz9_2 : w7.cell? ⟨gb170,2,none⟩=some (.slice none 0 0):=(blk_cell BK170.out 2).trans rfl;have hcz9_3 : w7.cell? ⟨gb170,3,none⟩=some (.int .i64 0):=(blk_cell BK170.out 3).trans rfl;have hcz9_4 : w7.cell? ⟨gb170,4,none⟩=some (.int .i64 0):=(blk_cell BK170.out 4).trans rfl;have hcz9_5 : w7.cell? ⟨gb170,5,none⟩=some (.int .i64 0):=(blk_cell BK170.out 5).trans rfl;have hfz9_0:=blk_frozen BK170.out 0;have hfz9_1:=blk_frozen BK170.out 1;have hfz9_2:=blk_frozen BK170.out 2;have hfz9_3:=blk_frozen BK170.out 3;have hfz9_4:=blk_frozen BK170.out 4;have hfz9_5:=blk_frozen BK170.out 5))
      go_roundg k1
      case measure => have:=HK1.out;omega
      case rel => exact ⟨(wrap64 (x3_1 + 1)),(by first|rfl|(simp;done)|(simp [*];done)),H',⟨by have:=HK1.out;omega⟩,⟨by (with_reducible repeat (first|refine blk_drewN ?_ _|refine blk_drew ?_|refine blk_alloc ?_ _));refine blk_far ?_ NB168_170.out _;(with_reducible repeat (first|refine blk_drewN ?_ _|refine blk_drew ?_|refine blk_alloc ?_ _));refine blk_far ?_ NB168_170.out _;(with_reducible repeat (first|refine blk_drewN ?_ _|refine blk_drew ?_|refine blk_alloc ?_ _));refine blk_far ?_ NB168_170.out _;(with_reducible repeat (first|refine blk_drewN ?_ _|refine blk_drew ?_|refine blk_alloc ?_ _));refine blk_far ?_ NB168_170.out _;(with_reducible repeat (first|refine blk_drewN ?_ _|refine blk_drew ?_|refine blk_alloc ?_ _));refine blk_far ?_ NB168_170.out _;(with_reducible repeat (first|refine blk_drewN ?_ _|refine blk_drew ?_|refine blk_alloc ?_ _));refine blk_far ?_ NB168_170.out _;(with_reducible repeat (first|refine blk_drewN ?_ _|refine blk_drew ?_|refine blk_alloc ?_ _));exact BK168.out⟩,⟨by repeat (first|(with_reducible first|exact HB.out|apply below_alloc|apply pw_below_drewN|apply below_drew1|refine below_set ?_ GE168.out|refine below_set ?_ GE170.out)|exact HB.out)⟩⟩
     ·rw [if_neg c5] at H
      have c5b0 : (((rd_T46 l0_2 x3_1).f0) == 4)=false:=beq_eq_false_iff_ne.mpr c5
      have c5b1 : (((rd_T46 l0_2 x3_1).f0) != 4)=true:=bne_iff_ne.mpr c5
      by_cases c10 : ((rd_T46 l0_2 x3_1).f0)=1
      ·rw [if_pos c10] at H
       have c10b0 : (((rd_T46 l0_2 x3_1).f0) == 1)=true:=beq_iff_eq.mpr c10
       have c10b1 : (((rd_T46 l0_2 x3_1).f0) != 1)=false:=bne_eq_false_iff_eq.mpr c10
       clear c10
       by_cases c11 : ((rd_T46 l0_2 x3_1).f4)=(-1)
       ·rw [if_pos c11] at H
        have c11b0 : (((rd_T46 l0_2 x3_1).f4) == (-1))=true:=beq_iff_eq.mpr c11
        have c11b1 : (((rd_T46 l0_2 x3_1).f4) != (-1))=false:=bne_eq_false_iff_eq.mpr c11
        clear c11
        have H':=Aside0.mk H
        clear H
        have hcz12_0 : wr.cell? ⟨gb168,0,none⟩=some (.int .i64 a0_0):=(blk_cell BK168.out 0).trans rfl
        have hcz12_1 : wr.cell? ⟨gb168,1,none⟩=some (.int .i64 a0_1):=(blk_cell BK168.out 1).trans rfl
        have hcz12_2 : wr.cell? ⟨gb168,2,none⟩=some (.slice A0_2 l0_2.length c0_2):=(blk_cell BK168.out 2).trans rfl
        have hfz12_0:=blk_frozen BK168.out 0
        have hfz12_1:=blk_frozen BK168.out 1
        have hfz12_2:=blk_frozen BK168.out 2
        have p169 : 0≤(x3_1 : Int):=of_decide_eq_true (by first|(with_reducible assumption)|assumption)
        have q169 : x3_1 < (l0_2.length : Int):=of_decide_eq_true (by first|(with_reducible assumption)|assumption)
        obtain ⟨ad169,A169_2,c169_2,e169,hx169_0,hx169_1,hx169_2,hx169_3,hx169_4,hx169_5,hl169_2,hi169_2⟩:=at_T46 HR0_2.out x3_1 p169 q169
        cases e169
        replace hx169_0:=(HB.out.cell (World.block_lt_of_cell? w _ hx169_0)).trans hx169_0
        replace hx169_1:=(HB.out.cell (World.block_lt_of_cell? w _ hx169_1)).trans hx169_1
        replace hx169_2:=(HB.out.cell (World.block_lt_of_cell? w _ hx169_2)).trans hx169_2
        replace hx169_3:=(HB.out.cell (World.block_lt_of_cell? w _ hx169_3)).trans hx169_3
        replace hx169_4:=(HB.out.cell (World.block_lt_of_cell? w _ hx169_4)).trans hx169_4
        replace hx169_5:=(HB.out.cell (World.block_lt_of_cell? w _ hx169_5)).trans hx169_5
        have HR169_2:=Aside0.mk hi169_2
        have HC169_2:=Aside0.mk hl169_2
        clear hi169_2 hl169_2
        replace p169:=eq_true p169
        replace q169:=eq_true q169
        go_wp2_with (first|((with_reducible refine gate_dst (N:=4) rfl ?_);refine box_event ?hg (N:=4) ?hd (cs:=#[.int .i64 0,.int .i64 0,.slice none 0 0,.int .i64 0,.int .i64 0,.int .i64 0]) (t:=46) ?hr ?_;(case hd => rfl);(case hg => rfl);(case hr => first|(go_simp;done)|(go_simp;rfl));intro gb170 hg w13 hbox hb;have n0_:=Aside0.mk (blk_below (g:=gb168) (o:=.cells #[.int .i64 a0_0,.int .i64 a0_1,.slice (some ad169) l0_2.length c0_2] 24 (0,0)) (by (with_reducible repeat (first|refine blk_drewN ?_ _|refine blk_drew ?_|refine blk_alloc ?_ _));exact BK168.out) hb);have n1_:=Aside0.mk (below_step (by repeat (first|(with_reducible first|exact HB.out|apply below_alloc|apply pw_below_drewN|apply below_drew1|refine below_set ?_ GE168.out)|exact HB.out)) hb);have n2_:=Aside0.mk (hbox);have n3_:=Aside0.mk ((by rw [hg];exact (below_size (by repeat (first|(with_reducible first|exact HB.out|apply below_alloc|apply pw_below_drewN|apply below_drew1|refine below_set ?_ GE168.out)|exact HB.out))) : w.heap.size≤gb170));have n4_:=Aside0.mk ((by rw [hg];exact (below_size (by repeat (first|(with_reducible first|exact HB.out|apply below_alloc|apply pw_below_drewN|apply below_drew1|refine below_set ?_ GE168.out)|exact HB.out))) : w.heap.size≤gb170));have n5_:=Aside0.mk ((by rw [hg];exact Nat.ne_of_lt (blk_lt (g:=gb168) (o:=.cells #[.int .i64 a0_0,.int .i64 a0_1,.slice (some ad169) l0_2.length c0_2] 24 (0,0)) (by (with_reducible repeat (first|refine blk_drewN ?_ _|refine blk_drew ?_|refine blk_alloc ?_ _));exact BK168.out)) : gb168≠gb170));have n6_:=Aside0.mk ((by rw [hg];exact Nat.ne_of_gt (blk_lt (g:=gb168) (o:=.cells #[.int .i64 a0_0,.int .i64 a0_1,.slice (some ad169) l0_2.length c0_2] 24 (0,0)) (by (with_reducible repeat (first|refine blk_drewN ?_ _|refine blk_drew ?_|refine blk_alloc ?_ _));exact BK168.out)) : gb170≠gb168));clear BK168;clear HB;have BK168:=n0_;have HB:=n1_;have BK170:=n2_;have GW170:=n3_;have GE170:=n4_;have NB168_170:=n5_;have NB170_168:=n6_;clear n0_ n1_ n2_ n3_ n4_ n5_ n6_;clear hb hbox hg;have hnb14:=NB170_168.out;have hnc14:=NB168_170.out;have hcz15_0 : w13.cell? ⟨gb170,0,none⟩=some (.int .i64 0):=(blk_cell BK170.out 0).trans rfl;have hcz15_1 : w13.cell? ⟨gb170,1,none⟩=some (.int .i64 0):=(blk_cell BK170.out 1).trans rfl;have hcz15_2 : w13.cell? ⟨gb170,2,none⟩=some (.slice none 0 0):=(blk_cell BK170.out 2).trans rfl;have hcz15_3 : w13.cell? ⟨gb170,3,none⟩=some (.int .i64 0):=(blk_cell BK170.out 3).trans rfl;have hcz15_4 : w13.cell? ⟨gb170,4,none⟩=some (.int .i64 0):=(blk_cell BK170.out 4).trans rfl;have hcz15_5 : w13.cell? ⟨gb170,5,none⟩=some (.int .i64 0):=(blk_cell BK170.out 5).trans rfl;have hfz15_0:=blk_frozen BK170.out 0;have hfz15_1:=blk_frozen BK170.out 1;have hfz15_2:=blk_frozen BK170.out 2;have hfz15_3:=blk_frozen BK170.out 3;have hfz15_4:=blk_frozen BK170.out 4;have hfz15_5:=blk_frozen BK170.out 5))
        go_roundg k1
        case measure => have:=HK1.out;omega
        case rel => exact ⟨(wrap64 (x3_1 + 1)),(by first|rfl|(simp;done)|(simp [*];done)),H',⟨by have:=HK1.out;omega⟩,⟨by (with_reducible repeat (first|refine blk_drewN ?_ _|refine blk_drew ?_|refine blk_alloc ?_ _));refine blk_far ?_ NB168_170.out _;(with_reducible repeat (first|refine blk_drewN ?_ _|refine blk_drew ?_|refine blk_alloc ?_ _));refine blk_far ?_ NB168_170.out _;(with_reducible repeat (first|refine blk_drewN ?_ _|refine blk_drew ?_|refine blk_alloc ?_ _));refine blk_far ?_ NB168_170.out _;(with_reducible repeat (first|refine blk_drewN ?_ _|refine blk_drew ?_|refine blk_alloc ?_ _));refine blk_far ?_ NB168_170.out _;(with_reducible repeat (first|refine blk_drewN ?_ _|refine blk_drew ?_|refine blk_alloc ?_ _));refine blk_far ?_ NB168_170.out _;(with_reducible repeat (first|refine blk_drewN ?_ _|refine blk_drew ?_|refine blk_alloc ?_ _));refine blk_far ?_ NB168_170.out _;(with_reducible repeat (first|refine blk_drewN ?_ _|refine blk_drew ?_|refine blk_alloc ?_ _));exact BK168.out⟩,⟨by repeat (first|(with_reducible first|exact HB.out|apply below_alloc|apply pw_below_drewN|apply below_drew1|refine below_set ?_ GE168.out|refine below_set ?_ GE170.out)|exact HB.out)⟩⟩
       ·rw [if_neg c11] at H
        have c11b0 : (((rd_T46 l0_2 x3_1).f4) == (-1))=false:=beq_eq_false_iff_ne.mpr c11
        have c11b1 : (((rd_T46 l0_2 x3_1).f4) != (-1))=true:=bne_iff_ne.mpr c11
        obtain rfl:=Option.some.inj H
        have hcz16_0 : wr.cell? ⟨gb168,0,none⟩=some (.int .i64 a0_0):=(blk_cell BK168.out 0).trans rfl
        have hcz16_1 : wr.cell? ⟨gb168,1,none⟩=some (.int .i64 a0_1):=(blk_cell BK168.out 1).trans rfl
        have hcz16_2 : wr.cell? ⟨gb168,2,none⟩=some (.slice A0_2 l0_2.length c0_2):=(blk_cell BK168.out 2).trans rfl
        have hfz16_0:=blk_frozen BK168.out 0
        have hfz16_1:=blk_frozen BK168.out 1
        have hfz16_2:=blk_frozen BK168.out 2
        have p169 : 0≤(x3_1 : Int):=of_decide_eq_true (by first|(with_reducible assumption)|assumption)
        have q169 : x3_1 < (l0_2.length : Int):=of_decide_eq_true (by first|(with_reducible assumption)|assumption)
        obtain ⟨ad169,A169_2,c169_2,e169,hx169_0,hx169_1,hx169_2,hx169_3,hx169_4,hx169_5,hl169_2,hi169_2⟩:=at_T46 HR0_2.out x3_1 p169 q169
        cases e169
        replace hx169_0:=(HB.out.cell (World.block_lt_of_cell? w _ hx169_0)).trans hx169_0
        replace hx169_1:=(HB.out.cell (World.block_lt_of_cell? w _ hx169_1)).trans hx169_1
        replace hx169_2:=(HB.out.cell (World.block_lt_of_cell? w _ hx169_2)).trans hx169_2
        replace hx169_3:=(HB.out.cell (World.block_lt_of_cell? w _ hx169_3)).trans hx169_3
        replace hx169_4:=(HB.out.cell (World.block_lt_of_cell? w _ hx169_4)).trans hx169_4
        replace hx169_5:=(HB.out.cell (World.block_lt_of_cell? w _ hx169_5)).trans hx169_5
        have HR169_2:=Aside0.mk hi169_2
        have HC169_2:=Aside0.mk hl169_2
        clear hi169_2 hl169_2
        replace p169:=eq_true p169
        replace q169:=eq_true q169
        go_wp2_with (first|((with_reducible refine gate_dst (N:=4) rfl ?_);refine box_event ?hg (N:=4) ?hd (cs:=#[.int .i64 0,.int .i64 0,.slice none 0 0,.int .i64 0,.int .i64 0,.int .i64 0]) (t:=46) ?hr ?_;(case hd => rfl);(case hg => rfl);(case hr => first|(go_simp;done)|(go_simp;rfl));intro gb170 hg w17 hbox hb;have n0_:=Aside0.mk (blk_below (g:=gb168) (o:=.cells #[.int .i64 a0_0,.int .i64 a0_1,.slice (some ad169) l0_2.length c0_2] 24 (0,0)) (by (with_reducible repeat (first|refine blk_drewN ?_ _|refine blk_drew ?_|refine blk_alloc ?_ _));exact BK168.out) hb);have n1_:=Aside0.mk (below_step (by repeat (first|(with_reducible first|exact HB.out|apply below_alloc|apply pw_below_drewN|apply below_drew1|refine below_set ?_ GE168.out)|exact HB.out)) hb);have n2_:=Aside0.mk (hbox);have n3_:=Aside0.mk ((by rw [hg];exact (below_size (by repeat (first|(with_reducible first|exact HB.out|apply below_alloc|apply pw_below_drewN|apply below_drew1|refine below_set ?_ GE168.out)|exact HB.out))) : w.heap.size≤gb170));have n4_:=Aside0.mk ((by rw [hg];exact (below_size (by repeat (first|(with_reducible first|exact HB.out|apply below_alloc|apply pw_below_drewN|apply below_drew1|refine below_set ?_ GE168.out)|exact HB.out))) : w.heap.size≤gb170));have n5_:=Aside0.mk ((by rw [hg];exact Nat.ne_of_lt (blk_lt (g:=gb168) (o:=.cells #[.int .i64 a0_0,.int .i64 a0_1,.slice (some ad169) l0_2.length c0_2] 24 (0,0)) (by (with_reducible repeat (first|refine blk_drewN ?_ _|refine blk_drew ?_|refine blk_alloc ?_ _));exact BK168.out)) : gb168≠gb170));have n6_:=Aside0.mk ((by rw [hg];exact Nat.ne_of_gt (blk_lt (g:=gb168) (o:=.cells #[.int .i64 a0_0,.int .i64 a0_1,.slice (some ad169) l0_2.length c0_2] 24 (0,0)) (by (with_reducible repeat (first|refine blk_drewN ?_ _|refine blk_drew ?_|refine blk_alloc ?_ _));exact BK168.out)) : gb170≠gb168));clear BK168;clear HB;have BK168:=n0_;have HB:=n1_;have BK170:=n2_;have GW170:=n3_;have GE170:=n4_;have NB168_170:=n5_;have NB170_168:=n6_;clear n0_ n1_ n2_ n3_ n4_ n5_ n6_;clear hb hbox hg;have hnb18:=NB170_168.out;have hnc18:=NB168_170.out;have hcz19_0 : w17.cell? ⟨gb170,0,none⟩=some (.int .i64 0):=(blk_cell BK170.out 0).trans rfl;have hcz19_1 : w17.cell? ⟨gb170,1,none⟩=some (.int .i64 0):=(blk_cell BK170.out 1).trans rfl;have hcz19_2 : w17.cell? ⟨gb170,2,none⟩=some (.slice none 0 0):=(blk_cell BK170.out 2).trans rfl;have hcz19_3 : w17.cell? ⟨gb170,3,none⟩=some (.int .i64 0):=(blk_cell BK170.out 3).trans rfl;have hcz19_4 : w17.cell? ⟨gb170,4,none⟩=some (.int .i64 0):=(blk_cell BK170.out 4).trans rfl;have hcz19_5 : w17.cell? ⟨gb170,5,none⟩=some (.int .i64 0):=(blk_cell BK170.out 5).trans rfl;have hfz19_0:=blk_frozen BK170.out 0;have hfz19_1:=blk_frozen BK170.out 1;have hfz19_2:=blk_frozen BK170.out 2;have hfz19_3:=blk_frozen BK170.out 3;have hfz19_4:=blk_frozen BK170.out 4;have hfz19_5:=blk_frozen BK170.out 5))
        go_ret
        exact ⟨by first|rfl|(simp [errW_none,errW_some] <;> rfl)|(simp [*,errW_none,errW_some] <;> rfl),by repeat (first|(with_reducible first|exact HB.out|apply below_alloc|apply pw_below_drewN|apply below_drew1|refine below_set ?_ GE168.out|refine below_set ?_ GE170.out)|exact HB.out)⟩
      ·rw [if_neg c10] at H
       have c10b0 : (((rd_T46 l0_2 x3_1).f0) == 1)=false:=beq_eq_false_iff_ne.mpr c10
       have c10b1 : (((rd_T46 l0_2 x3_1).f0) != 1)=true:=bne_iff_ne.mpr c10
       obtain rfl:=Option.some.inj H
       have hcz20_0 : wr.cell? ⟨gb168,0,none⟩=some (.int .i64 a0_0):=(blk_cell BK168.out 0).trans rfl
       have hcz20_1 : wr.cell? ⟨gb168,1,none⟩=some (.int .i64 a0_1):=(blk_cell BK168.out 1).trans rfl
       have hcz20_2 : wr.cell? ⟨gb168,2,none⟩=some (.slice A0_2 l0_2.length c0_2):=(blk_cell BK168.out 2).trans rfl
       have hfz20_0:=blk_frozen BK168.out 0
       have hfz20_1:=blk_frozen BK168.out 1
       have hfz20_2:=blk_frozen BK168.out 2
       have p169 : 0≤(x3_1 : Int):=of_decide_eq_true (by first|(with_reducible assumption)|assumption)
       have q169 : x3_1 < (l0_2.length : Int):=of_decide_eq_true (by first|(with_reducible assumption)|assumption)
       obtain ⟨ad169,A169_2,c169_2,e169,hx169_0,hx169_1,hx169_2,hx169_3,hx169_4,hx169_5,hl169_2,hi169_2⟩:=at_T46 HR0_2.out x3_1 p169 q169
       cases e169
       replace hx169_0:=(HB.out.cell (World.block_lt_of_cell? w _ hx169_0)).trans hx169_0
       replace hx169_1:=(HB.out.cell (World.block_lt_of_cell? w _ hx169_1)).trans hx169_1
       replace hx169_2:=(HB.out.cell (World.block_lt_of_cell? w _ hx169_2)).trans hx169_2
       replace hx169_3:=(HB.out.cell (World.block_lt_of_cell? w _ hx169_3)).trans hx169_3
       replace hx169_4:=(HB.out.cell (World.block_lt_of_cell? w _ hx169_4)).trans hx169_4
       replace hx169_5:=(HB.out.cell (World.block_lt_of_cell? w _ hx169_5)).trans hx169_5
       have HR169_2:=Aside0.mk hi169_2
       have HC169_2:=Aside0.mk hl169_2
       clear hi169_2 hl169_2
       replace p169:=eq_true p169
       replace q169:=eq_true q169
       go_wp2_with (first|((with_reducible refine gate_dst (N:=4) rfl ?_);refine box_event ?hg (N:=4) ?hd (cs:=#[.int .i64 0,.int .i64 0,.slice none 0 0,.int .i64 0,.int .i64 0,.int .i64 0]) (t:=46) ?hr ?_;(case hd => rfl);(case hg => rfl);(case hr => first|(go_simp;done)|(go_simp;rfl));intro gb170 hg w21 hbox hb;have n0_:=Aside0.mk (blk_below (g:=gb168) (o:=.cells #[.int .i64 a0_0,.int .i64 a0_1,.slice (some ad169) l0_2.length c0_2] 24 (0,0)) (by (with_reducible repeat (first|refine blk_drewN ?_ _|refine blk_drew ?_|refine blk_alloc ?_ _));exact BK168.out) hb);have n1_:=Aside0.mk (below_step (by repeat (first|(with_reducible first|exact HB.out|apply below_alloc|apply pw_below_drewN|apply below_drew1|refine below_set ?_ GE168.out)|exact HB.out)) hb);have n2_:=Aside0.mk (hbox);have n3_:=Aside0.mk ((by rw [hg];exact (below_size (by repeat (first|(with_reducible first|exact HB.out|apply below_alloc|apply pw_below_drewN|apply below_drew1|refine below_set ?_ GE168.out)|exact HB.out))) : w.heap.size≤gb170));have n4_:=Aside0.mk ((by rw [hg];exact (below_size (by repeat (first|(with_reducible first|exact HB.out|apply below_alloc|apply pw_below_drewN|apply below_drew1|refine below_set ?_ GE168.out)|exact HB.out))) : w.heap.size≤gb170));have n5_:=Aside0.mk ((by rw [hg];exact Nat.ne_of_lt (blk_lt (g:=gb168) (o:=.cells #[.int .i64 a0_0,.int .i64 a0_1,.slice (some ad169) l0_2.length c0_2] 24 (0,0)) (by (with_reducible repeat (first|refine blk_drewN ?_ _|refine blk_drew ?_|refine blk_alloc ?_ _));exact BK168.out)) : gb168≠gb170));have n6_:=Aside0.mk ((by rw [hg];exact Nat.ne_of_gt (blk_lt (g:=gb168) (o:=.cells #[.int .i64 a0_0,.int .i64 a0_1,.slice (some ad169) l0_2.length c0_2] 24 (0,0)) (by (with_reducible repeat (first|refine blk_drewN ?_ _|refine blk_drew ?_|refine blk_alloc ?_ _));exact BK168.out)) : gb170≠gb168));clear BK168;clear HB;have BK168:=n0_;have HB:=n1_;have BK170:=n2_;have GW170:=n3_;have GE170:=n4_;have NB168_170:=n5_;have NB170_168:=n6_;clear n0_ n1_ n2_ n3_ n4_ n5_ n6_;clear hb hbox hg;have hnb22:=NB170_168.out;have hnc22:=NB168_170.out;have hcz23_0 : w21.cell? ⟨gb170,0,none⟩=some (.int .i64 0):=(blk_cell BK170.out 0).trans rfl;have hcz23_1 : w21.cell? ⟨gb170,1,none⟩=some (.int .i64 0):=(blk_cell BK170.out 1).trans rfl;have hcz23_2 : w21.cell? ⟨gb170,2,none⟩=some (.slice none 0 0):=(blk_cell BK170.out 2).trans rfl;have hcz23_3 : w21.cell? ⟨gb170,3,none⟩=some (.int .i64 0):=(blk_cell BK170.out 3).trans rfl;have hcz23_4 : w21.cell? ⟨gb170,4,none⟩=some (.int .i64 0):=(blk_cell BK170.out 4).trans rfl;have hcz23_5 : w21.cell? ⟨gb170,5,none⟩=some (.int .i64 0):=(blk_cell BK170.out 5).trans rfl;have hfz23_0:=blk_frozen BK170.out 0;have hfz23_1:=blk_frozen BK170.out 1;have hfz23_2:=blk_frozen BK170.out 2;have hfz23_3:=blk_frozen BK170.out 3;have hfz23_4:=blk_frozen BK170.out 4;have hfz23_5:=blk_frozen BK170.out 5))
       go_ret
       exact ⟨by first|rfl|(simp [errW_none,errW_some] <;> rfl)|(simp [*,errW_none,errW_some] <;> rfl),by repeat (first|(with_reducible first|exact HB.out|apply below_alloc|apply pw_below_drewN|apply below_drew1|refine below_set ?_ GE168.out|refine below_set ?_ GE170.out)|exact HB.out)⟩
    ·rw [if_neg c4] at H
     exact absurd H (by simp)
   ·rw [if_neg c3] at H
    have c3b0 : decide (x3_1 < (l0_2.length : Int))=false:=decide_eq_false c3
    clear c3
    obtain rfl:=Option.some.inj H
    have hcz24_0 : wr.cell? ⟨gb168,0,none⟩=some (.int .i64 a0_0):=(blk_cell BK168.out 0).trans rfl
    have hcz24_1 : wr.cell? ⟨gb168,1,none⟩=some (.int .i64 a0_1):=(blk_cell BK168.out 1).trans rfl
    have hcz24_2 : wr.cell? ⟨gb168,2,none⟩=some (.slice A0_2 l0_2.length c0_2):=(blk_cell BK168.out 2).trans rfl
    have hfz24_0:=blk_frozen BK168.out 0
    have hfz24_1:=blk_frozen BK168.out 1
    have hfz24_2:=blk_frozen BK168.out 2
    go_wp2
    go_ret
    exact ⟨by first|rfl|(simp [errW_none,errW_some] <;> rfl)|(simp [*,errW_none,errW_some] <;> rfl),by repeat (first|(with_reducible first|exact HB.out|apply below_alloc|apply pw_below_drewN|apply below_drew1|refine below_set ?_ GE168.out)|exact HB.out)⟩
end Go.Proofs.Ytbelnopbggkdfaa.Q
end

section
namespace Go.Proofs.Ytbelnopbggkdfaa.Q
open Go.RowKit Go.Proofs.YtbelnopbggkdfaaW.PrintWords Go.Proofs.YtbelnopbggkdfaaW.PrintLast Go.Proofs.YtbelnopbggkdfaaW.PrintMore
attribute [local go_sem] max2_int min2_int max_two min_two max_three min_three max_four min_four   -- for this text's walks alone
set_option linter.unusedVariables false
set_option linter.unusedSimpArgs false
def phasorref17_empty.f (a0_0 : Int) (a0_1 : Int) (l0_2 : List (S46)) : Option (Int × Int × (List (S46))):=some (a0_0,a0_1,([] : List (S46)))
set_option maxHeartbeats 8000000 in
set_option maxRecDepth 100000 in
theorem phasorref17_empty.calls (a0_0 : Int) (a0_1 : Int) (A0_2 : Option Addr) (c0_2 : Nat) (l0_2 : List (S46)) (r1 : Int) (r2 : Int) (r3 : List (S46)) (w : World) (hr0_2 : Kd.C k46 w A0_2 l0_2.length l0_2) (hc0_2 : l0_2.length≤c0_2) (h : phasorref17_empty.f a0_0 a0_1 l0_2=some (r1,r2,r3)) :
  Calls Try.prog 47 #[.agg #[.int .i64 a0_0,.int .i64 a0_1,.slice A0_2 l0_2.length c0_2]] w fun e w' => ∃ v2_ : Value,e=.returned (.agg #[.int .i64 r1,.int .i64 r2,v2_])∧Kd.S k46 46 w' w.heap.size (fun _ => True) v2_ r3∧Below w.heap.size w w':=by
 have hu24:=Try.underlying24
 have HR0_2:=Aside0.mk hr0_2
 have HC0_2:=Aside0.mk hc0_2
 clear hr0_2 hc0_2
 have HB:=Aside0.mk (Below.refl w.heap.size w)
 have H : (some (a0_0,a0_1,([] : List (S46))))=some (r1,r2,r3):=h
 clear h
 simp only [Option.some.injEq,Prod.mk.injEq] at H
 obtain ⟨rfl,rfl,rfl⟩:=H
 go_enter Try.func47,Try.ntmps47
 go_wp2_with (first|((with_reducible refine gate_dst (N:=1) rfl ?_);refine box_event ?hg (N:=1) ?hd (cs:=#[.int .i64 a0_0,.int .i64 a0_1,.slice A0_2 l0_2.length c0_2]) (t:=24) ?hr ?_;(case hd => rfl);(case hg => rfl);(case hr => first|(go_simp;done)|(go_simp;rfl));intro gb171 hg w2 hbox hb;have n0_:=Aside0.mk (below_step (by repeat (first|(with_reducible first|exact HB.out|apply below_alloc|apply pw_below_drewN|apply below_drew1)|exact HB.out)) hb);have n1_:=Aside0.mk (hbox);have n2_:=Aside0.mk ((by rw [hg];exact (below_size (by repeat (first|(with_reducible first|exact HB.out|apply below_alloc|apply pw_below_drewN|apply below_drew1)|exact HB.out))) : w.heap.size≤gb171));have n3_:=Aside0.mk ((by rw [hg];exact (below_size (by repeat (first|(with_reducible first|exact HB.out|apply below_alloc|apply pw_below_drewN|apply below_drew1)|exact HB.out))) : w.heap.size≤gb171));clear HB;have HB:=n0_;have BK171:=n1_;have GW171:=n2_;have GE171:=n3_;clear n0_ n1_ n2_ n3_;clear hb hbox hg)|((with_reducible refine gate_dst (N:=2) rfl ?_);refine box_event ?hg (N:=2) ?hd (cs:=#[.int .i64 0,.int .i64 0,.slice none 0 0]) (t:=24) ?hr ?_;(case hd => rfl);(case hg => rfl);(case hr => first|(go_simp;done)|(go_simp;rfl));intro gb172 hg w3 hbox hb;have n0_:=Aside0.mk (blk_below (g:=gb171) (o:=.cells #[.int .i64 a0_0,.int .i64 a0_1,.slice A0_2 l0_2.length c0_2] 24 (0,0)) (by (with_reducible repeat (first|refine blk_drewN ?_ _|refine blk_drew ?_|refine blk_alloc ?_ _));exact BK171.out) hb);have n1_:=Aside0.mk (below_step (by repeat (first|(with_reducible first|exact HB.out|apply below_alloc|apply pw_below_drewN|apply below_drew1|refine below_set ?_ GE171.out)|exact HB.out)) hb);have n2_:=Aside0.mk (hbox);have n3_:=Aside0.mk ((by rw [hg];exact (below_size (by repeat (first|(with_reducible first|exact HB.out|apply below_alloc|apply pw_below_drewN|apply below_drew1|refine below_set ?_ GE171.out)|exact HB.out))) : w.heap.size≤gb172));have n4_:=Aside0.mk ((by rw [hg];exact (below_size (by repeat (first|(with_reducible first|exact HB.out|apply below_alloc|apply pw_below_drewN|apply below_drew1|refine below_set ?_ GE171.out)|exact HB.out))) : w.heap.size≤gb172));have n5_:=Aside0.mk ((by rw [hg];exact Nat.ne_of_lt (blk_lt (g:=gb171) (o:=.cells #[.int .i64 a0_0,.int .i64 a0_1,.slice A0_2 l0_2.length c0_2] 24 (0,0)) (by (with_reducible repeat (first|refine blk_drewN ?_ _|refine blk_drew ?_|refine blk_alloc ?_ _));exact BK171.out)) : gb171≠gb172));have n6_:=Aside0.mk ((by rw [hg];exact Nat.ne_of_gt (blk_lt (g:=gb171) (o:=.cells #[.int .i64 a0_0,.int .i64 a0_1,.slice A0_2 l0_2.length c0_2] 24 (0,0)) (by (with_reducible repeat (first|refine blk_drewN ?_ _|refine blk_drew ?_|refine blk_alloc ?_ _));exact BK171.out)) : gb172≠gb171));clear BK171;clear HB;have BK171:=n0_;have HB:=n1_;have BK172:=n2_;have GW172:=n3_;have GE172:=n4_;have NB171_172:=n5_;have NB172_171:=n6_;clear n0_ n1_ n2_ n3_ n4_ n5_ n6_;clear hb hbox hg;have hnb4:=NB171_172.out;have hnc4:=NB172_171.out;have hcz5_0 : w3.cell? ⟨gb171,0,none⟩=some (.int .i64 a0_0):=(blk_cell BK171.out 0).trans rfl;have hcz5_1 : w3.cell? ⟨gb171,1,none⟩=some (.int .i64 a0_1):=(blk_cell BK171.out 1).trans rfl;have hcz5_2 : w3.cell? ⟨gb171,2,none⟩=some (.slice A0_2 l0_2.length c0_2):=(blk_cell BK171.out 2).trans rfl;have hfz5_0:=blk_frozen BK171.out 0;have hfz5_1:=blk_frozen BK171.out 1;have hfz5_2:=blk_frozen BK171.out 2;have hcz6_0 : w3.cell? ⟨gb172,0,none⟩=some (.int .i64 0):=(blk_cell BK172.out 0).trans rfl;have hcz6_1 : w3.cell? ⟨gb172,1,none⟩=some (.int .i64 0):=(blk_cell BK172.out 1).trans rfl;have hcz6_2 : w3.cell? ⟨gb172,2,none⟩=some (.slice none 0 0):=(blk_cell BK172.out 2).trans rfl;have hfz6_0:=blk_frozen BK172.out 0;have hfz6_1:=blk_frozen BK172.out 1;have hfz6_2:=blk_frozen BK172.out 2))
 refine bodyPost_ret (results_cell_row rfl _ _ gb172 24 #[.int .i64 a0_0,.int .i64 a0_1,.slice none 0 0] (0,0) _ rfl (by (with_reducible repeat (first|refine blk_drewN ?_ _|refine blk_drew ?_|refine blk_alloc ?_ _));refine blk_put (cs:=#[.int .i64 a0_0,.int .i64 a0_1,.slice none 0 0]) ?_ 2 _ rfl;(with_reducible repeat (first|refine blk_drewN ?_ _|refine blk_drew ?_|refine blk_alloc ?_ _));refine blk_put (cs:=#[.int .i64 a0_0,.int .i64 0,.slice none 0 0]) ?_ 1 _ rfl;(with_reducible repeat (first|refine blk_drewN ?_ _|refine blk_drew ?_|refine blk_alloc ?_ _));refine blk_put (cs:=#[.int .i64 0,.int .i64 0,.slice none 0 0]) ?_ 0 _ rfl;(with_reducible repeat (first|refine blk_drewN ?_ _|refine blk_drew ?_|refine blk_alloc ?_ _));exact BK172.out) Try.underlying24 rfl (by kernel_rfl)) rfl ?_
 exact ⟨_,by first|rfl|(simp [errW_none,errW_some] <;> rfl)|(simp [*,errW_none,errW_some] <;> rfl),by first|exact Kd.S_nil _ _ _ _ _|exact Kd.N_nil _ _ _ _ _|exact Kd.V_nil _ _ _ _ _|exact Kd.Q_nil _ _ _ _ _|exact Kd.R_nil _ _ _ _ _,by repeat (first|(with_reducible first|exact HB.out|apply below_alloc|apply pw_below_drewN|apply below_drew1|refine below_set ?_ GE171.out|refine below_set ?_ GE172.out)|exact HB.out)⟩
end Go.Proofs.Ytbelnopbggkdfaa.Q
end

section
namespace Go.Proofs.Ytbelnopbggkdfaa.Q
open Go.RowKit Go.Proofs.YtbelnopbggkdfaaW.PrintWords Go.Proofs.YtbelnopbggkdfaaW.PrintLast Go.Proofs.YtbelnopbggkdfaaW.PrintMore
attribute [local go_sem] max2_int min2_int max_two min_two max_three min_three max_four min_four   -- for this text's walks alone
set_option linter.unusedVariables false
set_option linter.unusedSimpArgs false
def phasorref06_Is.f (a0 : Int) : Option (Bool):=if a0 ≥ 1 then (some (decide (a0≤20))) else (some false)
set_option maxHeartbeats 8000000 in
set_option maxRecDepth 100000 in
theorem phasorref06_Is.calls (a0 : Int) (r : Bool) (w : World) (h : phasorref06_Is.f a0=some r) :
  Calls Try.prog 79 #[.int .i64 a0] w fun e w' => e=.returned (.bool r)∧Drawn0 w w':=by
 have H : (if a0 ≥ 1 then (some (decide (a0≤20))) else (some false))=some r:=h
 clear h
 by_cases c2 : a0 ≥ 1
 ·rw [if_pos c2] at H
  have c2b0 : decide (1≤a0)=true:=decide_eq_true c2
  clear c2
  obtain rfl:=Option.some.inj H
  go_enter Try.func79,Try.ntmps79
  go_wp2
  go_ret
  exact ⟨by first|rfl|(simp;done)|(simp [*];done),by repeat (first|exact Drawn0.refl _|apply Drawn0.step)⟩
 ·rw [if_neg c2] at H
  have c2b0 : decide (1≤a0)=false:=decide_eq_false c2
  clear c2
  obtain rfl:=Option.some.inj H
  go_enter Try.func79,Try.ntmps79
  go_wp2
  go_ret
  exact ⟨by first|rfl|(simp;done)|(simp [*];done),by repeat (first|exact Drawn0.refl _|apply Drawn0.step)⟩
end Go.Proofs.Ytbelnopbggkdfaa.Q
end

section
namespace Go.Proofs.Ytbelnopbggkdfaa.Q
open Go.RowKit Go.Proofs.YtbelnopbggkdfaaW.PrintWords Go.Proofs.YtbelnopbggkdfaaW.PrintLast Go.Proofs.YtbelnopbggkdfaaW.PrintMore
attribute [local go_sem] max2_int min2_int max_two min_two max_three min_three max_four min_four   -- for this text's walks alone
set_option linter.unusedVariables false
set_option linter.unusedSimpArgs false
mutual
def phasorref06_Inverse.j0 : Nat→Int→Int→Bool→Option (Int)
 | 0,_,_,_ => none
 | k + 1,x0,x3,x4 => if x4=true then (some (wrap64 (x0 + 1))) else (if x3=6 then (phasorref06_Inverse.j1 k x0 (x3 == 6)) else (if x3=8 then (phasorref06_Inverse.j1 k x0 (x3 == 8)) else (if x3=10 then (phasorref06_Inverse.j1 k x0 (x3 == 10)) else (phasorref06_Inverse.j1 k x0 (x3 == 16)))))
def phasorref06_Inverse.j1 : Nat→Int→Bool→Option (Int)
 | 0,_,_ => none
 | k + 1,x0,x11 => if x11=true then (some (wrap64 (x0 - 1))) else ((phasorref06_Is.f x0).bind fun t173 => (if t173=true then (some x0) else (some 0)))
end
def phasorref06_Inverse.f (k : Nat) (a0 : Int) : Option (Int):=if a0=5 then (phasorref06_Inverse.j0 k a0 a0 (a0 == 5)) else (if a0=7 then (phasorref06_Inverse.j0 k a0 a0 (a0 == 7)) else (if a0=9 then (phasorref06_Inverse.j0 k a0 a0 (a0 == 9)) else (phasorref06_Inverse.j0 k a0 a0 (a0 == 15))))
set_option maxHeartbeats 8000000 in
set_option maxRecDepth 100000 in
theorem phasorref06_Inverse.calls (k : Nat) (a0 : Int) (r : Int) (w : World) (h : phasorref06_Inverse.f k a0=some r) :
  Calls Try.prog 48 #[.int .i64 a0] w fun e w' => e=.returned (.int .i64 r)∧Drawn0 w w':=by
 have H : (if a0=5 then (phasorref06_Inverse.j0 k a0 a0 (a0 == 5)) else (if a0=7 then (phasorref06_Inverse.j0 k a0 a0 (a0 == 7)) else (if a0=9 then (phasorref06_Inverse.j0 k a0 a0 (a0 == 9)) else (phasorref06_Inverse.j0 k a0 a0 (a0 == 15)))))=some r:=h
 clear h
 have HC2:=Aside0.mk H
 clear H
 go_enter Try.func48,Try.ntmps48
 go_upto_if 4 with (fail)
 go_cut [4] (fun v4 wc => ∃ (kq : Nat) (x4_1 : Bool),v4=.bool x4_1∧Aside0 (phasorref06_Inverse.j0 kq a0 a0 x4_1=some r)∧Aside0 (kq≤k)∧Drawn0 w wc)
 case first =>
  have H:=HC2.out
  clear HC2
  by_cases c3 : a0=5
  ·rw [if_pos c3] at H
   have c3b0 : (a0 == 5)=true:=beq_iff_eq.mpr c3
   have c3b1 : (a0 != 5)=false:=bne_eq_false_iff_eq.mpr c3
   clear c3
   (first|rw [c3b0]|(simp only [i64_w,i32_w];rw [c3b0])|skip)
   have H':=Aside0.mk H
   clear H
   go_wp2
   go_meet
   case rel => exact ⟨_,((a0 == 5)),(by first|rfl|(simp;done)|(simp [*];done)),H',⟨by first|omega|exact Nat.le_refl _⟩,by repeat (first|exact Drawn0.refl _|apply Drawn0.step)⟩
  ·rw [if_neg c3] at H
   have c3b0 : (a0 == 5)=false:=beq_eq_false_iff_ne.mpr c3
   have c3b1 : (a0 != 5)=true:=bne_iff_ne.mpr c3
   (first|rw [c3b0]|(simp only [i64_w,i32_w];rw [c3b0])|skip)
   by_cases c4 : a0=7
   ·rw [if_pos c4] at H
    have c4b0 : (a0 == 7)=true:=beq_iff_eq.mpr c4
    have c4b1 : (a0 != 7)=false:=bne_eq_false_iff_eq.mpr c4
    clear c4
    have H':=Aside0.mk H
    clear H
    go_wp2
    go_meet
    case rel => exact ⟨_,((a0 == 7)),(by first|rfl|(simp;done)|(simp [*];done)),H',⟨by first|omega|exact Nat.le_refl _⟩,by repeat (first|exact Drawn0.refl _|apply Drawn0.step)⟩
   ·rw [if_neg c4] at H
    have c4b0 : (a0 == 7)=false:=beq_eq_false_iff_ne.mpr c4
    have c4b1 : (a0 != 7)=true:=bne_iff_ne.mpr c4
    by_cases c5 : a0=9
    ·rw [if_pos c5] at H
     have c5b0 : (a0 == 9)=true:=beq_iff_eq.mpr c5
     have c5b1 : (a0 != 9)=false:=bne_eq_false_iff_eq.mpr c5
     clear c5
     have H':=Aside0.mk H
     clear H
     go_wp2
     go_meet
     case rel => exact ⟨_,((a0 == 9)),(by first|rfl|(simp;done)|(simp [*];done)),H',⟨by first|omega|exact Nat.le_refl _⟩,by repeat (first|exact Drawn0.refl _|apply Drawn0.step)⟩
    ·rw [if_neg c5] at H
     have c5b0 : (a0 == 9)=false:=beq_eq_false_iff_ne.mpr c5
     have c5b1 : (a0 != 9)=true:=bne_iff_ne.mpr c5
     have H':=Aside0.mk H
     clear H
     go_wp2
     go_meet
     case rel => exact ⟨_,((a0 == 15)),(by first|rfl|(simp;done)|(simp [*];done)),H',⟨by first|omega|exact Nat.le_refl _⟩,by repeat (first|exact Drawn0.refl _|apply Drawn0.step)⟩
 case rest =>
  clear HC2
  try clear p2
  try clear c3
  try clear c3b0
  try clear c3b1
  try clear c4
  try clear c4b0
  try clear c4b1
  try clear c5
  try clear c5b0
  try clear c5b1
  obtain ⟨kq,x4_1,rfl,HA,HJ1,⟨mc1,rfl⟩⟩:=hcut
  cases kq with
  | zero => exact absurd HA.out (by simp [phasorref06_Inverse.j0])
  | succ kj1 =>
   have H:=HA.out
   clear HA
   simp only [phasorref06_Inverse.j0] at H
   by_cases c6 : x4_1=true
   ·subst c6
    have H1 : (some (wrap64 (a0 + 1)))=some r:=by rw [if_pos rfl] at H;exact H
    clear H
    have H:=H1
    clear H1
    obtain rfl:=Option.some.inj H
    go_wp2
    go_ret
    exact ⟨by first|rfl|(simp;done)|(simp [*];done),by repeat (first|exact Drawn0.refl _|apply Drawn0.step)⟩
   ·replace c6:=Bool.eq_false_iff.mpr c6
    subst c6
    have H1 : (if a0=6 then (phasorref06_Inverse.j1 kj1 a0 (a0 == 6)) else (if a0=8 then (phasorref06_Inverse.j1 kj1 a0 (a0 == 8)) else (if a0=10 then (phasorref06_Inverse.j1 kj1 a0 (a0 == 10)) else (phasorref06_Inverse.j1 kj1 a0 (a0 == 16)))))=some r:=by rw [if_neg (show ¬ (false=true) by decide)] at H;exact H
    clear H
    have H:=H1
    clear H1
    have HC7:=Aside0.mk H
    clear H
    go_upto_if 11 with (fail)
    go_cut [11] (fun v11 wc => ∃ (kq : Nat) (x11_6 : Bool),v11=.bool x11_6∧Aside0 (phasorref06_Inverse.j1 kq a0 x11_6=some r)∧Aside0 (kq≤kj1)∧Drawn0 w wc)
    case first =>
     have H:=HC7.out
     clear HC7
     by_cases c8 : a0=6
     ·rw [if_pos c8] at H
      have c8b0 : (a0 == 6)=true:=beq_iff_eq.mpr c8
      have c8b1 : (a0 != 6)=false:=bne_eq_false_iff_eq.mpr c8
      clear c8
      (first|rw [c8b0]|(simp only [i64_w,i32_w];rw [c8b0])|skip)
      have H':=Aside0.mk H
      clear H
      go_wp2
      go_meet
      case rel => exact ⟨_,((a0 == 6)),(by first|rfl|(simp;done)|(simp [*];done)),H',⟨by have:=HJ1.out;first|omega|exact Nat.le_refl _⟩,by repeat (first|exact Drawn0.refl _|apply Drawn0.step)⟩
     ·rw [if_neg c8] at H
      have c8b0 : (a0 == 6)=false:=beq_eq_false_iff_ne.mpr c8
      have c8b1 : (a0 != 6)=true:=bne_iff_ne.mpr c8
      (first|rw [c8b0]|(simp only [i64_w,i32_w];rw [c8b0])|skip)
      by_cases c9 : a0=8
      ·rw [if_pos c9] at H
       have c9b0 : (a0 == 8)=true:=beq_iff_eq.mpr c9
       have c9b1 : (a0 != 8)=false:=bne_eq_false_iff_eq.mpr c9
       clear c9
       have H':=Aside0.mk H
       clear H
       go_wp2
       go_meet
       case rel => exact ⟨_,((a0 == 8)),(by first|rfl|(simp;done)|(simp [*];done)),H',⟨by have:=HJ1.out;first|omega|exact Nat.le_refl _⟩,by repeat (first|exact Drawn0.refl _|apply Drawn0.step)⟩
      ·rw [if_neg c9] at H
       have c9b0 : (a0 == 8)=false:=beq_eq_false_iff_ne.mpr c9
       have c9b1 : (a0 != 8)=true:=bne_iff_ne.mpr c9
       by_cases c10 : a0=10
       ·rw [if_pos c10] at H
        have c10b0 : (a0 == 10)=true:=beq_iff_eq.mpr c10
        have c10b1 : (a0 != 10)=false:=bne_eq_false_iff_eq.mpr c10
        clear c10
        have H':=Aside0.mk H
        clear H
        go_wp2
        go_meet
        case rel => exact ⟨_,((a0 == 10)),(by first|rfl|(simp;done)|(simp [*];done)),H',⟨by have:=HJ1.out;first|omega|exact Nat.le_refl _⟩,by repeat (first|exact Drawn0.refl _|apply Drawn0.step)⟩
       ·rw [if_neg c10] at H
        have c10b0 : (a0 == 10)=false:=beq_eq_false_iff_ne.mpr c10
        have c10b1 : (a0 != 10)=true:=bne_iff_ne.mpr c10
        have H':=Aside0.mk H
        clear H
        go_wp2
        go_meet
        case rel => exact ⟨_,((a0 == 16)),(by first|rfl|(simp;done)|(simp [*];done)),H',⟨by have:=HJ1.out;first|omega|exact Nat.le_refl _⟩,by repeat (first|exact Drawn0.refl _|apply Drawn0.step)⟩
    case rest =>
     clear HC7
     try clear c1
     try clear p2
     try clear c3
     try clear c3b0
     try clear c3b1
     try clear c4
     try clear c4b0
     try clear c4b1
     try clear c5
     try clear c5b0
     try clear c5b1
     try clear c6
     try clear p6
     try clear c8
     try clear c8b0
     try clear c8b1
     try clear c9
     try clear c9b0
     try clear c9b1
     try clear c10
     try clear c10b0
     try clear c10b1
     try clear p2
     obtain ⟨kq,x11_6,rfl,HA,HJ6,⟨mc6,rfl⟩⟩:=hcut
     cases kq with
     | zero => exact absurd HA.out (by simp [phasorref06_Inverse.j1])
     | succ kj6 =>
      have H:=HA.out
      clear HA
      simp only [phasorref06_Inverse.j1] at H
      by_cases c11 : x11_6=true
      ·subst c11
       have H1 : (some (wrap64 (a0 - 1)))=some r:=by rw [if_pos rfl] at H;exact H
       clear H
       have H:=H1
       clear H1
       obtain rfl:=Option.some.inj H
       go_wp2
       go_ret
       exact ⟨by first|rfl|(simp;done)|(simp [*];done),by repeat (first|exact Drawn0.refl _|apply Drawn0.step)⟩
      ·replace c11:=Bool.eq_false_iff.mpr c11
       subst c11
       have H1 : ((phasorref06_Is.f a0).bind fun t173 => (if t173=true then (some a0) else (some 0)))=some r:=by rw [if_neg (show ¬ (false=true) by decide)] at H;exact H
       clear H
       have H:=H1
       clear H1
       replace H:=Option.bind_eq_some_iff.mp H
       obtain ⟨t173,A120,H⟩:=H
       replace H : (if t173=true then (some a0) else (some 0))=some r:=H
       have A12:=Aside0.mk A120
       clear A120
       by_cases c13 : t173=true
       ·subst c13
        have H1 : (some a0)=some r:=by rw [if_pos rfl] at H;exact H
        clear H
        have H:=H1
        clear H1
        obtain rfl:=Option.some.inj H
        go_wp2_with (first|((with_reducible refine gate_callee (f:=79) rfl ?_);refine goesL_ (some 19) rfl rfl Try.func79 (by kernel_rfl) rfl #[.int .i64 a0] rfl (by (try simp only [List.map_toArray,List.map_cons,List.map_nil]);first|done|rfl|(simp only [List.length_drop,List.length_take];rfl)) ?_;(with_reducible refine (phasorref06_Is.calls a0 true _ A12.out).mono ?_);rintro e w' ⟨rfl,⟨nd,rfl⟩⟩;refine ⟨_,rfl,?_⟩))
        go_ret
        exact ⟨by first|rfl|(simp;done)|(simp [*];done),by repeat (first|exact Drawn0.refl _|apply Drawn0.step)⟩
       ·replace c13:=Bool.eq_false_iff.mpr c13
        subst c13
        have H1 : (some 0)=some r:=by rw [if_neg (show ¬ (false=true) by decide)] at H;exact H
        clear H
        have H:=H1
        clear H1
        obtain rfl:=Option.some.inj H
        go_wp2_with (first|((with_reducible refine gate_callee (f:=79) rfl ?_);refine goesL_ (some 19) rfl rfl Try.func79 (by kernel_rfl) rfl #[.int .i64 a0] rfl (by (try simp only [List.map_toArray,List.map_cons,List.map_nil]);first|done|rfl|(simp only [List.length_drop,List.length_take];rfl)) ?_;(with_reducible refine (phasorref06_Is.calls a0 false _ A12.out).mono ?_);rintro e w' ⟨rfl,⟨nd,rfl⟩⟩;refine ⟨_,rfl,?_⟩))
        go_ret
        exact ⟨by first|rfl|(simp;done)|(simp [*];done),by repeat (first|exact Drawn0.refl _|apply Drawn0.step)⟩
end Go.Proofs.Ytbelnopbggkdfaa.Q
end

section
namespace Go.Proofs.Ytbelnopbggkdfaa.Q
open Go.RowKit Go.Proofs.YtbelnopbggkdfaaW.PrintWords Go.Proofs.YtbelnopbggkdfaaW.PrintLast Go.Proofs.YtbelnopbggkdfaaW.PrintMore
theorem runi_l0 {q b : Int} {l : List Opn} (hn : l.length≤1000000) :
    ∀ (d i : Nat),l.length - i=d→i≤l.length→Evt fun k => phasorref08_Unitary.l0 k (i : Int) q b l=some (!((l.drop i).any isBad))
  | 0,i,hd,hi => by
    refine (Evt.all (p:=fun _ => True) fun _ => trivial).succ fun k _ => ?_
    unfold phasorref08_Unitary.l0
    rw [if_neg (by omega),List.drop_eq_nil_of_le (by omega)]
    rfl
  | d + 1,i,hd,hi => by
    have hil : i < l.length:=by omega
    refine (runi_l0 (q:=q) (b:=b) hn d (i + 1) (by omega) (by omega)).succ fun k hk => ?_
    unfold phasorref08_Unitary.l0
    rw [if_pos (by omega),if_pos (by omega),rdT_nat hil,w64 (by omega) (by omega),show (i : Int) + 1=((i + 1 : Nat) : Int) by omega,hk,List.drop_eq_getElem_cons hil,List.any_cons]
    by_cases h1 : l[i].f0=4
    · rw [if_pos h1]
      have : isBad l[i]=false:=by unfold isBad;rw [h1];rfl
      rw [this,Bool.false_or]
    · rw [if_neg h1]
      have e1 : (l[i].f0 == 4)=false:=beq_eq_false_iff_ne.2 h1
      by_cases h2 : l[i].f0=1
      · rw [if_pos h2]
        by_cases h3 : l[i].f4=-1
        · rw [if_pos h3]
          have : isBad l[i]=false:=by unfold isBad;rw [h2,h3];rfl
          rw [this,Bool.false_or]
        · rw [if_neg h3]
          have e3 : (l[i].f4 == -1)=false:=beq_eq_false_iff_ne.2 h3
          have : isBad l[i]=true:=by unfold isBad;rw [e1,e3];simp
          rw [this,Bool.true_or]
          rfl
      · rw [if_neg h2]
        have e2 : (l[i].f0 == 1)=false:=beq_eq_false_iff_ne.2 h2
        have : isBad l[i]=true:=by unfold isBad;rw [e1,e2];rfl
        rw [this,Bool.true_or]
        rfl
theorem runi_is {q b : Int} {l : List Opn} (hn : l.length≤1000000) : Evt fun k => phasorref08_Unitary.f k q b l=some (!(l.any isBad)) :=
  (runi_l0 (q:=q) (b:=b) hn l.length 0 (by omega) (by omega)).mono fun k hk => by simpa [phasorref08_Unitary.f] using hk
theorem rinv_in : ∀ k : Nat,k < 20→phasorref06_Inverse.f 5 ((k + 1 : Nat) : Int)=some (Lift.inverseF ((k + 1 : Nat) : Int)):=by
  intro k hk
  obtain rfl|rfl|rfl|rfl|rfl|rfl|rfl|rfl|rfl|rfl|rfl|rfl|rfl|rfl|rfl|rfl|rfl|rfl|rfl|rfl : k=0∨k=1∨k=2∨k=3∨k=4∨k=5∨k=6∨k=7∨k=8∨k=9∨k=10∨k=11∨k=12∨k=13∨k=14∨k=15∨k=16∨k=17∨k=18∨k=19:=by omega
  all_goals simp [phasorref06_Inverse.f,phasorref06_Inverse.j0,phasorref06_Inverse.j1,phasorref06_Is.f]
  all_goals first|rfl|(rw [w64 (by omega) (by omega)];rfl)
theorem rinv_is {k : Int} (h1 : 1≤k) (h2 : k≤20) : phasorref06_Inverse.f 5 k=some (Lift.inverseF k):=by
  have:=rinv_in (k - 1).toNat (by omega)
  have e : (((k - 1).toNat + 1 : Nat) : Int)=k:=by omega
  rwa [e] at this
theorem gate_facts {q b : Int} {o : Opn} (h : mayO q b o=true) (h1 : o.f0=1) : 1≤o.f1∧o.f1≤20∧(o.f2.length : Int)=Lift.arityF o.f1:=by
  unfold mayO mayC at h
  rw [if_pos h1] at h
  unfold gateB checkB at h
  simp only [Bool.and_eq_true,beq_iff_eq] at h
  have h2:=h.1
  have ha : Lift.arityF o.f1≠0:=fun e => by rw [if_pos e] at h2;exact absurd h2 (by decide)
  rw [if_neg ha] at h2
  refine ⟨?_,?_,?_⟩
  · by_cases hk : o.f1 < 1
    · exact absurd (Lift.pick_out (.inl hk)) ha
    · omega
  · by_cases hk : 20 < o.f1
    · exact absurd (Lift.pick_out (.inr hk)) ha
    · omega
  · by_cases hl : (o.f2.length : Int)=Lift.arityF o.f1
    · exact hl
    · rw [if_pos hl] at h2
      exact absurd h2 (by decide)
set_option maxHeartbeats 4000000 in
set_option maxRecDepth 1000000 in
theorem empty_any (q b : Int) (A : Option Addr) (n c : Nat) (w : World) :
    Calls Try.prog 47 #[.agg #[.int .i64 q,.int .i64 b,.slice A n c]] w fun e w' => e=.returned (.agg #[.int .i64 q,.int .i64 b,.slice none 0 0])∧Below w.heap.size w w':=by
  have hu24:=Try.underlying24
  go_enter Try.func47,Try.ntmps47
  go_wp2
  refine bodyPost_ret (results_cell_row rfl _ _ (w.heap.size + 1) 24 #[.int .i64 q,.int .i64 b,.slice none 0 0] (0,0) _ rfl (by have:=blk_new (w.alloc (.cells #[.int .i64 q,.int .i64 b,.slice A n c] 24)) (.cells #[.int .i64 q,.int .i64 b,.slice none 0 0] 24);simpa using this) Try.underlying24 rfl (by kernel_rfl)) rfl ?_
  exact ⟨rfl,below_alloc (below_alloc (Below.refl _ _) _) _⟩
set_option maxHeartbeats 4000000 in
set_option maxRecDepth 1000000 in
theorem rinv_no (q b : Int) (A : Option Addr) (c : Nat) (l : List Opn) (w : World) (HC : Kd.C k46 w A l.length l) (hc : l.length≤c) (k1 : Nat) (e1 : phasorref08_May.f k1 q b l=some false) :
    Calls Try.prog 9 #[.agg #[.int .i64 q,.int .i64 b,.slice A l.length c]] w (Out w (0,0,[],80)):=by
  have E1:=Aside0.mk e1
  have HR:=Aside0.mk HC
  have HS:=Aside0.mk hc
  clear e1 HC hc
  have hu24:=Try.underlying24
  go_enter Try.func9,Try.ntmps9
  go_upto_region 1 with fail
  have F:=Aside0.mk (Fr.start (q:=q) (b:=b) (c:=c) HR.out)
  clear HR
  obtain ⟨g2,hg2⟩ : ∃ g,g=w.heap.size + 1:=⟨_,rfl⟩
  rw [← hg2] at F ⊢
  clear hg2
  generalize ((w.alloc _).alloc _)=W at F ⊢
  obtain ⟨c0,c1,c2,d0,d1,d2,f0,f1,f2⟩:=F.out.cells
  go_upto_region 2 with (go_at_call 24;(with_reducible refine (phasorref08_May.calls k1 q b _ _ l _ _ F.out.hc HS.out E1.out).mono ?_);rintro e w3 ⟨rfl,hb3⟩)
  replace F:=Aside0.mk (F.out.below hb3)
  clear c0 c1 c2 d0 d1 d2 f0 f1 f2
  obtain ⟨c0,c1,c2,d0,d1,d2,f0,f1,f2⟩:=F.out.cells
  clear hb3
  go_wp2
  refine bodyPost_ret (results_ct rfl _ _ g2 24 _ (0,0) _ rfl (F.out.put 0 0 (.slice none 0 0)) Try.underlying24 rfl (by kernel_rfl)) rfl ?_
  exact F.out.out Fr.nil
set_option maxHeartbeats 4000000 in
set_option maxRecDepth 1000000 in
theorem rinv_bad (q b : Int) (A : Option Addr) (c : Nat) (l : List Opn) (w : World) (HC : Kd.C k46 w A l.length l) (hc : l.length≤c) (k1 k2 : Nat) (e1 : phasorref08_May.f k1 q b l=some true) (e2 : phasorref08_Unitary.f k2 q b l=some false) :
    Calls Try.prog 9 #[.agg #[.int .i64 q,.int .i64 b,.slice A l.length c]] w (Out w (0,0,[],170)):=by
  have E1:=Aside0.mk e1
  have E2:=Aside0.mk e2
  have HR:=Aside0.mk HC
  have HS:=Aside0.mk hc
  clear e1 e2 HC hc
  have hu24:=Try.underlying24
  go_enter Try.func9,Try.ntmps9
  go_upto_region 1 with fail
  have F:=Aside0.mk (Fr.start (q:=q) (b:=b) (c:=c) HR.out)
  clear HR
  obtain ⟨g2,hg2⟩ : ∃ g,g=w.heap.size + 1:=⟨_,rfl⟩
  rw [← hg2] at F ⊢
  clear hg2
  generalize ((w.alloc _).alloc _)=W at F ⊢
  obtain ⟨c0,c1,c2,d0,d1,d2,f0,f1,f2⟩:=F.out.cells
  go_upto_region 3 with (go_at_call 24;(with_reducible refine (phasorref08_May.calls k1 q b _ _ l _ _ F.out.hc HS.out E1.out).mono ?_);rintro e w3 ⟨rfl,hb3⟩)
  replace F:=Aside0.mk (F.out.below hb3)
  clear c0 c1 c2 d0 d1 d2 f0 f1 f2
  obtain ⟨c0,c1,c2,d0,d1,d2,f0,f1,f2⟩:=F.out.cells
  clear hb3
  go_upto_region 4 with (go_at_call 46;(with_reducible refine (phasorref08_Unitary.calls k2 q b _ _ l _ _ F.out.hc HS.out E2.out).mono ?_);rintro e w4 ⟨rfl,hb4⟩)
  replace F:=Aside0.mk (F.out.below hb4)
  clear c0 c1 c2 d0 d1 d2 f0 f1 f2
  obtain ⟨c0,c1,c2,d0,d1,d2,f0,f1,f2⟩:=F.out.cells
  clear hb4
  go_wp2
  refine bodyPost_ret (results_ct rfl _ _ g2 24 _ (0,0) _ rfl (F.out.put 0 0 (.slice none 0 0)) Try.underlying24 rfl (by kernel_rfl)) rfl ?_
  exact F.out.out Fr.nil
set_option maxHeartbeats 4000000 in
set_option maxRecDepth 1000000 in
theorem rinv_good (q b : Int) (A : Option Addr) (c : Nat) (l : List Opn) (w : World) (HC : Kd.C k46 w A l.length l) (hc : l.length≤c) (k1 k2 k3 : Nat) (e1 : phasorref08_May.f k1 q b l=some true) (e2 : phasorref08_Unitary.f k2 q b l=some true) (e3 : phasorref08_Copy.f k3 q b l=some (q,b,l))
    (hnl : (l.length : Int)≤4096) (hwf : ∀ o ∈ l,o.f0=1→1≤o.f1∧o.f1≤20) :
    Calls Try.prog 9 #[.agg #[.int .i64 q,.int .i64 b,.slice A l.length c]] w (Out w (q,b,l.reverse.map invO,0)):=by
  have E1:=Aside0.mk e1
  have E2:=Aside0.mk e2
  have E3:=Aside0.mk e3
  have HR:=Aside0.mk HC
  have HS:=Aside0.mk hc
  have HWF:=Aside0.mk hwf
  have HNL:=Aside0.mk hnl
  have hu46:=Try.underlying46
  clear e1 e2 e3 HC hc hwf
  obtain ⟨R,hR⟩ : ∃ R,R=l.reverse.map invO:=⟨_,rfl⟩
  rw [← hR]
  have HRR:=Aside0.mk hR
  have HRL:=Aside0.mk (show R.length=l.length by rw [hR];simp)
  clear hR
  have hu24:=Try.underlying24
  go_enter Try.func9,Try.ntmps9
  go_upto_region 1 with fail
  have F:=Aside0.mk (Fr.start (q:=q) (b:=b) (c:=c) HR.out)
  clear HR
  obtain ⟨g2,hg2⟩ : ∃ g,g=w.heap.size + 1:=⟨_,rfl⟩
  rw [← hg2] at F ⊢
  clear hg2
  generalize ((w.alloc _).alloc _)=W at F ⊢
  obtain ⟨c0,c1,c2,d0,d1,d2,f0,f1,f2⟩:=F.out.cells
  go_upto_region 3 with (go_at_call 24;(with_reducible refine (phasorref08_May.calls k1 q b _ _ l _ _ F.out.hc HS.out E1.out).mono ?_);rintro e w3 ⟨rfl,hb3⟩)
  replace F:=Aside0.mk (F.out.below hb3)
  clear c0 c1 c2 d0 d1 d2 f0 f1 f2
  obtain ⟨c0,c1,c2,d0,d1,d2,f0,f1,f2⟩:=F.out.cells
  clear hb3
  go_upto_region 5 with (go_at_call 46;(with_reducible refine (phasorref08_Unitary.calls k2 q b _ _ l _ _ F.out.hc HS.out E2.out).mono ?_);rintro e w4 ⟨rfl,hb4⟩)
  replace F:=Aside0.mk (F.out.below hb4)
  clear c0 c1 c2 d0 d1 d2 f0 f1 f2
  obtain ⟨c0,c1,c2,d0,d1,d2,f0,f1,f2⟩:=F.out.cells
  clear hb4
  go_upto_region 6 with (go_at_call 7;(with_reducible refine (phasorref08_Copy.calls k3 q b _ _ l _ _ _ _ F.out.hc HS.out E3.out).mono ?_);rintro e w5 ⟨v1,rfl,ho1,hb5⟩;obtain ⟨Ad,cd,rfl⟩:=Kd.S_slice ho1)
  have HD:=Aside0.mk (Src.of (base:=w.heap.size) ho1 F.out.hb.size (blk_lt F.out.b2))
  replace F:=Aside0.mk (F.out.below hb5)
  clear c0 c1 c2 d0 d1 d2 f0 f1 f2
  obtain ⟨c0,c1,c2,d0,d1,d2,f0,f1,f2⟩:=F.out.cells
  have bb:=below_alloc (Below.refl w5.heap.size w5) (.cells #[.int .i64 q,.int .i64 b,.slice Ad l.length cd] 24)
  have BD:=Aside0.mk (blk_new w5 (.cells #[.int .i64 q,.int .i64 b,.slice Ad l.length cd] 24))
  replace HD:=Aside0.mk ((HD.out.below bb).up bb.size)
  replace F:=Aside0.mk (F.out.below bb)
  clear c0 c1 c2 d0 d1 d2 f0 f1 f2
  obtain ⟨c0,c1,c2,d0,d1,d2,f0,f1,f2⟩:=F.out.cells
  clear bb hb5 ho1
  generalize w5.heap.size=g4 at BD ⊢
  generalize w5.alloc _=w6 at BD HD F c0 c1 c2 d0 d1 d2 f0 f1 f2 ⊢
  go_upto_region 7 with (go_at_call 47;(with_reducible refine (empty_any _ _ _ _ _ _).mono ?_);rintro e W1 ⟨rfl,hb7⟩)
  replace F:=Aside0.mk (F.out.below hb7)
  clear c0 c1 c2 d0 d1 d2 f0 f1 f2
  obtain ⟨c0,c1,c2,d0,d1,d2,f0,f1,f2⟩:=F.out.cells
  replace HD:=Aside0.mk ((HD.out.below hb7).up hb7.size)
  replace BD:=Aside0.mk (blk_below BD.out hb7)
  clear hb7
  have bb:=below_alloc (Below.refl W1.heap.size W1) (.cells #[.int .i64 q,.int .i64 b,.slice none 0 0] 24)
  have HG2:=Aside0.mk (show g2 < W1.heap.size from blk_lt F.out.b2)
  have HS1:=Aside0.mk F.out.hb.size
  have HG4:=Aside0.mk (blk_lt BD.out)
  have HL:=Aside0.mk (show Bld w.heap.size W1 g2 q b (R.take (l.length - l.length)) (.slice none 0 0) (W1.alloc (.cells #[.int .i64 q,.int .i64 b,.slice none 0 0] 24)) from
    ⟨blk_new W1 _,by rw [Nat.sub_self,List.take_zero];exact Kd.N_nil _ _ _ _ _,bb⟩)
  have d4 : (W1.alloc (.cells #[.int .i64 q,.int .i64 b,.slice none 0 0] 24)).cell? ⟨g4,2,none⟩=some (.slice Ad l.length cd):=by rw [blk_cell (blk_below BD.out bb)];rfl
  generalize hgB : W1.heap.size=gB at ⊢
  generalize W1.alloc _=W7 at HL d4 ⊢
  clear c0 c1 c2 d0 d1 d2 f0 f1 f2 bb
  go_wp2_with fail
  go_loopg [6] l.length (fun gk v6 wr => ∃ i : Nat,i≤l.length∧i≤gk∧v6=.int .i64 ((i : Int) - 1)∧∃ v,Aside0 (Bld w.heap.size W1 g2 q b (R.take (l.length - i)) v wr))
  case atStart => exact ⟨l.length,by omega,by omega,by go_num,_,HL⟩
  case round =>
    obtain ⟨i,hi0,hi1,rfl,v,HI⟩:=hrel
    by_cases hlt : 0 < i
    · obtain ⟨j,rfl⟩ : ∃ j,i=j + 1:=⟨i - 1,by omega⟩
      obtain ⟨x,hx⟩ : ∃ x,l[j]?=some x:=⟨_,List.getElem?_eq_getElem (by omega)⟩
      have HX:=Aside0.mk hx
      have hj : j < l.length:=by omega
      have ej : (((j + 1 : Nat) : Int) - 1)=(j : Int):=by omega
      rw [ej]
      have hbw:=HI.out.hb
      have d4r : wr.cell? ⟨g4,2,none⟩=some (.slice Ad l.length cd):=by rw [blk_cell (blk_below BD.out hbw)];rfl
      have e5 : wr.heap[gB]?=some (.cells #[.int .i64 q,.int .i64 b,v] 24 (0,0)):=by rw [← hgB];exact HI.out.bx
      have hsr:=HD.out.below hbw
      obtain ⟨gD,A2,c2,rfl,hcx,hF⟩:=hsr.at hx
      have a0:=hcx 0 _ rfl
      have a1:=hcx 1 _ rfl
      have a2:=hcx 2 _ rfl
      have a3:=hcx 3 _ rfl
      have a4:=hcx 4 _ rfl
      have a5:=hcx 5 _ rfl
      simp only [Nat.add_zero] at a0
      unfold ofV at a0 a1 a2 a3 a4 a5
      dsimp only at a0 a1 a2 a3 a4 a5
      clear hcx
      have hl8 : l.length≤4096:=by have:=HNL.out;omega
      have hlI:=HI.out
      go_upto_region 11 with fail
      have bb7:=below_alloc (Below.refl wr.heap.size wr) (.cells #[.int .i64 x.f0,.int .i64 x.f1,.slice A2 x.f2.length c2,.int .i64 x.f3,.int .i64 x.f4,.int .i64 x.f5] 46)
      have y7:=blk_new wr (.cells #[.int .i64 x.f0,.int .i64 x.f1,.slice A2 x.f2.length c2,.int .i64 x.f3,.int .i64 x.f4,.int .i64 x.f5] 46)
      clear a0 a1 a2 a3 a4 a5 d4r e5 hsr hbw hlI
      have BW:=Aside0.mk bb7
      have HF:=Aside0.mk hF
      have HG7:=Aside0.mk (Nat.le_refl wr.heap.size)
      clear hF bb7
      generalize hg7 : wr.heap.size=g7 at y7 HG7 ⊢
      rw [← hg7] at HG7
      have HG7:=Aside0.mk (show wr.heap.size≤g7 by omega)
      clear hg7
      generalize wr.alloc _=wa at y7 BW ⊢
      have a0 : wa.cell? ⟨g7,0,none⟩=some (.int .i64 x.f0):=by rw [blk_cell y7];rfl
      have KEY : ∀ wz : World,Below wr.heap.size wr wz→Bld w.heap.size W1 g2 q b (R.take (l.length - (j + 1))) v wz∧Kd.FK k46w wz (fun k => w.heap.size≤k∧k≠g2∧k < W1.heap.size) (invO x) (ofV (invO x) A2 c2).cs:=fun wz hz => ⟨HI.out.below hz,FK_same (Kd.FK_below HF.out hz) (by unfold invO;split <;> rfl)⟩
      have HKEY:=Aside0.mk KEY
      clear KEY HI HF
      have HW:=Aside0.mk (show R.take (l.length - (j + 1)) ++ [invO x]=R.take (l.length - j) by
        have h1 : l.length - (j + 1) < R.length:=by rw [HRL.out];omega
        rw [show l.length - j=(l.length - (j + 1)) + 1 by omega,List.take_succ_eq_append_getElem h1]
        congr 2
        have e:=HRR.out
        subst e
        rw [List.getElem_map,List.getElem_reverse]
        congr 1
        have:=(List.getElem?_eq_some_iff.1 hx).2
        rw [← this]
        congr 1
        omega)
      by_cases hk : x.f0=1
      · have hkb : (x.f0 == 1)=true:=beq_iff_eq.2 hk
        have a1 : wa.cell? ⟨g7,1,none⟩=some (.int .i64 x.f1):=by rw [blk_cell y7];rfl
        have Y7:=Aside0.mk y7
        have hg:=HWF.out x (List.mem_of_getElem? hx) hk
        have HIV:=Aside0.mk (rinv_is hg.1 hg.2)
        have HNV:=Aside0.mk (show invO x={ x with f1:=Lift.inverseF x.f1 } by unfold invO;rw [if_pos hk])
        clear hg hx y7 hk
        go_upto_region 13 with (go_at_call 48;(with_reducible refine (phasorref06_Inverse.calls 5 x.f1 _ _ HIV.out).mono ?_);rintro e wb ⟨rfl,hd⟩;have hbb : Below wa.heap.size wa wb:=hd.below;replace BW:=Aside0.mk (below_step BW.out hbb);have y8:=blk_below Y7.out hbb;have z1 : wb.cell? ⟨g7,1,none⟩=some (.int .i64 x.f1):=(by rw [blk_cell y8];rfl);have z1f:=blk_frozen y8 1)
        have yb:=blk_put y8 1 (.int .i64 (Lift.inverseF x.f1)) rfl
        replace BW:=Aside0.mk (below_set BW.out HG7.out : Below wr.heap.size wr (wb.setCell ⟨g7,1,none⟩ (.int .i64 (Lift.inverseF x.f1))))
        clear a0 a1 y8 z1 z1f hd hbb
        generalize World.setCell _ _ _=wz at BW yb ⊢
        have HE:=Aside0.mk (show (ofV (invO x) A2 c2).cs=[.int .i64 x.f0,.int .i64 (Lift.inverseF x.f1),.slice A2 x.f2.length c2,.int .i64 x.f3,.int .i64 x.f4,.int .i64 x.f5] by rw [HNV.out];rfl)
        have q1 : wz.cell? ⟨g7,1,none⟩=some (.int .i64 (Lift.inverseF x.f1)):=by rw [blk_cell yb];rfl
        have q0 : wz.cell? ⟨g7,0,none⟩=some (.int .i64 x.f0):=by rw [blk_cell yb];rfl
        have q2 : wz.cell? ⟨g7,2,none⟩=some (.slice A2 x.f2.length c2):=by rw [blk_cell yb];rfl
        have q3 : wz.cell? ⟨g7,3,none⟩=some (.int .i64 x.f3):=by rw [blk_cell yb];rfl
        have q4 : wz.cell? ⟨g7,4,none⟩=some (.int .i64 x.f4):=by rw [blk_cell yb];rfl
        have q5 : wz.cell? ⟨g7,5,none⟩=some (.int .i64 x.f5):=by rw [blk_cell yb];rfl
        have hkb:=HKEY.out _ BW.out
        have HK1:=Aside0.mk hkb.1
        have HF1:=Aside0.mk hkb.2
        have b2 : wz.cell? ⟨gB,2,none⟩=some v:=by rw [← hgB,blk_cell hkb.1.bx];rfl
        clear hkb yb
        go_wp2_with ((with_reducible refine gate_builtin (b:=.append) (xs:=#[.tmp 41,.tmp 43]) rfl ?_);at_builtin;refine Bld.one HK1.out rfl (.tmp 41) (.tmp 43) rfl (invO x) _ _ rfl rfl (by have:=HF1.out;rw [HE.out] at this;exact this) (Bld.okp HK1.out) HS1.out HG2.out (by have:=HRL.out;simp;omega) ?_;intro v1 w1 hB1 hk1 hb1;rw [HW.out] at hB1;rw [hgB] at hB1 hk1;obtain ⟨Av,nv,cv,rfl⟩:=hB1.form;have HB1:=Aside0.mk hB1;have s2 : w1.cell? ⟨gB,2,none⟩=some v:=(by rw [blk_cell hk1];rfl);have s2f:=blk_frozen hk1 2;clear hB1 hk1 hb1)
        go_roundg j
        case measure => omega
        case rel => exact ⟨j,by omega,by omega,by go_num,_,HB1⟩
      · have hkb : (x.f0 == 1)=false:=beq_eq_false_iff_ne.2 hk
        have HNV:=Aside0.mk (show invO x=x by unfold invO;rw [if_neg hk])
        have yb:=y7
        clear hx y7 hk
        go_upto_region 13 with fail
        clear a0
        generalize wa=wz at BW yb ⊢
        have HE:=Aside0.mk (show (ofV (invO x) A2 c2).cs=[.int .i64 x.f0,.int .i64 x.f1,.slice A2 x.f2.length c2,.int .i64 x.f3,.int .i64 x.f4,.int .i64 x.f5] by rw [HNV.out];rfl)
        have q1 : wz.cell? ⟨g7,1,none⟩=some (.int .i64 x.f1):=by rw [blk_cell yb];rfl
        have q0 : wz.cell? ⟨g7,0,none⟩=some (.int .i64 x.f0):=by rw [blk_cell yb];rfl
        have q2 : wz.cell? ⟨g7,2,none⟩=some (.slice A2 x.f2.length c2):=by rw [blk_cell yb];rfl
        have q3 : wz.cell? ⟨g7,3,none⟩=some (.int .i64 x.f3):=by rw [blk_cell yb];rfl
        have q4 : wz.cell? ⟨g7,4,none⟩=some (.int .i64 x.f4):=by rw [blk_cell yb];rfl
        have q5 : wz.cell? ⟨g7,5,none⟩=some (.int .i64 x.f5):=by rw [blk_cell yb];rfl
        have hkb:=HKEY.out _ BW.out
        have HK1:=Aside0.mk hkb.1
        have HF1:=Aside0.mk hkb.2
        have b2 : wz.cell? ⟨gB,2,none⟩=some v:=by rw [← hgB,blk_cell hkb.1.bx];rfl
        clear hkb yb
        go_wp2_with ((with_reducible refine gate_builtin (b:=.append) (xs:=#[.tmp 41,.tmp 43]) rfl ?_);at_builtin;refine Bld.one HK1.out rfl (.tmp 41) (.tmp 43) rfl (invO x) _ _ rfl rfl (by have:=HF1.out;rw [HE.out] at this;exact this) (Bld.okp HK1.out) HS1.out HG2.out (by have:=HRL.out;simp;omega) ?_;intro v1 w1 hB1 hk1 hb1;rw [HW.out] at hB1;rw [hgB] at hB1 hk1;obtain ⟨Av,nv,cv,rfl⟩:=hB1.form;have HB1:=Aside0.mk hB1;have s2 : w1.cell? ⟨gB,2,none⟩=some v:=(by rw [blk_cell hk1];rfl);have s2f:=blk_frozen hk1 2;clear hB1 hk1 hb1)
        go_roundg j
        case measure => omega
        case rel => exact ⟨j,by omega,by omega,by go_num,_,HB1⟩
    · obtain rfl : i=0:=by omega
      have hF0:=HI.out
      have e5 : wr.heap[gB]?=some (.cells #[.int .i64 q,.int .i64 b,v] 24 (0,0)):=by rw [← hgB];exact hF0.bx
      have o0 : wr.cell? ⟨gB,0,none⟩=some (.int .i64 q):=by rw [blk_cell e5];rfl
      have o1 : wr.cell? ⟨gB,1,none⟩=some (.int .i64 b):=by rw [blk_cell e5];rfl
      have o2 : wr.cell? ⟨gB,2,none⟩=some v:=by rw [blk_cell e5];rfl
      obtain ⟨Av,nv,cv,rfl⟩:=hF0.form
      have hN:=Aside0.mk (hF0.res HS1.out)
      have hlt0 : ¬ (0 : Int)≤(0 : Int) - 1:=by omega
      replace F:=Aside0.mk (F.out.below hF0.hb)
      have e : R.take (l.length - 0)=R:=by rw [Nat.sub_zero,← HRL.out,List.take_length]
      rw [e] at hN
      obtain ⟨c0,c1,c2,d0,d1,d2,f0,f1,f2⟩:=F.out.cells
      clear hF0 e5 d4
      go_wp2
      refine bodyPost_ret (results_ct rfl _ _ g2 24 _ (0,0) _ rfl (F.out.put q b (.slice Av nv cv)) Try.underlying24 rfl (by kernel_rfl)) rfl ?_
      exact F.out.out hN.out
theorem rinverse_out {q b : Int} {A : Option Addr} {c : Nat} {l : List Opn} {w : World} (HC : Kd.C k46 w A l.length l) (hc : l.length≤c) (hw : WfL l) :
    Calls Try.prog 9 #[.agg #[.int .i64 q,.int .i64 b,.slice A l.length c]] w (Out w (invR q b l)):=by
  obtain ⟨k1,e1⟩:=(may_is (q:=q) (b:=b) hw).get
  unfold invR
  by_cases h : okc q b l=true
  · have ho:=okc_facts h
    have hn:=ho.n
    obtain ⟨k2,e2⟩:=(runi_is (q:=q) (b:=b) (l:=l) (by omega)).get
    rw [h] at e1
    rw [if_pos h]
    by_cases hb : l.any isBad=true
    · rw [if_pos hb]
      rw [hb] at e2
      exact rinv_bad q b A c l w HC hc k1 k2 e1 e2
    · rw [if_neg hb]
      rw [Bool.not_eq_true] at hb
      rw [hb] at e2
      obtain ⟨k3,e3⟩:=(rcopy_is (q:=q) (b:=b) (l:=l) (fun o ho2 => by have:=(ho.op o ho2).len;omega) (by omega)).get
      exact rinv_good q b A c l w HC hc k1 k2 k3 e1 e2 e3 (by omega) (fun o ho2 h1 => by
        have:=gate_facts (ho.may o ho2) h1
        exact ⟨this.1,this.2.1⟩)
  · rw [if_neg h]
    rw [Bool.not_eq_true] at h
    rw [h] at e1
    exact rinv_no q b A c l w HC hc k1 e1
end Go.Proofs.Ytbelnopbggkdfaa.Q
end

section
namespace Go.Proofs.Ytbelnopbggkdfaa.Q
open Go.RowKit Go.Proofs.YtbelnopbggkdfaaW.PrintWords Go.Proofs.YtbelnopbggkdfaaW.PrintLast Go.Proofs.YtbelnopbggkdfaaW.PrintMore
set_option maxHeartbeats 4000000 in
set_option maxRecDepth 1000000 in
theorem more_any (ok : Nat→Prop) (q b : Int) (A : Option Addr) (c : Nat) (l : List Opn) (q' b' : Int) (A' : Option Addr) (c' : Nat) (l' : List Opn) (w : World) (hbase : ∀ k,w.heap.size≤k→ok k) (HA : Kd.F k46w w ok A l.length l)
    (HC : Kd.C k46 w A' l'.length l') (hc : l'.length≤c') (k1 : Nat) (e1 : phasorref08_Copy.f k1 q' b' l'=some (q',b',l')) (hl1 : l.length≤10000) (hl2 : l'.length≤10000) :
    Calls Try.prog 55 #[.agg #[.int .i64 q,.int .i64 b,.slice A l.length c],.agg #[.int .i64 q',.int .i64 b',.slice A' l'.length c']] w fun e w' =>
      ∃ v,e=.returned (.agg #[.int .i64 q,.int .i64 b,v])∧Kd.N k46w 46 w' w.heap.size ok v (l ++ l')∧Below w.heap.size w w':=by
  have hu24:=Try.underlying24
  have E1:=Aside0.mk e1
  have HR:=Aside0.mk HC
  have HS:=Aside0.mk hc
  have HFA:=Aside0.mk (Kd.F_bound HA)
  have HBS:=Aside0.mk hbase
  have HL1:=Aside0.mk hl1
  have HL2:=Aside0.mk hl2
  clear e1 HC hc HA hbase hl1 hl2
  go_enter Try.func55,Try.ntmps55
  go_upto_region 1 with fail
  have bA : (((w.alloc (.cells #[.int .i64 q,.int .i64 b,.slice A l.length c] 24)).alloc (.cells #[.int .i64 q',.int .i64 b',.slice A' l'.length c'] 24)).alloc (.cells #[.int .i64 0,.int .i64 0,.slice none 0 0] 24)).heap[w.heap.size]?=some (.cells #[.int .i64 q,.int .i64 b,.slice A l.length c] 24 (0,0)) :=
    blk_alloc (blk_alloc (blk_new w _) _) _
  have bB : (((w.alloc (.cells #[.int .i64 q,.int .i64 b,.slice A l.length c] 24)).alloc (.cells #[.int .i64 q',.int .i64 b',.slice A' l'.length c'] 24)).alloc (.cells #[.int .i64 0,.int .i64 0,.slice none 0 0] 24)).heap[w.heap.size + 1]?=some (.cells #[.int .i64 q',.int .i64 b',.slice A' l'.length c'] 24 (0,0)):=by
    refine blk_alloc ?_ _
    have:=blk_new (w.alloc (.cells #[.int .i64 q,.int .i64 b,.slice A l.length c] 24)) (.cells #[.int .i64 q',.int .i64 b',.slice A' l'.length c'] 24)
    simpa using this
  have bR : (((w.alloc (.cells #[.int .i64 q,.int .i64 b,.slice A l.length c] 24)).alloc (.cells #[.int .i64 q',.int .i64 b',.slice A' l'.length c'] 24)).alloc (.cells #[.int .i64 0,.int .i64 0,.slice none 0 0] 24)).heap[w.heap.size + 1 + 1]?=some (.cells #[.int .i64 0,.int .i64 0,.slice none 0 0] 24 (0,0)):=by
    have:=blk_new ((w.alloc (.cells #[.int .i64 q,.int .i64 b,.slice A l.length c] 24)).alloc (.cells #[.int .i64 q',.int .i64 b',.slice A' l'.length c'] 24)) (.cells #[.int .i64 0,.int .i64 0,.slice none 0 0] 24)
    simpa using this
  have hb0 : Below w.heap.size w (((w.alloc (.cells #[.int .i64 q,.int .i64 b,.slice A l.length c] 24)).alloc (.cells #[.int .i64 q',.int .i64 b',.slice A' l'.length c'] 24)).alloc (.cells #[.int .i64 0,.int .i64 0,.slice none 0 0] 24)) :=
    below_alloc (below_alloc (below_alloc (Below.refl _ _) _) _) _
  obtain ⟨gA,hgA⟩ : ∃ g,g=w.heap.size:=⟨_,rfl⟩
  obtain ⟨gB,hgB⟩ : ∃ g,g=w.heap.size + 1:=⟨_,rfl⟩
  obtain ⟨gR,hgR⟩ : ∃ g,g=w.heap.size + 1 + 1:=⟨_,rfl⟩
  have HG:=Aside0.mk (show gA=w.heap.size∧gB=w.heap.size + 1∧gR=w.heap.size + 1 + 1 from ⟨hgA,hgB,hgR⟩)
  rw [← hgR] at bR ⊢
  rw [← hgB] at bB ⊢
  rw [← hgA] at bA
  (simp only [← hgA])
  have HB0:=Aside0.mk hb0
  clear hgA hgB hgR hb0
  generalize ((w.alloc _).alloc _).alloc _=W at bA bB bR HB0 ⊢
  have q0 : W.cell? ⟨gB,0,none⟩=some (.int .i64 q'):=by rw [blk_cell bB];rfl
  have q1 : W.cell? ⟨gB,1,none⟩=some (.int .i64 b'):=by rw [blk_cell bB];rfl
  have q2 : W.cell? ⟨gB,2,none⟩=some (.slice A' l'.length c'):=by rw [blk_cell bB];rfl
  have BA:=Aside0.mk bA
  have BR:=Aside0.mk bR
  have BB:=Aside0.mk bB
  clear bA bB bR
  go_upto_region 2 with (go_at_call 7;(with_reducible refine (phasorref08_Copy.calls k1 q' b' _ _ l' _ _ _ _ (Kd.C_below HR.out (HB0.out.mono (Nat.le_refl _))) HS.out E1.out).mono ?_);rintro e w5 ⟨v1,rfl,ho1,hb5⟩;obtain ⟨Ad,cd,rfl⟩:=Kd.S_slice ho1)
  have hL : Kd.F k46w w5 (fun k => W.heap.size≤k∧k < w5.heap.size) Ad l'.length l' :=
    Kd.N_F (Kd.N_mono (Kd.S_N (k46w_S (Kd.S_bound ho1))) (fun k hk => ⟨hk.2.1,hk.2.2.1⟩))
  have bb:=below_alloc (Below.refl w5.heap.size w5) (.cells #[.int .i64 q',.int .i64 b',.slice Ad l'.length cd] 24)
  have yD:=blk_new w5 (.cells #[.int .i64 q',.int .i64 b',.slice Ad l'.length cd] 24)
  have HFB:=Aside0.mk (Kd.F_mono (Kd.F_below hL bb) (fun k hk => show W.heap.size≤k∧k < (w5.alloc (.cells #[.int .i64 q',.int .i64 b',.slice Ad l'.length cd] 24)).heap.size from ⟨hk.1,by have:=bb.size;omega⟩))
  have hWS : w.heap.size≤W.heap.size:=HB0.out.size
  replace HFA:=Aside0.mk (Kd.F_below (Kd.F_below (Kd.F_below HFA.out HB0.out) hb5) bb)
  replace BA:=Aside0.mk (blk_below (blk_below BA.out hb5) bb)
  have hgRW : gR < W.heap.size:=blk_lt BR.out
  replace BR:=Aside0.mk (blk_below (blk_below BR.out hb5) bb)
  have HB1:=Aside0.mk ((HB0.out.trans (hb5.mono hWS)).trans (bb.mono (Nat.le_trans hWS hb5.size)))
  have HN1:=Aside0.mk (show W.heap.size≤(w5.alloc (.cells #[.int .i64 q',.int .i64 b',.slice Ad l'.length cd] 24)).heap.size from Nat.le_trans hb5.size bb.size)
  have HWS:=Aside0.mk hWS
  have HRW:=Aside0.mk hgRW
  generalize w5.heap.size=gD at yD ⊢
  generalize w5.alloc _=wc at yD HFA HFB BA BR HB1 HN1 ⊢
  have a2 : wc.drew.cell? ⟨gA,2,none⟩=some (.slice A l.length c):=by rw [blk_cell (blk_drew BA.out)];rfl
  have d2 : wc.drew.cell? ⟨gD,2,none⟩=some (.slice Ad l'.length cd):=by rw [blk_cell (blk_drew yD)];rfl
  replace BA:=Aside0.mk (blk_drew BA.out)
  replace BR:=Aside0.mk (blk_drew BR.out)
  replace HFA:=Aside0.mk (Kd.F_below HFA.out (below_drew (Below.refl _ _)))
  replace HFB:=Aside0.mk (show Kd.F k46w wc.drew (fun k => W.heap.size≤k∧k < wc.drew.heap.size) Ad l'.length l' from Kd.F_below HFB.out (below_drew (Below.refl _ _)))
  replace HB1:=Aside0.mk (below_drew HB1.out)
  replace HN1:=Aside0.mk (show W.heap.size≤wc.drew.heap.size from HN1.out)
  have HOKP:=Aside0.mk (show ∀ k,wc.drew.heap.size≤k→ok k∧k≠gA∧k≠gR from fun k hk => by have h1:=HBS.out k;have:=HG.out;have:=HRW.out;have:=HN1.out;have:=HWS.out;exact ⟨h1 (by omega),by omega,by omega⟩)
  clear hL bb yD hWS hgRW q0 q1 q2 hb5 ho1
  refine start_ (n:=9) (S:=fun w' => w'.cell? ⟨gA,2,none⟩=some (.slice A l.length c)∧w'.cell? ⟨gD,2,none⟩=some (.slice Ad l'.length cd)) (ds:=[8]) #[false,false,false,false,false,false,false,false,false] (by kernel_rfl) rfl rfl ⟨a2,d2⟩ (fun hHeld => ?_)
  generalize wc.drew=wd at a2 d2 BA BR HFA HFB HB1 HN1 HOKP hHeld ⊢
  refine pure_ (i:=1) (N:=some 9) (v:=?_) (a':=?_) #[false,true,false,false,false,false,false,false,false] rfl rfl (by kernel_rfl) (fun _ _ _ h => h) (Or.inl ⟨by rfl,?_⟩) ?_ ?_
  rotate_left
  · intro w'
    go_simp
    with_reducible rfl
  rotate_left
  · simp only [Act.put,List.setIfInBounds_toArray,List.set_cons_zero,List.set_cons_succ]
    rfl
  refine pure_ (i:=4) (N:=some 12) (v:=?_) (a':=?_) #[false,true,false,false,true,false,false,false,false] rfl rfl (by kernel_rfl) (fun _ _ _ h => h) (Or.inl ⟨by rfl,?_⟩) ?_ ?_
  rotate_left
  · intro w'
    go_simp
    with_reducible rfl
  rotate_left
  · simp only [Act.put,List.setIfInBounds_toArray,List.set_cons_zero,List.set_cons_succ]
    rfl
  refine take_ (i:=2) (N:=some 10) (v:=?_) (a':=?_) #[false,true,true,false,true,false,false,false,false] rfl rfl (by kernel_rfl) (fun _ _ _ h => h) (Or.inl ⟨by rfl,?_⟩) hHeld ?_ ?_
  rotate_left
  · rintro w' ⟨s0,s1⟩
    go_simp
    with_reducible rfl
  rotate_left
  · simp only [Act.put,List.setIfInBounds_toArray,List.set_cons_zero,List.set_cons_succ]
    rfl
  refine take_ (i:=5) (N:=some 13) (v:=?_) (a':=?_) #[false,true,true,false,true,true,false,false,false] rfl rfl (by kernel_rfl) (fun _ _ _ h => h) (Or.inl ⟨by rfl,?_⟩) hHeld ?_ ?_
  rotate_left
  · rintro w' ⟨s0,s1⟩
    go_simp
    with_reducible rfl
  rotate_left
  · simp only [Act.put,List.setIfInBounds_toArray,List.set_cons_zero,List.set_cons_succ]
    rfl
  refine one_ (i:=0) (N:=some 8) #[true,true,true,false,true,true,false,false,false] rfl rfl (by kernel_rfl) (by decide) (fun K hK => ?_)
  refine Kd.N_lit_step k46w (w0:=wd) wd.heap.size 46 ?hg (N':=8) ?hd (xs:=([] : List Opn)) (inner:=[]) (ok:=(fun k => ok k∧k≠gA∧k≠gR)) (okp:=(fun k => ok k∧k≠gA∧k≠gR)) ?hr ?hp (fun _ hk => hk) (HOKP.out _ (Nat.le_refl _)) (Below.refl _ _) (Nat.le_refl _) (by simp) ?_;(case hd => rfl);(case hg => rfl);(case hr => first|(go_simp;done)|(go_simp;rfl));(case hp => exact (Reps.none _ _))
  intro v1 x1 hn1 hb1 hg1 ha1
  refine hK.out _ _ ⟨below_cell hb1 a2,below_cell hb1 d2⟩ (fun hHeld => ?_)
  clear hK K
  refine norm_ (a':=?_) ?_ ?_
  rotate_left
  · show Act.put _ (some 8) _=_
    simp only [Act.put,List.setIfInBounds_toArray,List.set_cons_zero,List.set_cons_succ]
    rfl
  refine one_ (i:=3) (N:=some 11) #[true,true,true,true,true,true,false,false,false] rfl rfl (by kernel_rfl) (by decide) (fun K hK => ?_)
  refine Kd.N_append_rows_step k46w (w0:=wd) wd.heap.size (by rfl) (.tmp 8) (.tmp 10) 22 46 (.agg #[.int .i64 0,.int .i64 0,.slice none 0 0,.int .i64 0,.int .i64 0,.int .i64 0]) 64 rfl Try.underlying22 info46 rfl (by decide) (by omega) v1 [] l A l.length c (fun k => ok k∧k≠gA∧k≠gR) (fun k => ok k∧k < w.heap.size) rfl rfl hn1 (Kd.F_below HFA.out hb1) (fun k hk => ⟨⟨hk.1,by have:=HG.out;omega,by have:=HG.out;omega⟩,fun e => by have:=Kd.N_base hn1 k e.symm;have:=HN1.out;have:=HWS.out;omega⟩) (fun k hk => HOKP.out k (Nat.le_trans hb1.size hk)) hb1 hb1.size (by have:=HL1.out;simp;omega) ?_
  intro v2 x2 hn2 hb2 hg2 ha2
  refine hK.out _ _ ⟨below_cell hb2 a2,below_cell hb2 d2⟩ (fun hHeld => ?_)
  clear hK K
  refine norm_ (a':=?_) ?_ ?_
  rotate_left
  · show Act.put _ (some 11) _=_
    simp only [Act.put,List.setIfInBounds_toArray,List.set_cons_zero,List.set_cons_succ]
    rfl
  refine one_ (i:=6) (N:=some 14) #[true,true,true,true,true,true,true,false,false] rfl rfl (by kernel_rfl) (by decide) (fun K hK => ?_)
  refine Kd.N_append_rows_step k46w (w0:=wd) wd.heap.size (by rfl) (.tmp 11) (.tmp 13) 22 46 (.agg #[.int .i64 0,.int .i64 0,.slice none 0 0,.int .i64 0,.int .i64 0,.int .i64 0]) 64 rfl Try.underlying22 info46 rfl (by decide) (by omega) v2 ([] ++ l) l' Ad l'.length cd (fun k => ok k∧k≠gA∧k≠gR) (fun k => W.heap.size≤k∧k < wd.heap.size) rfl rfl hn2 (Kd.F_below HFB.out hb2) (fun k hk => ⟨⟨HBS.out k (by have:=HWS.out;omega),by have:=HG.out;have:=HRW.out;omega,by have:=HRW.out;omega⟩,fun e => by have:=Kd.N_base hn2 k e.symm;omega⟩) (fun k hk => HOKP.out k (Nat.le_trans hb2.size hk)) hb2 hb2.size (by have:=HL1.out;have:=HL2.out;simp;omega) ?_
  intro v3 x3 hn3 hb3 hg3 ha3
  obtain ⟨A3,n3,c3,rfl⟩ : ∃ A n c,v3=.slice A n c:=(Kd.N_slice hn3).elim fun A h => h.elim fun c e => ⟨A,_,c,e⟩
  have BA3:=blk_below BA.out hb3
  have a3 : x3.cell? ⟨gA,2,none⟩=some (.slice A l.length c):=by rw [blk_cell BA3];rfl
  have f3:=blk_frozen BA3 2
  refine hK.out _ _ ⟨below_cell hb3 a2,below_cell hb3 d2⟩ (fun hHeld => ?_)
  clear hK K
  refine norm_ (a':=?_) ?_ ?_
  rotate_left
  · show Act.put _ (some 14) _=_
    simp only [Act.put,List.setIfInBounds_toArray,List.set_cons_zero,List.set_cons_succ]
    rfl
  refine pure_ (i:=7) (N:=some 15) (v:=?_) (a':=?_) #[true,true,true,true,true,true,true,true,false] rfl rfl (by kernel_rfl) (fun _ _ _ h => h) (Or.inl ⟨by rfl,?_⟩) ?_ ?_
  rotate_left
  · intro w'
    go_simp
    with_reducible rfl
  rotate_left
  · simp only [Act.put,List.setIfInBounds_toArray,List.set_cons_zero,List.set_cons_succ]
    rfl
  refine last_ (i:=8) (N:=none) #[true,true,true,true,true,true,true,true,true] rfl rfl (by kernel_rfl) (by decide) (fun K hK => ?_)
  refine skip_ (w1:=?_) (by rfl) rfl ?_ ?_
  rotate_left
  · go_simp
    rfl
  refine hK.out _ _ ?_
  clear hK K
  refine done_ (by kernel_rfl) ?_
  have yA:=blk_put BA3 2 (.slice A3 n3 c3) rfl
  have hne : gR≠gA:=by have:=HG.out;omega
  have yR:=blk_far (blk_below BR.out hb3) (p:=⟨gA,2,none⟩) hne (.slice A3 n3 c3)
  have hN4:=Kd.N_far (p:=⟨gA,2,none⟩) hn3 (fun _ hk => hk.2.1) (.slice A3 n3 c3)
  have hB4 : Below w.heap.size w (x3.setCell ⟨gA,2,none⟩ (.slice A3 n3 c3)):=below_set ((HB1.out.trans (hb3.mono (Nat.le_trans HWS.out HN1.out)))) (by have:=HG.out;omega)
  generalize x3.setCell _ _=x4 at yA yR hN4 hB4 ⊢
  have s0 : x4.cell? ⟨gA,0,none⟩=some (.int .i64 q):=by rw [blk_cell yA];rfl
  have s1 : x4.cell? ⟨gA,1,none⟩=some (.int .i64 b):=by rw [blk_cell yA];rfl
  have s2 : x4.cell? ⟨gA,2,none⟩=some (.slice A3 n3 c3):=by rw [blk_cell yA];rfl
  have r0 : x4.cell? ⟨gR,0,none⟩=some (.int .i64 0):=by rw [blk_cell yR];rfl
  have r1 : x4.cell? ⟨gR,1,none⟩=some (.int .i64 0):=by rw [blk_cell yR];rfl
  have r2 : x4.cell? ⟨gR,2,none⟩=some (.slice none 0 0):=by rw [blk_cell yR];rfl
  have t0:=blk_frozen yR 0
  have t1:=blk_frozen yR 1
  have t2:=blk_frozen yR 2
  have YR:=Aside0.mk yR
  have HN4:=Aside0.mk hN4
  have HB4:=Aside0.mk hB4
  clear hn1 hb1 hg1 ha1 hn2 hb2 hg2 ha2 hn3 hb3 hg3 ha3 BA3 a3 f3 yA yR hN4 hB4 a2 d2 hHeld
  go_wp2
  refine bodyPost_ret (results_cell_row rfl _ _ gR 24 #[.int .i64 q,.int .i64 b,.slice A3 n3 c3] (0,0) _ rfl (blk_put (blk_put (blk_put YR.out 0 _ rfl) 1 _ rfl) 2 _ rfl) Try.underlying24 rfl (by kernel_rfl)) rfl ?_
  have ge : w.heap.size≤gR:=by have:=HG.out;omega
  refine ⟨_,rfl,Kd.N_lower (Kd.N_mono (Kd.N_far (p:=⟨gR,2,none⟩) (Kd.N_far (p:=⟨gR,1,none⟩) (Kd.N_far (p:=⟨gR,0,none⟩) HN4.out (fun _ hk => hk.2.2) _) (fun _ hk => hk.2.2) _) (fun _ hk => hk.2.2) _) (fun _ hk => hk.1)) (Nat.le_trans HWS.out HN1.out),below_set (below_set (below_set HB4.out ge) ge) ge⟩
def MoreOut (ok : Nat→Prop) (q b : Int) (s : List Opn) (w : World) (e : Ending) (w' : World) : Prop:=∃ v,e=.returned (.agg #[.int .i64 q,.int .i64 b,v])∧Kd.N k46w 46 w' w.heap.size ok v s∧Below w.heap.size w w'
theorem more_nil (ok : Nat→Prop) (q b : Int) (q' b' : Int) (A' : Option Addr) (n' c' : Nat) (l' : List Opn) (w : World) (hbase : ∀ k,w.heap.size≤k→ok k)
    (hn' : n'=l'.length) (HC : Kd.C k46 w A' l'.length l') (hc : l'.length≤c') (k1 : Nat) (e1 : phasorref08_Copy.f k1 q' b' l'=some (q',b',l')) (hl2 : l'.length≤10000) :
    Calls Try.prog 55 #[.agg #[.int .i64 q,.int .i64 b,.slice none 0 0],.agg #[.int .i64 q',.int .i64 b',.slice A' n' c']] w (MoreOut ok q b l' w):=by
  subst hn'
  exact more_any ok q b none 0 [] q' b' A' c' l' w hbase (Kd.F_nil _ _ _) HC hc k1 e1 (by simp) hl2
theorem more_row (ok : Nat→Prop) (q b : Int) (A : Option Addr) (n c : Nat) (l : List Opn) (q' b' : Int) (A' : Option Addr) (n' c' : Nat) (l' : List Opn) (w : World) (hbase : ∀ k,w.heap.size≤k→ok k) (hn : n=l.length) (HA : Kd.F k46w w ok A l.length l)
    (hn' : n'=l'.length) (HC : Kd.C k46 w A' l'.length l') (hc : l'.length≤c') (k1 : Nat) (e1 : phasorref08_Copy.f k1 q' b' l'=some (q',b',l')) (hl1 : l.length≤10000) (hl2 : l'.length≤10000) :
    Calls Try.prog 55 #[.agg #[.int .i64 q,.int .i64 b,.slice A n c],.agg #[.int .i64 q',.int .i64 b',.slice A' n' c']] w (MoreOut ok q b (l ++ l') w):=by
  subst hn hn'
  exact more_any ok q b A c l q' b' A' c' l' w hbase HA HC hc k1 e1 hl1 hl2
end Go.Proofs.Ytbelnopbggkdfaa.Q
end

section
namespace Go.Proofs.Ytbelnopbggkdfaa.Q
open Go.RowKit Go.Proofs.YtbelnopbggkdfaaW.PrintWords Go.Proofs.YtbelnopbggkdfaaW.PrintLast Go.Proofs.YtbelnopbggkdfaaW.PrintMore
theorem out_val {w : World} {x y z : Int} {s : List Opn} {e : Ending} {w' : World} (h : Out w (x,y,s,z) e w') : ∃ A n c,e=.returned (.tuple #[.agg #[.int .i64 x,.int .i64 y,.slice A n c],.int .i64 z])∧n=s.length∧NW w w' (.slice A n c) s∧Below w.heap.size w w':=by
  obtain ⟨v,rfl,hn,hb⟩:=h
  obtain ⟨A,c,rfl⟩:=Kd.N_slice hn
  exact ⟨A,_,c,rfl,rfl,hn,hb⟩
set_option maxHeartbeats 4000000 in
set_option maxRecDepth 1000000 in
theorem rmir_no (q b z : Int) (A : Option Addr) (c : Nat) (l : List Opn) (w : World) (HC : Kd.C k46 w A l.length l) (hc : l.length≤c) (hw : WfL l) (hz : z≠0) (hR : invR q b l=(0,0,[],z)) :
    Calls Try.prog 14 #[.agg #[.int .i64 q,.int .i64 b,.slice A l.length c]] w (Out w (0,0,[],z)):=by
  have HR:=Aside0.mk HC
  have HS:=Aside0.mk hc
  have HWF:=Aside0.mk hw
  have HRR:=Aside0.mk hR
  have hzb : (z != 0)=true:=bne_iff_ne.2 hz
  clear HC hc hw hR hz
  have hu24:=Try.underlying24
  go_enter Try.func14,Try.ntmps14
  go_upto_region 1 with fail
  have F:=Aside0.mk (Fr.start (q:=q) (b:=b) (c:=c) HR.out)
  clear HR
  obtain ⟨g2,hg2⟩ : ∃ g,g=w.heap.size + 1:=⟨_,rfl⟩
  rw [← hg2] at F ⊢
  clear hg2
  generalize ((w.alloc _).alloc _)=W at F ⊢
  obtain ⟨c0,c1,c2,d0,d1,d2,f0,f1,f2⟩:=F.out.cells
  have HI:=rinverse_out (w:=W) F.out.hc HS.out HWF.out (q:=q) (b:=b)
  rw [HRR.out] at HI
  have HI:=Aside0.mk HI
  go_upto_region 2 with (go_at_call 9;(with_reducible refine HI.out.mono ?_);rintro e w3 hO;obtain ⟨A3,n3,cc3,rfl,-,hN3,hb3⟩:=out_val hO)
  clear HI
  replace F:=Aside0.mk (F.out.below (below_step hb3 (below_alloc (Below.refl _ _) (.cells #[.int .i64 0,.int .i64 0,.slice A3 n3 cc3] 24))))
  clear c0 c1 c2 d0 d1 d2 f0 f1 f2
  obtain ⟨c0,c1,c2,d0,d1,d2,f0,f1,f2⟩:=F.out.cells
  clear hb3 hN3 hO
  go_wp2
  refine bodyPost_ret (results_ct rfl _ _ g2 24 _ (0,0) _ rfl (F.out.put 0 0 (.slice none 0 0)) Try.underlying24 rfl (by kernel_rfl)) rfl ?_
  exact F.out.out Fr.nil
set_option maxHeartbeats 4000000 in
set_option maxRecDepth 1000000 in
theorem rmir_long (q b : Int) (A : Option Addr) (c : Nat) (l R : List Opn) (w : World) (HC : Kd.C k46 w A l.length l) (hc : l.length≤c) (hw : WfL l) (hR : invR q b l=(q,b,R,0)) (hlr : R.length=l.length) (hk : l.length≤4096) (hlong : 4096 < 2 * l.length) :
    Calls Try.prog 14 #[.agg #[.int .i64 q,.int .i64 b,.slice A l.length c]] w (Out w (0,0,[],170)):=by
  have HLONG:=Aside0.mk hlong
  clear hlong
  have HR:=Aside0.mk HC
  have HS:=Aside0.mk hc
  have HWF:=Aside0.mk hw
  have HRR:=Aside0.mk hR
  have HLR:=Aside0.mk hlr
  have HK:=Aside0.mk hk
  clear HC hc hw hR hlr hk
  have hu24:=Try.underlying24
  go_enter Try.func14,Try.ntmps14
  go_upto_region 1 with fail
  have F:=Aside0.mk (Fr.start (q:=q) (b:=b) (c:=c) HR.out)
  clear HR
  obtain ⟨g2,hg2⟩ : ∃ g,g=w.heap.size + 1:=⟨_,rfl⟩
  rw [← hg2] at F ⊢
  clear hg2
  generalize ((w.alloc _).alloc _)=W at F ⊢
  obtain ⟨c0,c1,c2,d0,d1,d2,f0,f1,f2⟩:=F.out.cells
  have HI:=rinverse_out (w:=W) F.out.hc HS.out HWF.out (q:=q) (b:=b)
  rw [HRR.out] at HI
  have HI:=Aside0.mk HI
  go_upto_region 4 with (go_at_call 9;(with_reducible refine HI.out.mono ?_);rintro e w3 hO;obtain ⟨A3,n3,cc3,rfl,hn3,hN3,hb3⟩:=out_val hO;have HN3:=Aside0.mk hn3;clear hn3)
  clear HI
  have bb:=below_alloc (Below.refl w3.heap.size w3) (.cells #[.int .i64 q,.int .i64 b,.slice A3 n3 cc3] 24)
  have y4:=blk_new w3 (.cells #[.int .i64 q,.int .i64 b,.slice A3 n3 cc3] 24)
  have HQ:=Aside0.mk (Kd.N_below hN3 bb)
  have HWW:=Aside0.mk F.out.hb.size
  replace F:=Aside0.mk (F.out.below (below_step hb3 bb))
  clear c0 c1 c2 d0 d1 d2 f0 f1 f2
  obtain ⟨c0,c1,c2,d0,d1,d2,f0,f1,f2⟩:=F.out.cells
  clear hb3 hN3 hO bb
  generalize w3.heap.size=g4 at y4 ⊢
  generalize w3.alloc _=w4 at y4 HQ F c0 c1 c2 d0 d1 d2 f0 f1 f2 ⊢
  have ew : wrap64 (2 * (l.length : Int))=2 * (l.length : Int):=w64 (by omega) (by have:=HK.out;omega)
  have ht : decide ((4096 : Int) < wrap64 (2 * (l.length : Int)))=true:=by rw [ew];exact decide_eq_true (by have:=HLONG.out;omega)
  clear ew y4
  go_wp2
  refine bodyPost_ret (results_ct rfl _ _ g2 24 _ (0,0) _ rfl (F.out.put 0 0 (.slice none 0 0)) Try.underlying24 rfl (by kernel_rfl)) rfl ?_
  exact F.out.out Fr.nil
set_option maxHeartbeats 4000000 in
set_option maxRecDepth 1000000 in
theorem rmir_good (q b : Int) (A : Option Addr) (c : Nat) (l R : List Opn) (w : World) (HC : Kd.C k46 w A l.length l) (hc : l.length≤c) (hw : WfL l) (hR : invR q b l=(q,b,R,0)) (hlr : R.length=l.length) (hk : l.length≤4096) (hshort : ¬ 4096 < 2 * l.length)
    (k1 k2 : Nat) (e1 : phasorref08_Copy.f k1 q b l=some (q,b,l)) (e2 : phasorref08_Copy.f k2 q b R=some (q,b,R)) :
    Calls Try.prog 14 #[.agg #[.int .i64 q,.int .i64 b,.slice A l.length c]] w (Out w (q,b,l ++ R,0)):=by
  have HSH:=Aside0.mk hshort
  have E1:=Aside0.mk e1
  have E2:=Aside0.mk e2
  clear hshort e1 e2
  have HR:=Aside0.mk HC
  have HS:=Aside0.mk hc
  have HWF:=Aside0.mk hw
  have HRR:=Aside0.mk hR
  have HLR:=Aside0.mk hlr
  have HK:=Aside0.mk hk
  clear HC hc hw hR hlr hk
  have hu24:=Try.underlying24
  go_enter Try.func14,Try.ntmps14
  go_upto_region 1 with fail
  have F:=Aside0.mk (Fr.start (q:=q) (b:=b) (c:=c) HR.out)
  clear HR
  obtain ⟨g2,hg2⟩ : ∃ g,g=w.heap.size + 1:=⟨_,rfl⟩
  rw [← hg2] at F ⊢
  clear hg2
  generalize ((w.alloc _).alloc _)=W at F ⊢
  obtain ⟨c0,c1,c2,d0,d1,d2,f0,f1,f2⟩:=F.out.cells
  have HI:=rinverse_out (w:=W) F.out.hc HS.out HWF.out (q:=q) (b:=b)
  rw [HRR.out] at HI
  have HI:=Aside0.mk HI
  go_upto_region 4 with (go_at_call 9;(with_reducible refine HI.out.mono ?_);rintro e w3 hO;obtain ⟨A3,n3,cc3,rfl,hn3,hN3,hb3⟩:=out_val hO;have HN3:=Aside0.mk hn3;clear hn3)
  clear HI
  have bb:=below_alloc (Below.refl w3.heap.size w3) (.cells #[.int .i64 q,.int .i64 b,.slice A3 n3 cc3] 24)
  have y4:=blk_new w3 (.cells #[.int .i64 q,.int .i64 b,.slice A3 n3 cc3] 24)
  have HQ:=Aside0.mk (Kd.N_below hN3 bb)
  have HWW:=Aside0.mk F.out.hb.size
  replace F:=Aside0.mk (F.out.below (below_step hb3 bb))
  clear c0 c1 c2 d0 d1 d2 f0 f1 f2
  obtain ⟨c0,c1,c2,d0,d1,d2,f0,f1,f2⟩:=F.out.cells
  clear hb3 hN3 hO bb
  generalize w3.heap.size=g4 at y4 ⊢
  generalize w3.alloc _=w4 at y4 HQ F c0 c1 c2 d0 d1 d2 f0 f1 f2 ⊢
  have ew : wrap64 (2 * (l.length : Int))=2 * (l.length : Int):=w64 (by omega) (by have:=HK.out;omega)
  have ht : decide ((4096 : Int) < wrap64 (2 * (l.length : Int)))=false:=by rw [ew];exact decide_eq_false (by have:=HSH.out;omega)
  clear ew
  go_upto_region 6 with fail
  clear ht
  have q0 : w4.drew.cell? ⟨g4,0,none⟩=some (.int .i64 q):=by rw [blk_cell (blk_drew y4)];rfl
  have q1 : w4.drew.cell? ⟨g4,1,none⟩=some (.int .i64 b):=by rw [blk_cell (blk_drew y4)];rfl
  have q2 : w4.drew.cell? ⟨g4,2,none⟩=some (.slice A3 n3 cc3):=by rw [blk_cell (blk_drew y4)];rfl
  replace HQ:=Aside0.mk (Kd.N_drew HQ.out)
  replace F:=Aside0.mk F.out.drew
  clear c0 c1 c2 d0 d1 d2 f0 f1 f2 y4
  obtain ⟨c0,c1,c2,-,-,-,-,-,-⟩:=F.out.cells
  refine start_ (n:=8) (S:=fun w' => w'.cell? ⟨w.heap.size,0,none⟩=some (.int .i64 q)∧w'.cell? ⟨w.heap.size,1,none⟩=some (.int .i64 b)∧w'.cell? ⟨w.heap.size,2,none⟩=some (.slice A l.length c)∧w'.cell? ⟨g4,0,none⟩=some (.int .i64 q)∧w'.cell? ⟨g4,1,none⟩=some (.int .i64 b)∧w'.cell? ⟨g4,2,none⟩=some (.slice A3 n3 cc3)) (ds:=[6]) #[false,false,false,false,false,false,false,false] (by kernel_rfl) rfl rfl ⟨c0,c1,c2,q0,q1,q2⟩ (fun hHeld => ?_)
  generalize w4.drew=wd at c0 c1 c2 q0 q1 q2 HQ F hHeld ⊢
  refine take_ (i:=0) (N:=some 21) (v:=?_) (a':=?_) #[true,false,false,false,false,false,false,false] rfl rfl (by kernel_rfl) (fun _ _ _ h => h) (Or.inl ⟨by rfl,?_⟩) hHeld ?_ ?_
  rotate_left
  · rintro w' ⟨s0,s1,s2,s3,s4,s5⟩
    go_simp
    with_reducible rfl
  rotate_left
  · simp only [Act.put,List.setIfInBounds_toArray,List.set_cons_zero,List.set_cons_succ]
    rfl
  refine take_ (i:=2) (N:=some 23) (v:=?_) (a':=?_) #[true,false,true,false,false,false,false,false] rfl rfl (by kernel_rfl) (fun _ _ _ h => h) (Or.inl ⟨by rfl,?_⟩) hHeld ?_ ?_
  rotate_left
  · rintro w' ⟨s0,s1,s2,s3,s4,s5⟩
    go_simp
    with_reducible rfl
  rotate_left
  · simp only [Act.put,List.setIfInBounds_toArray,List.set_cons_zero,List.set_cons_succ]
    rfl
  refine take_ (i:=4) (N:=some 25) (v:=?_) (a':=?_) #[true,false,true,false,true,false,false,false] rfl rfl (by kernel_rfl) (fun _ _ _ h => h) (Or.inl ⟨by rfl,?_⟩) hHeld ?_ ?_
  rotate_left
  · rintro w' ⟨s0,s1,s2,s3,s4,s5⟩
    go_simp
    with_reducible rfl
  rotate_left
  · simp only [Act.put,List.setIfInBounds_toArray,List.set_cons_zero,List.set_cons_succ]
    rfl
  refine one_ (i:=1) (N:=some 22) #[true,true,true,false,true,false,false,false] rfl rfl (by kernel_rfl) (by decide) (fun K hK => ?_)
  refine goes_ Try.func47 (by kernel_rfl) rfl #[.agg #[.int .i64 q,.int .i64 b,.slice A l.length c]] (by rfl) rfl rfl (by simp only [List.map_toArray,List.map_cons,List.map_nil];rfl) ?_
  with_reducible refine (empty_any _ _ _ _ _ _).mono ?_
  rintro e x1 ⟨rfl,hb1⟩
  refine ⟨_,rfl,?_⟩
  refine hK.out _ _ ⟨below_cell hb1 c0,below_cell hb1 c1,below_cell hb1 c2,below_cell hb1 q0,below_cell hb1 q1,below_cell hb1 q2⟩ (fun hHeld => ?_)
  clear hK K
  refine norm_ (a':=?_) ?_ ?_
  rotate_left
  · show Act.put _ (some 22) _=_
    simp only [Act.put,List.setIfInBounds_toArray,List.set_cons_zero,List.set_cons_succ]
    rfl
  refine one_ (i:=3) (N:=some 24) #[true,true,true,true,true,false,false,false] rfl rfl (by kernel_rfl) (by decide) (fun K hK => ?_)
  have F1:=F.out.below hb1
  refine goes_ Try.func55 (by kernel_rfl) rfl #[.agg #[.int .i64 q,.int .i64 b,.slice none 0 0],.agg #[.int .i64 q,.int .i64 b,.slice A l.length c]] (by rfl) rfl rfl (by simp only [List.map_toArray,List.map_cons,List.map_nil];rfl) ?_
  with_reducible refine (more_nil (fun k => w.heap.size≤k∧k≠g2) q b q b A _ c l x1 (F1.fresh) rfl F1.hc HS.out k1 E1.out (by have:=HK.out;omega)).mono ?_
  rintro e x2 ⟨v2,rfl,hn2,hb2⟩
  refine ⟨_,rfl,?_⟩
  have hb20:=hb1.trans (hb2.mono hb1.size)
  have F2:=F.out.below hb20
  obtain ⟨A2,n2,cc2,hv2,hn2l⟩ : ∃ A n c,v2=.slice A n c∧n=l.length:=(Kd.N_slice hn2).elim fun A h => h.elim fun c e => ⟨A,_,c,e,by simp⟩
  subst hv2
  have hn2F : Kd.F k46w x2 (fun k => w.heap.size≤k∧k≠g2) A2 l.length l:=by rw [← hn2l];exact Kd.N_F hn2
  have hn2c : R.length≤cc3:=by rw [← HN3.out];exact (Kd.N_reads' HQ.out).2.1
  refine hK.out _ _ ⟨below_cell hb20 c0,below_cell hb20 c1,below_cell hb20 c2,below_cell hb20 q0,below_cell hb20 q1,below_cell hb20 q2⟩ (fun hHeld => ?_)
  clear hK K
  refine norm_ (a':=?_) ?_ ?_
  rotate_left
  · show Act.put _ (some 24) _=_
    simp only [Act.put,List.setIfInBounds_toArray,List.set_cons_zero,List.set_cons_succ]
    rfl
  refine one_ (i:=5) (N:=some 26) #[true,true,true,true,true,true,false,false] rfl rfl (by kernel_rfl) (by decide) (fun K hK => ?_)
  refine goes_ Try.func55 (by kernel_rfl) rfl #[.agg #[.int .i64 q,.int .i64 b,.slice A2 n2 cc2],.agg #[.int .i64 q,.int .i64 b,.slice A3 n3 cc3]] (by rfl) rfl rfl (by simp only [List.map_toArray,List.map_cons,List.map_nil];rfl) ?_
  with_reducible refine (more_row (fun k => w.heap.size≤k∧k≠g2) q b A2 n2 cc2 l q b A3 n3 cc3 R x2 (F2.fresh) hn2l (hn2F) HN3.out (k46w_C (Kd.N_reads' (Kd.N_below HQ.out hb20)).2.2) (hn2c) k2 E2.out (by have:=HK.out;omega) (by have:=HLR.out;have:=HK.out;omega)).mono ?_
  rintro e x3 ⟨v3,rfl,hn3,hb3⟩
  refine ⟨_,rfl,?_⟩
  have hb30:=hb20.trans (hb3.mono hb20.size)
  have F3:=F.out.below hb30
  obtain ⟨A5,n5,cc5,hv3⟩ : ∃ A n c,v3=.slice A n c:=(Kd.N_slice hn3).elim fun A h => h.elim fun c e => ⟨A,_,c,e⟩
  subst hv3
  refine hK.out _ _ ⟨below_cell hb30 c0,below_cell hb30 c1,below_cell hb30 c2,below_cell hb30 q0,below_cell hb30 q1,below_cell hb30 q2⟩ (fun hHeld => ?_)
  clear hK K
  refine norm_ (a':=?_) ?_ ?_
  rotate_left
  · show Act.put _ (some 26) _=_
    simp only [Act.put,List.setIfInBounds_toArray,List.set_cons_zero,List.set_cons_succ]
    rfl
  refine last_ (i:=6) (N:=none) #[true,true,true,true,true,true,true,false] rfl rfl (by kernel_rfl) (by decide) (fun K hK => ?_)
  obtain ⟨-,-,-,d0,d1,d2,f0,f1,f2⟩:=F3.cells
  refine skip_ (w1:=?_) (by rfl) rfl ?_ ?_
  rotate_left
  · go_simp
    rfl
  refine hK.out _ _ ?_
  clear hK K
  refine pure_ (i:=7) (N:=some 3) (v:=?_) (a':=?_) #[true,true,true,true,true,true,true,true] rfl rfl (by kernel_rfl) (fun _ _ _ h => h) (Or.inl ⟨by rfl,?_⟩) ?_ ?_
  rotate_left
  · intro w'
    go_simp
    with_reducible rfl
  rotate_left
  · simp only [Act.put,List.setIfInBounds_toArray,List.set_cons_zero,List.set_cons_succ]
    rfl
  refine done_ (by kernel_rfl) ?_
  have HN3:=Aside0.mk (Kd.N_lower hn3 F2.hb.size)
  replace F:=Aside0.mk F3
  clear hn2 hn3 hb1 hb2 hb3 hb20 hb30 F1 F2 F3 hHeld c0 c1 c2 q0 q1 q2
  go_wp2
  refine bodyPost_ret (results_ct rfl _ _ g2 24 _ (0,0) _ rfl (F.out.put q b (.slice A5 n5 cc5)) Try.underlying24 rfl (by kernel_rfl)) rfl ?_
  exact F.out.out HN3.out
theorem inv_ops {q b : Int} {l : List Opn} (h : okc q b l=true) : ∀ o ∈ l.reverse.map invO,o.f2.length≤64:=by
  intro o ho
  rw [List.mem_map] at ho
  obtain ⟨x,hx,rfl⟩:=ho
  have:=((okc_facts h).op x (List.mem_reverse.1 hx)).len
  unfold invO
  split <;> exact this
theorem rmirror_out {q b : Int} {A : Option Addr} {c : Nat} {l : List Opn} {w : World} (HC : Kd.C k46 w A l.length l) (hc : l.length≤c) (hw : WfL l) :
    Calls Try.prog 14 #[.agg #[.int .i64 q,.int .i64 b,.slice A l.length c]] w (Out w (mirR q b l)):=by
  unfold mirR
  by_cases h : okc q b l=true
  · have ho:=okc_facts h
    have hn:=ho.n
    rw [if_pos h]
    by_cases hb : l.any isBad=true
    · rw [if_pos hb]
      exact rmir_no q b 170 A c l w HC hc hw (by decide) (by unfold invR;rw [if_pos h,if_pos hb])
    · rw [if_neg hb]
      have hR : invR q b l=(q,b,l.reverse.map invO,0):=by unfold invR;rw [if_pos h,if_neg hb]
      have hl : (l.reverse.map invO).length=l.length:=by simp
      unfold toldR
      have hs : (l ++ l.reverse.map invO).length=2 * l.length:=by rw [List.length_append,hl];omega
      rw [hs]
      by_cases h2 : 4096 < 2 * l.length
      · rw [if_pos h2]
        exact rmir_long q b A c l _ w HC hc hw hR hl hn h2
      · rw [if_neg h2]
        obtain ⟨k1,e1⟩:=(rcopy_is (q:=q) (b:=b) (l:=l) (fun o ho2 => by have:=(ho.op o ho2).len;omega) (by omega)).get
        obtain ⟨k2,e2⟩:=(rcopy_is (q:=q) (b:=b) (l:=l.reverse.map invO) (fun o ho2 => by have:=inv_ops h o ho2;omega) (by rw [hl];omega)).get
        exact rmir_good q b A c l _ w HC hc hw hR hl hn h2 k1 k2 e1 e2
  · rw [if_neg h]
    exact rmir_no q b 80 A c l w HC hc hw (by decide) (by unfold invR;rw [if_neg h])
end Go.Proofs.Ytbelnopbggkdfaa.Q
end

section
namespace Go.Proofs.Ytbelnopbggkdfaa.Q
open Go.RowKit Go.Proofs.YtbelnopbggkdfaaW.PrintWords Go.Proofs.YtbelnopbggkdfaaW.PrintLast Go.Proofs.YtbelnopbggkdfaaW.PrintMore
theorem ints_cell {W : World} {g : Nat} {xs : List Int} {t : TypeId} (h : W.heap[g]?=some (.cells (xs.map (Value.int .i64)).toArray t (0,0))) : ∀ j,j < xs.length→W.cell? ⟨g,j,none⟩=some (.int .i64 (xs.getD j 0)):=fun j hj => by
  rw [blk_cell h,List.getD_eq_getElem?_getD,List.getElem?_eq_getElem hj]
  simp [hj]
def CnjOut (w : World) (k : Int) (e : Ending) (w' : World) : Prop:=∃ g,e=.returned (.slice (some ⟨g,0,none⟩) (conjF k).length (conjF k).length)∧w.heap.size≤g∧g < w'.heap.size∧(∀ j,j < (conjF k).length→w'.cell? ⟨g,j,none⟩=some (.int .i64 ((conjF k).getD j 0)))∧Below w.heap.size w w'
theorem mk_5 {ops : Array Oper} {rest : List Oper} {o : Oper} {a : Act} {w : World} {Q : Exit→Act→World→Prop} (hg : o.guard=none) (hd : o.dst=some 5) (ho : o.op=.buildSlice 66 5 #[(0,.const (.int .i64 3)),(1,.const (.int .i64 2)),(2,.const (.int .i64 4)),(3,.const (.int .i64 2)),(4,.const (.int .i64 4))])
    (h : ∀ g w1,g=w.heap.size→w1.heap[g]?=some (.cells #[.int .i64 3,.int .i64 2,.int .i64 4,.int .i64 2,.int .i64 4] 44 (0,0))→Below w.heap.size w w1→wpList Try.prog ops Q rest (a.put (some 5) (.slice (some ⟨g,0,none⟩) 5 5)) w1) : wpList Try.prog ops Q (o :: rest) a w :=
  Go.Great.wpList_buildSliceTo hg 66 44 5 _ ho _ rfl _ hd (by kernel_rfl) #[.int .i64 3,.int .i64 2,.int .i64 4,.int .i64 2,.int .i64 4] (by kernel_rfl) (h _ _ rfl (blk_new w _) (below_alloc (Below.refl _ _) _))
theorem mk_6 {ops : Array Oper} {rest : List Oper} {o : Oper} {a : Act} {w : World} {Q : Exit→Act→World→Prop} (hg : o.guard=none) (hd : o.dst=some 6) (ho : o.op=.buildSlice 66 1 #[(0,.const (.int .i64 6))])
    (h : ∀ g w1,g=w.heap.size→w1.heap[g]?=some (.cells #[.int .i64 6] 44 (0,0))→Below w.heap.size w w1→wpList Try.prog ops Q rest (a.put (some 6) (.slice (some ⟨g,0,none⟩) 1 1)) w1) : wpList Try.prog ops Q (o :: rest) a w :=
  Go.Great.wpList_buildSliceTo hg 66 44 1 _ ho _ rfl _ hd (by kernel_rfl) #[.int .i64 6] (by kernel_rfl) (h _ _ rfl (blk_new w _) (below_alloc (Below.refl _ _) _))
theorem mk_7 {ops : Array Oper} {rest : List Oper} {o : Oper} {a : Act} {w : World} {Q : Exit→Act→World→Prop} (hg : o.guard=none) (hd : o.dst=some 7) (ho : o.op=.buildSlice 66 1 #[(0,.const (.int .i64 5))])
    (h : ∀ g w1,g=w.heap.size→w1.heap[g]?=some (.cells #[.int .i64 5] 44 (0,0))→Below w.heap.size w w1→wpList Try.prog ops Q rest (a.put (some 7) (.slice (some ⟨g,0,none⟩) 1 1)) w1) : wpList Try.prog ops Q (o :: rest) a w :=
  Go.Great.wpList_buildSliceTo hg 66 44 1 _ ho _ rfl _ hd (by kernel_rfl) #[.int .i64 5] (by kernel_rfl) (h _ _ rfl (blk_new w _) (below_alloc (Below.refl _ _) _))
theorem mk_8 {ops : Array Oper} {rest : List Oper} {o : Oper} {a : Act} {w : World} {Q : Exit→Act→World→Prop} (hg : o.guard=none) (hd : o.dst=some 8) (ho : o.op=.buildSlice 66 1 #[(0,.const (.int .i64 8))])
    (h : ∀ g w1,g=w.heap.size→w1.heap[g]?=some (.cells #[.int .i64 8] 44 (0,0))→Below w.heap.size w w1→wpList Try.prog ops Q rest (a.put (some 8) (.slice (some ⟨g,0,none⟩) 1 1)) w1) : wpList Try.prog ops Q (o :: rest) a w :=
  Go.Great.wpList_buildSliceTo hg 66 44 1 _ ho _ rfl _ hd (by kernel_rfl) #[.int .i64 8] (by kernel_rfl) (h _ _ rfl (blk_new w _) (below_alloc (Below.refl _ _) _))
theorem mk_9 {ops : Array Oper} {rest : List Oper} {o : Oper} {a : Act} {w : World} {Q : Exit→Act→World→Prop} (hg : o.guard=none) (hd : o.dst=some 9) (ho : o.op=.buildSlice 66 1 #[(0,.const (.int .i64 7))])
    (h : ∀ g w1,g=w.heap.size→w1.heap[g]?=some (.cells #[.int .i64 7] 44 (0,0))→Below w.heap.size w w1→wpList Try.prog ops Q rest (a.put (some 9) (.slice (some ⟨g,0,none⟩) 1 1)) w1) : wpList Try.prog ops Q (o :: rest) a w :=
  Go.Great.wpList_buildSliceTo hg 66 44 1 _ ho _ rfl _ hd (by kernel_rfl) #[.int .i64 7] (by kernel_rfl) (h _ _ rfl (blk_new w _) (below_alloc (Below.refl _ _) _))
theorem mk_10 {ops : Array Oper} {rest : List Oper} {o : Oper} {a : Act} {w : World} {Q : Exit→Act→World→Prop} (hg : o.guard=none) (hd : o.dst=some 10) (ho : o.op=.buildSlice 66 4 #[(0,.const (.int .i64 9)),(1,.const (.int .i64 4)),(2,.const (.int .i64 2)),(3,.const (.int .i64 3))])
    (h : ∀ g w1,g=w.heap.size→w1.heap[g]?=some (.cells #[.int .i64 9,.int .i64 4,.int .i64 2,.int .i64 3] 44 (0,0))→Below w.heap.size w w1→wpList Try.prog ops Q rest (a.put (some 10) (.slice (some ⟨g,0,none⟩) 4 4)) w1) : wpList Try.prog ops Q (o :: rest) a w :=
  Go.Great.wpList_buildSliceTo hg 66 44 4 _ ho _ rfl _ hd (by kernel_rfl) #[.int .i64 9,.int .i64 4,.int .i64 2,.int .i64 3] (by kernel_rfl) (h _ _ rfl (blk_new w _) (below_alloc (Below.refl _ _) _))
theorem mk_11 {ops : Array Oper} {rest : List Oper} {o : Oper} {a : Act} {w : World} {Q : Exit→Act→World→Prop} (hg : o.guard=none) (hd : o.dst=some 11) (ho : o.op=.buildSlice 66 4 #[(0,.const (.int .i64 10)),(1,.const (.int .i64 3)),(2,.const (.int .i64 2)),(3,.const (.int .i64 4))])
    (h : ∀ g w1,g=w.heap.size→w1.heap[g]?=some (.cells #[.int .i64 10,.int .i64 3,.int .i64 2,.int .i64 4] 44 (0,0))→Below w.heap.size w w1→wpList Try.prog ops Q rest (a.put (some 11) (.slice (some ⟨g,0,none⟩) 4 4)) w1) : wpList Try.prog ops Q (o :: rest) a w :=
  Go.Great.wpList_buildSliceTo hg 66 44 4 _ ho _ rfl _ hd (by kernel_rfl) #[.int .i64 10,.int .i64 3,.int .i64 2,.int .i64 4] (by kernel_rfl) (h _ _ rfl (blk_new w _) (below_alloc (Below.refl _ _) _))
theorem mk_12 {ops : Array Oper} {rest : List Oper} {o : Oper} {a : Act} {w : World} {Q : Exit→Act→World→Prop} (hg : o.guard=none) (hd : o.dst=some 12) (ho : o.op=.buildSlice 66 2 #[(0,.const (.int .i64 12)),(1,.const (.int .i64 4))])
    (h : ∀ g w1,g=w.heap.size→w1.heap[g]?=some (.cells #[.int .i64 12,.int .i64 4] 44 (0,0))→Below w.heap.size w w1→wpList Try.prog ops Q rest (a.put (some 12) (.slice (some ⟨g,0,none⟩) 2 2)) w1) : wpList Try.prog ops Q (o :: rest) a w :=
  Go.Great.wpList_buildSliceTo hg 66 44 2 _ ho _ rfl _ hd (by kernel_rfl) #[.int .i64 12,.int .i64 4] (by kernel_rfl) (h _ _ rfl (blk_new w _) (below_alloc (Below.refl _ _) _))
theorem mk_13 {ops : Array Oper} {rest : List Oper} {o : Oper} {a : Act} {w : World} {Q : Exit→Act→World→Prop} (hg : o.guard=none) (hd : o.dst=some 13) (ho : o.op=.buildSlice 66 1 #[(0,.const (.int .i64 16))])
    (h : ∀ g w1,g=w.heap.size→w1.heap[g]?=some (.cells #[.int .i64 16] 44 (0,0))→Below w.heap.size w w1→wpList Try.prog ops Q rest (a.put (some 13) (.slice (some ⟨g,0,none⟩) 1 1)) w1) : wpList Try.prog ops Q (o :: rest) a w :=
  Go.Great.wpList_buildSliceTo hg 66 44 1 _ ho _ rfl _ hd (by kernel_rfl) #[.int .i64 16] (by kernel_rfl) (h _ _ rfl (blk_new w _) (below_alloc (Below.refl _ _) _))
theorem mk_14 {ops : Array Oper} {rest : List Oper} {o : Oper} {a : Act} {w : World} {Q : Exit→Act→World→Prop} (hg : o.guard=none) (hd : o.dst=some 14) (ho : o.op=.buildSlice 66 1 #[(0,.const (.int .i64 15))])
    (h : ∀ g w1,g=w.heap.size→w1.heap[g]?=some (.cells #[.int .i64 15] 44 (0,0))→Below w.heap.size w w1→wpList Try.prog ops Q rest (a.put (some 14) (.slice (some ⟨g,0,none⟩) 1 1)) w1) : wpList Try.prog ops Q (o :: rest) a w :=
  Go.Great.wpList_buildSliceTo hg 66 44 1 _ ho _ rfl _ hd (by kernel_rfl) #[.int .i64 15] (by kernel_rfl) (h _ _ rfl (blk_new w _) (below_alloc (Below.refl _ _) _))
theorem mk_3 {ops : Array Oper} {rest : List Oper} {o : Oper} {a : Act} {w : World} {Q : Exit→Act→World→Prop} (hg : o.guard=none) (hd : o.dst=some 3) (ho : o.op=.alloc 91)
    (h : ∀ g w1,g=w.heap.size→w1.heap[g]?=some (.cells (List.toArray [.slice none 0 0,.slice none 0 0,.slice none 0 0,.slice none 0 0,.slice none 0 0,.slice none 0 0,.slice none 0 0,.slice none 0 0,.slice none 0 0,.slice none 0 0,.slice none 0 0,.slice none 0 0,.slice none 0 0,.slice none 0 0,.slice none 0 0,.slice none 0 0,.slice none 0 0,.slice none 0 0,.slice none 0 0,.slice none 0 0,.slice none 0 0]) 91 (0,0))→Below w.heap.size w w1→wpList Try.prog ops Q rest (a.put (some 3) (.pointer (some ⟨g,0,none⟩))) w1) : wpList Try.prog ops Q (o :: rest) a w:=by
  refine box_event hg hd (cs:=(List.toArray [.slice none 0 0,.slice none 0 0,.slice none 0 0,.slice none 0 0,.slice none 0 0,.slice none 0 0,.slice none 0 0,.slice none 0 0,.slice none 0 0,.slice none 0 0,.slice none 0 0,.slice none 0 0,.slice none 0 0,.slice none 0 0,.slice none 0 0,.slice none 0 0,.slice none 0 0,.slice none 0 0,.slice none 0 0,.slice none 0 0,.slice none 0 0])) (t:=91) ?_ ?_
  · unfold execOp
    simp only [ho]
    kernel_rfl
  · rw [hd]
    exact fun g e w1 h1 h2 => h g w1 e h1 h2
theorem mk_st {ops : Array Oper} {rest : List Oper} {o : Oper} {a : Act} {w : World} {Q : Exit→Act→World→Prop} (hgd : o.guard=none) (hd : o.dst=none) (ho : o.op=.store 91 (.tmp 3) (.tmp 15)) (g : Nat) (z cs : List Value)
    (hx : a.eval (.tmp 3)=.pointer (some ⟨g,0,none⟩)) (hy : a.eval (.tmp 15)=.agg cs.toArray) (hb : w.heap[g]?=some (.cells z.toArray 91 (0,0))) (hz : z.length=21) (hl : cs.length=21) (h1 : ∀ v ∈ cs,v.oneCell'=true)
    (h : ∀ w1 : World,w1.heap[g]?=some (.cells cs.toArray 91 (0,0))→(∀ W0 : World,W0.heap.size≤g→Below W0.heap.size W0 w→Below W0.heap.size W0 w1)→wpList Try.prog ops Q rest (a.put none undef) w1) : wpList Try.prog ops Q (o :: rest) a w:=by
  refine wpList_store_mid hgd 91 (.tmp 3) (.tmp 15) ho g 0 cs.toArray hx hy (fun j hj => ?_) ?_ (all_oneCell_toArray h1) ?_
  · rw [List.size_toArray,hl] at hj
    rw [blk_cell hb,Nat.zero_add,Array.getElem?_eq_getElem (by rw [List.size_toArray,hz];exact hj)]
    exact ⟨rfl,blk_frozen hb j⟩
  · rw [List.size_toArray,hl]
    kernel_rfl
  · rw [hd]
    refine h _ ?_ (fun W0 h2 h3 => below_setCells h2 _ _ _ h3)
    have:=blk_setCells (g:=g) (t:=91) cs [] z w (by simpa using hb) (by omega)
    simpa using this
set_option maxHeartbeats 4000000 in
set_option maxRecDepth 1000000 in
theorem cnj_any (k : Int) (h1 : 1≤k) (h2 : k≤20) (w : World) : Calls Try.prog 49 #[.int .i64 k] w (CnjOut w k):=by
  have BB:=Aside0.mk (Below.refl w.heap.size w)
  have HK1:=Aside0.mk h1
  have HK2:=Aside0.mk h2
  clear h1 h2
  go_enter Try.func49,Try.ntmps49
  go_upto_region 2 with (first
    | ((with_reducible refine gate_dst (N:=5) rfl ?_);refine mk_5 rfl rfl rfl ?_;intro g5 w1 e5 y5 b5;have Z5:=Aside0.mk (show w.heap.size≤g5 by rw [e5];exact BB.out.size);clear e5;have Y5:=Aside0.mk y5;replace BB:=Aside0.mk (below_step BB.out b5);clear y5 b5)
    | ((with_reducible refine gate_dst (N:=6) rfl ?_);refine mk_6 rfl rfl rfl ?_;intro g6 w2 e6 y6 b6;have Z6:=Aside0.mk (show w.heap.size≤g6 by rw [e6];exact BB.out.size);clear e6;replace Y5:=Aside0.mk (blk_below Y5.out b6);have Y6:=Aside0.mk y6;replace BB:=Aside0.mk (below_step BB.out b6);clear y6 b6)
    | ((with_reducible refine gate_dst (N:=7) rfl ?_);refine mk_7 rfl rfl rfl ?_;intro g7 w3 e7 y7 b7;have Z7:=Aside0.mk (show w.heap.size≤g7 by rw [e7];exact BB.out.size);clear e7;replace Y5:=Aside0.mk (blk_below Y5.out b7);replace Y6:=Aside0.mk (blk_below Y6.out b7);have Y7:=Aside0.mk y7;replace BB:=Aside0.mk (below_step BB.out b7);clear y7 b7)
    | ((with_reducible refine gate_dst (N:=8) rfl ?_);refine mk_8 rfl rfl rfl ?_;intro g8 w4 e8 y8 b8;have Z8:=Aside0.mk (show w.heap.size≤g8 by rw [e8];exact BB.out.size);clear e8;replace Y5:=Aside0.mk (blk_below Y5.out b8);replace Y6:=Aside0.mk (blk_below Y6.out b8);replace Y7:=Aside0.mk (blk_below Y7.out b8);have Y8:=Aside0.mk y8;replace BB:=Aside0.mk (below_step BB.out b8);clear y8 b8)
    | ((with_reducible refine gate_dst (N:=9) rfl ?_);refine mk_9 rfl rfl rfl ?_;intro g9 w5 e9 y9 b9;have Z9:=Aside0.mk (show w.heap.size≤g9 by rw [e9];exact BB.out.size);clear e9;replace Y5:=Aside0.mk (blk_below Y5.out b9);replace Y6:=Aside0.mk (blk_below Y6.out b9);replace Y7:=Aside0.mk (blk_below Y7.out b9);replace Y8:=Aside0.mk (blk_below Y8.out b9);have Y9:=Aside0.mk y9;replace BB:=Aside0.mk (below_step BB.out b9);clear y9 b9)
    | ((with_reducible refine gate_dst (N:=10) rfl ?_);refine mk_10 rfl rfl rfl ?_;intro g10 w6 e10 y10 b10;have Z10:=Aside0.mk (show w.heap.size≤g10 by rw [e10];exact BB.out.size);clear e10;replace Y5:=Aside0.mk (blk_below Y5.out b10);replace Y6:=Aside0.mk (blk_below Y6.out b10);replace Y7:=Aside0.mk (blk_below Y7.out b10);replace Y8:=Aside0.mk (blk_below Y8.out b10);replace Y9:=Aside0.mk (blk_below Y9.out b10);have Y10:=Aside0.mk y10;replace BB:=Aside0.mk (below_step BB.out b10);clear y10 b10)
    | ((with_reducible refine gate_dst (N:=11) rfl ?_);refine mk_11 rfl rfl rfl ?_;intro g11 w7 e11 y11 b11;have Z11:=Aside0.mk (show w.heap.size≤g11 by rw [e11];exact BB.out.size);clear e11;replace Y5:=Aside0.mk (blk_below Y5.out b11);replace Y6:=Aside0.mk (blk_below Y6.out b11);replace Y7:=Aside0.mk (blk_below Y7.out b11);replace Y8:=Aside0.mk (blk_below Y8.out b11);replace Y9:=Aside0.mk (blk_below Y9.out b11);replace Y10:=Aside0.mk (blk_below Y10.out b11);have Y11:=Aside0.mk y11;replace BB:=Aside0.mk (below_step BB.out b11);clear y11 b11)
    | ((with_reducible refine gate_dst (N:=12) rfl ?_);refine mk_12 rfl rfl rfl ?_;intro g12 w8 e12 y12 b12;have Z12:=Aside0.mk (show w.heap.size≤g12 by rw [e12];exact BB.out.size);clear e12;replace Y5:=Aside0.mk (blk_below Y5.out b12);replace Y6:=Aside0.mk (blk_below Y6.out b12);replace Y7:=Aside0.mk (blk_below Y7.out b12);replace Y8:=Aside0.mk (blk_below Y8.out b12);replace Y9:=Aside0.mk (blk_below Y9.out b12);replace Y10:=Aside0.mk (blk_below Y10.out b12);replace Y11:=Aside0.mk (blk_below Y11.out b12);have Y12:=Aside0.mk y12;replace BB:=Aside0.mk (below_step BB.out b12);clear y12 b12)
    | ((with_reducible refine gate_dst (N:=13) rfl ?_);refine mk_13 rfl rfl rfl ?_;intro g13 w9 e13 y13 b13;have Z13:=Aside0.mk (show w.heap.size≤g13 by rw [e13];exact BB.out.size);clear e13;replace Y5:=Aside0.mk (blk_below Y5.out b13);replace Y6:=Aside0.mk (blk_below Y6.out b13);replace Y7:=Aside0.mk (blk_below Y7.out b13);replace Y8:=Aside0.mk (blk_below Y8.out b13);replace Y9:=Aside0.mk (blk_below Y9.out b13);replace Y10:=Aside0.mk (blk_below Y10.out b13);replace Y11:=Aside0.mk (blk_below Y11.out b13);replace Y12:=Aside0.mk (blk_below Y12.out b13);have Y13:=Aside0.mk y13;replace BB:=Aside0.mk (below_step BB.out b13);clear y13 b13)
    | ((with_reducible refine gate_dst (N:=14) rfl ?_);refine mk_14 rfl rfl rfl ?_;intro g14 w10 e14 y14 b14;have Z14:=Aside0.mk (show w.heap.size≤g14 by rw [e14];exact BB.out.size);clear e14;replace Y5:=Aside0.mk (blk_below Y5.out b14);replace Y6:=Aside0.mk (blk_below Y6.out b14);replace Y7:=Aside0.mk (blk_below Y7.out b14);replace Y8:=Aside0.mk (blk_below Y8.out b14);replace Y9:=Aside0.mk (blk_below Y9.out b14);replace Y10:=Aside0.mk (blk_below Y10.out b14);replace Y11:=Aside0.mk (blk_below Y11.out b14);replace Y12:=Aside0.mk (blk_below Y12.out b14);replace Y13:=Aside0.mk (blk_below Y13.out b14);have Y14:=Aside0.mk y14;replace BB:=Aside0.mk (below_step BB.out b14);clear y14 b14)
    | ((with_reducible refine gate_dst (N:=3) rfl ?_);refine mk_3 rfl rfl rfl ?_;intro gT wT eT yT bT;have YT:=Aside0.mk yT;have ET:=Aside0.mk eT;have BT:=Aside0.mk bT;clear yT eT bT)
    | ((with_reducible refine gate_store (t:=91) (p:=3) (v:=.tmp 15) rfl ?_);refine mk_st rfl rfl rfl gT _ [.slice none 0 0,.slice none 0 0,.slice none 0 0,.slice (some ⟨g5,0,none⟩) 5 5,.slice none 0 0,.slice (some ⟨g6,0,none⟩) 1 1,.slice (some ⟨g7,0,none⟩) 1 1,.slice (some ⟨g8,0,none⟩) 1 1,.slice (some ⟨g9,0,none⟩) 1 1,.slice (some ⟨g10,0,none⟩) 4 4,.slice (some ⟨g11,0,none⟩) 4 4,.slice none 0 0,.slice (some ⟨g12,0,none⟩) 2 2,.slice none 0 0,.slice none 0 0,.slice (some ⟨g13,0,none⟩) 1 1,.slice (some ⟨g14,0,none⟩) 1 1,.slice none 0 0,.slice none 0 0,.slice none 0 0,.slice none 0 0] rfl rfl YT.out rfl rfl (by simp [Value.oneCell']) ?_;intro wS yS fS;have bS:=fS w10 (Nat.le_of_eq ET.out.symm) BT.out;replace BB:=Aside0.mk (below_step BB.out bS);have YS:=Aside0.mk yS;replace Y5:=Aside0.mk (blk_below Y5.out bS);replace Y6:=Aside0.mk (blk_below Y6.out bS);replace Y7:=Aside0.mk (blk_below Y7.out bS);replace Y8:=Aside0.mk (blk_below Y8.out bS);replace Y9:=Aside0.mk (blk_below Y9.out bS);replace Y10:=Aside0.mk (blk_below Y10.out bS);replace Y11:=Aside0.mk (blk_below Y11.out bS);replace Y12:=Aside0.mk (blk_below Y12.out bS);replace Y13:=Aside0.mk (blk_below Y13.out bS);replace Y14:=Aside0.mk (blk_below Y14.out bS);clear yS fS bS ET BT YT))
  have hcell : ∀ j : Nat,wS.cell? ⟨gT,j,none⟩=(List.toArray [.slice none 0 0,.slice none 0 0,.slice none 0 0,.slice (some ⟨g5,0,none⟩) 5 5,.slice none 0 0,.slice (some ⟨g6,0,none⟩) 1 1,.slice (some ⟨g7,0,none⟩) 1 1,.slice (some ⟨g8,0,none⟩) 1 1,.slice (some ⟨g9,0,none⟩) 1 1,.slice (some ⟨g10,0,none⟩) 4 4,.slice (some ⟨g11,0,none⟩) 4 4,.slice none 0 0,.slice (some ⟨g12,0,none⟩) 2 2,.slice none 0 0,.slice none 0 0,.slice (some ⟨g13,0,none⟩) 1 1,.slice (some ⟨g14,0,none⟩) 1 1,.slice none 0 0,.slice none 0 0,.slice none 0 0,.slice none 0 0])[j]?:=fun j => blk_cell YS.out j
  obtain ⟨n,rfl⟩ : ∃ n : Nat,k=(n : Int):=⟨k.toNat,by have:=HK1.out;omega⟩
  have hn1 : 1≤n:=by have:=HK1.out;omega
  have hn2 : n≤20:=by have:=HK2.out;omega
  clear HK1 HK2 YS
  obtain rfl|rfl|rfl|rfl|rfl|rfl|rfl|rfl|rfl|rfl|rfl|rfl|rfl|rfl|rfl|rfl|rfl|rfl|rfl|rfl : n=1∨n=2∨n=3∨n=4∨n=5∨n=6∨n=7∨n=8∨n=9∨n=10∨n=11∨n=12∨n=13∨n=14∨n=15∨n=16∨n=17∨n=18∨n=19∨n=20:=by omega
  · have c:=hcell 1
    clear hcell
    simp only [List.getElem?_toArray,List.getElem?_cons_succ,List.getElem?_cons_zero] at c
    go_wp2
    go_ret
    exact ⟨_,rfl,BB.out.size,blk_lt (blk_new wS _),ints_cell (xs:=[1]) (blk_new wS _),below_alloc BB.out _⟩
  · have c:=hcell 2
    clear hcell
    simp only [List.getElem?_toArray,List.getElem?_cons_succ,List.getElem?_cons_zero] at c
    go_wp2
    go_ret
    exact ⟨_,rfl,BB.out.size,blk_lt (blk_new wS _),ints_cell (xs:=[2]) (blk_new wS _),below_alloc BB.out _⟩
  · have c:=hcell 3
    clear hcell
    simp only [List.getElem?_toArray,List.getElem?_cons_succ,List.getElem?_cons_zero] at c
    go_wp2
    go_ret
    exact ⟨_,rfl,Z5.out,blk_lt Y5.out,ints_cell (xs:=[3,2,4,2,4]) Y5.out,BB.out⟩
  · have c:=hcell 4
    clear hcell
    simp only [List.getElem?_toArray,List.getElem?_cons_succ,List.getElem?_cons_zero] at c
    go_wp2
    go_ret
    exact ⟨_,rfl,BB.out.size,blk_lt (blk_new wS _),ints_cell (xs:=[4]) (blk_new wS _),below_alloc BB.out _⟩
  · have c:=hcell 5
    clear hcell
    simp only [List.getElem?_toArray,List.getElem?_cons_succ,List.getElem?_cons_zero] at c
    go_wp2
    go_ret
    exact ⟨_,rfl,Z6.out,blk_lt Y6.out,ints_cell (xs:=[6]) Y6.out,BB.out⟩
  · have c:=hcell 6
    clear hcell
    simp only [List.getElem?_toArray,List.getElem?_cons_succ,List.getElem?_cons_zero] at c
    go_wp2
    go_ret
    exact ⟨_,rfl,Z7.out,blk_lt Y7.out,ints_cell (xs:=[5]) Y7.out,BB.out⟩
  · have c:=hcell 7
    clear hcell
    simp only [List.getElem?_toArray,List.getElem?_cons_succ,List.getElem?_cons_zero] at c
    go_wp2
    go_ret
    exact ⟨_,rfl,Z8.out,blk_lt Y8.out,ints_cell (xs:=[8]) Y8.out,BB.out⟩
  · have c:=hcell 8
    clear hcell
    simp only [List.getElem?_toArray,List.getElem?_cons_succ,List.getElem?_cons_zero] at c
    go_wp2
    go_ret
    exact ⟨_,rfl,Z9.out,blk_lt Y9.out,ints_cell (xs:=[7]) Y9.out,BB.out⟩
  · have c:=hcell 9
    clear hcell
    simp only [List.getElem?_toArray,List.getElem?_cons_succ,List.getElem?_cons_zero] at c
    go_wp2
    go_ret
    exact ⟨_,rfl,Z10.out,blk_lt Y10.out,ints_cell (xs:=[9,4,2,3]) Y10.out,BB.out⟩
  · have c:=hcell 10
    clear hcell
    simp only [List.getElem?_toArray,List.getElem?_cons_succ,List.getElem?_cons_zero] at c
    go_wp2
    go_ret
    exact ⟨_,rfl,Z11.out,blk_lt Y11.out,ints_cell (xs:=[10,3,2,4]) Y11.out,BB.out⟩
  · have c:=hcell 11
    clear hcell
    simp only [List.getElem?_toArray,List.getElem?_cons_succ,List.getElem?_cons_zero] at c
    go_wp2
    go_ret
    exact ⟨_,rfl,BB.out.size,blk_lt (blk_new wS _),ints_cell (xs:=[11]) (blk_new wS _),below_alloc BB.out _⟩
  · have c:=hcell 12
    clear hcell
    simp only [List.getElem?_toArray,List.getElem?_cons_succ,List.getElem?_cons_zero] at c
    go_wp2
    go_ret
    exact ⟨_,rfl,Z12.out,blk_lt Y12.out,ints_cell (xs:=[12,4]) Y12.out,BB.out⟩
  · have c:=hcell 13
    clear hcell
    simp only [List.getElem?_toArray,List.getElem?_cons_succ,List.getElem?_cons_zero] at c
    go_wp2
    go_ret
    exact ⟨_,rfl,BB.out.size,blk_lt (blk_new wS _),ints_cell (xs:=[13]) (blk_new wS _),below_alloc BB.out _⟩
  · have c:=hcell 14
    clear hcell
    simp only [List.getElem?_toArray,List.getElem?_cons_succ,List.getElem?_cons_zero] at c
    go_wp2
    go_ret
    exact ⟨_,rfl,BB.out.size,blk_lt (blk_new wS _),ints_cell (xs:=[14]) (blk_new wS _),below_alloc BB.out _⟩
  · have c:=hcell 15
    clear hcell
    simp only [List.getElem?_toArray,List.getElem?_cons_succ,List.getElem?_cons_zero] at c
    go_wp2
    go_ret
    exact ⟨_,rfl,Z13.out,blk_lt Y13.out,ints_cell (xs:=[16]) Y13.out,BB.out⟩
  · have c:=hcell 16
    clear hcell
    simp only [List.getElem?_toArray,List.getElem?_cons_succ,List.getElem?_cons_zero] at c
    go_wp2
    go_ret
    exact ⟨_,rfl,Z14.out,blk_lt Y14.out,ints_cell (xs:=[15]) Y14.out,BB.out⟩
  · have c:=hcell 17
    clear hcell
    simp only [List.getElem?_toArray,List.getElem?_cons_succ,List.getElem?_cons_zero] at c
    go_wp2
    go_ret
    exact ⟨_,rfl,BB.out.size,blk_lt (blk_new wS _),ints_cell (xs:=[17]) (blk_new wS _),below_alloc BB.out _⟩
  · have c:=hcell 18
    clear hcell
    simp only [List.getElem?_toArray,List.getElem?_cons_succ,List.getElem?_cons_zero] at c
    go_wp2
    go_ret
    exact ⟨_,rfl,BB.out.size,blk_lt (blk_new wS _),ints_cell (xs:=[18]) (blk_new wS _),below_alloc BB.out _⟩
  · have c:=hcell 19
    clear hcell
    simp only [List.getElem?_toArray,List.getElem?_cons_succ,List.getElem?_cons_zero] at c
    go_wp2
    go_ret
    exact ⟨_,rfl,BB.out.size,blk_lt (blk_new wS _),ints_cell (xs:=[19]) (blk_new wS _),below_alloc BB.out _⟩
  · have c:=hcell 20
    clear hcell
    simp only [List.getElem?_toArray,List.getElem?_cons_succ,List.getElem?_cons_zero] at c
    go_wp2
    go_ret
    exact ⟨_,rfl,BB.out.size,blk_lt (blk_new wS _),ints_cell (xs:=[20]) (blk_new wS _),below_alloc BB.out _⟩
end Go.Proofs.Ytbelnopbggkdfaa.Q
end

section
namespace Go.Proofs.Ytbelnopbggkdfaa.Q
open Go.RowKit Go.Proofs.YtbelnopbggkdfaaW.PrintWords Go.Proofs.YtbelnopbggkdfaaW.PrintLast Go.Proofs.YtbelnopbggkdfaaW.PrintMore
set_option maxHeartbeats 4000000 in
set_option maxRecDepth 1000000 in
theorem told_long (q b : Int) (A : Option Addr) (n c : Nat) (l : List Opn) (w : World) (hn : n=l.length) (HC : Kd.C k46 w A l.length l) (hl : 4096 < l.length) :
    Calls Try.prog 51 #[.agg #[.int .i64 q,.int .i64 b,.slice A n c]] w fun e w' => e=.returned (.tuple #[.agg #[.int .i64 0,.int .i64 0,.slice none 0 0],.int .i64 170])∧Below w.heap.size w w':=by
  subst hn
  have HR:=Aside0.mk HC
  have ht : decide ((4096 : Int) < (l.length : Int))=true:=decide_eq_true (by omega)
  clear HC hl
  have hu24:=Try.underlying24
  go_enter Try.func51,Try.ntmps51
  go_upto_region 1 with fail
  have F:=Aside0.mk (Fr.start (q:=q) (b:=b) (c:=c) HR.out)
  clear HR
  obtain ⟨g2,hg2⟩ : ∃ g,g=w.heap.size + 1:=⟨_,rfl⟩
  rw [← hg2] at F ⊢
  clear hg2
  generalize ((w.alloc _).alloc _)=W at F ⊢
  obtain ⟨c0,c1,c2,d0,d1,d2,f0,f1,f2⟩:=F.out.cells
  go_wp2
  refine bodyPost_ret (results_ct rfl _ _ g2 24 _ (0,0) _ rfl (F.out.put 0 0 (.slice none 0 0)) Try.underlying24 rfl (by kernel_rfl)) rfl ?_
  exact ⟨rfl,below_set (below_set (below_set F.out.hb (by have:=F.out.g;omega)) (by have:=F.out.g;omega)) (by have:=F.out.g;omega)⟩
set_option maxHeartbeats 4000000 in
set_option maxRecDepth 1000000 in
theorem told_short (q b : Int) (A : Option Addr) (n c : Nat) (l : List Opn) (w : World) (hn : n=l.length) (HC : Kd.C k46 w A l.length l) (hl : ¬ 4096 < l.length) :
    Calls Try.prog 51 #[.agg #[.int .i64 q,.int .i64 b,.slice A n c]] w fun e w' => e=.returned (.tuple #[.agg #[.int .i64 q,.int .i64 b,.slice A n c],.int .i64 0])∧Below w.heap.size w w':=by
  subst hn
  have HR:=Aside0.mk HC
  have ht : decide ((4096 : Int) < (l.length : Int))=false:=decide_eq_false (by omega)
  clear HC hl
  have hu24:=Try.underlying24
  go_enter Try.func51,Try.ntmps51
  go_upto_region 1 with fail
  have F:=Aside0.mk (Fr.start (q:=q) (b:=b) (c:=c) HR.out)
  clear HR
  obtain ⟨g2,hg2⟩ : ∃ g,g=w.heap.size + 1:=⟨_,rfl⟩
  rw [← hg2] at F ⊢
  clear hg2
  generalize ((w.alloc _).alloc _)=W at F ⊢
  obtain ⟨c0,c1,c2,d0,d1,d2,f0,f1,f2⟩:=F.out.cells
  go_wp2
  refine bodyPost_ret (results_ct rfl _ _ g2 24 _ (0,0) _ rfl (F.out.put q b (.slice A l.length c)) Try.underlying24 rfl (by kernel_rfl)) rfl ?_
  exact ⟨rfl,below_set (below_set (below_set F.out.hb (by have:=F.out.g;omega)) (by have:=F.out.g;omega)) (by have:=F.out.g;omega)⟩
set_option maxHeartbeats 4000000 in
set_option maxRecDepth 1000000 in
theorem mir_no (q b z : Int) (A : Option Addr) (c : Nat) (l : List Opn) (w : World) (HC : Kd.C k46 w A l.length l) (hc : l.length≤c) (hw : WfL l) (hz : z≠0) (hR : invR q b l=(0,0,[],z)) :
    Calls Try.prog 13 #[.agg #[.int .i64 q,.int .i64 b,.slice A l.length c]] w (Out w (0,0,[],z)):=by
  have HR:=Aside0.mk HC
  have HS:=Aside0.mk hc
  have HWF:=Aside0.mk hw
  have HRR:=Aside0.mk hR
  have hzb : (z != 0)=true:=bne_iff_ne.2 hz
  clear HC hc hw hR hz
  have hu24:=Try.underlying24
  go_enter Try.func13,Try.ntmps13
  go_upto_region 1 with fail
  have F:=Aside0.mk (Fr.start (q:=q) (b:=b) (c:=c) HR.out)
  clear HR
  obtain ⟨g2,hg2⟩ : ∃ g,g=w.heap.size + 1:=⟨_,rfl⟩
  rw [← hg2] at F ⊢
  clear hg2
  generalize ((w.alloc _).alloc _)=W at F ⊢
  obtain ⟨c0,c1,c2,d0,d1,d2,f0,f1,f2⟩:=F.out.cells
  have HI:=inverse_out (w:=W) F.out.hc HS.out HWF.out (q:=q) (b:=b)
  rw [HRR.out] at HI
  have HI:=Aside0.mk HI
  go_upto_region 2 with (go_at_call 8;(with_reducible refine HI.out.mono ?_);rintro e w3 hO;obtain ⟨A3,n3,c3,rfl,-,hN3,hb3⟩:=out_val hO)
  clear HI
  have bb:=below_alloc (Below.refl w3.heap.size w3) (.cells #[.int .i64 0,.int .i64 0,.slice A3 n3 c3] 24)
  have y4:=blk_new w3 (.cells #[.int .i64 0,.int .i64 0,.slice A3 n3 c3] 24)
  have HQ:=Aside0.mk (Kd.N_lower (Kd.N_mono (Kd.N_below hN3 bb) (fun k hk => F.out.fresh k hk)) F.out.hb.size)
  replace F:=Aside0.mk (F.out.below (below_step hb3 bb))
  clear c0 c1 c2 d0 d1 d2 f0 f1 f2
  obtain ⟨c0,c1,c2,d0,d1,d2,f0,f1,f2⟩:=F.out.cells
  clear hb3 hN3 hO bb
  generalize w3.heap.size=g4 at y4 ⊢
  generalize w3.alloc _=w4 at y4 HQ F c0 c1 c2 d0 d1 d2 f0 f1 f2 ⊢
  have q0 : w4.cell? ⟨g4,0,none⟩=some (.int .i64 0):=by rw [blk_cell y4];rfl
  have q1 : w4.cell? ⟨g4,1,none⟩=some (.int .i64 0):=by rw [blk_cell y4];rfl
  have q2 : w4.cell? ⟨g4,2,none⟩=some (.slice A3 n3 c3):=by rw [blk_cell y4];rfl
  clear y4
  go_wp2
  refine bodyPost_ret (results_ct rfl _ _ g2 24 _ (0,0) _ rfl (F.out.put 0 0 (.slice A3 n3 c3)) Try.underlying24 rfl (by kernel_rfl)) rfl ?_
  exact F.out.out HQ.out
set_option maxHeartbeats 4000000 in
set_option maxRecDepth 1000000 in
theorem mir_good (q b : Int) (A : Option Addr) (c : Nat) (l R : List Opn) (w : World) (HC : Kd.C k46 w A l.length l) (hc : l.length≤c) (hw : WfL l) (hR : invR q b l=(q,b,R,0)) (hlr : R.length=l.length) (hk : l.length≤4096)
    (k1 : Nat) (e1 : circuit_Copy.f k1 q b l=some (q,b,l)) :
    Calls Try.prog 13 #[.agg #[.int .i64 q,.int .i64 b,.slice A l.length c]] w (Out w (toldR q b (l ++ R))):=by
  have HR:=Aside0.mk HC
  have HS:=Aside0.mk hc
  have HWF:=Aside0.mk hw
  have HRR:=Aside0.mk hR
  have HLR:=Aside0.mk hlr
  have HK:=Aside0.mk hk
  have E1:=Aside0.mk e1
  clear HC hc hw hR hlr hk e1
  have hu24:=Try.underlying24
  go_enter Try.func13,Try.ntmps13
  go_upto_region 1 with fail
  have F:=Aside0.mk (Fr.start (q:=q) (b:=b) (c:=c) HR.out)
  clear HR
  obtain ⟨g2,hg2⟩ : ∃ g,g=w.heap.size + 1:=⟨_,rfl⟩
  rw [← hg2] at F ⊢
  clear hg2
  generalize ((w.alloc _).alloc _)=W at F ⊢
  obtain ⟨c0,c1,c2,d0,d1,d2,f0,f1,f2⟩:=F.out.cells
  have HI:=inverse_out (w:=W) F.out.hc HS.out HWF.out (q:=q) (b:=b)
  rw [HRR.out] at HI
  have HI:=Aside0.mk HI
  go_upto_region 4 with (go_at_call 8;(with_reducible refine HI.out.mono ?_);rintro e w3 hO;obtain ⟨A3,n3,cc3,rfl,hn3,hN3,hb3⟩:=out_val hO;have HN3:=Aside0.mk hn3;clear hn3)
  clear HI
  have bb:=below_alloc (Below.refl w3.heap.size w3) (.cells #[.int .i64 q,.int .i64 b,.slice A3 n3 cc3] 24)
  have y4:=blk_new w3 (.cells #[.int .i64 q,.int .i64 b,.slice A3 n3 cc3] 24)
  have HG4:=Aside0.mk (show g2 < w3.heap.size from blk_lt (F.out.below hb3).b2)
  have HQ:=Aside0.mk (Kd.N_lower (Kd.N_mono (Kd.N_below (Kd.N_bound hN3) bb) (fun k hk => show w.heap.size≤k∧k≠g2∧k < w3.heap.size from ⟨(F.out.fresh k hk.1).1,(F.out.fresh k hk.1).2,hk.2⟩)) F.out.hb.size)
  replace F:=Aside0.mk (F.out.below (below_step hb3 bb))
  clear c0 c1 c2 d0 d1 d2 f0 f1 f2
  obtain ⟨c0,c1,c2,d0,d1,d2,f0,f1,f2⟩:=F.out.cells
  clear hb3 hN3 hO bb
  generalize w3.heap.size=g4 at y4 HQ HG4 ⊢
  generalize w3.alloc _=w4 at y4 HQ F c0 c1 c2 d0 d1 d2 f0 f1 f2 ⊢
  have q2 : w4.drew.cell? ⟨g4,2,none⟩=some (.slice A3 n3 cc3):=by rw [blk_cell (blk_drew y4)];rfl
  replace HQ:=Aside0.mk (Kd.N_drew HQ.out)
  replace F:=Aside0.mk F.out.drew
  have Y4:=Aside0.mk (blk_drew y4)
  have HWD:=Aside0.mk (show w.heap.size≤w4.drew.heap.size from F.out.hb.size)
  have HNEW:=Aside0.mk (show ∀ k,w4.drew.heap.size≤k→w.heap.size≤k∧k≠g2∧k≠g4 from fun k hk => ⟨(F.out.fresh k hk).1,(F.out.fresh k hk).2,by have:=blk_lt Y4.out;omega⟩)
  clear c0 c1 c2 d0 d1 d2 f0 f1 f2 y4
  obtain ⟨c0,c1,c2,-,-,-,-,-,-⟩:=F.out.cells
  refine start_ (n:=8) (S:=fun w' => w'.cell? ⟨w.heap.size,0,none⟩=some (.int .i64 q)∧w'.cell? ⟨w.heap.size,1,none⟩=some (.int .i64 b)∧w'.cell? ⟨w.heap.size,2,none⟩=some (.slice A l.length c)∧w'.cell? ⟨g4,2,none⟩=some (.slice A3 n3 cc3)) (ds:=[7]) #[false,false,false,false,false,false,false,false] (by kernel_rfl) rfl rfl ⟨c0,c1,c2,q2⟩ (fun hHeld => ?_)
  generalize w4.drew=wd at c0 c1 c2 q2 HQ F Y4 HNEW HWD hHeld ⊢
  refine pure_ (i:=3) (N:=some 18) (v:=?_) (a':=?_) #[false,false,false,true,false,false,false,false] rfl rfl (by kernel_rfl) (fun _ _ _ h => h) (Or.inl ⟨by rfl,?_⟩) ?_ ?_
  rotate_left
  · intro w'
    go_simp
    with_reducible rfl
  rotate_left
  · simp only [Act.put,List.setIfInBounds_toArray,List.set_cons_zero,List.set_cons_succ]
    rfl
  refine take_ (i:=0) (N:=some 15) (v:=?_) (a':=?_) #[true,false,false,true,false,false,false,false] rfl rfl (by kernel_rfl) (fun _ _ _ h => h) (Or.inl ⟨by rfl,?_⟩) hHeld ?_ ?_
  rotate_left
  · rintro w' ⟨s0,s1,s2,s3⟩
    go_simp
    with_reducible rfl
  rotate_left
  · simp only [Act.put,List.setIfInBounds_toArray,List.set_cons_zero,List.set_cons_succ]
    rfl
  refine take_ (i:=4) (N:=some 19) (v:=?_) (a':=?_) #[true,false,false,true,true,false,false,false] rfl rfl (by kernel_rfl) (fun _ _ _ h => h) (Or.inl ⟨by rfl,?_⟩) hHeld ?_ ?_
  rotate_left
  · rintro w' ⟨s0,s1,s2,s3⟩
    go_simp
    with_reducible rfl
  rotate_left
  · simp only [Act.put,List.setIfInBounds_toArray,List.set_cons_zero,List.set_cons_succ]
    rfl
  refine one_ (i:=1) (N:=some 16) #[true,true,false,true,true,false,false,false] rfl rfl (by kernel_rfl) (by decide) (fun K hK => ?_)
  refine goes_ Try.func54 (by kernel_rfl) rfl #[.agg #[.int .i64 q,.int .i64 b,.slice A l.length c]] (by rfl) rfl rfl (by simp only [List.map_toArray,List.map_cons,List.map_nil];rfl) ?_
  with_reducible refine (circuit_Copy.calls k1 q b _ _ l _ _ _ _ F.out.hc HS.out E1.out).mono ?_
  rintro e x1 ⟨v1,rfl,ho1,hb1⟩
  refine ⟨_,rfl,?_⟩
  obtain ⟨A1,cc1,rfl⟩:=Kd.S_slice ho1
  have HN1:=Aside0.mk (show Kd.N k46w 46 x1 wd.heap.size (fun k => w.heap.size≤k∧k≠g2∧k≠g4) (.slice A1 l.length cc1) l from Kd.N_mono (Kd.S_N (k46w_S (Kd.S_bound ho1))) (fun k hk => HNEW.out k hk.2.1))
  clear ho1
  refine hK.out _ _ ⟨below_cell hb1 c0,below_cell hb1 c1,below_cell hb1 c2,below_cell hb1 q2⟩ (fun hHeld => ?_)
  clear hK K
  refine norm_ (a':=?_) ?_ ?_
  rotate_left
  · show Act.put _ (some 16) _=_
    simp only [Act.put,List.setIfInBounds_toArray,List.set_cons_zero,List.set_cons_succ]
    rfl
  refine pure_ (i:=2) (N:=some 17) (v:=?_) (a':=?_) #[true,true,true,true,true,false,false,false] rfl rfl (by kernel_rfl) (fun _ _ _ h => h) (Or.inl ⟨by rfl,?_⟩) ?_ ?_
  rotate_left
  · intro w'
    rfl
  rotate_left
  · simp only [Act.put,List.setIfInBounds_toArray,List.set_cons_zero,List.set_cons_succ]
    rfl
  refine one_ (i:=5) (N:=some 20) #[true,true,true,true,true,true,false,false] rfl rfl (by kernel_rfl) (by decide) (fun K hK => ?_)
  refine Kd.N_append_rows_step k46w (w0:=wd) wd.heap.size (by rfl) (.tmp 17) (.tmp 19) 22 46 (.agg #[.int .i64 0,.int .i64 0,.slice none 0 0,.int .i64 0,.int .i64 0,.int .i64 0]) 64 rfl Try.underlying22 info46 rfl (by decide) (by omega) (.slice A1 l.length cc1) l R A3 n3 cc3 (fun k => w.heap.size≤k∧k≠g2∧k≠g4) (fun k => w.heap.size≤k∧k≠g2∧k < g4) rfl rfl HN1.out (Kd.N_F (Kd.N_below HQ.out hb1)) (fun k hk => ⟨⟨hk.1,hk.2.1,Nat.ne_of_lt hk.2.2⟩,fun e => by have:=Kd.N_base HN1.out k e.symm;have:=blk_lt Y4.out;omega⟩) (fun k hk => HNEW.out k (Nat.le_trans hb1.size hk)) hb1 hb1.size (by rw [HN3.out];have h1:=HLR.out;have:=HK.out;omega) ?_
  intro v5 x5 hn5 hb5 hg5 ha5
  obtain ⟨A5,n5,cc5,hv5,hn5l⟩ : ∃ A n c,v5=.slice A n c∧n=(l ++ R).length:=(Kd.N_slice hn5).elim fun A h => h.elim fun c e => ⟨A,_,c,e,rfl⟩
  subst hv5
  have HNL:=Aside0.mk hn5l
  clear hn5l
  have HN5:=Aside0.mk hn5
  have HB5:=Aside0.mk hb5
  have s2 : x5.cell? ⟨g4,2,none⟩=some (.slice A3 n3 cc3):=by rw [blk_cell (blk_below Y4.out hb5)];rfl
  have s2f:=blk_frozen (blk_below Y4.out hb5) 2
  clear hn5 hg5 ha5
  refine hK.out _ _ ⟨below_cell hb5 c0,below_cell hb5 c1,below_cell hb5 c2,below_cell hb5 q2⟩ (fun hHeld => ?_)
  clear hK K
  refine norm_ (a':=?_) ?_ ?_
  rotate_left
  · show Act.put _ (some 20) _=_
    simp only [Act.put,List.setIfInBounds_toArray,List.set_cons_zero,List.set_cons_succ]
    rfl
  refine pure_ (i:=6) (N:=some 21) (v:=?_) (a':=?_) #[true,true,true,true,true,true,true,false] rfl rfl (by kernel_rfl) (fun _ _ _ h => h) (Or.inl ⟨by rfl,?_⟩) ?_ ?_
  rotate_left
  · intro w'
    go_simp
    with_reducible rfl
  rotate_left
  · simp only [Act.put,List.setIfInBounds_toArray,List.set_cons_zero,List.set_cons_succ]
    rfl
  refine last_ (i:=7) (N:=none) #[true,true,true,true,true,true,true,true] rfl rfl (by kernel_rfl) (by decide) (fun K hK => ?_)
  refine skip_ (w1:=?_) (by rfl) rfl ?_ ?_
  rotate_left
  · go_simp
    rfl
  refine hK.out _ _ ?_
  clear hK K
  refine done_ (by kernel_rfl) ?_
  have y6:=blk_put (blk_below Y4.out HB5.out) 2 (.slice A5 n5 cc5) rfl
  have HN6:=Aside0.mk (Kd.N_far (p:=⟨g4,2,none⟩) HN5.out (fun _ hk => hk.2.2) (.slice A5 n5 cc5))
  replace F:=Aside0.mk (F.out.setOld HB5.out (x:=⟨g4,2,none⟩) (.slice A5 n5 cc5) HG4.out)
  clear HN5 HB5 s2 s2f hHeld c0 c1 c2 q2 Y4 HQ HN1 hb1 hb5
  generalize x5.setCell _ _=x6 at y6 HN6 F ⊢
  obtain ⟨c0,c1,c2,d0,d1,d2,f0,f1,f2⟩:=F.out.cells
  have q0 : x6.cell? ⟨g4,0,none⟩=some (.int .i64 q):=by rw [blk_cell y6];rfl
  have q1 : x6.cell? ⟨g4,1,none⟩=some (.int .i64 b):=by rw [blk_cell y6];rfl
  have q2 : x6.cell? ⟨g4,2,none⟩=some (.slice A5 n5 cc5):=by rw [blk_cell y6];rfl
  clear y6
  have HC6:=Aside0.mk (k46w_C (Kd.N_reads' HN6.out).2.2)
  by_cases hlg : 4096 < (l ++ R).length
  · have HLG:=Aside0.mk hlg
    clear hlg
    go_wp2_with (go_at_call 51;(with_reducible refine (told_long q b A5 n5 cc5 (l ++ R) _ HNL.out HC6.out HLG.out).mono ?_);rintro e w7 ⟨rfl,hb7⟩;replace F:=Aside0.mk (F.out.below hb7);clear c0 c1 c2 d0 d1 d2 f0 f1 f2;obtain ⟨c0,c1,c2,d0,d1,d2,f0,f1,f2⟩:=F.out.cells)
    refine bodyPost_ret (results_ct rfl _ _ g2 24 _ (0,0) _ rfl (F.out.put 0 0 (.slice none 0 0)) Try.underlying24 rfl (by kernel_rfl)) rfl ?_
    have e : toldR q b (l ++ R)=(0,0,[],170):=if_pos HLG.out
    rw [e]
    exact F.out.out (z:=170) Fr.nil
  · have HLG:=Aside0.mk hlg
    clear hlg
    go_wp2_with (go_at_call 51;(with_reducible refine (told_short q b A5 n5 cc5 (l ++ R) _ HNL.out HC6.out HLG.out).mono ?_);rintro e w7 ⟨rfl,hb7⟩;replace HN6:=Aside0.mk (Kd.N_below HN6.out hb7);replace F:=Aside0.mk (F.out.below hb7);clear c0 c1 c2 d0 d1 d2 f0 f1 f2;obtain ⟨c0,c1,c2,d0,d1,d2,f0,f1,f2⟩:=F.out.cells)
    refine bodyPost_ret (results_ct rfl _ _ g2 24 _ (0,0) _ rfl (F.out.put q b (.slice A5 n5 cc5)) Try.underlying24 rfl (by kernel_rfl)) rfl ?_
    have e : toldR q b (l ++ R)=(q,b,l ++ R,0):=if_neg HLG.out
    rw [e]
    exact F.out.out (z:=0) (Kd.N_lower (Kd.N_mono HN6.out (fun _ hk => ⟨hk.1,hk.2.1⟩)) HWD.out)
theorem mirror_out {q b : Int} {A : Option Addr} {c : Nat} {l : List Opn} {w : World} (HC : Kd.C k46 w A l.length l) (hc : l.length≤c) (hw : WfL l) :
    Calls Try.prog 13 #[.agg #[.int .i64 q,.int .i64 b,.slice A l.length c]] w (Out w (mirR q b l)):=by
  unfold mirR
  by_cases h : okc q b l=true
  · have ho:=okc_facts h
    have hn:=ho.n
    rw [if_pos h]
    by_cases hb : l.any isBad=true
    · rw [if_pos hb]
      exact mir_no q b 170 A c l w HC hc hw (by decide) (by unfold invR;rw [if_pos h,if_pos hb])
    · rw [if_neg hb]
      have hR : invR q b l=(q,b,l.reverse.map invO,0):=by unfold invR;rw [if_pos h,if_neg hb]
      obtain ⟨k1,e1⟩:=(copy_is (q:=q) (b:=b) (l:=l) (fun o ho2 => (ho.op o ho2).len) (by omega)).get
      exact mir_good q b A c l _ w HC hc hw hR (by simp) hn k1 e1
  · rw [if_neg h]
    exact mir_no q b 80 A c l w HC hc hw (by decide) (by unfold invR;rw [if_neg h])
end Go.Proofs.Ytbelnopbggkdfaa.Q
end

section
namespace Go.Proofs.Ytbelnopbggkdfaa.Q
open Go.RowKit Go.Proofs.YtbelnopbggkdfaaW.PrintWords Go.Proofs.YtbelnopbggkdfaaW.PrintLast Go.Proofs.YtbelnopbggkdfaaW.PrintMore
structure Lp (B g2 : Nat) (Wl : World) (g : Nat) (q b : Int) (s : List Opn) (v : Value) (W : World) : Prop where
  bx : W.heap[g]?=some (.cells #[.int .i64 q,.int .i64 b,v] 24 (0,0))
  row : Kd.N k46w 46 W Wl.heap.size (fun k => B≤k∧k≠g∧k≠g2) v s
  keep : ∀ k,k < Wl.heap.size→k≠g→W.heap[k]?=Wl.heap[k]?
  hb : Below B Wl W
  lt : g < Wl.heap.size
  lt2 : g2 < g
  ge : B≤g2
variable {B g2 : Nat} {Wl : World} {g : Nat} {q b : Int} {s s' : List Opn} {v v' : Value} {W W' : World}
theorem Lp.start (h : Wl.heap[g]?=some (.cells #[.int .i64 q,.int .i64 b,.slice none 0 0] 24 (0,0))) (h2 : g2 < g) (hB : B≤g2) : Lp B g2 Wl g q b [] (.slice none 0 0) Wl :=
  ⟨h,Kd.N_nil _ _ _ _ _,fun _ _ _ => rfl,Below.refl _ _,blk_lt h,h2,hB⟩
theorem Lp.below (h : Lp B g2 Wl g q b s v W) (hb : Below W.heap.size W W') : Lp B g2 Wl g q b s v W' :=
  ⟨blk_below h.bx hb,Kd.N_below h.row hb,fun k h1 h2 => (hb.block k (Nat.lt_of_lt_of_le h1 h.hb.size)).trans (h.keep k h1 h2),h.hb.trans (hb.mono (by have:=blk_lt h.bx;have:=h.lt2;have:=h.ge;omega)),h.lt,h.lt2,h.ge⟩
theorem Lp.drew (h : Lp B g2 Wl g q b s v W) : Lp B g2 Wl g q b s v W.drew:=h.below (below_drew (Below.refl _ _))
theorem Lp.set (h : Lp B g2 Wl g q b s v W) (hn : Kd.N k46w 46 W' Wl.heap.size (fun k => B≤k∧k≠g∧k≠g2) v' s') (hb : Below Wl.heap.size W W') : Lp B g2 Wl g q b s' v' (W'.setCell ⟨g,2,none⟩ v'):=by
  have h2:=h.lt2
  have h3:=h.ge
  have h4:=h.lt
  refine ⟨blk_put ((hb.block g h.lt).trans h.bx) 2 v' rfl,Kd.N_far (p:=⟨g,2,none⟩) hn (fun _ hk => hk.2.1) _,fun k h1 h2 => ?_,Below.setCell (h.hb.trans (hb.mono (by omega))) (show B≤g by omega) _,h.lt,h.lt2,h.ge⟩
  rw [Below.heap_setCell _ _ _ _ h2]
  exact (hb.block k h1).trans (h.keep k h1 h2)
theorem Lp.fresh (h : Lp B g2 Wl g q b s v W) (k : Nat) (hk : W.heap.size≤k) : B≤k∧k≠g∧k≠g2:=by
  have h1:=blk_lt h.bx
  have h2:=h.lt2
  have h3:=h.ge
  exact ⟨by omega,by omega,by omega⟩
theorem Lp.size (h : Lp B g2 Wl g q b s v W) : Wl.heap.size≤W.heap.size:=h.hb.size
theorem Lp.form (h : Lp B g2 Wl g q b s v W) : ∃ A n c,v=.slice A n c:=by
  obtain ⟨A,c,e⟩:=Kd.N_slice h.row
  exact ⟨A,_,c,e⟩
theorem Lp.cells (h : Lp B g2 Wl g q b s v W) : W.cell? ⟨g,0,none⟩=some (.int .i64 q)∧W.cell? ⟨g,1,none⟩=some (.int .i64 b)∧W.cell? ⟨g,2,none⟩=some v∧W.frozen? ⟨g,2,none⟩=false:=by
  refine ⟨?_,?_,?_,blk_frozen h.bx 2⟩
  · rw [blk_cell h.bx];rfl
  · rw [blk_cell h.bx];rfl
  · rw [blk_cell h.bx];rfl
theorem Lp.foot (h : Lp B g2 Wl g q b s v W) {okp : Nat→Prop} {A : Option Addr} {n : Nat} {l : List Opn} (hF : Kd.F k46w Wl okp A n l) (hok : ∀ k,okp k→k≠g) : Kd.F k46w W okp A n l :=
  Kd.F_step hF (fun k hk hlt => h.keep k hlt (hok k hk))
theorem Lp.fr {w : World} {q0 b0 : Int} {A : Option Addr} {c : Nat} {l : List Opn} (h : Lp w.heap.size g2 Wl g q b s v W) (F : Fr w q0 b0 A c l g2 Wl) : Fr w q0 b0 A c l g2 W:=by
  have h2:=h.lt2
  have h3:=F.g
  exact ⟨F.g,(h.keep _ (blk_lt F.b1) (by omega)).trans F.b1,(h.keep _ (blk_lt F.b2) (by omega)).trans F.b2,F.hb.trans h.hb,F.hc0⟩
theorem Lp.res {w : World} (h : Lp w.heap.size g2 Wl g q b s v W) (hw : w.heap.size≤Wl.heap.size) : Kd.N k46w 46 W w.heap.size (fun k => w.heap.size≤k∧k≠g2) v s :=
  Kd.N_lower (Kd.N_mono h.row (fun _ hk => ⟨hk.1,hk.2.2⟩)) hw
section
variable {ops : Array Oper} {rest : List Oper} {o : Oper} {a : Act} {Q : Exit→Act→World→Prop}
end
end Go.Proofs.Ytbelnopbggkdfaa.Q
end

section
namespace Go.Proofs.Ytbelnopbggkdfaa.Q
open Go.RowKit Go.Proofs.YtbelnopbggkdfaaW.PrintWords Go.Proofs.YtbelnopbggkdfaaW.PrintLast Go.Proofs.YtbelnopbggkdfaaW.PrintMore
theorem FK_ints {W : World} {base : Nat} {ok : Nat→Prop} {A : Option Addr} {n c : Nat} {qs : List Int} (h : Kd.R (Kd.int .i64) 3 W base ok (.slice A n c) qs) {x : Opn} {m : Nat} (hm : m≤qs.length) (e : x.f2=qs.take m) : Kd.FK k46w W ok x (ofV x A c).cs:=fun W2 hW => by
  have h2:=Kd.R_step h hW
  obtain ⟨h3,h4,h5⟩:=Kd.R_reads' h2
  have hl : x.f2.length=m:=by rw [e,List.length_take];omega
  have hle : x.f2.length≤c:=by omega
  refine k46w_mk W2 x hle ⟨?_,fun hp => ?_⟩
  · rw [e]
    exact Kd.C_take h5 hm
  · obtain ⟨g,cap,e1,_,_,D,hg⟩:=Kd.R_form h2 (by omega)
    injection e1 with e2 _ _
    exact ⟨g,0,D,e2,hg⟩
def RowS (V : World) (g : Nat) (ok : Nat→Prop) (s : List Opn) (W : World) : Prop:=∃ os : List OpV,os.length=s.length∧RowO V g os W∧∀ (p : Nat) (x : Opn) (o : OpV),s[p]?=some x→os[p]?=some o→(∃ A c,o=ofV x A c)∧Kd.FK k46w W (fun k => ok k∧k≠g) x o.cs
variable {V W W' : World} {g base n cap : Nat} {ok : Nat→Prop} {s s0 : List Opn}
theorem RowS.of (h : Kd.N k46w 46 W base ok (.slice (some ⟨g,0,none⟩) n cap) s) : RowS W g ok s W:=(N_rowO h).2
theorem RowS.lt (h : RowS V g ok s W) : g < W.heap.size:=by
  obtain ⟨os,_,h2,_⟩:=h
  obtain ⟨C,hC,_⟩:=h2.blk
  exact blk_lt hC
theorem RowS.below (h : RowS V g ok s W) (hb : Below W.heap.size W W') : RowS V g ok s W':=by
  obtain ⟨os,h1,h2,h3⟩:=h
  exact ⟨os,h1,h2.below hb,fun p x o hx ho => ⟨(h3 p x o hx ho).1,Kd.FK_below (h3 p x o hx ho).2 hb⟩⟩
theorem RowS.at (h : RowS V g ok s W) {p : Nat} {x : Opn} (hx : s[p]?=some x) :
    ∃ A c,(∀ (r : Nat) (u : Value),r < 6→(ofV x A c).cs[r]?=some u→W.cell? ⟨g,p * 6 + r,none⟩=some u∧W.frozen? ⟨g,p * 6 + r,none⟩=false)∧Kd.FK k46w W (fun k => ok k∧k≠g) x (ofV x A c).cs:=by
  obtain ⟨os,h1,h2,h3⟩:=h
  have hp:=(List.getElem?_eq_some_iff.1 hx).1
  obtain ⟨o,ho⟩ : ∃ o,os[p]?=some o:=⟨_,List.getElem?_eq_getElem (by omega)⟩
  obtain ⟨⟨A,c,rfl⟩,h4⟩:=h3 p x o hx ho
  exact ⟨A,c,fun r u hr hu => h2.cells ho hr hu,h4⟩
theorem RowS.set2 (h : RowS V g ok s W) {p : Nat} {x x' : Opn} (hx : s[p]?=some x) {z : Int} {qs : List Int} (e : x'={ x with f1:=z,f2:=qs }) {A : Option Addr} {c : Nat} (hF : Kd.FK k46w W (fun k => ok k∧k≠g) x' (ofV x' A c).cs) :
    RowS V g ok (s.set p x') ((W.setCell ⟨g,p * 6 + 1,none⟩ (.int .i64 z)).setCell ⟨g,p * 6 + 2,none⟩ (.slice A qs.length c)):=by
  obtain ⟨os,h1,h2,h3⟩:=h
  have hp:=(List.getElem?_eq_some_iff.1 hx).1
  obtain ⟨o,ho⟩ : ∃ o,os[p]?=some o:=⟨_,List.getElem?_eq_getElem (by omega)⟩
  obtain ⟨⟨A0,c0,rfl⟩,h4⟩:=h3 p x o hx ho
  have hpo : p < os.length:=by omega
  have k1:=h2.putc ho (v:={ ofV x A0 c0 with x1:=z }) (r:=1) (by omega) (.int .i64 z) rfl
  have k2:=k1.putc (p:=p) (o:={ ofV x A0 c0 with x1:=z }) (v:=ofV x' A c) (by rw [List.getElem?_set,if_pos rfl,if_pos hpo]) (r:=2) (by omega) (.slice A qs.length c) (by rw [e];rfl)
  rw [List.set_set] at k2
  have far : ∀ (y : Opn) (cs : List Value),Kd.FK k46w W (fun k => ok k∧k≠g) y cs→Kd.FK k46w ((W.setCell ⟨g,p * 6 + 1,none⟩ (.int .i64 z)).setCell ⟨g,p * 6 + 2,none⟩ (.slice A qs.length c)) (fun k => ok k∧k≠g) y cs:=fun y cs hy =>
    FK_rowO hy (by simp [World.setCell]) (fun k _ hk => by rw [Below.heap_setCell _ _ _ _ hk,Below.heap_setCell _ _ _ _ hk])
  refine ⟨_,by rw [List.length_set,List.length_set];exact h1,k2,fun j y o' hy ho' => ?_⟩
  rw [List.getElem?_set] at hy ho'
  by_cases ej : p=j
  · rw [if_pos ej,if_pos (by omega)] at hy
    rw [if_pos ej,if_pos (by omega)] at ho'
    obtain rfl:=Option.some.inj hy
    obtain rfl:=Option.some.inj ho'
    exact ⟨⟨A,c,rfl⟩,far _ _ hF⟩
  · rw [if_neg ej] at hy ho'
    exact ⟨(h3 j y o' hy ho').1,far _ _ (h3 j y o' hy ho').2⟩
theorem RowS.N (h : RowS V g ok s W) (h0 : Kd.N k46w 46 V base ok (.slice (some ⟨g,0,none⟩) n cap) s0) (hl : s.length=s0.length) : Kd.N k46w 46 W base ok (.slice (some ⟨g,0,none⟩) n cap) s:=by
  obtain ⟨os,h1,h2,h3⟩:=h
  exact rowO_N h0 h2 (by omega) hl (fun p x o hx ho => (h3 p x o hx ho).2)
theorem RowS.old (h : RowS V g ok s W) (k : Nat) (h1 : k < V.heap.size) (h2 : k≠g) : W.heap[k]?=V.heap[k]?:=by
  obtain ⟨os,_,h3,_⟩:=h
  exact h3.old k h1 h2
theorem RowS.keep (h : RowS V g ok s W) : Below g V W:=by
  obtain ⟨os,_,h3,_⟩:=h
  exact h3.keep
theorem RowS.fr {w : World} {q0 b0 : Int} {A : Option Addr} {c : Nat} {l : List Opn} {g2 : Nat} (h : RowS V g ok s W) (F : Fr w q0 b0 A c l g2 V) (h1 : g2 < g) : Fr w q0 b0 A c l g2 W:=by
  have h3:=F.g
  exact ⟨F.g,(h.old _ (blk_lt F.b1) (by omega)).trans F.b1,(h.old _ (blk_lt F.b2) (by omega)).trans F.b2,F.hb.trans (h.keep.mono (by omega)),F.hc0⟩
theorem FK_qs {okp : Nat→Prop} {x : Opn} {A : Option Addr} {c : Nat} (h : Kd.FK k46w W okp x (ofV x A c).cs) : Kd.C (Kd.int .i64) W A x.f2.length x.f2∧x.f2.length≤c:=by
  obtain ⟨A2,c2,e2,l2,g2,_⟩:=k46w_open (Kd.FK_now h)
  unfold OpV.cs ofV at e2
  injection e2 with _ e2
  injection e2 with _ e2
  injection e2 with e3 _
  injection e3 with e4 _ e5
  dsimp only at e4 e5
  subst e4 e5
  exact ⟨g2,l2⟩
end Go.Proofs.Ytbelnopbggkdfaa.Q
end

section
namespace Go.Proofs.Ytbelnopbggkdfaa.Q
open Go.RowKit Go.Proofs.YtbelnopbggkdfaaW.PrintWords Go.Proofs.YtbelnopbggkdfaaW.PrintLast Go.Proofs.YtbelnopbggkdfaaW.PrintMore
structure Ovr (B : Nat) (V : World) (g i : Nat) (W : World) : Prop where
  hb : Below B V W
  int : ∀ (k : Nat) (cs : Array Value),V.heap[k]?=some (.cells cs 3 (0,0))→∃ cs',W.heap[k]?=some (.cells cs' 3 (0,0))∧cs'.size=cs.size
  box : ∀ (k : Nat) (cs : Array Value),V.heap[k]?=some (.cells cs 24 (0,0))→W.heap[k]?=some (.cells cs 24 (0,0))
  row : ∀ cs : Array Value,V.heap[g]?=some (.cells cs 46 (0,0))→∃ cs',W.heap[g]?=some (.cells cs' 46 (0,0))∧cs'.size=cs.size∧∀ m,i * 6≤m→cs'[m]?=cs[m]?
variable {B : Nat} {V W : World} {g i : Nat}
theorem Ovr.refl (B : Nat) (V : World) (g i : Nat) : Ovr B V g i V:=⟨Below.refl _ _,fun _ cs h => ⟨cs,h,rfl⟩,fun _ _ h => h,fun cs h => ⟨cs,h,rfl,fun _ _ => rfl⟩⟩
theorem Ovr.mono {j : Nat} (h : Ovr B V g i W) (hj : i≤j) : Ovr B V g j W:=⟨h.hb,h.int,h.box,fun cs hc => by
  obtain ⟨cs',h1,h2,h3⟩:=h.row cs hc
  exact ⟨cs',h1,h2,fun m hm => h3 m (by omega)⟩⟩
theorem cells_inj {k : Nat} {cs cs' : Array Value} {t t' : TypeId} (h : V.heap[k]?=some (.cells cs t (0,0))) (h' : V.heap[k]?=some (.cells cs' t' (0,0))) : cs=cs'∧t=t':=by
  rw [h] at h'
  injection h' with h'
  injection h' with e1 e2 _
  exact ⟨e1,e2⟩
theorem Ovr.putq (h : Ovr B V g i W) {k o : Nat} {D : Array Value} (hB : B≤k) (hk : V.heap[k]?=some (.cells D 3 (0,0))) (u : Value) : Ovr B V g i (W.setCell ⟨k,o,none⟩ u):=by
  refine ⟨Below.setCell h.hb hB _,fun k' cs hc => ?_,fun k' cs hc => ?_,fun cs hc => ?_⟩
  · obtain ⟨cs',h1,h2⟩:=h.int k' cs hc
    by_cases e : k'=k
    · subst e
      exact ⟨_,blk_put h1 o u rfl,by rw [Array.size_setIfInBounds];exact h2⟩
    · exact ⟨cs',by rw [Below.heap_setCell _ _ _ _ e];exact h1,h2⟩
  · have e : k'≠k:=fun e => by
      subst e
      exact absurd (cells_inj hc hk).2 (by decide)
    rw [Below.heap_setCell _ _ _ _ e]
    exact h.box k' cs hc
  · have e : g≠k:=fun e => by
      subst e
      exact absurd (cells_inj hc hk).2 (by decide)
    rw [Below.heap_setCell _ _ _ _ e]
    exact h.row cs hc
theorem Ovr.putr (h : Ovr B V g i W) {m : Nat} {D : Array Value} (hB : B≤g) (hg : V.heap[g]?=some (.cells D 46 (0,0))) (hm : m < i * 6) (u : Value) : Ovr B V g i (W.setCell ⟨g,m,none⟩ u):=by
  refine ⟨Below.setCell h.hb hB _,fun k' cs hc => ?_,fun k' cs hc => ?_,fun cs hc => ?_⟩
  · have e : k'≠g:=fun e => by
      subst e
      exact absurd (cells_inj hc hg).2 (by decide)
    rw [Below.heap_setCell _ _ _ _ e]
    exact h.int k' cs hc
  · have e : k'≠g:=fun e => by
      subst e
      exact absurd (cells_inj hc hg).2 (by decide)
    rw [Below.heap_setCell _ _ _ _ e]
    exact h.box k' cs hc
  · obtain ⟨cs',h1,h2,h3⟩:=h.row cs hc
    refine ⟨_,blk_put h1 m u rfl,by rw [Array.size_setIfInBounds];exact h2,fun m' hm' => ?_⟩
    rw [Array.getElem?_setIfInBounds,if_neg (by omega)]
    exact h3 m' hm'
theorem own_at {c : Nat} {s : List Opn} {x : Opn} (h : Kd.N k46w 46 V B (fun k => B≤k) (.slice (some ⟨g,0,none⟩) s.length c) s) (hx : s[i]?=some x) :
    ∃ (A2 : Option Addr) (c2 : Nat),x.f2.length≤c2∧(∃ D,V.heap[g]?=some (.cells D 46 (0,0)))∧(∀ W,Ovr B V g i W→∀ (r : Nat) (u : Value),r < 6→(ofV x A2 c2).cs[r]?=some u→W.cell? ⟨g,i * 6 + r,none⟩=some u∧W.frozen? ⟨g,i * 6 + r,none⟩=false) ∧
      ∀ y : Nat,y < x.f2.length→∃ (k o : Nat),A2=some ⟨k,o,none⟩∧B≤k∧(∃ D,V.heap[k]?=some (.cells D 3 (0,0)))∧∀ W,Ovr B V g i W→(∃ u,W.cell? ⟨k,o + y,none⟩=some u)∧W.frozen? ⟨k,o + y,none⟩=false:=by
  have hi:=(List.getElem?_eq_some_iff.1 hx).1
  obtain ⟨A2,c2,hcx,hF⟩:=(RowS.of h).at hx
  obtain ⟨g0,cap,e,hg0,hlt,D0,hD0⟩:=Kd.N_form h (by omega)
  injection e with e1 _ e2
  injection e1 with e1
  injection e1 with e1 _ _
  subst e1 e2
  obtain ⟨A2',c2',e3,hl2,hC2,hT⟩:=k46w_open (Kd.FK_now hF)
  unfold OpV.cs ofV at e3
  injection e3 with _ e3
  injection e3 with _ e3
  injection e3 with e3 _
  injection e3 with e4 _ e5
  dsimp only at e4 e5
  subst e4 e5
  refine ⟨A2,c2,hl2,⟨D0,hD0⟩,fun W hW r u hr hu => ?_,fun y hy1 => ?_⟩
  · obtain ⟨D',h1,h2,h3⟩:=hW.row D0 hD0
    have h4:=(hcx r u hr hu).1
    rw [blk_cell hD0] at h4
    exact ⟨by rw [blk_cell h1,h3 _ (by omega)];exact h4,blk_frozen h1 _⟩
  · obtain ⟨k,o,D,rfl,hD⟩:=hT (by omega)
    obtain ⟨_,_,hcells⟩:=Kd.reads_of_C (enc:=Value.int .i64) (d:=(0 : Int)) (h1:=fun _ => rfl) hC2
    obtain ⟨ad,ead,hcy⟩:=hcells (by omega)
    obtain rfl:=Option.some.inj ead
    have hy:=hcy y (by omega)
    have ea : (⟨k,o,none⟩ : Addr).add y=⟨k,o + y,none⟩:=Addr.add_mid k o _
    rw [ea,blk_cell hD] at hy
    refine ⟨k,o,rfl,?_,⟨D,hD⟩,fun W hW => ?_⟩
    · refine Nat.le_of_not_lt fun hlt2 => ?_
      let V' : World:={ V with heap:=V.heap.mapIdx fun i ob => if i < B then .cells #[] 24 (0,0) else ob }
      have hV : ∀ k,(B≤k∧k≠g)→k < V.heap.size→V'.heap[k]?=V.heap[k]?:=fun k hk hk2 => by
        show (V.heap.mapIdx _)[k]?=V.heap[k]?
        rw [Array.getElem?_mapIdx]
        cases V.heap[k]? with
        | none => rfl
        | some ob => rw [Option.map_some,if_neg (by omega)]
      obtain ⟨A3,c3,e3,_,_,hT'⟩:=k46w_open (hF V' hV)
      injection e3 with _ e3
      injection e3 with _ e3
      injection e3 with e3 _
      injection e3 with e4 _ _
      obtain ⟨g',o',D',e5,hD'⟩:=hT' (by omega)
      have e6 : (some ⟨k,o,none⟩ : Option Addr)=some ⟨g',o',none⟩:=e4.trans e5
      injection e6 with e6
      injection e6 with e6 _ _
      rw [← e6] at hD'
      have hw : V'.heap[k]?=some (.cells #[] 24 (0,0)):=by
        show (V.heap.mapIdx _)[k]?=_
        rw [Array.getElem?_mapIdx,hD,Option.map_some,if_pos hlt2]
      exact absurd (cells_inj hw hD').2 (by decide)
    · obtain ⟨D',h1,h2⟩:=hW.int k D hD
      have h3:=(Array.getElem?_eq_some_iff.1 hy).1
      exact ⟨⟨_,by rw [blk_cell h1];exact Array.getElem?_eq_getElem (by omega)⟩,blk_frozen h1 _⟩
end Go.Proofs.Ytbelnopbggkdfaa.Q
end

section
namespace Go.Proofs.Ytbelnopbggkdfaa.Q
open Go.RowKit Go.Proofs.YtbelnopbggkdfaaW.PrintWords Go.Proofs.YtbelnopbggkdfaaW.PrintLast Go.Proofs.YtbelnopbggkdfaaW.PrintMore
set_option maxHeartbeats 4000000 in
set_option maxRecDepth 1000000 in
theorem same17_any (B : Nat) (q b z : Int) (A : Option Addr) (c : Nat) (A' : Option Addr) (c' : Nat) (s : List Opn) (w : World) (hB : B≤w.heap.size) (HN : Kd.N k46w 46 w B (fun k => B≤k) (.slice A s.length c) s) (HC : Kd.C k46 w A' s.length s) (hc : s.length≤c') (hn : s.length≤1000000) (hq : ∀ o ∈ s,o.f2.length≤1000) :
    Calls Try.prog 10 #[.agg #[.int .i64 q,.int .i64 b,.slice A s.length c],.int .i64 z,.agg #[.int .i64 q,.int .i64 b,.slice A' s.length c'],.int .i64 z] w fun e w' => e=.returned (.bool true)∧Below B w w'∧∀ (k : Nat) (cs : Array Value),w.heap[k]?=some (.cells cs 24 (0,0))→w'.heap[k]?=some (.cells cs 24 (0,0)):=by
  have hu24:=Try.underlying24
  have hu46:=Try.underlying46
  obtain ⟨k1,e1⟩:=(same_is (q:=q) (b:=b) (l:=s) (fun o ho => by have:=hq o ho;omega) (by omega)).get
  have E1:=Aside0.mk e1
  have HR:=Aside0.mk HN
  have HR2:=Aside0.mk HC
  have HS2:=Aside0.mk hc
  have HSN:=Aside0.mk hn
  have HSQ:=Aside0.mk hq
  have HB:=Aside0.mk hB
  have hzz : (z == z)=true:=beq_self_eq_true z
  clear e1 HN HC hc hn hq hB
  go_enter Try.func10,Try.ntmps10
  go_upto_region 1 with fail
  have bA : ((w.alloc (.cells #[.int .i64 q,.int .i64 b,.slice A s.length c] 24)).alloc (.cells #[.int .i64 q,.int .i64 b,.slice A' s.length c'] 24)).heap[w.heap.size]?=some (.cells #[.int .i64 q,.int .i64 b,.slice A s.length c] 24 (0,0)) :=
    blk_alloc (blk_new w _) _
  have bB : ((w.alloc (.cells #[.int .i64 q,.int .i64 b,.slice A s.length c] 24)).alloc (.cells #[.int .i64 q,.int .i64 b,.slice A' s.length c'] 24)).heap[w.heap.size + 1]?=some (.cells #[.int .i64 q,.int .i64 b,.slice A' s.length c'] 24 (0,0)):=by
    have:=blk_new (w.alloc (.cells #[.int .i64 q,.int .i64 b,.slice A s.length c] 24)) (.cells #[.int .i64 q,.int .i64 b,.slice A' s.length c'] 24)
    simpa using this
  have hb0 : Below w.heap.size w ((w.alloc (.cells #[.int .i64 q,.int .i64 b,.slice A s.length c] 24)).alloc (.cells #[.int .i64 q,.int .i64 b,.slice A' s.length c'] 24)):=below_alloc (below_alloc (Below.refl _ _) _) _
  obtain ⟨gA,hgA⟩ : ∃ g,g=w.heap.size:=⟨_,rfl⟩
  obtain ⟨gB,hgB⟩ : ∃ g,g=w.heap.size + 1:=⟨_,rfl⟩
  rw [← hgB] at bB ⊢
  rw [← hgA] at bA
  (simp only [← hgA])
  have HB0:=Aside0.mk hb0
  clear hgA hgB hb0
  generalize (w.alloc _).alloc _=W at bA bB HB0 ⊢
  have p0 : W.cell? ⟨gA,0,none⟩=some (.int .i64 q):=by rw [blk_cell bA];rfl
  have p1 : W.cell? ⟨gA,1,none⟩=some (.int .i64 b):=by rw [blk_cell bA];rfl
  have p2 : W.cell? ⟨gA,2,none⟩=some (.slice A s.length c):=by rw [blk_cell bA];rfl
  have q0 : W.cell? ⟨gB,0,none⟩=some (.int .i64 q):=by rw [blk_cell bB];rfl
  have q1 : W.cell? ⟨gB,1,none⟩=some (.int .i64 b):=by rw [blk_cell bB];rfl
  have q2 : W.cell? ⟨gB,2,none⟩=some (.slice A' s.length c'):=by rw [blk_cell bB];rfl
  have BA:=Aside0.mk bA
  have HNW:=Aside0.mk (Kd.N_below HR.out HB0.out)
  have HCA:=Aside0.mk (k46w_C (Kd.N_reads' HNW.out).2.2)
  have HLA:=Aside0.mk (Kd.N_reads' HNW.out).2.1
  have HCB:=Aside0.mk (Kd.C_below HR2.out HB0.out)
  clear bA bB
  go_upto_region 2 with (go_at_call 19;(with_reducible refine (phasorref08_Same.calls k1 q b A c s q b A' c' s true _ HCA.out HLA.out HCB.out HS2.out E1.out).mono ?_);rintro e wb ⟨rfl,hb1⟩)
  have hbw:=HB0.out.trans (hb1.mono HB0.out.size)
  have HBW:=Aside0.mk hbw
  have HBX:=Aside0.mk (show ∀ (k : Nat) (cs : Array Value),w.heap[k]?=some (.cells cs 24 (0,0))→wb.heap[k]?=some (.cells cs 24 (0,0)) from fun k cs h => blk_below (blk_below h HB0.out) hb1)
  have HNB:=Aside0.mk (Kd.N_below HNW.out hb1)
  have BAB:=Aside0.mk (blk_below BA.out hb1)
  obtain ⟨g,hgA⟩ : ∃ g,0 < s.length→A=some ⟨g,0,none⟩:=by
    by_cases hs : 0 < s.length
    · obtain ⟨g,cap,e,-⟩:=Kd.N_form HNB.out hs
      injection e with e _ _
      exact ⟨g,fun _ => e⟩
    · exact ⟨0,fun h => absurd h hs⟩
  have HGA:=Aside0.mk hgA
  have HO0:=Aside0.mk (Ovr.refl B wb g 0)
  clear p0 p1 p2 q0 q1 q2 hzz hb1 hbw hgA BA HNW HCA HCB
  go_wp2_with fail
  go_loopg [10] s.length (fun gk v10 wr => ∃ i : Nat,i≤s.length∧s.length - i≤gk∧v10=.int .i64 (i : Int)∧Aside0 (Ovr B wb g i wr))
  case atStart => exact ⟨0,by omega,by omega,by go_num,HO0⟩
  case round =>
    obtain ⟨i,hi0,hi1,rfl,HI⟩:=hrel
    have hsn:=HSN.out
    have p2 : wr.cell? ⟨gA,2,none⟩=some (.slice A s.length c):=by rw [blk_cell (HI.out.box _ _ BAB.out)];rfl
    by_cases hlt : i < s.length
    · obtain rfl:=HGA.out (by omega)
      obtain ⟨x,hx⟩ : ∃ x,s[i]?=some x:=⟨_,List.getElem?_eq_getElem hlt⟩
      have HQX:=Aside0.mk (HSQ.out x (List.mem_of_getElem? hx))
      obtain ⟨A2,c2,hcap,⟨D,hD⟩,hcx,hqx⟩:=own_at HNB.out hx
      have HCX:=Aside0.mk hcx
      have HQY:=Aside0.mk hqx
      have HD:=Aside0.mk hD
      have HBG:=Aside0.mk (show B≤g from HNB.out.1 g rfl)
      have HIN:=Aside0.mk HI.out
      clear hcap hD hcx hqx hx
      go_wp2_with fail
      clear p2
      go_loopg [11] x.f2.length (fun gk2 v11 ws => ∃ y : Nat,y≤x.f2.length∧x.f2.length - y≤gk2∧v11=.int .i64 (y : Int)∧Aside0 (Ovr B wb g i ws))
      case atStart => exact ⟨0,by omega,by omega,by go_num,HIN⟩
      case round =>
        obtain ⟨y,hy0,hy1,rfl,HJ⟩:=hrel
        have hqx:=HQX.out
        have p2 : wr.cell? ⟨gA,2,none⟩=some (.slice (some ⟨g,0,none⟩) s.length c):=by rw [blk_cell (HJ.out.box _ _ BAB.out)];rfl
        have a0:=(HCX.out wr HJ.out 0 _ (by omega) rfl).1
        have a1:=(HCX.out wr HJ.out 1 _ (by omega) rfl).1
        have a2:=(HCX.out wr HJ.out 2 _ (by omega) rfl).1
        have a3:=(HCX.out wr HJ.out 3 _ (by omega) rfl).1
        have a4:=(HCX.out wr HJ.out 4 _ (by omega) rfl).1
        have a5:=(HCX.out wr HJ.out 5 _ (by omega) rfl).1
        have a0f:=(HCX.out wr HJ.out 0 _ (by omega) rfl).2
        have a1f:=(HCX.out wr HJ.out 1 _ (by omega) rfl).2
        have a2f:=(HCX.out wr HJ.out 2 _ (by omega) rfl).2
        have a3f:=(HCX.out wr HJ.out 3 _ (by omega) rfl).2
        have a4f:=(HCX.out wr HJ.out 4 _ (by omega) rfl).2
        have a5f:=(HCX.out wr HJ.out 5 _ (by omega) rfl).2
        simp only [Nat.add_zero] at a0 a0f
        unfold ofV at a0 a1 a2 a3 a4 a5
        dsimp only at a0 a1 a2 a3 a4 a5
        by_cases hly : y < x.f2.length
        · obtain ⟨k,o,rfl,hBk,⟨D2,hD2⟩,hyc⟩:=HQY.out y hly
          obtain ⟨⟨u,hu⟩,huf⟩:=hyc wr HJ.out
          have HNX:=Aside0.mk (HJ.out.putq (o:=o + y) hBk hD2 (.int .i64 77))
          clear hBk hD2 hyc
          go_wp2
          go_roundg (x.f2.length - (y + 1))
          case measure => omega
          case rel =>
            have e : wrap64 ((y : Int) + 1)=((y + 1 : Nat) : Int):=by rw [w64 (by omega) (by omega)];rfl
            exact ⟨y + 1,Nat.succ_le_of_lt hly,Nat.le_refl _,by first|go_num|(rw [e];done)|(rw [← e];done)|exact congrArg (Value.int .i64) e,HNX⟩
        · obtain rfl : y=x.f2.length:=by omega
          have hput:=((((((HJ.out.mono (Nat.le_succ i)).putr (m:=i * 6) HBG.out HD.out (by omega) (.int .i64 0)).putr (m:=i * 6 + 1) HBG.out HD.out (by omega) (.int .i64 0)).putr (m:=i * 6 + 2) HBG.out HD.out (by omega) (.slice none 0 0)).putr (m:=i * 6 + 3) HBG.out HD.out (by omega) (.int .i64 0)).putr (m:=i * 6 + 4) HBG.out HD.out (by omega) (.int .i64 0)).putr (m:=i * 6 + 5) HBG.out HD.out (by omega) (.int .i64 0)
          have HNX:=Aside0.mk hput
          clear hput
          go_wp2
          go_roundg (s.length - (i + 1))
          case measure => omega
          case rel =>
            have e : wrap64 ((i : Int) + 1)=((i + 1 : Nat) : Int):=by rw [w64 (by omega) (by omega)];rfl
            exact ⟨i + 1,Nat.succ_le_of_lt hlt,Nat.le_refl _,by first|go_num|(rw [e];done)|(rw [← e];done)|exact congrArg (Value.int .i64) e,HNX⟩
    · obtain rfl : i=s.length:=by omega
      go_wp2
      go_ret
      exact ⟨rfl,(HBW.out.mono HB.out).trans HI.out.hb,fun k cs h => HI.out.box k cs (HBX.out k cs h)⟩
end Go.Proofs.Ytbelnopbggkdfaa.Q
end

section
namespace Go.Proofs.Ytbelnopbggkdfaa.Q
open Go.RowKit Go.Proofs.YtbelnopbggkdfaaW.PrintWords Go.Proofs.YtbelnopbggkdfaaW.PrintLast Go.Proofs.YtbelnopbggkdfaaW.PrintMore
attribute [local go_sem] max2_int min2_int max_two min_two max_three min_three max_four min_four   -- for this text's walks alone
set_option linter.unusedVariables false
set_option linter.unusedSimpArgs false
def invert_controlled.f (a0 : Int) : Option (Int):=if a0=2 then (some 11) else (if a0=3 then (some 12) else (if a0=4 then (some 13) else (if a0=11 then (some 18) else (if a0=13 then (some 19) else (if a0=14 then (some 20) else (some 0))))))
set_option maxHeartbeats 8000000 in
set_option maxRecDepth 100000 in
theorem invert_controlled.calls (a0 : Int) (r : Int) (w : World) (h : invert_controlled.f a0=some r) :
  Calls Try.prog 56 #[.int .i64 a0] w fun e w' => e=.returned (.int .i64 r)∧Drawn0 w w':=by
 have H : (if a0=2 then (some 11) else (if a0=3 then (some 12) else (if a0=4 then (some 13) else (if a0=11 then (some 18) else (if a0=13 then (some 19) else (if a0=14 then (some 20) else (some 0)))))))=some r:=h
 clear h
 by_cases c2 : a0=2
 ·rw [if_pos c2] at H
  have c2b0 : (a0 == 2)=true:=beq_iff_eq.mpr c2
  have c2b1 : (a0 != 2)=false:=bne_eq_false_iff_eq.mpr c2
  clear c2
  obtain rfl:=Option.some.inj H
  go_enter Try.func56,Try.ntmps56
  go_wp2
  go_ret
  exact ⟨by first|rfl|(simp;done)|(simp [*];done),by repeat (first|exact Drawn0.refl _|apply Drawn0.step)⟩
 ·rw [if_neg c2] at H
  have c2b0 : (a0 == 2)=false:=beq_eq_false_iff_ne.mpr c2
  have c2b1 : (a0 != 2)=true:=bne_iff_ne.mpr c2
  by_cases c3 : a0=3
  ·rw [if_pos c3] at H
   have c3b0 : (a0 == 3)=true:=beq_iff_eq.mpr c3
   have c3b1 : (a0 != 3)=false:=bne_eq_false_iff_eq.mpr c3
   clear c3
   obtain rfl:=Option.some.inj H
   go_enter Try.func56,Try.ntmps56
   go_wp2
   go_ret
   exact ⟨by first|rfl|(simp;done)|(simp [*];done),by repeat (first|exact Drawn0.refl _|apply Drawn0.step)⟩
  ·rw [if_neg c3] at H
   have c3b0 : (a0 == 3)=false:=beq_eq_false_iff_ne.mpr c3
   have c3b1 : (a0 != 3)=true:=bne_iff_ne.mpr c3
   by_cases c4 : a0=4
   ·rw [if_pos c4] at H
    have c4b0 : (a0 == 4)=true:=beq_iff_eq.mpr c4
    have c4b1 : (a0 != 4)=false:=bne_eq_false_iff_eq.mpr c4
    clear c4
    obtain rfl:=Option.some.inj H
    go_enter Try.func56,Try.ntmps56
    go_wp2
    go_ret
    exact ⟨by first|rfl|(simp;done)|(simp [*];done),by repeat (first|exact Drawn0.refl _|apply Drawn0.step)⟩
   ·rw [if_neg c4] at H
    have c4b0 : (a0 == 4)=false:=beq_eq_false_iff_ne.mpr c4
    have c4b1 : (a0 != 4)=true:=bne_iff_ne.mpr c4
    by_cases c5 : a0=11
    ·rw [if_pos c5] at H
     have c5b0 : (a0 == 11)=true:=beq_iff_eq.mpr c5
     have c5b1 : (a0 != 11)=false:=bne_eq_false_iff_eq.mpr c5
     clear c5
     obtain rfl:=Option.some.inj H
     go_enter Try.func56,Try.ntmps56
     go_wp2
     go_ret
     exact ⟨by first|rfl|(simp;done)|(simp [*];done),by repeat (first|exact Drawn0.refl _|apply Drawn0.step)⟩
    ·rw [if_neg c5] at H
     have c5b0 : (a0 == 11)=false:=beq_eq_false_iff_ne.mpr c5
     have c5b1 : (a0 != 11)=true:=bne_iff_ne.mpr c5
     by_cases c6 : a0=13
     ·rw [if_pos c6] at H
      have c6b0 : (a0 == 13)=true:=beq_iff_eq.mpr c6
      have c6b1 : (a0 != 13)=false:=bne_eq_false_iff_eq.mpr c6
      clear c6
      obtain rfl:=Option.some.inj H
      go_enter Try.func56,Try.ntmps56
      go_wp2
      go_ret
      exact ⟨by first|rfl|(simp;done)|(simp [*];done),by repeat (first|exact Drawn0.refl _|apply Drawn0.step)⟩
     ·rw [if_neg c6] at H
      have c6b0 : (a0 == 13)=false:=beq_eq_false_iff_ne.mpr c6
      have c6b1 : (a0 != 13)=true:=bne_iff_ne.mpr c6
      by_cases c7 : a0=14
      ·rw [if_pos c7] at H
       have c7b0 : (a0 == 14)=true:=beq_iff_eq.mpr c7
       have c7b1 : (a0 != 14)=false:=bne_eq_false_iff_eq.mpr c7
       clear c7
       obtain rfl:=Option.some.inj H
       go_enter Try.func56,Try.ntmps56
       go_wp2
       go_ret
       exact ⟨by first|rfl|(simp;done)|(simp [*];done),by repeat (first|exact Drawn0.refl _|apply Drawn0.step)⟩
      ·rw [if_neg c7] at H
       have c7b0 : (a0 == 14)=false:=beq_eq_false_iff_ne.mpr c7
       have c7b1 : (a0 != 14)=true:=bne_iff_ne.mpr c7
       obtain rfl:=Option.some.inj H
       go_enter Try.func56,Try.ntmps56
       go_wp2
       go_ret
       exact ⟨by first|rfl|(simp;done)|(simp [*];done),by repeat (first|exact Drawn0.refl _|apply Drawn0.step)⟩
end Go.Proofs.Ytbelnopbggkdfaa.Q
end

section
namespace Go.Proofs.Ytbelnopbggkdfaa.Q
open Go.RowKit Go.Proofs.YtbelnopbggkdfaaW.PrintWords Go.Proofs.YtbelnopbggkdfaaW.PrintLast Go.Proofs.YtbelnopbggkdfaaW.PrintMore
theorem mixL_at {α : Type} {f : α→α} {l : List α} {i : Nat} {x : α} (h : l[i]?=some x) : ((l.take i).map f ++ l.drop i)[i]?=some x:=by
  obtain ⟨hi,rfl⟩:=List.getElem?_eq_some_iff.1 h
  have e : ((l.take i).map f).length=i:=by simp;omega
  rw [List.getElem?_append_right (by omega),e,Nat.sub_self,List.getElem?_drop,Nat.add_zero,h]
theorem mixL_step {α : Type} {f : α→α} {l : List α} {i : Nat} {x : α} (h : l[i]?=some x) : ((l.take i).map f ++ l.drop i).set i (f x)=(l.take (i + 1)).map f ++ l.drop (i + 1):=by
  obtain ⟨hi,rfl⟩:=List.getElem?_eq_some_iff.1 h
  have e : ((l.take i).map f).length=i:=by simp;omega
  rw [List.set_append_right _ _ (by omega),e,Nat.sub_self,List.drop_eq_getElem_cons hi,List.set_cons_zero,List.take_succ_eq_append_getElem hi,List.map_append,List.append_assoc]
  rfl
theorem mixL_keep {α : Type} {f : α→α} {l : List α} {i : Nat} {x : α} (h : l[i]?=some x) (e : f x=x) : (l.take i).map f ++ l.drop i=(l.take (i + 1)).map f ++ l.drop (i + 1):=by
  rw [← mixL_step h,e]
  refine (List.ext_getElem? fun k => ?_).symm
  rw [List.getElem?_set]
  by_cases ek : i=k
  · subst ek
    rw [if_pos rfl,mixL_at h,if_pos (List.getElem?_eq_some_iff.1 (mixL_at (f:=f) h)).1]
  · rw [if_neg ek]
def ctlG (k : Int) : Int:=if k=2 then 11 else if k=3 then 12 else if k=4 then 13 else if k=11 then 18 else if k=13 then 19 else if k=14 then 20 else 0
theorem ctlG_is (k : Int) : invert_controlled.f k=some (ctlG k):=by
  unfold invert_controlled.f ctlG
  repeat' split
  all_goals rfl
theorem ctlF_is {k : Int} (h : k≠1) : ctlF k=ctlG k:=by
  unfold ctlF ctlG
  rw [if_neg h]
set_option maxHeartbeats 4000000 in
set_option maxRecDepth 1000000 in
theorem ctl_no (q b : Int) (A : Option Addr) (c : Nat) (l : List Opn) (w : World) (HC : Kd.C k46 w A l.length l) (hc : l.length≤c) (hw : WfL l) (k1 : Nat) (e1 : invert_checked.f k1 q b l=some (0,0,[],80)) :
    Calls Try.prog 17 #[.agg #[.int .i64 q,.int .i64 b,.slice A l.length c]] w (Out w (0,0,[],80)):=by
  have HR:=Aside0.mk HC
  have HS:=Aside0.mk hc
  have HWF:=Aside0.mk hw
  have E1:=Aside0.mk e1
  clear HC hc hw e1
  have hu24:=Try.underlying24
  go_enter Try.func17,Try.ntmps17
  go_upto_region 1 with fail
  have F:=Aside0.mk (Fr.start (q:=q) (b:=b) (c:=c) HR.out)
  clear HR
  obtain ⟨g2,hg2⟩ : ∃ g,g=w.heap.size + 1:=⟨_,rfl⟩
  rw [← hg2] at F ⊢
  clear hg2
  generalize ((w.alloc _).alloc _)=W at F ⊢
  obtain ⟨c0,c1,c2,d0,d1,d2,f0,f1,f2⟩:=F.out.cells
  go_upto_region 2 with (go_at_call 42;(with_reducible refine (invert_checked.calls k1 q b _ _ l _ _ _ _ _ F.out.hc HS.out E1.out).mono ?_);rintro e w3 ⟨v1,rfl,ho1,hb3⟩;obtain ⟨A3,n3,c3,rfl⟩ : ∃ A n c,v1=.slice A n c:=(Kd.S_slice ho1).elim fun A h => h.elim fun c e => ⟨A,_,c,e⟩)
  have bb:=below_alloc (Below.refl w3.heap.size w3) (.cells #[.int .i64 0,.int .i64 0,.slice A3 n3 c3] 24)
  have y4:=blk_new w3 (.cells #[.int .i64 0,.int .i64 0,.slice A3 n3 c3] 24)
  have HQ:=Aside0.mk (Kd.N_lower (Kd.N_mono (Kd.N_below (Kd.S_N (k46w_S (Kd.S_bound ho1))) bb) (fun k hk => F.out.fresh k hk.2.1)) F.out.hb.size)
  replace F:=Aside0.mk (F.out.below (below_step hb3 bb))
  clear c0 c1 c2 d0 d1 d2 f0 f1 f2
  obtain ⟨c0,c1,c2,d0,d1,d2,f0,f1,f2⟩:=F.out.cells
  clear hb3 ho1 bb
  generalize w3.heap.size=g4 at y4 ⊢
  generalize w3.alloc _=w4 at y4 HQ F c0 c1 c2 d0 d1 d2 f0 f1 f2 ⊢
  have q0 : w4.cell? ⟨g4,0,none⟩=some (.int .i64 0):=by rw [blk_cell y4];rfl
  have q1 : w4.cell? ⟨g4,1,none⟩=some (.int .i64 0):=by rw [blk_cell y4];rfl
  have q2 : w4.cell? ⟨g4,2,none⟩=some (.slice A3 n3 c3):=by rw [blk_cell y4];rfl
  clear y4
  go_wp2
  refine bodyPost_ret (results_ct rfl _ _ g2 24 _ (0,0) _ rfl (F.out.put 0 0 (.slice A3 n3 c3)) Try.underlying24 rfl (by kernel_rfl)) rfl ?_
  exact F.out.out HQ.out
set_option maxHeartbeats 4000000 in
set_option maxRecDepth 1000000 in
theorem ctl_wide (q b : Int) (A : Option Addr) (c : Nat) (l : List Opn) (w : World) (HC : Kd.C k46 w A l.length l) (hc : l.length≤c) (hw : WfL l) (k1 : Nat) (e1 : invert_checked.f k1 q b l=some (q,b,l,0)) (hq : 64≤q) :
    Calls Try.prog 17 #[.agg #[.int .i64 q,.int .i64 b,.slice A l.length c]] w (Out w (0,0,[],170)):=by
  have hq64 : decide ((64 : Int)≤q)=true:=decide_eq_true hq
  clear hq
  have HR:=Aside0.mk HC
  have HS:=Aside0.mk hc
  have HWF:=Aside0.mk hw
  have E1:=Aside0.mk e1
  clear HC hc hw e1
  have hu24:=Try.underlying24
  go_enter Try.func17,Try.ntmps17
  go_upto_region 1 with fail
  have F:=Aside0.mk (Fr.start (q:=q) (b:=b) (c:=c) HR.out)
  clear HR
  obtain ⟨g2,hg2⟩ : ∃ g,g=w.heap.size + 1:=⟨_,rfl⟩
  rw [← hg2] at F ⊢
  clear hg2
  generalize ((w.alloc _).alloc _)=W at F ⊢
  obtain ⟨c0,c1,c2,d0,d1,d2,f0,f1,f2⟩:=F.out.cells
  go_upto_region 4 with (go_at_call 42;(with_reducible refine (invert_checked.calls k1 q b _ _ l _ _ _ _ _ F.out.hc HS.out E1.out).mono ?_);rintro e w3 ⟨v1,rfl,ho1,hb3⟩;obtain ⟨A3,c3,rfl⟩:=Kd.S_slice ho1)
  have bb:=below_alloc (Below.refl w3.heap.size w3) (.cells #[.int .i64 q,.int .i64 b,.slice A3 l.length c3] 24)
  have y4:=blk_new w3 (.cells #[.int .i64 q,.int .i64 b,.slice A3 l.length c3] 24)
  have HG4:=Aside0.mk (show g2 < w3.heap.size from blk_lt (F.out.below hb3).b2)
  have HQ:=Aside0.mk (Kd.N_lower (Kd.N_mono (Kd.N_below (Kd.S_N (k46w_S (Kd.S_bound ho1))) bb) (fun k hk => show w.heap.size≤k∧k≠g2∧k < w3.heap.size from ⟨(F.out.fresh k hk.2.1).1,(F.out.fresh k hk.2.1).2,hk.2.2.1⟩)) F.out.hb.size)
  replace F:=Aside0.mk (F.out.below (below_step hb3 bb))
  clear c0 c1 c2 d0 d1 d2 f0 f1 f2
  obtain ⟨c0,c1,c2,d0,d1,d2,f0,f1,f2⟩:=F.out.cells
  clear hb3 ho1 bb
  generalize w3.heap.size=g4 at y4 HQ HG4 ⊢
  generalize w3.alloc _=w4 at y4 HQ F c0 c1 c2 d0 d1 d2 f0 f1 f2 ⊢
  have Y4:=Aside0.mk y4
  have q0 : w4.cell? ⟨g4,0,none⟩=some (.int .i64 q):=by rw [blk_cell y4];rfl
  have q1 : w4.cell? ⟨g4,1,none⟩=some (.int .i64 b):=by rw [blk_cell y4];rfl
  have q2 : w4.cell? ⟨g4,2,none⟩=some (.slice A3 l.length c3):=by rw [blk_cell y4];rfl
  clear y4
  go_wp2
  refine bodyPost_ret (results_ct rfl _ _ g2 24 _ (0,0) _ rfl (F.out.put 0 0 (.slice none 0 0)) Try.underlying24 rfl (by kernel_rfl)) rfl ?_
  exact F.out.out Fr.nil
set_option maxHeartbeats 4000000 in
set_option maxRecDepth 1000000 in
theorem ctl_main (q b : Int) (A : Option Addr) (c : Nat) (l : List Opn) (w : World) (HC : Kd.C k46 w A l.length l) (hc : l.length≤c) (hw : WfL l) (k1 : Nat) (e1 : invert_checked.f k1 q b l=some (q,b,l,0)) (hq : ¬ 64≤q) (hq0 : 0≤q) (hle : l.length≤4096) (hpos : 0 < l.length) (hqs : ∀ o ∈ l,o.f2.length≤64) :
    Calls Try.prog 17 #[.agg #[.int .i64 q,.int .i64 b,.slice A l.length c]] w (Out w (if l.any ctlBad=true then (0,0,[],170) else (q + 1,b,l.map (ctlO q),0))):=by
  have hq64 : decide ((64 : Int)≤q)=false:=decide_eq_false hq
  have HQ64:=Aside0.mk hq
  have HQ0:=Aside0.mk hq0
  have HLE:=Aside0.mk hle
  have HPOS:=Aside0.mk hpos
  have HQS:=Aside0.mk hqs
  clear hq hq0 hle hpos hqs
  obtain ⟨RES,hRES⟩ : ∃ r,r=(if l.any ctlBad=true then ((0,0,[],170) : Int × Int × List Opn × Int) else (q + 1,b,l.map (ctlO q),0)):=⟨_,rfl⟩
  rw [← hRES]
  have HRES:=Aside0.mk hRES
  clear hRES
  have HR:=Aside0.mk HC
  have HS:=Aside0.mk hc
  have HWF:=Aside0.mk hw
  have E1:=Aside0.mk e1
  clear HC hc hw e1
  have hu24:=Try.underlying24
  go_enter Try.func17,Try.ntmps17
  go_upto_region 1 with fail
  have F:=Aside0.mk (Fr.start (q:=q) (b:=b) (c:=c) HR.out)
  clear HR
  obtain ⟨g2,hg2⟩ : ∃ g,g=w.heap.size + 1:=⟨_,rfl⟩
  rw [← hg2] at F ⊢
  clear hg2
  generalize ((w.alloc _).alloc _)=W at F ⊢
  obtain ⟨c0,c1,c2,d0,d1,d2,f0,f1,f2⟩:=F.out.cells
  go_upto_region 4 with (go_at_call 42;(with_reducible refine (invert_checked.calls k1 q b _ _ l _ _ _ _ _ F.out.hc HS.out E1.out).mono ?_);rintro e w3 ⟨v1,rfl,ho1,hb3⟩;obtain ⟨A3,c3,rfl⟩:=Kd.S_slice ho1)
  have bb:=below_alloc (Below.refl w3.heap.size w3) (.cells #[.int .i64 q,.int .i64 b,.slice A3 l.length c3] 24)
  have y4:=blk_new w3 (.cells #[.int .i64 q,.int .i64 b,.slice A3 l.length c3] 24)
  have HG4:=Aside0.mk (show g2 < w3.heap.size from blk_lt (F.out.below hb3).b2)
  have HQ:=Aside0.mk (Kd.N_lower (Kd.N_mono (Kd.N_below (Kd.S_N (k46w_S (Kd.S_bound ho1))) bb) (fun k hk => show w.heap.size≤k∧k≠g2∧k < w3.heap.size from ⟨(F.out.fresh k hk.2.1).1,(F.out.fresh k hk.2.1).2,hk.2.2.1⟩)) F.out.hb.size)
  replace F:=Aside0.mk (F.out.below (below_step hb3 bb))
  clear c0 c1 c2 d0 d1 d2 f0 f1 f2
  obtain ⟨c0,c1,c2,d0,d1,d2,f0,f1,f2⟩:=F.out.cells
  clear hb3 ho1 bb
  generalize w3.heap.size=g4 at y4 HQ HG4 ⊢
  generalize w3.alloc _=w4 at y4 HQ F c0 c1 c2 d0 d1 d2 f0 f1 f2 ⊢
  have Y4:=Aside0.mk y4
  have q0 : w4.cell? ⟨g4,0,none⟩=some (.int .i64 q):=by rw [blk_cell y4];rfl
  have q1 : w4.cell? ⟨g4,1,none⟩=some (.int .i64 b):=by rw [blk_cell y4];rfl
  have q2 : w4.cell? ⟨g4,2,none⟩=some (.slice A3 l.length c3):=by rw [blk_cell y4];rfl
  obtain ⟨g,hA3⟩ : ∃ g,A3=some ⟨g,0,none⟩:=by
    obtain ⟨g,cap,e,-⟩:=Kd.N_form HQ.out HPOS.out
    injection e with e _ _
    exact ⟨g,e⟩
  subst hA3
  have HGR:=Aside0.mk (show g≠g4∧g2 < g∧w.heap.size≤g from by
    have:=Kd.N_base HQ.out g rfl
    have h2:=HQ.out.1 g rfl
    have h3:=F.out.g
    have h4 : g≠w.heap.size:=fun e => by
      obtain ⟨g',cap,e2,_,_,D,hD⟩:=Kd.N_form HQ.out HPOS.out
      injection e2 with e2 _ _
      injection e2 with e2
      injection e2 with e2 _ _
      subst e2
      rw [e] at hD
      rw [F.out.b1] at hD
      injection hD with hD
      injection hD with _ hD _
      exact absurd hD (by decide)
    exact ⟨by omega,by omega,by omega⟩)
  have HS0:=Aside0.mk (show RowS w4 g (fun k => w.heap.size≤k∧k≠g2∧k≠g4) ((l.take 0).map (ctlO q) ++ l.drop 0) w4 from RowS.of (Kd.N_mono HQ.out (fun k hk => ⟨hk.1,hk.2.1,Nat.ne_of_lt hk.2.2⟩)))
  have HB0:=Aside0.mk (show (l.take 0).any ctlBad=false from rfl)
  clear y4 c0 c1 c2 d0 d1 d2 f0 f1 f2 q1
  go_wp2_with fail
  clear q0 q2 hq64
  go_loopg [25] l.length (fun gk v25 wr => ∃ i : Nat,i≤l.length∧l.length - i≤gk∧v25=.int .i64 (i : Int)∧Aside0 ((l.take i).any ctlBad=false)∧Aside0 (RowS w4 g (fun k => w.heap.size≤k∧k≠g2∧k≠g4) ((l.take i).map (ctlO q) ++ l.drop i) wr))
  case atStart => exact ⟨0,by omega,by omega,by go_num,HB0,HS0⟩
  case round =>
    obtain ⟨i,hi0,hi1,rfl,HB,HI⟩:=hrel
    have y4:=(HI.out.old g4 (blk_lt Y4.out) HGR.out.1.symm).trans Y4.out
    have hle:=HLE.out
    by_cases hlt : i < l.length
    · obtain ⟨x,hx⟩ : ∃ x,l[i]?=some x:=⟨_,List.getElem?_eq_getElem hlt⟩
      have hxs : ((l.take i).map (ctlO q) ++ l.drop i)[i]?=some x:=mixL_at hx
      have HX:=Aside0.mk hx
      have HXS:=Aside0.mk hxs
      have HNX:=Aside0.mk (mixL_step (f:=ctlO q) hx)
      have HBX:=Aside0.mk (show (l.take (i + 1)).any ctlBad=ctlBad x by
        obtain ⟨_,rfl⟩:=List.getElem?_eq_some_iff.1 hx
        rw [List.take_succ_eq_append_getElem hlt,List.any_append,HB.out]
        simp)
      obtain ⟨A2,c2,hcx,hF⟩:=HI.out.at hxs
      have a0:=(hcx 0 _ (by omega) rfl).1
      have a1:=(hcx 1 _ (by omega) rfl).1
      have a2:=(hcx 2 _ (by omega) rfl).1
      have a3:=(hcx 3 _ (by omega) rfl).1
      have a4:=(hcx 4 _ (by omega) rfl).1
      have a5:=(hcx 5 _ (by omega) rfl).1
      simp only [Nat.add_zero] at a0
      unfold ofV at a0 a1 a2 a3 a4 a5
      dsimp only at a0 a1 a2 a3 a4 a5
      clear hcx hx hxs
      go_upto_region 9 with fail
      have bb7:=below_alloc (Below.refl wr.heap.size wr) (.cells #[.int .i64 x.f0,.int .i64 x.f1,.slice A2 x.f2.length c2,.int .i64 x.f3,.int .i64 x.f4,.int .i64 x.f5] 46)
      have y7:=blk_new wr (.cells #[.int .i64 x.f0,.int .i64 x.f1,.slice A2 x.f2.length c2,.int .i64 x.f3,.int .i64 x.f4,.int .i64 x.f5] 46)
      have HF:=Aside0.mk (Kd.FK_below hF bb7)
      have HI0:=HI.out.lt
      have hy4:=blk_lt y4
      replace HI:=Aside0.mk (HI.out.below bb7)
      replace y4:=blk_below y4 bb7
      have HN7:=Aside0.mk (show g4 < wr.heap.size∧g < wr.heap.size from ⟨hy4,HI0⟩)
      clear a0 a1 a2 a3 a4 a5 hF bb7 HI0 hy4
      generalize wr.heap.size=g7 at y7 HN7 ⊢
      generalize wr.alloc _=wa at y7 y4 HI HF ⊢
      have a0 : wa.cell? ⟨g7,0,none⟩=some (.int .i64 x.f0):=by rw [blk_cell y7];rfl
      have a1 : wa.cell? ⟨g7,1,none⟩=some (.int .i64 x.f1):=by rw [blk_cell y7];rfl
      have a2 : wa.cell? ⟨g7,2,none⟩=some (.slice A2 x.f2.length c2):=by rw [blk_cell y7];rfl
      have Y7:=Aside0.mk y7
      have Y4R:=Aside0.mk y4
      clear y7 y4 a0 a2
      go_upto_region 11 with (go_at_call 56;(with_reducible refine (invert_controlled.calls x.f1 _ _ (ctlG_is x.f1)).mono ?_);rintro e wb ⟨rfl,hd⟩)
      have hbb:=hd.below
      replace HI:=Aside0.mk (HI.out.below hbb)
      replace HF:=Aside0.mk (Kd.FK_below HF.out hbb)
      have y7:=blk_below Y7.out hbb
      have y4:=blk_below Y4R.out hbb
      clear a1 hd hbb Y7 Y4R
      have a0 : wb.cell? ⟨g7,0,none⟩=some (.int .i64 x.f0):=by rw [blk_cell y7];rfl
      have a1 : wb.cell? ⟨g7,1,none⟩=some (.int .i64 x.f1):=by rw [blk_cell y7];rfl
      have a4 : wb.cell? ⟨g7,4,none⟩=some (.int .i64 x.f4):=by rw [blk_cell y7];rfl
      by_cases h4 : x.f0=4
      · have b4 : (x.f0 == 4)=true:=beq_iff_eq.2 h4
        have HCB:=Aside0.mk (show ctlBad x=false by unfold ctlBad;rw [b4];rfl)
        have HCO:=Aside0.mk (show ctlO q x=x by unfold ctlO;rw [if_pos h4])
        clear h4 y4 y7
        go_wp2
        go_roundg (l.length - (i + 1))
        case measure => omega
        case rel =>
          have e : wrap64 ((i : Int) + 1)=((i + 1 : Nat) : Int):=by rw [w64 (by omega) (by omega)];rfl
          exact ⟨i + 1,by omega,by omega,by first|go_num|(rw [e];done)|(rw [← e];done)|exact congrArg (Value.int .i64) e,⟨by rw [HBX.out];exact HCB.out⟩,⟨by rw [← mixL_keep HX.out HCO.out];exact HI.out⟩⟩
      · have b4 : (x.f0 == 4)=false:=beq_eq_false_iff_ne.2 h4
        by_cases h1 : x.f0=1
        · have b1 : (x.f0 == 1)=true:=beq_iff_eq.2 h1
          by_cases h5 : x.f4=-1
          · have b5 : (x.f4 == -1)=true:=beq_iff_eq.2 h5
            by_cases h6 : x.f1=1
            · have b6 : (x.f1 == 1)=true:=beq_iff_eq.2 h6
              have HCB:=Aside0.mk (show ctlBad x=false by unfold ctlBad;rw [b4,b1,b5,h6];rfl)
              have HCO:=Aside0.mk (show ctlO q x=x by unfold ctlO;rw [if_neg h4,if_pos h6])
              clear h4 h1 h5 h6 y4 y7
              go_wp2
              go_roundg (l.length - (i + 1))
              case measure => omega
              case rel =>
                have e : wrap64 ((i : Int) + 1)=((i + 1 : Nat) : Int):=by rw [w64 (by omega) (by omega)];rfl
                exact ⟨i + 1,by omega,by omega,by first|go_num|(rw [e];done)|(rw [← e];done)|exact congrArg (Value.int .i64) e,⟨by rw [HBX.out];exact HCB.out⟩,⟨by rw [← mixL_keep HX.out HCO.out];exact HI.out⟩⟩
            · have b6 : (x.f1 == 1)=false:=beq_eq_false_iff_ne.2 h6
              by_cases h7 : ctlG x.f1=0
              · have b7 : (ctlG x.f1 != 0)=false:=bne_eq_false_iff_eq.2 h7
                have HCB:=Aside0.mk (show ctlBad x=true by unfold ctlBad;rw [b4,b1,b5,ctlF_is h6,h7];rfl)
                clear h4 h1 h5 h6 h7
                replace F:=Aside0.mk (HI.out.fr F.out HGR.out.2.1)
                obtain ⟨c0,c1,c2,d0,d1,d2,f0,f1,f2⟩:=F.out.cells
                have HRS:=Aside0.mk (show RES=(0,0,[],170) by rw [HRES.out,if_pos (List.any_eq_true.2 ⟨x,List.mem_of_getElem? HX.out,HCB.out⟩)])
                clear y4 y7
                go_wp2
                refine bodyPost_ret (results_ct rfl _ _ g2 24 _ (0,0) _ rfl (F.out.put 0 0 (.slice none 0 0)) Try.underlying24 rfl (by kernel_rfl)) rfl ?_
                rw [HRS.out]
                exact F.out.out (z:=170) Fr.nil
              · have b7 : (ctlG x.f1 != 0)=true:=bne_iff_ne.2 h7
                have HCB:=Aside0.mk (show ctlBad x=false by unfold ctlBad;rw [b4,b1,b5,ctlF_is h6,beq_eq_false_iff_ne.2 h7];rfl)
                have HCO:=Aside0.mk (show ctlO q x={ x with f1:=ctlG x.f1,f2:=q :: x.f2 } by unfold ctlO;rw [if_neg h4,if_neg h6,ctlF_is h6])
                clear h4 h1 h5 h6 h7
                go_upto_region 14 with fail
                replace HI:=Aside0.mk (HI.out.below (below_drew (Below.refl _ _)))
                replace HF:=Aside0.mk (Kd.FK_below HF.out (below_drew (Below.refl wb.heap.size wb)))
                have HCQ:=Aside0.mk (FK_qs HF.out)
                have o0 : wb.drew.cell? ⟨g4,0,none⟩=some (.int .i64 q):=by rw [blk_cell (blk_drew y4)];rfl
                have o2 : wb.drew.cell? ⟨g4,2,none⟩=some (.slice (some ⟨g,0,none⟩) l.length c3):=by rw [blk_cell (blk_drew y4)];rfl
                have p2 : wb.drew.cell? ⟨g7,2,none⟩=some (.slice A2 x.f2.length c2):=by rw [blk_cell (blk_drew y7)];rfl
                have HG14:=Aside0.mk (show g4 < wb.drew.heap.size from blk_lt (blk_drew y4))
                have HNEW:=Aside0.mk (show ∀ k,wb.drew.heap.size≤k→w.heap.size≤k∧k≠g2∧k≠g4 from fun k hk => by have h1:=HG14.out;have h2:=HG4.out;have h3:=F.out.g;exact ⟨by omega,by omega,by omega⟩)
                have HXL:=Aside0.mk (HQS.out x (List.mem_of_getElem? HX.out))
                clear y4 y7 a0 a1 a4
                refine start_ (n:=19) (S:=fun w' => w'.cell? ⟨g4,0,none⟩=some (.int .i64 q)∧w'.cell? ⟨g4,2,none⟩=some (.slice (some ⟨g,0,none⟩) l.length c3)∧w'.cell? ⟨g7,2,none⟩=some (.slice A2 x.f2.length c2)) (ds:=[18]) #[false,false,false,false,false,false,false,false,false,false,false,false,false,false,false,false,false,false,false] (by kernel_rfl) rfl rfl ⟨o0,o2,p2⟩ (fun hHeld => ?_)
                generalize wb.drew=wd at o0 o2 p2 HI HF HCQ HG14 HNEW hHeld ⊢
                refine pure_ (i:=0) (N:=some 65) (v:=?_) (a':=?_) #[true,false,false,false,false,false,false,false,false,false,false,false,false,false,false,false,false,false,false] rfl rfl (by kernel_rfl) (fun _ _ _ h => h) (Or.inl ⟨by rfl,?_⟩) ?_ ?_
                rotate_left
                · intro w'
                  go_simp
                  with_reducible rfl
                rotate_left
                · simp only [Act.put,List.setIfInBounds_toArray,List.set_cons_zero,List.set_cons_succ]
                  rfl
                refine pure_ (i:=2) (N:=some 67) (v:=?_) (a':=?_) #[true,false,true,false,false,false,false,false,false,false,false,false,false,false,false,false,false,false,false] rfl rfl (by kernel_rfl) (fun _ _ _ h => h) (Or.inl ⟨by rfl,?_⟩) ?_ ?_
                rotate_left
                · intro w'
                  go_simp
                  with_reducible rfl
                rotate_left
                · simp only [Act.put,List.setIfInBounds_toArray,List.set_cons_zero,List.set_cons_succ]
                  rfl
                refine pure_ (i:=3) (N:=some 68) (v:=?_) (a':=?_) #[true,false,true,true,false,false,false,false,false,false,false,false,false,false,false,false,false,false,false] rfl rfl (by kernel_rfl) (fun _ _ _ h => h) (Or.inl ⟨by rfl,?_⟩) ?_ ?_
                rotate_left
                · intro w'
                  go_simp
                  with_reducible rfl
                rotate_left
                · simp only [Act.put,List.setIfInBounds_toArray,List.set_cons_zero,List.set_cons_succ]
                  rfl
                refine pure_ (i:=5) (N:=some 70) (v:=?_) (a':=?_) #[true,false,true,true,false,true,false,false,false,false,false,false,false,false,false,false,false,false,false] rfl rfl (by kernel_rfl) (fun _ _ _ h => h) (Or.inl ⟨by rfl,?_⟩) ?_ ?_
                rotate_left
                · intro w'
                  go_simp
                  with_reducible rfl
                rotate_left
                · simp only [Act.put,List.setIfInBounds_toArray,List.set_cons_zero,List.set_cons_succ]
                  rfl
                refine pure_ (i:=6) (N:=some 71) (v:=?_) (a':=?_) #[true,false,true,true,false,true,true,false,false,false,false,false,false,false,false,false,false,false,false] rfl rfl (by kernel_rfl) (fun _ _ _ h => h) (Or.inl ⟨by rfl,?_⟩) ?_ ?_
                rotate_left
                · intro w'
                  go_simp
                  with_reducible rfl
                rotate_left
                · simp only [Act.put,List.setIfInBounds_toArray,List.set_cons_zero,List.set_cons_succ]
                  rfl
                refine pure_ (i:=7) (N:=some 72) (v:=?_) (a':=?_) #[true,false,true,true,false,true,true,true,false,false,false,false,false,false,false,false,false,false,false] rfl rfl (by kernel_rfl) (fun _ _ _ h => h) (Or.inl ⟨by rfl,?_⟩) ?_ ?_
                rotate_left
                · intro w'
                  go_simp
                  with_reducible rfl
                rotate_left
                · simp only [Act.put,List.setIfInBounds_toArray,List.set_cons_zero,List.set_cons_succ]
                  rfl
                refine pure_ (i:=10) (N:=some 75) (v:=?_) (a':=?_) #[true,false,true,true,false,true,true,true,false,false,true,false,false,false,false,false,false,false,false] rfl rfl (by kernel_rfl) (fun _ _ _ h => h) (Or.inl ⟨by rfl,?_⟩) ?_ ?_
                rotate_left
                · intro w'
                  go_simp
                  with_reducible rfl
                rotate_left
                · simp only [Act.put,List.setIfInBounds_toArray,List.set_cons_zero,List.set_cons_succ]
                  rfl
                refine take_ (i:=1) (N:=some 66) (v:=?_) (a':=?_) #[true,true,true,true,false,true,true,true,false,false,true,false,false,false,false,false,false,false,false] rfl rfl (by kernel_rfl) (fun _ _ _ h => h) (Or.inl ⟨by rfl,?_⟩) hHeld ?_ ?_
                rotate_left
                · rintro w' ⟨s0,s1,s2⟩
                  go_simp
                  with_reducible rfl
                rotate_left
                · simp only [Act.put,List.setIfInBounds_toArray,List.set_cons_zero,List.set_cons_succ]
                  rfl
                refine take_ (i:=4) (N:=some 69) (v:=?_) (a':=?_) #[true,true,true,true,true,true,true,true,false,false,true,false,false,false,false,false,false,false,false] rfl rfl (by kernel_rfl) (fun _ _ _ h => h) (Or.inl ⟨by rfl,?_⟩) hHeld ?_ ?_
                rotate_left
                · rintro w' ⟨s0,s1,s2⟩
                  go_simp
                  with_reducible rfl
                rotate_left
                · simp only [Act.put,List.setIfInBounds_toArray,List.set_cons_zero,List.set_cons_succ]
                  rfl
                refine take_ (i:=8) (N:=some 73) (v:=?_) (a':=?_) #[true,true,true,true,true,true,true,true,true,false,true,false,false,false,false,false,false,false,false] rfl rfl (by kernel_rfl) (fun _ _ _ h => h) (Or.inl ⟨by rfl,?_⟩) hHeld ?_ ?_
                rotate_left
                · rintro w' ⟨s0,s1,s2⟩
                  go_simp
                  with_reducible rfl
                rotate_left
                · simp only [Act.put,List.setIfInBounds_toArray,List.set_cons_zero,List.set_cons_succ]
                  rfl
                refine take_ (i:=11) (N:=some 76) (v:=?_) (a':=?_) #[true,true,true,true,true,true,true,true,true,false,true,true,false,false,false,false,false,false,false] rfl rfl (by kernel_rfl) (fun _ _ _ h => h) (Or.inl ⟨by rfl,?_⟩) hHeld ?_ ?_
                rotate_left
                · rintro w' ⟨s0,s1,s2⟩
                  go_simp
                  with_reducible rfl
                rotate_left
                · simp only [Act.put,List.setIfInBounds_toArray,List.set_cons_zero,List.set_cons_succ]
                  rfl
                refine one_ (i:=9) (N:=some 74) #[true,true,true,true,true,true,true,true,true,true,true,true,false,false,false,false,false,false,false] rfl rfl (by kernel_rfl) (by decide) (fun K hK => ?_)
                refine Kd.R_lit_step (Kd.int .i64) (w0:=wd) wd.heap.size 3 ?hg (N:=74) ?hd (xs:=([q] : List Int)) (inner:=[.int .i64 q]) (ok:=fun k => wd.heap.size≤k) (okp:=fun k => wd.heap.size≤k) ?hr ?hp (fun _ hk => hk) (Nat.le_refl _) (Below.refl _ _) (Nat.le_refl _) (by simp) ?_;(case hd => rfl);(case hg => rfl);(case hr => first|(go_simp;done)|(go_simp;rfl));(case hp => exact (Reps.one (show Kd.M (Kd.int .i64) _ _ _ q [.int .i64 q] from rfl) (Reps.none _ _)))
                intro v1 x1 hn1 hb1 hg1 ha1
                refine hK.out _ _ ⟨below_cell hb1 o0,below_cell hb1 o2,below_cell hb1 p2⟩ (fun hHeld => ?_)
                clear hK K
                refine norm_ (a':=?_) ?_ ?_
                rotate_left
                · show Act.put _ (some 74) _=_
                  simp only [Act.put,List.setIfInBounds_toArray,List.set_cons_zero,List.set_cons_succ]
                  rfl
                refine one_ (i:=12) (N:=some 77) #[true,true,true,true,true,true,true,true,true,true,true,true,true,false,false,false,false,false,false] rfl rfl (by kernel_rfl) (by decide) (fun K hK => ?_)
                refine Kd.R_append_rows_step (Kd.int .i64) (w0:=wd) wd.heap.size (by rfl) (.tmp 74) (.tmp 76) 37 3 (.int .i64 0) 8 rfl Try.underlying37 info3 rfl (by decide) (by omega) v1 [q] x.f2 A2 x.f2.length c2 (fun k => wd.heap.size≤k) (fun _ => False) rfl rfl hn1 (Kd.C_below HCQ.out.1 hb1) (fun _ _ h => h) (fun _ h => h.elim) (fun k hk => Nat.le_trans hb1.size hk) hb1 hb1.size (by have h:=HXL.out;simp only [List.length_cons,List.length_nil];omega) ?_
                intro v3 x3 hn3 hb3 hg3 ha3
                obtain ⟨A9,c9,hv9⟩:=Kd.R_slice hn3
                subst hv9
                have hFK:=FK_ints (x:=ctlO q x) hn3 (m:=([q] ++ x.f2).length) (Nat.le_refl _) (by rw [HCO.out,List.take_length];rfl)
                have HNS:=Aside0.mk ((HI.out.below hb3).set2 HXS.out (z:=ctlG x.f1) (qs:=q :: x.f2) HCO.out (Kd.FK_mono hFK (fun k hk => ⟨HNEW.out k hk,by have:=HI.out.lt;omega⟩)))
                rw [HNX.out] at HNS
                obtain ⟨Ay,cy,hcy,-⟩:=(HI.out.below hb3).at HXS.out
                obtain ⟨g1c,g1f⟩:=hcy 1 _ (by omega) rfl
                obtain ⟨g2c,g2f⟩:=hcy 2 _ (by omega) rfl
                unfold ofV at g1c g2c
                dsimp only at g1c g2c
                have gl : ([q] ++ x.f2).length=(q :: x.f2).length:=rfl
                rw [gl]
                obtain ⟨n9,hn9⟩ : ∃ n,n=(q :: x.f2).length:=⟨_,rfl⟩
                rw [← hn9] at HNS ⊢
                have HN9:=Aside0.mk hn9
                have k0:=below_cell hb3 o0
                have k2:=below_cell hb3 o2
                have k7:=below_cell hb3 p2
                clear hn1 hn3 hb1 hg1 ha1 hg3 ha3 hFK hcy gl hn9
                refine hK.out _ _ ⟨k0,k2,k7⟩ (fun hHeld => ?_)
                clear hK K
                refine norm_ (a':=?_) ?_ ?_
                rotate_left
                · show Act.put _ (some 77) _=_
                  simp only [Act.put,List.setIfInBounds_toArray,List.set_cons_zero,List.set_cons_succ]
                  rfl
                refine pure_ (i:=13) (N:=some 78) (v:=?_) (a':=?_) #[true,true,true,true,true,true,true,true,true,true,true,true,true,true,false,false,false,false,false] rfl rfl (by kernel_rfl) (fun _ _ _ h => h) (Or.inl ⟨by rfl,?_⟩) ?_ ?_
                rotate_left
                · intro w'
                  go_simp
                  with_reducible rfl
                rotate_left
                · simp only [Act.put,List.setIfInBounds_toArray,List.set_cons_zero,List.set_cons_succ]
                  rfl
                refine pure_ (i:=14) (N:=some 79) (v:=?_) (a':=?_) #[true,true,true,true,true,true,true,true,true,true,true,true,true,true,true,false,false,false,false] rfl rfl (by kernel_rfl) (fun _ _ _ h => h) (Or.inl ⟨by rfl,?_⟩) ?_ ?_
                rotate_left
                · intro w'
                  go_simp
                  with_reducible rfl
                rotate_left
                · simp only [Act.put,List.setIfInBounds_toArray,List.set_cons_zero,List.set_cons_succ]
                  rfl
                refine one_ (i:=15) (N:=none) #[true,true,true,true,true,true,true,true,true,true,true,true,true,true,true,true,false,false,false] rfl rfl (by kernel_rfl) (by decide) (fun K hK => ?_)
                refine skip_ (w1:=?_) (by rfl) rfl ?_ ?_
                rotate_left
                · go_simp
                  rfl
                refine hK.out _ _ ⟨cell_far (k:=g4) HGR.out.1.symm k0,cell_far (k:=g4) HGR.out.1.symm k2,cell_far (k:=g7) (Nat.ne_of_gt HN7.out.2) k7⟩ (fun hHeld => ?_)
                clear hK K
                refine pure_ (i:=16) (N:=some 80) (v:=?_) (a':=?_) #[true,true,true,true,true,true,true,true,true,true,true,true,true,true,true,true,true,false,false] rfl rfl (by kernel_rfl) (fun _ _ _ h => h) (Or.inl ⟨by rfl,?_⟩) ?_ ?_
                rotate_left
                · intro w'
                  go_simp
                  with_reducible rfl
                rotate_left
                · simp only [Act.put,List.setIfInBounds_toArray,List.set_cons_zero,List.set_cons_succ]
                  rfl
                refine pure_ (i:=17) (N:=some 81) (v:=?_) (a':=?_) #[true,true,true,true,true,true,true,true,true,true,true,true,true,true,true,true,true,true,false] rfl rfl (by kernel_rfl) (fun _ _ _ h => h) (Or.inl ⟨by rfl,?_⟩) ?_ ?_
                rotate_left
                · intro w'
                  go_simp
                  with_reducible rfl
                rotate_left
                · simp only [Act.put,List.setIfInBounds_toArray,List.set_cons_zero,List.set_cons_succ]
                  rfl
                refine last_ (i:=18) (N:=none) #[true,true,true,true,true,true,true,true,true,true,true,true,true,true,true,true,true,true,true] rfl rfl (by kernel_rfl) (by decide) (fun K hK => ?_)
                refine skip_ (w1:=?_) (by rfl) rfl ?_ ?_
                rotate_left
                · go_simp
                  rfl
                refine hK.out _ _ ?_
                clear hK K
                refine done_ (by kernel_rfl) ?_
                clear o0 o2 p2 k0 k2 k7 g1c g1f g2c g2f hHeld hb3 HI HF HCQ
                generalize World.setCell _ _ _=wn at HNS ⊢
                go_wp2
                go_roundg (l.length - (i + 1))
                case measure => omega
                case rel =>
                  have e : wrap64 ((i : Int) + 1)=((i + 1 : Nat) : Int):=by rw [w64 (by omega) (by omega)];rfl
                  exact ⟨i + 1,by omega,by omega,by first|go_num|(rw [e];done)|(rw [← e];done)|exact congrArg (Value.int .i64) e,⟨by rw [HBX.out];exact HCB.out⟩,HNS⟩
          · have b5 : (x.f4 == -1)=false:=beq_eq_false_iff_ne.2 h5
            have HCB:=Aside0.mk (show ctlBad x=true by unfold ctlBad;rw [b4,b1,b5];rfl)
            clear h4 h1 h5
            replace F:=Aside0.mk (HI.out.fr F.out HGR.out.2.1)
            obtain ⟨c0,c1,c2,d0,d1,d2,f0,f1,f2⟩:=F.out.cells
            have HRS:=Aside0.mk (show RES=(0,0,[],170) by rw [HRES.out,if_pos (List.any_eq_true.2 ⟨x,List.mem_of_getElem? HX.out,HCB.out⟩)])
            clear y4 y7
            go_wp2
            refine bodyPost_ret (results_ct rfl _ _ g2 24 _ (0,0) _ rfl (F.out.put 0 0 (.slice none 0 0)) Try.underlying24 rfl (by kernel_rfl)) rfl ?_
            rw [HRS.out]
            exact F.out.out (z:=170) Fr.nil
        · have b1 : (x.f0 == 1)=false:=beq_eq_false_iff_ne.2 h1
          have HCB:=Aside0.mk (show ctlBad x=true by unfold ctlBad;rw [b4,b1];rfl)
          clear h4 h1
          replace F:=Aside0.mk (HI.out.fr F.out HGR.out.2.1)
          obtain ⟨c0,c1,c2,d0,d1,d2,f0,f1,f2⟩:=F.out.cells
          have HRS:=Aside0.mk (show RES=(0,0,[],170) by rw [HRES.out,if_pos (List.any_eq_true.2 ⟨x,List.mem_of_getElem? HX.out,HCB.out⟩)])
          clear y4 y7
          go_wp2
          refine bodyPost_ret (results_ct rfl _ _ g2 24 _ (0,0) _ rfl (F.out.put 0 0 (.slice none 0 0)) Try.underlying24 rfl (by kernel_rfl)) rfl ?_
          rw [HRS.out]
          exact F.out.out (z:=170) Fr.nil
    · obtain rfl : i=l.length:=by omega
      have hS:=HI.out
      rw [List.take_length,List.drop_eq_nil_of_le (Nat.le_refl _),List.append_nil] at hS
      have hN:=hS.N (Kd.N_mono HQ.out (fun k hk => ⟨hk.1,hk.2.1,Nat.ne_of_lt hk.2.2⟩)) (by simp)
      have HRS:=Aside0.mk (show RES=(q + 1,b,l.map (ctlO q),0) by
        have h:=HB.out
        rw [List.take_length] at h
        rw [HRES.out,if_neg (by rw [h];decide)])
      have hF:=hS.fr F.out HGR.out.2.1
      have HNR:=Aside0.mk (Kd.N_far (p:=⟨g4,0,none⟩) hN (fun _ hk => hk.2.2) (.int .i64 (q + 1)))
      replace F:=Aside0.mk (hF.setOld (Below.refl _ _) (x:=⟨g4,0,none⟩) (.int .i64 (q + 1)) HG4.out)
      have y5:=blk_put y4 0 (.int .i64 (q + 1)) rfl
      have q0 : wr.cell? ⟨g4,0,none⟩=some (.int .i64 q):=by rw [blk_cell y4];rfl
      have q0f:=blk_frozen y4 0
      have eq1 : wrap64 (q + 1)=q + 1:=w64 (by have:=HQ0.out;omega) (by have:=HQ64.out;omega)
      clear hS hN hF HI y4
      go_upto_region 17 with fail
      clear q0 q0f eq1
      generalize wr.setCell _ _=wz at y5 HNR F ⊢
      obtain ⟨c0,c1,c2,d0,d1,d2,f0,f1,f2⟩:=F.out.cells
      have q0 : wz.cell? ⟨g4,0,none⟩=some (.int .i64 (q + 1)):=by rw [blk_cell y5];rfl
      have q1 : wz.cell? ⟨g4,1,none⟩=some (.int .i64 b):=by rw [blk_cell y5];rfl
      have q2 : wz.cell? ⟨g4,2,none⟩=some (.slice (some ⟨g,0,none⟩) l.length c3):=by rw [blk_cell y5];rfl
      clear y5
      go_wp2
      refine bodyPost_ret (results_ct rfl _ _ g2 24 _ (0,0) _ rfl (F.out.put (q + 1) b (.slice (some ⟨g,0,none⟩) l.length c3)) Try.underlying24 rfl (by kernel_rfl)) rfl ?_
      rw [HRS.out]
      exact F.out.out (z:=0) (Kd.N_mono HNR.out (fun _ hk => ⟨hk.1,hk.2.1⟩))
set_option maxHeartbeats 4000000 in
set_option maxRecDepth 1000000 in
theorem ctl_nil (q b : Int) (A : Option Addr) (c : Nat) (l : List Opn) (w : World) (HC : Kd.C k46 w A l.length l) (hc : l.length≤c) (hw : WfL l) (k1 : Nat) (e1 : invert_checked.f k1 q b l=some (q,b,l,0)) (hq : ¬ 64≤q) (hq0 : 0≤q) (hnil : l=[]) :
    Calls Try.prog 17 #[.agg #[.int .i64 q,.int .i64 b,.slice A l.length c]] w (Out w (q + 1,b,l,0)):=by
  have hq64 : decide ((64 : Int)≤q)=false:=decide_eq_false hq
  have HQ64:=Aside0.mk hq
  have HQ0:=Aside0.mk hq0
  have HL0:=Aside0.mk (show l.length=0 by rw [hnil];rfl)
  clear hq hq0 hnil
  have HR:=Aside0.mk HC
  have HS:=Aside0.mk hc
  have HWF:=Aside0.mk hw
  have E1:=Aside0.mk e1
  clear HC hc hw e1
  have hu24:=Try.underlying24
  go_enter Try.func17,Try.ntmps17
  go_upto_region 1 with fail
  have F:=Aside0.mk (Fr.start (q:=q) (b:=b) (c:=c) HR.out)
  clear HR
  obtain ⟨g2,hg2⟩ : ∃ g,g=w.heap.size + 1:=⟨_,rfl⟩
  rw [← hg2] at F ⊢
  clear hg2
  generalize ((w.alloc _).alloc _)=W at F ⊢
  obtain ⟨c0,c1,c2,d0,d1,d2,f0,f1,f2⟩:=F.out.cells
  go_upto_region 4 with (go_at_call 42;(with_reducible refine (invert_checked.calls k1 q b _ _ l _ _ _ _ _ F.out.hc HS.out E1.out).mono ?_);rintro e w3 ⟨v1,rfl,ho1,hb3⟩;obtain ⟨A3,c3,rfl⟩:=Kd.S_slice ho1)
  have bb:=below_alloc (Below.refl w3.heap.size w3) (.cells #[.int .i64 q,.int .i64 b,.slice A3 l.length c3] 24)
  have y4:=blk_new w3 (.cells #[.int .i64 q,.int .i64 b,.slice A3 l.length c3] 24)
  have HG4:=Aside0.mk (show g2 < w3.heap.size from blk_lt (F.out.below hb3).b2)
  have HQ:=Aside0.mk (Kd.N_lower (Kd.N_mono (Kd.N_below (Kd.S_N (k46w_S (Kd.S_bound ho1))) bb) (fun k hk => show w.heap.size≤k∧k≠g2∧k < w3.heap.size from ⟨(F.out.fresh k hk.2.1).1,(F.out.fresh k hk.2.1).2,hk.2.2.1⟩)) F.out.hb.size)
  replace F:=Aside0.mk (F.out.below (below_step hb3 bb))
  clear c0 c1 c2 d0 d1 d2 f0 f1 f2
  obtain ⟨c0,c1,c2,d0,d1,d2,f0,f1,f2⟩:=F.out.cells
  clear hb3 ho1 bb
  generalize w3.heap.size=g4 at y4 HQ HG4 ⊢
  generalize w3.alloc _=w4 at y4 HQ F c0 c1 c2 d0 d1 d2 f0 f1 f2 ⊢
  have Y4:=Aside0.mk y4
  have q0 : w4.cell? ⟨g4,0,none⟩=some (.int .i64 q):=by rw [blk_cell y4];rfl
  have q1 : w4.cell? ⟨g4,1,none⟩=some (.int .i64 b):=by rw [blk_cell y4];rfl
  have q2 : w4.cell? ⟨g4,2,none⟩=some (.slice A3 l.length c3):=by rw [blk_cell y4];rfl
  clear y4 c0 c1 c2 d0 d1 d2 f0 f1 f2 q1
  go_wp2_with fail
  clear q0 q2 hq64
  go_loopg [25] 0 (fun gk v25 wr => v25=.int .i64 0∧wr=w4)
  case atStart => exact ⟨rfl,rfl⟩
  case round =>
    obtain ⟨rfl,rfl⟩:=hrel
    have hl0 : ¬ (0 : Int) < (l.length : Int):=by have:=HL0.out;omega
    have y5:=blk_put Y4.out 0 (.int .i64 (q + 1)) rfl
    have q0 : wr.cell? ⟨g4,0,none⟩=some (.int .i64 q):=by rw [blk_cell Y4.out];rfl
    have q0f:=blk_frozen Y4.out 0
    have eq1 : wrap64 (q + 1)=q + 1:=w64 (by have:=HQ0.out;omega) (by have:=HQ64.out;omega)
    have HNR:=Aside0.mk (Kd.N_far (p:=⟨g4,0,none⟩) HQ.out (fun _ hk => Nat.ne_of_lt hk.2.2) (.int .i64 (q + 1)))
    replace F:=Aside0.mk (F.out.setOld (Below.refl _ _) (x:=⟨g4,0,none⟩) (.int .i64 (q + 1)) HG4.out)
    go_upto_region 17 with fail
    clear q0 q0f eq1
    generalize wr.setCell _ _=wz at y5 HNR F ⊢
    obtain ⟨c0,c1,c2,d0,d1,d2,f0,f1,f2⟩:=F.out.cells
    have q0 : wz.cell? ⟨g4,0,none⟩=some (.int .i64 (q + 1)):=by rw [blk_cell y5];rfl
    have q1 : wz.cell? ⟨g4,1,none⟩=some (.int .i64 b):=by rw [blk_cell y5];rfl
    have q2 : wz.cell? ⟨g4,2,none⟩=some (.slice A3 l.length c3):=by rw [blk_cell y5];rfl
    clear y5
    go_wp2
    refine bodyPost_ret (results_ct rfl _ _ g2 24 _ (0,0) _ rfl (F.out.put (q + 1) b (.slice A3 l.length c3)) Try.underlying24 rfl (by kernel_rfl)) rfl ?_
    exact F.out.out (z:=0) (Kd.N_mono HNR.out (fun _ hk => ⟨hk.1,hk.2.1⟩))
theorem control_out {q b : Int} {A : Option Addr} {c : Nat} {l : List Opn} {w : World} (HC : Kd.C k46 w A l.length l) (hc : l.length≤c) (hw : WfL l) :
    Calls Try.prog 17 #[.agg #[.int .i64 q,.int .i64 b,.slice A l.length c]] w (Out w (ctlR q b l)):=by
  obtain ⟨k1,e1⟩:=(ichecked_is (q:=q) (b:=b) hw).get
  unfold ctlR
  by_cases h : okc q b l=true
  · have ho:=okc_facts h
    rw [if_pos h] at e1 ⊢
    by_cases h4 : 64≤q
    · rw [if_pos h4]
      exact ctl_wide q b A c l w HC hc hw k1 e1 h4
    · rw [if_neg h4]
      by_cases hl : 0 < l.length
      · exact ctl_main q b A c l w HC hc hw k1 e1 h4 ho.q0 ho.n hl (fun o ho2 => (ho.op o ho2).len)
      · obtain rfl : l=[]:=List.eq_nil_of_length_eq_zero (by omega)
        exact ctl_nil q b A c [] w HC hc hw k1 e1 h4 ho.q0 rfl
  · rw [if_neg h] at e1 ⊢
    exact ctl_no q b A c l w HC hc hw k1 e1
end Go.Proofs.Ytbelnopbggkdfaa.Q
end

section
namespace Go.Proofs.Ytbelnopbggkdfaa.Q
open Go.RowKit Go.Proofs.YtbelnopbggkdfaaW.PrintWords Go.Proofs.YtbelnopbggkdfaaW.PrintLast Go.Proofs.YtbelnopbggkdfaaW.PrintMore
theorem conjF_len (k : Int) : (conjF k).length≤5∧0 < (conjF k).length:=by
  unfold conjF
  repeat' split
  all_goals simp
theorem conjO_len (o : Opn) : (conjO o).length≤5:=by
  unfold conjO
  split
  · rw [List.length_mapIdx];exact (conjF_len _).1
  · simp
theorem conjs_len : ∀ l : List Opn,(l.flatMap conjO).length≤5 * l.length
  | [] => by simp
  | o :: l => by
    have:=conjs_len l
    have:=conjO_len o
    rw [List.flatMap_cons,List.length_append,List.length_cons]
    omega
theorem conjs_step {l : List Opn} {i : Nat} {x : Opn} (h : l[i]?=some x) : (l.take i).flatMap conjO ++ conjO x=(l.take (i + 1)).flatMap conjO:=by
  obtain ⟨hi,rfl⟩:=List.getElem?_eq_some_iff.1 h
  rw [List.take_succ_eq_append_getElem hi,List.flatMap_append]
  simp
def conjAt (x : Opn) (j : Nat) : Opn:={ x with f1:=(conjF x.f1).getD j 0,f2:=if j=0 then x.f2 else x.f2.take 1 }
theorem conjO_take {x : Opn} (h : x.f0=1) {j : Nat} (hj : j < (conjF x.f1).length) : (conjO x).take j ++ [conjAt x j]=(conjO x).take (j + 1):=by
  have hl : j < (conjO x).length:=by unfold conjO;rw [if_pos h,List.length_mapIdx];exact hj
  rw [List.take_succ_eq_append_getElem hl]
  congr 2
  simp only [conjO,if_pos h]
  rw [List.getElem_mapIdx]
  unfold conjAt
  rw [List.getD_eq_getElem?_getD,List.getElem?_eq_getElem hj]
  rfl
theorem conjO_all {x : Opn} (h : x.f0=1) : (conjO x).take (conjF x.f1).length=conjO x:=by
  have : (conjO x).length=(conjF x.f1).length:=by unfold conjO;rw [if_pos h,List.length_mapIdx]
  rw [← this,List.take_length]
structure Inn (w4 wc : World) (g8 : Nat) (okr : Nat→Prop) (s : List Opn) (v : Value) (ws : World) : Prop where
  row : Kd.N k46w 46 ws w4.heap.size okr v s
  keep : ∀ k,k < wc.heap.size→(k < w4.heap.size∨g8≤k)→ws.heap[k]?=wc.heap[k]?
  own : ∀ k,v.ownBlock=some k→k < g8∨wc.heap.size≤k
  hb : Below w4.heap.size w4 ws
  size : wc.heap.size≤ws.heap.size
variable {w4 wc : World} {g8 : Nat} {okr : Nat→Prop} {s s' : List Opn} {v v' : Value} {ws W' : World}
theorem Inn.below (h : Inn w4 wc g8 okr s v ws) (hb : Below ws.heap.size ws W') : Inn w4 wc g8 okr s v W' :=
  ⟨Kd.N_below h.row hb,fun k h1 h2 => (hb.block k (Nat.lt_of_lt_of_le h1 h.size)).trans (h.keep k h1 h2),h.own,h.hb.trans (hb.mono h.hb.size),Nat.le_trans h.size hb.size⟩
theorem Inn.app (h : Inn w4 wc g8 okr s v ws) (hn : Kd.N k46w 46 W' w4.heap.size okr v' s') (hb : Below w4.heap.size ws W') (hg : ws.grownBy W' v.ownBlock) (hat : v'.ownBlock=v.ownBlock∨∃ b,v'.ownBlock=some b∧ws.heap.size≤b) : Inn w4 wc g8 okr s' v' W':=by
  refine ⟨hn,fun k h1 h2 => ?_,fun k hk => ?_,h.hb.trans hb,Nat.le_trans h.size hb.size⟩
  · refine (hg.block k (Nat.lt_of_lt_of_le h1 h.size) (fun e => ?_)).trans (h.keep k h1 h2)
    have h3:=h.own k e.symm
    have h4:=Kd.N_base h.row k e.symm
    omega
  · rcases hat with e | ⟨b,e,hb2⟩
    · exact h.own k (e ▸ hk)
    · rw [e] at hk
      injection hk with hk
      have:=h.size
      omega
theorem Inn.foot {okp : Nat→Prop} {x : Opn} {cs : List Value} (h : Inn w4 wc g8 okr s v ws) (hF : Kd.FK k46w wc okp x cs) (hok : ∀ k,okp k→k < w4.heap.size∨g8≤k) : Kd.FK k46w ws okp x cs :=
  Kd.FK_step hF (fun k hk hlt => h.keep k hlt (hok k hk))
end Go.Proofs.Ytbelnopbggkdfaa.Q
end
