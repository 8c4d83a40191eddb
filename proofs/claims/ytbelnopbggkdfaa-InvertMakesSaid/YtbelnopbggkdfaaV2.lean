/- A part of the proof: texts of this claim laid together by a program of its own; what the proof does not use is struck. -/
import Derived.Test.YtbelnopbggkdfaaV1
import Derived.Lib.Hide
import Derived.RegionTactic
import Derived.BigRegion
import Derived.Deep.Light
import Derived.Deep.LoopGhost
import Derived.Deep.QuietTactic
import Derived.BigQuiet
import Derived.Shelf.Abstract
import Derived.Deep.RegionWith
import Derived.StillTailTactics
import Derived.Deep.Upon
import Derived.Laws.EntriesVeiled
section
namespace Go.Proofs.Ytbelnopbggkdfaa.Q
open Go.RowKit Go.Proofs.YtbelnopbggkdfaaW.PrintWords Go.Proofs.YtbelnopbggkdfaaW.PrintLast Go.Proofs.YtbelnopbggkdfaaW.PrintMore
attribute [local go_sem] max2_int min2_int max_two min_two max_three min_three max_four min_four   -- for this text's walks alone
set_option linter.unusedVariables false
set_option linter.unusedSimpArgs false
mutual
def phasorref08_Check.j0 : Nat→Bool→Int→Int→List (S46)→Option (Int × Int)
 | 0,_,_,_,_ => none
 | k + 1,x28,x163000,x163001,x163002 => if x28=true then (some ((-1),80)) else (phasorref08_Check.l0 k 0 x163000 x163001 x163002)
def phasorref08_Check.l0 : Nat→Int→Int→Int→List (S46)→Option (Int × Int)
 | 0,_,_,_,_ => none
 | k + 1,x4,x163000,x163001,x163002 => if x4 < (x163002.length : Int) then (if 0≤x4 then ((phasorref08_Op.f ((rd_T46 x163002 x4).f0) ((rd_T46 x163002 x4).f1) ((rd_T46 x163002 x4).f2) ((rd_T46 x163002 x4).f3) ((rd_T46 x163002 x4).f4) ((rd_T46 x163002 x4).f5) x163000 x163001).bind fun t164 => (if t164=true then (phasorref08_Check.l0 k (wrap64 (x4 + 1)) x163000 x163001 x163002) else (some (x4,80)))) else (none)) else (some (0,0))
end
def phasorref08_Check.f (k : Nat) (a0_0 : Int) (a0_1 : Int) (l0_2 : List (S46)) : Option (Int × Int):=if a0_0 < 0 then (phasorref08_Check.j0 k true a0_0 a0_1 l0_2) else (if a0_0 > 64 then (phasorref08_Check.j0 k true a0_0 a0_1 l0_2) else (if a0_1 < 0 then (phasorref08_Check.j0 k true a0_0 a0_1 l0_2) else (if a0_1 > 64 then (phasorref08_Check.j0 k true a0_0 a0_1 l0_2) else (phasorref08_Check.j0 k (decide ((l0_2.length : Int) > 4096)) a0_0 a0_1 l0_2))))
def phasorref08_Check.T6 : Bool × List (List Nat × List Nat):=(true,[([],[]),([0],[0]),([],[]),([1,2],[1,2]),([3],[3]),([],[]),([5],[5]),([],[]),([7],[7]),([4,6,8],[4,6,8]),([9],[9])])
def phasorref08_Check.B6 : List Nat:=[0,1,0,7,15,0,32,0,128,511,1023]
theorem phasorref08_Check.tab6 : rtab .any (opsOf Try.f64 6)=phasorref08_Check.T6:=by kernel_rfl
theorem phasorref08_Check.bits6 : waitsOk phasorref08_Check.T6.2 phasorref08_Check.B6=true:=by kernel_rfl
set_option maxHeartbeats 8000000 in
set_option maxRecDepth 100000 in
theorem phasorref08_Check.calls (k : Nat) (a0_0 : Int) (a0_1 : Int) (A0_2 : Option Addr) (c0_2 : Nat) (l0_2 : List (S46)) (r1 : Int) (r2 : Int) (w : World) (hr0_2 : Kd.C k46 w A0_2 l0_2.length l0_2) (hc0_2 : l0_2.length≤c0_2) (h : phasorref08_Check.f k a0_0 a0_1 l0_2=some (r1,r2)) :
  Calls Try.prog 64 #[.agg #[.int .i64 a0_0,.int .i64 a0_1,.slice A0_2 l0_2.length c0_2]] w fun e w' => e=.returned (.tuple #[.int .i64 r1,.int .i64 r2])∧Below w.heap.size w w':=by
 have hu24:=Try.underlying24
 have hu46:=Try.underlying46
 have HR0_2:=Aside0.mk hr0_2
 have HC0_2:=Aside0.mk hc0_2
 clear hr0_2 hc0_2
 have HB:=Aside0.mk (Below.refl w.heap.size w)
 have H : (if a0_0 < 0 then (phasorref08_Check.j0 k true a0_0 a0_1 l0_2) else (if a0_0 > 64 then (phasorref08_Check.j0 k true a0_0 a0_1 l0_2) else (if a0_1 < 0 then (phasorref08_Check.j0 k true a0_0 a0_1 l0_2) else (if a0_1 > 64 then (phasorref08_Check.j0 k true a0_0 a0_1 l0_2) else (phasorref08_Check.j0 k (decide ((l0_2.length : Int) > 4096)) a0_0 a0_1 l0_2)))))=some (r1,r2):=h
 clear h
 have HC2:=Aside0.mk H
 clear H
 go_enter Try.func64,Try.ntmps64
 go_upto_region 1 with (first|((with_reducible refine gate_dst (N:=1) rfl ?_);(try (refine gate_guard (by rfl) ?_;dsimp only));refine box_event ?hg (N:=1) ?hd (cs:=#[.int .i64 a0_0,.int .i64 a0_1,.slice A0_2 l0_2.length c0_2]) (t:=24) ?hr ?_;(case hd => rfl);(case hg => rfl);(case hr => first|(go_simp;done)|(go_simp;rfl));intro gb162 hg w3 hbox hb;have n0_:=Aside0.mk (below_step (by repeat (first|(with_reducible first|exact HB.out|apply below_alloc|apply pw_below_drewN|apply below_drew1)|exact HB.out)) hb);have n1_:=Aside0.mk (hbox);have n2_:=Aside0.mk ((by rw [hg];exact (below_size (by repeat (first|(with_reducible first|exact HB.out|apply below_alloc|apply pw_below_drewN|apply below_drew1)|exact HB.out))) : w.heap.size≤gb162));have n3_:=Aside0.mk ((by rw [hg];exact (below_size (by repeat (first|(with_reducible first|exact HB.out|apply below_alloc|apply pw_below_drewN|apply below_drew1)|exact HB.out))) : w.heap.size≤gb162));clear HB;have HB:=n0_;have BK162:=n1_;have GW162:=n2_;have GE162:=n3_;clear n0_ n1_ n2_ n3_;clear hb hbox hg))
 (try simp only [Act.put,List.setIfInBounds_toArray,List.set_cons_zero,List.set_cons_succ])
 go_cut [28] (fun v28 wc => ∃ (kq : Nat) (x28_1 : Bool),v28=.bool x28_1∧Aside0 (phasorref08_Check.j0 kq x28_1 a0_0 a0_1 l0_2=some (r1,r2))∧Aside0 (kq≤k)∧Aside0 (wc.heap[gb162]?=some (.cells #[.int .i64 a0_0,.int .i64 a0_1,(.slice A0_2 l0_2.length c0_2)] 24 (0,0)))∧Aside0 (Below w.heap.size w wc))
 case first =>
  have H:=HC2.out
  clear HC2
  by_cases c4 : a0_0 < 0
  ·rw [if_pos c4] at H
   have c4b0 : decide (a0_0 < 0)=true:=decide_eq_true c4
   clear c4
   (first|rw [c4b0]|(simp only [i64_w,i32_w];rw [c4b0])|skip)
   have H':=Aside0.mk H
   clear H
   have hcz5_0 : w3.cell? ⟨gb162,0,none⟩=some (.int .i64 a0_0):=(blk_cell BK162.out 0).trans rfl
   have hcz5_1 : w3.cell? ⟨gb162,1,none⟩=some (.int .i64 a0_1):=(blk_cell BK162.out 1).trans rfl
   have hcz5_2 : w3.cell? ⟨gb162,2,none⟩=some (.slice A0_2 l0_2.length c0_2):=(blk_cell BK162.out 2).trans rfl
   have hfz5_0:=blk_frozen BK162.out 0
   have hfz5_1:=blk_frozen BK162.out 1
   have hfz5_2:=blk_frozen BK162.out 2
   go_wp2
   go_meet
   case rel => exact ⟨_,(true),(by first|rfl|(simp;done)|(simp [*];done)),H',⟨by first|omega|exact Nat.le_refl _⟩,⟨by (with_reducible repeat (first|refine blk_drewN ?_ _|refine blk_drew ?_|refine blk_alloc ?_ _));exact BK162.out⟩,⟨by repeat (first|(with_reducible first|exact HB.out|apply below_alloc|apply pw_below_drewN|apply below_drew1|refine below_set ?_ GE162.out)|exact HB.out)⟩⟩
  ·rw [if_neg c4] at H
   have c4b0 : decide (a0_0 < 0)=false:=decide_eq_false c4
   clear c4
   (first|rw [c4b0]|(simp only [i64_w,i32_w];rw [c4b0])|skip)
   by_cases c6 : a0_0 > 64
   ·rw [if_pos c6] at H
    have c6b0 : decide (64 < a0_0)=true:=decide_eq_true c6
    clear c6
    have H':=Aside0.mk H
    clear H
    have hcz7_0 : w3.cell? ⟨gb162,0,none⟩=some (.int .i64 a0_0):=(blk_cell BK162.out 0).trans rfl
    have hcz7_1 : w3.cell? ⟨gb162,1,none⟩=some (.int .i64 a0_1):=(blk_cell BK162.out 1).trans rfl
    have hcz7_2 : w3.cell? ⟨gb162,2,none⟩=some (.slice A0_2 l0_2.length c0_2):=(blk_cell BK162.out 2).trans rfl
    have hfz7_0:=blk_frozen BK162.out 0
    have hfz7_1:=blk_frozen BK162.out 1
    have hfz7_2:=blk_frozen BK162.out 2
    go_wp2
    go_meet
    case rel => exact ⟨_,(true),(by first|rfl|(simp;done)|(simp [*];done)),H',⟨by first|omega|exact Nat.le_refl _⟩,⟨by (with_reducible repeat (first|refine blk_drewN ?_ _|refine blk_drew ?_|refine blk_alloc ?_ _));exact BK162.out⟩,⟨by repeat (first|(with_reducible first|exact HB.out|apply below_alloc|apply pw_below_drewN|apply below_drew1|refine below_set ?_ GE162.out)|exact HB.out)⟩⟩
   ·rw [if_neg c6] at H
    have c6b0 : decide (64 < a0_0)=false:=decide_eq_false c6
    clear c6
    by_cases c8 : a0_1 < 0
    ·rw [if_pos c8] at H
     have c8b0 : decide (a0_1 < 0)=true:=decide_eq_true c8
     clear c8
     have H':=Aside0.mk H
     clear H
     have hcz9_0 : w3.cell? ⟨gb162,0,none⟩=some (.int .i64 a0_0):=(blk_cell BK162.out 0).trans rfl
     have hcz9_1 : w3.cell? ⟨gb162,1,none⟩=some (.int .i64 a0_1):=(blk_cell BK162.out 1).trans rfl
     have hcz9_2 : w3.cell? ⟨gb162,2,none⟩=some (.slice A0_2 l0_2.length c0_2):=(blk_cell BK162.out 2).trans rfl
     have hfz9_0:=blk_frozen BK162.out 0
     have hfz9_1:=blk_frozen BK162.out 1
     have hfz9_2:=blk_frozen BK162.out 2
     go_wp2
     go_meet
     case rel => exact ⟨_,(true),(by first|rfl|(simp;done)|(simp [*];done)),H',⟨by first|omega|exact Nat.le_refl _⟩,⟨by (with_reducible repeat (first|refine blk_drewN ?_ _|refine blk_drew ?_|refine blk_alloc ?_ _));exact BK162.out⟩,⟨by repeat (first|(with_reducible first|exact HB.out|apply below_alloc|apply pw_below_drewN|apply below_drew1|refine below_set ?_ GE162.out)|exact HB.out)⟩⟩
    ·rw [if_neg c8] at H
     have c8b0 : decide (a0_1 < 0)=false:=decide_eq_false c8
     clear c8
     by_cases c10 : a0_1 > 64
     ·rw [if_pos c10] at H
      have c10b0 : decide (64 < a0_1)=true:=decide_eq_true c10
      clear c10
      have H':=Aside0.mk H
      clear H
      have hcz11_0 : w3.cell? ⟨gb162,0,none⟩=some (.int .i64 a0_0):=(blk_cell BK162.out 0).trans rfl
      have hcz11_1 : w3.cell? ⟨gb162,1,none⟩=some (.int .i64 a0_1):=(blk_cell BK162.out 1).trans rfl
      have hcz11_2 : w3.cell? ⟨gb162,2,none⟩=some (.slice A0_2 l0_2.length c0_2):=(blk_cell BK162.out 2).trans rfl
      have hfz11_0:=blk_frozen BK162.out 0
      have hfz11_1:=blk_frozen BK162.out 1
      have hfz11_2:=blk_frozen BK162.out 2
      go_wp2
      go_meet
      case rel => exact ⟨_,(true),(by first|rfl|(simp;done)|(simp [*];done)),H',⟨by first|omega|exact Nat.le_refl _⟩,⟨by (with_reducible repeat (first|refine blk_drewN ?_ _|refine blk_drew ?_|refine blk_alloc ?_ _));exact BK162.out⟩,⟨by repeat (first|(with_reducible first|exact HB.out|apply below_alloc|apply pw_below_drewN|apply below_drew1|refine below_set ?_ GE162.out)|exact HB.out)⟩⟩
     ·rw [if_neg c10] at H
      have c10b0 : decide (64 < a0_1)=false:=decide_eq_false c10
      clear c10
      have H':=Aside0.mk H
      clear H
      have hcz12_0 : w3.cell? ⟨gb162,0,none⟩=some (.int .i64 a0_0):=(blk_cell BK162.out 0).trans rfl
      have hcz12_1 : w3.cell? ⟨gb162,1,none⟩=some (.int .i64 a0_1):=(blk_cell BK162.out 1).trans rfl
      have hcz12_2 : w3.cell? ⟨gb162,2,none⟩=some (.slice A0_2 l0_2.length c0_2):=(blk_cell BK162.out 2).trans rfl
      have hfz12_0:=blk_frozen BK162.out 0
      have hfz12_1:=blk_frozen BK162.out 1
      have hfz12_2:=blk_frozen BK162.out 2
      go_wp2
      go_meet
      case rel => exact ⟨_,(decide ((l0_2.length : Int) > 4096)),(by first|rfl|(simp;done)|(simp [*];done)),H',⟨by first|omega|exact Nat.le_refl _⟩,⟨by (with_reducible repeat (first|refine blk_drewN ?_ _|refine blk_drew ?_|refine blk_alloc ?_ _));exact BK162.out⟩,⟨by repeat (first|(with_reducible first|exact HB.out|apply below_alloc|apply pw_below_drewN|apply below_drew1|refine below_set ?_ GE162.out)|exact HB.out)⟩⟩
 case rest =>
  clear HC2
  try clear c1
  try clear p2
  try clear c4
  try clear c4b0
  try clear c6
  try clear c6b0
  try clear c8
  try clear c8b0
  try clear c10
  try clear c10b0
  try clear hcz11_0
  try clear hcz11_1
  try clear hcz11_2
  try clear hcz12_0
  try clear hcz12_1
  try clear hcz12_2
  try clear hcz5_0
  try clear hcz5_1
  try clear hcz5_2
  try clear hcz7_0
  try clear hcz7_1
  try clear hcz7_2
  try clear hcz9_0
  try clear hcz9_1
  try clear hcz9_2
  try clear hfz11_0
  try clear hfz11_1
  try clear hfz11_2
  try clear hfz12_0
  try clear hfz12_1
  try clear hfz12_2
  try clear hfz5_0
  try clear hfz5_1
  try clear hfz5_2
  try clear hfz7_0
  try clear hfz7_1
  try clear hfz7_2
  try clear hfz9_0
  try clear hfz9_1
  try clear hfz9_2
  obtain ⟨kq,x28_1,rfl,HA,HJ1,BK162,HB⟩:=hcut
  cases kq with
  | zero => exact absurd HA.out (by simp [phasorref08_Check.j0])
  | succ kj1 =>
   have H:=HA.out
   clear HA
   simp only [phasorref08_Check.j0] at H
   by_cases c13 : x28_1=true
   ·subst c13
    have H1 : (some ((-1),80))=some (r1,r2):=by rw [if_pos rfl] at H;exact H
    clear H
    have H:=H1
    clear H1
    simp only [Option.some.injEq,Prod.mk.injEq] at H
    obtain ⟨rfl,rfl⟩:=H
    go_wp2
    go_ret2
    exact ⟨by first|rfl|(simp [errW_none,errW_some] <;> rfl)|(simp [*,errW_none,errW_some] <;> rfl),by repeat (first|(with_reducible first|exact HB.out|apply below_alloc|apply pw_below_drewN|apply below_drew1|refine below_set ?_ GE162.out)|exact HB.out)⟩
   ·replace c13:=Bool.eq_false_iff.mpr c13
    subst c13
    have H1 : (phasorref08_Check.l0 kj1 0 a0_0 a0_1 l0_2)=some (r1,r2):=by rw [if_neg (show ¬ (false=true) by decide)] at H;exact H
    clear H
    have H:=H1
    clear H1
    have H':=Aside0.mk H
    clear H
    go_wp2
    go_loopg [4] kj1 (fun kq v4 w' => ∃ (x4_2 : Int),v4=.int .i64 x4_2∧Aside0 (phasorref08_Check.l0 kq x4_2 a0_0 a0_1 l0_2=some (r1,r2))∧Aside0 (kq≤kj1)∧Aside0 (w'.heap[gb162]?=some (.cells #[.int .i64 a0_0,.int .i64 a0_1,(.slice A0_2 l0_2.length c0_2)] 24 (0,0)))∧Aside0 (Below w.heap.size w w'))
    case atStart => exact ⟨(0),(by first|rfl|(simp;done)|(simp [*];done)),H',⟨Nat.le_refl _⟩,⟨by (with_reducible repeat (first|refine blk_drewN ?_ _|refine blk_drew ?_|refine blk_alloc ?_ _));exact BK162.out⟩,⟨by repeat (first|(with_reducible first|exact HB.out|apply below_alloc|apply pw_below_drewN|apply below_drew1|refine below_set ?_ GE162.out)|exact HB.out)⟩⟩
    case round =>
     clear H'
     try clear c1
     try clear p2
     try clear c4
     try clear c4b0
     try clear c6
     try clear c6b0
     try clear c8
     try clear c8b0
     try clear c10
     try clear c10b0
     try clear c13
     try clear hcz11_0
     try clear hcz11_1
     try clear hcz11_2
     try clear hcz12_0
     try clear hcz12_1
     try clear hcz12_2
     try clear hcz5_0
     try clear hcz5_1
     try clear hcz5_2
     try clear hcz7_0
     try clear hcz7_1
     try clear hcz7_2
     try clear hcz9_0
     try clear hcz9_1
     try clear hcz9_2
     try clear hfz11_0
     try clear hfz11_1
     try clear hfz11_2
     try clear hfz12_0
     try clear hfz12_1
     try clear hfz12_2
     try clear hfz5_0
     try clear hfz5_1
     try clear hfz5_2
     try clear hfz7_0
     try clear hfz7_1
     try clear hfz7_2
     try clear hfz9_0
     try clear hfz9_1
     try clear hfz9_2
     try clear p2
     obtain ⟨x4_2,rfl,HA,HK2,BK162,HB⟩:=hrel
     cases gk with
     | zero => exact absurd HA.out (by simp [phasorref08_Check.l0])
     | succ k2 =>
      have H:=HA.out
      clear HA
      simp only [phasorref08_Check.l0] at H
      by_cases c14 : x4_2 < (l0_2.length : Int)
      ·rw [if_pos c14] at H
       have c14b0 : decide (x4_2 < (l0_2.length : Int))=true:=decide_eq_true c14
       clear c14
       by_cases c15 : 0≤x4_2
       ·rw [if_pos c15] at H
        have c15b0 : decide (0≤x4_2)=true:=decide_eq_true c15
        clear c15
        replace H:=Option.bind_eq_some_iff.mp H
        obtain ⟨t164,A160,H⟩:=H
        replace H : (if t164=true then (phasorref08_Check.l0 k2 (wrap64 (x4_2 + 1)) a0_0 a0_1 l0_2) else (some (x4_2,80)))=some (r1,r2):=H
        have A16:=Aside0.mk A160
        clear A160
        by_cases c17 : t164=true
        ·subst c17
         have H1 : (phasorref08_Check.l0 k2 (wrap64 (x4_2 + 1)) a0_0 a0_1 l0_2)=some (r1,r2):=by rw [if_pos rfl] at H;exact H
         clear H
         have H:=H1
         clear H1
         have H':=Aside0.mk H
         clear H
         have hcz18_0 : wr.cell? ⟨gb162,0,none⟩=some (.int .i64 a0_0):=(blk_cell BK162.out 0).trans rfl
         have hcz18_1 : wr.cell? ⟨gb162,1,none⟩=some (.int .i64 a0_1):=(blk_cell BK162.out 1).trans rfl
         have hcz18_2 : wr.cell? ⟨gb162,2,none⟩=some (.slice A0_2 l0_2.length c0_2):=(blk_cell BK162.out 2).trans rfl
         have hfz18_0:=blk_frozen BK162.out 0
         have hfz18_1:=blk_frozen BK162.out 1
         have hfz18_2:=blk_frozen BK162.out 2
         try go_wp2
         have n0_:=Aside0.mk (blk_drew BK162.out)
         have n1_:=Aside0.mk (below_drew1 HB.out)
         clear BK162
         clear HB
         have BK162:=n0_
         have HB:=n1_
         clear n0_ n1_
         have p163 : 0≤(x4_2 : Int):=of_decide_eq_true (by first|(with_reducible assumption)|assumption)
         have q163 : x4_2 < (l0_2.length : Int):=of_decide_eq_true (by first|(with_reducible assumption)|assumption)
         obtain ⟨ad163,A163_2,c163_2,e163,hx163_0,hx163_1,hx163_2,hx163_3,hx163_4,hx163_5,hl163_2,hi163_2⟩:=at_T46 HR0_2.out x4_2 p163 q163
         have hw163_5:=hx163_5
         have hw163_4:=hx163_4
         have hw163_3:=hx163_3
         have hw163_2:=hx163_2
         have hw163_1:=hx163_1
         have hw163_0:=hx163_0
         cases e163
         replace hx163_0:=(HB.out.cell (World.block_lt_of_cell? w _ hx163_0)).trans hx163_0
         replace hx163_1:=(HB.out.cell (World.block_lt_of_cell? w _ hx163_1)).trans hx163_1
         replace hx163_2:=(HB.out.cell (World.block_lt_of_cell? w _ hx163_2)).trans hx163_2
         replace hx163_3:=(HB.out.cell (World.block_lt_of_cell? w _ hx163_3)).trans hx163_3
         replace hx163_4:=(HB.out.cell (World.block_lt_of_cell? w _ hx163_4)).trans hx163_4
         replace hx163_5:=(HB.out.cell (World.block_lt_of_cell? w _ hx163_5)).trans hx163_5
         have HR163_2:=Aside0.mk hi163_2
         have HC163_2:=Aside0.mk hl163_2
         clear hi163_2 hl163_2
         replace p163:=eq_true p163
         replace q163:=eq_true q163
         refine start_ (n:=11) (S:=fun w' => w'.cell? ⟨gb162,0,none⟩=some (.int .i64 a0_0)∧w'.cell? ⟨gb162,1,none⟩=some (.int .i64 a0_1)∧w'.cell? ⟨gb162,2,none⟩=some (.slice (some ad163) l0_2.length c0_2)∧w'.cell? (ad163.add ((x4_2).toNat * 6))=some (.int .i64 ((rd_T46 l0_2 x4_2).f0))∧w'.cell? ⟨(ad163.add ((x4_2).toNat * 6)).block,(ad163.add ((x4_2).toNat * 6)).off + 1,none⟩=some (.int .i64 ((rd_T46 l0_2 x4_2).f1))∧w'.cell? ⟨(ad163.add ((x4_2).toNat * 6)).block,(ad163.add ((x4_2).toNat * 6)).off + 2,none⟩=some (.slice A163_2 ((rd_T46 l0_2 x4_2).f2).length c163_2)∧w'.cell? ⟨(ad163.add ((x4_2).toNat * 6)).block,(ad163.add ((x4_2).toNat * 6)).off + 3,none⟩=some (.int .i64 ((rd_T46 l0_2 x4_2).f3))∧w'.cell? ⟨(ad163.add ((x4_2).toNat * 6)).block,(ad163.add ((x4_2).toNat * 6)).off + 4,none⟩=some (.int .i64 ((rd_T46 l0_2 x4_2).f4))∧w'.cell? ⟨(ad163.add ((x4_2).toNat * 6)).block,(ad163.add ((x4_2).toNat * 6)).off + 5,none⟩=some (.int .i64 ((rd_T46 l0_2 x4_2).f5))) (ds:=[]) #[false,false,false,false,false,false,false,false,false,false,false] (by kernel_rfl) rfl rfl ⟨(blk_cell BK162.out 0).trans rfl,(blk_cell BK162.out 1).trans rfl,(blk_cell BK162.out 2).trans rfl,((HB.out.cell (World.block_lt_of_cell? w _ hw163_0)).trans hw163_0),((HB.out.cell (World.block_lt_of_cell? w _ hw163_1)).trans hw163_1),((HB.out.cell (World.block_lt_of_cell? w _ hw163_2)).trans hw163_2),((HB.out.cell (World.block_lt_of_cell? w _ hw163_3)).trans hw163_3),((HB.out.cell (World.block_lt_of_cell? w _ hw163_4)).trans hw163_4),((HB.out.cell (World.block_lt_of_cell? w _ hw163_5)).trans hw163_5)⟩ (fun hHeld => ?_);refine with_tabW phasorref08_Check.tab6 phasorref08_Check.bits6 (fun HT_ HW_ => ?_)
         generalize wr.drew=w19 at BK162 HB HR163_2 hx163_0 hx163_1 hx163_2 hx163_3 hx163_4 hx163_5 hHeld ⊢
         refine pure_ (i:=0) (N:=some 36) (v:=?_) (a':=?_) #[true,false,false,false,false,false,false,false,false,false,false] rfl rfl (any_of HT_.out (by kernel_rfl)) (fun _ _ _ h => h) (Or.inl ⟨by rfl,?_⟩) ?_ ?_
         rotate_left
         ·intro w'
          go_simp
          with_reducible rfl
         rotate_left
         ·simp only [Act.put,List.setIfInBounds_toArray,List.set_cons_zero,List.set_cons_succ,i64_w,i32_w]
          rfl
         refine pure_ (i:=2) (N:=some 38) (v:=?_) (a':=?_) #[true,false,true,false,false,false,false,false,false,false,false] rfl rfl (any_of HT_.out (by kernel_rfl)) (fun _ _ _ h => h) (Or.inl ⟨by rfl,?_⟩) ?_ ?_
         rotate_left
         ·intro w'
          go_simp
          with_reducible rfl
         rotate_left
         ·simp only [Act.put,List.setIfInBounds_toArray,List.set_cons_zero,List.set_cons_succ,i64_w,i32_w]
          rfl
         refine pure_ (i:=5) (N:=some 41) (v:=?_) (a':=?_) #[true,false,true,false,false,true,false,false,false,false,false] rfl rfl (any_of HT_.out (by kernel_rfl)) (fun _ _ _ h => h) (Or.inl ⟨by rfl,?_⟩) ?_ ?_
         rotate_left
         ·intro w'
          go_simp
          with_reducible rfl
         rotate_left
         ·simp only [Act.put,List.setIfInBounds_toArray,List.set_cons_zero,List.set_cons_succ,i64_w,i32_w]
          rfl
         refine pure_ (i:=7) (N:=some 43) (v:=?_) (a':=?_) #[true,false,true,false,false,true,false,true,false,false,false] rfl rfl (any_of HT_.out (by kernel_rfl)) (fun _ _ _ h => h) (Or.inl ⟨by rfl,?_⟩) ?_ ?_
         rotate_left
         ·intro w'
          go_simp
          with_reducible rfl
         rotate_left
         ·simp only [Act.put,List.setIfInBounds_toArray,List.set_cons_zero,List.set_cons_succ,i64_w,i32_w]
          rfl
         refine take_ (i:=1) (N:=some 37) (v:=?_) (a':=?_) #[true,true,true,false,false,true,false,true,false,false,false] rfl rfl (take_ofW HT_.out HW_.out (by kernel_rfl)) (fun _ _ _ h => h) (Or.inl ⟨by rfl,?_⟩) hHeld ?_ ?_
         rotate_left
         ·rintro w' ⟨s0,s1,s2,s3,s4,s5,s6,s7,s8⟩
          go_simp
          with_reducible rfl
         rotate_left
         ·simp only [Act.put,List.setIfInBounds_toArray,List.set_cons_zero,List.set_cons_succ,i64_w,i32_w]
          rfl
         refine pure_ (i:=3) (N:=some 39) (v:=?_) (a':=?_) #[true,true,true,true,false,true,false,true,false,false,false] rfl rfl (any_of HT_.out (by kernel_rfl)) (fun _ _ _ h => h) (Or.inl ⟨by rfl,?_⟩) ?_ ?_
         rotate_left
         ·intro w'
          go_simp
          with_reducible rfl
         rotate_left
         ·simp only [Act.put,List.setIfInBounds_toArray,List.set_cons_zero,List.set_cons_succ,i64_w,i32_w]
          rfl
         refine take_ (i:=4) (N:=some 40) (v:=?_) (a':=?_) #[true,true,true,true,true,true,false,true,false,false,false] rfl rfl (take_ofW HT_.out HW_.out (by kernel_rfl)) (fun _ _ _ h => h) (Or.inl ⟨by rfl,?_⟩) hHeld ?_ ?_
         rotate_left
         ·rintro w' ⟨s0,s1,s2,s3,s4,s5,s6,s7,s8⟩
          go_simp
          with_reducible rfl
         rotate_left
         ·simp only [Act.put,List.setIfInBounds_toArray,List.set_cons_zero,List.set_cons_succ,i64_w,i32_w]
          rfl
         refine take_ (i:=6) (N:=some 42) (v:=?_) (a':=?_) #[true,true,true,true,true,true,true,true,false,false,false] rfl rfl (take_ofW HT_.out HW_.out (by kernel_rfl)) (fun _ _ _ h => h) (Or.inl ⟨by rfl,?_⟩) hHeld ?_ ?_
         rotate_left
         ·rintro w' ⟨s0,s1,s2,s3,s4,s5,s6,s7,s8⟩
          go_simp
          with_reducible rfl
         rotate_left
         ·simp only [Act.put,List.setIfInBounds_toArray,List.set_cons_zero,List.set_cons_succ,i64_w,i32_w]
          rfl
         refine take_ (i:=8) (N:=some 44) (v:=?_) (a':=?_) #[true,true,true,true,true,true,true,true,true,false,false] rfl rfl (take_ofW HT_.out HW_.out (by kernel_rfl)) (fun _ _ _ h => h) (Or.inl ⟨by rfl,?_⟩) hHeld ?_ ?_
         rotate_left
         ·rintro w' ⟨s0,s1,s2,s3,s4,s5,s6,s7,s8⟩
          go_simp
          with_reducible rfl
         rotate_left
         ·simp only [Act.put,List.setIfInBounds_toArray,List.set_cons_zero,List.set_cons_succ,i64_w,i32_w]
          rfl
         refine one_ (i:=9) (N:=some 45) #[true,true,true,true,true,true,true,true,true,true,false] rfl rfl (one_of HT_.out (by kernel_rfl)) (by decide) (fun K hK => ?_)
         refine goes_ Try.func81 (by kernel_rfl) rfl #[.agg #[.int .i64 ((rd_T46 l0_2 x4_2).f0),.int .i64 ((rd_T46 l0_2 x4_2).f1),.slice A163_2 ((rd_T46 l0_2 x4_2).f2).length c163_2,.int .i64 ((rd_T46 l0_2 x4_2).f3),.int .i64 ((rd_T46 l0_2 x4_2).f4),.int .i64 ((rd_T46 l0_2 x4_2).f5)],.int .i64 a0_0,.int .i64 a0_1] (by rfl) rfl rfl (by (try simp only [List.map_toArray,List.map_cons,List.map_nil]);first|done|rfl|(simp only [List.length_drop,List.length_take];rfl)) ?_
         with_reducible refine (phasorref08_Op.calls ((rd_T46 l0_2 x4_2).f0) ((rd_T46 l0_2 x4_2).f1) _ _ ((rd_T46 l0_2 x4_2).f2) ((rd_T46 l0_2 x4_2).f3) ((rd_T46 l0_2 x4_2).f4) ((rd_T46 l0_2 x4_2).f5) a0_0 a0_1 true _ ?side1 ?side2 A16.out).mono ?_
         (case side1 => repeat (first|exact (Kd.C_below HR163_2.out HB.out)|(with_reducible refine Kd.C_alloc ?_ _)|(with_reducible refine Kd.C_drewN ?_ _)|(with_reducible refine Kd.C_drew ?_)))
         (case side2 => exact HC163_2.out)
         rintro e w20 ⟨rfl,hb⟩
         refine ⟨_,rfl,?_⟩
         have n0_:=Aside0.mk (blk_below (g:=gb162) (o:=.cells #[.int .i64 a0_0,.int .i64 a0_1,.slice (some ad163) l0_2.length c0_2] 24 (0,0)) (by (with_reducible repeat (first|refine blk_drewN ?_ _|refine blk_drew ?_|refine blk_alloc ?_ _));exact BK162.out) hb)
         have n1_:=Aside0.mk (below_step (by repeat (first|(with_reducible first|exact HB.out|apply below_alloc|apply pw_below_drewN|apply below_drew1|refine below_set ?_ GE162.out)|exact HB.out)) hb)
         clear BK162
         clear HB
         have BK162:=n0_
         have HB:=n1_
         clear n0_ n1_
         (try clear hb)
         (try clear hb2)
         (try clear hk)
         (try clear hi)
         refine hK.out _ _ ⟨(blk_cell BK162.out 0).trans rfl,(blk_cell BK162.out 1).trans rfl,(blk_cell BK162.out 2).trans rfl,((HB.out.cell (World.block_lt_of_cell? w _ hw163_0)).trans hw163_0),((HB.out.cell (World.block_lt_of_cell? w _ hw163_1)).trans hw163_1),((HB.out.cell (World.block_lt_of_cell? w _ hw163_2)).trans hw163_2),((HB.out.cell (World.block_lt_of_cell? w _ hw163_3)).trans hw163_3),((HB.out.cell (World.block_lt_of_cell? w _ hw163_4)).trans hw163_4),((HB.out.cell (World.block_lt_of_cell? w _ hw163_5)).trans hw163_5)⟩ (fun hHeld => ?_)
         clear hK K
         refine norm_ (a':=?_) ?_ ?_
         rotate_left
         ·show Act.put _ (some 45) _=_
          simp only [Act.put,List.setIfInBounds_toArray,List.set_cons_zero,List.set_cons_succ,i64_w,i32_w]
          rfl
         refine pure_ (i:=10) (N:=some 46) (v:=?_) (a':=?_) #[true,true,true,true,true,true,true,true,true,true,true] rfl rfl (any_of HT_.out (by kernel_rfl)) (fun _ _ _ h => h) (Or.inl ⟨by rfl,?_⟩) ?_ ?_
         rotate_left
         ·intro w'
          go_simp
          with_reducible rfl
         rotate_left
         ·simp only [Act.put,List.setIfInBounds_toArray,List.set_cons_zero,List.set_cons_succ,i64_w,i32_w]
          rfl
         refine done_ (done_of HT_.out (by kernel_rfl)) ?_
         try go_wp2
         go_roundg k2
         case measure => have:=HJ1.out;have:=HK2.out;omega
         case rel => exact ⟨(wrap64 (x4_2 + 1)),(by first|rfl|(simp;done)|(simp [*];done)),H',⟨by have:=HJ1.out;have:=HK2.out;omega⟩,⟨by (with_reducible repeat (first|refine blk_drewN ?_ _|refine blk_drew ?_|refine blk_alloc ?_ _));exact BK162.out⟩,⟨by repeat (first|(with_reducible first|exact HB.out|apply below_alloc|apply pw_below_drewN|apply below_drew1|refine below_set ?_ GE162.out)|exact HB.out)⟩⟩
        ·replace c17:=Bool.eq_false_iff.mpr c17
         subst c17
         have H1 : (some (x4_2,80))=some (r1,r2):=by rw [if_neg (show ¬ (false=true) by decide)] at H;exact H
         clear H
         have H:=H1
         clear H1
         simp only [Option.some.injEq,Prod.mk.injEq] at H
         obtain ⟨rfl,rfl⟩:=H
         have hcz21_0 : wr.cell? ⟨gb162,0,none⟩=some (.int .i64 a0_0):=(blk_cell BK162.out 0).trans rfl
         have hcz21_1 : wr.cell? ⟨gb162,1,none⟩=some (.int .i64 a0_1):=(blk_cell BK162.out 1).trans rfl
         have hcz21_2 : wr.cell? ⟨gb162,2,none⟩=some (.slice A0_2 l0_2.length c0_2):=(blk_cell BK162.out 2).trans rfl
         have hfz21_0:=blk_frozen BK162.out 0
         have hfz21_1:=blk_frozen BK162.out 1
         have hfz21_2:=blk_frozen BK162.out 2
         try go_wp2
         have n0_:=Aside0.mk (blk_drew BK162.out)
         have n1_:=Aside0.mk (below_drew1 HB.out)
         clear BK162
         clear HB
         have BK162:=n0_
         have HB:=n1_
         clear n0_ n1_
         have p163 : 0≤(x4_2 : Int):=of_decide_eq_true (by first|(with_reducible assumption)|assumption)
         have q163 : x4_2 < (l0_2.length : Int):=of_decide_eq_true (by first|(with_reducible assumption)|assumption)
         obtain ⟨ad163,A163_2,c163_2,e163,hx163_0,hx163_1,hx163_2,hx163_3,hx163_4,hx163_5,hl163_2,hi163_2⟩:=at_T46 HR0_2.out x4_2 p163 q163
         have hw163_5:=hx163_5
         have hw163_4:=hx163_4
         have hw163_3:=hx163_3
         have hw163_2:=hx163_2
         have hw163_1:=hx163_1
         have hw163_0:=hx163_0
         cases e163
         replace hx163_0:=(HB.out.cell (World.block_lt_of_cell? w _ hx163_0)).trans hx163_0
         replace hx163_1:=(HB.out.cell (World.block_lt_of_cell? w _ hx163_1)).trans hx163_1
         replace hx163_2:=(HB.out.cell (World.block_lt_of_cell? w _ hx163_2)).trans hx163_2
         replace hx163_3:=(HB.out.cell (World.block_lt_of_cell? w _ hx163_3)).trans hx163_3
         replace hx163_4:=(HB.out.cell (World.block_lt_of_cell? w _ hx163_4)).trans hx163_4
         replace hx163_5:=(HB.out.cell (World.block_lt_of_cell? w _ hx163_5)).trans hx163_5
         have HR163_2:=Aside0.mk hi163_2
         have HC163_2:=Aside0.mk hl163_2
         clear hi163_2 hl163_2
         replace p163:=eq_true p163
         replace q163:=eq_true q163
         refine start_ (n:=11) (S:=fun w' => w'.cell? ⟨gb162,0,none⟩=some (.int .i64 a0_0)∧w'.cell? ⟨gb162,1,none⟩=some (.int .i64 a0_1)∧w'.cell? ⟨gb162,2,none⟩=some (.slice (some ad163) l0_2.length c0_2)∧w'.cell? (ad163.add ((x4_2).toNat * 6))=some (.int .i64 ((rd_T46 l0_2 x4_2).f0))∧w'.cell? ⟨(ad163.add ((x4_2).toNat * 6)).block,(ad163.add ((x4_2).toNat * 6)).off + 1,none⟩=some (.int .i64 ((rd_T46 l0_2 x4_2).f1))∧w'.cell? ⟨(ad163.add ((x4_2).toNat * 6)).block,(ad163.add ((x4_2).toNat * 6)).off + 2,none⟩=some (.slice A163_2 ((rd_T46 l0_2 x4_2).f2).length c163_2)∧w'.cell? ⟨(ad163.add ((x4_2).toNat * 6)).block,(ad163.add ((x4_2).toNat * 6)).off + 3,none⟩=some (.int .i64 ((rd_T46 l0_2 x4_2).f3))∧w'.cell? ⟨(ad163.add ((x4_2).toNat * 6)).block,(ad163.add ((x4_2).toNat * 6)).off + 4,none⟩=some (.int .i64 ((rd_T46 l0_2 x4_2).f4))∧w'.cell? ⟨(ad163.add ((x4_2).toNat * 6)).block,(ad163.add ((x4_2).toNat * 6)).off + 5,none⟩=some (.int .i64 ((rd_T46 l0_2 x4_2).f5))) (ds:=[]) #[false,false,false,false,false,false,false,false,false,false,false] (by kernel_rfl) rfl rfl ⟨(blk_cell BK162.out 0).trans rfl,(blk_cell BK162.out 1).trans rfl,(blk_cell BK162.out 2).trans rfl,((HB.out.cell (World.block_lt_of_cell? w _ hw163_0)).trans hw163_0),((HB.out.cell (World.block_lt_of_cell? w _ hw163_1)).trans hw163_1),((HB.out.cell (World.block_lt_of_cell? w _ hw163_2)).trans hw163_2),((HB.out.cell (World.block_lt_of_cell? w _ hw163_3)).trans hw163_3),((HB.out.cell (World.block_lt_of_cell? w _ hw163_4)).trans hw163_4),((HB.out.cell (World.block_lt_of_cell? w _ hw163_5)).trans hw163_5)⟩ (fun hHeld => ?_);refine with_tabW phasorref08_Check.tab6 phasorref08_Check.bits6 (fun HT_ HW_ => ?_)
         generalize wr.drew=w22 at BK162 HB HR163_2 hx163_0 hx163_1 hx163_2 hx163_3 hx163_4 hx163_5 hHeld ⊢
         refine pure_ (i:=0) (N:=some 36) (v:=?_) (a':=?_) #[true,false,false,false,false,false,false,false,false,false,false] rfl rfl (any_of HT_.out (by kernel_rfl)) (fun _ _ _ h => h) (Or.inl ⟨by rfl,?_⟩) ?_ ?_
         rotate_left
         ·intro w'
          go_simp
          with_reducible rfl
         rotate_left
         ·simp only [Act.put,List.setIfInBounds_toArray,List.set_cons_zero,List.set_cons_succ,i64_w,i32_w]
          rfl
         refine pure_ (i:=2) (N:=some 38) (v:=?_) (a':=?_) #[true,false,true,false,false,false,false,false,false,false,false] rfl rfl (any_of HT_.out (by kernel_rfl)) (fun _ _ _ h => h) (Or.inl ⟨by rfl,?_⟩) ?_ ?_
         rotate_left
         ·intro w'
          go_simp
          with_reducible rfl
         rotate_left
         ·simp only [Act.put,List.setIfInBounds_toArray,List.set_cons_zero,List.set_cons_succ,i64_w,i32_w]
          rfl
         refine pure_ (i:=5) (N:=some 41) (v:=?_) (a':=?_) #[true,false,true,false,false,true,false,false,false,false,false] rfl rfl (any_of HT_.out (by kernel_rfl)) (fun _ _ _ h => h) (Or.inl ⟨by rfl,?_⟩) ?_ ?_
         rotate_left
         ·intro w'
          go_simp
          with_reducible rfl
         rotate_left
         ·simp only [Act.put,List.setIfInBounds_toArray,List.set_cons_zero,List.set_cons_succ,i64_w,i32_w]
          rfl
         refine pure_ (i:=7) (N:=some 43) (v:=?_) (a':=?_) #[true,false,true,false,false,true,false,true,false,false,false] rfl rfl (any_of HT_.out (by kernel_rfl)) (fun _ _ _ h => h) (Or.inl ⟨by rfl,?_⟩) ?_ ?_
         rotate_left
         ·intro w'
          go_simp
          with_reducible rfl
         rotate_left
         ·simp only [Act.put,List.setIfInBounds_toArray,List.set_cons_zero,List.set_cons_succ,i64_w,i32_w]
          rfl
         refine take_ (i:=1) (N:=some 37) (v:=?_) (a':=?_) #[true,true,true,false,false,true,false,true,false,false,false] rfl rfl (take_ofW HT_.out HW_.out (by kernel_rfl)) (fun _ _ _ h => h) (Or.inl ⟨by rfl,?_⟩) hHeld ?_ ?_
         rotate_left
         ·rintro w' ⟨s0,s1,s2,s3,s4,s5,s6,s7,s8⟩
          go_simp
          with_reducible rfl
         rotate_left
         ·simp only [Act.put,List.setIfInBounds_toArray,List.set_cons_zero,List.set_cons_succ,i64_w,i32_w]
          rfl
         refine pure_ (i:=3) (N:=some 39) (v:=?_) (a':=?_) #[true,true,true,true,false,true,false,true,false,false,false] rfl rfl (any_of HT_.out (by kernel_rfl)) (fun _ _ _ h => h) (Or.inl ⟨by rfl,?_⟩) ?_ ?_
         rotate_left
         ·intro w'
          go_simp
          with_reducible rfl
         rotate_left
         ·simp only [Act.put,List.setIfInBounds_toArray,List.set_cons_zero,List.set_cons_succ,i64_w,i32_w]
          rfl
         refine take_ (i:=4) (N:=some 40) (v:=?_) (a':=?_) #[true,true,true,true,true,true,false,true,false,false,false] rfl rfl (take_ofW HT_.out HW_.out (by kernel_rfl)) (fun _ _ _ h => h) (Or.inl ⟨by rfl,?_⟩) hHeld ?_ ?_
         rotate_left
         ·rintro w' ⟨s0,s1,s2,s3,s4,s5,s6,s7,s8⟩
          go_simp
          with_reducible rfl
         rotate_left
         ·simp only [Act.put,List.setIfInBounds_toArray,List.set_cons_zero,List.set_cons_succ,i64_w,i32_w]
          rfl
         refine take_ (i:=6) (N:=some 42) (v:=?_) (a':=?_) #[true,true,true,true,true,true,true,true,false,false,false] rfl rfl (take_ofW HT_.out HW_.out (by kernel_rfl)) (fun _ _ _ h => h) (Or.inl ⟨by rfl,?_⟩) hHeld ?_ ?_
         rotate_left
         ·rintro w' ⟨s0,s1,s2,s3,s4,s5,s6,s7,s8⟩
          go_simp
          with_reducible rfl
         rotate_left
         ·simp only [Act.put,List.setIfInBounds_toArray,List.set_cons_zero,List.set_cons_succ,i64_w,i32_w]
          rfl
         refine take_ (i:=8) (N:=some 44) (v:=?_) (a':=?_) #[true,true,true,true,true,true,true,true,true,false,false] rfl rfl (take_ofW HT_.out HW_.out (by kernel_rfl)) (fun _ _ _ h => h) (Or.inl ⟨by rfl,?_⟩) hHeld ?_ ?_
         rotate_left
         ·rintro w' ⟨s0,s1,s2,s3,s4,s5,s6,s7,s8⟩
          go_simp
          with_reducible rfl
         rotate_left
         ·simp only [Act.put,List.setIfInBounds_toArray,List.set_cons_zero,List.set_cons_succ,i64_w,i32_w]
          rfl
         refine one_ (i:=9) (N:=some 45) #[true,true,true,true,true,true,true,true,true,true,false] rfl rfl (one_of HT_.out (by kernel_rfl)) (by decide) (fun K hK => ?_)
         refine goes_ Try.func81 (by kernel_rfl) rfl #[.agg #[.int .i64 ((rd_T46 l0_2 x4_2).f0),.int .i64 ((rd_T46 l0_2 x4_2).f1),.slice A163_2 ((rd_T46 l0_2 x4_2).f2).length c163_2,.int .i64 ((rd_T46 l0_2 x4_2).f3),.int .i64 ((rd_T46 l0_2 x4_2).f4),.int .i64 ((rd_T46 l0_2 x4_2).f5)],.int .i64 a0_0,.int .i64 a0_1] (by rfl) rfl rfl (by (try simp only [List.map_toArray,List.map_cons,List.map_nil]);first|done|rfl|(simp only [List.length_drop,List.length_take];rfl)) ?_
         with_reducible refine (phasorref08_Op.calls ((rd_T46 l0_2 x4_2).f0) ((rd_T46 l0_2 x4_2).f1) _ _ ((rd_T46 l0_2 x4_2).f2) ((rd_T46 l0_2 x4_2).f3) ((rd_T46 l0_2 x4_2).f4) ((rd_T46 l0_2 x4_2).f5) a0_0 a0_1 false _ ?side1 ?side2 A16.out).mono ?_
         (case side1 => repeat (first|exact (Kd.C_below HR163_2.out HB.out)|(with_reducible refine Kd.C_alloc ?_ _)|(with_reducible refine Kd.C_drewN ?_ _)|(with_reducible refine Kd.C_drew ?_)))
         (case side2 => exact HC163_2.out)
         rintro e w23 ⟨rfl,hb⟩
         refine ⟨_,rfl,?_⟩
         have n0_:=Aside0.mk (blk_below (g:=gb162) (o:=.cells #[.int .i64 a0_0,.int .i64 a0_1,.slice (some ad163) l0_2.length c0_2] 24 (0,0)) (by (with_reducible repeat (first|refine blk_drewN ?_ _|refine blk_drew ?_|refine blk_alloc ?_ _));exact BK162.out) hb)
         have n1_:=Aside0.mk (below_step (by repeat (first|(with_reducible first|exact HB.out|apply below_alloc|apply pw_below_drewN|apply below_drew1|refine below_set ?_ GE162.out)|exact HB.out)) hb)
         clear BK162
         clear HB
         have BK162:=n0_
         have HB:=n1_
         clear n0_ n1_
         (try clear hb)
         (try clear hb2)
         (try clear hk)
         (try clear hi)
         refine hK.out _ _ ⟨(blk_cell BK162.out 0).trans rfl,(blk_cell BK162.out 1).trans rfl,(blk_cell BK162.out 2).trans rfl,((HB.out.cell (World.block_lt_of_cell? w _ hw163_0)).trans hw163_0),((HB.out.cell (World.block_lt_of_cell? w _ hw163_1)).trans hw163_1),((HB.out.cell (World.block_lt_of_cell? w _ hw163_2)).trans hw163_2),((HB.out.cell (World.block_lt_of_cell? w _ hw163_3)).trans hw163_3),((HB.out.cell (World.block_lt_of_cell? w _ hw163_4)).trans hw163_4),((HB.out.cell (World.block_lt_of_cell? w _ hw163_5)).trans hw163_5)⟩ (fun hHeld => ?_)
         clear hK K
         refine norm_ (a':=?_) ?_ ?_
         rotate_left
         ·show Act.put _ (some 45) _=_
          simp only [Act.put,List.setIfInBounds_toArray,List.set_cons_zero,List.set_cons_succ,i64_w,i32_w]
          rfl
         refine pure_ (i:=10) (N:=some 46) (v:=?_) (a':=?_) #[true,true,true,true,true,true,true,true,true,true,true] rfl rfl (any_of HT_.out (by kernel_rfl)) (fun _ _ _ h => h) (Or.inl ⟨by rfl,?_⟩) ?_ ?_
         rotate_left
         ·intro w'
          go_simp
          with_reducible rfl
         rotate_left
         ·simp only [Act.put,List.setIfInBounds_toArray,List.set_cons_zero,List.set_cons_succ,i64_w,i32_w]
          rfl
         refine done_ (done_of HT_.out (by kernel_rfl)) ?_
         try go_wp2
         go_ret2
         exact ⟨by first|rfl|(simp [errW_none,errW_some] <;> rfl)|(simp [*,errW_none,errW_some] <;> rfl),by repeat (first|(with_reducible first|exact HB.out|apply below_alloc|apply pw_below_drewN|apply below_drew1|refine below_set ?_ GE162.out)|exact HB.out)⟩
       ·rw [if_neg c15] at H
        exact absurd H (by simp)
      ·rw [if_neg c14] at H
       have c14b0 : decide (x4_2 < (l0_2.length : Int))=false:=decide_eq_false c14
       clear c14
       simp only [Option.some.injEq,Prod.mk.injEq] at H
       obtain ⟨rfl,rfl⟩:=H
       have hcz24_0 : wr.cell? ⟨gb162,0,none⟩=some (.int .i64 a0_0):=(blk_cell BK162.out 0).trans rfl
       have hcz24_1 : wr.cell? ⟨gb162,1,none⟩=some (.int .i64 a0_1):=(blk_cell BK162.out 1).trans rfl
       have hcz24_2 : wr.cell? ⟨gb162,2,none⟩=some (.slice A0_2 l0_2.length c0_2):=(blk_cell BK162.out 2).trans rfl
       have hfz24_0:=blk_frozen BK162.out 0
       have hfz24_1:=blk_frozen BK162.out 1
       have hfz24_2:=blk_frozen BK162.out 2
       go_wp2
       go_ret2
       exact ⟨by first|rfl|(simp [errW_none,errW_some] <;> rfl)|(simp [*,errW_none,errW_some] <;> rfl),by repeat (first|(with_reducible first|exact HB.out|apply below_alloc|apply pw_below_drewN|apply below_drew1|refine below_set ?_ GE162.out)|exact HB.out)⟩
end Go.Proofs.Ytbelnopbggkdfaa.Q
end

section
namespace Go.Proofs.Ytbelnopbggkdfaa.Q
open Go.RowKit Go.Proofs.YtbelnopbggkdfaaW.PrintWords Go.Proofs.YtbelnopbggkdfaaW.PrintLast Go.Proofs.YtbelnopbggkdfaaW.PrintMore
attribute [local go_sem] max2_int min2_int max_two min_two max_three min_three max_four min_four   -- for this text's walks alone
set_option linter.unusedVariables false
set_option linter.unusedSimpArgs false
def phasorref08_May.f (k : Nat) (a0_0 : Int) (a0_1 : Int) (l0_2 : List (S46)) : Option (Bool):=(phasorref08_Check.f k a0_0 a0_1 l0_2).bind fun bt166 => (some (bt166.2 == 0))
set_option maxHeartbeats 8000000 in
set_option maxRecDepth 100000 in
theorem phasorref08_May.calls (k : Nat) (a0_0 : Int) (a0_1 : Int) (A0_2 : Option Addr) (c0_2 : Nat) (l0_2 : List (S46)) (r : Bool) (w : World) (hr0_2 : Kd.C k46 w A0_2 l0_2.length l0_2) (hc0_2 : l0_2.length≤c0_2) (h : phasorref08_May.f k a0_0 a0_1 l0_2=some r) :
  Calls Try.prog 24 #[.agg #[.int .i64 a0_0,.int .i64 a0_1,.slice A0_2 l0_2.length c0_2]] w fun e w' => e=.returned (.bool r)∧Below w.heap.size w w':=by
 have hu24:=Try.underlying24
 have HR0_2:=Aside0.mk hr0_2
 have HC0_2:=Aside0.mk hc0_2
 clear hr0_2 hc0_2
 have HB:=Aside0.mk (Below.refl w.heap.size w)
 have H : ((phasorref08_Check.f k a0_0 a0_1 l0_2).bind fun bt166 => (some (bt166.2 == 0)))=some r:=h
 clear h
 replace H:=Option.bind_eq_some_iff.mp H
 obtain ⟨⟨t166,t167⟩,A20,H⟩:=H
 replace H : (some (t167 == 0))=some r:=H
 have A2:=Aside0.mk A20
 clear A20
 obtain rfl:=Option.some.inj H
 go_enter Try.func24,Try.ntmps24
 go_wp2_with (first|((with_reducible refine gate_dst (N:=1) rfl ?_);refine box_event ?hg (N:=1) ?hd (cs:=#[.int .i64 a0_0,.int .i64 a0_1,.slice A0_2 l0_2.length c0_2]) (t:=24) ?hr ?_;(case hd => rfl);(case hg => rfl);(case hr => first|(go_simp;done)|(go_simp;rfl));intro gb165 hg w3 hbox hb;have n0_:=Aside0.mk (below_step (by repeat (first|(with_reducible first|exact HB.out|apply below_alloc|apply pw_below_drewN|apply below_drew1)|exact HB.out)) hb);have n1_:=Aside0.mk (hbox);have n2_:=Aside0.mk ((by rw [hg];exact (below_size (by repeat (first|(with_reducible first|exact HB.out|apply below_alloc|apply pw_below_drewN|apply below_drew1)|exact HB.out))) : w.heap.size≤gb165));have n3_:=Aside0.mk ((by rw [hg];exact (below_size (by repeat (first|(with_reducible first|exact HB.out|apply below_alloc|apply pw_below_drewN|apply below_drew1)|exact HB.out))) : w.heap.size≤gb165));clear HB;have HB:=n0_;have BK165:=n1_;have GW165:=n2_;have GE165:=n3_;clear n0_ n1_ n2_ n3_;clear hb hbox hg;have hcz4_0 : w3.cell? ⟨gb165,0,none⟩=some (.int .i64 a0_0):=(blk_cell BK165.out 0).trans rfl;have hcz4_1 : w3.cell? ⟨gb165,1,none⟩=some (.int .i64 a0_1):=(blk_cell BK165.out 1).trans rfl;have hcz4_2 : w3.cell? ⟨gb165,2,none⟩=some (.slice A0_2 l0_2.length c0_2):=(blk_cell BK165.out 2).trans rfl;have hfz4_0:=blk_frozen BK165.out 0;have hfz4_1:=blk_frozen BK165.out 1;have hfz4_2:=blk_frozen BK165.out 2)|((with_reducible refine gate_callee (f:=64) rfl ?_);refine goesL_ (some 7) rfl rfl Try.func64 (by kernel_rfl) rfl #[.agg #[.int .i64 a0_0,.int .i64 a0_1,.slice A0_2 l0_2.length c0_2]] rfl (by (try simp only [List.map_toArray,List.map_cons,List.map_nil]);first|done|rfl|(simp only [List.length_drop,List.length_take];rfl)) ?_;(with_reducible refine (phasorref08_Check.calls k a0_0 a0_1 _ _ l0_2 t166 t167 _ ?side1 ?side2 A2.out).mono ?_);(case side1 => repeat (first|exact (Kd.C_below HR0_2.out HB.out)|(with_reducible refine Kd.C_alloc ?_ _)|(with_reducible refine Kd.C_drewN ?_ _)|(with_reducible refine Kd.C_drew ?_)));(case side2 => exact HC0_2.out);rintro e w5 ⟨rfl,hb⟩;refine ⟨_,rfl,?_⟩;have n0_:=Aside0.mk (blk_below (g:=gb165) (o:=.cells #[.int .i64 a0_0,.int .i64 a0_1,.slice A0_2 l0_2.length c0_2] 24 (0,0)) (by (with_reducible repeat (first|refine blk_drewN ?_ _|refine blk_drew ?_|refine blk_alloc ?_ _));exact BK165.out) hb);have n1_:=Aside0.mk (below_step (by repeat (first|(with_reducible first|exact HB.out|apply below_alloc|apply pw_below_drewN|apply below_drew1|refine below_set ?_ GE165.out)|exact HB.out)) hb);clear BK165;clear HB;have BK165:=n0_;have HB:=n1_;clear n0_ n1_;(try clear hb);(try clear hb2);(try clear hk);(try clear hi)))
 go_ret
 exact ⟨by first|rfl|(simp [errW_none,errW_some] <;> rfl)|(simp [*,errW_none,errW_some] <;> rfl),by repeat (first|(with_reducible first|exact HB.out|apply below_alloc|apply pw_below_drewN|apply below_drew1|refine below_set ?_ GE165.out)|exact HB.out)⟩
end Go.Proofs.Ytbelnopbggkdfaa.Q
end

section
namespace Go.Proofs.Ytbelnopbggkdfaa.Q
open Go.RowKit Go.Proofs.YtbelnopbggkdfaaW.PrintWords Go.Proofs.YtbelnopbggkdfaaW.PrintLast Go.Proofs.YtbelnopbggkdfaaW.PrintMore
def Evt (p : Nat→Prop) : Prop:=∃ K,∀ k,K≤k→p k
theorem Evt.mono {p q : Nat→Prop} (h : Evt p) (hpq : ∀ k,p k→q k) : Evt q:=⟨h.choose,fun k hk => hpq k (h.choose_spec k hk)⟩
theorem Evt.and {p q : Nat→Prop} (h : Evt p) (h2 : Evt q) : Evt fun k => p k∧q k :=
  ⟨max h.choose h2.choose,fun k hk => ⟨h.choose_spec k (by omega),h2.choose_spec k (by omega)⟩⟩
theorem Evt.all {p : Nat→Prop} (h : ∀ k,p k) : Evt p:=⟨0,fun k _ => h k⟩
theorem Evt.succ {p q : Nat→Prop} (h : Evt p) (hpq : ∀ k,p k→q (k + 1)) : Evt q :=
  ⟨h.choose + 1,fun k hk => by obtain ⟨j,rfl⟩ : ∃ j,k=j + 1:=⟨k - 1,by omega⟩;exact hpq j (h.choose_spec j (by omega))⟩
theorem Evt.get {p : Nat→Prop} (h : Evt p) : ∃ k,p k:=⟨h.choose,h.choose_spec _ (Nat.le_refl _)⟩
theorem w64 {x : Int} (h0 : -9223372036854775808≤x) (h1 : x < 9223372036854775808) : wrap64 x=x:=by unfold wrap64;omega
abbrev Opn:=S46
theorem rdT_nat {l : List Opn} {i : Nat} (h : i < l.length) : rd_T46 l (i : Int)=l[i]:=by
  simp [rd_T46,List.getD_eq_getElem?_getD,List.getElem?_eq_getElem h]
theorem nodup_len : ∀ (n : Nat) (l : List Int),l.Nodup→(∀ x ∈ l,0≤x∧x < (n : Int))→l.length≤n
  | 0,l,_,h => by
    cases l with
    | nil => simp
    | cons x xs => have:=h x (by simp);omega
  | n + 1,l,hd,h => by
    have h2:=nodup_len n (l.erase (n : Int)) (hd.erase _) fun x hx => by
      have:=h x (List.mem_of_mem_erase hx)
      have hne : x≠(n : Int):=fun e => (hd.mem_erase_iff.1 hx).1 e
      omega
    have:=List.length_erase (a:=(n : Int)) (l:=l)
    split at this <;> omega
theorem okB_facts {zs : List Int} {n : Int} (h : okB zs n=true) : (∀ x ∈ zs,0≤x∧x < n)∧zs.Nodup:=by
  have ha:=okB_iff.1 h
  refine ⟨fun x hx => ?_,?_⟩
  · obtain ⟨i,hi,rfl⟩:=List.getElem_of_mem hx
    have:=ha i hi
    unfold okAt at this
    rw [List.getD_eq_getElem?_getD,List.getElem?_eq_getElem hi] at this
    exact ⟨this.1,this.2.1⟩
  · unfold List.Nodup
    rw [List.pairwise_iff_getElem]
    intro i j hi hj hij e
    have:=(ha j hj).2.2
    rw [List.getD_eq_getElem?_getD,List.getElem?_eq_getElem hj] at this
    simp only [Option.getD_some] at this
    have hm : zs[j] ∈ zs.take j:=by
      rw [← e]
      exact List.mem_take_iff_getElem.2 ⟨i,by omega,rfl⟩
    rw [List.contains_iff_mem.2 hm] at this
    cases this
def mayO (q b : Int) (o : Opn) : Bool:=mayC o.f0 o.f1 o.f2 o.f3 o.f4 o.f5 q b
def wsF (c : Int) (o : Opn) : List Int:=o.f2 ++ (if o.f0=2 then [c + o.f3] else []) ++ (if 0≤o.f4 then [c + o.f4] else [])
structure OpF (q b : Int) (o : Opn) : Prop where
  len : o.f2.length≤64
  qs : ∀ x ∈ o.f2,0≤x∧x < q
  m : o.f0=2→0≤o.f3∧o.f3 < b
  i0 : -1≤o.f4
  i1 : o.f4 < b
theorem mayO_facts {q b : Int} {o : Opn} (h : mayO q b o=true) (hq : q≤64) (hb0 : 0≤b) : OpF q b o:=by
  unfold mayO mayC at h
  have lenOf : okB o.f2 q=true→o.f2.length≤64:=fun hk => by
    obtain ⟨h1,h2⟩:=okB_facts hk
    exact nodup_len 64 _ h2 fun x hx => by have:=h1 x hx;omega
  split at h
  · rename_i h1
    unfold gateB at h
    simp only [Bool.and_eq_true,beq_iff_eq,Bool.or_eq_true,decide_eq_true_eq] at h
    obtain ⟨hc,-,h4⟩:=h
    have hk : okB o.f2 q=true:=by
      unfold checkB at hc
      split at hc
      · omega
      · split at hc
        · omega
        · split at hc
          · assumption
          · omega
    exact ⟨lenOf hk,(okB_facts hk).1,fun e => by omega,by omega,by omega⟩
  · rename_i h1
    unfold restB at h
    simp only [Bool.and_eq_true,beq_iff_eq] at h
    obtain ⟨-,h4,-,-,hk,hrest⟩:=h
    refine ⟨lenOf hk,(okB_facts hk).1,fun e => ?_,by omega,by omega⟩
    rw [if_pos e] at hrest
    simp only [Bool.and_eq_true,decide_eq_true_eq] at hrest
    exact hrest.2
theorem mem_ws {c x : Int} {o : Opn} : x ∈ wsF c o↔x ∈ o.f2∨(o.f0=2∧x=c + o.f3)∨(0≤o.f4∧x=c + o.f4):=by
  unfold wsF
  simp only [List.mem_append]
  by_cases h2 : o.f0=2 <;> by_cases h4 : 0≤o.f4 <;> simp [h2,h4,or_assoc]
theorem ws_range {q b x : Int} {o : Opn} (h : OpF q b o) (hq : q≤64) (hb : b≤64) (hx : x ∈ wsF 64 o) : 0≤x∧x < 128:=by
  have i1:=h.i1
  rcases mem_ws.1 hx with h1 | ⟨h1,rfl⟩ | ⟨h1,rfl⟩
  · have:=h.qs x h1;omega
  · have:=h.m h1;omega
  · omega
theorem wires_ok {q b : Int} {o : Opn} (h : OpF q b o) (hq : q≤64) (hb : b≤64) : wireOk (wsF 64 o)=true:=by
  unfold wireOk
  simp only [List.all_eq_true,Bool.and_eq_true,decide_eq_true_eq]
  exact fun x hx => ws_range h hq hb hx
structure CircF (q b : Int) (l : List Opn) : Prop where
  q0 : 0≤q
  q1 : q≤64
  b0 : 0≤b
  b1 : b≤64
  n : l.length≤4096
  op : ∀ o ∈ l,OpF q b o
  may : ∀ o ∈ l,mayO q b o=true
def okc (q b : Int) (l : List Opn) : Bool:=decide (0≤q) && (decide (q≤64) && (decide (0≤b) && (decide (b≤64) && (decide (l.length≤4096) && l.all (mayO q b)))))
theorem okc_facts {q b : Int} {l : List Opn} (h : okc q b l=true) : CircF q b l:=by
  unfold okc at h
  simp only [Bool.and_eq_true,decide_eq_true_eq,List.all_eq_true] at h
  obtain ⟨h1,h2,h3,h4,h5,h6⟩:=h
  exact ⟨h1,h2,h3,h4,h5,fun o ho => mayO_facts (h6 o ho) h2 h3,h6⟩
def WfL (l : List Opn) : Prop:=∀ o ∈ l,(Lit.int .i64 o.f1).wf=true
theorem check_l0 {q b : Int} {l : List Opn} (hw : WfL l) (hn : l.length≤4611686018427387904) :
    ∀ (d i : Nat),l.length - i=d→i≤l.length→Evt fun k => ∃ r,circuit_Check.l0 k l (l.length : Int) (i : Int) q b l=some (r,if (l.drop i).all (mayO q b)=true then 0 else 80)
  | 0,i,hd,hi => by
    refine (Evt.all (p:=fun _ => True) fun _ => trivial).succ fun k _ => ?_
    unfold circuit_Check.l0
    rw [if_neg (by omega),List.drop_eq_nil_of_le (by omega)]
    exact ⟨0,rfl⟩
  | d + 1,i,hd,hi => by
    have hil : i < l.length:=by omega
    refine (check_l0 (q:=q) (b:=b) hw hn d (i + 1) (by omega) (by omega)).succ fun k ⟨r,hk⟩ => ?_
    unfold circuit_Check.l0
    rw [if_pos (by omega),if_pos (by omega),if_pos (by omega),rdT_nat hil,circuit_may.f,if_pos (hw _ (List.getElem_mem hil)),List.drop_eq_getElem_cons hil,List.all_cons]
    simp only [Option.bind_some]
    rw [show mayC l[i].f0 l[i].f1 l[i].f2 l[i].f3 l[i].f4 l[i].f5 q b=mayO q b l[i] from rfl]
    by_cases c : mayO q b l[i]=true
    · rw [if_pos c,w64 (by omega) (by omega),show (i : Int) + 1=((i + 1 : Nat) : Int) by omega,hk,c]
      exact ⟨r,by simp⟩
    · rw [if_neg c]
      rw [Bool.not_eq_true] at c
      rw [c]
      exact ⟨_,rfl⟩
theorem rcheck_l0 {q b : Int} {l : List Opn} (hw : WfL l) (hn : l.length≤4611686018427387904) :
    ∀ (d i : Nat),l.length - i=d→i≤l.length→Evt fun k => ∃ r,phasorref08_Check.l0 k (i : Int) q b l=some (r,if (l.drop i).all (mayO q b)=true then 0 else 80)
  | 0,i,hd,hi => by
    refine (Evt.all (p:=fun _ => True) fun _ => trivial).succ fun k _ => ?_
    unfold phasorref08_Check.l0
    rw [if_neg (by omega),List.drop_eq_nil_of_le (by omega)]
    exact ⟨0,rfl⟩
  | d + 1,i,hd,hi => by
    have hil : i < l.length:=by omega
    refine (rcheck_l0 (q:=q) (b:=b) hw hn d (i + 1) (by omega) (by omega)).succ fun k ⟨r,hk⟩ => ?_
    unfold phasorref08_Check.l0
    rw [if_pos (by omega),if_pos (by omega),rdT_nat hil,phasorref08_Op.f,if_pos (hw _ (List.getElem_mem hil)),List.drop_eq_getElem_cons hil,List.all_cons]
    simp only [Option.bind_some]
    rw [show mayC l[i].f0 l[i].f1 l[i].f2 l[i].f3 l[i].f4 l[i].f5 q b=mayO q b l[i] from rfl]
    by_cases c : mayO q b l[i]=true
    · rw [if_pos c,w64 (by omega) (by omega),show (i : Int) + 1=((i + 1 : Nat) : Int) by omega,hk,c]
      exact ⟨r,by simp⟩
    · rw [if_neg c]
      rw [Bool.not_eq_true] at c
      rw [c]
      exact ⟨_,rfl⟩
theorem check_is {q b : Int} {l : List Opn} (hw : WfL l) : Evt fun k => ∃ r,circuit_Check.f k q b l=some (r,if okc q b l=true then 0 else 80):=by
  have hf : Evt fun k => ∃ r,circuit_Check.j0 k true q b l=some (r,80):=(Evt.all (p:=fun _ => True) fun _ => trivial).succ fun k _ => ⟨-1,rfl⟩
  by_cases h1 : q < 0
  · refine hf.mono fun k hk => ?_
    unfold circuit_Check.f okc
    rw [if_pos h1,decide_eq_false (by omega)]
    simpa using hk
  by_cases h2 : q > 64
  · refine hf.mono fun k hk => ?_
    unfold circuit_Check.f okc
    rw [if_neg h1,if_pos h2,decide_eq_false (p:=q≤64) (by omega)]
    simpa using hk
  by_cases h3 : b < 0
  · refine hf.mono fun k hk => ?_
    unfold circuit_Check.f okc
    rw [if_neg h1,if_neg h2,if_pos h3,decide_eq_false (p:=0≤b) (by omega)]
    simpa using hk
  by_cases h4 : b > 64
  · refine hf.mono fun k hk => ?_
    unfold circuit_Check.f okc
    rw [if_neg h1,if_neg h2,if_neg h3,if_pos h4,decide_eq_false (p:=b≤64) (by omega)]
    simpa using hk
  by_cases h5 : (l.length : Int) > 4096
  · refine hf.mono fun k hk => ?_
    unfold circuit_Check.f okc
    rw [if_neg h1,if_neg h2,if_neg h3,if_neg h4,decide_eq_true h5,decide_eq_false (p:=l.length≤4096) (by omega)]
    simpa using hk
  · refine (check_l0 (q:=q) (b:=b) hw (by omega) l.length 0 (by omega) (by omega)).succ fun k hk => ?_
    unfold circuit_Check.f okc
    rw [if_neg h1,if_neg h2,if_neg h3,if_neg h4,decide_eq_false h5,decide_eq_true (p:=0≤q) (by omega),decide_eq_true (p:=q≤64) (by omega),decide_eq_true (p:=0≤b) (by omega),decide_eq_true (p:=b≤64) (by omega),decide_eq_true (p:=l.length≤4096) (by omega)]
    simpa [circuit_Check.j0] using hk
theorem rcheck_is {q b : Int} {l : List Opn} (hw : WfL l) : Evt fun k => ∃ r,phasorref08_Check.f k q b l=some (r,if okc q b l=true then 0 else 80):=by
  have hf : Evt fun k => ∃ r,phasorref08_Check.j0 k true q b l=some (r,80):=(Evt.all (p:=fun _ => True) fun _ => trivial).succ fun k _ => ⟨-1,rfl⟩
  by_cases h1 : q < 0
  · refine hf.mono fun k hk => ?_
    unfold phasorref08_Check.f okc
    rw [if_pos h1,decide_eq_false (by omega)]
    simpa using hk
  by_cases h2 : q > 64
  · refine hf.mono fun k hk => ?_
    unfold phasorref08_Check.f okc
    rw [if_neg h1,if_pos h2,decide_eq_false (p:=q≤64) (by omega)]
    simpa using hk
  by_cases h3 : b < 0
  · refine hf.mono fun k hk => ?_
    unfold phasorref08_Check.f okc
    rw [if_neg h1,if_neg h2,if_pos h3,decide_eq_false (p:=0≤b) (by omega)]
    simpa using hk
  by_cases h4 : b > 64
  · refine hf.mono fun k hk => ?_
    unfold phasorref08_Check.f okc
    rw [if_neg h1,if_neg h2,if_neg h3,if_pos h4,decide_eq_false (p:=b≤64) (by omega)]
    simpa using hk
  by_cases h5 : (l.length : Int) > 4096
  · refine hf.mono fun k hk => ?_
    unfold phasorref08_Check.f okc
    rw [if_neg h1,if_neg h2,if_neg h3,if_neg h4,decide_eq_true h5,decide_eq_false (p:=l.length≤4096) (by omega)]
    simpa using hk
  · refine (rcheck_l0 (q:=q) (b:=b) hw (by omega) l.length 0 (by omega) (by omega)).succ fun k hk => ?_
    unfold phasorref08_Check.f okc
    rw [if_neg h1,if_neg h2,if_neg h3,if_neg h4,decide_eq_false h5,decide_eq_true (p:=0≤q) (by omega),decide_eq_true (p:=q≤64) (by omega),decide_eq_true (p:=0≤b) (by omega),decide_eq_true (p:=b≤64) (by omega),decide_eq_true (p:=l.length≤4096) (by omega)]
    simpa [phasorref08_Check.j0] using hk
theorem may_is {q b : Int} {l : List Opn} (hw : WfL l) : Evt fun k => phasorref08_May.f k q b l=some (okc q b l) :=
  (rcheck_is (q:=q) (b:=b) hw).mono fun k ⟨r,hk⟩ => by
    unfold phasorref08_May.f
    rw [hk]
    by_cases c : okc q b l=true
    · simp [c]
    · rw [Bool.not_eq_true] at c;simp [c]
end Go.Proofs.Ytbelnopbggkdfaa.Q
end

section
namespace Go.Proofs.Ytbelnopbggkdfaa.Q
open Go.RowKit Go.Proofs.YtbelnopbggkdfaaW.PrintWords Go.Proofs.YtbelnopbggkdfaaW.PrintLast Go.Proofs.YtbelnopbggkdfaaW.PrintMore
def at_ (l : List Opn) (k : Nat) : Opn:=l.getD k z46
end Go.Proofs.Ytbelnopbggkdfaa.Q
end

section
namespace Go.Proofs.Ytbelnopbggkdfaa
open Go.RowKit Go.Proofs.YtbelnopbggkdfaaW.PrintWords
def ltK (key : Int→Int) (x y : Int) : Prop:=key x < key y∨key x=key y∧x < y
end Go.Proofs.Ytbelnopbggkdfaa
end

section
namespace Go.Proofs.Ytbelnopbggkdfaa
open Go.RowKit Go.Proofs.YtbelnopbggkdfaaW.PrintWords
variable {St : World→List Int→Prop} {gd n f : Nat} {cap : Array Value} {V : Int→Prop} {key : Int→Int}
def Ali (s u : Nat) : Prop:=∃ t,u=t * s
structure Blk (key : Int→Int) (n s u : Nat) (d dk : List Int) : Prop where
  srt : ∀ p q : Nat,u≤p→p < q→q < u + s→q < n→ltK key (rd dk p) (rd dk q)
  mem : ∀ p : Nat,u≤p→p < u + s→p < n→∃ q : Nat,u≤q∧q < u + s∧q < n∧rd dk p=rd d q
def Out (key : Int→Int) (n s : Nat) (d dk : List Int) : Prop:=dk.Perm d∧∀ u,Ali s u→Blk key n s u d dk
end Go.Proofs.Ytbelnopbggkdfaa
end

section
namespace Go.Proofs.Ytbelnopbggkdfaa.Q
open Go.RowKit Go.Proofs.YtbelnopbggkdfaaW.PrintWords Go.Proofs.YtbelnopbggkdfaaW.PrintLast Go.Proofs.YtbelnopbggkdfaaW.PrintMore
attribute [local go_sem] max2_int min2_int max_two min_two max_three min_three max_four min_four   -- for this text's walks alone
set_option linter.unusedVariables false
set_option linter.unusedSimpArgs false
def circuit_Copy.l0 : Nat→List (S46)→Int→Int→Int→Int→List (S46)→Option (Int × Int × (List (S46)))
 | 0,_,_,_,_,_,_ => none
 | k + 1,x12,x13,x14,x115000,x115001,x115002 => if x14 < x13 then (if 0≤x14 then (if x14 < (x12.length : Int) then ((slices_Clone_int_int.f ((rd_T46 x12 x14).f2)).bind fun t117 => (if x115002.length < 2199023255552 then (circuit_Copy.l0 k x12 x13 (wrap64 (x14 + 1)) x115000 x115001 (x115002 ++ [(⟨(rd_T46 x12 x14).f0,(rd_T46 x12 x14).f1,t117,(rd_T46 x12 x14).f3,(rd_T46 x12 x14).f4,(rd_T46 x12 x14).f5⟩ : S46)])) else (none))) else (none)) else (none)) else (some (x115000,x115001,x115002))
def circuit_Copy.f (k : Nat) (a0_0 : Int) (a0_1 : Int) (l0_2 : List (S46)) : Option (Int × Int × (List (S46))):=circuit_Copy.l0 k l0_2 (l0_2.length : Int) 0 a0_0 a0_1 ([] : List (S46))
set_option maxHeartbeats 8000000 in
set_option maxRecDepth 100000 in
theorem circuit_Copy.calls (k : Nat) (a0_0 : Int) (a0_1 : Int) (A0_2 : Option Addr) (c0_2 : Nat) (l0_2 : List (S46)) (r1 : Int) (r2 : Int) (r3 : List (S46)) (w : World) (hr0_2 : Kd.C k46 w A0_2 l0_2.length l0_2) (hc0_2 : l0_2.length≤c0_2) (h : circuit_Copy.f k a0_0 a0_1 l0_2=some (r1,r2,r3)) :
  Calls Try.prog 54 #[.agg #[.int .i64 a0_0,.int .i64 a0_1,.slice A0_2 l0_2.length c0_2]] w fun e w' => ∃ v2_ : Value,e=.returned (.agg #[.int .i64 r1,.int .i64 r2,v2_])∧Kd.S k46 46 w' w.heap.size (fun _ => True) v2_ r3∧Below w.heap.size w w':=by
 have hu24:=Try.underlying24
 have hu46:=Try.underlying46
 have HR0_2:=Aside0.mk hr0_2
 have HC0_2:=Aside0.mk hc0_2
 clear hr0_2 hc0_2
 have HB:=Aside0.mk (Below.refl w.heap.size w)
 have H : (circuit_Copy.l0 k l0_2 (l0_2.length : Int) 0 a0_0 a0_1 ([] : List (S46)))=some (r1,r2,r3):=h
 clear h
 have H':=Aside0.mk H
 clear H
 go_enter Try.func54,Try.ntmps54
 go_wp2_with (first|((with_reducible refine gate_dst (N:=1) rfl ?_);refine box_event ?hg (N:=1) ?hd (cs:=#[.int .i64 a0_0,.int .i64 a0_1,.slice A0_2 l0_2.length c0_2]) (t:=24) ?hr ?_;(case hd => rfl);(case hg => rfl);(case hr => first|(go_simp;done)|(go_simp;rfl));intro gb112 hg w2 hbox hb;have n0_:=Aside0.mk (below_step (by repeat (first|(with_reducible first|exact HB.out|apply below_alloc|apply pw_below_drewN|apply below_drew1)|exact HB.out)) hb);have n1_:=Aside0.mk (hbox);have n2_:=Aside0.mk ((by rw [hg];exact (below_size (by repeat (first|(with_reducible first|exact HB.out|apply below_alloc|apply pw_below_drewN|apply below_drew1)|exact HB.out))) : w.heap.size≤gb112));have n3_:=Aside0.mk ((by rw [hg];exact (below_size (by repeat (first|(with_reducible first|exact HB.out|apply below_alloc|apply pw_below_drewN|apply below_drew1)|exact HB.out))) : w.heap.size≤gb112));clear HB;have HB:=n0_;have BK112:=n1_;have GW112:=n2_;have GE112:=n3_;clear n0_ n1_ n2_ n3_;clear hb hbox hg)|((with_reducible refine gate_dst (N:=2) rfl ?_);refine box_event ?hg (N:=2) ?hd (cs:=#[.int .i64 0,.int .i64 0,.slice none 0 0]) (t:=24) ?hr ?_;(case hd => rfl);(case hg => rfl);(case hr => first|(go_simp;done)|(go_simp;rfl));intro gb113 hg w3 hbox hb;have n0_:=Aside0.mk (blk_below (g:=gb112) (o:=.cells #[.int .i64 a0_0,.int .i64 a0_1,.slice A0_2 l0_2.length c0_2] 24 (0,0)) (by (with_reducible repeat (first|refine blk_drewN ?_ _|refine blk_drew ?_|refine blk_alloc ?_ _));exact BK112.out) hb);have n1_:=Aside0.mk (below_step (by repeat (first|(with_reducible first|exact HB.out|apply below_alloc|apply pw_below_drewN|apply below_drew1|refine below_set ?_ GE112.out)|exact HB.out)) hb);have n2_:=Aside0.mk (hbox);have n3_:=Aside0.mk ((by rw [hg];exact (below_size (by repeat (first|(with_reducible first|exact HB.out|apply below_alloc|apply pw_below_drewN|apply below_drew1|refine below_set ?_ GE112.out)|exact HB.out))) : w.heap.size≤gb113));have n4_:=Aside0.mk ((by rw [hg];exact (below_size (by repeat (first|(with_reducible first|exact HB.out|apply below_alloc|apply pw_below_drewN|apply below_drew1|refine below_set ?_ GE112.out)|exact HB.out))) : w.heap.size≤gb113));have n5_:=Aside0.mk ((by rw [hg];exact Nat.ne_of_lt (blk_lt (g:=gb112) (o:=.cells #[.int .i64 a0_0,.int .i64 a0_1,.slice A0_2 l0_2.length c0_2] 24 (0,0)) (by (with_reducible repeat (first|refine blk_drewN ?_ _|refine blk_drew ?_|refine blk_alloc ?_ _));exact BK112.out)) : gb112≠gb113));have n6_:=Aside0.mk ((by rw [hg];exact Nat.ne_of_gt (blk_lt (g:=gb112) (o:=.cells #[.int .i64 a0_0,.int .i64 a0_1,.slice A0_2 l0_2.length c0_2] 24 (0,0)) (by (with_reducible repeat (first|refine blk_drewN ?_ _|refine blk_drew ?_|refine blk_alloc ?_ _));exact BK112.out)) : gb113≠gb112));clear BK112;clear HB;have BK112:=n0_;have HB:=n1_;have BK113:=n2_;have GW113:=n3_;have GE113:=n4_;have NB112_113:=n5_;have NB113_112:=n6_;clear n0_ n1_ n2_ n3_ n4_ n5_ n6_;clear hb hbox hg;have hnb4:=NB112_113.out;have hnc4:=NB113_112.out;have hcz5_0 : w3.cell? ⟨gb112,0,none⟩=some (.int .i64 a0_0):=(blk_cell BK112.out 0).trans rfl;have hcz5_1 : w3.cell? ⟨gb112,1,none⟩=some (.int .i64 a0_1):=(blk_cell BK112.out 1).trans rfl;have hcz5_2 : w3.cell? ⟨gb112,2,none⟩=some (.slice A0_2 l0_2.length c0_2):=(blk_cell BK112.out 2).trans rfl;have hfz5_0:=blk_frozen BK112.out 0;have hfz5_1:=blk_frozen BK112.out 1;have hfz5_2:=blk_frozen BK112.out 2)|((with_reducible refine gate_dst (N:=3) rfl ?_);refine box_event ?hg (N:=3) ?hd (cs:=#[.int .i64 0,.int .i64 0,.slice none 0 0]) (t:=24) ?hr ?_;(case hd => rfl);(case hg => rfl);(case hr => first|(go_simp;done)|(go_simp;rfl));intro gb114 hg w6 hbox hb;have n0_:=Aside0.mk (blk_below (g:=gb112) (o:=.cells #[.int .i64 a0_0,.int .i64 a0_1,.slice A0_2 l0_2.length c0_2] 24 (0,0)) (by (with_reducible repeat (first|refine blk_drewN ?_ _|refine blk_drew ?_|refine blk_alloc ?_ _));exact BK112.out) hb);have n1_:=Aside0.mk (blk_below (g:=gb113) (o:=.cells #[.int .i64 0,.int .i64 0,.slice none 0 0] 24 (0,0)) (by (with_reducible repeat (first|refine blk_drewN ?_ _|refine blk_drew ?_|refine blk_alloc ?_ _));exact BK113.out) hb);have n2_:=Aside0.mk (below_step (by repeat (first|(with_reducible first|exact HB.out|apply below_alloc|apply pw_below_drewN|apply below_drew1|refine below_set ?_ GE112.out|refine below_set ?_ GE113.out)|exact HB.out)) hb);have n3_:=Aside0.mk (hbox);have n4_:=Aside0.mk ((by rw [hg];exact (below_size (by repeat (first|(with_reducible first|exact HB.out|apply below_alloc|apply pw_below_drewN|apply below_drew1|refine below_set ?_ GE112.out|refine below_set ?_ GE113.out)|exact HB.out))) : w.heap.size≤gb114));have n5_:=Aside0.mk ((by rw [hg];exact (below_size (by repeat (first|(with_reducible first|exact HB.out|apply below_alloc|apply pw_below_drewN|apply below_drew1|refine below_set ?_ GE112.out|refine below_set ?_ GE113.out)|exact HB.out))) : w.heap.size≤gb114));have n6_:=Aside0.mk ((by rw [hg];exact Nat.ne_of_lt (blk_lt (g:=gb112) (o:=.cells #[.int .i64 a0_0,.int .i64 a0_1,.slice A0_2 l0_2.length c0_2] 24 (0,0)) (by (with_reducible repeat (first|refine blk_drewN ?_ _|refine blk_drew ?_|refine blk_alloc ?_ _));exact BK112.out)) : gb112≠gb114));have n7_:=Aside0.mk ((by rw [hg];exact Nat.ne_of_gt (blk_lt (g:=gb112) (o:=.cells #[.int .i64 a0_0,.int .i64 a0_1,.slice A0_2 l0_2.length c0_2] 24 (0,0)) (by (with_reducible repeat (first|refine blk_drewN ?_ _|refine blk_drew ?_|refine blk_alloc ?_ _));exact BK112.out)) : gb114≠gb112));have n8_:=Aside0.mk ((by rw [hg];exact Nat.ne_of_lt (blk_lt (g:=gb113) (o:=.cells #[.int .i64 0,.int .i64 0,.slice none 0 0] 24 (0,0)) (by (with_reducible repeat (first|refine blk_drewN ?_ _|refine blk_drew ?_|refine blk_alloc ?_ _));exact BK113.out)) : gb113≠gb114));have n9_:=Aside0.mk ((by rw [hg];exact Nat.ne_of_gt (blk_lt (g:=gb113) (o:=.cells #[.int .i64 0,.int .i64 0,.slice none 0 0] 24 (0,0)) (by (with_reducible repeat (first|refine blk_drewN ?_ _|refine blk_drew ?_|refine blk_alloc ?_ _));exact BK113.out)) : gb114≠gb113));clear BK112;clear BK113;clear HB;have BK112:=n0_;have BK113:=n1_;have HB:=n2_;have BK114:=n3_;have GW114:=n4_;have GE114:=n5_;have NB112_114:=n6_;have NB114_112:=n7_;have NB113_114:=n8_;have NB114_113:=n9_;clear n0_ n1_ n2_ n3_ n4_ n5_ n6_ n7_ n8_ n9_;clear hb hbox hg;have hnb7:=NB114_112.out;have hnc7:=NB112_114.out;have hnb8:=NB114_113.out;have hnc8:=NB113_114.out;have hcz9_0 : w6.cell? ⟨gb114,0,none⟩=some (.int .i64 0):=(blk_cell BK114.out 0).trans rfl;have hcz9_1 : w6.cell? ⟨gb114,1,none⟩=some (.int .i64 0):=(blk_cell BK114.out 1).trans rfl;have hcz9_2 : w6.cell? ⟨gb114,2,none⟩=some (.slice none 0 0):=(blk_cell BK114.out 2).trans rfl;have hfz9_0:=blk_frozen BK114.out 0;have hfz9_1:=blk_frozen BK114.out 1;have hfz9_2:=blk_frozen BK114.out 2;have hcz10_0 : w6.cell? ⟨gb112,0,none⟩=some (.int .i64 a0_0):=(blk_cell BK112.out 0).trans rfl;have hcz10_1 : w6.cell? ⟨gb112,1,none⟩=some (.int .i64 a0_1):=(blk_cell BK112.out 1).trans rfl;have hcz10_2 : w6.cell? ⟨gb112,2,none⟩=some (.slice A0_2 l0_2.length c0_2):=(blk_cell BK112.out 2).trans rfl;have hfz10_0:=blk_frozen BK112.out 0;have hfz10_1:=blk_frozen BK112.out 1;have hfz10_2:=blk_frozen BK112.out 2))
 go_loopg [14] k (fun kq v14 w' => ∃ (x14_1 : Int) (x115002_1 : List (S46)) (u115002 : Value),v14=.int .i64 x14_1∧Aside0 (circuit_Copy.l0 kq l0_2 (l0_2.length : Int) x14_1 a0_0 a0_1 x115002_1=some (r1,r2,r3))∧Aside0 (kq≤k)∧Aside0 (Kd.S k46 46 w' w.heap.size (fun _ => True) u115002 x115002_1)∧Aside0 (w'.heap[gb112]?=some (.cells #[.int .i64 a0_0,.int .i64 a0_1,(.slice A0_2 l0_2.length c0_2)] 24 (0,0)))∧Aside0 (w'.heap[gb113]?=some (.cells #[.int .i64 0,.int .i64 0,(.slice none 0 0)] 24 (0,0)))∧Aside0 (w'.heap[gb114]?=some (.cells #[.int .i64 a0_0,.int .i64 a0_1,u115002] 24 (0,0)))∧Aside0 (Below w.heap.size w w'))
 case atStart => exact ⟨(0),(([] : List (S46))),(.slice none 0 0),(by first|rfl|(simp;done)|(simp [*];done)),H',⟨Nat.le_refl _⟩,⟨by first|exact Kd.S_nil _ _ _ _ _|exact Kd.N_nil _ _ _ _ _|exact Kd.V_nil _ _ _ _ _|exact Kd.Q_nil _ _ _ _ _|exact Kd.R_nil _ _ _ _ _⟩,⟨by (with_reducible repeat (first|refine blk_drewN ?_ _|refine blk_drew ?_|refine blk_alloc ?_ _));refine blk_far ?_ NB112_114.out _;(with_reducible repeat (first|refine blk_drewN ?_ _|refine blk_drew ?_|refine blk_alloc ?_ _));refine blk_far ?_ NB112_114.out _;(with_reducible repeat (first|refine blk_drewN ?_ _|refine blk_drew ?_|refine blk_alloc ?_ _));refine blk_far ?_ NB112_114.out _;(with_reducible repeat (first|refine blk_drewN ?_ _|refine blk_drew ?_|refine blk_alloc ?_ _));exact BK112.out⟩,⟨by (with_reducible repeat (first|refine blk_drewN ?_ _|refine blk_drew ?_|refine blk_alloc ?_ _));refine blk_far ?_ NB113_114.out _;(with_reducible repeat (first|refine blk_drewN ?_ _|refine blk_drew ?_|refine blk_alloc ?_ _));refine blk_far ?_ NB113_114.out _;(with_reducible repeat (first|refine blk_drewN ?_ _|refine blk_drew ?_|refine blk_alloc ?_ _));refine blk_far ?_ NB113_114.out _;(with_reducible repeat (first|refine blk_drewN ?_ _|refine blk_drew ?_|refine blk_alloc ?_ _));exact BK113.out⟩,⟨by (with_reducible repeat (first|refine blk_drewN ?_ _|refine blk_drew ?_|refine blk_alloc ?_ _));refine blk_put (cs:=#[.int .i64 a0_0,.int .i64 a0_1,.slice none 0 0]) ?_ 2 _ rfl;(with_reducible repeat (first|refine blk_drewN ?_ _|refine blk_drew ?_|refine blk_alloc ?_ _));refine blk_put (cs:=#[.int .i64 a0_0,.int .i64 0,.slice none 0 0]) ?_ 1 _ rfl;(with_reducible repeat (first|refine blk_drewN ?_ _|refine blk_drew ?_|refine blk_alloc ?_ _));refine blk_put (cs:=#[.int .i64 0,.int .i64 0,.slice none 0 0]) ?_ 0 _ rfl;(with_reducible repeat (first|refine blk_drewN ?_ _|refine blk_drew ?_|refine blk_alloc ?_ _));exact BK114.out⟩,⟨by repeat (first|(with_reducible first|exact HB.out|apply below_alloc|apply pw_below_drewN|apply below_drew1|refine below_set ?_ GE112.out|refine below_set ?_ GE113.out|refine below_set ?_ GE114.out)|exact HB.out)⟩⟩
 case round =>
  clear H'
  try clear p2
  try clear c4
  try clear c5
  try clear c7
  try clear c8
  try clear hcz10_0
  try clear hcz10_1
  try clear hcz10_2
  try clear hcz5_0
  try clear hcz5_1
  try clear hcz5_2
  try clear hcz9_0
  try clear hcz9_1
  try clear hcz9_2
  try clear hfz10_0
  try clear hfz10_1
  try clear hfz10_2
  try clear hfz5_0
  try clear hfz5_1
  try clear hfz5_2
  try clear hfz9_0
  try clear hfz9_1
  try clear hfz9_2
  obtain ⟨x14_1,x115002_1,u115002,rfl,HA,HK1,HO_115002,BK112,BK113,BK114,HB⟩:=hrel
  cases gk with
  | zero => exact absurd HA.out (by simp [circuit_Copy.l0])
  | succ k1 =>
   have H:=HA.out
   clear HA
   simp only [circuit_Copy.l0] at H
   by_cases c11 : x14_1 < (l0_2.length : Int)
   ·rw [if_pos c11] at H
    have c11b0 : decide (x14_1 < (l0_2.length : Int))=true:=decide_eq_true c11
    clear c11
    by_cases c12 : 0≤x14_1
    ·rw [if_pos c12] at H
     have c12b0 : decide (0≤x14_1)=true:=decide_eq_true c12
     clear c12
     by_cases c13 : x14_1 < (l0_2.length : Int)
     ·rw [if_pos c13] at H
      have c13b0 : decide (x14_1 < (l0_2.length : Int))=true:=decide_eq_true c13
      clear c13
      replace H:=Option.bind_eq_some_iff.mp H
      obtain ⟨t117,A140,H⟩:=H
      replace H : (if x115002_1.length < 2199023255552 then (circuit_Copy.l0 k1 l0_2 (l0_2.length : Int) (wrap64 (x14_1 + 1)) a0_0 a0_1 (x115002_1 ++ [(⟨(rd_T46 l0_2 x14_1).f0,(rd_T46 l0_2 x14_1).f1,t117,(rd_T46 l0_2 x14_1).f3,(rd_T46 l0_2 x14_1).f4,(rd_T46 l0_2 x14_1).f5⟩ : S46)])) else (none))=some (r1,r2,r3):=H
      have A14:=Aside0.mk A140
      clear A140
      by_cases c15 : x115002_1.length < 2199023255552
      ·rw [if_pos c15] at H
       have LMc15:=Aside0.mk c15
       clear c15
       obtain ⟨y120,hy120⟩ : ∃ y_ : List (S46),y_=(x115002_1 ++ [(⟨(rd_T46 l0_2 x14_1).f0,(rd_T46 l0_2 x14_1).f1,t117,(rd_T46 l0_2 x14_1).f3,(rd_T46 l0_2 x14_1).f4,(rd_T46 l0_2 x14_1).f5⟩ : S46)]):=⟨_,rfl⟩
       replace H : (circuit_Copy.l0 k1 l0_2 (l0_2.length : Int) (wrap64 (x14_1 + 1)) a0_0 a0_1 y120)=some (r1,r2,r3):=by first|(rw [hy120];with_reducible exact H)|(have H2_:=(Option.bind_some _ _).symm.trans H;rw [hy120];with_reducible exact H2_)|(have H2_:=(Option.bind_some _ _).symm.trans H;with_reducible exact H2_)|with_reducible exact H|(rw [hy120];exact H)|exact H
       have Ny120:=Aside0.mk hy120
       clear hy120
       have H':=Aside0.mk H
       clear H
       have p115 : 0≤(x14_1 : Int):=of_decide_eq_true (by first|(with_reducible assumption)|assumption)
       have q115 : x14_1 < (l0_2.length : Int):=of_decide_eq_true (by first|(with_reducible assumption)|assumption)
       obtain ⟨ad115,A115_2,c115_2,e115,hx115_0,hx115_1,hx115_2,hx115_3,hx115_4,hx115_5,hl115_2,hi115_2⟩:=at_T46 HR0_2.out x14_1 p115 q115
       cases e115
       replace hx115_0:=(HB.out.cell (World.block_lt_of_cell? w _ hx115_0)).trans hx115_0
       replace hx115_1:=(HB.out.cell (World.block_lt_of_cell? w _ hx115_1)).trans hx115_1
       replace hx115_2:=(HB.out.cell (World.block_lt_of_cell? w _ hx115_2)).trans hx115_2
       replace hx115_3:=(HB.out.cell (World.block_lt_of_cell? w _ hx115_3)).trans hx115_3
       replace hx115_4:=(HB.out.cell (World.block_lt_of_cell? w _ hx115_4)).trans hx115_4
       replace hx115_5:=(HB.out.cell (World.block_lt_of_cell? w _ hx115_5)).trans hx115_5
       have HR115_2:=Aside0.mk hi115_2
       have HC115_2:=Aside0.mk hl115_2
       clear hi115_2 hl115_2
       replace p115:=eq_true p115
       replace q115:=eq_true q115
       go_wp2_with (first|((with_reducible refine gate_dst (N:=5) rfl ?_);refine box_event ?hg (N:=5) ?hd (cs:=#[.int .i64 0,.int .i64 0,.slice none 0 0,.int .i64 0,.int .i64 0,.int .i64 0]) (t:=46) ?hr ?_;(case hd => rfl);(case hg => rfl);(case hr => first|(go_simp;done)|(go_simp;rfl));intro gb116 hg w16 hbox hb;have n0_:=Aside0.mk (Kd.S_below (Kd.S_elderB (by (with_reducible repeat (first|apply Kd.S_alloc|apply Kd.S_drewN|apply Kd.S_drew));exact HO_115002.out) gb116 (Nat.le_of_eq hg.symm)) hb);have n1_:=Aside0.mk (blk_below (g:=gb112) (o:=.cells #[.int .i64 a0_0,.int .i64 a0_1,.slice (some ad115) l0_2.length c0_2] 24 (0,0)) (by (with_reducible repeat (first|refine blk_drewN ?_ _|refine blk_drew ?_|refine blk_alloc ?_ _));exact BK112.out) hb);have n2_:=Aside0.mk (blk_below (g:=gb113) (o:=.cells #[.int .i64 0,.int .i64 0,.slice none 0 0] 24 (0,0)) (by (with_reducible repeat (first|refine blk_drewN ?_ _|refine blk_drew ?_|refine blk_alloc ?_ _));exact BK113.out) hb);have n3_:=Aside0.mk (blk_below (g:=gb114) (o:=.cells #[.int .i64 a0_0,.int .i64 a0_1,u115002] 24 (0,0)) (by (with_reducible repeat (first|refine blk_drewN ?_ _|refine blk_drew ?_|refine blk_alloc ?_ _));exact BK114.out) hb);have n4_:=Aside0.mk (below_step (by repeat (first|(with_reducible first|exact HB.out|apply below_alloc|apply pw_below_drewN|apply below_drew1|refine below_set ?_ GE112.out|refine below_set ?_ GE113.out|refine below_set ?_ GE114.out)|exact HB.out)) hb);have n5_:=Aside0.mk (hbox);have n6_:=Aside0.mk ((by rw [hg];exact (below_size (by repeat (first|(with_reducible first|exact HB.out|apply below_alloc|apply pw_below_drewN|apply below_drew1|refine below_set ?_ GE112.out|refine below_set ?_ GE113.out|refine below_set ?_ GE114.out)|exact HB.out))) : w.heap.size≤gb116));have n7_:=Aside0.mk ((by rw [hg];exact (below_size (by repeat (first|(with_reducible first|exact HB.out|apply below_alloc|apply pw_below_drewN|apply below_drew1|refine below_set ?_ GE112.out|refine below_set ?_ GE113.out|refine below_set ?_ GE114.out)|exact HB.out))) : w.heap.size≤gb116));have n8_:=Aside0.mk ((by rw [hg];exact Nat.ne_of_lt (blk_lt (g:=gb112) (o:=.cells #[.int .i64 a0_0,.int .i64 a0_1,.slice (some ad115) l0_2.length c0_2] 24 (0,0)) (by (with_reducible repeat (first|refine blk_drewN ?_ _|refine blk_drew ?_|refine blk_alloc ?_ _));exact BK112.out)) : gb112≠gb116));have n9_:=Aside0.mk ((by rw [hg];exact Nat.ne_of_gt (blk_lt (g:=gb112) (o:=.cells #[.int .i64 a0_0,.int .i64 a0_1,.slice (some ad115) l0_2.length c0_2] 24 (0,0)) (by (with_reducible repeat (first|refine blk_drewN ?_ _|refine blk_drew ?_|refine blk_alloc ?_ _));exact BK112.out)) : gb116≠gb112));have n10_:=Aside0.mk ((by rw [hg];exact Nat.ne_of_lt (blk_lt (g:=gb113) (o:=.cells #[.int .i64 0,.int .i64 0,.slice none 0 0] 24 (0,0)) (by (with_reducible repeat (first|refine blk_drewN ?_ _|refine blk_drew ?_|refine blk_alloc ?_ _));exact BK113.out)) : gb113≠gb116));have n11_:=Aside0.mk ((by rw [hg];exact Nat.ne_of_gt (blk_lt (g:=gb113) (o:=.cells #[.int .i64 0,.int .i64 0,.slice none 0 0] 24 (0,0)) (by (with_reducible repeat (first|refine blk_drewN ?_ _|refine blk_drew ?_|refine blk_alloc ?_ _));exact BK113.out)) : gb116≠gb113));have n12_:=Aside0.mk ((by rw [hg];exact Nat.ne_of_lt (blk_lt (g:=gb114) (o:=.cells #[.int .i64 a0_0,.int .i64 a0_1,u115002] 24 (0,0)) (by (with_reducible repeat (first|refine blk_drewN ?_ _|refine blk_drew ?_|refine blk_alloc ?_ _));exact BK114.out)) : gb114≠gb116));have n13_:=Aside0.mk ((by rw [hg];exact Nat.ne_of_gt (blk_lt (g:=gb114) (o:=.cells #[.int .i64 a0_0,.int .i64 a0_1,u115002] 24 (0,0)) (by (with_reducible repeat (first|refine blk_drewN ?_ _|refine blk_drew ?_|refine blk_alloc ?_ _));exact BK114.out)) : gb116≠gb114));clear HO_115002;clear BK112;clear BK113;clear BK114;clear HB;have HO_115002:=n0_;have BK112:=n1_;have BK113:=n2_;have BK114:=n3_;have HB:=n4_;have BK116:=n5_;have GW116:=n6_;have GE116:=n7_;have NB112_116:=n8_;have NB116_112:=n9_;have NB113_116:=n10_;have NB116_113:=n11_;have NB114_116:=n12_;have NB116_114:=n13_;clear n0_ n1_ n2_ n3_ n4_ n5_ n6_ n7_ n8_ n9_ n10_ n11_ n12_ n13_;clear hb hbox hg;have hnb17:=NB116_112.out;have hnc17:=NB112_116.out;have hnb18:=NB116_113.out;have hnc18:=NB113_116.out;have hnb19:=NB116_114.out;have hnc19:=NB114_116.out;have hcz20_0 : w16.cell? ⟨gb116,0,none⟩=some (.int .i64 0):=(blk_cell BK116.out 0).trans rfl;have hcz20_1 : w16.cell? ⟨gb116,1,none⟩=some (.int .i64 0):=(blk_cell BK116.out 1).trans rfl;have hcz20_2 : w16.cell? ⟨gb116,2,none⟩=some (.slice none 0 0):=(blk_cell BK116.out 2).trans rfl;have hcz20_3 : w16.cell? ⟨gb116,3,none⟩=some (.int .i64 0):=(blk_cell BK116.out 3).trans rfl;have hcz20_4 : w16.cell? ⟨gb116,4,none⟩=some (.int .i64 0):=(blk_cell BK116.out 4).trans rfl;have hcz20_5 : w16.cell? ⟨gb116,5,none⟩=some (.int .i64 0):=(blk_cell BK116.out 5).trans rfl;have hfz20_0:=blk_frozen BK116.out 0;have hfz20_1:=blk_frozen BK116.out 1;have hfz20_2:=blk_frozen BK116.out 2;have hfz20_3:=blk_frozen BK116.out 3;have hfz20_4:=blk_frozen BK116.out 4;have hfz20_5:=blk_frozen BK116.out 5)|((with_reducible refine gate_callee (f:=50) rfl ?_);refine goesL_ (some 20) rfl rfl Try.func50 (by kernel_rfl) rfl #[.slice A115_2 ((rd_T46 l0_2 x14_1).f2).length c115_2] rfl (by (try simp only [List.map_toArray,List.map_cons,List.map_nil]);first|done|rfl|(simp only [List.length_drop,List.length_take];rfl)) ?_;(with_reducible refine (slices_Clone_int_int.calls _ _ ((rd_T46 l0_2 x14_1).f2) t117 _ ?side1 ?side2 A14.out).mono ?_);(case side1 => exact Kd.C_below HR115_2.out (by repeat (first|(with_reducible first|exact HB.out|apply below_alloc|apply pw_below_drewN|apply below_drew1|refine below_set ?_ GE112.out|refine below_set ?_ GE113.out|refine below_set ?_ GE114.out|refine below_set ?_ GE116.out)|exact HB.out)));(case side2 => exact HC115_2.out);rintro e w21 ⟨v118,rfl,ho0,hb⟩;refine ⟨_,rfl,?_⟩;have n0_:=Aside0.mk (Kd.S_elder' (by (with_reducible repeat (first|apply Kd.S_alloc|apply Kd.S_drewN|apply Kd.S_drew));exact (Kd.S_mono (Kd.S_far (p:=⟨gb116,5,none⟩) (Kd.S_far (p:=⟨gb116,4,none⟩) (Kd.S_far (p:=⟨gb116,3,none⟩) (Kd.S_far (p:=⟨gb116,2,none⟩) (Kd.S_far (p:=⟨gb116,1,none⟩) (Kd.S_far (p:=⟨gb116,0,none⟩) (Kd.S_mono HO_115002.out (fun k_ hk => (⟨hk,hk.2⟩ : _∧k_≠gb116))) (fun _ hk => hk.2) (.int .i64 ((rd_T46 l0_2 x14_1).f0))) (fun _ hk => hk.2) (.int .i64 ((rd_T46 l0_2 x14_1).f1))) (fun _ hk => hk.2) (.slice A115_2 ((rd_T46 l0_2 x14_1).f2).length c115_2)) (fun _ hk => hk.2) (.int .i64 ((rd_T46 l0_2 x14_1).f3))) (fun _ hk => hk.2) (.int .i64 ((rd_T46 l0_2 x14_1).f4))) (fun _ hk => hk.2) (.int .i64 ((rd_T46 l0_2 x14_1).f5))) (fun _ h_ => h_.1))) (Kd.R_base ho0) hb);have n1_:=Aside0.mk (Kd.R_lower ho0 (below_size (by repeat (first|(with_reducible first|exact HB.out|apply below_alloc|apply pw_below_drewN|apply below_drew1|refine below_set ?_ GE112.out|refine below_set ?_ GE113.out|refine below_set ?_ GE114.out|refine below_set ?_ GE116.out)|exact HB.out))));have n2_:=Aside0.mk (blk_below (g:=gb112) (o:=.cells #[.int .i64 a0_0,.int .i64 a0_1,.slice (some ad115) l0_2.length c0_2] 24 (0,0)) (by (with_reducible repeat (first|refine blk_drewN ?_ _|refine blk_drew ?_|refine blk_alloc ?_ _));refine blk_far ?_ NB112_116.out _;(with_reducible repeat (first|refine blk_drewN ?_ _|refine blk_drew ?_|refine blk_alloc ?_ _));refine blk_far ?_ NB112_116.out _;(with_reducible repeat (first|refine blk_drewN ?_ _|refine blk_drew ?_|refine blk_alloc ?_ _));refine blk_far ?_ NB112_116.out _;(with_reducible repeat (first|refine blk_drewN ?_ _|refine blk_drew ?_|refine blk_alloc ?_ _));refine blk_far ?_ NB112_116.out _;(with_reducible repeat (first|refine blk_drewN ?_ _|refine blk_drew ?_|refine blk_alloc ?_ _));refine blk_far ?_ NB112_116.out _;(with_reducible repeat (first|refine blk_drewN ?_ _|refine blk_drew ?_|refine blk_alloc ?_ _));refine blk_far ?_ NB112_116.out _;(with_reducible repeat (first|refine blk_drewN ?_ _|refine blk_drew ?_|refine blk_alloc ?_ _));exact BK112.out) hb);have n3_:=Aside0.mk (blk_below (g:=gb113) (o:=.cells #[.int .i64 0,.int .i64 0,.slice none 0 0] 24 (0,0)) (by (with_reducible repeat (first|refine blk_drewN ?_ _|refine blk_drew ?_|refine blk_alloc ?_ _));refine blk_far ?_ NB113_116.out _;(with_reducible repeat (first|refine blk_drewN ?_ _|refine blk_drew ?_|refine blk_alloc ?_ _));refine blk_far ?_ NB113_116.out _;(with_reducible repeat (first|refine blk_drewN ?_ _|refine blk_drew ?_|refine blk_alloc ?_ _));refine blk_far ?_ NB113_116.out _;(with_reducible repeat (first|refine blk_drewN ?_ _|refine blk_drew ?_|refine blk_alloc ?_ _));refine blk_far ?_ NB113_116.out _;(with_reducible repeat (first|refine blk_drewN ?_ _|refine blk_drew ?_|refine blk_alloc ?_ _));refine blk_far ?_ NB113_116.out _;(with_reducible repeat (first|refine blk_drewN ?_ _|refine blk_drew ?_|refine blk_alloc ?_ _));refine blk_far ?_ NB113_116.out _;(with_reducible repeat (first|refine blk_drewN ?_ _|refine blk_drew ?_|refine blk_alloc ?_ _));exact BK113.out) hb);have n4_:=Aside0.mk (blk_below (g:=gb114) (o:=.cells #[.int .i64 a0_0,.int .i64 a0_1,u115002] 24 (0,0)) (by (with_reducible repeat (first|refine blk_drewN ?_ _|refine blk_drew ?_|refine blk_alloc ?_ _));refine blk_far ?_ NB114_116.out _;(with_reducible repeat (first|refine blk_drewN ?_ _|refine blk_drew ?_|refine blk_alloc ?_ _));refine blk_far ?_ NB114_116.out _;(with_reducible repeat (first|refine blk_drewN ?_ _|refine blk_drew ?_|refine blk_alloc ?_ _));refine blk_far ?_ NB114_116.out _;(with_reducible repeat (first|refine blk_drewN ?_ _|refine blk_drew ?_|refine blk_alloc ?_ _));refine blk_far ?_ NB114_116.out _;(with_reducible repeat (first|refine blk_drewN ?_ _|refine blk_drew ?_|refine blk_alloc ?_ _));refine blk_far ?_ NB114_116.out _;(with_reducible repeat (first|refine blk_drewN ?_ _|refine blk_drew ?_|refine blk_alloc ?_ _));refine blk_far ?_ NB114_116.out _;(with_reducible repeat (first|refine blk_drewN ?_ _|refine blk_drew ?_|refine blk_alloc ?_ _));exact BK114.out) hb);have n5_:=Aside0.mk (blk_below (g:=gb116) (o:=.cells #[.int .i64 ((rd_T46 l0_2 x14_1).f0),.int .i64 ((rd_T46 l0_2 x14_1).f1),.slice A115_2 ((rd_T46 l0_2 x14_1).f2).length c115_2,.int .i64 ((rd_T46 l0_2 x14_1).f3),.int .i64 ((rd_T46 l0_2 x14_1).f4),.int .i64 ((rd_T46 l0_2 x14_1).f5)] 46 (0,0)) (by (with_reducible repeat (first|refine blk_drewN ?_ _|refine blk_drew ?_|refine blk_alloc ?_ _));refine blk_put (cs:=#[.int .i64 ((rd_T46 l0_2 x14_1).f0),.int .i64 ((rd_T46 l0_2 x14_1).f1),.slice A115_2 ((rd_T46 l0_2 x14_1).f2).length c115_2,.int .i64 ((rd_T46 l0_2 x14_1).f3),.int .i64 ((rd_T46 l0_2 x14_1).f4),.int .i64 0]) ?_ 5 _ rfl;(with_reducible repeat (first|refine blk_drewN ?_ _|refine blk_drew ?_|refine blk_alloc ?_ _));refine blk_put (cs:=#[.int .i64 ((rd_T46 l0_2 x14_1).f0),.int .i64 ((rd_T46 l0_2 x14_1).f1),.slice A115_2 ((rd_T46 l0_2 x14_1).f2).length c115_2,.int .i64 ((rd_T46 l0_2 x14_1).f3),.int .i64 0,.int .i64 0]) ?_ 4 _ rfl;(with_reducible repeat (first|refine blk_drewN ?_ _|refine blk_drew ?_|refine blk_alloc ?_ _));refine blk_put (cs:=#[.int .i64 ((rd_T46 l0_2 x14_1).f0),.int .i64 ((rd_T46 l0_2 x14_1).f1),.slice A115_2 ((rd_T46 l0_2 x14_1).f2).length c115_2,.int .i64 0,.int .i64 0,.int .i64 0]) ?_ 3 _ rfl;(with_reducible repeat (first|refine blk_drewN ?_ _|refine blk_drew ?_|refine blk_alloc ?_ _));refine blk_put (cs:=#[.int .i64 ((rd_T46 l0_2 x14_1).f0),.int .i64 ((rd_T46 l0_2 x14_1).f1),.slice none 0 0,.int .i64 0,.int .i64 0,.int .i64 0]) ?_ 2 _ rfl;(with_reducible repeat (first|refine blk_drewN ?_ _|refine blk_drew ?_|refine blk_alloc ?_ _));refine blk_put (cs:=#[.int .i64 ((rd_T46 l0_2 x14_1).f0),.int .i64 0,.slice none 0 0,.int .i64 0,.int .i64 0,.int .i64 0]) ?_ 1 _ rfl;(with_reducible repeat (first|refine blk_drewN ?_ _|refine blk_drew ?_|refine blk_alloc ?_ _));refine blk_put (cs:=#[.int .i64 0,.int .i64 0,.slice none 0 0,.int .i64 0,.int .i64 0,.int .i64 0]) ?_ 0 _ rfl;(with_reducible repeat (first|refine blk_drewN ?_ _|refine blk_drew ?_|refine blk_alloc ?_ _));exact BK116.out) hb);have n6_:=Aside0.mk (below_step (by repeat (first|(with_reducible first|exact HB.out|apply below_alloc|apply pw_below_drewN|apply below_drew1|refine below_set ?_ GE112.out|refine below_set ?_ GE113.out|refine below_set ?_ GE114.out|refine below_set ?_ GE116.out)|exact HB.out)) hb);clear HO_115002;clear BK112;clear BK113;clear BK114;clear BK116;clear HB;have HO_115002:=n0_;have HO119:=n1_;have BK112:=n2_;have BK113:=n3_;have BK114:=n4_;have BK116:=n5_;have HB:=n6_;clear n0_ n1_ n2_ n3_ n4_ n5_ n6_;(try clear hb);(try clear hb2);(try clear hk);(try clear hi);(try clear ho0);obtain ⟨Ao22,co22,eo22⟩:=Kd.R_slice HO119.out;subst eo22;have hcz23_0 : w21.cell? ⟨gb116,0,none⟩=some (.int .i64 ((rd_T46 l0_2 x14_1).f0)):=(blk_cell BK116.out 0).trans rfl;have hcz23_1 : w21.cell? ⟨gb116,1,none⟩=some (.int .i64 ((rd_T46 l0_2 x14_1).f1)):=(blk_cell BK116.out 1).trans rfl;have hcz23_2 : w21.cell? ⟨gb116,2,none⟩=some (.slice A115_2 ((rd_T46 l0_2 x14_1).f2).length c115_2):=(blk_cell BK116.out 2).trans rfl;have hcz23_3 : w21.cell? ⟨gb116,3,none⟩=some (.int .i64 ((rd_T46 l0_2 x14_1).f3)):=(blk_cell BK116.out 3).trans rfl;have hcz23_4 : w21.cell? ⟨gb116,4,none⟩=some (.int .i64 ((rd_T46 l0_2 x14_1).f4)):=(blk_cell BK116.out 4).trans rfl;have hcz23_5 : w21.cell? ⟨gb116,5,none⟩=some (.int .i64 ((rd_T46 l0_2 x14_1).f5)):=(blk_cell BK116.out 5).trans rfl;have hfz23_0:=blk_frozen BK116.out 0;have hfz23_1:=blk_frozen BK116.out 1;have hfz23_2:=blk_frozen BK116.out 2;have hfz23_3:=blk_frozen BK116.out 3;have hfz23_4:=blk_frozen BK116.out 4;have hfz23_5:=blk_frozen BK116.out 5)|((with_reducible refine gate_store (t:=37) (p:=21) rfl ?_);refine store_event (t:=37) (p:=21) (v:=?vo_w24) (w1:=(w21.setCell ⟨gb116,2,none⟩ (.slice Ao22 t117.length co22))) ?hg ?ho ?hn ?hr ?_;(case ho => rfl);(case hg => rfl);(case hn => rfl);(case hr => first|(go_simp;done)|(go_simp;rfl));intro w24 hw;have n0_ : Aside0 (Kd.S k46 46 w24 w.heap.size (fun k_ => some k_≠(.slice Ao22 t117.length co22 : Value).ownBlock∧k_≠gb116) u115002 x115002_1):=⟨(by rw [hw];exact (by (with_reducible repeat (first|apply Kd.S_alloc|apply Kd.S_drewN|apply Kd.S_drew));exact Kd.S_mono (Kd.S_far (p:=⟨gb116,2,none⟩) (Kd.S_mono HO_115002.out (fun k_ hk => (⟨hk,hk.1.2⟩ : _∧k_≠gb116))) (fun _ hk => hk.2) (.slice Ao22 t117.length co22)) (fun _ hk => ⟨hk.1.2,hk.1.1.2⟩)))⟩;have n1_ : Aside0 (Kd.R (Kd.int .i64) 3 w24 w.heap.size (fun _ => True) (.slice Ao22 t117.length co22) t117):=⟨(by rw [hw];exact (by (with_reducible repeat (first|apply Kd.R_alloc|apply Kd.R_drewN|apply Kd.R_drew));exact Kd.R_mono (Kd.R_far (p:=⟨gb116,2,none⟩) (Kd.R_types HO119.out BK116.out (by decide)) (fun _ hk => hk.2) (.slice Ao22 t117.length co22)) (fun _ hk => trivial)))⟩;have n2_ : Aside0 (w24.heap[gb112]?=some (.cells #[.int .i64 a0_0,.int .i64 a0_1,.slice (some ad115) l0_2.length c0_2] 24 (0,0))):=⟨(by rw [hw];exact (by (with_reducible repeat (first|refine blk_drewN ?_ _|refine blk_drew ?_|refine blk_alloc ?_ _));refine blk_far ?_ NB112_116.out _;(with_reducible repeat (first|refine blk_drewN ?_ _|refine blk_drew ?_|refine blk_alloc ?_ _));exact BK112.out))⟩;have n3_ : Aside0 (w24.heap[gb113]?=some (.cells #[.int .i64 0,.int .i64 0,.slice none 0 0] 24 (0,0))):=⟨(by rw [hw];exact (by (with_reducible repeat (first|refine blk_drewN ?_ _|refine blk_drew ?_|refine blk_alloc ?_ _));refine blk_far ?_ NB113_116.out _;(with_reducible repeat (first|refine blk_drewN ?_ _|refine blk_drew ?_|refine blk_alloc ?_ _));exact BK113.out))⟩;have n4_ : Aside0 (w24.heap[gb114]?=some (.cells #[.int .i64 a0_0,.int .i64 a0_1,u115002] 24 (0,0))):=⟨(by rw [hw];exact (by (with_reducible repeat (first|refine blk_drewN ?_ _|refine blk_drew ?_|refine blk_alloc ?_ _));refine blk_far ?_ NB114_116.out _;(with_reducible repeat (first|refine blk_drewN ?_ _|refine blk_drew ?_|refine blk_alloc ?_ _));exact BK114.out))⟩;have n5_ : Aside0 (w24.heap[gb116]?=some (.cells #[.int .i64 ((rd_T46 l0_2 x14_1).f0),.int .i64 ((rd_T46 l0_2 x14_1).f1),.slice Ao22 t117.length co22,.int .i64 ((rd_T46 l0_2 x14_1).f3),.int .i64 ((rd_T46 l0_2 x14_1).f4),.int .i64 ((rd_T46 l0_2 x14_1).f5)] 46 (0,0))):=⟨(by rw [hw];exact (by (with_reducible repeat (first|refine blk_drewN ?_ _|refine blk_drew ?_|refine blk_alloc ?_ _));refine blk_put (cs:=#[.int .i64 ((rd_T46 l0_2 x14_1).f0),.int .i64 ((rd_T46 l0_2 x14_1).f1),.slice A115_2 ((rd_T46 l0_2 x14_1).f2).length c115_2,.int .i64 ((rd_T46 l0_2 x14_1).f3),.int .i64 ((rd_T46 l0_2 x14_1).f4),.int .i64 ((rd_T46 l0_2 x14_1).f5)]) ?_ 2 _ rfl;(with_reducible repeat (first|refine blk_drewN ?_ _|refine blk_drew ?_|refine blk_alloc ?_ _));exact BK116.out))⟩;have n6_ : Aside0 (Below w.heap.size w w24):=⟨(by rw [hw];exact (by repeat (first|(with_reducible first|exact HB.out|apply below_alloc|apply pw_below_drewN|apply below_drew1|refine below_set ?_ GE112.out|refine below_set ?_ GE113.out|refine below_set ?_ GE114.out|refine below_set ?_ GE116.out)|exact HB.out)))⟩;clear hw;clear HO_115002;clear HO119;clear BK112;clear BK113;clear BK114;clear BK116;clear HB;have HO_115002:=n0_;have HO119:=n1_;have BK112:=n2_;have BK113:=n3_;have BK114:=n4_;have BK116:=n5_;have HB:=n6_;clear n0_ n1_ n2_ n3_ n4_ n5_ n6_;have hnb25:=NB114_112.out;have hnc25:=NB112_114.out;have hnb26:=NB114_113.out;have hnc26:=NB113_114.out;have hcz27_0 : w24.cell? ⟨gb114,0,none⟩=some (.int .i64 a0_0):=(blk_cell BK114.out 0).trans rfl;have hcz27_1 : w24.cell? ⟨gb114,1,none⟩=some (.int .i64 a0_1):=(blk_cell BK114.out 1).trans rfl;have hcz27_2 : w24.cell? ⟨gb114,2,none⟩=some (u115002):=(blk_cell BK114.out 2).trans rfl;have hfz27_0:=blk_frozen BK114.out 0;have hfz27_1:=blk_frozen BK114.out 1;have hfz27_2:=blk_frozen BK114.out 2;have hcz28_0 : w24.cell? ⟨gb116,0,none⟩=some (.int .i64 ((rd_T46 l0_2 x14_1).f0)):=(blk_cell BK116.out 0).trans rfl;have hcz28_1 : w24.cell? ⟨gb116,1,none⟩=some (.int .i64 ((rd_T46 l0_2 x14_1).f1)):=(blk_cell BK116.out 1).trans rfl;have hcz28_2 : w24.cell? ⟨gb116,2,none⟩=some (.slice Ao22 t117.length co22):=(blk_cell BK116.out 2).trans rfl;have hcz28_3 : w24.cell? ⟨gb116,3,none⟩=some (.int .i64 ((rd_T46 l0_2 x14_1).f3)):=(blk_cell BK116.out 3).trans rfl;have hcz28_4 : w24.cell? ⟨gb116,4,none⟩=some (.int .i64 ((rd_T46 l0_2 x14_1).f4)):=(blk_cell BK116.out 4).trans rfl;have hcz28_5 : w24.cell? ⟨gb116,5,none⟩=some (.int .i64 ((rd_T46 l0_2 x14_1).f5)):=(blk_cell BK116.out 5).trans rfl;have hfz28_0:=blk_frozen BK116.out 0;have hfz28_1:=blk_frozen BK116.out 1;have hfz28_2:=blk_frozen BK116.out 2;have hfz28_3:=blk_frozen BK116.out 3;have hfz28_4:=blk_frozen BK116.out 4;have hfz28_5:=blk_frozen BK116.out 5)|((with_reducible refine gate_builtin (b:=.append) (xs:=#[.tmp 23,.tmp 25]) rfl ?_);at_builtin;refine Kd.S_append k46 (w0:=w) w.heap.size rfl (.tmp 23) (.tmp 25) 22 46 (.agg #[(.int .i64 0),(.int .i64 0),(.slice none 0 0),(.int .i64 0),(.int .i64 0),(.int .i64 0)]) 64 rfl Try.underlying22 info46 rfl (by decide) (by omega) u115002 x115002_1 (⟨(rd_T46 l0_2 x14_1).f0,(rd_T46 l0_2 x14_1).f1,t117,(rd_T46 l0_2 x14_1).f3,(rd_T46 l0_2 x14_1).f4,(rd_T46 l0_2 x14_1).f5⟩ : S46) [.int .i64 ((rd_T46 l0_2 x14_1).f0),.int .i64 ((rd_T46 l0_2 x14_1).f1),.slice Ao22 t117.length co22,.int .i64 ((rd_T46 l0_2 x14_1).f3),.int .i64 ((rd_T46 l0_2 x14_1).f4),.int .i64 ((rd_T46 l0_2 x14_1).f5)] (fun k_ => k_≠gb116) (fun k_ => some k_=(.slice Ao22 t117.length co22 : Value).ownBlock) rfl rfl ?aP (fun k_ hk_ => ((Kd.R_mono (ok':=fun k_ => ((fun k_ => k_≠gb116)) k_∧some k_≠(u115002 : Value).ownBlock) (Kd.R_types (Kd.R_apart' (HO119.out) (Kd.S_typed HO_115002.out) (by decide)) BK116.out (by decide)) (fun k_ hk => ⟨hk.2,hk.1.2⟩))).1 k_ hk_.symm) ?aF ?aO ?aB ?aS ?aL ?_;(case aP => exact k46_mkM _ _ _ (⟨(rd_T46 l0_2 x14_1).f0,(rd_T46 l0_2 x14_1).f1,t117,(rd_T46 l0_2 x14_1).f3,(rd_T46 l0_2 x14_1).f4,(rd_T46 l0_2 x14_1).f5⟩ : S46) (Kd.R_mono (Kd.R_tight rfl (Kd.R_mono (ok':=fun k_ => ((fun k_ => k_≠gb116)) k_∧some k_≠(u115002 : Value).ownBlock) (Kd.R_types (Kd.R_apart' (HO119.out) (Kd.S_typed HO_115002.out) (by decide)) BK116.out (by decide)) (fun k_ hk => ⟨hk.2,hk.1.2⟩))) (fun _ h_ => h_)));(case aB => exact (by repeat (first|(with_reducible first|exact HB.out|apply below_alloc|apply pw_below_drewN|apply below_drew1|refine below_set ?_ GE112.out|refine below_set ?_ GE113.out|refine below_set ?_ GE114.out|refine below_set ?_ GE116.out)|exact HB.out)));(case aF => exact (fun k_ hk => Kd.freshB (g:=gb116) (o:=.cells #[.int .i64 ((rd_T46 l0_2 x14_1).f0),.int .i64 ((rd_T46 l0_2 x14_1).f1),.slice Ao22 t117.length co22,.int .i64 ((rd_T46 l0_2 x14_1).f3),.int .i64 ((rd_T46 l0_2 x14_1).f4),.int .i64 ((rd_T46 l0_2 x14_1).f5)] 46 (0,0)) (by (with_reducible repeat (first|refine blk_drewN ?_ _|refine blk_drew ?_|refine blk_alloc ?_ _));exact BK116.out) k_ hk));(case aO => exact (by (with_reducible repeat (first|apply Kd.S_alloc|apply Kd.S_drewN|apply Kd.S_drew));exact Kd.S_mono HO_115002.out (fun k_ hk => ⟨hk.2,fun e_ => hk.1 e_⟩)));(case aS => exact (below_size (by repeat (first|(with_reducible first|exact HB.out|apply below_alloc|apply pw_below_drewN|apply below_drew1|refine below_set ?_ GE112.out|refine below_set ?_ GE113.out|refine below_set ?_ GE114.out|refine below_set ?_ GE116.out)|exact HB.out))));(case aL => have:=LMc15.out;omega);intro v121 w29 ho hb hg hat;rw [← Ny120.out] at ho;have n0_:=Aside0.mk (blk_grown (g:=gb112) (o:=.cells #[.int .i64 a0_0,.int .i64 a0_1,.slice (some ad115) l0_2.length c0_2] 24 (0,0)) (by (with_reducible repeat (first|refine blk_drewN ?_ _|refine blk_drew ?_|refine blk_alloc ?_ _));exact BK112.out) hg (Kd.S_ne HO_115002.out BK112.out (by decide)));have n1_:=Aside0.mk (blk_grown (g:=gb113) (o:=.cells #[.int .i64 0,.int .i64 0,.slice none 0 0] 24 (0,0)) (by (with_reducible repeat (first|refine blk_drewN ?_ _|refine blk_drew ?_|refine blk_alloc ?_ _));exact BK113.out) hg (Kd.S_ne HO_115002.out BK113.out (by decide)));have n2_:=Aside0.mk (blk_grown (g:=gb114) (o:=.cells #[.int .i64 a0_0,.int .i64 a0_1,u115002] 24 (0,0)) (by (with_reducible repeat (first|refine blk_drewN ?_ _|refine blk_drew ?_|refine blk_alloc ?_ _));exact BK114.out) hg (Kd.S_ne HO_115002.out BK114.out (by decide)));have n3_:=Aside0.mk (blk_grown (g:=gb116) (o:=.cells #[.int .i64 ((rd_T46 l0_2 x14_1).f0),.int .i64 ((rd_T46 l0_2 x14_1).f1),.slice Ao22 t117.length co22,.int .i64 ((rd_T46 l0_2 x14_1).f3),.int .i64 ((rd_T46 l0_2 x14_1).f4),.int .i64 ((rd_T46 l0_2 x14_1).f5)] 46 (0,0)) (by (with_reducible repeat (first|refine blk_drewN ?_ _|refine blk_drew ?_|refine blk_alloc ?_ _));exact BK116.out) hg (Kd.S_away HO_115002.out (fun _ hk => hk.2)));have n4_:=Aside0.mk (hb);have n5_:=Aside0.mk (ho);clear BK112;clear BK113;clear BK114;clear BK116;clear HB;clear HO_115002;clear HO119;have BK112:=n0_;have BK113:=n1_;have BK114:=n2_;have BK116:=n3_;have HB:=n4_;have HO122:=n5_;clear n0_ n1_ n2_ n3_ n4_ n5_;clear ho hb hg hat;obtain ⟨Ao30,co30,eo30⟩:=Kd.S_slice HO122.out;subst eo30;have hcz31_0 : w29.cell? ⟨gb114,0,none⟩=some (.int .i64 a0_0):=(blk_cell BK114.out 0).trans rfl;have hcz31_1 : w29.cell? ⟨gb114,1,none⟩=some (.int .i64 a0_1):=(blk_cell BK114.out 1).trans rfl;have hcz31_2 : w29.cell? ⟨gb114,2,none⟩=some (u115002):=(blk_cell BK114.out 2).trans rfl;have hfz31_0:=blk_frozen BK114.out 0;have hfz31_1:=blk_frozen BK114.out 1;have hfz31_2:=blk_frozen BK114.out 2))
       go_roundg k1
       case measure => have:=HK1.out;omega
       case rel => exact ⟨(wrap64 (x14_1 + 1)),(y120),(.slice Ao30 y120.length co30),(by first|rfl|(simp;done)|(simp [*];done)),H',⟨by have:=HK1.out;omega⟩,⟨by (with_reducible repeat (first|apply Kd.S_alloc|apply Kd.S_drewN|apply Kd.S_drew));exact Kd.S_mono (Kd.S_far (p:=⟨gb114,2,none⟩) (Kd.S_types HO122.out BK114.out (by decide)) (fun _ hk => hk.2) (.slice Ao30 y120.length co30)) (fun _ hk => trivial)⟩,⟨by (with_reducible repeat (first|refine blk_drewN ?_ _|refine blk_drew ?_|refine blk_alloc ?_ _));refine blk_far ?_ NB112_114.out _;(with_reducible repeat (first|refine blk_drewN ?_ _|refine blk_drew ?_|refine blk_alloc ?_ _));exact BK112.out⟩,⟨by (with_reducible repeat (first|refine blk_drewN ?_ _|refine blk_drew ?_|refine blk_alloc ?_ _));refine blk_far ?_ NB113_114.out _;(with_reducible repeat (first|refine blk_drewN ?_ _|refine blk_drew ?_|refine blk_alloc ?_ _));exact BK113.out⟩,⟨by (with_reducible repeat (first|refine blk_drewN ?_ _|refine blk_drew ?_|refine blk_alloc ?_ _));refine blk_put (cs:=#[.int .i64 a0_0,.int .i64 a0_1,u115002]) ?_ 2 _ rfl;(with_reducible repeat (first|refine blk_drewN ?_ _|refine blk_drew ?_|refine blk_alloc ?_ _));exact BK114.out⟩,⟨by repeat (first|(with_reducible first|exact HB.out|apply below_alloc|apply pw_below_drewN|apply below_drew1|refine below_set ?_ GE112.out|refine below_set ?_ GE113.out|refine below_set ?_ GE114.out|refine below_set ?_ GE116.out)|exact HB.out)⟩⟩
      ·rw [if_neg c15] at H
       exact absurd H (by simp)
     ·rw [if_neg c13] at H
      exact absurd H (by simp)
    ·rw [if_neg c12] at H
     exact absurd H (by simp)
   ·rw [if_neg c11] at H
    have c11b0 : decide (x14_1 < (l0_2.length : Int))=false:=decide_eq_false c11
    clear c11
    simp only [Option.some.injEq,Prod.mk.injEq] at H
    obtain ⟨rfl,rfl,rfl⟩:=H
    have hnb32:=NB114_112.out
    have hnc32:=NB112_114.out
    have hnb33:=NB114_113.out
    have hnc33:=NB113_114.out
    have hcz34_0 : wr.cell? ⟨gb114,0,none⟩=some (.int .i64 a0_0):=(blk_cell BK114.out 0).trans rfl
    have hcz34_1 : wr.cell? ⟨gb114,1,none⟩=some (.int .i64 a0_1):=(blk_cell BK114.out 1).trans rfl
    have hcz34_2 : wr.cell? ⟨gb114,2,none⟩=some (u115002):=(blk_cell BK114.out 2).trans rfl
    have hfz34_0:=blk_frozen BK114.out 0
    have hfz34_1:=blk_frozen BK114.out 1
    have hfz34_2:=blk_frozen BK114.out 2
    have hnb35:=NB113_112.out
    have hnc35:=NB112_113.out
    have hcz36_0 : wr.cell? ⟨gb113,0,none⟩=some (.int .i64 0):=(blk_cell BK113.out 0).trans rfl
    have hcz36_1 : wr.cell? ⟨gb113,1,none⟩=some (.int .i64 0):=(blk_cell BK113.out 1).trans rfl
    have hcz36_2 : wr.cell? ⟨gb113,2,none⟩=some (.slice none 0 0):=(blk_cell BK113.out 2).trans rfl
    have hfz36_0:=blk_frozen BK113.out 0
    have hfz36_1:=blk_frozen BK113.out 1
    have hfz36_2:=blk_frozen BK113.out 2
    obtain ⟨Ao37,co37,eo37⟩:=Kd.S_slice HO_115002.out
    subst eo37
    go_wp2
    refine bodyPost_ret (results_cell_row rfl _ _ gb113 24 #[.int .i64 a0_0,.int .i64 a0_1,.slice Ao37 x115002_1.length co37] (0,0) _ rfl (by (with_reducible repeat (first|refine blk_drewN ?_ _|refine blk_drew ?_|refine blk_alloc ?_ _));refine blk_put (cs:=#[.int .i64 a0_0,.int .i64 a0_1,.slice none 0 0]) ?_ 2 _ rfl;(with_reducible repeat (first|refine blk_drewN ?_ _|refine blk_drew ?_|refine blk_alloc ?_ _));refine blk_put (cs:=#[.int .i64 a0_0,.int .i64 0,.slice none 0 0]) ?_ 1 _ rfl;(with_reducible repeat (first|refine blk_drewN ?_ _|refine blk_drew ?_|refine blk_alloc ?_ _));refine blk_put (cs:=#[.int .i64 0,.int .i64 0,.slice none 0 0]) ?_ 0 _ rfl;(with_reducible repeat (first|refine blk_drewN ?_ _|refine blk_drew ?_|refine blk_alloc ?_ _));exact BK113.out) Try.underlying24 rfl (by kernel_rfl)) rfl ?_
    exact ⟨_,by first|rfl|(simp [errW_none,errW_some] <;> rfl)|(simp [*,errW_none,errW_some] <;> rfl),by (with_reducible repeat (first|apply Kd.S_alloc|apply Kd.S_drewN|apply Kd.S_drew));exact Kd.S_mono (Kd.S_far (p:=⟨gb113,2,none⟩) (Kd.S_far (p:=⟨gb113,1,none⟩) (Kd.S_far (p:=⟨gb113,0,none⟩) (Kd.S_types HO_115002.out BK113.out (by decide)) (fun _ hk => hk.2) (.int .i64 a0_0)) (fun _ hk => hk.2) (.int .i64 a0_1)) (fun _ hk => hk.2) (.slice Ao37 x115002_1.length co37)) (fun _ hk => trivial),by repeat (first|(with_reducible first|exact HB.out|apply below_alloc|apply pw_below_drewN|apply below_drew1|refine below_set ?_ GE112.out|refine below_set ?_ GE113.out|refine below_set ?_ GE114.out)|exact HB.out)⟩
end Go.Proofs.Ytbelnopbggkdfaa.Q
end

section
namespace Go.Proofs.Ytbelnopbggkdfaa.Q
open Go.RowKit Go.Proofs.YtbelnopbggkdfaaW.PrintWords Go.Proofs.YtbelnopbggkdfaaW.PrintLast Go.Proofs.YtbelnopbggkdfaaW.PrintMore
theorem clone_is {l : List Int} (h : l.length < 17592186044416) : slices_Clone_int_int.f l=some l:=by unfold slices_Clone_int_int.f;rw [if_pos h]
theorem copy_l0 {q b : Int} {l : List Opn} (hf : ∀ o ∈ l,o.f2.length≤64) (hn : l.length≤1000000) :
    ∀ (d i : Nat),l.length - i=d→i≤l.length→Evt fun k => circuit_Copy.l0 k l (l.length : Int) (i : Int) q b (l.take i)=some (q,b,l)
  | 0,i,hd,hi => by
    refine (Evt.all (p:=fun _ => True) fun _ => trivial).succ fun k _ => ?_
    unfold circuit_Copy.l0
    rw [if_neg (by omega),List.take_of_length_le (by omega)]
  | d + 1,i,hd,hi => by
    have hil : i < l.length:=by omega
    refine (copy_l0 (q:=q) (b:=b) hf hn d (i + 1) (by omega) (by omega)).succ fun k hk => ?_
    have h2:=hf _ (List.getElem_mem hil)
    unfold circuit_Copy.l0
    rw [if_pos (by omega),if_pos (by omega),if_pos (by omega),rdT_nat hil,clone_is (by omega)]
    simp only [Option.bind_some]
    rw [if_pos (by rw [List.length_take];omega),w64 (by omega) (by omega),show (i : Int) + 1=((i + 1 : Nat) : Int) by omega]
    have e : l.take i ++ [(⟨l[i].f0,l[i].f1,l[i].f2,l[i].f3,l[i].f4,l[i].f5⟩ : Opn)]=l.take (i + 1):=by
      rw [List.take_add_one,List.getElem?_eq_getElem hil];rfl
    rw [e,hk]
theorem copy_is {q b : Int} {l : List Opn} (hf : ∀ o ∈ l,o.f2.length≤64) (hn : l.length≤1000000) : Evt fun k => circuit_Copy.f k q b l=some (q,b,l) :=
  (copy_l0 hf hn l.length 0 (by omega) (by omega)).mono fun k hk => by simpa [circuit_Copy.f] using hk
end Go.Proofs.Ytbelnopbggkdfaa.Q
end

section
namespace Go.Proofs.Ytbelnopbggkdfaa.Q
open Go.RowKit Go.Proofs.YtbelnopbggkdfaaW.PrintWords Go.Proofs.YtbelnopbggkdfaaW.PrintLast Go.Proofs.YtbelnopbggkdfaaW.PrintMore
attribute [local go_sem] max2_int min2_int max_two min_two max_three min_three max_four min_four   -- for this text's walks alone
set_option linter.unusedVariables false
set_option linter.unusedSimpArgs false
def invert_checked.f (k : Nat) (a0_0 : Int) (a0_1 : Int) (l0_2 : List (S46)) : Option (Int × Int × (List (S46)) × Int):=(circuit_Check.f k a0_0 a0_1 l0_2).bind fun bt132 => (if bt132.2=0 then ((circuit_Copy.f k a0_0 a0_1 l0_2).bind fun bt134 => (some (bt134.1,bt134.2.1,bt134.2.2,0))) else (some (0,0,([] : List (S46)),80)))
set_option maxHeartbeats 8000000 in
set_option maxRecDepth 100000 in
theorem invert_checked.calls (k : Nat) (a0_0 : Int) (a0_1 : Int) (A0_2 : Option Addr) (c0_2 : Nat) (l0_2 : List (S46)) (r1 : Int) (r2 : Int) (r3 : List (S46)) (r4 : Int) (w : World) (hr0_2 : Kd.C k46 w A0_2 l0_2.length l0_2) (hc0_2 : l0_2.length≤c0_2) (h : invert_checked.f k a0_0 a0_1 l0_2=some (r1,r2,r3,r4)) :
  Calls Try.prog 42 #[.agg #[.int .i64 a0_0,.int .i64 a0_1,.slice A0_2 l0_2.length c0_2]] w fun e w' => ∃ v2_ : Value,e=.returned (.tuple #[.agg #[.int .i64 r1,.int .i64 r2,v2_],.int .i64 r4])∧Kd.S k46 46 w' w.heap.size (fun _ => True) v2_ r3∧Below w.heap.size w w':=by
 have hu24:=Try.underlying24
 have HR0_2:=Aside0.mk hr0_2
 have HC0_2:=Aside0.mk hc0_2
 clear hr0_2 hc0_2
 have HB:=Aside0.mk (Below.refl w.heap.size w)
 have H : ((circuit_Check.f k a0_0 a0_1 l0_2).bind fun bt132 => (if bt132.2=0 then ((circuit_Copy.f k a0_0 a0_1 l0_2).bind fun bt134 => (some (bt134.1,bt134.2.1,bt134.2.2,0))) else (some (0,0,([] : List (S46)),80))))=some (r1,r2,r3,r4):=h
 clear h
 replace H:=Option.bind_eq_some_iff.mp H
 obtain ⟨⟨t132,t133⟩,A20,H⟩:=H
 replace H : (if t133=0 then ((circuit_Copy.f k a0_0 a0_1 l0_2).bind fun bt134 => (some (bt134.1,bt134.2.1,bt134.2.2,0))) else (some (0,0,([] : List (S46)),80)))=some (r1,r2,r3,r4):=H
 have A2:=Aside0.mk A20
 clear A20
 by_cases c3 : t133=0
 ·rw [if_pos c3] at H
  have c3b0 : (t133 == 0)=true:=beq_iff_eq.mpr c3
  have c3b1 : (t133 != 0)=false:=bne_eq_false_iff_eq.mpr c3
  clear c3
  replace H:=Option.bind_eq_some_iff.mp H
  obtain ⟨⟨t134,t135,t136⟩,A40,H⟩:=H
  replace H : (some (t134,t135,t136,0))=some (r1,r2,r3,r4):=H
  have A4:=Aside0.mk A40
  clear A40
  simp only [Option.some.injEq,Prod.mk.injEq] at H
  obtain ⟨rfl,rfl,rfl,rfl⟩:=H
  go_enter Try.func42,Try.ntmps42
  go_wp2_with (first|((with_reducible refine gate_dst (N:=1) rfl ?_);refine box_event ?hg (N:=1) ?hd (cs:=#[.int .i64 a0_0,.int .i64 a0_1,.slice A0_2 l0_2.length c0_2]) (t:=24) ?hr ?_;(case hd => rfl);(case hg => rfl);(case hr => first|(go_simp;done)|(go_simp;rfl));intro gb130 hg w5 hbox hb;have n0_:=Aside0.mk (below_step (by repeat (first|(with_reducible first|exact HB.out|apply below_alloc|apply pw_below_drewN|apply below_drew1)|exact HB.out)) hb);have n1_:=Aside0.mk (hbox);have n2_:=Aside0.mk ((by rw [hg];exact (below_size (by repeat (first|(with_reducible first|exact HB.out|apply below_alloc|apply pw_below_drewN|apply below_drew1)|exact HB.out))) : w.heap.size≤gb130));have n3_:=Aside0.mk ((by rw [hg];exact (below_size (by repeat (first|(with_reducible first|exact HB.out|apply below_alloc|apply pw_below_drewN|apply below_drew1)|exact HB.out))) : w.heap.size≤gb130));clear HB;have HB:=n0_;have BK130:=n1_;have GW130:=n2_;have GE130:=n3_;clear n0_ n1_ n2_ n3_;clear hb hbox hg)|((with_reducible refine gate_dst (N:=2) rfl ?_);refine box_event ?hg (N:=2) ?hd (cs:=#[.int .i64 0,.int .i64 0,.slice none 0 0]) (t:=24) ?hr ?_;(case hd => rfl);(case hg => rfl);(case hr => first|(go_simp;done)|(go_simp;rfl));intro gb131 hg w6 hbox hb;have n0_:=Aside0.mk (blk_below (g:=gb130) (o:=.cells #[.int .i64 a0_0,.int .i64 a0_1,.slice A0_2 l0_2.length c0_2] 24 (0,0)) (by (with_reducible repeat (first|refine blk_drewN ?_ _|refine blk_drew ?_|refine blk_alloc ?_ _));exact BK130.out) hb);have n1_:=Aside0.mk (below_step (by repeat (first|(with_reducible first|exact HB.out|apply below_alloc|apply pw_below_drewN|apply below_drew1|refine below_set ?_ GE130.out)|exact HB.out)) hb);have n2_:=Aside0.mk (hbox);have n3_:=Aside0.mk ((by rw [hg];exact (below_size (by repeat (first|(with_reducible first|exact HB.out|apply below_alloc|apply pw_below_drewN|apply below_drew1|refine below_set ?_ GE130.out)|exact HB.out))) : w.heap.size≤gb131));have n4_:=Aside0.mk ((by rw [hg];exact (below_size (by repeat (first|(with_reducible first|exact HB.out|apply below_alloc|apply pw_below_drewN|apply below_drew1|refine below_set ?_ GE130.out)|exact HB.out))) : w.heap.size≤gb131));have n5_:=Aside0.mk ((by rw [hg];exact Nat.ne_of_lt (blk_lt (g:=gb130) (o:=.cells #[.int .i64 a0_0,.int .i64 a0_1,.slice A0_2 l0_2.length c0_2] 24 (0,0)) (by (with_reducible repeat (first|refine blk_drewN ?_ _|refine blk_drew ?_|refine blk_alloc ?_ _));exact BK130.out)) : gb130≠gb131));have n6_:=Aside0.mk ((by rw [hg];exact Nat.ne_of_gt (blk_lt (g:=gb130) (o:=.cells #[.int .i64 a0_0,.int .i64 a0_1,.slice A0_2 l0_2.length c0_2] 24 (0,0)) (by (with_reducible repeat (first|refine blk_drewN ?_ _|refine blk_drew ?_|refine blk_alloc ?_ _));exact BK130.out)) : gb131≠gb130));clear BK130;clear HB;have BK130:=n0_;have HB:=n1_;have BK131:=n2_;have GW131:=n3_;have GE131:=n4_;have NB130_131:=n5_;have NB131_130:=n6_;clear n0_ n1_ n2_ n3_ n4_ n5_ n6_;clear hb hbox hg;have hnb7:=NB130_131.out;have hnc7:=NB131_130.out;have hcz8_0 : w6.cell? ⟨gb130,0,none⟩=some (.int .i64 a0_0):=(blk_cell BK130.out 0).trans rfl;have hcz8_1 : w6.cell? ⟨gb130,1,none⟩=some (.int .i64 a0_1):=(blk_cell BK130.out 1).trans rfl;have hcz8_2 : w6.cell? ⟨gb130,2,none⟩=some (.slice A0_2 l0_2.length c0_2):=(blk_cell BK130.out 2).trans rfl;have hfz8_0:=blk_frozen BK130.out 0;have hfz8_1:=blk_frozen BK130.out 1;have hfz8_2:=blk_frozen BK130.out 2)|((with_reducible refine gate_callee (f:=75) rfl ?_);refine goesL_ (some 8) rfl rfl Try.func75 (by kernel_rfl) rfl #[.agg #[.int .i64 a0_0,.int .i64 a0_1,.slice A0_2 l0_2.length c0_2]] rfl (by (try simp only [List.map_toArray,List.map_cons,List.map_nil]);first|done|rfl|(simp only [List.length_drop,List.length_take];rfl)) ?_;(with_reducible refine (circuit_Check.calls k a0_0 a0_1 _ _ l0_2 t132 t133 _ ?side1 ?side2 A2.out).mono ?_);(case side1 => repeat (first|exact (Kd.C_below HR0_2.out HB.out)|(with_reducible refine Kd.C_alloc ?_ _)|(with_reducible refine Kd.C_drewN ?_ _)|(with_reducible refine Kd.C_drew ?_)));(case side2 => exact HC0_2.out);rintro e w9 ⟨rfl,hb⟩;refine ⟨_,rfl,?_⟩;have n0_:=Aside0.mk (blk_below (g:=gb130) (o:=.cells #[.int .i64 a0_0,.int .i64 a0_1,.slice A0_2 l0_2.length c0_2] 24 (0,0)) (by (with_reducible repeat (first|refine blk_drewN ?_ _|refine blk_drew ?_|refine blk_alloc ?_ _));exact BK130.out) hb);have n1_:=Aside0.mk (blk_below (g:=gb131) (o:=.cells #[.int .i64 0,.int .i64 0,.slice none 0 0] 24 (0,0)) (by (with_reducible repeat (first|refine blk_drewN ?_ _|refine blk_drew ?_|refine blk_alloc ?_ _));exact BK131.out) hb);have n2_:=Aside0.mk (below_step (by repeat (first|(with_reducible first|exact HB.out|apply below_alloc|apply pw_below_drewN|apply below_drew1|refine below_set ?_ GE130.out|refine below_set ?_ GE131.out)|exact HB.out)) hb);clear BK130;clear BK131;clear HB;have BK130:=n0_;have BK131:=n1_;have HB:=n2_;clear n0_ n1_ n2_;(try clear hb);(try clear hb2);(try clear hk);(try clear hi);have hcz10_0 : w9.cell? ⟨gb130,0,none⟩=some (.int .i64 a0_0):=(blk_cell BK130.out 0).trans rfl;have hcz10_1 : w9.cell? ⟨gb130,1,none⟩=some (.int .i64 a0_1):=(blk_cell BK130.out 1).trans rfl;have hcz10_2 : w9.cell? ⟨gb130,2,none⟩=some (.slice A0_2 l0_2.length c0_2):=(blk_cell BK130.out 2).trans rfl;have hfz10_0:=blk_frozen BK130.out 0;have hfz10_1:=blk_frozen BK130.out 1;have hfz10_2:=blk_frozen BK130.out 2)|((with_reducible refine gate_callee (f:=54) rfl ?_);refine goesL_ (some 15) rfl rfl Try.func54 (by kernel_rfl) rfl #[.agg #[.int .i64 a0_0,.int .i64 a0_1,.slice A0_2 l0_2.length c0_2]] rfl (by (try simp only [List.map_toArray,List.map_cons,List.map_nil]);first|done|rfl|(simp only [List.length_drop,List.length_take];rfl)) ?_;(with_reducible refine (circuit_Copy.calls k a0_0 a0_1 _ _ l0_2 t134 t135 t136 _ ?side1 ?side2 A4.out).mono ?_);(case side1 => repeat (first|exact (Kd.C_below HR0_2.out HB.out)|(with_reducible refine Kd.C_alloc ?_ _)|(with_reducible refine Kd.C_drewN ?_ _)|(with_reducible refine Kd.C_drew ?_)));(case side2 => exact HC0_2.out);rintro e w11 ⟨v137,rfl,ho0,hb⟩;refine ⟨_,rfl,?_⟩;have n0_:=Aside0.mk (Kd.S_lower ho0 (below_size (by repeat (first|(with_reducible first|exact HB.out|apply below_alloc|apply pw_below_drewN|apply below_drew1|refine below_set ?_ GE130.out|refine below_set ?_ GE131.out)|exact HB.out))));have n1_:=Aside0.mk (blk_below (g:=gb130) (o:=.cells #[.int .i64 a0_0,.int .i64 a0_1,.slice A0_2 l0_2.length c0_2] 24 (0,0)) (by (with_reducible repeat (first|refine blk_drewN ?_ _|refine blk_drew ?_|refine blk_alloc ?_ _));exact BK130.out) hb);have n2_:=Aside0.mk (blk_below (g:=gb131) (o:=.cells #[.int .i64 0,.int .i64 0,.slice none 0 0] 24 (0,0)) (by (with_reducible repeat (first|refine blk_drewN ?_ _|refine blk_drew ?_|refine blk_alloc ?_ _));exact BK131.out) hb);have n3_:=Aside0.mk (below_step (by repeat (first|(with_reducible first|exact HB.out|apply below_alloc|apply pw_below_drewN|apply below_drew1|refine below_set ?_ GE130.out|refine below_set ?_ GE131.out)|exact HB.out)) hb);clear BK130;clear BK131;clear HB;have HO138:=n0_;have BK130:=n1_;have BK131:=n2_;have HB:=n3_;clear n0_ n1_ n2_ n3_;(try clear hb);(try clear hb2);(try clear hk);(try clear hi);(try clear ho0);have hcz12_0 : w11.cell? ⟨gb131,0,none⟩=some (.int .i64 0):=(blk_cell BK131.out 0).trans rfl;have hcz12_1 : w11.cell? ⟨gb131,1,none⟩=some (.int .i64 0):=(blk_cell BK131.out 1).trans rfl;have hcz12_2 : w11.cell? ⟨gb131,2,none⟩=some (.slice none 0 0):=(blk_cell BK131.out 2).trans rfl;have hfz12_0:=blk_frozen BK131.out 0;have hfz12_1:=blk_frozen BK131.out 1;have hfz12_2:=blk_frozen BK131.out 2;obtain ⟨Ao13,co13,eo13⟩:=Kd.S_slice HO138.out;subst eo13))
  refine bodyPost_ret (results_ct rfl _ _ gb131 24 #[.int .i64 t134,.int .i64 t135,.slice Ao13 t136.length co13] (0,0) _ rfl (by (with_reducible repeat (first|refine blk_drewN ?_ _|refine blk_drew ?_|refine blk_alloc ?_ _));refine blk_put (cs:=#[.int .i64 t134,.int .i64 t135,.slice none 0 0]) ?_ 2 _ rfl;(with_reducible repeat (first|refine blk_drewN ?_ _|refine blk_drew ?_|refine blk_alloc ?_ _));refine blk_put (cs:=#[.int .i64 t134,.int .i64 0,.slice none 0 0]) ?_ 1 _ rfl;(with_reducible repeat (first|refine blk_drewN ?_ _|refine blk_drew ?_|refine blk_alloc ?_ _));refine blk_put (cs:=#[.int .i64 0,.int .i64 0,.slice none 0 0]) ?_ 0 _ rfl;(with_reducible repeat (first|refine blk_drewN ?_ _|refine blk_drew ?_|refine blk_alloc ?_ _));exact BK131.out) Try.underlying24 rfl (by kernel_rfl)) rfl ?_
  exact ⟨_,by first|rfl|(simp [errW_none,errW_some] <;> rfl)|(simp [*,errW_none,errW_some] <;> rfl),by (with_reducible repeat (first|apply Kd.S_alloc|apply Kd.S_drewN|apply Kd.S_drew));exact Kd.S_mono (Kd.S_far (p:=⟨gb131,2,none⟩) (Kd.S_far (p:=⟨gb131,1,none⟩) (Kd.S_far (p:=⟨gb131,0,none⟩) (Kd.S_types HO138.out BK131.out (by decide)) (fun _ hk => hk.2) (.int .i64 t134)) (fun _ hk => hk.2) (.int .i64 t135)) (fun _ hk => hk.2) (.slice Ao13 t136.length co13)) (fun _ hk => trivial),by repeat (first|(with_reducible first|exact HB.out|apply below_alloc|apply pw_below_drewN|apply below_drew1|refine below_set ?_ GE130.out|refine below_set ?_ GE131.out)|exact HB.out)⟩
 ·rw [if_neg c3] at H
  have c3b0 : (t133 == 0)=false:=beq_eq_false_iff_ne.mpr c3
  have c3b1 : (t133 != 0)=true:=bne_iff_ne.mpr c3
  simp only [Option.some.injEq,Prod.mk.injEq] at H
  obtain ⟨rfl,rfl,rfl,rfl⟩:=H
  go_enter Try.func42,Try.ntmps42
  go_wp2_with (first|((with_reducible refine gate_dst (N:=1) rfl ?_);refine box_event ?hg (N:=1) ?hd (cs:=#[.int .i64 a0_0,.int .i64 a0_1,.slice A0_2 l0_2.length c0_2]) (t:=24) ?hr ?_;(case hd => rfl);(case hg => rfl);(case hr => first|(go_simp;done)|(go_simp;rfl));intro gb130 hg w14 hbox hb;have n0_:=Aside0.mk (below_step (by repeat (first|(with_reducible first|exact HB.out|apply below_alloc|apply pw_below_drewN|apply below_drew1)|exact HB.out)) hb);have n1_:=Aside0.mk (hbox);have n2_:=Aside0.mk ((by rw [hg];exact (below_size (by repeat (first|(with_reducible first|exact HB.out|apply below_alloc|apply pw_below_drewN|apply below_drew1)|exact HB.out))) : w.heap.size≤gb130));have n3_:=Aside0.mk ((by rw [hg];exact (below_size (by repeat (first|(with_reducible first|exact HB.out|apply below_alloc|apply pw_below_drewN|apply below_drew1)|exact HB.out))) : w.heap.size≤gb130));clear HB;have HB:=n0_;have BK130:=n1_;have GW130:=n2_;have GE130:=n3_;clear n0_ n1_ n2_ n3_;clear hb hbox hg)|((with_reducible refine gate_dst (N:=2) rfl ?_);refine box_event ?hg (N:=2) ?hd (cs:=#[.int .i64 0,.int .i64 0,.slice none 0 0]) (t:=24) ?hr ?_;(case hd => rfl);(case hg => rfl);(case hr => first|(go_simp;done)|(go_simp;rfl));intro gb131 hg w15 hbox hb;have n0_:=Aside0.mk (blk_below (g:=gb130) (o:=.cells #[.int .i64 a0_0,.int .i64 a0_1,.slice A0_2 l0_2.length c0_2] 24 (0,0)) (by (with_reducible repeat (first|refine blk_drewN ?_ _|refine blk_drew ?_|refine blk_alloc ?_ _));exact BK130.out) hb);have n1_:=Aside0.mk (below_step (by repeat (first|(with_reducible first|exact HB.out|apply below_alloc|apply pw_below_drewN|apply below_drew1|refine below_set ?_ GE130.out)|exact HB.out)) hb);have n2_:=Aside0.mk (hbox);have n3_:=Aside0.mk ((by rw [hg];exact (below_size (by repeat (first|(with_reducible first|exact HB.out|apply below_alloc|apply pw_below_drewN|apply below_drew1|refine below_set ?_ GE130.out)|exact HB.out))) : w.heap.size≤gb131));have n4_:=Aside0.mk ((by rw [hg];exact (below_size (by repeat (first|(with_reducible first|exact HB.out|apply below_alloc|apply pw_below_drewN|apply below_drew1|refine below_set ?_ GE130.out)|exact HB.out))) : w.heap.size≤gb131));have n5_:=Aside0.mk ((by rw [hg];exact Nat.ne_of_lt (blk_lt (g:=gb130) (o:=.cells #[.int .i64 a0_0,.int .i64 a0_1,.slice A0_2 l0_2.length c0_2] 24 (0,0)) (by (with_reducible repeat (first|refine blk_drewN ?_ _|refine blk_drew ?_|refine blk_alloc ?_ _));exact BK130.out)) : gb130≠gb131));have n6_:=Aside0.mk ((by rw [hg];exact Nat.ne_of_gt (blk_lt (g:=gb130) (o:=.cells #[.int .i64 a0_0,.int .i64 a0_1,.slice A0_2 l0_2.length c0_2] 24 (0,0)) (by (with_reducible repeat (first|refine blk_drewN ?_ _|refine blk_drew ?_|refine blk_alloc ?_ _));exact BK130.out)) : gb131≠gb130));clear BK130;clear HB;have BK130:=n0_;have HB:=n1_;have BK131:=n2_;have GW131:=n3_;have GE131:=n4_;have NB130_131:=n5_;have NB131_130:=n6_;clear n0_ n1_ n2_ n3_ n4_ n5_ n6_;clear hb hbox hg;have hnb16:=NB130_131.out;have hnc16:=NB131_130.out;have hcz17_0 : w15.cell? ⟨gb130,0,none⟩=some (.int .i64 a0_0):=(blk_cell BK130.out 0).trans rfl;have hcz17_1 : w15.cell? ⟨gb130,1,none⟩=some (.int .i64 a0_1):=(blk_cell BK130.out 1).trans rfl;have hcz17_2 : w15.cell? ⟨gb130,2,none⟩=some (.slice A0_2 l0_2.length c0_2):=(blk_cell BK130.out 2).trans rfl;have hfz17_0:=blk_frozen BK130.out 0;have hfz17_1:=blk_frozen BK130.out 1;have hfz17_2:=blk_frozen BK130.out 2)|((with_reducible refine gate_callee (f:=75) rfl ?_);refine goesL_ (some 8) rfl rfl Try.func75 (by kernel_rfl) rfl #[.agg #[.int .i64 a0_0,.int .i64 a0_1,.slice A0_2 l0_2.length c0_2]] rfl (by (try simp only [List.map_toArray,List.map_cons,List.map_nil]);first|done|rfl|(simp only [List.length_drop,List.length_take];rfl)) ?_;(with_reducible refine (circuit_Check.calls k a0_0 a0_1 _ _ l0_2 t132 t133 _ ?side1 ?side2 A2.out).mono ?_);(case side1 => repeat (first|exact (Kd.C_below HR0_2.out HB.out)|(with_reducible refine Kd.C_alloc ?_ _)|(with_reducible refine Kd.C_drewN ?_ _)|(with_reducible refine Kd.C_drew ?_)));(case side2 => exact HC0_2.out);rintro e w18 ⟨rfl,hb⟩;refine ⟨_,rfl,?_⟩;have n0_:=Aside0.mk (blk_below (g:=gb130) (o:=.cells #[.int .i64 a0_0,.int .i64 a0_1,.slice A0_2 l0_2.length c0_2] 24 (0,0)) (by (with_reducible repeat (first|refine blk_drewN ?_ _|refine blk_drew ?_|refine blk_alloc ?_ _));exact BK130.out) hb);have n1_:=Aside0.mk (blk_below (g:=gb131) (o:=.cells #[.int .i64 0,.int .i64 0,.slice none 0 0] 24 (0,0)) (by (with_reducible repeat (first|refine blk_drewN ?_ _|refine blk_drew ?_|refine blk_alloc ?_ _));exact BK131.out) hb);have n2_:=Aside0.mk (below_step (by repeat (first|(with_reducible first|exact HB.out|apply below_alloc|apply pw_below_drewN|apply below_drew1|refine below_set ?_ GE130.out|refine below_set ?_ GE131.out)|exact HB.out)) hb);clear BK130;clear BK131;clear HB;have BK130:=n0_;have BK131:=n1_;have HB:=n2_;clear n0_ n1_ n2_;(try clear hb);(try clear hb2);(try clear hk);(try clear hi);have hcz19_0 : w18.cell? ⟨gb131,0,none⟩=some (.int .i64 0):=(blk_cell BK131.out 0).trans rfl;have hcz19_1 : w18.cell? ⟨gb131,1,none⟩=some (.int .i64 0):=(blk_cell BK131.out 1).trans rfl;have hcz19_2 : w18.cell? ⟨gb131,2,none⟩=some (.slice none 0 0):=(blk_cell BK131.out 2).trans rfl;have hfz19_0:=blk_frozen BK131.out 0;have hfz19_1:=blk_frozen BK131.out 1;have hfz19_2:=blk_frozen BK131.out 2))
  refine bodyPost_ret (results_ct rfl _ _ gb131 24 #[.int .i64 0,.int .i64 0,.slice none 0 0] (0,0) _ rfl (by (with_reducible repeat (first|refine blk_drewN ?_ _|refine blk_drew ?_|refine blk_alloc ?_ _));refine blk_put (cs:=#[.int .i64 0,.int .i64 0,.slice none 0 0]) ?_ 2 _ rfl;(with_reducible repeat (first|refine blk_drewN ?_ _|refine blk_drew ?_|refine blk_alloc ?_ _));refine blk_put (cs:=#[.int .i64 0,.int .i64 0,.slice none 0 0]) ?_ 1 _ rfl;(with_reducible repeat (first|refine blk_drewN ?_ _|refine blk_drew ?_|refine blk_alloc ?_ _));refine blk_put (cs:=#[.int .i64 0,.int .i64 0,.slice none 0 0]) ?_ 0 _ rfl;(with_reducible repeat (first|refine blk_drewN ?_ _|refine blk_drew ?_|refine blk_alloc ?_ _));exact BK131.out) Try.underlying24 rfl (by kernel_rfl)) rfl ?_
  exact ⟨_,by first|rfl|(simp [errW_none,errW_some] <;> rfl)|(simp [*,errW_none,errW_some] <;> rfl),by first|exact Kd.S_nil _ _ _ _ _|exact Kd.N_nil _ _ _ _ _|exact Kd.V_nil _ _ _ _ _|exact Kd.Q_nil _ _ _ _ _|exact Kd.R_nil _ _ _ _ _,by repeat (first|(with_reducible first|exact HB.out|apply below_alloc|apply pw_below_drewN|apply below_drew1|refine below_set ?_ GE130.out|refine below_set ?_ GE131.out)|exact HB.out)⟩
end Go.Proofs.Ytbelnopbggkdfaa.Q
end

section
namespace Go.Proofs.Ytbelnopbggkdfaa.Q
open Go.RowKit Go.Proofs.YtbelnopbggkdfaaW.PrintWords Go.Proofs.YtbelnopbggkdfaaW.PrintLast Go.Proofs.YtbelnopbggkdfaaW.PrintMore
def isBad (o : S46) : Bool:=!(o.f0 == 4) && (!(o.f0 == 1) || !(o.f4 == -1))
theorem uni_fn (o : S46) (v : Value) (w : World) : Calls Try.prog 77 #[.agg #[.int .i64 o.f0,.int .i64 o.f1,v,.int .i64 o.f3,.int .i64 o.f4,.int .i64 o.f5]] w fun e w' => e=.returned (.bool (isBad o))∧Below w.heap.size w w':=by
  obtain ⟨f0,f1,f2,f3,f4,f5⟩:=o
  have bb:=below_alloc (Below.refl w.heap.size w) (.cells #[.int .i64 f0,.int .i64 f1,v,.int .i64 f3,.int .i64 f4,.int .i64 f5] 46)
  have BB:=Aside0.mk bb
  clear bb
  unfold isBad
  dsimp only
  by_cases h1 : f0=4
  · subst h1
    go_enter Try.func77,Try.ntmps77
    go_wp2
    go_ret
    exact ⟨rfl,BB.out⟩
  · by_cases h2 : f0=1
    · subst h2
      by_cases h3 : f4=-1
      · subst h3
        go_enter Try.func77,Try.ntmps77
        go_wp2
        go_ret
        exact ⟨rfl,BB.out⟩
      · have e3 : (f4 == -1)=false:=beq_eq_false_iff_ne.2 h3
        rw [e3]
        go_enter Try.func77,Try.ntmps77
        go_wp2
        go_ret
        exact ⟨by simp [h3],BB.out⟩
    · have e1 : (f0 == 4)=false:=beq_eq_false_iff_ne.2 h1
      have e2 : (f0 == 1)=false:=beq_eq_false_iff_ne.2 h2
      rw [e1,e2]
      go_enter Try.func77,Try.ntmps77
      go_wp2
      go_ret
      exact ⟨by simp [h1],BB.out⟩
def idxO (l : List S46) : Int :=
  match l.findIdx? isBad with
  | some i => i
  | none => -1
theorem idxO_hit {l : List S46} {q : Nat} (hq : q < l.length) (h : isBad (rd_T46 l q)=true) (hn : ∀ j : Nat,j < q→isBad (rd_T46 l j)=false) : idxO l=q:=by
  have e : ∀ j (hj : j < l.length),l[j]=rd_T46 l j:=fun j hj => by simp [rd_T46,List.getD_eq_getElem?_getD,List.getElem?_eq_getElem hj]
  unfold idxO
  rw [List.findIdx?_eq_some_iff_getElem.2 ⟨hq,by rw [e];exact h,fun j hj => by rw [e j (by omega),hn j hj];simp⟩]
theorem idxO_miss {l : List S46} (hn : ∀ j : Nat,j < l.length→isBad (rd_T46 l j)=false) : idxO l=-1:=by
  unfold idxO
  rw [List.findIdx?_eq_none_iff.2 fun x hx => by
    obtain ⟨j,hj,rfl⟩:=List.mem_iff_getElem.1 hx
    have:=hn j hj
    simpa [rd_T46,List.getD_eq_getElem?_getD,List.getElem?_eq_getElem hj] using this]
theorem idxO_any (l : List S46) : decide (0≤idxO l)=l.any isBad:=by
  unfold idxO
  cases h : l.findIdx? isBad with
  | some i =>
    obtain ⟨hi,h1,_⟩:=List.findIdx?_eq_some_iff_getElem.1 h
    rw [List.any_eq_true.2 ⟨_,List.getElem_mem hi,h1⟩]
    simp
  | none =>
    have:=List.findIdx?_eq_none_iff.1 h
    rw [List.any_eq_false.2 fun x hx => by simpa using this x hx]
    rfl
set_option maxHeartbeats 2000000 in
set_option maxRecDepth 100000 in
theorem uni_index (A : Option Addr) (c : Nat) (l : List S46) (W : World) (h : Kd.C k46 W A l.length l) :
    Calls Try.prog 90 #[.slice A l.length c,.func (.func 77) #[] #[]] W fun e w' => e=.returned (.int .i64 (idxO l))∧Below W.heap.size W w':=by
  have hu46:=Try.underlying46
  have HI:=Aside0.mk h
  have HH:=Aside0.mk (fun q hq h hn => idxO_hit (l:=l) (q:=q) hq h hn)
  have HM:=Aside0.mk (fun hn => idxO_miss (l:=l) hn)
  have hl64 : (l.length : Int)≤9223372036854775807:=by have:=h.2.1;omega
  generalize idxO l=R at HH HM ⊢
  clear h
  go_enter Try.func90,Try.ntmps90
  go_wp2
  go_loopg [5,8] l.length (fun gk v5 v8 wr => ∃ x : Int,0≤x∧x≤l.length∧(gk : Int) + x=l.length∧v8=.int .i64 x∧Aside0 (∀ j : Nat,(j : Int) < x→isBad (rd_T46 l j)=false)∧Aside0 (Below W.heap.size W wr))
  case atStart => exact ⟨0,by omega,by omega,by omega,rfl,⟨fun j hj => by omega⟩,⟨Below.refl _ _⟩⟩
  case round =>
    obtain ⟨x,hx0,hx1,hx2,rfl,HN,HB⟩:=hrel
    by_cases hx : x < l.length
    · obtain ⟨ad,A2,c2,eA,z0,z1,z2,z3,z4,z5,-⟩:=at_T46 (Kd.C_below HI.out HB.out) x hx0 hx
      subst eA
      have X2:=Aside0.mk hx2
      have HF:=Aside0.mk (fun w => uni_fn (rd_T46 l x) (.slice A2 (rd_T46 l x).f2.length c2) w)
      clear hx2 hx1
      have ex : ((x.toNat : Nat) : Int)=x:=by omega
      cases hb : isBad (rd_T46 l x) with
      | true =>
        have HE:=Aside0.mk (HH.out x.toNat (by omega) (by rw [ex];exact hb) (fun j hj => HN.out j (by omega)))
        rw [ex] at HE
        rw [hb] at HF
        clear HN ex hb
        go_wp2_with (go_at_call 77;with_reducible refine (HF.out _).mono ?_;rintro e w1 ⟨rfl,hb1⟩)
        go_ret
        exact ⟨by rw [HE.out];rfl,below_step HB.out hb1⟩
      | false =>
        have HN2 : Aside0 (∀ j : Nat,(j : Int) < x + 1→isBad (rd_T46 l j)=false):=⟨fun j hj => by
          by_cases h : (j : Int) < x
          · exact HN.out j h
          · rw [show (j : Int)=x by omega];exact hb⟩
        rw [hb] at HF
        clear HN ex hb
        go_wp2_with (go_at_call 77;with_reducible refine (HF.out _).mono ?_;rintro e w1 ⟨rfl,hb1⟩)
        go_roundg (l.length - (x + 1).toNat)
        case measure => have:=X2.out;omega
        case rel => exact ⟨x + 1,by omega,by omega,by have:=X2.out;omega,by go_num,HN2,⟨below_step HB.out hb1⟩⟩
    · obtain rfl : x=l.length:=by omega
      have HE:=Aside0.mk (HM.out fun j hj => HN.out j (by omega))
      clear HN hx2 hx1
      go_wp2
      go_ret
      exact ⟨by rw [HE.out];rfl,HB.out⟩
def circuit_Unitary.f (_ : Int) (_ : Int) (l0_2 : List S46) : Option (Bool):=some (!l0_2.any isBad)
set_option maxRecDepth 100000 in
theorem circuit_Unitary.calls (a0_0 : Int) (a0_1 : Int) (A0_2 : Option Addr) (c0_2 : Nat) (l0_2 : List S46) (r : Bool) (w : World) (hr0_2 : Kd.C k46 w A0_2 l0_2.length l0_2) (_ : l0_2.length≤c0_2) (h : circuit_Unitary.f a0_0 a0_1 l0_2=some r) :
    Calls Try.prog 43 #[.agg #[.int .i64 a0_0,.int .i64 a0_1,.slice A0_2 l0_2.length c0_2]] w fun e w' => e=.returned (.bool r)∧Below w.heap.size w w':=by
  obtain rfl:=Option.some.inj h
  have bb:=below_alloc (Below.refl w.heap.size w) (.cells #[.int .i64 a0_0,.int .i64 a0_1,.slice A0_2 l0_2.length c0_2] 24)
  have HI:=Aside0.mk (uni_index A0_2 c0_2 l0_2 _ (Kd.C_alloc hr0_2 (.cells #[.int .i64 a0_0,.int .i64 a0_1,.slice A0_2 l0_2.length c0_2] 24)))
  have BB:=Aside0.mk bb
  have HA:=Aside0.mk (idxO_any l0_2)
  clear bb hr0_2 h
  have HC : Aside0 (Calls Try.prog 76 #[.slice A0_2 l0_2.length c0_2,.func (.func 77) #[] #[]] (w.alloc (.cells #[.int .i64 a0_0,.int .i64 a0_1,.slice A0_2 l0_2.length c0_2] 24)) fun e w' => e=.returned (.bool (l0_2.any isBad))∧Below (w.alloc (.cells #[.int .i64 a0_0,.int .i64 a0_1,.slice A0_2 l0_2.length c0_2] 24)).heap.size (w.alloc (.cells #[.int .i64 a0_0,.int .i64 a0_1,.slice A0_2 l0_2.length c0_2] 24)) w'):=⟨by
    generalize w.alloc _=W at HI ⊢
    go_enter Try.func76,Try.ntmps76
    go_wp2_with (go_at_call 90;refine HI.out.mono ?_;rintro e w' ⟨rfl,hb⟩)
    go_ret
    exact ⟨by rw [← HA.out];rfl,hb⟩⟩
  clear HI HA
  generalize l0_2.any isBad=R at HC ⊢
  go_enter Try.func43,Try.ntmps43
  go_wp2_with (go_at_call 76;refine HC.out.mono ?_;rintro e w' ⟨rfl,hb⟩)
  go_ret
  exact ⟨rfl,below_step BB.out hb⟩
end Go.Proofs.Ytbelnopbggkdfaa.Q
end

section
namespace Go.Proofs.Ytbelnopbggkdfaa.Q
open Go.RowKit Go.Proofs.YtbelnopbggkdfaaW.PrintWords Go.Proofs.YtbelnopbggkdfaaW.PrintLast Go.Proofs.YtbelnopbggkdfaaW.PrintMore
theorem ichecked_is {q b : Int} {l : List Opn} (hw : WfL l) : Evt fun k => invert_checked.f k q b l=some (if okc q b l=true then (q,b,l,0) else (0,0,[],80)):=by
  cases h : okc q b l
  · refine (check_is (q:=q) (b:=b) hw).mono fun k ⟨r,hk⟩ => ?_
    rw [h] at hk
    unfold invert_checked.f
    rw [hk]
    rfl
  · have hc:=okc_facts h
    have hn:=hc.n
    refine ((check_is (q:=q) (b:=b) hw).and (copy_is (q:=q) (b:=b) (l:=l) (fun o ho => (hc.op o ho).len) (by omega))).mono fun k ⟨⟨r,hk⟩,hk2⟩ => ?_
    rw [h] at hk
    unfold invert_checked.f
    rw [hk]
    simp [hk2]
def invO (o : Opn) : Opn:=if o.f0=1 then { o with f1:=Lift.inverseF o.f1 } else o
def invV (o : OpV) : OpV:=if o.x0=1 then { o with x1:=Lift.inverseF o.x1 } else o
def NW (w : World) (W : World) (v : Value) (s : List Opn) : Prop:=Kd.N k46w 46 W w.heap.size (fun k => w.heap.size≤k) v s
set_option maxHeartbeats 4000000 in
set_option maxRecDepth 1000000 in
theorem inv_no (q b : Int) (A : Option Addr) (c : Nat) (l : List Opn) (w : World) (HC : Kd.C k46 w A l.length l) (hc : l.length≤c) (k1 : Nat) (e1 : invert_checked.f k1 q b l=some (0,0,[],80)) :
    Calls Try.prog 8 #[.agg #[.int .i64 q,.int .i64 b,.slice A l.length c]] w fun e w' => ∃ v,e=.returned (.tuple #[.agg #[.int .i64 0,.int .i64 0,v],.int .i64 80])∧NW w w' v []∧Below w.heap.size w w':=by
  have hu24:=Try.underlying24
  have E1:=Aside0.mk e1
  have HR:=Aside0.mk HC
  have HS:=Aside0.mk hc
  have HB:=Aside0.mk (Below.refl w.heap.size w)
  clear e1 HC hc
  go_enter Try.func8,Try.ntmps8
  go_upto_region 2 with (go_at_call 42;(with_reducible refine (invert_checked.calls k1 q b _ _ l _ _ _ _ _ (Kd.C_alloc (Kd.C_alloc HR.out _) _) HS.out E1.out).mono ?_);rintro e w1 ⟨v1,rfl,ho1,hb1⟩;obtain ⟨Ad,cd,rfl⟩:=Kd.S_slice ho1;have HO:=Aside0.mk ho1;have H1:=Aside0.mk hb1;clear ho1 hb1)
  have b2 : (w1.alloc (.cells #[.int .i64 0,.int .i64 0,.slice Ad 0 cd] 24)).heap[w.heap.size + 1]?=some (.cells #[.int .i64 0,.int .i64 0,.slice none 0 0] 24 (0,0)):=by
    refine blk_alloc (blk_below ?_ H1.out) _
    have:=blk_new (w.alloc (.cells #[.int .i64 q,.int .i64 b,.slice A l.length c] 24)) (.cells #[.int .i64 0,.int .i64 0,.slice none 0 0] 24)
    simpa using this
  have bd:=blk_new w1 (.cells #[.int .i64 0,.int .i64 0,.slice Ad 0 cd] 24)
  have hb : Below w.heap.size w (w1.alloc (.cells #[.int .i64 0,.int .i64 0,.slice Ad 0 cd] 24)):=below_alloc (below_step (below_alloc (below_alloc HB.out _) _) H1.out) _
  have HN:=Aside0.mk (Kd.N_alloc (Kd.N_lower (base':=w.heap.size) (Kd.N_mono (Kd.S_N (k46w_S (Kd.S_bound HO.out))) (fun k hk => show w.heap.size≤k∧k≠w.heap.size + 1 by have:=hk.2.1;simp only [World.size_alloc] at this;omega)) (by simp only [World.size_alloc];omega)) (.cells #[.int .i64 0,.int .i64 0,.slice Ad 0 cd] 24))
  obtain ⟨g2,hg2⟩ : ∃ g,g=w.heap.size + 1:=⟨_,rfl⟩
  have ge : w.heap.size≤g2:=by omega
  rw [← hg2] at b2 HN ⊢
  generalize w1.heap.size=gd at bd ⊢
  generalize w1.alloc _=W at b2 bd hb HN ⊢
  clear hg2 H1 HO
  have c0 : W.cell? ⟨g2,0,none⟩=some (.int .i64 0):=by rw [blk_cell b2];rfl
  have c1 : W.cell? ⟨g2,1,none⟩=some (.int .i64 0):=by rw [blk_cell b2];rfl
  have c2 : W.cell? ⟨g2,2,none⟩=some (.slice none 0 0):=by rw [blk_cell b2];rfl
  have f0 : W.frozen? ⟨g2,0,none⟩=false:=blk_frozen b2 0
  have f1 : W.frozen? ⟨g2,1,none⟩=false:=blk_frozen b2 1
  have f2 : W.frozen? ⟨g2,2,none⟩=false:=blk_frozen b2 2
  have d0 : W.cell? ⟨gd,0,none⟩=some (.int .i64 0):=by rw [blk_cell bd];rfl
  have d1 : W.cell? ⟨gd,1,none⟩=some (.int .i64 0):=by rw [blk_cell bd];rfl
  have d2 : W.cell? ⟨gd,2,none⟩=some (.slice Ad 0 cd):=by rw [blk_cell bd];rfl
  have B2:=Aside0.mk b2
  have BB:=Aside0.mk hb
  clear b2 bd hb
  go_wp2
  (try simp only [Exit.inBlock,Exit.then])
  refine bodyPost_ret (results_ct rfl _ _ g2 24 #[.int .i64 0,.int .i64 0,.slice Ad 0 cd] (0,0) _ rfl (blk_put (blk_put (blk_put B2.out 0 _ rfl) 1 _ rfl) 2 _ rfl) Try.underlying24 rfl (by kernel_rfl)) rfl ?_
  exact ⟨_,rfl,Kd.N_mono (Kd.N_far (p:=⟨g2,2,none⟩) (Kd.N_far (p:=⟨g2,1,none⟩) (Kd.N_far (p:=⟨g2,0,none⟩) HN.out (fun _ hk => hk.2) _) (fun _ hk => hk.2) _) (fun _ hk => hk.2) _) (fun _ hk => hk.1),below_set (below_set (below_set BB.out ge) ge) ge⟩
set_option maxHeartbeats 4000000 in
set_option maxRecDepth 1000000 in
theorem inv_bad (q b : Int) (A : Option Addr) (c : Nat) (l : List Opn) (w : World) (HC : Kd.C k46 w A l.length l) (hc : l.length≤c) (k1 : Nat) (e1 : invert_checked.f k1 q b l=some (q,b,l,0)) (hu : l.any isBad=true) :
    Calls Try.prog 8 #[.agg #[.int .i64 q,.int .i64 b,.slice A l.length c]] w fun e w' => ∃ v,e=.returned (.tuple #[.agg #[.int .i64 0,.int .i64 0,v],.int .i64 170])∧NW w w' v []∧Below w.heap.size w w':=by
  have hu24:=Try.underlying24
  have E1:=Aside0.mk e1
  have HR:=Aside0.mk HC
  have HS:=Aside0.mk hc
  have HB:=Aside0.mk (Below.refl w.heap.size w)
  have HU:=Aside0.mk (show circuit_Unitary.f q b l=some (!true) by unfold circuit_Unitary.f;rw [hu])
  clear e1 HC hc hu
  go_enter Try.func8,Try.ntmps8
  go_upto_region 2 with (go_at_call 42;(with_reducible refine (invert_checked.calls k1 q b _ _ l _ _ _ _ _ (Kd.C_alloc (Kd.C_alloc HR.out _) _) HS.out E1.out).mono ?_);rintro e w1 ⟨v1,rfl,ho1,hb1⟩;obtain ⟨Ad,cd,rfl⟩:=Kd.S_slice ho1;have HO:=Aside0.mk ho1;have H1:=Aside0.mk hb1;clear ho1 hb1)
  have b2 : (w1.alloc (.cells #[.int .i64 q,.int .i64 b,.slice Ad l.length cd] 24)).heap[w.heap.size + 1]?=some (.cells #[.int .i64 0,.int .i64 0,.slice none 0 0] 24 (0,0)):=by
    refine blk_alloc (blk_below ?_ H1.out) _
    have:=blk_new (w.alloc (.cells #[.int .i64 q,.int .i64 b,.slice A l.length c] 24)) (.cells #[.int .i64 0,.int .i64 0,.slice none 0 0] 24)
    simpa using this
  have bd:=blk_new w1 (.cells #[.int .i64 q,.int .i64 b,.slice Ad l.length cd] 24)
  have hb : Below w.heap.size w (w1.alloc (.cells #[.int .i64 q,.int .i64 b,.slice Ad l.length cd] 24)):=below_alloc (below_step (below_alloc (below_alloc HB.out _) _) H1.out) _
  have HN:=Aside0.mk (Kd.N_alloc (Kd.N_lower (base':=w.heap.size) (Kd.N_mono (Kd.S_N (k46w_S (Kd.S_bound HO.out))) (fun k hk => show w.heap.size≤k∧k≠w.heap.size + 1 by have:=hk.2.1;simp only [World.size_alloc] at this;omega)) (by simp only [World.size_alloc];omega)) (.cells #[.int .i64 q,.int .i64 b,.slice Ad l.length cd] 24))
  obtain ⟨g2,hg2⟩ : ∃ g,g=w.heap.size + 1:=⟨_,rfl⟩
  have ge : w.heap.size≤g2:=by omega
  rw [← hg2] at b2 HN ⊢
  generalize w1.heap.size=gd at bd ⊢
  generalize w1.alloc _=W at b2 bd hb HN ⊢
  clear hg2 H1 HO
  have c0 : W.cell? ⟨g2,0,none⟩=some (.int .i64 0):=by rw [blk_cell b2];rfl
  have c1 : W.cell? ⟨g2,1,none⟩=some (.int .i64 0):=by rw [blk_cell b2];rfl
  have c2 : W.cell? ⟨g2,2,none⟩=some (.slice none 0 0):=by rw [blk_cell b2];rfl
  have f0 : W.frozen? ⟨g2,0,none⟩=false:=blk_frozen b2 0
  have f1 : W.frozen? ⟨g2,1,none⟩=false:=blk_frozen b2 1
  have f2 : W.frozen? ⟨g2,2,none⟩=false:=blk_frozen b2 2
  have d0 : W.cell? ⟨gd,0,none⟩=some (.int .i64 q):=by rw [blk_cell bd];rfl
  have d1 : W.cell? ⟨gd,1,none⟩=some (.int .i64 b):=by rw [blk_cell bd];rfl
  have d2 : W.cell? ⟨gd,2,none⟩=some (.slice Ad l.length cd):=by rw [blk_cell bd];rfl
  have B2:=Aside0.mk b2
  have BB:=Aside0.mk hb
  clear b2 bd hb
  go_wp2_with (go_at_call 43;(with_reducible refine (circuit_Unitary.calls q b _ _ l _ _ (k46w_C (Kd.N_reads' HN.out).2.2) (Kd.N_reads' HN.out).2.1 HU.out).mono ?_);rintro e w3 ⟨rfl,hb3⟩;have HB3:=Aside0.mk hb3;have b3:=blk_below B2.out hb3;have c0 : w3.cell? ⟨g2,0,none⟩=some (.int .i64 0):=(by rw [blk_cell b3];rfl);have c1 : w3.cell? ⟨g2,1,none⟩=some (.int .i64 0):=(by rw [blk_cell b3];rfl);have c2 : w3.cell? ⟨g2,2,none⟩=some (.slice none 0 0):=(by rw [blk_cell b3];rfl);have f0 : w3.frozen? ⟨g2,0,none⟩=false:=blk_frozen b3 0;have f1 : w3.frozen? ⟨g2,1,none⟩=false:=blk_frozen b3 1;have f2 : w3.frozen? ⟨g2,2,none⟩=false:=blk_frozen b3 2;have B3:=Aside0.mk b3;clear hb3 b3)
  (try simp only [Exit.inBlock,Exit.then])
  refine bodyPost_ret (results_ct rfl _ _ g2 24 #[.int .i64 0,.int .i64 0,.slice none 0 0] (0,0) _ rfl (blk_put (blk_put (blk_put B3.out 0 _ rfl) 1 _ rfl) 2 _ rfl) Try.underlying24 rfl (by kernel_rfl)) rfl ?_
  exact ⟨_,rfl,Kd.N_nil _ _ _ _ _,below_set (below_set (below_set (below_step BB.out HB3.out) ge) ge) ge⟩
set_option maxHeartbeats 4000000 in
set_option maxRecDepth 1000000 in
theorem inv_good (q b : Int) (A : Option Addr) (c : Nat) (l : List Opn) (w : World) (HC : Kd.C k46 w A l.length l) (hc : l.length≤c) (k1 : Nat) (e1 : invert_checked.f k1 q b l=some (q,b,l,0)) (hnl : (l.length : Int)≤4096) (hwf : ∀ o ∈ l,(Lit.int .i64 o.f1).wf=true) (hpos : 0 < l.length) (hu : l.any isBad=false) :
    Calls Try.prog 8 #[.agg #[.int .i64 q,.int .i64 b,.slice A l.length c]] w fun e w' => ∃ v,e=.returned (.tuple #[.agg #[.int .i64 q,.int .i64 b,v],.int .i64 0])∧NW w w' v (l.reverse.map invO)∧Below w.heap.size w w':=by
  have hu24:=Try.underlying24
  have E1:=Aside0.mk e1
  have HR:=Aside0.mk HC
  have HS:=Aside0.mk hc
  have HB:=Aside0.mk (Below.refl w.heap.size w)
  have HU:=Aside0.mk (show circuit_Unitary.f q b l=some (!false) by unfold circuit_Unitary.f;rw [hu])
  have HNL:=Aside0.mk hnl
  have HWF:=Aside0.mk hwf
  clear e1 HC hc hu hwf
  go_enter Try.func8,Try.ntmps8
  go_upto_region 2 with (go_at_call 42;(with_reducible refine (invert_checked.calls k1 q b _ _ l _ _ _ _ _ (Kd.C_alloc (Kd.C_alloc HR.out _) _) HS.out E1.out).mono ?_);rintro e w1 ⟨v1,rfl,ho1,hb1⟩;obtain ⟨Ad,cd,rfl⟩:=Kd.S_slice ho1;have HO:=Aside0.mk ho1;have H1:=Aside0.mk hb1;clear ho1 hb1)
  have b2 : (w1.alloc (.cells #[.int .i64 q,.int .i64 b,.slice Ad l.length cd] 24)).heap[w.heap.size + 1]?=some (.cells #[.int .i64 0,.int .i64 0,.slice none 0 0] 24 (0,0)):=by
    refine blk_alloc (blk_below ?_ H1.out) _
    have:=blk_new (w.alloc (.cells #[.int .i64 q,.int .i64 b,.slice A l.length c] 24)) (.cells #[.int .i64 0,.int .i64 0,.slice none 0 0] 24)
    simpa using this
  have bd:=blk_new w1 (.cells #[.int .i64 q,.int .i64 b,.slice Ad l.length cd] 24)
  have hb : Below w.heap.size w (w1.alloc (.cells #[.int .i64 q,.int .i64 b,.slice Ad l.length cd] 24)):=below_alloc (below_step (below_alloc (below_alloc HB.out _) _) H1.out) _
  have HN:=Aside0.mk (Kd.N_alloc (Kd.N_lower (base':=w.heap.size) (Kd.N_mono (Kd.S_N (k46w_S (Kd.S_bound HO.out))) (fun k hk => show w.heap.size≤k∧k≠w.heap.size + 1 by have:=hk.2.1;simp only [World.size_alloc] at this;omega)) (by simp only [World.size_alloc];omega)) (.cells #[.int .i64 q,.int .i64 b,.slice Ad l.length cd] 24))
  obtain ⟨g2,hg2⟩ : ∃ g,g=w.heap.size + 1:=⟨_,rfl⟩
  have ge : w.heap.size≤g2:=by omega
  rw [← hg2] at b2 HN ⊢
  generalize w1.heap.size=gd at bd ⊢
  generalize w1.alloc _=W at b2 bd hb HN ⊢
  clear hg2 H1 HO
  have c0 : W.cell? ⟨g2,0,none⟩=some (.int .i64 0):=by rw [blk_cell b2];rfl
  have c1 : W.cell? ⟨g2,1,none⟩=some (.int .i64 0):=by rw [blk_cell b2];rfl
  have c2 : W.cell? ⟨g2,2,none⟩=some (.slice none 0 0):=by rw [blk_cell b2];rfl
  have f0 : W.frozen? ⟨g2,0,none⟩=false:=blk_frozen b2 0
  have f1 : W.frozen? ⟨g2,1,none⟩=false:=blk_frozen b2 1
  have f2 : W.frozen? ⟨g2,2,none⟩=false:=blk_frozen b2 2
  have BD0:=Aside0.mk bd
  have d0 : W.cell? ⟨gd,0,none⟩=some (.int .i64 q):=by rw [blk_cell bd];rfl
  have d1 : W.cell? ⟨gd,1,none⟩=some (.int .i64 b):=by rw [blk_cell bd];rfl
  have d2 : W.cell? ⟨gd,2,none⟩=some (.slice Ad l.length cd):=by rw [blk_cell bd];rfl
  have B2:=Aside0.mk b2
  have BB:=Aside0.mk hb
  clear b2 bd hb
  go_upto_region 6 with (go_at_call 43;(with_reducible refine (circuit_Unitary.calls q b _ _ l _ _ (k46w_C (Kd.N_reads' HN.out).2.2) (Kd.N_reads' HN.out).2.1 HU.out).mono ?_);rintro e w3 ⟨rfl,hb3⟩)
  replace HN:=Aside0.mk (Kd.N_below HN.out hb3)
  replace B2:=Aside0.mk (blk_below B2.out hb3)
  replace BB:=Aside0.mk (below_step BB.out hb3)
  have BD:=Aside0.mk (show w3.heap[gd]?=some (.cells #[.int .i64 q,.int .i64 b,.slice Ad l.length cd] 24 (0,0)) from blk_below BD0.out hb3)
  clear c0 c1 c2 f0 f1 f2 d0 d1 d2 hb3
  obtain ⟨g,cap,eA,hgb,hglt,cells0,hcells0⟩:=Kd.N_form HN.out hpos
  injection eA with eA _ eC
  subst eA eC
  obtain ⟨_,os,hosl,hR,hrel⟩:=N_rowO HN.out
  have hgd : gd≠g:=fun e => by
    rw [← e,BD.out] at hcells0
    injection hcells0 with h
    injection h with _ h _
    exact absurd h (by decide)
  have hg2 : g2≠g:=fun e => by
    rw [← e,B2.out] at hcells0
    injection hcells0 with h
    injection h with _ h _
    exact absurd h (by decide)
  have d2 : w3.cell? ⟨gd,2,none⟩=some (.slice (some ⟨g,0,none⟩) l.length cd):=by rw [blk_cell BD.out];rfl
  have RV:=Aside0.mk (rev_any (W:=w3) (g:=g) (os:=os) cd (by have h1 : os.length=l.length:=hosl;have h2:=HNL.out;exact Nat.le_trans (Nat.le_of_eq h1) (by omega)) hR)
  rw [hosl] at RV
  have HG:=Aside0.mk hgb
  have HREL:=Aside0.mk hrel
  have HOL:=Aside0.mk hosl
  have HLT:=Aside0.mk hglt
  have HP:=Aside0.mk hpos
  clear hR hrel hosl hcells0 hgb hglt hpos
  go_upto_region 7 with (go_at_call 44;(with_reducible refine RV.out.mono ?_);rintro e w4 ⟨rfl,hR4⟩;have R4:=Aside0.mk hR4;clear hR4)
  have BB3:=BB
  have B23:=B2
  have HGD:=Aside0.mk hgd
  have HG2:=Aside0.mk hg2
  have d2 : w4.cell? ⟨gd,2,none⟩=some (.slice (some ⟨g,0,none⟩) l.length cd):=by rw [blk_cell ((R4.out.old gd (blk_lt BD.out) hgd).trans BD.out)];rfl
  clear BD0 RV hgd hg2
  go_wp2_with fail
  go_loopg [27] l.length (fun gk v27 wr => ∃ i : Nat,i≤l.length∧l.length - i≤gk∧v27=.int .i64 i∧Aside0 (RowO w3 g (mixO invV os.reverse i) wr))
  case atStart => exact ⟨0,by omega,by omega,rfl,by rw [mixO_zero];exact R4⟩
  case round =>
    obtain ⟨i,hi0,hi1,rfl,HI⟩:=hrel
    by_cases hlt : i < l.length
    · have hii : i < os.reverse.length:=by rw [List.length_reverse];have h1 : os.length=l.length:=HOL.out;omega
      obtain ⟨o,ho⟩ : ∃ o,os.reverse[i]?=some o:=⟨_,List.getElem?_eq_getElem hii⟩
      have hm : (mixO invV os.reverse i)[i]?=some o:=(mixO_at _ _ _).trans ho
      have hR:=HI.out
      obtain ⟨a0,a0f⟩:=hR.cells hm (r:=0) (by omega) rfl
      obtain ⟨a1,a1f⟩:=hR.cells hm (r:=1) (by omega) rfl
      obtain ⟨a2,a2f⟩:=hR.cells hm (r:=2) (by omega) rfl
      obtain ⟨a3,a3f⟩:=hR.cells hm (r:=3) (by omega) rfl
      obtain ⟨a4,a4f⟩:=hR.cells hm (r:=4) (by omega) rfl
      obtain ⟨a5,a5f⟩:=hR.cells hm (r:=5) (by omega) rfl
      simp only [Nat.add_zero] at a0 a0f
      clear hR
      by_cases hx : o.x0=1
      · have eI : invV o={ o with x1:=Lift.inverseF o.x1 }:=by unfold invV;rw [if_pos hx]
        have HWX:=Aside0.mk (show (Lit.int .i64 o.x1).wf=true by
          rw [List.getElem?_reverse (by simpa using hii)] at ho
          have hlen : os.length=l.length:=HOL.out
          have hxl : os.length - 1 - i < l.length:=by omega
          obtain ⟨⟨A',c',e'⟩,_⟩:=HREL.out _ _ _ (List.getElem?_eq_getElem hxl) ho
          rw [e']
          exact HWF.out _ (List.getElem_mem hxl))
        have HGX:=Aside0.mk (show wr.heap.size≠g by obtain ⟨C,h1,_⟩:=HI.out.blk;have:=blk_lt h1;omega)
        have d2r : wr.cell? ⟨gd,2,none⟩=some (.slice (some ⟨g,0,none⟩) l.length cd):=by rw [blk_cell ((HI.out.old gd (blk_lt BD.out) HGD.out).trans BD.out)];rfl
        have HST:=Aside0.mk (mixO_step (f:=invV) ho)
        have HM:=Aside0.mk hm
        have HIM:=Aside0.mk (show i < (mixO invV os.reverse i).length by rw [mixO_length];exact hii)
        clear ho hm hii d2
        go_upto_region 11 with fail
        clear a0 a0f a1 a1f a2 a2f a3 a3f a4 a4f a5 a5f
        have bb:=below_alloc (Below.refl wr.heap.size wr) (.cells #[.int .i64 1,.int .i64 o.x1,.slice o.A o.n o.c,.int .i64 o.x3,.int .i64 o.x4,.int .i64 o.x5] 46)
        have bn:=blk_new wr (.cells #[.int .i64 1,.int .i64 o.x1,.slice o.A o.n o.c,.int .i64 o.x3,.int .i64 o.x4,.int .i64 o.x5] 46)
        have hX:=RowX.of (HI.out.below bb) HM.out
        have d2b:=below_cell bb d2r
        clear d2r bb HI
        generalize wr.heap.size=gx at bn HGX ⊢
        generalize wr.alloc _=wB at bn hX d2b ⊢
        have x1 : wB.cell? ⟨gx,1,none⟩=some (.int .i64 o.x1):=by rw [blk_cell bn];rfl
        clear bn
        obtain ⟨g1,g1f⟩:=hX.cell HIM.out
        have HX : RowX w3 g (mixO invV os.reverse i) i o wB.drew:=⟨hX.choose,hX.choose_spec.drew⟩
        have d2 : wB.drew.cell? ⟨gd,2,none⟩=some (.slice (some ⟨g,0,none⟩) l.length cd):=d2b
        have y1 : wB.drew.cell? ⟨gx,1,none⟩=some (.int .i64 o.x1):=x1
        have y2 : wB.drew.cell? ⟨g,i * 6 + 1,none⟩=some (.int .i64 (numAt wB.drew ⟨g,i * 6 + 1,none⟩)):=g1
        have y3 : wB.drew.frozen? ⟨g,i * 6 + 1,none⟩=false:=g1f
        have T : Hid (∀ w',w'.cell? ⟨gd,2,none⟩=some (.slice (some ⟨g,0,none⟩) l.length cd)→w'.cell? ⟨gx,1,none⟩=some (.int .i64 o.x1)→RowX w3 g (mixO invV os.reverse i) i o w' →
          Calls Try.prog 45 #[.int .i64 o.x1] w' fun e w'' => e=.returned (.int .i64 (Lift.inverseF o.x1))∧w''.cell? ⟨gd,2,none⟩=some (.slice (some ⟨g,0,none⟩) l.length cd)∧w''.cell? ⟨gx,1,none⟩=some (.int .i64 o.x1) ∧
            w''.cell? ⟨g,i * 6 + 1,none⟩=some (.int .i64 (numAt w'' ⟨g,i * 6 + 1,none⟩))∧w''.frozen? ⟨g,i * 6 + 1,none⟩=false∧RowX w3 g (mixO invV os.reverse i) i o w''):=Lib.hid fun w' h1 h2 h3 => by
          refine (Lift.inverse_any _ HWX.out w').mono ?_
          rintro e w'' ⟨rfl,hb⟩
          have h4:=h3.below hb
          exact ⟨rfl,below_cell hb h1,below_cell hb h2,(h4.cell HIM.out).1,(h4.cell HIM.out).2,h4⟩
        have K : Hid (∀ (w' : World) (z : Int),w'.cell? ⟨gd,2,none⟩=some (.slice (some ⟨g,0,none⟩) l.length cd)→w'.cell? ⟨gx,1,none⟩=some (.int .i64 o.x1)→RowX w3 g (mixO invV os.reverse i) i o w'→
          (w'.setCell ⟨g,i * 6 + 1,none⟩ (.int .i64 z)).cell? ⟨gd,2,none⟩=some (.slice (some ⟨g,0,none⟩) l.length cd)∧(w'.setCell ⟨g,i * 6 + 1,none⟩ (.int .i64 z)).cell? ⟨gx,1,none⟩=some (.int .i64 o.x1)∧(w'.setCell ⟨g,i * 6 + 1,none⟩ (.int .i64 z)).cell? ⟨g,i * 6 + 1,none⟩=some (.int .i64 (numAt (w'.setCell ⟨g,i * 6 + 1,none⟩ (.int .i64 z)) ⟨g,i * 6 + 1,none⟩))∧(w'.setCell ⟨g,i * 6 + 1,none⟩ (.int .i64 z)).frozen? ⟨g,i * 6 + 1,none⟩=false∧RowX w3 g (mixO invV os.reverse i) i o (w'.setCell ⟨g,i * 6 + 1,none⟩ (.int .i64 z))):=Lib.hid fun w' z h1 h2 h3 => by
          have h4 : RowX w3 g (mixO invV os.reverse i) i o (w'.setCell ⟨g,i * 6 + 1,none⟩ (.int .i64 z)):=⟨z,h3.put HIM.out z⟩
          exact ⟨cell_far HGD.out h1,cell_far HGX.out h2,(h4.cell HIM.out).1,(h4.cell HIM.out).2,h4⟩
        go_region_held3 (fun w' => w'.cell? ⟨gd,2,none⟩=some (.slice (some ⟨g,0,none⟩) l.length cd)∧w'.cell? ⟨gx,1,none⟩=some (.int .i64 o.x1)∧w'.cell? ⟨g,i * 6 + 1,none⟩=some (.int .i64 (numAt w' ⟨g,i * 6 + 1,none⟩))∧w'.frozen? ⟨g,i * 6 + 1,none⟩=false∧RowX w3 g (mixO invV os.reverse i) i o w')
          (first|exact K.out _ _ (by assumption) (by assumption) (by assumption)|exact ⟨by assumption,by assumption,by assumption,by assumption,by assumption⟩)
          (first|(go_at_call 45;with_reducible (refine (T.out _ (by assumption) (by assumption) (by assumption)).mono ?_);rintro e w5 ⟨rfl,r0,r1,r2,r3,r4⟩))
        have HN2:=Aside0.mk (r4.put HIM.out (Lift.inverseF o.x1))
        clear r0 r1 r2 r3 r4 T K
        go_wp2
        go_roundg (l.length - (i + 1))
        case measure => omega
        case rel => exact ⟨i + 1,by omega,by omega,by go_num,by have:=HST.out;rw [eI] at this;rw [← this];exact HN2⟩
      · have eI : invV o=o:=by unfold invV;rw [if_neg hx]
        have hst:=mixO_step (f:=invV) ho
        rw [eI] at hst
        have he : (mixO invV os.reverse i).set i o=mixO invV os.reverse i:=by
          refine List.ext_getElem? fun k => ?_
          rw [List.getElem?_set]
          by_cases e : i=k
          · subst e
            rw [if_pos rfl,if_pos (List.getElem?_eq_some_iff.1 hm).1,hm]
          · rw [if_neg e]
        rw [he] at hst
        have HST:=Aside0.mk hst
        clear hst he hm ho d2 hii
        go_wp2
        go_roundg (l.length - (i + 1))
        case measure => omega
        case rel =>
          refine ⟨i + 1,by omega,by omega,by go_num,?_⟩
          rw [← HST.out]
          exact ⟨HI.out.below (below_alloc (Below.refl _ _) _)⟩
    · obtain rfl : i=l.length:=by omega
      have hR:=HI.out
      have hlr : os.reverse.length=l.length:=by rw [List.length_reverse];exact HOL.out
      rw [← hlr,mixO_all] at hR
      have d0 : wr.cell? ⟨gd,0,none⟩=some (.int .i64 q):=by rw [blk_cell ((hR.old gd (blk_lt BD.out) HGD.out).trans BD.out)];rfl
      have d1 : wr.cell? ⟨gd,1,none⟩=some (.int .i64 b):=by rw [blk_cell ((hR.old gd (blk_lt BD.out) HGD.out).trans BD.out)];rfl
      have d2r : wr.cell? ⟨gd,2,none⟩=some (.slice (some ⟨g,0,none⟩) l.length cd):=by rw [blk_cell ((hR.old gd (blk_lt BD.out) HGD.out).trans BD.out)];rfl
      have b2 : wr.heap[g2]?=some (.cells #[.int .i64 0,.int .i64 0,.slice none 0 0] 24 (0,0)):=(hR.old g2 (by have:=R4.out.size;exact (blk_lt (show w3.heap[g2]?=_ from B23.out))) HG2.out).trans B23.out
      have c0 : wr.cell? ⟨g2,0,none⟩=some (.int .i64 0):=by rw [blk_cell b2];rfl
      have c1 : wr.cell? ⟨g2,1,none⟩=some (.int .i64 0):=by rw [blk_cell b2];rfl
      have c2 : wr.cell? ⟨g2,2,none⟩=some (.slice none 0 0):=by rw [blk_cell b2];rfl
      have f0 : wr.frozen? ⟨g2,0,none⟩=false:=blk_frozen b2 0
      have f1 : wr.frozen? ⟨g2,1,none⟩=false:=blk_frozen b2 1
      have f2 : wr.frozen? ⟨g2,2,none⟩=false:=blk_frozen b2 2
      have BE:=Aside0.mk (show Below w.heap.size w wr from (BB3.out.trans (hR.keep.mono HG.out)))
      have NN:=Aside0.mk (rowO_N (s':=l.reverse.map invO) HN.out hR (by rw [List.length_map,List.length_reverse];exact HOL.out) (by rw [List.length_map,List.length_reverse]) (fun p x o hx ho => by
        rw [List.getElem?_map] at hx ho
        obtain ⟨x1,hx1,rfl⟩:=Option.map_eq_some_iff.1 hx
        obtain ⟨o1,ho1,rfl⟩:=Option.map_eq_some_iff.1 ho
        have hp:=(List.getElem?_eq_some_iff.1 hx1).1
        rw [List.length_reverse] at hp
        have hlen : os.length=l.length:=HOL.out
        rw [List.getElem?_reverse hp] at hx1
        rw [List.getElem?_reverse (by omega),hlen] at ho1
        obtain ⟨⟨A',c',rfl⟩,hF⟩:=HREL.out _ _ _ hx1 ho1
        have h2:=FK_rowO hF hR.size (fun k h1 h2 => hR.old k h1 h2)
        have e2 : invV (ofV x1 A' c')=ofV (invO x1) A' c':=by
          unfold invV invO
          by_cases h : x1.f0=1
          · rw [if_pos (show (ofV x1 A' c').x0=1 from h),if_pos h];rfl
          · rw [if_neg (show ¬ (ofV x1 A' c').x0=1 from h),if_neg h]
        rw [e2]
        exact FK_same h2 (by unfold invO;split <;> rfl)))
      have B2:=Aside0.mk b2
      clear b2 hR HI
      go_wp2
      refine bodyPost_ret (results_ct rfl _ _ g2 24 #[.int .i64 q,.int .i64 b,.slice (some ⟨g,0,none⟩) l.length cd] (0,0) _ rfl (blk_put (blk_put (blk_put B2.out 0 _ rfl) 1 _ rfl) 2 _ rfl) Try.underlying24 rfl (by kernel_rfl)) rfl ?_
      exact ⟨_,rfl,Kd.N_mono (Kd.N_far (p:=⟨g2,2,none⟩) (Kd.N_far (p:=⟨g2,1,none⟩) (Kd.N_far (p:=⟨g2,0,none⟩) NN.out (fun _ hk => hk.2) _) (fun _ hk => hk.2) _) (fun _ hk => hk.2) _) (fun _ hk => hk.1),below_set (below_set (below_set BE.out ge) ge) ge⟩
set_option maxHeartbeats 4000000 in
set_option maxRecDepth 1000000 in
theorem rev_nil (A : Option Addr) (n c : Nat) (w : World) (hn : n=0) : Calls Try.prog 44 #[.slice A n c] w fun e w' => e=.returned (.tuple #[])∧Below w.heap.size w w':=by
  subst hn
  have HB:=Aside0.mk (Below.refl w.heap.size w)
  go_enter Try.func44,Try.ntmps44
  go_wp2
  go_loopg [2,3] 0 (fun gk vi vj wr => vi=.int .i64 0∧vj=.int .i64 (-1)∧wr=w)
  case atStart => exact ⟨rfl,rfl,rfl⟩
  case round =>
    obtain ⟨rfl,rfl,rfl⟩:=hrel
    go_wp2
    go_end0
    exact ⟨rfl,HB.out⟩
set_option maxHeartbeats 4000000 in
set_option maxRecDepth 1000000 in
theorem inv_nil (q b : Int) (A : Option Addr) (c : Nat) (l : List Opn) (w : World) (HC : Kd.C k46 w A l.length l) (hc : l.length≤c) (k1 : Nat) (e1 : invert_checked.f k1 q b l=some (q,b,l,0)) (h0 : l.length=0) :
    Calls Try.prog 8 #[.agg #[.int .i64 q,.int .i64 b,.slice A l.length c]] w fun e w' => ∃ v,e=.returned (.tuple #[.agg #[.int .i64 q,.int .i64 b,v],.int .i64 0])∧NW w w' v []∧Below w.heap.size w w':=by
  have hu24:=Try.underlying24
  have E1:=Aside0.mk e1
  have HR:=Aside0.mk HC
  have HS:=Aside0.mk hc
  have HB:=Aside0.mk (Below.refl w.heap.size w)
  have HU:=Aside0.mk (show circuit_Unitary.f q b l=some (!false) by unfold circuit_Unitary.f;rw [List.eq_nil_of_length_eq_zero h0];rfl)
  have H0:=Aside0.mk h0
  clear e1 HC hc h0
  go_enter Try.func8,Try.ntmps8
  go_upto_region 2 with (go_at_call 42;(with_reducible refine (invert_checked.calls k1 q b _ _ l _ _ _ _ _ (Kd.C_alloc (Kd.C_alloc HR.out _) _) HS.out E1.out).mono ?_);rintro e w1 ⟨v1,rfl,ho1,hb1⟩;obtain ⟨Ad,cd,rfl⟩:=Kd.S_slice ho1;have HO:=Aside0.mk ho1;have H1:=Aside0.mk hb1;clear ho1 hb1)
  have b2 : (w1.alloc (.cells #[.int .i64 q,.int .i64 b,.slice Ad l.length cd] 24)).heap[w.heap.size + 1]?=some (.cells #[.int .i64 0,.int .i64 0,.slice none 0 0] 24 (0,0)):=by
    refine blk_alloc (blk_below ?_ H1.out) _
    have:=blk_new (w.alloc (.cells #[.int .i64 q,.int .i64 b,.slice A l.length c] 24)) (.cells #[.int .i64 0,.int .i64 0,.slice none 0 0] 24)
    simpa using this
  have bd:=blk_new w1 (.cells #[.int .i64 q,.int .i64 b,.slice Ad l.length cd] 24)
  have hb : Below w.heap.size w (w1.alloc (.cells #[.int .i64 q,.int .i64 b,.slice Ad l.length cd] 24)):=below_alloc (below_step (below_alloc (below_alloc HB.out _) _) H1.out) _
  have HN:=Aside0.mk (Kd.N_alloc (Kd.N_lower (base':=w.heap.size) (Kd.N_mono (Kd.S_N (k46w_S (Kd.S_bound HO.out))) (fun k hk => show w.heap.size≤k∧k≠w.heap.size + 1 by have:=hk.2.1;simp only [World.size_alloc] at this;omega)) (by simp only [World.size_alloc];omega)) (.cells #[.int .i64 q,.int .i64 b,.slice Ad l.length cd] 24))
  obtain ⟨g2,hg2⟩ : ∃ g,g=w.heap.size + 1:=⟨_,rfl⟩
  have ge : w.heap.size≤g2:=by omega
  rw [← hg2] at b2 HN ⊢
  generalize w1.heap.size=gd at bd ⊢
  generalize w1.alloc _=W at b2 bd hb HN ⊢
  clear hg2 H1 HO
  have c0 : W.cell? ⟨g2,0,none⟩=some (.int .i64 0):=by rw [blk_cell b2];rfl
  have c1 : W.cell? ⟨g2,1,none⟩=some (.int .i64 0):=by rw [blk_cell b2];rfl
  have c2 : W.cell? ⟨g2,2,none⟩=some (.slice none 0 0):=by rw [blk_cell b2];rfl
  have f0 : W.frozen? ⟨g2,0,none⟩=false:=blk_frozen b2 0
  have f1 : W.frozen? ⟨g2,1,none⟩=false:=blk_frozen b2 1
  have f2 : W.frozen? ⟨g2,2,none⟩=false:=blk_frozen b2 2
  have BD0:=Aside0.mk bd
  have d0 : W.cell? ⟨gd,0,none⟩=some (.int .i64 q):=by rw [blk_cell bd];rfl
  have d1 : W.cell? ⟨gd,1,none⟩=some (.int .i64 b):=by rw [blk_cell bd];rfl
  have d2 : W.cell? ⟨gd,2,none⟩=some (.slice Ad l.length cd):=by rw [blk_cell bd];rfl
  have B2:=Aside0.mk b2
  have BB:=Aside0.mk hb
  clear b2 bd hb
  go_upto_region 6 with (go_at_call 43;(with_reducible refine (circuit_Unitary.calls q b _ _ l _ _ (k46w_C (Kd.N_reads' HN.out).2.2) (Kd.N_reads' HN.out).2.1 HU.out).mono ?_);rintro e w3 ⟨rfl,hb3⟩)
  replace HN:=Aside0.mk (Kd.N_below HN.out hb3)
  replace B2:=Aside0.mk (blk_below B2.out hb3)
  replace BB:=Aside0.mk (below_step BB.out hb3)
  have BD:=Aside0.mk (show w3.heap[gd]?=some (.cells #[.int .i64 q,.int .i64 b,.slice Ad l.length cd] 24 (0,0)) from blk_below BD0.out hb3)
  clear c0 c1 c2 f0 f1 f2 d0 d1 d2 hb3
  have d2 : w3.cell? ⟨gd,2,none⟩=some (.slice Ad l.length cd):=by rw [blk_cell BD.out];rfl
  go_upto_region 7 with (go_at_call 44;(with_reducible refine (rev_nil _ _ _ _ H0.out).mono ?_);rintro e w4 ⟨rfl,hR4⟩;have R4:=Aside0.mk hR4;clear hR4)
  replace BD:=Aside0.mk (blk_below BD.out R4.out)
  replace B2:=Aside0.mk (blk_below B2.out R4.out)
  replace BB:=Aside0.mk (below_step BB.out R4.out)
  have d2 : w4.cell? ⟨gd,2,none⟩=some (.slice Ad l.length cd):=by rw [blk_cell BD.out];rfl
  have d0 : w4.cell? ⟨gd,0,none⟩=some (.int .i64 q):=by rw [blk_cell BD.out];rfl
  have d1 : w4.cell? ⟨gd,1,none⟩=some (.int .i64 b):=by rw [blk_cell BD.out];rfl
  have c0 : w4.cell? ⟨g2,0,none⟩=some (.int .i64 0):=by rw [blk_cell B2.out];rfl
  have c1 : w4.cell? ⟨g2,1,none⟩=some (.int .i64 0):=by rw [blk_cell B2.out];rfl
  have c2 : w4.cell? ⟨g2,2,none⟩=some (.slice none 0 0):=by rw [blk_cell B2.out];rfl
  have f0 : w4.frozen? ⟨g2,0,none⟩=false:=blk_frozen B2.out 0
  have f1 : w4.frozen? ⟨g2,1,none⟩=false:=blk_frozen B2.out 1
  have f2 : w4.frozen? ⟨g2,2,none⟩=false:=blk_frozen B2.out 2
  have N4:=Aside0.mk (Kd.N_below HN.out R4.out)
  clear BD0 HN
  have hz : (l.length : Int)=0:=by have:=H0.out;omega
  go_wp2_with fail
  go_loopg [27] 0 (fun gk v27 wr => v27=.int .i64 0∧wr=w4)
  case atStart => exact ⟨rfl,rfl⟩
  case round =>
    obtain ⟨rfl,rfl⟩:=hrel
    go_wp2
    refine bodyPost_ret (results_ct rfl _ _ g2 24 #[.int .i64 q,.int .i64 b,.slice Ad l.length cd] (0,0) _ rfl (blk_put (blk_put (blk_put B2.out 0 _ rfl) 1 _ rfl) 2 _ rfl) Try.underlying24 rfl (by kernel_rfl)) rfl ?_
    exact ⟨_,rfl,by have:=List.eq_nil_of_length_eq_zero H0.out;subst this;exact Kd.N_mono (Kd.N_far (p:=⟨g2,2,none⟩) (Kd.N_far (p:=⟨g2,1,none⟩) (Kd.N_far (p:=⟨g2,0,none⟩) N4.out (fun _ hk => hk.2) _) (fun _ hk => hk.2) _) (fun _ hk => hk.2) _) (fun _ hk => hk.1),below_set (below_set (below_set BB.out ge) ge) ge⟩
end Go.Proofs.Ytbelnopbggkdfaa.Q
end

section
namespace Go.Proofs.Ytbelnopbggkdfaa.Q
open Go.RowKit Go.Proofs.YtbelnopbggkdfaaW.PrintWords Go.Proofs.YtbelnopbggkdfaaW.PrintLast Go.Proofs.YtbelnopbggkdfaaW.PrintMore
def Out (w : World) (r : Int × Int × List Opn × Int) (e : Ending) (w' : World) : Prop:=∃ v,e=.returned (.tuple #[.agg #[.int .i64 r.1,.int .i64 r.2.1,v],.int .i64 r.2.2.2])∧NW w w' v r.2.2.1∧Below w.heap.size w w'
def invR (q b : Int) (l : List Opn) : Int × Int × List Opn × Int:=if okc q b l=true then (if l.any isBad=true then (0,0,[],170) else (q,b,l.reverse.map invO,0)) else (0,0,[],80)
theorem inverse_out {q b : Int} {A : Option Addr} {c : Nat} {l : List Opn} {w : World} (HC : Kd.C k46 w A l.length l) (hc : l.length≤c) (hw : WfL l) :
    Calls Try.prog 8 #[.agg #[.int .i64 q,.int .i64 b,.slice A l.length c]] w (Out w (invR q b l)):=by
  obtain ⟨k1,e1⟩:=(ichecked_is (q:=q) (b:=b) hw).get
  unfold invR
  by_cases h : okc q b l=true
  · have hnl : (l.length : Int)≤4096:=by have:=(okc_facts h).n;omega
    rw [if_pos h] at e1 ⊢
    by_cases hb : l.any isBad=true
    · rw [if_pos hb]
      exact inv_bad q b A c l w HC hc k1 e1 hb
    · rw [if_neg hb]
      rw [Bool.not_eq_true] at hb
      by_cases hl : 0 < l.length
      · exact inv_good q b A c l w HC hc k1 e1 hnl hw hl hb
      · obtain rfl : l=[]:=List.eq_nil_of_length_eq_zero (by omega)
        exact inv_nil q b A c [] w HC hc k1 e1 rfl
  · rw [if_neg h] at e1 ⊢
    exact inv_no q b A c l w HC hc k1 e1
structure Bld (base : Nat) (W1 : World) (g2 : Nat) (q b : Int) (s : List Opn) (v : Value) (W : World) : Prop where
  bx : W.heap[W1.heap.size]?=some (.cells #[.int .i64 q,.int .i64 b,v] 24 (0,0))
  row : Kd.N k46w 46 W W1.heap.size (fun k => base≤k∧k≠W1.heap.size∧k≠g2) v s
  hb : Below W1.heap.size W1 W
theorem Bld.below {base : Nat} {W1 : World} {g2 : Nat} {q b : Int} {s : List Opn} {v : Value} {W W' : World} (h : Bld base W1 g2 q b s v W) (hb : Below W.heap.size W W') : Bld base W1 g2 q b s v W' :=
  ⟨blk_below h.bx hb,Kd.N_below h.row hb,h.hb.trans (hb.mono h.hb.size)⟩
theorem Bld.app {base : Nat} {W1 : World} {g2 : Nat} {q b : Int} {s s' : List Opn} {v v' : Value} {W W' : World} (h : Bld base W1 g2 q b s v W)
    (hn : Kd.N k46w 46 W' W1.heap.size (fun k => base≤k∧k≠W1.heap.size∧k≠g2) v' s') (hb : Below W1.heap.size W1 W') (hg : W.grownBy W' v.ownBlock) :
    Bld base W1 g2 q b s' v' (W'.setCell ⟨W1.heap.size,2,none⟩ v'):=by
  have hk : W'.heap[W1.heap.size]?=some (.cells #[.int .i64 q,.int .i64 b,v] 24 (0,0)):=by
    rw [hg.block W1.heap.size (blk_lt h.bx) (fun e => (h.row.1 _ e.symm).2.1 rfl)]
    exact h.bx
  exact ⟨blk_put hk 2 v' rfl,Kd.N_far (p:=⟨W1.heap.size,2,none⟩) hn (fun _ hk => hk.2.1) _,Below.setCell hb (Nat.le_refl _) _⟩
theorem Bld.okp {base : Nat} {W1 : World} {g2 : Nat} {q b : Int} {s : List Opn} {v : Value} {W : World} (h : Bld base W1 g2 q b s v W) (k : Nat) (hk : base≤k∧k≠g2∧k < W1.heap.size) : (base≤k∧k≠W1.heap.size∧k≠g2)∧some k≠v.ownBlock :=
  ⟨⟨hk.1,by omega,hk.2.1⟩,fun e => by have:=Kd.N_base h.row k e.symm;omega⟩
theorem Bld.fresh {base : Nat} {W1 : World} {g2 : Nat} {q b : Int} {s : List Opn} {v : Value} {W : World} (h : Bld base W1 g2 q b s v W) (h1 : base≤W1.heap.size) (h2 : g2 < W1.heap.size) (k : Nat) (hk : W.heap.size≤k) : base≤k∧k≠W1.heap.size∧k≠g2:=by
  have:=blk_lt h.bx
  have:=h.hb.size
  exact ⟨by omega,by omega,by omega⟩
def Src (base g2 B : Nat) (A : Option Addr) (c : Nat) (l : List Opn) (W : World) : Prop:=Kd.N k46w 46 W base (fun k => base≤k∧k≠g2∧k < B) (.slice A l.length c) l
theorem Src.below {base g2 B : Nat} {A : Option Addr} {c : Nat} {l : List Opn} {W W' : World} (h : Src base g2 B A c l W) (hb : Below W.heap.size W W') : Src base g2 B A c l W':=Kd.N_below h hb
theorem Src.up {base g2 B B' : Nat} {A : Option Addr} {c : Nat} {l : List Opn} {W : World} (h : Src base g2 B A c l W) (hb : B≤B') : Src base g2 B' A c l W:=Kd.N_mono h (fun k hk => ⟨hk.1,hk.2.1,by omega⟩)
theorem Src.at {base g2 B : Nat} {A : Option Addr} {c : Nat} {l : List Opn} {W : World} (h : Src base g2 B A c l W) {i : Nat} {x : Opn} (hx : l[i]?=some x) :
    ∃ g A2 c2,A=some ⟨g,0,none⟩∧(∀ (r : Nat) (u : Value),(ofV x A2 c2).cs[r]?=some u→W.cell? ⟨g,i * 6 + r,none⟩=some u)∧Kd.FK k46w W (fun k => base≤k∧k≠g2∧k < B) x (ofV x A2 c2).cs:=by
  have hi:=(List.getElem?_eq_some_iff.1 hx).1
  obtain ⟨g,cap,eA,-⟩:=Kd.N_form h (by omega)
  injection eA with eA _ _
  subst eA
  obtain ⟨cs,hcl,hF,hcc,-⟩:=Kd.N_elem h z46 (i : Int) (by omega) (by omega)
  rw [Int.toNat_natCast] at hF hcc
  have e : l.getD i z46=x:=by rw [List.getD_eq_getElem?_getD,hx];rfl
  rw [e] at hF
  obtain ⟨A2,c2,rfl,_,_,_⟩:=k46w_open (Kd.FK_now hF)
  exact ⟨g,A2,c2,rfl,fun r u hu => hcc r u hu,Kd.FK_mono hF (fun k hk => hk.1)⟩
theorem Src.of {base g2 : Nat} {A : Option Addr} {c : Nat} {l : List Opn} {W W' : World} (ho : Kd.S k46 46 W' W.heap.size (fun _ => True) (.slice A l.length c) l) (h1 : base≤W.heap.size) (h2 : g2 < W.heap.size) : Src base g2 W'.heap.size A c l W' :=
  Kd.N_lower (Kd.N_mono (Kd.S_N (k46w_S (Kd.S_bound ho))) (fun k hk => ⟨by have:=hk.2.1;omega,by have:=hk.2.1;omega,hk.2.2.1⟩)) h1
end Go.Proofs.Ytbelnopbggkdfaa.Q
end

section
namespace Go.Proofs.Ytbelnopbggkdfaa.Q
open Go.RowKit Go.Proofs.YtbelnopbggkdfaaW.PrintWords Go.Proofs.YtbelnopbggkdfaaW.PrintLast Go.Proofs.YtbelnopbggkdfaaW.PrintMore
structure Fr (w : World) (q b : Int) (A : Option Addr) (c : Nat) (l : List Opn) (g2 : Nat) (W : World) : Prop where
  g : g2=w.heap.size + 1
  b1 : W.heap[w.heap.size]?=some (.cells #[.int .i64 q,.int .i64 b,.slice A l.length c] 24 (0,0))
  b2 : W.heap[g2]?=some (.cells #[.int .i64 0,.int .i64 0,.slice none 0 0] 24 (0,0))
  hb : Below w.heap.size w W
  hc0 : Kd.C k46 w A l.length l
theorem Fr.hc {w : World} {q b : Int} {A : Option Addr} {c : Nat} {l : List Opn} {g2 : Nat} {W : World} (h : Fr w q b A c l g2 W) : Kd.C k46 W A l.length l:=Kd.C_below h.hc0 h.hb
theorem Fr.start {w : World} {q b : Int} {A : Option Addr} {c : Nat} {l : List Opn} (hc : Kd.C k46 w A l.length l) :
    Fr w q b A c l (w.heap.size + 1) ((w.alloc (.cells #[.int .i64 q,.int .i64 b,.slice A l.length c] 24)).alloc (.cells #[.int .i64 0,.int .i64 0,.slice none 0 0] 24)):=by
  refine ⟨rfl,blk_alloc (blk_new w _) _,?_,below_alloc (below_alloc (Below.refl _ _) _) _,hc⟩
  have:=blk_new (w.alloc (.cells #[.int .i64 q,.int .i64 b,.slice A l.length c] 24)) (.cells #[.int .i64 0,.int .i64 0,.slice none 0 0] 24)
  simpa using this
theorem Fr.below {w : World} {q b : Int} {A : Option Addr} {c : Nat} {l : List Opn} {g2 : Nat} {W W' : World} (h : Fr w q b A c l g2 W) (hb : Below W.heap.size W W') : Fr w q b A c l g2 W' :=
  ⟨h.g,blk_below h.b1 hb,blk_below h.b2 hb,h.hb.trans (hb.mono h.hb.size),h.hc0⟩
theorem Fr.setOld {w : World} {q b : Int} {A : Option Addr} {c : Nat} {l : List Opn} {g2 : Nat} {W W' : World} (h : Fr w q b A c l g2 W) (hb : Below W.heap.size W W') {x : Addr} (u : Value) (hx : g2 < x.block) : Fr w q b A c l g2 (W'.setCell x u) :=
  ⟨h.g,blk_far (p:=x) (blk_below h.b1 hb) (by have:=h.g;omega) u,blk_far (p:=x) (blk_below h.b2 hb) (by omega) u,Below.setCell (h.hb.trans (hb.mono h.hb.size)) (by have:=h.g;omega) u,h.hc0⟩
theorem Fr.drew {w : World} {q b : Int} {A : Option Addr} {c : Nat} {l : List Opn} {g2 : Nat} {W : World} (h : Fr w q b A c l g2 W) : Fr w q b A c l g2 W.drew:=h.below (below_drew (Below.refl _ _))
theorem Fr.cells {w : World} {q b : Int} {A : Option Addr} {c : Nat} {l : List Opn} {g2 : Nat} {W : World} (h : Fr w q b A c l g2 W) :
    W.cell? ⟨w.heap.size,0,none⟩=some (.int .i64 q)∧W.cell? ⟨w.heap.size,1,none⟩=some (.int .i64 b)∧W.cell? ⟨w.heap.size,2,none⟩=some (.slice A l.length c) ∧
    W.cell? ⟨g2,0,none⟩=some (.int .i64 0)∧W.cell? ⟨g2,1,none⟩=some (.int .i64 0)∧W.cell? ⟨g2,2,none⟩=some (.slice none 0 0) ∧
    W.frozen? ⟨g2,0,none⟩=false∧W.frozen? ⟨g2,1,none⟩=false∧W.frozen? ⟨g2,2,none⟩=false:=by
  refine ⟨?_,?_,?_,?_,?_,?_,blk_frozen h.b2 0,blk_frozen h.b2 1,blk_frozen h.b2 2⟩
  · rw [blk_cell h.b1];rfl
  · rw [blk_cell h.b1];rfl
  · rw [blk_cell h.b1];rfl
  · rw [blk_cell h.b2];rfl
  · rw [blk_cell h.b2];rfl
  · rw [blk_cell h.b2];rfl
theorem Fr.put {w : World} {q b : Int} {A : Option Addr} {c : Nat} {l : List Opn} {g2 : Nat} {W : World} (h : Fr w q b A c l g2 W) (x y : Int) (v : Value) :
    (((W.setCell ⟨g2,0,none⟩ (.int .i64 x)).setCell ⟨g2,1,none⟩ (.int .i64 y)).setCell ⟨g2,2,none⟩ v).heap[g2]?=some (.cells #[.int .i64 x,.int .i64 y,v] 24 (0,0)) :=
  blk_put (blk_put (blk_put h.b2 0 _ rfl) 1 _ rfl) 2 _ rfl
theorem Fr.out {w : World} {q b : Int} {A : Option Addr} {c : Nat} {l : List Opn} {g2 : Nat} {W : World} (h : Fr w q b A c l g2 W) {x y z : Int} {v : Value} {s : List Opn}
    (hn : Kd.N k46w 46 W w.heap.size (fun k => w.heap.size≤k∧k≠g2) v s) :
    Out w (x,y,s,z) (.returned (.tuple #[.agg #[.int .i64 x,.int .i64 y,v],.int .i64 z])) (((W.setCell ⟨g2,0,none⟩ (.int .i64 x)).setCell ⟨g2,1,none⟩ (.int .i64 y)).setCell ⟨g2,2,none⟩ v):=by
  have ge : w.heap.size≤g2:=by have:=h.g;omega
  exact ⟨v,rfl,Kd.N_mono (Kd.N_far (p:=⟨g2,2,none⟩) (Kd.N_far (p:=⟨g2,1,none⟩) (Kd.N_far (p:=⟨g2,0,none⟩) hn (fun _ hk => hk.2) _) (fun _ hk => hk.2) _) (fun _ hk => hk.2) _) (fun _ hk => hk.1),below_set (below_set (below_set h.hb ge) ge) ge⟩
theorem Fr.nil {w : World} {g2 : Nat} {W : World} : Kd.N k46w 46 W w.heap.size (fun k => w.heap.size≤k∧k≠g2) (.slice none 0 0) []:=Kd.N_nil _ _ _ _ _
end Go.Proofs.Ytbelnopbggkdfaa.Q
end

section
namespace Go.Proofs.Ytbelnopbggkdfaa.Q
open Go.RowKit Go.Proofs.YtbelnopbggkdfaaW.PrintWords Go.Proofs.YtbelnopbggkdfaaW.PrintLast Go.Proofs.YtbelnopbggkdfaaW.PrintMore
theorem Fr.fresh {w : World} {q b : Int} {A : Option Addr} {c : Nat} {l : List Opn} {g2 : Nat} {W : World} (h : Fr w q b A c l g2 W) (k : Nat) (hk : W.heap.size≤k) : w.heap.size≤k∧k≠g2:=by
  have:=blk_lt h.b2
  have:=h.hb.size
  exact ⟨by omega,by omega⟩
theorem Bld.form {base : Nat} {W1 : World} {g2 : Nat} {q b : Int} {s : List Opn} {v : Value} {W : World} (h : Bld base W1 g2 q b s v W) : ∃ A n c,v=.slice A n c:=by
  obtain ⟨A,c,e⟩:=Kd.N_slice h.row
  exact ⟨A,_,c,e⟩
theorem Bld.res {w : World} {W1 : World} {g2 : Nat} {q b : Int} {s : List Opn} {v : Value} {W : World} (h : Bld w.heap.size W1 g2 q b s v W) (h1 : w.heap.size≤W1.heap.size) : Kd.N k46w 46 W w.heap.size (fun k => w.heap.size≤k∧k≠g2) v s :=
  Kd.N_lower (Kd.N_mono h.row (fun _ hk => ⟨hk.1,hk.2.2⟩)) h1
section
variable {ops : Array Oper} {rest : List Oper} {o : Oper} {a : Act} {Q : Exit→Act→World→Prop}
theorem Bld.one {base : Nat} {W1 : World} {g2 : Nat} {q b : Int} {s : List Opn} {v : Value} {W : World} (H : Bld base W1 g2 q b s v W) (hgd : o.guard=none) (sl x : Operand)
    (ho : o.op=.call { callee:=.builtin .append,args:=#[sl,x],argTypes:=#[22,22] }) (p : Opn) (cs : List Value) (okp : Nat→Prop)
    (hs : a.eval sl=v) (hx : a.eval x=.slice (some ⟨W.heap.size,0,none⟩) 1 1) (hp : Kd.FK k46w W okp p cs)
    (hokp : ∀ k,okp k→(base≤k∧k≠W1.heap.size∧k≠g2)∧some k≠v.ownBlock) (h1 : base≤W1.heap.size) (h2 : g2 < W1.heap.size) (hl : s.length≤100000000)
    (h : ∀ v1 w1,Bld base W1 g2 q b (s ++ [p]) v1 (w1.setCell ⟨W1.heap.size,2,none⟩ v1)→w1.heap[W1.heap.size]?=some (.cells #[.int .i64 q,.int .i64 b,v] 24 (0,0))→Below W1.heap.size W1 w1 →
      wpList Try.prog ops Q rest (a.put o.dst v1) w1) :
    wpList Try.prog ops Q (o :: rest) a (W.alloc (.cells cs.toArray 46)):=by
  refine Kd.N_append k46w (w0:=W1) W1.heap.size hgd sl x 22 46 (.agg #[.int .i64 0,.int .i64 0,.slice none 0 0,.int .i64 0,.int .i64 0,.int .i64 0]) 64 ho Try.underlying22 info46 rfl (by decide) (by omega) v s p cs (fun k => base≤k∧k≠W1.heap.size∧k≠g2) okp hs hx hp hokp (H.fresh h1 h2) H.row H.hb H.hb.size (by omega) ?_
  intro v1 w1 hn hb hg _
  exact h v1 w1 (H.app hn hb hg) (by
    rw [hg.block W1.heap.size (blk_lt H.bx) (fun e => (H.row.1 _ e.symm).2.1 rfl)]
    exact H.bx) hb
end
end Go.Proofs.Ytbelnopbggkdfaa.Q
end

section
namespace Go.Proofs.Ytbelnopbggkdfaa.Q
open Go.RowKit Go.Proofs.YtbelnopbggkdfaaW.PrintWords Go.Proofs.YtbelnopbggkdfaaW.PrintLast Go.Proofs.YtbelnopbggkdfaaW.PrintMore
def conjF (k : Int) : List Int :=
  if k=3 then [3,2,4,2,4] else if k=5 then [6] else if k=6 then [5] else if k=7 then [8] else if k=8 then [7] else if k=9 then [9,4,2,3]
  else if k=10 then [10,3,2,4] else if k=12 then [12,4] else if k=15 then [16] else if k=16 then [15] else [k]
def conjO (o : Opn) : List Opn:=if o.f0=1 then (conjF o.f1).mapIdx fun i k => { o with f1:=k,f2:=if i=0 then o.f2 else o.f2.take 1 } else [o]
def toldR (q b : Int) (l : List Opn) : Int × Int × List Opn × Int:=if 4096 < l.length then (0,0,[],170) else (q,b,l,0)
def conjR (q b : Int) (l : List Opn) : Int × Int × List Opn × Int:=if okc q b l=true then toldR q b (l.flatMap conjO) else (0,0,[],80)
def mirR (q b : Int) (l : List Opn) : Int × Int × List Opn × Int:=if okc q b l=true then (if l.any isBad=true then (0,0,[],170) else toldR q b (l ++ l.reverse.map invO)) else (0,0,[],80)
def powR (q b : Int) (l : List Opn) (k : Int) : Int × Int × List Opn × Int :=
  if okc q b l=true then
    if k < 0∧l.any isBad=true then (0,0,[],170)
    else if k < -4096∨4096 < k then (0,0,[],170)
    else if 4096 < k.natAbs * l.length then (0,0,[],170)
    else (q,b,(List.replicate k.natAbs (if k < 0 then l.reverse.map invO else l)).flatten,0)
  else (0,0,[],80)
def ctlF (k : Int) : Int:=if k=1 then 1 else if k=2 then 11 else if k=3 then 12 else if k=4 then 13 else if k=11 then 18 else if k=13 then 19 else if k=14 then 20 else 0
def ctlBad (o : Opn) : Bool:=!(o.f0 == 4) && !(o.f0 == 1 && o.f4 == -1 && !(ctlF o.f1 == 0))
def ctlO (q : Int) (o : Opn) : Opn:=if o.f0=4 then o else if o.f1=1 then o else { o with f1:=ctlF o.f1,f2:=q :: o.f2 }
def ctlR (q b : Int) (l : List Opn) : Int × Int × List Opn × Int :=
  if okc q b l=true then
    if 64≤q then (0,0,[],170)
    else if l.any ctlBad=true then (0,0,[],170)
    else (q + 1,b,l.map (ctlO q),0)
  else (0,0,[],80)
end Go.Proofs.Ytbelnopbggkdfaa.Q
end

section
namespace Go.Proofs.Ytbelnopbggkdfaa.Q
open Go.RowKit Go.Proofs.YtbelnopbggkdfaaW.PrintWords Go.Proofs.YtbelnopbggkdfaaW.PrintLast Go.Proofs.YtbelnopbggkdfaaW.PrintMore
attribute [local go_sem] max2_int min2_int max_two min_two max_three min_three max_four min_four   -- for this text's walks alone
set_option linter.unusedVariables false
set_option linter.unusedSimpArgs false
def phasorref08_Copy.l0 : Nat→Int→Int→Int→List (S46)→Int→Int→List (S46)→Option (Int × Int × (List (S46)))
 | 0,_,_,_,_,_,_,_ => none
 | k + 1,x4,x102000,x102001,x102002,x104000,x104001,x104002 => if x4 < (x102002.length : Int) then (if 0≤x4 then (if ([] : List Int).length + ((rd_T46 x102002 x4).f2).length < 17592186044416 then (if x104002.length < 2199023255552 then (phasorref08_Copy.l0 k (wrap64 (x4 + 1)) x102000 x102001 x102002 x104000 x104001 (x104002 ++ [(⟨(rd_T46 x102002 x4).f0,(rd_T46 x102002 x4).f1,(([] : List Int) ++ ((rd_T46 x102002 x4).f2)),(rd_T46 x102002 x4).f3,(rd_T46 x102002 x4).f4,(rd_T46 x102002 x4).f5⟩ : S46)])) else (none)) else (none)) else (none)) else (some (x104000,x104001,x104002))
def phasorref08_Copy.f (k : Nat) (a0_0 : Int) (a0_1 : Int) (l0_2 : List (S46)) : Option (Int × Int × (List (S46))):=phasorref08_Copy.l0 k 0 a0_0 a0_1 l0_2 a0_0 a0_1 ([] : List (S46))
set_option maxHeartbeats 8000000 in
set_option maxRecDepth 100000 in
theorem phasorref08_Copy.calls (k : Nat) (a0_0 : Int) (a0_1 : Int) (A0_2 : Option Addr) (c0_2 : Nat) (l0_2 : List (S46)) (r1 : Int) (r2 : Int) (r3 : List (S46)) (w : World) (hr0_2 : Kd.C k46 w A0_2 l0_2.length l0_2) (hc0_2 : l0_2.length≤c0_2) (h : phasorref08_Copy.f k a0_0 a0_1 l0_2=some (r1,r2,r3)) :
  Calls Try.prog 7 #[.agg #[.int .i64 a0_0,.int .i64 a0_1,.slice A0_2 l0_2.length c0_2]] w fun e w' => ∃ v2_ : Value,e=.returned (.agg #[.int .i64 r1,.int .i64 r2,v2_])∧Kd.S k46 46 w' w.heap.size (fun _ => True) v2_ r3∧Below w.heap.size w w':=by
 have hu24:=Try.underlying24
 have hu46:=Try.underlying46
 have HR0_2:=Aside0.mk hr0_2
 have HC0_2:=Aside0.mk hc0_2
 clear hr0_2 hc0_2
 have HB:=Aside0.mk (Below.refl w.heap.size w)
 have H : (phasorref08_Copy.l0 k 0 a0_0 a0_1 l0_2 a0_0 a0_1 ([] : List (S46)))=some (r1,r2,r3):=h
 clear h
 have H':=Aside0.mk H
 clear H
 go_enter Try.func7,Try.ntmps7
 go_wp2_with (first|((with_reducible refine gate_dst (N:=1) rfl ?_);refine box_event ?hg (N:=1) ?hd (cs:=#[.int .i64 a0_0,.int .i64 a0_1,.slice A0_2 l0_2.length c0_2]) (t:=24) ?hr ?_;(case hd => rfl);(case hg => rfl);(case hr => first|(go_simp;done)|(go_simp;rfl));intro gb101 hg w2 hbox hb;have n0_:=Aside0.mk (below_step (by repeat (first|(with_reducible first|exact HB.out|apply below_alloc|apply pw_below_drewN|apply below_drew1)|exact HB.out)) hb);have n1_:=Aside0.mk (hbox);have n2_:=Aside0.mk ((by rw [hg];exact (below_size (by repeat (first|(with_reducible first|exact HB.out|apply below_alloc|apply pw_below_drewN|apply below_drew1)|exact HB.out))) : w.heap.size≤gb101));have n3_:=Aside0.mk ((by rw [hg];exact (below_size (by repeat (first|(with_reducible first|exact HB.out|apply below_alloc|apply pw_below_drewN|apply below_drew1)|exact HB.out))) : w.heap.size≤gb101));clear HB;have HB:=n0_;have BK101:=n1_;have GW101:=n2_;have GE101:=n3_;clear n0_ n1_ n2_ n3_;clear hb hbox hg)|((with_reducible refine gate_dst (N:=2) rfl ?_);refine box_event ?hg (N:=2) ?hd (cs:=#[.int .i64 0,.int .i64 0,.slice none 0 0]) (t:=24) ?hr ?_;(case hd => rfl);(case hg => rfl);(case hr => first|(go_simp;done)|(go_simp;rfl));intro gb102 hg w3 hbox hb;have n0_:=Aside0.mk (blk_below (g:=gb101) (o:=.cells #[.int .i64 a0_0,.int .i64 a0_1,.slice A0_2 l0_2.length c0_2] 24 (0,0)) (by (with_reducible repeat (first|refine blk_drewN ?_ _|refine blk_drew ?_|refine blk_alloc ?_ _));exact BK101.out) hb);have n1_:=Aside0.mk (below_step (by repeat (first|(with_reducible first|exact HB.out|apply below_alloc|apply pw_below_drewN|apply below_drew1|refine below_set ?_ GE101.out)|exact HB.out)) hb);have n2_:=Aside0.mk (hbox);have n3_:=Aside0.mk ((by rw [hg];exact (below_size (by repeat (first|(with_reducible first|exact HB.out|apply below_alloc|apply pw_below_drewN|apply below_drew1|refine below_set ?_ GE101.out)|exact HB.out))) : w.heap.size≤gb102));have n4_:=Aside0.mk ((by rw [hg];exact (below_size (by repeat (first|(with_reducible first|exact HB.out|apply below_alloc|apply pw_below_drewN|apply below_drew1|refine below_set ?_ GE101.out)|exact HB.out))) : w.heap.size≤gb102));have n5_:=Aside0.mk ((by rw [hg];exact Nat.ne_of_lt (blk_lt (g:=gb101) (o:=.cells #[.int .i64 a0_0,.int .i64 a0_1,.slice A0_2 l0_2.length c0_2] 24 (0,0)) (by (with_reducible repeat (first|refine blk_drewN ?_ _|refine blk_drew ?_|refine blk_alloc ?_ _));exact BK101.out)) : gb101≠gb102));have n6_:=Aside0.mk ((by rw [hg];exact Nat.ne_of_gt (blk_lt (g:=gb101) (o:=.cells #[.int .i64 a0_0,.int .i64 a0_1,.slice A0_2 l0_2.length c0_2] 24 (0,0)) (by (with_reducible repeat (first|refine blk_drewN ?_ _|refine blk_drew ?_|refine blk_alloc ?_ _));exact BK101.out)) : gb102≠gb101));clear BK101;clear HB;have BK101:=n0_;have HB:=n1_;have BK102:=n2_;have GW102:=n3_;have GE102:=n4_;have NB101_102:=n5_;have NB102_101:=n6_;clear n0_ n1_ n2_ n3_ n4_ n5_ n6_;clear hb hbox hg;have hnb4:=NB101_102.out;have hnc4:=NB102_101.out;have hcz5_0 : w3.cell? ⟨gb101,0,none⟩=some (.int .i64 a0_0):=(blk_cell BK101.out 0).trans rfl;have hcz5_1 : w3.cell? ⟨gb101,1,none⟩=some (.int .i64 a0_1):=(blk_cell BK101.out 1).trans rfl;have hcz5_2 : w3.cell? ⟨gb101,2,none⟩=some (.slice A0_2 l0_2.length c0_2):=(blk_cell BK101.out 2).trans rfl;have hfz5_0:=blk_frozen BK101.out 0;have hfz5_1:=blk_frozen BK101.out 1;have hfz5_2:=blk_frozen BK101.out 2)|((with_reducible refine gate_dst (N:=3) rfl ?_);refine box_event ?hg (N:=3) ?hd (cs:=#[.int .i64 0,.int .i64 0,.slice none 0 0]) (t:=24) ?hr ?_;(case hd => rfl);(case hg => rfl);(case hr => first|(go_simp;done)|(go_simp;rfl));intro gb103 hg w6 hbox hb;have n0_:=Aside0.mk (blk_below (g:=gb101) (o:=.cells #[.int .i64 a0_0,.int .i64 a0_1,.slice A0_2 l0_2.length c0_2] 24 (0,0)) (by (with_reducible repeat (first|refine blk_drewN ?_ _|refine blk_drew ?_|refine blk_alloc ?_ _));exact BK101.out) hb);have n1_:=Aside0.mk (blk_below (g:=gb102) (o:=.cells #[.int .i64 0,.int .i64 0,.slice none 0 0] 24 (0,0)) (by (with_reducible repeat (first|refine blk_drewN ?_ _|refine blk_drew ?_|refine blk_alloc ?_ _));exact BK102.out) hb);have n2_:=Aside0.mk (below_step (by repeat (first|(with_reducible first|exact HB.out|apply below_alloc|apply pw_below_drewN|apply below_drew1|refine below_set ?_ GE101.out|refine below_set ?_ GE102.out)|exact HB.out)) hb);have n3_:=Aside0.mk (hbox);have n4_:=Aside0.mk ((by rw [hg];exact (below_size (by repeat (first|(with_reducible first|exact HB.out|apply below_alloc|apply pw_below_drewN|apply below_drew1|refine below_set ?_ GE101.out|refine below_set ?_ GE102.out)|exact HB.out))) : w.heap.size≤gb103));have n5_:=Aside0.mk ((by rw [hg];exact (below_size (by repeat (first|(with_reducible first|exact HB.out|apply below_alloc|apply pw_below_drewN|apply below_drew1|refine below_set ?_ GE101.out|refine below_set ?_ GE102.out)|exact HB.out))) : w.heap.size≤gb103));have n6_:=Aside0.mk ((by rw [hg];exact Nat.ne_of_lt (blk_lt (g:=gb101) (o:=.cells #[.int .i64 a0_0,.int .i64 a0_1,.slice A0_2 l0_2.length c0_2] 24 (0,0)) (by (with_reducible repeat (first|refine blk_drewN ?_ _|refine blk_drew ?_|refine blk_alloc ?_ _));exact BK101.out)) : gb101≠gb103));have n7_:=Aside0.mk ((by rw [hg];exact Nat.ne_of_gt (blk_lt (g:=gb101) (o:=.cells #[.int .i64 a0_0,.int .i64 a0_1,.slice A0_2 l0_2.length c0_2] 24 (0,0)) (by (with_reducible repeat (first|refine blk_drewN ?_ _|refine blk_drew ?_|refine blk_alloc ?_ _));exact BK101.out)) : gb103≠gb101));have n8_:=Aside0.mk ((by rw [hg];exact Nat.ne_of_lt (blk_lt (g:=gb102) (o:=.cells #[.int .i64 0,.int .i64 0,.slice none 0 0] 24 (0,0)) (by (with_reducible repeat (first|refine blk_drewN ?_ _|refine blk_drew ?_|refine blk_alloc ?_ _));exact BK102.out)) : gb102≠gb103));have n9_:=Aside0.mk ((by rw [hg];exact Nat.ne_of_gt (blk_lt (g:=gb102) (o:=.cells #[.int .i64 0,.int .i64 0,.slice none 0 0] 24 (0,0)) (by (with_reducible repeat (first|refine blk_drewN ?_ _|refine blk_drew ?_|refine blk_alloc ?_ _));exact BK102.out)) : gb103≠gb102));clear BK101;clear BK102;clear HB;have BK101:=n0_;have BK102:=n1_;have HB:=n2_;have BK103:=n3_;have GW103:=n4_;have GE103:=n5_;have NB101_103:=n6_;have NB103_101:=n7_;have NB102_103:=n8_;have NB103_102:=n9_;clear n0_ n1_ n2_ n3_ n4_ n5_ n6_ n7_ n8_ n9_;clear hb hbox hg;have hnb7:=NB103_101.out;have hnc7:=NB101_103.out;have hnb8:=NB103_102.out;have hnc8:=NB102_103.out;have hcz9_0 : w6.cell? ⟨gb103,0,none⟩=some (.int .i64 0):=(blk_cell BK103.out 0).trans rfl;have hcz9_1 : w6.cell? ⟨gb103,1,none⟩=some (.int .i64 0):=(blk_cell BK103.out 1).trans rfl;have hcz9_2 : w6.cell? ⟨gb103,2,none⟩=some (.slice none 0 0):=(blk_cell BK103.out 2).trans rfl;have hfz9_0:=blk_frozen BK103.out 0;have hfz9_1:=blk_frozen BK103.out 1;have hfz9_2:=blk_frozen BK103.out 2))
 go_loopg [4] k (fun kq v4 w' => ∃ (x4_1 : Int) (x104002_1 : List (S46)) (u104002 : Value),v4=.int .i64 x4_1∧Aside0 (phasorref08_Copy.l0 kq x4_1 a0_0 a0_1 l0_2 a0_0 a0_1 x104002_1=some (r1,r2,r3))∧Aside0 (kq≤k)∧Aside0 (Kd.S k46 46 w' w.heap.size (fun _ => True) u104002 x104002_1)∧Aside0 (w'.heap[gb101]?=some (.cells #[.int .i64 a0_0,.int .i64 a0_1,(.slice A0_2 l0_2.length c0_2)] 24 (0,0)))∧Aside0 (w'.heap[gb102]?=some (.cells #[.int .i64 0,.int .i64 0,(.slice none 0 0)] 24 (0,0)))∧Aside0 (w'.heap[gb103]?=some (.cells #[.int .i64 a0_0,.int .i64 a0_1,u104002] 24 (0,0)))∧Aside0 (Below w.heap.size w w'))
 case atStart => exact ⟨(0),(([] : List (S46))),(.slice none 0 0),(by first|rfl|(simp;done)|(simp [*];done)),H',⟨Nat.le_refl _⟩,⟨by first|exact Kd.S_nil _ _ _ _ _|exact Kd.N_nil _ _ _ _ _|exact Kd.V_nil _ _ _ _ _|exact Kd.Q_nil _ _ _ _ _|exact Kd.R_nil _ _ _ _ _⟩,⟨by (with_reducible repeat (first|refine blk_drewN ?_ _|refine blk_drew ?_|refine blk_alloc ?_ _));refine blk_far ?_ NB101_103.out _;(with_reducible repeat (first|refine blk_drewN ?_ _|refine blk_drew ?_|refine blk_alloc ?_ _));refine blk_far ?_ NB101_103.out _;(with_reducible repeat (first|refine blk_drewN ?_ _|refine blk_drew ?_|refine blk_alloc ?_ _));refine blk_far ?_ NB101_103.out _;(with_reducible repeat (first|refine blk_drewN ?_ _|refine blk_drew ?_|refine blk_alloc ?_ _));exact BK101.out⟩,⟨by (with_reducible repeat (first|refine blk_drewN ?_ _|refine blk_drew ?_|refine blk_alloc ?_ _));refine blk_far ?_ NB102_103.out _;(with_reducible repeat (first|refine blk_drewN ?_ _|refine blk_drew ?_|refine blk_alloc ?_ _));refine blk_far ?_ NB102_103.out _;(with_reducible repeat (first|refine blk_drewN ?_ _|refine blk_drew ?_|refine blk_alloc ?_ _));refine blk_far ?_ NB102_103.out _;(with_reducible repeat (first|refine blk_drewN ?_ _|refine blk_drew ?_|refine blk_alloc ?_ _));exact BK102.out⟩,⟨by (with_reducible repeat (first|refine blk_drewN ?_ _|refine blk_drew ?_|refine blk_alloc ?_ _));refine blk_put (cs:=#[.int .i64 a0_0,.int .i64 a0_1,.slice none 0 0]) ?_ 2 _ rfl;(with_reducible repeat (first|refine blk_drewN ?_ _|refine blk_drew ?_|refine blk_alloc ?_ _));refine blk_put (cs:=#[.int .i64 a0_0,.int .i64 0,.slice none 0 0]) ?_ 1 _ rfl;(with_reducible repeat (first|refine blk_drewN ?_ _|refine blk_drew ?_|refine blk_alloc ?_ _));refine blk_put (cs:=#[.int .i64 0,.int .i64 0,.slice none 0 0]) ?_ 0 _ rfl;(with_reducible repeat (first|refine blk_drewN ?_ _|refine blk_drew ?_|refine blk_alloc ?_ _));exact BK103.out⟩,⟨by repeat (first|(with_reducible first|exact HB.out|apply below_alloc|apply pw_below_drewN|apply below_drew1|refine below_set ?_ GE101.out|refine below_set ?_ GE102.out|refine below_set ?_ GE103.out)|exact HB.out)⟩⟩
 case round =>
  clear H'
  try clear p2
  try clear c4
  try clear c7
  try clear c8
  try clear hcz5_0
  try clear hcz5_1
  try clear hcz5_2
  try clear hcz9_0
  try clear hcz9_1
  try clear hcz9_2
  try clear hfz5_0
  try clear hfz5_1
  try clear hfz5_2
  try clear hfz9_0
  try clear hfz9_1
  try clear hfz9_2
  obtain ⟨x4_1,x104002_1,u104002,rfl,HA,HK1,HO_104002,BK101,BK102,BK103,HB⟩:=hrel
  cases gk with
  | zero => exact absurd HA.out (by simp [phasorref08_Copy.l0])
  | succ k1 =>
   have H:=HA.out
   clear HA
   simp only [phasorref08_Copy.l0] at H
   by_cases c10 : x4_1 < (l0_2.length : Int)
   ·rw [if_pos c10] at H
    have c10b0 : decide (x4_1 < (l0_2.length : Int))=true:=decide_eq_true c10
    clear c10
    by_cases c11 : 0≤x4_1
    ·rw [if_pos c11] at H
     have c11b0 : decide (0≤x4_1)=true:=decide_eq_true c11
     clear c11
     by_cases c12 : ([] : List Int).length + ((rd_T46 l0_2 x4_1).f2).length < 17592186044416
     ·rw [if_pos c12] at H
      have LMc12:=Aside0.mk c12
      clear c12
      obtain ⟨y106,hy106⟩ : ∃ y_ : List Int,y_=(([] : List Int) ++ ((rd_T46 l0_2 x4_1).f2)):=⟨_,rfl⟩
      replace H : (if x104002_1.length < 2199023255552 then (phasorref08_Copy.l0 k1 (wrap64 (x4_1 + 1)) a0_0 a0_1 l0_2 a0_0 a0_1 (x104002_1 ++ [(⟨(rd_T46 l0_2 x4_1).f0,(rd_T46 l0_2 x4_1).f1,y106,(rd_T46 l0_2 x4_1).f3,(rd_T46 l0_2 x4_1).f4,(rd_T46 l0_2 x4_1).f5⟩ : S46)])) else (none))=some (r1,r2,r3):=by first|(rw [hy106];with_reducible exact H)|(have H2_:=(Option.bind_some _ _).symm.trans H;rw [hy106];with_reducible exact H2_)|(have H2_:=(Option.bind_some _ _).symm.trans H;with_reducible exact H2_)|with_reducible exact H|(rw [hy106];exact H)|exact H
      have Ny106:=Aside0.mk hy106
      clear hy106
      by_cases c13 : x104002_1.length < 2199023255552
      ·rw [if_pos c13] at H
       have LMc13:=Aside0.mk c13
       clear c13
       obtain ⟨y109,hy109⟩ : ∃ y_ : List (S46),y_=(x104002_1 ++ [(⟨(rd_T46 l0_2 x4_1).f0,(rd_T46 l0_2 x4_1).f1,y106,(rd_T46 l0_2 x4_1).f3,(rd_T46 l0_2 x4_1).f4,(rd_T46 l0_2 x4_1).f5⟩ : S46)]):=⟨_,rfl⟩
       replace H : (phasorref08_Copy.l0 k1 (wrap64 (x4_1 + 1)) a0_0 a0_1 l0_2 a0_0 a0_1 y109)=some (r1,r2,r3):=by first|(rw [hy109];with_reducible exact H)|(have H2_:=(Option.bind_some _ _).symm.trans H;rw [hy109];with_reducible exact H2_)|(have H2_:=(Option.bind_some _ _).symm.trans H;with_reducible exact H2_)|with_reducible exact H|(rw [hy109];exact H)|exact H
       have Ny109:=Aside0.mk hy109
       clear hy109
       have H':=Aside0.mk H
       clear H
       have hnb14:=NB101_102.out
       have hnc14:=NB102_101.out
       have hnb15:=NB101_103.out
       have hnc15:=NB103_101.out
       have hcz16_0 : wr.cell? ⟨gb101,0,none⟩=some (.int .i64 a0_0):=(blk_cell BK101.out 0).trans rfl
       have hcz16_1 : wr.cell? ⟨gb101,1,none⟩=some (.int .i64 a0_1):=(blk_cell BK101.out 1).trans rfl
       have hcz16_2 : wr.cell? ⟨gb101,2,none⟩=some (.slice A0_2 l0_2.length c0_2):=(blk_cell BK101.out 2).trans rfl
       have hfz16_0:=blk_frozen BK101.out 0
       have hfz16_1:=blk_frozen BK101.out 1
       have hfz16_2:=blk_frozen BK101.out 2
       have p104 : 0≤(x4_1 : Int):=of_decide_eq_true (by first|(with_reducible assumption)|assumption)
       have q104 : x4_1 < (l0_2.length : Int):=of_decide_eq_true (by first|(with_reducible assumption)|assumption)
       obtain ⟨ad104,A104_2,c104_2,e104,hx104_0,hx104_1,hx104_2,hx104_3,hx104_4,hx104_5,hl104_2,hi104_2⟩:=at_T46 HR0_2.out x4_1 p104 q104
       cases e104
       replace hx104_0:=(HB.out.cell (World.block_lt_of_cell? w _ hx104_0)).trans hx104_0
       replace hx104_1:=(HB.out.cell (World.block_lt_of_cell? w _ hx104_1)).trans hx104_1
       replace hx104_2:=(HB.out.cell (World.block_lt_of_cell? w _ hx104_2)).trans hx104_2
       replace hx104_3:=(HB.out.cell (World.block_lt_of_cell? w _ hx104_3)).trans hx104_3
       replace hx104_4:=(HB.out.cell (World.block_lt_of_cell? w _ hx104_4)).trans hx104_4
       replace hx104_5:=(HB.out.cell (World.block_lt_of_cell? w _ hx104_5)).trans hx104_5
       have HR104_2:=Aside0.mk hi104_2
       have HC104_2:=Aside0.mk hl104_2
       clear hi104_2 hl104_2
       replace p104:=eq_true p104
       replace q104:=eq_true q104
       go_wp2_with (first|((with_reducible refine gate_dst (N:=5) rfl ?_);refine box_event ?hg (N:=5) ?hd (cs:=#[.int .i64 0,.int .i64 0,.slice none 0 0,.int .i64 0,.int .i64 0,.int .i64 0]) (t:=46) ?hr ?_;(case hd => rfl);(case hg => rfl);(case hr => first|(go_simp;done)|(go_simp;rfl));intro gb105 hg w17 hbox hb;have n0_:=Aside0.mk (Kd.S_below (Kd.S_elderB (by (with_reducible repeat (first|apply Kd.S_alloc|apply Kd.S_drewN|apply Kd.S_drew));exact HO_104002.out) gb105 (Nat.le_of_eq hg.symm)) hb);have n1_:=Aside0.mk (blk_below (g:=gb101) (o:=.cells #[.int .i64 a0_0,.int .i64 a0_1,.slice (some ad104) l0_2.length c0_2] 24 (0,0)) (by (with_reducible repeat (first|refine blk_drewN ?_ _|refine blk_drew ?_|refine blk_alloc ?_ _));exact BK101.out) hb);have n2_:=Aside0.mk (blk_below (g:=gb102) (o:=.cells #[.int .i64 0,.int .i64 0,.slice none 0 0] 24 (0,0)) (by (with_reducible repeat (first|refine blk_drewN ?_ _|refine blk_drew ?_|refine blk_alloc ?_ _));exact BK102.out) hb);have n3_:=Aside0.mk (blk_below (g:=gb103) (o:=.cells #[.int .i64 a0_0,.int .i64 a0_1,u104002] 24 (0,0)) (by (with_reducible repeat (first|refine blk_drewN ?_ _|refine blk_drew ?_|refine blk_alloc ?_ _));exact BK103.out) hb);have n4_:=Aside0.mk (below_step (by repeat (first|(with_reducible first|exact HB.out|apply below_alloc|apply pw_below_drewN|apply below_drew1|refine below_set ?_ GE101.out|refine below_set ?_ GE102.out|refine below_set ?_ GE103.out)|exact HB.out)) hb);have n5_:=Aside0.mk (hbox);have n6_:=Aside0.mk ((by rw [hg];exact (below_size (by repeat (first|(with_reducible first|exact HB.out|apply below_alloc|apply pw_below_drewN|apply below_drew1|refine below_set ?_ GE101.out|refine below_set ?_ GE102.out|refine below_set ?_ GE103.out)|exact HB.out))) : w.heap.size≤gb105));have n7_:=Aside0.mk ((by rw [hg];exact (below_size (by repeat (first|(with_reducible first|exact HB.out|apply below_alloc|apply pw_below_drewN|apply below_drew1|refine below_set ?_ GE101.out|refine below_set ?_ GE102.out|refine below_set ?_ GE103.out)|exact HB.out))) : w.heap.size≤gb105));have n8_:=Aside0.mk ((by rw [hg];exact Nat.ne_of_lt (blk_lt (g:=gb101) (o:=.cells #[.int .i64 a0_0,.int .i64 a0_1,.slice (some ad104) l0_2.length c0_2] 24 (0,0)) (by (with_reducible repeat (first|refine blk_drewN ?_ _|refine blk_drew ?_|refine blk_alloc ?_ _));exact BK101.out)) : gb101≠gb105));have n9_:=Aside0.mk ((by rw [hg];exact Nat.ne_of_gt (blk_lt (g:=gb101) (o:=.cells #[.int .i64 a0_0,.int .i64 a0_1,.slice (some ad104) l0_2.length c0_2] 24 (0,0)) (by (with_reducible repeat (first|refine blk_drewN ?_ _|refine blk_drew ?_|refine blk_alloc ?_ _));exact BK101.out)) : gb105≠gb101));have n10_:=Aside0.mk ((by rw [hg];exact Nat.ne_of_lt (blk_lt (g:=gb102) (o:=.cells #[.int .i64 0,.int .i64 0,.slice none 0 0] 24 (0,0)) (by (with_reducible repeat (first|refine blk_drewN ?_ _|refine blk_drew ?_|refine blk_alloc ?_ _));exact BK102.out)) : gb102≠gb105));have n11_:=Aside0.mk ((by rw [hg];exact Nat.ne_of_gt (blk_lt (g:=gb102) (o:=.cells #[.int .i64 0,.int .i64 0,.slice none 0 0] 24 (0,0)) (by (with_reducible repeat (first|refine blk_drewN ?_ _|refine blk_drew ?_|refine blk_alloc ?_ _));exact BK102.out)) : gb105≠gb102));have n12_:=Aside0.mk ((by rw [hg];exact Nat.ne_of_lt (blk_lt (g:=gb103) (o:=.cells #[.int .i64 a0_0,.int .i64 a0_1,u104002] 24 (0,0)) (by (with_reducible repeat (first|refine blk_drewN ?_ _|refine blk_drew ?_|refine blk_alloc ?_ _));exact BK103.out)) : gb103≠gb105));have n13_:=Aside0.mk ((by rw [hg];exact Nat.ne_of_gt (blk_lt (g:=gb103) (o:=.cells #[.int .i64 a0_0,.int .i64 a0_1,u104002] 24 (0,0)) (by (with_reducible repeat (first|refine blk_drewN ?_ _|refine blk_drew ?_|refine blk_alloc ?_ _));exact BK103.out)) : gb105≠gb103));clear HO_104002;clear BK101;clear BK102;clear BK103;clear HB;have HO_104002:=n0_;have BK101:=n1_;have BK102:=n2_;have BK103:=n3_;have HB:=n4_;have BK105:=n5_;have GW105:=n6_;have GE105:=n7_;have NB101_105:=n8_;have NB105_101:=n9_;have NB102_105:=n10_;have NB105_102:=n11_;have NB103_105:=n12_;have NB105_103:=n13_;clear n0_ n1_ n2_ n3_ n4_ n5_ n6_ n7_ n8_ n9_ n10_ n11_ n12_ n13_;clear hb hbox hg;have hnb18:=NB105_101.out;have hnc18:=NB101_105.out;have hnb19:=NB105_102.out;have hnc19:=NB102_105.out;have hnb20:=NB105_103.out;have hnc20:=NB103_105.out;have hcz21_0 : w17.cell? ⟨gb105,0,none⟩=some (.int .i64 0):=(blk_cell BK105.out 0).trans rfl;have hcz21_1 : w17.cell? ⟨gb105,1,none⟩=some (.int .i64 0):=(blk_cell BK105.out 1).trans rfl;have hcz21_2 : w17.cell? ⟨gb105,2,none⟩=some (.slice none 0 0):=(blk_cell BK105.out 2).trans rfl;have hcz21_3 : w17.cell? ⟨gb105,3,none⟩=some (.int .i64 0):=(blk_cell BK105.out 3).trans rfl;have hcz21_4 : w17.cell? ⟨gb105,4,none⟩=some (.int .i64 0):=(blk_cell BK105.out 4).trans rfl;have hcz21_5 : w17.cell? ⟨gb105,5,none⟩=some (.int .i64 0):=(blk_cell BK105.out 5).trans rfl;have hfz21_0:=blk_frozen BK105.out 0;have hfz21_1:=blk_frozen BK105.out 1;have hfz21_2:=blk_frozen BK105.out 2;have hfz21_3:=blk_frozen BK105.out 3;have hfz21_4:=blk_frozen BK105.out 4;have hfz21_5:=blk_frozen BK105.out 5)|((with_reducible refine gate_builtin (b:=.append) (xs:=#[.tmp 24,.tmp 26]) rfl ?_);at_builtin;refine Kd.R_append_rows (Kd.int .i64) (w0:=w) w.heap.size rfl (.tmp 24) (.tmp 26) 37 3 (.int .i64 0) 8 rfl Try.underlying37 info3 rfl (by decide) (by omega) (.slice none 0 0) ([] : List Int) ((rd_T46 l0_2 x4_1).f2) _ _ _ (fun _ => True) (fun _ => False) rfl rfl ?aO ?aR (fun _ _ h => h) (fun _ h => h.elim) ?aF ?aB ?aS ?aL ?_;(case aR => exact Kd.C_below HR104_2.out (by repeat (first|(with_reducible first|exact HB.out|apply below_alloc|apply pw_below_drewN|apply below_drew1|refine below_set ?_ GE101.out|refine below_set ?_ GE102.out|refine below_set ?_ GE103.out|refine below_set ?_ GE105.out)|exact HB.out)));(case aB => exact (by repeat (first|(with_reducible first|exact HB.out|apply below_alloc|apply pw_below_drewN|apply below_drew1|refine below_set ?_ GE101.out|refine below_set ?_ GE102.out|refine below_set ?_ GE103.out|refine below_set ?_ GE105.out)|exact HB.out)));(case aF => exact (fun _ _ => trivial));(case aO => exact ((Kd.R_nil _ _ _ _ (fun _ => True))));(case aS => exact (below_size (by repeat (first|(with_reducible first|exact HB.out|apply below_alloc|apply pw_below_drewN|apply below_drew1|refine below_set ?_ GE101.out|refine below_set ?_ GE102.out|refine below_set ?_ GE103.out|refine below_set ?_ GE105.out)|exact HB.out))));(case aL => have:=LMc12.out;omega);intro v107 w22 ho hb hg hat;rw [← Ny106.out] at ho;have n0_:=Aside0.mk (Kd.S_after (Kd.S_apart_nil (by (with_reducible repeat (first|apply Kd.S_alloc|apply Kd.S_drewN|apply Kd.S_drew));exact (Kd.S_mono (Kd.S_far (p:=⟨gb105,5,none⟩) (Kd.S_far (p:=⟨gb105,4,none⟩) (Kd.S_far (p:=⟨gb105,3,none⟩) (Kd.S_far (p:=⟨gb105,2,none⟩) (Kd.S_far (p:=⟨gb105,1,none⟩) (Kd.S_far (p:=⟨gb105,0,none⟩) (Kd.S_mono HO_104002.out (fun k_ hk => (⟨hk,hk.2⟩ : _∧k_≠gb105))) (fun _ hk => hk.2) (.int .i64 ((rd_T46 l0_2 x4_1).f0))) (fun _ hk => hk.2) (.int .i64 ((rd_T46 l0_2 x4_1).f1))) (fun _ hk => hk.2) (.slice A104_2 ((rd_T46 l0_2 x4_1).f2).length c104_2)) (fun _ hk => hk.2) (.int .i64 ((rd_T46 l0_2 x4_1).f3))) (fun _ hk => hk.2) (.int .i64 ((rd_T46 l0_2 x4_1).f4))) (fun _ hk => hk.2) (.int .i64 ((rd_T46 l0_2 x4_1).f5))) (fun _ h_ => h_.1)))) hg hat);have n1_:=Aside0.mk (blk_grown (g:=gb101) (o:=.cells #[.int .i64 a0_0,.int .i64 a0_1,.slice (some ad104) l0_2.length c0_2] 24 (0,0)) (by (with_reducible repeat (first|refine blk_drewN ?_ _|refine blk_drew ?_|refine blk_alloc ?_ _));refine blk_far ?_ NB101_105.out _;(with_reducible repeat (first|refine blk_drewN ?_ _|refine blk_drew ?_|refine blk_alloc ?_ _));refine blk_far ?_ NB101_105.out _;(with_reducible repeat (first|refine blk_drewN ?_ _|refine blk_drew ?_|refine blk_alloc ?_ _));refine blk_far ?_ NB101_105.out _;(with_reducible repeat (first|refine blk_drewN ?_ _|refine blk_drew ?_|refine blk_alloc ?_ _));refine blk_far ?_ NB101_105.out _;(with_reducible repeat (first|refine blk_drewN ?_ _|refine blk_drew ?_|refine blk_alloc ?_ _));refine blk_far ?_ NB101_105.out _;(with_reducible repeat (first|refine blk_drewN ?_ _|refine blk_drew ?_|refine blk_alloc ?_ _));refine blk_far ?_ NB101_105.out _;(with_reducible repeat (first|refine blk_drewN ?_ _|refine blk_drew ?_|refine blk_alloc ?_ _));exact BK101.out) hg (by simp [Value.ownBlock]));have n2_:=Aside0.mk (blk_grown (g:=gb102) (o:=.cells #[.int .i64 0,.int .i64 0,.slice none 0 0] 24 (0,0)) (by (with_reducible repeat (first|refine blk_drewN ?_ _|refine blk_drew ?_|refine blk_alloc ?_ _));refine blk_far ?_ NB102_105.out _;(with_reducible repeat (first|refine blk_drewN ?_ _|refine blk_drew ?_|refine blk_alloc ?_ _));refine blk_far ?_ NB102_105.out _;(with_reducible repeat (first|refine blk_drewN ?_ _|refine blk_drew ?_|refine blk_alloc ?_ _));refine blk_far ?_ NB102_105.out _;(with_reducible repeat (first|refine blk_drewN ?_ _|refine blk_drew ?_|refine blk_alloc ?_ _));refine blk_far ?_ NB102_105.out _;(with_reducible repeat (first|refine blk_drewN ?_ _|refine blk_drew ?_|refine blk_alloc ?_ _));refine blk_far ?_ NB102_105.out _;(with_reducible repeat (first|refine blk_drewN ?_ _|refine blk_drew ?_|refine blk_alloc ?_ _));refine blk_far ?_ NB102_105.out _;(with_reducible repeat (first|refine blk_drewN ?_ _|refine blk_drew ?_|refine blk_alloc ?_ _));exact BK102.out) hg (by simp [Value.ownBlock]));have n3_:=Aside0.mk (blk_grown (g:=gb103) (o:=.cells #[.int .i64 a0_0,.int .i64 a0_1,u104002] 24 (0,0)) (by (with_reducible repeat (first|refine blk_drewN ?_ _|refine blk_drew ?_|refine blk_alloc ?_ _));refine blk_far ?_ NB103_105.out _;(with_reducible repeat (first|refine blk_drewN ?_ _|refine blk_drew ?_|refine blk_alloc ?_ _));refine blk_far ?_ NB103_105.out _;(with_reducible repeat (first|refine blk_drewN ?_ _|refine blk_drew ?_|refine blk_alloc ?_ _));refine blk_far ?_ NB103_105.out _;(with_reducible repeat (first|refine blk_drewN ?_ _|refine blk_drew ?_|refine blk_alloc ?_ _));refine blk_far ?_ NB103_105.out _;(with_reducible repeat (first|refine blk_drewN ?_ _|refine blk_drew ?_|refine blk_alloc ?_ _));refine blk_far ?_ NB103_105.out _;(with_reducible repeat (first|refine blk_drewN ?_ _|refine blk_drew ?_|refine blk_alloc ?_ _));refine blk_far ?_ NB103_105.out _;(with_reducible repeat (first|refine blk_drewN ?_ _|refine blk_drew ?_|refine blk_alloc ?_ _));exact BK103.out) hg (by simp [Value.ownBlock]));have n4_:=Aside0.mk (blk_grown (g:=gb105) (o:=.cells #[.int .i64 ((rd_T46 l0_2 x4_1).f0),.int .i64 ((rd_T46 l0_2 x4_1).f1),.slice A104_2 ((rd_T46 l0_2 x4_1).f2).length c104_2,.int .i64 ((rd_T46 l0_2 x4_1).f3),.int .i64 ((rd_T46 l0_2 x4_1).f4),.int .i64 ((rd_T46 l0_2 x4_1).f5)] 46 (0,0)) (by (with_reducible repeat (first|refine blk_drewN ?_ _|refine blk_drew ?_|refine blk_alloc ?_ _));refine blk_put (cs:=#[.int .i64 ((rd_T46 l0_2 x4_1).f0),.int .i64 ((rd_T46 l0_2 x4_1).f1),.slice A104_2 ((rd_T46 l0_2 x4_1).f2).length c104_2,.int .i64 ((rd_T46 l0_2 x4_1).f3),.int .i64 ((rd_T46 l0_2 x4_1).f4),.int .i64 0]) ?_ 5 _ rfl;(with_reducible repeat (first|refine blk_drewN ?_ _|refine blk_drew ?_|refine blk_alloc ?_ _));refine blk_put (cs:=#[.int .i64 ((rd_T46 l0_2 x4_1).f0),.int .i64 ((rd_T46 l0_2 x4_1).f1),.slice A104_2 ((rd_T46 l0_2 x4_1).f2).length c104_2,.int .i64 ((rd_T46 l0_2 x4_1).f3),.int .i64 0,.int .i64 0]) ?_ 4 _ rfl;(with_reducible repeat (first|refine blk_drewN ?_ _|refine blk_drew ?_|refine blk_alloc ?_ _));refine blk_put (cs:=#[.int .i64 ((rd_T46 l0_2 x4_1).f0),.int .i64 ((rd_T46 l0_2 x4_1).f1),.slice A104_2 ((rd_T46 l0_2 x4_1).f2).length c104_2,.int .i64 0,.int .i64 0,.int .i64 0]) ?_ 3 _ rfl;(with_reducible repeat (first|refine blk_drewN ?_ _|refine blk_drew ?_|refine blk_alloc ?_ _));refine blk_put (cs:=#[.int .i64 ((rd_T46 l0_2 x4_1).f0),.int .i64 ((rd_T46 l0_2 x4_1).f1),.slice none 0 0,.int .i64 0,.int .i64 0,.int .i64 0]) ?_ 2 _ rfl;(with_reducible repeat (first|refine blk_drewN ?_ _|refine blk_drew ?_|refine blk_alloc ?_ _));refine blk_put (cs:=#[.int .i64 ((rd_T46 l0_2 x4_1).f0),.int .i64 0,.slice none 0 0,.int .i64 0,.int .i64 0,.int .i64 0]) ?_ 1 _ rfl;(with_reducible repeat (first|refine blk_drewN ?_ _|refine blk_drew ?_|refine blk_alloc ?_ _));refine blk_put (cs:=#[.int .i64 0,.int .i64 0,.slice none 0 0,.int .i64 0,.int .i64 0,.int .i64 0]) ?_ 0 _ rfl;(with_reducible repeat (first|refine blk_drewN ?_ _|refine blk_drew ?_|refine blk_alloc ?_ _));exact BK105.out) hg (by simp [Value.ownBlock]));have n5_:=Aside0.mk (hb);have n6_:=Aside0.mk (ho);clear HO_104002;clear BK101;clear BK102;clear BK103;clear BK105;clear HB;have HO_104002:=n0_;have BK101:=n1_;have BK102:=n2_;have BK103:=n3_;have BK105:=n4_;have HB:=n5_;have HO108:=n6_;clear n0_ n1_ n2_ n3_ n4_ n5_ n6_;clear ho hb hg hat;obtain ⟨Ao23,co23,eo23⟩:=Kd.R_slice HO108.out;subst eo23;have hcz24_0 : w22.cell? ⟨gb105,0,none⟩=some (.int .i64 ((rd_T46 l0_2 x4_1).f0)):=(blk_cell BK105.out 0).trans rfl;have hcz24_1 : w22.cell? ⟨gb105,1,none⟩=some (.int .i64 ((rd_T46 l0_2 x4_1).f1)):=(blk_cell BK105.out 1).trans rfl;have hcz24_2 : w22.cell? ⟨gb105,2,none⟩=some (.slice A104_2 ((rd_T46 l0_2 x4_1).f2).length c104_2):=(blk_cell BK105.out 2).trans rfl;have hcz24_3 : w22.cell? ⟨gb105,3,none⟩=some (.int .i64 ((rd_T46 l0_2 x4_1).f3)):=(blk_cell BK105.out 3).trans rfl;have hcz24_4 : w22.cell? ⟨gb105,4,none⟩=some (.int .i64 ((rd_T46 l0_2 x4_1).f4)):=(blk_cell BK105.out 4).trans rfl;have hcz24_5 : w22.cell? ⟨gb105,5,none⟩=some (.int .i64 ((rd_T46 l0_2 x4_1).f5)):=(blk_cell BK105.out 5).trans rfl;have hfz24_0:=blk_frozen BK105.out 0;have hfz24_1:=blk_frozen BK105.out 1;have hfz24_2:=blk_frozen BK105.out 2;have hfz24_3:=blk_frozen BK105.out 3;have hfz24_4:=blk_frozen BK105.out 4;have hfz24_5:=blk_frozen BK105.out 5)|((with_reducible refine gate_store (t:=37) (p:=28) rfl ?_);refine store_event (t:=37) (p:=28) (v:=?vo_w25) (w1:=(w22.setCell ⟨gb105,2,none⟩ (.slice Ao23 y106.length co23))) ?hg ?ho ?hn ?hr ?_;(case ho => rfl);(case hg => rfl);(case hn => rfl);(case hr => first|(go_simp;done)|(go_simp;rfl));intro w25 hw;have n0_ : Aside0 (Kd.S k46 46 w25 w.heap.size (fun k_ => some k_≠(.slice Ao23 y106.length co23 : Value).ownBlock∧k_≠gb105) u104002 x104002_1):=⟨(by rw [hw];exact (by (with_reducible repeat (first|apply Kd.S_alloc|apply Kd.S_drewN|apply Kd.S_drew));exact Kd.S_mono (Kd.S_far (p:=⟨gb105,2,none⟩) (Kd.S_mono HO_104002.out (fun k_ hk => (⟨hk,hk.1.2⟩ : _∧k_≠gb105))) (fun _ hk => hk.2) (.slice Ao23 y106.length co23)) (fun _ hk => ⟨hk.1.2,hk.1.1.2⟩)))⟩;have n1_ : Aside0 (Kd.R (Kd.int .i64) 3 w25 w.heap.size (fun _ => True) (.slice Ao23 y106.length co23) y106):=⟨(by rw [hw];exact (by (with_reducible repeat (first|apply Kd.R_alloc|apply Kd.R_drewN|apply Kd.R_drew));exact Kd.R_mono (Kd.R_far (p:=⟨gb105,2,none⟩) (Kd.R_types HO108.out BK105.out (by decide)) (fun _ hk => hk.2) (.slice Ao23 y106.length co23)) (fun _ hk => trivial)))⟩;have n2_ : Aside0 (w25.heap[gb101]?=some (.cells #[.int .i64 a0_0,.int .i64 a0_1,.slice (some ad104) l0_2.length c0_2] 24 (0,0))):=⟨(by rw [hw];exact (by (with_reducible repeat (first|refine blk_drewN ?_ _|refine blk_drew ?_|refine blk_alloc ?_ _));refine blk_far ?_ NB101_105.out _;(with_reducible repeat (first|refine blk_drewN ?_ _|refine blk_drew ?_|refine blk_alloc ?_ _));exact BK101.out))⟩;have n3_ : Aside0 (w25.heap[gb102]?=some (.cells #[.int .i64 0,.int .i64 0,.slice none 0 0] 24 (0,0))):=⟨(by rw [hw];exact (by (with_reducible repeat (first|refine blk_drewN ?_ _|refine blk_drew ?_|refine blk_alloc ?_ _));refine blk_far ?_ NB102_105.out _;(with_reducible repeat (first|refine blk_drewN ?_ _|refine blk_drew ?_|refine blk_alloc ?_ _));exact BK102.out))⟩;have n4_ : Aside0 (w25.heap[gb103]?=some (.cells #[.int .i64 a0_0,.int .i64 a0_1,u104002] 24 (0,0))):=⟨(by rw [hw];exact (by (with_reducible repeat (first|refine blk_drewN ?_ _|refine blk_drew ?_|refine blk_alloc ?_ _));refine blk_far ?_ NB103_105.out _;(with_reducible repeat (first|refine blk_drewN ?_ _|refine blk_drew ?_|refine blk_alloc ?_ _));exact BK103.out))⟩;have n5_ : Aside0 (w25.heap[gb105]?=some (.cells #[.int .i64 ((rd_T46 l0_2 x4_1).f0),.int .i64 ((rd_T46 l0_2 x4_1).f1),.slice Ao23 y106.length co23,.int .i64 ((rd_T46 l0_2 x4_1).f3),.int .i64 ((rd_T46 l0_2 x4_1).f4),.int .i64 ((rd_T46 l0_2 x4_1).f5)] 46 (0,0))):=⟨(by rw [hw];exact (by (with_reducible repeat (first|refine blk_drewN ?_ _|refine blk_drew ?_|refine blk_alloc ?_ _));refine blk_put (cs:=#[.int .i64 ((rd_T46 l0_2 x4_1).f0),.int .i64 ((rd_T46 l0_2 x4_1).f1),.slice A104_2 ((rd_T46 l0_2 x4_1).f2).length c104_2,.int .i64 ((rd_T46 l0_2 x4_1).f3),.int .i64 ((rd_T46 l0_2 x4_1).f4),.int .i64 ((rd_T46 l0_2 x4_1).f5)]) ?_ 2 _ rfl;(with_reducible repeat (first|refine blk_drewN ?_ _|refine blk_drew ?_|refine blk_alloc ?_ _));exact BK105.out))⟩;have n6_ : Aside0 (Below w.heap.size w w25):=⟨(by rw [hw];exact (by repeat (first|(with_reducible first|exact HB.out|apply below_alloc|apply pw_below_drewN|apply below_drew1|refine below_set ?_ GE101.out|refine below_set ?_ GE102.out|refine below_set ?_ GE103.out|refine below_set ?_ GE105.out)|exact HB.out)))⟩;clear hw;clear HO_104002;clear HO108;clear BK101;clear BK102;clear BK103;clear BK105;clear HB;have HO_104002:=n0_;have HO108:=n1_;have BK101:=n2_;have BK102:=n3_;have BK103:=n4_;have BK105:=n5_;have HB:=n6_;clear n0_ n1_ n2_ n3_ n4_ n5_ n6_;have hnb26:=NB103_102.out;have hnc26:=NB102_103.out;have hcz27_0 : w25.cell? ⟨gb103,0,none⟩=some (.int .i64 a0_0):=(blk_cell BK103.out 0).trans rfl;have hcz27_1 : w25.cell? ⟨gb103,1,none⟩=some (.int .i64 a0_1):=(blk_cell BK103.out 1).trans rfl;have hcz27_2 : w25.cell? ⟨gb103,2,none⟩=some (u104002):=(blk_cell BK103.out 2).trans rfl;have hfz27_0:=blk_frozen BK103.out 0;have hfz27_1:=blk_frozen BK103.out 1;have hfz27_2:=blk_frozen BK103.out 2;have hcz28_0 : w25.cell? ⟨gb105,0,none⟩=some (.int .i64 ((rd_T46 l0_2 x4_1).f0)):=(blk_cell BK105.out 0).trans rfl;have hcz28_1 : w25.cell? ⟨gb105,1,none⟩=some (.int .i64 ((rd_T46 l0_2 x4_1).f1)):=(blk_cell BK105.out 1).trans rfl;have hcz28_2 : w25.cell? ⟨gb105,2,none⟩=some (.slice Ao23 y106.length co23):=(blk_cell BK105.out 2).trans rfl;have hcz28_3 : w25.cell? ⟨gb105,3,none⟩=some (.int .i64 ((rd_T46 l0_2 x4_1).f3)):=(blk_cell BK105.out 3).trans rfl;have hcz28_4 : w25.cell? ⟨gb105,4,none⟩=some (.int .i64 ((rd_T46 l0_2 x4_1).f4)):=(blk_cell BK105.out 4).trans rfl;have hcz28_5 : w25.cell? ⟨gb105,5,none⟩=some (.int .i64 ((rd_T46 l0_2 x4_1).f5)):=(blk_cell BK105.out 5).trans rfl;have hfz28_0:=blk_frozen BK105.out 0;have hfz28_1:=blk_frozen BK105.out 1;have hfz28_2:=blk_frozen BK105.out 2;have hfz28_3:=blk_frozen BK105.out 3;have hfz28_4:=blk_frozen BK105.out 4;have hfz28_5:=blk_frozen BK105.out 5)|((with_reducible refine gate_builtin (b:=.append) (xs:=#[.tmp 30,.tmp 32]) rfl ?_);at_builtin;refine Kd.S_append k46 (w0:=w) w.heap.size rfl (.tmp 30) (.tmp 32) 22 46 (.agg #[(.int .i64 0),(.int .i64 0),(.slice none 0 0),(.int .i64 0),(.int .i64 0),(.int .i64 0)]) 64 rfl Try.underlying22 info46 rfl (by decide) (by omega) u104002 x104002_1 (⟨(rd_T46 l0_2 x4_1).f0,(rd_T46 l0_2 x4_1).f1,y106,(rd_T46 l0_2 x4_1).f3,(rd_T46 l0_2 x4_1).f4,(rd_T46 l0_2 x4_1).f5⟩ : S46) [.int .i64 ((rd_T46 l0_2 x4_1).f0),.int .i64 ((rd_T46 l0_2 x4_1).f1),.slice Ao23 y106.length co23,.int .i64 ((rd_T46 l0_2 x4_1).f3),.int .i64 ((rd_T46 l0_2 x4_1).f4),.int .i64 ((rd_T46 l0_2 x4_1).f5)] (fun k_ => k_≠gb105) (fun k_ => some k_=(.slice Ao23 y106.length co23 : Value).ownBlock) rfl rfl ?aP (fun k_ hk_ => ((Kd.R_mono (ok':=fun k_ => ((fun k_ => k_≠gb105)) k_∧some k_≠(u104002 : Value).ownBlock) (Kd.R_types (Kd.R_apart' (HO108.out) (Kd.S_typed HO_104002.out) (by decide)) BK105.out (by decide)) (fun k_ hk => ⟨hk.2,hk.1.2⟩))).1 k_ hk_.symm) ?aF ?aO ?aB ?aS ?aL ?_;(case aP => exact k46_mkM _ _ _ (⟨(rd_T46 l0_2 x4_1).f0,(rd_T46 l0_2 x4_1).f1,y106,(rd_T46 l0_2 x4_1).f3,(rd_T46 l0_2 x4_1).f4,(rd_T46 l0_2 x4_1).f5⟩ : S46) (Kd.R_mono (Kd.R_tight rfl (Kd.R_mono (ok':=fun k_ => ((fun k_ => k_≠gb105)) k_∧some k_≠(u104002 : Value).ownBlock) (Kd.R_types (Kd.R_apart' (HO108.out) (Kd.S_typed HO_104002.out) (by decide)) BK105.out (by decide)) (fun k_ hk => ⟨hk.2,hk.1.2⟩))) (fun _ h_ => h_)));(case aB => exact (by repeat (first|(with_reducible first|exact HB.out|apply below_alloc|apply pw_below_drewN|apply below_drew1|refine below_set ?_ GE101.out|refine below_set ?_ GE102.out|refine below_set ?_ GE103.out|refine below_set ?_ GE105.out)|exact HB.out)));(case aF => exact (fun k_ hk => Kd.freshB (g:=gb105) (o:=.cells #[.int .i64 ((rd_T46 l0_2 x4_1).f0),.int .i64 ((rd_T46 l0_2 x4_1).f1),.slice Ao23 y106.length co23,.int .i64 ((rd_T46 l0_2 x4_1).f3),.int .i64 ((rd_T46 l0_2 x4_1).f4),.int .i64 ((rd_T46 l0_2 x4_1).f5)] 46 (0,0)) (by (with_reducible repeat (first|refine blk_drewN ?_ _|refine blk_drew ?_|refine blk_alloc ?_ _));exact BK105.out) k_ hk));(case aO => exact (by (with_reducible repeat (first|apply Kd.S_alloc|apply Kd.S_drewN|apply Kd.S_drew));exact Kd.S_mono HO_104002.out (fun k_ hk => ⟨hk.2,fun e_ => hk.1 e_⟩)));(case aS => exact (below_size (by repeat (first|(with_reducible first|exact HB.out|apply below_alloc|apply pw_below_drewN|apply below_drew1|refine below_set ?_ GE101.out|refine below_set ?_ GE102.out|refine below_set ?_ GE103.out|refine below_set ?_ GE105.out)|exact HB.out))));(case aL => have:=LMc13.out;omega);intro v110 w29 ho hb hg hat;rw [← Ny109.out] at ho;have n0_:=Aside0.mk (blk_grown (g:=gb101) (o:=.cells #[.int .i64 a0_0,.int .i64 a0_1,.slice (some ad104) l0_2.length c0_2] 24 (0,0)) (by (with_reducible repeat (first|refine blk_drewN ?_ _|refine blk_drew ?_|refine blk_alloc ?_ _));exact BK101.out) hg (Kd.S_ne HO_104002.out BK101.out (by decide)));have n1_:=Aside0.mk (blk_grown (g:=gb102) (o:=.cells #[.int .i64 0,.int .i64 0,.slice none 0 0] 24 (0,0)) (by (with_reducible repeat (first|refine blk_drewN ?_ _|refine blk_drew ?_|refine blk_alloc ?_ _));exact BK102.out) hg (Kd.S_ne HO_104002.out BK102.out (by decide)));have n2_:=Aside0.mk (blk_grown (g:=gb103) (o:=.cells #[.int .i64 a0_0,.int .i64 a0_1,u104002] 24 (0,0)) (by (with_reducible repeat (first|refine blk_drewN ?_ _|refine blk_drew ?_|refine blk_alloc ?_ _));exact BK103.out) hg (Kd.S_ne HO_104002.out BK103.out (by decide)));have n3_:=Aside0.mk (blk_grown (g:=gb105) (o:=.cells #[.int .i64 ((rd_T46 l0_2 x4_1).f0),.int .i64 ((rd_T46 l0_2 x4_1).f1),.slice Ao23 y106.length co23,.int .i64 ((rd_T46 l0_2 x4_1).f3),.int .i64 ((rd_T46 l0_2 x4_1).f4),.int .i64 ((rd_T46 l0_2 x4_1).f5)] 46 (0,0)) (by (with_reducible repeat (first|refine blk_drewN ?_ _|refine blk_drew ?_|refine blk_alloc ?_ _));exact BK105.out) hg (Kd.S_away HO_104002.out (fun _ hk => hk.2)));have n4_:=Aside0.mk (hb);have n5_:=Aside0.mk (ho);clear BK101;clear BK102;clear BK103;clear BK105;clear HB;clear HO_104002;clear HO108;have BK101:=n0_;have BK102:=n1_;have BK103:=n2_;have BK105:=n3_;have HB:=n4_;have HO111:=n5_;clear n0_ n1_ n2_ n3_ n4_ n5_;clear ho hb hg hat;obtain ⟨Ao30,co30,eo30⟩:=Kd.S_slice HO111.out;subst eo30;have hcz31_0 : w29.cell? ⟨gb103,0,none⟩=some (.int .i64 a0_0):=(blk_cell BK103.out 0).trans rfl;have hcz31_1 : w29.cell? ⟨gb103,1,none⟩=some (.int .i64 a0_1):=(blk_cell BK103.out 1).trans rfl;have hcz31_2 : w29.cell? ⟨gb103,2,none⟩=some (u104002):=(blk_cell BK103.out 2).trans rfl;have hfz31_0:=blk_frozen BK103.out 0;have hfz31_1:=blk_frozen BK103.out 1;have hfz31_2:=blk_frozen BK103.out 2))
       go_roundg k1
       case measure => have:=HK1.out;omega
       case rel => exact ⟨(wrap64 (x4_1 + 1)),(y109),(.slice Ao30 y109.length co30),(by first|rfl|(simp;done)|(simp [*];done)),H',⟨by have:=HK1.out;omega⟩,⟨by (with_reducible repeat (first|apply Kd.S_alloc|apply Kd.S_drewN|apply Kd.S_drew));exact Kd.S_mono (Kd.S_far (p:=⟨gb103,2,none⟩) (Kd.S_types HO111.out BK103.out (by decide)) (fun _ hk => hk.2) (.slice Ao30 y109.length co30)) (fun _ hk => trivial)⟩,⟨by (with_reducible repeat (first|refine blk_drewN ?_ _|refine blk_drew ?_|refine blk_alloc ?_ _));refine blk_far ?_ NB101_103.out _;(with_reducible repeat (first|refine blk_drewN ?_ _|refine blk_drew ?_|refine blk_alloc ?_ _));exact BK101.out⟩,⟨by (with_reducible repeat (first|refine blk_drewN ?_ _|refine blk_drew ?_|refine blk_alloc ?_ _));refine blk_far ?_ NB102_103.out _;(with_reducible repeat (first|refine blk_drewN ?_ _|refine blk_drew ?_|refine blk_alloc ?_ _));exact BK102.out⟩,⟨by (with_reducible repeat (first|refine blk_drewN ?_ _|refine blk_drew ?_|refine blk_alloc ?_ _));refine blk_put (cs:=#[.int .i64 a0_0,.int .i64 a0_1,u104002]) ?_ 2 _ rfl;(with_reducible repeat (first|refine blk_drewN ?_ _|refine blk_drew ?_|refine blk_alloc ?_ _));exact BK103.out⟩,⟨by repeat (first|(with_reducible first|exact HB.out|apply below_alloc|apply pw_below_drewN|apply below_drew1|refine below_set ?_ GE101.out|refine below_set ?_ GE102.out|refine below_set ?_ GE103.out|refine below_set ?_ GE105.out)|exact HB.out)⟩⟩
      ·rw [if_neg c13] at H
       exact absurd H (by simp)
     ·rw [if_neg c12] at H
      exact absurd H (by simp)
    ·rw [if_neg c11] at H
     exact absurd H (by simp)
   ·rw [if_neg c10] at H
    have c10b0 : decide (x4_1 < (l0_2.length : Int))=false:=decide_eq_false c10
    clear c10
    simp only [Option.some.injEq,Prod.mk.injEq] at H
    obtain ⟨rfl,rfl,rfl⟩:=H
    have hnb32:=NB101_102.out
    have hnc32:=NB102_101.out
    have hnb33:=NB101_103.out
    have hnc33:=NB103_101.out
    have hcz34_0 : wr.cell? ⟨gb101,0,none⟩=some (.int .i64 a0_0):=(blk_cell BK101.out 0).trans rfl
    have hcz34_1 : wr.cell? ⟨gb101,1,none⟩=some (.int .i64 a0_1):=(blk_cell BK101.out 1).trans rfl
    have hcz34_2 : wr.cell? ⟨gb101,2,none⟩=some (.slice A0_2 l0_2.length c0_2):=(blk_cell BK101.out 2).trans rfl
    have hfz34_0:=blk_frozen BK101.out 0
    have hfz34_1:=blk_frozen BK101.out 1
    have hfz34_2:=blk_frozen BK101.out 2
    have hnb35:=NB103_102.out
    have hnc35:=NB102_103.out
    have hcz36_0 : wr.cell? ⟨gb103,0,none⟩=some (.int .i64 a0_0):=(blk_cell BK103.out 0).trans rfl
    have hcz36_1 : wr.cell? ⟨gb103,1,none⟩=some (.int .i64 a0_1):=(blk_cell BK103.out 1).trans rfl
    have hcz36_2 : wr.cell? ⟨gb103,2,none⟩=some (u104002):=(blk_cell BK103.out 2).trans rfl
    have hfz36_0:=blk_frozen BK103.out 0
    have hfz36_1:=blk_frozen BK103.out 1
    have hfz36_2:=blk_frozen BK103.out 2
    have hcz37_0 : wr.cell? ⟨gb102,0,none⟩=some (.int .i64 0):=(blk_cell BK102.out 0).trans rfl
    have hcz37_1 : wr.cell? ⟨gb102,1,none⟩=some (.int .i64 0):=(blk_cell BK102.out 1).trans rfl
    have hcz37_2 : wr.cell? ⟨gb102,2,none⟩=some (.slice none 0 0):=(blk_cell BK102.out 2).trans rfl
    have hfz37_0:=blk_frozen BK102.out 0
    have hfz37_1:=blk_frozen BK102.out 1
    have hfz37_2:=blk_frozen BK102.out 2
    obtain ⟨Ao38,co38,eo38⟩:=Kd.S_slice HO_104002.out
    subst eo38
    go_wp2
    refine bodyPost_ret (results_cell_row rfl _ _ gb102 24 #[.int .i64 a0_0,.int .i64 a0_1,.slice Ao38 x104002_1.length co38] (0,0) _ rfl (by (with_reducible repeat (first|refine blk_drewN ?_ _|refine blk_drew ?_|refine blk_alloc ?_ _));refine blk_put (cs:=#[.int .i64 a0_0,.int .i64 a0_1,.slice none 0 0]) ?_ 2 _ rfl;(with_reducible repeat (first|refine blk_drewN ?_ _|refine blk_drew ?_|refine blk_alloc ?_ _));refine blk_put (cs:=#[.int .i64 a0_0,.int .i64 0,.slice none 0 0]) ?_ 1 _ rfl;(with_reducible repeat (first|refine blk_drewN ?_ _|refine blk_drew ?_|refine blk_alloc ?_ _));refine blk_put (cs:=#[.int .i64 0,.int .i64 0,.slice none 0 0]) ?_ 0 _ rfl;(with_reducible repeat (first|refine blk_drewN ?_ _|refine blk_drew ?_|refine blk_alloc ?_ _));exact BK102.out) Try.underlying24 rfl (by kernel_rfl)) rfl ?_
    exact ⟨_,by first|rfl|(simp [errW_none,errW_some] <;> rfl)|(simp [*,errW_none,errW_some] <;> rfl),by (with_reducible repeat (first|apply Kd.S_alloc|apply Kd.S_drewN|apply Kd.S_drew));exact Kd.S_mono (Kd.S_far (p:=⟨gb102,2,none⟩) (Kd.S_far (p:=⟨gb102,1,none⟩) (Kd.S_far (p:=⟨gb102,0,none⟩) (Kd.S_types HO_104002.out BK102.out (by decide)) (fun _ hk => hk.2) (.int .i64 a0_0)) (fun _ hk => hk.2) (.int .i64 a0_1)) (fun _ hk => hk.2) (.slice Ao38 x104002_1.length co38)) (fun _ hk => trivial),by repeat (first|(with_reducible first|exact HB.out|apply below_alloc|apply pw_below_drewN|apply below_drew1|refine below_set ?_ GE101.out|refine below_set ?_ GE102.out|refine below_set ?_ GE103.out)|exact HB.out)⟩
end Go.Proofs.Ytbelnopbggkdfaa.Q
end

section
namespace Go.Proofs.Ytbelnopbggkdfaa.Q
open Go.RowKit Go.Proofs.YtbelnopbggkdfaaW.PrintWords Go.Proofs.YtbelnopbggkdfaaW.PrintLast Go.Proofs.YtbelnopbggkdfaaW.PrintMore
attribute [local go_sem] max2_int min2_int max_two min_two max_three min_three max_four min_four   -- for this text's walks alone
set_option linter.unusedVariables false
set_option linter.unusedSimpArgs false
def phasorref08_ints.l0 : Nat→List Int→List Int→Int→Option (Bool)
 | 0,_,_,_ => none
 | k + 1,x0,x1,x5 => if x5 < (x0.length : Int) then (if 0≤x5 then (if x5 < (x1.length : Int) then (if (rd x0 x5)=(rd x1 x5) then (phasorref08_ints.l0 k x0 x1 (wrap64 (x5 + 1))) else (some false)) else (none)) else (none)) else (some true)
def phasorref08_ints.f (k : Nat) (l0 : List Int) (l1 : List Int) : Option (Bool):=if (l0.length : Int)=(l1.length : Int) then (phasorref08_ints.l0 k l0 l1 0) else (some false)
set_option maxHeartbeats 8000000 in
set_option maxRecDepth 100000 in
theorem phasorref08_ints.calls (k : Nat) (A0 : Option Addr) (c0 : Nat) (l0 : List Int) (A1 : Option Addr) (c1 : Nat) (l1 : List Int) (r : Bool) (w : World) (hr0 : Kd.C (Kd.int .i64) w A0 l0.length l0) (hc0 : l0.length≤c0) (hr1 : Kd.C (Kd.int .i64) w A1 l1.length l1) (hc1 : l1.length≤c1) (h : phasorref08_ints.f k l0 l1=some r) :
  Calls Try.prog 80 #[.slice A0 l0.length c0,.slice A1 l1.length c1] w fun e w' => e=.returned (.bool r)∧Drawn0 w w':=by
 have HR0:=Aside0.mk hr0
 have HC0:=Aside0.mk hc0
 clear hr0 hc0
 have HR1:=Aside0.mk hr1
 have HC1:=Aside0.mk hc1
 clear hr1 hc1
 have H : (if (l0.length : Int)=(l1.length : Int) then (phasorref08_ints.l0 k l0 l1 0) else (some false))=some r:=h
 clear h
 by_cases c3 : (l0.length : Int)=(l1.length : Int)
 ·rw [if_pos c3] at H
  have c3b0 : ((l0.length : Int) == (l1.length : Int))=true:=beq_iff_eq.mpr c3
  have c3b1 : ((l0.length : Int) != (l1.length : Int))=false:=bne_eq_false_iff_eq.mpr c3
  have c3b2 : (l0.length == l1.length)=true:=by first|simpa using c3|(simp at c3 ⊢;omega)
  clear c3
  have H':=Aside0.mk H
  clear H
  go_enter Try.func80,Try.ntmps80
  go_wp2
  repeat (go_quiet (fail);try go_wp2)
  go_loopg [5] k (fun kq v5 w' => ∃ (x5_1 : Int),v5=.int .i64 x5_1∧Aside0 (phasorref08_ints.l0 kq l0 l1 x5_1=some r)∧Aside0 (kq≤k)∧Drawn0 w w')
  case atStart => exact ⟨(0),(by first|rfl|(simp;done)|(simp [*];done)),H',⟨Nat.le_refl _⟩,by repeat (first|exact Drawn0.refl _|apply Drawn0.step)⟩
  case round =>
   clear H'
   try clear c1
   try clear p2
   try clear c3
   try clear c3b0
   try clear c3b1
   try clear c3b2
   obtain ⟨x5_1,rfl,HA,HK1,⟨m1,rfl⟩⟩:=hrel
   cases gk with
   | zero => exact absurd HA.out (by simp [phasorref08_ints.l0])
   | succ k1 =>
    have H:=HA.out
    clear HA
    simp only [phasorref08_ints.l0] at H
    by_cases c4 : x5_1 < (l0.length : Int)
    ·rw [if_pos c4] at H
     have c4b0 : decide (x5_1 < (l0.length : Int))=true:=decide_eq_true c4
     clear c4
     by_cases c5 : 0≤x5_1
     ·rw [if_pos c5] at H
      have c5b0 : decide (0≤x5_1)=true:=decide_eq_true c5
      clear c5
      by_cases c6 : x5_1 < (l1.length : Int)
      ·rw [if_pos c6] at H
       have c6b0 : decide (x5_1 < (l1.length : Int))=true:=decide_eq_true c6
       clear c6
       by_cases c7 : (rd l0 x5_1)=(rd l1 x5_1)
       ·rw [if_pos c7] at H
        have c7b0 : ((rd l0 x5_1) == (rd l1 x5_1))=true:=beq_iff_eq.mpr c7
        have c7b1 : ((rd l0 x5_1) != (rd l1 x5_1))=false:=bne_eq_false_iff_eq.mpr c7
        clear c7
        have H':=Aside0.mk H
        clear H
        have p199 : 0≤(x5_1 : Int):=of_decide_eq_true (by first|(with_reducible assumption)|assumption)
        have q199 : x5_1 < (l0.length : Int):=of_decide_eq_true (by first|(with_reducible assumption)|assumption)
        obtain ⟨ad199,e199,hx199_0⟩:=Kd.at_int HR0.out x5_1 p199 q199
        cases e199
        replace p199:=eq_true p199
        replace q199:=eq_true q199
        have p200 : 0≤(x5_1 : Int):=of_decide_eq_true (by first|(with_reducible assumption)|assumption)
        have q200 : x5_1 < (l1.length : Int):=of_decide_eq_true (by first|(with_reducible assumption)|assumption)
        obtain ⟨ad200,e200,hx200_0⟩:=Kd.at_int HR1.out x5_1 p200 q200
        cases e200
        replace p200:=eq_true p200
        replace q200:=eq_true q200
        go_wp2
        repeat (go_quiet (fail);try go_wp2)
        go_roundg k1
        case measure => have:=HK1.out;omega
        case rel => exact ⟨(wrap64 (x5_1 + 1)),(by first|rfl|(simp;done)|(simp [*];done)),H',⟨by have:=HK1.out;omega⟩,by repeat (first|exact Drawn0.refl _|apply Drawn0.step)⟩
       ·rw [if_neg c7] at H
        have c7b0 : ((rd l0 x5_1) == (rd l1 x5_1))=false:=beq_eq_false_iff_ne.mpr c7
        have c7b1 : ((rd l0 x5_1) != (rd l1 x5_1))=true:=bne_iff_ne.mpr c7
        obtain rfl:=Option.some.inj H
        have p199 : 0≤(x5_1 : Int):=of_decide_eq_true (by first|(with_reducible assumption)|assumption)
        have q199 : x5_1 < (l0.length : Int):=of_decide_eq_true (by first|(with_reducible assumption)|assumption)
        obtain ⟨ad199,e199,hx199_0⟩:=Kd.at_int HR0.out x5_1 p199 q199
        cases e199
        replace p199:=eq_true p199
        replace q199:=eq_true q199
        have p200 : 0≤(x5_1 : Int):=of_decide_eq_true (by first|(with_reducible assumption)|assumption)
        have q200 : x5_1 < (l1.length : Int):=of_decide_eq_true (by first|(with_reducible assumption)|assumption)
        obtain ⟨ad200,e200,hx200_0⟩:=Kd.at_int HR1.out x5_1 p200 q200
        cases e200
        replace p200:=eq_true p200
        replace q200:=eq_true q200
        go_wp2
        repeat (go_quiet (fail);try go_wp2)
        go_ret
        exact ⟨by first|rfl|(simp;done)|(simp [*];done),by repeat (first|exact Drawn0.refl _|apply Drawn0.step)⟩
      ·rw [if_neg c6] at H
       exact absurd H (by simp)
     ·rw [if_neg c5] at H
      exact absurd H (by simp)
    ·rw [if_neg c4] at H
     have c4b0 : decide (x5_1 < (l0.length : Int))=false:=decide_eq_false c4
     clear c4
     obtain rfl:=Option.some.inj H
     go_wp2
     repeat (go_quiet (fail);try go_wp2)
     go_ret
     exact ⟨by first|rfl|(simp;done)|(simp [*];done),by repeat (first|exact Drawn0.refl _|apply Drawn0.step)⟩
 ·rw [if_neg c3] at H
  have c3b0 : ((l0.length : Int) == (l1.length : Int))=false:=beq_eq_false_iff_ne.mpr c3
  have c3b1 : ((l0.length : Int) != (l1.length : Int))=true:=bne_iff_ne.mpr c3
  have c3b2 : (l0.length == l1.length)=false:=by first|simpa using c3|(simp at c3 ⊢;omega)
  obtain rfl:=Option.some.inj H
  go_enter Try.func80,Try.ntmps80
  go_wp2
  repeat (go_quiet (fail);try go_wp2)
  go_ret
  exact ⟨by first|rfl|(simp;done)|(simp [*];done),by repeat (first|exact Drawn0.refl _|apply Drawn0.step)⟩
end Go.Proofs.Ytbelnopbggkdfaa.Q
end

section
namespace Go.Proofs.Ytbelnopbggkdfaa.Q
open Go.RowKit Go.Proofs.YtbelnopbggkdfaaW.PrintWords Go.Proofs.YtbelnopbggkdfaaW.PrintLast Go.Proofs.YtbelnopbggkdfaaW.PrintMore
attribute [local go_sem] max2_int min2_int max_two min_two max_three min_three max_four min_four   -- for this text's walks alone
set_option linter.unusedVariables false
set_option linter.unusedSimpArgs false
def phasorref08_SameOp.f (k : Nat) (a0_0 : Int) (a0_1 : Int) (l0_2 : List Int) (a0_3 : Int) (a0_4 : Int) (a0_5 : Int) (a1_0 : Int) (a1_1 : Int) (l1_2 : List Int) (a1_3 : Int) (a1_4 : Int) (a1_5 : Int) : Option (Bool):=if a0_0=a1_0 then (if a0_1=a1_1 then (if a0_3=a1_3 then (if a0_4=a1_4 then (if a0_5=a1_5 then ((phasorref08_ints.f k l0_2 l1_2).bind fun t203 => (some t203)) else (some false)) else (some false)) else (some false)) else (some false)) else (some false)
set_option maxHeartbeats 8000000 in
set_option maxRecDepth 100000 in
theorem phasorref08_SameOp.calls (k : Nat) (a0_0 : Int) (a0_1 : Int) (A0_2 : Option Addr) (c0_2 : Nat) (l0_2 : List Int) (a0_3 : Int) (a0_4 : Int) (a0_5 : Int) (a1_0 : Int) (a1_1 : Int) (A1_2 : Option Addr) (c1_2 : Nat) (l1_2 : List Int) (a1_3 : Int) (a1_4 : Int) (a1_5 : Int) (r : Bool) (w : World) (hr0_2 : Kd.C (Kd.int .i64) w A0_2 l0_2.length l0_2) (hc0_2 : l0_2.length≤c0_2) (hr1_2 : Kd.C (Kd.int .i64) w A1_2 l1_2.length l1_2) (hc1_2 : l1_2.length≤c1_2) (h : phasorref08_SameOp.f k a0_0 a0_1 l0_2 a0_3 a0_4 a0_5 a1_0 a1_1 l1_2 a1_3 a1_4 a1_5=some r) :
  Calls Try.prog 58 #[.agg #[.int .i64 a0_0,.int .i64 a0_1,.slice A0_2 l0_2.length c0_2,.int .i64 a0_3,.int .i64 a0_4,.int .i64 a0_5],.agg #[.int .i64 a1_0,.int .i64 a1_1,.slice A1_2 l1_2.length c1_2,.int .i64 a1_3,.int .i64 a1_4,.int .i64 a1_5]] w fun e w' => e=.returned (.bool r)∧Below w.heap.size w w':=by
 have hu46:=Try.underlying46
 have HR0_2:=Aside0.mk hr0_2
 have HC0_2:=Aside0.mk hc0_2
 clear hr0_2 hc0_2
 have HR1_2:=Aside0.mk hr1_2
 have HC1_2:=Aside0.mk hc1_2
 clear hr1_2 hc1_2
 have HB:=Aside0.mk (Below.refl w.heap.size w)
 have H : (if a0_0=a1_0 then (if a0_1=a1_1 then (if a0_3=a1_3 then (if a0_4=a1_4 then (if a0_5=a1_5 then ((phasorref08_ints.f k l0_2 l1_2).bind fun t203 => (some t203)) else (some false)) else (some false)) else (some false)) else (some false)) else (some false))=some r:=h
 clear h
 by_cases c3 : a0_0=a1_0
 ·rw [if_pos c3] at H
  have c3b0 : (a0_0 == a1_0)=true:=beq_iff_eq.mpr c3
  have c3b1 : (a0_0 != a1_0)=false:=bne_eq_false_iff_eq.mpr c3
  clear c3
  by_cases c4 : a0_1=a1_1
  ·rw [if_pos c4] at H
   have c4b0 : (a0_1 == a1_1)=true:=beq_iff_eq.mpr c4
   have c4b1 : (a0_1 != a1_1)=false:=bne_eq_false_iff_eq.mpr c4
   clear c4
   by_cases c5 : a0_3=a1_3
   ·rw [if_pos c5] at H
    have c5b0 : (a0_3 == a1_3)=true:=beq_iff_eq.mpr c5
    have c5b1 : (a0_3 != a1_3)=false:=bne_eq_false_iff_eq.mpr c5
    clear c5
    by_cases c6 : a0_4=a1_4
    ·rw [if_pos c6] at H
     have c6b0 : (a0_4 == a1_4)=true:=beq_iff_eq.mpr c6
     have c6b1 : (a0_4 != a1_4)=false:=bne_eq_false_iff_eq.mpr c6
     clear c6
     by_cases c7 : a0_5=a1_5
     ·rw [if_pos c7] at H
      have c7b0 : (a0_5 == a1_5)=true:=beq_iff_eq.mpr c7
      have c7b1 : (a0_5 != a1_5)=false:=bne_eq_false_iff_eq.mpr c7
      clear c7
      replace H:=Option.bind_eq_some_iff.mp H
      obtain ⟨t203,A80,H⟩:=H
      replace H : (some t203)=some r:=H
      have A8:=Aside0.mk A80
      clear A80
      obtain rfl:=Option.some.inj H
      go_enter Try.func58,Try.ntmps58
      go_wp2_with (first|((with_reducible refine gate_dst (N:=2) rfl ?_);refine box_event ?hg (N:=2) ?hd (cs:=#[.int .i64 a0_0,.int .i64 a0_1,.slice A0_2 l0_2.length c0_2,.int .i64 a0_3,.int .i64 a0_4,.int .i64 a0_5]) (t:=46) ?hr ?_;(case hd => rfl);(case hg => rfl);(case hr => first|(go_simp;done)|(go_simp;rfl));intro gb201 hg w9 hbox hb;have n0_:=Aside0.mk (below_step (by repeat (first|(with_reducible first|exact HB.out|apply below_alloc|apply pw_below_drewN|apply below_drew1)|exact HB.out)) hb);have n1_:=Aside0.mk (hbox);have n2_:=Aside0.mk ((by rw [hg];exact (below_size (by repeat (first|(with_reducible first|exact HB.out|apply below_alloc|apply pw_below_drewN|apply below_drew1)|exact HB.out))) : w.heap.size≤gb201));have n3_:=Aside0.mk ((by rw [hg];exact (below_size (by repeat (first|(with_reducible first|exact HB.out|apply below_alloc|apply pw_below_drewN|apply below_drew1)|exact HB.out))) : w.heap.size≤gb201));clear HB;have HB:=n0_;have BK201:=n1_;have GW201:=n2_;have GE201:=n3_;clear n0_ n1_ n2_ n3_;clear hb hbox hg)|((with_reducible refine gate_dst (N:=3) rfl ?_);refine box_event ?hg (N:=3) ?hd (cs:=#[.int .i64 a1_0,.int .i64 a1_1,.slice A1_2 l1_2.length c1_2,.int .i64 a1_3,.int .i64 a1_4,.int .i64 a1_5]) (t:=46) ?hr ?_;(case hd => rfl);(case hg => rfl);(case hr => first|(go_simp;done)|(go_simp;rfl));intro gb202 hg w10 hbox hb;have n0_:=Aside0.mk (blk_below (g:=gb201) (o:=.cells #[.int .i64 a0_0,.int .i64 a0_1,.slice A0_2 l0_2.length c0_2,.int .i64 a0_3,.int .i64 a0_4,.int .i64 a0_5] 46 (0,0)) (by (with_reducible repeat (first|refine blk_drewN ?_ _|refine blk_drew ?_|refine blk_alloc ?_ _));exact BK201.out) hb);have n1_:=Aside0.mk (below_step (by repeat (first|(with_reducible first|exact HB.out|apply below_alloc|apply pw_below_drewN|apply below_drew1|refine below_set ?_ GE201.out)|exact HB.out)) hb);have n2_:=Aside0.mk (hbox);have n3_:=Aside0.mk ((by rw [hg];exact (below_size (by repeat (first|(with_reducible first|exact HB.out|apply below_alloc|apply pw_below_drewN|apply below_drew1|refine below_set ?_ GE201.out)|exact HB.out))) : w.heap.size≤gb202));have n4_:=Aside0.mk ((by rw [hg];exact (below_size (by repeat (first|(with_reducible first|exact HB.out|apply below_alloc|apply pw_below_drewN|apply below_drew1|refine below_set ?_ GE201.out)|exact HB.out))) : w.heap.size≤gb202));have n5_:=Aside0.mk ((by rw [hg];exact Nat.ne_of_lt (blk_lt (g:=gb201) (o:=.cells #[.int .i64 a0_0,.int .i64 a0_1,.slice A0_2 l0_2.length c0_2,.int .i64 a0_3,.int .i64 a0_4,.int .i64 a0_5] 46 (0,0)) (by (with_reducible repeat (first|refine blk_drewN ?_ _|refine blk_drew ?_|refine blk_alloc ?_ _));exact BK201.out)) : gb201≠gb202));have n6_:=Aside0.mk ((by rw [hg];exact Nat.ne_of_gt (blk_lt (g:=gb201) (o:=.cells #[.int .i64 a0_0,.int .i64 a0_1,.slice A0_2 l0_2.length c0_2,.int .i64 a0_3,.int .i64 a0_4,.int .i64 a0_5] 46 (0,0)) (by (with_reducible repeat (first|refine blk_drewN ?_ _|refine blk_drew ?_|refine blk_alloc ?_ _));exact BK201.out)) : gb202≠gb201));clear BK201;clear HB;have BK201:=n0_;have HB:=n1_;have BK202:=n2_;have GW202:=n3_;have GE202:=n4_;have NB201_202:=n5_;have NB202_201:=n6_;clear n0_ n1_ n2_ n3_ n4_ n5_ n6_;clear hb hbox hg;have hnb11:=NB201_202.out;have hnc11:=NB202_201.out;have hcz12_0 : w10.cell? ⟨gb201,0,none⟩=some (.int .i64 a0_0):=(blk_cell BK201.out 0).trans rfl;have hcz12_1 : w10.cell? ⟨gb201,1,none⟩=some (.int .i64 a0_1):=(blk_cell BK201.out 1).trans rfl;have hcz12_2 : w10.cell? ⟨gb201,2,none⟩=some (.slice A0_2 l0_2.length c0_2):=(blk_cell BK201.out 2).trans rfl;have hcz12_3 : w10.cell? ⟨gb201,3,none⟩=some (.int .i64 a0_3):=(blk_cell BK201.out 3).trans rfl;have hcz12_4 : w10.cell? ⟨gb201,4,none⟩=some (.int .i64 a0_4):=(blk_cell BK201.out 4).trans rfl;have hcz12_5 : w10.cell? ⟨gb201,5,none⟩=some (.int .i64 a0_5):=(blk_cell BK201.out 5).trans rfl;have hfz12_0:=blk_frozen BK201.out 0;have hfz12_1:=blk_frozen BK201.out 1;have hfz12_2:=blk_frozen BK201.out 2;have hfz12_3:=blk_frozen BK201.out 3;have hfz12_4:=blk_frozen BK201.out 4;have hfz12_5:=blk_frozen BK201.out 5;have hcz13_0 : w10.cell? ⟨gb202,0,none⟩=some (.int .i64 a1_0):=(blk_cell BK202.out 0).trans rfl;have hcz13_1 : w10.cell? ⟨gb202,1,none⟩=some (.int .i64 a1_1):=(blk_cell BK202.out 1).trans rfl;have hcz13_2 : w10.cell? ⟨gb202,2,none⟩=some (.slice A1_2 l1_2.length c1_2):=(blk_cell BK202.out 2).trans rfl;have hcz13_3 : w10.cell? ⟨gb202,3,none⟩=some (.int .i64 a1_3):=(blk_cell BK202.out 3).trans rfl;have hcz13_4 : w10.cell? ⟨gb202,4,none⟩=some (.int .i64 a1_4):=(blk_cell BK202.out 4).trans rfl;have hcz13_5 : w10.cell? ⟨gb202,5,none⟩=some (.int .i64 a1_5):=(blk_cell BK202.out 5).trans rfl;have hfz13_0:=blk_frozen BK202.out 0;have hfz13_1:=blk_frozen BK202.out 1;have hfz13_2:=blk_frozen BK202.out 2;have hfz13_3:=blk_frozen BK202.out 3;have hfz13_4:=blk_frozen BK202.out 4;have hfz13_5:=blk_frozen BK202.out 5)|(go_at_call 80;(with_reducible refine (phasorref08_ints.calls k _ _ l0_2 _ _ l1_2 t203 _ ?side1 ?side2 ?side3 ?side4 A8.out).mono ?_);(case side1 => repeat (first|exact (Kd.C_below HR0_2.out HB.out)|(with_reducible refine Kd.C_alloc ?_ _)|(with_reducible refine Kd.C_drewN ?_ _)|(with_reducible refine Kd.C_drew ?_)));(case side2 => exact HC0_2.out);(case side3 => repeat (first|exact (Kd.C_below HR1_2.out HB.out)|(with_reducible refine Kd.C_alloc ?_ _)|(with_reducible refine Kd.C_drewN ?_ _)|(with_reducible refine Kd.C_drew ?_)));(case side4 => exact HC1_2.out);rintro e w' ⟨rfl,⟨nd,rfl⟩⟩))
      go_ret
      exact ⟨by first|rfl|(simp [errW_none,errW_some] <;> rfl)|(simp [*,errW_none,errW_some] <;> rfl),by repeat (first|(with_reducible first|exact HB.out|apply below_alloc|apply pw_below_drewN|apply below_drew1|refine below_set ?_ GE201.out|refine below_set ?_ GE202.out)|exact HB.out)⟩
     ·rw [if_neg c7] at H
      have c7b0 : (a0_5 == a1_5)=false:=beq_eq_false_iff_ne.mpr c7
      have c7b1 : (a0_5 != a1_5)=true:=bne_iff_ne.mpr c7
      obtain rfl:=Option.some.inj H
      go_enter Try.func58,Try.ntmps58
      go_wp2_with (first|((with_reducible refine gate_dst (N:=2) rfl ?_);refine box_event ?hg (N:=2) ?hd (cs:=#[.int .i64 a0_0,.int .i64 a0_1,.slice A0_2 l0_2.length c0_2,.int .i64 a0_3,.int .i64 a0_4,.int .i64 a0_5]) (t:=46) ?hr ?_;(case hd => rfl);(case hg => rfl);(case hr => first|(go_simp;done)|(go_simp;rfl));intro gb201 hg w14 hbox hb;have n0_:=Aside0.mk (below_step (by repeat (first|(with_reducible first|exact HB.out|apply below_alloc|apply pw_below_drewN|apply below_drew1)|exact HB.out)) hb);have n1_:=Aside0.mk (hbox);have n2_:=Aside0.mk ((by rw [hg];exact (below_size (by repeat (first|(with_reducible first|exact HB.out|apply below_alloc|apply pw_below_drewN|apply below_drew1)|exact HB.out))) : w.heap.size≤gb201));have n3_:=Aside0.mk ((by rw [hg];exact (below_size (by repeat (first|(with_reducible first|exact HB.out|apply below_alloc|apply pw_below_drewN|apply below_drew1)|exact HB.out))) : w.heap.size≤gb201));clear HB;have HB:=n0_;have BK201:=n1_;have GW201:=n2_;have GE201:=n3_;clear n0_ n1_ n2_ n3_;clear hb hbox hg)|((with_reducible refine gate_dst (N:=3) rfl ?_);refine box_event ?hg (N:=3) ?hd (cs:=#[.int .i64 a1_0,.int .i64 a1_1,.slice A1_2 l1_2.length c1_2,.int .i64 a1_3,.int .i64 a1_4,.int .i64 a1_5]) (t:=46) ?hr ?_;(case hd => rfl);(case hg => rfl);(case hr => first|(go_simp;done)|(go_simp;rfl));intro gb202 hg w15 hbox hb;have n0_:=Aside0.mk (blk_below (g:=gb201) (o:=.cells #[.int .i64 a0_0,.int .i64 a0_1,.slice A0_2 l0_2.length c0_2,.int .i64 a0_3,.int .i64 a0_4,.int .i64 a0_5] 46 (0,0)) (by (with_reducible repeat (first|refine blk_drewN ?_ _|refine blk_drew ?_|refine blk_alloc ?_ _));exact BK201.out) hb);have n1_:=Aside0.mk (below_step (by repeat (first|(with_reducible first|exact HB.out|apply below_alloc|apply pw_below_drewN|apply below_drew1|refine below_set ?_ GE201.out)|exact HB.out)) hb);have n2_:=Aside0.mk (hbox);have n3_:=Aside0.mk ((by rw [hg];exact (below_size (by repeat (first|(with_reducible first|exact HB.out|apply below_alloc|apply pw_below_drewN|apply below_drew1|refine below_set ?_ GE201.out)|exact HB.out))) : w.heap.size≤gb202));have n4_:=Aside0.mk ((by rw [hg];exact (below_size (by repeat (first|(with_reducible first|exact HB.out|apply below_alloc|apply pw_below_drewN|apply below_drew1|refine below_set ?_ GE201.out)|exact HB.out))) : w.heap.size≤gb202));have n5_:=Aside0.mk ((by rw [hg];exact Nat.ne_of_lt (blk_lt (g:=gb201) (o:=.cells #[.int .i64 a0_0,.int .i64 a0_1,.slice A0_2 l0_2.length c0_2,.int .i64 a0_3,.int .i64 a0_4,.int .i64 a0_5] 46 (0,0)) (by (with_reducible repeat (first|refine blk_drewN ?_ _|refine blk_drew ?_|refine blk_alloc ?_ _));exact BK201.out)) : gb201≠gb202));have n6_:=Aside0.mk ((by rw [hg];exact Nat.ne_of_gt (blk_lt (g:=gb201) (o:=.cells #[.int .i64 a0_0,.int .i64 a0_1,.slice A0_2 l0_2.length c0_2,.int .i64 a0_3,.int .i64 a0_4,.int .i64 a0_5] 46 (0,0)) (by (with_reducible repeat (first|refine blk_drewN ?_ _|refine blk_drew ?_|refine blk_alloc ?_ _));exact BK201.out)) : gb202≠gb201));clear BK201;clear HB;have BK201:=n0_;have HB:=n1_;have BK202:=n2_;have GW202:=n3_;have GE202:=n4_;have NB201_202:=n5_;have NB202_201:=n6_;clear n0_ n1_ n2_ n3_ n4_ n5_ n6_;clear hb hbox hg;have hnb16:=NB201_202.out;have hnc16:=NB202_201.out;have hcz17_0 : w15.cell? ⟨gb201,0,none⟩=some (.int .i64 a0_0):=(blk_cell BK201.out 0).trans rfl;have hcz17_1 : w15.cell? ⟨gb201,1,none⟩=some (.int .i64 a0_1):=(blk_cell BK201.out 1).trans rfl;have hcz17_2 : w15.cell? ⟨gb201,2,none⟩=some (.slice A0_2 l0_2.length c0_2):=(blk_cell BK201.out 2).trans rfl;have hcz17_3 : w15.cell? ⟨gb201,3,none⟩=some (.int .i64 a0_3):=(blk_cell BK201.out 3).trans rfl;have hcz17_4 : w15.cell? ⟨gb201,4,none⟩=some (.int .i64 a0_4):=(blk_cell BK201.out 4).trans rfl;have hcz17_5 : w15.cell? ⟨gb201,5,none⟩=some (.int .i64 a0_5):=(blk_cell BK201.out 5).trans rfl;have hfz17_0:=blk_frozen BK201.out 0;have hfz17_1:=blk_frozen BK201.out 1;have hfz17_2:=blk_frozen BK201.out 2;have hfz17_3:=blk_frozen BK201.out 3;have hfz17_4:=blk_frozen BK201.out 4;have hfz17_5:=blk_frozen BK201.out 5;have hcz18_0 : w15.cell? ⟨gb202,0,none⟩=some (.int .i64 a1_0):=(blk_cell BK202.out 0).trans rfl;have hcz18_1 : w15.cell? ⟨gb202,1,none⟩=some (.int .i64 a1_1):=(blk_cell BK202.out 1).trans rfl;have hcz18_2 : w15.cell? ⟨gb202,2,none⟩=some (.slice A1_2 l1_2.length c1_2):=(blk_cell BK202.out 2).trans rfl;have hcz18_3 : w15.cell? ⟨gb202,3,none⟩=some (.int .i64 a1_3):=(blk_cell BK202.out 3).trans rfl;have hcz18_4 : w15.cell? ⟨gb202,4,none⟩=some (.int .i64 a1_4):=(blk_cell BK202.out 4).trans rfl;have hcz18_5 : w15.cell? ⟨gb202,5,none⟩=some (.int .i64 a1_5):=(blk_cell BK202.out 5).trans rfl;have hfz18_0:=blk_frozen BK202.out 0;have hfz18_1:=blk_frozen BK202.out 1;have hfz18_2:=blk_frozen BK202.out 2;have hfz18_3:=blk_frozen BK202.out 3;have hfz18_4:=blk_frozen BK202.out 4;have hfz18_5:=blk_frozen BK202.out 5))
      go_ret
      exact ⟨by first|rfl|(simp [errW_none,errW_some] <;> rfl)|(simp [*,errW_none,errW_some] <;> rfl),by repeat (first|(with_reducible first|exact HB.out|apply below_alloc|apply pw_below_drewN|apply below_drew1|refine below_set ?_ GE201.out|refine below_set ?_ GE202.out)|exact HB.out)⟩
    ·rw [if_neg c6] at H
     have c6b0 : (a0_4 == a1_4)=false:=beq_eq_false_iff_ne.mpr c6
     have c6b1 : (a0_4 != a1_4)=true:=bne_iff_ne.mpr c6
     obtain rfl:=Option.some.inj H
     go_enter Try.func58,Try.ntmps58
     go_wp2_with (first|((with_reducible refine gate_dst (N:=2) rfl ?_);refine box_event ?hg (N:=2) ?hd (cs:=#[.int .i64 a0_0,.int .i64 a0_1,.slice A0_2 l0_2.length c0_2,.int .i64 a0_3,.int .i64 a0_4,.int .i64 a0_5]) (t:=46) ?hr ?_;(case hd => rfl);(case hg => rfl);(case hr => first|(go_simp;done)|(go_simp;rfl));intro gb201 hg w19 hbox hb;have n0_:=Aside0.mk (below_step (by repeat (first|(with_reducible first|exact HB.out|apply below_alloc|apply pw_below_drewN|apply below_drew1)|exact HB.out)) hb);have n1_:=Aside0.mk (hbox);have n2_:=Aside0.mk ((by rw [hg];exact (below_size (by repeat (first|(with_reducible first|exact HB.out|apply below_alloc|apply pw_below_drewN|apply below_drew1)|exact HB.out))) : w.heap.size≤gb201));have n3_:=Aside0.mk ((by rw [hg];exact (below_size (by repeat (first|(with_reducible first|exact HB.out|apply below_alloc|apply pw_below_drewN|apply below_drew1)|exact HB.out))) : w.heap.size≤gb201));clear HB;have HB:=n0_;have BK201:=n1_;have GW201:=n2_;have GE201:=n3_;clear n0_ n1_ n2_ n3_;clear hb hbox hg)|((with_reducible refine gate_dst (N:=3) rfl ?_);refine box_event ?hg (N:=3) ?hd (cs:=#[.int .i64 a1_0,.int .i64 a1_1,.slice A1_2 l1_2.length c1_2,.int .i64 a1_3,.int .i64 a1_4,.int .i64 a1_5]) (t:=46) ?hr ?_;(case hd => rfl);(case hg => rfl);(case hr => first|(go_simp;done)|(go_simp;rfl));intro gb202 hg w20 hbox hb;have n0_:=Aside0.mk (blk_below (g:=gb201) (o:=.cells #[.int .i64 a0_0,.int .i64 a0_1,.slice A0_2 l0_2.length c0_2,.int .i64 a0_3,.int .i64 a0_4,.int .i64 a0_5] 46 (0,0)) (by (with_reducible repeat (first|refine blk_drewN ?_ _|refine blk_drew ?_|refine blk_alloc ?_ _));exact BK201.out) hb);have n1_:=Aside0.mk (below_step (by repeat (first|(with_reducible first|exact HB.out|apply below_alloc|apply pw_below_drewN|apply below_drew1|refine below_set ?_ GE201.out)|exact HB.out)) hb);have n2_:=Aside0.mk (hbox);have n3_:=Aside0.mk ((by rw [hg];exact (below_size (by repeat (first|(with_reducible first|exact HB.out|apply below_alloc|apply pw_below_drewN|apply below_drew1|refine below_set ?_ GE201.out)|exact HB.out))) : w.heap.size≤gb202));have n4_:=Aside0.mk ((by rw [hg];exact (below_size (by repeat (first|(with_reducible first|exact HB.out|apply below_alloc|apply pw_below_drewN|apply below_drew1|refine below_set ?_ GE201.out)|exact HB.out))) : w.heap.size≤gb202));have n5_:=Aside0.mk ((by rw [hg];exact Nat.ne_of_lt (blk_lt (g:=gb201) (o:=.cells #[.int .i64 a0_0,.int .i64 a0_1,.slice A0_2 l0_2.length c0_2,.int .i64 a0_3,.int .i64 a0_4,.int .i64 a0_5] 46 (0,0)) (by (with_reducible repeat (first|refine blk_drewN ?_ _|refine blk_drew ?_|refine blk_alloc ?_ _));exact BK201.out)) : gb201≠gb202));have n6_:=Aside0.mk ((by rw [hg];exact Nat.ne_of_gt (blk_lt (g:=gb201) (o:=.cells #[.int .i64 a0_0,.int .i64 a0_1,.slice A0_2 l0_2.length c0_2,.int .i64 a0_3,.int .i64 a0_4,.int .i64 a0_5] 46 (0,0)) (by (with_reducible repeat (first|refine blk_drewN ?_ _|refine blk_drew ?_|refine blk_alloc ?_ _));exact BK201.out)) : gb202≠gb201));clear BK201;clear HB;have BK201:=n0_;have HB:=n1_;have BK202:=n2_;have GW202:=n3_;have GE202:=n4_;have NB201_202:=n5_;have NB202_201:=n6_;clear n0_ n1_ n2_ n3_ n4_ n5_ n6_;clear hb hbox hg;have hnb21:=NB201_202.out;have hnc21:=NB202_201.out;have hcz22_0 : w20.cell? ⟨gb201,0,none⟩=some (.int .i64 a0_0):=(blk_cell BK201.out 0).trans rfl;have hcz22_1 : w20.cell? ⟨gb201,1,none⟩=some (.int .i64 a0_1):=(blk_cell BK201.out 1).trans rfl;have hcz22_2 : w20.cell? ⟨gb201,2,none⟩=some (.slice A0_2 l0_2.length c0_2):=(blk_cell BK201.out 2).trans rfl;have hcz22_3 : w20.cell? ⟨gb201,3,none⟩=some (.int .i64 a0_3):=(blk_cell BK201.out 3).trans rfl;have hcz22_4 : w20.cell? ⟨gb201,4,none⟩=some (.int .i64 a0_4):=(blk_cell BK201.out 4).trans rfl;have hcz22_5 : w20.cell? ⟨gb201,5,none⟩=some (.int .i64 a0_5):=(blk_cell BK201.out 5).trans rfl;have hfz22_0:=blk_frozen BK201.out 0;have hfz22_1:=blk_frozen BK201.out 1;have hfz22_2:=blk_frozen BK201.out 2;have hfz22_3:=blk_frozen BK201.out 3;have hfz22_4:=blk_frozen BK201.out 4;have hfz22_5:=blk_frozen BK201.out 5;have hcz23_0 : w20.cell? ⟨gb202,0,none⟩=some (.int .i64 a1_0):=(blk_cell BK202.out 0).trans rfl;have hcz23_1 : w20.cell? ⟨gb202,1,none⟩=some (.int .i64 a1_1):=(blk_cell BK202.out 1).trans rfl;have hcz23_2 : w20.cell? ⟨gb202,2,none⟩=some (.slice A1_2 l1_2.length c1_2):=(blk_cell BK202.out 2).trans rfl;have hcz23_3 : w20.cell? ⟨gb202,3,none⟩=some (.int .i64 a1_3):=(blk_cell BK202.out 3).trans rfl;have hcz23_4 : w20.cell? ⟨gb202,4,none⟩=some (.int .i64 a1_4):=(blk_cell BK202.out 4).trans rfl;have hcz23_5 : w20.cell? ⟨gb202,5,none⟩=some (.int .i64 a1_5):=(blk_cell BK202.out 5).trans rfl;have hfz23_0:=blk_frozen BK202.out 0;have hfz23_1:=blk_frozen BK202.out 1;have hfz23_2:=blk_frozen BK202.out 2;have hfz23_3:=blk_frozen BK202.out 3;have hfz23_4:=blk_frozen BK202.out 4;have hfz23_5:=blk_frozen BK202.out 5))
     go_ret
     exact ⟨by first|rfl|(simp [errW_none,errW_some] <;> rfl)|(simp [*,errW_none,errW_some] <;> rfl),by repeat (first|(with_reducible first|exact HB.out|apply below_alloc|apply pw_below_drewN|apply below_drew1|refine below_set ?_ GE201.out|refine below_set ?_ GE202.out)|exact HB.out)⟩
   ·rw [if_neg c5] at H
    have c5b0 : (a0_3 == a1_3)=false:=beq_eq_false_iff_ne.mpr c5
    have c5b1 : (a0_3 != a1_3)=true:=bne_iff_ne.mpr c5
    obtain rfl:=Option.some.inj H
    go_enter Try.func58,Try.ntmps58
    go_wp2_with (first|((with_reducible refine gate_dst (N:=2) rfl ?_);refine box_event ?hg (N:=2) ?hd (cs:=#[.int .i64 a0_0,.int .i64 a0_1,.slice A0_2 l0_2.length c0_2,.int .i64 a0_3,.int .i64 a0_4,.int .i64 a0_5]) (t:=46) ?hr ?_;(case hd => rfl);(case hg => rfl);(case hr => first|(go_simp;done)|(go_simp;rfl));intro gb201 hg w24 hbox hb;have n0_:=Aside0.mk (below_step (by repeat (first|(with_reducible first|exact HB.out|apply below_alloc|apply pw_below_drewN|apply below_drew1)|exact HB.out)) hb);have n1_:=Aside0.mk (hbox);have n2_:=Aside0.mk ((by rw [hg];exact (below_size (by repeat (first|(with_reducible first|exact HB.out|apply below_alloc|apply pw_below_drewN|apply below_drew1)|exact HB.out))) : w.heap.size≤gb201));have n3_:=Aside0.mk ((by rw [hg];exact (below_size (by repeat (first|(with_reducible first|exact HB.out|apply below_alloc|apply pw_below_drewN|apply below_drew1)|exact HB.out))) : w.heap.size≤gb201));clear HB;have HB:=n0_;have BK201:=n1_;have GW201:=n2_;have GE201:=n3_;clear n0_ n1_ n2_ n3_;clear hb hbox hg)|((with_reducible refine gate_dst (N:=3) rfl ?_);refine box_event ?hg (N:=3) ?hd (cs:=#[.int .i64 a1_0,.int .i64 a1_1,.slice A1_2 l1_2.length c1_2,.int .i64 a1_3,.int .i64 a1_4,.int .i64 a1_5]) (t:=46) ?hr ?_;(case hd => rfl);(case hg => rfl);(case hr => first|(go_simp;done)|(go_simp;rfl));intro gb202 hg w25 hbox hb;have n0_:=Aside0.mk (blk_below (g:=gb201) (o:=.cells #[.int .i64 a0_0,.int .i64 a0_1,.slice A0_2 l0_2.length c0_2,.int .i64 a0_3,.int .i64 a0_4,.int .i64 a0_5] 46 (0,0)) (by (with_reducible repeat (first|refine blk_drewN ?_ _|refine blk_drew ?_|refine blk_alloc ?_ _));exact BK201.out) hb);have n1_:=Aside0.mk (below_step (by repeat (first|(with_reducible first|exact HB.out|apply below_alloc|apply pw_below_drewN|apply below_drew1|refine below_set ?_ GE201.out)|exact HB.out)) hb);have n2_:=Aside0.mk (hbox);have n3_:=Aside0.mk ((by rw [hg];exact (below_size (by repeat (first|(with_reducible first|exact HB.out|apply below_alloc|apply pw_below_drewN|apply below_drew1|refine below_set ?_ GE201.out)|exact HB.out))) : w.heap.size≤gb202));have n4_:=Aside0.mk ((by rw [hg];exact (below_size (by repeat (first|(with_reducible first|exact HB.out|apply below_alloc|apply pw_below_drewN|apply below_drew1|refine below_set ?_ GE201.out)|exact HB.out))) : w.heap.size≤gb202));have n5_:=Aside0.mk ((by rw [hg];exact Nat.ne_of_lt (blk_lt (g:=gb201) (o:=.cells #[.int .i64 a0_0,.int .i64 a0_1,.slice A0_2 l0_2.length c0_2,.int .i64 a0_3,.int .i64 a0_4,.int .i64 a0_5] 46 (0,0)) (by (with_reducible repeat (first|refine blk_drewN ?_ _|refine blk_drew ?_|refine blk_alloc ?_ _));exact BK201.out)) : gb201≠gb202));have n6_:=Aside0.mk ((by rw [hg];exact Nat.ne_of_gt (blk_lt (g:=gb201) (o:=.cells #[.int .i64 a0_0,.int .i64 a0_1,.slice A0_2 l0_2.length c0_2,.int .i64 a0_3,.int .i64 a0_4,.int .i64 a0_5] 46 (0,0)) (by (with_reducible repeat (first|refine blk_drewN ?_ _|refine blk_drew ?_|refine blk_alloc ?_ _));exact BK201.out)) : gb202≠gb201));clear BK201;clear HB;have BK201:=n0_;have HB:=n1_;have BK202:=n2_;have GW202:=n3_;have GE202:=n4_;have NB201_202:=n5_;have NB202_201:=n6_;clear n0_ n1_ n2_ n3_ n4_ n5_ n6_;clear hb hbox hg;have hnb26:=NB201_202.out;have hnc26:=NB202_201.out;have hcz27_0 : w25.cell? ⟨gb201,0,none⟩=some (.int .i64 a0_0):=(blk_cell BK201.out 0).trans rfl;have hcz27_1 : w25.cell? ⟨gb201,1,none⟩=some (.int .i64 a0_1):=(blk_cell BK201.out 1).trans rfl;have hcz27_2 : w25.cell? ⟨gb201,2,none⟩=some (.slice A0_2 l0_2.length c0_2):=(blk_cell BK201.out 2).trans rfl;have hcz27_3 : w25.cell? ⟨gb201,3,none⟩=some (.int .i64 a0_3):=(blk_cell BK201.out 3).trans rfl;have hcz27_4 : w25.cell? ⟨gb201,4,none⟩=some (.int .i64 a0_4):=(blk_cell BK201.out 4).trans rfl;have hcz27_5 : w25.cell? ⟨gb201,5,none⟩=some (.int .i64 a0_5):=(blk_cell BK201.out 5).trans rfl;have hfz27_0:=blk_frozen BK201.out 0;have hfz27_1:=blk_frozen BK201.out 1;have hfz27_2:=blk_frozen BK201.out 2;have hfz27_3:=blk_frozen BK201.out 3;have hfz27_4:=blk_frozen BK201.out 4;have hfz27_5:=blk_frozen BK201.out 5;have hcz28_0 : w25.cell? ⟨gb202,0,none⟩=some (.int .i64 a1_0):=(blk_cell BK202.out 0).trans rfl;have hcz28_1 : w25.cell? ⟨gb202,1,none⟩=some (.int .i64 a1_1):=(blk_cell BK202.out 1).trans rfl;have hcz28_2 : w25.cell? ⟨gb202,2,none⟩=some (.slice A1_2 l1_2.length c1_2):=(blk_cell BK202.out 2).trans rfl;have hcz28_3 : w25.cell? ⟨gb202,3,none⟩=some (.int .i64 a1_3):=(blk_cell BK202.out 3).trans rfl;have hcz28_4 : w25.cell? ⟨gb202,4,none⟩=some (.int .i64 a1_4):=(blk_cell BK202.out 4).trans rfl;have hcz28_5 : w25.cell? ⟨gb202,5,none⟩=some (.int .i64 a1_5):=(blk_cell BK202.out 5).trans rfl;have hfz28_0:=blk_frozen BK202.out 0;have hfz28_1:=blk_frozen BK202.out 1;have hfz28_2:=blk_frozen BK202.out 2;have hfz28_3:=blk_frozen BK202.out 3;have hfz28_4:=blk_frozen BK202.out 4;have hfz28_5:=blk_frozen BK202.out 5))
    go_ret
    exact ⟨by first|rfl|(simp [errW_none,errW_some] <;> rfl)|(simp [*,errW_none,errW_some] <;> rfl),by repeat (first|(with_reducible first|exact HB.out|apply below_alloc|apply pw_below_drewN|apply below_drew1|refine below_set ?_ GE201.out|refine below_set ?_ GE202.out)|exact HB.out)⟩
  ·rw [if_neg c4] at H
   have c4b0 : (a0_1 == a1_1)=false:=beq_eq_false_iff_ne.mpr c4
   have c4b1 : (a0_1 != a1_1)=true:=bne_iff_ne.mpr c4
   obtain rfl:=Option.some.inj H
   go_enter Try.func58,Try.ntmps58
   go_wp2_with (first|((with_reducible refine gate_dst (N:=2) rfl ?_);refine box_event ?hg (N:=2) ?hd (cs:=#[.int .i64 a0_0,.int .i64 a0_1,.slice A0_2 l0_2.length c0_2,.int .i64 a0_3,.int .i64 a0_4,.int .i64 a0_5]) (t:=46) ?hr ?_;(case hd => rfl);(case hg => rfl);(case hr => first|(go_simp;done)|(go_simp;rfl));intro gb201 hg w29 hbox hb;have n0_:=Aside0.mk (below_step (by repeat (first|(with_reducible first|exact HB.out|apply below_alloc|apply pw_below_drewN|apply below_drew1)|exact HB.out)) hb);have n1_:=Aside0.mk (hbox);have n2_:=Aside0.mk ((by rw [hg];exact (below_size (by repeat (first|(with_reducible first|exact HB.out|apply below_alloc|apply pw_below_drewN|apply below_drew1)|exact HB.out))) : w.heap.size≤gb201));have n3_:=Aside0.mk ((by rw [hg];exact (below_size (by repeat (first|(with_reducible first|exact HB.out|apply below_alloc|apply pw_below_drewN|apply below_drew1)|exact HB.out))) : w.heap.size≤gb201));clear HB;have HB:=n0_;have BK201:=n1_;have GW201:=n2_;have GE201:=n3_;clear n0_ n1_ n2_ n3_;clear hb hbox hg)|((with_reducible refine gate_dst (N:=3) rfl ?_);refine box_event ?hg (N:=3) ?hd (cs:=#[.int .i64 a1_0,.int .i64 a1_1,.slice A1_2 l1_2.length c1_2,.int .i64 a1_3,.int .i64 a1_4,.int .i64 a1_5]) (t:=46) ?hr ?_;(case hd => rfl);(case hg => rfl);(case hr => first|(go_simp;done)|(go_simp;rfl));intro gb202 hg w30 hbox hb;have n0_:=Aside0.mk (blk_below (g:=gb201) (o:=.cells #[.int .i64 a0_0,.int .i64 a0_1,.slice A0_2 l0_2.length c0_2,.int .i64 a0_3,.int .i64 a0_4,.int .i64 a0_5] 46 (0,0)) (by (with_reducible repeat (first|refine blk_drewN ?_ _|refine blk_drew ?_|refine blk_alloc ?_ _));exact BK201.out) hb);have n1_:=Aside0.mk (below_step (by repeat (first|(with_reducible first|exact HB.out|apply below_alloc|apply pw_below_drewN|apply below_drew1|refine below_set ?_ GE201.out)|exact HB.out)) hb);have n2_:=Aside0.mk (hbox);have n3_:=Aside0.mk ((by rw [hg];exact (below_size (by repeat (first|(with_reducible first|exact HB.out|apply below_alloc|apply pw_below_drewN|apply below_drew1|refine below_set ?_ GE201.out)|exact HB.out))) : w.heap.size≤gb202));have n4_:=Aside0.mk ((by rw [hg];exact (below_size (by repeat (first|(with_reducible first|exact HB.out|apply below_alloc|apply pw_below_drewN|apply below_drew1|refine below_set ?_ GE201.out)|exact HB.out))) : w.heap.size≤gb202));have n5_:=Aside0.mk ((by rw [hg];exact Nat.ne_of_lt (blk_lt (g:=gb201) (o:=.cells #[.int .i64 a0_0,.int .i64 a0_1,.slice A0_2 l0_2.length c0_2,.int .i64 a0_3,.int .i64 a0_4,.int .i64 a0_5] 46 (0,0)) (by (with_reducible repeat (first|refine blk_drewN ?_ _|refine blk_drew ?_|refine blk_alloc ?_ _));exact BK201.out)) : gb201≠gb202));have n6_:=Aside0.mk ((by rw [hg];exact Nat.ne_of_gt (blk_lt (g:=gb201) (o:=.cells #[.int .i64 a0_0,.int .i64 a0_1,.slice A0_2 l0_2.length c0_2,.int .i64 a0_3,.int .i64 a0_4,.int .i64 a0_5] 46 (0,0)) (by (with_reducible repeat (first|refine blk_drewN ?_ _|refine blk_drew ?_|refine blk_alloc ?_ _));exact BK201.out)) : gb202≠gb201));clear BK201;clear HB;have BK201:=n0_;have HB:=n1_;have BK202:=n2_;have GW202:=n3_;have GE202:=n4_;have NB201_202:=n5_;have NB202_201:=n6_;clear n0_ n1_ n2_ n3_ n4_ n5_ n6_;clear hb hbox hg;have hnb31:=NB201_202.out;have hnc31:=NB202_201.out;have hcz32_0 : w30.cell? ⟨gb201,0,none⟩=some (.int .i64 a0_0):=(blk_cell BK201.out 0).trans rfl;have hcz32_1 : w30.cell? ⟨gb201,1,none⟩=some (.int .i64 a0_1):=(blk_cell BK201.out 1).trans rfl;have hcz32_2 : w30.cell? ⟨gb201,2,none⟩=some (.slice A0_2 l0_2.length c0_2):=(blk_cell BK201.out 2).trans rfl;have hcz32_3 : w30.cell? ⟨gb201,3,none⟩=some (.int .i64 a0_3):=(blk_cell BK201.out 3).trans rfl;have hcz32_4 : w30.cell? ⟨gb201,4,none⟩=some (.int .i64 a0_4):=(blk_cell BK201.out 4).trans rfl;have hcz32_5 : w30.cell? ⟨gb201,5,none⟩=some (.int .i64 a0_5):=(blk_cell BK201.out 5).trans rfl;have hfz32_0:=blk_frozen BK201.out 0;have hfz32_1:=blk_frozen BK201.out 1;have hfz32_2:=blk_frozen BK201.out 2;have hfz32_3:=blk_frozen BK201.out 3;have hfz32_4:=blk_frozen BK201.out 4;have hfz32_5:=blk_frozen BK201.out 5;have hcz33_0 : w30.cell? ⟨gb202,0,none⟩=some (.int .i64 a1_0):=(blk_cell BK202.out 0).trans rfl;have hcz33_1 : w30.cell? ⟨gb202,1,none⟩=some (.int .i64 a1_1):=(blk_cell BK202.out 1).trans rfl;have hcz33_2 : w30.cell? ⟨gb202,2,none⟩=some (.slice A1_2 l1_2.length c1_2):=(blk_cell BK202.out 2).trans rfl;have hcz33_3 : w30.cell? ⟨gb202,3,none⟩=some (.int .i64 a1_3):=(blk_cell BK202.out 3).trans rfl;have hcz33_4 : w30.cell? ⟨gb202,4,none⟩=some (.int .i64 a1_4):=(blk_cell BK202.out 4).trans rfl;have hcz33_5 : w30.cell? ⟨gb202,5,none⟩=some (.int .i64 a1_5):=(blk_cell BK202.out 5).trans rfl;have hfz33_0:=blk_frozen BK202.out 0;have hfz33_1:=blk_frozen BK202.out 1;have hfz33_2:=blk_frozen BK202.out 2;have hfz33_3:=blk_frozen BK202.out 3;have hfz33_4:=blk_frozen BK202.out 4;have hfz33_5:=blk_frozen BK202.out 5))
   go_ret
   exact ⟨by first|rfl|(simp [errW_none,errW_some] <;> rfl)|(simp [*,errW_none,errW_some] <;> rfl),by repeat (first|(with_reducible first|exact HB.out|apply below_alloc|apply pw_below_drewN|apply below_drew1|refine below_set ?_ GE201.out|refine below_set ?_ GE202.out)|exact HB.out)⟩
 ·rw [if_neg c3] at H
  have c3b0 : (a0_0 == a1_0)=false:=beq_eq_false_iff_ne.mpr c3
  have c3b1 : (a0_0 != a1_0)=true:=bne_iff_ne.mpr c3
  obtain rfl:=Option.some.inj H
  go_enter Try.func58,Try.ntmps58
  go_wp2_with (first|((with_reducible refine gate_dst (N:=2) rfl ?_);refine box_event ?hg (N:=2) ?hd (cs:=#[.int .i64 a0_0,.int .i64 a0_1,.slice A0_2 l0_2.length c0_2,.int .i64 a0_3,.int .i64 a0_4,.int .i64 a0_5]) (t:=46) ?hr ?_;(case hd => rfl);(case hg => rfl);(case hr => first|(go_simp;done)|(go_simp;rfl));intro gb201 hg w34 hbox hb;have n0_:=Aside0.mk (below_step (by repeat (first|(with_reducible first|exact HB.out|apply below_alloc|apply pw_below_drewN|apply below_drew1)|exact HB.out)) hb);have n1_:=Aside0.mk (hbox);have n2_:=Aside0.mk ((by rw [hg];exact (below_size (by repeat (first|(with_reducible first|exact HB.out|apply below_alloc|apply pw_below_drewN|apply below_drew1)|exact HB.out))) : w.heap.size≤gb201));have n3_:=Aside0.mk ((by rw [hg];exact (below_size (by repeat (first|(with_reducible first|exact HB.out|apply below_alloc|apply pw_below_drewN|apply below_drew1)|exact HB.out))) : w.heap.size≤gb201));clear HB;have HB:=n0_;have BK201:=n1_;have GW201:=n2_;have GE201:=n3_;clear n0_ n1_ n2_ n3_;clear hb hbox hg)|((with_reducible refine gate_dst (N:=3) rfl ?_);refine box_event ?hg (N:=3) ?hd (cs:=#[.int .i64 a1_0,.int .i64 a1_1,.slice A1_2 l1_2.length c1_2,.int .i64 a1_3,.int .i64 a1_4,.int .i64 a1_5]) (t:=46) ?hr ?_;(case hd => rfl);(case hg => rfl);(case hr => first|(go_simp;done)|(go_simp;rfl));intro gb202 hg w35 hbox hb;have n0_:=Aside0.mk (blk_below (g:=gb201) (o:=.cells #[.int .i64 a0_0,.int .i64 a0_1,.slice A0_2 l0_2.length c0_2,.int .i64 a0_3,.int .i64 a0_4,.int .i64 a0_5] 46 (0,0)) (by (with_reducible repeat (first|refine blk_drewN ?_ _|refine blk_drew ?_|refine blk_alloc ?_ _));exact BK201.out) hb);have n1_:=Aside0.mk (below_step (by repeat (first|(with_reducible first|exact HB.out|apply below_alloc|apply pw_below_drewN|apply below_drew1|refine below_set ?_ GE201.out)|exact HB.out)) hb);have n2_:=Aside0.mk (hbox);have n3_:=Aside0.mk ((by rw [hg];exact (below_size (by repeat (first|(with_reducible first|exact HB.out|apply below_alloc|apply pw_below_drewN|apply below_drew1|refine below_set ?_ GE201.out)|exact HB.out))) : w.heap.size≤gb202));have n4_:=Aside0.mk ((by rw [hg];exact (below_size (by repeat (first|(with_reducible first|exact HB.out|apply below_alloc|apply pw_below_drewN|apply below_drew1|refine below_set ?_ GE201.out)|exact HB.out))) : w.heap.size≤gb202));have n5_:=Aside0.mk ((by rw [hg];exact Nat.ne_of_lt (blk_lt (g:=gb201) (o:=.cells #[.int .i64 a0_0,.int .i64 a0_1,.slice A0_2 l0_2.length c0_2,.int .i64 a0_3,.int .i64 a0_4,.int .i64 a0_5] 46 (0,0)) (by (with_reducible repeat (first|refine blk_drewN ?_ _|refine blk_drew ?_|refine blk_alloc ?_ _));exact BK201.out)) : gb201≠gb202));have n6_:=Aside0.mk ((by rw [hg];exact Nat.ne_of_gt (blk_lt (g:=gb201) (o:=.cells #[.int .i64 a0_0,.int .i64 a0_1,.slice A0_2 l0_2.length c0_2,.int .i64 a0_3,.int .i64 a0_4,.int .i64 a0_5] 46 (0,0)) (by (with_reducible repeat (first|refine blk_drewN ?_ _|refine blk_drew ?_|refine blk_alloc ?_ _));exact BK201.out)) : gb202≠gb201));clear BK201;clear HB;have BK201:=n0_;have HB:=n1_;have BK202:=n2_;have GW202:=n3_;have GE202:=n4_;have NB201_202:=n5_;have NB202_201:=n6_;clear n0_ n1_ n2_ n3_ n4_ n5_ n6_;clear hb hbox hg;have hnb36:=NB201_202.out;have hnc36:=NB202_201.out;have hcz37_0 : w35.cell? ⟨gb201,0,none⟩=some (.int .i64 a0_0):=(blk_cell BK201.out 0).trans rfl;have hcz37_1 : w35.cell? ⟨gb201,1,none⟩=some (.int .i64 a0_1):=(blk_cell BK201.out 1).trans rfl;have hcz37_2 : w35.cell? ⟨gb201,2,none⟩=some (.slice A0_2 l0_2.length c0_2):=(blk_cell BK201.out 2).trans rfl;have hcz37_3 : w35.cell? ⟨gb201,3,none⟩=some (.int .i64 a0_3):=(blk_cell BK201.out 3).trans rfl;have hcz37_4 : w35.cell? ⟨gb201,4,none⟩=some (.int .i64 a0_4):=(blk_cell BK201.out 4).trans rfl;have hcz37_5 : w35.cell? ⟨gb201,5,none⟩=some (.int .i64 a0_5):=(blk_cell BK201.out 5).trans rfl;have hfz37_0:=blk_frozen BK201.out 0;have hfz37_1:=blk_frozen BK201.out 1;have hfz37_2:=blk_frozen BK201.out 2;have hfz37_3:=blk_frozen BK201.out 3;have hfz37_4:=blk_frozen BK201.out 4;have hfz37_5:=blk_frozen BK201.out 5;have hcz38_0 : w35.cell? ⟨gb202,0,none⟩=some (.int .i64 a1_0):=(blk_cell BK202.out 0).trans rfl;have hcz38_1 : w35.cell? ⟨gb202,1,none⟩=some (.int .i64 a1_1):=(blk_cell BK202.out 1).trans rfl;have hcz38_2 : w35.cell? ⟨gb202,2,none⟩=some (.slice A1_2 l1_2.length c1_2):=(blk_cell BK202.out 2).trans rfl;have hcz38_3 : w35.cell? ⟨gb202,3,none⟩=some (.int .i64 a1_3):=(blk_cell BK202.out 3).trans rfl;have hcz38_4 : w35.cell? ⟨gb202,4,none⟩=some (.int .i64 a1_4):=(blk_cell BK202.out 4).trans rfl;have hcz38_5 : w35.cell? ⟨gb202,5,none⟩=some (.int .i64 a1_5):=(blk_cell BK202.out 5).trans rfl;have hfz38_0:=blk_frozen BK202.out 0;have hfz38_1:=blk_frozen BK202.out 1;have hfz38_2:=blk_frozen BK202.out 2;have hfz38_3:=blk_frozen BK202.out 3;have hfz38_4:=blk_frozen BK202.out 4;have hfz38_5:=blk_frozen BK202.out 5))
  go_ret
  exact ⟨by first|rfl|(simp [errW_none,errW_some] <;> rfl)|(simp [*,errW_none,errW_some] <;> rfl),by repeat (first|(with_reducible first|exact HB.out|apply below_alloc|apply pw_below_drewN|apply below_drew1|refine below_set ?_ GE201.out|refine below_set ?_ GE202.out)|exact HB.out)⟩
end Go.Proofs.Ytbelnopbggkdfaa.Q
end
