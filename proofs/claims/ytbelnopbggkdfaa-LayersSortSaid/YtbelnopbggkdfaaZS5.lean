/- A part of the proof: texts of this claim laid together by a program of its own; what the proof does not use is struck. -/
import Derived.Test.YtbelnopbggkdfaaZS4
section
namespace Go.Proofs.Ytbelnopbggkdfaa.Q
open Go.RowKit Go.Proofs.YtbelnopbggkdfaaW.PrintWords Go.Proofs.YtbelnopbggkdfaaW.PrintLast Go.Proofs.YtbelnopbggkdfaaW.PrintMore
attribute [local go_sem] max2_int min2_int max_two min_two max_three min_three max_four min_four   -- for this text's walks alone
set_option linter.unusedVariables false
set_option linter.unusedSimpArgs false
mutual
def phasorref19_Moments.l0 : Nat→List Int→Int→List (List Int)→Int→Int→Int→List (S46)→Option ((List (List Int)) × Int)
 | 0,_,_,_,_,_,_,_ => none
 | k + 1,x4,x6,x8,x9,x777000,x777001,x777002 => if x9≤x6 then (phasorref19_Moments.l1 k x4 x6 x8 x9 ([] : List Int) 0 x777000 x777001 x777002) else (some (x8,0))
def phasorref19_Moments.l1 : Nat→List Int→Int→List (List Int)→Int→List Int→Int→Int→Int→List (S46)→Option ((List (List Int)) × Int)
 | 0,_,_,_,_,_,_,_,_,_ => none
 | k + 1,x4,x6,x8,x9,x10,x11,x777000,x777001,x777002 => if x11 < (x4.length : Int) then (if 0≤x11 then (if (rd x4 x11)=x9 then ((phasorref19_bar.f x777000 x777001 x777002 x11).bind fun t784 => (if t784=true then (phasorref19_Moments.l1 k x4 x6 x8 x9 x10 (wrap64 (x11 + 1)) x777000 x777001 x777002) else (if x10.length < 17592186044416 then (phasorref19_Moments.l1 k x4 x6 x8 x9 (x10 ++ [x11]) (wrap64 (x11 + 1)) x777000 x777001 x777002) else (none)))) else (phasorref19_Moments.l1 k x4 x6 x8 x9 x10 (wrap64 (x11 + 1)) x777000 x777001 x777002)) else (none)) else (if x8.length < 5864062014805 then (phasorref19_Moments.l0 k x4 x6 (x8 ++ [x10]) (wrap64 (x9 + 1)) x777000 x777001 x777002) else (none))
end
def phasorref19_Moments.f (k : Nat) (a0_0 : Int) (a0_1 : Int) (l0_2 : List (S46)) : Option ((List (List Int)) × Int):=(phasorref19_Early.f k a0_0 a0_1 l0_2).bind fun bt777 => ((phasorref19_Depth.f k a0_0 a0_1 l0_2).bind fun bt781 => (if bt777.2=0 then (phasorref19_Moments.l0 k bt777.1 bt781.1 ([] : List (List Int)) 1 a0_0 a0_1 l0_2) else (some (([] : List (List Int)),bt777.2))))
set_option maxHeartbeats 8000000 in
set_option maxRecDepth 100000 in
theorem phasorref19_Moments.calls (k : Nat) (a0_0 : Int) (a0_1 : Int) (A0_2 : Option Addr) (c0_2 : Nat) (l0_2 : List (S46)) (r1 : List (List Int)) (r2 : Int) (w : World) (hr0_2 : Kd.C k46 w A0_2 l0_2.length l0_2) (hc0_2 : l0_2.length≤c0_2) (h : phasorref19_Moments.f k a0_0 a0_1 l0_2=some (r1,r2)) :
  Calls Try.prog 38 #[.agg #[.int .i64 a0_0,.int .i64 a0_1,.slice A0_2 l0_2.length c0_2]] w fun e w' => ∃ v0_ : Value,e=.returned (.tuple #[v0_,.int .i64 r2])∧Kd.S (Kd.slice 3 (Kd.int .i64)) 37 w' w.heap.size (fun _ => True) v0_ r1∧Below w.heap.size w w':=by
 have hu24:=Try.underlying24
 have HR0_2:=Aside0.mk hr0_2
 have HC0_2:=Aside0.mk hc0_2
 clear hr0_2 hc0_2
 have HB:=Aside0.mk (Below.refl w.heap.size w)
 have H : ((phasorref19_Early.f k a0_0 a0_1 l0_2).bind fun bt777 => ((phasorref19_Depth.f k a0_0 a0_1 l0_2).bind fun bt781 => (if bt777.2=0 then (phasorref19_Moments.l0 k bt777.1 bt781.1 ([] : List (List Int)) 1 a0_0 a0_1 l0_2) else (some (([] : List (List Int)),bt777.2)))))=some (r1,r2):=h
 clear h
 replace H:=Option.bind_eq_some_iff.mp H
 obtain ⟨⟨t777,t780⟩,A20,H⟩:=H
 replace H : ((phasorref19_Depth.f k a0_0 a0_1 l0_2).bind fun bt781 => (if t780=0 then (phasorref19_Moments.l0 k t777 bt781.1 ([] : List (List Int)) 1 a0_0 a0_1 l0_2) else (some (([] : List (List Int)),t780))))=some (r1,r2):=H
 have A2:=Aside0.mk A20
 clear A20
 replace H:=Option.bind_eq_some_iff.mp H
 obtain ⟨⟨t781,t782⟩,A30,H⟩:=H
 replace H : (if t780=0 then (phasorref19_Moments.l0 k t777 t781 ([] : List (List Int)) 1 a0_0 a0_1 l0_2) else (some (([] : List (List Int)),t780)))=some (r1,r2):=H
 have A3:=Aside0.mk A30
 clear A30
 by_cases c4 : t780=0
 ·rw [if_pos c4] at H
  have c4b0 : (t780 == 0)=true:=beq_iff_eq.mpr c4
  have c4b1 : (t780 != 0)=false:=bne_eq_false_iff_eq.mpr c4
  clear c4
  have H':=Aside0.mk H
  clear H
  go_enter Try.func38,Try.ntmps38
  go_wp2_with (first|((with_reducible refine gate_dst (N:=1) rfl ?_);refine box_event ?hg (N:=1) ?hd (cs:=#[.int .i64 a0_0,.int .i64 a0_1,.slice A0_2 l0_2.length c0_2]) (t:=24) ?hr ?_;(case hd => rfl);(case hg => rfl);(case hr => first|(go_simp;done)|(go_simp;rfl));intro gb776 hg w5 hbox hb;have n0_:=Aside0.mk (below_step (by repeat (first|(with_reducible first|exact HB.out|apply below_alloc|apply pw_below_drewN|apply below_drew1)|exact HB.out)) hb);have n1_:=Aside0.mk (hbox);have n2_:=Aside0.mk ((by rw [hg];exact (below_size (by repeat (first|(with_reducible first|exact HB.out|apply below_alloc|apply pw_below_drewN|apply below_drew1)|exact HB.out))) : w.heap.size≤gb776));have n3_:=Aside0.mk ((by rw [hg];exact (below_size (by repeat (first|(with_reducible first|exact HB.out|apply below_alloc|apply pw_below_drewN|apply below_drew1)|exact HB.out))) : w.heap.size≤gb776));clear HB;have HB:=n0_;have BK776:=n1_;have GW776:=n2_;have GE776:=n3_;clear n0_ n1_ n2_ n3_;clear hb hbox hg;have hcz6_0 : w5.cell? ⟨gb776,0,none⟩=some (.int .i64 a0_0):=(blk_cell BK776.out 0).trans rfl;have hcz6_1 : w5.cell? ⟨gb776,1,none⟩=some (.int .i64 a0_1):=(blk_cell BK776.out 1).trans rfl;have hcz6_2 : w5.cell? ⟨gb776,2,none⟩=some (.slice A0_2 l0_2.length c0_2):=(blk_cell BK776.out 2).trans rfl;have hfz6_0:=blk_frozen BK776.out 0;have hfz6_1:=blk_frozen BK776.out 1;have hfz6_2:=blk_frozen BK776.out 2)|((with_reducible refine gate_callee (f:=28) rfl ?_);refine goesL_ (some 14) rfl rfl Try.func28 (by kernel_rfl) rfl #[.agg #[.int .i64 a0_0,.int .i64 a0_1,.slice A0_2 l0_2.length c0_2]] rfl (by (try simp only [List.map_toArray,List.map_cons,List.map_nil]);first|done|rfl|(simp only [List.length_drop,List.length_take];rfl)) ?_;(with_reducible refine (phasorref19_Early.calls k a0_0 a0_1 _ _ l0_2 t777 t780 _ ?side1 ?side2 A2.out).mono ?_);(case side1 => repeat (first|exact (Kd.C_below HR0_2.out HB.out)|(with_reducible refine Kd.C_alloc ?_ _)|(with_reducible refine Kd.C_drewN ?_ _)|(with_reducible refine Kd.C_drew ?_)));(case side2 => exact HC0_2.out);rintro e w7 ⟨v778,rfl,ho0,hb⟩;refine ⟨_,rfl,?_⟩;have n0_:=Aside0.mk (Kd.R_lower ho0 (below_size (by repeat (first|(with_reducible first|exact HB.out|apply below_alloc|apply pw_below_drewN|apply below_drew1|refine below_set ?_ GE776.out)|exact HB.out))));have n1_:=Aside0.mk (blk_below (g:=gb776) (o:=.cells #[.int .i64 a0_0,.int .i64 a0_1,.slice A0_2 l0_2.length c0_2] 24 (0,0)) (by (with_reducible repeat (first|refine blk_drewN ?_ _|refine blk_drew ?_|refine blk_alloc ?_ _));exact BK776.out) hb);have n2_:=Aside0.mk (below_step (by repeat (first|(with_reducible first|exact HB.out|apply below_alloc|apply pw_below_drewN|apply below_drew1|refine below_set ?_ GE776.out)|exact HB.out)) hb);clear BK776;clear HB;have HO779:=n0_;have BK776:=n1_;have HB:=n2_;clear n0_ n1_ n2_;(try clear hb);(try clear hb2);(try clear hk);(try clear hi);(try clear ho0);have hcz8_0 : w7.cell? ⟨gb776,0,none⟩=some (.int .i64 a0_0):=(blk_cell BK776.out 0).trans rfl;have hcz8_1 : w7.cell? ⟨gb776,1,none⟩=some (.int .i64 a0_1):=(blk_cell BK776.out 1).trans rfl;have hcz8_2 : w7.cell? ⟨gb776,2,none⟩=some (.slice A0_2 l0_2.length c0_2):=(blk_cell BK776.out 2).trans rfl;have hfz8_0:=blk_frozen BK776.out 0;have hfz8_1:=blk_frozen BK776.out 1;have hfz8_2:=blk_frozen BK776.out 2)|((with_reducible refine gate_callee (f:=35) rfl ?_);refine goesL_ (some 19) rfl rfl Try.func35 (by kernel_rfl) rfl #[.agg #[.int .i64 a0_0,.int .i64 a0_1,.slice A0_2 l0_2.length c0_2]] rfl (by (try simp only [List.map_toArray,List.map_cons,List.map_nil]);first|done|rfl|(simp only [List.length_drop,List.length_take];rfl)) ?_;(with_reducible refine (phasorref19_Depth.calls k a0_0 a0_1 _ _ l0_2 t781 t782 _ ?side1 ?side2 A3.out).mono ?_);(case side1 => repeat (first|exact (Kd.C_below HR0_2.out HB.out)|(with_reducible refine Kd.C_alloc ?_ _)|(with_reducible refine Kd.C_drewN ?_ _)|(with_reducible refine Kd.C_drew ?_)));(case side2 => exact HC0_2.out);rintro e w9 ⟨rfl,hb⟩;refine ⟨_,rfl,?_⟩;have n0_:=Aside0.mk (Kd.R_below (by (with_reducible repeat (first|apply Kd.R_alloc|apply Kd.R_drewN|apply Kd.R_drew));exact HO779.out) hb);have n1_:=Aside0.mk (blk_below (g:=gb776) (o:=.cells #[.int .i64 a0_0,.int .i64 a0_1,.slice A0_2 l0_2.length c0_2] 24 (0,0)) (by (with_reducible repeat (first|refine blk_drewN ?_ _|refine blk_drew ?_|refine blk_alloc ?_ _));exact BK776.out) hb);have n2_:=Aside0.mk (below_step (by repeat (first|(with_reducible first|exact HB.out|apply below_alloc|apply pw_below_drewN|apply below_drew1|refine below_set ?_ GE776.out)|exact HB.out)) hb);clear HO779;clear BK776;clear HB;have HO779:=n0_;have BK776:=n1_;have HB:=n2_;clear n0_ n1_ n2_;(try clear hb);(try clear hb2);(try clear hk);(try clear hi)))
  go_loopg [8,9] k (fun kq v8 v9 w' => ∃ (x8_1 : List (List Int)) (x9_1 : Int),v9=.int .i64 x9_1∧Aside0 (phasorref19_Moments.l0 kq t777 t781 x8_1 x9_1 a0_0 a0_1 l0_2=some (r1,r2))∧Aside0 (kq≤k)∧Aside0 (Kd.R (Kd.int .i64) 3 w' w.heap.size (fun _ => True) v778 t777)∧Aside0 (Kd.S (Kd.slice 3 (Kd.int .i64)) 37 w' w.heap.size (fun k_ => some k_≠(v778 : Value).ownBlock) v8 x8_1)∧Aside0 (w'.heap[gb776]?=some (.cells #[.int .i64 a0_0,.int .i64 a0_1,(.slice A0_2 l0_2.length c0_2)] 24 (0,0)))∧Aside0 (Below w.heap.size w w'))
  case atStart => exact ⟨(([] : List (List Int))),(1),(by first|rfl|(simp;done)|(simp [*];done)),H',⟨Nat.le_refl _⟩,⟨by (with_reducible repeat (first|apply Kd.R_alloc|apply Kd.R_drewN|apply Kd.R_drew));exact HO779.out⟩,⟨by first|exact Kd.S_nil _ _ _ _ _|exact Kd.N_nil _ _ _ _ _|exact Kd.V_nil _ _ _ _ _|exact Kd.Q_nil _ _ _ _ _|exact Kd.R_nil _ _ _ _ _⟩,⟨by (with_reducible repeat (first|refine blk_drewN ?_ _|refine blk_drew ?_|refine blk_alloc ?_ _));exact BK776.out⟩,⟨by repeat (first|(with_reducible first|exact HB.out|apply below_alloc|apply pw_below_drewN|apply below_drew1|refine below_set ?_ GE776.out)|exact HB.out)⟩⟩
  case round =>
   clear H'
   try clear c2
   try clear p2
   try clear c3
   try clear c4
   try clear c4b0
   try clear c4b1
   try clear hcz6_0
   try clear hcz6_1
   try clear hcz6_2
   try clear hcz8_0
   try clear hcz8_1
   try clear hcz8_2
   try clear hfz6_0
   try clear hfz6_1
   try clear hfz6_2
   try clear hfz8_0
   try clear hfz8_1
   try clear hfz8_2
   obtain ⟨x8_1,x9_1,rfl,HA,HK1,HO_4,HO_8,BK776,HB⟩:=hrel
   cases gk with
   | zero => exact absurd HA.out (by simp [phasorref19_Moments.l0])
   | succ k1 =>
    have H:=HA.out
    clear HA
    simp only [phasorref19_Moments.l0] at H
    by_cases c10 : x9_1≤t781
    ·rw [if_pos c10] at H
     have c10b0 : decide (x9_1≤t781)=true:=decide_eq_true c10
     clear c10
     have H':=Aside0.mk H
     clear H
     go_wp2
     go_loopg [10,11] k1 (fun kq v10 v11 w' => ∃ (x10_2 : List Int) (x11_2 : Int),v11=.int .i64 x11_2∧Aside0 (phasorref19_Moments.l1 kq t777 t781 x8_1 x9_1 x10_2 x11_2 a0_0 a0_1 l0_2=some (r1,r2))∧Aside0 (kq≤k1)∧Aside0 (Kd.R (Kd.int .i64) 3 w' w.heap.size (fun k_ => some k_≠(v10 : Value).ownBlock) v778 t777)∧Aside0 (Kd.S (Kd.slice 3 (Kd.int .i64)) 37 w' w.heap.size (fun k_ => some k_≠(v778 : Value).ownBlock∧some k_≠(v10 : Value).ownBlock) u8 x8_1)∧Aside0 (Kd.R (Kd.int .i64) 3 w' w.heap.size (fun k_ => some k_≠(v778 : Value).ownBlock) v10 x10_2)∧Aside0 (w'.heap[gb776]?=some (.cells #[.int .i64 a0_0,.int .i64 a0_1,(.slice A0_2 l0_2.length c0_2)] 24 (0,0)))∧Aside0 (Below w.heap.size w w'))
     case atStart => exact ⟨(([] : List Int)),(0),(by first|rfl|(simp;done)|(simp [*];done)),H',⟨Nat.le_refl _⟩,⟨by (with_reducible repeat (first|apply Kd.R_alloc|apply Kd.R_drewN|apply Kd.R_drew));exact Kd.R_mono HO_4.out (fun _ hk => (by simp [Value.ownBlock]))⟩,⟨by (with_reducible repeat (first|apply Kd.S_alloc|apply Kd.S_drewN|apply Kd.S_drew));exact Kd.S_mono HO_8.out (fun _ hk => ⟨hk,(by simp [Value.ownBlock])⟩)⟩,⟨by first|exact Kd.R_nil _ _ _ _ _|exact Kd.N_nil _ _ _ _ _|exact Kd.V_nil _ _ _ _ _|exact Kd.Q_nil _ _ _ _ _|exact Kd.S_nil _ _ _ _ _⟩,⟨by (with_reducible repeat (first|refine blk_drewN ?_ _|refine blk_drew ?_|refine blk_alloc ?_ _));exact BK776.out⟩,⟨by repeat (first|(with_reducible first|exact HB.out|apply below_alloc|apply pw_below_drewN|apply below_drew1|refine below_set ?_ GE776.out)|exact HB.out)⟩⟩
     case round =>
      clear H'
      try clear c1
      try clear c2
      try clear p2
      try clear c3
      try clear c4
      try clear c4b0
      try clear c4b1
      try clear c10
      try clear c10b0
      try clear hcz6_0
      try clear hcz6_1
      try clear hcz6_2
      try clear hcz8_0
      try clear hcz8_1
      try clear hcz8_2
      try clear hfz6_0
      try clear hfz6_1
      try clear hfz6_2
      try clear hfz8_0
      try clear hfz8_1
      try clear hfz8_2
      try clear p2
      obtain ⟨x10_2,x11_2,rfl,HA,HK2,HO_4,HO_8,HO_10,BK776,HB⟩:=hrel
      cases gk with
      | zero => exact absurd HA.out (by simp [phasorref19_Moments.l1])
      | succ k2 =>
       have H:=HA.out
       clear HA
       simp only [phasorref19_Moments.l1] at H
       by_cases c11 : x11_2 < (t777.length : Int)
       ·rw [if_pos c11] at H
        have c11b0 : decide (x11_2 < (t777.length : Int))=true:=decide_eq_true c11
        clear c11
        by_cases c12 : 0≤x11_2
        ·rw [if_pos c12] at H
         have c12b0 : decide (0≤x11_2)=true:=decide_eq_true c12
         clear c12
         by_cases c13 : (rd t777 x11_2)=x9_1
         ·rw [if_pos c13] at H
          have c13b0 : ((rd t777 x11_2) == x9_1)=true:=beq_iff_eq.mpr c13
          have c13b1 : ((rd t777 x11_2) != x9_1)=false:=bne_eq_false_iff_eq.mpr c13
          clear c13
          replace H:=Option.bind_eq_some_iff.mp H
          obtain ⟨t784,A140,H⟩:=H
          replace H : (if t784=true then (phasorref19_Moments.l1 k2 t777 t781 x8_1 x9_1 x10_2 (wrap64 (x11_2 + 1)) a0_0 a0_1 l0_2) else (if x10_2.length < 17592186044416 then (phasorref19_Moments.l1 k2 t777 t781 x8_1 x9_1 (x10_2 ++ [x11_2]) (wrap64 (x11_2 + 1)) a0_0 a0_1 l0_2) else (none)))=some (r1,r2):=H
          have A14:=Aside0.mk A140
          clear A140
          by_cases c15 : t784=true
          ·subst c15
           have H1 : (phasorref19_Moments.l1 k2 t777 t781 x8_1 x9_1 x10_2 (wrap64 (x11_2 + 1)) a0_0 a0_1 l0_2)=some (r1,r2):=by rw [if_pos rfl] at H;exact H
           clear H
           have H:=H1
           clear H1
           have H':=Aside0.mk H
           clear H
           obtain ⟨Ao16,co16,eo16⟩:=Kd.R_slice HO_4.out
           subst eo16
           have p783 : 0≤(x11_2 : Int):=of_decide_eq_true (by first|(with_reducible assumption)|assumption)
           have q783 : x11_2 < (t777.length : Int):=of_decide_eq_true (by first|(with_reducible assumption)|assumption)
           obtain ⟨ad783,e783,hx783_0⟩:=Kd.at_int (Kd.R_reads' HO_4.out).2.2 x11_2 p783 q783
           cases e783
           replace p783:=eq_true p783
           replace q783:=eq_true q783
           have hcz17_0 : wr.cell? ⟨gb776,0,none⟩=some (.int .i64 a0_0):=(blk_cell BK776.out 0).trans rfl
           have hcz17_1 : wr.cell? ⟨gb776,1,none⟩=some (.int .i64 a0_1):=(blk_cell BK776.out 1).trans rfl
           have hcz17_2 : wr.cell? ⟨gb776,2,none⟩=some (.slice A0_2 l0_2.length c0_2):=(blk_cell BK776.out 2).trans rfl
           have hfz17_0:=blk_frozen BK776.out 0
           have hfz17_1:=blk_frozen BK776.out 1
           have hfz17_2:=blk_frozen BK776.out 2
           go_wp2_with (first|(go_at_call 71;(with_reducible refine (phasorref19_bar.calls a0_0 a0_1 _ _ l0_2 x11_2 true _ ?side1 ?side2 A14.out).mono ?_);(case side1 => repeat (first|exact (Kd.C_below HR0_2.out HB.out)|(with_reducible refine Kd.C_alloc ?_ _)|(with_reducible refine Kd.C_drewN ?_ _)|(with_reducible refine Kd.C_drew ?_)));(case side2 => exact HC0_2.out);rintro e w18 ⟨rfl,hb⟩;have n0_:=Aside0.mk (Kd.R_below (by (with_reducible repeat (first|apply Kd.R_alloc|apply Kd.R_drewN|apply Kd.R_drew));exact HO_4.out) hb);have n1_:=Aside0.mk (Kd.S_below (by (with_reducible repeat (first|apply Kd.S_alloc|apply Kd.S_drewN|apply Kd.S_drew));exact HO_8.out) hb);have n2_:=Aside0.mk (Kd.R_below (by (with_reducible repeat (first|apply Kd.R_alloc|apply Kd.R_drewN|apply Kd.R_drew));exact HO_10.out) hb);have n3_:=Aside0.mk (blk_below (g:=gb776) (o:=.cells #[.int .i64 a0_0,.int .i64 a0_1,.slice A0_2 l0_2.length c0_2] 24 (0,0)) (by (with_reducible repeat (first|refine blk_drewN ?_ _|refine blk_drew ?_|refine blk_alloc ?_ _));exact BK776.out) hb);have n4_:=Aside0.mk (below_step (by repeat (first|(with_reducible first|exact HB.out|apply below_alloc|apply pw_below_drewN|apply below_drew1|refine below_set ?_ GE776.out)|exact HB.out)) hb);clear HO_4;clear HO_8;clear HO_10;clear BK776;clear HB;have HO_4:=n0_;have HO_8:=n1_;have HO_10:=n2_;have BK776:=n3_;have HB:=n4_;clear n0_ n1_ n2_ n3_ n4_;(try clear hb);(try clear hb2);(try clear hk);(try clear hi)))
           go_roundg k2
           case measure => have:=HK1.out;have:=HK2.out;omega
           case rel => exact ⟨(x10_2),(wrap64 (x11_2 + 1)),(by first|rfl|(simp;done)|(simp [*];done)),H',⟨by have:=HK1.out;have:=HK2.out;omega⟩,⟨by (with_reducible repeat (first|apply Kd.R_alloc|apply Kd.R_drewN|apply Kd.R_drew));exact HO_4.out⟩,⟨by (with_reducible repeat (first|apply Kd.S_alloc|apply Kd.S_drewN|apply Kd.S_drew));exact HO_8.out⟩,⟨by (with_reducible repeat (first|apply Kd.R_alloc|apply Kd.R_drewN|apply Kd.R_drew));exact HO_10.out⟩,⟨by (with_reducible repeat (first|refine blk_drewN ?_ _|refine blk_drew ?_|refine blk_alloc ?_ _));exact BK776.out⟩,⟨by repeat (first|(with_reducible first|exact HB.out|apply below_alloc|apply pw_below_drewN|apply below_drew1|refine below_set ?_ GE776.out)|exact HB.out)⟩⟩
          ·replace c15:=Bool.eq_false_iff.mpr c15
           subst c15
           have H1 : (if x10_2.length < 17592186044416 then (phasorref19_Moments.l1 k2 t777 t781 x8_1 x9_1 (x10_2 ++ [x11_2]) (wrap64 (x11_2 + 1)) a0_0 a0_1 l0_2) else (none))=some (r1,r2):=by rw [if_neg (show ¬ (false=true) by decide)] at H;exact H
           clear H
           have H:=H1
           clear H1
           by_cases c19 : x10_2.length < 17592186044416
           ·rw [if_pos c19] at H
            have LMc19:=Aside0.mk c19
            clear c19
            obtain ⟨y785,hy785⟩ : ∃ y_ : List Int,y_=(x10_2 ++ [x11_2]):=⟨_,rfl⟩
            replace H : (phasorref19_Moments.l1 k2 t777 t781 x8_1 x9_1 y785 (wrap64 (x11_2 + 1)) a0_0 a0_1 l0_2)=some (r1,r2):=by first|(rw [hy785];with_reducible exact H)|(have H2_:=(Option.bind_some _ _).symm.trans H;rw [hy785];with_reducible exact H2_)|(have H2_:=(Option.bind_some _ _).symm.trans H;with_reducible exact H2_)|with_reducible exact H|(rw [hy785];exact H)|exact H
            have Ny785:=Aside0.mk hy785
            clear hy785
            have H':=Aside0.mk H
            clear H
            obtain ⟨Ao20,co20,eo20⟩:=Kd.R_slice HO_4.out
            subst eo20
            have p783 : 0≤(x11_2 : Int):=of_decide_eq_true (by first|(with_reducible assumption)|assumption)
            have q783 : x11_2 < (t777.length : Int):=of_decide_eq_true (by first|(with_reducible assumption)|assumption)
            obtain ⟨ad783,e783,hx783_0⟩:=Kd.at_int (Kd.R_reads' HO_4.out).2.2 x11_2 p783 q783
            cases e783
            replace p783:=eq_true p783
            replace q783:=eq_true q783
            have hcz21_0 : wr.cell? ⟨gb776,0,none⟩=some (.int .i64 a0_0):=(blk_cell BK776.out 0).trans rfl
            have hcz21_1 : wr.cell? ⟨gb776,1,none⟩=some (.int .i64 a0_1):=(blk_cell BK776.out 1).trans rfl
            have hcz21_2 : wr.cell? ⟨gb776,2,none⟩=some (.slice A0_2 l0_2.length c0_2):=(blk_cell BK776.out 2).trans rfl
            have hfz21_0:=blk_frozen BK776.out 0
            have hfz21_1:=blk_frozen BK776.out 1
            have hfz21_2:=blk_frozen BK776.out 2
            go_wp2_with (first|(go_at_call 71;(with_reducible refine (phasorref19_bar.calls a0_0 a0_1 _ _ l0_2 x11_2 false _ ?side1 ?side2 A14.out).mono ?_);(case side1 => repeat (first|exact (Kd.C_below HR0_2.out HB.out)|(with_reducible refine Kd.C_alloc ?_ _)|(with_reducible refine Kd.C_drewN ?_ _)|(with_reducible refine Kd.C_drew ?_)));(case side2 => exact HC0_2.out);rintro e w22 ⟨rfl,hb⟩;have n0_:=Aside0.mk (Kd.R_below (by (with_reducible repeat (first|apply Kd.R_alloc|apply Kd.R_drewN|apply Kd.R_drew));exact HO_4.out) hb);have n1_:=Aside0.mk (Kd.S_below (by (with_reducible repeat (first|apply Kd.S_alloc|apply Kd.S_drewN|apply Kd.S_drew));exact HO_8.out) hb);have n2_:=Aside0.mk (Kd.R_below (by (with_reducible repeat (first|apply Kd.R_alloc|apply Kd.R_drewN|apply Kd.R_drew));exact HO_10.out) hb);have n3_:=Aside0.mk (blk_below (g:=gb776) (o:=.cells #[.int .i64 a0_0,.int .i64 a0_1,.slice A0_2 l0_2.length c0_2] 24 (0,0)) (by (with_reducible repeat (first|refine blk_drewN ?_ _|refine blk_drew ?_|refine blk_alloc ?_ _));exact BK776.out) hb);have n4_:=Aside0.mk (below_step (by repeat (first|(with_reducible first|exact HB.out|apply below_alloc|apply pw_below_drewN|apply below_drew1|refine below_set ?_ GE776.out)|exact HB.out)) hb);clear HO_4;clear HO_8;clear HO_10;clear BK776;clear HB;have HO_4:=n0_;have HO_8:=n1_;have HO_10:=n2_;have BK776:=n3_;have HB:=n4_;clear n0_ n1_ n2_ n3_ n4_;(try clear hb);(try clear hb2);(try clear hk);(try clear hi))|((with_reducible refine gate_builtin (b:=.append) (xs:=#[.tmp 48,.tmp 50]) rfl ?_);at_builtin;refine Kd.R_append (Kd.int .i64) (w0:=w) w.heap.size rfl (.tmp 48) (.tmp 50) 37 3 (.int .i64 0) 8 rfl Try.underlying37 info3 rfl (by decide) (by omega) u10 x10_2 x11_2 [.int .i64 x11_2] (fun k_ => some k_≠(.slice (some ad783) t777.length co20 : Value).ownBlock) (fun _ => False) rfl rfl ?aP (fun _ hk => hk.elim) ?aF ?aO ?aB ?aS ?aL ?_;(case aP => exact rfl);(case aB => exact (by repeat (first|(with_reducible first|exact HB.out|apply below_alloc|apply pw_below_drewN|apply below_drew1|refine below_set ?_ GE776.out)|exact HB.out)));(case aF => exact (fun k_ hk => Kd.fresh' (Kd.R_lt (by (with_reducible repeat (first|apply Kd.R_alloc|apply Kd.R_drewN|apply Kd.R_drew));exact HO_4.out)) k_ hk));(case aO => exact (by (with_reducible repeat (first|apply Kd.R_alloc|apply Kd.R_drewN|apply Kd.R_drew));exact HO_10.out));(case aS => exact (below_size (by repeat (first|(with_reducible first|exact HB.out|apply below_alloc|apply pw_below_drewN|apply below_drew1|refine below_set ?_ GE776.out)|exact HB.out))));(case aL => have:=LMc19.out;omega);intro v786 w23 ho hb hg hat;rw [← Ny785.out] at ho;have n0_:=Aside0.mk (Kd.R_after (ok:=(fun _ => True)) (by (with_reducible repeat (first|apply Kd.R_alloc|apply Kd.R_drewN|apply Kd.R_drew));exact Kd.R_mono HO_4.out (fun _ hk => ⟨trivial,hk⟩)) hg hat);have n1_:=Aside0.mk (Kd.S_after (ok:=(fun k_ => some k_≠(.slice (some ad783) t777.length co20 : Value).ownBlock)) (by (with_reducible repeat (first|apply Kd.S_alloc|apply Kd.S_drewN|apply Kd.S_drew));exact HO_8.out) hg hat);have n2_:=Aside0.mk (blk_grown (g:=gb776) (o:=.cells #[.int .i64 a0_0,.int .i64 a0_1,.slice A0_2 l0_2.length c0_2] 24 (0,0)) (by (with_reducible repeat (first|refine blk_drewN ?_ _|refine blk_drew ?_|refine blk_alloc ?_ _));exact BK776.out) hg (Kd.R_ne HO_10.out BK776.out (by decide)));have n3_:=Aside0.mk (hb);have n4_:=Aside0.mk (ho);clear HO_4;clear HO_8;clear BK776;clear HB;clear HO_10;have HO_4:=n0_;have HO_8:=n1_;have BK776:=n2_;have HB:=n3_;have HO787:=n4_;clear n0_ n1_ n2_ n3_ n4_;clear ho hb hg hat))
            go_roundg k2
            case measure => have:=HK1.out;have:=HK2.out;omega
            case rel => exact ⟨(y785),(wrap64 (x11_2 + 1)),(by first|rfl|(simp;done)|(simp [*];done)),H',⟨by have:=HK1.out;have:=HK2.out;omega⟩,⟨by (with_reducible repeat (first|apply Kd.R_alloc|apply Kd.R_drewN|apply Kd.R_drew));exact Kd.R_mono HO_4.out (fun _ hk => hk.2)⟩,⟨by (with_reducible repeat (first|apply Kd.S_alloc|apply Kd.S_drewN|apply Kd.S_drew));exact HO_8.out⟩,⟨by (with_reducible repeat (first|apply Kd.R_alloc|apply Kd.R_drewN|apply Kd.R_drew));exact HO787.out⟩,⟨by (with_reducible repeat (first|refine blk_drewN ?_ _|refine blk_drew ?_|refine blk_alloc ?_ _));exact BK776.out⟩,⟨by repeat (first|(with_reducible first|exact HB.out|apply below_alloc|apply pw_below_drewN|apply below_drew1|refine below_set ?_ GE776.out)|exact HB.out)⟩⟩
           ·rw [if_neg c19] at H
            exact absurd H (by simp)
         ·rw [if_neg c13] at H
          have c13b0 : ((rd t777 x11_2) == x9_1)=false:=beq_eq_false_iff_ne.mpr c13
          have c13b1 : ((rd t777 x11_2) != x9_1)=true:=bne_iff_ne.mpr c13
          have H':=Aside0.mk H
          clear H
          obtain ⟨Ao24,co24,eo24⟩:=Kd.R_slice HO_4.out
          subst eo24
          have p783 : 0≤(x11_2 : Int):=of_decide_eq_true (by first|(with_reducible assumption)|assumption)
          have q783 : x11_2 < (t777.length : Int):=of_decide_eq_true (by first|(with_reducible assumption)|assumption)
          obtain ⟨ad783,e783,hx783_0⟩:=Kd.at_int (Kd.R_reads' HO_4.out).2.2 x11_2 p783 q783
          cases e783
          replace p783:=eq_true p783
          replace q783:=eq_true q783
          go_wp2
          go_roundg k2
          case measure => have:=HK1.out;have:=HK2.out;omega
          case rel => exact ⟨(x10_2),(wrap64 (x11_2 + 1)),(by first|rfl|(simp;done)|(simp [*];done)),H',⟨by have:=HK1.out;have:=HK2.out;omega⟩,⟨by (with_reducible repeat (first|apply Kd.R_alloc|apply Kd.R_drewN|apply Kd.R_drew));exact HO_4.out⟩,⟨by (with_reducible repeat (first|apply Kd.S_alloc|apply Kd.S_drewN|apply Kd.S_drew));exact HO_8.out⟩,⟨by (with_reducible repeat (first|apply Kd.R_alloc|apply Kd.R_drewN|apply Kd.R_drew));exact HO_10.out⟩,⟨by (with_reducible repeat (first|refine blk_drewN ?_ _|refine blk_drew ?_|refine blk_alloc ?_ _));exact BK776.out⟩,⟨by repeat (first|(with_reducible first|exact HB.out|apply below_alloc|apply pw_below_drewN|apply below_drew1|refine below_set ?_ GE776.out)|exact HB.out)⟩⟩
        ·rw [if_neg c12] at H
         exact absurd H (by simp)
       ·rw [if_neg c11] at H
        have c11b0 : decide (x11_2 < (t777.length : Int))=false:=decide_eq_false c11
        clear c11
        by_cases c25 : x8_1.length < 5864062014805
        ·rw [if_pos c25] at H
         have LMc25:=Aside0.mk c25
         clear c25
         obtain ⟨y788,hy788⟩ : ∃ y_ : List (List Int),y_=(x8_1 ++ [x10_2]):=⟨_,rfl⟩
         replace H : (phasorref19_Moments.l0 k2 t777 t781 y788 (wrap64 (x9_1 + 1)) a0_0 a0_1 l0_2)=some (r1,r2):=by first|(rw [hy788];with_reducible exact H)|(have H2_:=(Option.bind_some _ _).symm.trans H;rw [hy788];with_reducible exact H2_)|(have H2_:=(Option.bind_some _ _).symm.trans H;with_reducible exact H2_)|with_reducible exact H|(rw [hy788];exact H)|exact H
         have Ny788:=Aside0.mk hy788
         clear hy788
         have H':=Aside0.mk H
         clear H
         obtain ⟨Ao26,co26,eo26⟩:=Kd.R_slice HO_4.out
         subst eo26
         obtain ⟨Ao28,co28,eo28⟩:=Kd.R_slice HO_10.out
         subst eo28
         go_wp2_with (first|((with_reducible refine gate_builtin (b:=.append) (xs:=#[.tmp 52,.tmp 54]) rfl ?_);at_builtin;refine Kd.S_append (Kd.slice 3 (Kd.int .i64)) (w0:=w) w.heap.size rfl (.tmp 52) (.tmp 54) 57 37 (.slice none 0 0) 24 rfl Try.underlying57 info37 rfl (by decide) (by omega) u8 x8_1 x10_2 [.slice Ao28 x10_2.length co28] (fun k_ => some k_≠(.slice Ao26 t777.length co26 : Value).ownBlock) (fun k_ => some k_=(.slice Ao28 x10_2.length co28 : Value).ownBlock) rfl rfl ?aP (fun k_ hk_ => ((Kd.R_mono (ok':=fun k_ => ((fun k_ => some k_≠(.slice Ao26 t777.length co26 : Value).ownBlock)) k_∧some k_≠(u8 : Value).ownBlock) (Kd.R_apart' (HO_10.out) (Kd.S_typed HO_8.out) (by decide)) (fun k_ hk => ⟨hk.1,hk.2⟩))).1 k_ hk_.symm) ?aF ?aO ?aB ?aS ?aL ?_;(case aP => exact Kd.M_row (Kd.R_mono (Kd.R_tight rfl (Kd.R_mono (ok':=fun k_ => ((fun k_ => some k_≠(.slice Ao26 t777.length co26 : Value).ownBlock)) k_∧some k_≠(u8 : Value).ownBlock) (Kd.R_apart' (HO_10.out) (Kd.S_typed HO_8.out) (by decide)) (fun k_ hk => ⟨hk.1,hk.2⟩))) (fun _ h_ => h_)));(case aB => exact (by repeat (first|(with_reducible first|exact HB.out|apply below_alloc|apply pw_below_drewN|apply below_drew1|refine below_set ?_ GE776.out)|exact HB.out)));(case aF => exact (fun k_ hk => Kd.fresh' (Kd.R_lt (by (with_reducible repeat (first|apply Kd.R_alloc|apply Kd.R_drewN|apply Kd.R_drew));exact HO_4.out)) k_ hk));(case aO => exact (by (with_reducible repeat (first|apply Kd.S_alloc|apply Kd.S_drewN|apply Kd.S_drew));exact Kd.S_mono HO_8.out (fun k_ hk => ⟨hk.1,fun e_ => hk.2 e_⟩)));(case aS => exact (below_size (by repeat (first|(with_reducible first|exact HB.out|apply below_alloc|apply pw_below_drewN|apply below_drew1|refine below_set ?_ GE776.out)|exact HB.out))));(case aL => have:=LMc25.out;omega);intro v789 w27 ho hb hg hat;rw [← Ny788.out] at ho;have n0_:=Aside0.mk (Kd.R_over' (by (with_reducible repeat (first|apply Kd.R_alloc|apply Kd.R_drewN|apply Kd.R_drew));exact HO_4.out) (Kd.S_typed (by (with_reducible repeat (first|apply Kd.S_alloc|apply Kd.S_drewN|apply Kd.S_drew));exact HO_8.out)) (by decide) hg);have n1_:=Aside0.mk (blk_grown (g:=gb776) (o:=.cells #[.int .i64 a0_0,.int .i64 a0_1,.slice A0_2 l0_2.length c0_2] 24 (0,0)) (by (with_reducible repeat (first|refine blk_drewN ?_ _|refine blk_drew ?_|refine blk_alloc ?_ _));exact BK776.out) hg (Kd.S_ne HO_8.out BK776.out (by decide)));have n2_:=Aside0.mk (hb);have n3_:=Aside0.mk (ho);clear HO_4;clear BK776;clear HB;clear HO_8;clear HO_10;have HO_4:=n0_;have BK776:=n1_;have HB:=n2_;have HO790:=n3_;clear n0_ n1_ n2_ n3_;clear ho hb hg hat))
         go_roundg k2
         case measure => have:=HK1.out;have:=HK2.out;omega
         case rel => exact ⟨(y788),(wrap64 (x9_1 + 1)),(by first|rfl|(simp;done)|(simp [*];done)),H',⟨by have:=HK1.out;have:=HK2.out;omega⟩,⟨by (with_reducible repeat (first|apply Kd.R_alloc|apply Kd.R_drewN|apply Kd.R_drew));exact Kd.R_mono HO_4.out (fun _ hk => trivial)⟩,⟨by (with_reducible repeat (first|apply Kd.S_alloc|apply Kd.S_drewN|apply Kd.S_drew));exact HO790.out⟩,⟨by (with_reducible repeat (first|refine blk_drewN ?_ _|refine blk_drew ?_|refine blk_alloc ?_ _));exact BK776.out⟩,⟨by repeat (first|(with_reducible first|exact HB.out|apply below_alloc|apply pw_below_drewN|apply below_drew1|refine below_set ?_ GE776.out)|exact HB.out)⟩⟩
        ·rw [if_neg c25] at H
         exact absurd H (by simp)
    ·rw [if_neg c10] at H
     have c10b0 : decide (x9_1≤t781)=false:=decide_eq_false c10
     clear c10
     simp only [Option.some.injEq,Prod.mk.injEq] at H
     obtain ⟨rfl,rfl⟩:=H
     go_wp2
     go_ret2
     exact ⟨_,by first|rfl|(simp [errW_none,errW_some] <;> rfl)|(simp [*,errW_none,errW_some] <;> rfl),by (with_reducible repeat (first|apply Kd.S_alloc|apply Kd.S_drewN|apply Kd.S_drew));exact Kd.S_mono HO_8.out (fun _ hk => trivial),by repeat (first|(with_reducible first|exact HB.out|apply below_alloc|apply pw_below_drewN|apply below_drew1|refine below_set ?_ GE776.out)|exact HB.out)⟩
 ·rw [if_neg c4] at H
  have c4b0 : (t780 == 0)=false:=beq_eq_false_iff_ne.mpr c4
  have c4b1 : (t780 != 0)=true:=bne_iff_ne.mpr c4
  simp only [Option.some.injEq,Prod.mk.injEq] at H
  obtain ⟨rfl,rfl⟩:=H
  go_enter Try.func38,Try.ntmps38
  go_wp2_with (first|((with_reducible refine gate_dst (N:=1) rfl ?_);refine box_event ?hg (N:=1) ?hd (cs:=#[.int .i64 a0_0,.int .i64 a0_1,.slice A0_2 l0_2.length c0_2]) (t:=24) ?hr ?_;(case hd => rfl);(case hg => rfl);(case hr => first|(go_simp;done)|(go_simp;rfl));intro gb776 hg w29 hbox hb;have n0_:=Aside0.mk (below_step (by repeat (first|(with_reducible first|exact HB.out|apply below_alloc|apply pw_below_drewN|apply below_drew1)|exact HB.out)) hb);have n1_:=Aside0.mk (hbox);have n2_:=Aside0.mk ((by rw [hg];exact (below_size (by repeat (first|(with_reducible first|exact HB.out|apply below_alloc|apply pw_below_drewN|apply below_drew1)|exact HB.out))) : w.heap.size≤gb776));have n3_:=Aside0.mk ((by rw [hg];exact (below_size (by repeat (first|(with_reducible first|exact HB.out|apply below_alloc|apply pw_below_drewN|apply below_drew1)|exact HB.out))) : w.heap.size≤gb776));clear HB;have HB:=n0_;have BK776:=n1_;have GW776:=n2_;have GE776:=n3_;clear n0_ n1_ n2_ n3_;clear hb hbox hg;have hcz30_0 : w29.cell? ⟨gb776,0,none⟩=some (.int .i64 a0_0):=(blk_cell BK776.out 0).trans rfl;have hcz30_1 : w29.cell? ⟨gb776,1,none⟩=some (.int .i64 a0_1):=(blk_cell BK776.out 1).trans rfl;have hcz30_2 : w29.cell? ⟨gb776,2,none⟩=some (.slice A0_2 l0_2.length c0_2):=(blk_cell BK776.out 2).trans rfl;have hfz30_0:=blk_frozen BK776.out 0;have hfz30_1:=blk_frozen BK776.out 1;have hfz30_2:=blk_frozen BK776.out 2)|((with_reducible refine gate_callee (f:=28) rfl ?_);refine goesL_ (some 14) rfl rfl Try.func28 (by kernel_rfl) rfl #[.agg #[.int .i64 a0_0,.int .i64 a0_1,.slice A0_2 l0_2.length c0_2]] rfl (by (try simp only [List.map_toArray,List.map_cons,List.map_nil]);first|done|rfl|(simp only [List.length_drop,List.length_take];rfl)) ?_;(with_reducible refine (phasorref19_Early.calls k a0_0 a0_1 _ _ l0_2 t777 t780 _ ?side1 ?side2 A2.out).mono ?_);(case side1 => repeat (first|exact (Kd.C_below HR0_2.out HB.out)|(with_reducible refine Kd.C_alloc ?_ _)|(with_reducible refine Kd.C_drewN ?_ _)|(with_reducible refine Kd.C_drew ?_)));(case side2 => exact HC0_2.out);rintro e w31 ⟨v778,rfl,ho0,hb⟩;refine ⟨_,rfl,?_⟩;have n0_:=Aside0.mk (Kd.R_lower ho0 (below_size (by repeat (first|(with_reducible first|exact HB.out|apply below_alloc|apply pw_below_drewN|apply below_drew1|refine below_set ?_ GE776.out)|exact HB.out))));have n1_:=Aside0.mk (blk_below (g:=gb776) (o:=.cells #[.int .i64 a0_0,.int .i64 a0_1,.slice A0_2 l0_2.length c0_2] 24 (0,0)) (by (with_reducible repeat (first|refine blk_drewN ?_ _|refine blk_drew ?_|refine blk_alloc ?_ _));exact BK776.out) hb);have n2_:=Aside0.mk (below_step (by repeat (first|(with_reducible first|exact HB.out|apply below_alloc|apply pw_below_drewN|apply below_drew1|refine below_set ?_ GE776.out)|exact HB.out)) hb);clear BK776;clear HB;have HO779:=n0_;have BK776:=n1_;have HB:=n2_;clear n0_ n1_ n2_;(try clear hb);(try clear hb2);(try clear hk);(try clear hi);(try clear ho0);have hcz32_0 : w31.cell? ⟨gb776,0,none⟩=some (.int .i64 a0_0):=(blk_cell BK776.out 0).trans rfl;have hcz32_1 : w31.cell? ⟨gb776,1,none⟩=some (.int .i64 a0_1):=(blk_cell BK776.out 1).trans rfl;have hcz32_2 : w31.cell? ⟨gb776,2,none⟩=some (.slice A0_2 l0_2.length c0_2):=(blk_cell BK776.out 2).trans rfl;have hfz32_0:=blk_frozen BK776.out 0;have hfz32_1:=blk_frozen BK776.out 1;have hfz32_2:=blk_frozen BK776.out 2)|((with_reducible refine gate_callee (f:=35) rfl ?_);refine goesL_ (some 19) rfl rfl Try.func35 (by kernel_rfl) rfl #[.agg #[.int .i64 a0_0,.int .i64 a0_1,.slice A0_2 l0_2.length c0_2]] rfl (by (try simp only [List.map_toArray,List.map_cons,List.map_nil]);first|done|rfl|(simp only [List.length_drop,List.length_take];rfl)) ?_;(with_reducible refine (phasorref19_Depth.calls k a0_0 a0_1 _ _ l0_2 t781 t782 _ ?side1 ?side2 A3.out).mono ?_);(case side1 => repeat (first|exact (Kd.C_below HR0_2.out HB.out)|(with_reducible refine Kd.C_alloc ?_ _)|(with_reducible refine Kd.C_drewN ?_ _)|(with_reducible refine Kd.C_drew ?_)));(case side2 => exact HC0_2.out);rintro e w33 ⟨rfl,hb⟩;refine ⟨_,rfl,?_⟩;have n0_:=Aside0.mk (Kd.R_below (by (with_reducible repeat (first|apply Kd.R_alloc|apply Kd.R_drewN|apply Kd.R_drew));exact HO779.out) hb);have n1_:=Aside0.mk (blk_below (g:=gb776) (o:=.cells #[.int .i64 a0_0,.int .i64 a0_1,.slice A0_2 l0_2.length c0_2] 24 (0,0)) (by (with_reducible repeat (first|refine blk_drewN ?_ _|refine blk_drew ?_|refine blk_alloc ?_ _));exact BK776.out) hb);have n2_:=Aside0.mk (below_step (by repeat (first|(with_reducible first|exact HB.out|apply below_alloc|apply pw_below_drewN|apply below_drew1|refine below_set ?_ GE776.out)|exact HB.out)) hb);clear HO779;clear BK776;clear HB;have HO779:=n0_;have BK776:=n1_;have HB:=n2_;clear n0_ n1_ n2_;(try clear hb);(try clear hb2);(try clear hk);(try clear hi)))
  go_ret2
  exact ⟨_,by first|rfl|(simp [errW_none,errW_some] <;> rfl)|(simp [*,errW_none,errW_some] <;> rfl),by first|exact Kd.S_nil _ _ _ _ _|exact Kd.N_nil _ _ _ _ _|exact Kd.V_nil _ _ _ _ _|exact Kd.Q_nil _ _ _ _ _|exact Kd.R_nil _ _ _ _ _,by repeat (first|(with_reducible first|exact HB.out|apply below_alloc|apply pw_below_drewN|apply below_drew1|refine below_set ?_ GE776.out)|exact HB.out)⟩
end Go.Proofs.Ytbelnopbggkdfaa.Q
end

section
namespace Go.Proofs.Ytbelnopbggkdfaa.Q
open Go.RowKit Go.Proofs.YtbelnopbggkdfaaW.PrintWords Go.Proofs.YtbelnopbggkdfaaW.PrintLast Go.Proofs.YtbelnopbggkdfaaW.PrintMore
attribute [local go_sem] max2_int min2_int max_two min_two max_three min_three max_four min_four   -- for this text's walks alone
set_option linter.unusedVariables false
set_option linter.unusedSimpArgs false
def phasorref19_only.l0 : Nat→List Int→Int→Int→Int→List (S46)→Int→Int→List (S46)→Option (Int × Int × (List (S46)))
 | 0,_,_,_,_,_,_,_,_ => none
 | k + 1,x1,x7,x799000,x799001,x799002,x800000,x800001,x800002 => if x7 < (x1.length : Int) then (if 0≤x7 then (if 0≤(rd x1 x7) then (if (rd x1 x7) < (x799002.length : Int) then (if x800002.length < 2199023255552 then (phasorref19_only.l0 k x1 (wrap64 (x7 + 1)) x799000 x799001 x799002 x800000 x800001 (x800002 ++ [(⟨(rd_T46 x799002 (rd x1 x7)).f0,(rd_T46 x799002 (rd x1 x7)).f1,(rd_T46 x799002 (rd x1 x7)).f2,(rd_T46 x799002 (rd x1 x7)).f3,(rd_T46 x799002 (rd x1 x7)).f4,(rd_T46 x799002 (rd x1 x7)).f5⟩ : S46)])) else (none)) else (none)) else (none)) else (none)) else (some (x800000,x800001,x800002))
def phasorref19_only.f (k : Nat) (a0_0 : Int) (a0_1 : Int) (l0_2 : List (S46)) (l1 : List Int) : Option (Int × Int × (List (S46))):=(phasorref08_Copy.f k a0_0 a0_1 l0_2).bind fun bt793 => (phasorref19_only.l0 k l1 0 bt793.1 bt793.2.1 bt793.2.2 a0_0 a0_1 ([] : List (S46)))
def phasorref19_only.T6 : Bool × List (List Nat × List Nat):=(true,[([],[]),([0],[0]),([],[]),([2],[2]),([],[]),([],[]),([4,5],[4,5]),([6],[6]),([3,7],[3,7]),([8],[8]),([9],[9]),([1,10],[1,10]),([0,1,2,3,4,5,6,7,8,9,10,11],[]),([12,11,11,0,1,2,3,4,5,6,7,8,9,10,11],[11,12])])
def phasorref19_only.B6 : List Nat:=[0,1,0,4,0,0,48,112,252,508,1020,2047,4095,8191]
theorem phasorref19_only.tab6 : rtab .any (opsOf Try.f74 6)=phasorref19_only.T6:=by kernel_rfl
theorem phasorref19_only.bits6 : waitsOk phasorref19_only.T6.2 phasorref19_only.B6=true:=by kernel_rfl
set_option maxHeartbeats 8000000 in
set_option maxRecDepth 100000 in
theorem phasorref19_only.calls (k : Nat) (a0_0 : Int) (a0_1 : Int) (A0_2 : Option Addr) (c0_2 : Nat) (l0_2 : List (S46)) (A1 : Option Addr) (c1 : Nat) (l1 : List Int) (r1 : Int) (r2 : Int) (r3 : List (S46)) (w : World) (hr0_2 : Kd.C k46 w A0_2 l0_2.length l0_2) (hc0_2 : l0_2.length≤c0_2) (hr1 : Kd.C (Kd.int .i64) w A1 l1.length l1) (hc1 : l1.length≤c1) (h : phasorref19_only.f k a0_0 a0_1 l0_2 l1=some (r1,r2,r3)) :
  Calls Try.prog 74 #[.agg #[.int .i64 a0_0,.int .i64 a0_1,.slice A0_2 l0_2.length c0_2],.slice A1 l1.length c1] w fun e w' => ∃ v2_ : Value,e=.returned (.agg #[.int .i64 r1,.int .i64 r2,v2_])∧Kd.N k46 46 w' w.heap.size (fun k_ => (w.heap.size≤k_)) v2_ r3∧Below w.heap.size w w':=by
 have hu24:=Try.underlying24
 have hu46:=Try.underlying46
 have HR0_2:=Aside0.mk hr0_2
 have HC0_2:=Aside0.mk hc0_2
 clear hr0_2 hc0_2
 have HR1:=Aside0.mk hr1
 have HC1:=Aside0.mk hc1
 clear hr1 hc1
 have HB:=Aside0.mk (Below.refl w.heap.size w)
 have H : ((phasorref08_Copy.f k a0_0 a0_1 l0_2).bind fun bt793 => (phasorref19_only.l0 k l1 0 bt793.1 bt793.2.1 bt793.2.2 a0_0 a0_1 ([] : List (S46))))=some (r1,r2,r3):=h
 clear h
 replace H:=Option.bind_eq_some_iff.mp H
 obtain ⟨⟨t793,t794,t795⟩,A30,H⟩:=H
 replace H : (phasorref19_only.l0 k l1 0 t793 t794 t795 a0_0 a0_1 ([] : List (S46)))=some (r1,r2,r3):=H
 have A3:=Aside0.mk A30
 clear A30
 have H':=Aside0.mk H
 clear H
 go_enter Try.func74,Try.ntmps74
 go_wp2_with (first|((with_reducible refine gate_dst (N:=2) rfl ?_);refine box_event ?hg (N:=2) ?hd (cs:=#[.int .i64 a0_0,.int .i64 a0_1,.slice A0_2 l0_2.length c0_2]) (t:=24) ?hr ?_;(case hd => rfl);(case hg => rfl);(case hr => first|(go_simp;done)|(go_simp;rfl));intro gb791 hg w4 hbox hb;have n0_:=Aside0.mk (below_step (by repeat (first|(with_reducible first|exact HB.out|apply below_alloc|apply pw_below_drewN|apply below_drew1)|exact HB.out)) hb);have n1_:=Aside0.mk (hbox);have n2_:=Aside0.mk ((by rw [hg];exact (below_size (by repeat (first|(with_reducible first|exact HB.out|apply below_alloc|apply pw_below_drewN|apply below_drew1)|exact HB.out))) : w.heap.size≤gb791));have n3_:=Aside0.mk ((by rw [hg];exact (below_size (by repeat (first|(with_reducible first|exact HB.out|apply below_alloc|apply pw_below_drewN|apply below_drew1)|exact HB.out))) : w.heap.size≤gb791));clear HB;have HB:=n0_;have BK791:=n1_;have GW791:=n2_;have GE791:=n3_;clear n0_ n1_ n2_ n3_;clear hb hbox hg)|((with_reducible refine gate_dst (N:=4) rfl ?_);refine box_event ?hg (N:=4) ?hd (cs:=#[.int .i64 0,.int .i64 0,.slice none 0 0]) (t:=24) ?hr ?_;(case hd => rfl);(case hg => rfl);(case hr => first|(go_simp;done)|(go_simp;rfl));intro gb792 hg w5 hbox hb;have n0_:=Aside0.mk (blk_below (g:=gb791) (o:=.cells #[.int .i64 a0_0,.int .i64 a0_1,.slice A0_2 l0_2.length c0_2] 24 (0,0)) (by (with_reducible repeat (first|refine blk_drewN ?_ _|refine blk_drew ?_|refine blk_alloc ?_ _));exact BK791.out) hb);have n1_:=Aside0.mk (below_step (by repeat (first|(with_reducible first|exact HB.out|apply below_alloc|apply pw_below_drewN|apply below_drew1|refine below_set ?_ GE791.out)|exact HB.out)) hb);have n2_:=Aside0.mk (hbox);have n3_:=Aside0.mk ((by rw [hg];exact (below_size (by repeat (first|(with_reducible first|exact HB.out|apply below_alloc|apply pw_below_drewN|apply below_drew1|refine below_set ?_ GE791.out)|exact HB.out))) : w.heap.size≤gb792));have n4_:=Aside0.mk ((by rw [hg];exact (below_size (by repeat (first|(with_reducible first|exact HB.out|apply below_alloc|apply pw_below_drewN|apply below_drew1|refine below_set ?_ GE791.out)|exact HB.out))) : w.heap.size≤gb792));have n5_:=Aside0.mk ((by rw [hg];exact Nat.ne_of_lt (blk_lt (g:=gb791) (o:=.cells #[.int .i64 a0_0,.int .i64 a0_1,.slice A0_2 l0_2.length c0_2] 24 (0,0)) (by (with_reducible repeat (first|refine blk_drewN ?_ _|refine blk_drew ?_|refine blk_alloc ?_ _));exact BK791.out)) : gb791≠gb792));have n6_:=Aside0.mk ((by rw [hg];exact Nat.ne_of_gt (blk_lt (g:=gb791) (o:=.cells #[.int .i64 a0_0,.int .i64 a0_1,.slice A0_2 l0_2.length c0_2] 24 (0,0)) (by (with_reducible repeat (first|refine blk_drewN ?_ _|refine blk_drew ?_|refine blk_alloc ?_ _));exact BK791.out)) : gb792≠gb791));clear BK791;clear HB;have BK791:=n0_;have HB:=n1_;have BK792:=n2_;have GW792:=n3_;have GE792:=n4_;have NB791_792:=n5_;have NB792_791:=n6_;clear n0_ n1_ n2_ n3_ n4_ n5_ n6_;clear hb hbox hg;have hnb6:=NB791_792.out;have hnc6:=NB792_791.out;have hcz7_0 : w5.cell? ⟨gb791,0,none⟩=some (.int .i64 a0_0):=(blk_cell BK791.out 0).trans rfl;have hcz7_1 : w5.cell? ⟨gb791,1,none⟩=some (.int .i64 a0_1):=(blk_cell BK791.out 1).trans rfl;have hcz7_2 : w5.cell? ⟨gb791,2,none⟩=some (.slice A0_2 l0_2.length c0_2):=(blk_cell BK791.out 2).trans rfl;have hfz7_0:=blk_frozen BK791.out 0;have hfz7_1:=blk_frozen BK791.out 1;have hfz7_2:=blk_frozen BK791.out 2)|((with_reducible refine gate_callee (f:=7) rfl ?_);refine goesL_ (some 9) rfl rfl Try.func7 (by kernel_rfl) rfl #[.agg #[.int .i64 a0_0,.int .i64 a0_1,.slice A0_2 l0_2.length c0_2]] rfl (by (try simp only [List.map_toArray,List.map_cons,List.map_nil]);first|done|rfl|(simp only [List.length_drop,List.length_take];rfl)) ?_;(with_reducible refine (phasorref08_Copy.calls k a0_0 a0_1 _ _ l0_2 t793 t794 t795 _ ?side1 ?side2 A3.out).mono ?_);(case side1 => repeat (first|exact (Kd.C_below HR0_2.out HB.out)|(with_reducible refine Kd.C_alloc ?_ _)|(with_reducible refine Kd.C_drewN ?_ _)|(with_reducible refine Kd.C_drew ?_)));(case side2 => exact HC0_2.out);rintro e w8 ⟨v796,rfl,ho0,hb⟩;refine ⟨_,rfl,?_⟩;have n0_:=Aside0.mk (Kd.N_lower (Kd.N_mono (ok':=fun k_ => (w.heap.size≤k_)∧k_≠gb791∧k_≠gb792) (Kd.S_N (Kd.S_bound ho0)) (fun k_ hk_ => ⟨(Nat.le_trans (below_size (by repeat (first|(with_reducible first|exact HB.out|apply below_alloc|apply pw_below_drewN|apply below_drew1|refine below_set ?_ GE791.out|refine below_set ?_ GE792.out)|exact HB.out))) hk_.2.1),(Kd.freshB (g:=gb791) (o:=.cells #[.int .i64 a0_0,.int .i64 a0_1,.slice A0_2 l0_2.length c0_2] 24 (0,0)) (by (with_reducible repeat (first|refine blk_drewN ?_ _|refine blk_drew ?_|refine blk_alloc ?_ _));exact BK791.out) k_ hk_.2.1),(Kd.freshB (g:=gb792) (o:=.cells #[.int .i64 0,.int .i64 0,.slice none 0 0] 24 (0,0)) (by (with_reducible repeat (first|refine blk_drewN ?_ _|refine blk_drew ?_|refine blk_alloc ?_ _));exact BK792.out) k_ hk_.2.1)⟩)) (below_size (by repeat (first|(with_reducible first|exact HB.out|apply below_alloc|apply pw_below_drewN|apply below_drew1|refine below_set ?_ GE791.out|refine below_set ?_ GE792.out)|exact HB.out))));have n1_:=Aside0.mk (blk_below (g:=gb791) (o:=.cells #[.int .i64 a0_0,.int .i64 a0_1,.slice A0_2 l0_2.length c0_2] 24 (0,0)) (by (with_reducible repeat (first|refine blk_drewN ?_ _|refine blk_drew ?_|refine blk_alloc ?_ _));exact BK791.out) hb);have n2_:=Aside0.mk (blk_below (g:=gb792) (o:=.cells #[.int .i64 0,.int .i64 0,.slice none 0 0] 24 (0,0)) (by (with_reducible repeat (first|refine blk_drewN ?_ _|refine blk_drew ?_|refine blk_alloc ?_ _));exact BK792.out) hb);have n3_:=Aside0.mk (below_step (by repeat (first|(with_reducible first|exact HB.out|apply below_alloc|apply pw_below_drewN|apply below_drew1|refine below_set ?_ GE791.out|refine below_set ?_ GE792.out)|exact HB.out)) hb);clear BK791;clear BK792;clear HB;have HO797:=n0_;have BK791:=n1_;have BK792:=n2_;have HB:=n3_;clear n0_ n1_ n2_ n3_;(try clear hb);(try clear hb2);(try clear hk);(try clear hi);(try clear ho0))|((with_reducible refine gate_dst (N:=5) rfl ?_);refine box_event ?hg (N:=5) ?hd (cs:=#[.int .i64 0,.int .i64 0,.slice none 0 0]) (t:=24) ?hr ?_;(case hd => rfl);(case hg => rfl);(case hr => first|(go_simp;done)|(go_simp;rfl));intro gb798 hg w9 hbox hb;have n0_:=Aside0.mk (Kd.N_below (Kd.N_elderB (by (with_reducible repeat (first|apply Kd.N_alloc|apply Kd.N_drewN|apply Kd.N_drew));exact HO797.out) gb798 (Nat.le_of_eq hg.symm)) hb);have n1_:=Aside0.mk (blk_below (g:=gb791) (o:=.cells #[.int .i64 a0_0,.int .i64 a0_1,.slice A0_2 l0_2.length c0_2] 24 (0,0)) (by (with_reducible repeat (first|refine blk_drewN ?_ _|refine blk_drew ?_|refine blk_alloc ?_ _));exact BK791.out) hb);have n2_:=Aside0.mk (blk_below (g:=gb792) (o:=.cells #[.int .i64 0,.int .i64 0,.slice none 0 0] 24 (0,0)) (by (with_reducible repeat (first|refine blk_drewN ?_ _|refine blk_drew ?_|refine blk_alloc ?_ _));exact BK792.out) hb);have n3_:=Aside0.mk (below_step (by repeat (first|(with_reducible first|exact HB.out|apply below_alloc|apply pw_below_drewN|apply below_drew1|refine below_set ?_ GE791.out|refine below_set ?_ GE792.out)|exact HB.out)) hb);have n4_:=Aside0.mk (hbox);have n5_:=Aside0.mk ((by rw [hg];exact (below_size (by repeat (first|(with_reducible first|exact HB.out|apply below_alloc|apply pw_below_drewN|apply below_drew1|refine below_set ?_ GE791.out|refine below_set ?_ GE792.out)|exact HB.out))) : w.heap.size≤gb798));have n6_:=Aside0.mk ((by rw [hg];exact (below_size (by repeat (first|(with_reducible first|exact HB.out|apply below_alloc|apply pw_below_drewN|apply below_drew1|refine below_set ?_ GE791.out|refine below_set ?_ GE792.out)|exact HB.out))) : w.heap.size≤gb798));have n7_:=Aside0.mk ((by rw [hg];exact Nat.ne_of_lt (blk_lt (g:=gb791) (o:=.cells #[.int .i64 a0_0,.int .i64 a0_1,.slice A0_2 l0_2.length c0_2] 24 (0,0)) (by (with_reducible repeat (first|refine blk_drewN ?_ _|refine blk_drew ?_|refine blk_alloc ?_ _));exact BK791.out)) : gb791≠gb798));have n8_:=Aside0.mk ((by rw [hg];exact Nat.ne_of_gt (blk_lt (g:=gb791) (o:=.cells #[.int .i64 a0_0,.int .i64 a0_1,.slice A0_2 l0_2.length c0_2] 24 (0,0)) (by (with_reducible repeat (first|refine blk_drewN ?_ _|refine blk_drew ?_|refine blk_alloc ?_ _));exact BK791.out)) : gb798≠gb791));have n9_:=Aside0.mk ((by rw [hg];exact Nat.ne_of_lt (blk_lt (g:=gb792) (o:=.cells #[.int .i64 0,.int .i64 0,.slice none 0 0] 24 (0,0)) (by (with_reducible repeat (first|refine blk_drewN ?_ _|refine blk_drew ?_|refine blk_alloc ?_ _));exact BK792.out)) : gb792≠gb798));have n10_:=Aside0.mk ((by rw [hg];exact Nat.ne_of_gt (blk_lt (g:=gb792) (o:=.cells #[.int .i64 0,.int .i64 0,.slice none 0 0] 24 (0,0)) (by (with_reducible repeat (first|refine blk_drewN ?_ _|refine blk_drew ?_|refine blk_alloc ?_ _));exact BK792.out)) : gb798≠gb792));clear HO797;clear BK791;clear BK792;clear HB;have HO797:=n0_;have BK791:=n1_;have BK792:=n2_;have HB:=n3_;have BK798:=n4_;have GW798:=n5_;have GE798:=n6_;have NB791_798:=n7_;have NB798_791:=n8_;have NB792_798:=n9_;have NB798_792:=n10_;clear n0_ n1_ n2_ n3_ n4_ n5_ n6_ n7_ n8_ n9_ n10_;clear hb hbox hg;have hnb10:=NB798_791.out;have hnc10:=NB791_798.out;have hnb11:=NB798_792.out;have hnc11:=NB792_798.out;have hcz12_0 : w9.cell? ⟨gb798,0,none⟩=some (.int .i64 0):=(blk_cell BK798.out 0).trans rfl;have hcz12_1 : w9.cell? ⟨gb798,1,none⟩=some (.int .i64 0):=(blk_cell BK798.out 1).trans rfl;have hcz12_2 : w9.cell? ⟨gb798,2,none⟩=some (.slice none 0 0):=(blk_cell BK798.out 2).trans rfl;have hfz12_0:=blk_frozen BK798.out 0;have hfz12_1:=blk_frozen BK798.out 1;have hfz12_2:=blk_frozen BK798.out 2;obtain ⟨Ao13,co13,eo13⟩:=Kd.N_slice HO797.out;subst eo13;have hcz14_0 : w9.cell? ⟨gb791,0,none⟩=some (.int .i64 a0_0):=(blk_cell BK791.out 0).trans rfl;have hcz14_1 : w9.cell? ⟨gb791,1,none⟩=some (.int .i64 a0_1):=(blk_cell BK791.out 1).trans rfl;have hcz14_2 : w9.cell? ⟨gb791,2,none⟩=some (.slice A0_2 l0_2.length c0_2):=(blk_cell BK791.out 2).trans rfl;have hfz14_0:=blk_frozen BK791.out 0;have hfz14_1:=blk_frozen BK791.out 1;have hfz14_2:=blk_frozen BK791.out 2)|((with_reducible refine gate_dst (N:=6) rfl ?_);refine box_event ?hg (N:=6) ?hd (cs:=#[.int .i64 0,.int .i64 0,.slice none 0 0]) (t:=24) ?hr ?_;(case hd => rfl);(case hg => rfl);(case hr => first|(go_simp;done)|(go_simp;rfl));intro gb799 hg w15 hbox hb;have n0_:=Aside0.mk (Kd.N_below (Kd.N_elderB (by (with_reducible repeat (first|apply Kd.N_alloc|apply Kd.N_drewN|apply Kd.N_drew));exact (Kd.N_mono (Kd.N_far (p:=⟨gb798,2,none⟩) (Kd.N_far (p:=⟨gb798,1,none⟩) (Kd.N_far (p:=⟨gb798,0,none⟩) (Kd.N_mono HO797.out (fun k_ hk => (⟨hk,hk.2⟩ : _∧k_≠gb798))) (fun _ hk => hk.2) (.int .i64 t793)) (fun _ hk => hk.2) (.int .i64 t794)) (fun _ hk => hk.2) (.slice Ao13 t795.length co13)) (fun _ h_ => h_.1))) gb799 (Nat.le_of_eq hg.symm)) hb);have n1_:=Aside0.mk (blk_below (g:=gb791) (o:=.cells #[.int .i64 a0_0,.int .i64 a0_1,.slice A0_2 l0_2.length c0_2] 24 (0,0)) (by (with_reducible repeat (first|refine blk_drewN ?_ _|refine blk_drew ?_|refine blk_alloc ?_ _));refine blk_far ?_ NB791_798.out _;(with_reducible repeat (first|refine blk_drewN ?_ _|refine blk_drew ?_|refine blk_alloc ?_ _));refine blk_far ?_ NB791_798.out _;(with_reducible repeat (first|refine blk_drewN ?_ _|refine blk_drew ?_|refine blk_alloc ?_ _));refine blk_far ?_ NB791_798.out _;(with_reducible repeat (first|refine blk_drewN ?_ _|refine blk_drew ?_|refine blk_alloc ?_ _));exact BK791.out) hb);have n2_:=Aside0.mk (blk_below (g:=gb792) (o:=.cells #[.int .i64 0,.int .i64 0,.slice none 0 0] 24 (0,0)) (by (with_reducible repeat (first|refine blk_drewN ?_ _|refine blk_drew ?_|refine blk_alloc ?_ _));refine blk_far ?_ NB792_798.out _;(with_reducible repeat (first|refine blk_drewN ?_ _|refine blk_drew ?_|refine blk_alloc ?_ _));refine blk_far ?_ NB792_798.out _;(with_reducible repeat (first|refine blk_drewN ?_ _|refine blk_drew ?_|refine blk_alloc ?_ _));refine blk_far ?_ NB792_798.out _;(with_reducible repeat (first|refine blk_drewN ?_ _|refine blk_drew ?_|refine blk_alloc ?_ _));exact BK792.out) hb);have n3_:=Aside0.mk (blk_below (g:=gb798) (o:=.cells #[.int .i64 t793,.int .i64 t794,.slice Ao13 t795.length co13] 24 (0,0)) (by (with_reducible repeat (first|refine blk_drewN ?_ _|refine blk_drew ?_|refine blk_alloc ?_ _));refine blk_put (cs:=#[.int .i64 t793,.int .i64 t794,.slice none 0 0]) ?_ 2 _ rfl;(with_reducible repeat (first|refine blk_drewN ?_ _|refine blk_drew ?_|refine blk_alloc ?_ _));refine blk_put (cs:=#[.int .i64 t793,.int .i64 0,.slice none 0 0]) ?_ 1 _ rfl;(with_reducible repeat (first|refine blk_drewN ?_ _|refine blk_drew ?_|refine blk_alloc ?_ _));refine blk_put (cs:=#[.int .i64 0,.int .i64 0,.slice none 0 0]) ?_ 0 _ rfl;(with_reducible repeat (first|refine blk_drewN ?_ _|refine blk_drew ?_|refine blk_alloc ?_ _));exact BK798.out) hb);have n4_:=Aside0.mk (below_step (by repeat (first|(with_reducible first|exact HB.out|apply below_alloc|apply pw_below_drewN|apply below_drew1|refine below_set ?_ GE791.out|refine below_set ?_ GE792.out|refine below_set ?_ GE798.out)|exact HB.out)) hb);have n5_:=Aside0.mk (hbox);have n6_:=Aside0.mk ((by rw [hg];exact (below_size (by repeat (first|(with_reducible first|exact HB.out|apply below_alloc|apply pw_below_drewN|apply below_drew1|refine below_set ?_ GE791.out|refine below_set ?_ GE792.out|refine below_set ?_ GE798.out)|exact HB.out))) : w.heap.size≤gb799));have n7_:=Aside0.mk ((by rw [hg];exact (below_size (by repeat (first|(with_reducible first|exact HB.out|apply below_alloc|apply pw_below_drewN|apply below_drew1|refine below_set ?_ GE791.out|refine below_set ?_ GE792.out|refine below_set ?_ GE798.out)|exact HB.out))) : w.heap.size≤gb799));have n8_:=Aside0.mk ((by rw [hg];exact Nat.ne_of_lt (blk_lt (g:=gb791) (o:=.cells #[.int .i64 a0_0,.int .i64 a0_1,.slice A0_2 l0_2.length c0_2] 24 (0,0)) (by (with_reducible repeat (first|refine blk_drewN ?_ _|refine blk_drew ?_|refine blk_alloc ?_ _));refine blk_far ?_ NB791_798.out _;(with_reducible repeat (first|refine blk_drewN ?_ _|refine blk_drew ?_|refine blk_alloc ?_ _));refine blk_far ?_ NB791_798.out _;(with_reducible repeat (first|refine blk_drewN ?_ _|refine blk_drew ?_|refine blk_alloc ?_ _));refine blk_far ?_ NB791_798.out _;(with_reducible repeat (first|refine blk_drewN ?_ _|refine blk_drew ?_|refine blk_alloc ?_ _));exact BK791.out)) : gb791≠gb799));have n9_:=Aside0.mk ((by rw [hg];exact Nat.ne_of_gt (blk_lt (g:=gb791) (o:=.cells #[.int .i64 a0_0,.int .i64 a0_1,.slice A0_2 l0_2.length c0_2] 24 (0,0)) (by (with_reducible repeat (first|refine blk_drewN ?_ _|refine blk_drew ?_|refine blk_alloc ?_ _));refine blk_far ?_ NB791_798.out _;(with_reducible repeat (first|refine blk_drewN ?_ _|refine blk_drew ?_|refine blk_alloc ?_ _));refine blk_far ?_ NB791_798.out _;(with_reducible repeat (first|refine blk_drewN ?_ _|refine blk_drew ?_|refine blk_alloc ?_ _));refine blk_far ?_ NB791_798.out _;(with_reducible repeat (first|refine blk_drewN ?_ _|refine blk_drew ?_|refine blk_alloc ?_ _));exact BK791.out)) : gb799≠gb791));have n10_:=Aside0.mk ((by rw [hg];exact Nat.ne_of_lt (blk_lt (g:=gb792) (o:=.cells #[.int .i64 0,.int .i64 0,.slice none 0 0] 24 (0,0)) (by (with_reducible repeat (first|refine blk_drewN ?_ _|refine blk_drew ?_|refine blk_alloc ?_ _));refine blk_far ?_ NB792_798.out _;(with_reducible repeat (first|refine blk_drewN ?_ _|refine blk_drew ?_|refine blk_alloc ?_ _));refine blk_far ?_ NB792_798.out _;(with_reducible repeat (first|refine blk_drewN ?_ _|refine blk_drew ?_|refine blk_alloc ?_ _));refine blk_far ?_ NB792_798.out _;(with_reducible repeat (first|refine blk_drewN ?_ _|refine blk_drew ?_|refine blk_alloc ?_ _));exact BK792.out)) : gb792≠gb799));have n11_:=Aside0.mk ((by rw [hg];exact Nat.ne_of_gt (blk_lt (g:=gb792) (o:=.cells #[.int .i64 0,.int .i64 0,.slice none 0 0] 24 (0,0)) (by (with_reducible repeat (first|refine blk_drewN ?_ _|refine blk_drew ?_|refine blk_alloc ?_ _));refine blk_far ?_ NB792_798.out _;(with_reducible repeat (first|refine blk_drewN ?_ _|refine blk_drew ?_|refine blk_alloc ?_ _));refine blk_far ?_ NB792_798.out _;(with_reducible repeat (first|refine blk_drewN ?_ _|refine blk_drew ?_|refine blk_alloc ?_ _));refine blk_far ?_ NB792_798.out _;(with_reducible repeat (first|refine blk_drewN ?_ _|refine blk_drew ?_|refine blk_alloc ?_ _));exact BK792.out)) : gb799≠gb792));have n12_:=Aside0.mk ((by rw [hg];exact Nat.ne_of_lt (blk_lt (g:=gb798) (o:=.cells #[.int .i64 t793,.int .i64 t794,.slice Ao13 t795.length co13] 24 (0,0)) (by (with_reducible repeat (first|refine blk_drewN ?_ _|refine blk_drew ?_|refine blk_alloc ?_ _));refine blk_put (cs:=#[.int .i64 t793,.int .i64 t794,.slice none 0 0]) ?_ 2 _ rfl;(with_reducible repeat (first|refine blk_drewN ?_ _|refine blk_drew ?_|refine blk_alloc ?_ _));refine blk_put (cs:=#[.int .i64 t793,.int .i64 0,.slice none 0 0]) ?_ 1 _ rfl;(with_reducible repeat (first|refine blk_drewN ?_ _|refine blk_drew ?_|refine blk_alloc ?_ _));refine blk_put (cs:=#[.int .i64 0,.int .i64 0,.slice none 0 0]) ?_ 0 _ rfl;(with_reducible repeat (first|refine blk_drewN ?_ _|refine blk_drew ?_|refine blk_alloc ?_ _));exact BK798.out)) : gb798≠gb799));have n13_:=Aside0.mk ((by rw [hg];exact Nat.ne_of_gt (blk_lt (g:=gb798) (o:=.cells #[.int .i64 t793,.int .i64 t794,.slice Ao13 t795.length co13] 24 (0,0)) (by (with_reducible repeat (first|refine blk_drewN ?_ _|refine blk_drew ?_|refine blk_alloc ?_ _));refine blk_put (cs:=#[.int .i64 t793,.int .i64 t794,.slice none 0 0]) ?_ 2 _ rfl;(with_reducible repeat (first|refine blk_drewN ?_ _|refine blk_drew ?_|refine blk_alloc ?_ _));refine blk_put (cs:=#[.int .i64 t793,.int .i64 0,.slice none 0 0]) ?_ 1 _ rfl;(with_reducible repeat (first|refine blk_drewN ?_ _|refine blk_drew ?_|refine blk_alloc ?_ _));refine blk_put (cs:=#[.int .i64 0,.int .i64 0,.slice none 0 0]) ?_ 0 _ rfl;(with_reducible repeat (first|refine blk_drewN ?_ _|refine blk_drew ?_|refine blk_alloc ?_ _));exact BK798.out)) : gb799≠gb798));clear HO797;clear BK791;clear BK792;clear BK798;clear HB;have HO797:=n0_;have BK791:=n1_;have BK792:=n2_;have BK798:=n3_;have HB:=n4_;have BK799:=n5_;have GW799:=n6_;have GE799:=n7_;have NB791_799:=n8_;have NB799_791:=n9_;have NB792_799:=n10_;have NB799_792:=n11_;have NB798_799:=n12_;have NB799_798:=n13_;clear n0_ n1_ n2_ n3_ n4_ n5_ n6_ n7_ n8_ n9_ n10_ n11_ n12_ n13_;clear hb hbox hg;have hnb16:=NB799_791.out;have hnc16:=NB791_799.out;have hnb17:=NB799_792.out;have hnc17:=NB792_799.out;have hnb18:=NB799_798.out;have hnc18:=NB798_799.out;have hcz19_0 : w15.cell? ⟨gb799,0,none⟩=some (.int .i64 0):=(blk_cell BK799.out 0).trans rfl;have hcz19_1 : w15.cell? ⟨gb799,1,none⟩=some (.int .i64 0):=(blk_cell BK799.out 1).trans rfl;have hcz19_2 : w15.cell? ⟨gb799,2,none⟩=some (.slice none 0 0):=(blk_cell BK799.out 2).trans rfl;have hfz19_0:=blk_frozen BK799.out 0;have hfz19_1:=blk_frozen BK799.out 1;have hfz19_2:=blk_frozen BK799.out 2))
 go_loopg [7] k (fun kq v7 w' => ∃ (x7_1 : Int) (x800002_1 : List (S46)) (u800002 : Value),v7=.int .i64 x7_1∧Aside0 (phasorref19_only.l0 kq l1 x7_1 t793 t794 t795 a0_0 a0_1 x800002_1=some (r1,r2,r3))∧Aside0 (kq≤k)∧Aside0 (Kd.N k46 46 w' w.heap.size (fun k_ => (w.heap.size≤k_)∧some k_≠(u800002 : Value).ownBlock∧k_≠gb791∧k_≠gb792∧k_≠gb798∧k_≠gb799) (.slice Ao13 t795.length co13) t795)∧Aside0 (Kd.N k46 46 w' w.heap.size (fun k_ => (w.heap.size≤k_)∧some k_≠((.slice Ao13 t795.length co13) : Value).ownBlock∧k_≠gb791∧k_≠gb792∧k_≠gb798∧k_≠gb799) u800002 x800002_1)∧Aside0 (w'.heap[gb791]?=some (.cells #[.int .i64 a0_0,.int .i64 a0_1,(.slice A0_2 l0_2.length c0_2)] 24 (0,0)))∧Aside0 (w'.heap[gb792]?=some (.cells #[.int .i64 0,.int .i64 0,(.slice none 0 0)] 24 (0,0)))∧Aside0 (w'.heap[gb798]?=some (.cells #[.int .i64 t793,.int .i64 t794,(.slice Ao13 t795.length co13)] 24 (0,0)))∧Aside0 (w'.heap[gb799]?=some (.cells #[.int .i64 a0_0,.int .i64 a0_1,u800002] 24 (0,0)))∧Aside0 (Below w.heap.size w w'))
 case atStart => exact ⟨(0),(([] : List (S46))),(.slice none 0 0),(by first|rfl|(simp;done)|(simp [*];done)),H',⟨Nat.le_refl _⟩,⟨by (with_reducible repeat (first|apply Kd.N_alloc|apply Kd.N_drewN|apply Kd.N_drew));exact Kd.N_mono (Kd.N_far (p:=⟨gb799,2,none⟩) (Kd.N_far (p:=⟨gb799,1,none⟩) (Kd.N_far (p:=⟨gb799,0,none⟩) (Kd.N_mono HO797.out (fun k_ hk => (⟨hk,hk.2⟩ : _∧k_≠gb799))) (fun _ hk => hk.2) (.int .i64 a0_0)) (fun _ hk => hk.2) (.int .i64 a0_1)) (fun _ hk => hk.2) (.slice none 0 0)) (fun _ hk => ⟨hk.1.1.1.1,⟨(by simp [Value.ownBlock]),⟨hk.1.1.1.2.1,⟨hk.1.1.1.2.2,⟨hk.1.1.2,hk.1.2⟩⟩⟩⟩⟩)⟩,⟨by first|exact Kd.S_nil _ _ _ _ _|exact Kd.N_nil _ _ _ _ _|exact Kd.V_nil _ _ _ _ _|exact Kd.Q_nil _ _ _ _ _|exact Kd.R_nil _ _ _ _ _⟩,⟨by (with_reducible repeat (first|refine blk_drewN ?_ _|refine blk_drew ?_|refine blk_alloc ?_ _));refine blk_far ?_ NB791_799.out _;(with_reducible repeat (first|refine blk_drewN ?_ _|refine blk_drew ?_|refine blk_alloc ?_ _));refine blk_far ?_ NB791_799.out _;(with_reducible repeat (first|refine blk_drewN ?_ _|refine blk_drew ?_|refine blk_alloc ?_ _));refine blk_far ?_ NB791_799.out _;(with_reducible repeat (first|refine blk_drewN ?_ _|refine blk_drew ?_|refine blk_alloc ?_ _));exact BK791.out⟩,⟨by (with_reducible repeat (first|refine blk_drewN ?_ _|refine blk_drew ?_|refine blk_alloc ?_ _));refine blk_far ?_ NB792_799.out _;(with_reducible repeat (first|refine blk_drewN ?_ _|refine blk_drew ?_|refine blk_alloc ?_ _));refine blk_far ?_ NB792_799.out _;(with_reducible repeat (first|refine blk_drewN ?_ _|refine blk_drew ?_|refine blk_alloc ?_ _));refine blk_far ?_ NB792_799.out _;(with_reducible repeat (first|refine blk_drewN ?_ _|refine blk_drew ?_|refine blk_alloc ?_ _));exact BK792.out⟩,⟨by (with_reducible repeat (first|refine blk_drewN ?_ _|refine blk_drew ?_|refine blk_alloc ?_ _));refine blk_far ?_ NB798_799.out _;(with_reducible repeat (first|refine blk_drewN ?_ _|refine blk_drew ?_|refine blk_alloc ?_ _));refine blk_far ?_ NB798_799.out _;(with_reducible repeat (first|refine blk_drewN ?_ _|refine blk_drew ?_|refine blk_alloc ?_ _));refine blk_far ?_ NB798_799.out _;(with_reducible repeat (first|refine blk_drewN ?_ _|refine blk_drew ?_|refine blk_alloc ?_ _));exact BK798.out⟩,⟨by (with_reducible repeat (first|refine blk_drewN ?_ _|refine blk_drew ?_|refine blk_alloc ?_ _));refine blk_put (cs:=#[.int .i64 a0_0,.int .i64 a0_1,.slice none 0 0]) ?_ 2 _ rfl;(with_reducible repeat (first|refine blk_drewN ?_ _|refine blk_drew ?_|refine blk_alloc ?_ _));refine blk_put (cs:=#[.int .i64 a0_0,.int .i64 0,.slice none 0 0]) ?_ 1 _ rfl;(with_reducible repeat (first|refine blk_drewN ?_ _|refine blk_drew ?_|refine blk_alloc ?_ _));refine blk_put (cs:=#[.int .i64 0,.int .i64 0,.slice none 0 0]) ?_ 0 _ rfl;(with_reducible repeat (first|refine blk_drewN ?_ _|refine blk_drew ?_|refine blk_alloc ?_ _));exact BK799.out⟩,⟨by repeat (first|(with_reducible first|exact HB.out|apply below_alloc|apply pw_below_drewN|apply below_drew1|refine below_set ?_ GE791.out|refine below_set ?_ GE792.out|refine below_set ?_ GE798.out|refine below_set ?_ GE799.out)|exact HB.out)⟩⟩
 case round =>
  clear H'
  try clear c1
  try clear p2
  try clear c6
  try clear c7
  try clear c10
  try clear c11
  try clear c16
  try clear c17
  try clear c18
  try clear hcz12_0
  try clear hcz12_1
  try clear hcz12_2
  try clear hcz14_0
  try clear hcz14_1
  try clear hcz14_2
  try clear hcz19_0
  try clear hcz19_1
  try clear hcz19_2
  try clear hcz7_0
  try clear hcz7_1
  try clear hcz7_2
  try clear hfz12_0
  try clear hfz12_1
  try clear hfz12_2
  try clear hfz14_0
  try clear hfz14_1
  try clear hfz14_2
  try clear hfz19_0
  try clear hfz19_1
  try clear hfz19_2
  try clear hfz7_0
  try clear hfz7_1
  try clear hfz7_2
  obtain ⟨x7_1,x800002_1,u800002,rfl,HA,HK1,HO_799002,HO_800002,BK791,BK792,BK798,BK799,HB⟩:=hrel
  cases gk with
  | zero => exact absurd HA.out (by simp [phasorref19_only.l0])
  | succ k1 =>
   have H:=HA.out
   clear HA
   simp only [phasorref19_only.l0] at H
   by_cases c20 : x7_1 < (l1.length : Int)
   ·rw [if_pos c20] at H
    have c20b0 : decide (x7_1 < (l1.length : Int))=true:=decide_eq_true c20
    clear c20
    by_cases c21 : 0≤x7_1
    ·rw [if_pos c21] at H
     have c21b0 : decide (0≤x7_1)=true:=decide_eq_true c21
     clear c21
     by_cases c22 : 0≤(rd l1 x7_1)
     ·rw [if_pos c22] at H
      have c22b0 : decide (0≤(rd l1 x7_1))=true:=decide_eq_true c22
      clear c22
      by_cases c23 : (rd l1 x7_1) < (t795.length : Int)
      ·rw [if_pos c23] at H
       have c23b0 : decide ((rd l1 x7_1) < (t795.length : Int))=true:=decide_eq_true c23
       clear c23
       by_cases c24 : x800002_1.length < 2199023255552
       ·rw [if_pos c24] at H
        have LMc24:=Aside0.mk c24
        clear c24
        obtain ⟨y802,hy802⟩ : ∃ y_ : List (S46),y_=(x800002_1 ++ [(⟨(rd_T46 t795 (rd l1 x7_1)).f0,(rd_T46 t795 (rd l1 x7_1)).f1,(rd_T46 t795 (rd l1 x7_1)).f2,(rd_T46 t795 (rd l1 x7_1)).f3,(rd_T46 t795 (rd l1 x7_1)).f4,(rd_T46 t795 (rd l1 x7_1)).f5⟩ : S46)]):=⟨_,rfl⟩
        replace H : (phasorref19_only.l0 k1 l1 (wrap64 (x7_1 + 1)) t793 t794 t795 a0_0 a0_1 y802)=some (r1,r2,r3):=by first|(rw [hy802];with_reducible exact H)|(have H2_:=(Option.bind_some _ _).symm.trans H;rw [hy802];with_reducible exact H2_)|(have H2_:=(Option.bind_some _ _).symm.trans H;with_reducible exact H2_)|with_reducible exact H|(rw [hy802];exact H)|exact H
        have Ny802:=Aside0.mk hy802
        clear hy802
        have H':=Aside0.mk H
        clear H
        try go_wp2
        have n0_:=Aside0.mk (Kd.N_drew HO_799002.out)
        have n1_:=Aside0.mk (Kd.N_drew HO_800002.out)
        have n2_:=Aside0.mk (blk_drew BK791.out)
        have n3_:=Aside0.mk (blk_drew BK792.out)
        have n4_:=Aside0.mk (blk_drew BK798.out)
        have n5_:=Aside0.mk (blk_drew BK799.out)
        have n6_:=Aside0.mk (below_drew1 HB.out)
        clear HO_799002
        clear HO_800002
        clear BK791
        clear BK792
        clear BK798
        clear BK799
        clear HB
        have HO_799002:=n0_
        have HO_800002:=n1_
        have BK791:=n2_
        have BK792:=n3_
        have BK798:=n4_
        have BK799:=n5_
        have HB:=n6_
        clear n0_ n1_ n2_ n3_ n4_ n5_ n6_
        have p800 : 0≤(x7_1 : Int):=of_decide_eq_true (by first|(with_reducible assumption)|assumption)
        have q800 : x7_1 < (l1.length : Int):=of_decide_eq_true (by first|(with_reducible assumption)|assumption)
        obtain ⟨ad800,e800,hx800_0⟩:=Kd.at_int HR1.out x7_1 p800 q800
        have hw800_0:=hx800_0
        cases e800
        replace hx800_0:=(HB.out.cell (World.block_lt_of_cell? w _ hx800_0)).trans hx800_0
        replace p800:=eq_true p800
        replace q800:=eq_true q800
        have p801 : 0≤((rd l1 x7_1) : Int):=of_decide_eq_true (by first|(with_reducible assumption)|assumption)
        have q801 : (rd l1 x7_1) < (t795.length : Int):=of_decide_eq_true (by first|(with_reducible assumption)|assumption)
        obtain ⟨ad801,A801_2,c801_2,e801,hx801_0,hx801_1,hx801_2,hx801_3,hx801_4,hx801_5,hl801_2,hi801_2⟩:=at_T46 (Kd.N_reads' HO_799002.out).2.2 (rd l1 x7_1) p801 q801
        cases e801
        obtain ⟨ce801,hce801,hMe801,hcc801⟩:=Kd.N_get HO_799002.out z46 (rd l1 x7_1) p801 (by first|exact q801|exact of_decide_eq_true (by first|(with_reducible assumption)|assumption)|(have e_:=(Kd.N_reads' HO_799002.out).1;omega))
        obtain ⟨ua801_2,uc801_2,rfl,ul801_2,ge801_2⟩:=k46_openF hMe801
        have hv801_2:=hcc801 2 _ rfl
        rw [add_field _ _ 2 (by omega)] at hv801_2
        replace hv801_2:=Option.some.inj (hv801_2.symm.trans hx801_2)
        injection hv801_2 with hva_ hvn_ hvc_
        rw [hva_] at ge801_2
        rw [hvc_] at ul801_2
        have HL801_2:=Aside0.mk (show Kd.V (Kd.int .i64) 3 _ w.heap.size _ _ ((rd_T46 t795 (rd l1 x7_1)).f2) from Kd.V_mk ul801_2 ge801_2)
        clear hva_ hvn_ hvc_ ge801_2 ul801_2
        clear hcc801 hce801
        have HR801_2:=Aside0.mk hi801_2
        have HC801_2:=Aside0.mk hl801_2
        clear hi801_2 hl801_2
        replace p801:=eq_true p801
        replace q801:=eq_true q801
        refine start_ (n:=14) (S:=fun w' => w'.cell? ⟨gb799,0,none⟩=some (.int .i64 a0_0)∧w'.cell? ⟨gb799,1,none⟩=some (.int .i64 a0_1)∧w'.cell? ⟨gb799,2,none⟩=some (u800002)∧w'.cell? ⟨gb798,0,none⟩=some (.int .i64 t793)∧w'.cell? ⟨gb798,1,none⟩=some (.int .i64 t794)∧w'.cell? ⟨gb798,2,none⟩=some (.slice (some ad801) t795.length co13)∧w'.cell? (ad800.add (x7_1).toNat)=some (.int .i64 (rd l1 x7_1))∧w'.cell? (ad801.add (((rd l1 x7_1)).toNat * 6))=some (.int .i64 ((rd_T46 t795 (rd l1 x7_1)).f0))∧w'.cell? ⟨(ad801.add (((rd l1 x7_1)).toNat * 6)).block,(ad801.add (((rd l1 x7_1)).toNat * 6)).off + 1,none⟩=some (.int .i64 ((rd_T46 t795 (rd l1 x7_1)).f1))∧w'.cell? ⟨(ad801.add (((rd l1 x7_1)).toNat * 6)).block,(ad801.add (((rd l1 x7_1)).toNat * 6)).off + 2,none⟩=some (.slice A801_2 ((rd_T46 t795 (rd l1 x7_1)).f2).length c801_2)∧w'.cell? ⟨(ad801.add (((rd l1 x7_1)).toNat * 6)).block,(ad801.add (((rd l1 x7_1)).toNat * 6)).off + 3,none⟩=some (.int .i64 ((rd_T46 t795 (rd l1 x7_1)).f3))∧w'.cell? ⟨(ad801.add (((rd l1 x7_1)).toNat * 6)).block,(ad801.add (((rd l1 x7_1)).toNat * 6)).off + 4,none⟩=some (.int .i64 ((rd_T46 t795 (rd l1 x7_1)).f4))∧w'.cell? ⟨(ad801.add (((rd l1 x7_1)).toNat * 6)).block,(ad801.add (((rd l1 x7_1)).toNat * 6)).off + 5,none⟩=some (.int .i64 ((rd_T46 t795 (rd l1 x7_1)).f5))) (ds:=[11,13]) #[false,false,false,false,false,false,false,false,false,false,false,false,false,false] (by kernel_rfl) rfl rfl ⟨(blk_cell BK799.out 0).trans rfl,(blk_cell BK799.out 1).trans rfl,(blk_cell BK799.out 2).trans rfl,(blk_cell BK798.out 0).trans rfl,(blk_cell BK798.out 1).trans rfl,(blk_cell BK798.out 2).trans rfl,((HB.out.cell (World.block_lt_of_cell? w _ hw800_0)).trans hw800_0),hx801_0,hx801_1,hx801_2,hx801_3,hx801_4,hx801_5⟩ (fun hHeld => ?_);refine with_tabW phasorref19_only.tab6 phasorref19_only.bits6 (fun HT_ HW_ => ?_)
        generalize wr.drew=w25 at HO_799002 HO_800002 BK791 BK792 BK798 BK799 HB HL801_2 HR801_2 hx800_0 hx801_0 hx801_1 hx801_2 hx801_3 hx801_4 hx801_5 hHeld ⊢
        refine pure_ (i:=0) (N:=some 21) (v:=?_) (a':=?_) #[true,false,false,false,false,false,false,false,false,false,false,false,false,false] rfl rfl (any_of HT_.out (by kernel_rfl)) (fun _ _ _ h => h) (Or.inl ⟨by rfl,?_⟩) ?_ ?_
        rotate_left
        ·intro w'
         go_simp
         with_reducible rfl
        rotate_left
        ·simp only [Act.put,List.setIfInBounds_toArray,List.set_cons_zero,List.set_cons_succ,i64_w,i32_w]
         rfl
        refine pure_ (i:=2) (N:=some 23) (v:=?_) (a':=?_) #[true,false,true,false,false,false,false,false,false,false,false,false,false,false] rfl rfl (any_of HT_.out (by kernel_rfl)) (fun _ _ _ h => h) (Or.inl ⟨by rfl,?_⟩) ?_ ?_
        rotate_left
        ·intro w'
         go_simp
         with_reducible rfl
        rotate_left
        ·simp only [Act.put,List.setIfInBounds_toArray,List.set_cons_zero,List.set_cons_succ,i64_w,i32_w]
         rfl
        refine pure_ (i:=4) (N:=some 25) (v:=?_) (a':=?_) #[true,false,true,false,true,false,false,false,false,false,false,false,false,false] rfl rfl (any_of HT_.out (by kernel_rfl)) (fun _ _ _ h => h) (Or.inl ⟨by rfl,?_⟩) ?_ ?_
        rotate_left
        ·intro w'
         go_simp
         with_reducible rfl
        rotate_left
        ·simp only [Act.put,List.setIfInBounds_toArray,List.set_cons_zero,List.set_cons_succ,i64_w,i32_w]
         rfl
        refine pure_ (i:=5) (N:=some 26) (v:=?_) (a':=?_) #[true,false,true,false,true,true,false,false,false,false,false,false,false,false] rfl rfl (any_of HT_.out (by kernel_rfl)) (fun _ _ _ h => h) (Or.inl ⟨by rfl,?_⟩) ?_ ?_
        rotate_left
        ·intro w'
         go_simp
         with_reducible rfl
        rotate_left
        ·simp only [Act.put,List.setIfInBounds_toArray,List.set_cons_zero,List.set_cons_succ,i64_w,i32_w]
         rfl
        refine pure_ (i:=6) (N:=some 27) (v:=?_) (a':=?_) #[true,false,true,false,true,true,true,false,false,false,false,false,false,false] rfl rfl (any_of HT_.out (by kernel_rfl)) (fun _ _ _ h => h) (Or.inl ⟨by rfl,?_⟩) ?_ ?_
        rotate_left
        ·intro w'
         go_simp
         with_reducible rfl
        rotate_left
        ·simp only [Act.put,List.setIfInBounds_toArray,List.set_cons_zero,List.set_cons_succ,i64_w,i32_w]
         rfl
        refine take_ (i:=1) (N:=some 22) (v:=?_) (a':=?_) #[true,true,true,false,true,true,true,false,false,false,false,false,false,false] rfl rfl (take_ofW HT_.out HW_.out (by kernel_rfl)) (fun _ _ _ h => h) (Or.inl ⟨by rfl,?_⟩) hHeld ?_ ?_
        rotate_left
        ·rintro w' ⟨s0,s1,s2,s3,s4,s5,s6,s7,s8,s9,s10,s11,s12⟩
         go_simp
         with_reducible rfl
        rotate_left
        ·simp only [Act.put,List.setIfInBounds_toArray,List.set_cons_zero,List.set_cons_succ,i64_w,i32_w]
         rfl
        refine take_ (i:=3) (N:=some 24) (v:=?_) (a':=?_) #[true,true,true,true,true,true,true,false,false,false,false,false,false,false] rfl rfl (take_ofW HT_.out HW_.out (by kernel_rfl)) (fun _ _ _ h => h) (Or.inl ⟨by rfl,?_⟩) hHeld ?_ ?_
        rotate_left
        ·rintro w' ⟨s0,s1,s2,s3,s4,s5,s6,s7,s8,s9,s10,s11,s12⟩
         go_simp
         with_reducible rfl
        rotate_left
        ·simp only [Act.put,List.setIfInBounds_toArray,List.set_cons_zero,List.set_cons_succ,i64_w,i32_w]
         rfl
        refine take_ (i:=7) (N:=some 28) (v:=?_) (a':=?_) #[true,true,true,true,true,true,true,true,false,false,false,false,false,false] rfl rfl (take_ofW HT_.out HW_.out (by kernel_rfl)) (fun _ _ _ h => h) (Or.inl ⟨by rfl,?_⟩) hHeld ?_ ?_
        rotate_left
        ·rintro w' ⟨s0,s1,s2,s3,s4,s5,s6,s7,s8,s9,s10,s11,s12⟩
         go_simp
         with_reducible rfl
        rotate_left
        ·simp only [Act.put,List.setIfInBounds_toArray,List.set_cons_zero,List.set_cons_succ,i64_w,i32_w]
         rfl
        refine pure_ (i:=8) (N:=some 29) (v:=?_) (a':=?_) #[true,true,true,true,true,true,true,true,true,false,false,false,false,false] rfl rfl (any_of HT_.out (by kernel_rfl)) (fun _ _ _ h => h) (Or.inl ⟨by rfl,?_⟩) ?_ ?_
        rotate_left
        ·intro w'
         go_simp
         with_reducible rfl
        rotate_left
        ·simp only [Act.put,List.setIfInBounds_toArray,List.set_cons_zero,List.set_cons_succ,i64_w,i32_w]
         rfl
        refine take_ (i:=9) (N:=some 30) (v:=?_) (a':=?_) #[true,true,true,true,true,true,true,true,true,true,false,false,false,false] rfl rfl (take_ofW HT_.out HW_.out (by kernel_rfl)) (fun _ _ _ h => h) (Or.inl ⟨by rfl,?_⟩) hHeld ?_ ?_
        rotate_left
        ·rintro w' ⟨s0,s1,s2,s3,s4,s5,s6,s7,s8,s9,s10,s11,s12⟩
         go_simp
         with_reducible rfl
        rotate_left
        ·simp only [Act.put,List.setIfInBounds_toArray,List.set_cons_zero,List.set_cons_succ,i64_w,i32_w]
         rfl
        refine one_ (i:=10) (N:=some 31) #[true,true,true,true,true,true,true,true,true,true,true,false,false,false] rfl rfl (one_of HT_.out (by kernel_rfl)) (by decide) (fun K hK => ?_)
        refine value_ (w1:=?_) (v:=?_) (by rfl) rfl ?_ ?_
        rotate_left 2
        ·go_simp
         constructor
         ·rfl
         ·rfl
        refine hK.out _ _ ⟨(blk_cell (blk_alloc BK799.out _) 0).trans rfl,(blk_cell (blk_alloc BK799.out _) 1).trans rfl,(blk_cell (blk_alloc BK799.out _) 2).trans rfl,(blk_cell (blk_alloc BK798.out _) 0).trans rfl,(blk_cell (blk_alloc BK798.out _) 1).trans rfl,(blk_cell (blk_alloc BK798.out _) 2).trans rfl,(World.cell?_alloc_lt _ _ _ (World.block_lt_of_cell? _ _ (((HB.out.cell (World.block_lt_of_cell? w _ hw800_0)).trans hw800_0)))).trans (((HB.out.cell (World.block_lt_of_cell? w _ hw800_0)).trans hw800_0)),(World.cell?_alloc_lt _ _ _ (World.block_lt_of_cell? _ _ (hHeld.2.2.2.2.2.2.2.1))).trans (hHeld.2.2.2.2.2.2.2.1),(World.cell?_alloc_lt _ _ _ (World.block_lt_of_cell? _ _ (hHeld.2.2.2.2.2.2.2.2.1))).trans (hHeld.2.2.2.2.2.2.2.2.1),(World.cell?_alloc_lt _ _ _ (World.block_lt_of_cell? _ _ (hHeld.2.2.2.2.2.2.2.2.2.1))).trans (hHeld.2.2.2.2.2.2.2.2.2.1),(World.cell?_alloc_lt _ _ _ (World.block_lt_of_cell? _ _ (hHeld.2.2.2.2.2.2.2.2.2.2.1))).trans (hHeld.2.2.2.2.2.2.2.2.2.2.1),(World.cell?_alloc_lt _ _ _ (World.block_lt_of_cell? _ _ (hHeld.2.2.2.2.2.2.2.2.2.2.2.1))).trans (hHeld.2.2.2.2.2.2.2.2.2.2.2.1),(World.cell?_alloc_lt _ _ _ (World.block_lt_of_cell? _ _ (hHeld.2.2.2.2.2.2.2.2.2.2.2.2))).trans (hHeld.2.2.2.2.2.2.2.2.2.2.2.2)⟩ (fun hHeld => ?_)
        clear hK K
        refine norm_ (a':=?_) ?_ ?_
        rotate_left
        ·show Act.put _ (some 31) _=_
         simp only [Act.put,List.setIfInBounds_toArray,List.set_cons_zero,List.set_cons_succ,i64_w,i32_w]
         rfl
        refine last_ (i:=11) (N:=some 32) #[true,true,true,true,true,true,true,true,true,true,true,true,false,false] rfl rfl (one_of HT_.out (by kernel_rfl)) (by decide) (fun K hK => ?_)
        refine Kd.N_append_step k46 (w0:=w) w.heap.size (by rfl) (.tmp 22) (.tmp 31) 22 46 (.agg #[(.int .i64 0),(.int .i64 0),(.slice none 0 0),(.int .i64 0),(.int .i64 0),(.int .i64 0)]) 64 rfl Try.underlying22 info46 rfl (by decide) (by omega) u800002 x800002_1 (⟨(rd_T46 t795 (rd l1 x7_1)).f0,(rd_T46 t795 (rd l1 x7_1)).f1,(rd_T46 t795 (rd l1 x7_1)).f2,(rd_T46 t795 (rd l1 x7_1)).f3,(rd_T46 t795 (rd l1 x7_1)).f4,(rd_T46 t795 (rd l1 x7_1)).f5⟩ : S46) [.int .i64 ((rd_T46 t795 (rd l1 x7_1)).f0),.int .i64 ((rd_T46 t795 (rd l1 x7_1)).f1),.slice A801_2 ((rd_T46 t795 (rd l1 x7_1)).f2).length c801_2,.int .i64 ((rd_T46 t795 (rd l1 x7_1)).f3),.int .i64 ((rd_T46 t795 (rd l1 x7_1)).f4),.int .i64 ((rd_T46 t795 (rd l1 x7_1)).f5)] (fun k_ => (w.heap.size≤k_)∧some k_≠(.slice (some ad801) t795.length co13 : Value).ownBlock∧k_≠gb791∧k_≠gb792∧k_≠gb798∧k_≠gb799) (fun k_ => ((fun k_ => (w.heap.size≤k_)∧some k_≠(.slice (some ad801) t795.length co13 : Value).ownBlock∧k_≠gb791∧k_≠gb792∧k_≠gb798∧k_≠gb799)) k_∧some k_≠(u800002 : Value).ownBlock) rfl rfl ?aP (fun _ hk => hk) ?aF ?aO ?aB ?aS ?aL ?_
        (case aP => exact (k46_mkF _ _ (⟨(rd_T46 t795 (rd l1 x7_1)).f0,(rd_T46 t795 (rd l1 x7_1)).f1,(rd_T46 t795 (rd l1 x7_1)).f2,(rd_T46 t795 (rd l1 x7_1)).f3,(rd_T46 t795 (rd l1 x7_1)).f4,(rd_T46 t795 (rd l1 x7_1)).f5⟩ : S46) (Kd.V_reads' (Kd.V_mono (ok':=(fun k_ => ((fun k_ => (w.heap.size≤k_)∧some k_≠(.slice (some ad801) t795.length co13 : Value).ownBlock∧k_≠gb791∧k_≠gb792∧k_≠gb798∧k_≠gb799)) k_∧some k_≠(u800002 : Value).ownBlock)) (HL801_2.out) (fun k_ hk => ⟨⟨hk.1.1,⟨hk.2,⟨hk.1.2.2.1,⟨hk.1.2.2.2.1,⟨hk.1.2.2.2.2.1,hk.1.2.2.2.2.2⟩⟩⟩⟩⟩,hk.1.2.1⟩))).2.1 (Kd.V_F (Kd.V_mono (ok':=(fun k_ => ((fun k_ => (w.heap.size≤k_)∧some k_≠(.slice (some ad801) t795.length co13 : Value).ownBlock∧k_≠gb791∧k_≠gb792∧k_≠gb798∧k_≠gb799)) k_∧some k_≠(u800002 : Value).ownBlock)) (HL801_2.out) (fun k_ hk => ⟨⟨hk.1.1,⟨hk.2,⟨hk.1.2.2.1,⟨hk.1.2.2.2.1,⟨hk.1.2.2.2.2.1,hk.1.2.2.2.2.2⟩⟩⟩⟩⟩,hk.1.2.1⟩)))))
        (case aB => exact (by repeat (first|(with_reducible first|exact HB.out|apply below_alloc|apply pw_below_drewN|apply below_drew1|refine below_set ?_ GE791.out|refine below_set ?_ GE792.out|refine below_set ?_ GE798.out|refine below_set ?_ GE799.out)|exact HB.out)))
        (case aF => exact (fun k_ hk => ⟨(Nat.le_trans (below_size (by repeat (first|(with_reducible first|exact HB.out|apply below_alloc|apply pw_below_drewN|apply below_drew1|refine below_set ?_ GE791.out|refine below_set ?_ GE792.out|refine below_set ?_ GE798.out|refine below_set ?_ GE799.out)|exact HB.out))) hk),Kd.fresh' (Kd.N_lt (by (with_reducible repeat (first|apply Kd.N_alloc|apply Kd.N_drewN|apply Kd.N_drew));exact HO_799002.out)) k_ hk,Kd.freshB (g:=gb791) (o:=.cells #[.int .i64 a0_0,.int .i64 a0_1,.slice A0_2 l0_2.length c0_2] 24 (0,0)) (by (with_reducible repeat (first|refine blk_drewN ?_ _|refine blk_drew ?_|refine blk_alloc ?_ _));exact BK791.out) k_ hk,Kd.freshB (g:=gb792) (o:=.cells #[.int .i64 0,.int .i64 0,.slice none 0 0] 24 (0,0)) (by (with_reducible repeat (first|refine blk_drewN ?_ _|refine blk_drew ?_|refine blk_alloc ?_ _));exact BK792.out) k_ hk,Kd.freshB (g:=gb798) (o:=.cells #[.int .i64 t793,.int .i64 t794,.slice (some ad801) t795.length co13] 24 (0,0)) (by (with_reducible repeat (first|refine blk_drewN ?_ _|refine blk_drew ?_|refine blk_alloc ?_ _));exact BK798.out) k_ hk,Kd.freshB (g:=gb799) (o:=.cells #[.int .i64 a0_0,.int .i64 a0_1,u800002] 24 (0,0)) (by (with_reducible repeat (first|refine blk_drewN ?_ _|refine blk_drew ?_|refine blk_alloc ?_ _));exact BK799.out) k_ hk⟩))
        (case aO => exact (by (with_reducible repeat (first|apply Kd.N_alloc|apply Kd.N_drewN|apply Kd.N_drew));exact HO_800002.out))
        (case aS => exact (below_size (by repeat (first|(with_reducible first|exact HB.out|apply below_alloc|apply pw_below_drewN|apply below_drew1|refine below_set ?_ GE791.out|refine below_set ?_ GE792.out|refine below_set ?_ GE798.out|refine below_set ?_ GE799.out)|exact HB.out))))
        (case aL => have:=LMc24.out;omega)
        intro v803 w26 ho hb hg hat
        rw [← Ny802.out] at ho
        have n0_:=Aside0.mk (Kd.N_afterv (ok:=(fun k_ => (w.heap.size≤k_)∧k_≠gb791∧k_≠gb792∧k_≠gb798∧k_≠gb799)) (by (with_reducible repeat (first|apply Kd.N_alloc|apply Kd.N_drewN|apply Kd.N_drew));exact Kd.N_mono HO_799002.out (fun _ hk => ⟨⟨hk.1,⟨hk.2.2.1,⟨hk.2.2.2.1,⟨hk.2.2.2.2.1,hk.2.2.2.2.2⟩⟩⟩⟩,hk.2.1⟩)) hg hat)
        have n1_:=Aside0.mk (blk_grown (g:=gb791) (o:=.cells #[.int .i64 a0_0,.int .i64 a0_1,.slice A0_2 l0_2.length c0_2] 24 (0,0)) (by (with_reducible repeat (first|refine blk_drewN ?_ _|refine blk_drew ?_|refine blk_alloc ?_ _));exact BK791.out) hg (Kd.N_ne HO_800002.out BK791.out (by decide)))
        have n2_:=Aside0.mk (blk_grown (g:=gb792) (o:=.cells #[.int .i64 0,.int .i64 0,.slice none 0 0] 24 (0,0)) (by (with_reducible repeat (first|refine blk_drewN ?_ _|refine blk_drew ?_|refine blk_alloc ?_ _));exact BK792.out) hg (Kd.N_ne HO_800002.out BK792.out (by decide)))
        have n3_:=Aside0.mk (blk_grown (g:=gb798) (o:=.cells #[.int .i64 t793,.int .i64 t794,.slice (some ad801) t795.length co13] 24 (0,0)) (by (with_reducible repeat (first|refine blk_drewN ?_ _|refine blk_drew ?_|refine blk_alloc ?_ _));exact BK798.out) hg (Kd.N_ne HO_800002.out BK798.out (by decide)))
        have n4_:=Aside0.mk (blk_grown (g:=gb799) (o:=.cells #[.int .i64 a0_0,.int .i64 a0_1,u800002] 24 (0,0)) (by (with_reducible repeat (first|refine blk_drewN ?_ _|refine blk_drew ?_|refine blk_alloc ?_ _));exact BK799.out) hg (Kd.N_ne HO_800002.out BK799.out (by decide)))
        have n5_:=Aside0.mk (Kd.V_afterv (ok:=(fun k_ => (w.heap.size≤k_)∧some k_≠(.slice (some ad801) t795.length co13 : Value).ownBlock∧k_≠gb791∧k_≠gb792∧k_≠gb798∧k_≠gb799)) (by (with_reducible repeat (first|apply Kd.V_alloc|apply Kd.V_drewN|apply Kd.V_drew));exact Kd.V_mono HL801_2.out (fun _ hk => ⟨⟨hk.1.1,⟨hk.2,⟨hk.1.2.2.1,⟨hk.1.2.2.2.1,⟨hk.1.2.2.2.2.1,hk.1.2.2.2.2.2⟩⟩⟩⟩⟩,hk.1.2.1⟩)) hg hat)
        have n6_:=Aside0.mk (hb)
        have n7_:=Aside0.mk (ho)
        clear HO_799002
        clear BK791
        clear BK792
        clear BK798
        clear BK799
        clear HL801_2
        clear HB
        clear HO_800002
        have HO_799002:=n0_
        have BK791:=n1_
        have BK792:=n2_
        have BK798:=n3_
        have BK799:=n4_
        have HL801_2:=n5_
        have HB:=n6_
        have HO804:=n7_
        clear n0_ n1_ n2_ n3_ n4_ n5_ n6_ n7_
        clear ho hb hg hat
        obtain ⟨Ao27,co27,eo27⟩:=Kd.N_slice HO804.out
        (first|subst eo27|(injection eo27 with f1_ f2_ f3_;have f4_:=f1_.symm;have f5_:=f3_.symm;clear f1_ f2_ f3_;subst f4_;subst f5_))
        refine hK.out _ _ ?_
        clear hK K
        refine norm_ (a':=?_) ?_ ?_
        rotate_left
        ·show Act.put _ (some 32) _=_
         simp only [Act.put,List.setIfInBounds_toArray,List.set_cons_zero,List.set_cons_succ,i64_w,i32_w]
         rfl
        refine pure_ (i:=12) (N:=some 33) (v:=?_) (a':=?_) #[true,true,true,true,true,true,true,true,true,true,true,true,true,false] rfl rfl (any_of HT_.out (by kernel_rfl)) (fun _ _ _ h => h) (Or.inl ⟨by rfl,?_⟩) ?_ ?_
        rotate_left
        ·intro w'
         go_simp
         with_reducible rfl
        rotate_left
        ·simp only [Act.put,List.setIfInBounds_toArray,List.set_cons_zero,List.set_cons_succ,i64_w,i32_w]
         rfl
        refine last_ (i:=13) (N:=none) #[true,true,true,true,true,true,true,true,true,true,true,true,true,true] rfl rfl (one_of HT_.out (by kernel_rfl)) (by decide) (fun K hK => ?_)
        have hs28 : w26.cell? ⟨gb799,2,none⟩=some (u800002):=(blk_cell BK799.out 2).trans rfl
        have hfs28:=blk_frozen BK799.out 2
        have hns28_0:=NB791_799.out
        have hns28_1:=NB792_799.out
        have hns28_2:=NB798_799.out
        have hms28_0:=NB799_791.out
        have hms28_1:=NB799_792.out
        have hms28_2:=NB799_798.out
        refine skip_ (w1:=?_) (by rfl) rfl ?_ ?_
        rotate_left
        ·go_simp
         rfl
        refine hK.out _ _ ?_
        clear hK K
        refine done_ (done_of HT_.out (by kernel_rfl)) ?_
        try go_wp2
        go_roundg k1
        case measure => have:=HK1.out;omega
        case rel => exact ⟨(wrap64 (x7_1 + 1)),(y802),(.slice Ao27 y802.length co27),(by first|rfl|(simp;done)|(simp [*];done)),H',⟨by have:=HK1.out;omega⟩,⟨by (with_reducible repeat (first|apply Kd.N_alloc|apply Kd.N_drewN|apply Kd.N_drew));exact Kd.N_mono (Kd.N_far (p:=⟨gb799,2,none⟩) (Kd.N_mono HO_799002.out (fun k_ hk => (⟨hk,hk.1.2.2.2.2⟩ : _∧k_≠gb799))) (fun _ hk => hk.2) (.slice Ao27 y802.length co27)) (fun _ hk => ⟨hk.1.1.1,⟨hk.1.2,⟨hk.1.1.2.1,⟨hk.1.1.2.2.1,⟨hk.1.1.2.2.2.1,hk.1.1.2.2.2.2⟩⟩⟩⟩⟩)⟩,⟨by (with_reducible repeat (first|apply Kd.N_alloc|apply Kd.N_drewN|apply Kd.N_drew));exact Kd.N_mono (Kd.N_far (p:=⟨gb799,2,none⟩) (Kd.N_mono HO804.out (fun k_ hk => (⟨hk,hk.2.2.2.2.2⟩ : _∧k_≠gb799))) (fun _ hk => hk.2) (.slice Ao27 y802.length co27)) (fun _ hk => ⟨hk.1.1,⟨hk.1.2.1,⟨hk.1.2.2.1,⟨hk.1.2.2.2.1,⟨hk.1.2.2.2.2.1,hk.1.2.2.2.2.2⟩⟩⟩⟩⟩)⟩,⟨by (with_reducible repeat (first|refine blk_drewN ?_ _|refine blk_drew ?_|refine blk_alloc ?_ _));refine blk_far ?_ NB791_799.out _;(with_reducible repeat (first|refine blk_drewN ?_ _|refine blk_drew ?_|refine blk_alloc ?_ _));exact BK791.out⟩,⟨by (with_reducible repeat (first|refine blk_drewN ?_ _|refine blk_drew ?_|refine blk_alloc ?_ _));refine blk_far ?_ NB792_799.out _;(with_reducible repeat (first|refine blk_drewN ?_ _|refine blk_drew ?_|refine blk_alloc ?_ _));exact BK792.out⟩,⟨by (with_reducible repeat (first|refine blk_drewN ?_ _|refine blk_drew ?_|refine blk_alloc ?_ _));refine blk_far ?_ NB798_799.out _;(with_reducible repeat (first|refine blk_drewN ?_ _|refine blk_drew ?_|refine blk_alloc ?_ _));exact BK798.out⟩,⟨by (with_reducible repeat (first|refine blk_drewN ?_ _|refine blk_drew ?_|refine blk_alloc ?_ _));refine blk_put (cs:=#[.int .i64 a0_0,.int .i64 a0_1,u800002]) ?_ 2 _ rfl;(with_reducible repeat (first|refine blk_drewN ?_ _|refine blk_drew ?_|refine blk_alloc ?_ _));exact BK799.out⟩,⟨by repeat (first|(with_reducible first|exact HB.out|apply below_alloc|apply pw_below_drewN|apply below_drew1|refine below_set ?_ GE791.out|refine below_set ?_ GE792.out|refine below_set ?_ GE798.out|refine below_set ?_ GE799.out)|exact HB.out)⟩⟩
       ·rw [if_neg c24] at H
        exact absurd H (by simp)
      ·rw [if_neg c23] at H
       exact absurd H (by simp)
     ·rw [if_neg c22] at H
      exact absurd H (by simp)
    ·rw [if_neg c21] at H
     exact absurd H (by simp)
   ·rw [if_neg c20] at H
    have c20b0 : decide (x7_1 < (l1.length : Int))=false:=decide_eq_false c20
    clear c20
    simp only [Option.some.injEq,Prod.mk.injEq] at H
    obtain ⟨rfl,rfl,rfl⟩:=H
    have hnb29:=NB799_791.out
    have hnc29:=NB791_799.out
    have hnb30:=NB799_792.out
    have hnc30:=NB792_799.out
    have hnb31:=NB799_798.out
    have hnc31:=NB798_799.out
    have hcz32_0 : wr.cell? ⟨gb799,0,none⟩=some (.int .i64 a0_0):=(blk_cell BK799.out 0).trans rfl
    have hcz32_1 : wr.cell? ⟨gb799,1,none⟩=some (.int .i64 a0_1):=(blk_cell BK799.out 1).trans rfl
    have hcz32_2 : wr.cell? ⟨gb799,2,none⟩=some (u800002):=(blk_cell BK799.out 2).trans rfl
    have hfz32_0:=blk_frozen BK799.out 0
    have hfz32_1:=blk_frozen BK799.out 1
    have hfz32_2:=blk_frozen BK799.out 2
    have hnb33:=NB792_791.out
    have hnc33:=NB791_792.out
    have hnb34:=NB792_798.out
    have hnc34:=NB798_792.out
    have hcz35_0 : wr.cell? ⟨gb792,0,none⟩=some (.int .i64 0):=(blk_cell BK792.out 0).trans rfl
    have hcz35_1 : wr.cell? ⟨gb792,1,none⟩=some (.int .i64 0):=(blk_cell BK792.out 1).trans rfl
    have hcz35_2 : wr.cell? ⟨gb792,2,none⟩=some (.slice none 0 0):=(blk_cell BK792.out 2).trans rfl
    have hfz35_0:=blk_frozen BK792.out 0
    have hfz35_1:=blk_frozen BK792.out 1
    have hfz35_2:=blk_frozen BK792.out 2
    obtain ⟨Ao36,co36,eo36⟩:=Kd.N_slice HO_800002.out
    subst eo36
    go_wp2
    refine bodyPost_ret (results_cell_row rfl _ _ gb792 24 #[.int .i64 a0_0,.int .i64 a0_1,.slice Ao36 x800002_1.length co36] (0,0) _ rfl (by (with_reducible repeat (first|refine blk_drewN ?_ _|refine blk_drew ?_|refine blk_alloc ?_ _));refine blk_put (cs:=#[.int .i64 a0_0,.int .i64 a0_1,.slice none 0 0]) ?_ 2 _ rfl;(with_reducible repeat (first|refine blk_drewN ?_ _|refine blk_drew ?_|refine blk_alloc ?_ _));refine blk_put (cs:=#[.int .i64 a0_0,.int .i64 0,.slice none 0 0]) ?_ 1 _ rfl;(with_reducible repeat (first|refine blk_drewN ?_ _|refine blk_drew ?_|refine blk_alloc ?_ _));refine blk_put (cs:=#[.int .i64 0,.int .i64 0,.slice none 0 0]) ?_ 0 _ rfl;(with_reducible repeat (first|refine blk_drewN ?_ _|refine blk_drew ?_|refine blk_alloc ?_ _));exact BK792.out) Try.underlying24 rfl (by kernel_rfl)) rfl ?_
    exact ⟨_,by first|rfl|(simp [errW_none,errW_some] <;> rfl)|(simp [*,errW_none,errW_some] <;> rfl),by (with_reducible repeat (first|apply Kd.N_alloc|apply Kd.N_drewN|apply Kd.N_drew));exact Kd.N_mono (Kd.N_far (p:=⟨gb792,2,none⟩) (Kd.N_far (p:=⟨gb792,1,none⟩) (Kd.N_far (p:=⟨gb792,0,none⟩) (Kd.N_mono HO_800002.out (fun k_ hk => (⟨hk,hk.2.2.2.1⟩ : _∧k_≠gb792))) (fun _ hk => hk.2) (.int .i64 a0_0)) (fun _ hk => hk.2) (.int .i64 a0_1)) (fun _ hk => hk.2) (.slice Ao36 x800002_1.length co36)) (fun _ hk => hk.1.1),by repeat (first|(with_reducible first|exact HB.out|apply below_alloc|apply pw_below_drewN|apply below_drew1|refine below_set ?_ GE791.out|refine below_set ?_ GE792.out|refine below_set ?_ GE798.out|refine below_set ?_ GE799.out)|exact HB.out)⟩
end Go.Proofs.Ytbelnopbggkdfaa.Q
end

section
namespace Go.Proofs.Ytbelnopbggkdfaa.Q
open Go.RowKit Go.Proofs.YtbelnopbggkdfaaW.PrintWords Go.Proofs.YtbelnopbggkdfaaW.PrintLast Go.Proofs.YtbelnopbggkdfaaW.PrintMore
attribute [local go_sem] max2_int min2_int max_two min_two max_three min_three max_four min_four   -- for this text's walks alone
set_option linter.unusedVariables false
set_option linter.unusedSimpArgs false
mutual
def phasorref19_Sorted.l0 : Nat→List Int→Int→List Int→Int→Int→Int→List (S46)→Option (Int × Int × (List (S46)) × Int)
 | 0,_,_,_,_,_,_,_ => none
 | k + 1,x4,x6,x8,x9,x806000,x806001,x806002 => if x9≤x6 then (phasorref19_Sorted.l1 k x4 x6 x8 x9 0 x806000 x806001 x806002) else ((phasorref19_only.f k x806000 x806001 x806002 x8).bind fun bt813 => (some (bt813.1,bt813.2.1,bt813.2.2,0)))
def phasorref19_Sorted.l1 : Nat→List Int→Int→List Int→Int→Int→Int→Int→List (S46)→Option (Int × Int × (List (S46)) × Int)
 | 0,_,_,_,_,_,_,_,_ => none
 | k + 1,x4,x6,x8,x9,x10,x806000,x806001,x806002 => if x10 < 2 then (phasorref19_Sorted.l2 k x4 x6 x8 x9 x10 0 x806000 x806001 x806002) else (phasorref19_Sorted.l0 k x4 x6 x8 (wrap64 (x9 + 1)) x806000 x806001 x806002)
def phasorref19_Sorted.l2 : Nat→List Int→Int→List Int→Int→Int→Int→Int→Int→List (S46)→Option (Int × Int × (List (S46)) × Int)
 | 0,_,_,_,_,_,_,_,_,_ => none
 | k + 1,x4,x6,x8,x9,x10,x11,x806000,x806001,x806002 => if x11 < (x4.length : Int) then (if 0≤x11 then (if (rd x4 x11)=x9 then ((phasorref19_bar.f x806000 x806001 x806002 x11).bind fun t819 => (if (t819 == (x10 == 1))=true then (if x8.length < 17592186044416 then (phasorref19_Sorted.l2 k x4 x6 (x8 ++ [x11]) x9 x10 (wrap64 (x11 + 1)) x806000 x806001 x806002) else (none)) else (phasorref19_Sorted.l2 k x4 x6 x8 x9 x10 (wrap64 (x11 + 1)) x806000 x806001 x806002))) else (phasorref19_Sorted.l2 k x4 x6 x8 x9 x10 (wrap64 (x11 + 1)) x806000 x806001 x806002)) else (none)) else (phasorref19_Sorted.l1 k x4 x6 x8 x9 (wrap64 (x10 + 1)) x806000 x806001 x806002)
end
def phasorref19_Sorted.f (k : Nat) (a0_0 : Int) (a0_1 : Int) (l0_2 : List (S46)) : Option (Int × Int × (List (S46)) × Int):=(phasorref19_Early.f k a0_0 a0_1 l0_2).bind fun bt807 => ((phasorref19_Depth.f k a0_0 a0_1 l0_2).bind fun bt811 => (if bt807.2=0 then (phasorref19_Sorted.l0 k bt807.1 bt811.1 ([] : List Int) 0 a0_0 a0_1 l0_2) else (some (0,0,([] : List (S46)),bt807.2))))
set_option maxHeartbeats 8000000 in
set_option maxRecDepth 100000 in
theorem phasorref19_Sorted.calls (k : Nat) (a0_0 : Int) (a0_1 : Int) (A0_2 : Option Addr) (c0_2 : Nat) (l0_2 : List (S46)) (r1 : Int) (r2 : Int) (r3 : List (S46)) (r4 : Int) (w : World) (hr0_2 : Kd.C k46 w A0_2 l0_2.length l0_2) (hc0_2 : l0_2.length≤c0_2) (h : phasorref19_Sorted.f k a0_0 a0_1 l0_2=some (r1,r2,r3,r4)) :
  Calls Try.prog 39 #[.agg #[.int .i64 a0_0,.int .i64 a0_1,.slice A0_2 l0_2.length c0_2]] w fun e w' => ∃ v2_ : Value,e=.returned (.tuple #[.agg #[.int .i64 r1,.int .i64 r2,v2_],.int .i64 r4])∧Kd.N k46 46 w' w.heap.size (fun k_ => (w.heap.size≤k_)) v2_ r3∧Below w.heap.size w w':=by
 have hu24:=Try.underlying24
 have HR0_2:=Aside0.mk hr0_2
 have HC0_2:=Aside0.mk hc0_2
 clear hr0_2 hc0_2
 have HB:=Aside0.mk (Below.refl w.heap.size w)
 have H : ((phasorref19_Early.f k a0_0 a0_1 l0_2).bind fun bt807 => ((phasorref19_Depth.f k a0_0 a0_1 l0_2).bind fun bt811 => (if bt807.2=0 then (phasorref19_Sorted.l0 k bt807.1 bt811.1 ([] : List Int) 0 a0_0 a0_1 l0_2) else (some (0,0,([] : List (S46)),bt807.2)))))=some (r1,r2,r3,r4):=h
 clear h
 replace H:=Option.bind_eq_some_iff.mp H
 obtain ⟨⟨t807,t810⟩,A20,H⟩:=H
 replace H : ((phasorref19_Depth.f k a0_0 a0_1 l0_2).bind fun bt811 => (if t810=0 then (phasorref19_Sorted.l0 k t807 bt811.1 ([] : List Int) 0 a0_0 a0_1 l0_2) else (some (0,0,([] : List (S46)),t810))))=some (r1,r2,r3,r4):=H
 have A2:=Aside0.mk A20
 clear A20
 replace H:=Option.bind_eq_some_iff.mp H
 obtain ⟨⟨t811,t812⟩,A30,H⟩:=H
 replace H : (if t810=0 then (phasorref19_Sorted.l0 k t807 t811 ([] : List Int) 0 a0_0 a0_1 l0_2) else (some (0,0,([] : List (S46)),t810)))=some (r1,r2,r3,r4):=H
 have A3:=Aside0.mk A30
 clear A30
 by_cases c4 : t810=0
 ·rw [if_pos c4] at H
  have c4b0 : (t810 == 0)=true:=beq_iff_eq.mpr c4
  have c4b1 : (t810 != 0)=false:=bne_eq_false_iff_eq.mpr c4
  clear c4
  have H':=Aside0.mk H
  clear H
  go_enter Try.func39,Try.ntmps39
  go_wp2_with (first|((with_reducible refine gate_dst (N:=1) rfl ?_);refine box_event ?hg (N:=1) ?hd (cs:=#[.int .i64 a0_0,.int .i64 a0_1,.slice A0_2 l0_2.length c0_2]) (t:=24) ?hr ?_;(case hd => rfl);(case hg => rfl);(case hr => first|(go_simp;done)|(go_simp;rfl));intro gb805 hg w5 hbox hb;have n0_:=Aside0.mk (below_step (by repeat (first|(with_reducible first|exact HB.out|apply below_alloc|apply pw_below_drewN|apply below_drew1)|exact HB.out)) hb);have n1_:=Aside0.mk (hbox);have n2_:=Aside0.mk ((by rw [hg];exact (below_size (by repeat (first|(with_reducible first|exact HB.out|apply below_alloc|apply pw_below_drewN|apply below_drew1)|exact HB.out))) : w.heap.size≤gb805));have n3_:=Aside0.mk ((by rw [hg];exact (below_size (by repeat (first|(with_reducible first|exact HB.out|apply below_alloc|apply pw_below_drewN|apply below_drew1)|exact HB.out))) : w.heap.size≤gb805));clear HB;have HB:=n0_;have BK805:=n1_;have GW805:=n2_;have GE805:=n3_;clear n0_ n1_ n2_ n3_;clear hb hbox hg)|((with_reducible refine gate_dst (N:=2) rfl ?_);refine box_event ?hg (N:=2) ?hd (cs:=#[.int .i64 0,.int .i64 0,.slice none 0 0]) (t:=24) ?hr ?_;(case hd => rfl);(case hg => rfl);(case hr => first|(go_simp;done)|(go_simp;rfl));intro gb806 hg w6 hbox hb;have n0_:=Aside0.mk (blk_below (g:=gb805) (o:=.cells #[.int .i64 a0_0,.int .i64 a0_1,.slice A0_2 l0_2.length c0_2] 24 (0,0)) (by (with_reducible repeat (first|refine blk_drewN ?_ _|refine blk_drew ?_|refine blk_alloc ?_ _));exact BK805.out) hb);have n1_:=Aside0.mk (below_step (by repeat (first|(with_reducible first|exact HB.out|apply below_alloc|apply pw_below_drewN|apply below_drew1|refine below_set ?_ GE805.out)|exact HB.out)) hb);have n2_:=Aside0.mk (hbox);have n3_:=Aside0.mk ((by rw [hg];exact (below_size (by repeat (first|(with_reducible first|exact HB.out|apply below_alloc|apply pw_below_drewN|apply below_drew1|refine below_set ?_ GE805.out)|exact HB.out))) : w.heap.size≤gb806));have n4_:=Aside0.mk ((by rw [hg];exact (below_size (by repeat (first|(with_reducible first|exact HB.out|apply below_alloc|apply pw_below_drewN|apply below_drew1|refine below_set ?_ GE805.out)|exact HB.out))) : w.heap.size≤gb806));have n5_:=Aside0.mk ((by rw [hg];exact Nat.ne_of_lt (blk_lt (g:=gb805) (o:=.cells #[.int .i64 a0_0,.int .i64 a0_1,.slice A0_2 l0_2.length c0_2] 24 (0,0)) (by (with_reducible repeat (first|refine blk_drewN ?_ _|refine blk_drew ?_|refine blk_alloc ?_ _));exact BK805.out)) : gb805≠gb806));have n6_:=Aside0.mk ((by rw [hg];exact Nat.ne_of_gt (blk_lt (g:=gb805) (o:=.cells #[.int .i64 a0_0,.int .i64 a0_1,.slice A0_2 l0_2.length c0_2] 24 (0,0)) (by (with_reducible repeat (first|refine blk_drewN ?_ _|refine blk_drew ?_|refine blk_alloc ?_ _));exact BK805.out)) : gb806≠gb805));clear BK805;clear HB;have BK805:=n0_;have HB:=n1_;have BK806:=n2_;have GW806:=n3_;have GE806:=n4_;have NB805_806:=n5_;have NB806_805:=n6_;clear n0_ n1_ n2_ n3_ n4_ n5_ n6_;clear hb hbox hg;have hnb7:=NB805_806.out;have hnc7:=NB806_805.out;have hcz8_0 : w6.cell? ⟨gb805,0,none⟩=some (.int .i64 a0_0):=(blk_cell BK805.out 0).trans rfl;have hcz8_1 : w6.cell? ⟨gb805,1,none⟩=some (.int .i64 a0_1):=(blk_cell BK805.out 1).trans rfl;have hcz8_2 : w6.cell? ⟨gb805,2,none⟩=some (.slice A0_2 l0_2.length c0_2):=(blk_cell BK805.out 2).trans rfl;have hfz8_0:=blk_frozen BK805.out 0;have hfz8_1:=blk_frozen BK805.out 1;have hfz8_2:=blk_frozen BK805.out 2)|((with_reducible refine gate_callee (f:=28) rfl ?_);refine goesL_ (some 14) rfl rfl Try.func28 (by kernel_rfl) rfl #[.agg #[.int .i64 a0_0,.int .i64 a0_1,.slice A0_2 l0_2.length c0_2]] rfl (by (try simp only [List.map_toArray,List.map_cons,List.map_nil]);first|done|rfl|(simp only [List.length_drop,List.length_take];rfl)) ?_;(with_reducible refine (phasorref19_Early.calls k a0_0 a0_1 _ _ l0_2 t807 t810 _ ?side1 ?side2 A2.out).mono ?_);(case side1 => repeat (first|exact (Kd.C_below HR0_2.out HB.out)|(with_reducible refine Kd.C_alloc ?_ _)|(with_reducible refine Kd.C_drewN ?_ _)|(with_reducible refine Kd.C_drew ?_)));(case side2 => exact HC0_2.out);rintro e w9 ⟨v808,rfl,ho0,hb⟩;refine ⟨_,rfl,?_⟩;have n0_:=Aside0.mk (Kd.R_lower (Kd.R_newM (M:=fun k_ => (w.heap.size≤k_)) ho0 (below_size (by repeat (first|(with_reducible first|exact HB.out|apply below_alloc|apply pw_below_drewN|apply below_drew1|refine below_set ?_ GE805.out|refine below_set ?_ GE806.out)|exact HB.out))) (fun k_ h_ => h_)) (below_size (by repeat (first|(with_reducible first|exact HB.out|apply below_alloc|apply pw_below_drewN|apply below_drew1|refine below_set ?_ GE805.out|refine below_set ?_ GE806.out)|exact HB.out))));have n1_:=Aside0.mk (blk_below (g:=gb805) (o:=.cells #[.int .i64 a0_0,.int .i64 a0_1,.slice A0_2 l0_2.length c0_2] 24 (0,0)) (by (with_reducible repeat (first|refine blk_drewN ?_ _|refine blk_drew ?_|refine blk_alloc ?_ _));exact BK805.out) hb);have n2_:=Aside0.mk (blk_below (g:=gb806) (o:=.cells #[.int .i64 0,.int .i64 0,.slice none 0 0] 24 (0,0)) (by (with_reducible repeat (first|refine blk_drewN ?_ _|refine blk_drew ?_|refine blk_alloc ?_ _));exact BK806.out) hb);have n3_:=Aside0.mk (below_step (by repeat (first|(with_reducible first|exact HB.out|apply below_alloc|apply pw_below_drewN|apply below_drew1|refine below_set ?_ GE805.out|refine below_set ?_ GE806.out)|exact HB.out)) hb);clear BK805;clear BK806;clear HB;have HO809:=n0_;have BK805:=n1_;have BK806:=n2_;have HB:=n3_;clear n0_ n1_ n2_ n3_;(try clear hb);(try clear hb2);(try clear hk);(try clear hi);(try clear ho0);have hcz10_0 : w9.cell? ⟨gb805,0,none⟩=some (.int .i64 a0_0):=(blk_cell BK805.out 0).trans rfl;have hcz10_1 : w9.cell? ⟨gb805,1,none⟩=some (.int .i64 a0_1):=(blk_cell BK805.out 1).trans rfl;have hcz10_2 : w9.cell? ⟨gb805,2,none⟩=some (.slice A0_2 l0_2.length c0_2):=(blk_cell BK805.out 2).trans rfl;have hfz10_0:=blk_frozen BK805.out 0;have hfz10_1:=blk_frozen BK805.out 1;have hfz10_2:=blk_frozen BK805.out 2)|((with_reducible refine gate_callee (f:=35) rfl ?_);refine goesL_ (some 19) rfl rfl Try.func35 (by kernel_rfl) rfl #[.agg #[.int .i64 a0_0,.int .i64 a0_1,.slice A0_2 l0_2.length c0_2]] rfl (by (try simp only [List.map_toArray,List.map_cons,List.map_nil]);first|done|rfl|(simp only [List.length_drop,List.length_take];rfl)) ?_;(with_reducible refine (phasorref19_Depth.calls k a0_0 a0_1 _ _ l0_2 t811 t812 _ ?side1 ?side2 A3.out).mono ?_);(case side1 => repeat (first|exact (Kd.C_below HR0_2.out HB.out)|(with_reducible refine Kd.C_alloc ?_ _)|(with_reducible refine Kd.C_drewN ?_ _)|(with_reducible refine Kd.C_drew ?_)));(case side2 => exact HC0_2.out);rintro e w11 ⟨rfl,hb⟩;refine ⟨_,rfl,?_⟩;have n0_:=Aside0.mk (Kd.R_below (by (with_reducible repeat (first|apply Kd.R_alloc|apply Kd.R_drewN|apply Kd.R_drew));exact HO809.out) hb);have n1_:=Aside0.mk (blk_below (g:=gb805) (o:=.cells #[.int .i64 a0_0,.int .i64 a0_1,.slice A0_2 l0_2.length c0_2] 24 (0,0)) (by (with_reducible repeat (first|refine blk_drewN ?_ _|refine blk_drew ?_|refine blk_alloc ?_ _));exact BK805.out) hb);have n2_:=Aside0.mk (blk_below (g:=gb806) (o:=.cells #[.int .i64 0,.int .i64 0,.slice none 0 0] 24 (0,0)) (by (with_reducible repeat (first|refine blk_drewN ?_ _|refine blk_drew ?_|refine blk_alloc ?_ _));exact BK806.out) hb);have n3_:=Aside0.mk (below_step (by repeat (first|(with_reducible first|exact HB.out|apply below_alloc|apply pw_below_drewN|apply below_drew1|refine below_set ?_ GE805.out|refine below_set ?_ GE806.out)|exact HB.out)) hb);clear HO809;clear BK805;clear BK806;clear HB;have HO809:=n0_;have BK805:=n1_;have BK806:=n2_;have HB:=n3_;clear n0_ n1_ n2_ n3_;(try clear hb);(try clear hb2);(try clear hk);(try clear hi)))
  go_loopg [8,9] k (fun kq v8 v9 w' => ∃ (x8_1 : List Int) (x9_1 : Int),v9=.int .i64 x9_1∧Aside0 (phasorref19_Sorted.l0 kq t807 t811 x8_1 x9_1 a0_0 a0_1 l0_2=some (r1,r2,r3,r4))∧Aside0 (kq≤k)∧Aside0 (Kd.R (Kd.int .i64) 3 w' w.heap.size (fun k_ => (w.heap.size≤k_)∧some k_≠(v8 : Value).ownBlock) v808 t807)∧Aside0 (Kd.R (Kd.int .i64) 3 w' w.heap.size (fun k_ => (w.heap.size≤k_)∧some k_≠(v808 : Value).ownBlock) v8 x8_1)∧Aside0 (w'.heap[gb805]?=some (.cells #[.int .i64 a0_0,.int .i64 a0_1,(.slice A0_2 l0_2.length c0_2)] 24 (0,0)))∧Aside0 (w'.heap[gb806]?=some (.cells #[.int .i64 0,.int .i64 0,(.slice none 0 0)] 24 (0,0)))∧Aside0 (Below w.heap.size w w'))
  case atStart => exact ⟨(([] : List Int)),(0),(by first|rfl|(simp;done)|(simp [*];done)),H',⟨Nat.le_refl _⟩,⟨by (with_reducible repeat (first|apply Kd.R_alloc|apply Kd.R_drewN|apply Kd.R_drew));exact Kd.R_mono HO809.out (fun _ hk => ⟨hk.1,(by simp [Value.ownBlock])⟩)⟩,⟨by first|exact Kd.R_nil _ _ _ _ _|exact Kd.N_nil _ _ _ _ _|exact Kd.V_nil _ _ _ _ _|exact Kd.Q_nil _ _ _ _ _|exact Kd.S_nil _ _ _ _ _⟩,⟨by (with_reducible repeat (first|refine blk_drewN ?_ _|refine blk_drew ?_|refine blk_alloc ?_ _));exact BK805.out⟩,⟨by (with_reducible repeat (first|refine blk_drewN ?_ _|refine blk_drew ?_|refine blk_alloc ?_ _));exact BK806.out⟩,⟨by repeat (first|(with_reducible first|exact HB.out|apply below_alloc|apply pw_below_drewN|apply below_drew1|refine below_set ?_ GE805.out|refine below_set ?_ GE806.out)|exact HB.out)⟩⟩
  case round =>
   clear H'
   try clear c2
   try clear p2
   try clear c3
   try clear c4
   try clear c4b0
   try clear c4b1
   try clear c7
   try clear hcz10_0
   try clear hcz10_1
   try clear hcz10_2
   try clear hcz8_0
   try clear hcz8_1
   try clear hcz8_2
   try clear hfz10_0
   try clear hfz10_1
   try clear hfz10_2
   try clear hfz8_0
   try clear hfz8_1
   try clear hfz8_2
   obtain ⟨x8_1,x9_1,rfl,HA,HK1,HO_4,HO_8,BK805,BK806,HB⟩:=hrel
   cases gk with
   | zero => exact absurd HA.out (by simp [phasorref19_Sorted.l0])
   | succ k1 =>
    have H:=HA.out
    clear HA
    simp only [phasorref19_Sorted.l0] at H
    by_cases c12 : x9_1≤t811
    ·rw [if_pos c12] at H
     have c12b0 : decide (x9_1≤t811)=true:=decide_eq_true c12
     clear c12
     have H':=Aside0.mk H
     clear H
     go_wp2
     go_loopg [8,10] k1 (fun kq v8 v10 w' => ∃ (x8_2 : List Int) (x10_2 : Int),v10=.int .i64 x10_2∧Aside0 (phasorref19_Sorted.l1 kq t807 t811 x8_2 x9_1 x10_2 a0_0 a0_1 l0_2=some (r1,r2,r3,r4))∧Aside0 (kq≤k1)∧Aside0 (Kd.R (Kd.int .i64) 3 w' w.heap.size (fun k_ => (w.heap.size≤k_)∧some k_≠(v8 : Value).ownBlock) v808 t807)∧Aside0 (Kd.R (Kd.int .i64) 3 w' w.heap.size (fun k_ => (w.heap.size≤k_)∧some k_≠(v808 : Value).ownBlock) v8 x8_2)∧Aside0 (w'.heap[gb805]?=some (.cells #[.int .i64 a0_0,.int .i64 a0_1,(.slice A0_2 l0_2.length c0_2)] 24 (0,0)))∧Aside0 (w'.heap[gb806]?=some (.cells #[.int .i64 0,.int .i64 0,(.slice none 0 0)] 24 (0,0)))∧Aside0 (Below w.heap.size w w'))
     case atStart => exact ⟨(x8_1),(0),(by first|rfl|(simp;done)|(simp [*];done)),H',⟨Nat.le_refl _⟩,⟨by (with_reducible repeat (first|apply Kd.R_alloc|apply Kd.R_drewN|apply Kd.R_drew));exact HO_4.out⟩,⟨by (with_reducible repeat (first|apply Kd.R_alloc|apply Kd.R_drewN|apply Kd.R_drew));exact HO_8.out⟩,⟨by (with_reducible repeat (first|refine blk_drewN ?_ _|refine blk_drew ?_|refine blk_alloc ?_ _));exact BK805.out⟩,⟨by (with_reducible repeat (first|refine blk_drewN ?_ _|refine blk_drew ?_|refine blk_alloc ?_ _));exact BK806.out⟩,⟨by repeat (first|(with_reducible first|exact HB.out|apply below_alloc|apply pw_below_drewN|apply below_drew1|refine below_set ?_ GE805.out|refine below_set ?_ GE806.out)|exact HB.out)⟩⟩
     case round =>
      clear H'
      try clear c1
      try clear c2
      try clear p2
      try clear c3
      try clear c4
      try clear c4b0
      try clear c4b1
      try clear c7
      try clear c12
      try clear c12b0
      try clear hcz10_0
      try clear hcz10_1
      try clear hcz10_2
      try clear hcz8_0
      try clear hcz8_1
      try clear hcz8_2
      try clear hfz10_0
      try clear hfz10_1
      try clear hfz10_2
      try clear hfz8_0
      try clear hfz8_1
      try clear hfz8_2
      try clear p2
      obtain ⟨x8_2,x10_2,rfl,HA,HK2,HO_4,HO_8,BK805,BK806,HB⟩:=hrel
      cases gk with
      | zero => exact absurd HA.out (by simp [phasorref19_Sorted.l1])
      | succ k2 =>
       have H:=HA.out
       clear HA
       simp only [phasorref19_Sorted.l1] at H
       by_cases c13 : x10_2 < 2
       ·rw [if_pos c13] at H
        have c13b0 : decide (x10_2 < 2)=true:=decide_eq_true c13
        clear c13
        have H':=Aside0.mk H
        clear H
        go_wp2
        go_loopg [8,11] k2 (fun kq v8 v11 w' => ∃ (x8_3 : List Int) (x11_3 : Int),v11=.int .i64 x11_3∧Aside0 (phasorref19_Sorted.l2 kq t807 t811 x8_3 x9_1 x10_2 x11_3 a0_0 a0_1 l0_2=some (r1,r2,r3,r4))∧Aside0 (kq≤k2)∧Aside0 (Kd.R (Kd.int .i64) 3 w' w.heap.size (fun k_ => (w.heap.size≤k_)∧some k_≠(v8 : Value).ownBlock) v808 t807)∧Aside0 (Kd.R (Kd.int .i64) 3 w' w.heap.size (fun k_ => (w.heap.size≤k_)∧some k_≠(v808 : Value).ownBlock) v8 x8_3)∧Aside0 (w'.heap[gb805]?=some (.cells #[.int .i64 a0_0,.int .i64 a0_1,(.slice A0_2 l0_2.length c0_2)] 24 (0,0)))∧Aside0 (w'.heap[gb806]?=some (.cells #[.int .i64 0,.int .i64 0,(.slice none 0 0)] 24 (0,0)))∧Aside0 (Below w.heap.size w w'))
        case atStart => exact ⟨(x8_2),(0),(by first|rfl|(simp;done)|(simp [*];done)),H',⟨Nat.le_refl _⟩,⟨by (with_reducible repeat (first|apply Kd.R_alloc|apply Kd.R_drewN|apply Kd.R_drew));exact HO_4.out⟩,⟨by (with_reducible repeat (first|apply Kd.R_alloc|apply Kd.R_drewN|apply Kd.R_drew));exact HO_8.out⟩,⟨by (with_reducible repeat (first|refine blk_drewN ?_ _|refine blk_drew ?_|refine blk_alloc ?_ _));exact BK805.out⟩,⟨by (with_reducible repeat (first|refine blk_drewN ?_ _|refine blk_drew ?_|refine blk_alloc ?_ _));exact BK806.out⟩,⟨by repeat (first|(with_reducible first|exact HB.out|apply below_alloc|apply pw_below_drewN|apply below_drew1|refine below_set ?_ GE805.out|refine below_set ?_ GE806.out)|exact HB.out)⟩⟩
        case round =>
         clear H'
         try clear c1
         try clear c2
         try clear p2
         try clear c3
         try clear c4
         try clear c4b0
         try clear c4b1
         try clear c7
         try clear c12
         try clear c12b0
         try clear c13
         try clear c13b0
         try clear hcz10_0
         try clear hcz10_1
         try clear hcz10_2
         try clear hcz8_0
         try clear hcz8_1
         try clear hcz8_2
         try clear hfz10_0
         try clear hfz10_1
         try clear hfz10_2
         try clear hfz8_0
         try clear hfz8_1
         try clear hfz8_2
         try clear p2
         obtain ⟨x8_3,x11_3,rfl,HA,HK3,HO_4,HO_8,BK805,BK806,HB⟩:=hrel
         cases gk with
         | zero => exact absurd HA.out (by simp [phasorref19_Sorted.l2])
         | succ k3 =>
          have H:=HA.out
          clear HA
          simp only [phasorref19_Sorted.l2] at H
          by_cases c14 : x11_3 < (t807.length : Int)
          ·rw [if_pos c14] at H
           have c14b0 : decide (x11_3 < (t807.length : Int))=true:=decide_eq_true c14
           clear c14
           by_cases c15 : 0≤x11_3
           ·rw [if_pos c15] at H
            have c15b0 : decide (0≤x11_3)=true:=decide_eq_true c15
            clear c15
            by_cases c16 : (rd t807 x11_3)=x9_1
            ·rw [if_pos c16] at H
             have c16b0 : ((rd t807 x11_3) == x9_1)=true:=beq_iff_eq.mpr c16
             have c16b1 : ((rd t807 x11_3) != x9_1)=false:=bne_eq_false_iff_eq.mpr c16
             clear c16
             replace H:=Option.bind_eq_some_iff.mp H
             obtain ⟨t819,A170,H⟩:=H
             replace H : (if (t819 == (x10_2 == 1))=true then (if x8_3.length < 17592186044416 then (phasorref19_Sorted.l2 k3 t807 t811 (x8_3 ++ [x11_3]) x9_1 x10_2 (wrap64 (x11_3 + 1)) a0_0 a0_1 l0_2) else (none)) else (phasorref19_Sorted.l2 k3 t807 t811 x8_3 x9_1 x10_2 (wrap64 (x11_3 + 1)) a0_0 a0_1 l0_2))=some (r1,r2,r3,r4):=H
             have A17:=Aside0.mk A170
             clear A170
             by_cases c18 : (t819 == (x10_2 == 1))=true
             ·rw [if_pos c18] at H
              have c18b0 : (t819 == (x10_2 == 1))=true:=c18
              (try (have c18b1 : decide (t819=(x10_2 == 1))=true:=by simpa using c18))
              (try (have c18b2 : (t819 == (x10_2 == 1))=true:=by simpa using c18))
              clear c18
              by_cases c19 : x8_3.length < 17592186044416
              ·rw [if_pos c19] at H
               have LMc19:=Aside0.mk c19
               clear c19
               obtain ⟨y820,hy820⟩ : ∃ y_ : List Int,y_=(x8_3 ++ [x11_3]):=⟨_,rfl⟩
               replace H : (phasorref19_Sorted.l2 k3 t807 t811 y820 x9_1 x10_2 (wrap64 (x11_3 + 1)) a0_0 a0_1 l0_2)=some (r1,r2,r3,r4):=by first|(rw [hy820];with_reducible exact H)|(have H2_:=(Option.bind_some _ _).symm.trans H;rw [hy820];with_reducible exact H2_)|(have H2_:=(Option.bind_some _ _).symm.trans H;with_reducible exact H2_)|with_reducible exact H|(rw [hy820];exact H)|exact H
               have Ny820:=Aside0.mk hy820
               clear hy820
               have H':=Aside0.mk H
               clear H
               obtain ⟨Ao20,co20,eo20⟩:=Kd.R_slice HO_4.out
               subst eo20
               have p818 : 0≤(x11_3 : Int):=of_decide_eq_true (by first|(with_reducible assumption)|assumption)
               have q818 : x11_3 < (t807.length : Int):=of_decide_eq_true (by first|(with_reducible assumption)|assumption)
               obtain ⟨ad818,e818,hx818_0⟩:=Kd.at_int (Kd.R_reads' HO_4.out).2.2 x11_3 p818 q818
               cases e818
               replace p818:=eq_true p818
               replace q818:=eq_true q818
               have hnb21:=NB805_806.out
               have hnc21:=NB806_805.out
               have hcz22_0 : wr.cell? ⟨gb805,0,none⟩=some (.int .i64 a0_0):=(blk_cell BK805.out 0).trans rfl
               have hcz22_1 : wr.cell? ⟨gb805,1,none⟩=some (.int .i64 a0_1):=(blk_cell BK805.out 1).trans rfl
               have hcz22_2 : wr.cell? ⟨gb805,2,none⟩=some (.slice A0_2 l0_2.length c0_2):=(blk_cell BK805.out 2).trans rfl
               have hfz22_0:=blk_frozen BK805.out 0
               have hfz22_1:=blk_frozen BK805.out 1
               have hfz22_2:=blk_frozen BK805.out 2
               go_wp2_with (first|(go_at_call 71;(with_reducible refine (phasorref19_bar.calls a0_0 a0_1 _ _ l0_2 x11_3 t819 _ ?side1 ?side2 A17.out).mono ?_);(case side1 => repeat (first|exact (Kd.C_below HR0_2.out HB.out)|(with_reducible refine Kd.C_alloc ?_ _)|(with_reducible refine Kd.C_drewN ?_ _)|(with_reducible refine Kd.C_drew ?_)));(case side2 => exact HC0_2.out);rintro e w23 ⟨rfl,hb⟩;have n0_:=Aside0.mk (Kd.R_below (by (with_reducible repeat (first|apply Kd.R_alloc|apply Kd.R_drewN|apply Kd.R_drew));exact HO_4.out) hb);have n1_:=Aside0.mk (Kd.R_below (by (with_reducible repeat (first|apply Kd.R_alloc|apply Kd.R_drewN|apply Kd.R_drew));exact HO_8.out) hb);have n2_:=Aside0.mk (blk_below (g:=gb805) (o:=.cells #[.int .i64 a0_0,.int .i64 a0_1,.slice A0_2 l0_2.length c0_2] 24 (0,0)) (by (with_reducible repeat (first|refine blk_drewN ?_ _|refine blk_drew ?_|refine blk_alloc ?_ _));exact BK805.out) hb);have n3_:=Aside0.mk (blk_below (g:=gb806) (o:=.cells #[.int .i64 0,.int .i64 0,.slice none 0 0] 24 (0,0)) (by (with_reducible repeat (first|refine blk_drewN ?_ _|refine blk_drew ?_|refine blk_alloc ?_ _));exact BK806.out) hb);have n4_:=Aside0.mk (below_step (by repeat (first|(with_reducible first|exact HB.out|apply below_alloc|apply pw_below_drewN|apply below_drew1|refine below_set ?_ GE805.out|refine below_set ?_ GE806.out)|exact HB.out)) hb);clear HO_4;clear HO_8;clear BK805;clear BK806;clear HB;have HO_4:=n0_;have HO_8:=n1_;have BK805:=n2_;have BK806:=n3_;have HB:=n4_;clear n0_ n1_ n2_ n3_ n4_;(try clear hb);(try clear hb2);(try clear hk);(try clear hi))|((with_reducible refine gate_builtin (b:=.append) (xs:=#[.tmp 55,.tmp 57]) rfl ?_);at_builtin;refine Kd.R_append (Kd.int .i64) (w0:=w) w.heap.size rfl (.tmp 55) (.tmp 57) 37 3 (.int .i64 0) 8 rfl Try.underlying37 info3 rfl (by decide) (by omega) u8 x8_3 x11_3 [.int .i64 x11_3] (fun k_ => (w.heap.size≤k_)∧some k_≠(.slice (some ad818) t807.length co20 : Value).ownBlock) (fun _ => False) rfl rfl ?aP (fun _ hk => hk.elim) ?aF ?aO ?aB ?aS ?aL ?_;(case aP => exact rfl);(case aB => exact (by repeat (first|(with_reducible first|exact HB.out|apply below_alloc|apply pw_below_drewN|apply below_drew1|refine below_set ?_ GE805.out|refine below_set ?_ GE806.out)|exact HB.out)));(case aF => exact (fun k_ hk => ⟨(Nat.le_trans (below_size (by repeat (first|(with_reducible first|exact HB.out|apply below_alloc|apply pw_below_drewN|apply below_drew1|refine below_set ?_ GE805.out|refine below_set ?_ GE806.out)|exact HB.out))) hk),Kd.fresh' (Kd.R_lt (by (with_reducible repeat (first|apply Kd.R_alloc|apply Kd.R_drewN|apply Kd.R_drew));exact HO_4.out)) k_ hk⟩));(case aO => exact (by (with_reducible repeat (first|apply Kd.R_alloc|apply Kd.R_drewN|apply Kd.R_drew));exact HO_8.out));(case aS => exact (below_size (by repeat (first|(with_reducible first|exact HB.out|apply below_alloc|apply pw_below_drewN|apply below_drew1|refine below_set ?_ GE805.out|refine below_set ?_ GE806.out)|exact HB.out))));(case aL => have:=LMc19.out;omega);intro v821 w24 ho hb hg hat;rw [← Ny820.out] at ho;have n0_:=Aside0.mk (Kd.R_after (ok:=(fun k_ => (w.heap.size≤k_))) (by (with_reducible repeat (first|apply Kd.R_alloc|apply Kd.R_drewN|apply Kd.R_drew));exact HO_4.out) hg hat);have n1_:=Aside0.mk (blk_grown (g:=gb805) (o:=.cells #[.int .i64 a0_0,.int .i64 a0_1,.slice A0_2 l0_2.length c0_2] 24 (0,0)) (by (with_reducible repeat (first|refine blk_drewN ?_ _|refine blk_drew ?_|refine blk_alloc ?_ _));exact BK805.out) hg (Kd.R_ne HO_8.out BK805.out (by decide)));have n2_:=Aside0.mk (blk_grown (g:=gb806) (o:=.cells #[.int .i64 0,.int .i64 0,.slice none 0 0] 24 (0,0)) (by (with_reducible repeat (first|refine blk_drewN ?_ _|refine blk_drew ?_|refine blk_alloc ?_ _));exact BK806.out) hg (Kd.R_ne HO_8.out BK806.out (by decide)));have n3_:=Aside0.mk (hb);have n4_:=Aside0.mk (ho);clear HO_4;clear BK805;clear BK806;clear HB;clear HO_8;have HO_4:=n0_;have BK805:=n1_;have BK806:=n2_;have HB:=n3_;have HO822:=n4_;clear n0_ n1_ n2_ n3_ n4_;clear ho hb hg hat))
               go_roundg k3
               case measure => have:=HK1.out;have:=HK2.out;have:=HK3.out;omega
               case rel => exact ⟨(y820),(wrap64 (x11_3 + 1)),(by first|rfl|(simp;done)|(simp [*];done)),H',⟨by have:=HK1.out;have:=HK2.out;have:=HK3.out;omega⟩,⟨by (with_reducible repeat (first|apply Kd.R_alloc|apply Kd.R_drewN|apply Kd.R_drew));exact HO_4.out⟩,⟨by (with_reducible repeat (first|apply Kd.R_alloc|apply Kd.R_drewN|apply Kd.R_drew));exact HO822.out⟩,⟨by (with_reducible repeat (first|refine blk_drewN ?_ _|refine blk_drew ?_|refine blk_alloc ?_ _));exact BK805.out⟩,⟨by (with_reducible repeat (first|refine blk_drewN ?_ _|refine blk_drew ?_|refine blk_alloc ?_ _));exact BK806.out⟩,⟨by repeat (first|(with_reducible first|exact HB.out|apply below_alloc|apply pw_below_drewN|apply below_drew1|refine below_set ?_ GE805.out|refine below_set ?_ GE806.out)|exact HB.out)⟩⟩
              ·rw [if_neg c19] at H
               exact absurd H (by simp)
             ·rw [if_neg c18] at H
              have c18b0 : (t819 == (x10_2 == 1))=false:=by simpa using c18
              (try (have c18b1 : decide (t819=(x10_2 == 1))=false:=by simpa using c18))
              (try (have c18b2 : (t819 == (x10_2 == 1))=false:=by simpa using c18))
              (try (have c18b3 : ¬ (t819=(x10_2 == 1)):=by simpa using c18))
              clear c18
              have H':=Aside0.mk H
              clear H
              obtain ⟨Ao25,co25,eo25⟩:=Kd.R_slice HO_4.out
              subst eo25
              have p818 : 0≤(x11_3 : Int):=of_decide_eq_true (by first|(with_reducible assumption)|assumption)
              have q818 : x11_3 < (t807.length : Int):=of_decide_eq_true (by first|(with_reducible assumption)|assumption)
              obtain ⟨ad818,e818,hx818_0⟩:=Kd.at_int (Kd.R_reads' HO_4.out).2.2 x11_3 p818 q818
              cases e818
              replace p818:=eq_true p818
              replace q818:=eq_true q818
              have hnb26:=NB805_806.out
              have hnc26:=NB806_805.out
              have hcz27_0 : wr.cell? ⟨gb805,0,none⟩=some (.int .i64 a0_0):=(blk_cell BK805.out 0).trans rfl
              have hcz27_1 : wr.cell? ⟨gb805,1,none⟩=some (.int .i64 a0_1):=(blk_cell BK805.out 1).trans rfl
              have hcz27_2 : wr.cell? ⟨gb805,2,none⟩=some (.slice A0_2 l0_2.length c0_2):=(blk_cell BK805.out 2).trans rfl
              have hfz27_0:=blk_frozen BK805.out 0
              have hfz27_1:=blk_frozen BK805.out 1
              have hfz27_2:=blk_frozen BK805.out 2
              go_wp2_with (first|(go_at_call 71;(with_reducible refine (phasorref19_bar.calls a0_0 a0_1 _ _ l0_2 x11_3 t819 _ ?side1 ?side2 A17.out).mono ?_);(case side1 => repeat (first|exact (Kd.C_below HR0_2.out HB.out)|(with_reducible refine Kd.C_alloc ?_ _)|(with_reducible refine Kd.C_drewN ?_ _)|(with_reducible refine Kd.C_drew ?_)));(case side2 => exact HC0_2.out);rintro e w28 ⟨rfl,hb⟩;have n0_:=Aside0.mk (Kd.R_below (by (with_reducible repeat (first|apply Kd.R_alloc|apply Kd.R_drewN|apply Kd.R_drew));exact HO_4.out) hb);have n1_:=Aside0.mk (Kd.R_below (by (with_reducible repeat (first|apply Kd.R_alloc|apply Kd.R_drewN|apply Kd.R_drew));exact HO_8.out) hb);have n2_:=Aside0.mk (blk_below (g:=gb805) (o:=.cells #[.int .i64 a0_0,.int .i64 a0_1,.slice A0_2 l0_2.length c0_2] 24 (0,0)) (by (with_reducible repeat (first|refine blk_drewN ?_ _|refine blk_drew ?_|refine blk_alloc ?_ _));exact BK805.out) hb);have n3_:=Aside0.mk (blk_below (g:=gb806) (o:=.cells #[.int .i64 0,.int .i64 0,.slice none 0 0] 24 (0,0)) (by (with_reducible repeat (first|refine blk_drewN ?_ _|refine blk_drew ?_|refine blk_alloc ?_ _));exact BK806.out) hb);have n4_:=Aside0.mk (below_step (by repeat (first|(with_reducible first|exact HB.out|apply below_alloc|apply pw_below_drewN|apply below_drew1|refine below_set ?_ GE805.out|refine below_set ?_ GE806.out)|exact HB.out)) hb);clear HO_4;clear HO_8;clear BK805;clear BK806;clear HB;have HO_4:=n0_;have HO_8:=n1_;have BK805:=n2_;have BK806:=n3_;have HB:=n4_;clear n0_ n1_ n2_ n3_ n4_;(try clear hb);(try clear hb2);(try clear hk);(try clear hi)))
              go_roundg k3
              case measure => have:=HK1.out;have:=HK2.out;have:=HK3.out;omega
              case rel => exact ⟨(x8_3),(wrap64 (x11_3 + 1)),(by first|rfl|(simp;done)|(simp [*];done)),H',⟨by have:=HK1.out;have:=HK2.out;have:=HK3.out;omega⟩,⟨by (with_reducible repeat (first|apply Kd.R_alloc|apply Kd.R_drewN|apply Kd.R_drew));exact HO_4.out⟩,⟨by (with_reducible repeat (first|apply Kd.R_alloc|apply Kd.R_drewN|apply Kd.R_drew));exact HO_8.out⟩,⟨by (with_reducible repeat (first|refine blk_drewN ?_ _|refine blk_drew ?_|refine blk_alloc ?_ _));exact BK805.out⟩,⟨by (with_reducible repeat (first|refine blk_drewN ?_ _|refine blk_drew ?_|refine blk_alloc ?_ _));exact BK806.out⟩,⟨by repeat (first|(with_reducible first|exact HB.out|apply below_alloc|apply pw_below_drewN|apply below_drew1|refine below_set ?_ GE805.out|refine below_set ?_ GE806.out)|exact HB.out)⟩⟩
            ·rw [if_neg c16] at H
             have c16b0 : ((rd t807 x11_3) == x9_1)=false:=beq_eq_false_iff_ne.mpr c16
             have c16b1 : ((rd t807 x11_3) != x9_1)=true:=bne_iff_ne.mpr c16
             have H':=Aside0.mk H
             clear H
             obtain ⟨Ao29,co29,eo29⟩:=Kd.R_slice HO_4.out
             subst eo29
             have p818 : 0≤(x11_3 : Int):=of_decide_eq_true (by first|(with_reducible assumption)|assumption)
             have q818 : x11_3 < (t807.length : Int):=of_decide_eq_true (by first|(with_reducible assumption)|assumption)
             obtain ⟨ad818,e818,hx818_0⟩:=Kd.at_int (Kd.R_reads' HO_4.out).2.2 x11_3 p818 q818
             cases e818
             replace p818:=eq_true p818
             replace q818:=eq_true q818
             go_wp2
             go_roundg k3
             case measure => have:=HK1.out;have:=HK2.out;have:=HK3.out;omega
             case rel => exact ⟨(x8_3),(wrap64 (x11_3 + 1)),(by first|rfl|(simp;done)|(simp [*];done)),H',⟨by have:=HK1.out;have:=HK2.out;have:=HK3.out;omega⟩,⟨by (with_reducible repeat (first|apply Kd.R_alloc|apply Kd.R_drewN|apply Kd.R_drew));exact HO_4.out⟩,⟨by (with_reducible repeat (first|apply Kd.R_alloc|apply Kd.R_drewN|apply Kd.R_drew));exact HO_8.out⟩,⟨by (with_reducible repeat (first|refine blk_drewN ?_ _|refine blk_drew ?_|refine blk_alloc ?_ _));exact BK805.out⟩,⟨by (with_reducible repeat (first|refine blk_drewN ?_ _|refine blk_drew ?_|refine blk_alloc ?_ _));exact BK806.out⟩,⟨by repeat (first|(with_reducible first|exact HB.out|apply below_alloc|apply pw_below_drewN|apply below_drew1|refine below_set ?_ GE805.out|refine below_set ?_ GE806.out)|exact HB.out)⟩⟩
           ·rw [if_neg c15] at H
            exact absurd H (by simp)
          ·rw [if_neg c14] at H
           have c14b0 : decide (x11_3 < (t807.length : Int))=false:=decide_eq_false c14
           clear c14
           have H':=Aside0.mk H
           clear H
           obtain ⟨Ao30,co30,eo30⟩:=Kd.R_slice HO_4.out
           subst eo30
           go_wp2
           go_roundg k3
           case measure => have:=HK1.out;have:=HK2.out;have:=HK3.out;omega
           case rel => exact ⟨(x8_3),(wrap64 (x10_2 + 1)),(by first|rfl|(simp;done)|(simp [*];done)),H',⟨by have:=HK1.out;have:=HK2.out;have:=HK3.out;omega⟩,⟨by (with_reducible repeat (first|apply Kd.R_alloc|apply Kd.R_drewN|apply Kd.R_drew));exact HO_4.out⟩,⟨by (with_reducible repeat (first|apply Kd.R_alloc|apply Kd.R_drewN|apply Kd.R_drew));exact HO_8.out⟩,⟨by (with_reducible repeat (first|refine blk_drewN ?_ _|refine blk_drew ?_|refine blk_alloc ?_ _));exact BK805.out⟩,⟨by (with_reducible repeat (first|refine blk_drewN ?_ _|refine blk_drew ?_|refine blk_alloc ?_ _));exact BK806.out⟩,⟨by repeat (first|(with_reducible first|exact HB.out|apply below_alloc|apply pw_below_drewN|apply below_drew1|refine below_set ?_ GE805.out|refine below_set ?_ GE806.out)|exact HB.out)⟩⟩
       ·rw [if_neg c13] at H
        have c13b0 : decide (x10_2 < 2)=false:=decide_eq_false c13
        clear c13
        have H':=Aside0.mk H
        clear H
        go_wp2
        go_roundg k2
        case measure => have:=HK1.out;have:=HK2.out;omega
        case rel => exact ⟨(x8_2),(wrap64 (x9_1 + 1)),(by first|rfl|(simp;done)|(simp [*];done)),H',⟨by have:=HK1.out;have:=HK2.out;omega⟩,⟨by (with_reducible repeat (first|apply Kd.R_alloc|apply Kd.R_drewN|apply Kd.R_drew));exact HO_4.out⟩,⟨by (with_reducible repeat (first|apply Kd.R_alloc|apply Kd.R_drewN|apply Kd.R_drew));exact HO_8.out⟩,⟨by (with_reducible repeat (first|refine blk_drewN ?_ _|refine blk_drew ?_|refine blk_alloc ?_ _));exact BK805.out⟩,⟨by (with_reducible repeat (first|refine blk_drewN ?_ _|refine blk_drew ?_|refine blk_alloc ?_ _));exact BK806.out⟩,⟨by repeat (first|(with_reducible first|exact HB.out|apply below_alloc|apply pw_below_drewN|apply below_drew1|refine below_set ?_ GE805.out|refine below_set ?_ GE806.out)|exact HB.out)⟩⟩
    ·rw [if_neg c12] at H
     have c12b0 : decide (x9_1≤t811)=false:=decide_eq_false c12
     clear c12
     replace H:=Option.bind_eq_some_iff.mp H
     obtain ⟨⟨t813,t814,t815⟩,A310,H⟩:=H
     replace H : (some (t813,t814,t815,0))=some (r1,r2,r3,r4):=H
     have A31:=Aside0.mk A310
     clear A310
     simp only [Option.some.injEq,Prod.mk.injEq] at H
     obtain ⟨rfl,rfl,rfl,rfl⟩:=H
     have hnb32:=NB805_806.out
     have hnc32:=NB806_805.out
     have hcz33_0 : wr.cell? ⟨gb805,0,none⟩=some (.int .i64 a0_0):=(blk_cell BK805.out 0).trans rfl
     have hcz33_1 : wr.cell? ⟨gb805,1,none⟩=some (.int .i64 a0_1):=(blk_cell BK805.out 1).trans rfl
     have hcz33_2 : wr.cell? ⟨gb805,2,none⟩=some (.slice A0_2 l0_2.length c0_2):=(blk_cell BK805.out 2).trans rfl
     have hfz33_0:=blk_frozen BK805.out 0
     have hfz33_1:=blk_frozen BK805.out 1
     have hfz33_2:=blk_frozen BK805.out 2
     obtain ⟨Ao34,co34,eo34⟩:=Kd.R_slice HO_8.out
     subst eo34
     go_wp2_with (first|((with_reducible refine gate_callee (f:=74) rfl ?_);refine goesL_ (some 61) rfl rfl Try.func74 (by kernel_rfl) rfl #[.agg #[.int .i64 a0_0,.int .i64 a0_1,.slice A0_2 l0_2.length c0_2],.slice Ao34 x8_1.length co34] rfl (by (try simp only [List.map_toArray,List.map_cons,List.map_nil]);first|done|rfl|(simp only [List.length_drop,List.length_take];rfl)) ?_;(with_reducible refine (phasorref19_only.calls k1 a0_0 a0_1 _ _ l0_2 _ _ x8_1 t813 t814 t815 _ ?side1 ?side2 ?side3 ?side4 A31.out).mono ?_);(case side1 => repeat (first|exact (Kd.C_below HR0_2.out HB.out)|(with_reducible refine Kd.C_alloc ?_ _)|(with_reducible refine Kd.C_drewN ?_ _)|(with_reducible refine Kd.C_drew ?_)));(case side2 => exact HC0_2.out);(case side3 => repeat (first|exact (Kd.R_reads' HO_8.out).2.2|(with_reducible refine Kd.C_alloc ?_ _)|(with_reducible refine Kd.C_drewN ?_ _)|(with_reducible refine Kd.C_drew ?_)));(case side4 => exact (Kd.R_reads' HO_8.out).2.1);rintro e w35 ⟨v816,rfl,ho0,hb⟩;refine ⟨_,rfl,?_⟩;have n0_:=Aside0.mk (Kd.R_below (by (with_reducible repeat (first|apply Kd.R_alloc|apply Kd.R_drewN|apply Kd.R_drew));exact HO_4.out) hb);have n1_:=Aside0.mk (Kd.R_below (by (with_reducible repeat (first|apply Kd.R_alloc|apply Kd.R_drewN|apply Kd.R_drew));exact HO_8.out) hb);have n2_:=Aside0.mk (Kd.N_lower (Kd.N_mono (ok':=fun k_ => (w.heap.size≤k_)∧some k_≠(v808 : Value).ownBlock∧some k_≠(.slice Ao34 x8_1.length co34 : Value).ownBlock∧k_≠gb805∧k_≠gb806) ho0 (fun k_ hk_ => ⟨(Nat.le_trans (below_size (by repeat (first|(with_reducible first|exact HB.out|apply below_alloc|apply pw_below_drewN|apply below_drew1|refine below_set ?_ GE805.out|refine below_set ?_ GE806.out)|exact HB.out))) hk_),(Kd.fresh' (Kd.R_lt (by (with_reducible repeat (first|apply Kd.R_alloc|apply Kd.R_drewN|apply Kd.R_drew));exact HO_4.out)) k_ hk_),(Kd.fresh' (Kd.R_lt (by (with_reducible repeat (first|apply Kd.R_alloc|apply Kd.R_drewN|apply Kd.R_drew));exact HO_8.out)) k_ hk_),(Kd.freshB (g:=gb805) (o:=.cells #[.int .i64 a0_0,.int .i64 a0_1,.slice A0_2 l0_2.length c0_2] 24 (0,0)) (by (with_reducible repeat (first|refine blk_drewN ?_ _|refine blk_drew ?_|refine blk_alloc ?_ _));exact BK805.out) k_ hk_),(Kd.freshB (g:=gb806) (o:=.cells #[.int .i64 0,.int .i64 0,.slice none 0 0] 24 (0,0)) (by (with_reducible repeat (first|refine blk_drewN ?_ _|refine blk_drew ?_|refine blk_alloc ?_ _));exact BK806.out) k_ hk_)⟩)) (below_size (by repeat (first|(with_reducible first|exact HB.out|apply below_alloc|apply pw_below_drewN|apply below_drew1|refine below_set ?_ GE805.out|refine below_set ?_ GE806.out)|exact HB.out))));have n3_:=Aside0.mk (blk_below (g:=gb805) (o:=.cells #[.int .i64 a0_0,.int .i64 a0_1,.slice A0_2 l0_2.length c0_2] 24 (0,0)) (by (with_reducible repeat (first|refine blk_drewN ?_ _|refine blk_drew ?_|refine blk_alloc ?_ _));exact BK805.out) hb);have n4_:=Aside0.mk (blk_below (g:=gb806) (o:=.cells #[.int .i64 0,.int .i64 0,.slice none 0 0] 24 (0,0)) (by (with_reducible repeat (first|refine blk_drewN ?_ _|refine blk_drew ?_|refine blk_alloc ?_ _));exact BK806.out) hb);have n5_:=Aside0.mk (below_step (by repeat (first|(with_reducible first|exact HB.out|apply below_alloc|apply pw_below_drewN|apply below_drew1|refine below_set ?_ GE805.out|refine below_set ?_ GE806.out)|exact HB.out)) hb);clear HO_4;clear HO_8;clear BK805;clear BK806;clear HB;have HO_4:=n0_;have HO_8:=n1_;have HO817:=n2_;have BK805:=n3_;have BK806:=n4_;have HB:=n5_;clear n0_ n1_ n2_ n3_ n4_ n5_;(try clear hb);(try clear hb2);(try clear hk);(try clear hi);(try clear ho0);have hcz36_0 : w35.cell? ⟨gb806,0,none⟩=some (.int .i64 0):=(blk_cell BK806.out 0).trans rfl;have hcz36_1 : w35.cell? ⟨gb806,1,none⟩=some (.int .i64 0):=(blk_cell BK806.out 1).trans rfl;have hcz36_2 : w35.cell? ⟨gb806,2,none⟩=some (.slice none 0 0):=(blk_cell BK806.out 2).trans rfl;have hfz36_0:=blk_frozen BK806.out 0;have hfz36_1:=blk_frozen BK806.out 1;have hfz36_2:=blk_frozen BK806.out 2;obtain ⟨Ao37,co37,eo37⟩:=Kd.N_slice HO817.out;subst eo37))
     refine bodyPost_ret (results_ct rfl _ _ gb806 24 #[.int .i64 t813,.int .i64 t814,.slice Ao37 t815.length co37] (0,0) _ rfl (by (with_reducible repeat (first|refine blk_drewN ?_ _|refine blk_drew ?_|refine blk_alloc ?_ _));refine blk_put (cs:=#[.int .i64 t813,.int .i64 t814,.slice none 0 0]) ?_ 2 _ rfl;(with_reducible repeat (first|refine blk_drewN ?_ _|refine blk_drew ?_|refine blk_alloc ?_ _));refine blk_put (cs:=#[.int .i64 t813,.int .i64 0,.slice none 0 0]) ?_ 1 _ rfl;(with_reducible repeat (first|refine blk_drewN ?_ _|refine blk_drew ?_|refine blk_alloc ?_ _));refine blk_put (cs:=#[.int .i64 0,.int .i64 0,.slice none 0 0]) ?_ 0 _ rfl;(with_reducible repeat (first|refine blk_drewN ?_ _|refine blk_drew ?_|refine blk_alloc ?_ _));exact BK806.out) Try.underlying24 rfl (by kernel_rfl)) rfl ?_
     exact ⟨_,by first|rfl|(simp [errW_none,errW_some] <;> rfl)|(simp [*,errW_none,errW_some] <;> rfl),by (with_reducible repeat (first|apply Kd.N_alloc|apply Kd.N_drewN|apply Kd.N_drew));exact Kd.N_mono (Kd.N_far (p:=⟨gb806,2,none⟩) (Kd.N_far (p:=⟨gb806,1,none⟩) (Kd.N_far (p:=⟨gb806,0,none⟩) (Kd.N_mono HO817.out (fun k_ hk => (⟨hk,hk.2.2.2.2⟩ : _∧k_≠gb806))) (fun _ hk => hk.2) (.int .i64 t813)) (fun _ hk => hk.2) (.int .i64 t814)) (fun _ hk => hk.2) (.slice Ao37 t815.length co37)) (fun _ hk => hk.1.1),by repeat (first|(with_reducible first|exact HB.out|apply below_alloc|apply pw_below_drewN|apply below_drew1|refine below_set ?_ GE805.out|refine below_set ?_ GE806.out)|exact HB.out)⟩
 ·rw [if_neg c4] at H
  have c4b0 : (t810 == 0)=false:=beq_eq_false_iff_ne.mpr c4
  have c4b1 : (t810 != 0)=true:=bne_iff_ne.mpr c4
  simp only [Option.some.injEq,Prod.mk.injEq] at H
  obtain ⟨rfl,rfl,rfl,rfl⟩:=H
  go_enter Try.func39,Try.ntmps39
  go_wp2_with (first|((with_reducible refine gate_dst (N:=1) rfl ?_);refine box_event ?hg (N:=1) ?hd (cs:=#[.int .i64 a0_0,.int .i64 a0_1,.slice A0_2 l0_2.length c0_2]) (t:=24) ?hr ?_;(case hd => rfl);(case hg => rfl);(case hr => first|(go_simp;done)|(go_simp;rfl));intro gb805 hg w38 hbox hb;have n0_:=Aside0.mk (below_step (by repeat (first|(with_reducible first|exact HB.out|apply below_alloc|apply pw_below_drewN|apply below_drew1)|exact HB.out)) hb);have n1_:=Aside0.mk (hbox);have n2_:=Aside0.mk ((by rw [hg];exact (below_size (by repeat (first|(with_reducible first|exact HB.out|apply below_alloc|apply pw_below_drewN|apply below_drew1)|exact HB.out))) : w.heap.size≤gb805));have n3_:=Aside0.mk ((by rw [hg];exact (below_size (by repeat (first|(with_reducible first|exact HB.out|apply below_alloc|apply pw_below_drewN|apply below_drew1)|exact HB.out))) : w.heap.size≤gb805));clear HB;have HB:=n0_;have BK805:=n1_;have GW805:=n2_;have GE805:=n3_;clear n0_ n1_ n2_ n3_;clear hb hbox hg)|((with_reducible refine gate_dst (N:=2) rfl ?_);refine box_event ?hg (N:=2) ?hd (cs:=#[.int .i64 0,.int .i64 0,.slice none 0 0]) (t:=24) ?hr ?_;(case hd => rfl);(case hg => rfl);(case hr => first|(go_simp;done)|(go_simp;rfl));intro gb806 hg w39 hbox hb;have n0_:=Aside0.mk (blk_below (g:=gb805) (o:=.cells #[.int .i64 a0_0,.int .i64 a0_1,.slice A0_2 l0_2.length c0_2] 24 (0,0)) (by (with_reducible repeat (first|refine blk_drewN ?_ _|refine blk_drew ?_|refine blk_alloc ?_ _));exact BK805.out) hb);have n1_:=Aside0.mk (below_step (by repeat (first|(with_reducible first|exact HB.out|apply below_alloc|apply pw_below_drewN|apply below_drew1|refine below_set ?_ GE805.out)|exact HB.out)) hb);have n2_:=Aside0.mk (hbox);have n3_:=Aside0.mk ((by rw [hg];exact (below_size (by repeat (first|(with_reducible first|exact HB.out|apply below_alloc|apply pw_below_drewN|apply below_drew1|refine below_set ?_ GE805.out)|exact HB.out))) : w.heap.size≤gb806));have n4_:=Aside0.mk ((by rw [hg];exact (below_size (by repeat (first|(with_reducible first|exact HB.out|apply below_alloc|apply pw_below_drewN|apply below_drew1|refine below_set ?_ GE805.out)|exact HB.out))) : w.heap.size≤gb806));have n5_:=Aside0.mk ((by rw [hg];exact Nat.ne_of_lt (blk_lt (g:=gb805) (o:=.cells #[.int .i64 a0_0,.int .i64 a0_1,.slice A0_2 l0_2.length c0_2] 24 (0,0)) (by (with_reducible repeat (first|refine blk_drewN ?_ _|refine blk_drew ?_|refine blk_alloc ?_ _));exact BK805.out)) : gb805≠gb806));have n6_:=Aside0.mk ((by rw [hg];exact Nat.ne_of_gt (blk_lt (g:=gb805) (o:=.cells #[.int .i64 a0_0,.int .i64 a0_1,.slice A0_2 l0_2.length c0_2] 24 (0,0)) (by (with_reducible repeat (first|refine blk_drewN ?_ _|refine blk_drew ?_|refine blk_alloc ?_ _));exact BK805.out)) : gb806≠gb805));clear BK805;clear HB;have BK805:=n0_;have HB:=n1_;have BK806:=n2_;have GW806:=n3_;have GE806:=n4_;have NB805_806:=n5_;have NB806_805:=n6_;clear n0_ n1_ n2_ n3_ n4_ n5_ n6_;clear hb hbox hg;have hnb40:=NB805_806.out;have hnc40:=NB806_805.out;have hcz41_0 : w39.cell? ⟨gb805,0,none⟩=some (.int .i64 a0_0):=(blk_cell BK805.out 0).trans rfl;have hcz41_1 : w39.cell? ⟨gb805,1,none⟩=some (.int .i64 a0_1):=(blk_cell BK805.out 1).trans rfl;have hcz41_2 : w39.cell? ⟨gb805,2,none⟩=some (.slice A0_2 l0_2.length c0_2):=(blk_cell BK805.out 2).trans rfl;have hfz41_0:=blk_frozen BK805.out 0;have hfz41_1:=blk_frozen BK805.out 1;have hfz41_2:=blk_frozen BK805.out 2)|((with_reducible refine gate_callee (f:=28) rfl ?_);refine goesL_ (some 14) rfl rfl Try.func28 (by kernel_rfl) rfl #[.agg #[.int .i64 a0_0,.int .i64 a0_1,.slice A0_2 l0_2.length c0_2]] rfl (by (try simp only [List.map_toArray,List.map_cons,List.map_nil]);first|done|rfl|(simp only [List.length_drop,List.length_take];rfl)) ?_;(with_reducible refine (phasorref19_Early.calls k a0_0 a0_1 _ _ l0_2 t807 t810 _ ?side1 ?side2 A2.out).mono ?_);(case side1 => repeat (first|exact (Kd.C_below HR0_2.out HB.out)|(with_reducible refine Kd.C_alloc ?_ _)|(with_reducible refine Kd.C_drewN ?_ _)|(with_reducible refine Kd.C_drew ?_)));(case side2 => exact HC0_2.out);rintro e w42 ⟨v808,rfl,ho0,hb⟩;refine ⟨_,rfl,?_⟩;have n0_:=Aside0.mk (Kd.R_lower (Kd.R_newM (M:=fun k_ => (w.heap.size≤k_)) ho0 (below_size (by repeat (first|(with_reducible first|exact HB.out|apply below_alloc|apply pw_below_drewN|apply below_drew1|refine below_set ?_ GE805.out|refine below_set ?_ GE806.out)|exact HB.out))) (fun k_ h_ => h_)) (below_size (by repeat (first|(with_reducible first|exact HB.out|apply below_alloc|apply pw_below_drewN|apply below_drew1|refine below_set ?_ GE805.out|refine below_set ?_ GE806.out)|exact HB.out))));have n1_:=Aside0.mk (blk_below (g:=gb805) (o:=.cells #[.int .i64 a0_0,.int .i64 a0_1,.slice A0_2 l0_2.length c0_2] 24 (0,0)) (by (with_reducible repeat (first|refine blk_drewN ?_ _|refine blk_drew ?_|refine blk_alloc ?_ _));exact BK805.out) hb);have n2_:=Aside0.mk (blk_below (g:=gb806) (o:=.cells #[.int .i64 0,.int .i64 0,.slice none 0 0] 24 (0,0)) (by (with_reducible repeat (first|refine blk_drewN ?_ _|refine blk_drew ?_|refine blk_alloc ?_ _));exact BK806.out) hb);have n3_:=Aside0.mk (below_step (by repeat (first|(with_reducible first|exact HB.out|apply below_alloc|apply pw_below_drewN|apply below_drew1|refine below_set ?_ GE805.out|refine below_set ?_ GE806.out)|exact HB.out)) hb);clear BK805;clear BK806;clear HB;have HO809:=n0_;have BK805:=n1_;have BK806:=n2_;have HB:=n3_;clear n0_ n1_ n2_ n3_;(try clear hb);(try clear hb2);(try clear hk);(try clear hi);(try clear ho0);have hcz43_0 : w42.cell? ⟨gb805,0,none⟩=some (.int .i64 a0_0):=(blk_cell BK805.out 0).trans rfl;have hcz43_1 : w42.cell? ⟨gb805,1,none⟩=some (.int .i64 a0_1):=(blk_cell BK805.out 1).trans rfl;have hcz43_2 : w42.cell? ⟨gb805,2,none⟩=some (.slice A0_2 l0_2.length c0_2):=(blk_cell BK805.out 2).trans rfl;have hfz43_0:=blk_frozen BK805.out 0;have hfz43_1:=blk_frozen BK805.out 1;have hfz43_2:=blk_frozen BK805.out 2)|((with_reducible refine gate_callee (f:=35) rfl ?_);refine goesL_ (some 19) rfl rfl Try.func35 (by kernel_rfl) rfl #[.agg #[.int .i64 a0_0,.int .i64 a0_1,.slice A0_2 l0_2.length c0_2]] rfl (by (try simp only [List.map_toArray,List.map_cons,List.map_nil]);first|done|rfl|(simp only [List.length_drop,List.length_take];rfl)) ?_;(with_reducible refine (phasorref19_Depth.calls k a0_0 a0_1 _ _ l0_2 t811 t812 _ ?side1 ?side2 A3.out).mono ?_);(case side1 => repeat (first|exact (Kd.C_below HR0_2.out HB.out)|(with_reducible refine Kd.C_alloc ?_ _)|(with_reducible refine Kd.C_drewN ?_ _)|(with_reducible refine Kd.C_drew ?_)));(case side2 => exact HC0_2.out);rintro e w44 ⟨rfl,hb⟩;refine ⟨_,rfl,?_⟩;have n0_:=Aside0.mk (Kd.R_below (by (with_reducible repeat (first|apply Kd.R_alloc|apply Kd.R_drewN|apply Kd.R_drew));exact HO809.out) hb);have n1_:=Aside0.mk (blk_below (g:=gb805) (o:=.cells #[.int .i64 a0_0,.int .i64 a0_1,.slice A0_2 l0_2.length c0_2] 24 (0,0)) (by (with_reducible repeat (first|refine blk_drewN ?_ _|refine blk_drew ?_|refine blk_alloc ?_ _));exact BK805.out) hb);have n2_:=Aside0.mk (blk_below (g:=gb806) (o:=.cells #[.int .i64 0,.int .i64 0,.slice none 0 0] 24 (0,0)) (by (with_reducible repeat (first|refine blk_drewN ?_ _|refine blk_drew ?_|refine blk_alloc ?_ _));exact BK806.out) hb);have n3_:=Aside0.mk (below_step (by repeat (first|(with_reducible first|exact HB.out|apply below_alloc|apply pw_below_drewN|apply below_drew1|refine below_set ?_ GE805.out|refine below_set ?_ GE806.out)|exact HB.out)) hb);clear HO809;clear BK805;clear BK806;clear HB;have HO809:=n0_;have BK805:=n1_;have BK806:=n2_;have HB:=n3_;clear n0_ n1_ n2_ n3_;(try clear hb);(try clear hb2);(try clear hk);(try clear hi);have hcz45_0 : w44.cell? ⟨gb806,0,none⟩=some (.int .i64 0):=(blk_cell BK806.out 0).trans rfl;have hcz45_1 : w44.cell? ⟨gb806,1,none⟩=some (.int .i64 0):=(blk_cell BK806.out 1).trans rfl;have hcz45_2 : w44.cell? ⟨gb806,2,none⟩=some (.slice none 0 0):=(blk_cell BK806.out 2).trans rfl;have hfz45_0:=blk_frozen BK806.out 0;have hfz45_1:=blk_frozen BK806.out 1;have hfz45_2:=blk_frozen BK806.out 2))
  refine bodyPost_ret (results_ct rfl _ _ gb806 24 #[.int .i64 0,.int .i64 0,.slice none 0 0] (0,0) _ rfl (by (with_reducible repeat (first|refine blk_drewN ?_ _|refine blk_drew ?_|refine blk_alloc ?_ _));refine blk_put (cs:=#[.int .i64 0,.int .i64 0,.slice none 0 0]) ?_ 2 _ rfl;(with_reducible repeat (first|refine blk_drewN ?_ _|refine blk_drew ?_|refine blk_alloc ?_ _));refine blk_put (cs:=#[.int .i64 0,.int .i64 0,.slice none 0 0]) ?_ 1 _ rfl;(with_reducible repeat (first|refine blk_drewN ?_ _|refine blk_drew ?_|refine blk_alloc ?_ _));refine blk_put (cs:=#[.int .i64 0,.int .i64 0,.slice none 0 0]) ?_ 0 _ rfl;(with_reducible repeat (first|refine blk_drewN ?_ _|refine blk_drew ?_|refine blk_alloc ?_ _));exact BK806.out) Try.underlying24 rfl (by kernel_rfl)) rfl ?_
  exact ⟨_,by first|rfl|(simp [errW_none,errW_some] <;> rfl)|(simp [*,errW_none,errW_some] <;> rfl),by first|exact Kd.S_nil _ _ _ _ _|exact Kd.N_nil _ _ _ _ _|exact Kd.V_nil _ _ _ _ _|exact Kd.Q_nil _ _ _ _ _|exact Kd.R_nil _ _ _ _ _,by repeat (first|(with_reducible first|exact HB.out|apply below_alloc|apply pw_below_drewN|apply below_drew1|refine below_set ?_ GE805.out|refine below_set ?_ GE806.out)|exact HB.out)⟩
end Go.Proofs.Ytbelnopbggkdfaa.Q
end

section
namespace Go.Proofs.Ytbelnopbggkdfaa.Q
open Go.RowKit Go.Proofs.YtbelnopbggkdfaaW.PrintWords Go.Proofs.YtbelnopbggkdfaaW.PrintLast Go.Proofs.YtbelnopbggkdfaaW.PrintMore
attribute [local go_sem] max2_int min2_int max_two min_two max_three min_three max_four min_four   -- for this text's walks alone
set_option linter.unusedVariables false
set_option linter.unusedSimpArgs false
def layers_Prune.f (k : Nat) (a0_0 : Int) (a0_1 : Int) (l0_2 : List (S46)) (l1 : List Int) : Option (Int × Int × (List (S46)) × Int):=(layers_Past.f k a0_0 a0_1 l0_2 l1).bind fun bt825 => (if bt825.2=0 then ((layers_only.f k a0_0 a0_1 l0_2 bt825.1).bind fun bt829 => (some (bt829.1,bt829.2.1,bt829.2.2,0))) else (some (0,0,([] : List (S46)),bt825.2)))
end Go.Proofs.Ytbelnopbggkdfaa.Q
end

section
namespace Go.Proofs.Ytbelnopbggkdfaa.Q
open Go.RowKit Go.Proofs.YtbelnopbggkdfaaW.PrintWords Go.Proofs.YtbelnopbggkdfaaW.PrintLast Go.Proofs.YtbelnopbggkdfaaW.PrintMore
attribute [local go_sem] max2_int min2_int max_two min_two max_three min_three max_four min_four   -- for this text's walks alone
set_option linter.unusedVariables false
set_option linter.unusedSimpArgs false
def phasorref19_Prune.f (k : Nat) (a0_0 : Int) (a0_1 : Int) (l0_2 : List (S46)) (l1 : List Int) : Option (Int × Int × (List (S46)) × Int):=(phasorref19_Past.f k a0_0 a0_1 l0_2 l1).bind fun bt836 => (if bt836.2=0 then ((phasorref19_only.f k a0_0 a0_1 l0_2 bt836.1).bind fun bt840 => (some (bt840.1,bt840.2.1,bt840.2.2,0))) else (some (0,0,([] : List (S46)),bt836.2)))
set_option maxHeartbeats 8000000 in
set_option maxRecDepth 100000 in
theorem phasorref19_Prune.calls (k : Nat) (a0_0 : Int) (a0_1 : Int) (A0_2 : Option Addr) (c0_2 : Nat) (l0_2 : List (S46)) (A1 : Option Addr) (c1 : Nat) (l1 : List Int) (r1 : Int) (r2 : Int) (r3 : List (S46)) (r4 : Int) (w : World) (hr0_2 : Kd.C k46 w A0_2 l0_2.length l0_2) (hc0_2 : l0_2.length≤c0_2) (hr1 : Kd.C (Kd.int .i64) w A1 l1.length l1) (hc1 : l1.length≤c1) (h : phasorref19_Prune.f k a0_0 a0_1 l0_2 l1=some (r1,r2,r3,r4)) :
  Calls Try.prog 41 #[.agg #[.int .i64 a0_0,.int .i64 a0_1,.slice A0_2 l0_2.length c0_2],.slice A1 l1.length c1] w fun e w' => ∃ v2_ : Value,e=.returned (.tuple #[.agg #[.int .i64 r1,.int .i64 r2,v2_],.int .i64 r4])∧Kd.N k46 46 w' w.heap.size (fun k_ => (w.heap.size≤k_)) v2_ r3∧Below w.heap.size w w':=by
 have hu24:=Try.underlying24
 have HR0_2:=Aside0.mk hr0_2
 have HC0_2:=Aside0.mk hc0_2
 clear hr0_2 hc0_2
 have HR1:=Aside0.mk hr1
 have HC1:=Aside0.mk hc1
 clear hr1 hc1
 have HB:=Aside0.mk (Below.refl w.heap.size w)
 have H : ((phasorref19_Past.f k a0_0 a0_1 l0_2 l1).bind fun bt836 => (if bt836.2=0 then ((phasorref19_only.f k a0_0 a0_1 l0_2 bt836.1).bind fun bt840 => (some (bt840.1,bt840.2.1,bt840.2.2,0))) else (some (0,0,([] : List (S46)),bt836.2))))=some (r1,r2,r3,r4):=h
 clear h
 replace H:=Option.bind_eq_some_iff.mp H
 obtain ⟨⟨t836,t839⟩,A30,H⟩:=H
 replace H : (if t839=0 then ((phasorref19_only.f k a0_0 a0_1 l0_2 t836).bind fun bt840 => (some (bt840.1,bt840.2.1,bt840.2.2,0))) else (some (0,0,([] : List (S46)),t839)))=some (r1,r2,r3,r4):=H
 have A3:=Aside0.mk A30
 clear A30
 by_cases c4 : t839=0
 ·rw [if_pos c4] at H
  have c4b0 : (t839 == 0)=true:=beq_iff_eq.mpr c4
  have c4b1 : (t839 != 0)=false:=bne_eq_false_iff_eq.mpr c4
  clear c4
  replace H:=Option.bind_eq_some_iff.mp H
  obtain ⟨⟨t840,t841,t842⟩,A50,H⟩:=H
  replace H : (some (t840,t841,t842,0))=some (r1,r2,r3,r4):=H
  have A5:=Aside0.mk A50
  clear A50
  simp only [Option.some.injEq,Prod.mk.injEq] at H
  obtain ⟨rfl,rfl,rfl,rfl⟩:=H
  go_enter Try.func41,Try.ntmps41
  go_wp2_with (first|((with_reducible refine gate_dst (N:=2) rfl ?_);refine box_event ?hg (N:=2) ?hd (cs:=#[.int .i64 a0_0,.int .i64 a0_1,.slice A0_2 l0_2.length c0_2]) (t:=24) ?hr ?_;(case hd => rfl);(case hg => rfl);(case hr => first|(go_simp;done)|(go_simp;rfl));intro gb834 hg w6 hbox hb;have n0_:=Aside0.mk (below_step (by repeat (first|(with_reducible first|exact HB.out|apply below_alloc|apply pw_below_drewN|apply below_drew1)|exact HB.out)) hb);have n1_:=Aside0.mk (hbox);have n2_:=Aside0.mk ((by rw [hg];exact (below_size (by repeat (first|(with_reducible first|exact HB.out|apply below_alloc|apply pw_below_drewN|apply below_drew1)|exact HB.out))) : w.heap.size≤gb834));have n3_:=Aside0.mk ((by rw [hg];exact (below_size (by repeat (first|(with_reducible first|exact HB.out|apply below_alloc|apply pw_below_drewN|apply below_drew1)|exact HB.out))) : w.heap.size≤gb834));clear HB;have HB:=n0_;have BK834:=n1_;have GW834:=n2_;have GE834:=n3_;clear n0_ n1_ n2_ n3_;clear hb hbox hg)|((with_reducible refine gate_dst (N:=4) rfl ?_);refine box_event ?hg (N:=4) ?hd (cs:=#[.int .i64 0,.int .i64 0,.slice none 0 0]) (t:=24) ?hr ?_;(case hd => rfl);(case hg => rfl);(case hr => first|(go_simp;done)|(go_simp;rfl));intro gb835 hg w7 hbox hb;have n0_:=Aside0.mk (blk_below (g:=gb834) (o:=.cells #[.int .i64 a0_0,.int .i64 a0_1,.slice A0_2 l0_2.length c0_2] 24 (0,0)) (by (with_reducible repeat (first|refine blk_drewN ?_ _|refine blk_drew ?_|refine blk_alloc ?_ _));exact BK834.out) hb);have n1_:=Aside0.mk (below_step (by repeat (first|(with_reducible first|exact HB.out|apply below_alloc|apply pw_below_drewN|apply below_drew1|refine below_set ?_ GE834.out)|exact HB.out)) hb);have n2_:=Aside0.mk (hbox);have n3_:=Aside0.mk ((by rw [hg];exact (below_size (by repeat (first|(with_reducible first|exact HB.out|apply below_alloc|apply pw_below_drewN|apply below_drew1|refine below_set ?_ GE834.out)|exact HB.out))) : w.heap.size≤gb835));have n4_:=Aside0.mk ((by rw [hg];exact (below_size (by repeat (first|(with_reducible first|exact HB.out|apply below_alloc|apply pw_below_drewN|apply below_drew1|refine below_set ?_ GE834.out)|exact HB.out))) : w.heap.size≤gb835));have n5_:=Aside0.mk ((by rw [hg];exact Nat.ne_of_lt (blk_lt (g:=gb834) (o:=.cells #[.int .i64 a0_0,.int .i64 a0_1,.slice A0_2 l0_2.length c0_2] 24 (0,0)) (by (with_reducible repeat (first|refine blk_drewN ?_ _|refine blk_drew ?_|refine blk_alloc ?_ _));exact BK834.out)) : gb834≠gb835));have n6_:=Aside0.mk ((by rw [hg];exact Nat.ne_of_gt (blk_lt (g:=gb834) (o:=.cells #[.int .i64 a0_0,.int .i64 a0_1,.slice A0_2 l0_2.length c0_2] 24 (0,0)) (by (with_reducible repeat (first|refine blk_drewN ?_ _|refine blk_drew ?_|refine blk_alloc ?_ _));exact BK834.out)) : gb835≠gb834));clear BK834;clear HB;have BK834:=n0_;have HB:=n1_;have BK835:=n2_;have GW835:=n3_;have GE835:=n4_;have NB834_835:=n5_;have NB835_834:=n6_;clear n0_ n1_ n2_ n3_ n4_ n5_ n6_;clear hb hbox hg;have hnb8:=NB834_835.out;have hnc8:=NB835_834.out;have hcz9_0 : w7.cell? ⟨gb834,0,none⟩=some (.int .i64 a0_0):=(blk_cell BK834.out 0).trans rfl;have hcz9_1 : w7.cell? ⟨gb834,1,none⟩=some (.int .i64 a0_1):=(blk_cell BK834.out 1).trans rfl;have hcz9_2 : w7.cell? ⟨gb834,2,none⟩=some (.slice A0_2 l0_2.length c0_2):=(blk_cell BK834.out 2).trans rfl;have hfz9_0:=blk_frozen BK834.out 0;have hfz9_1:=blk_frozen BK834.out 1;have hfz9_2:=blk_frozen BK834.out 2)|((with_reducible refine gate_callee (f:=32) rfl ?_);refine goesL_ (some 11) rfl rfl Try.func32 (by kernel_rfl) rfl #[.agg #[.int .i64 a0_0,.int .i64 a0_1,.slice A0_2 l0_2.length c0_2],.slice A1 l1.length c1] rfl (by (try simp only [List.map_toArray,List.map_cons,List.map_nil]);first|done|rfl|(simp only [List.length_drop,List.length_take];rfl)) ?_;(with_reducible refine (phasorref19_Past.calls k a0_0 a0_1 _ _ l0_2 _ _ l1 t836 t839 _ ?side1 ?side2 ?side3 ?side4 A3.out).mono ?_);(case side1 => repeat (first|exact (Kd.C_below HR0_2.out HB.out)|(with_reducible refine Kd.C_alloc ?_ _)|(with_reducible refine Kd.C_drewN ?_ _)|(with_reducible refine Kd.C_drew ?_)));(case side2 => exact HC0_2.out);(case side3 => repeat (first|exact (Kd.C_below HR1.out HB.out)|(with_reducible refine Kd.C_alloc ?_ _)|(with_reducible refine Kd.C_drewN ?_ _)|(with_reducible refine Kd.C_drew ?_)));(case side4 => exact HC1.out);rintro e w10 ⟨v837,rfl,ho0,hb⟩;refine ⟨_,rfl,?_⟩;have n0_:=Aside0.mk (Kd.R_lower (Kd.R_newM (M:=fun k_ => (w.heap.size≤k_)) ho0 (below_size (by repeat (first|(with_reducible first|exact HB.out|apply below_alloc|apply pw_below_drewN|apply below_drew1|refine below_set ?_ GE834.out|refine below_set ?_ GE835.out)|exact HB.out))) (fun k_ h_ => h_)) (below_size (by repeat (first|(with_reducible first|exact HB.out|apply below_alloc|apply pw_below_drewN|apply below_drew1|refine below_set ?_ GE834.out|refine below_set ?_ GE835.out)|exact HB.out))));have n1_:=Aside0.mk (blk_below (g:=gb834) (o:=.cells #[.int .i64 a0_0,.int .i64 a0_1,.slice A0_2 l0_2.length c0_2] 24 (0,0)) (by (with_reducible repeat (first|refine blk_drewN ?_ _|refine blk_drew ?_|refine blk_alloc ?_ _));exact BK834.out) hb);have n2_:=Aside0.mk (blk_below (g:=gb835) (o:=.cells #[.int .i64 0,.int .i64 0,.slice none 0 0] 24 (0,0)) (by (with_reducible repeat (first|refine blk_drewN ?_ _|refine blk_drew ?_|refine blk_alloc ?_ _));exact BK835.out) hb);have n3_:=Aside0.mk (below_step (by repeat (first|(with_reducible first|exact HB.out|apply below_alloc|apply pw_below_drewN|apply below_drew1|refine below_set ?_ GE834.out|refine below_set ?_ GE835.out)|exact HB.out)) hb);clear BK834;clear BK835;clear HB;have HO838:=n0_;have BK834:=n1_;have BK835:=n2_;have HB:=n3_;clear n0_ n1_ n2_ n3_;(try clear hb);(try clear hb2);(try clear hk);(try clear hi);(try clear ho0);have hcz11_0 : w10.cell? ⟨gb834,0,none⟩=some (.int .i64 a0_0):=(blk_cell BK834.out 0).trans rfl;have hcz11_1 : w10.cell? ⟨gb834,1,none⟩=some (.int .i64 a0_1):=(blk_cell BK834.out 1).trans rfl;have hcz11_2 : w10.cell? ⟨gb834,2,none⟩=some (.slice A0_2 l0_2.length c0_2):=(blk_cell BK834.out 2).trans rfl;have hfz11_0:=blk_frozen BK834.out 0;have hfz11_1:=blk_frozen BK834.out 1;have hfz11_2:=blk_frozen BK834.out 2;obtain ⟨Ao12,co12,eo12⟩:=Kd.R_slice HO838.out;subst eo12)|((with_reducible refine gate_callee (f:=74) rfl ?_);refine goesL_ (some 20) rfl rfl Try.func74 (by kernel_rfl) rfl #[.agg #[.int .i64 a0_0,.int .i64 a0_1,.slice A0_2 l0_2.length c0_2],.slice Ao12 t836.length co12] rfl (by (try simp only [List.map_toArray,List.map_cons,List.map_nil]);first|done|rfl|(simp only [List.length_drop,List.length_take];rfl)) ?_;(with_reducible refine (phasorref19_only.calls k a0_0 a0_1 _ _ l0_2 _ _ t836 t840 t841 t842 _ ?side1 ?side2 ?side3 ?side4 A5.out).mono ?_);(case side1 => repeat (first|exact (Kd.C_below HR0_2.out HB.out)|(with_reducible refine Kd.C_alloc ?_ _)|(with_reducible refine Kd.C_drewN ?_ _)|(with_reducible refine Kd.C_drew ?_)));(case side2 => exact HC0_2.out);(case side3 => repeat (first|exact (Kd.R_reads' HO838.out).2.2|(with_reducible refine Kd.C_alloc ?_ _)|(with_reducible refine Kd.C_drewN ?_ _)|(with_reducible refine Kd.C_drew ?_)));(case side4 => exact (Kd.R_reads' HO838.out).2.1);rintro e w13 ⟨v843,rfl,ho0,hb⟩;refine ⟨_,rfl,?_⟩;have n0_:=Aside0.mk (Kd.R_below (by (with_reducible repeat (first|apply Kd.R_alloc|apply Kd.R_drewN|apply Kd.R_drew));exact HO838.out) hb);have n1_:=Aside0.mk (Kd.N_lower (Kd.N_mono (ok':=fun k_ => (w.heap.size≤k_)∧some k_≠(.slice Ao12 t836.length co12 : Value).ownBlock∧k_≠gb834∧k_≠gb835) ho0 (fun k_ hk_ => ⟨(Nat.le_trans (below_size (by repeat (first|(with_reducible first|exact HB.out|apply below_alloc|apply pw_below_drewN|apply below_drew1|refine below_set ?_ GE834.out|refine below_set ?_ GE835.out)|exact HB.out))) hk_),(Kd.fresh' (Kd.R_lt (by (with_reducible repeat (first|apply Kd.R_alloc|apply Kd.R_drewN|apply Kd.R_drew));exact HO838.out)) k_ hk_),(Kd.freshB (g:=gb834) (o:=.cells #[.int .i64 a0_0,.int .i64 a0_1,.slice A0_2 l0_2.length c0_2] 24 (0,0)) (by (with_reducible repeat (first|refine blk_drewN ?_ _|refine blk_drew ?_|refine blk_alloc ?_ _));exact BK834.out) k_ hk_),(Kd.freshB (g:=gb835) (o:=.cells #[.int .i64 0,.int .i64 0,.slice none 0 0] 24 (0,0)) (by (with_reducible repeat (first|refine blk_drewN ?_ _|refine blk_drew ?_|refine blk_alloc ?_ _));exact BK835.out) k_ hk_)⟩)) (below_size (by repeat (first|(with_reducible first|exact HB.out|apply below_alloc|apply pw_below_drewN|apply below_drew1|refine below_set ?_ GE834.out|refine below_set ?_ GE835.out)|exact HB.out))));have n2_:=Aside0.mk (blk_below (g:=gb834) (o:=.cells #[.int .i64 a0_0,.int .i64 a0_1,.slice A0_2 l0_2.length c0_2] 24 (0,0)) (by (with_reducible repeat (first|refine blk_drewN ?_ _|refine blk_drew ?_|refine blk_alloc ?_ _));exact BK834.out) hb);have n3_:=Aside0.mk (blk_below (g:=gb835) (o:=.cells #[.int .i64 0,.int .i64 0,.slice none 0 0] 24 (0,0)) (by (with_reducible repeat (first|refine blk_drewN ?_ _|refine blk_drew ?_|refine blk_alloc ?_ _));exact BK835.out) hb);have n4_:=Aside0.mk (below_step (by repeat (first|(with_reducible first|exact HB.out|apply below_alloc|apply pw_below_drewN|apply below_drew1|refine below_set ?_ GE834.out|refine below_set ?_ GE835.out)|exact HB.out)) hb);clear HO838;clear BK834;clear BK835;clear HB;have HO838:=n0_;have HO844:=n1_;have BK834:=n2_;have BK835:=n3_;have HB:=n4_;clear n0_ n1_ n2_ n3_ n4_;(try clear hb);(try clear hb2);(try clear hk);(try clear hi);(try clear ho0);have hcz14_0 : w13.cell? ⟨gb835,0,none⟩=some (.int .i64 0):=(blk_cell BK835.out 0).trans rfl;have hcz14_1 : w13.cell? ⟨gb835,1,none⟩=some (.int .i64 0):=(blk_cell BK835.out 1).trans rfl;have hcz14_2 : w13.cell? ⟨gb835,2,none⟩=some (.slice none 0 0):=(blk_cell BK835.out 2).trans rfl;have hfz14_0:=blk_frozen BK835.out 0;have hfz14_1:=blk_frozen BK835.out 1;have hfz14_2:=blk_frozen BK835.out 2;obtain ⟨Ao15,co15,eo15⟩:=Kd.N_slice HO844.out;subst eo15))
  refine bodyPost_ret (results_ct rfl _ _ gb835 24 #[.int .i64 t840,.int .i64 t841,.slice Ao15 t842.length co15] (0,0) _ rfl (by (with_reducible repeat (first|refine blk_drewN ?_ _|refine blk_drew ?_|refine blk_alloc ?_ _));refine blk_put (cs:=#[.int .i64 t840,.int .i64 t841,.slice none 0 0]) ?_ 2 _ rfl;(with_reducible repeat (first|refine blk_drewN ?_ _|refine blk_drew ?_|refine blk_alloc ?_ _));refine blk_put (cs:=#[.int .i64 t840,.int .i64 0,.slice none 0 0]) ?_ 1 _ rfl;(with_reducible repeat (first|refine blk_drewN ?_ _|refine blk_drew ?_|refine blk_alloc ?_ _));refine blk_put (cs:=#[.int .i64 0,.int .i64 0,.slice none 0 0]) ?_ 0 _ rfl;(with_reducible repeat (first|refine blk_drewN ?_ _|refine blk_drew ?_|refine blk_alloc ?_ _));exact BK835.out) Try.underlying24 rfl (by kernel_rfl)) rfl ?_
  exact ⟨_,by first|rfl|(simp [errW_none,errW_some] <;> rfl)|(simp [*,errW_none,errW_some] <;> rfl),by (with_reducible repeat (first|apply Kd.N_alloc|apply Kd.N_drewN|apply Kd.N_drew));exact Kd.N_mono (Kd.N_far (p:=⟨gb835,2,none⟩) (Kd.N_far (p:=⟨gb835,1,none⟩) (Kd.N_far (p:=⟨gb835,0,none⟩) (Kd.N_mono HO844.out (fun k_ hk => (⟨hk,hk.2.2.2⟩ : _∧k_≠gb835))) (fun _ hk => hk.2) (.int .i64 t840)) (fun _ hk => hk.2) (.int .i64 t841)) (fun _ hk => hk.2) (.slice Ao15 t842.length co15)) (fun _ hk => hk.1.1),by repeat (first|(with_reducible first|exact HB.out|apply below_alloc|apply pw_below_drewN|apply below_drew1|refine below_set ?_ GE834.out|refine below_set ?_ GE835.out)|exact HB.out)⟩
 ·rw [if_neg c4] at H
  have c4b0 : (t839 == 0)=false:=beq_eq_false_iff_ne.mpr c4
  have c4b1 : (t839 != 0)=true:=bne_iff_ne.mpr c4
  simp only [Option.some.injEq,Prod.mk.injEq] at H
  obtain ⟨rfl,rfl,rfl,rfl⟩:=H
  go_enter Try.func41,Try.ntmps41
  go_wp2_with (first|((with_reducible refine gate_dst (N:=2) rfl ?_);refine box_event ?hg (N:=2) ?hd (cs:=#[.int .i64 a0_0,.int .i64 a0_1,.slice A0_2 l0_2.length c0_2]) (t:=24) ?hr ?_;(case hd => rfl);(case hg => rfl);(case hr => first|(go_simp;done)|(go_simp;rfl));intro gb834 hg w16 hbox hb;have n0_:=Aside0.mk (below_step (by repeat (first|(with_reducible first|exact HB.out|apply below_alloc|apply pw_below_drewN|apply below_drew1)|exact HB.out)) hb);have n1_:=Aside0.mk (hbox);have n2_:=Aside0.mk ((by rw [hg];exact (below_size (by repeat (first|(with_reducible first|exact HB.out|apply below_alloc|apply pw_below_drewN|apply below_drew1)|exact HB.out))) : w.heap.size≤gb834));have n3_:=Aside0.mk ((by rw [hg];exact (below_size (by repeat (first|(with_reducible first|exact HB.out|apply below_alloc|apply pw_below_drewN|apply below_drew1)|exact HB.out))) : w.heap.size≤gb834));clear HB;have HB:=n0_;have BK834:=n1_;have GW834:=n2_;have GE834:=n3_;clear n0_ n1_ n2_ n3_;clear hb hbox hg)|((with_reducible refine gate_dst (N:=4) rfl ?_);refine box_event ?hg (N:=4) ?hd (cs:=#[.int .i64 0,.int .i64 0,.slice none 0 0]) (t:=24) ?hr ?_;(case hd => rfl);(case hg => rfl);(case hr => first|(go_simp;done)|(go_simp;rfl));intro gb835 hg w17 hbox hb;have n0_:=Aside0.mk (blk_below (g:=gb834) (o:=.cells #[.int .i64 a0_0,.int .i64 a0_1,.slice A0_2 l0_2.length c0_2] 24 (0,0)) (by (with_reducible repeat (first|refine blk_drewN ?_ _|refine blk_drew ?_|refine blk_alloc ?_ _));exact BK834.out) hb);have n1_:=Aside0.mk (below_step (by repeat (first|(with_reducible first|exact HB.out|apply below_alloc|apply pw_below_drewN|apply below_drew1|refine below_set ?_ GE834.out)|exact HB.out)) hb);have n2_:=Aside0.mk (hbox);have n3_:=Aside0.mk ((by rw [hg];exact (below_size (by repeat (first|(with_reducible first|exact HB.out|apply below_alloc|apply pw_below_drewN|apply below_drew1|refine below_set ?_ GE834.out)|exact HB.out))) : w.heap.size≤gb835));have n4_:=Aside0.mk ((by rw [hg];exact (below_size (by repeat (first|(with_reducible first|exact HB.out|apply below_alloc|apply pw_below_drewN|apply below_drew1|refine below_set ?_ GE834.out)|exact HB.out))) : w.heap.size≤gb835));have n5_:=Aside0.mk ((by rw [hg];exact Nat.ne_of_lt (blk_lt (g:=gb834) (o:=.cells #[.int .i64 a0_0,.int .i64 a0_1,.slice A0_2 l0_2.length c0_2] 24 (0,0)) (by (with_reducible repeat (first|refine blk_drewN ?_ _|refine blk_drew ?_|refine blk_alloc ?_ _));exact BK834.out)) : gb834≠gb835));have n6_:=Aside0.mk ((by rw [hg];exact Nat.ne_of_gt (blk_lt (g:=gb834) (o:=.cells #[.int .i64 a0_0,.int .i64 a0_1,.slice A0_2 l0_2.length c0_2] 24 (0,0)) (by (with_reducible repeat (first|refine blk_drewN ?_ _|refine blk_drew ?_|refine blk_alloc ?_ _));exact BK834.out)) : gb835≠gb834));clear BK834;clear HB;have BK834:=n0_;have HB:=n1_;have BK835:=n2_;have GW835:=n3_;have GE835:=n4_;have NB834_835:=n5_;have NB835_834:=n6_;clear n0_ n1_ n2_ n3_ n4_ n5_ n6_;clear hb hbox hg;have hnb18:=NB834_835.out;have hnc18:=NB835_834.out;have hcz19_0 : w17.cell? ⟨gb834,0,none⟩=some (.int .i64 a0_0):=(blk_cell BK834.out 0).trans rfl;have hcz19_1 : w17.cell? ⟨gb834,1,none⟩=some (.int .i64 a0_1):=(blk_cell BK834.out 1).trans rfl;have hcz19_2 : w17.cell? ⟨gb834,2,none⟩=some (.slice A0_2 l0_2.length c0_2):=(blk_cell BK834.out 2).trans rfl;have hfz19_0:=blk_frozen BK834.out 0;have hfz19_1:=blk_frozen BK834.out 1;have hfz19_2:=blk_frozen BK834.out 2)|((with_reducible refine gate_callee (f:=32) rfl ?_);refine goesL_ (some 11) rfl rfl Try.func32 (by kernel_rfl) rfl #[.agg #[.int .i64 a0_0,.int .i64 a0_1,.slice A0_2 l0_2.length c0_2],.slice A1 l1.length c1] rfl (by (try simp only [List.map_toArray,List.map_cons,List.map_nil]);first|done|rfl|(simp only [List.length_drop,List.length_take];rfl)) ?_;(with_reducible refine (phasorref19_Past.calls k a0_0 a0_1 _ _ l0_2 _ _ l1 t836 t839 _ ?side1 ?side2 ?side3 ?side4 A3.out).mono ?_);(case side1 => repeat (first|exact (Kd.C_below HR0_2.out HB.out)|(with_reducible refine Kd.C_alloc ?_ _)|(with_reducible refine Kd.C_drewN ?_ _)|(with_reducible refine Kd.C_drew ?_)));(case side2 => exact HC0_2.out);(case side3 => repeat (first|exact (Kd.C_below HR1.out HB.out)|(with_reducible refine Kd.C_alloc ?_ _)|(with_reducible refine Kd.C_drewN ?_ _)|(with_reducible refine Kd.C_drew ?_)));(case side4 => exact HC1.out);rintro e w20 ⟨v837,rfl,ho0,hb⟩;refine ⟨_,rfl,?_⟩;have n0_:=Aside0.mk (Kd.R_lower (Kd.R_newM (M:=fun k_ => (w.heap.size≤k_)) ho0 (below_size (by repeat (first|(with_reducible first|exact HB.out|apply below_alloc|apply pw_below_drewN|apply below_drew1|refine below_set ?_ GE834.out|refine below_set ?_ GE835.out)|exact HB.out))) (fun k_ h_ => h_)) (below_size (by repeat (first|(with_reducible first|exact HB.out|apply below_alloc|apply pw_below_drewN|apply below_drew1|refine below_set ?_ GE834.out|refine below_set ?_ GE835.out)|exact HB.out))));have n1_:=Aside0.mk (blk_below (g:=gb834) (o:=.cells #[.int .i64 a0_0,.int .i64 a0_1,.slice A0_2 l0_2.length c0_2] 24 (0,0)) (by (with_reducible repeat (first|refine blk_drewN ?_ _|refine blk_drew ?_|refine blk_alloc ?_ _));exact BK834.out) hb);have n2_:=Aside0.mk (blk_below (g:=gb835) (o:=.cells #[.int .i64 0,.int .i64 0,.slice none 0 0] 24 (0,0)) (by (with_reducible repeat (first|refine blk_drewN ?_ _|refine blk_drew ?_|refine blk_alloc ?_ _));exact BK835.out) hb);have n3_:=Aside0.mk (below_step (by repeat (first|(with_reducible first|exact HB.out|apply below_alloc|apply pw_below_drewN|apply below_drew1|refine below_set ?_ GE834.out|refine below_set ?_ GE835.out)|exact HB.out)) hb);clear BK834;clear BK835;clear HB;have HO838:=n0_;have BK834:=n1_;have BK835:=n2_;have HB:=n3_;clear n0_ n1_ n2_ n3_;(try clear hb);(try clear hb2);(try clear hk);(try clear hi);(try clear ho0);have hcz21_0 : w20.cell? ⟨gb835,0,none⟩=some (.int .i64 0):=(blk_cell BK835.out 0).trans rfl;have hcz21_1 : w20.cell? ⟨gb835,1,none⟩=some (.int .i64 0):=(blk_cell BK835.out 1).trans rfl;have hcz21_2 : w20.cell? ⟨gb835,2,none⟩=some (.slice none 0 0):=(blk_cell BK835.out 2).trans rfl;have hfz21_0:=blk_frozen BK835.out 0;have hfz21_1:=blk_frozen BK835.out 1;have hfz21_2:=blk_frozen BK835.out 2))
  refine bodyPost_ret (results_ct rfl _ _ gb835 24 #[.int .i64 0,.int .i64 0,.slice none 0 0] (0,0) _ rfl (by (with_reducible repeat (first|refine blk_drewN ?_ _|refine blk_drew ?_|refine blk_alloc ?_ _));refine blk_put (cs:=#[.int .i64 0,.int .i64 0,.slice none 0 0]) ?_ 2 _ rfl;(with_reducible repeat (first|refine blk_drewN ?_ _|refine blk_drew ?_|refine blk_alloc ?_ _));refine blk_put (cs:=#[.int .i64 0,.int .i64 0,.slice none 0 0]) ?_ 1 _ rfl;(with_reducible repeat (first|refine blk_drewN ?_ _|refine blk_drew ?_|refine blk_alloc ?_ _));refine blk_put (cs:=#[.int .i64 0,.int .i64 0,.slice none 0 0]) ?_ 0 _ rfl;(with_reducible repeat (first|refine blk_drewN ?_ _|refine blk_drew ?_|refine blk_alloc ?_ _));exact BK835.out) Try.underlying24 rfl (by kernel_rfl)) rfl ?_
  exact ⟨_,by first|rfl|(simp [errW_none,errW_some] <;> rfl)|(simp [*,errW_none,errW_some] <;> rfl),by first|exact Kd.S_nil _ _ _ _ _|exact Kd.N_nil _ _ _ _ _|exact Kd.V_nil _ _ _ _ _|exact Kd.Q_nil _ _ _ _ _|exact Kd.R_nil _ _ _ _ _,by repeat (first|(with_reducible first|exact HB.out|apply below_alloc|apply pw_below_drewN|apply below_drew1|refine below_set ?_ GE834.out|refine below_set ?_ GE835.out)|exact HB.out)⟩
end Go.Proofs.Ytbelnopbggkdfaa.Q
end

section
namespace Go.Proofs.Ytbelnopbggkdfaa.Q
open Go.RowKit Go.Proofs.YtbelnopbggkdfaaW.PrintWords Go.Proofs.YtbelnopbggkdfaaW.PrintLast Go.Proofs.YtbelnopbggkdfaaW.PrintMore
theorem ronly_l0 {q b : Int} {l : List Opn} {ord : List Int} (ho : ∀ x ∈ ord,0≤x∧x < (l.length : Int)) (hn : ord.length≤1000000) :
    ∀ (d i : Nat),ord.length - i=d→i≤ord.length→Evt fun k => phasorref19_only.l0 k ord (i : Int) q b l q b ((ord.take i).map (rd_T46 l))=some (q,b,ord.map (rd_T46 l))
  | 0,i,hd,hi => by
    refine (Evt.all (p:=fun _ => True) fun _ => trivial).succ fun k _ => ?_
    unfold phasorref19_only.l0
    rw [if_neg (by omega),List.take_of_length_le (by omega)]
  | d + 1,i,hd,hi => by
    have hil : i < ord.length:=by omega
    refine (ronly_l0 (q:=q) (b:=b) ho hn d (i + 1) (by omega) (by omega)).succ fun k hk => ?_
    have h2:=ho _ (List.getElem_mem hil)
    unfold phasorref19_only.l0
    rw [if_pos (by omega),if_pos (by omega),rd_nat hil,if_pos h2.1,if_pos h2.2,if_pos (by rw [List.length_map,List.length_take];omega),w64 (by omega) (by omega),show (i : Int) + 1=((i + 1 : Nat) : Int) by omega]
    have e : (ord.take i).map (rd_T46 l) ++ [(⟨(rd_T46 l ord[i]).f0,(rd_T46 l ord[i]).f1,(rd_T46 l ord[i]).f2,(rd_T46 l ord[i]).f3,(rd_T46 l ord[i]).f4,(rd_T46 l ord[i]).f5⟩ : Opn)]=(ord.take (i + 1)).map (rd_T46 l):=by
      rw [List.take_add_one,List.getElem?_eq_getElem hil,List.map_append];rfl
    rw [e,hk]
theorem ronly_is {q b : Int} {l : List Opn} {ord : List Int} (hf : ∀ o ∈ l,o.f2.length < 17592186044416) (hl : l.length < 2199023255552) (ho : ∀ x ∈ ord,0≤x∧x < (l.length : Int)) (hn : ord.length≤1000000) :
    Evt fun k => phasorref19_only.f k q b l ord=some (q,b,ord.map (rd_T46 l)) :=
  ((rcopy_is (q:=q) (b:=b) hf hl).and (ronly_l0 (q:=q) (b:=b) ho hn ord.length 0 (by omega) (by omega))).mono fun k ⟨h1,h2⟩ => by
    unfold phasorref19_only.f
    rw [h1]
    simpa using h2
theorem prune_facts {q b : Int} {l : List Opn} {qs : List Int} (hw : WfL l) : ∃ q' b' s e,(∀ o ∈ s,o ∈ l)∧s.length≤4096∧(Evt fun k => layers_Prune.f k q b l qs=some (q',b',s,e))∧Evt fun k => phasorref19_Prune.f k q b l qs=some (q',b',s,e):=by
  cases h : okc q b l
  · refine ⟨0,0,[],80,by simp,by simp,(cone_no (qs:=qs) true hw h).mono fun k ⟨h1,_⟩ => ?_,(cone_no (qs:=qs) true hw h).mono fun k ⟨_,h1⟩ => ?_⟩
    · unfold layers_Prune.f layers_Past.f
      rw [h1]
      rfl
    · unfold phasorref19_Prune.f phasorref19_Past.f
      rw [h1]
      rfl
  · have hc:=okc_facts h
    have hn:=hc.n
    obtain ⟨r,e,r1,r2,r3,r4⟩:=cone_is (qs:=qs) true hw hc
    by_cases he : e=0
    · subst he
      have o1:=only_is (q:=q) (b:=b) (l:=l) (ord:=r) (fun o ho => (hc.op o ho).len) (by omega) r2 (by omega)
      have o2:=ronly_is (q:=q) (b:=b) (l:=l) (ord:=r) (fun o ho => by have:=(hc.op o ho).len;omega) (by omega) r2 (by omega)
      refine ⟨q,b,r.map (rd_T46 l),0,fun o ho => ?_,by simpa using r1,(r4.and o1).mono fun k ⟨⟨h1,_⟩,h2⟩ => ?_,(r4.and o2).mono fun k ⟨⟨_,h1⟩,h2⟩ => ?_⟩
      · obtain ⟨x,hx,rfl⟩:=List.mem_map.1 ho
        have:=r2 x hx
        obtain ⟨i,rfl⟩ : ∃ i : Nat,x=i:=⟨x.toNat,by omega⟩
        rw [rdT_nat (by omega)]
        exact List.getElem_mem _
      · unfold layers_Prune.f layers_Past.f
        rw [h1]
        simp only [Option.bind_some]
        rw [if_pos trivial,h2]
        rfl
      · unfold phasorref19_Prune.f phasorref19_Past.f
        rw [h1]
        simp only [Option.bind_some]
        rw [if_pos trivial,h2]
        rfl
    · refine ⟨0,0,[],e,by simp,by simp,r4.mono fun k ⟨h1,_⟩ => ?_,r4.mono fun k ⟨_,h1⟩ => ?_⟩
      · unfold layers_Prune.f layers_Past.f
        rw [h1]
        simp only [Option.bind_some]
        rw [if_neg he]
      · unfold phasorref19_Prune.f phasorref19_Past.f
        rw [h1]
        simp only [Option.bind_some]
        rw [if_neg he]
structure OrdI (n : Nat) (key : Int→Int) (c : Int) (i : Nat) (xs : List Int) : Prop where
  mem : ∀ x : Int,x ∈ xs↔0≤x∧x < n∧(key x < c∨key x=c∧x < i)
  srt : xs.Pairwise (ltK key)
theorem OrdI.len {n : Nat} {key : Int→Int} {c : Int} {i : Nat} {xs : List Int} (h : OrdI n key c i xs) : xs.length≤n :=
  nodup_len n xs (h.srt.imp fun {x y} hxy e => by subst e;exact ltK_asymm hxy hxy) fun x hx => by have:=(h.mem x).1 hx;omega
theorem OrdI.step {n : Nat} {key : Int→Int} {c : Int} {i : Nat} {xs : List Int} (h : OrdI n key c i xs) (hi : i < n) : OrdI n key c (i + 1) (if key (i : Int)=c then xs ++ [(i : Int)] else xs):=by
  by_cases hk : key (i : Int)=c
  · rw [if_pos hk]
    refine ⟨fun x => ?_,List.pairwise_append.2 ⟨h.srt,List.pairwise_singleton _ _,fun x hx y hy => ?_⟩⟩
    · rw [List.mem_append,h.mem,List.mem_singleton]
      constructor
      · rintro (⟨a,b,c1⟩|rfl)
        · exact ⟨a,b,by omega⟩
        · exact ⟨by omega,by omega,.inr ⟨hk,by omega⟩⟩
      · rintro ⟨a,b,c1⟩
        by_cases e : x=i
        · exact .inr e
        · exact .inl ⟨a,b,by omega⟩
    · obtain rfl:=List.mem_singleton.1 hy
      have:=(h.mem x).1 hx
      unfold ltK
      omega
  · rw [if_neg hk]
    refine ⟨fun x => ?_,h.srt⟩
    rw [h.mem]
    constructor
    · rintro ⟨a,b,c1⟩;exact ⟨a,b,by omega⟩
    · rintro ⟨a,b,c1 | ⟨c1,c2⟩⟩
      · exact ⟨a,b,.inl c1⟩
      · by_cases e : x=i
        · subst e;exact absurd c1 hk
        · exact ⟨a,b,.inr ⟨c1,by omega⟩⟩
theorem OrdI.next {n : Nat} {key : Int→Int} {c : Int} {xs : List Int} (h : OrdI n key c n xs) : OrdI n key (c + 1) 0 xs :=
  ⟨fun x => by rw [h.mem];constructor <;> (rintro ⟨a,b,c1⟩;exact ⟨a,b,by omega⟩),h.srt⟩
section
variable {q b D : Int} {l : List Opn} {E : List Int} {R : Int × Int × List Opn × Int}
theorem skey_bar {i : Nat} (hi : i < l.length) : skey l E (i : Int)=2 * nth E i + (if l[i].f0=4 then 1 else 0):=by
  unfold skey mkey
  rw [rd_nth,rdT_nat hi]
  split <;> omega
theorem rsort_l2 (hE : E.length=l.length) (hn : l.length≤4096) (h0 : ∀ x ∈ E,0≤x∧x≤l.length) (m last : Int) (hl : last=0∨last=1) (hm : 0≤m∧m≤100000)
    (hR : ∀ xs,OrdI l.length (skey l E) (2 * m + last + 1) 0 xs→Evt fun k => phasorref19_Sorted.l1 k E D xs m (last + 1) q b l=some R) :
    ∀ (d i : Nat) (xs : List Int),l.length - i=d→i≤l.length→OrdI l.length (skey l E) (2 * m + last) i xs→Evt fun k => phasorref19_Sorted.l2 k E D xs m last (i : Int) q b l=some R
  | 0,i,xs,hd,hi,hx => by
    obtain rfl : i=l.length:=by omega
    refine (hR xs hx.next).succ fun k hk => ?_
    unfold phasorref19_Sorted.l2
    rw [if_neg (by omega),w64 (by omega) (by omega),hk]
  | d + 1,i,xs,hd,hi,hx => by
    have hil : i < l.length:=by omega
    have hk1:=skey_bar (E:=E) hil
    have hxl:=hx.len
    have hEi:=h0 _ (List.getElem_mem (l:=E) (n:=i) (by omega))
    rw [← nth_get (by omega)] at hEi
    have ih:=rsort_l2 hE hn h0 m last hl hm hR d (i + 1) _ (by omega) (by omega) (hx.step hil)
    have hbar:=bar_is (q:=q) (b:=b) hil
    refine ih.succ fun k hk => ?_
    unfold phasorref19_Sorted.l2
    rw [if_pos (by omega),if_pos (by omega),rd_nth,hbar,w64 (x:=(i : Int) + 1) (by omega) (by omega),show (i : Int) + 1=((i + 1 : Nat) : Int) by omega]
    simp only [Option.bind_some]
    by_cases hm2 : nth E i=m
    · rw [if_pos hm2]
      by_cases hb4 : l[i].f0=4
      · rw [if_pos hb4] at hk1
        rcases hl with rfl|rfl
        · rw [if_neg (by omega)] at hk
          rw [if_neg (by rw [beq_iff_eq.2 hb4];decide),hk]
        · rw [if_pos (by omega)] at hk
          rw [if_pos (by rw [beq_iff_eq.2 hb4];decide),if_pos (by omega),hk]
      · rw [if_neg hb4] at hk1
        rcases hl with rfl|rfl
        · rw [if_pos (by omega)] at hk
          rw [if_pos (by rw [beq_eq_false_iff_ne.2 hb4];decide),if_pos (by omega),hk]
        · rw [if_neg (by omega)] at hk
          rw [if_neg (by rw [beq_eq_false_iff_ne.2 hb4];decide),hk]
    · rw [if_neg hm2]
      rw [if_neg (by split at hk1 <;> omega)] at hk
      exact hk
theorem rsort_l0 (hE : E.length=l.length) (hn : l.length≤4096) (h0 : ∀ x ∈ E,0≤x∧x≤l.length) (hD : D≤5000) (hR : ∀ xs,OrdI l.length (skey l E) (2 * D + 2) 0 xs→Evt fun k => ((phasorref19_only.f k q b l xs).bind fun t => some (t.1,t.2.1,t.2.2,(0 : Int)))=some R) :
    ∀ (d : Nat) (m : Int) (xs : List Int),(D + 1 - m).toNat=d→0≤m→m≤D + 1→OrdI l.length (skey l E) (2 * m) 0 xs→Evt fun k => phasorref19_Sorted.l0 k E D xs m q b l=some R
  | 0,m,xs,hd,hm0,hm1,hx => by
    obtain rfl : m=D + 1:=by omega
    refine (hR xs (by rwa [show 2 * D + 2=2 * (D + 1) by omega])).succ fun k hk => ?_
    unfold phasorref19_Sorted.l0
    rw [if_neg (by omega)]
    exact hk
  | d + 1,m,xs,hd,hm0,hm1,hx => by
    have ih : ∀ xs,OrdI l.length (skey l E) (2 * (m + 1)) 0 xs→Evt fun k => phasorref19_Sorted.l0 k E D xs (m + 1) q b l=some R:=fun xs hx => rsort_l0 hE hn h0 hD hR d (m + 1) xs (by omega) (by omega) (by omega) hx
    have c2 : ∀ xs,OrdI l.length (skey l E) (2 * m + 1 + 1) 0 xs→Evt fun k => phasorref19_Sorted.l1 k E D xs m (1 + 1) q b l=some R:=fun xs hx => (ih xs (by rwa [show 2 * (m + 1)=2 * m + 1 + 1 by omega])).succ fun k hk => by
      unfold phasorref19_Sorted.l1
      rw [if_neg (by omega),w64 (by omega) (by omega),hk]
    have c1 : ∀ xs,OrdI l.length (skey l E) (2 * m + 0 + 1) 0 xs→Evt fun k => phasorref19_Sorted.l1 k E D xs m (0 + 1) q b l=some R:=fun xs hx => (rsort_l2 hE hn h0 m 1 (.inr rfl) (by omega) c2 l.length 0 xs (by omega) (by omega) (by rwa [show 2 * m + 1=2 * m + 0 + 1 by omega])).succ fun k hk => by
      unfold phasorref19_Sorted.l1
      rw [if_pos (by omega)]
      exact hk
    have c0 : Evt fun k => phasorref19_Sorted.l1 k E D xs m 0 q b l=some R:=(rsort_l2 hE hn h0 m 0 (.inl rfl) (by omega) c1 l.length 0 xs (by omega) (by omega) (by rwa [show 2 * m + 0=2 * m by omega])).succ fun k hk => by
      unfold phasorref19_Sorted.l1
      rw [if_pos (by omega)]
      exact hk
    refine c0.succ fun k hk => ?_
    unfold phasorref19_Sorted.l0
    rw [if_pos (by omega)]
    exact hk
end
theorem sorted_facts {q b : Int} {l : List Opn} (hw : WfL l) : ∃ q' b' s e,(∀ o ∈ s,o ∈ l)∧s.length≤4096∧(Evt fun k => layers_Sorted.f k q b l=some (q',b',s,e))∧Evt fun k => phasorref19_Sorted.f k q b l=some (q',b',s,e):=by
  cases h : okc q b l
  · refine ⟨0,0,[],80,by simp,by simp,(early_no (q:=q) (b:=b) hw h).mono fun k h1 => ?_,((rearly_no (q:=q) (b:=b) hw h).and (rdepth_no (q:=q) (b:=b) hw h)).mono fun k ⟨h1,h2⟩ => ?_⟩
    · unfold layers_Sorted.f
      rw [h1]
      rfl
    · unfold phasorref19_Sorted.f
      rw [h1,h2]
      rfl
  · have hc:=okc_facts h
    have hn:=hc.n
    obtain ⟨E,e1,e2,e3,e4⟩:=Early_is hw hc
    obtain ⟨D,d1,d2,d3,d4⟩:=Depth_is e1 e2 e3
    have re:=rearly_is hw hc e2 e4
    have rdp:=rdepth_of re (fun x hx => (e3 x hx).1) (by omega) (d4.congr fun x => by rw [e2])
    have hs:=Sorted_is hc e1 e2 e3
    have hsl : ∀ x ∈ sortO (skey l E) (upTo l.length),0≤x∧x < (l.length : Int):=fun x hx => sortO_mem.1 hx
    have hro:=ronly_is (q:=q) (b:=b) (l:=l) (ord:=sortO (skey l E) (upTo l.length)) (fun o ho => by have:=(hc.op o ho).len;omega) (by omega) hsl (by rw [sortO_len];omega)
    have hk0 : ∀ j : Nat,j < l.length→0≤skey l E (j : Int)∧skey l E (j : Int) < 2 * D + 2:=fun j hj => by
      have h1:=skey_bar (E:=E) hj
      have h2:=e3 _ (List.getElem_mem (l:=E) (n:=j) (by omega))
      rw [← nth_get (by omega)] at h2
      have h3:=d4.1 _ ⟨j,hj,rfl⟩
      split at h1 <;> omega
    have hall:=rsort_l0 (q:=q) (b:=b) (D:=D) (R:=(q,b,(sortO (skey l E) (upTo l.length)).map (rd_T46 l),0)) e2 hn e3 (by omega) (fun xs hx => by
      have e : xs=sortO (skey l E) (upTo l.length):=by
        refine srt_unique ?_ hx.srt (sortO_srt _ _ (upTo_nodup _))
        refine (List.perm_ext_iff_of_nodup (hx.srt.imp fun {x y} hxy e => by subst e;exact ltK_asymm hxy hxy) ((sortO_srt _ _ (upTo_nodup _)).imp fun {x y} hxy e => by subst e;exact ltK_asymm hxy hxy)).2 fun x => ?_
        rw [hx.mem,sortO_mem]
        constructor
        · rintro ⟨a,b,_⟩;exact ⟨a,b⟩
        · rintro ⟨a,b⟩
          obtain ⟨j,rfl⟩ : ∃ j : Nat,x=j:=⟨x.toNat,by omega⟩
          exact ⟨a,b,.inl (hk0 j (by omega)).2⟩
      rw [e]
      refine hro.mono fun k hk => ?_
      rw [hk]
      rfl) (D + 1).toNat 0 [] (by omega) (by omega) (by omega) ⟨fun x => by
        constructor
        · intro hx;cases hx
        · rintro ⟨a,b,c⟩
          obtain ⟨j,rfl⟩ : ∃ j : Nat,x=j:=⟨x.toNat,by omega⟩
          have:=(hk0 j (by omega)).1
          omega,List.Pairwise.nil⟩
    refine ⟨q,b,_,0,fun o ho => ?_,by rw [List.length_map,sortO_len];exact hn,hs,((re.and rdp).and hall).mono fun k ⟨⟨h1,h2⟩,h3⟩ => ?_⟩
    · obtain ⟨x,hx,rfl⟩:=List.mem_map.1 ho
      have:=hsl x hx
      obtain ⟨i,rfl⟩ : ∃ i : Nat,x=i:=⟨x.toNat,by omega⟩
      rw [rdT_nat (by omega)]
      exact List.getElem_mem _
    · unfold phasorref19_Sorted.f
      rw [h1,h2]
      simp only [Option.bind_some]
      rw [if_pos trivial]
      exact h3
def momR (l : List Opn) (E : List Int) (n : Nat) (m : Int) : List Int:=((List.range n).filter fun i => nth E i == m && !((at_ l i).f0 == 4)).map fun (i : Nat) => (i : Int)
theorem momR_len (l : List Opn) (E : List Int) (n : Nat) (m : Int) : (momR l E n m).length≤n:=by
  unfold momR
  rw [List.length_map]
  exact Nat.le_trans (List.length_filter_le _ _) (by simp)
theorem momR_succ (l : List Opn) (E : List Int) (n : Nat) (m : Int) : momR l E (n + 1) m=if nth E n=m∧(at_ l n).f0≠4 then momR l E n m ++ [(n : Int)] else momR l E n m:=by
  unfold momR
  rw [List.range_succ,List.filter_append,List.map_append]
  by_cases c : nth E n=m∧(at_ l n).f0≠4
  · rw [if_pos c]
    have : (nth E n == m && !((at_ l n).f0 == 4))=true:=by simp [c.1,c.2]
    simp [this]
  · rw [if_neg c]
    have : (nth E n == m && !((at_ l n).f0 == 4))=false:=by
      rw [← Bool.not_eq_true]
      simpa using c
    simp [this]
def momS (l : List Opn) (E : List Int) (n : Nat) (D : Nat) : List (List Int):=(List.range D).map fun (m : Nat) => momR l E n ((m : Int) + 1)
theorem moments_l0 {q b : Int} {l : List Opn} {E : List Int} {D : Nat} (hE : E.length=l.length) (hn : l.length≤4096) (hD5 : D≤5000) (hD : ∀ i,i < l.length→nth E i≤D) (h1 : ∀ i,i < l.length→(at_ l i).f0≠4→1≤nth E i) :
    ∀ (d i : Nat),l.length - i=d→i≤l.length→Evt fun k => layers_Moments.l0 k (momS l E i D) E (E.length : Int) (i : Int) q b l=some (momS l E l.length D,0)
  | 0,i,hd,hi => by
    obtain rfl : i=l.length:=by omega
    refine (Evt.all (p:=fun _ => True) fun _ => trivial).succ fun k _ => ?_
    unfold layers_Moments.l0
    rw [if_neg (by omega)]
  | d + 1,i,hd,hi => by
    have hil : i < l.length:=by omega
    have hDi:=hD i hil
    refine (moments_l0 (q:=q) (b:=b) hE hn hD5 hD h1 d (i + 1) (by omega) (by omega)).succ fun k hk => ?_
    unfold layers_Moments.l0
    rw [if_pos (by omega),if_pos (by omega),if_pos (by omega),if_pos (by omega),rdT_nat hil,← at_get hil,rd_nth,w64 (x:=(i : Int) + 1) (by omega) (by omega),show (i : Int) + 1=((i + 1 : Nat) : Int) by omega]
    by_cases c4 : (at_ l i).f0=4
    · rw [if_pos c4]
      have e : momS l E (i + 1) D=momS l E i D:=by
        unfold momS
        refine List.map_congr_left fun m _ => ?_
        rw [momR_succ,if_neg (fun h => h.2 c4)]
      rwa [e] at hk
    · have hEi:=h1 i hil c4
      rw [if_neg c4,w64 (x:=nth E i - 1) (by omega) (by omega),if_pos (by omega),if_pos (by simp [momS];omega)]
      obtain ⟨m,hm⟩ : ∃ m : Nat,nth E i - 1=m:=⟨(nth E i - 1).toNat,by omega⟩
      have hmD : m < D:=by omega
      have er : rd_L1 (momS l E i D) (nth E i - 1)=momR l E i (nth E i):=by
        rw [hm]
        unfold rd_L1 momS
        rw [Int.toNat_natCast,List.getD_eq_getElem?_getD,List.getElem?_map,List.getElem?_range hmD]
        simp only [Option.map_some,Option.getD_some]
        congr 1
        omega
      have hml:=momR_len l E i (nth E i)
      rw [er,if_pos (by omega)]
      have e : (momS l E i D).set (nth E i - 1).toNat (momR l E i (nth E i) ++ [(i : Int)])=momS l E (i + 1) D:=by
        rw [hm,Int.toNat_natCast]
        refine List.ext_getElem (by simp [momS]) fun j j1 j2 => ?_
        rw [List.getElem_set]
        simp only [momS,List.getElem_map,List.getElem_range]
        rw [momR_succ]
        by_cases e : m=j
        · subst e
          rw [if_pos rfl,if_pos ⟨by omega,c4⟩]
          congr 2
          omega
        · rw [if_neg e,if_neg (by omega)]
      rw [e,hk]
theorem rmoments_l1 {q b D m : Int} {l : List Opn} {E : List Int} {out : List (List Int)} {R : List (List Int) × Int} (hE : E.length=l.length) (hn : l.length≤4096) (hm : 0≤m∧m≤100000) (ho : out.length≤100000)
    (hR : Evt fun k => phasorref19_Moments.l0 k E D (out ++ [momR l E l.length m]) (m + 1) q b l=some R) :
    ∀ (d i : Nat),l.length - i=d→i≤l.length→Evt fun k => phasorref19_Moments.l1 k E D out m (momR l E i m) (i : Int) q b l=some R
  | 0,i,hd,hi => by
    obtain rfl : i=l.length:=by omega
    refine hR.succ fun k hk => ?_
    unfold phasorref19_Moments.l1
    rw [if_neg (by omega),if_pos (by omega),w64 (by omega) (by omega),hk]
  | d + 1,i,hd,hi => by
    have hil : i < l.length:=by omega
    have hbar:=bar_is (q:=q) (b:=b) hil
    have hml:=momR_len l E i m
    refine (rmoments_l1 hE hn hm ho hR d (i + 1) (by omega) (by omega)).succ fun k hk => ?_
    rw [momR_succ] at hk
    unfold phasorref19_Moments.l1
    rw [if_pos (by omega),if_pos (by omega),rd_nth,hbar,w64 (x:=(i : Int) + 1) (by omega) (by omega),show (i : Int) + 1=((i + 1 : Nat) : Int) by omega]
    simp only [Option.bind_some]
    rw [← at_get hil]
    by_cases c1 : nth E i=m
    · rw [if_pos c1]
      by_cases c4 : (at_ l i).f0=4
      · rw [if_neg (fun h => h.2 c4)] at hk
        rw [if_pos (beq_iff_eq.2 c4),hk]
      · rw [if_pos ⟨c1,c4⟩] at hk
        rw [if_neg (by simpa using c4),if_pos (by omega),hk]
    · rw [if_neg (fun h => c1 h.1)] at hk
      rw [if_neg c1,hk]
theorem rmoments_l0 {q b : Int} {l : List Opn} {E : List Int} {D : Nat} (hE : E.length=l.length) (hn : l.length≤4096) (hD : D≤5000) : ∀ (d m : Nat),D - m=d→m≤D→Evt fun k => phasorref19_Moments.l0 k E (D : Int) (momS l E l.length m) ((m : Int) + 1) q b l=some (momS l E l.length D,0)
  | 0,m,hd,hm => by
    obtain rfl : m=D:=by omega
    refine (Evt.all (p:=fun _ => True) fun _ => trivial).succ fun k _ => ?_
    unfold phasorref19_Moments.l0
    rw [if_neg (by omega)]
  | d + 1,m,hd,hm => by
    have ih:=rmoments_l0 (q:=q) (b:=b) hE hn hD d (m + 1) (by omega) (by omega)
    have e : momS l E l.length (m + 1)=momS l E l.length m ++ [momR l E l.length ((m : Int) + 1)]:=by
      unfold momS
      rw [List.range_succ,List.map_append]
      rfl
    rw [e,show ((m + 1 : Nat) : Int) + 1=(m : Int) + 1 + 1 by omega] at ih
    refine (rmoments_l1 (D:=(D : Int)) (m:=(m : Int) + 1) hE hn (by omega) (by simp [momS];omega) ih l.length 0 (by omega) (by omega)).succ fun k hk => ?_
    unfold phasorref19_Moments.l0
    rw [if_pos (by omega)]
    exact hk
theorem moments_facts {q b : Int} {l : List Opn} (hw : WfL l) : ∃ ms e,ms.length≤4096∧(∀ r ∈ ms,r.length≤4096)∧(Evt fun k => layers_Moments.f k q b l=some (ms,e))∧Evt fun k => phasorref19_Moments.f k q b l=some (ms,e):=by
  cases h : okc q b l
  · refine ⟨[],80,by simp,by simp,(depth_no (q:=q) (b:=b) hw h).mono fun k h1 => ?_,((rearly_no (q:=q) (b:=b) hw h).and (rdepth_no (q:=q) (b:=b) hw h)).mono fun k ⟨h1,h2⟩ => ?_⟩
    · unfold layers_Moments.f
      rw [h1]
      rfl
    · unfold phasorref19_Moments.f
      rw [h1,h2]
      rfl
  · have hc:=okc_facts h
    have hn:=hc.n
    obtain ⟨r,r1,r2,r3,r4⟩:=early_is hc
    obtain ⟨E,e1,e2,e3,e4⟩:=Early_is hw hc
    have hr : r=E:=List.ext_getElem (by omega) fun i x1 x2 => by
      have:=r4.uniq e4 i (by omega)
      rwa [nth_get x1,nth_get x2] at this
    subst hr
    obtain ⟨D,d1,d2,d3,d4⟩:=Depth_is e1 e2 e3
    have re:=rearly_is hw hc e2 e4
    have rdp:=rdepth_of re (fun x hx => (e3 x hx).1) (by omega) (d4.congr fun x => by rw [e2])
    obtain ⟨Dn,rfl⟩ : ∃ Dn : Nat,D=Dn:=⟨D.toNat,by omega⟩
    have m1:=moments_l0 (q:=q) (b:=b) (D:=Dn) e2 hn (by omega) (fun i hi => d4.1 _ ⟨i,hi,rfl⟩) (fun i hi h4 => by
      have:=(e4 i hi).2.1
      unfold inc at this
      rw [if_neg h4] at this
      omega) l.length 0 (by omega) (by omega)
    have m2:=rmoments_l0 (q:=q) (b:=b) (E:=r) (D:=Dn) e2 hn (by omega) Dn 0 (by omega) (by omega)
    refine ⟨momS l r l.length Dn,0,by simp [momS];omega,fun x hx => ?_,(d1.and m1).mono fun k ⟨h1,h2⟩ => ?_,((re.and rdp).and m2).mono fun k ⟨⟨h1,h2⟩,h3⟩ => ?_⟩
    · obtain ⟨m,_,rfl⟩:=List.mem_map.1 hx
      exact Nat.le_trans (momR_len _ _ _ _) hn
    · unfold layers_Moments.f layers_early.f
      rw [h1]
      simp only [Option.bind_some]
      rw [if_pos trivial,if_pos (by omega),if_pos (by omega),if_pos (by omega),r1]
      simp only [Option.bind_some,Int.toNat_natCast]
      have e : List.replicate Dn ([] : List Int)=momS l r 0 Dn:=by
        unfold momS
        refine List.ext_getElem (by simp) fun j j1 j2 => ?_
        simp [momR]
      rw [e]
      exact h2
    · unfold phasorref19_Moments.f
      rw [h1,h2]
      simp only [Option.bind_some]
      rw [if_pos trivial]
      exact h3
end Go.Proofs.Ytbelnopbggkdfaa.Q
end

section
namespace Go.Proofs.Ytbelnopbggkdfaa.Q
open Go.RowKit Go.Proofs.YtbelnopbggkdfaaW.PrintWords Go.Proofs.YtbelnopbggkdfaaW.PrintLast Go.Proofs.YtbelnopbggkdfaaW.PrintMore
def TypedI (w : World) (A : Option Addr) (n : Nat) : Prop:=0 < n→∃ g o D,A=some ⟨g,o,none⟩∧w.heap[g]?=some (.cells D 3 (0,0))
theorem TypedI.below {w w1 : World} {A : Option Addr} {n : Nat} (h : TypedI w A n) (hb : Below w.heap.size w w1) : TypedI w1 A n:=fun hn => by
  obtain ⟨g,o,D,e,hg⟩:=h hn
  exact ⟨g,o,D,e,blk_below hg hb⟩
def sliceW : Kd (List Int) :=
  { Kd.slice 3 (Kd.int .i64) with
    K:=fun w xs cs => ∃ A c,cs=[.slice A xs.length c]∧xs.length≤c∧(Kd.int .i64).C w A xs.length xs∧TypedI w A xs.length
    K_len:=by
      rintro w x cs ⟨A,c,rfl,_⟩
      rfl
    K_one:=by
      rintro w x cs ⟨A,c,rfl,_⟩ u hu
      rw [List.mem_singleton.1 hu]
      rfl
    K_below:=by
      rintro w w1 x cs hb ⟨A,c,rfl,hl,hr,ht⟩
      exact ⟨A,c,rfl,hl,Kd.C_below hr hb,ht.below hb⟩
    K_of_M:=by
      rintro w base ok x cs ⟨v,rfl,h⟩
      obtain ⟨A,c,rfl⟩:=Kd.R_slice h
      obtain ⟨_,hl,hC⟩:=Kd.R_reads' h
      refine ⟨A,c,rfl,hl,hC,fun hn => ?_⟩
      obtain ⟨g,cap,e,_,_,D,hg⟩:=Kd.R_form h hn
      injection e with e1 _ _
      exact ⟨g,0,D,e1,hg⟩ }
def k46w : Kd S46:=Kd.iso (Kd.pair (Kd.int .i64) (Kd.pair (Kd.int .i64) (Kd.pair sliceW (Kd.pair (Kd.int .i64) (Kd.pair (Kd.int .i64) (Kd.int .i64)))))) (fun x : S46 => (x.f0,x.f1,x.f2,x.f3,x.f4,x.f5))
theorem k46w_open {w : World} {x : S46} {cs : List Value} (h : k46w.K w x cs) : ∃ A2 c2,cs=[.int .i64 x.f0,.int .i64 x.f1,.slice A2 x.f2.length c2,.int .i64 x.f3,.int .i64 x.f4,.int .i64 x.f5]∧x.f2.length≤c2∧(Kd.int .i64).C w A2 x.f2.length x.f2∧TypedI w A2 x.f2.length:=by
  obtain ⟨_,_,rfl,rfl,⟨_,_,rfl,rfl,⟨_,_,rfl,⟨A2,c2,rfl,l2,g2⟩,⟨_,_,rfl,rfl,⟨_,_,rfl,rfl,rfl⟩⟩⟩⟩⟩:=h
  exact ⟨A2,c2,rfl,l2,g2⟩
theorem k46w_K {w : World} {x : S46} {cs : List Value} (h : k46w.K w x cs) : k46.K w x cs:=by
  obtain ⟨A2,c2,rfl,l2,g2,_⟩:=k46w_open h
  exact k46_mk w x l2 g2
theorem k46w_C {w : World} {A : Option Addr} {n : Nat} {xs : List S46} (h : Kd.C k46w w A n xs) : Kd.C k46 w A n xs:=by
  refine ⟨h.1,h.2.1,fun hn => ?_⟩
  obtain ⟨ad,e,hc⟩:=h.2.2 hn
  refine ⟨ad,e,fun j p hj => ?_⟩
  obtain ⟨c,h1,h2,h3⟩:=hc j p hj
  exact ⟨c,h1,k46w_K h2,h3⟩
theorem k46w_openF {W : World} {ok : Nat→Prop} {x : S46} {cs : List Value} (h : Kd.FK k46w W ok x cs) : ∃ A2 c2,cs=[.int .i64 x.f0,.int .i64 x.f1,.slice A2 x.f2.length c2,.int .i64 x.f3,.int .i64 x.f4,.int .i64 x.f5]∧x.f2.length≤c2∧Kd.FK k46w W ok x [.int .i64 x.f0,.int .i64 x.f1,.slice A2 x.f2.length c2,.int .i64 x.f3,.int .i64 x.f4,.int .i64 x.f5]:=by
  obtain ⟨A2,c2,rfl,l2,_⟩:=k46w_open (Kd.FK_now h)
  exact ⟨A2,c2,rfl,l2,h⟩
end Go.Proofs.Ytbelnopbggkdfaa.Q
end

section
namespace Go.Proofs.Ytbelnopbggkdfaa.Q
open Go.RowKit Go.Proofs.YtbelnopbggkdfaaW.PrintWords Go.Proofs.YtbelnopbggkdfaaW.PrintLast Go.Proofs.YtbelnopbggkdfaaW.PrintMore
attribute [local go_sem] max2_int min2_int max_two min_two max_three min_three max_four min_four   -- for this text's walks alone
set_option linter.unusedVariables false
set_option linter.unusedSimpArgs false
set_option maxHeartbeats 8000000 in
set_option maxRecDepth 100000 in
theorem layers_only.callsW (k : Nat) (a0_0 : Int) (a0_1 : Int) (A0_2 : Option Addr) (c0_2 : Nat) (l0_2 : List (S46)) (A1 : Option Addr) (c1 : Nat) (l1 : List Int) (r1 : Int) (r2 : Int) (r3 : List (S46)) (w : World) (hr0_2 : Kd.C k46 w A0_2 l0_2.length l0_2) (hc0_2 : l0_2.length≤c0_2) (hr1 : Kd.C (Kd.int .i64) w A1 l1.length l1) (hc1 : l1.length≤c1) (h : layers_only.f k a0_0 a0_1 l0_2 l1=some (r1,r2,r3)) :
  Calls Try.prog 70 #[.agg #[.int .i64 a0_0,.int .i64 a0_1,.slice A0_2 l0_2.length c0_2],.slice A1 l1.length c1] w fun e w' => ∃ v2_ : Value,e=.returned (.agg #[.int .i64 r1,.int .i64 r2,v2_])∧Kd.N k46w 46 w' w.heap.size (fun k_ => (w.heap.size≤k_)) v2_ r3∧Below w.heap.size w w':=by
 have hu24:=Try.underlying24
 have hu46:=Try.underlying46
 have HR0_2:=Aside0.mk hr0_2
 have HC0_2:=Aside0.mk hc0_2
 clear hr0_2 hc0_2
 have HR1:=Aside0.mk hr1
 have HC1:=Aside0.mk hc1
 clear hr1 hc1
 have HB:=Aside0.mk (Below.refl w.heap.size w)
 have H : ((circuit_Copy.f k a0_0 a0_1 l0_2).bind fun bt502 => (layers_only.l0 k ([] : List (S46)) l1 (l1.length : Int) 0 bt502.1 bt502.2.1 bt502.2.2))=some (r1,r2,r3):=h
 clear h
 replace H:=Option.bind_eq_some_iff.mp H
 obtain ⟨⟨t502,t503,t504⟩,A30,H⟩:=H
 replace H : (layers_only.l0 k ([] : List (S46)) l1 (l1.length : Int) 0 t502 t503 t504)=some (r1,r2,r3):=H
 have A3:=Aside0.mk A30
 clear A30
 have H':=Aside0.mk H
 clear H
 go_enter Try.func70,Try.ntmps70
 go_wp2_with (first|((with_reducible refine gate_dst (N:=2) rfl ?_);refine box_event ?hg (N:=2) ?hd (cs:=#[.int .i64 a0_0,.int .i64 a0_1,.slice A0_2 l0_2.length c0_2]) (t:=24) ?hr ?_;(case hd => rfl);(case hg => rfl);(case hr => first|(go_simp;done)|(go_simp;rfl));intro gb500 hg w4 hbox hb;have n0_:=Aside0.mk (below_step (by repeat (first|(with_reducible first|exact HB.out|apply below_alloc|apply pw_below_drewN|apply below_drew1)|exact HB.out)) hb);have n1_:=Aside0.mk (hbox);have n2_:=Aside0.mk ((by rw [hg];exact (below_size (by repeat (first|(with_reducible first|exact HB.out|apply below_alloc|apply pw_below_drewN|apply below_drew1)|exact HB.out))) : w.heap.size≤gb500));have n3_:=Aside0.mk ((by rw [hg];exact (below_size (by repeat (first|(with_reducible first|exact HB.out|apply below_alloc|apply pw_below_drewN|apply below_drew1)|exact HB.out))) : w.heap.size≤gb500));clear HB;have HB:=n0_;have BK500:=n1_;have GW500:=n2_;have GE500:=n3_;clear n0_ n1_ n2_ n3_;clear hb hbox hg)|((with_reducible refine gate_dst (N:=4) rfl ?_);refine box_event ?hg (N:=4) ?hd (cs:=#[.int .i64 0,.int .i64 0,.slice none 0 0]) (t:=24) ?hr ?_;(case hd => rfl);(case hg => rfl);(case hr => first|(go_simp;done)|(go_simp;rfl));intro gb501 hg w5 hbox hb;have n0_:=Aside0.mk (blk_below (g:=gb500) (o:=.cells #[.int .i64 a0_0,.int .i64 a0_1,.slice A0_2 l0_2.length c0_2] 24 (0,0)) (by (with_reducible repeat (first|refine blk_drewN ?_ _|refine blk_drew ?_|refine blk_alloc ?_ _));exact BK500.out) hb);have n1_:=Aside0.mk (below_step (by repeat (first|(with_reducible first|exact HB.out|apply below_alloc|apply pw_below_drewN|apply below_drew1|refine below_set ?_ GE500.out)|exact HB.out)) hb);have n2_:=Aside0.mk (hbox);have n3_:=Aside0.mk ((by rw [hg];exact (below_size (by repeat (first|(with_reducible first|exact HB.out|apply below_alloc|apply pw_below_drewN|apply below_drew1|refine below_set ?_ GE500.out)|exact HB.out))) : w.heap.size≤gb501));have n4_:=Aside0.mk ((by rw [hg];exact (below_size (by repeat (first|(with_reducible first|exact HB.out|apply below_alloc|apply pw_below_drewN|apply below_drew1|refine below_set ?_ GE500.out)|exact HB.out))) : w.heap.size≤gb501));have n5_:=Aside0.mk ((by rw [hg];exact Nat.ne_of_lt (blk_lt (g:=gb500) (o:=.cells #[.int .i64 a0_0,.int .i64 a0_1,.slice A0_2 l0_2.length c0_2] 24 (0,0)) (by (with_reducible repeat (first|refine blk_drewN ?_ _|refine blk_drew ?_|refine blk_alloc ?_ _));exact BK500.out)) : gb500≠gb501));have n6_:=Aside0.mk ((by rw [hg];exact Nat.ne_of_gt (blk_lt (g:=gb500) (o:=.cells #[.int .i64 a0_0,.int .i64 a0_1,.slice A0_2 l0_2.length c0_2] 24 (0,0)) (by (with_reducible repeat (first|refine blk_drewN ?_ _|refine blk_drew ?_|refine blk_alloc ?_ _));exact BK500.out)) : gb501≠gb500));clear BK500;clear HB;have BK500:=n0_;have HB:=n1_;have BK501:=n2_;have GW501:=n3_;have GE501:=n4_;have NB500_501:=n5_;have NB501_500:=n6_;clear n0_ n1_ n2_ n3_ n5_ n6_;clear hb hbox hg;have hnb6:=NB500_501.out;have hnc6:=NB501_500.out;have hcz7_0 : w5.cell? ⟨gb500,0,none⟩=some (.int .i64 a0_0):=(blk_cell BK500.out 0).trans rfl;have hcz7_1 : w5.cell? ⟨gb500,1,none⟩=some (.int .i64 a0_1):=(blk_cell BK500.out 1).trans rfl;have hcz7_2 : w5.cell? ⟨gb500,2,none⟩=some (.slice A0_2 l0_2.length c0_2):=(blk_cell BK500.out 2).trans rfl;have hfz7_0:=blk_frozen BK500.out 0;have hfz7_1:=blk_frozen BK500.out 1;have hfz7_2:=blk_frozen BK500.out 2)|((with_reducible refine gate_callee (f:=54) rfl ?_);refine goesL_ (some 10) rfl rfl Try.func54 (by kernel_rfl) rfl #[.agg #[.int .i64 a0_0,.int .i64 a0_1,.slice A0_2 l0_2.length c0_2]] rfl (by (try simp only [List.map_toArray,List.map_cons,List.map_nil]);first|done|rfl|(simp only [List.length_drop,List.length_take];rfl)) ?_;(with_reducible refine (circuit_Copy.calls k a0_0 a0_1 _ _ l0_2 t502 t503 t504 _ ?side1 ?side2 A3.out).mono ?_);(case side1 => repeat (first|exact (Kd.C_below HR0_2.out HB.out)|(with_reducible refine Kd.C_alloc ?_ _)|(with_reducible refine Kd.C_drewN ?_ _)|(with_reducible refine Kd.C_drew ?_)));(case side2 => exact HC0_2.out);rintro e w8 ⟨v505,rfl,ho0,hb⟩;refine ⟨_,rfl,?_⟩;have n0_:=Aside0.mk (Kd.N_lower (Kd.N_mono (ok':=fun k_ => (w.heap.size≤k_)∧k_≠gb500∧k_≠gb501) (Kd.S_N (Kd.S_bound (d:=k46w) ho0)) (fun k_ hk_ => ⟨(Nat.le_trans (below_size (by repeat (first|(with_reducible first|exact HB.out|apply below_alloc|apply pw_below_drewN|apply below_drew1|refine below_set ?_ GE500.out|refine below_set ?_ GE501.out)|exact HB.out))) hk_.2.1),(Kd.freshB (g:=gb500) (o:=.cells #[.int .i64 a0_0,.int .i64 a0_1,.slice A0_2 l0_2.length c0_2] 24 (0,0)) (by (with_reducible repeat (first|refine blk_drewN ?_ _|refine blk_drew ?_|refine blk_alloc ?_ _));exact BK500.out) k_ hk_.2.1),(Kd.freshB (g:=gb501) (o:=.cells #[.int .i64 0,.int .i64 0,.slice none 0 0] 24 (0,0)) (by (with_reducible repeat (first|refine blk_drewN ?_ _|refine blk_drew ?_|refine blk_alloc ?_ _));exact BK501.out) k_ hk_.2.1)⟩)) (below_size (by repeat (first|(with_reducible first|exact HB.out|apply below_alloc|apply pw_below_drewN|apply below_drew1|refine below_set ?_ GE500.out|refine below_set ?_ GE501.out)|exact HB.out))));have n1_:=Aside0.mk (blk_below (g:=gb500) (o:=.cells #[.int .i64 a0_0,.int .i64 a0_1,.slice A0_2 l0_2.length c0_2] 24 (0,0)) (by (with_reducible repeat (first|refine blk_drewN ?_ _|refine blk_drew ?_|refine blk_alloc ?_ _));exact BK500.out) hb);have n2_:=Aside0.mk (blk_below (g:=gb501) (o:=.cells #[.int .i64 0,.int .i64 0,.slice none 0 0] 24 (0,0)) (by (with_reducible repeat (first|refine blk_drewN ?_ _|refine blk_drew ?_|refine blk_alloc ?_ _));exact BK501.out) hb);have n3_:=Aside0.mk (below_step (by repeat (first|(with_reducible first|exact HB.out|apply below_alloc|apply pw_below_drewN|apply below_drew1|refine below_set ?_ GE500.out|refine below_set ?_ GE501.out)|exact HB.out)) hb);clear BK500;clear BK501;clear HB;have HO506:=n0_;have BK500:=n1_;have BK501:=n2_;have HB:=n3_;clear n0_ n1_ n2_ n3_;(try clear hb);(try clear hb2);(try clear hk);(try clear hi);(try clear ho0))|((with_reducible refine gate_dst (N:=5) rfl ?_);refine box_event ?hg (N:=5) ?hd (cs:=#[.int .i64 0,.int .i64 0,.slice none 0 0]) (t:=24) ?hr ?_;(case hd => rfl);(case hg => rfl);(case hr => first|(go_simp;done)|(go_simp;rfl));intro gb507 hg w9 hbox hb;have n0_:=Aside0.mk (Kd.N_below (Kd.N_elderB (by (with_reducible repeat (first|apply Kd.N_alloc|apply Kd.N_drewN|apply Kd.N_drew));exact HO506.out) gb507 (Nat.le_of_eq hg.symm)) hb);have n1_:=Aside0.mk (blk_below (g:=gb500) (o:=.cells #[.int .i64 a0_0,.int .i64 a0_1,.slice A0_2 l0_2.length c0_2] 24 (0,0)) (by (with_reducible repeat (first|refine blk_drewN ?_ _|refine blk_drew ?_|refine blk_alloc ?_ _));exact BK500.out) hb);have n2_:=Aside0.mk (blk_below (g:=gb501) (o:=.cells #[.int .i64 0,.int .i64 0,.slice none 0 0] 24 (0,0)) (by (with_reducible repeat (first|refine blk_drewN ?_ _|refine blk_drew ?_|refine blk_alloc ?_ _));exact BK501.out) hb);have n3_:=Aside0.mk (below_step (by repeat (first|(with_reducible first|exact HB.out|apply below_alloc|apply pw_below_drewN|apply below_drew1|refine below_set ?_ GE500.out|refine below_set ?_ GE501.out)|exact HB.out)) hb);have n4_:=Aside0.mk (hbox);have n5_:=Aside0.mk ((by rw [hg];exact (below_size (by repeat (first|(with_reducible first|exact HB.out|apply below_alloc|apply pw_below_drewN|apply below_drew1|refine below_set ?_ GE500.out|refine below_set ?_ GE501.out)|exact HB.out))) : w.heap.size≤gb507));have n6_:=Aside0.mk ((by rw [hg];exact (below_size (by repeat (first|(with_reducible first|exact HB.out|apply below_alloc|apply pw_below_drewN|apply below_drew1|refine below_set ?_ GE500.out|refine below_set ?_ GE501.out)|exact HB.out))) : w.heap.size≤gb507));have n7_:=Aside0.mk ((by rw [hg];exact Nat.ne_of_lt (blk_lt (g:=gb500) (o:=.cells #[.int .i64 a0_0,.int .i64 a0_1,.slice A0_2 l0_2.length c0_2] 24 (0,0)) (by (with_reducible repeat (first|refine blk_drewN ?_ _|refine blk_drew ?_|refine blk_alloc ?_ _));exact BK500.out)) : gb500≠gb507));have n8_:=Aside0.mk ((by rw [hg];exact Nat.ne_of_gt (blk_lt (g:=gb500) (o:=.cells #[.int .i64 a0_0,.int .i64 a0_1,.slice A0_2 l0_2.length c0_2] 24 (0,0)) (by (with_reducible repeat (first|refine blk_drewN ?_ _|refine blk_drew ?_|refine blk_alloc ?_ _));exact BK500.out)) : gb507≠gb500));have n9_:=Aside0.mk ((by rw [hg];exact Nat.ne_of_lt (blk_lt (g:=gb501) (o:=.cells #[.int .i64 0,.int .i64 0,.slice none 0 0] 24 (0,0)) (by (with_reducible repeat (first|refine blk_drewN ?_ _|refine blk_drew ?_|refine blk_alloc ?_ _));exact BK501.out)) : gb501≠gb507));have n10_:=Aside0.mk ((by rw [hg];exact Nat.ne_of_gt (blk_lt (g:=gb501) (o:=.cells #[.int .i64 0,.int .i64 0,.slice none 0 0] 24 (0,0)) (by (with_reducible repeat (first|refine blk_drewN ?_ _|refine blk_drew ?_|refine blk_alloc ?_ _));exact BK501.out)) : gb507≠gb501));clear HO506;clear BK500;clear BK501;clear HB;have HO506:=n0_;have BK500:=n1_;have BK501:=n2_;have HB:=n3_;have BK507:=n4_;have GW507:=n5_;have GE507:=n6_;have NB500_507:=n7_;have NB507_500:=n8_;have NB501_507:=n9_;have NB507_501:=n10_;clear n0_ n1_ n2_ n3_ n5_ n6_ n7_ n8_ n9_ n10_;clear hb hbox hg;have hnb10:=NB507_500.out;have hnc10:=NB500_507.out;have hnb11:=NB507_501.out;have hnc11:=NB501_507.out;have hcz12_0 : w9.cell? ⟨gb507,0,none⟩=some (.int .i64 0):=(blk_cell BK507.out 0).trans rfl;have hcz12_1 : w9.cell? ⟨gb507,1,none⟩=some (.int .i64 0):=(blk_cell BK507.out 1).trans rfl;have hcz12_2 : w9.cell? ⟨gb507,2,none⟩=some (.slice none 0 0):=(blk_cell BK507.out 2).trans rfl;have hfz12_0:=blk_frozen BK507.out 0;have hfz12_1:=blk_frozen BK507.out 1;have hfz12_2:=blk_frozen BK507.out 2;obtain ⟨Ao13,co13,eo13⟩:=Kd.N_slice HO506.out;subst eo13))
 go_loopg [6,13] k (fun kq v6 v13 w' => ∃ (x6_1 : List (S46)) (x13_1 : Int),v13=.int .i64 x13_1∧Aside0 (layers_only.l0 kq x6_1 l1 (l1.length : Int) x13_1 t502 t503 t504=some (r1,r2,r3))∧Aside0 (kq≤k)∧Aside0 (Kd.N k46w 46 w' w.heap.size (fun k_ => (w.heap.size≤k_)∧some k_≠((.slice Ao13 t504.length co13) : Value).ownBlock∧k_≠gb500∧k_≠gb501∧k_≠gb507) v6 x6_1)∧Aside0 (Kd.N k46w 46 w' w.heap.size (fun k_ => (w.heap.size≤k_)∧some k_≠(v6 : Value).ownBlock∧k_≠gb500∧k_≠gb501∧k_≠gb507) (.slice Ao13 t504.length co13) t504)∧Aside0 (w'.heap[gb500]?=some (.cells #[.int .i64 a0_0,.int .i64 a0_1,(.slice A0_2 l0_2.length c0_2)] 24 (0,0)))∧Aside0 (w'.heap[gb501]?=some (.cells #[.int .i64 0,.int .i64 0,(.slice none 0 0)] 24 (0,0)))∧Aside0 (w'.heap[gb507]?=some (.cells #[.int .i64 t502,.int .i64 t503,(.slice Ao13 t504.length co13)] 24 (0,0)))∧Aside0 (Below w.heap.size w w'))
 case atStart => exact ⟨(([] : List (S46))),(0),(by first|rfl|(simp;done)|(simp [*];done)),H',⟨Nat.le_refl _⟩,⟨by first|exact Kd.S_nil _ _ _ _ _|exact Kd.N_nil _ _ _ _ _|exact Kd.V_nil _ _ _ _ _|exact Kd.Q_nil _ _ _ _ _|exact Kd.R_nil _ _ _ _ _⟩,⟨by (with_reducible repeat (first|apply Kd.N_alloc|apply Kd.N_drewN|apply Kd.N_drew));exact Kd.N_mono (Kd.N_far (p:=⟨gb507,2,none⟩) (Kd.N_far (p:=⟨gb507,1,none⟩) (Kd.N_far (p:=⟨gb507,0,none⟩) (Kd.N_mono HO506.out (fun k_ hk => (⟨hk,hk.2⟩ : _∧k_≠gb507))) (fun _ hk => hk.2) (.int .i64 t502)) (fun _ hk => hk.2) (.int .i64 t503)) (fun _ hk => hk.2) (.slice Ao13 t504.length co13)) (fun _ hk => ⟨hk.1.1.1,⟨(by simp [Value.ownBlock]),⟨hk.1.1.2.1,⟨hk.1.1.2.2,hk.1.2⟩⟩⟩⟩)⟩,⟨by (with_reducible repeat (first|refine blk_drewN ?_ _|refine blk_drew ?_|refine blk_alloc ?_ _));refine blk_far ?_ NB500_507.out _;(with_reducible repeat (first|refine blk_drewN ?_ _|refine blk_drew ?_|refine blk_alloc ?_ _));refine blk_far ?_ NB500_507.out _;(with_reducible repeat (first|refine blk_drewN ?_ _|refine blk_drew ?_|refine blk_alloc ?_ _));refine blk_far ?_ NB500_507.out _;(with_reducible repeat (first|refine blk_drewN ?_ _|refine blk_drew ?_|refine blk_alloc ?_ _));exact BK500.out⟩,⟨by (with_reducible repeat (first|refine blk_drewN ?_ _|refine blk_drew ?_|refine blk_alloc ?_ _));refine blk_far ?_ NB501_507.out _;(with_reducible repeat (first|refine blk_drewN ?_ _|refine blk_drew ?_|refine blk_alloc ?_ _));refine blk_far ?_ NB501_507.out _;(with_reducible repeat (first|refine blk_drewN ?_ _|refine blk_drew ?_|refine blk_alloc ?_ _));refine blk_far ?_ NB501_507.out _;(with_reducible repeat (first|refine blk_drewN ?_ _|refine blk_drew ?_|refine blk_alloc ?_ _));exact BK501.out⟩,⟨by (with_reducible repeat (first|refine blk_drewN ?_ _|refine blk_drew ?_|refine blk_alloc ?_ _));refine blk_put (cs:=#[.int .i64 t502,.int .i64 t503,.slice none 0 0]) ?_ 2 _ rfl;(with_reducible repeat (first|refine blk_drewN ?_ _|refine blk_drew ?_|refine blk_alloc ?_ _));refine blk_put (cs:=#[.int .i64 t502,.int .i64 0,.slice none 0 0]) ?_ 1 _ rfl;(with_reducible repeat (first|refine blk_drewN ?_ _|refine blk_drew ?_|refine blk_alloc ?_ _));refine blk_put (cs:=#[.int .i64 0,.int .i64 0,.slice none 0 0]) ?_ 0 _ rfl;(with_reducible repeat (first|refine blk_drewN ?_ _|refine blk_drew ?_|refine blk_alloc ?_ _));exact BK507.out⟩,⟨by repeat (first|(with_reducible first|exact HB.out|apply below_alloc|apply pw_below_drewN|apply below_drew1|refine below_set ?_ GE500.out|refine below_set ?_ GE501.out|refine below_set ?_ GE507.out)|exact HB.out)⟩⟩
 case round =>
  clear H'
  try clear c1
  try clear p2
  try clear c5
  try clear c6
  try clear c7
  try clear c10
  try clear c11
  try clear hcz12_0
  try clear hcz12_1
  try clear hcz12_2
  try clear hcz7_0
  try clear hcz7_1
  try clear hcz7_2
  try clear hfz12_0
  try clear hfz12_1
  try clear hfz12_2
  try clear hfz7_0
  try clear hfz7_1
  try clear hfz7_2
  obtain ⟨x6_1,x13_1,rfl,HA,HK1,HO_6,HO_508002,BK500,BK501,BK507,HB⟩:=hrel
  cases gk with
  | zero => exact absurd HA.out (by simp [layers_only.l0])
  | succ k1 =>
   have H:=HA.out
   clear HA
   simp only [layers_only.l0] at H
   by_cases c14 : x13_1 < (l1.length : Int)
   ·rw [if_pos c14] at H
    have c14b0 : decide (x13_1 < (l1.length : Int))=true:=decide_eq_true c14
    clear c14
    by_cases c15 : 0≤x13_1
    ·rw [if_pos c15] at H
     have c15b0 : decide (0≤x13_1)=true:=decide_eq_true c15
     clear c15
     by_cases c16 : x13_1 < (l1.length : Int)
     ·rw [if_pos c16] at H
      have c16b0 : decide (x13_1 < (l1.length : Int))=true:=decide_eq_true c16
      clear c16
      by_cases c17 : 0≤(rd l1 x13_1)
      ·rw [if_pos c17] at H
       have c17b0 : decide (0≤(rd l1 x13_1))=true:=decide_eq_true c17
       clear c17
       by_cases c18 : (rd l1 x13_1) < (t504.length : Int)
       ·rw [if_pos c18] at H
        have c18b0 : decide ((rd l1 x13_1) < (t504.length : Int))=true:=decide_eq_true c18
        clear c18
        by_cases c19 : x6_1.length < 2199023255552
        ·rw [if_pos c19] at H
         have LMc19:=Aside0.mk c19
         clear c19
         obtain ⟨y510,hy510⟩ : ∃ y_ : List (S46),y_=(x6_1 ++ [(⟨(rd_T46 t504 (rd l1 x13_1)).f0,(rd_T46 t504 (rd l1 x13_1)).f1,(rd_T46 t504 (rd l1 x13_1)).f2,(rd_T46 t504 (rd l1 x13_1)).f3,(rd_T46 t504 (rd l1 x13_1)).f4,(rd_T46 t504 (rd l1 x13_1)).f5⟩ : S46)]):=⟨_,rfl⟩
         replace H : (layers_only.l0 k1 y510 l1 (l1.length : Int) (wrap64 (x13_1 + 1)) t502 t503 t504)=some (r1,r2,r3):=by first|(rw [hy510];with_reducible exact H)|(have H2_:=(Option.bind_some _ _).symm.trans H;rw [hy510];with_reducible exact H2_)|(have H2_:=(Option.bind_some _ _).symm.trans H;with_reducible exact H2_)|with_reducible exact H|(rw [hy510];exact H)|exact H
         have Ny510:=Aside0.mk hy510
         clear hy510
         have H':=Aside0.mk H
         clear H
         have p508 : 0≤(x13_1 : Int):=of_decide_eq_true (by first|(with_reducible assumption)|assumption)
         have q508 : x13_1 < (l1.length : Int):=of_decide_eq_true (by first|(with_reducible assumption)|assumption)
         obtain ⟨ad508,e508,hx508_0⟩:=Kd.at_int HR1.out x13_1 p508 q508
         cases e508
         replace hx508_0:=(HB.out.cell (World.block_lt_of_cell? w _ hx508_0)).trans hx508_0
         replace p508:=eq_true p508
         replace q508:=eq_true q508
         have hnb20:=NB507_500.out
         have hnc20:=NB500_507.out
         have hnb21:=NB507_501.out
         have hnc21:=NB501_507.out
         have hcz22_0 : wr.cell? ⟨gb507,0,none⟩=some (.int .i64 t502):=(blk_cell BK507.out 0).trans rfl
         have hcz22_1 : wr.cell? ⟨gb507,1,none⟩=some (.int .i64 t503):=(blk_cell BK507.out 1).trans rfl
         have hcz22_2 : wr.cell? ⟨gb507,2,none⟩=some (.slice Ao13 t504.length co13):=(blk_cell BK507.out 2).trans rfl
         have hfz22_0:=blk_frozen BK507.out 0
         have hfz22_1:=blk_frozen BK507.out 1
         have hfz22_2:=blk_frozen BK507.out 2
         have p509 : 0≤((rd l1 x13_1) : Int):=of_decide_eq_true (by first|(with_reducible assumption)|assumption)
         have q509 : (rd l1 x13_1) < (t504.length : Int):=of_decide_eq_true (by first|(with_reducible assumption)|assumption)
         obtain ⟨ad509,A509_2,c509_2,e509,hx509_0,hx509_1,hx509_2,hx509_3,hx509_4,hx509_5,hl509_2,hi509_2⟩:=at_T46 (k46w_C (Kd.N_reads' HO_508002.out).2.2) (rd l1 x13_1) p509 q509
         cases e509
         obtain ⟨ce509,hce509,hMe509,hcc509⟩:=Kd.N_get HO_508002.out z46 (rd l1 x13_1) p509 (by first|exact q509|exact of_decide_eq_true (by first|(with_reducible assumption)|assumption)|(have e_:=(Kd.N_reads' HO_508002.out).1;omega))
         obtain ⟨ua509_2,uc509_2,rfl,ul509_2,ge509_2⟩:=k46w_openF hMe509
         have hv509_2:=hcc509 2 _ rfl
         rw [add_field _ _ 2 (by omega)] at hv509_2
         replace hv509_2:=Option.some.inj (hv509_2.symm.trans hx509_2)
         injection hv509_2 with hva_ hvn_ hvc_
         rw [hva_] at ge509_2
         rw [hvc_] at ul509_2
         rw [hvc_] at ge509_2
         have HL509_2:=Aside0.mk ge509_2
         clear hva_ hvn_ hvc_ ge509_2 ul509_2
         clear hcc509 hce509
         have HR509_2:=Aside0.mk hi509_2
         have HC509_2:=Aside0.mk hl509_2
         clear hi509_2 hl509_2
         replace p509:=eq_true p509
         replace q509:=eq_true q509
         go_wp2_with (first|((with_reducible refine gate_builtin (b:=.append) (xs:=#[.tmp 17,.tmp 23]) rfl ?_);at_builtin;refine Kd.N_append k46w (w0:=w) w.heap.size rfl (.tmp 17) (.tmp 23) 22 46 (.agg #[(.int .i64 0),(.int .i64 0),(.slice none 0 0),(.int .i64 0),(.int .i64 0),(.int .i64 0)]) 64 rfl Try.underlying22 info46 rfl (by decide) (by omega) u6 x6_1 (⟨(rd_T46 t504 (rd l1 x13_1)).f0,(rd_T46 t504 (rd l1 x13_1)).f1,(rd_T46 t504 (rd l1 x13_1)).f2,(rd_T46 t504 (rd l1 x13_1)).f3,(rd_T46 t504 (rd l1 x13_1)).f4,(rd_T46 t504 (rd l1 x13_1)).f5⟩ : S46) [.int .i64 ((rd_T46 t504 (rd l1 x13_1)).f0),.int .i64 ((rd_T46 t504 (rd l1 x13_1)).f1),.slice A509_2 ((rd_T46 t504 (rd l1 x13_1)).f2).length c509_2,.int .i64 ((rd_T46 t504 (rd l1 x13_1)).f3),.int .i64 ((rd_T46 t504 (rd l1 x13_1)).f4),.int .i64 ((rd_T46 t504 (rd l1 x13_1)).f5)] (fun k_ => (w.heap.size≤k_)∧some k_≠(.slice (some ad509) t504.length co13 : Value).ownBlock∧k_≠gb500∧k_≠gb501∧k_≠gb507) (fun k_ => ((fun k_ => (w.heap.size≤k_)∧some k_≠(.slice (some ad509) t504.length co13 : Value).ownBlock∧k_≠gb500∧k_≠gb501∧k_≠gb507)) k_∧some k_≠(u6 : Value).ownBlock) rfl rfl ?aP (fun _ hk => hk) ?aF ?aO ?aB ?aS ?aL ?_;(case aP => exact (Kd.FK_mono (ok':=(fun k_ => ((fun k_ => (w.heap.size≤k_)∧some k_≠(.slice (some ad509) t504.length co13 : Value).ownBlock∧k_≠gb500∧k_≠gb501∧k_≠gb507)) k_∧some k_≠(u6 : Value).ownBlock)) (HL509_2.out) (fun k_ hk => ⟨⟨hk.1.1,⟨hk.2,⟨hk.1.2.2.1,⟨hk.1.2.2.2.1,hk.1.2.2.2.2⟩⟩⟩⟩,hk.1.2.1⟩)));(case aB => exact (by repeat (first|(with_reducible first|exact HB.out|apply below_alloc|apply pw_below_drewN|apply below_drew1|refine below_set ?_ GE500.out|refine below_set ?_ GE501.out|refine below_set ?_ GE507.out)|exact HB.out)));(case aF => exact (fun k_ hk => ⟨(Nat.le_trans (below_size (by repeat (first|(with_reducible first|exact HB.out|apply below_alloc|apply pw_below_drewN|apply below_drew1|refine below_set ?_ GE500.out|refine below_set ?_ GE501.out|refine below_set ?_ GE507.out)|exact HB.out))) hk),Kd.fresh' (Kd.N_lt (by (with_reducible repeat (first|apply Kd.N_alloc|apply Kd.N_drewN|apply Kd.N_drew));exact HO_508002.out)) k_ hk,Kd.freshB (g:=gb500) (o:=.cells #[.int .i64 a0_0,.int .i64 a0_1,.slice A0_2 l0_2.length c0_2] 24 (0,0)) (by (with_reducible repeat (first|refine blk_drewN ?_ _|refine blk_drew ?_|refine blk_alloc ?_ _));exact BK500.out) k_ hk,Kd.freshB (g:=gb501) (o:=.cells #[.int .i64 0,.int .i64 0,.slice none 0 0] 24 (0,0)) (by (with_reducible repeat (first|refine blk_drewN ?_ _|refine blk_drew ?_|refine blk_alloc ?_ _));exact BK501.out) k_ hk,Kd.freshB (g:=gb507) (o:=.cells #[.int .i64 t502,.int .i64 t503,.slice (some ad509) t504.length co13] 24 (0,0)) (by (with_reducible repeat (first|refine blk_drewN ?_ _|refine blk_drew ?_|refine blk_alloc ?_ _));exact BK507.out) k_ hk⟩));(case aO => exact (by (with_reducible repeat (first|apply Kd.N_alloc|apply Kd.N_drewN|apply Kd.N_drew));exact HO_6.out));(case aS => exact (below_size (by repeat (first|(with_reducible first|exact HB.out|apply below_alloc|apply pw_below_drewN|apply below_drew1|refine below_set ?_ GE500.out|refine below_set ?_ GE501.out|refine below_set ?_ GE507.out)|exact HB.out))));(case aL => have:=LMc19.out;omega);intro v511 w23 ho hb hg hat;rw [← Ny510.out] at ho;have n0_:=Aside0.mk (Kd.N_afterv (ok:=(fun k_ => (w.heap.size≤k_)∧k_≠gb500∧k_≠gb501∧k_≠gb507)) (by (with_reducible repeat (first|apply Kd.N_alloc|apply Kd.N_drewN|apply Kd.N_drew));exact Kd.N_mono HO_508002.out (fun _ hk => ⟨⟨hk.1,⟨hk.2.2.1,⟨hk.2.2.2.1,hk.2.2.2.2⟩⟩⟩,hk.2.1⟩)) hg hat);have n1_:=Aside0.mk (blk_grown (g:=gb500) (o:=.cells #[.int .i64 a0_0,.int .i64 a0_1,.slice A0_2 l0_2.length c0_2] 24 (0,0)) (by (with_reducible repeat (first|refine blk_drewN ?_ _|refine blk_drew ?_|refine blk_alloc ?_ _));exact BK500.out) hg (Kd.N_ne HO_6.out BK500.out (by decide)));have n2_:=Aside0.mk (blk_grown (g:=gb501) (o:=.cells #[.int .i64 0,.int .i64 0,.slice none 0 0] 24 (0,0)) (by (with_reducible repeat (first|refine blk_drewN ?_ _|refine blk_drew ?_|refine blk_alloc ?_ _));exact BK501.out) hg (Kd.N_ne HO_6.out BK501.out (by decide)));have n3_:=Aside0.mk (blk_grown (g:=gb507) (o:=.cells #[.int .i64 t502,.int .i64 t503,.slice (some ad509) t504.length co13] 24 (0,0)) (by (with_reducible repeat (first|refine blk_drewN ?_ _|refine blk_drew ?_|refine blk_alloc ?_ _));exact BK507.out) hg (Kd.N_ne HO_6.out BK507.out (by decide)));have n5_:=Aside0.mk (hb);have n6_:=Aside0.mk (ho);clear HO_508002;clear BK500;clear BK501;clear BK507;clear HL509_2;clear HB;clear HO_6;have HO_508002:=n0_;have BK500:=n1_;have BK501:=n2_;have BK507:=n3_;have HB:=n5_;have HO512:=n6_;clear n0_ n1_ n2_ n3_ n5_ n6_;clear ho hb hg hat))
         go_roundg k1
         case measure => have:=HK1.out;omega
         case rel => exact ⟨(y510),(wrap64 (x13_1 + 1)),(by first|rfl|(simp;done)|(simp [*];done)),H',⟨by have:=HK1.out;omega⟩,⟨by (with_reducible repeat (first|apply Kd.N_alloc|apply Kd.N_drewN|apply Kd.N_drew));exact HO512.out⟩,⟨by (with_reducible repeat (first|apply Kd.N_alloc|apply Kd.N_drewN|apply Kd.N_drew));exact Kd.N_mono HO_508002.out (fun _ hk => ⟨hk.1.1,⟨hk.2,⟨hk.1.2.1,⟨hk.1.2.2.1,hk.1.2.2.2⟩⟩⟩⟩)⟩,⟨by (with_reducible repeat (first|refine blk_drewN ?_ _|refine blk_drew ?_|refine blk_alloc ?_ _));exact BK500.out⟩,⟨by (with_reducible repeat (first|refine blk_drewN ?_ _|refine blk_drew ?_|refine blk_alloc ?_ _));exact BK501.out⟩,⟨by (with_reducible repeat (first|refine blk_drewN ?_ _|refine blk_drew ?_|refine blk_alloc ?_ _));exact BK507.out⟩,⟨by repeat (first|(with_reducible first|exact HB.out|apply below_alloc|apply pw_below_drewN|apply below_drew1|refine below_set ?_ GE500.out|refine below_set ?_ GE501.out|refine below_set ?_ GE507.out)|exact HB.out)⟩⟩
        ·rw [if_neg c19] at H
         exact absurd H (by simp)
       ·rw [if_neg c18] at H
        exact absurd H (by simp)
      ·rw [if_neg c17] at H
       exact absurd H (by simp)
     ·rw [if_neg c16] at H
      exact absurd H (by simp)
    ·rw [if_neg c15] at H
     exact absurd H (by simp)
   ·rw [if_neg c14] at H
    have c14b0 : decide (x13_1 < (l1.length : Int))=false:=decide_eq_false c14
    clear c14
    simp only [Option.some.injEq,Prod.mk.injEq] at H
    obtain ⟨rfl,rfl,rfl⟩:=H
    obtain ⟨Ao24,co24,eo24⟩:=Kd.N_slice HO_6.out
    subst eo24
    have hnb25:=NB507_500.out
    have hnc25:=NB500_507.out
    have hnb26:=NB507_501.out
    have hnc26:=NB501_507.out
    have hcz27_0 : wr.cell? ⟨gb507,0,none⟩=some (.int .i64 t502):=(blk_cell BK507.out 0).trans rfl
    have hcz27_1 : wr.cell? ⟨gb507,1,none⟩=some (.int .i64 t503):=(blk_cell BK507.out 1).trans rfl
    have hcz27_2 : wr.cell? ⟨gb507,2,none⟩=some (.slice Ao13 t504.length co13):=(blk_cell BK507.out 2).trans rfl
    have hfz27_0:=blk_frozen BK507.out 0
    have hfz27_1:=blk_frozen BK507.out 1
    have hfz27_2:=blk_frozen BK507.out 2
    have hnb28:=NB501_500.out
    have hnc28:=NB500_501.out
    have hcz29_0 : wr.cell? ⟨gb501,0,none⟩=some (.int .i64 0):=(blk_cell BK501.out 0).trans rfl
    have hcz29_1 : wr.cell? ⟨gb501,1,none⟩=some (.int .i64 0):=(blk_cell BK501.out 1).trans rfl
    have hcz29_2 : wr.cell? ⟨gb501,2,none⟩=some (.slice none 0 0):=(blk_cell BK501.out 2).trans rfl
    have hfz29_0:=blk_frozen BK501.out 0
    have hfz29_1:=blk_frozen BK501.out 1
    have hfz29_2:=blk_frozen BK501.out 2
    go_wp2
    refine bodyPost_ret (results_cell_row rfl _ _ gb501 24 #[.int .i64 t502,.int .i64 t503,.slice Ao24 x6_1.length co24] (0,0) _ rfl (by (with_reducible repeat (first|refine blk_drewN ?_ _|refine blk_drew ?_|refine blk_alloc ?_ _));refine blk_put (cs:=#[.int .i64 t502,.int .i64 t503,.slice none 0 0]) ?_ 2 _ rfl;(with_reducible repeat (first|refine blk_drewN ?_ _|refine blk_drew ?_|refine blk_alloc ?_ _));refine blk_put (cs:=#[.int .i64 t502,.int .i64 0,.slice none 0 0]) ?_ 1 _ rfl;(with_reducible repeat (first|refine blk_drewN ?_ _|refine blk_drew ?_|refine blk_alloc ?_ _));refine blk_put (cs:=#[.int .i64 0,.int .i64 0,.slice none 0 0]) ?_ 0 _ rfl;(with_reducible repeat (first|refine blk_drewN ?_ _|refine blk_drew ?_|refine blk_alloc ?_ _));refine blk_far ?_ NB501_507.out _;(with_reducible repeat (first|refine blk_drewN ?_ _|refine blk_drew ?_|refine blk_alloc ?_ _));exact BK501.out) Try.underlying24 rfl (by kernel_rfl)) rfl ?_
    exact ⟨_,by first|rfl|(simp [errW_none,errW_some] <;> rfl)|(simp [*,errW_none,errW_some] <;> rfl),by (with_reducible repeat (first|apply Kd.N_alloc|apply Kd.N_drewN|apply Kd.N_drew));exact Kd.N_mono (Kd.N_far (p:=⟨gb501,2,none⟩) (Kd.N_far (p:=⟨gb501,1,none⟩) (Kd.N_far (p:=⟨gb501,0,none⟩) (Kd.N_far (p:=⟨gb507,2,none⟩) (Kd.N_mono (Kd.N_mono HO_6.out (fun k_ hk => (⟨hk,hk.2.2.2.2⟩ : _∧k_≠gb507))) (fun k_ hk => (⟨hk,hk.1.2.2.2.1⟩ : _∧k_≠gb501))) (fun _ hk => hk.1.2) (.slice Ao24 x6_1.length co24)) (fun _ hk => hk.2) (.int .i64 t502)) (fun _ hk => hk.2) (.int .i64 t503)) (fun _ hk => hk.2) (.slice Ao24 x6_1.length co24)) (fun _ hk => hk.1.1.1),by repeat (first|(with_reducible first|exact HB.out|apply below_alloc|apply pw_below_drewN|apply below_drew1|refine below_set ?_ GE500.out|refine below_set ?_ GE501.out|refine below_set ?_ GE507.out)|exact HB.out)⟩
end Go.Proofs.Ytbelnopbggkdfaa.Q
end

section
namespace Go.Proofs.Ytbelnopbggkdfaa.Q
open Go.RowKit Go.Proofs.YtbelnopbggkdfaaW.PrintWords Go.Proofs.YtbelnopbggkdfaaW.PrintLast Go.Proofs.YtbelnopbggkdfaaW.PrintMore
set_option maxHeartbeats 8000000 in
set_option maxRecDepth 1000000 in
theorem layers_Sorted.callsW (k : Nat) (a0 a1 : Int) (A : Option Addr) (c : Nat) (l : List S46) (r1 r2 : Int) (r3 : List S46) (r4 : Int) (w : World) (hr : Kd.C k46 w A l.length l) (hc : l.length≤c) (h : layers_Sorted.f k a0 a1 l=some (r1,r2,r3,r4)) :
  Calls Try.prog 27 #[.agg #[.int .i64 a0,.int .i64 a1,.slice A l.length c]] w fun e w' => ∃ v,e=.returned (.tuple #[.agg #[.int .i64 r1,.int .i64 r2,v],.int .i64 r4])∧Kd.N k46w 46 w' w.heap.size (fun k_ => w.heap.size≤k_) v r3∧Below w.heap.size w w':=by
 have hu24:=Try.underlying24
 have hu46:=Try.underlying46
 unfold layers_Sorted.f at h
 obtain ⟨⟨into,err⟩,ht,h2⟩:=Option.bind_eq_some_iff.1 h
 clear h
 have HD:=Aside0.mk ht
 have HC:=Aside0.mk hc
 have HR:=Aside0.mk hr
 clear ht hr hc
 simp only at h2
 split at h2
 case isFalse =>
  rename_i hne
  simp only [Option.some.injEq,Prod.mk.injEq] at h2
  obtain ⟨rfl,rfl,rfl,rfl⟩:=h2
  have hne' : (err != 0)=true:=by simpa using hne
  clear hne
  go_enter Try.func27,Try.ntmps27
  go_upto_region 2 with (go_at_call 21;(with_reducible refine (layers_Early.calls k a0 a1 _ _ l into err _ (Kd.C_alloc (Kd.C_alloc HR.out _) _) HC.out HD.out).mono ?_);rintro e w1 ⟨v,rfl,ho,hb1⟩;obtain ⟨Ai,ci,rfl⟩:=Kd.R_slice ho;have HO:=Aside0.mk ho;clear ho)
  have b2 : ((w1.alloc (.cells #[.slice Ai into.length ci] 37))).heap[w.heap.size + 1]?=some (.cells #[.int .i64 0,.int .i64 0,.slice none 0 0] 24 (0,0)):=by
   refine blk_alloc (blk_below ?_ hb1) _
   have:=blk_new (w.alloc (.cells #[.int .i64 a0,.int .i64 a1,.slice A l.length c] 24)) (.cells #[.int .i64 0,.int .i64 0,.slice none 0 0] 24)
   simpa using this
  have hb : Below w.heap.size w (w1.alloc (.cells #[.slice Ai into.length ci] 37)):=below_alloc (below_step (below_alloc (below_alloc (Below.refl _ w) _) _) hb1) _
  obtain ⟨g2,hg2⟩ : ∃ g,g=w.heap.size + 1:=⟨_,rfl⟩
  have ge : w.heap.size≤g2:=by omega
  rw [← hg2] at b2
  rw [← hg2]
  generalize w1.alloc (.cells #[.slice Ai into.length ci] 37)=W at b2 hb ⊢
  clear hg2 hb1
  have c0 : W.cell? ⟨g2,0,none⟩=some (.int .i64 0):=by rw [blk_cell b2];rfl
  have c1 : W.cell? ⟨g2,1,none⟩=some (.int .i64 0):=by rw [blk_cell b2];rfl
  have c2 : W.cell? ⟨g2,2,none⟩=some (.slice none 0 0):=by rw [blk_cell b2];rfl
  have f0 : W.frozen? ⟨g2,0,none⟩=false:=blk_frozen b2 0
  have f1 : W.frozen? ⟨g2,1,none⟩=false:=blk_frozen b2 1
  have f2 : W.frozen? ⟨g2,2,none⟩=false:=blk_frozen b2 2
  go_wp2
  (try simp only [Exit.inBlock,Exit.then])
  refine bodyPost_ret (results_ct rfl _ _ g2 24 #[.int .i64 0,.int .i64 0,.slice none 0 0] (0,0) _ rfl (blk_put (cs:=#[.int .i64 0,.int .i64 0,.slice none 0 0]) (blk_put (cs:=#[.int .i64 0,.int .i64 0,.slice none 0 0]) (blk_put (cs:=#[.int .i64 0,.int .i64 0,.slice none 0 0]) b2 0 _ rfl) 1 _ rfl) 2 _ rfl) Try.underlying24 rfl (by kernel_rfl)) rfl ?_
  exact ⟨_,rfl,Kd.N_nil _ _ _ _ _,below_set (below_set (below_set hb ge) ge) ge⟩
 rename_i he
 obtain rfl : err=0:=he
 split at h2
 case isFalse => cases h2
 rename_i hcond
 obtain ⟨hll,hl41,hall⟩:=hcond
 obtain ⟨⟨q1,q2,q3⟩,hq,h3⟩:=Option.bind_eq_some_iff.1 h2
 simp only [Option.some.injEq,Prod.mk.injEq] at h3
 obtain ⟨rfl,rfl,rfl,rfl⟩:=h3
 have HQ:=Aside0.mk hq
 have HA:=Aside0.mk hall
 have HLL:=Aside0.mk hll
 have HL41:=Aside0.mk hl41
 clear h2 hq hall hll hl41
 go_enter Try.func27,Try.ntmps27
 go_upto_region 2 with (go_at_call 21;(with_reducible refine (layers_Early.calls k a0 a1 _ _ l into 0 _ (Kd.C_alloc (Kd.C_alloc HR.out _) _) HC.out HD.out).mono ?_);rintro e w1 ⟨v,rfl,ho,hb1⟩;obtain ⟨Ai,ci,rfl⟩:=Kd.R_slice ho;have HO:=Aside0.mk ho;clear ho)
 have b1 : ((w1.alloc (.cells #[.slice Ai into.length ci] 37))).heap[w.heap.size]?=some (.cells #[.int .i64 a0,.int .i64 a1,.slice A l.length c] 24 (0,0)) :=
  blk_alloc (blk_below (blk_alloc (blk_new w (.cells #[.int .i64 a0,.int .i64 a1,.slice A l.length c] 24)) _) hb1) _
 have b2 : ((w1.alloc (.cells #[.slice Ai into.length ci] 37))).heap[w.heap.size + 1]?=some (.cells #[.int .i64 0,.int .i64 0,.slice none 0 0] 24 (0,0)):=by
  refine blk_alloc (blk_below ?_ hb1) _
  have:=blk_new (w.alloc (.cells #[.int .i64 a0,.int .i64 a1,.slice A l.length c] 24)) (.cells #[.int .i64 0,.int .i64 0,.slice none 0 0] 24)
  simpa using this
 have b4:=blk_new w1 (.cells #[.slice Ai into.length ci] 37)
 have hb:=below_alloc (below_step (below_alloc (below_alloc (Below.refl _ w) (.cells #[.int .i64 a0,.int .i64 a1,.slice A l.length c] 24)) (.cells #[.int .i64 0,.int .i64 0,.slice none 0 0] 24)) hb1) (.cells #[.slice Ai into.length ci] 37)
 have hi : Kd.R (Kd.int .i64) 3 (w1.alloc (.cells #[.slice Ai into.length ci] 37)) w.heap.size (fun k => k < (w1.alloc (.cells #[.slice Ai into.length ci] 37)).heap.size) (.slice Ai into.length ci) into:=by
  refine Kd.R_alloc (Kd.R_mono (Kd.R_bound (Kd.R_lower HO.out ?_)) (fun k hk => ?_)) _
  ·simp;omega
  ·have:=hk.2.2.1
   simp
   omega
 obtain ⟨g1,hg1⟩ : ∃ g,g=w.heap.size:=⟨_,rfl⟩
 obtain ⟨g2,hg2⟩ : ∃ g,g=w.heap.size + 1:=⟨_,rfl⟩
 obtain ⟨g4,hg4⟩ : ∃ g,g=w1.heap.size:=⟨_,rfl⟩
 rw [← hg1] at b1
 rw [← hg2] at b2
 rw [← hg4] at b4
 rw [← hg2,← hg4]
 have n1 : w.heap.size≤g1:=by omega
 have n2 : w.heap.size≤g2:=by omega
 have n4 : w.heap.size≤g4:=by have:=hb1.size;simp at this;omega
 rw [← hg1]
 clear hb1 HO HD
 generalize w1.alloc (.cells #[.slice Ai into.length ci] 37)=W0 at b1 b2 b4 hb hi ⊢
 have HB1:=Aside0.mk b1
 have HB2:=Aside0.mk b2
 have HB:=Aside0.mk hb
 have HI:=Aside0.mk hi
 have c4 : W0.cell? ⟨g4,0,none⟩=some (.slice Ai into.length ci):=by rw [blk_cell b4];rfl
 have HB4:=Aside0.mk b4
 have hn64 : (into.length : Int)≤9223372036854775807:=by have:=HL41.out;have:=HLL.out;omega
 clear b1 b2 b4 hb hi hg1 hg2 hg4
 generalize hn : into.length=n at *
 have HN:=Aside0.mk hn
 clear hn
 go_wp2_with fail
 go_loopg [6,20] n (fun g v6 v20 W => ∃ p : Nat,p≤n∧v20=.int .i64 (p : Int)∧n - p≤g∧(p=0→v6=.slice none 0 0)∧Aside0 (Kd.R (Kd.int .i64) 3 W W0.heap.size (fun k => W0.heap.size≤k) v6 (upTo p)∧Below W0.heap.size W0 W))
 case atStart => exact ⟨0,by omega,rfl,by omega,fun _ => rfl,⟨Kd.R_nil _ _ _ _ _,Below.refl _ _⟩⟩
 case round =>
  obtain ⟨p,hp,rfl,hg,hz0,HP⟩:=hrel
  have HZ:=Aside0.mk hz0
  clear hz0
  by_cases hlt : p < n
  ·have hltz : (p : Int) < (n : Int):=by omega
   have hj8 : ((upTo p).length + 1) * 8≤140737488355328:=by rw [upTo_len];have:=HL41.out;have:=HLL.out;have:=HN.out;omega
   go_wp2_with ((with_reducible refine gate_builtin (b:=.append) (xs:=#[.tmp 23,.tmp 25]) rfl ?_);at_builtin;refine Kd.R_append (Kd.int .i64) (w0:=W0) W0.heap.size rfl (.tmp 23) (.tmp 25) 37 3 (.int .i64 0) 8 rfl Try.underlying37 info3 rfl (by decide) (by omega) u6 (upTo p) (p : Int) [.int .i64 (p : Int)] (fun k => W0.heap.size≤k) (fun _ => False) rfl rfl rfl (fun _ hk => hk.elim) (fun k hk => Nat.le_trans HP.out.2.size hk) HP.out.1 HP.out.2 HP.out.2.size hj8 ?_;intro v51 w51 ho hb hg' hat;have HP2:=Aside0.mk (And.intro ho hb);clear ho hb hg' hat)
   go_roundg (n - (p + 1))
   case measure => omega
   case rel => exact ⟨p + 1,by omega,by go_num,by omega,fun h => by omega,⟨by rw [upTo_succ];exact HP2.out.1,HP2.out.2⟩⟩
  ·have hltz : ¬ (p : Int) < (n : Int):=by omega
   obtain rfl : p=n:=by omega
   by_cases hz : p=0
   ·obtain rfl:=HZ.out hz
    subst hz
    have hin : into=[]:=List.eq_nil_of_length_eq_zero HN.out
    subst hin
    have hb2:=HP.out.2
    have e0 : upTo 0=[]:=rfl
    have b3:=blk_below HB2.out hb2
    have b1:=blk_below HB1.out hb2
    have hbb:=below_step HB.out hb2
    have hcall:=fun (w2 : World) (hw : Below w.heap.size w w2) => layers_only.callsW k a0 a1 A c l none 0 [] _ _ _ w2 (Kd.C_below HR.out hw) HC.out (Kd.R_reads' (Kd.R_nil (Kd.int .i64) 3 w2 w2.heap.size (fun _ => True))).2.2 (Nat.le_refl _) HQ.out
    simp only [List.length_nil] at hcall
    have HCALL:=Aside0.mk hcall
    clear hcall
    go_upto_region 11 with (fail)
    have b3:=blk_alloc b3 (.cells #[.func (.func 67) #[] #[.pointer (some ⟨g1,0,none⟩),.pointer (some ⟨g4,0,none⟩)]] 79)
    have b1:=blk_alloc b1 (.cells #[.func (.func 67) #[] #[.pointer (some ⟨g1,0,none⟩),.pointer (some ⟨g4,0,none⟩)]] 79)
    have hbb:=below_alloc hbb (.cells #[.func (.func 67) #[] #[.pointer (some ⟨g1,0,none⟩),.pointer (some ⟨g4,0,none⟩)]] 79)
    generalize wr.alloc (.cells #[.func (.func 67) #[] #[.pointer (some ⟨g1,0,none⟩),.pointer (some ⟨g4,0,none⟩)]] 79)=w2 at b1 b3 hbb ⊢
    have k1 : w2.cell? ⟨g1,0,none⟩=some (.int .i64 a0):=by rw [blk_cell b1];rfl
    have k2 : w2.cell? ⟨g1,1,none⟩=some (.int .i64 a1):=by rw [blk_cell b1];rfl
    have k3 : w2.cell? ⟨g1,2,none⟩=some (.slice A l.length c):=by rw [blk_cell b1];rfl
    have HB2':=Aside0.mk b3
    have HBB:=Aside0.mk hbb
    clear b1 b3 hbb hb2
    go_wp2_with (first
     | (go_at_call 68;refine (sort_nil _).mono ?_;rintro e w4 ⟨rfl,rfl⟩)
     | (go_at_call 70;(with_reducible refine (HCALL.out _ HBB.out).mono ?_);rintro e w3 ⟨v2,rfl,ho3,hb3⟩;obtain ⟨Ao,co,rfl⟩:=Kd.N_slice ho3;have HO3:=Aside0.mk ho3;have HB3:=Aside0.mk hb3;have b3:=blk_below HB2'.out hb3;have m0 : w3.cell? ⟨g2,0,none⟩=some (.int .i64 0):=(by rw [blk_cell b3];rfl);have m1 : w3.cell? ⟨g2,1,none⟩=some (.int .i64 0):=(by rw [blk_cell b3];rfl);have m2 : w3.cell? ⟨g2,2,none⟩=some (.slice none 0 0):=(by rw [blk_cell b3];rfl);have f0 : w3.frozen? ⟨g2,0,none⟩=false:=blk_frozen b3 0;have f1 : w3.frozen? ⟨g2,1,none⟩=false:=blk_frozen b3 1;have f2 : w3.frozen? ⟨g2,2,none⟩=false:=blk_frozen b3 2;have B3:=Aside0.mk b3;clear ho3 hb3 b3))
    (try simp only [Exit.inBlock,Exit.then])
    refine bodyPost_ret (results_ct rfl _ _ g2 24 #[.int .i64 q1,.int .i64 q2,.slice Ao q3.length co] (0,0) _ rfl (blk_put (cs:=#[.int .i64 q1,.int .i64 q2,.slice none 0 0]) (blk_put (cs:=#[.int .i64 q1,.int .i64 0,.slice none 0 0]) (blk_put (cs:=#[.int .i64 0,.int .i64 0,.slice none 0 0]) B3.out 0 _ rfl) 1 _ rfl) 2 _ rfl) Try.underlying24 rfl (by kernel_rfl)) rfl ?_
    have hw2:=HBB.out.size
    have hg2:=blk_lt HB2'.out
    have far : ∀ k,w4.heap.size≤k→k≠g2:=fun k hk => by omega
    have hbl:=below_step HBB.out HB3.out
    exact ⟨_,rfl,Kd.N_far (p:=⟨g2,2,none⟩) (Kd.N_far (p:=⟨g2,1,none⟩) (Kd.N_far (p:=⟨g2,0,none⟩) (Kd.N_lower HO3.out hw2) far _) far _) far _ |> fun h => Kd.N_mono h (fun k hk => Nat.le_trans hw2 hk),below_set (below_set (below_set hbl n2) n2) n2⟩
   ·have hHO:=HP.out.1
    obtain ⟨gd,cap,rfl,hgd1,hgd2,_⟩:=Kd.R_form hHO (by rw [upTo_len];omega)
    have HP1:=Aside0.mk hHO
    clear hHO
    rw [upTo_len]
    go_upto_region 11 with (fail)
    have hb2:=HP.out.2
    have hN:=HN.out
    subst hN
    have hS : SrtS w W0.heap.size g1 g2 g4 wr.heap.size gd cap a0 a1 A c l Ai ci into (wr.alloc (.cells #[.func (.func 67) #[] #[.pointer (some ⟨g1,0,none⟩),.pointer (some ⟨g4,0,none⟩)]] 79)) (upTo into.length) :=
     ⟨below_alloc (below_step HB.out hb2) _,blk_alloc (blk_below HB1.out hb2) _,blk_alloc (blk_below HB2.out hb2) _,blk_alloc (blk_below HB4.out hb2) _,blk_new _ _,Kd.R_alloc (Kd.R_below HI.out hb2) _,Kd.R_alloc HP1.out _,upTo_len _,HB.out.size⟩
    have hall:=HA.out
    have hE:=SrtS.env (w:=w) (N:=W0.heap.size) (g1:=g1) (g2:=g2) (g4:=g4) (g8:=wr.heap.size) (gd:=gd) (cap:=cap) (a0:=a0) (a1:=a1) (A:=A) (c:=c) (l:=l) (A4:=Ai) (c4:=ci) (into:=into) HLL.out (by have:=HLL.out;have:=HL41.out;omega) HR.out (fun x h0 h1 => by
     have hm : rd into x ∈ into:=by
      have hx : x.toNat < into.length:=by omega
      simp only [rd,List.getD_eq_getElem?_getD,List.getElem?_eq_getElem hx,Option.getD_some]
      exact List.getElem_mem _
     simpa using List.all_eq_true.1 hall _ hm)
    have hup : ∀ i : Nat,i < into.length→rd (upTo into.length) i=i:=fun i hi => by simp [rd,upTo,List.getD_eq_getElem?_getD,hi]
    have hsort:=sort_any hE hS cap (fun i hi => by rw [hup i hi];omega) (fun p q h1 h2 => by rw [hup p (by omega),hup q h2];omega)
    clear hE hS hup hall
    have HSO:=Aside0.mk hsort
    clear hsort
    go_upto_region 12 with (go_at_call 68;(with_reducible refine (HSO.out).mono ?_);rintro e w2 ⟨rfl,d2,hs2,hp2,ho2⟩;have HS2:=Aside0.mk hs2;have HD2:=Aside0.mk (And.intro hp2 ho2);clear hs2 hp2 ho2)
    have hd2 : d2=sortO (skey l into) (upTo into.length):=sort_is HD2.out.1 (upTo_len _) (by
     unfold upTo
     exact List.Pairwise.map _ (fun a b (h : a≠b) => by omega) List.nodup_range) HD2.out.2
    subst hd2
    obtain ⟨hl1,hl2,hC⟩:=Kd.R_reads' HS2.out.ho
    have hlen : (sortO (skey l into) (upTo into.length)).length=into.length:=HS2.out.l1
    have HCO:=Aside0.mk hC
    have HLE:=Aside0.mk hl2
    have HLEN:=Aside0.mk hlen
    have k1 : w2.cell? ⟨g1,0,none⟩=some (.int .i64 a0):=by rw [blk_cell HS2.out.b1];rfl
    have k2 : w2.cell? ⟨g1,1,none⟩=some (.int .i64 a1):=by rw [blk_cell HS2.out.b1];rfl
    have k3 : w2.cell? ⟨g1,2,none⟩=some (.slice A l.length c):=by rw [blk_cell HS2.out.b1];rfl
    have hcall:=layers_only.callsW k a0 a1 A c l (some ⟨gd,0,none⟩) cap (sortO (skey l into) (upTo into.length)) _ _ _ w2 (Kd.C_below HR.out HS2.out.hb) HC.out HCO.out HLE.out HQ.out
    rw [hlen] at hcall
    have HCALL:=Aside0.mk hcall
    clear hl1 hl2 hC hlen hcall
    go_wp2_with (go_at_call 70;(with_reducible refine (HCALL.out).mono ?_);rintro e w3 ⟨v2,rfl,ho3,hb3⟩;obtain ⟨Ao,co,rfl⟩:=Kd.N_slice ho3;have HO3:=Aside0.mk ho3;have HB3:=Aside0.mk hb3;have b3:=blk_below HS2.out.b2 hb3;have m0 : w3.cell? ⟨g2,0,none⟩=some (.int .i64 0):=(by rw [blk_cell b3];rfl);have m1 : w3.cell? ⟨g2,1,none⟩=some (.int .i64 0):=(by rw [blk_cell b3];rfl);have m2 : w3.cell? ⟨g2,2,none⟩=some (.slice none 0 0):=(by rw [blk_cell b3];rfl);have f0 : w3.frozen? ⟨g2,0,none⟩=false:=blk_frozen b3 0;have f1 : w3.frozen? ⟨g2,1,none⟩=false:=blk_frozen b3 1;have f2 : w3.frozen? ⟨g2,2,none⟩=false:=blk_frozen b3 2;have B3:=Aside0.mk b3;clear ho3 hb3 b3)
    (try simp only [Exit.inBlock,Exit.then])
    refine bodyPost_ret (results_ct rfl _ _ g2 24 #[.int .i64 q1,.int .i64 q2,.slice Ao q3.length co] (0,0) _ rfl (blk_put (cs:=#[.int .i64 q1,.int .i64 q2,.slice none 0 0]) (blk_put (cs:=#[.int .i64 q1,.int .i64 0,.slice none 0 0]) (blk_put (cs:=#[.int .i64 0,.int .i64 0,.slice none 0 0]) B3.out 0 _ rfl) 1 _ rfl) 2 _ rfl) Try.underlying24 rfl (by kernel_rfl)) rfl ?_
    have hw2:=HS2.out.hb.size
    have hg2 : g2 < w2.heap.size:=blk_lt HS2.out.b2
    have far : ∀ k,w2.heap.size≤k→k≠g2:=fun k hk => by omega
    have hbl:=below_step HS2.out.hb HB3.out
    exact ⟨_,rfl,Kd.N_far (p:=⟨g2,2,none⟩) (Kd.N_far (p:=⟨g2,1,none⟩) (Kd.N_far (p:=⟨g2,0,none⟩) (Kd.N_lower HO3.out hw2) far _) far _) far _ |> fun h => Kd.N_mono h (fun k hk => Nat.le_trans hw2 hk),below_set (below_set (below_set hbl n2) n2) n2⟩
end Go.Proofs.Ytbelnopbggkdfaa.Q
end

section
namespace Go.Proofs.Ytbelnopbggkdfaa
open Go.RowKit Go.Proofs.YtbelnopbggkdfaaW.PrintWords Go.Proofs.YtbelnopbggkdfaaW.PrintLast Q
set_option maxRecDepth 100000 in
/-- A gate of the statements: of whatever qubits. -/
theorem g_any (k : Int) (A : Option Addr) (n c : Nat) (w : World) : Calls Try.prog 59 #[.int .i64 k,.slice A n c] w fun e w' => e=.returned (.agg #[.int .i64 1,.int .i64 k,.slice A n c,.int .i64 0,.int .i64 (-1),.int .i64 0])∧Below w.heap.size w w':=by
 have hu46:=Try.underlying46
 go_enter Try.func59,Try.ntmps59
 go_wp2
 refine bodyPost_ret (results_cell_row rfl _ _ w.heap.size 46 #[.int .i64 1,.int .i64 k,.slice A n c,.int .i64 0,.int .i64 (-1),.int .i64 0] (0,0) _ rfl (by first|exact blk_new w _|(simp;done)) Try.underlying46 rfl (by kernel_rfl)) rfl ?_
 exact ⟨rfl,by first|exact below_alloc (Below.refl _ _) _|skip⟩
def exOps : List S46:=[⟨1,2,[0],0,-1,0⟩,⟨1,11,[0,1],0,-1,0⟩,⟨1,2,[2],0,-1,0⟩,⟨4,0,[1,2],0,-1,0⟩,⟨1,2,[2],0,-1,0⟩]
def RowC (B : Nat) (w : World) (v : Value) (l : List Int) : Prop:=∃ g,v=.slice (some ⟨g,0,none⟩) l.length l.length∧B≤g∧w.heap[g]?=some (.cells (l.map (Value.int .i64)).toArray 3 (0,0))
theorem RowC.below {B : Nat} {w w' : World} {v : Value} {l : List Int} (h : RowC B w v l) (hb : Below w.heap.size w w') : RowC B w' v l:=by
 obtain ⟨g,h1,h2,h3⟩:=h
 exact ⟨g,h1,h2,blk_below h3 hb⟩
theorem rowC_reads {w : World} {y : Nat} {l : List Int} (h : w.heap[y]?=some (.cells (l.map (Value.int .i64)).toArray 3 (0,0))) (hl : l.length≤9223372036854775807) : Kd.C (Kd.int .i64) w (some ⟨y,0,none⟩) l.length l :=
 Kd.C_of_reads (enc:=Value.int .i64) (d:=(0 : Int)) (h1:=fun _ => rfl) ⟨rfl,hl,fun _ => ⟨_,rfl,fun j hj => by
  rw [add_plain,blk_cell h]
  simp [List.getD_eq_getElem?_getD,List.getElem?_eq_getElem hj]⟩⟩
set_option linter.unusedVariables false
abbrev gAgg (k : Int) (v : Value) : Value:=.agg #[.int .i64 1,.int .i64 k,v,.int .i64 0,.int .i64 (-1),.int .i64 0]
abbrev barAgg (v : Value) : Value:=.agg #[.int .i64 4,.int .i64 0,v,.int .i64 0,.int .i64 (-1),.int .i64 0]
def exCells (v4 v6 v8 vb v11 : Value) : List Value :=
 [.int .i64 1,.int .i64 2,v4,.int .i64 0,.int .i64 (-1),.int .i64 0,.int .i64 1,.int .i64 11,v6,.int .i64 0,.int .i64 (-1),.int .i64 0,.int .i64 1,.int .i64 2,v8,.int .i64 0,.int .i64 (-1),.int .i64 0,
 .int .i64 4,.int .i64 0,vb,.int .i64 0,.int .i64 (-1),.int .i64 0,.int .i64 1,.int .i64 2,v11,.int .i64 0,.int .i64 (-1),.int .i64 0]
def exL (v4 v5 v6 v7 v8 v9 v10 v11 v12 v13 v14 : Value) : List (Nat × Tmp × Value):=[(0,4,v4),(1,5,v5),(2,6,v6),(3,7,v7),(4,8,v8),(5,9,v9),(6,10,v10),(7,11,v11),(8,12,v12),(9,13,v13),(10,14,v14)]
structure ExF (W0 : World) (vb : Value) (b : Nat→Bool) (w : World) (v4 v5 v6 v7 v8 v9 v10 v11 v12 v13 v14 : Value) : Prop where
 hb : Below W0.heap.size W0 w
 h0 : b 0=true→RowC W0.heap.size w v4 [0]
 h1 : b 1=true→v5=gAgg 2 v4
 h2 : b 2=true→RowC W0.heap.size w v6 [0,1]
 h3 : b 3=true→v7=gAgg 11 v6
 h4 : b 4=true→RowC W0.heap.size w v8 [2]
 h5 : b 5=true→v9=gAgg 2 v8
 h6 : b 6=true→v10=barAgg vb
 h7 : b 7=true→RowC W0.heap.size w v11 [2]
 h8 : b 8=true→v12=gAgg 2 v11
 h9 : b 9=true→∃ g,v13=.slice (some ⟨g,0,none⟩) 5 5∧W0.heap.size≤g∧w.heap[g]?=some (.cells (exCells v4 v6 v8 vb v11).toArray 46 (0,0))
 h10 : b 10=true→v14=.agg #[.int .i64 3,.int .i64 0,v13]
theorem ExF.below {W0 w w1 : World} {vb : Value} {b : Nat→Bool} {v4 v5 v6 v7 v8 v9 v10 v11 v12 v13 v14 : Value} (h : ExF W0 vb b w v4 v5 v6 v7 v8 v9 v10 v11 v12 v13 v14) (hb : Below w.heap.size w w1) : ExF W0 vb b w1 v4 v5 v6 v7 v8 v9 v10 v11 v12 v13 v14 :=
 ⟨below_step h.hb hb,fun e => (h.h0 e).below hb,h.h1,fun e => (h.h2 e).below hb,h.h3,fun e => (h.h4 e).below hb,h.h5,h.h6,fun e => (h.h7 e).below hb,h.h8,fun e => by
  obtain ⟨g,h1,h2,h3⟩:=h.h9 e
  exact ⟨g,h1,h2,blk_below h3 hb⟩,h.h10⟩
def ExDone (W0 : World) (vb : Value) (g0 : Nat) (w : World) (v4 v5 v6 v7 v8 v9 v10 v11 v12 v13 v14 : Value) : Prop :=
 ∃ w1,ExF W0 vb (fun _ => true) w1 v4 v5 v6 v7 v8 v9 v10 v11 v12 v13 v14∧w=((w1.setCell ⟨g0,0,none⟩ (.int .i64 3)).setCell ⟨g0,1,none⟩ (.int .i64 0)).setCell ⟨g0,2,none⟩ v13
def ExI (a0 : Act) (W0 : World) (vb : Value) (g0 : Nat) (b : Nat→Bool) (a : Act) (w : World) : Prop :=
 ∃ v4 v5 v6 v7 v8 v9 v10 v11 v12 v13 v14,a=putSel a0 b (exL v4 v5 v6 v7 v8 v9 v10 v11 v12 v13 v14)∧(b 11=false→ExF W0 vb b w v4 v5 v6 v7 v8 v9 v10 v11 v12 v13 v14)∧(b 11=true→ExDone W0 vb g0 w v4 v5 v6 v7 v8 v9 v10 v11 v12 v13 v14)
def exT : Bool × List (List Nat × List Nat):=(true,[([],[]),([0],[0]),([],[]),([2,1],[2]),([],[]),([4,3],[4]),([],[]),([],[]),([7,5],[7]),([1,3,5,6,8],[1,3,5,6,8]),([9],[9]),([10,8,0,1,2,3,4,5,6,7,8,9,10],[10])])
def exB : List Nat:=[0,1,0,7,0,31,0,0,191,511,1023,2047]
theorem ex_tab : rtab .any (opsOf Try.f65 2)=exT:=by kernel_rfl
theorem ex_bits : waitsOk exT.2 exB=true:=by kernel_rfl
def exO : List Nat:=[0,1,2,3,4,5,6,7,8,9,10,11]
theorem ex_base : baseOk exT.2 exO=true:=by kernel_rfl
theorem ex_not11 {b : Nat→Bool} {i : Nat} (h : ∀ d,(exO.contains d && (exB.getD d 0).testBit i)=true→b d=false) (hi : (2047 : Nat).testBit i=true) : b 11=false:=h 11 (by simp [exO,exB,hi])
theorem wanted_none {o : Oper} {b : Nat→Option Bool} (h : o.guard=none) : Region.wanted o b=true:=by simp [Region.wanted,h]
theorem ex_op0 : ∃ oi,(opsOf Try.f65 2)[0]?=some oi∧oi.dst=some 4∧oi.op=.buildSlice 37 1 #[(0,.const (.int .i64 0))]∧oi.guard=none:=⟨_,rfl,by kernel_rfl,by kernel_rfl,by kernel_rfl⟩
theorem ex_op1 : ∃ oi,(opsOf Try.f65 2)[1]?=some oi∧oi.dst=some 5∧oi.op=.call { callee:=.value (.func 59),args:=#[.const (.int .i64 2),.tmp 4],argTypes:=#[44,37] }∧oi.guard=none:=⟨_,rfl,by kernel_rfl,by kernel_rfl,by kernel_rfl⟩
theorem ex_op2 : ∃ oi,(opsOf Try.f65 2)[2]?=some oi∧oi.dst=some 6∧oi.op=.buildSlice 37 2 #[(0,.const (.int .i64 0)),(1,.const (.int .i64 1))]∧oi.guard=none:=⟨_,rfl,by kernel_rfl,by kernel_rfl,by kernel_rfl⟩
theorem ex_op3 : ∃ oi,(opsOf Try.f65 2)[3]?=some oi∧oi.dst=some 7∧oi.op=.call { callee:=.value (.func 59),args:=#[.const (.int .i64 11),.tmp 6],argTypes:=#[44,37] }∧oi.guard=none:=⟨_,rfl,by kernel_rfl,by kernel_rfl,by kernel_rfl⟩
theorem ex_op4 : ∃ oi,(opsOf Try.f65 2)[4]?=some oi∧oi.dst=some 8∧oi.op=.buildSlice 37 1 #[(0,.const (.int .i64 2))]∧oi.guard=none:=⟨_,rfl,by kernel_rfl,by kernel_rfl,by kernel_rfl⟩
theorem ex_op5 : ∃ oi,(opsOf Try.f65 2)[5]?=some oi∧oi.dst=some 9∧oi.op=.call { callee:=.value (.func 59),args:=#[.const (.int .i64 2),.tmp 8],argTypes:=#[44,37] }∧oi.guard=none:=⟨_,rfl,by kernel_rfl,by kernel_rfl,by kernel_rfl⟩
theorem ex_op6 : ∃ oi,(opsOf Try.f65 2)[6]?=some oi∧oi.dst=some 10∧oi.op=.load 46 (.tmp 1)∧oi.guard=none:=⟨_,rfl,by kernel_rfl,by kernel_rfl,by kernel_rfl⟩
theorem ex_op7 : ∃ oi,(opsOf Try.f65 2)[7]?=some oi∧oi.dst=some 11∧oi.op=.buildSlice 37 1 #[(0,.const (.int .i64 2))]∧oi.guard=none:=⟨_,rfl,by kernel_rfl,by kernel_rfl,by kernel_rfl⟩
theorem ex_op8 : ∃ oi,(opsOf Try.f65 2)[8]?=some oi∧oi.dst=some 12∧oi.op=.call { callee:=.value (.func 59),args:=#[.const (.int .i64 2),.tmp 11],argTypes:=#[44,37] }∧oi.guard=none:=⟨_,rfl,by kernel_rfl,by kernel_rfl,by kernel_rfl⟩
theorem ex_op9 : ∃ oi,(opsOf Try.f65 2)[9]?=some oi∧oi.dst=some 13∧oi.op=.buildSlice 22 5 #[(0,.tmp 5),(1,.tmp 7),(2,.tmp 9),(3,.tmp 10),(4,.tmp 12)]∧oi.guard=none:=⟨_,rfl,by kernel_rfl,by kernel_rfl,by kernel_rfl⟩
theorem ex_op10 : ∃ oi,(opsOf Try.f65 2)[10]?=some oi∧oi.dst=some 14∧oi.op=.build 24 #[(0,.const (.int .i64 3)),(2,.tmp 13)]∧oi.guard=none:=⟨_,rfl,by kernel_rfl,by kernel_rfl,by kernel_rfl⟩
theorem ex_op11 : ∃ oi,(opsOf Try.f65 2)[11]?=some oi∧oi.dst=none∧oi.op=.store 24 (.tmp 0) (.tmp 14)∧oi.guard=none:=⟨_,rfl,by kernel_rfl,by kernel_rfl,by kernel_rfl⟩
theorem ex_step0 {a0 : Act} {W0 : World} {vb : Value} {g0 gb gv : Nat} {Q : Exit→Act→World→Prop} (hs : a0.tmps.size=15) (hs0 : a0.tmps[0]?=some (.pointer (some ⟨g0,0,none⟩))) (hs1 : a0.tmps[1]?=some (.pointer (some ⟨gb,0,none⟩))) (hg : W0.heap[gb]?=some (.cells #[.int .i64 4,.int .i64 0,vb,.int .i64 0,.int .i64 (-1),.int .i64 0] 46 (0,0))) (hvb : vb=.slice (some ⟨gv,0,none⟩) 2 2) :
  StepAt Try.prog (opsOf Try.f65 2) Q exB exO (ExI a0 W0 vb g0) 0:=by
 intro b a w hI hb hwait hnot
 have hb11:=ex_not11 hnot (by decide)
 obtain ⟨v4,v5,v6,v7,v8,v9,v10,v11,v12,v13,v14,rfl,hF,_⟩:=hI
 have hF:=hF hb11
 obtain ⟨oi,hoi,hd,hop,hgd⟩:=ex_op0
 refine ⟨oi,hoi,fun K hK => ?_⟩
 refine event_step (v:=(.slice (some ⟨w.heap.size,0,none⟩) 1 1)) (w1:=(w.alloc (.cells #[.int .i64 0] 3))) (wanted_none hgd) ?_ ?_
 ·unfold execOp;rw [hop];go_simp
 ·rw [hd,putSel_upk (L':=exL (.slice (some ⟨w.heap.size,0,none⟩) 1 1) v5 v6 v7 v8 v9 v10 v11 v12 v13 v14) 0 hb rfl rfl rfl]
  refine hK _ _ ⟨(.slice (some ⟨w.heap.size,0,none⟩) 1 1),v5,v6,v7,v8,v9,v10,v11,v12,v13,v14,rfl,fun _ => ?_,fun e => by rw [up_ne (by decide)] at e;rw [hb11] at e;cases e⟩
  have h:=hF.below (below_alloc (Below.refl _ _) (.cells #[.int .i64 0] 3))
  exact ⟨h.hb,(fun _ => ⟨_,rfl,hF.hb.size,blk_new w _⟩),(fun e => by rw [up_ne (by decide),hnot 1 (by decide)] at e;cases e),(fun e => h.h2 (by rwa [up_ne (by decide)] at e)),(fun e => h.h3 (by rwa [up_ne (by decide)] at e)),(fun e => h.h4 (by rwa [up_ne (by decide)] at e)),(fun e => h.h5 (by rwa [up_ne (by decide)] at e)),(fun e => h.h6 (by rwa [up_ne (by decide)] at e)),(fun e => h.h7 (by rwa [up_ne (by decide)] at e)),(fun e => h.h8 (by rwa [up_ne (by decide)] at e)),(fun e => by rw [up_ne (by decide),hnot 9 (by decide)] at e;cases e),(fun e => h.h10 (by rwa [up_ne (by decide)] at e))⟩
theorem ex_step1 {a0 : Act} {W0 : World} {vb : Value} {g0 gb gv : Nat} {Q : Exit→Act→World→Prop} (hs : a0.tmps.size=15) (hs0 : a0.tmps[0]?=some (.pointer (some ⟨g0,0,none⟩))) (hs1 : a0.tmps[1]?=some (.pointer (some ⟨gb,0,none⟩))) (hg : W0.heap[gb]?=some (.cells #[.int .i64 4,.int .i64 0,vb,.int .i64 0,.int .i64 (-1),.int .i64 0] 46 (0,0))) (hvb : vb=.slice (some ⟨gv,0,none⟩) 2 2) :
  StepAt Try.prog (opsOf Try.f65 2) Q exB exO (ExI a0 W0 vb g0) 1:=by
 intro b a w hI hb hwait hnot
 have hb11:=ex_not11 hnot (by decide)
 obtain ⟨v4,v5,v6,v7,v8,v9,v10,v11,v12,v13,v14,rfl,hF,_⟩:=hI
 have hF:=hF hb11
 obtain ⟨oi,hoi,hd,hop,hgd⟩:=ex_op1
 have w0 : b 0=true:=hwait 0 (by decide)
 obtain ⟨y,z,_⟩:=hF.h0 w0
 refine ⟨oi,hoi,fun K hK => ?_⟩
 rw [hd]
 have tv:=eval_of (putSel_on (a:=a0) (b:=b) (e:=(0,4,v4)) (L:=exL v4 v5 v6 v7 v8 v9 v10 v11 v12 v13 v14) 0 rfl rfl w0 (by rw [hs];rfl))
 have hfr:=fun w => g_any 2 (some ⟨y,0,none⟩) 1 1 w
 refine goes_ (N:=some 5) Try.func59 (by kernel_rfl) rfl #[.int .i64 2,v4] (wanted_none hgd) hd hop (by simp only [List.map_toArray,List.map_cons,List.map_nil];rw [tv];rfl) ?_
 rw [show (v4 : Value)=.slice (some ⟨y,0,none⟩) 1 1 from z]
 refine (hfr w).mono ?_
 rintro e w1 ⟨rfl,hbw⟩
 refine ⟨_,rfl,?_⟩
 rw [← show (v4 : Value)=.slice (some ⟨y,0,none⟩) 1 1 from z]
 rw [putSel_upk (L':=exL v4 (gAgg 2 v4) v6 v7 v8 v9 v10 v11 v12 v13 v14) 1 hb rfl rfl rfl]
 refine hK _ _ ⟨v4,(gAgg 2 v4),v6,v7,v8,v9,v10,v11,v12,v13,v14,rfl,fun _ => ?_,fun e => by rw [up_ne (by decide)] at e;rw [hb11] at e;cases e⟩
 have h:=hF.below hbw
 exact ⟨h.hb,(fun e => h.h0 (by rwa [up_ne (by decide)] at e)),(fun _ => rfl),(fun e => h.h2 (by rwa [up_ne (by decide)] at e)),(fun e => h.h3 (by rwa [up_ne (by decide)] at e)),(fun e => h.h4 (by rwa [up_ne (by decide)] at e)),(fun e => h.h5 (by rwa [up_ne (by decide)] at e)),(fun e => h.h6 (by rwa [up_ne (by decide)] at e)),(fun e => h.h7 (by rwa [up_ne (by decide)] at e)),(fun e => h.h8 (by rwa [up_ne (by decide)] at e)),(fun e => h.h9 (by rwa [up_ne (by decide)] at e)),(fun e => h.h10 (by rwa [up_ne (by decide)] at e))⟩
theorem ex_step2 {a0 : Act} {W0 : World} {vb : Value} {g0 gb gv : Nat} {Q : Exit→Act→World→Prop} (hs : a0.tmps.size=15) (hs0 : a0.tmps[0]?=some (.pointer (some ⟨g0,0,none⟩))) (hs1 : a0.tmps[1]?=some (.pointer (some ⟨gb,0,none⟩))) (hg : W0.heap[gb]?=some (.cells #[.int .i64 4,.int .i64 0,vb,.int .i64 0,.int .i64 (-1),.int .i64 0] 46 (0,0))) (hvb : vb=.slice (some ⟨gv,0,none⟩) 2 2) :
  StepAt Try.prog (opsOf Try.f65 2) Q exB exO (ExI a0 W0 vb g0) 2:=by
 intro b a w hI hb hwait hnot
 have hb11:=ex_not11 hnot (by decide)
 obtain ⟨v4,v5,v6,v7,v8,v9,v10,v11,v12,v13,v14,rfl,hF,_⟩:=hI
 have hF:=hF hb11
 obtain ⟨oi,hoi,hd,hop,hgd⟩:=ex_op2
 refine ⟨oi,hoi,fun K hK => ?_⟩
 refine event_step (v:=(.slice (some ⟨w.heap.size,0,none⟩) 2 2)) (w1:=(w.alloc (.cells #[.int .i64 0,.int .i64 1] 3))) (wanted_none hgd) ?_ ?_
 ·unfold execOp;rw [hop];go_simp
 ·rw [hd,putSel_upk (L':=exL v4 v5 (.slice (some ⟨w.heap.size,0,none⟩) 2 2) v7 v8 v9 v10 v11 v12 v13 v14) 2 hb rfl rfl rfl]
  refine hK _ _ ⟨v4,v5,(.slice (some ⟨w.heap.size,0,none⟩) 2 2),v7,v8,v9,v10,v11,v12,v13,v14,rfl,fun _ => ?_,fun e => by rw [up_ne (by decide)] at e;rw [hb11] at e;cases e⟩
  have h:=hF.below (below_alloc (Below.refl _ _) (.cells #[.int .i64 0,.int .i64 1] 3))
  exact ⟨h.hb,(fun e => h.h0 (by rwa [up_ne (by decide)] at e)),(fun e => h.h1 (by rwa [up_ne (by decide)] at e)),(fun _ => ⟨_,rfl,hF.hb.size,blk_new w _⟩),(fun e => by rw [up_ne (by decide),hnot 3 (by decide)] at e;cases e),(fun e => h.h4 (by rwa [up_ne (by decide)] at e)),(fun e => h.h5 (by rwa [up_ne (by decide)] at e)),(fun e => h.h6 (by rwa [up_ne (by decide)] at e)),(fun e => h.h7 (by rwa [up_ne (by decide)] at e)),(fun e => h.h8 (by rwa [up_ne (by decide)] at e)),(fun e => by rw [up_ne (by decide),hnot 9 (by decide)] at e;cases e),(fun e => h.h10 (by rwa [up_ne (by decide)] at e))⟩
theorem ex_step3 {a0 : Act} {W0 : World} {vb : Value} {g0 gb gv : Nat} {Q : Exit→Act→World→Prop} (hs : a0.tmps.size=15) (hs0 : a0.tmps[0]?=some (.pointer (some ⟨g0,0,none⟩))) (hs1 : a0.tmps[1]?=some (.pointer (some ⟨gb,0,none⟩))) (hg : W0.heap[gb]?=some (.cells #[.int .i64 4,.int .i64 0,vb,.int .i64 0,.int .i64 (-1),.int .i64 0] 46 (0,0))) (hvb : vb=.slice (some ⟨gv,0,none⟩) 2 2) :
  StepAt Try.prog (opsOf Try.f65 2) Q exB exO (ExI a0 W0 vb g0) 3:=by
 intro b a w hI hb hwait hnot
 have hb11:=ex_not11 hnot (by decide)
 obtain ⟨v4,v5,v6,v7,v8,v9,v10,v11,v12,v13,v14,rfl,hF,_⟩:=hI
 have hF:=hF hb11
 obtain ⟨oi,hoi,hd,hop,hgd⟩:=ex_op3
 have w2 : b 2=true:=hwait 2 (by decide)
 obtain ⟨y,z,_⟩:=hF.h2 w2
 refine ⟨oi,hoi,fun K hK => ?_⟩
 rw [hd]
 have tv:=eval_of (putSel_on (a:=a0) (b:=b) (e:=(2,6,v6)) (L:=exL v4 v5 v6 v7 v8 v9 v10 v11 v12 v13 v14) 2 rfl rfl w2 (by rw [hs];rfl))
 have hfr:=fun w => g_any 11 (some ⟨y,0,none⟩) 2 2 w
 refine goes_ (N:=some 7) Try.func59 (by kernel_rfl) rfl #[.int .i64 11,v6] (wanted_none hgd) hd hop (by simp only [List.map_toArray,List.map_cons,List.map_nil];rw [tv];rfl) ?_
 rw [show (v6 : Value)=.slice (some ⟨y,0,none⟩) 2 2 from z]
 refine (hfr w).mono ?_
 rintro e w1 ⟨rfl,hbw⟩
 refine ⟨_,rfl,?_⟩
 rw [← show (v6 : Value)=.slice (some ⟨y,0,none⟩) 2 2 from z]
 rw [putSel_upk (L':=exL v4 v5 v6 (gAgg 11 v6) v8 v9 v10 v11 v12 v13 v14) 3 hb rfl rfl rfl]
 refine hK _ _ ⟨v4,v5,v6,(gAgg 11 v6),v8,v9,v10,v11,v12,v13,v14,rfl,fun _ => ?_,fun e => by rw [up_ne (by decide)] at e;rw [hb11] at e;cases e⟩
 have h:=hF.below hbw
 exact ⟨h.hb,(fun e => h.h0 (by rwa [up_ne (by decide)] at e)),(fun e => h.h1 (by rwa [up_ne (by decide)] at e)),(fun e => h.h2 (by rwa [up_ne (by decide)] at e)),(fun _ => rfl),(fun e => h.h4 (by rwa [up_ne (by decide)] at e)),(fun e => h.h5 (by rwa [up_ne (by decide)] at e)),(fun e => h.h6 (by rwa [up_ne (by decide)] at e)),(fun e => h.h7 (by rwa [up_ne (by decide)] at e)),(fun e => h.h8 (by rwa [up_ne (by decide)] at e)),(fun e => h.h9 (by rwa [up_ne (by decide)] at e)),(fun e => h.h10 (by rwa [up_ne (by decide)] at e))⟩
theorem ex_step4 {a0 : Act} {W0 : World} {vb : Value} {g0 gb gv : Nat} {Q : Exit→Act→World→Prop} (hs : a0.tmps.size=15) (hs0 : a0.tmps[0]?=some (.pointer (some ⟨g0,0,none⟩))) (hs1 : a0.tmps[1]?=some (.pointer (some ⟨gb,0,none⟩))) (hg : W0.heap[gb]?=some (.cells #[.int .i64 4,.int .i64 0,vb,.int .i64 0,.int .i64 (-1),.int .i64 0] 46 (0,0))) (hvb : vb=.slice (some ⟨gv,0,none⟩) 2 2) :
  StepAt Try.prog (opsOf Try.f65 2) Q exB exO (ExI a0 W0 vb g0) 4:=by
 intro b a w hI hb hwait hnot
 have hb11:=ex_not11 hnot (by decide)
 obtain ⟨v4,v5,v6,v7,v8,v9,v10,v11,v12,v13,v14,rfl,hF,_⟩:=hI
 have hF:=hF hb11
 obtain ⟨oi,hoi,hd,hop,hgd⟩:=ex_op4
 refine ⟨oi,hoi,fun K hK => ?_⟩
 refine event_step (v:=(.slice (some ⟨w.heap.size,0,none⟩) 1 1)) (w1:=(w.alloc (.cells #[.int .i64 2] 3))) (wanted_none hgd) ?_ ?_
 ·unfold execOp;rw [hop];go_simp
 ·rw [hd,putSel_upk (L':=exL v4 v5 v6 v7 (.slice (some ⟨w.heap.size,0,none⟩) 1 1) v9 v10 v11 v12 v13 v14) 4 hb rfl rfl rfl]
  refine hK _ _ ⟨v4,v5,v6,v7,(.slice (some ⟨w.heap.size,0,none⟩) 1 1),v9,v10,v11,v12,v13,v14,rfl,fun _ => ?_,fun e => by rw [up_ne (by decide)] at e;rw [hb11] at e;cases e⟩
  have h:=hF.below (below_alloc (Below.refl _ _) (.cells #[.int .i64 2] 3))
  exact ⟨h.hb,(fun e => h.h0 (by rwa [up_ne (by decide)] at e)),(fun e => h.h1 (by rwa [up_ne (by decide)] at e)),(fun e => h.h2 (by rwa [up_ne (by decide)] at e)),(fun e => h.h3 (by rwa [up_ne (by decide)] at e)),(fun _ => ⟨_,rfl,hF.hb.size,blk_new w _⟩),(fun e => by rw [up_ne (by decide),hnot 5 (by decide)] at e;cases e),(fun e => h.h6 (by rwa [up_ne (by decide)] at e)),(fun e => h.h7 (by rwa [up_ne (by decide)] at e)),(fun e => h.h8 (by rwa [up_ne (by decide)] at e)),(fun e => by rw [up_ne (by decide),hnot 9 (by decide)] at e;cases e),(fun e => h.h10 (by rwa [up_ne (by decide)] at e))⟩
theorem ex_step5 {a0 : Act} {W0 : World} {vb : Value} {g0 gb gv : Nat} {Q : Exit→Act→World→Prop} (hs : a0.tmps.size=15) (hs0 : a0.tmps[0]?=some (.pointer (some ⟨g0,0,none⟩))) (hs1 : a0.tmps[1]?=some (.pointer (some ⟨gb,0,none⟩))) (hg : W0.heap[gb]?=some (.cells #[.int .i64 4,.int .i64 0,vb,.int .i64 0,.int .i64 (-1),.int .i64 0] 46 (0,0))) (hvb : vb=.slice (some ⟨gv,0,none⟩) 2 2) :
  StepAt Try.prog (opsOf Try.f65 2) Q exB exO (ExI a0 W0 vb g0) 5:=by
 intro b a w hI hb hwait hnot
 have hb11:=ex_not11 hnot (by decide)
 obtain ⟨v4,v5,v6,v7,v8,v9,v10,v11,v12,v13,v14,rfl,hF,_⟩:=hI
 have hF:=hF hb11
 obtain ⟨oi,hoi,hd,hop,hgd⟩:=ex_op5
 have w4 : b 4=true:=hwait 4 (by decide)
 obtain ⟨y,z,_⟩:=hF.h4 w4
 refine ⟨oi,hoi,fun K hK => ?_⟩
 rw [hd]
 have tv:=eval_of (putSel_on (a:=a0) (b:=b) (e:=(4,8,v8)) (L:=exL v4 v5 v6 v7 v8 v9 v10 v11 v12 v13 v14) 4 rfl rfl w4 (by rw [hs];rfl))
 have hfr:=fun w => g_any 2 (some ⟨y,0,none⟩) 1 1 w
 refine goes_ (N:=some 9) Try.func59 (by kernel_rfl) rfl #[.int .i64 2,v8] (wanted_none hgd) hd hop (by simp only [List.map_toArray,List.map_cons,List.map_nil];rw [tv];rfl) ?_
 rw [show (v8 : Value)=.slice (some ⟨y,0,none⟩) 1 1 from z]
 refine (hfr w).mono ?_
 rintro e w1 ⟨rfl,hbw⟩
 refine ⟨_,rfl,?_⟩
 rw [← show (v8 : Value)=.slice (some ⟨y,0,none⟩) 1 1 from z]
 rw [putSel_upk (L':=exL v4 v5 v6 v7 v8 (gAgg 2 v8) v10 v11 v12 v13 v14) 5 hb rfl rfl rfl]
 refine hK _ _ ⟨v4,v5,v6,v7,v8,(gAgg 2 v8),v10,v11,v12,v13,v14,rfl,fun _ => ?_,fun e => by rw [up_ne (by decide)] at e;rw [hb11] at e;cases e⟩
 have h:=hF.below hbw
 exact ⟨h.hb,(fun e => h.h0 (by rwa [up_ne (by decide)] at e)),(fun e => h.h1 (by rwa [up_ne (by decide)] at e)),(fun e => h.h2 (by rwa [up_ne (by decide)] at e)),(fun e => h.h3 (by rwa [up_ne (by decide)] at e)),(fun e => h.h4 (by rwa [up_ne (by decide)] at e)),(fun _ => rfl),(fun e => h.h6 (by rwa [up_ne (by decide)] at e)),(fun e => h.h7 (by rwa [up_ne (by decide)] at e)),(fun e => h.h8 (by rwa [up_ne (by decide)] at e)),(fun e => h.h9 (by rwa [up_ne (by decide)] at e)),(fun e => h.h10 (by rwa [up_ne (by decide)] at e))⟩
theorem ex_step6 {a0 : Act} {W0 : World} {vb : Value} {g0 gb gv : Nat} {Q : Exit→Act→World→Prop} (hs : a0.tmps.size=15) (hs0 : a0.tmps[0]?=some (.pointer (some ⟨g0,0,none⟩))) (hs1 : a0.tmps[1]?=some (.pointer (some ⟨gb,0,none⟩))) (hg : W0.heap[gb]?=some (.cells #[.int .i64 4,.int .i64 0,vb,.int .i64 0,.int .i64 (-1),.int .i64 0] 46 (0,0))) (hvb : vb=.slice (some ⟨gv,0,none⟩) 2 2) :
  StepAt Try.prog (opsOf Try.f65 2) Q exB exO (ExI a0 W0 vb g0) 6:=by
 intro b a w hI hb hwait hnot
 have hb11:=ex_not11 hnot (by decide)
 obtain ⟨v4,v5,v6,v7,v8,v9,v10,v11,v12,v13,v14,rfl,hF,_⟩:=hI
 have hF:=hF hb11
 obtain ⟨oi,hoi,hd,hop,hgd⟩:=ex_op6
 refine ⟨oi,hoi,fun K hK => ?_⟩
 have tv:=eval_of ((putSel_off (a:=a0) (b:=b) (t:=1) (L:=exL v4 v5 v6 v7 v8 v9 v10 v11 v12 v13 v14) rfl).trans hs1)
 have hbl:=blk_below hg hF.hb
 have c0 : w.cell? ⟨gb,0,none⟩=some (.int .i64 4):=(blk_cell hbl 0).trans rfl
 have c1 : w.cell? ⟨gb,1,none⟩=some (.int .i64 0):=(blk_cell hbl 1).trans rfl
 have c2 : w.cell? ⟨gb,2,none⟩=some vb:=(blk_cell hbl 2).trans rfl
 have c3 : w.cell? ⟨gb,3,none⟩=some (.int .i64 0):=(blk_cell hbl 3).trans rfl
 have c4 : w.cell? ⟨gb,4,none⟩=some (.int .i64 (-1)):=(blk_cell hbl 4).trans rfl
 have c5 : w.cell? ⟨gb,5,none⟩=some (.int .i64 0):=(blk_cell hbl 5).trans rfl
 have hu46:=Try.underlying46
 refine event_step (v:=(barAgg vb)) (w1:=w) (wanted_none hgd) ?_ ?_
 ·unfold execOp;rw [hop];simp only [tv];go_simp
 ·rw [hd,putSel_upk (L':=exL v4 v5 v6 v7 v8 v9 (barAgg vb) v11 v12 v13 v14) 6 hb rfl rfl rfl]
  refine hK _ _ ⟨v4,v5,v6,v7,v8,v9,(barAgg vb),v11,v12,v13,v14,rfl,fun _ => ?_,fun e => by rw [up_ne (by decide)] at e;rw [hb11] at e;cases e⟩
  have h:=hF.below (Below.refl _ _)
  exact ⟨h.hb,(fun e => h.h0 (by rwa [up_ne (by decide)] at e)),(fun e => h.h1 (by rwa [up_ne (by decide)] at e)),(fun e => h.h2 (by rwa [up_ne (by decide)] at e)),(fun e => h.h3 (by rwa [up_ne (by decide)] at e)),(fun e => h.h4 (by rwa [up_ne (by decide)] at e)),(fun e => h.h5 (by rwa [up_ne (by decide)] at e)),(fun _ => rfl),(fun e => h.h7 (by rwa [up_ne (by decide)] at e)),(fun e => h.h8 (by rwa [up_ne (by decide)] at e)),(fun e => h.h9 (by rwa [up_ne (by decide)] at e)),(fun e => h.h10 (by rwa [up_ne (by decide)] at e))⟩
theorem ex_step7 {a0 : Act} {W0 : World} {vb : Value} {g0 gb gv : Nat} {Q : Exit→Act→World→Prop} (hs : a0.tmps.size=15) (hs0 : a0.tmps[0]?=some (.pointer (some ⟨g0,0,none⟩))) (hs1 : a0.tmps[1]?=some (.pointer (some ⟨gb,0,none⟩))) (hg : W0.heap[gb]?=some (.cells #[.int .i64 4,.int .i64 0,vb,.int .i64 0,.int .i64 (-1),.int .i64 0] 46 (0,0))) (hvb : vb=.slice (some ⟨gv,0,none⟩) 2 2) :
  StepAt Try.prog (opsOf Try.f65 2) Q exB exO (ExI a0 W0 vb g0) 7:=by
 intro b a w hI hb hwait hnot
 have hb11:=ex_not11 hnot (by decide)
 obtain ⟨v4,v5,v6,v7,v8,v9,v10,v11,v12,v13,v14,rfl,hF,_⟩:=hI
 have hF:=hF hb11
 obtain ⟨oi,hoi,hd,hop,hgd⟩:=ex_op7
 refine ⟨oi,hoi,fun K hK => ?_⟩
 refine event_step (v:=(.slice (some ⟨w.heap.size,0,none⟩) 1 1)) (w1:=(w.alloc (.cells #[.int .i64 2] 3))) (wanted_none hgd) ?_ ?_
 ·unfold execOp;rw [hop];go_simp
 ·rw [hd,putSel_upk (L':=exL v4 v5 v6 v7 v8 v9 v10 (.slice (some ⟨w.heap.size,0,none⟩) 1 1) v12 v13 v14) 7 hb rfl rfl rfl]
  refine hK _ _ ⟨v4,v5,v6,v7,v8,v9,v10,(.slice (some ⟨w.heap.size,0,none⟩) 1 1),v12,v13,v14,rfl,fun _ => ?_,fun e => by rw [up_ne (by decide)] at e;rw [hb11] at e;cases e⟩
  have h:=hF.below (below_alloc (Below.refl _ _) (.cells #[.int .i64 2] 3))
  exact ⟨h.hb,(fun e => h.h0 (by rwa [up_ne (by decide)] at e)),(fun e => h.h1 (by rwa [up_ne (by decide)] at e)),(fun e => h.h2 (by rwa [up_ne (by decide)] at e)),(fun e => h.h3 (by rwa [up_ne (by decide)] at e)),(fun e => h.h4 (by rwa [up_ne (by decide)] at e)),(fun e => h.h5 (by rwa [up_ne (by decide)] at e)),(fun e => h.h6 (by rwa [up_ne (by decide)] at e)),(fun _ => ⟨_,rfl,hF.hb.size,blk_new w _⟩),(fun e => by rw [up_ne (by decide),hnot 8 (by decide)] at e;cases e),(fun e => by rw [up_ne (by decide),hnot 9 (by decide)] at e;cases e),(fun e => h.h10 (by rwa [up_ne (by decide)] at e))⟩
theorem ex_step8 {a0 : Act} {W0 : World} {vb : Value} {g0 gb gv : Nat} {Q : Exit→Act→World→Prop} (hs : a0.tmps.size=15) (hs0 : a0.tmps[0]?=some (.pointer (some ⟨g0,0,none⟩))) (hs1 : a0.tmps[1]?=some (.pointer (some ⟨gb,0,none⟩))) (hg : W0.heap[gb]?=some (.cells #[.int .i64 4,.int .i64 0,vb,.int .i64 0,.int .i64 (-1),.int .i64 0] 46 (0,0))) (hvb : vb=.slice (some ⟨gv,0,none⟩) 2 2) :
  StepAt Try.prog (opsOf Try.f65 2) Q exB exO (ExI a0 W0 vb g0) 8:=by
 intro b a w hI hb hwait hnot
 have hb11:=ex_not11 hnot (by decide)
 obtain ⟨v4,v5,v6,v7,v8,v9,v10,v11,v12,v13,v14,rfl,hF,_⟩:=hI
 have hF:=hF hb11
 obtain ⟨oi,hoi,hd,hop,hgd⟩:=ex_op8
 have w7 : b 7=true:=hwait 7 (by decide)
 obtain ⟨y,z,_⟩:=hF.h7 w7
 refine ⟨oi,hoi,fun K hK => ?_⟩
 rw [hd]
 have tv:=eval_of (putSel_on (a:=a0) (b:=b) (e:=(7,11,v11)) (L:=exL v4 v5 v6 v7 v8 v9 v10 v11 v12 v13 v14) 7 rfl rfl w7 (by rw [hs];rfl))
 have hfr:=fun w => g_any 2 (some ⟨y,0,none⟩) 1 1 w
 refine goes_ (N:=some 12) Try.func59 (by kernel_rfl) rfl #[.int .i64 2,v11] (wanted_none hgd) hd hop (by simp only [List.map_toArray,List.map_cons,List.map_nil];rw [tv];rfl) ?_
 rw [show (v11 : Value)=.slice (some ⟨y,0,none⟩) 1 1 from z]
 refine (hfr w).mono ?_
 rintro e w1 ⟨rfl,hbw⟩
 refine ⟨_,rfl,?_⟩
 rw [← show (v11 : Value)=.slice (some ⟨y,0,none⟩) 1 1 from z]
 rw [putSel_upk (L':=exL v4 v5 v6 v7 v8 v9 v10 v11 (gAgg 2 v11) v13 v14) 8 hb rfl rfl rfl]
 refine hK _ _ ⟨v4,v5,v6,v7,v8,v9,v10,v11,(gAgg 2 v11),v13,v14,rfl,fun _ => ?_,fun e => by rw [up_ne (by decide)] at e;rw [hb11] at e;cases e⟩
 have h:=hF.below hbw
 exact ⟨h.hb,(fun e => h.h0 (by rwa [up_ne (by decide)] at e)),(fun e => h.h1 (by rwa [up_ne (by decide)] at e)),(fun e => h.h2 (by rwa [up_ne (by decide)] at e)),(fun e => h.h3 (by rwa [up_ne (by decide)] at e)),(fun e => h.h4 (by rwa [up_ne (by decide)] at e)),(fun e => h.h5 (by rwa [up_ne (by decide)] at e)),(fun e => h.h6 (by rwa [up_ne (by decide)] at e)),(fun e => h.h7 (by rwa [up_ne (by decide)] at e)),(fun _ => rfl),(fun e => h.h9 (by rwa [up_ne (by decide)] at e)),(fun e => h.h10 (by rwa [up_ne (by decide)] at e))⟩
theorem ex_step9 {a0 : Act} {W0 : World} {vb : Value} {g0 gb gv : Nat} {Q : Exit→Act→World→Prop} (hs : a0.tmps.size=15) (hs0 : a0.tmps[0]?=some (.pointer (some ⟨g0,0,none⟩))) (hs1 : a0.tmps[1]?=some (.pointer (some ⟨gb,0,none⟩))) (hg : W0.heap[gb]?=some (.cells #[.int .i64 4,.int .i64 0,vb,.int .i64 0,.int .i64 (-1),.int .i64 0] 46 (0,0))) (hvb : vb=.slice (some ⟨gv,0,none⟩) 2 2) :
  StepAt Try.prog (opsOf Try.f65 2) Q exB exO (ExI a0 W0 vb g0) 9:=by
 intro b a w hI hb hwait hnot
 have hb11:=ex_not11 hnot (by decide)
 obtain ⟨v4,v5,v6,v7,v8,v9,v10,v11,v12,v13,v14,rfl,hF,_⟩:=hI
 have hF:=hF hb11
 obtain ⟨oi,hoi,hd,hop,hgd⟩:=ex_op9
 have w0 : b 0=true:=hwait 0 (by decide)
 have w1 : b 1=true:=hwait 1 (by decide)
 have w2 : b 2=true:=hwait 2 (by decide)
 have w3 : b 3=true:=hwait 3 (by decide)
 have w4 : b 4=true:=hwait 4 (by decide)
 have w5 : b 5=true:=hwait 5 (by decide)
 have w6 : b 6=true:=hwait 6 (by decide)
 have w7 : b 7=true:=hwait 7 (by decide)
 have w8 : b 8=true:=hwait 8 (by decide)
 refine ⟨oi,hoi,fun K hK => ?_⟩
 refine event_step (v:=(.slice (some ⟨w.heap.size,0,none⟩) 5 5)) (w1:=(w.alloc (.cells (exCells v4 v6 v8 vb v11).toArray 46))) (wanted_none hgd) ?_ ?_
 ·obtain ⟨y4,z4,_⟩:=hF.h0 w0
  obtain ⟨y6,z6,_⟩:=hF.h2 w2
  obtain ⟨y8,z8,_⟩:=hF.h4 w4
  obtain ⟨y11,z11,_⟩:=hF.h7 w7
  have t1:=eval_of (putSel_on (a:=a0) (b:=b) (e:=(1,5,v5)) (L:=exL v4 v5 v6 v7 v8 v9 v10 v11 v12 v13 v14) 1 rfl rfl w1 (by rw [hs];rfl))
  simp only at t1
  have t3:=eval_of (putSel_on (a:=a0) (b:=b) (e:=(3,7,v7)) (L:=exL v4 v5 v6 v7 v8 v9 v10 v11 v12 v13 v14) 3 rfl rfl w3 (by rw [hs];rfl))
  simp only at t3
  have t5:=eval_of (putSel_on (a:=a0) (b:=b) (e:=(5,9,v9)) (L:=exL v4 v5 v6 v7 v8 v9 v10 v11 v12 v13 v14) 5 rfl rfl w5 (by rw [hs];rfl))
  simp only at t5
  have t6:=eval_of (putSel_on (a:=a0) (b:=b) (e:=(6,10,v10)) (L:=exL v4 v5 v6 v7 v8 v9 v10 v11 v12 v13 v14) 6 rfl rfl w6 (by rw [hs];rfl))
  simp only at t6
  have t8:=eval_of (putSel_on (a:=a0) (b:=b) (e:=(8,12,v12)) (L:=exL v4 v5 v6 v7 v8 v9 v10 v11 v12 v13 v14) 8 rfl rfl w8 (by rw [hs];rfl))
  simp only at t8
  generalize (putSel a0 b (exL v4 v5 v6 v7 v8 v9 v10 v11 v12 v13 v14)).eval=ev at t1 t3 t5 t6 t8 ⊢
  rw [hF.h1 w1,z4] at t1
  rw [hF.h3 w3,z6] at t3
  rw [hF.h5 w5,z8] at t5
  rw [hF.h6 w6,hvb] at t6
  rw [hF.h8 w8,z11] at t8
  unfold execOp;rw [hop];simp only [exCells,z4,z6,z8,z11,hvb]
  go_simp
 ·rw [hd,putSel_upk (L':=exL v4 v5 v6 v7 v8 v9 v10 v11 v12 (.slice (some ⟨w.heap.size,0,none⟩) 5 5) v14) 9 hb rfl rfl rfl]
  refine hK _ _ ⟨v4,v5,v6,v7,v8,v9,v10,v11,v12,(.slice (some ⟨w.heap.size,0,none⟩) 5 5),v14,rfl,fun _ => ?_,fun e => by rw [up_ne (by decide)] at e;rw [hb11] at e;cases e⟩
  have h:=hF.below (below_alloc (Below.refl _ _) (.cells (exCells v4 v6 v8 vb v11).toArray 46))
  exact ⟨h.hb,(fun e => h.h0 (by rwa [up_ne (by decide)] at e)),(fun e => h.h1 (by rwa [up_ne (by decide)] at e)),(fun e => h.h2 (by rwa [up_ne (by decide)] at e)),(fun e => h.h3 (by rwa [up_ne (by decide)] at e)),(fun e => h.h4 (by rwa [up_ne (by decide)] at e)),(fun e => h.h5 (by rwa [up_ne (by decide)] at e)),(fun e => h.h6 (by rwa [up_ne (by decide)] at e)),(fun e => h.h7 (by rwa [up_ne (by decide)] at e)),(fun e => h.h8 (by rwa [up_ne (by decide)] at e)),(fun _ => ⟨_,rfl,hF.hb.size,blk_new w _⟩),(fun e => by rw [up_ne (by decide),hnot 10 (by decide)] at e;cases e)⟩
theorem ex_step10 {a0 : Act} {W0 : World} {vb : Value} {g0 gb gv : Nat} {Q : Exit→Act→World→Prop} (hs : a0.tmps.size=15) (hs0 : a0.tmps[0]?=some (.pointer (some ⟨g0,0,none⟩))) (hs1 : a0.tmps[1]?=some (.pointer (some ⟨gb,0,none⟩))) (hg : W0.heap[gb]?=some (.cells #[.int .i64 4,.int .i64 0,vb,.int .i64 0,.int .i64 (-1),.int .i64 0] 46 (0,0))) (hvb : vb=.slice (some ⟨gv,0,none⟩) 2 2) :
  StepAt Try.prog (opsOf Try.f65 2) Q exB exO (ExI a0 W0 vb g0) 10:=by
 intro b a w hI hb hwait hnot
 have hb11:=ex_not11 hnot (by decide)
 obtain ⟨v4,v5,v6,v7,v8,v9,v10,v11,v12,v13,v14,rfl,hF,_⟩:=hI
 have hF:=hF hb11
 obtain ⟨oi,hoi,hd,hop,hgd⟩:=ex_op10
 have w9 : b 9=true:=hwait 9 (by decide)
 obtain ⟨g,z13,_⟩:=hF.h9 w9
 refine ⟨oi,hoi,fun K hK => ?_⟩
 have tv:=eval_of (putSel_on (a:=a0) (b:=b) (e:=(9,13,v13)) (L:=exL v4 v5 v6 v7 v8 v9 v10 v11 v12 v13 v14) 9 rfl rfl w9 (by rw [hs];rfl))
 have hu24:=Try.underlying24
 refine event_step (v:=(.agg #[.int .i64 3,.int .i64 0,v13])) (w1:=w) (wanted_none hgd) ?_ ?_
 ·have tc : (putSel a0 b (exL v4 v5 v6 v7 v8 v9 v10 v11 v12 v13 v14)).eval (.const (.int .i64 3))=.int .i64 3:=rfl
  simp only at tv
  rw [z13] at tv ⊢
  simp only [z13] at tc
  generalize (putSel a0 b _).eval=ev at tv tc ⊢
  unfold execOp;rw [hop]
  go_simp
 ·rw [hd,putSel_upk (L':=exL v4 v5 v6 v7 v8 v9 v10 v11 v12 v13 (.agg #[.int .i64 3,.int .i64 0,v13])) 10 hb rfl rfl rfl]
  refine hK _ _ ⟨v4,v5,v6,v7,v8,v9,v10,v11,v12,v13,(.agg #[.int .i64 3,.int .i64 0,v13]),rfl,fun _ => ?_,fun e => by rw [up_ne (by decide)] at e;rw [hb11] at e;cases e⟩
  have h:=hF.below (Below.refl _ _)
  exact ⟨h.hb,(fun e => h.h0 (by rwa [up_ne (by decide)] at e)),(fun e => h.h1 (by rwa [up_ne (by decide)] at e)),(fun e => h.h2 (by rwa [up_ne (by decide)] at e)),(fun e => h.h3 (by rwa [up_ne (by decide)] at e)),(fun e => h.h4 (by rwa [up_ne (by decide)] at e)),(fun e => h.h5 (by rwa [up_ne (by decide)] at e)),(fun e => h.h6 (by rwa [up_ne (by decide)] at e)),(fun e => h.h7 (by rwa [up_ne (by decide)] at e)),(fun e => h.h8 (by rwa [up_ne (by decide)] at e)),(fun e => h.h9 (by rwa [up_ne (by decide)] at e)),(fun _ => rfl)⟩
theorem ex_step11 {a0 : Act} {W0 : World} {vb : Value} {g0 : Nat} {Q : Exit→Act→World→Prop} (hs : a0.tmps.size=15) (hs0 : a0.tmps[0]?=some (.pointer (some ⟨g0,0,none⟩))) (hg0 : W0.heap[g0]?=some (.cells #[.int .i64 0,.int .i64 0,.slice none 0 0] 24 (0,0))) :
  StepAt Try.prog (opsOf Try.f65 2) Q exB exO (ExI a0 W0 vb g0) 11:=by
 intro b a w hI hb hwait hnot
 obtain ⟨v4,v5,v6,v7,v8,v9,v10,v11,v12,v13,v14,rfl,hF,_⟩:=hI
 have hF:=hF hb
 obtain ⟨oi,hoi,hd,hop,hgd⟩:=ex_op11
 have hw : ∀ j,j < 11→b j=true:=fun j hj => hwait j (by rcases j with _|_|_|_|_|_|_|_|_|_|_|j <;> first|decide|omega)
 have w9:=hw 9 (by decide)
 have w10:=hw 10 (by decide)
 obtain ⟨g,z13,_⟩:=hF.h9 w9
 have t0:=eval_of ((putSel_off (a:=a0) (b:=b) (t:=0) (L:=exL v4 v5 v6 v7 v8 v9 v10 v11 v12 v13 v14) rfl).trans hs0)
 have t10:=eval_of (putSel_on (a:=a0) (b:=b) (e:=(10,14,v14)) (L:=exL v4 v5 v6 v7 v8 v9 v10 v11 v12 v13 v14) 10 rfl rfl w10 (by rw [hs];rfl))
 simp only at t10
 refine ⟨oi,hoi,fun K hK => ?_⟩
 have hu24:=Try.underlying24
 have hbl:=blk_below hg0 hF.hb
 have hrun : (execOp (putSel a0 b (exL v4 v5 v6 v7 v8 v9 v10 v11 v12 v13 v14)).eval oi).run Try.prog w=.ok .skip (((w.setCell ⟨g0,0,none⟩ (.int .i64 3)).setCell ⟨g0,1,none⟩ (.int .i64 0)).setCell ⟨g0,2,none⟩ v13):=by
  generalize (putSel a0 b (exL v4 v5 v6 v7 v8 v9 v10 v11 v12 v13 v14)).eval=ev at t0 t10 ⊢
  rw [hF.h10 w10,z13] at t10
  rw [z13]
  have c0 : w.cell? ⟨g0,0,none⟩=some (.int .i64 0):=(blk_cell hbl 0).trans rfl
  have c1 : w.cell? ⟨g0,1,none⟩=some (.int .i64 0):=(blk_cell hbl 1).trans rfl
  have c2 : w.cell? ⟨g0,2,none⟩=some (.slice none 0 0):=(blk_cell hbl 2).trans rfl
  have f0:=blk_frozen hbl 0
  have f1:=blk_frozen hbl 1
  have f2:=blk_frozen hbl 2
  clear hbl
  unfold execOp;rw [hop]
  go_simp
 rw [if_pos (wanted_none hgd)]
 unfold Oper.wp
 rw [hrun]
 show K ((putSel a0 b (exL v4 v5 v6 v7 v8 v9 v10 v11 v12 v13 v14)).put oi.dst undef) _
 rw [hd,putSel_none (i:=11) rfl]
 refine hK _ _ ⟨v4,v5,v6,v7,v8,v9,v10,v11,v12,v13,v14,rfl,(fun e => by rw [up_self] at e;cases e),fun _ => ⟨w,⟨hF.hb,fun _ => hF.h0 (hw 0 (by decide)),fun _ => hF.h1 (hw 1 (by decide)),fun _ => hF.h2 (hw 2 (by decide)),fun _ => hF.h3 (hw 3 (by decide)),fun _ => hF.h4 (hw 4 (by decide)),fun _ => hF.h5 (hw 5 (by decide)),fun _ => hF.h6 (hw 6 (by decide)),fun _ => hF.h7 (hw 7 (by decide)),fun _ => hF.h8 (hw 8 (by decide)),fun _ => hF.h9 (hw 9 (by decide)),fun _ => hF.h10 (hw 10 (by decide))⟩,rfl⟩⟩
set_option maxRecDepth 100000 in
set_option maxHeartbeats 2000000 in
theorem example_any (w : World) : Calls Try.prog 65 #[] w fun e w' => ∃ g : Nat,e=.returned (.agg #[.int .i64 3,.int .i64 0,.slice (some ⟨g,0,none⟩) 5 5])∧Kd.C k46 w' (some ⟨g,0,none⟩) 5 exOps∧Below w.heap.size w w':=by
 have hu24:=Try.underlying24
 have hu46:=Try.underlying46
 go_enter Try.func65,Try.ntmps65
 go_upto_region 2 with (fail)
 have hfin : ∀ (W0 : World) (g0 gv gb : Nat),Below w.heap.size w W0→w.heap.size≤g0→g0 < W0.heap.size→W0.heap[g0]?=some (.cells #[.int .i64 0,.int .i64 0,.slice none 0 0] 24 (0,0))→W0.heap[gv]?=some (.cells #[.int .i64 1,.int .i64 2] 3 (0,0))→gv≠g0 →
   ∀ w1 v4 v5 v6 v7 v8 v9 v10 v11 v12 v13 v14,ExDone W0 (.slice (some ⟨gv,0,none⟩) 2 2) g0 w1 v4 v5 v6 v7 v8 v9 v10 v11 v12 v13 v14→∃ g : Nat,v13=.slice (some ⟨g,0,none⟩) 5 5∧w1.heap[g0]?=some (.cells #[.int .i64 3,.int .i64 0,v13] 24 (0,0))∧Kd.C k46 w1 (some ⟨g,0,none⟩) 5 exOps∧Below w.heap.size w w1:=by
  rintro W0 g0 gv gb hB h0 h0' hz hv hne w1 v4 v5 v6 v7 v8 v9 v10 v11 v12 v13 v14 ⟨w2,hF,rfl⟩
  obtain ⟨g,rfl,hge,hgc⟩:=hF.h9 rfl
  obtain ⟨y4,rfl,z4,q4⟩:=hF.h0 rfl
  obtain ⟨y6,rfl,z6,q6⟩:=hF.h2 rfl
  obtain ⟨y8,rfl,z8,q8⟩:=hF.h4 rfl
  obtain ⟨y11,rfl,z11,q11⟩:=hF.h7 rfl
  have hz2:=blk_below hz hF.hb
  have hv2:=blk_below hv hF.hb
  have s : ∀ (x : Nat) (o : Array Value) (t : TypeId),x≠g0→w2.heap[x]?=some (.cells o t (0,0))→(((w2.setCell ⟨g0,0,none⟩ (.int .i64 3)).setCell ⟨g0,1,none⟩ (.int .i64 0)).setCell ⟨g0,2,none⟩ (.slice (some ⟨g,0,none⟩) 5 5)).heap[x]?=some (.cells o t (0,0)):=fun x o t hxn hq => blk_far (blk_far (blk_far hq hxn _) hxn _) hxn _
  have r4:=rowC_reads (l:=[0]) (s _ _ _ (by omega) q4) (by decide)
  have r6:=rowC_reads (l:=[0,1]) (s _ _ _ (by omega) q6) (by decide)
  have r8:=rowC_reads (l:=[2]) (s _ _ _ (by omega) q8) (by decide)
  have r11:=rowC_reads (l:=[2]) (s _ _ _ (by omega) q11) (by decide)
  have rv:=rowC_reads (l:=[1,2]) (s _ _ _ hne hv2) (by decide)
  have rg:=s _ _ _ (by omega) hgc
  refine ⟨g,rfl,?_,?_,?_⟩
  ·exact blk_put (blk_put (blk_put hz2 0 _ rfl) 1 _ rfl) 2 _ rfl
  ·generalize ((w2.setCell ⟨g0,0,none⟩ (.int .i64 3)).setCell ⟨g0,1,none⟩ (.int .i64 0)).setCell ⟨g0,2,none⟩ (.slice (some ⟨g,0,none⟩) 5 5)=wz at r4 r6 r8 r11 rv rg
   refine ⟨rfl,by decide,fun _ => ⟨_,rfl,fun j p hj => ?_⟩⟩
   have hc : ∀ (i : Nat) (u : Value),(exCells (.slice (some ⟨y4,0,none⟩) 1 1) (.slice (some ⟨y6,0,none⟩) 2 2) (.slice (some ⟨y8,0,none⟩) 1 1) (.slice (some ⟨gv,0,none⟩) 2 2) (.slice (some ⟨y11,0,none⟩) 1 1))[i]?=some u→wz.cell? ((⟨g,0,none⟩ : Addr).add i)=some u:=fun i u hu => by
    rw [add_plain,blk_cell rg];simpa using hu
   rcases j with _|_|_|_|_|j
   ·cases hj;exact ⟨_,rfl,k46_mk wz _ (Nat.le_refl _) r4,fun i u hu => hc (0 * 6 + i) u (by rcases i with _|_|_|_|_|_|i <;> first|exact hu|cases hu)⟩
   ·cases hj;exact ⟨_,rfl,k46_mk wz _ (Nat.le_refl _) r6,fun i u hu => hc (1 * 6 + i) u (by rcases i with _|_|_|_|_|_|i <;> first|exact hu|cases hu)⟩
   ·cases hj;exact ⟨_,rfl,k46_mk wz _ (Nat.le_refl _) r8,fun i u hu => hc (2 * 6 + i) u (by rcases i with _|_|_|_|_|_|i <;> first|exact hu|cases hu)⟩
   ·cases hj;exact ⟨_,rfl,k46_mk wz _ (Nat.le_refl _) rv,fun i u hu => hc (3 * 6 + i) u (by rcases i with _|_|_|_|_|_|i <;> first|exact hu|cases hu)⟩
   ·cases hj;exact ⟨_,rfl,k46_mk wz _ (Nat.le_refl _) r11,fun i u hu => hc (4 * 6 + i) u (by rcases i with _|_|_|_|_|_|i <;> first|exact hu|cases hu)⟩
   ·cases hj
  ·exact below_set (below_set (below_set (below_step hB hF.hb) h0) h0) h0
 have b1:=blk_alloc (blk_alloc (blk_new w (.cells #[.int .i64 0,.int .i64 0,.slice none 0 0] 24)) (.cells #[.int .i64 1,.int .i64 2] 3)) (.cells #[.int .i64 4,.int .i64 0,.slice (some ⟨w.heap.size + 1,0,none⟩) 2 2,.int .i64 0,.int .i64 (-1),.int .i64 0] 46)
 have b2:=blk_alloc (blk_new (w.alloc (.cells #[.int .i64 0,.int .i64 0,.slice none 0 0] 24)) (.cells #[.int .i64 1,.int .i64 2] 3)) (.cells #[.int .i64 4,.int .i64 0,.slice (some ⟨w.heap.size + 1,0,none⟩) 2 2,.int .i64 0,.int .i64 (-1),.int .i64 0] 46)
 have b3:=blk_new ((w.alloc (.cells #[.int .i64 0,.int .i64 0,.slice none 0 0] 24)).alloc (.cells #[.int .i64 1,.int .i64 2] 3)) (.cells #[.int .i64 4,.int .i64 0,.slice (some ⟨w.heap.size + 1,0,none⟩) 2 2,.int .i64 0,.int .i64 (-1),.int .i64 0] 46)
 have hB:=below_alloc (below_alloc (below_alloc (Below.refl _ w) (.cells #[.int .i64 0,.int .i64 0,.slice none 0 0] 24)) (.cells #[.int .i64 1,.int .i64 2] 3)) (.cells #[.int .i64 4,.int .i64 0,.slice (some ⟨w.heap.size + 1,0,none⟩) 2 2,.int .i64 0,.int .i64 (-1),.int .i64 0] 46)
 simp only [World.size_alloc] at b2 b3
 generalize ((w.alloc _).alloc _).alloc _=W0 at b1 b2 b3 hB ⊢
 refine start_ (n:=12) (S:=fun _ => True) (ds:=[]) #[false,false,false,false,false,false,false,false,false,false,false,false] (by kernel_rfl) rfl rfl trivial (fun _ => ?_)
 have hsz : Try.ntmps65=Try.ntmps65:=rfl
 refine inv_ (T:=exT) (B:=exB) exO (ExI _ W0.drew (.slice (some ⟨w.heap.size + 1,0,none⟩) 2 2) w.heap.size) ex_tab ex_bits ex_base (by kernel_rfl) ⟨undef,undef,undef,undef,undef,undef,undef,undef,undef,undef,undef,rfl,fun _ => ?_,fun e => by cases e⟩ ?_ ?_
 ·exact ⟨Below.refl _ _,fun e => by (cases e),fun e => by (cases e),fun e => by (cases e),fun e => by (cases e),fun e => by (cases e),fun e => by (cases e),fun e => by (cases e),fun e => by (cases e),fun e => by (cases e),fun e => by (cases e),fun e => by (cases e)⟩
 ·refine steps_cons (ex_step0 rfl rfl rfl b3 rfl) (steps_cons (ex_step1 rfl rfl rfl b3 rfl) (steps_cons (ex_step2 rfl rfl rfl b3 rfl) (steps_cons (ex_step3 rfl rfl rfl b3 rfl) (steps_cons (ex_step4 rfl rfl rfl b3 rfl) (steps_cons (ex_step5 rfl rfl rfl b3 rfl) (steps_cons (ex_step6 rfl rfl rfl b3 rfl) (steps_cons (ex_step7 rfl rfl rfl b3 rfl) (steps_cons (ex_step8 rfl rfl rfl b3 rfl) (steps_cons (ex_step9 rfl rfl rfl b3 rfl) (steps_cons (ex_step10 rfl rfl rfl b3 rfl) (steps_cons (ex_step11 rfl rfl b1) steps_nil)))))))))))
 ·rintro b a wf hall ⟨v4,v5,v6,v7,v8,v9,v10,v11,v12,v13,v14,rfl,_,hD⟩
  obtain ⟨g,rfl,hc,hC,hBf⟩:=hfin W0.drew w.heap.size (w.heap.size + 1) 0 (below_drew1 hB) (Nat.le_refl _) (blk_lt b1) b1 b2 (by omega) _ _ _ _ _ _ _ _ _ _ _ _ (hD (hall 11 (by decide)))
  have q0:=hall 0 (by decide)
  have q1:=hall 1 (by decide)
  have q2:=hall 2 (by decide)
  have q3:=hall 3 (by decide)
  have q4:=hall 4 (by decide)
  have q5:=hall 5 (by decide)
  have q6:=hall 6 (by decide)
  have q7:=hall 7 (by decide)
  have q8:=hall 8 (by decide)
  have q9:=hall 9 (by decide)
  have q10:=hall 10 (by decide)
  simp only [putSel,exL,q0,q1,q2,q3,q4,q5,q6,q7,q8,q9,q10,if_true,Act.put]
  clear q0 q1 q2 q3 q4 q5 q6 q7 q8 q9 q10 hall hD hfin
  go_wp2
  refine bodyPost_ret (results_cell_row rfl _ _ w.heap.size 24 #[.int .i64 3,.int .i64 0,.slice (some ⟨g,0,none⟩) 5 5] (0,0) _ rfl hc Try.underlying24 rfl (by kernel_rfl)) rfl ?_
  exact ⟨g,rfl,hC,hBf⟩
end Go.Proofs.Ytbelnopbggkdfaa
end

section
namespace Go.Proofs.Ytbelnopbggkdfaa.Q
open Go.RowKit Go.Proofs.YtbelnopbggkdfaaW.PrintWords Go.Proofs.YtbelnopbggkdfaaW.PrintLast Go.Proofs.YtbelnopbggkdfaaW.PrintMore
theorem ex_early : layers_Early.f 40 3 0 exOps=some ([1,2,1,2,3],0):=by kernel_rfl
theorem ex_late : layers_Late.f 40 3 0 exOps=some ([1,2,2,2,3],0):=by kernel_rfl
theorem ex_depth : layers_Depth.f 40 3 0 exOps=some (3,0):=by kernel_rfl
theorem ex_moments : layers_Moments.f 40 3 0 exOps=some ([[0,2],[1],[4]],0):=by kernel_rfl
theorem ex_past : layers_Past.f 40 3 0 exOps [2]=some ([2,4],0):=by kernel_rfl
theorem ex_past3 : layers_Past.f 40 3 0 exOps [3]=some ([],190):=by kernel_rfl
def exSorted : List S46:=[⟨1,2,[0],0,-1,0⟩,⟨1,2,[2],0,-1,0⟩,⟨1,11,[0,1],0,-1,0⟩,⟨4,0,[1,2],0,-1,0⟩,⟨1,2,[2],0,-1,0⟩]
theorem ex_sorted : layers_Sorted.f 40 3 0 exOps=some (3,0,exSorted,0):=by kernel_rfl
theorem ex_ints1 : phasorlaw19_ints.f 40 [1,2,1,2,3] [1,2,1,2,3]=some true:=by kernel_rfl
theorem ex_ints2 : phasorlaw19_ints.f 40 [1,2,2,2,3] [1,2,2,2,3]=some true:=by kernel_rfl
theorem ex_ints3 : phasorlaw19_ints.f 40 [2,4] [2,4]=some true:=by kernel_rfl
theorem exE (W : World) (A : Option Addr) (h : Kd.C k46 W A 5 exOps) : Calls Try.prog 21 #[.agg #[.int .i64 3,.int .i64 0,.slice A 5 5]] W fun e w' => ∃ A' c',e=.returned (.tuple #[.slice A' 5 c',.int .i64 0])∧Kd.R (Kd.int .i64) 3 w' W.heap.size (fun _ => True) (.slice A' 5 c') [1,2,1,2,3]∧Below W.heap.size W w' :=
 (layers_Early.calls 40 3 0 A 5 exOps _ _ W h (by decide) ex_early).mono fun e w' ⟨v,a,b,c⟩ => by obtain ⟨A',c',rfl⟩:=Kd.R_slice b;exact ⟨A',c',a,b,c⟩
theorem exL (W : World) (A : Option Addr) (h : Kd.C k46 W A 5 exOps) : Calls Try.prog 22 #[.agg #[.int .i64 3,.int .i64 0,.slice A 5 5]] W fun e w' => ∃ A' c',e=.returned (.tuple #[.slice A' 5 c',.int .i64 0])∧Kd.R (Kd.int .i64) 3 w' W.heap.size (fun _ => True) (.slice A' 5 c') [1,2,2,2,3]∧Below W.heap.size W w' :=
 (layers_Late.calls 40 3 0 A 5 exOps _ _ W h (by decide) ex_late).mono fun e w' ⟨v,a,b,c⟩ => by obtain ⟨A',c',rfl⟩:=Kd.R_slice b;exact ⟨A',c',a,b,c⟩
theorem exD (W : World) (A : Option Addr) (h : Kd.C k46 W A 5 exOps) : Calls Try.prog 23 #[.agg #[.int .i64 3,.int .i64 0,.slice A 5 5]] W fun e w' => e=.returned (.tuple #[.int .i64 3,.int .i64 0])∧Below W.heap.size W w' :=
 (layers_Depth.calls 40 3 0 A 5 exOps _ _ W h (by decide) ex_depth).mono fun e w' h => h
theorem exM (W : World) (A : Option Addr) (h : Kd.C k46 W A 5 exOps) : Calls Try.prog 37 #[.agg #[.int .i64 3,.int .i64 0,.slice A 5 5]] W fun e w' => ∃ A' c,e=.returned (.tuple #[.slice A' 3 c,.int .i64 0])∧Below W.heap.size W w' :=
 (layers_Moments.calls 40 3 0 A 5 exOps _ _ W h (by decide) ex_moments).mono fun e w' ⟨v,a,b,c⟩ => by obtain ⟨A',c',hv⟩:=Kd.S_slice b;exact ⟨A',c',by rw [a,hv];rfl,c⟩
theorem exS (W : World) (A : Option Addr) (h : Kd.C k46 W A 5 exOps) : Calls Try.prog 27 #[.agg #[.int .i64 3,.int .i64 0,.slice A 5 5]] W fun e w' => ∃ g c,e=.returned (.tuple #[.agg #[.int .i64 3,.int .i64 0,.slice (some ⟨g,0,none⟩) 5 c],.int .i64 0])∧g < w'.heap.size∧w'.cell? ⟨g,7,none⟩=some (.int .i64 2)∧Below W.heap.size W w':=by
 refine (layers_Sorted.callsW 40 3 0 A 5 exOps _ _ _ _ W h (by decide) ex_sorted).mono ?_
 rintro e w' ⟨v,rfl,b,c⟩
 obtain ⟨g,cap,rfl,_,hlt,_⟩:=Kd.N_form b (by decide)
 obtain ⟨_,_,hC⟩:=Kd.N_reads' b
 obtain ⟨ad,A2,c2,e,_,k1,_⟩:=at_T46 (k46w_C hC) 1 (by decide) (by decide)
 cases e
 exact ⟨g,cap,rfl,hlt,k1,c⟩
theorem exP (W : World) (A : Option Addr) (B : Option Addr) (h : Kd.C k46 W A 5 exOps) (hq : Kd.C (Kd.int .i64) W B 1 [2]) : Calls Try.prog 31 #[.agg #[.int .i64 3,.int .i64 0,.slice A 5 5],.slice B 1 1] W fun e w' => ∃ A' c',e=.returned (.tuple #[.slice A' 2 c',.int .i64 0])∧Kd.R (Kd.int .i64) 3 w' W.heap.size (fun _ => True) (.slice A' 2 c') [2,4]∧Below W.heap.size W w' :=
 (layers_Past.calls 40 3 0 A 5 exOps B 1 [2] _ _ W h (by decide) hq (by decide) ex_past).mono fun e w' ⟨v,a,b,c⟩ => by obtain ⟨A',c',rfl⟩:=Kd.R_slice b;exact ⟨A',c',a,b,c⟩
theorem exP3 (W : World) (A : Option Addr) (B : Option Addr) (h : Kd.C k46 W A 5 exOps) (hq : Kd.C (Kd.int .i64) W B 1 [3]) : Calls Try.prog 31 #[.agg #[.int .i64 3,.int .i64 0,.slice A 5 5],.slice B 1 1] W fun e w' => ∃ v,e=.returned (.tuple #[v,.int .i64 190])∧Below W.heap.size W w' :=
 (layers_Past.calls 40 3 0 A 5 exOps B 1 [3] _ _ W h (by decide) hq (by decide) ex_past3).mono fun e w' ⟨v,a,b,c⟩ => ⟨v,a,c⟩
theorem exI (W : World) {base c n : Nat} {A B : Option Addr} (l : List Int) (hn : l.length=n) (h : Kd.R (Kd.int .i64) 3 W base (fun _ => True) (.slice A n c) l) (hq : Kd.C (Kd.int .i64) W B n l) (hi : phasorlaw19_ints.f 40 l l=some true) : Calls Try.prog 36 #[.slice A n c,.slice B n n] W fun e w' => e=.returned (.bool true)∧Below W.heap.size W w':=by
 subst hn
 obtain ⟨_,h1,h2⟩:=Kd.R_reads' h
 exact (phasorlaw19_ints.calls 40 A c l B l.length l true W h2 h1 hq (Nat.le_refl _) hi).mono fun e w' ⟨a,b⟩ => ⟨a,b.below⟩
end Go.Proofs.Ytbelnopbggkdfaa.Q
end
