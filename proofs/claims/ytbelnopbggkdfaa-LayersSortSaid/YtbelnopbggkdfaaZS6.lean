/- A part of the proof: texts of this claim laid together by a program of its own; what the proof does not use is struck. -/
import Derived.Test.YtbelnopbggkdfaaZS5
import Derived.Deep.RegionWith
import Derived.Deep.RegionHeld3
import Derived.Lib.Hide
import Derived.StillTailTactics
import Derived.Lib.SmallJoins
import Derived.OpenShut
import Derived.Laws.Cover2
import Derived.SizedLaws
section
namespace Go.Proofs.Ytbelnopbggkdfaa.Q
open Go.RowKit Go.Proofs.YtbelnopbggkdfaaW.PrintWords Go.Proofs.YtbelnopbggkdfaaW.PrintLast Go.Proofs.YtbelnopbggkdfaaW.PrintMore
set_option maxHeartbeats 4000000 in
set_option maxRecDepth 1000000 in
theorem heads_any (w : World) : Calls Try.prog 25 #[] w fun e w' => e=.returned (.bool true)∧Below w.heap.size w w':=by
 have hu24:=Try.underlying24
 have hu46:=Try.underlying46
 have HB:=Aside0.mk (Below.refl w.heap.size w)
 go_enter Try.func25,Try.ntmps25
 go_upto_region 2 with (first|(go_at_call 65;(with_reducible refine (example_any _).mono ?_);rintro e w1 ⟨g1,rfl,hC1,hb1⟩)|(go_at_call 21;(with_reducible refine (exE _ _ hC1).mono ?_);rintro e w2 ⟨v1,c1,rfl,ho1,hb2⟩))
 have HO1:=Aside0.mk (Kd.R_lower ho1 (hb1.size))
 replace HB:=Aside0.mk (below_step (below_step HB.out hb1) hb2)
 clear ho1 hb2 hC1 hb1
 go_upto_region 3 with (first|(go_at_call 65;(with_reducible refine (example_any _).mono ?_);rintro e w3 ⟨g1,rfl,hC1,hb1⟩)|(go_at_call 22;(with_reducible refine (exL _ _ hC1).mono ?_);rintro e w4 ⟨v3,c3,rfl,ho3,hb2⟩))
 have HO3:=Aside0.mk (Kd.R_lower ho3 (hb1.size))
 replace HO1:=Aside0.mk (Kd.R_below (Kd.R_below HO1.out hb1) hb2)
 replace HB:=Aside0.mk (below_step (below_step HB.out hb1) hb2)
 clear ho3 hb2 hC1 hb1
 go_upto_region 4 with (first|(go_at_call 65;(with_reducible refine (example_any _).mono ?_);rintro e w5 ⟨g1,rfl,hC1,hb1⟩)|(go_at_call 23;(with_reducible refine (exD _ _ hC1).mono ?_);rintro e w6 ⟨rfl,hb2⟩))
 replace HO1:=Aside0.mk (Kd.R_below (Kd.R_below HO1.out hb1) hb2)
 replace HO3:=Aside0.mk (Kd.R_below (Kd.R_below HO3.out hb1) hb2)
 replace HB:=Aside0.mk (below_step (below_step HB.out hb1) hb2)
 clear hb2 hC1 hb1
 go_upto_region 5 with (first|(go_at_call 65;(with_reducible refine (example_any _).mono ?_);rintro e w7 ⟨g1,rfl,hC1,hb1⟩)|(go_at_call 37;(with_reducible refine (exM _ _ hC1).mono ?_);rintro e w8 ⟨v7,c7,rfl,hb2⟩))
 replace HO1:=Aside0.mk (Kd.R_below (Kd.R_below HO1.out hb1) hb2)
 replace HO3:=Aside0.mk (Kd.R_below (Kd.R_below HO3.out hb1) hb2)
 replace HB:=Aside0.mk (below_step (below_step HB.out hb1) hb2)
 clear hb2 hC1 hb1
 go_upto_region 6 with (first|(go_at_call 65;(with_reducible refine (example_any _).mono ?_);rintro e w9 ⟨g1,rfl,hC1,hb1⟩)|(go_at_call 31;(with_reducible refine (exP _ _ _ (Kd.C_alloc hC1 _) (rowC_reads (l:=[2]) (blk_new _ _) (by decide))).mono ?_);rintro e w10 ⟨v9,c9,rfl,ho9,hb2⟩))
 have hb3:=below_step (below_alloc (Below.refl w9.heap.size w9) (.cells #[.int .i64 2] 3)) hb2
 have HO9:=Aside0.mk (Kd.R_lower (base':=w.heap.size) ho9 (by have:=hb1.size;have:=HB.out.size;simp only [World.size_alloc];omega))
 replace HO1:=Aside0.mk (Kd.R_below (Kd.R_below HO1.out hb1) hb3)
 replace HO3:=Aside0.mk (Kd.R_below (Kd.R_below HO3.out hb1) hb3)
 replace HB:=Aside0.mk (below_step (below_step HB.out hb1) hb3)
 clear ho9 hb2 hC1 hb1 hb3
 go_upto_region 7 with (first|(go_at_call 65;(with_reducible refine (example_any _).mono ?_);rintro e w11 ⟨g1,rfl,hC1,hb1⟩)|(go_at_call 27;(with_reducible refine (exS _ _ hC1).mono ?_);rintro e w12 ⟨g11,c11,rfl,hl11,hc11,hb2⟩))
 have hc11' : (w12.alloc (.cells #[.int .i64 3,.int .i64 0,.slice (some ⟨g11,0,none⟩) 5 c11] 24)).cell? ⟨g11,7,none⟩=some (.int .i64 2):=(Below.cell (below_alloc (Below.refl w12.heap.size w12) _) (p:=⟨g11,7,none⟩) hl11).trans hc11
 have hx11:=blk_new w12 (.cells #[.int .i64 3,.int .i64 0,.slice (some ⟨g11,0,none⟩) 5 c11] 24)
 have hb3:=below_alloc (below_step hb1 hb2) (.cells #[.int .i64 3,.int .i64 0,.slice (some ⟨g11,0,none⟩) 5 c11] 24)
 have hl12 : g11 < (w12.alloc (.cells #[.int .i64 3,.int .i64 0,.slice (some ⟨g11,0,none⟩) 5 c11] 24)).heap.size:=by simp only [World.size_alloc];omega
 have hl13 : w12.heap.size < (w12.alloc (.cells #[.int .i64 3,.int .i64 0,.slice (some ⟨g11,0,none⟩) 5 c11] 24)).heap.size:=by simp only [World.size_alloc];omega
 replace HO1:=Aside0.mk (Kd.R_below HO1.out hb3)
 replace HO3:=Aside0.mk (Kd.R_below HO3.out hb3)
 replace HO9:=Aside0.mk (Kd.R_below HO9.out hb3)
 replace HB:=Aside0.mk (below_step HB.out hb3)
 clear hb2 hC1 hb1 hb3 hc11 hl11
 generalize w12.heap.size=x11 at *
 generalize w12.alloc _=w13 at *
 go_upto_region 8 with (first|(go_at_call 65;(with_reducible refine (example_any _).mono ?_);rintro e w14 ⟨g1,rfl,hC1,hb1⟩)|(go_at_call 31;(with_reducible refine (exP3 _ _ _ (Kd.C_alloc hC1 _) (rowC_reads (l:=[3]) (blk_new _ _) (by decide))).mono ?_);rintro e w15 ⟨v13,rfl,hb2⟩))
 have hb3:=below_step hb1 (below_step (below_alloc (Below.refl w14.heap.size w14) (.cells #[.int .i64 3] 3)) hb2)
 replace HO1:=Aside0.mk (Kd.R_below HO1.out hb3)
 replace HO3:=Aside0.mk (Kd.R_below HO3.out hb3)
 replace HO9:=Aside0.mk (Kd.R_below HO9.out hb3)
 replace HB:=Aside0.mk (below_step HB.out hb3)
 replace hc11':=(Below.cell hb3 (p:=⟨g11,7,none⟩) hl12).trans hc11'
 replace hl12:=Nat.lt_of_lt_of_le hl12 hb3.size
 replace hx11:=blk_below hx11 hb3
 clear hb2 hC1 hb1 hb3 hl13
 go_upto_region 9 with (go_at_call 36;(with_reducible refine (exI _ _ (by decide) (Kd.R_alloc HO1.out _) (rowC_reads (l:=[1,2,1,2,3]) (blk_new _ _) (by decide)) ex_ints1).mono ?_);rintro e w16 ⟨rfl,hb2⟩)
 replace hb2:=below_step (below_alloc (Below.refl w15.heap.size w15) _) hb2
 replace HO3:=Aside0.mk (Kd.R_below HO3.out hb2)
 replace HO9:=Aside0.mk (Kd.R_below HO9.out hb2)
 replace HB:=Aside0.mk (below_step HB.out hb2)
 replace hc11':=(Below.cell hb2 (p:=⟨g11,7,none⟩) hl12).trans hc11'
 replace hl12:=Nat.lt_of_lt_of_le hl12 hb2.size
 replace hx11:=blk_below hx11 hb2
 clear hb2 HO1
 go_upto_region 10 with (go_at_call 36;(with_reducible refine (exI _ _ (by decide) (Kd.R_alloc HO3.out _) (rowC_reads (l:=[1,2,2,2,3]) (blk_new _ _) (by decide)) ex_ints2).mono ?_);rintro e w17 ⟨rfl,hb2⟩)
 replace hb2:=below_step (below_alloc (Below.refl w16.heap.size w16) _) hb2
 replace HO9:=Aside0.mk (Kd.R_below HO9.out hb2)
 replace HB:=Aside0.mk (below_step HB.out hb2)
 replace hc11':=(Below.cell hb2 (p:=⟨g11,7,none⟩) hl12).trans hc11'
 replace hl12:=Nat.lt_of_lt_of_le hl12 hb2.size
 replace hx11:=blk_below hx11 hb2
 clear hb2 HO3
 go_upto_region 11 with (go_at_call 36;(with_reducible refine (exI _ _ (by decide) (Kd.R_alloc HO9.out _) (rowC_reads (l:=[2,4]) (blk_new _ _) (by decide)) ex_ints3).mono ?_);rintro e w18 ⟨rfl,hb2⟩)
 replace hb2:=below_step (below_alloc (Below.refl w17.heap.size w17) _) hb2
 replace HB:=Aside0.mk (below_step HB.out hb2)
 replace hc11':=(Below.cell hb2 (p:=⟨g11,7,none⟩) hl12).trans hc11'
 replace hx11:=blk_below hx11 hb2
 have hx2 : w18.cell? ⟨x11,2,none⟩=some (.slice (some ⟨g11,0,none⟩) 5 c11):=by rw [blk_cell hx11];rfl
 clear hb2 HO9 hx11 hl12
 go_wp2
 go_ret
 exact ⟨rfl,HB.out⟩
end Go.Proofs.Ytbelnopbggkdfaa.Q
end

section
namespace Go.Proofs.Ytbelnopbggkdfaa.Q
open Go.RowKit Go.Proofs.YtbelnopbggkdfaaW.PrintWords Go.Proofs.YtbelnopbggkdfaaW.PrintLast Go.Proofs.YtbelnopbggkdfaaW.PrintMore
structure TellS (w : World) (gc gx : Nat) (q b : Int) (A Ax : Option Addr) (c cx : Nat) (l : List Opn) (B Bq : Option Addr) (qs : List Int) (W : World) : Prop where
 hb : Below w.heap.size w W
 bc : W.heap[gc]?=some (.cells #[.int .i64 q,.int .i64 b,.slice A l.length c] 24 (0,0))
 bx : W.heap[gx]?=some (.cells #[.int .i64 q,.int .i64 b,.slice Ax l.length cx] 24 (0,0))
 cc : Kd.C k46 W A l.length l
 cx : Kd.C k46 W Ax l.length l
 hq : Kd.C (Kd.int .i64) W B qs.length qs
 hqx : Kd.C (Kd.int .i64) W Bq qs.length qs
theorem TellS.below {w : World} {gc gx : Nat} {q b : Int} {A Ax : Option Addr} {c cx : Nat} {l : List Opn} {B Bq : Option Addr} {qs : List Int} {W W' : World} (h : TellS w gc gx q b A Ax c cx l B Bq qs W) (hb : Below W.heap.size W W') : TellS w gc gx q b A Ax c cx l B Bq qs W' :=
 ⟨below_step h.hb hb,blk_below h.bc hb,blk_below h.bx hb,Kd.C_below h.cc hb,Kd.C_below h.cx hb,Kd.C_below h.hq hb,Kd.C_below h.hqx hb⟩
end Go.Proofs.Ytbelnopbggkdfaa.Q
end

section
namespace Go.Proofs.Ytbelnopbggkdfaa.Q
open Go.RowKit Go.Proofs.YtbelnopbggkdfaaW.PrintWords Go.Proofs.YtbelnopbggkdfaaW.PrintLast Go.Proofs.YtbelnopbggkdfaaW.PrintMore
attribute [local go_sem] max2_int min2_int max_two min_two max_three min_three max_four min_four   -- for this text's walks alone
set_option linter.unusedVariables false
set_option linter.unusedSimpArgs false
set_option maxHeartbeats 8000000 in
set_option maxRecDepth 100000 in
theorem layers_Prune.callsW (k : Nat) (a0_0 : Int) (a0_1 : Int) (A0_2 : Option Addr) (c0_2 : Nat) (l0_2 : List (S46)) (A1 : Option Addr) (c1 : Nat) (l1 : List Int) (r1 : Int) (r2 : Int) (r3 : List (S46)) (r4 : Int) (w : World) (hr0_2 : Kd.C k46 w A0_2 l0_2.length l0_2) (hc0_2 : l0_2.length≤c0_2) (hr1 : Kd.C (Kd.int .i64) w A1 l1.length l1) (hc1 : l1.length≤c1) (h : layers_Prune.f k a0_0 a0_1 l0_2 l1=some (r1,r2,r3,r4)) :
  Calls Try.prog 40 #[.agg #[.int .i64 a0_0,.int .i64 a0_1,.slice A0_2 l0_2.length c0_2],.slice A1 l1.length c1] w fun e w' => ∃ v2_ : Value,e=.returned (.tuple #[.agg #[.int .i64 r1,.int .i64 r2,v2_],.int .i64 r4])∧Kd.N k46w 46 w' w.heap.size (fun k_ => (w.heap.size≤k_)) v2_ r3∧Below w.heap.size w w':=by
 have hu24:=Try.underlying24
 have HR0_2:=Aside0.mk hr0_2
 have HC0_2:=Aside0.mk hc0_2
 clear hr0_2 hc0_2
 have HR1:=Aside0.mk hr1
 have HC1:=Aside0.mk hc1
 clear hr1 hc1
 have HB:=Aside0.mk (Below.refl w.heap.size w)
 have H : ((layers_Past.f k a0_0 a0_1 l0_2 l1).bind fun bt825 => (if bt825.2=0 then ((layers_only.f k a0_0 a0_1 l0_2 bt825.1).bind fun bt829 => (some (bt829.1,bt829.2.1,bt829.2.2,0))) else (some (0,0,([] : List (S46)),bt825.2))))=some (r1,r2,r3,r4):=h
 clear h
 replace H:=Option.bind_eq_some_iff.mp H
 obtain ⟨⟨t825,t828⟩,A30,H⟩:=H
 replace H : (if t828=0 then ((layers_only.f k a0_0 a0_1 l0_2 t825).bind fun bt829 => (some (bt829.1,bt829.2.1,bt829.2.2,0))) else (some (0,0,([] : List (S46)),t828)))=some (r1,r2,r3,r4):=H
 have A3:=Aside0.mk A30
 clear A30
 by_cases c4 : t828=0
 ·rw [if_pos c4] at H
  have c4b0 : (t828 == 0)=true:=beq_iff_eq.mpr c4
  have c4b1 : (t828 != 0)=false:=bne_eq_false_iff_eq.mpr c4
  clear c4
  replace H:=Option.bind_eq_some_iff.mp H
  obtain ⟨⟨t829,t830,t831⟩,A50,H⟩:=H
  replace H : (some (t829,t830,t831,0))=some (r1,r2,r3,r4):=H
  have A5:=Aside0.mk A50
  clear A50
  simp only [Option.some.injEq,Prod.mk.injEq] at H
  obtain ⟨rfl,rfl,rfl,rfl⟩:=H
  go_enter Try.func40,Try.ntmps40
  go_wp2_with (first|((with_reducible refine gate_dst (N:=2) rfl ?_);refine box_event ?hg (N:=2) ?hd (cs:=#[.int .i64 a0_0,.int .i64 a0_1,.slice A0_2 l0_2.length c0_2]) (t:=24) ?hr ?_;(case hd => rfl);(case hg => rfl);(case hr => first|(go_simp;done)|(go_simp;rfl));intro gb823 hg w6 hbox hb;have n0_:=Aside0.mk (below_step (by repeat (first|(with_reducible first|exact HB.out|apply below_alloc|apply pw_below_drewN|apply below_drew1)|exact HB.out)) hb);have n1_:=Aside0.mk (hbox);have n2_:=Aside0.mk ((by rw [hg];exact (below_size (by repeat (first|(with_reducible first|exact HB.out|apply below_alloc|apply pw_below_drewN|apply below_drew1)|exact HB.out))) : w.heap.size≤gb823));have n3_:=Aside0.mk ((by rw [hg];exact (below_size (by repeat (first|(with_reducible first|exact HB.out|apply below_alloc|apply pw_below_drewN|apply below_drew1)|exact HB.out))) : w.heap.size≤gb823));clear HB;have HB:=n0_;have BK823:=n1_;have GW823:=n2_;have GE823:=n3_;clear n0_ n1_ n2_ n3_;clear hb hbox hg)|((with_reducible refine gate_dst (N:=4) rfl ?_);refine box_event ?hg (N:=4) ?hd (cs:=#[.int .i64 0,.int .i64 0,.slice none 0 0]) (t:=24) ?hr ?_;(case hd => rfl);(case hg => rfl);(case hr => first|(go_simp;done)|(go_simp;rfl));intro gb824 hg w7 hbox hb;have n0_:=Aside0.mk (blk_below (g:=gb823) (o:=.cells #[.int .i64 a0_0,.int .i64 a0_1,.slice A0_2 l0_2.length c0_2] 24 (0,0)) (by (with_reducible repeat (first|refine blk_drewN ?_ _|refine blk_drew ?_|refine blk_alloc ?_ _));exact BK823.out) hb);have n1_:=Aside0.mk (below_step (by repeat (first|(with_reducible first|exact HB.out|apply below_alloc|apply pw_below_drewN|apply below_drew1|refine below_set ?_ GE823.out)|exact HB.out)) hb);have n2_:=Aside0.mk (hbox);have n3_:=Aside0.mk ((by rw [hg];exact (below_size (by repeat (first|(with_reducible first|exact HB.out|apply below_alloc|apply pw_below_drewN|apply below_drew1|refine below_set ?_ GE823.out)|exact HB.out))) : w.heap.size≤gb824));have n4_:=Aside0.mk ((by rw [hg];exact (below_size (by repeat (first|(with_reducible first|exact HB.out|apply below_alloc|apply pw_below_drewN|apply below_drew1|refine below_set ?_ GE823.out)|exact HB.out))) : w.heap.size≤gb824));have n5_:=Aside0.mk ((by rw [hg];exact Nat.ne_of_lt (blk_lt (g:=gb823) (o:=.cells #[.int .i64 a0_0,.int .i64 a0_1,.slice A0_2 l0_2.length c0_2] 24 (0,0)) (by (with_reducible repeat (first|refine blk_drewN ?_ _|refine blk_drew ?_|refine blk_alloc ?_ _));exact BK823.out)) : gb823≠gb824));have n6_:=Aside0.mk ((by rw [hg];exact Nat.ne_of_gt (blk_lt (g:=gb823) (o:=.cells #[.int .i64 a0_0,.int .i64 a0_1,.slice A0_2 l0_2.length c0_2] 24 (0,0)) (by (with_reducible repeat (first|refine blk_drewN ?_ _|refine blk_drew ?_|refine blk_alloc ?_ _));exact BK823.out)) : gb824≠gb823));clear BK823;clear HB;have BK823:=n0_;have HB:=n1_;have BK824:=n2_;have GW824:=n3_;have GE824:=n4_;have NB823_824:=n5_;have NB824_823:=n6_;clear n0_ n1_ n2_ n3_ n4_ n5_ n6_;clear hb hbox hg;have hnb8:=NB823_824.out;have hnc8:=NB824_823.out;have hcz9_0 : w7.cell? ⟨gb823,0,none⟩=some (.int .i64 a0_0):=(blk_cell BK823.out 0).trans rfl;have hcz9_1 : w7.cell? ⟨gb823,1,none⟩=some (.int .i64 a0_1):=(blk_cell BK823.out 1).trans rfl;have hcz9_2 : w7.cell? ⟨gb823,2,none⟩=some (.slice A0_2 l0_2.length c0_2):=(blk_cell BK823.out 2).trans rfl;have hfz9_0:=blk_frozen BK823.out 0;have hfz9_1:=blk_frozen BK823.out 1;have hfz9_2:=blk_frozen BK823.out 2)|((with_reducible refine gate_callee (f:=31) rfl ?_);refine goesL_ (some 11) rfl rfl Try.func31 (by kernel_rfl) rfl #[.agg #[.int .i64 a0_0,.int .i64 a0_1,.slice A0_2 l0_2.length c0_2],.slice A1 l1.length c1] rfl (by (try simp only [List.map_toArray,List.map_cons,List.map_nil]);first|done|rfl|(simp only [List.length_drop,List.length_take];rfl)) ?_;(with_reducible refine (layers_Past.calls k a0_0 a0_1 _ _ l0_2 _ _ l1 t825 t828 _ ?side1 ?side2 ?side3 ?side4 A3.out).mono ?_);(case side1 => repeat (first|exact (Kd.C_below HR0_2.out HB.out)|(with_reducible refine Kd.C_alloc ?_ _)|(with_reducible refine Kd.C_drewN ?_ _)|(with_reducible refine Kd.C_drew ?_)));(case side2 => exact HC0_2.out);(case side3 => repeat (first|exact (Kd.C_below HR1.out HB.out)|(with_reducible refine Kd.C_alloc ?_ _)|(with_reducible refine Kd.C_drewN ?_ _)|(with_reducible refine Kd.C_drew ?_)));(case side4 => exact HC1.out);rintro e w10 ⟨v826,rfl,ho0,hb⟩;refine ⟨_,rfl,?_⟩;have n0_:=Aside0.mk (Kd.R_lower (Kd.R_newM (M:=fun k_ => (w.heap.size≤k_)) ho0 (below_size (by repeat (first|(with_reducible first|exact HB.out|apply below_alloc|apply pw_below_drewN|apply below_drew1|refine below_set ?_ GE823.out|refine below_set ?_ GE824.out)|exact HB.out))) (fun k_ h_ => h_)) (below_size (by repeat (first|(with_reducible first|exact HB.out|apply below_alloc|apply pw_below_drewN|apply below_drew1|refine below_set ?_ GE823.out|refine below_set ?_ GE824.out)|exact HB.out))));have n1_:=Aside0.mk (blk_below (g:=gb823) (o:=.cells #[.int .i64 a0_0,.int .i64 a0_1,.slice A0_2 l0_2.length c0_2] 24 (0,0)) (by (with_reducible repeat (first|refine blk_drewN ?_ _|refine blk_drew ?_|refine blk_alloc ?_ _));exact BK823.out) hb);have n2_:=Aside0.mk (blk_below (g:=gb824) (o:=.cells #[.int .i64 0,.int .i64 0,.slice none 0 0] 24 (0,0)) (by (with_reducible repeat (first|refine blk_drewN ?_ _|refine blk_drew ?_|refine blk_alloc ?_ _));exact BK824.out) hb);have n3_:=Aside0.mk (below_step (by repeat (first|(with_reducible first|exact HB.out|apply below_alloc|apply pw_below_drewN|apply below_drew1|refine below_set ?_ GE823.out|refine below_set ?_ GE824.out)|exact HB.out)) hb);clear BK823;clear BK824;clear HB;have HO827:=n0_;have BK823:=n1_;have BK824:=n2_;have HB:=n3_;clear n0_ n1_ n2_ n3_;(try clear hb);(try clear hb2);(try clear hk);(try clear hi);(try clear ho0);have hcz11_0 : w10.cell? ⟨gb823,0,none⟩=some (.int .i64 a0_0):=(blk_cell BK823.out 0).trans rfl;have hcz11_1 : w10.cell? ⟨gb823,1,none⟩=some (.int .i64 a0_1):=(blk_cell BK823.out 1).trans rfl;have hcz11_2 : w10.cell? ⟨gb823,2,none⟩=some (.slice A0_2 l0_2.length c0_2):=(blk_cell BK823.out 2).trans rfl;have hfz11_0:=blk_frozen BK823.out 0;have hfz11_1:=blk_frozen BK823.out 1;have hfz11_2:=blk_frozen BK823.out 2;obtain ⟨Ao12,co12,eo12⟩:=Kd.R_slice HO827.out;subst eo12)|((with_reducible refine gate_callee (f:=70) rfl ?_);refine goesL_ (some 20) rfl rfl Try.func70 (by kernel_rfl) rfl #[.agg #[.int .i64 a0_0,.int .i64 a0_1,.slice A0_2 l0_2.length c0_2],.slice Ao12 t825.length co12] rfl (by (try simp only [List.map_toArray,List.map_cons,List.map_nil]);first|done|rfl|(simp only [List.length_drop,List.length_take];rfl)) ?_;(with_reducible refine (layers_only.callsW k a0_0 a0_1 _ _ l0_2 _ _ t825 t829 t830 t831 _ ?side1 ?side2 ?side3 ?side4 A5.out).mono ?_);(case side1 => repeat (first|exact (Kd.C_below HR0_2.out HB.out)|(with_reducible refine Kd.C_alloc ?_ _)|(with_reducible refine Kd.C_drewN ?_ _)|(with_reducible refine Kd.C_drew ?_)));(case side2 => exact HC0_2.out);(case side3 => repeat (first|exact (Kd.R_reads' HO827.out).2.2|(with_reducible refine Kd.C_alloc ?_ _)|(with_reducible refine Kd.C_drewN ?_ _)|(with_reducible refine Kd.C_drew ?_)));(case side4 => exact (Kd.R_reads' HO827.out).2.1);rintro e w13 ⟨v832,rfl,ho0,hb⟩;refine ⟨_,rfl,?_⟩;have n0_:=Aside0.mk (Kd.R_below (by (with_reducible repeat (first|apply Kd.R_alloc|apply Kd.R_drewN|apply Kd.R_drew));exact HO827.out) hb);have n1_:=Aside0.mk (Kd.N_lower (Kd.N_mono (ok':=fun k_ => (w.heap.size≤k_)∧some k_≠(.slice Ao12 t825.length co12 : Value).ownBlock∧k_≠gb823∧k_≠gb824) ho0 (fun k_ hk_ => ⟨(Nat.le_trans (below_size (by repeat (first|(with_reducible first|exact HB.out|apply below_alloc|apply pw_below_drewN|apply below_drew1|refine below_set ?_ GE823.out|refine below_set ?_ GE824.out)|exact HB.out))) hk_),(Kd.fresh' (Kd.R_lt (by (with_reducible repeat (first|apply Kd.R_alloc|apply Kd.R_drewN|apply Kd.R_drew));exact HO827.out)) k_ hk_),(Kd.freshB (g:=gb823) (o:=.cells #[.int .i64 a0_0,.int .i64 a0_1,.slice A0_2 l0_2.length c0_2] 24 (0,0)) (by (with_reducible repeat (first|refine blk_drewN ?_ _|refine blk_drew ?_|refine blk_alloc ?_ _));exact BK823.out) k_ hk_),(Kd.freshB (g:=gb824) (o:=.cells #[.int .i64 0,.int .i64 0,.slice none 0 0] 24 (0,0)) (by (with_reducible repeat (first|refine blk_drewN ?_ _|refine blk_drew ?_|refine blk_alloc ?_ _));exact BK824.out) k_ hk_)⟩)) (below_size (by repeat (first|(with_reducible first|exact HB.out|apply below_alloc|apply pw_below_drewN|apply below_drew1|refine below_set ?_ GE823.out|refine below_set ?_ GE824.out)|exact HB.out))));have n2_:=Aside0.mk (blk_below (g:=gb823) (o:=.cells #[.int .i64 a0_0,.int .i64 a0_1,.slice A0_2 l0_2.length c0_2] 24 (0,0)) (by (with_reducible repeat (first|refine blk_drewN ?_ _|refine blk_drew ?_|refine blk_alloc ?_ _));exact BK823.out) hb);have n3_:=Aside0.mk (blk_below (g:=gb824) (o:=.cells #[.int .i64 0,.int .i64 0,.slice none 0 0] 24 (0,0)) (by (with_reducible repeat (first|refine blk_drewN ?_ _|refine blk_drew ?_|refine blk_alloc ?_ _));exact BK824.out) hb);have n4_:=Aside0.mk (below_step (by repeat (first|(with_reducible first|exact HB.out|apply below_alloc|apply pw_below_drewN|apply below_drew1|refine below_set ?_ GE823.out|refine below_set ?_ GE824.out)|exact HB.out)) hb);clear HO827;clear BK823;clear BK824;clear HB;have HO827:=n0_;have HO833:=n1_;have BK823:=n2_;have BK824:=n3_;have HB:=n4_;clear n0_ n1_ n2_ n3_ n4_;(try clear hb);(try clear hb2);(try clear hk);(try clear hi);(try clear ho0);have hcz14_0 : w13.cell? ⟨gb824,0,none⟩=some (.int .i64 0):=(blk_cell BK824.out 0).trans rfl;have hcz14_1 : w13.cell? ⟨gb824,1,none⟩=some (.int .i64 0):=(blk_cell BK824.out 1).trans rfl;have hcz14_2 : w13.cell? ⟨gb824,2,none⟩=some (.slice none 0 0):=(blk_cell BK824.out 2).trans rfl;have hfz14_0:=blk_frozen BK824.out 0;have hfz14_1:=blk_frozen BK824.out 1;have hfz14_2:=blk_frozen BK824.out 2;obtain ⟨Ao15,co15,eo15⟩:=Kd.N_slice HO833.out;subst eo15))
  refine bodyPost_ret (results_ct rfl _ _ gb824 24 #[.int .i64 t829,.int .i64 t830,.slice Ao15 t831.length co15] (0,0) _ rfl (by (with_reducible repeat (first|refine blk_drewN ?_ _|refine blk_drew ?_|refine blk_alloc ?_ _));refine blk_put (cs:=#[.int .i64 t829,.int .i64 t830,.slice none 0 0]) ?_ 2 _ rfl;(with_reducible repeat (first|refine blk_drewN ?_ _|refine blk_drew ?_|refine blk_alloc ?_ _));refine blk_put (cs:=#[.int .i64 t829,.int .i64 0,.slice none 0 0]) ?_ 1 _ rfl;(with_reducible repeat (first|refine blk_drewN ?_ _|refine blk_drew ?_|refine blk_alloc ?_ _));refine blk_put (cs:=#[.int .i64 0,.int .i64 0,.slice none 0 0]) ?_ 0 _ rfl;(with_reducible repeat (first|refine blk_drewN ?_ _|refine blk_drew ?_|refine blk_alloc ?_ _));exact BK824.out) Try.underlying24 rfl (by kernel_rfl)) rfl ?_
  exact ⟨_,by first|rfl|(simp [errW_none,errW_some] <;> rfl)|(simp [*,errW_none,errW_some] <;> rfl),by (with_reducible repeat (first|apply Kd.N_alloc|apply Kd.N_drewN|apply Kd.N_drew));exact Kd.N_mono (Kd.N_far (p:=⟨gb824,2,none⟩) (Kd.N_far (p:=⟨gb824,1,none⟩) (Kd.N_far (p:=⟨gb824,0,none⟩) (Kd.N_mono HO833.out (fun k_ hk => (⟨hk,hk.2.2.2⟩ : _∧k_≠gb824))) (fun _ hk => hk.2) (.int .i64 t829)) (fun _ hk => hk.2) (.int .i64 t830)) (fun _ hk => hk.2) (.slice Ao15 t831.length co15)) (fun _ hk => hk.1.1),by repeat (first|(with_reducible first|exact HB.out|apply below_alloc|apply pw_below_drewN|apply below_drew1|refine below_set ?_ GE823.out|refine below_set ?_ GE824.out)|exact HB.out)⟩
 ·rw [if_neg c4] at H
  have c4b0 : (t828 == 0)=false:=beq_eq_false_iff_ne.mpr c4
  have c4b1 : (t828 != 0)=true:=bne_iff_ne.mpr c4
  simp only [Option.some.injEq,Prod.mk.injEq] at H
  obtain ⟨rfl,rfl,rfl,rfl⟩:=H
  go_enter Try.func40,Try.ntmps40
  go_wp2_with (first|((with_reducible refine gate_dst (N:=2) rfl ?_);refine box_event ?hg (N:=2) ?hd (cs:=#[.int .i64 a0_0,.int .i64 a0_1,.slice A0_2 l0_2.length c0_2]) (t:=24) ?hr ?_;(case hd => rfl);(case hg => rfl);(case hr => first|(go_simp;done)|(go_simp;rfl));intro gb823 hg w16 hbox hb;have n0_:=Aside0.mk (below_step (by repeat (first|(with_reducible first|exact HB.out|apply below_alloc|apply pw_below_drewN|apply below_drew1)|exact HB.out)) hb);have n1_:=Aside0.mk (hbox);have n2_:=Aside0.mk ((by rw [hg];exact (below_size (by repeat (first|(with_reducible first|exact HB.out|apply below_alloc|apply pw_below_drewN|apply below_drew1)|exact HB.out))) : w.heap.size≤gb823));have n3_:=Aside0.mk ((by rw [hg];exact (below_size (by repeat (first|(with_reducible first|exact HB.out|apply below_alloc|apply pw_below_drewN|apply below_drew1)|exact HB.out))) : w.heap.size≤gb823));clear HB;have HB:=n0_;have BK823:=n1_;have GW823:=n2_;have GE823:=n3_;clear n0_ n1_ n2_ n3_;clear hb hbox hg)|((with_reducible refine gate_dst (N:=4) rfl ?_);refine box_event ?hg (N:=4) ?hd (cs:=#[.int .i64 0,.int .i64 0,.slice none 0 0]) (t:=24) ?hr ?_;(case hd => rfl);(case hg => rfl);(case hr => first|(go_simp;done)|(go_simp;rfl));intro gb824 hg w17 hbox hb;have n0_:=Aside0.mk (blk_below (g:=gb823) (o:=.cells #[.int .i64 a0_0,.int .i64 a0_1,.slice A0_2 l0_2.length c0_2] 24 (0,0)) (by (with_reducible repeat (first|refine blk_drewN ?_ _|refine blk_drew ?_|refine blk_alloc ?_ _));exact BK823.out) hb);have n1_:=Aside0.mk (below_step (by repeat (first|(with_reducible first|exact HB.out|apply below_alloc|apply pw_below_drewN|apply below_drew1|refine below_set ?_ GE823.out)|exact HB.out)) hb);have n2_:=Aside0.mk (hbox);have n3_:=Aside0.mk ((by rw [hg];exact (below_size (by repeat (first|(with_reducible first|exact HB.out|apply below_alloc|apply pw_below_drewN|apply below_drew1|refine below_set ?_ GE823.out)|exact HB.out))) : w.heap.size≤gb824));have n4_:=Aside0.mk ((by rw [hg];exact (below_size (by repeat (first|(with_reducible first|exact HB.out|apply below_alloc|apply pw_below_drewN|apply below_drew1|refine below_set ?_ GE823.out)|exact HB.out))) : w.heap.size≤gb824));have n5_:=Aside0.mk ((by rw [hg];exact Nat.ne_of_lt (blk_lt (g:=gb823) (o:=.cells #[.int .i64 a0_0,.int .i64 a0_1,.slice A0_2 l0_2.length c0_2] 24 (0,0)) (by (with_reducible repeat (first|refine blk_drewN ?_ _|refine blk_drew ?_|refine blk_alloc ?_ _));exact BK823.out)) : gb823≠gb824));have n6_:=Aside0.mk ((by rw [hg];exact Nat.ne_of_gt (blk_lt (g:=gb823) (o:=.cells #[.int .i64 a0_0,.int .i64 a0_1,.slice A0_2 l0_2.length c0_2] 24 (0,0)) (by (with_reducible repeat (first|refine blk_drewN ?_ _|refine blk_drew ?_|refine blk_alloc ?_ _));exact BK823.out)) : gb824≠gb823));clear BK823;clear HB;have BK823:=n0_;have HB:=n1_;have BK824:=n2_;have GW824:=n3_;have GE824:=n4_;have NB823_824:=n5_;have NB824_823:=n6_;clear n0_ n1_ n2_ n3_ n4_ n5_ n6_;clear hb hbox hg;have hnb18:=NB823_824.out;have hnc18:=NB824_823.out;have hcz19_0 : w17.cell? ⟨gb823,0,none⟩=some (.int .i64 a0_0):=(blk_cell BK823.out 0).trans rfl;have hcz19_1 : w17.cell? ⟨gb823,1,none⟩=some (.int .i64 a0_1):=(blk_cell BK823.out 1).trans rfl;have hcz19_2 : w17.cell? ⟨gb823,2,none⟩=some (.slice A0_2 l0_2.length c0_2):=(blk_cell BK823.out 2).trans rfl;have hfz19_0:=blk_frozen BK823.out 0;have hfz19_1:=blk_frozen BK823.out 1;have hfz19_2:=blk_frozen BK823.out 2)|((with_reducible refine gate_callee (f:=31) rfl ?_);refine goesL_ (some 11) rfl rfl Try.func31 (by kernel_rfl) rfl #[.agg #[.int .i64 a0_0,.int .i64 a0_1,.slice A0_2 l0_2.length c0_2],.slice A1 l1.length c1] rfl (by (try simp only [List.map_toArray,List.map_cons,List.map_nil]);first|done|rfl|(simp only [List.length_drop,List.length_take];rfl)) ?_;(with_reducible refine (layers_Past.calls k a0_0 a0_1 _ _ l0_2 _ _ l1 t825 t828 _ ?side1 ?side2 ?side3 ?side4 A3.out).mono ?_);(case side1 => repeat (first|exact (Kd.C_below HR0_2.out HB.out)|(with_reducible refine Kd.C_alloc ?_ _)|(with_reducible refine Kd.C_drewN ?_ _)|(with_reducible refine Kd.C_drew ?_)));(case side2 => exact HC0_2.out);(case side3 => repeat (first|exact (Kd.C_below HR1.out HB.out)|(with_reducible refine Kd.C_alloc ?_ _)|(with_reducible refine Kd.C_drewN ?_ _)|(with_reducible refine Kd.C_drew ?_)));(case side4 => exact HC1.out);rintro e w20 ⟨v826,rfl,ho0,hb⟩;refine ⟨_,rfl,?_⟩;have n0_:=Aside0.mk (Kd.R_lower (Kd.R_newM (M:=fun k_ => (w.heap.size≤k_)) ho0 (below_size (by repeat (first|(with_reducible first|exact HB.out|apply below_alloc|apply pw_below_drewN|apply below_drew1|refine below_set ?_ GE823.out|refine below_set ?_ GE824.out)|exact HB.out))) (fun k_ h_ => h_)) (below_size (by repeat (first|(with_reducible first|exact HB.out|apply below_alloc|apply pw_below_drewN|apply below_drew1|refine below_set ?_ GE823.out|refine below_set ?_ GE824.out)|exact HB.out))));have n1_:=Aside0.mk (blk_below (g:=gb823) (o:=.cells #[.int .i64 a0_0,.int .i64 a0_1,.slice A0_2 l0_2.length c0_2] 24 (0,0)) (by (with_reducible repeat (first|refine blk_drewN ?_ _|refine blk_drew ?_|refine blk_alloc ?_ _));exact BK823.out) hb);have n2_:=Aside0.mk (blk_below (g:=gb824) (o:=.cells #[.int .i64 0,.int .i64 0,.slice none 0 0] 24 (0,0)) (by (with_reducible repeat (first|refine blk_drewN ?_ _|refine blk_drew ?_|refine blk_alloc ?_ _));exact BK824.out) hb);have n3_:=Aside0.mk (below_step (by repeat (first|(with_reducible first|exact HB.out|apply below_alloc|apply pw_below_drewN|apply below_drew1|refine below_set ?_ GE823.out|refine below_set ?_ GE824.out)|exact HB.out)) hb);clear BK823;clear BK824;clear HB;have HO827:=n0_;have BK823:=n1_;have BK824:=n2_;have HB:=n3_;clear n0_ n1_ n2_ n3_;(try clear hb);(try clear hb2);(try clear hk);(try clear hi);(try clear ho0);have hcz21_0 : w20.cell? ⟨gb824,0,none⟩=some (.int .i64 0):=(blk_cell BK824.out 0).trans rfl;have hcz21_1 : w20.cell? ⟨gb824,1,none⟩=some (.int .i64 0):=(blk_cell BK824.out 1).trans rfl;have hcz21_2 : w20.cell? ⟨gb824,2,none⟩=some (.slice none 0 0):=(blk_cell BK824.out 2).trans rfl;have hfz21_0:=blk_frozen BK824.out 0;have hfz21_1:=blk_frozen BK824.out 1;have hfz21_2:=blk_frozen BK824.out 2))
  refine bodyPost_ret (results_ct rfl _ _ gb824 24 #[.int .i64 0,.int .i64 0,.slice none 0 0] (0,0) _ rfl (by (with_reducible repeat (first|refine blk_drewN ?_ _|refine blk_drew ?_|refine blk_alloc ?_ _));refine blk_put (cs:=#[.int .i64 0,.int .i64 0,.slice none 0 0]) ?_ 2 _ rfl;(with_reducible repeat (first|refine blk_drewN ?_ _|refine blk_drew ?_|refine blk_alloc ?_ _));refine blk_put (cs:=#[.int .i64 0,.int .i64 0,.slice none 0 0]) ?_ 1 _ rfl;(with_reducible repeat (first|refine blk_drewN ?_ _|refine blk_drew ?_|refine blk_alloc ?_ _));refine blk_put (cs:=#[.int .i64 0,.int .i64 0,.slice none 0 0]) ?_ 0 _ rfl;(with_reducible repeat (first|refine blk_drewN ?_ _|refine blk_drew ?_|refine blk_alloc ?_ _));exact BK824.out) Try.underlying24 rfl (by kernel_rfl)) rfl ?_
  exact ⟨_,by first|rfl|(simp [errW_none,errW_some] <;> rfl)|(simp [*,errW_none,errW_some] <;> rfl),by first|exact Kd.S_nil _ _ _ _ _|exact Kd.N_nil _ _ _ _ _|exact Kd.V_nil _ _ _ _ _|exact Kd.Q_nil _ _ _ _ _|exact Kd.R_nil _ _ _ _ _,by repeat (first|(with_reducible first|exact HB.out|apply below_alloc|apply pw_below_drewN|apply below_drew1|refine below_set ?_ GE823.out|refine below_set ?_ GE824.out)|exact HB.out)⟩
end Go.Proofs.Ytbelnopbggkdfaa.Q
end

section
namespace Go.Proofs.Ytbelnopbggkdfaa.Q
open Go.RowKit Go.Proofs.YtbelnopbggkdfaaW.PrintWords Go.Proofs.YtbelnopbggkdfaaW.PrintLast Go.Proofs.YtbelnopbggkdfaaW.PrintMore
structure MomS (W1 wM : World) (vm vn : Value) (ms : List (List Int)) (i : Nat) (W : World) : Prop where
  hb : Below W1.heap.size W1 W
  hm : ∃ ms' : List (List Int),ms'.length=ms.length∧(∀ j,i≤j→ms'[j]?=ms[j]?)∧Kd.S (Kd.slice 3 (Kd.int .i64)) 37 W W1.heap.size (fun k => k < wM.heap.size) vm ms'
  hn : Kd.S (Kd.slice 3 (Kd.int .i64)) 37 W wM.heap.size (fun k => wM.heap.size≤k) vn ms
theorem MomS.drew {W1 wM W : World} {vm vn : Value} {ms : List (List Int)} {i : Nat} (h : MomS W1 wM vm vn ms i W) : MomS W1 wM vm vn ms i W.drew:=by
  obtain ⟨hb,⟨ms',h1,h2,h3⟩,hn⟩:=h
  exact ⟨hb.drew,⟨ms',h1,h2,Kd.S_drew h3⟩,Kd.S_drew hn⟩
theorem mom_step {W1 wM W : World} {Am An : Option Addr} {cm cn : Nat} {ms : List (List Int)} {x : Int} (h0 : 0≤x) (h1 : x < (ms.length : Int)) (hl : ∀ r ∈ ms,r.length≤4096) (h : MomS W1 wM (.slice Am ms.length cm) (.slice An ms.length cn) ms x.toNat W) :
    ∃ (am an : Addr) (u v : Value),Am=some am∧An=some an∧W.cell? (am.add x.toNat)=some u∧W.cell? (an.add x.toNat)=some v ∧
      Calls Try.prog 29 #[u,.int .i64 0,v,.int .i64 0] W fun e w' => e=.returned (.bool true)∧MomS W1 wM (.slice Am ms.length cm) (.slice An ms.length cn) ms (x + 1).toNat w':=by
  obtain ⟨i,rfl⟩ : ∃ i : Nat,x=i:=⟨x.toNat,by omega⟩
  rw [Int.toNat_natCast] at h
  rw [show ((i : Int) + 1).toNat=i + 1 by omega,Int.toNat_natCast]
  obtain ⟨hb,⟨ms',e1,e2,hm⟩,hn⟩:=h
  have hi : i < ms.length:=by omega
  obtain ⟨gm,cm',em,-⟩:=Kd.S_form hm (by omega)
  obtain ⟨gn,cn',en,-⟩:=Kd.S_form hn (by omega)
  rw [e1] at em
  injection em with em1 _ em2
  injection en with en1 _ en2
  subst em1 em2 en1 en2
  obtain ⟨oki,c,hc,hM,hcc,hoki,hH⟩:=Kd.S_lend hm [] (i : Int) (by omega) (by omega)
  obtain ⟨okj,c',hc',hM',hcc',hokj,-⟩:=Kd.S_lend hn [] (i : Int) (by omega) (by omega)
  obtain ⟨u,rfl,hR⟩:=hM
  obtain ⟨v,rfl,hR'⟩:=hM'
  rw [Int.toNat_natCast] at hR hcc hR' hcc'
  have er : ms'.getD i []=ms.getD i []:=by rw [List.getD_eq_getElem?_getD,List.getD_eq_getElem?_getD,e2 i (Nat.le_refl _)]
  rw [er] at hR
  obtain ⟨L,hL⟩ : ∃ L,L=ms.getD i []:=⟨_,rfl⟩
  have hLl : L.length≤4096:=by
    rw [hL,List.getD_eq_getElem?_getD,List.getElem?_eq_getElem hi]
    exact hl _ (List.getElem_mem _)
  rw [← hL] at hR hR'
  obtain ⟨A2,c2,rfl⟩:=Kd.R_slice hR'
  have hu:=hcc 0 _ rfl
  have hv:=hcc' 0 _ rfl
  refine ⟨⟨gm,0,none⟩,⟨gn,0,none⟩,u,.slice A2 L.length c2,rfl,rfl,?_,?_,?_⟩
  · rw [add_plain]
    simpa [Kd.slice] using hu
  · rw [add_plain]
    simpa [Kd.slice] using hv
  obtain ⟨k,r,hk⟩:=(told_is (l:=L) (e:=0) (by omega)).get
  refine (phasorlaw19_told.calls k oki u L 0 A2 c2 L 0 true r W1 W hb hR (Kd.C_kept_own hR' (fun k hk hk2 => Nat.lt_irrefl _ (Nat.lt_of_lt_of_le (hoki k hk2).1 (hokj k hk).1))) (Kd.R_reads' hR').2.1 hk).mono ?_
  rintro e w' ⟨rfl,hRn,hbn,hkp⟩
  refine ⟨rfl,hbn,⟨ms'.set i r,by simpa using e1,fun j hj => ?_,?_⟩,Kd.S_kept hn hkp (fun k hk hk2 => Nat.lt_irrefl _ (Nat.lt_of_lt_of_le (hoki k hk2).1 hk))⟩
  · rw [List.getElem?_set_ne (by omega)]
    exact e2 j (by omega)
  · have h2:=Kd.H_kept hH hkp (fun k _ hk hk2 => hk hk2)
    have h3 : Kd.R (Kd.int .i64) 3 w' W1.heap.size oki u r:=Kd.R_flat (fun h => h) hRn (fun k hk _ => hR.1 k hk)
    have h4:=Kd.H_back (okp:=oki) (x':=r) h2 ⟨u,rfl,h3⟩ (fun _ hk => hk)
    rw [Int.toNat_natCast] at h4
    exact h4
def IntRel (B : Nat) (V W : World) : Prop:=V.heap.size≤W.heap.size∧(∀ g,g < B→W.heap[g]?=V.heap[g]?)∧∀ (g : Nat) (cs : Array Value) (t : TypeId) (fr : Nat × Nat),V.heap[g]?=some (.cells cs t fr) →
  (t≠3→W.heap[g]?=V.heap[g]?)∧(t=3→∃ cs',W.heap[g]?=some (.cells cs' t fr)∧∀ (j : Nat) (u : Value),cs[j]?=some u→cs'[j]?=some u∨cs'[j]?=some (.int .i64 77))
theorem IntRel.refl (B : Nat) (V : World) : IntRel B V V:=⟨Nat.le_refl _,fun _ _ => rfl,fun _ cs _ _ h => ⟨fun _ => rfl,fun _ => ⟨cs,h,fun _ _ hu => .inl hu⟩⟩⟩
theorem IntRel.put {B : Nat} {V W : World} (h : IntRel B V W) {g o : Nat} {D : Array Value} (hB : B≤g) (hg : V.heap[g]?=some (.cells D 3 (0,0))) : IntRel B V (W.setCell ⟨g,o,none⟩ (.int .i64 77)):=by
  refine ⟨?_,fun k hk => ?_,fun k cs t fr hk => ⟨fun ht => ?_,fun ht => ?_⟩⟩
  · have:=h.1
    simpa [World.setCell] using this
  · rw [Below.heap_setCell _ _ _ _ (show k≠g by omega)]
    exact h.2.1 k hk
  · have hne : k≠g:=fun e => by
      subst e
      rw [hg] at hk
      injection hk with hk
      injection hk with _ e2 _
      exact ht e2.symm
    rw [Below.heap_setCell _ _ _ _ hne]
    exact (h.2.2 k cs t fr hk).1 ht
  · obtain ⟨cs',c1,c2⟩:=(h.2.2 k cs t fr hk).2 ht
    by_cases e : k=g
    · subst e
      rw [hg] at hk
      injection hk with hk
      injection hk with _ _ e3
      subst e3
      refine ⟨_,blk_put c1 o _ rfl,fun j u hu => ?_⟩
      rw [Array.getElem?_setIfInBounds]
      by_cases ej : o=j
      · subst ej
        rw [if_pos rfl]
        rcases c2 o u hu with c3|c3
        · have:=(Array.getElem?_eq_some_iff.1 c3).1
          rw [if_pos this]
          exact .inr rfl
        · have:=(Array.getElem?_eq_some_iff.1 c3).1
          rw [if_pos this]
          exact .inr rfl
      · rw [if_neg ej]
        exact c2 j u hu
    · exact ⟨cs',by rw [Below.heap_setCell _ _ _ _ e];exact c1,c2⟩
theorem row_at {V : World} {B : Nat} {A : Option Addr} {c : Nat} {s : List Opn} (h : Kd.N k46w 46 V B (fun k => B≤k) (.slice A s.length c) s) {x : Int} (h0 : 0≤x) (h1 : x < (s.length : Int)) :
    ∃ (ad : Addr) (A2 : Option Addr) (c2 : Nat),A=some ad∧(rd_T46 s x).f2.length≤c2∧(∀ W,IntRel B V W→W.cell? ⟨(ad.add (x.toNat * 6)).block,(ad.add (x.toNat * 6)).off + 2,none⟩=some (.slice A2 (rd_T46 s x).f2.length c2)) ∧
      ∀ y : Int,0≤y→y < ((rd_T46 s x).f2.length : Int)→∃ (g o : Nat),A2=some ⟨g,o,none⟩∧B≤g∧(∃ D,V.heap[g]?=some (.cells D 3 (0,0)))∧∀ W,IntRel B V W→(∃ u,W.cell? ⟨g,o + y.toNat,none⟩=some u)∧W.frozen? ⟨g,o + y.toNat,none⟩=false:=by
  obtain ⟨g0,cap,e,hg0,hlt,D0,hD0⟩:=Kd.N_form h (by omega)
  injection e with e1 _ e2
  subst e1 e2
  obtain ⟨cs,hcl,hF,hcc,-⟩:=Kd.N_elem h z46 x h0 h1
  have hx : s.getD x.toNat z46=rd_T46 s x:=rfl
  rw [hx] at hF
  obtain ⟨A2,c2,rfl,hl2,hC2,hT⟩:=k46w_open (Kd.FK_now hF)
  have hcell:=hcc 2 _ rfl
  refine ⟨⟨g0,0,none⟩,A2,c2,rfl,hl2,fun W hW => ?_,fun y hy0 hy1 => ?_⟩
  · have hs:=(hW.2.2 g0 D0 46 (0,0) hD0).1 (by decide)
    have hc2 : W.cell? ⟨g0,x.toNat * 6 + 2,none⟩=V.cell? ⟨g0,x.toNat * 6 + 2,none⟩:=World.cell?_of_block hs
    rw [add_plain]
    simp only
    rw [hc2]
    exact hcell
  · obtain ⟨g,o,D,rfl,hD⟩:=hT (by omega)
    obtain ⟨_,_,hcells⟩:=Kd.reads_of_C (enc:=Value.int .i64) (d:=(0 : Int)) (h1:=fun _ => rfl) hC2
    obtain ⟨ad,ead,hcy⟩:=hcells (by omega)
    obtain rfl:=Option.some.inj ead
    have hy:=hcy y.toNat (by omega)
    have ea : (⟨g,o,none⟩ : Addr).add y.toNat=⟨g,o + y.toNat,none⟩:=Addr.add_mid g o _
    rw [ea,blk_cell hD] at hy
    refine ⟨g,o,rfl,?_,⟨D,hD⟩,fun W hW => ?_⟩
    · -- the block lies at or behind B: else the header could not be read where all that is older is wiped out
      refine Nat.le_of_not_lt fun hlt2 => ?_
      let V' : World:={ V with heap:=V.heap.mapIdx fun i ob => if i < B then .cells #[] 24 (0,0) else ob }
      have hV : ∀ k,(B≤k∧k≠g0)→k < V.heap.size→V'.heap[k]?=V.heap[k]?:=fun k hk hk2 => by
        show (V.heap.mapIdx _)[k]?=V.heap[k]?
        rw [Array.getElem?_mapIdx]
        cases V.heap[k]? with
        | none => rfl
        | some ob => rw [Option.map_some,if_neg (by omega)]
      obtain ⟨A2',c2',e3,_,_,hT'⟩:=k46w_open (hF V' hV)
      injection e3 with _ e3
      injection e3 with _ e3
      injection e3 with e3 _
      injection e3 with e4 _ _
      obtain ⟨g',o',D',e5,hD'⟩:=hT' (by omega)
      rw [← e4] at e5
      injection e5 with e5
      injection e5 with e6 _ _
      rw [← e6] at hD'
      have hw : V'.heap[g]?=some (.cells #[] 24 (0,0)):=by
        show (V.heap.mapIdx _)[g]?=_
        rw [Array.getElem?_mapIdx,hD,Option.map_some,if_pos hlt2]
      rw [hw] at hD'
      injection hD' with hD'
      injection hD' with _ e7 _
      exact absurd e7 (by decide)
    · obtain ⟨cs',c1,c3⟩:=(hW.2.2 g D 3 (0,0) hD).2 rfl
      refine ⟨?_,blk_frozen c1 _⟩
      rw [blk_cell c1]
      rcases c3 _ _ hy with h3|h3
      · exact ⟨_,h3⟩
      · exact ⟨_,h3⟩
end Go.Proofs.Ytbelnopbggkdfaa.Q
end

section
namespace Go.Proofs.Ytbelnopbggkdfaa.Q
open Go.RowKit Go.Proofs.YtbelnopbggkdfaaW.PrintWords Go.Proofs.YtbelnopbggkdfaaW.PrintLast Go.Proofs.YtbelnopbggkdfaaW.PrintMore
set_option maxHeartbeats 8000000 in
set_option maxRecDepth 1000000 in
theorem sort_walk (q b : Int) (A : Option Addr) (c : Nat) (l : List Opn) (B : Option Addr) (cq : Nat) (qs : List Int) (w : World) (hC : Kd.C k46 w A l.length l) (hc : l.length≤c) (hw : WfL l) (hn : l.length < 2199023255552) (hf : ∀ o ∈ l,o.f2.length < 17592186044416) (hQ : Kd.C (Kd.int .i64) w B qs.length qs) (hcq : qs.length≤cq) :
  Calls Try.prog 6 #[.agg #[.int .i64 q,.int .i64 b,.slice A l.length c],.slice B qs.length cq] w fun e w' => e=.returned (.bool true)∧Below w.heap.size w w':=by
 have hu24:=Try.underlying24
 have hu46:=Try.underlying46
 obtain ⟨ms,e1,nm,nr,f1,g1⟩:=moments_facts (q:=q) (b:=b) hw
 obtain ⟨q2,b2,s,e2,sm,sn,f2,g2⟩:=sorted_facts (q:=q) (b:=b) hw
 obtain ⟨q3,b3,p,e3,pm,pn,f3,g3⟩:=prune_facts (q:=q) (b:=b) (qs:=qs) hw
 have hfs : ∀ o ∈ s,o.f2.length < 17592186044416:=fun o ho => hf o (sm o ho)
 have hfp : ∀ o ∈ p,o.f2.length < 17592186044416:=fun o ho => hf o (pm o ho)
 have rows : ∀ {t : List Opn},(∀ o ∈ t,o.f2.length < 17592186044416)→∀ x : Int,0≤x→x < (t.length : Int)→((rd_T46 t x).f2.length : Int) < 17592186044416:=fun {t} ht x h0 h1 => by
  obtain ⟨i,rfl⟩ : ∃ i : Nat,x=i:=⟨x.toNat,by omega⟩
  rw [rdT_nat (by omega)]
  have:=ht _ (List.getElem_mem (l:=t) (n:=i) (by omega))
  omega
 have FLs:=Aside0.mk (rows hfs)
 have FLp:=Aside0.mk (rows hfp)
 obtain ⟨kss,ss⟩:=(same_is (q:=q2) (b:=b2) hfs (by omega)).get
 obtain ⟨kps,ps⟩:=(same_is (q:=q3) (b:=b3) hfp (by omega)).get
 obtain ⟨kf1,f1⟩:=f1.get
 obtain ⟨kg1,g1⟩:=g1.get
 obtain ⟨kf2,f2⟩:=f2.get
 obtain ⟨kg2,g2⟩:=g2.get
 obtain ⟨kf3,f3⟩:=f3.get
 obtain ⟨kg3,g3⟩:=g3.get
 obtain ⟨kc,hk0⟩:=(rcopy_is (q:=q) (b:=b) hf hn).get
 obtain ⟨ks,hs0⟩:=(same_is (q:=q) (b:=b) hf hn).get
 have NR:=Aside0.mk nr
 have SS:=Aside0.mk ss
 have PS:=Aside0.mk ps
 have hmn : (ms.length : Int)≤4096:=by omega
 have hsn : (s.length : Int)≤4096:=by omega
 have hpn : (p.length : Int)≤4096:=by omega
 have F1:=Aside0.mk f1
 have G1:=Aside0.mk g1
 have F2:=Aside0.mk f2
 have G2:=Aside0.mk g2
 have F3:=Aside0.mk f3
 have G3:=Aside0.mk g3
 have FC:=Aside0.mk hk0
 have FS:=Aside0.mk hs0
 have HR:=Aside0.mk hC
 have HS:=Aside0.mk hc
 have HQ:=Aside0.mk hQ
 have HQC:=Aside0.mk hcq
 clear nr ss ps f1 f2 f3 g1 g2 g3 hk0 hs0 hC hc hw hn hf hQ hcq sm pm hfs hfp rows nm sn pn
 go_enter Try.func6,Try.ntmps6
 go_upto_region 2 with (go_at_call 7;(with_reducible refine (phasorref08_Copy.calls kc q b _ _ l _ _ _ _ (Kd.C_alloc HR.out _) HS.out FC.out).mono ?_);rintro er w1 ⟨v1,rfl,ho1,hb1⟩;obtain ⟨Ax,cx,rfl⟩:=Kd.S_slice ho1;have HO1:=Aside0.mk ho1;clear ho1)
 have b0:=blk_new w (.cells #[.int .i64 q,.int .i64 b,.slice A l.length c] 24)
 have bx:=blk_new w1 (.cells #[.int .i64 q,.int .i64 b,.slice Ax l.length cx] 24)
 replace b0:=blk_alloc (blk_below b0 hb1) (.cells #[.int .i64 q,.int .i64 b,.slice Ax l.length cx] 24)
 have hb2:=below_alloc (below_step (below_alloc (Below.refl w.heap.size w) (.cells #[.int .i64 q,.int .i64 b,.slice A l.length c] 24)) hb1) (.cells #[.int .i64 q,.int .i64 b,.slice Ax l.length cx] 24)
 have HX:=Aside0.mk (Kd.S_reads' HO1.out).2.1
 have CX:=Aside0.mk (Kd.C_alloc (Kd.S_reads' HO1.out).2.2 (.cells #[.int .i64 q,.int .i64 b,.slice Ax l.length cx] 24))
 have CC:=Aside0.mk (Kd.C_below HR.out hb2)
 have CQ:=Aside0.mk (Kd.C_below HQ.out hb2)
 have B0:=Aside0.mk b0
 have BX:=Aside0.mk bx
 have HB:=Aside0.mk hb2
 clear hb1 hb2 b0 bx HO1
 generalize w.heap.size=gc at B0 ⊢
 generalize w1.heap.size=gx at BX ⊢
 generalize w1.alloc _=w2 at CX CC CQ B0 BX HB ⊢
 have S0 : Aside0 (TellS w gc gx q b A Ax c cx l B B qs w2):=Aside0.mk ⟨HB.out,B0.out,BX.out,CC.out,CX.out,CQ.out,CQ.out⟩
 clear HB CC CX CQ B0 BX
 have bx0 : w2.cell? ⟨gx,0,none⟩=some (.int .i64 q):=by rw [blk_cell S0.out.bx];rfl
 have bx1 : w2.cell? ⟨gx,1,none⟩=some (.int .i64 b):=by rw [blk_cell S0.out.bx];rfl
 have bx2 : w2.cell? ⟨gx,2,none⟩=some (.slice Ax l.length cx):=by rw [blk_cell S0.out.bx];rfl
 have bc0 : w2.cell? ⟨gc,0,none⟩=some (.int .i64 q):=by rw [blk_cell S0.out.bc];rfl
 have bc1 : w2.cell? ⟨gc,1,none⟩=some (.int .i64 b):=by rw [blk_cell S0.out.bc];rfl
 have bc2 : w2.cell? ⟨gc,2,none⟩=some (.slice A l.length c):=by rw [blk_cell S0.out.bc];rfl
 go_upto_region 3 with (go_at_call 37;(with_reducible refine (layers_Moments.calls kf1 q b _ _ l _ _ _ S0.out.cx HX.out F1.out).mono ?_);rintro er wM ⟨u1,rfl,ho1,hb1⟩)
 obtain ⟨Am,cm,rfl⟩:=Kd.S_slice ho1
 have S1:=Aside0.mk (S0.out.below hb1)
 have O1:=Aside0.mk ho1
 have B1:=Aside0.mk hb1
 clear ho1 hb1
 clear bx0 bx1 bx2 bc0 bc1 bc2
 have bx0 : wM.cell? ⟨gx,0,none⟩=some (.int .i64 q):=by rw [blk_cell S1.out.bx];rfl
 have bx1 : wM.cell? ⟨gx,1,none⟩=some (.int .i64 b):=by rw [blk_cell S1.out.bx];rfl
 have bx2 : wM.cell? ⟨gx,2,none⟩=some (.slice Ax l.length cx):=by rw [blk_cell S1.out.bx];rfl
 have bc0 : wM.cell? ⟨gc,0,none⟩=some (.int .i64 q):=by rw [blk_cell S1.out.bc];rfl
 have bc1 : wM.cell? ⟨gc,1,none⟩=some (.int .i64 b):=by rw [blk_cell S1.out.bc];rfl
 have bc2 : wM.cell? ⟨gc,2,none⟩=some (.slice A l.length c):=by rw [blk_cell S1.out.bc];rfl
 go_upto_region 4 with (go_at_call 38;(with_reducible refine (phasorref19_Moments.calls kg1 q b _ _ l _ _ _ S1.out.cc HS.out G1.out).mono ?_);rintro er wN ⟨u2,rfl,ho2,hb2⟩)
 obtain ⟨An,cn,rfl⟩:=Kd.S_slice ho2
 have MM : Aside0 (MomS w2 wM (.slice Am ms.length cm) (.slice An ms.length cn) ms 0 wN):=Aside0.mk ⟨below_step B1.out hb2,⟨ms,rfl,fun _ _ => rfl,Kd.S_below (Kd.S_mono (Kd.S_bound O1.out) (fun k hk => hk.2.2.1)) hb2⟩,Kd.S_mono (Kd.S_bound ho2) (fun k hk => hk.2.1)⟩
 clear ho2 hb2 O1 B1 S1
 clear bx0 bx1 bx2 bc0 bc1 bc2
 go_wp2_with fail
 go_loopg [10] ms.length (fun gk v10 wr => ∃ x : Int,0≤x∧x≤ms.length∧(gk : Int) + x=ms.length∧v10=.int .i64 x∧Aside0 (MomS w2 wM (.slice Am ms.length cm) (.slice An ms.length cn) ms x.toNat wr))
 case atStart => exact ⟨0,by omega,by omega,by omega,rfl,MM⟩
 case round =>
  obtain ⟨x,hx0,hx1,hx2,rfl,hM⟩:=hrel
  by_cases hx : x < ms.length
  ·obtain ⟨am,an,u,v,eA,eN,z1,z2,hcall⟩:=mom_step hx0 hx NR.out hM.out.drew
   subst eA eN
   have X2:=Aside0.mk hx2
   have CL:=Aside0.mk hcall
   clear hx2 hx1 hcall hM MM
   go_upto_region 9 with fail
   go_still_tail 8,(by kernel_rfl)
   change wpList _ _ _ _ _ wr.drew
   generalize wr.drew=w4 at z1 z2 CL ⊢
   go_wp2_with (go_at_call 29;(with_reducible refine CL.out.mono ?_);rintro er w5 ⟨rfl,hM5⟩;have M5:=Aside0.mk hM5;clear hM5)
   go_roundg (ms.length - (x + 1).toNat)
   case measure => have:=X2.out;omega
   case rel => exact ⟨x + 1,by omega,by omega,by have:=X2.out;omega,by go_num,M5⟩
  ·obtain rfl : x=ms.length:=by omega
   have U:=Aside0.mk (S0.out.below hM.out.hb)
   clear hM hx2 hx1 MM S0
   obtain ⟨wU,hwU⟩ : ∃ wU : World,wU=wr:=⟨wr,rfl⟩
   subst hwU
   have HU:=Aside0.mk (Below.refl wU.heap.size wU)
   have UU:=U
   have bx0 : wU.cell? ⟨gx,0,none⟩=some (.int .i64 q):=by rw [blk_cell U.out.bx];rfl
   have bx1 : wU.cell? ⟨gx,1,none⟩=some (.int .i64 b):=by rw [blk_cell U.out.bx];rfl
   have bx2 : wU.cell? ⟨gx,2,none⟩=some (.slice Ax l.length cx):=by rw [blk_cell U.out.bx];rfl
   go_upto_region 12 with (go_at_call 27;(with_reducible refine (layers_Sorted.callsW kf2 q b _ _ l _ _ _ _ _ U.out.cx HX.out F2.out).mono ?_);rintro er w6 ⟨vs,rfl,ho,hb⟩;obtain ⟨Ss,cs,rfl⟩:=Kd.N_slice ho;have Ns:=Aside0.mk ho;have HH:=Aside0.mk hb;clear ho hb)
   have bn:=blk_new w6 (.cells #[.int .i64 q2,.int .i64 b2,.slice Ss s.length cs] 24)
   have hbA:=below_alloc HH.out (.cells #[.int .i64 q2,.int .i64 b2,.slice Ss s.length cs] 24)
   have Ls:=Aside0.mk (Kd.N_reads' Ns.out).2.1
   replace Ns:=Aside0.mk (Kd.N_alloc Ns.out (.cells #[.int .i64 q2,.int .i64 b2,.slice Ss s.length cs] 24))
   replace U:=Aside0.mk (U.out.below hbA)
   replace HU:=Aside0.mk (below_step HU.out hbA)
   have Bs:=Aside0.mk bn
   clear bn hbA HH
   generalize w6.heap.size=gs at Bs ⊢
   generalize w6.alloc _=w6x at U HU Ns Bs ⊢
   clear bx0 bx1 bx2
   have bc0 : w6x.cell? ⟨gc,0,none⟩=some (.int .i64 q):=by rw [blk_cell U.out.bc];rfl
   have bc1 : w6x.cell? ⟨gc,1,none⟩=some (.int .i64 b):=by rw [blk_cell U.out.bc];rfl
   have bc2 : w6x.cell? ⟨gc,2,none⟩=some (.slice A l.length c):=by rw [blk_cell U.out.bc];rfl
   go_upto_region 13 with (go_at_call 39;(with_reducible refine (phasorref19_Sorted.calls kg2 q b _ _ l _ _ _ _ _ U.out.cc HS.out G2.out).mono ?_);rintro er w7 ⟨vt,rfl,ho,hb⟩;obtain ⟨St,ct,rfl⟩:=Kd.N_slice ho;have Nt:=Aside0.mk ho;have HH:=Aside0.mk hb;clear ho hb)
   have bn:=blk_new w7 (.cells #[.int .i64 q2,.int .i64 b2,.slice St s.length ct] 24)
   have hbA:=below_alloc HH.out (.cells #[.int .i64 q2,.int .i64 b2,.slice St s.length ct] 24)
   have Lt:=Aside0.mk (Kd.N_reads' Nt.out).2.1
   have Ct:=Aside0.mk (Kd.C_alloc (Kd.N_reads' Nt.out).2.2 (.cells #[.int .i64 q2,.int .i64 b2,.slice St s.length ct] 24))
   clear Nt
   replace U:=Aside0.mk (U.out.below hbA)
   replace HU:=Aside0.mk (below_step HU.out hbA)
   replace Ns:=Aside0.mk (Kd.N_below Ns.out hbA)
   replace Bs:=Aside0.mk (blk_below Bs.out hbA)
   have Bt:=Aside0.mk bn
   clear bn hbA HH
   generalize w7.heap.size=gt at Bt ⊢
   generalize w7.alloc _=w7x at U HU Ns Bs Ct Bt ⊢
   clear bc0 bc1 bc2
   have bx0 : w7x.cell? ⟨gx,0,none⟩=some (.int .i64 q):=by rw [blk_cell U.out.bx];rfl
   have bx1 : w7x.cell? ⟨gx,1,none⟩=some (.int .i64 b):=by rw [blk_cell U.out.bx];rfl
   have bx2 : w7x.cell? ⟨gx,2,none⟩=some (.slice Ax l.length cx):=by rw [blk_cell U.out.bx];rfl
   have hP:=HU.out.size
   go_upto_region 14 with (go_at_call 40;(with_reducible refine (layers_Prune.callsW kf3 q b _ _ l _ _ qs _ _ _ _ _ U.out.cx HX.out U.out.hq HQC.out F3.out).mono ?_);rintro er w8 ⟨vp,rfl,ho,hb⟩;obtain ⟨Sp,cp,rfl⟩:=Kd.N_slice ho;have Np:=Aside0.mk ho;have HH:=Aside0.mk hb;clear ho hb)
   have bn:=blk_new w8 (.cells #[.int .i64 q3,.int .i64 b3,.slice Sp p.length cp] 24)
   have hbA:=below_alloc HH.out (.cells #[.int .i64 q3,.int .i64 b3,.slice Sp p.length cp] 24)
   have Lp:=Aside0.mk (Kd.N_reads' Np.out).2.1
   replace Np:=Aside0.mk (Kd.N_alloc Np.out (.cells #[.int .i64 q3,.int .i64 b3,.slice Sp p.length cp] 24))
   replace U:=Aside0.mk (U.out.below hbA)
   replace HU:=Aside0.mk (below_step HU.out hbA)
   replace Ns:=Aside0.mk (Kd.N_below Ns.out hbA)
   replace Bs:=Aside0.mk (blk_below Bs.out hbA)
   replace Ct:=Aside0.mk (Kd.C_below Ct.out hbA)
   replace Bt:=Aside0.mk (blk_below Bt.out hbA)
   have Bp:=Aside0.mk bn
   clear bn hbA HH
   generalize w8.heap.size=gp at Bp ⊢
   generalize w8.alloc _=w8x at U HU Ns Bs Ct Bt Np Bp ⊢
   replace Np:=Aside0.mk (Kd.N_lower (Kd.N_mono Np.out (fun k hk => Nat.le_trans hP hk)) hP)
   clear hP
   clear bx0 bx1 bx2
   have bc0 : w8x.cell? ⟨gc,0,none⟩=some (.int .i64 q):=by rw [blk_cell U.out.bc];rfl
   have bc1 : w8x.cell? ⟨gc,1,none⟩=some (.int .i64 b):=by rw [blk_cell U.out.bc];rfl
   have bc2 : w8x.cell? ⟨gc,2,none⟩=some (.slice A l.length c):=by rw [blk_cell U.out.bc];rfl
   go_upto_region 15 with (go_at_call 41;(with_reducible refine (phasorref19_Prune.calls kg3 q b _ _ l _ _ qs _ _ _ _ _ U.out.cc HS.out U.out.hq HQC.out G3.out).mono ?_);rintro er w9 ⟨vu,rfl,ho,hb⟩;obtain ⟨Su,cu,rfl⟩:=Kd.N_slice ho;have Nu:=Aside0.mk ho;have HH:=Aside0.mk hb;clear ho hb)
   have bn:=blk_new w9 (.cells #[.int .i64 q3,.int .i64 b3,.slice Su p.length cu] 24)
   have hbA:=below_alloc HH.out (.cells #[.int .i64 q3,.int .i64 b3,.slice Su p.length cu] 24)
   have Lu:=Aside0.mk (Kd.N_reads' Nu.out).2.1
   have Cu:=Aside0.mk (Kd.C_alloc (Kd.N_reads' Nu.out).2.2 (.cells #[.int .i64 q3,.int .i64 b3,.slice Su p.length cu] 24))
   clear Nu
   replace U:=Aside0.mk (U.out.below hbA)
   replace HU:=Aside0.mk (below_step HU.out hbA)
   replace Ns:=Aside0.mk (Kd.N_below Ns.out hbA)
   replace Bs:=Aside0.mk (blk_below Bs.out hbA)
   replace Ct:=Aside0.mk (Kd.C_below Ct.out hbA)
   replace Bt:=Aside0.mk (blk_below Bt.out hbA)
   replace Np:=Aside0.mk (Kd.N_below Np.out hbA)
   replace Bp:=Aside0.mk (blk_below Bp.out hbA)
   have Bu:=Aside0.mk bn
   clear bn hbA HH
   generalize w9.heap.size=gu at Bu ⊢
   generalize w9.alloc _=w9x at U HU Ns Bs Ct Bt Np Bp Cu Bu ⊢
   clear bc0 bc1 bc2
   have s0 : w9x.cell? ⟨gs,0,none⟩=some (.int .i64 q2):=by rw [blk_cell Bs.out];rfl
   have s1 : w9x.cell? ⟨gs,1,none⟩=some (.int .i64 b2):=by rw [blk_cell Bs.out];rfl
   have s2 : w9x.cell? ⟨gs,2,none⟩=some (.slice Ss s.length cs):=by rw [blk_cell Bs.out];rfl
   have t0 : w9x.cell? ⟨gt,0,none⟩=some (.int .i64 q2):=by rw [blk_cell Bt.out];rfl
   have t1 : w9x.cell? ⟨gt,1,none⟩=some (.int .i64 b2):=by rw [blk_cell Bt.out];rfl
   have t2 : w9x.cell? ⟨gt,2,none⟩=some (.slice St s.length ct):=by rw [blk_cell Bt.out];rfl
   have p0 : w9x.cell? ⟨gp,0,none⟩=some (.int .i64 q3):=by rw [blk_cell Bp.out];rfl
   have p1 : w9x.cell? ⟨gp,1,none⟩=some (.int .i64 b3):=by rw [blk_cell Bp.out];rfl
   have p2 : w9x.cell? ⟨gp,2,none⟩=some (.slice Sp p.length cp):=by rw [blk_cell Bp.out];rfl
   have u0 : w9x.cell? ⟨gu,0,none⟩=some (.int .i64 q3):=by rw [blk_cell Bu.out];rfl
   have u1 : w9x.cell? ⟨gu,1,none⟩=some (.int .i64 b3):=by rw [blk_cell Bu.out];rfl
   have u2 : w9x.cell? ⟨gu,2,none⟩=some (.slice Su p.length cu):=by rw [blk_cell Bu.out];rfl
   go_upto_region 16 with (first|(go_at_call 19;(with_reducible refine (phasorref08_Same.calls kss q2 b2 _ _ s q2 b2 _ _ s _ _ (k46w_C (Kd.N_reads' Ns.out).2.2) Ls.out Ct.out Lt.out SS.out).mono ?_);rintro er wa ⟨rfl,hba⟩;have p0 : wa.cell? ⟨gp,0,none⟩=some (.int .i64 q3):=(by rw [blk_cell (blk_below Bp.out hba)];rfl);have p1 : wa.cell? ⟨gp,1,none⟩=some (.int .i64 b3):=(by rw [blk_cell (blk_below Bp.out hba)];rfl);have p2 : wa.cell? ⟨gp,2,none⟩=some (.slice Sp p.length cp):=(by rw [blk_cell (blk_below Bp.out hba)];rfl);have u0 : wa.cell? ⟨gu,0,none⟩=some (.int .i64 q3):=(by rw [blk_cell (blk_below Bu.out hba)];rfl);have u1 : wa.cell? ⟨gu,1,none⟩=some (.int .i64 b3):=(by rw [blk_cell (blk_below Bu.out hba)];rfl);have u2 : wa.cell? ⟨gu,2,none⟩=some (.slice Su p.length cu):=(by rw [blk_cell (blk_below Bu.out hba)];rfl))|(go_at_call 19;(with_reducible refine (phasorref08_Same.calls kps q3 b3 _ _ p q3 b3 _ _ p _ _ (k46w_C (Kd.N_reads' (Kd.N_below Np.out hba)).2.2) Lp.out (Kd.C_below Cu.out hba) Lu.out PS.out).mono ?_);rintro er wb ⟨rfl,hbb⟩))
   clear p0 p1 p2 u0 u1 u2 s0 s1 s2 t0 t1 t2
   replace HU:=Aside0.mk (below_step HU.out hba)
   replace Ns:=Aside0.mk (Kd.N_below Ns.out hba)
   replace Bs:=Aside0.mk (blk_below Bs.out hba)
   replace Np:=Aside0.mk (Kd.N_below Np.out hba)
   replace Bp:=Aside0.mk (blk_below Bp.out hba)
   replace HU:=Aside0.mk (below_step HU.out hbb)
   replace Ns:=Aside0.mk (Kd.N_below Ns.out hbb)
   replace Bs:=Aside0.mk (blk_below Bs.out hbb)
   replace Np:=Aside0.mk (Kd.N_below Np.out hbb)
   replace Bp:=Aside0.mk (blk_below Bp.out hbb)
   clear hba hbb Ct Bt Cu Bu U
   have J0 : Aside0 (Below wU.heap.size wU wb∧IntRel wU.heap.size wb wb):=Aside0.mk ⟨HU.out,IntRel.refl _ _⟩
   go_wp2_with fail
   go_loopg [20,21] s.length (fun gk v20 v21 wr => ∃ x : Int,0≤x∧x≤s.length∧(gk : Int) + x=s.length∧v20=.int .i64 x∧Aside0 (Below wU.heap.size wU wr∧IntRel wU.heap.size wb wr))
   case atStart => exact ⟨0,by omega,by omega,by omega,rfl,J0⟩
   case round =>
    obtain ⟨x,hx0,hx1,hx2,rfl,hJ⟩:=hrel
    have bs2 : wr.cell? ⟨gs,2,none⟩=some (.slice Ss s.length cs):=by rw [blk_cell (((hJ.out.2.2.2 gs _ _ _ Bs.out).1 (by decide)).trans Bs.out)];rfl
    by_cases hx : x < s.length
    ·obtain ⟨ad,A2,c2,eA,hl2,hhead,hrow⟩:=row_at Ns.out hx0 hx
     subst eA
     have z:=hhead wr hJ.out.2
     have FL:=FLs.out x hx0 hx
     obtain ⟨L,hL⟩ : ∃ L,L=(rd_T46 s x).f2.length:=⟨_,rfl⟩
     rw [← hL] at z hl2 FL
     have HH:=Aside0.mk hhead
     have RW:=Aside0.mk hrow
     have X2:=Aside0.mk hx2
     have LL:=Aside0.mk hL
     clear hhead hrow hx2 hx1 hl2 hL
     go_wp2_with fail
     go_loopg [21] L (fun gk2 v21 wr => ∃ y : Int,0≤y∧y≤L∧(gk2 : Int) + y=L∧v21=.int .i64 y∧Aside0 (Below wU.heap.size wU wr∧IntRel wU.heap.size wb wr))
     case atStart => exact ⟨0,by omega,by omega,by omega,rfl,hJ⟩
     case round =>
      obtain ⟨y,hy0,hy1,hy2,rfl,hK⟩:=hrel
      have bs3 : wr.cell? ⟨gs,2,none⟩=some (.slice (some ad) s.length cs):=by rw [blk_cell (((hK.out.2.2.2 gs _ _ _ Bs.out).1 (by decide)).trans Bs.out)];rfl
      have z3:=HH.out wr hK.out.2
      rw [← LL.out] at z3
      by_cases hy : y < L
      ·obtain ⟨g,o,eA2,hB,⟨D,hD⟩,hcell⟩:=RW.out y hy0 (by rw [← LL.out];exact hy)
       subst eA2
       obtain ⟨⟨u,hu⟩,hfz⟩:=hcell wr hK.out.2
       have Y2:=Aside0.mk hy2
       have HB2:=Aside0.mk hB
       have HD:=Aside0.mk hD
       clear hy2 hy1 hcell hB hD
       go_wp2_with fail
       go_roundg (L - (y + 1).toNat)
       case measure => have:=Y2.out;omega
       case rel => exact ⟨y + 1,by omega,by omega,by have:=Y2.out;omega,by go_num,Aside0.mk ⟨below_set hK.out.1 HB2.out,hK.out.2.put HB2.out HD.out⟩⟩
      ·obtain rfl : y=L:=by omega
       clear hy2 hy1
       go_wp2_with fail
       go_roundg (s.length - (x + 1).toNat)
       case measure => have:=X2.out;omega
       case rel => exact ⟨x + 1,by omega,by omega,by have:=X2.out;omega,by go_num,hK⟩
    ·obtain rfl : x=s.length:=by omega
     clear hx2 hx1
     go_wp2_with fail
     go_loopg [22,23] p.length (fun gk v20 v21 wr => ∃ x : Int,0≤x∧x≤p.length∧(gk : Int) + x=p.length∧v20=.int .i64 x∧Aside0 (Below wU.heap.size wU wr∧IntRel wU.heap.size wb wr))
     case atStart => exact ⟨0,by omega,by omega,by omega,rfl,hJ⟩
     case round =>
      obtain ⟨x,hx0,hx1,hx2,rfl,hJ⟩:=hrel
      have bs2 : wr.cell? ⟨gp,2,none⟩=some (.slice Sp p.length cp):=by rw [blk_cell (((hJ.out.2.2.2 gp _ _ _ Bp.out).1 (by decide)).trans Bp.out)];rfl
      by_cases hx : x < p.length
      ·obtain ⟨ad,A2,c2,eA,hl2,hhead,hrow⟩:=row_at Np.out hx0 hx
       subst eA
       have z:=hhead wr hJ.out.2
       have FL:=FLp.out x hx0 hx
       obtain ⟨L,hL⟩ : ∃ L,L=(rd_T46 p x).f2.length:=⟨_,rfl⟩
       rw [← hL] at z hl2 FL
       have HH:=Aside0.mk hhead
       have RW:=Aside0.mk hrow
       have X2:=Aside0.mk hx2
       have LL:=Aside0.mk hL
       clear hhead hrow hx2 hx1 hl2 hL
       go_wp2_with fail
       go_loopg [23] L (fun gk2 v21 wr => ∃ y : Int,0≤y∧y≤L∧(gk2 : Int) + y=L∧v21=.int .i64 y∧Aside0 (Below wU.heap.size wU wr∧IntRel wU.heap.size wb wr))
       case atStart => exact ⟨0,by omega,by omega,by omega,rfl,hJ⟩
       case round =>
        obtain ⟨y,hy0,hy1,hy2,rfl,hK⟩:=hrel
        have bs3 : wr.cell? ⟨gp,2,none⟩=some (.slice (some ad) p.length cp):=by rw [blk_cell (((hK.out.2.2.2 gp _ _ _ Bp.out).1 (by decide)).trans Bp.out)];rfl
        have z3:=HH.out wr hK.out.2
        rw [← LL.out] at z3
        by_cases hy : y < L
        ·obtain ⟨g,o,eA2,hB,⟨D,hD⟩,hcell⟩:=RW.out y hy0 (by rw [← LL.out];exact hy)
         subst eA2
         obtain ⟨⟨u,hu⟩,hfz⟩:=hcell wr hK.out.2
         have Y2:=Aside0.mk hy2
         have HB2:=Aside0.mk hB
         have HD:=Aside0.mk hD
         clear hy2 hy1 hcell hB hD
         go_wp2_with fail
         go_roundg (L - (y + 1).toNat)
         case measure => have:=Y2.out;omega
         case rel => exact ⟨y + 1,by omega,by omega,by have:=Y2.out;omega,by go_num,Aside0.mk ⟨below_set hK.out.1 HB2.out,hK.out.2.put HB2.out HD.out⟩⟩
        ·obtain rfl : y=L:=by omega
         clear hy2 hy1
         go_wp2_with fail
         go_roundg (p.length - (x + 1).toNat)
         case measure => have:=X2.out;omega
         case rel => exact ⟨x + 1,by omega,by omega,by have:=X2.out;omega,by go_num,hK⟩
      ·obtain rfl : x=p.length:=by omega
       clear hx2 hx1
       have UF:=Aside0.mk (UU.out.below hJ.out.1)
       have bx0 : wr.cell? ⟨gx,0,none⟩=some (.int .i64 q):=by rw [blk_cell UF.out.bx];rfl
       have bx1 : wr.cell? ⟨gx,1,none⟩=some (.int .i64 b):=by rw [blk_cell UF.out.bx];rfl
       have bx2 : wr.cell? ⟨gx,2,none⟩=some (.slice Ax l.length cx):=by rw [blk_cell UF.out.bx];rfl
       have bc0 : wr.cell? ⟨gc,0,none⟩=some (.int .i64 q):=by rw [blk_cell UF.out.bc];rfl
       have bc1 : wr.cell? ⟨gc,1,none⟩=some (.int .i64 b):=by rw [blk_cell UF.out.bc];rfl
       have bc2 : wr.cell? ⟨gc,2,none⟩=some (.slice A l.length c):=by rw [blk_cell UF.out.bc];rfl
       go_wp2_with (first|(go_at_call 19;(with_reducible refine (phasorref08_Same.calls ks q b _ _ l q b _ _ l _ _ UF.out.cx HX.out UF.out.cc HS.out FS.out).mono ?_);rintro er wc ⟨rfl,hb4⟩)|(go_at_call 25;(with_reducible refine (heads_any _).mono ?_);rintro er wd ⟨rfl,hb5⟩))
       go_ret
       exact ⟨rfl,below_step (below_step UF.out.hb hb4) hb5⟩
theorem sort_row (q b : Int) (A : Option Addr) (c : Nat) (l : List Opn) (B : Option Addr) (cq : Nat) (qs : List Int) (w : World) (hC : Kd.C k46 w A l.length l) (hc : l.length≤c) (hw : WfL l) (hn : l.length * 64≤140737488351232) (hf : ∀ o ∈ l,o.f2.length * 8≤140737488351232) (hQ : Kd.C (Kd.int .i64) w B qs.length qs) (hcq : qs.length≤cq) (_ : qs.length * 8≤140737488351232) :
  Calls Try.prog 6 #[.agg #[.int .i64 q,.int .i64 b,.slice A l.length c],.slice B qs.length cq] w fun e w' => e=.returned (.bool true)∧Below w.heap.size w w' :=
 sort_walk q b A c l B cq qs w hC hc hw (by omega) (fun o ho => by have:=hf o ho;omega) hQ hcq
end Go.Proofs.Ytbelnopbggkdfaa.Q
end

section
namespace Go.Proofs.Ytbelnopbggkdfaa.Q
open Go.ChangeShapes Go.WideShapes Go.ChangeAt Go.Deep Go.Joins
open Go.RowKit Go.Proofs.YtbelnopbggkdfaaW.PrintWords Go.Proofs.YtbelnopbggkdfaaW.PrintLast Go.Proofs.YtbelnopbggkdfaaW.PrintMore
section
variable {H : Type} {enc : TypeId × Value→H} {W : World} {spare : Nat→Bool} {held : Bool}
theorem cells1 : Try.prog.cellsOf 3=1:=by kernel_rfl
theorem cells6 : Try.prog.cellsOf 46=6:=by kernel_rfl
theorem cells1k : Try.prog.cellsOf 44=1:=by kernel_rfl
theorem cells1o : Try.prog.cellsOf 43=1:=by kernel_rfl
theorem cells1s : Try.prog.cellsOf 37=1:=by kernel_rfl
end
end Go.Proofs.Ytbelnopbggkdfaa.Q
end

section
namespace Go.Proofs.Ytbelnopbggkdfaa.Q
open Go.ChangeShapes Go.WideShapes Go.ChangeAt Go.Deep Go.Joins
open Go.RowKit Go.Proofs.YtbelnopbggkdfaaW.PrintWords Go.Proofs.YtbelnopbggkdfaaW.PrintLast Go.Proofs.YtbelnopbggkdfaaW.PrintMore
section
variable {H : Type} {enc : TypeId × Value→H} {W : World} {spare : Nat→Bool} {held : Bool}
theorem weights_mem_all {P : Program} {e : TypeId} : ∀ {ds : List (DataW H)} {d : DataW H} {n : Nat},d ∈ ds→n ∈ d.weights P e→n ∈ DataW.weightsAll P e ds
  | d0 :: ds,d,n,hd,hn => by
    simp only [DataW.weightsAll,List.mem_append]
    rcases List.mem_cons.1 hd with rfl|hd
    · exact .inl hn
    · exact .inr (weights_mem_all hd hn)
theorem bytes8 : Try.prog.bytesOf 3=8:=by kernel_rfl
theorem bytes64 : Try.prog.bytesOf 46=64:=by kernel_rfl
theorem open_intsS {fuel : Nat} {cs : List Value} {x : DataW H × List MemPlace} (h : DataW.trod enc Try.prog W 0 (fun _ => true) held fuel 37 cs=some x) :
    ∃ (A : Option Addr) (c : Nat) (zs : List Int),cs=[.slice A zs.length c]∧zs.length≤c∧Kd.C (Kd.int .i64) W A zs.length zs∧(∀ z ∈ zs,(Lit.int .i64 z).wf=true)∧(∀ N,(∀ n ∈ x.1.weights Try.prog 37,n≤N)→zs.length * 8≤N):=by
  rcases open_slice Try.underlying37 h with ⟨rfl,-⟩ | ⟨a,len,cap,m,n,D,Pl,rfl,-,hl,hm,hmm,hx,hi⟩
  · exact ⟨none,0,[],rfl,Nat.le_refl _,Kd.C_nil _ _,by simp,by simp⟩
  · rw [if_pos rfl] at hmm
    subst hmm
    rw [cells1] at hi
    have hz : ∀ i,i < m→∃ z,W.cell? (a.add i)=some (.int .i64 z)∧(Lit.int .i64 z).wf=true:=fun i hi' => by
      obtain ⟨cs',hc,ht⟩:=hi i hi'
      obtain ⟨z,rfl,-,hw⟩:=DataW.trod_int Try.underlying3 ht
      obtain ⟨-,-,hat⟩:=World.cells?_some hc
      have:=hat 0 (by decide)
      rw [Go.Deep.add_add,Nat.mul_one] at this
      exact ⟨z,by simpa using this,hw⟩
    have hz2 : ∀ i : Nat,∃ z,i < m→W.cell? (a.add i)=some (.int .i64 z)∧(Lit.int .i64 z).wf=true:=fun i => by
      by_cases h : i < m
      · obtain ⟨z,hz'⟩:=hz i h
        exact ⟨z,fun _ => hz'⟩
      · exact ⟨0,fun h' => absurd h' h⟩
    let g : Nat→Int:=fun i => (hz2 i).choose
    have hg : ∀ i,i < m→W.cell? (a.add i)=some (.int .i64 (g i))∧(Lit.int .i64 (g i)).wf=true:=fun i h => (hz2 i).choose_spec h
    have hlen : ((List.range len).map g).length=len:=by simp
    refine ⟨some a,m,(List.range len).map g,by rw [hlen],by rw [hlen];exact hl,?_,?_,fun N hN => ?_⟩
    · rw [hlen]
      refine Kd.C_of_reads (enc:=Value.int .i64) (d:=(0 : Int)) (h1:=fun _ => rfl) ⟨hlen,Nat.le_trans hl hm,fun _ => ⟨a,rfl,fun j hj => ?_⟩⟩
      rw [(hg j (by omega)).1]
      simp [List.getD_eq_getElem?_getD,List.getElem?_map,List.getElem?_range hj]
    · intro z hz
      obtain ⟨i,hi',rfl⟩:=List.mem_map.1 hz
      exact (hg i (by have:=List.mem_range.1 hi';omega)).2
    · have:=hN ((len + (m - len)) * Try.prog.bytesOf 3) (by rw [hx];simp [DataW.weights,Try.underlying37])
      rw [bytes8] at this
      rw [hlen]
      omega
set_option maxRecDepth 100000 in
/-- One operation. -/
theorem open_opS {fuel : Nat} {cs : List Value} {x : DataW H × List MemPlace} (h : DataW.trod enc Try.prog W 0 (fun _ => true) held fuel 46 cs=some x) :
    ∃ o : Opn,Kd.K k46 W o cs∧(Lit.int .i64 o.f1).wf=true∧cs.length=6∧(∀ N,(∀ n ∈ x.1.weights Try.prog 46,n≤N)→o.f2.length * 8≤N):=by
  obtain ⟨xs,n,-,hxx,hlen,hxl,hf⟩:=DataW.trod_struct Try.underlying46 h
  rw [cells6] at hlen
  match cs,hlen with
  | [u0,u1,u2,u3,u4,u5],_ =>
    have hx : ∀ i,i < 6→∃ y,xs[i]?=some y:=fun i hi => ⟨xs[i]'(by rw [hxl];exact hi),List.getElem?_eq_getElem _⟩
    obtain ⟨y0,hy0⟩:=hx 0 (by decide)
    have h0:=(hf 0 _ rfl).trans hy0
    obtain ⟨y1,hy1⟩:=hx 1 (by decide)
    have h1:=(hf 1 _ rfl).trans hy1
    obtain ⟨y2,hy2⟩:=hx 2 (by decide)
    have h2:=(hf 2 _ rfl).trans hy2
    obtain ⟨y3,hy3⟩:=hx 3 (by decide)
    have h3:=(hf 3 _ rfl).trans hy3
    obtain ⟨y4,hy4⟩:=hx 4 (by decide)
    have h4:=(hf 4 _ rfl).trans hy4
    obtain ⟨y5,hy5⟩:=hx 5 (by decide)
    have h5:=(hf 5 _ rfl).trans hy5
    simp only [List.getElem_toArray,List.getElem_cons_succ,List.getElem_cons_zero,cells1,cells1k,cells1o,cells1s,List.drop_zero,List.drop_succ_cons,List.take_succ_cons,List.take_zero] at h0 h1 h2 h3 h4 h5
    obtain ⟨z0,e0,-,w0⟩:=DataW.trod_int Try.underlying43 h0
    obtain ⟨z1,e1,-,w1⟩:=DataW.trod_int Try.underlying44 h1
    obtain ⟨A,c,zs,e2,hc,hC,-,hN⟩:=open_intsS h2
    obtain ⟨z3,e3,-,w3⟩:=DataW.trod_int Try.underlying3 h3
    obtain ⟨z4,e4,-,w4⟩:=DataW.trod_int Try.underlying3 h4
    obtain ⟨z5,e5,-,w5⟩:=DataW.trod_int Try.underlying3 h5
    cases e0;cases e1;cases e2;cases e3;cases e4;cases e5
    refine ⟨⟨z0,z1,zs,z3,z4,z5⟩,k46_mk W _ hc hC,w1,rfl,fun N hall => hN N fun n hn => hall n ?_⟩
    rw [hxx]
    simp only [DataW.weights,Try.underlying46]
    exact DataW.weights_mem_each (j:=2) (t:=37) (d:=y2.1) rfl (by rw [List.getElem?_map,hy2];rfl) n hn
set_option maxRecDepth 100000 in
/-- A circuit. -/
theorem open_circS {b0 : Nat} {v : Value} {d : DataW H} {p : List MemPlace} (hv : Value.okWide Try.prog W .any b0 24 v) (h : DataW.Trod enc Try.prog W 0 (fun _ => true) held 24 v d p) {N : Nat} (hN : ∀ n ∈ d.weights Try.prog 24,n≤N) :
    ∃ (q b : Int) (A : Option Addr) (c : Nat) (l : List Opn),v=.agg #[.int .i64 q,.int .i64 b,.slice A l.length c]∧l.length≤c∧Kd.C k46 W A l.length l∧WfL l∧l.length * 64≤N∧∀ o ∈ l,o.f2.length * 8≤N:=by
  obtain ⟨v0,v1,v2,y0,y1,y2,n,rfl,hd,-,h0,h1,h2⟩:=open_agg3 Try.underlying24 (by kernel_rfl) (by kernel_rfl) hv h
  have hN2 : ∀ n ∈ y2.1.weights Try.prog 22,n≤N:=fun n hn => hN n (by
    rw [hd]
    simp only [DataW.weights,Try.underlying24]
    exact DataW.weights_mem_each (j:=2) (t:=22) (d:=y2.1) rfl rfl n hn)
  obtain ⟨q,e0,-,-⟩:=DataW.trod_int Try.underlying3 h0
  obtain ⟨b,e1,-,-⟩:=DataW.trod_int Try.underlying3 h1
  cases e0;cases e1
  rcases open_slice Try.underlying22 h2 with ⟨e2,-⟩ | ⟨a,len,cap,m,n',D,Pl,e2,-,hl,hm,hmm,hx,hi⟩
  · cases e2
    exact ⟨q,b,none,0,[],rfl,Nat.le_refl _,Kd.C_nil _ _,by simp [WfL],by simp,by simp⟩
  · cases e2
    rw [if_pos rfl] at hmm
    subst hmm
    rw [cells6] at hi
    have hz2 : ∀ i : Nat,∃ o : Opn,i < m→∃ cs,Kd.K k46 W o cs∧(Lit.int .i64 o.f1).wf=true∧cs.length=6∧(∀ j u,cs[j]?=some u→W.cell? (a.add (i * 6 + j))=some u)∧∀ N,(∀ n ∈ (D i).weights Try.prog 46,n≤N)→o.f2.length * 8≤N:=fun i => by
      by_cases h : i < m
      · obtain ⟨cs',hc,ht⟩:=hi i h
        obtain ⟨o,k1,k2,k3,k4⟩:=open_opS ht
        obtain ⟨-,hcl,hat⟩:=World.cells?_some hc
        refine ⟨o,fun _ => ⟨cs',k1,k2,k3,fun j u hu => ?_,k4⟩⟩
        have hj:=(List.getElem?_eq_some_iff.1 hu).1
        rw [← Go.Deep.add_add,hat j (by omega),hu]
      · exact ⟨z46,fun h' => absurd h' h⟩
    let g : Nat→Opn:=fun i => (hz2 i).choose
    have hg : ∀ i,i < m→∃ cs,Kd.K k46 W (g i) cs∧(Lit.int .i64 (g i).f1).wf=true∧cs.length=6∧(∀ j u,cs[j]?=some u→W.cell? (a.add (i * 6 + j))=some u)∧∀ N,(∀ n ∈ (D i).weights Try.prog 46,n≤N)→(g i).f2.length * 8≤N:=fun i h => (hz2 i).choose_spec h
    have hlen : ((List.range len).map g).length=len:=by simp
    refine ⟨q,b,some a,m,(List.range len).map g,by rw [hlen],by rw [hlen];exact hl,?_,?_,?_,?_⟩
    · rw [hlen]
      refine ⟨hlen,Nat.le_trans hl hm,fun _ => ⟨a,rfl,fun j p hj => ?_⟩⟩
      have hjl:=(List.getElem?_eq_some_iff.1 hj).1
      rw [hlen] at hjl
      have : p=g j:=by
        simp [List.getElem?_map,List.getElem?_range hjl] at hj
        exact hj.symm
      subst this
      obtain ⟨cs,k1,-,k3,k4,-⟩:=hg j (by omega)
      exact ⟨cs,k3,k1,fun i u hu => k4 i u hu⟩
    · intro o ho
      obtain ⟨i,hi',rfl⟩:=List.mem_map.1 ho
      obtain ⟨_,_,k2,_⟩:=hg i (by have:=List.mem_range.1 hi';omega)
      exact k2
    · have:=hN2 ((len + (m - len)) * Try.prog.bytesOf 46) (by rw [hx];simp [DataW.weights,Try.underlying22])
      rw [bytes64] at this
      rw [hlen]
      omega
    · intro o ho
      obtain ⟨i,hi',rfl⟩:=List.mem_map.1 ho
      have hil:=List.mem_range.1 hi'
      obtain ⟨_,_,_,_,_,k5⟩:=hg i (by omega)
      refine k5 N fun n hn => hN2 n ?_
      rw [hx]
      simp only [DataW.weights,Try.underlying22,List.mem_cons,List.mem_append]
      exact .inr (.inl (weights_mem_all (List.mem_map.2 ⟨i,hi',rfl⟩) hn))
end
end Go.Proofs.Ytbelnopbggkdfaa.Q
end
