/- A part of the proof: texts of this claim laid together by a program of its own; what the proof does not use is struck. -/
import Derived.Test.YtbelnopbggkdfaaZS1
import Derived.Lib.SliceRun
import Derived.Lib.Hide
import Derived.RegionTactic
import Derived.BigRegion
import Derived.Deep.Light
import Derived.Deep.LoopGhost
import Derived.Deep.QuietTactic
import Derived.BigQuiet
import Derived.Shelf.Abstract
section
namespace Go.Proofs.Ytbelnopbggkdfaa.Q
open Go.RowKit Go.Proofs.YtbelnopbggkdfaaW.PrintWords Go.Proofs.YtbelnopbggkdfaaW.PrintLast Go.Proofs.YtbelnopbggkdfaaW.PrintMore
attribute [local go_sem] max2_int min2_int max_two min_two max_three min_three max_four min_four   -- for this text's walks alone
set_option linter.unusedVariables false
set_option linter.unusedSimpArgs false
def layers_checked.f (k : Nat) (a0_0 : Int) (a0_1 : Int) (l0_2 : List (S46)) : Option (Int):=(circuit_Check.f k a0_0 a0_1 l0_2).bind fun bt474 => (if bt474.2=0 then (some 0) else (some 80))
set_option maxHeartbeats 8000000 in
set_option maxRecDepth 100000 in
theorem layers_checked.calls (k : Nat) (a0_0 : Int) (a0_1 : Int) (A0_2 : Option Addr) (c0_2 : Nat) (l0_2 : List (S46)) (r : Int) (w : World) (hr0_2 : Kd.C k46 w A0_2 l0_2.length l0_2) (hc0_2 : l0_2.length≤c0_2) (h : layers_checked.f k a0_0 a0_1 l0_2=some r) :
  Calls Try.prog 60 #[.agg #[.int .i64 a0_0,.int .i64 a0_1,.slice A0_2 l0_2.length c0_2]] w fun e w' => e=.returned (.int .i64 r)∧Below w.heap.size w w':=by
 have hu24:=Try.underlying24
 have HR0_2:=Aside0.mk hr0_2
 have HC0_2:=Aside0.mk hc0_2
 clear hr0_2 hc0_2
 have HB:=Aside0.mk (Below.refl w.heap.size w)
 have H : ((circuit_Check.f k a0_0 a0_1 l0_2).bind fun bt474 => (if bt474.2=0 then (some 0) else (some 80)))=some r:=h
 clear h
 replace H:=Option.bind_eq_some_iff.mp H
 obtain ⟨⟨t474,t475⟩,A20,H⟩:=H
 replace H : (if t475=0 then (some 0) else (some 80))=some r:=H
 have A2:=Aside0.mk A20
 clear A20
 by_cases c3 : t475=0
 ·rw [if_pos c3] at H
  have c3b0 : (t475 == 0)=true:=beq_iff_eq.mpr c3
  have c3b1 : (t475 != 0)=false:=bne_eq_false_iff_eq.mpr c3
  clear c3
  obtain rfl:=Option.some.inj H
  go_enter Try.func60,Try.ntmps60
  go_wp2_with (first|((with_reducible refine gate_dst (N:=1) rfl ?_);refine box_event ?hg (N:=1) ?hd (cs:=#[.int .i64 a0_0,.int .i64 a0_1,.slice A0_2 l0_2.length c0_2]) (t:=24) ?hr ?_;(case hd => rfl);(case hg => rfl);(case hr => first|(go_simp;done)|(go_simp;rfl));intro gb473 hg w4 hbox hb;have n0_:=Aside0.mk (below_step (by repeat (first|(with_reducible first|exact HB.out|apply below_alloc|apply pw_below_drewN|apply below_drew1)|exact HB.out)) hb);have n1_:=Aside0.mk (hbox);have n2_:=Aside0.mk ((by rw [hg];exact (below_size (by repeat (first|(with_reducible first|exact HB.out|apply below_alloc|apply pw_below_drewN|apply below_drew1)|exact HB.out))) : w.heap.size≤gb473));have n3_:=Aside0.mk ((by rw [hg];exact (below_size (by repeat (first|(with_reducible first|exact HB.out|apply below_alloc|apply pw_below_drewN|apply below_drew1)|exact HB.out))) : w.heap.size≤gb473));clear HB;have HB:=n0_;have BK473:=n1_;have GW473:=n2_;have GE473:=n3_;clear n0_ n1_ n2_ n3_;clear hb hbox hg;have hcz5_0 : w4.cell? ⟨gb473,0,none⟩=some (.int .i64 a0_0):=(blk_cell BK473.out 0).trans rfl;have hcz5_1 : w4.cell? ⟨gb473,1,none⟩=some (.int .i64 a0_1):=(blk_cell BK473.out 1).trans rfl;have hcz5_2 : w4.cell? ⟨gb473,2,none⟩=some (.slice A0_2 l0_2.length c0_2):=(blk_cell BK473.out 2).trans rfl;have hfz5_0:=blk_frozen BK473.out 0;have hfz5_1:=blk_frozen BK473.out 1;have hfz5_2:=blk_frozen BK473.out 2)|((with_reducible refine gate_callee (f:=75) rfl ?_);refine goesL_ (some 7) rfl rfl Try.func75 (by kernel_rfl) rfl #[.agg #[.int .i64 a0_0,.int .i64 a0_1,.slice A0_2 l0_2.length c0_2]] rfl (by (try simp only [List.map_toArray,List.map_cons,List.map_nil]);first|done|rfl|(simp only [List.length_drop,List.length_take];rfl)) ?_;(with_reducible refine (circuit_Check.calls k a0_0 a0_1 _ _ l0_2 t474 t475 _ ?side1 ?side2 A2.out).mono ?_);(case side1 => repeat (first|exact (Kd.C_below HR0_2.out HB.out)|(with_reducible refine Kd.C_alloc ?_ _)|(with_reducible refine Kd.C_drewN ?_ _)|(with_reducible refine Kd.C_drew ?_)));(case side2 => exact HC0_2.out);rintro e w6 ⟨rfl,hb⟩;refine ⟨_,rfl,?_⟩;have n0_:=Aside0.mk (blk_below (g:=gb473) (o:=.cells #[.int .i64 a0_0,.int .i64 a0_1,.slice A0_2 l0_2.length c0_2] 24 (0,0)) (by (with_reducible repeat (first|refine blk_drewN ?_ _|refine blk_drew ?_|refine blk_alloc ?_ _));exact BK473.out) hb);have n1_:=Aside0.mk (below_step (by repeat (first|(with_reducible first|exact HB.out|apply below_alloc|apply pw_below_drewN|apply below_drew1|refine below_set ?_ GE473.out)|exact HB.out)) hb);clear BK473;clear HB;have BK473:=n0_;have HB:=n1_;clear n0_ n1_;(try clear hb);(try clear hb2);(try clear hk);(try clear hi)))
  go_ret
  exact ⟨by first|rfl|(simp [errW_none,errW_some] <;> rfl)|(simp [*,errW_none,errW_some] <;> rfl),by repeat (first|(with_reducible first|exact HB.out|apply below_alloc|apply pw_below_drewN|apply below_drew1|refine below_set ?_ GE473.out)|exact HB.out)⟩
 ·rw [if_neg c3] at H
  have c3b0 : (t475 == 0)=false:=beq_eq_false_iff_ne.mpr c3
  have c3b1 : (t475 != 0)=true:=bne_iff_ne.mpr c3
  obtain rfl:=Option.some.inj H
  go_enter Try.func60,Try.ntmps60
  go_wp2_with (first|((with_reducible refine gate_dst (N:=1) rfl ?_);refine box_event ?hg (N:=1) ?hd (cs:=#[.int .i64 a0_0,.int .i64 a0_1,.slice A0_2 l0_2.length c0_2]) (t:=24) ?hr ?_;(case hd => rfl);(case hg => rfl);(case hr => first|(go_simp;done)|(go_simp;rfl));intro gb473 hg w7 hbox hb;have n0_:=Aside0.mk (below_step (by repeat (first|(with_reducible first|exact HB.out|apply below_alloc|apply pw_below_drewN|apply below_drew1)|exact HB.out)) hb);have n1_:=Aside0.mk (hbox);have n2_:=Aside0.mk ((by rw [hg];exact (below_size (by repeat (first|(with_reducible first|exact HB.out|apply below_alloc|apply pw_below_drewN|apply below_drew1)|exact HB.out))) : w.heap.size≤gb473));have n3_:=Aside0.mk ((by rw [hg];exact (below_size (by repeat (first|(with_reducible first|exact HB.out|apply below_alloc|apply pw_below_drewN|apply below_drew1)|exact HB.out))) : w.heap.size≤gb473));clear HB;have HB:=n0_;have BK473:=n1_;have GW473:=n2_;have GE473:=n3_;clear n0_ n1_ n2_ n3_;clear hb hbox hg;have hcz8_0 : w7.cell? ⟨gb473,0,none⟩=some (.int .i64 a0_0):=(blk_cell BK473.out 0).trans rfl;have hcz8_1 : w7.cell? ⟨gb473,1,none⟩=some (.int .i64 a0_1):=(blk_cell BK473.out 1).trans rfl;have hcz8_2 : w7.cell? ⟨gb473,2,none⟩=some (.slice A0_2 l0_2.length c0_2):=(blk_cell BK473.out 2).trans rfl;have hfz8_0:=blk_frozen BK473.out 0;have hfz8_1:=blk_frozen BK473.out 1;have hfz8_2:=blk_frozen BK473.out 2)|((with_reducible refine gate_callee (f:=75) rfl ?_);refine goesL_ (some 7) rfl rfl Try.func75 (by kernel_rfl) rfl #[.agg #[.int .i64 a0_0,.int .i64 a0_1,.slice A0_2 l0_2.length c0_2]] rfl (by (try simp only [List.map_toArray,List.map_cons,List.map_nil]);first|done|rfl|(simp only [List.length_drop,List.length_take];rfl)) ?_;(with_reducible refine (circuit_Check.calls k a0_0 a0_1 _ _ l0_2 t474 t475 _ ?side1 ?side2 A2.out).mono ?_);(case side1 => repeat (first|exact (Kd.C_below HR0_2.out HB.out)|(with_reducible refine Kd.C_alloc ?_ _)|(with_reducible refine Kd.C_drewN ?_ _)|(with_reducible refine Kd.C_drew ?_)));(case side2 => exact HC0_2.out);rintro e w9 ⟨rfl,hb⟩;refine ⟨_,rfl,?_⟩;have n0_:=Aside0.mk (blk_below (g:=gb473) (o:=.cells #[.int .i64 a0_0,.int .i64 a0_1,.slice A0_2 l0_2.length c0_2] 24 (0,0)) (by (with_reducible repeat (first|refine blk_drewN ?_ _|refine blk_drew ?_|refine blk_alloc ?_ _));exact BK473.out) hb);have n1_:=Aside0.mk (below_step (by repeat (first|(with_reducible first|exact HB.out|apply below_alloc|apply pw_below_drewN|apply below_drew1|refine below_set ?_ GE473.out)|exact HB.out)) hb);clear BK473;clear HB;have BK473:=n0_;have HB:=n1_;clear n0_ n1_;(try clear hb);(try clear hb2);(try clear hk);(try clear hi)))
  go_ret
  exact ⟨by first|rfl|(simp [errW_none,errW_some] <;> rfl)|(simp [*,errW_none,errW_some] <;> rfl),by repeat (first|(with_reducible first|exact HB.out|apply below_alloc|apply pw_below_drewN|apply below_drew1|refine below_set ?_ GE473.out)|exact HB.out)⟩
end Go.Proofs.Ytbelnopbggkdfaa.Q
end

section
namespace Go.Proofs.Ytbelnopbggkdfaa.Q
open Go.RowKit Go.Proofs.YtbelnopbggkdfaaW.PrintWords Go.Proofs.YtbelnopbggkdfaaW.PrintLast Go.Proofs.YtbelnopbggkdfaaW.PrintMore
attribute [local go_sem] max2_int min2_int max_two min_two max_three min_three max_four min_four   -- for this text's walks alone
set_option linter.unusedVariables false
set_option linter.unusedSimpArgs false
def slices_Clone_int_int.f (l0 : List Int) : Option (List Int):=if l0.length < 17592186044416 then some l0 else none
set_option maxHeartbeats 1000000 in
set_option maxRecDepth 100000 in
theorem slices_Clone_int_int.calls (A0 : Option Addr) (c0 : Nat) (l0 : List Int) (r : List Int) (w : World) (hr0 : Kd.C (Kd.int .i64) w A0 l0.length l0) (hc0 : l0.length≤c0) (h : slices_Clone_int_int.f l0=some r) :
  Calls Try.prog 50 #[.slice A0 l0.length c0] w fun e w' => ∃ v0_ : Value,e=.returned (v0_)∧Kd.R (Kd.int .i64) 3 w' w.heap.size (fun _ => True) v0_ r∧Below w.heap.size w w':=by
 unfold slices_Clone_int_int.f at h
 split at h
 ·rename_i hlen
  have LM:=Aside0.mk hlen
  clear hlen
  obtain rfl:=Option.some.inj h
  clear h
  cases A0 with
  | none =>
   obtain rfl : l0=[]:=by
    cases l0 with
    | nil => rfl
    | cons x xs =>
     obtain ⟨ad,e,_⟩:=hr0.2.2 (by simp)
     cases e
   clear hr0 hc0 LM
   have he:=fun W : World => Lib.run_eql_slice_nil (P:=Try.prog) W 37 3 none 0 c0 0 0 Try.underlying37
   simp only [Option.isNone_none] at he
   go_enter Try.func50,Try.ntmps50
   go_wp2
   go_ret
   exact ⟨_,rfl,Kd.R_nil _ _ _ _ _,Below.refl _ _⟩
  | some ad =>
   have HR0:=Aside0.mk hr0
   clear hr0 hc0
   have he:=fun W : World => Lib.run_eql_slice_nil (P:=Try.prog) W 37 3 (some ad) l0.length c0 0 0 Try.underlying37
   simp only [Option.isNone_some] at he
   have HB:=Aside0.mk (Below.refl w.heap.size w)
   go_enter Try.func50,Try.ntmps50
   go_wp2_with (first
    | ((with_reducible refine gate_dst (N:=5) rfl ?_);refine Kd.R_lit (Kd.int .i64) _ 3 ?hg (N:=5) ?hd (xs:=([] : List Int)) (inner:=[]) (ok:=fun _ => True) (okp:=fun _ => True) ?hr ?hp (fun _ hk => hk) trivial (Below.refl _ _) (Nat.le_refl _) (by simp) ?_;(case hd => rfl);(case hg => rfl);(case hr => first|(go_simp;done)|(go_simp;rfl));(case hp => exact (Reps.none _ _));intro v5 w5 ho5 hb hg_ hnew_;clear hg_ hnew_;have HO5:=Aside0.mk (Kd.R_lower ho5 HB.out.size);have n0_:=Aside0.mk (below_step HB.out hb);clear HB;have HB:=n0_;clear n0_ hb ho5)
    | ((with_reducible refine gate_builtin (b:=.append) (xs:=#[.tmp 5,.tmp 6]) rfl ?_);at_builtin;refine Kd.R_append_rows (Kd.int .i64) (w0:=w) w.heap.size rfl (.tmp 5) (.tmp 6) 37 3 (.int .i64 0) 8 rfl Try.underlying37 info3 rfl (by decide) (by omega) v5 [] l0 _ _ _ (fun _ => True) (fun _ => False) rfl rfl HO5.out (Kd.C_below HR0.out HB.out) (fun _ _ h => h) (fun _ h => h.elim) (fun _ _ => trivial) HB.out HB.out.size (by have:=LM.out;simp;omega) ?_;intro v7 w7 ho hb hg hat;rw [List.nil_append] at ho;have HO7:=Aside0.mk ho;have n0_:=Aside0.mk hb;clear HB HO5;have HB:=n0_;clear n0_ ho hb hg hat))
   go_ret
   exact ⟨_,rfl,HO7.out,HB.out⟩
 ·cases h
end Go.Proofs.Ytbelnopbggkdfaa.Q
end

section
namespace Go.Proofs.Ytbelnopbggkdfaa.Q
open Go.RowKit Go.Proofs.YtbelnopbggkdfaaW.PrintWords Go.Proofs.YtbelnopbggkdfaaW.PrintLast Go.Proofs.YtbelnopbggkdfaaW.PrintMore
attribute [local go_sem] max2_int min2_int max_two min_two max_three min_three max_four min_four   -- for this text's walks alone
set_option linter.unusedVariables false
set_option linter.unusedSimpArgs false
def layers_wires.f (a0_0 : Int) (a0_1 : Int) (l0_2 : List Int) (a0_3 : Int) (a0_4 : Int) (a0_5 : Int) : Option (List Int):=(slices_Clone_int_int.f l0_2).bind fun t477 => (if a0_0=2 then (if t477.length < 17592186044416 then ((some (t477 ++ [wrap64 (64 + a0_3)] : List Int)).bind fun y480 => (if a0_4 ≥ 0 then (if y480.length < 17592186044416 then (some (y480 ++ [wrap64 (64 + a0_4)])) else (none)) else (some y480))) else (none)) else (if a0_4 ≥ 0 then (if t477.length < 17592186044416 then (some (t477 ++ [wrap64 (64 + a0_4)])) else (none)) else (some t477)))
set_option maxHeartbeats 8000000 in
set_option maxRecDepth 100000 in
theorem layers_wires.calls (a0_0 : Int) (a0_1 : Int) (A0_2 : Option Addr) (c0_2 : Nat) (l0_2 : List Int) (a0_3 : Int) (a0_4 : Int) (a0_5 : Int) (r : List Int) (w : World) (hr0_2 : Kd.C (Kd.int .i64) w A0_2 l0_2.length l0_2) (hc0_2 : l0_2.length≤c0_2) (h : layers_wires.f a0_0 a0_1 l0_2 a0_3 a0_4 a0_5=some r) :
  Calls Try.prog 62 #[.agg #[.int .i64 a0_0,.int .i64 a0_1,.slice A0_2 l0_2.length c0_2,.int .i64 a0_3,.int .i64 a0_4,.int .i64 a0_5]] w fun e w' => ∃ v0_ : Value,e=.returned (v0_)∧Kd.R (Kd.int .i64) 3 w' w.heap.size (fun _ => True) v0_ r∧Below w.heap.size w w':=by
 have hu46:=Try.underlying46
 have HR0_2:=Aside0.mk hr0_2
 have HC0_2:=Aside0.mk hc0_2
 clear hr0_2 hc0_2
 have HB:=Aside0.mk (Below.refl w.heap.size w)
 have H : ((slices_Clone_int_int.f l0_2).bind fun t477 => (if a0_0=2 then (if t477.length < 17592186044416 then ((some (t477 ++ [wrap64 (64 + a0_3)] : List Int)).bind fun y480 => (if a0_4 ≥ 0 then (if y480.length < 17592186044416 then (some (y480 ++ [wrap64 (64 + a0_4)])) else (none)) else (some y480))) else (none)) else (if a0_4 ≥ 0 then (if t477.length < 17592186044416 then (some (t477 ++ [wrap64 (64 + a0_4)])) else (none)) else (some t477))))=some r:=h
 clear h
 replace H:=Option.bind_eq_some_iff.mp H
 obtain ⟨t477,A20,H⟩:=H
 replace H : (if a0_0=2 then (if t477.length < 17592186044416 then ((some (t477 ++ [wrap64 (64 + a0_3)] : List Int)).bind fun y480 => (if a0_4 ≥ 0 then (if y480.length < 17592186044416 then (some (y480 ++ [wrap64 (64 + a0_4)])) else (none)) else (some y480))) else (none)) else (if a0_4 ≥ 0 then (if t477.length < 17592186044416 then (some (t477 ++ [wrap64 (64 + a0_4)])) else (none)) else (some t477)))=some r:=H
 have A2:=Aside0.mk A20
 clear A20
 by_cases c3 : a0_0=2
 ·rw [if_pos c3] at H
  have c3b0 : (a0_0 == 2)=true:=beq_iff_eq.mpr c3
  have c3b1 : (a0_0 != 2)=false:=bne_eq_false_iff_eq.mpr c3
  clear c3
  by_cases c4 : t477.length < 17592186044416
  ·rw [if_pos c4] at H
   have LMc4:=Aside0.mk c4
   clear c4
   obtain ⟨y480,hy480⟩ : ∃ y_ : List Int,y_=(t477 ++ [wrap64 (64 + a0_3)]):=⟨_,rfl⟩
   replace H : (if a0_4 ≥ 0 then (if y480.length < 17592186044416 then (some (y480 ++ [wrap64 (64 + a0_4)])) else (none)) else (some y480))=some r:=by first|(rw [hy480];with_reducible exact H)|(have H2_:=(Option.bind_some _ _).symm.trans H;rw [hy480];with_reducible exact H2_)|(have H2_:=(Option.bind_some _ _).symm.trans H;with_reducible exact H2_)|with_reducible exact H|(rw [hy480];exact H)|exact H
   have Ny480:=Aside0.mk hy480
   clear hy480
   by_cases c5 : a0_4 ≥ 0
   ·rw [if_pos c5] at H
    have c5b0 : decide (0≤a0_4)=true:=decide_eq_true c5
    clear c5
    by_cases c6 : y480.length < 17592186044416
    ·rw [if_pos c6] at H
     have LMc6:=Aside0.mk c6
     clear c6
     obtain ⟨y483,hy483⟩ : ∃ y_ : List Int,y_=(y480 ++ [wrap64 (64 + a0_4)]):=⟨_,rfl⟩
     replace H : (some y483)=some r:=by first|(rw [hy483];with_reducible exact H)|(have H2_:=(Option.bind_some _ _).symm.trans H;rw [hy483];with_reducible exact H2_)|(have H2_:=(Option.bind_some _ _).symm.trans H;with_reducible exact H2_)|with_reducible exact H|(rw [hy483];exact H)|exact H
     have Ny483:=Aside0.mk hy483
     clear hy483
     obtain rfl:=Option.some.inj H
     go_enter Try.func62,Try.ntmps62
     go_wp2_with (first|((with_reducible refine gate_dst (N:=1) rfl ?_);refine box_event ?hg (N:=1) ?hd (cs:=#[.int .i64 a0_0,.int .i64 a0_1,.slice A0_2 l0_2.length c0_2,.int .i64 a0_3,.int .i64 a0_4,.int .i64 a0_5]) (t:=46) ?hr ?_;(case hd => rfl);(case hg => rfl);(case hr => first|(go_simp;done)|(go_simp;rfl));intro gb476 hg w7 hbox hb;have n0_:=Aside0.mk (below_step (by repeat (first|(with_reducible first|exact HB.out|apply below_alloc|apply pw_below_drewN|apply below_drew1)|exact HB.out)) hb);have n1_:=Aside0.mk (hbox);have n2_:=Aside0.mk ((by rw [hg];exact (below_size (by repeat (first|(with_reducible first|exact HB.out|apply below_alloc|apply pw_below_drewN|apply below_drew1)|exact HB.out))) : w.heap.size≤gb476));have n3_:=Aside0.mk ((by rw [hg];exact (below_size (by repeat (first|(with_reducible first|exact HB.out|apply below_alloc|apply pw_below_drewN|apply below_drew1)|exact HB.out))) : w.heap.size≤gb476));clear HB;have HB:=n0_;have BK476:=n1_;have GW476:=n2_;have GE476:=n3_;clear n0_ n1_ n2_ n3_;clear hb hbox hg;have hcz8_0 : w7.cell? ⟨gb476,0,none⟩=some (.int .i64 a0_0):=(blk_cell BK476.out 0).trans rfl;have hcz8_1 : w7.cell? ⟨gb476,1,none⟩=some (.int .i64 a0_1):=(blk_cell BK476.out 1).trans rfl;have hcz8_2 : w7.cell? ⟨gb476,2,none⟩=some (.slice A0_2 l0_2.length c0_2):=(blk_cell BK476.out 2).trans rfl;have hcz8_3 : w7.cell? ⟨gb476,3,none⟩=some (.int .i64 a0_3):=(blk_cell BK476.out 3).trans rfl;have hcz8_4 : w7.cell? ⟨gb476,4,none⟩=some (.int .i64 a0_4):=(blk_cell BK476.out 4).trans rfl;have hcz8_5 : w7.cell? ⟨gb476,5,none⟩=some (.int .i64 a0_5):=(blk_cell BK476.out 5).trans rfl;have hfz8_0:=blk_frozen BK476.out 0;have hfz8_1:=blk_frozen BK476.out 1;have hfz8_2:=blk_frozen BK476.out 2;have hfz8_3:=blk_frozen BK476.out 3;have hfz8_4:=blk_frozen BK476.out 4;have hfz8_5:=blk_frozen BK476.out 5)|((with_reducible refine gate_callee (f:=50) rfl ?_);refine goesL_ (some 6) rfl rfl Try.func50 (by kernel_rfl) rfl #[.slice A0_2 l0_2.length c0_2] rfl (by (try simp only [List.map_toArray,List.map_cons,List.map_nil]);first|done|rfl|(simp only [List.length_drop,List.length_take];rfl)) ?_;(with_reducible refine (slices_Clone_int_int.calls _ _ l0_2 t477 _ ?side1 ?side2 A2.out).mono ?_);(case side1 => repeat (first|exact (Kd.C_below HR0_2.out HB.out)|(with_reducible refine Kd.C_alloc ?_ _)|(with_reducible refine Kd.C_drewN ?_ _)|(with_reducible refine Kd.C_drew ?_)));(case side2 => exact HC0_2.out);rintro e w9 ⟨v478,rfl,ho0,hb⟩;refine ⟨_,rfl,?_⟩;have n0_:=Aside0.mk (Kd.R_lower ho0 (below_size (by repeat (first|(with_reducible first|exact HB.out|apply below_alloc|apply pw_below_drewN|apply below_drew1|refine below_set ?_ GE476.out)|exact HB.out))));have n1_:=Aside0.mk (blk_below (g:=gb476) (o:=.cells #[.int .i64 a0_0,.int .i64 a0_1,.slice A0_2 l0_2.length c0_2,.int .i64 a0_3,.int .i64 a0_4,.int .i64 a0_5] 46 (0,0)) (by (with_reducible repeat (first|refine blk_drewN ?_ _|refine blk_drew ?_|refine blk_alloc ?_ _));exact BK476.out) hb);have n2_:=Aside0.mk (below_step (by repeat (first|(with_reducible first|exact HB.out|apply below_alloc|apply pw_below_drewN|apply below_drew1|refine below_set ?_ GE476.out)|exact HB.out)) hb);clear BK476;clear HB;have HO479:=n0_;have BK476:=n1_;have HB:=n2_;clear n0_ n1_ n2_;(try clear hb);(try clear hb2);(try clear hk);(try clear hi);(try clear ho0);have hcz10_0 : w9.cell? ⟨gb476,0,none⟩=some (.int .i64 a0_0):=(blk_cell BK476.out 0).trans rfl;have hcz10_1 : w9.cell? ⟨gb476,1,none⟩=some (.int .i64 a0_1):=(blk_cell BK476.out 1).trans rfl;have hcz10_2 : w9.cell? ⟨gb476,2,none⟩=some (.slice A0_2 l0_2.length c0_2):=(blk_cell BK476.out 2).trans rfl;have hcz10_3 : w9.cell? ⟨gb476,3,none⟩=some (.int .i64 a0_3):=(blk_cell BK476.out 3).trans rfl;have hcz10_4 : w9.cell? ⟨gb476,4,none⟩=some (.int .i64 a0_4):=(blk_cell BK476.out 4).trans rfl;have hcz10_5 : w9.cell? ⟨gb476,5,none⟩=some (.int .i64 a0_5):=(blk_cell BK476.out 5).trans rfl;have hfz10_0:=blk_frozen BK476.out 0;have hfz10_1:=blk_frozen BK476.out 1;have hfz10_2:=blk_frozen BK476.out 2;have hfz10_3:=blk_frozen BK476.out 3;have hfz10_4:=blk_frozen BK476.out 4;have hfz10_5:=blk_frozen BK476.out 5)|((with_reducible refine gate_builtin (b:=.append) (xs:=#[.tmp 10,.tmp 14]) rfl ?_);at_builtin;refine Kd.R_append (Kd.int .i64) (w0:=w) w.heap.size rfl (.tmp 10) (.tmp 14) 37 3 (.int .i64 0) 8 rfl Try.underlying37 info3 rfl (by decide) (by omega) v478 t477 (wrap64 (64 + a0_3)) [.int .i64 (wrap64 (64 + a0_3))] (fun _ => True) (fun _ => False) rfl rfl ?aP (fun _ hk => hk.elim) ?aF ?aO ?aB ?aS ?aL ?_;(case aP => exact rfl);(case aB => exact (by repeat (first|(with_reducible first|exact HB.out|apply below_alloc|apply pw_below_drewN|apply below_drew1|refine below_set ?_ GE476.out)|exact HB.out)));(case aF => exact (fun _ _ => trivial));(case aO => exact (by (with_reducible repeat (first|apply Kd.R_alloc|apply Kd.R_drewN|apply Kd.R_drew));exact HO479.out));(case aS => exact (below_size (by repeat (first|(with_reducible first|exact HB.out|apply below_alloc|apply pw_below_drewN|apply below_drew1|refine below_set ?_ GE476.out)|exact HB.out))));(case aL => have:=LMc4.out;omega);intro v481 w11 ho hb hg hat;rw [← Ny480.out] at ho;have n0_:=Aside0.mk (blk_grown (g:=gb476) (o:=.cells #[.int .i64 a0_0,.int .i64 a0_1,.slice A0_2 l0_2.length c0_2,.int .i64 a0_3,.int .i64 a0_4,.int .i64 a0_5] 46 (0,0)) (by (with_reducible repeat (first|refine blk_drewN ?_ _|refine blk_drew ?_|refine blk_alloc ?_ _));exact BK476.out) hg (Kd.R_ne HO479.out BK476.out (by decide)));have n1_:=Aside0.mk (hb);have n2_:=Aside0.mk (ho);clear BK476;clear HB;clear HO479;have BK476:=n0_;have HB:=n1_;have HO482:=n2_;clear n0_ n1_ n2_;clear ho hb hg hat;have hcz12_0 : w11.cell? ⟨gb476,0,none⟩=some (.int .i64 a0_0):=(blk_cell BK476.out 0).trans rfl;have hcz12_1 : w11.cell? ⟨gb476,1,none⟩=some (.int .i64 a0_1):=(blk_cell BK476.out 1).trans rfl;have hcz12_2 : w11.cell? ⟨gb476,2,none⟩=some (.slice A0_2 l0_2.length c0_2):=(blk_cell BK476.out 2).trans rfl;have hcz12_3 : w11.cell? ⟨gb476,3,none⟩=some (.int .i64 a0_3):=(blk_cell BK476.out 3).trans rfl;have hcz12_4 : w11.cell? ⟨gb476,4,none⟩=some (.int .i64 a0_4):=(blk_cell BK476.out 4).trans rfl;have hcz12_5 : w11.cell? ⟨gb476,5,none⟩=some (.int .i64 a0_5):=(blk_cell BK476.out 5).trans rfl;have hfz12_0:=blk_frozen BK476.out 0;have hfz12_1:=blk_frozen BK476.out 1;have hfz12_2:=blk_frozen BK476.out 2;have hfz12_3:=blk_frozen BK476.out 3;have hfz12_4:=blk_frozen BK476.out 4;have hfz12_5:=blk_frozen BK476.out 5)|((with_reducible refine gate_builtin (b:=.append) (xs:=#[.tmp 19,.tmp 23]) rfl ?_);at_builtin;refine Kd.R_append (Kd.int .i64) (w0:=w) w.heap.size rfl (.tmp 19) (.tmp 23) 37 3 (.int .i64 0) 8 rfl Try.underlying37 info3 rfl (by decide) (by omega) v481 y480 (wrap64 (64 + a0_4)) [.int .i64 (wrap64 (64 + a0_4))] (fun _ => True) (fun _ => False) rfl rfl ?aP (fun _ hk => hk.elim) ?aF ?aO ?aB ?aS ?aL ?_;(case aP => exact rfl);(case aB => exact (by repeat (first|(with_reducible first|exact HB.out|apply below_alloc|apply pw_below_drewN|apply below_drew1|refine below_set ?_ GE476.out)|exact HB.out)));(case aF => exact (fun _ _ => trivial));(case aO => exact (by (with_reducible repeat (first|apply Kd.R_alloc|apply Kd.R_drewN|apply Kd.R_drew));exact HO482.out));(case aS => exact (below_size (by repeat (first|(with_reducible first|exact HB.out|apply below_alloc|apply pw_below_drewN|apply below_drew1|refine below_set ?_ GE476.out)|exact HB.out))));(case aL => have:=LMc6.out;omega);intro v484 w13 ho hb hg hat;rw [← Ny483.out] at ho;have n0_:=Aside0.mk (blk_grown (g:=gb476) (o:=.cells #[.int .i64 a0_0,.int .i64 a0_1,.slice A0_2 l0_2.length c0_2,.int .i64 a0_3,.int .i64 a0_4,.int .i64 a0_5] 46 (0,0)) (by (with_reducible repeat (first|refine blk_drewN ?_ _|refine blk_drew ?_|refine blk_alloc ?_ _));exact BK476.out) hg (Kd.R_ne HO482.out BK476.out (by decide)));have n1_:=Aside0.mk (hb);have n2_:=Aside0.mk (ho);clear BK476;clear HB;clear HO482;have BK476:=n0_;have HB:=n1_;have HO485:=n2_;clear n0_ n1_ n2_;clear ho hb hg hat))
     go_ret
     exact ⟨_,by first|rfl|(simp [errW_none,errW_some] <;> rfl)|(simp [*,errW_none,errW_some] <;> rfl),by (with_reducible repeat (first|apply Kd.R_alloc|apply Kd.R_drewN|apply Kd.R_drew));exact HO485.out,by repeat (first|(with_reducible first|exact HB.out|apply below_alloc|apply pw_below_drewN|apply below_drew1|refine below_set ?_ GE476.out)|exact HB.out)⟩
    ·rw [if_neg c6] at H
     exact absurd H (by simp)
   ·rw [if_neg c5] at H
    have c5b0 : decide (0≤a0_4)=false:=decide_eq_false c5
    clear c5
    obtain rfl:=Option.some.inj H
    go_enter Try.func62,Try.ntmps62
    go_wp2_with (first|((with_reducible refine gate_dst (N:=1) rfl ?_);refine box_event ?hg (N:=1) ?hd (cs:=#[.int .i64 a0_0,.int .i64 a0_1,.slice A0_2 l0_2.length c0_2,.int .i64 a0_3,.int .i64 a0_4,.int .i64 a0_5]) (t:=46) ?hr ?_;(case hd => rfl);(case hg => rfl);(case hr => first|(go_simp;done)|(go_simp;rfl));intro gb476 hg w14 hbox hb;have n0_:=Aside0.mk (below_step (by repeat (first|(with_reducible first|exact HB.out|apply below_alloc|apply pw_below_drewN|apply below_drew1)|exact HB.out)) hb);have n1_:=Aside0.mk (hbox);have n2_:=Aside0.mk ((by rw [hg];exact (below_size (by repeat (first|(with_reducible first|exact HB.out|apply below_alloc|apply pw_below_drewN|apply below_drew1)|exact HB.out))) : w.heap.size≤gb476));have n3_:=Aside0.mk ((by rw [hg];exact (below_size (by repeat (first|(with_reducible first|exact HB.out|apply below_alloc|apply pw_below_drewN|apply below_drew1)|exact HB.out))) : w.heap.size≤gb476));clear HB;have HB:=n0_;have BK476:=n1_;have GW476:=n2_;have GE476:=n3_;clear n0_ n1_ n2_ n3_;clear hb hbox hg;have hcz15_0 : w14.cell? ⟨gb476,0,none⟩=some (.int .i64 a0_0):=(blk_cell BK476.out 0).trans rfl;have hcz15_1 : w14.cell? ⟨gb476,1,none⟩=some (.int .i64 a0_1):=(blk_cell BK476.out 1).trans rfl;have hcz15_2 : w14.cell? ⟨gb476,2,none⟩=some (.slice A0_2 l0_2.length c0_2):=(blk_cell BK476.out 2).trans rfl;have hcz15_3 : w14.cell? ⟨gb476,3,none⟩=some (.int .i64 a0_3):=(blk_cell BK476.out 3).trans rfl;have hcz15_4 : w14.cell? ⟨gb476,4,none⟩=some (.int .i64 a0_4):=(blk_cell BK476.out 4).trans rfl;have hcz15_5 : w14.cell? ⟨gb476,5,none⟩=some (.int .i64 a0_5):=(blk_cell BK476.out 5).trans rfl;have hfz15_0:=blk_frozen BK476.out 0;have hfz15_1:=blk_frozen BK476.out 1;have hfz15_2:=blk_frozen BK476.out 2;have hfz15_3:=blk_frozen BK476.out 3;have hfz15_4:=blk_frozen BK476.out 4;have hfz15_5:=blk_frozen BK476.out 5)|((with_reducible refine gate_callee (f:=50) rfl ?_);refine goesL_ (some 6) rfl rfl Try.func50 (by kernel_rfl) rfl #[.slice A0_2 l0_2.length c0_2] rfl (by (try simp only [List.map_toArray,List.map_cons,List.map_nil]);first|done|rfl|(simp only [List.length_drop,List.length_take];rfl)) ?_;(with_reducible refine (slices_Clone_int_int.calls _ _ l0_2 t477 _ ?side1 ?side2 A2.out).mono ?_);(case side1 => repeat (first|exact (Kd.C_below HR0_2.out HB.out)|(with_reducible refine Kd.C_alloc ?_ _)|(with_reducible refine Kd.C_drewN ?_ _)|(with_reducible refine Kd.C_drew ?_)));(case side2 => exact HC0_2.out);rintro e w16 ⟨v478,rfl,ho0,hb⟩;refine ⟨_,rfl,?_⟩;have n0_:=Aside0.mk (Kd.R_lower ho0 (below_size (by repeat (first|(with_reducible first|exact HB.out|apply below_alloc|apply pw_below_drewN|apply below_drew1|refine below_set ?_ GE476.out)|exact HB.out))));have n1_:=Aside0.mk (blk_below (g:=gb476) (o:=.cells #[.int .i64 a0_0,.int .i64 a0_1,.slice A0_2 l0_2.length c0_2,.int .i64 a0_3,.int .i64 a0_4,.int .i64 a0_5] 46 (0,0)) (by (with_reducible repeat (first|refine blk_drewN ?_ _|refine blk_drew ?_|refine blk_alloc ?_ _));exact BK476.out) hb);have n2_:=Aside0.mk (below_step (by repeat (first|(with_reducible first|exact HB.out|apply below_alloc|apply pw_below_drewN|apply below_drew1|refine below_set ?_ GE476.out)|exact HB.out)) hb);clear BK476;clear HB;have HO479:=n0_;have BK476:=n1_;have HB:=n2_;clear n0_ n1_ n2_;(try clear hb);(try clear hb2);(try clear hk);(try clear hi);(try clear ho0);have hcz17_0 : w16.cell? ⟨gb476,0,none⟩=some (.int .i64 a0_0):=(blk_cell BK476.out 0).trans rfl;have hcz17_1 : w16.cell? ⟨gb476,1,none⟩=some (.int .i64 a0_1):=(blk_cell BK476.out 1).trans rfl;have hcz17_2 : w16.cell? ⟨gb476,2,none⟩=some (.slice A0_2 l0_2.length c0_2):=(blk_cell BK476.out 2).trans rfl;have hcz17_3 : w16.cell? ⟨gb476,3,none⟩=some (.int .i64 a0_3):=(blk_cell BK476.out 3).trans rfl;have hcz17_4 : w16.cell? ⟨gb476,4,none⟩=some (.int .i64 a0_4):=(blk_cell BK476.out 4).trans rfl;have hcz17_5 : w16.cell? ⟨gb476,5,none⟩=some (.int .i64 a0_5):=(blk_cell BK476.out 5).trans rfl;have hfz17_0:=blk_frozen BK476.out 0;have hfz17_1:=blk_frozen BK476.out 1;have hfz17_2:=blk_frozen BK476.out 2;have hfz17_3:=blk_frozen BK476.out 3;have hfz17_4:=blk_frozen BK476.out 4;have hfz17_5:=blk_frozen BK476.out 5)|((with_reducible refine gate_builtin (b:=.append) (xs:=#[.tmp 10,.tmp 14]) rfl ?_);at_builtin;refine Kd.R_append (Kd.int .i64) (w0:=w) w.heap.size rfl (.tmp 10) (.tmp 14) 37 3 (.int .i64 0) 8 rfl Try.underlying37 info3 rfl (by decide) (by omega) v478 t477 (wrap64 (64 + a0_3)) [.int .i64 (wrap64 (64 + a0_3))] (fun _ => True) (fun _ => False) rfl rfl ?aP (fun _ hk => hk.elim) ?aF ?aO ?aB ?aS ?aL ?_;(case aP => exact rfl);(case aB => exact (by repeat (first|(with_reducible first|exact HB.out|apply below_alloc|apply pw_below_drewN|apply below_drew1|refine below_set ?_ GE476.out)|exact HB.out)));(case aF => exact (fun _ _ => trivial));(case aO => exact (by (with_reducible repeat (first|apply Kd.R_alloc|apply Kd.R_drewN|apply Kd.R_drew));exact HO479.out));(case aS => exact (below_size (by repeat (first|(with_reducible first|exact HB.out|apply below_alloc|apply pw_below_drewN|apply below_drew1|refine below_set ?_ GE476.out)|exact HB.out))));(case aL => have:=LMc4.out;omega);intro v481 w18 ho hb hg hat;rw [← Ny480.out] at ho;have n0_:=Aside0.mk (blk_grown (g:=gb476) (o:=.cells #[.int .i64 a0_0,.int .i64 a0_1,.slice A0_2 l0_2.length c0_2,.int .i64 a0_3,.int .i64 a0_4,.int .i64 a0_5] 46 (0,0)) (by (with_reducible repeat (first|refine blk_drewN ?_ _|refine blk_drew ?_|refine blk_alloc ?_ _));exact BK476.out) hg (Kd.R_ne HO479.out BK476.out (by decide)));have n1_:=Aside0.mk (hb);have n2_:=Aside0.mk (ho);clear BK476;clear HB;clear HO479;have BK476:=n0_;have HB:=n1_;have HO482:=n2_;clear n0_ n1_ n2_;clear ho hb hg hat;have hcz19_0 : w18.cell? ⟨gb476,0,none⟩=some (.int .i64 a0_0):=(blk_cell BK476.out 0).trans rfl;have hcz19_1 : w18.cell? ⟨gb476,1,none⟩=some (.int .i64 a0_1):=(blk_cell BK476.out 1).trans rfl;have hcz19_2 : w18.cell? ⟨gb476,2,none⟩=some (.slice A0_2 l0_2.length c0_2):=(blk_cell BK476.out 2).trans rfl;have hcz19_3 : w18.cell? ⟨gb476,3,none⟩=some (.int .i64 a0_3):=(blk_cell BK476.out 3).trans rfl;have hcz19_4 : w18.cell? ⟨gb476,4,none⟩=some (.int .i64 a0_4):=(blk_cell BK476.out 4).trans rfl;have hcz19_5 : w18.cell? ⟨gb476,5,none⟩=some (.int .i64 a0_5):=(blk_cell BK476.out 5).trans rfl;have hfz19_0:=blk_frozen BK476.out 0;have hfz19_1:=blk_frozen BK476.out 1;have hfz19_2:=blk_frozen BK476.out 2;have hfz19_3:=blk_frozen BK476.out 3;have hfz19_4:=blk_frozen BK476.out 4;have hfz19_5:=blk_frozen BK476.out 5))
    go_ret
    exact ⟨_,by first|rfl|(simp [errW_none,errW_some] <;> rfl)|(simp [*,errW_none,errW_some] <;> rfl),by (with_reducible repeat (first|apply Kd.R_alloc|apply Kd.R_drewN|apply Kd.R_drew));exact HO482.out,by repeat (first|(with_reducible first|exact HB.out|apply below_alloc|apply pw_below_drewN|apply below_drew1|refine below_set ?_ GE476.out)|exact HB.out)⟩
  ·rw [if_neg c4] at H
   exact absurd H (by simp)
 ·rw [if_neg c3] at H
  have c3b0 : (a0_0 == 2)=false:=beq_eq_false_iff_ne.mpr c3
  have c3b1 : (a0_0 != 2)=true:=bne_iff_ne.mpr c3
  by_cases c20 : a0_4 ≥ 0
  ·rw [if_pos c20] at H
   have c20b0 : decide (0≤a0_4)=true:=decide_eq_true c20
   clear c20
   by_cases c21 : t477.length < 17592186044416
   ·rw [if_pos c21] at H
    have LMc21:=Aside0.mk c21
    clear c21
    obtain ⟨y486,hy486⟩ : ∃ y_ : List Int,y_=(t477 ++ [wrap64 (64 + a0_4)]):=⟨_,rfl⟩
    replace H : (some y486)=some r:=by first|(rw [hy486];with_reducible exact H)|(have H2_:=(Option.bind_some _ _).symm.trans H;rw [hy486];with_reducible exact H2_)|(have H2_:=(Option.bind_some _ _).symm.trans H;with_reducible exact H2_)|with_reducible exact H|(rw [hy486];exact H)|exact H
    have Ny486:=Aside0.mk hy486
    clear hy486
    obtain rfl:=Option.some.inj H
    go_enter Try.func62,Try.ntmps62
    go_wp2_with (first|((with_reducible refine gate_dst (N:=1) rfl ?_);refine box_event ?hg (N:=1) ?hd (cs:=#[.int .i64 a0_0,.int .i64 a0_1,.slice A0_2 l0_2.length c0_2,.int .i64 a0_3,.int .i64 a0_4,.int .i64 a0_5]) (t:=46) ?hr ?_;(case hd => rfl);(case hg => rfl);(case hr => first|(go_simp;done)|(go_simp;rfl));intro gb476 hg w22 hbox hb;have n0_:=Aside0.mk (below_step (by repeat (first|(with_reducible first|exact HB.out|apply below_alloc|apply pw_below_drewN|apply below_drew1)|exact HB.out)) hb);have n1_:=Aside0.mk (hbox);have n2_:=Aside0.mk ((by rw [hg];exact (below_size (by repeat (first|(with_reducible first|exact HB.out|apply below_alloc|apply pw_below_drewN|apply below_drew1)|exact HB.out))) : w.heap.size≤gb476));have n3_:=Aside0.mk ((by rw [hg];exact (below_size (by repeat (first|(with_reducible first|exact HB.out|apply below_alloc|apply pw_below_drewN|apply below_drew1)|exact HB.out))) : w.heap.size≤gb476));clear HB;have HB:=n0_;have BK476:=n1_;have GW476:=n2_;have GE476:=n3_;clear n0_ n1_ n2_ n3_;clear hb hbox hg;have hcz23_0 : w22.cell? ⟨gb476,0,none⟩=some (.int .i64 a0_0):=(blk_cell BK476.out 0).trans rfl;have hcz23_1 : w22.cell? ⟨gb476,1,none⟩=some (.int .i64 a0_1):=(blk_cell BK476.out 1).trans rfl;have hcz23_2 : w22.cell? ⟨gb476,2,none⟩=some (.slice A0_2 l0_2.length c0_2):=(blk_cell BK476.out 2).trans rfl;have hcz23_3 : w22.cell? ⟨gb476,3,none⟩=some (.int .i64 a0_3):=(blk_cell BK476.out 3).trans rfl;have hcz23_4 : w22.cell? ⟨gb476,4,none⟩=some (.int .i64 a0_4):=(blk_cell BK476.out 4).trans rfl;have hcz23_5 : w22.cell? ⟨gb476,5,none⟩=some (.int .i64 a0_5):=(blk_cell BK476.out 5).trans rfl;have hfz23_0:=blk_frozen BK476.out 0;have hfz23_1:=blk_frozen BK476.out 1;have hfz23_2:=blk_frozen BK476.out 2;have hfz23_3:=blk_frozen BK476.out 3;have hfz23_4:=blk_frozen BK476.out 4;have hfz23_5:=blk_frozen BK476.out 5)|((with_reducible refine gate_callee (f:=50) rfl ?_);refine goesL_ (some 6) rfl rfl Try.func50 (by kernel_rfl) rfl #[.slice A0_2 l0_2.length c0_2] rfl (by (try simp only [List.map_toArray,List.map_cons,List.map_nil]);first|done|rfl|(simp only [List.length_drop,List.length_take];rfl)) ?_;(with_reducible refine (slices_Clone_int_int.calls _ _ l0_2 t477 _ ?side1 ?side2 A2.out).mono ?_);(case side1 => repeat (first|exact (Kd.C_below HR0_2.out HB.out)|(with_reducible refine Kd.C_alloc ?_ _)|(with_reducible refine Kd.C_drewN ?_ _)|(with_reducible refine Kd.C_drew ?_)));(case side2 => exact HC0_2.out);rintro e w24 ⟨v478,rfl,ho0,hb⟩;refine ⟨_,rfl,?_⟩;have n0_:=Aside0.mk (Kd.R_lower ho0 (below_size (by repeat (first|(with_reducible first|exact HB.out|apply below_alloc|apply pw_below_drewN|apply below_drew1|refine below_set ?_ GE476.out)|exact HB.out))));have n1_:=Aside0.mk (blk_below (g:=gb476) (o:=.cells #[.int .i64 a0_0,.int .i64 a0_1,.slice A0_2 l0_2.length c0_2,.int .i64 a0_3,.int .i64 a0_4,.int .i64 a0_5] 46 (0,0)) (by (with_reducible repeat (first|refine blk_drewN ?_ _|refine blk_drew ?_|refine blk_alloc ?_ _));exact BK476.out) hb);have n2_:=Aside0.mk (below_step (by repeat (first|(with_reducible first|exact HB.out|apply below_alloc|apply pw_below_drewN|apply below_drew1|refine below_set ?_ GE476.out)|exact HB.out)) hb);clear BK476;clear HB;have HO479:=n0_;have BK476:=n1_;have HB:=n2_;clear n0_ n1_ n2_;(try clear hb);(try clear hb2);(try clear hk);(try clear hi);(try clear ho0);have hcz25_0 : w24.cell? ⟨gb476,0,none⟩=some (.int .i64 a0_0):=(blk_cell BK476.out 0).trans rfl;have hcz25_1 : w24.cell? ⟨gb476,1,none⟩=some (.int .i64 a0_1):=(blk_cell BK476.out 1).trans rfl;have hcz25_2 : w24.cell? ⟨gb476,2,none⟩=some (.slice A0_2 l0_2.length c0_2):=(blk_cell BK476.out 2).trans rfl;have hcz25_3 : w24.cell? ⟨gb476,3,none⟩=some (.int .i64 a0_3):=(blk_cell BK476.out 3).trans rfl;have hcz25_4 : w24.cell? ⟨gb476,4,none⟩=some (.int .i64 a0_4):=(blk_cell BK476.out 4).trans rfl;have hcz25_5 : w24.cell? ⟨gb476,5,none⟩=some (.int .i64 a0_5):=(blk_cell BK476.out 5).trans rfl;have hfz25_0:=blk_frozen BK476.out 0;have hfz25_1:=blk_frozen BK476.out 1;have hfz25_2:=blk_frozen BK476.out 2;have hfz25_3:=blk_frozen BK476.out 3;have hfz25_4:=blk_frozen BK476.out 4;have hfz25_5:=blk_frozen BK476.out 5)|((with_reducible refine gate_builtin (b:=.append) (xs:=#[.tmp 19,.tmp 23]) rfl ?_);at_builtin;refine Kd.R_append (Kd.int .i64) (w0:=w) w.heap.size rfl (.tmp 19) (.tmp 23) 37 3 (.int .i64 0) 8 rfl Try.underlying37 info3 rfl (by decide) (by omega) v478 t477 (wrap64 (64 + a0_4)) [.int .i64 (wrap64 (64 + a0_4))] (fun _ => True) (fun _ => False) rfl rfl ?aP (fun _ hk => hk.elim) ?aF ?aO ?aB ?aS ?aL ?_;(case aP => exact rfl);(case aB => exact (by repeat (first|(with_reducible first|exact HB.out|apply below_alloc|apply pw_below_drewN|apply below_drew1|refine below_set ?_ GE476.out)|exact HB.out)));(case aF => exact (fun _ _ => trivial));(case aO => exact (by (with_reducible repeat (first|apply Kd.R_alloc|apply Kd.R_drewN|apply Kd.R_drew));exact HO479.out));(case aS => exact (below_size (by repeat (first|(with_reducible first|exact HB.out|apply below_alloc|apply pw_below_drewN|apply below_drew1|refine below_set ?_ GE476.out)|exact HB.out))));(case aL => have:=LMc21.out;omega);intro v487 w26 ho hb hg hat;rw [← Ny486.out] at ho;have n0_:=Aside0.mk (blk_grown (g:=gb476) (o:=.cells #[.int .i64 a0_0,.int .i64 a0_1,.slice A0_2 l0_2.length c0_2,.int .i64 a0_3,.int .i64 a0_4,.int .i64 a0_5] 46 (0,0)) (by (with_reducible repeat (first|refine blk_drewN ?_ _|refine blk_drew ?_|refine blk_alloc ?_ _));exact BK476.out) hg (Kd.R_ne HO479.out BK476.out (by decide)));have n1_:=Aside0.mk (hb);have n2_:=Aside0.mk (ho);clear BK476;clear HB;clear HO479;have BK476:=n0_;have HB:=n1_;have HO488:=n2_;clear n0_ n1_ n2_;clear ho hb hg hat))
    go_ret
    exact ⟨_,by first|rfl|(simp [errW_none,errW_some] <;> rfl)|(simp [*,errW_none,errW_some] <;> rfl),by (with_reducible repeat (first|apply Kd.R_alloc|apply Kd.R_drewN|apply Kd.R_drew));exact HO488.out,by repeat (first|(with_reducible first|exact HB.out|apply below_alloc|apply pw_below_drewN|apply below_drew1|refine below_set ?_ GE476.out)|exact HB.out)⟩
   ·rw [if_neg c21] at H
    exact absurd H (by simp)
  ·rw [if_neg c20] at H
   have c20b0 : decide (0≤a0_4)=false:=decide_eq_false c20
   clear c20
   obtain rfl:=Option.some.inj H
   go_enter Try.func62,Try.ntmps62
   go_wp2_with (first|((with_reducible refine gate_dst (N:=1) rfl ?_);refine box_event ?hg (N:=1) ?hd (cs:=#[.int .i64 a0_0,.int .i64 a0_1,.slice A0_2 l0_2.length c0_2,.int .i64 a0_3,.int .i64 a0_4,.int .i64 a0_5]) (t:=46) ?hr ?_;(case hd => rfl);(case hg => rfl);(case hr => first|(go_simp;done)|(go_simp;rfl));intro gb476 hg w27 hbox hb;have n0_:=Aside0.mk (below_step (by repeat (first|(with_reducible first|exact HB.out|apply below_alloc|apply pw_below_drewN|apply below_drew1)|exact HB.out)) hb);have n1_:=Aside0.mk (hbox);have n2_:=Aside0.mk ((by rw [hg];exact (below_size (by repeat (first|(with_reducible first|exact HB.out|apply below_alloc|apply pw_below_drewN|apply below_drew1)|exact HB.out))) : w.heap.size≤gb476));have n3_:=Aside0.mk ((by rw [hg];exact (below_size (by repeat (first|(with_reducible first|exact HB.out|apply below_alloc|apply pw_below_drewN|apply below_drew1)|exact HB.out))) : w.heap.size≤gb476));clear HB;have HB:=n0_;have BK476:=n1_;have GW476:=n2_;have GE476:=n3_;clear n0_ n1_ n2_ n3_;clear hb hbox hg;have hcz28_0 : w27.cell? ⟨gb476,0,none⟩=some (.int .i64 a0_0):=(blk_cell BK476.out 0).trans rfl;have hcz28_1 : w27.cell? ⟨gb476,1,none⟩=some (.int .i64 a0_1):=(blk_cell BK476.out 1).trans rfl;have hcz28_2 : w27.cell? ⟨gb476,2,none⟩=some (.slice A0_2 l0_2.length c0_2):=(blk_cell BK476.out 2).trans rfl;have hcz28_3 : w27.cell? ⟨gb476,3,none⟩=some (.int .i64 a0_3):=(blk_cell BK476.out 3).trans rfl;have hcz28_4 : w27.cell? ⟨gb476,4,none⟩=some (.int .i64 a0_4):=(blk_cell BK476.out 4).trans rfl;have hcz28_5 : w27.cell? ⟨gb476,5,none⟩=some (.int .i64 a0_5):=(blk_cell BK476.out 5).trans rfl;have hfz28_0:=blk_frozen BK476.out 0;have hfz28_1:=blk_frozen BK476.out 1;have hfz28_2:=blk_frozen BK476.out 2;have hfz28_3:=blk_frozen BK476.out 3;have hfz28_4:=blk_frozen BK476.out 4;have hfz28_5:=blk_frozen BK476.out 5)|((with_reducible refine gate_callee (f:=50) rfl ?_);refine goesL_ (some 6) rfl rfl Try.func50 (by kernel_rfl) rfl #[.slice A0_2 l0_2.length c0_2] rfl (by (try simp only [List.map_toArray,List.map_cons,List.map_nil]);first|done|rfl|(simp only [List.length_drop,List.length_take];rfl)) ?_;(with_reducible refine (slices_Clone_int_int.calls _ _ l0_2 t477 _ ?side1 ?side2 A2.out).mono ?_);(case side1 => repeat (first|exact (Kd.C_below HR0_2.out HB.out)|(with_reducible refine Kd.C_alloc ?_ _)|(with_reducible refine Kd.C_drewN ?_ _)|(with_reducible refine Kd.C_drew ?_)));(case side2 => exact HC0_2.out);rintro e w29 ⟨v478,rfl,ho0,hb⟩;refine ⟨_,rfl,?_⟩;have n0_:=Aside0.mk (Kd.R_lower ho0 (below_size (by repeat (first|(with_reducible first|exact HB.out|apply below_alloc|apply pw_below_drewN|apply below_drew1|refine below_set ?_ GE476.out)|exact HB.out))));have n1_:=Aside0.mk (blk_below (g:=gb476) (o:=.cells #[.int .i64 a0_0,.int .i64 a0_1,.slice A0_2 l0_2.length c0_2,.int .i64 a0_3,.int .i64 a0_4,.int .i64 a0_5] 46 (0,0)) (by (with_reducible repeat (first|refine blk_drewN ?_ _|refine blk_drew ?_|refine blk_alloc ?_ _));exact BK476.out) hb);have n2_:=Aside0.mk (below_step (by repeat (first|(with_reducible first|exact HB.out|apply below_alloc|apply pw_below_drewN|apply below_drew1|refine below_set ?_ GE476.out)|exact HB.out)) hb);clear BK476;clear HB;have HO479:=n0_;have BK476:=n1_;have HB:=n2_;clear n0_ n1_ n2_;(try clear hb);(try clear hb2);(try clear hk);(try clear hi);(try clear ho0);have hcz30_0 : w29.cell? ⟨gb476,0,none⟩=some (.int .i64 a0_0):=(blk_cell BK476.out 0).trans rfl;have hcz30_1 : w29.cell? ⟨gb476,1,none⟩=some (.int .i64 a0_1):=(blk_cell BK476.out 1).trans rfl;have hcz30_2 : w29.cell? ⟨gb476,2,none⟩=some (.slice A0_2 l0_2.length c0_2):=(blk_cell BK476.out 2).trans rfl;have hcz30_3 : w29.cell? ⟨gb476,3,none⟩=some (.int .i64 a0_3):=(blk_cell BK476.out 3).trans rfl;have hcz30_4 : w29.cell? ⟨gb476,4,none⟩=some (.int .i64 a0_4):=(blk_cell BK476.out 4).trans rfl;have hcz30_5 : w29.cell? ⟨gb476,5,none⟩=some (.int .i64 a0_5):=(blk_cell BK476.out 5).trans rfl;have hfz30_0:=blk_frozen BK476.out 0;have hfz30_1:=blk_frozen BK476.out 1;have hfz30_2:=blk_frozen BK476.out 2;have hfz30_3:=blk_frozen BK476.out 3;have hfz30_4:=blk_frozen BK476.out 4;have hfz30_5:=blk_frozen BK476.out 5))
   go_ret
   exact ⟨_,by first|rfl|(simp [errW_none,errW_some] <;> rfl)|(simp [*,errW_none,errW_some] <;> rfl),by (with_reducible repeat (first|apply Kd.R_alloc|apply Kd.R_drewN|apply Kd.R_drew));exact HO479.out,by repeat (first|(with_reducible first|exact HB.out|apply below_alloc|apply pw_below_drewN|apply below_drew1|refine below_set ?_ GE476.out)|exact HB.out)⟩
end Go.Proofs.Ytbelnopbggkdfaa.Q
end

section
namespace Go.Proofs.Ytbelnopbggkdfaa.Q
open Go.RowKit Go.Proofs.YtbelnopbggkdfaaW.PrintWords Go.Proofs.YtbelnopbggkdfaaW.PrintLast Go.Proofs.YtbelnopbggkdfaaW.PrintMore
attribute [local go_sem] max2_int min2_int max_two min_two max_three min_three max_four min_four   -- for this text's walks alone
set_option linter.unusedVariables false
set_option linter.unusedSimpArgs false
def maxL (L : List Int) (ws : List Int) (m : Int) : Int:=ws.foldl (fun m x => mx m (rd L x)) m
def setL (L : List Int) (ws : List Int) (m : Int) : List Int:=ws.foldl (fun L x => L.set x.toNat m) L
def wireOk (ws : List Int) : Bool:=ws.all fun x => decide (0≤x) && decide (x < 128)
def early_go : List S46→List Int→Option (List Int)
 | [],_ => some []
 | o :: os,L => (layers_wires.f o.f0 o.f1 o.f2 o.f3 o.f4 o.f5).bind fun ws =>
  if wireOk ws=true then (early_go os (setL L ws (if o.f0=4 then maxL L ws 0 else wrap64 (maxL L ws 0 + 1)))).bind fun r => some ((if o.f0=4 then maxL L ws 0 else wrap64 (maxL L ws 0 + 1)) :: r) else none
def layers_early.f (a0_0 : Int) (a0_1 : Int) (l0_2 : List S46) : Option (List Int):=if l0_2.length < 2199023255552 then early_go l0_2 (List.replicate 128 0) else none
theorem setL_len (ws : List Int) (m : Int) : ∀ L : List Int,(setL L ws m).length=L.length:=by
 induction ws with
 | nil => intro L;rfl
 | cons x xs ih => intro L;simp only [setL,List.foldl_cons] at ih ⊢;rw [ih];simp
theorem maxL_snoc (L ws : List Int) (x m : Int) : maxL L (ws ++ [x]) m=mx (maxL L ws m) (rd L x):=by simp [maxL]
theorem setL_snoc (L ws : List Int) (x m : Int) : setL L (ws ++ [x]) m=(setL L ws m).set x.toNat m:=by simp [setL]
theorem take_snoc_rd (ws : List Int) (j : Nat) (h : j < ws.length) : ws.take (j + 1)=ws.take j ++ [rd ws j]:=by
 rw [List.take_succ_eq_append_getElem h];simp [rd,List.getD_eq_getElem?_getD,List.getElem?_eq_getElem h]
structure EarlyS (w W : World) (g1 g3 : Nat) (cs : Array Value) (L : List Int) (v : Value) (out : List Int) : Prop where
 hb : Below w.heap.size w W
 b1 : W.heap[g1]?=some (.cells cs 24 (0,0))
 b3 : W.heap[g3]?=some (.cells (L.map (Value.int .i64)).toArray 75 (0,0))
 ho : Kd.R (Kd.int .i64) 3 W w.heap.size (fun _ => True) v out
 n1 : w.heap.size≤g1
 n3 : w.heap.size≤g3
theorem EarlyS.below {w W W' : World} {g1 g3 : Nat} {cs : Array Value} {L : List Int} {v : Value} {out : List Int} (h : EarlyS w W g1 g3 cs L v out) (hb : Below W.heap.size W W') : EarlyS w W' g1 g3 cs L v out :=
 ⟨below_step h.hb hb,blk_below h.b1 hb,blk_below h.b3 hb,Kd.R_below h.ho hb,h.n1,h.n3⟩
theorem EarlyS.ne {w W : World} {g1 g3 : Nat} {cs : Array Value} {L : List Int} {v : Value} {out : List Int} (h : EarlyS w W g1 g3 cs L v out) : g1≠g3:=by
 rintro rfl
 have:=h.b1.symm.trans h.b3
 injection this with h1
 injection h1 with _ h2
 exact absurd h2 (by decide)
theorem EarlyS.put {w W : World} {g1 g3 : Nat} {cs : Array Value} {L : List Int} {v : Value} {out : List Int} (h : EarlyS w W g1 g3 cs L v out) (i : Nat) (x : Int) : EarlyS w (W.setCell ⟨g3,i,none⟩ (.int .i64 x)) g1 g3 cs (L.set i x) v out :=
 ⟨below_set h.hb h.n3,blk_far h.b1 h.ne _,by rw [List.map_set];simpa using blk_set h.b3 i (.int .i64 x),Kd.R_set h.ho h.b3 (by decide) i _,h.n1,h.n3⟩
theorem EarlyS.grown {w W W' : World} {g1 g3 : Nat} {cs : Array Value} {L : List Int} {v v' : Value} {out out' : List Int} (h : EarlyS w W g1 g3 cs L v out) (hg : W.grownBy W' v.ownBlock) (hb : Below w.heap.size w W') (ho : Kd.R (Kd.int .i64) 3 W' w.heap.size (fun _ => True) v' out') : EarlyS w W' g1 g3 cs L v' out' :=
 ⟨hb,blk_grown h.b1 hg (Kd.R_ne h.ho h.b1 (by decide)),blk_grown h.b3 hg (Kd.R_ne h.ho h.b3 (by decide)),ho,h.n1,h.n3⟩
set_option maxHeartbeats 8000000 in
set_option maxRecDepth 100000 in
theorem layers_early.calls (a0_0 : Int) (a0_1 : Int) (A0_2 : Option Addr) (c0_2 : Nat) (l0_2 : List S46) (r : List Int) (w : World) (hr0_2 : Kd.C k46 w A0_2 l0_2.length l0_2) (hc0_2 : l0_2.length≤c0_2) (h : layers_early.f a0_0 a0_1 l0_2=some r) :
  Calls Try.prog 61 #[.agg #[.int .i64 a0_0,.int .i64 a0_1,.slice A0_2 l0_2.length c0_2]] w fun e w' => ∃ v0_ : Value,e=.returned (v0_)∧Kd.R (Kd.int .i64) 3 w' w.heap.size (fun _ => True) v0_ r∧Below w.heap.size w w':=by
 have hu24:=Try.underlying24
 have hu46:=Try.underlying46
 unfold layers_early.f at h
 split at h
 case isFalse => cases h
 rename_i hlen
 have LM:=Aside0.mk hlen
 have HR:=Aside0.mk hr0_2
 have H:=Aside0.mk h
 clear hr0_2 hlen h
 generalize hn : l0_2.length=n at *
 have hn64 : (n : Int)≤2199023255552:=by have:=LM.out;omega
 have HN:=Aside0.mk hn
 clear hn
 go_enter Try.func61,Try.ntmps61
 go_wp2
 obtain ⟨g1,hg1⟩ : ∃ g,g=w.heap.size:=⟨_,rfl⟩
 obtain ⟨g3,hg3⟩ : ∃ g,g=w.heap.size + 1:=⟨_,rfl⟩
 rw [← hg3,← hg1]
 have hs : EarlyS w ((w.alloc (.cells #[.int .i64 a0_0,.int .i64 a0_1,.slice A0_2 n c0_2] 24)).alloc (.cells Try.zeroCells75 75)) g1 g3 #[.int .i64 a0_0,.int .i64 a0_1,.slice A0_2 n c0_2] (List.replicate 128 0) (.slice none 0 0) []:=by
  subst hg1 hg3
  exact ⟨below_alloc (below_alloc (Below.refl _ _) _) _,blk_alloc (blk_new w _) _,by
   have:=blk_new (w.alloc (.cells #[.int .i64 a0_0,.int .i64 a0_1,.slice A0_2 n c0_2] 24)) (.cells Try.zeroCells75 75)
   rw [World.size_alloc] at this
   rw [this]
   rfl,Kd.R_nil _ _ _ _ _,Nat.le_refl _,by omega⟩
 generalize (w.alloc (.cells #[.int .i64 a0_0,.int .i64 a0_1,.slice A0_2 n c0_2] 24)).alloc (.cells Try.zeroCells75 75)=W0 at hs ⊢
 have HS:=Aside0.mk hs
 clear hs hg1 hg3
 go_loopw [4,6,7,9,11,15] (fun v4 _ _ _ _ v15 wr => ∃ (j : Nat) (L out rest : List Int),j≤n∧v15=.int .i64 j∧Aside0 (early_go (l0_2.drop j) L=some rest)∧Aside0 (out ++ rest=r)∧Aside0 (L.length=128)∧Aside0 (out.length=j)∧Aside0 (EarlyS w wr g1 g3 #[.int .i64 a0_0,.int .i64 a0_1,.slice A0_2 n c0_2] L v4 out)) (fun _ _ _ _ _ i _ => n - (intOf i).toNat)
 case atStart => exact ⟨0,_,[],r,Nat.zero_le _,rfl,H,⟨rfl⟩,⟨by simp⟩,⟨rfl⟩,HS⟩
 case round =>
  clear HS H
  obtain ⟨j,L,out,rest,hj,rfl,H,HO,HL,HJ,HS⟩:=hrel
  by_cases hlt : j < n
  ·have hq : ((j : Nat) : Int) < (n : Int):=by omega
   obtain ⟨ad,A2,c2,rfl,x0,x1,x2,x3,x4,x5,hl2,hi2⟩:=at_T46 (by rw [HN.out];exact HR.out : Kd.C k46 w A0_2 l0_2.length l0_2) (j : Int) (by omega) (by rw [HN.out];exact hq)
   simp only [Int.toNat_natCast] at x0 x1 x2 x3 x4 x5
   have hb:=HS.out.hb
   replace x0:=(hb.cell (World.block_lt_of_cell? w _ x0)).trans x0
   replace x1:=(hb.cell (World.block_lt_of_cell? w _ x1)).trans x1
   replace x2:=(hb.cell (World.block_lt_of_cell? w _ x2)).trans x2
   replace x3:=(hb.cell (World.block_lt_of_cell? w _ x3)).trans x3
   replace x4:=(hb.cell (World.block_lt_of_cell? w _ x4)).trans x4
   replace x5:=(hb.cell (World.block_lt_of_cell? w _ x5)).trans x5
   generalize hO : rd_T46 l0_2 (j : Int)=o at *
   have HL2:=Aside0.mk hl2
   have HI2:=Aside0.mk hi2
   have HOO:=Aside0.mk hO
   clear hl2 hi2 hO hb hq
   go_upto_region 7 with (fail)
   have hs1:=HS.out.below (below_alloc (Below.refl _ wr) (.cells #[.int .i64 o.f0,.int .i64 o.f1,.slice A2 o.f2.length c2,.int .i64 o.f3,.int .i64 o.f4,.int .i64 o.f5] 46))
   have b6:=blk_new wr (.cells #[.int .i64 o.f0,.int .i64 o.f1,.slice A2 o.f2.length c2,.int .i64 o.f3,.int .i64 o.f4,.int .i64 o.f5] 46)
   obtain ⟨g6,hg6⟩ : ∃ g,g=wr.heap.size:=⟨_,rfl⟩
   have n6 : w.heap.size≤g6:=by rw [hg6];exact HS.out.hb.size
   rw [← hg6] at b6
   rw [← hg6]
   generalize wr.alloc _=W1 at hs1 b6 ⊢
   have HB6:=Aside0.mk b6
   have HN6:=Aside0.mk n6
   have HS1:=Aside0.mk hs1
   clear x0 x1 x2 x3 x4 x5 hs1 b6 n6 hg6 HS
   have H2:=H.out
   rw [List.drop_eq_getElem_cons (by rw [HN.out];exact hlt)] at H2
   rw [show l0_2[j]'(by rw [HN.out];exact hlt)=o by rw [← HOO.out];simp [rd_T46,List.getD_eq_getElem?_getD,List.getElem?_eq_getElem (show j < l0_2.length by rw [HN.out];exact hlt)]] at H2
   simp only [early_go] at H2
   obtain ⟨ws,hws,H3⟩:=Option.bind_eq_some_iff.1 H2
   clear H2 H
   split at H3
   case isFalse => cases H3
   rename_i hwo
   generalize hm' : (if o.f0=4 then maxL L ws 0 else wrap64 (maxL L ws 0 + 1))=m' at H3
   obtain ⟨rest',hrest,H4⟩:=Option.bind_eq_some_iff.1 H3
   obtain rfl:=Option.some.inj H4
   have HW:=Aside0.mk hws
   have HWO:=Aside0.mk hwo
   have HM:=Aside0.mk hm'
   have HRE:=Aside0.mk hrest
   clear hws hwo hm' hrest H3 H4 HOO
   have f0c : W1.cell? ⟨g6,0,none⟩=some (.int .i64 o.f0):=(blk_cell HB6.out 0).trans rfl
   have f1c : W1.cell? ⟨g6,1,none⟩=some (.int .i64 o.f1):=(blk_cell HB6.out 1).trans rfl
   have f2c : W1.cell? ⟨g6,2,none⟩=some (.slice A2 o.f2.length c2):=(blk_cell HB6.out 2).trans rfl
   have f3c : W1.cell? ⟨g6,3,none⟩=some (.int .i64 o.f3):=(blk_cell HB6.out 3).trans rfl
   have f4c : W1.cell? ⟨g6,4,none⟩=some (.int .i64 o.f4):=(blk_cell HB6.out 4).trans rfl
   have f5c : W1.cell? ⟨g6,5,none⟩=some (.int .i64 o.f5):=(blk_cell HB6.out 5).trans rfl
   go_wp2_with (go_at_call 62;(with_reducible refine (layers_wires.calls o.f0 o.f1 _ _ o.f2 o.f3 o.f4 o.f5 ws _ (Kd.C_below HI2.out HS1.out.hb) HL2.out HW.out).mono ?_);clear f0c f1c f2c f3c f4c f5c;rintro e W2 ⟨v20,rfl,hv20,hb2⟩;obtain ⟨A20,c20,rfl,hl20,hi20⟩:=Kd.R_reads hv20)
   have HS2:=Aside0.mk (HS1.out.below hb2)
   have HB62:=Aside0.mk (blk_below HB6.out hb2)
   have HV:=Aside0.mk (Kd.R_lower hv20 HS1.out.hb.size)
   have HI20:=Aside0.mk (Kd.reads_of_C (enc:=Value.int .i64) (d:=(0 : Int)) (h1:=fun _ => rfl) hi20)
   have hlw : (ws.length : Int)≤9223372036854775807:=by have:=hi20.2.1;omega
   clear hb2 hv20 hi20 HS1 HB6 hl20
   go_loop [7,9,22] (fun v7 _ v22 => ∃ q : Nat,q≤ws.length∧v22=.int .i64 q∧v7=.int .i64 (maxL L (ws.take q) 0)) (fun _ _ i => ws.length - (intOf i).toNat)
   case atStart => exact ⟨0,Nat.zero_le _,rfl,rfl⟩
   case round =>
    obtain ⟨q,hq,rfl,rfl⟩:=hrel
    by_cases hqt : q < ws.length
    ·obtain ⟨ad2,rfl,hcell0⟩:=HI20.out.2.2 (by omega)
     have hcell:=hcell0 q hqt
     rw [show ws.getD q 0=rd ws q by simp [rd]] at hcell
     have hx : 0≤rd ws q∧rd ws q < 128:=by
      have:=List.all_eq_true.1 HWO.out (ws[q]'hqt) (List.getElem_mem _)
      simp only [Bool.and_eq_true,decide_eq_true_eq] at this
      simpa [rd,List.getD_eq_getElem?_getD,List.getElem?_eq_getElem hqt] using this
     have hs:=maxL_snoc L (ws.take q) (rd ws q) 0
     rw [← take_snoc_rd ws q hqt] at hs
     generalize rd ws q=x at hcell hx hs
     obtain ⟨hx0,hx1⟩:=hx
     have harr : W2.cell? ⟨g3,x.toNat,none⟩=some (.int .i64 (rd L x)):=by
      rw [blk_cell HS2.out.b3]
      simp [rd,List.getD_eq_getElem?_getD,List.getElem?_eq_getElem (show x.toNat < L.length by rw [HL.out];omega)]
     have HSN:=Aside0.mk hs
     clear hcell0 hs
     go_wp2
     go_round
     case rel => exact ⟨q + 1,by omega,by go_num,by rw [HSN.out];rfl⟩
     case measure => simp [intOf];omega
    ·obtain rfl : q=ws.length:=by omega
     rw [List.take_length] at *
     clear HI20
     have f0c : W2.cell? ⟨g6,0,none⟩=some (.int .i64 o.f0):=(blk_cell HB62.out 0).trans rfl
     have f1c : W2.cell? ⟨g6,1,none⟩=some (.int .i64 o.f1):=(blk_cell HB62.out 1).trans rfl
     have f2c : W2.cell? ⟨g6,2,none⟩=some (.slice A2 o.f2.length c2):=(blk_cell HB62.out 2).trans rfl
     have f3c : W2.cell? ⟨g6,3,none⟩=some (.int .i64 o.f3):=(blk_cell HB62.out 3).trans rfl
     have f4c : W2.cell? ⟨g6,4,none⟩=some (.int .i64 o.f4):=(blk_cell HB62.out 4).trans rfl
     have f5c : W2.cell? ⟨g6,5,none⟩=some (.int .i64 o.f5):=(blk_cell HB62.out 5).trans rfl
     have hm1 : Aside0 (o.f0=4→maxL L ws 0=m'):=⟨fun h => by rw [← HM.out,if_pos h]⟩
     have hm2 : Aside0 (o.f0≠4→wrap64 (maxL L ws 0 + 1)=m'):=⟨fun h => by rw [← HM.out,if_neg h]⟩
     generalize maxL L ws 0=m0 at hm1 hm2 ⊢
     clear HM
     by_cases h4 : o.f0=4
     ·have h4b : (o.f0 != 4)=false:=by simpa using h4
      have e:=hm1.out h4
      clear hm1 hm2 h4
      go_upto_region 14 with (fail)
      rw [e]
      clear e h4b
      go_wp2_with (go_at_call 62;(with_reducible refine (layers_wires.calls o.f0 o.f1 _ _ o.f2 o.f3 o.f4 o.f5 ws _ (Kd.C_below HI2.out HS2.out.hb) HL2.out HW.out).mono ?_);clear f0c f1c f2c f3c f4c f5c;rintro e W3 ⟨v38,rfl,hv38,hb3⟩;obtain ⟨A38,c38,rfl,hl38,hi38⟩:=Kd.R_reads hv38)
      have HS3:=Aside0.mk (HS2.out.below hb3)
      have HV3:=Aside0.mk (Kd.R_lower hv38 HS2.out.hb.size)
      clear hb3 hv38 hi38 HS2 HB62 HV hl38
      go_loopw [11,40] (fun _ v40 wr => ∃ q : Nat,q≤ws.length∧v40=.int .i64 q∧Aside0 (EarlyS w wr g1 g3 #[.int .i64 a0_0,.int .i64 a0_1,.slice (some ad) n c0_2] (setL L (ws.take q) m') u4 out)∧Aside0 (Kd.R (Kd.int .i64) 3 wr w.heap.size (fun _ => True) (.slice A38 ws.length c38) ws)) (fun _ i _ => ws.length - (intOf i).toNat)
      case atStart => exact ⟨0,Nat.zero_le _,rfl,HS3,HV3⟩
      case round =>
       clear HS3 HV3
       obtain ⟨q,hq,rfl,HS3,HV3⟩:=hrel
       by_cases hqt : q < ws.length
       ·obtain ⟨ad2,e38,hcell0⟩:=(Kd.reads_of_C (enc:=Value.int .i64) (d:=(0 : Int)) (h1:=fun _ => rfl) (Kd.R_reads' HV3.out).2.2).2.2 (by omega)
        cases e38
        have hcell:=hcell0 q hqt
        rw [show ws.getD q 0=rd ws q by simp [rd]] at hcell
        have hx : 0≤rd ws q∧rd ws q < 128:=by
         have:=List.all_eq_true.1 HWO.out (ws[q]'hqt) (List.getElem_mem _)
         simp only [Bool.and_eq_true,decide_eq_true_eq] at this
         simpa [rd,List.getD_eq_getElem?_getD,List.getElem?_eq_getElem hqt] using this
        have hs:=setL_snoc L (ws.take q) (rd ws q) m'
        rw [← take_snoc_rd ws q hqt] at hs
        generalize rd ws q=x at hcell hx hs
        obtain ⟨hx0,hx1⟩:=hx
        have harr : wr.cell? ⟨g3,x.toNat,none⟩=some (.int .i64 (rd (setL L (ws.take q) m') x)):=by
         rw [blk_cell HS3.out.b3]
         simp [rd,List.getD_eq_getElem?_getD,List.getElem?_eq_getElem (show x.toNat < (setL L (ws.take q) m').length by rw [setL_len,HL.out];omega)]
        have hfr : wr.frozen? ⟨g3,x.toNat,none⟩=false:=blk_frozen HS3.out.b3 _
        have HSN:=Aside0.mk hs
        clear hcell0 hs
        go_wp2
        go_roundw
        case rel => exact ⟨q + 1,by omega,by go_num,⟨by rw [HSN.out];exact HS3.out.put x.toNat m'⟩,⟨Kd.R_set HV3.out HS3.out.b3 (by decide) _ _⟩⟩
        case measure => simp [intOf];omega
       ·obtain rfl : q=ws.length:=by omega
        rw [List.take_length] at *
        have hj8 : (out.length + 1) * 8≤140737488355328:=by have:=HJ.out;omega
        go_wp2_with ((with_reducible refine gate_builtin (b:=.append) (xs:=#[.tmp 48,.tmp 50]) rfl ?_);at_builtin;refine Kd.R_append (Kd.int .i64) (w0:=w) w.heap.size rfl (.tmp 48) (.tmp 50) 37 3 (.int .i64 0) 8 rfl Try.underlying37 info3 rfl (by decide) (by omega) u4 out m' [.int .i64 m'] (fun _ => True) (fun _ => False) rfl rfl rfl (fun _ hk => hk.elim) (fun _ _ => trivial) HS3.out.ho HS3.out.hb HS3.out.hb.size hj8 ?_;intro v51 w51 ho hb hg hat;have HS5:=Aside0.mk (HS3.out.grown hg hb ho);clear ho hb hg hat HS3 HV3)
        go_roundw
        case rel => exact ⟨j + 1,_,_,rest',by omega,by go_num,HRE,⟨by rw [List.append_assoc];exact HO.out⟩,⟨by rw [setL_len];exact HL.out⟩,⟨by rw [List.length_append,HJ.out];rfl⟩,HS5⟩
        case measure => simp [intOf];omega
     ·have h4b : (o.f0 != 4)=true:=by simpa using h4
      have e:=hm2.out h4
      clear hm1 hm2 h4
      go_upto_region 14 with (fail)
      rw [e]
      clear e h4b
      go_wp2_with (go_at_call 62;(with_reducible refine (layers_wires.calls o.f0 o.f1 _ _ o.f2 o.f3 o.f4 o.f5 ws _ (Kd.C_below HI2.out HS2.out.hb) HL2.out HW.out).mono ?_);clear f0c f1c f2c f3c f4c f5c;rintro e W3 ⟨v38,rfl,hv38,hb3⟩;obtain ⟨A38,c38,rfl,hl38,hi38⟩:=Kd.R_reads hv38)
      have HS3:=Aside0.mk (HS2.out.below hb3)
      have HV3:=Aside0.mk (Kd.R_lower hv38 HS2.out.hb.size)
      clear hb3 hv38 hi38 HS2 HB62 HV hl38
      go_loopw [11,40] (fun _ v40 wr => ∃ q : Nat,q≤ws.length∧v40=.int .i64 q∧Aside0 (EarlyS w wr g1 g3 #[.int .i64 a0_0,.int .i64 a0_1,.slice (some ad) n c0_2] (setL L (ws.take q) m') u4 out)∧Aside0 (Kd.R (Kd.int .i64) 3 wr w.heap.size (fun _ => True) (.slice A38 ws.length c38) ws)) (fun _ i _ => ws.length - (intOf i).toNat)
      case atStart => exact ⟨0,Nat.zero_le _,rfl,HS3,HV3⟩
      case round =>
       clear HS3 HV3
       obtain ⟨q,hq,rfl,HS3,HV3⟩:=hrel
       by_cases hqt : q < ws.length
       ·obtain ⟨ad2,e38,hcell0⟩:=(Kd.reads_of_C (enc:=Value.int .i64) (d:=(0 : Int)) (h1:=fun _ => rfl) (Kd.R_reads' HV3.out).2.2).2.2 (by omega)
        cases e38
        have hcell:=hcell0 q hqt
        rw [show ws.getD q 0=rd ws q by simp [rd]] at hcell
        have hx : 0≤rd ws q∧rd ws q < 128:=by
         have:=List.all_eq_true.1 HWO.out (ws[q]'hqt) (List.getElem_mem _)
         simp only [Bool.and_eq_true,decide_eq_true_eq] at this
         simpa [rd,List.getD_eq_getElem?_getD,List.getElem?_eq_getElem hqt] using this
        have hs:=setL_snoc L (ws.take q) (rd ws q) m'
        rw [← take_snoc_rd ws q hqt] at hs
        generalize rd ws q=x at hcell hx hs
        obtain ⟨hx0,hx1⟩:=hx
        have harr : wr.cell? ⟨g3,x.toNat,none⟩=some (.int .i64 (rd (setL L (ws.take q) m') x)):=by
         rw [blk_cell HS3.out.b3]
         simp [rd,List.getD_eq_getElem?_getD,List.getElem?_eq_getElem (show x.toNat < (setL L (ws.take q) m').length by rw [setL_len,HL.out];omega)]
        have hfr : wr.frozen? ⟨g3,x.toNat,none⟩=false:=blk_frozen HS3.out.b3 _
        have HSN:=Aside0.mk hs
        clear hcell0 hs
        go_wp2
        go_roundw
        case rel => exact ⟨q + 1,by omega,by go_num,⟨by rw [HSN.out];exact HS3.out.put x.toNat m'⟩,⟨Kd.R_set HV3.out HS3.out.b3 (by decide) _ _⟩⟩
        case measure => simp [intOf];omega
       ·obtain rfl : q=ws.length:=by omega
        rw [List.take_length] at *
        have hj8 : (out.length + 1) * 8≤140737488355328:=by have:=HJ.out;omega
        go_wp2_with ((with_reducible refine gate_builtin (b:=.append) (xs:=#[.tmp 48,.tmp 50]) rfl ?_);at_builtin;refine Kd.R_append (Kd.int .i64) (w0:=w) w.heap.size rfl (.tmp 48) (.tmp 50) 37 3 (.int .i64 0) 8 rfl Try.underlying37 info3 rfl (by decide) (by omega) u4 out m' [.int .i64 m'] (fun _ => True) (fun _ => False) rfl rfl rfl (fun _ hk => hk.elim) (fun _ _ => trivial) HS3.out.ho HS3.out.hb HS3.out.hb.size hj8 ?_;intro v51 w51 ho hb hg hat;have HS5:=Aside0.mk (HS3.out.grown hg hb ho);clear ho hb hg hat HS3 HV3)
        go_roundw
        case rel => exact ⟨j + 1,_,_,rest',by omega,by go_num,HRE,⟨by rw [List.append_assoc];exact HO.out⟩,⟨by rw [setL_len];exact HL.out⟩,⟨by rw [List.length_append,HJ.out];rfl⟩,HS5⟩
        case measure => simp [intOf];omega
  ·obtain rfl : j=n:=by omega
   have hr : out=r:=by
    have h2:=H.out
    rw [List.drop_eq_nil_of_le (by rw [HN.out];exact Nat.le_refl _)] at h2
    simp only [early_go] at h2
    obtain rfl:=Option.some.inj h2
    rw [← HO.out,List.append_nil]
   subst hr
   go_wp2
   go_ret
   exact ⟨_,rfl,HS.out.ho,HS.out.hb⟩
end Go.Proofs.Ytbelnopbggkdfaa.Q
end

section
namespace Go.Proofs.Ytbelnopbggkdfaa.Q
open Go.RowKit Go.Proofs.YtbelnopbggkdfaaW.PrintWords Go.Proofs.YtbelnopbggkdfaaW.PrintLast Go.Proofs.YtbelnopbggkdfaaW.PrintMore
attribute [local go_sem] max2_int min2_int max_two min_two max_three min_three max_four min_four   -- for this text's walks alone
set_option linter.unusedVariables false
set_option linter.unusedSimpArgs false
def layers_Early.f (k : Nat) (a0_0 : Int) (a0_1 : Int) (l0_2 : List (S46)) : Option (List Int × Int):=(layers_checked.f k a0_0 a0_1 l0_2).bind fun t490 => (if t490=0 then ((layers_early.f a0_0 a0_1 l0_2).bind fun t491 => (some (t491,0))) else (some (([] : List Int),t490)))
set_option maxHeartbeats 8000000 in
set_option maxRecDepth 100000 in
theorem layers_Early.calls (k : Nat) (a0_0 : Int) (a0_1 : Int) (A0_2 : Option Addr) (c0_2 : Nat) (l0_2 : List (S46)) (r1 : List Int) (r2 : Int) (w : World) (hr0_2 : Kd.C k46 w A0_2 l0_2.length l0_2) (hc0_2 : l0_2.length≤c0_2) (h : layers_Early.f k a0_0 a0_1 l0_2=some (r1,r2)) :
  Calls Try.prog 21 #[.agg #[.int .i64 a0_0,.int .i64 a0_1,.slice A0_2 l0_2.length c0_2]] w fun e w' => ∃ v0_ : Value,e=.returned (.tuple #[v0_,.int .i64 r2])∧Kd.R (Kd.int .i64) 3 w' w.heap.size (fun _ => True) v0_ r1∧Below w.heap.size w w':=by
 have hu24:=Try.underlying24
 have HR0_2:=Aside0.mk hr0_2
 have HC0_2:=Aside0.mk hc0_2
 clear hr0_2 hc0_2
 have HB:=Aside0.mk (Below.refl w.heap.size w)
 have H : ((layers_checked.f k a0_0 a0_1 l0_2).bind fun t490 => (if t490=0 then ((layers_early.f a0_0 a0_1 l0_2).bind fun t491 => (some (t491,0))) else (some (([] : List Int),t490))))=some (r1,r2):=h
 clear h
 replace H:=Option.bind_eq_some_iff.mp H
 obtain ⟨t490,A20,H⟩:=H
 replace H : (if t490=0 then ((layers_early.f a0_0 a0_1 l0_2).bind fun t491 => (some (t491,0))) else (some (([] : List Int),t490)))=some (r1,r2):=H
 have A2:=Aside0.mk A20
 clear A20
 by_cases c3 : t490=0
 ·rw [if_pos c3] at H
  have c3b0 : (t490 == 0)=true:=beq_iff_eq.mpr c3
  have c3b1 : (t490 != 0)=false:=bne_eq_false_iff_eq.mpr c3
  clear c3
  replace H:=Option.bind_eq_some_iff.mp H
  obtain ⟨t491,A40,H⟩:=H
  replace H : (some (t491,0))=some (r1,r2):=H
  have A4:=Aside0.mk A40
  clear A40
  simp only [Option.some.injEq,Prod.mk.injEq] at H
  obtain ⟨rfl,rfl⟩:=H
  go_enter Try.func21,Try.ntmps21
  go_wp2_with (first|((with_reducible refine gate_dst (N:=1) rfl ?_);refine box_event ?hg (N:=1) ?hd (cs:=#[.int .i64 a0_0,.int .i64 a0_1,.slice A0_2 l0_2.length c0_2]) (t:=24) ?hr ?_;(case hd => rfl);(case hg => rfl);(case hr => first|(go_simp;done)|(go_simp;rfl));intro gb489 hg w5 hbox hb;have n0_:=Aside0.mk (below_step (by repeat (first|(with_reducible first|exact HB.out|apply below_alloc|apply pw_below_drewN|apply below_drew1)|exact HB.out)) hb);have n1_:=Aside0.mk (hbox);have n2_:=Aside0.mk ((by rw [hg];exact (below_size (by repeat (first|(with_reducible first|exact HB.out|apply below_alloc|apply pw_below_drewN|apply below_drew1)|exact HB.out))) : w.heap.size≤gb489));have n3_:=Aside0.mk ((by rw [hg];exact (below_size (by repeat (first|(with_reducible first|exact HB.out|apply below_alloc|apply pw_below_drewN|apply below_drew1)|exact HB.out))) : w.heap.size≤gb489));clear HB;have HB:=n0_;have BK489:=n1_;have GW489:=n2_;have GE489:=n3_;clear n0_ n1_ n2_ n3_;clear hb hbox hg;have hcz6_0 : w5.cell? ⟨gb489,0,none⟩=some (.int .i64 a0_0):=(blk_cell BK489.out 0).trans rfl;have hcz6_1 : w5.cell? ⟨gb489,1,none⟩=some (.int .i64 a0_1):=(blk_cell BK489.out 1).trans rfl;have hcz6_2 : w5.cell? ⟨gb489,2,none⟩=some (.slice A0_2 l0_2.length c0_2):=(blk_cell BK489.out 2).trans rfl;have hfz6_0:=blk_frozen BK489.out 0;have hfz6_1:=blk_frozen BK489.out 1;have hfz6_2:=blk_frozen BK489.out 2)|((with_reducible refine gate_callee (f:=60) rfl ?_);refine goesL_ (some 6) rfl rfl Try.func60 (by kernel_rfl) rfl #[.agg #[.int .i64 a0_0,.int .i64 a0_1,.slice A0_2 l0_2.length c0_2]] rfl (by (try simp only [List.map_toArray,List.map_cons,List.map_nil]);first|done|rfl|(simp only [List.length_drop,List.length_take];rfl)) ?_;(with_reducible refine (layers_checked.calls k a0_0 a0_1 _ _ l0_2 t490 _ ?side1 ?side2 A2.out).mono ?_);(case side1 => repeat (first|exact (Kd.C_below HR0_2.out HB.out)|(with_reducible refine Kd.C_alloc ?_ _)|(with_reducible refine Kd.C_drewN ?_ _)|(with_reducible refine Kd.C_drew ?_)));(case side2 => exact HC0_2.out);rintro e w7 ⟨rfl,hb⟩;refine ⟨_,rfl,?_⟩;have n0_:=Aside0.mk (blk_below (g:=gb489) (o:=.cells #[.int .i64 a0_0,.int .i64 a0_1,.slice A0_2 l0_2.length c0_2] 24 (0,0)) (by (with_reducible repeat (first|refine blk_drewN ?_ _|refine blk_drew ?_|refine blk_alloc ?_ _));exact BK489.out) hb);have n1_:=Aside0.mk (below_step (by repeat (first|(with_reducible first|exact HB.out|apply below_alloc|apply pw_below_drewN|apply below_drew1|refine below_set ?_ GE489.out)|exact HB.out)) hb);clear BK489;clear HB;have BK489:=n0_;have HB:=n1_;clear n0_ n1_;(try clear hb);(try clear hb2);(try clear hk);(try clear hi);have hcz8_0 : w7.cell? ⟨gb489,0,none⟩=some (.int .i64 a0_0):=(blk_cell BK489.out 0).trans rfl;have hcz8_1 : w7.cell? ⟨gb489,1,none⟩=some (.int .i64 a0_1):=(blk_cell BK489.out 1).trans rfl;have hcz8_2 : w7.cell? ⟨gb489,2,none⟩=some (.slice A0_2 l0_2.length c0_2):=(blk_cell BK489.out 2).trans rfl;have hfz8_0:=blk_frozen BK489.out 0;have hfz8_1:=blk_frozen BK489.out 1;have hfz8_2:=blk_frozen BK489.out 2)|((with_reducible refine gate_callee (f:=61) rfl ?_);refine goesL_ (some 11) rfl rfl Try.func61 (by kernel_rfl) rfl #[.agg #[.int .i64 a0_0,.int .i64 a0_1,.slice A0_2 l0_2.length c0_2]] rfl (by (try simp only [List.map_toArray,List.map_cons,List.map_nil]);first|done|rfl|(simp only [List.length_drop,List.length_take];rfl)) ?_;(with_reducible refine (layers_early.calls a0_0 a0_1 _ _ l0_2 t491 _ ?side1 ?side2 A4.out).mono ?_);(case side1 => repeat (first|exact (Kd.C_below HR0_2.out HB.out)|(with_reducible refine Kd.C_alloc ?_ _)|(with_reducible refine Kd.C_drewN ?_ _)|(with_reducible refine Kd.C_drew ?_)));(case side2 => exact HC0_2.out);rintro e w9 ⟨v492,rfl,ho0,hb⟩;refine ⟨_,rfl,?_⟩;have n0_:=Aside0.mk (Kd.R_lower ho0 (below_size (by repeat (first|(with_reducible first|exact HB.out|apply below_alloc|apply pw_below_drewN|apply below_drew1|refine below_set ?_ GE489.out)|exact HB.out))));have n1_:=Aside0.mk (blk_below (g:=gb489) (o:=.cells #[.int .i64 a0_0,.int .i64 a0_1,.slice A0_2 l0_2.length c0_2] 24 (0,0)) (by (with_reducible repeat (first|refine blk_drewN ?_ _|refine blk_drew ?_|refine blk_alloc ?_ _));exact BK489.out) hb);have n2_:=Aside0.mk (below_step (by repeat (first|(with_reducible first|exact HB.out|apply below_alloc|apply pw_below_drewN|apply below_drew1|refine below_set ?_ GE489.out)|exact HB.out)) hb);clear BK489;clear HB;have HO493:=n0_;have BK489:=n1_;have HB:=n2_;clear n0_ n1_ n2_;(try clear hb);(try clear hb2);(try clear hk);(try clear hi);(try clear ho0)))
  go_ret2
  exact ⟨_,by first|rfl|(simp [errW_none,errW_some] <;> rfl)|(simp [*,errW_none,errW_some] <;> rfl),by (with_reducible repeat (first|apply Kd.R_alloc|apply Kd.R_drewN|apply Kd.R_drew));exact HO493.out,by repeat (first|(with_reducible first|exact HB.out|apply below_alloc|apply pw_below_drewN|apply below_drew1|refine below_set ?_ GE489.out)|exact HB.out)⟩
 ·rw [if_neg c3] at H
  have c3b0 : (t490 == 0)=false:=beq_eq_false_iff_ne.mpr c3
  have c3b1 : (t490 != 0)=true:=bne_iff_ne.mpr c3
  simp only [Option.some.injEq,Prod.mk.injEq] at H
  obtain ⟨rfl,rfl⟩:=H
  go_enter Try.func21,Try.ntmps21
  go_wp2_with (first|((with_reducible refine gate_dst (N:=1) rfl ?_);refine box_event ?hg (N:=1) ?hd (cs:=#[.int .i64 a0_0,.int .i64 a0_1,.slice A0_2 l0_2.length c0_2]) (t:=24) ?hr ?_;(case hd => rfl);(case hg => rfl);(case hr => first|(go_simp;done)|(go_simp;rfl));intro gb489 hg w10 hbox hb;have n0_:=Aside0.mk (below_step (by repeat (first|(with_reducible first|exact HB.out|apply below_alloc|apply pw_below_drewN|apply below_drew1)|exact HB.out)) hb);have n1_:=Aside0.mk (hbox);have n2_:=Aside0.mk ((by rw [hg];exact (below_size (by repeat (first|(with_reducible first|exact HB.out|apply below_alloc|apply pw_below_drewN|apply below_drew1)|exact HB.out))) : w.heap.size≤gb489));have n3_:=Aside0.mk ((by rw [hg];exact (below_size (by repeat (first|(with_reducible first|exact HB.out|apply below_alloc|apply pw_below_drewN|apply below_drew1)|exact HB.out))) : w.heap.size≤gb489));clear HB;have HB:=n0_;have BK489:=n1_;have GW489:=n2_;have GE489:=n3_;clear n0_ n1_ n2_ n3_;clear hb hbox hg;have hcz11_0 : w10.cell? ⟨gb489,0,none⟩=some (.int .i64 a0_0):=(blk_cell BK489.out 0).trans rfl;have hcz11_1 : w10.cell? ⟨gb489,1,none⟩=some (.int .i64 a0_1):=(blk_cell BK489.out 1).trans rfl;have hcz11_2 : w10.cell? ⟨gb489,2,none⟩=some (.slice A0_2 l0_2.length c0_2):=(blk_cell BK489.out 2).trans rfl;have hfz11_0:=blk_frozen BK489.out 0;have hfz11_1:=blk_frozen BK489.out 1;have hfz11_2:=blk_frozen BK489.out 2)|((with_reducible refine gate_callee (f:=60) rfl ?_);refine goesL_ (some 6) rfl rfl Try.func60 (by kernel_rfl) rfl #[.agg #[.int .i64 a0_0,.int .i64 a0_1,.slice A0_2 l0_2.length c0_2]] rfl (by (try simp only [List.map_toArray,List.map_cons,List.map_nil]);first|done|rfl|(simp only [List.length_drop,List.length_take];rfl)) ?_;(with_reducible refine (layers_checked.calls k a0_0 a0_1 _ _ l0_2 t490 _ ?side1 ?side2 A2.out).mono ?_);(case side1 => repeat (first|exact (Kd.C_below HR0_2.out HB.out)|(with_reducible refine Kd.C_alloc ?_ _)|(with_reducible refine Kd.C_drewN ?_ _)|(with_reducible refine Kd.C_drew ?_)));(case side2 => exact HC0_2.out);rintro e w12 ⟨rfl,hb⟩;refine ⟨_,rfl,?_⟩;have n0_:=Aside0.mk (blk_below (g:=gb489) (o:=.cells #[.int .i64 a0_0,.int .i64 a0_1,.slice A0_2 l0_2.length c0_2] 24 (0,0)) (by (with_reducible repeat (first|refine blk_drewN ?_ _|refine blk_drew ?_|refine blk_alloc ?_ _));exact BK489.out) hb);have n1_:=Aside0.mk (below_step (by repeat (first|(with_reducible first|exact HB.out|apply below_alloc|apply pw_below_drewN|apply below_drew1|refine below_set ?_ GE489.out)|exact HB.out)) hb);clear BK489;clear HB;have BK489:=n0_;have HB:=n1_;clear n0_ n1_;(try clear hb);(try clear hb2);(try clear hk);(try clear hi)))
  go_ret2
  exact ⟨_,by first|rfl|(simp [errW_none,errW_some] <;> rfl)|(simp [*,errW_none,errW_some] <;> rfl),by first|exact Kd.R_nil _ _ _ _ _|exact Kd.N_nil _ _ _ _ _|exact Kd.V_nil _ _ _ _ _|exact Kd.Q_nil _ _ _ _ _|exact Kd.S_nil _ _ _ _ _,by repeat (first|(with_reducible first|exact HB.out|apply below_alloc|apply pw_below_drewN|apply below_drew1|refine below_set ?_ GE489.out)|exact HB.out)⟩
end Go.Proofs.Ytbelnopbggkdfaa.Q
end

section
namespace Go.Proofs.Ytbelnopbggkdfaa.Q
open Go.RowKit Go.Proofs.YtbelnopbggkdfaaW.PrintWords Go.Proofs.YtbelnopbggkdfaaW.PrintLast Go.Proofs.YtbelnopbggkdfaaW.PrintMore
attribute [local go_sem] max2_int min2_int max_two min_two max_three min_three max_four min_four   -- for this text's walks alone
set_option linter.unusedVariables false
set_option linter.unusedSimpArgs false
def phasorref08_Op.f (a0_0 : Int) (a0_1 : Int) (l0_2 : List Int) (a0_3 : Int) (a0_4 : Int) (a0_5 : Int) (a1 : Int) (a2 : Int) : Option (Bool):=if (Lit.int .i64 a0_1).wf=true then some (mayC a0_0 a0_1 l0_2 a0_3 a0_4 a0_5 a1 a2) else none
theorem phasorref08_Op.calls (a0_0 : Int) (a0_1 : Int) (A0_2 : Option Addr) (c0_2 : Nat) (l0_2 : List Int) (a0_3 : Int) (a0_4 : Int) (a0_5 : Int) (a1 : Int) (a2 : Int) (r : Bool) (w : World) (hr0_2 : Kd.C (Kd.int .i64) w A0_2 l0_2.length l0_2) (hc0_2 : l0_2.length≤c0_2) (h : phasorref08_Op.f a0_0 a0_1 l0_2 a0_3 a0_4 a0_5 a1 a2=some r) :
  Calls Try.prog 81 #[.agg #[.int .i64 a0_0,.int .i64 a0_1,.slice A0_2 l0_2.length c0_2,.int .i64 a0_3,.int .i64 a0_4,.int .i64 a0_5],.int .i64 a1,.int .i64 a2] w fun e w' => e=.returned (.bool r)∧Below w.heap.size w w':=by
 unfold phasorref08_Op.f at h
 split at h
 ·rename_i hk
  obtain rfl:=Option.some.inj h
  exact rop_any a0_0 a0_1 A0_2 c0_2 l0_2 a0_3 a0_4 a0_5 a1 a2 w hk (isL_of_C hr0_2)
 ·cases h
end Go.Proofs.Ytbelnopbggkdfaa.Q
end

section
namespace Go.Proofs.Ytbelnopbggkdfaa.Q
open Go.RowKit Go.Proofs.YtbelnopbggkdfaaW.PrintWords Go.Proofs.YtbelnopbggkdfaaW.PrintLast Go.Proofs.YtbelnopbggkdfaaW.PrintMore
attribute [local go_sem] max2_int min2_int max_two min_two max_three min_three max_four min_four   -- for this text's walks alone
set_option linter.unusedVariables false
set_option linter.unusedSimpArgs false
mutual
def phasorref08_Check.j0 : Nat→Bool→Int→Int→List (S46)→Option (Int × Int)
 | 0,_,_,_,_ => none
 | k + 1,x28,x163000,x163001,x163002 => if x28=true then (some ((-1),80)) else (phasorref08_Check.l0 k 0 x163000 x163001 x163002)
def phasorref08_Check.l0 : Nat→Int→Int→Int→List (S46)→Option (Int × Int)
 | 0,_,_,_,_ => none
 | k + 1,x4,x163000,x163001,x163002 => if x4 < (x163002.length : Int) then (if 0≤x4 then ((phasorref08_Op.f ((rd_T46 x163002 x4).f0) ((rd_T46 x163002 x4).f1) ((rd_T46 x163002 x4).f2) ((rd_T46 x163002 x4).f3) ((rd_T46 x163002 x4).f4) ((rd_T46 x163002 x4).f5) x163000 x163001).bind fun t164 => (if t164=true then (phasorref08_Check.l0 k (wrap64 (x4 + 1)) x163000 x163001 x163002) else (some (x4,80)))) else (none)) else (some (0,0))
end
def phasorref08_Check.f (k : Nat) (a0_0 : Int) (a0_1 : Int) (l0_2 : List (S46)) : Option (Int × Int):=if a0_0 < 0 then (phasorref08_Check.j0 k true a0_0 a0_1 l0_2) else (if a0_0 > 64 then (phasorref08_Check.j0 k true a0_0 a0_1 l0_2) else (if a0_1 < 0 then (phasorref08_Check.j0 k true a0_0 a0_1 l0_2) else (if a0_1 > 64 then (phasorref08_Check.j0 k true a0_0 a0_1 l0_2) else (phasorref08_Check.j0 k (decide ((l0_2.length : Int) > 4096)) a0_0 a0_1 l0_2))))
def phasorref08_Check.T6 : Bool × List (List Nat × List Nat):=(true,[([],[]),([0],[0]),([],[]),([1,2],[1,2]),([3],[3]),([],[]),([5],[5]),([],[]),([7],[7]),([4,6,8],[4,6,8]),([9],[9])])
def phasorref08_Check.B6 : List Nat:=[0,1,0,7,15,0,32,0,128,511,1023]
theorem phasorref08_Check.tab6 : rtab .any (opsOf Try.f64 6)=phasorref08_Check.T6:=by kernel_rfl
theorem phasorref08_Check.bits6 : waitsOk phasorref08_Check.T6.2 phasorref08_Check.B6=true:=by kernel_rfl
set_option maxHeartbeats 8000000 in
set_option maxRecDepth 100000 in
theorem phasorref08_Check.calls (k : Nat) (a0_0 : Int) (a0_1 : Int) (A0_2 : Option Addr) (c0_2 : Nat) (l0_2 : List (S46)) (r1 : Int) (r2 : Int) (w : World) (hr0_2 : Kd.C k46 w A0_2 l0_2.length l0_2) (hc0_2 : l0_2.length≤c0_2) (h : phasorref08_Check.f k a0_0 a0_1 l0_2=some (r1,r2)) :
  Calls Try.prog 64 #[.agg #[.int .i64 a0_0,.int .i64 a0_1,.slice A0_2 l0_2.length c0_2]] w fun e w' => e=.returned (.tuple #[.int .i64 r1,.int .i64 r2])∧Below w.heap.size w w':=by
 have hu24:=Try.underlying24
 have hu46:=Try.underlying46
 have HR0_2:=Aside0.mk hr0_2
 have HC0_2:=Aside0.mk hc0_2
 clear hr0_2 hc0_2
 have HB:=Aside0.mk (Below.refl w.heap.size w)
 have H : (if a0_0 < 0 then (phasorref08_Check.j0 k true a0_0 a0_1 l0_2) else (if a0_0 > 64 then (phasorref08_Check.j0 k true a0_0 a0_1 l0_2) else (if a0_1 < 0 then (phasorref08_Check.j0 k true a0_0 a0_1 l0_2) else (if a0_1 > 64 then (phasorref08_Check.j0 k true a0_0 a0_1 l0_2) else (phasorref08_Check.j0 k (decide ((l0_2.length : Int) > 4096)) a0_0 a0_1 l0_2)))))=some (r1,r2):=h
 clear h
 have HC2:=Aside0.mk H
 clear H
 go_enter Try.func64,Try.ntmps64
 go_upto_region 1 with (first|((with_reducible refine gate_dst (N:=1) rfl ?_);(try (refine gate_guard (by rfl) ?_;dsimp only));refine box_event ?hg (N:=1) ?hd (cs:=#[.int .i64 a0_0,.int .i64 a0_1,.slice A0_2 l0_2.length c0_2]) (t:=24) ?hr ?_;(case hd => rfl);(case hg => rfl);(case hr => first|(go_simp;done)|(go_simp;rfl));intro gb162 hg w3 hbox hb;have n0_:=Aside0.mk (below_step (by repeat (first|(with_reducible first|exact HB.out|apply below_alloc|apply pw_below_drewN|apply below_drew1)|exact HB.out)) hb);have n1_:=Aside0.mk (hbox);have n2_:=Aside0.mk ((by rw [hg];exact (below_size (by repeat (first|(with_reducible first|exact HB.out|apply below_alloc|apply pw_below_drewN|apply below_drew1)|exact HB.out))) : w.heap.size≤gb162));have n3_:=Aside0.mk ((by rw [hg];exact (below_size (by repeat (first|(with_reducible first|exact HB.out|apply below_alloc|apply pw_below_drewN|apply below_drew1)|exact HB.out))) : w.heap.size≤gb162));clear HB;have HB:=n0_;have BK162:=n1_;have GW162:=n2_;have GE162:=n3_;clear n0_ n1_ n2_ n3_;clear hb hbox hg))
 (try simp only [Act.put,List.setIfInBounds_toArray,List.set_cons_zero,List.set_cons_succ])
 go_cut [28] (fun v28 wc => ∃ (kq : Nat) (x28_1 : Bool),v28=.bool x28_1∧Aside0 (phasorref08_Check.j0 kq x28_1 a0_0 a0_1 l0_2=some (r1,r2))∧Aside0 (kq≤k)∧Aside0 (wc.heap[gb162]?=some (.cells #[.int .i64 a0_0,.int .i64 a0_1,(.slice A0_2 l0_2.length c0_2)] 24 (0,0)))∧Aside0 (Below w.heap.size w wc))
 case first =>
  have H:=HC2.out
  clear HC2
  by_cases c4 : a0_0 < 0
  ·rw [if_pos c4] at H
   have c4b0 : decide (a0_0 < 0)=true:=decide_eq_true c4
   clear c4
   (first|rw [c4b0]|(simp only [i64_w,i32_w];rw [c4b0])|skip)
   have H':=Aside0.mk H
   clear H
   have hcz5_0 : w3.cell? ⟨gb162,0,none⟩=some (.int .i64 a0_0):=(blk_cell BK162.out 0).trans rfl
   have hcz5_1 : w3.cell? ⟨gb162,1,none⟩=some (.int .i64 a0_1):=(blk_cell BK162.out 1).trans rfl
   have hcz5_2 : w3.cell? ⟨gb162,2,none⟩=some (.slice A0_2 l0_2.length c0_2):=(blk_cell BK162.out 2).trans rfl
   have hfz5_0:=blk_frozen BK162.out 0
   have hfz5_1:=blk_frozen BK162.out 1
   have hfz5_2:=blk_frozen BK162.out 2
   go_wp2
   go_meet
   case rel => exact ⟨_,(true),(by first|rfl|(simp;done)|(simp [*];done)),H',⟨by first|omega|exact Nat.le_refl _⟩,⟨by (with_reducible repeat (first|refine blk_drewN ?_ _|refine blk_drew ?_|refine blk_alloc ?_ _));exact BK162.out⟩,⟨by repeat (first|(with_reducible first|exact HB.out|apply below_alloc|apply pw_below_drewN|apply below_drew1|refine below_set ?_ GE162.out)|exact HB.out)⟩⟩
  ·rw [if_neg c4] at H
   have c4b0 : decide (a0_0 < 0)=false:=decide_eq_false c4
   clear c4
   (first|rw [c4b0]|(simp only [i64_w,i32_w];rw [c4b0])|skip)
   by_cases c6 : a0_0 > 64
   ·rw [if_pos c6] at H
    have c6b0 : decide (64 < a0_0)=true:=decide_eq_true c6
    clear c6
    have H':=Aside0.mk H
    clear H
    have hcz7_0 : w3.cell? ⟨gb162,0,none⟩=some (.int .i64 a0_0):=(blk_cell BK162.out 0).trans rfl
    have hcz7_1 : w3.cell? ⟨gb162,1,none⟩=some (.int .i64 a0_1):=(blk_cell BK162.out 1).trans rfl
    have hcz7_2 : w3.cell? ⟨gb162,2,none⟩=some (.slice A0_2 l0_2.length c0_2):=(blk_cell BK162.out 2).trans rfl
    have hfz7_0:=blk_frozen BK162.out 0
    have hfz7_1:=blk_frozen BK162.out 1
    have hfz7_2:=blk_frozen BK162.out 2
    go_wp2
    go_meet
    case rel => exact ⟨_,(true),(by first|rfl|(simp;done)|(simp [*];done)),H',⟨by first|omega|exact Nat.le_refl _⟩,⟨by (with_reducible repeat (first|refine blk_drewN ?_ _|refine blk_drew ?_|refine blk_alloc ?_ _));exact BK162.out⟩,⟨by repeat (first|(with_reducible first|exact HB.out|apply below_alloc|apply pw_below_drewN|apply below_drew1|refine below_set ?_ GE162.out)|exact HB.out)⟩⟩
   ·rw [if_neg c6] at H
    have c6b0 : decide (64 < a0_0)=false:=decide_eq_false c6
    clear c6
    by_cases c8 : a0_1 < 0
    ·rw [if_pos c8] at H
     have c8b0 : decide (a0_1 < 0)=true:=decide_eq_true c8
     clear c8
     have H':=Aside0.mk H
     clear H
     have hcz9_0 : w3.cell? ⟨gb162,0,none⟩=some (.int .i64 a0_0):=(blk_cell BK162.out 0).trans rfl
     have hcz9_1 : w3.cell? ⟨gb162,1,none⟩=some (.int .i64 a0_1):=(blk_cell BK162.out 1).trans rfl
     have hcz9_2 : w3.cell? ⟨gb162,2,none⟩=some (.slice A0_2 l0_2.length c0_2):=(blk_cell BK162.out 2).trans rfl
     have hfz9_0:=blk_frozen BK162.out 0
     have hfz9_1:=blk_frozen BK162.out 1
     have hfz9_2:=blk_frozen BK162.out 2
     go_wp2
     go_meet
     case rel => exact ⟨_,(true),(by first|rfl|(simp;done)|(simp [*];done)),H',⟨by first|omega|exact Nat.le_refl _⟩,⟨by (with_reducible repeat (first|refine blk_drewN ?_ _|refine blk_drew ?_|refine blk_alloc ?_ _));exact BK162.out⟩,⟨by repeat (first|(with_reducible first|exact HB.out|apply below_alloc|apply pw_below_drewN|apply below_drew1|refine below_set ?_ GE162.out)|exact HB.out)⟩⟩
    ·rw [if_neg c8] at H
     have c8b0 : decide (a0_1 < 0)=false:=decide_eq_false c8
     clear c8
     by_cases c10 : a0_1 > 64
     ·rw [if_pos c10] at H
      have c10b0 : decide (64 < a0_1)=true:=decide_eq_true c10
      clear c10
      have H':=Aside0.mk H
      clear H
      have hcz11_0 : w3.cell? ⟨gb162,0,none⟩=some (.int .i64 a0_0):=(blk_cell BK162.out 0).trans rfl
      have hcz11_1 : w3.cell? ⟨gb162,1,none⟩=some (.int .i64 a0_1):=(blk_cell BK162.out 1).trans rfl
      have hcz11_2 : w3.cell? ⟨gb162,2,none⟩=some (.slice A0_2 l0_2.length c0_2):=(blk_cell BK162.out 2).trans rfl
      have hfz11_0:=blk_frozen BK162.out 0
      have hfz11_1:=blk_frozen BK162.out 1
      have hfz11_2:=blk_frozen BK162.out 2
      go_wp2
      go_meet
      case rel => exact ⟨_,(true),(by first|rfl|(simp;done)|(simp [*];done)),H',⟨by first|omega|exact Nat.le_refl _⟩,⟨by (with_reducible repeat (first|refine blk_drewN ?_ _|refine blk_drew ?_|refine blk_alloc ?_ _));exact BK162.out⟩,⟨by repeat (first|(with_reducible first|exact HB.out|apply below_alloc|apply pw_below_drewN|apply below_drew1|refine below_set ?_ GE162.out)|exact HB.out)⟩⟩
     ·rw [if_neg c10] at H
      have c10b0 : decide (64 < a0_1)=false:=decide_eq_false c10
      clear c10
      have H':=Aside0.mk H
      clear H
      have hcz12_0 : w3.cell? ⟨gb162,0,none⟩=some (.int .i64 a0_0):=(blk_cell BK162.out 0).trans rfl
      have hcz12_1 : w3.cell? ⟨gb162,1,none⟩=some (.int .i64 a0_1):=(blk_cell BK162.out 1).trans rfl
      have hcz12_2 : w3.cell? ⟨gb162,2,none⟩=some (.slice A0_2 l0_2.length c0_2):=(blk_cell BK162.out 2).trans rfl
      have hfz12_0:=blk_frozen BK162.out 0
      have hfz12_1:=blk_frozen BK162.out 1
      have hfz12_2:=blk_frozen BK162.out 2
      go_wp2
      go_meet
      case rel => exact ⟨_,(decide ((l0_2.length : Int) > 4096)),(by first|rfl|(simp;done)|(simp [*];done)),H',⟨by first|omega|exact Nat.le_refl _⟩,⟨by (with_reducible repeat (first|refine blk_drewN ?_ _|refine blk_drew ?_|refine blk_alloc ?_ _));exact BK162.out⟩,⟨by repeat (first|(with_reducible first|exact HB.out|apply below_alloc|apply pw_below_drewN|apply below_drew1|refine below_set ?_ GE162.out)|exact HB.out)⟩⟩
 case rest =>
  clear HC2
  try clear c1
  try clear p2
  try clear c4
  try clear c4b0
  try clear c6
  try clear c6b0
  try clear c8
  try clear c8b0
  try clear c10
  try clear c10b0
  try clear hcz11_0
  try clear hcz11_1
  try clear hcz11_2
  try clear hcz12_0
  try clear hcz12_1
  try clear hcz12_2
  try clear hcz5_0
  try clear hcz5_1
  try clear hcz5_2
  try clear hcz7_0
  try clear hcz7_1
  try clear hcz7_2
  try clear hcz9_0
  try clear hcz9_1
  try clear hcz9_2
  try clear hfz11_0
  try clear hfz11_1
  try clear hfz11_2
  try clear hfz12_0
  try clear hfz12_1
  try clear hfz12_2
  try clear hfz5_0
  try clear hfz5_1
  try clear hfz5_2
  try clear hfz7_0
  try clear hfz7_1
  try clear hfz7_2
  try clear hfz9_0
  try clear hfz9_1
  try clear hfz9_2
  obtain ⟨kq,x28_1,rfl,HA,HJ1,BK162,HB⟩:=hcut
  cases kq with
  | zero => exact absurd HA.out (by simp [phasorref08_Check.j0])
  | succ kj1 =>
   have H:=HA.out
   clear HA
   simp only [phasorref08_Check.j0] at H
   by_cases c13 : x28_1=true
   ·subst c13
    have H1 : (some ((-1),80))=some (r1,r2):=by rw [if_pos rfl] at H;exact H
    clear H
    have H:=H1
    clear H1
    simp only [Option.some.injEq,Prod.mk.injEq] at H
    obtain ⟨rfl,rfl⟩:=H
    go_wp2
    go_ret2
    exact ⟨by first|rfl|(simp [errW_none,errW_some] <;> rfl)|(simp [*,errW_none,errW_some] <;> rfl),by repeat (first|(with_reducible first|exact HB.out|apply below_alloc|apply pw_below_drewN|apply below_drew1|refine below_set ?_ GE162.out)|exact HB.out)⟩
   ·replace c13:=Bool.eq_false_iff.mpr c13
    subst c13
    have H1 : (phasorref08_Check.l0 kj1 0 a0_0 a0_1 l0_2)=some (r1,r2):=by rw [if_neg (show ¬ (false=true) by decide)] at H;exact H
    clear H
    have H:=H1
    clear H1
    have H':=Aside0.mk H
    clear H
    go_wp2
    go_loopg [4] kj1 (fun kq v4 w' => ∃ (x4_2 : Int),v4=.int .i64 x4_2∧Aside0 (phasorref08_Check.l0 kq x4_2 a0_0 a0_1 l0_2=some (r1,r2))∧Aside0 (kq≤kj1)∧Aside0 (w'.heap[gb162]?=some (.cells #[.int .i64 a0_0,.int .i64 a0_1,(.slice A0_2 l0_2.length c0_2)] 24 (0,0)))∧Aside0 (Below w.heap.size w w'))
    case atStart => exact ⟨(0),(by first|rfl|(simp;done)|(simp [*];done)),H',⟨Nat.le_refl _⟩,⟨by (with_reducible repeat (first|refine blk_drewN ?_ _|refine blk_drew ?_|refine blk_alloc ?_ _));exact BK162.out⟩,⟨by repeat (first|(with_reducible first|exact HB.out|apply below_alloc|apply pw_below_drewN|apply below_drew1|refine below_set ?_ GE162.out)|exact HB.out)⟩⟩
    case round =>
     clear H'
     try clear c1
     try clear p2
     try clear c4
     try clear c4b0
     try clear c6
     try clear c6b0
     try clear c8
     try clear c8b0
     try clear c10
     try clear c10b0
     try clear c13
     try clear hcz11_0
     try clear hcz11_1
     try clear hcz11_2
     try clear hcz12_0
     try clear hcz12_1
     try clear hcz12_2
     try clear hcz5_0
     try clear hcz5_1
     try clear hcz5_2
     try clear hcz7_0
     try clear hcz7_1
     try clear hcz7_2
     try clear hcz9_0
     try clear hcz9_1
     try clear hcz9_2
     try clear hfz11_0
     try clear hfz11_1
     try clear hfz11_2
     try clear hfz12_0
     try clear hfz12_1
     try clear hfz12_2
     try clear hfz5_0
     try clear hfz5_1
     try clear hfz5_2
     try clear hfz7_0
     try clear hfz7_1
     try clear hfz7_2
     try clear hfz9_0
     try clear hfz9_1
     try clear hfz9_2
     try clear p2
     obtain ⟨x4_2,rfl,HA,HK2,BK162,HB⟩:=hrel
     cases gk with
     | zero => exact absurd HA.out (by simp [phasorref08_Check.l0])
     | succ k2 =>
      have H:=HA.out
      clear HA
      simp only [phasorref08_Check.l0] at H
      by_cases c14 : x4_2 < (l0_2.length : Int)
      ·rw [if_pos c14] at H
       have c14b0 : decide (x4_2 < (l0_2.length : Int))=true:=decide_eq_true c14
       clear c14
       by_cases c15 : 0≤x4_2
       ·rw [if_pos c15] at H
        have c15b0 : decide (0≤x4_2)=true:=decide_eq_true c15
        clear c15
        replace H:=Option.bind_eq_some_iff.mp H
        obtain ⟨t164,A160,H⟩:=H
        replace H : (if t164=true then (phasorref08_Check.l0 k2 (wrap64 (x4_2 + 1)) a0_0 a0_1 l0_2) else (some (x4_2,80)))=some (r1,r2):=H
        have A16:=Aside0.mk A160
        clear A160
        by_cases c17 : t164=true
        ·subst c17
         have H1 : (phasorref08_Check.l0 k2 (wrap64 (x4_2 + 1)) a0_0 a0_1 l0_2)=some (r1,r2):=by rw [if_pos rfl] at H;exact H
         clear H
         have H:=H1
         clear H1
         have H':=Aside0.mk H
         clear H
         have hcz18_0 : wr.cell? ⟨gb162,0,none⟩=some (.int .i64 a0_0):=(blk_cell BK162.out 0).trans rfl
         have hcz18_1 : wr.cell? ⟨gb162,1,none⟩=some (.int .i64 a0_1):=(blk_cell BK162.out 1).trans rfl
         have hcz18_2 : wr.cell? ⟨gb162,2,none⟩=some (.slice A0_2 l0_2.length c0_2):=(blk_cell BK162.out 2).trans rfl
         have hfz18_0:=blk_frozen BK162.out 0
         have hfz18_1:=blk_frozen BK162.out 1
         have hfz18_2:=blk_frozen BK162.out 2
         try go_wp2
         have n0_:=Aside0.mk (blk_drew BK162.out)
         have n1_:=Aside0.mk (below_drew1 HB.out)
         clear BK162
         clear HB
         have BK162:=n0_
         have HB:=n1_
         clear n0_ n1_
         have p163 : 0≤(x4_2 : Int):=of_decide_eq_true (by first|(with_reducible assumption)|assumption)
         have q163 : x4_2 < (l0_2.length : Int):=of_decide_eq_true (by first|(with_reducible assumption)|assumption)
         obtain ⟨ad163,A163_2,c163_2,e163,hx163_0,hx163_1,hx163_2,hx163_3,hx163_4,hx163_5,hl163_2,hi163_2⟩:=at_T46 HR0_2.out x4_2 p163 q163
         have hw163_5:=hx163_5
         have hw163_4:=hx163_4
         have hw163_3:=hx163_3
         have hw163_2:=hx163_2
         have hw163_1:=hx163_1
         have hw163_0:=hx163_0
         cases e163
         replace hx163_0:=(HB.out.cell (World.block_lt_of_cell? w _ hx163_0)).trans hx163_0
         replace hx163_1:=(HB.out.cell (World.block_lt_of_cell? w _ hx163_1)).trans hx163_1
         replace hx163_2:=(HB.out.cell (World.block_lt_of_cell? w _ hx163_2)).trans hx163_2
         replace hx163_3:=(HB.out.cell (World.block_lt_of_cell? w _ hx163_3)).trans hx163_3
         replace hx163_4:=(HB.out.cell (World.block_lt_of_cell? w _ hx163_4)).trans hx163_4
         replace hx163_5:=(HB.out.cell (World.block_lt_of_cell? w _ hx163_5)).trans hx163_5
         have HR163_2:=Aside0.mk hi163_2
         have HC163_2:=Aside0.mk hl163_2
         clear hi163_2 hl163_2
         replace p163:=eq_true p163
         replace q163:=eq_true q163
         refine start_ (n:=11) (S:=fun w' => w'.cell? ⟨gb162,0,none⟩=some (.int .i64 a0_0)∧w'.cell? ⟨gb162,1,none⟩=some (.int .i64 a0_1)∧w'.cell? ⟨gb162,2,none⟩=some (.slice (some ad163) l0_2.length c0_2)∧w'.cell? (ad163.add ((x4_2).toNat * 6))=some (.int .i64 ((rd_T46 l0_2 x4_2).f0))∧w'.cell? ⟨(ad163.add ((x4_2).toNat * 6)).block,(ad163.add ((x4_2).toNat * 6)).off + 1,none⟩=some (.int .i64 ((rd_T46 l0_2 x4_2).f1))∧w'.cell? ⟨(ad163.add ((x4_2).toNat * 6)).block,(ad163.add ((x4_2).toNat * 6)).off + 2,none⟩=some (.slice A163_2 ((rd_T46 l0_2 x4_2).f2).length c163_2)∧w'.cell? ⟨(ad163.add ((x4_2).toNat * 6)).block,(ad163.add ((x4_2).toNat * 6)).off + 3,none⟩=some (.int .i64 ((rd_T46 l0_2 x4_2).f3))∧w'.cell? ⟨(ad163.add ((x4_2).toNat * 6)).block,(ad163.add ((x4_2).toNat * 6)).off + 4,none⟩=some (.int .i64 ((rd_T46 l0_2 x4_2).f4))∧w'.cell? ⟨(ad163.add ((x4_2).toNat * 6)).block,(ad163.add ((x4_2).toNat * 6)).off + 5,none⟩=some (.int .i64 ((rd_T46 l0_2 x4_2).f5))) (ds:=[]) #[false,false,false,false,false,false,false,false,false,false,false] (by kernel_rfl) rfl rfl ⟨(blk_cell BK162.out 0).trans rfl,(blk_cell BK162.out 1).trans rfl,(blk_cell BK162.out 2).trans rfl,((HB.out.cell (World.block_lt_of_cell? w _ hw163_0)).trans hw163_0),((HB.out.cell (World.block_lt_of_cell? w _ hw163_1)).trans hw163_1),((HB.out.cell (World.block_lt_of_cell? w _ hw163_2)).trans hw163_2),((HB.out.cell (World.block_lt_of_cell? w _ hw163_3)).trans hw163_3),((HB.out.cell (World.block_lt_of_cell? w _ hw163_4)).trans hw163_4),((HB.out.cell (World.block_lt_of_cell? w _ hw163_5)).trans hw163_5)⟩ (fun hHeld => ?_);refine with_tabW phasorref08_Check.tab6 phasorref08_Check.bits6 (fun HT_ HW_ => ?_)
         generalize wr.drew=w19 at BK162 HB HR163_2 hx163_0 hx163_1 hx163_2 hx163_3 hx163_4 hx163_5 hHeld ⊢
         refine pure_ (i:=0) (N:=some 36) (v:=?_) (a':=?_) #[true,false,false,false,false,false,false,false,false,false,false] rfl rfl (any_of HT_.out (by kernel_rfl)) (fun _ _ _ h => h) (Or.inl ⟨by rfl,?_⟩) ?_ ?_
         rotate_left
         ·intro w'
          go_simp
          with_reducible rfl
         rotate_left
         ·simp only [Act.put,List.setIfInBounds_toArray,List.set_cons_zero,List.set_cons_succ,i64_w,i32_w]
          rfl
         refine pure_ (i:=2) (N:=some 38) (v:=?_) (a':=?_) #[true,false,true,false,false,false,false,false,false,false,false] rfl rfl (any_of HT_.out (by kernel_rfl)) (fun _ _ _ h => h) (Or.inl ⟨by rfl,?_⟩) ?_ ?_
         rotate_left
         ·intro w'
          go_simp
          with_reducible rfl
         rotate_left
         ·simp only [Act.put,List.setIfInBounds_toArray,List.set_cons_zero,List.set_cons_succ,i64_w,i32_w]
          rfl
         refine pure_ (i:=5) (N:=some 41) (v:=?_) (a':=?_) #[true,false,true,false,false,true,false,false,false,false,false] rfl rfl (any_of HT_.out (by kernel_rfl)) (fun _ _ _ h => h) (Or.inl ⟨by rfl,?_⟩) ?_ ?_
         rotate_left
         ·intro w'
          go_simp
          with_reducible rfl
         rotate_left
         ·simp only [Act.put,List.setIfInBounds_toArray,List.set_cons_zero,List.set_cons_succ,i64_w,i32_w]
          rfl
         refine pure_ (i:=7) (N:=some 43) (v:=?_) (a':=?_) #[true,false,true,false,false,true,false,true,false,false,false] rfl rfl (any_of HT_.out (by kernel_rfl)) (fun _ _ _ h => h) (Or.inl ⟨by rfl,?_⟩) ?_ ?_
         rotate_left
         ·intro w'
          go_simp
          with_reducible rfl
         rotate_left
         ·simp only [Act.put,List.setIfInBounds_toArray,List.set_cons_zero,List.set_cons_succ,i64_w,i32_w]
          rfl
         refine take_ (i:=1) (N:=some 37) (v:=?_) (a':=?_) #[true,true,true,false,false,true,false,true,false,false,false] rfl rfl (take_ofW HT_.out HW_.out (by kernel_rfl)) (fun _ _ _ h => h) (Or.inl ⟨by rfl,?_⟩) hHeld ?_ ?_
         rotate_left
         ·rintro w' ⟨s0,s1,s2,s3,s4,s5,s6,s7,s8⟩
          go_simp
          with_reducible rfl
         rotate_left
         ·simp only [Act.put,List.setIfInBounds_toArray,List.set_cons_zero,List.set_cons_succ,i64_w,i32_w]
          rfl
         refine pure_ (i:=3) (N:=some 39) (v:=?_) (a':=?_) #[true,true,true,true,false,true,false,true,false,false,false] rfl rfl (any_of HT_.out (by kernel_rfl)) (fun _ _ _ h => h) (Or.inl ⟨by rfl,?_⟩) ?_ ?_
         rotate_left
         ·intro w'
          go_simp
          with_reducible rfl
         rotate_left
         ·simp only [Act.put,List.setIfInBounds_toArray,List.set_cons_zero,List.set_cons_succ,i64_w,i32_w]
          rfl
         refine take_ (i:=4) (N:=some 40) (v:=?_) (a':=?_) #[true,true,true,true,true,true,false,true,false,false,false] rfl rfl (take_ofW HT_.out HW_.out (by kernel_rfl)) (fun _ _ _ h => h) (Or.inl ⟨by rfl,?_⟩) hHeld ?_ ?_
         rotate_left
         ·rintro w' ⟨s0,s1,s2,s3,s4,s5,s6,s7,s8⟩
          go_simp
          with_reducible rfl
         rotate_left
         ·simp only [Act.put,List.setIfInBounds_toArray,List.set_cons_zero,List.set_cons_succ,i64_w,i32_w]
          rfl
         refine take_ (i:=6) (N:=some 42) (v:=?_) (a':=?_) #[true,true,true,true,true,true,true,true,false,false,false] rfl rfl (take_ofW HT_.out HW_.out (by kernel_rfl)) (fun _ _ _ h => h) (Or.inl ⟨by rfl,?_⟩) hHeld ?_ ?_
         rotate_left
         ·rintro w' ⟨s0,s1,s2,s3,s4,s5,s6,s7,s8⟩
          go_simp
          with_reducible rfl
         rotate_left
         ·simp only [Act.put,List.setIfInBounds_toArray,List.set_cons_zero,List.set_cons_succ,i64_w,i32_w]
          rfl
         refine take_ (i:=8) (N:=some 44) (v:=?_) (a':=?_) #[true,true,true,true,true,true,true,true,true,false,false] rfl rfl (take_ofW HT_.out HW_.out (by kernel_rfl)) (fun _ _ _ h => h) (Or.inl ⟨by rfl,?_⟩) hHeld ?_ ?_
         rotate_left
         ·rintro w' ⟨s0,s1,s2,s3,s4,s5,s6,s7,s8⟩
          go_simp
          with_reducible rfl
         rotate_left
         ·simp only [Act.put,List.setIfInBounds_toArray,List.set_cons_zero,List.set_cons_succ,i64_w,i32_w]
          rfl
         refine one_ (i:=9) (N:=some 45) #[true,true,true,true,true,true,true,true,true,true,false] rfl rfl (one_of HT_.out (by kernel_rfl)) (by decide) (fun K hK => ?_)
         refine goes_ Try.func81 (by kernel_rfl) rfl #[.agg #[.int .i64 ((rd_T46 l0_2 x4_2).f0),.int .i64 ((rd_T46 l0_2 x4_2).f1),.slice A163_2 ((rd_T46 l0_2 x4_2).f2).length c163_2,.int .i64 ((rd_T46 l0_2 x4_2).f3),.int .i64 ((rd_T46 l0_2 x4_2).f4),.int .i64 ((rd_T46 l0_2 x4_2).f5)],.int .i64 a0_0,.int .i64 a0_1] (by rfl) rfl rfl (by (try simp only [List.map_toArray,List.map_cons,List.map_nil]);first|done|rfl|(simp only [List.length_drop,List.length_take];rfl)) ?_
         with_reducible refine (phasorref08_Op.calls ((rd_T46 l0_2 x4_2).f0) ((rd_T46 l0_2 x4_2).f1) _ _ ((rd_T46 l0_2 x4_2).f2) ((rd_T46 l0_2 x4_2).f3) ((rd_T46 l0_2 x4_2).f4) ((rd_T46 l0_2 x4_2).f5) a0_0 a0_1 true _ ?side1 ?side2 A16.out).mono ?_
         (case side1 => repeat (first|exact (Kd.C_below HR163_2.out HB.out)|(with_reducible refine Kd.C_alloc ?_ _)|(with_reducible refine Kd.C_drewN ?_ _)|(with_reducible refine Kd.C_drew ?_)))
         (case side2 => exact HC163_2.out)
         rintro e w20 ⟨rfl,hb⟩
         refine ⟨_,rfl,?_⟩
         have n0_:=Aside0.mk (blk_below (g:=gb162) (o:=.cells #[.int .i64 a0_0,.int .i64 a0_1,.slice (some ad163) l0_2.length c0_2] 24 (0,0)) (by (with_reducible repeat (first|refine blk_drewN ?_ _|refine blk_drew ?_|refine blk_alloc ?_ _));exact BK162.out) hb)
         have n1_:=Aside0.mk (below_step (by repeat (first|(with_reducible first|exact HB.out|apply below_alloc|apply pw_below_drewN|apply below_drew1|refine below_set ?_ GE162.out)|exact HB.out)) hb)
         clear BK162
         clear HB
         have BK162:=n0_
         have HB:=n1_
         clear n0_ n1_
         (try clear hb)
         (try clear hb2)
         (try clear hk)
         (try clear hi)
         refine hK.out _ _ ⟨(blk_cell BK162.out 0).trans rfl,(blk_cell BK162.out 1).trans rfl,(blk_cell BK162.out 2).trans rfl,((HB.out.cell (World.block_lt_of_cell? w _ hw163_0)).trans hw163_0),((HB.out.cell (World.block_lt_of_cell? w _ hw163_1)).trans hw163_1),((HB.out.cell (World.block_lt_of_cell? w _ hw163_2)).trans hw163_2),((HB.out.cell (World.block_lt_of_cell? w _ hw163_3)).trans hw163_3),((HB.out.cell (World.block_lt_of_cell? w _ hw163_4)).trans hw163_4),((HB.out.cell (World.block_lt_of_cell? w _ hw163_5)).trans hw163_5)⟩ (fun hHeld => ?_)
         clear hK K
         refine norm_ (a':=?_) ?_ ?_
         rotate_left
         ·show Act.put _ (some 45) _=_
          simp only [Act.put,List.setIfInBounds_toArray,List.set_cons_zero,List.set_cons_succ,i64_w,i32_w]
          rfl
         refine pure_ (i:=10) (N:=some 46) (v:=?_) (a':=?_) #[true,true,true,true,true,true,true,true,true,true,true] rfl rfl (any_of HT_.out (by kernel_rfl)) (fun _ _ _ h => h) (Or.inl ⟨by rfl,?_⟩) ?_ ?_
         rotate_left
         ·intro w'
          go_simp
          with_reducible rfl
         rotate_left
         ·simp only [Act.put,List.setIfInBounds_toArray,List.set_cons_zero,List.set_cons_succ,i64_w,i32_w]
          rfl
         refine done_ (done_of HT_.out (by kernel_rfl)) ?_
         try go_wp2
         go_roundg k2
         case measure => have:=HJ1.out;have:=HK2.out;omega
         case rel => exact ⟨(wrap64 (x4_2 + 1)),(by first|rfl|(simp;done)|(simp [*];done)),H',⟨by have:=HJ1.out;have:=HK2.out;omega⟩,⟨by (with_reducible repeat (first|refine blk_drewN ?_ _|refine blk_drew ?_|refine blk_alloc ?_ _));exact BK162.out⟩,⟨by repeat (first|(with_reducible first|exact HB.out|apply below_alloc|apply pw_below_drewN|apply below_drew1|refine below_set ?_ GE162.out)|exact HB.out)⟩⟩
        ·replace c17:=Bool.eq_false_iff.mpr c17
         subst c17
         have H1 : (some (x4_2,80))=some (r1,r2):=by rw [if_neg (show ¬ (false=true) by decide)] at H;exact H
         clear H
         have H:=H1
         clear H1
         simp only [Option.some.injEq,Prod.mk.injEq] at H
         obtain ⟨rfl,rfl⟩:=H
         have hcz21_0 : wr.cell? ⟨gb162,0,none⟩=some (.int .i64 a0_0):=(blk_cell BK162.out 0).trans rfl
         have hcz21_1 : wr.cell? ⟨gb162,1,none⟩=some (.int .i64 a0_1):=(blk_cell BK162.out 1).trans rfl
         have hcz21_2 : wr.cell? ⟨gb162,2,none⟩=some (.slice A0_2 l0_2.length c0_2):=(blk_cell BK162.out 2).trans rfl
         have hfz21_0:=blk_frozen BK162.out 0
         have hfz21_1:=blk_frozen BK162.out 1
         have hfz21_2:=blk_frozen BK162.out 2
         try go_wp2
         have n0_:=Aside0.mk (blk_drew BK162.out)
         have n1_:=Aside0.mk (below_drew1 HB.out)
         clear BK162
         clear HB
         have BK162:=n0_
         have HB:=n1_
         clear n0_ n1_
         have p163 : 0≤(x4_2 : Int):=of_decide_eq_true (by first|(with_reducible assumption)|assumption)
         have q163 : x4_2 < (l0_2.length : Int):=of_decide_eq_true (by first|(with_reducible assumption)|assumption)
         obtain ⟨ad163,A163_2,c163_2,e163,hx163_0,hx163_1,hx163_2,hx163_3,hx163_4,hx163_5,hl163_2,hi163_2⟩:=at_T46 HR0_2.out x4_2 p163 q163
         have hw163_5:=hx163_5
         have hw163_4:=hx163_4
         have hw163_3:=hx163_3
         have hw163_2:=hx163_2
         have hw163_1:=hx163_1
         have hw163_0:=hx163_0
         cases e163
         replace hx163_0:=(HB.out.cell (World.block_lt_of_cell? w _ hx163_0)).trans hx163_0
         replace hx163_1:=(HB.out.cell (World.block_lt_of_cell? w _ hx163_1)).trans hx163_1
         replace hx163_2:=(HB.out.cell (World.block_lt_of_cell? w _ hx163_2)).trans hx163_2
         replace hx163_3:=(HB.out.cell (World.block_lt_of_cell? w _ hx163_3)).trans hx163_3
         replace hx163_4:=(HB.out.cell (World.block_lt_of_cell? w _ hx163_4)).trans hx163_4
         replace hx163_5:=(HB.out.cell (World.block_lt_of_cell? w _ hx163_5)).trans hx163_5
         have HR163_2:=Aside0.mk hi163_2
         have HC163_2:=Aside0.mk hl163_2
         clear hi163_2 hl163_2
         replace p163:=eq_true p163
         replace q163:=eq_true q163
         refine start_ (n:=11) (S:=fun w' => w'.cell? ⟨gb162,0,none⟩=some (.int .i64 a0_0)∧w'.cell? ⟨gb162,1,none⟩=some (.int .i64 a0_1)∧w'.cell? ⟨gb162,2,none⟩=some (.slice (some ad163) l0_2.length c0_2)∧w'.cell? (ad163.add ((x4_2).toNat * 6))=some (.int .i64 ((rd_T46 l0_2 x4_2).f0))∧w'.cell? ⟨(ad163.add ((x4_2).toNat * 6)).block,(ad163.add ((x4_2).toNat * 6)).off + 1,none⟩=some (.int .i64 ((rd_T46 l0_2 x4_2).f1))∧w'.cell? ⟨(ad163.add ((x4_2).toNat * 6)).block,(ad163.add ((x4_2).toNat * 6)).off + 2,none⟩=some (.slice A163_2 ((rd_T46 l0_2 x4_2).f2).length c163_2)∧w'.cell? ⟨(ad163.add ((x4_2).toNat * 6)).block,(ad163.add ((x4_2).toNat * 6)).off + 3,none⟩=some (.int .i64 ((rd_T46 l0_2 x4_2).f3))∧w'.cell? ⟨(ad163.add ((x4_2).toNat * 6)).block,(ad163.add ((x4_2).toNat * 6)).off + 4,none⟩=some (.int .i64 ((rd_T46 l0_2 x4_2).f4))∧w'.cell? ⟨(ad163.add ((x4_2).toNat * 6)).block,(ad163.add ((x4_2).toNat * 6)).off + 5,none⟩=some (.int .i64 ((rd_T46 l0_2 x4_2).f5))) (ds:=[]) #[false,false,false,false,false,false,false,false,false,false,false] (by kernel_rfl) rfl rfl ⟨(blk_cell BK162.out 0).trans rfl,(blk_cell BK162.out 1).trans rfl,(blk_cell BK162.out 2).trans rfl,((HB.out.cell (World.block_lt_of_cell? w _ hw163_0)).trans hw163_0),((HB.out.cell (World.block_lt_of_cell? w _ hw163_1)).trans hw163_1),((HB.out.cell (World.block_lt_of_cell? w _ hw163_2)).trans hw163_2),((HB.out.cell (World.block_lt_of_cell? w _ hw163_3)).trans hw163_3),((HB.out.cell (World.block_lt_of_cell? w _ hw163_4)).trans hw163_4),((HB.out.cell (World.block_lt_of_cell? w _ hw163_5)).trans hw163_5)⟩ (fun hHeld => ?_);refine with_tabW phasorref08_Check.tab6 phasorref08_Check.bits6 (fun HT_ HW_ => ?_)
         generalize wr.drew=w22 at BK162 HB HR163_2 hx163_0 hx163_1 hx163_2 hx163_3 hx163_4 hx163_5 hHeld ⊢
         refine pure_ (i:=0) (N:=some 36) (v:=?_) (a':=?_) #[true,false,false,false,false,false,false,false,false,false,false] rfl rfl (any_of HT_.out (by kernel_rfl)) (fun _ _ _ h => h) (Or.inl ⟨by rfl,?_⟩) ?_ ?_
         rotate_left
         ·intro w'
          go_simp
          with_reducible rfl
         rotate_left
         ·simp only [Act.put,List.setIfInBounds_toArray,List.set_cons_zero,List.set_cons_succ,i64_w,i32_w]
          rfl
         refine pure_ (i:=2) (N:=some 38) (v:=?_) (a':=?_) #[true,false,true,false,false,false,false,false,false,false,false] rfl rfl (any_of HT_.out (by kernel_rfl)) (fun _ _ _ h => h) (Or.inl ⟨by rfl,?_⟩) ?_ ?_
         rotate_left
         ·intro w'
          go_simp
          with_reducible rfl
         rotate_left
         ·simp only [Act.put,List.setIfInBounds_toArray,List.set_cons_zero,List.set_cons_succ,i64_w,i32_w]
          rfl
         refine pure_ (i:=5) (N:=some 41) (v:=?_) (a':=?_) #[true,false,true,false,false,true,false,false,false,false,false] rfl rfl (any_of HT_.out (by kernel_rfl)) (fun _ _ _ h => h) (Or.inl ⟨by rfl,?_⟩) ?_ ?_
         rotate_left
         ·intro w'
          go_simp
          with_reducible rfl
         rotate_left
         ·simp only [Act.put,List.setIfInBounds_toArray,List.set_cons_zero,List.set_cons_succ,i64_w,i32_w]
          rfl
         refine pure_ (i:=7) (N:=some 43) (v:=?_) (a':=?_) #[true,false,true,false,false,true,false,true,false,false,false] rfl rfl (any_of HT_.out (by kernel_rfl)) (fun _ _ _ h => h) (Or.inl ⟨by rfl,?_⟩) ?_ ?_
         rotate_left
         ·intro w'
          go_simp
          with_reducible rfl
         rotate_left
         ·simp only [Act.put,List.setIfInBounds_toArray,List.set_cons_zero,List.set_cons_succ,i64_w,i32_w]
          rfl
         refine take_ (i:=1) (N:=some 37) (v:=?_) (a':=?_) #[true,true,true,false,false,true,false,true,false,false,false] rfl rfl (take_ofW HT_.out HW_.out (by kernel_rfl)) (fun _ _ _ h => h) (Or.inl ⟨by rfl,?_⟩) hHeld ?_ ?_
         rotate_left
         ·rintro w' ⟨s0,s1,s2,s3,s4,s5,s6,s7,s8⟩
          go_simp
          with_reducible rfl
         rotate_left
         ·simp only [Act.put,List.setIfInBounds_toArray,List.set_cons_zero,List.set_cons_succ,i64_w,i32_w]
          rfl
         refine pure_ (i:=3) (N:=some 39) (v:=?_) (a':=?_) #[true,true,true,true,false,true,false,true,false,false,false] rfl rfl (any_of HT_.out (by kernel_rfl)) (fun _ _ _ h => h) (Or.inl ⟨by rfl,?_⟩) ?_ ?_
         rotate_left
         ·intro w'
          go_simp
          with_reducible rfl
         rotate_left
         ·simp only [Act.put,List.setIfInBounds_toArray,List.set_cons_zero,List.set_cons_succ,i64_w,i32_w]
          rfl
         refine take_ (i:=4) (N:=some 40) (v:=?_) (a':=?_) #[true,true,true,true,true,true,false,true,false,false,false] rfl rfl (take_ofW HT_.out HW_.out (by kernel_rfl)) (fun _ _ _ h => h) (Or.inl ⟨by rfl,?_⟩) hHeld ?_ ?_
         rotate_left
         ·rintro w' ⟨s0,s1,s2,s3,s4,s5,s6,s7,s8⟩
          go_simp
          with_reducible rfl
         rotate_left
         ·simp only [Act.put,List.setIfInBounds_toArray,List.set_cons_zero,List.set_cons_succ,i64_w,i32_w]
          rfl
         refine take_ (i:=6) (N:=some 42) (v:=?_) (a':=?_) #[true,true,true,true,true,true,true,true,false,false,false] rfl rfl (take_ofW HT_.out HW_.out (by kernel_rfl)) (fun _ _ _ h => h) (Or.inl ⟨by rfl,?_⟩) hHeld ?_ ?_
         rotate_left
         ·rintro w' ⟨s0,s1,s2,s3,s4,s5,s6,s7,s8⟩
          go_simp
          with_reducible rfl
         rotate_left
         ·simp only [Act.put,List.setIfInBounds_toArray,List.set_cons_zero,List.set_cons_succ,i64_w,i32_w]
          rfl
         refine take_ (i:=8) (N:=some 44) (v:=?_) (a':=?_) #[true,true,true,true,true,true,true,true,true,false,false] rfl rfl (take_ofW HT_.out HW_.out (by kernel_rfl)) (fun _ _ _ h => h) (Or.inl ⟨by rfl,?_⟩) hHeld ?_ ?_
         rotate_left
         ·rintro w' ⟨s0,s1,s2,s3,s4,s5,s6,s7,s8⟩
          go_simp
          with_reducible rfl
         rotate_left
         ·simp only [Act.put,List.setIfInBounds_toArray,List.set_cons_zero,List.set_cons_succ,i64_w,i32_w]
          rfl
         refine one_ (i:=9) (N:=some 45) #[true,true,true,true,true,true,true,true,true,true,false] rfl rfl (one_of HT_.out (by kernel_rfl)) (by decide) (fun K hK => ?_)
         refine goes_ Try.func81 (by kernel_rfl) rfl #[.agg #[.int .i64 ((rd_T46 l0_2 x4_2).f0),.int .i64 ((rd_T46 l0_2 x4_2).f1),.slice A163_2 ((rd_T46 l0_2 x4_2).f2).length c163_2,.int .i64 ((rd_T46 l0_2 x4_2).f3),.int .i64 ((rd_T46 l0_2 x4_2).f4),.int .i64 ((rd_T46 l0_2 x4_2).f5)],.int .i64 a0_0,.int .i64 a0_1] (by rfl) rfl rfl (by (try simp only [List.map_toArray,List.map_cons,List.map_nil]);first|done|rfl|(simp only [List.length_drop,List.length_take];rfl)) ?_
         with_reducible refine (phasorref08_Op.calls ((rd_T46 l0_2 x4_2).f0) ((rd_T46 l0_2 x4_2).f1) _ _ ((rd_T46 l0_2 x4_2).f2) ((rd_T46 l0_2 x4_2).f3) ((rd_T46 l0_2 x4_2).f4) ((rd_T46 l0_2 x4_2).f5) a0_0 a0_1 false _ ?side1 ?side2 A16.out).mono ?_
         (case side1 => repeat (first|exact (Kd.C_below HR163_2.out HB.out)|(with_reducible refine Kd.C_alloc ?_ _)|(with_reducible refine Kd.C_drewN ?_ _)|(with_reducible refine Kd.C_drew ?_)))
         (case side2 => exact HC163_2.out)
         rintro e w23 ⟨rfl,hb⟩
         refine ⟨_,rfl,?_⟩
         have n0_:=Aside0.mk (blk_below (g:=gb162) (o:=.cells #[.int .i64 a0_0,.int .i64 a0_1,.slice (some ad163) l0_2.length c0_2] 24 (0,0)) (by (with_reducible repeat (first|refine blk_drewN ?_ _|refine blk_drew ?_|refine blk_alloc ?_ _));exact BK162.out) hb)
         have n1_:=Aside0.mk (below_step (by repeat (first|(with_reducible first|exact HB.out|apply below_alloc|apply pw_below_drewN|apply below_drew1|refine below_set ?_ GE162.out)|exact HB.out)) hb)
         clear BK162
         clear HB
         have BK162:=n0_
         have HB:=n1_
         clear n0_ n1_
         (try clear hb)
         (try clear hb2)
         (try clear hk)
         (try clear hi)
         refine hK.out _ _ ⟨(blk_cell BK162.out 0).trans rfl,(blk_cell BK162.out 1).trans rfl,(blk_cell BK162.out 2).trans rfl,((HB.out.cell (World.block_lt_of_cell? w _ hw163_0)).trans hw163_0),((HB.out.cell (World.block_lt_of_cell? w _ hw163_1)).trans hw163_1),((HB.out.cell (World.block_lt_of_cell? w _ hw163_2)).trans hw163_2),((HB.out.cell (World.block_lt_of_cell? w _ hw163_3)).trans hw163_3),((HB.out.cell (World.block_lt_of_cell? w _ hw163_4)).trans hw163_4),((HB.out.cell (World.block_lt_of_cell? w _ hw163_5)).trans hw163_5)⟩ (fun hHeld => ?_)
         clear hK K
         refine norm_ (a':=?_) ?_ ?_
         rotate_left
         ·show Act.put _ (some 45) _=_
          simp only [Act.put,List.setIfInBounds_toArray,List.set_cons_zero,List.set_cons_succ,i64_w,i32_w]
          rfl
         refine pure_ (i:=10) (N:=some 46) (v:=?_) (a':=?_) #[true,true,true,true,true,true,true,true,true,true,true] rfl rfl (any_of HT_.out (by kernel_rfl)) (fun _ _ _ h => h) (Or.inl ⟨by rfl,?_⟩) ?_ ?_
         rotate_left
         ·intro w'
          go_simp
          with_reducible rfl
         rotate_left
         ·simp only [Act.put,List.setIfInBounds_toArray,List.set_cons_zero,List.set_cons_succ,i64_w,i32_w]
          rfl
         refine done_ (done_of HT_.out (by kernel_rfl)) ?_
         try go_wp2
         go_ret2
         exact ⟨by first|rfl|(simp [errW_none,errW_some] <;> rfl)|(simp [*,errW_none,errW_some] <;> rfl),by repeat (first|(with_reducible first|exact HB.out|apply below_alloc|apply pw_below_drewN|apply below_drew1|refine below_set ?_ GE162.out)|exact HB.out)⟩
       ·rw [if_neg c15] at H
        exact absurd H (by simp)
      ·rw [if_neg c14] at H
       have c14b0 : decide (x4_2 < (l0_2.length : Int))=false:=decide_eq_false c14
       clear c14
       simp only [Option.some.injEq,Prod.mk.injEq] at H
       obtain ⟨rfl,rfl⟩:=H
       have hcz24_0 : wr.cell? ⟨gb162,0,none⟩=some (.int .i64 a0_0):=(blk_cell BK162.out 0).trans rfl
       have hcz24_1 : wr.cell? ⟨gb162,1,none⟩=some (.int .i64 a0_1):=(blk_cell BK162.out 1).trans rfl
       have hcz24_2 : wr.cell? ⟨gb162,2,none⟩=some (.slice A0_2 l0_2.length c0_2):=(blk_cell BK162.out 2).trans rfl
       have hfz24_0:=blk_frozen BK162.out 0
       have hfz24_1:=blk_frozen BK162.out 1
       have hfz24_2:=blk_frozen BK162.out 2
       go_wp2
       go_ret2
       exact ⟨by first|rfl|(simp [errW_none,errW_some] <;> rfl)|(simp [*,errW_none,errW_some] <;> rfl),by repeat (first|(with_reducible first|exact HB.out|apply below_alloc|apply pw_below_drewN|apply below_drew1|refine below_set ?_ GE162.out)|exact HB.out)⟩
end Go.Proofs.Ytbelnopbggkdfaa.Q
end

section
namespace Go.Proofs.Ytbelnopbggkdfaa.Q
open Go.RowKit Go.Proofs.YtbelnopbggkdfaaW.PrintWords Go.Proofs.YtbelnopbggkdfaaW.PrintLast Go.Proofs.YtbelnopbggkdfaaW.PrintMore
attribute [local go_sem] max2_int min2_int max_two min_two max_three min_three max_four min_four   -- for this text's walks alone
set_option linter.unusedVariables false
set_option linter.unusedSimpArgs false
def phasorref08_May.f (k : Nat) (a0_0 : Int) (a0_1 : Int) (l0_2 : List (S46)) : Option (Bool):=(phasorref08_Check.f k a0_0 a0_1 l0_2).bind fun bt166 => (some (bt166.2 == 0))
set_option maxHeartbeats 8000000 in
set_option maxRecDepth 100000 in
theorem phasorref08_May.calls (k : Nat) (a0_0 : Int) (a0_1 : Int) (A0_2 : Option Addr) (c0_2 : Nat) (l0_2 : List (S46)) (r : Bool) (w : World) (hr0_2 : Kd.C k46 w A0_2 l0_2.length l0_2) (hc0_2 : l0_2.length≤c0_2) (h : phasorref08_May.f k a0_0 a0_1 l0_2=some r) :
  Calls Try.prog 24 #[.agg #[.int .i64 a0_0,.int .i64 a0_1,.slice A0_2 l0_2.length c0_2]] w fun e w' => e=.returned (.bool r)∧Below w.heap.size w w':=by
 have hu24:=Try.underlying24
 have HR0_2:=Aside0.mk hr0_2
 have HC0_2:=Aside0.mk hc0_2
 clear hr0_2 hc0_2
 have HB:=Aside0.mk (Below.refl w.heap.size w)
 have H : ((phasorref08_Check.f k a0_0 a0_1 l0_2).bind fun bt166 => (some (bt166.2 == 0)))=some r:=h
 clear h
 replace H:=Option.bind_eq_some_iff.mp H
 obtain ⟨⟨t166,t167⟩,A20,H⟩:=H
 replace H : (some (t167 == 0))=some r:=H
 have A2:=Aside0.mk A20
 clear A20
 obtain rfl:=Option.some.inj H
 go_enter Try.func24,Try.ntmps24
 go_wp2_with (first|((with_reducible refine gate_dst (N:=1) rfl ?_);refine box_event ?hg (N:=1) ?hd (cs:=#[.int .i64 a0_0,.int .i64 a0_1,.slice A0_2 l0_2.length c0_2]) (t:=24) ?hr ?_;(case hd => rfl);(case hg => rfl);(case hr => first|(go_simp;done)|(go_simp;rfl));intro gb165 hg w3 hbox hb;have n0_:=Aside0.mk (below_step (by repeat (first|(with_reducible first|exact HB.out|apply below_alloc|apply pw_below_drewN|apply below_drew1)|exact HB.out)) hb);have n1_:=Aside0.mk (hbox);have n2_:=Aside0.mk ((by rw [hg];exact (below_size (by repeat (first|(with_reducible first|exact HB.out|apply below_alloc|apply pw_below_drewN|apply below_drew1)|exact HB.out))) : w.heap.size≤gb165));have n3_:=Aside0.mk ((by rw [hg];exact (below_size (by repeat (first|(with_reducible first|exact HB.out|apply below_alloc|apply pw_below_drewN|apply below_drew1)|exact HB.out))) : w.heap.size≤gb165));clear HB;have HB:=n0_;have BK165:=n1_;have GW165:=n2_;have GE165:=n3_;clear n0_ n1_ n2_ n3_;clear hb hbox hg;have hcz4_0 : w3.cell? ⟨gb165,0,none⟩=some (.int .i64 a0_0):=(blk_cell BK165.out 0).trans rfl;have hcz4_1 : w3.cell? ⟨gb165,1,none⟩=some (.int .i64 a0_1):=(blk_cell BK165.out 1).trans rfl;have hcz4_2 : w3.cell? ⟨gb165,2,none⟩=some (.slice A0_2 l0_2.length c0_2):=(blk_cell BK165.out 2).trans rfl;have hfz4_0:=blk_frozen BK165.out 0;have hfz4_1:=blk_frozen BK165.out 1;have hfz4_2:=blk_frozen BK165.out 2)|((with_reducible refine gate_callee (f:=64) rfl ?_);refine goesL_ (some 7) rfl rfl Try.func64 (by kernel_rfl) rfl #[.agg #[.int .i64 a0_0,.int .i64 a0_1,.slice A0_2 l0_2.length c0_2]] rfl (by (try simp only [List.map_toArray,List.map_cons,List.map_nil]);first|done|rfl|(simp only [List.length_drop,List.length_take];rfl)) ?_;(with_reducible refine (phasorref08_Check.calls k a0_0 a0_1 _ _ l0_2 t166 t167 _ ?side1 ?side2 A2.out).mono ?_);(case side1 => repeat (first|exact (Kd.C_below HR0_2.out HB.out)|(with_reducible refine Kd.C_alloc ?_ _)|(with_reducible refine Kd.C_drewN ?_ _)|(with_reducible refine Kd.C_drew ?_)));(case side2 => exact HC0_2.out);rintro e w5 ⟨rfl,hb⟩;refine ⟨_,rfl,?_⟩;have n0_:=Aside0.mk (blk_below (g:=gb165) (o:=.cells #[.int .i64 a0_0,.int .i64 a0_1,.slice A0_2 l0_2.length c0_2] 24 (0,0)) (by (with_reducible repeat (first|refine blk_drewN ?_ _|refine blk_drew ?_|refine blk_alloc ?_ _));exact BK165.out) hb);have n1_:=Aside0.mk (below_step (by repeat (first|(with_reducible first|exact HB.out|apply below_alloc|apply pw_below_drewN|apply below_drew1|refine below_set ?_ GE165.out)|exact HB.out)) hb);clear BK165;clear HB;have BK165:=n0_;have HB:=n1_;clear n0_ n1_;(try clear hb);(try clear hb2);(try clear hk);(try clear hi)))
 go_ret
 exact ⟨by first|rfl|(simp [errW_none,errW_some] <;> rfl)|(simp [*,errW_none,errW_some] <;> rfl),by repeat (first|(with_reducible first|exact HB.out|apply below_alloc|apply pw_below_drewN|apply below_drew1|refine below_set ?_ GE165.out)|exact HB.out)⟩
end Go.Proofs.Ytbelnopbggkdfaa.Q
end

section
namespace Go.Proofs.Ytbelnopbggkdfaa.Q
open Go.RowKit Go.Proofs.YtbelnopbggkdfaaW.PrintWords Go.Proofs.YtbelnopbggkdfaaW.PrintLast Go.Proofs.YtbelnopbggkdfaaW.PrintMore
attribute [local go_sem] max2_int min2_int max_two min_two max_three min_three max_four min_four   -- for this text's walks alone
set_option linter.unusedVariables false
set_option linter.unusedSimpArgs false
mutual
def phasorref19_meet.l0 : Nat→List Int→List Int→Int→Option (Bool)
 | 0,_,_,_ => none
 | k + 1,x0,x1,x5 => if x5 < (x0.length : Int) then (phasorref19_meet.l1 k x0 x1 x5 0) else (some false)
def phasorref19_meet.l1 : Nat→List Int→List Int→Int→Int→Option (Bool)
 | 0,_,_,_,_ => none
 | k + 1,x0,x1,x5,x6 => if x6 < (x1.length : Int) then (if 0≤x5 then (if x5 < (x0.length : Int) then (if 0≤x6 then (if (rd x0 x5)=(rd x1 x6) then (some true) else (phasorref19_meet.l1 k x0 x1 x5 (wrap64 (x6 + 1)))) else (none)) else (none)) else (none)) else (phasorref19_meet.l0 k x0 x1 (wrap64 (x5 + 1)))
end
def phasorref19_meet.f (k : Nat) (l0 : List Int) (l1 : List Int) : Option (Bool):=phasorref19_meet.l0 k l0 l1 0
set_option maxHeartbeats 8000000 in
set_option maxRecDepth 100000 in
theorem phasorref19_meet.calls (k : Nat) (A0 : Option Addr) (c0 : Nat) (l0 : List Int) (A1 : Option Addr) (c1 : Nat) (l1 : List Int) (r : Bool) (w : World) (hr0 : Kd.C (Kd.int .i64) w A0 l0.length l0) (hc0 : l0.length≤c0) (hr1 : Kd.C (Kd.int .i64) w A1 l1.length l1) (hc1 : l1.length≤c1) (h : phasorref19_meet.f k l0 l1=some r) :
  Calls Try.prog 82 #[.slice A0 l0.length c0,.slice A1 l1.length c1] w fun e w' => e=.returned (.bool r)∧Drawn0 w w':=by
 have HR0:=Aside0.mk hr0
 have HC0:=Aside0.mk hc0
 clear hr0 hc0
 have HR1:=Aside0.mk hr1
 have HC1:=Aside0.mk hc1
 clear hr1 hc1
 have H : (phasorref19_meet.l0 k l0 l1 0)=some r:=h
 clear h
 have H':=Aside0.mk H
 clear H
 go_enter Try.func82,Try.ntmps82
 go_wp2
 repeat (go_quiet (fail);try go_wp2)
 go_loopg [5] k (fun kq v5 w' => ∃ (x5_1 : Int),v5=.int .i64 x5_1∧Aside0 (phasorref19_meet.l0 kq l0 l1 x5_1=some r)∧Aside0 (kq≤k)∧Drawn0 w w')
 case atStart => exact ⟨(0),(by first|rfl|(simp;done)|(simp [*];done)),H',⟨Nat.le_refl _⟩,by repeat (first|exact Drawn0.refl _|apply Drawn0.step)⟩
 case round =>
  clear H'
  try clear c1
  try clear p2
  obtain ⟨x5_1,rfl,HA,HK1,⟨m1,rfl⟩⟩:=hrel
  cases gk with
  | zero => exact absurd HA.out (by simp [phasorref19_meet.l0])
  | succ k1 =>
   have H:=HA.out
   clear HA
   simp only [phasorref19_meet.l0] at H
   by_cases c3 : x5_1 < (l0.length : Int)
   ·rw [if_pos c3] at H
    have c3b0 : decide (x5_1 < (l0.length : Int))=true:=decide_eq_true c3
    clear c3
    have H':=Aside0.mk H
    clear H
    go_wp2
    repeat (go_quiet (fail);try go_wp2)
    go_loopg [6] k1 (fun kq v6 w' => ∃ (x6_2 : Int),v6=.int .i64 x6_2∧Aside0 (phasorref19_meet.l1 kq l0 l1 x5_1 x6_2=some r)∧Aside0 (kq≤k1)∧Drawn0 w w')
    case atStart => exact ⟨(0),(by first|rfl|(simp;done)|(simp [*];done)),H',⟨Nat.le_refl _⟩,by repeat (first|exact Drawn0.refl _|apply Drawn0.step)⟩
    case round =>
     clear H'
     try clear c1
     try clear p2
     try clear c3
     try clear c3b0
     try clear p2
     obtain ⟨x6_2,rfl,HA,HK2,⟨m2,rfl⟩⟩:=hrel
     cases gk with
     | zero => exact absurd HA.out (by simp [phasorref19_meet.l1])
     | succ k2 =>
      have H:=HA.out
      clear HA
      simp only [phasorref19_meet.l1] at H
      by_cases c4 : x6_2 < (l1.length : Int)
      ·rw [if_pos c4] at H
       have c4b0 : decide (x6_2 < (l1.length : Int))=true:=decide_eq_true c4
       clear c4
       by_cases c5 : 0≤x5_1
       ·rw [if_pos c5] at H
        have c5b0 : decide (0≤x5_1)=true:=decide_eq_true c5
        clear c5
        by_cases c6 : x5_1 < (l0.length : Int)
        ·rw [if_pos c6] at H
         have c6b0 : decide (x5_1 < (l0.length : Int))=true:=decide_eq_true c6
         clear c6
         by_cases c7 : 0≤x6_2
         ·rw [if_pos c7] at H
          have c7b0 : decide (0≤x6_2)=true:=decide_eq_true c7
          clear c7
          by_cases c8 : (rd l0 x5_1)=(rd l1 x6_2)
          ·rw [if_pos c8] at H
           have c8b0 : ((rd l0 x5_1) == (rd l1 x6_2))=true:=beq_iff_eq.mpr c8
           have c8b1 : ((rd l0 x5_1) != (rd l1 x6_2))=false:=bne_eq_false_iff_eq.mpr c8
           clear c8
           obtain rfl:=Option.some.inj H
           have p598 : 0≤(x5_1 : Int):=of_decide_eq_true (by first|(with_reducible assumption)|assumption)
           have q598 : x5_1 < (l0.length : Int):=of_decide_eq_true (by first|(with_reducible assumption)|assumption)
           obtain ⟨ad598,e598,hx598_0⟩:=Kd.at_int HR0.out x5_1 p598 q598
           cases e598
           replace p598:=eq_true p598
           replace q598:=eq_true q598
           have p599 : 0≤(x6_2 : Int):=of_decide_eq_true (by first|(with_reducible assumption)|assumption)
           have q599 : x6_2 < (l1.length : Int):=of_decide_eq_true (by first|(with_reducible assumption)|assumption)
           obtain ⟨ad599,e599,hx599_0⟩:=Kd.at_int HR1.out x6_2 p599 q599
           cases e599
           replace p599:=eq_true p599
           replace q599:=eq_true q599
           go_wp2
           repeat (go_quiet (fail);try go_wp2)
           go_ret
           exact ⟨by first|rfl|(simp;done)|(simp [*];done),by repeat (first|exact Drawn0.refl _|apply Drawn0.step)⟩
          ·rw [if_neg c8] at H
           have c8b0 : ((rd l0 x5_1) == (rd l1 x6_2))=false:=beq_eq_false_iff_ne.mpr c8
           have c8b1 : ((rd l0 x5_1) != (rd l1 x6_2))=true:=bne_iff_ne.mpr c8
           have H':=Aside0.mk H
           clear H
           have p598 : 0≤(x5_1 : Int):=of_decide_eq_true (by first|(with_reducible assumption)|assumption)
           have q598 : x5_1 < (l0.length : Int):=of_decide_eq_true (by first|(with_reducible assumption)|assumption)
           obtain ⟨ad598,e598,hx598_0⟩:=Kd.at_int HR0.out x5_1 p598 q598
           cases e598
           replace p598:=eq_true p598
           replace q598:=eq_true q598
           have p599 : 0≤(x6_2 : Int):=of_decide_eq_true (by first|(with_reducible assumption)|assumption)
           have q599 : x6_2 < (l1.length : Int):=of_decide_eq_true (by first|(with_reducible assumption)|assumption)
           obtain ⟨ad599,e599,hx599_0⟩:=Kd.at_int HR1.out x6_2 p599 q599
           cases e599
           replace p599:=eq_true p599
           replace q599:=eq_true q599
           go_wp2
           repeat (go_quiet (fail);try go_wp2)
           go_roundg k2
           case measure => have:=HK1.out;have:=HK2.out;omega
           case rel => exact ⟨(wrap64 (x6_2 + 1)),(by first|rfl|(simp;done)|(simp [*];done)),H',⟨by have:=HK1.out;have:=HK2.out;omega⟩,by repeat (first|exact Drawn0.refl _|apply Drawn0.step)⟩
         ·rw [if_neg c7] at H
          exact absurd H (by simp)
        ·rw [if_neg c6] at H
         exact absurd H (by simp)
       ·rw [if_neg c5] at H
        exact absurd H (by simp)
      ·rw [if_neg c4] at H
       have c4b0 : decide (x6_2 < (l1.length : Int))=false:=decide_eq_false c4
       clear c4
       have H':=Aside0.mk H
       clear H
       go_wp2
       repeat (go_quiet (fail);try go_wp2)
       go_roundg k2
       case measure => have:=HK1.out;have:=HK2.out;omega
       case rel => exact ⟨(wrap64 (x5_1 + 1)),(by first|rfl|(simp;done)|(simp [*];done)),H',⟨by have:=HK1.out;have:=HK2.out;omega⟩,by repeat (first|exact Drawn0.refl _|apply Drawn0.step)⟩
   ·rw [if_neg c3] at H
    have c3b0 : decide (x5_1 < (l0.length : Int))=false:=decide_eq_false c3
    clear c3
    obtain rfl:=Option.some.inj H
    go_wp2
    repeat (go_quiet (fail);try go_wp2)
    go_ret
    exact ⟨by first|rfl|(simp;done)|(simp [*];done),by repeat (first|exact Drawn0.refl _|apply Drawn0.step)⟩
end Go.Proofs.Ytbelnopbggkdfaa.Q
end

section
namespace Go.Proofs.Ytbelnopbggkdfaa.Q
open Go.RowKit Go.Proofs.YtbelnopbggkdfaaW.PrintWords Go.Proofs.YtbelnopbggkdfaaW.PrintLast Go.Proofs.YtbelnopbggkdfaaW.PrintMore
attribute [local go_sem] max2_int min2_int max_two min_two max_three min_three max_four min_four   -- for this text's walks alone
set_option linter.unusedVariables false
set_option linter.unusedSimpArgs false
def phasorref19_wires.f (a0_0 : Int) (a0_1 : Int) (l0_2 : List Int) (a0_3 : Int) (a0_4 : Int) (a0_5 : Int) : Option (List Int):=(some (([] : List Int) : List Int)).bind fun y601 => (if y601.length + l0_2.length < 17592186044416 then ((some (y601 ++ l0_2 : List Int)).bind fun y604 => (if a0_0=2 then (if y604.length < 17592186044416 then ((some (y604 ++ [wrap64 (100 + a0_3)] : List Int)).bind fun y607 => (if a0_4 ≥ 0 then (if y607.length < 17592186044416 then (some (y607 ++ [wrap64 (100 + a0_4)])) else (none)) else (some y607))) else (none)) else (if a0_4 ≥ 0 then (if y604.length < 17592186044416 then (some (y604 ++ [wrap64 (100 + a0_4)])) else (none)) else (some y604)))) else (none))
set_option maxHeartbeats 8000000 in
set_option maxRecDepth 100000 in
theorem phasorref19_wires.calls (a0_0 : Int) (a0_1 : Int) (A0_2 : Option Addr) (c0_2 : Nat) (l0_2 : List Int) (a0_3 : Int) (a0_4 : Int) (a0_5 : Int) (r : List Int) (w : World) (hr0_2 : Kd.C (Kd.int .i64) w A0_2 l0_2.length l0_2) (hc0_2 : l0_2.length≤c0_2) (h : phasorref19_wires.f a0_0 a0_1 l0_2 a0_3 a0_4 a0_5=some r) :
  Calls Try.prog 83 #[.agg #[.int .i64 a0_0,.int .i64 a0_1,.slice A0_2 l0_2.length c0_2,.int .i64 a0_3,.int .i64 a0_4,.int .i64 a0_5]] w fun e w' => ∃ v0_ : Value,e=.returned (v0_)∧Kd.R (Kd.int .i64) 3 w' w.heap.size (fun _ => True) v0_ r∧Below w.heap.size w w':=by
 have hu46:=Try.underlying46
 have HR0_2:=Aside0.mk hr0_2
 have HC0_2:=Aside0.mk hc0_2
 clear hr0_2 hc0_2
 have HB:=Aside0.mk (Below.refl w.heap.size w)
 have H : ((some (([] : List Int) : List Int)).bind fun y601 => (if y601.length + l0_2.length < 17592186044416 then ((some (y601 ++ l0_2 : List Int)).bind fun y604 => (if a0_0=2 then (if y604.length < 17592186044416 then ((some (y604 ++ [wrap64 (100 + a0_3)] : List Int)).bind fun y607 => (if a0_4 ≥ 0 then (if y607.length < 17592186044416 then (some (y607 ++ [wrap64 (100 + a0_4)])) else (none)) else (some y607))) else (none)) else (if a0_4 ≥ 0 then (if y604.length < 17592186044416 then (some (y604 ++ [wrap64 (100 + a0_4)])) else (none)) else (some y604)))) else (none)))=some r:=h
 clear h
 obtain ⟨y601,hy601⟩ : ∃ y_ : List Int,y_=(([] : List Int)):=⟨_,rfl⟩
 replace H : (if y601.length + l0_2.length < 17592186044416 then ((some (y601 ++ l0_2 : List Int)).bind fun y604 => (if a0_0=2 then (if y604.length < 17592186044416 then ((some (y604 ++ [wrap64 (100 + a0_3)] : List Int)).bind fun y607 => (if a0_4 ≥ 0 then (if y607.length < 17592186044416 then (some (y607 ++ [wrap64 (100 + a0_4)])) else (none)) else (some y607))) else (none)) else (if a0_4 ≥ 0 then (if y604.length < 17592186044416 then (some (y604 ++ [wrap64 (100 + a0_4)])) else (none)) else (some y604)))) else (none))=some r:=by first|(rw [hy601];with_reducible exact H)|(have H2_:=(Option.bind_some _ _).symm.trans H;rw [hy601];with_reducible exact H2_)|(have H2_:=(Option.bind_some _ _).symm.trans H;with_reducible exact H2_)|with_reducible exact H|(rw [hy601];exact H)|exact H
 have Ny601:=Aside0.mk hy601
 clear hy601
 by_cases c2 : y601.length + l0_2.length < 17592186044416
 ·rw [if_pos c2] at H
  have LMc2:=Aside0.mk c2
  clear c2
  obtain ⟨y604,hy604⟩ : ∃ y_ : List Int,y_=(y601 ++ l0_2):=⟨_,rfl⟩
  replace H : (if a0_0=2 then (if y604.length < 17592186044416 then ((some (y604 ++ [wrap64 (100 + a0_3)] : List Int)).bind fun y607 => (if a0_4 ≥ 0 then (if y607.length < 17592186044416 then (some (y607 ++ [wrap64 (100 + a0_4)])) else (none)) else (some y607))) else (none)) else (if a0_4 ≥ 0 then (if y604.length < 17592186044416 then (some (y604 ++ [wrap64 (100 + a0_4)])) else (none)) else (some y604)))=some r:=by first|(rw [hy604];with_reducible exact H)|(have H2_:=(Option.bind_some _ _).symm.trans H;rw [hy604];with_reducible exact H2_)|(have H2_:=(Option.bind_some _ _).symm.trans H;with_reducible exact H2_)|with_reducible exact H|(rw [hy604];exact H)|exact H
  have Ny604:=Aside0.mk hy604
  clear hy604
  by_cases c3 : a0_0=2
  ·rw [if_pos c3] at H
   have c3b0 : (a0_0 == 2)=true:=beq_iff_eq.mpr c3
   have c3b1 : (a0_0 != 2)=false:=bne_eq_false_iff_eq.mpr c3
   clear c3
   by_cases c4 : y604.length < 17592186044416
   ·rw [if_pos c4] at H
    have LMc4:=Aside0.mk c4
    clear c4
    obtain ⟨y607,hy607⟩ : ∃ y_ : List Int,y_=(y604 ++ [wrap64 (100 + a0_3)]):=⟨_,rfl⟩
    replace H : (if a0_4 ≥ 0 then (if y607.length < 17592186044416 then (some (y607 ++ [wrap64 (100 + a0_4)])) else (none)) else (some y607))=some r:=by first|(rw [hy607];with_reducible exact H)|(have H2_:=(Option.bind_some _ _).symm.trans H;rw [hy607];with_reducible exact H2_)|(have H2_:=(Option.bind_some _ _).symm.trans H;with_reducible exact H2_)|with_reducible exact H|(rw [hy607];exact H)|exact H
    have Ny607:=Aside0.mk hy607
    clear hy607
    by_cases c5 : a0_4 ≥ 0
    ·rw [if_pos c5] at H
     have c5b0 : decide (0≤a0_4)=true:=decide_eq_true c5
     clear c5
     by_cases c6 : y607.length < 17592186044416
     ·rw [if_pos c6] at H
      have LMc6:=Aside0.mk c6
      clear c6
      obtain ⟨y610,hy610⟩ : ∃ y_ : List Int,y_=(y607 ++ [wrap64 (100 + a0_4)]):=⟨_,rfl⟩
      replace H : (some y610)=some r:=by first|(rw [hy610];with_reducible exact H)|(have H2_:=(Option.bind_some _ _).symm.trans H;rw [hy610];with_reducible exact H2_)|(have H2_:=(Option.bind_some _ _).symm.trans H;with_reducible exact H2_)|with_reducible exact H|(rw [hy610];exact H)|exact H
      have Ny610:=Aside0.mk hy610
      clear hy610
      obtain rfl:=Option.some.inj H
      go_enter Try.func83,Try.ntmps83
      go_wp2_with (first|((with_reducible refine gate_dst (N:=1) rfl ?_);refine box_event ?hg (N:=1) ?hd (cs:=#[.int .i64 a0_0,.int .i64 a0_1,.slice A0_2 l0_2.length c0_2,.int .i64 a0_3,.int .i64 a0_4,.int .i64 a0_5]) (t:=46) ?hr ?_;(case hd => rfl);(case hg => rfl);(case hr => first|(go_simp;done)|(go_simp;rfl));intro gb600 hg w7 hbox hb;have n0_:=Aside0.mk (below_step (by repeat (first|(with_reducible first|exact HB.out|apply below_alloc|apply pw_below_drewN|apply below_drew1)|exact HB.out)) hb);have n1_:=Aside0.mk (hbox);have n2_:=Aside0.mk ((by rw [hg];exact (below_size (by repeat (first|(with_reducible first|exact HB.out|apply below_alloc|apply pw_below_drewN|apply below_drew1)|exact HB.out))) : w.heap.size≤gb600));have n3_:=Aside0.mk ((by rw [hg];exact (below_size (by repeat (first|(with_reducible first|exact HB.out|apply below_alloc|apply pw_below_drewN|apply below_drew1)|exact HB.out))) : w.heap.size≤gb600));clear HB;have HB:=n0_;have BK600:=n1_;have GW600:=n2_;have GE600:=n3_;clear n0_ n1_ n2_ n3_;clear hb hbox hg)|((with_reducible refine gate_dst (N:=4) rfl ?_);refine Kd.R_lit (Kd.int .i64) _ 3 ?hg (N:=4) ?hd (xs:=([] : List Int)) (inner:=[]) (ok:=fun _ => True) (okp:=fun _ => True) ?hr ?hp (fun _ hk => hk) trivial (Below.refl _ _) (Nat.le_refl _) (by simp) ?_;(case hd => rfl);(case hg => rfl);(case hr => first|(go_simp;done)|(go_simp;rfl));(case hp => exact (Reps.none _ _));intro v602 w8 ho9 hb hg_ hnew_;clear hg_ hnew_;(first|rw [← Ny601.out] at ho9|(simp only [Int.reduceToNat] at ho9;rw [← Ny601.out] at ho9));have n0_:=Aside0.mk (Kd.R_lower ho9 (below_size (by repeat (first|(with_reducible first|exact HB.out|apply below_alloc|apply pw_below_drewN|apply below_drew1|refine below_set ?_ GE600.out)|exact HB.out))));have n1_:=Aside0.mk (blk_below (g:=gb600) (o:=.cells #[.int .i64 a0_0,.int .i64 a0_1,.slice A0_2 l0_2.length c0_2,.int .i64 a0_3,.int .i64 a0_4,.int .i64 a0_5] 46 (0,0)) (by (with_reducible repeat (first|refine blk_drewN ?_ _|refine blk_drew ?_|refine blk_alloc ?_ _));exact BK600.out) hb);have n2_:=Aside0.mk (below_step (by repeat (first|(with_reducible first|exact HB.out|apply below_alloc|apply pw_below_drewN|apply below_drew1|refine below_set ?_ GE600.out)|exact HB.out)) hb);clear BK600;clear HB;have HO603:=n0_;have BK600:=n1_;have HB:=n2_;clear n0_ n1_ n2_;clear hb ho9;have hcz10_0 : w8.cell? ⟨gb600,0,none⟩=some (.int .i64 a0_0):=(blk_cell BK600.out 0).trans rfl;have hcz10_1 : w8.cell? ⟨gb600,1,none⟩=some (.int .i64 a0_1):=(blk_cell BK600.out 1).trans rfl;have hcz10_2 : w8.cell? ⟨gb600,2,none⟩=some (.slice A0_2 l0_2.length c0_2):=(blk_cell BK600.out 2).trans rfl;have hcz10_3 : w8.cell? ⟨gb600,3,none⟩=some (.int .i64 a0_3):=(blk_cell BK600.out 3).trans rfl;have hcz10_4 : w8.cell? ⟨gb600,4,none⟩=some (.int .i64 a0_4):=(blk_cell BK600.out 4).trans rfl;have hcz10_5 : w8.cell? ⟨gb600,5,none⟩=some (.int .i64 a0_5):=(blk_cell BK600.out 5).trans rfl;have hfz10_0:=blk_frozen BK600.out 0;have hfz10_1:=blk_frozen BK600.out 1;have hfz10_2:=blk_frozen BK600.out 2;have hfz10_3:=blk_frozen BK600.out 3;have hfz10_4:=blk_frozen BK600.out 4;have hfz10_5:=blk_frozen BK600.out 5)|((with_reducible refine gate_builtin (b:=.append) (xs:=#[.tmp 4,.tmp 6]) rfl ?_);at_builtin;refine Kd.R_append_rows (Kd.int .i64) (w0:=w) w.heap.size rfl (.tmp 4) (.tmp 6) 37 3 (.int .i64 0) 8 rfl Try.underlying37 info3 rfl (by decide) (by omega) v602 y601 l0_2 _ _ _ (fun _ => True) (fun _ => False) rfl rfl ?aO ?aR (fun _ _ h => h) (fun _ h => h.elim) ?aF ?aB ?aS ?aL ?_;(case aR => repeat (first|exact (Kd.C_below HR0_2.out HB.out)|(with_reducible refine Kd.C_alloc ?_ _)|(with_reducible refine Kd.C_drewN ?_ _)|(with_reducible refine Kd.C_drew ?_)));(case aB => exact (by repeat (first|(with_reducible first|exact HB.out|apply below_alloc|apply pw_below_drewN|apply below_drew1|refine below_set ?_ GE600.out)|exact HB.out)));(case aF => exact (fun _ _ => trivial));(case aO => exact (by (with_reducible repeat (first|apply Kd.R_alloc|apply Kd.R_drewN|apply Kd.R_drew));exact HO603.out));(case aS => exact (below_size (by repeat (first|(with_reducible first|exact HB.out|apply below_alloc|apply pw_below_drewN|apply below_drew1|refine below_set ?_ GE600.out)|exact HB.out))));(case aL => have:=LMc2.out;omega);intro v605 w11 ho hb hg hat;rw [← Ny604.out] at ho;have n0_:=Aside0.mk (blk_grown (g:=gb600) (o:=.cells #[.int .i64 a0_0,.int .i64 a0_1,.slice A0_2 l0_2.length c0_2,.int .i64 a0_3,.int .i64 a0_4,.int .i64 a0_5] 46 (0,0)) (by (with_reducible repeat (first|refine blk_drewN ?_ _|refine blk_drew ?_|refine blk_alloc ?_ _));exact BK600.out) hg (Kd.R_ne HO603.out BK600.out (by decide)));have n1_:=Aside0.mk (hb);have n2_:=Aside0.mk (ho);clear BK600;clear HB;clear HO603;have BK600:=n0_;have HB:=n1_;have HO606:=n2_;clear n0_ n1_ n2_;clear ho hb hg hat;have hcz12_0 : w11.cell? ⟨gb600,0,none⟩=some (.int .i64 a0_0):=(blk_cell BK600.out 0).trans rfl;have hcz12_1 : w11.cell? ⟨gb600,1,none⟩=some (.int .i64 a0_1):=(blk_cell BK600.out 1).trans rfl;have hcz12_2 : w11.cell? ⟨gb600,2,none⟩=some (.slice A0_2 l0_2.length c0_2):=(blk_cell BK600.out 2).trans rfl;have hcz12_3 : w11.cell? ⟨gb600,3,none⟩=some (.int .i64 a0_3):=(blk_cell BK600.out 3).trans rfl;have hcz12_4 : w11.cell? ⟨gb600,4,none⟩=some (.int .i64 a0_4):=(blk_cell BK600.out 4).trans rfl;have hcz12_5 : w11.cell? ⟨gb600,5,none⟩=some (.int .i64 a0_5):=(blk_cell BK600.out 5).trans rfl;have hfz12_0:=blk_frozen BK600.out 0;have hfz12_1:=blk_frozen BK600.out 1;have hfz12_2:=blk_frozen BK600.out 2;have hfz12_3:=blk_frozen BK600.out 3;have hfz12_4:=blk_frozen BK600.out 4;have hfz12_5:=blk_frozen BK600.out 5)|((with_reducible refine gate_builtin (b:=.append) (xs:=#[.tmp 11,.tmp 15]) rfl ?_);at_builtin;refine Kd.R_append (Kd.int .i64) (w0:=w) w.heap.size rfl (.tmp 11) (.tmp 15) 37 3 (.int .i64 0) 8 rfl Try.underlying37 info3 rfl (by decide) (by omega) v605 y604 (wrap64 (100 + a0_3)) [.int .i64 (wrap64 (100 + a0_3))] (fun _ => True) (fun _ => False) rfl rfl ?aP (fun _ hk => hk.elim) ?aF ?aO ?aB ?aS ?aL ?_;(case aP => exact rfl);(case aB => exact (by repeat (first|(with_reducible first|exact HB.out|apply below_alloc|apply pw_below_drewN|apply below_drew1|refine below_set ?_ GE600.out)|exact HB.out)));(case aF => exact (fun _ _ => trivial));(case aO => exact (by (with_reducible repeat (first|apply Kd.R_alloc|apply Kd.R_drewN|apply Kd.R_drew));exact HO606.out));(case aS => exact (below_size (by repeat (first|(with_reducible first|exact HB.out|apply below_alloc|apply pw_below_drewN|apply below_drew1|refine below_set ?_ GE600.out)|exact HB.out))));(case aL => have:=LMc4.out;omega);intro v608 w13 ho hb hg hat;rw [← Ny607.out] at ho;have n0_:=Aside0.mk (blk_grown (g:=gb600) (o:=.cells #[.int .i64 a0_0,.int .i64 a0_1,.slice A0_2 l0_2.length c0_2,.int .i64 a0_3,.int .i64 a0_4,.int .i64 a0_5] 46 (0,0)) (by (with_reducible repeat (first|refine blk_drewN ?_ _|refine blk_drew ?_|refine blk_alloc ?_ _));exact BK600.out) hg (Kd.R_ne HO606.out BK600.out (by decide)));have n1_:=Aside0.mk (hb);have n2_:=Aside0.mk (ho);clear BK600;clear HB;clear HO606;have BK600:=n0_;have HB:=n1_;have HO609:=n2_;clear n0_ n1_ n2_;clear ho hb hg hat;have hcz14_0 : w13.cell? ⟨gb600,0,none⟩=some (.int .i64 a0_0):=(blk_cell BK600.out 0).trans rfl;have hcz14_1 : w13.cell? ⟨gb600,1,none⟩=some (.int .i64 a0_1):=(blk_cell BK600.out 1).trans rfl;have hcz14_2 : w13.cell? ⟨gb600,2,none⟩=some (.slice A0_2 l0_2.length c0_2):=(blk_cell BK600.out 2).trans rfl;have hcz14_3 : w13.cell? ⟨gb600,3,none⟩=some (.int .i64 a0_3):=(blk_cell BK600.out 3).trans rfl;have hcz14_4 : w13.cell? ⟨gb600,4,none⟩=some (.int .i64 a0_4):=(blk_cell BK600.out 4).trans rfl;have hcz14_5 : w13.cell? ⟨gb600,5,none⟩=some (.int .i64 a0_5):=(blk_cell BK600.out 5).trans rfl;have hfz14_0:=blk_frozen BK600.out 0;have hfz14_1:=blk_frozen BK600.out 1;have hfz14_2:=blk_frozen BK600.out 2;have hfz14_3:=blk_frozen BK600.out 3;have hfz14_4:=blk_frozen BK600.out 4;have hfz14_5:=blk_frozen BK600.out 5)|((with_reducible refine gate_builtin (b:=.append) (xs:=#[.tmp 20,.tmp 24]) rfl ?_);at_builtin;refine Kd.R_append (Kd.int .i64) (w0:=w) w.heap.size rfl (.tmp 20) (.tmp 24) 37 3 (.int .i64 0) 8 rfl Try.underlying37 info3 rfl (by decide) (by omega) v608 y607 (wrap64 (100 + a0_4)) [.int .i64 (wrap64 (100 + a0_4))] (fun _ => True) (fun _ => False) rfl rfl ?aP (fun _ hk => hk.elim) ?aF ?aO ?aB ?aS ?aL ?_;(case aP => exact rfl);(case aB => exact (by repeat (first|(with_reducible first|exact HB.out|apply below_alloc|apply pw_below_drewN|apply below_drew1|refine below_set ?_ GE600.out)|exact HB.out)));(case aF => exact (fun _ _ => trivial));(case aO => exact (by (with_reducible repeat (first|apply Kd.R_alloc|apply Kd.R_drewN|apply Kd.R_drew));exact HO609.out));(case aS => exact (below_size (by repeat (first|(with_reducible first|exact HB.out|apply below_alloc|apply pw_below_drewN|apply below_drew1|refine below_set ?_ GE600.out)|exact HB.out))));(case aL => have:=LMc6.out;omega);intro v611 w15 ho hb hg hat;rw [← Ny610.out] at ho;have n0_:=Aside0.mk (blk_grown (g:=gb600) (o:=.cells #[.int .i64 a0_0,.int .i64 a0_1,.slice A0_2 l0_2.length c0_2,.int .i64 a0_3,.int .i64 a0_4,.int .i64 a0_5] 46 (0,0)) (by (with_reducible repeat (first|refine blk_drewN ?_ _|refine blk_drew ?_|refine blk_alloc ?_ _));exact BK600.out) hg (Kd.R_ne HO609.out BK600.out (by decide)));have n1_:=Aside0.mk (hb);have n2_:=Aside0.mk (ho);clear BK600;clear HB;clear HO609;have BK600:=n0_;have HB:=n1_;have HO612:=n2_;clear n0_ n1_ n2_;clear ho hb hg hat))
      go_ret
      exact ⟨_,by first|rfl|(simp [errW_none,errW_some] <;> rfl)|(simp [*,errW_none,errW_some] <;> rfl),by (with_reducible repeat (first|apply Kd.R_alloc|apply Kd.R_drewN|apply Kd.R_drew));exact HO612.out,by repeat (first|(with_reducible first|exact HB.out|apply below_alloc|apply pw_below_drewN|apply below_drew1|refine below_set ?_ GE600.out)|exact HB.out)⟩
     ·rw [if_neg c6] at H
      exact absurd H (by simp)
    ·rw [if_neg c5] at H
     have c5b0 : decide (0≤a0_4)=false:=decide_eq_false c5
     clear c5
     obtain rfl:=Option.some.inj H
     go_enter Try.func83,Try.ntmps83
     go_wp2_with (first|((with_reducible refine gate_dst (N:=1) rfl ?_);refine box_event ?hg (N:=1) ?hd (cs:=#[.int .i64 a0_0,.int .i64 a0_1,.slice A0_2 l0_2.length c0_2,.int .i64 a0_3,.int .i64 a0_4,.int .i64 a0_5]) (t:=46) ?hr ?_;(case hd => rfl);(case hg => rfl);(case hr => first|(go_simp;done)|(go_simp;rfl));intro gb600 hg w16 hbox hb;have n0_:=Aside0.mk (below_step (by repeat (first|(with_reducible first|exact HB.out|apply below_alloc|apply pw_below_drewN|apply below_drew1)|exact HB.out)) hb);have n1_:=Aside0.mk (hbox);have n2_:=Aside0.mk ((by rw [hg];exact (below_size (by repeat (first|(with_reducible first|exact HB.out|apply below_alloc|apply pw_below_drewN|apply below_drew1)|exact HB.out))) : w.heap.size≤gb600));have n3_:=Aside0.mk ((by rw [hg];exact (below_size (by repeat (first|(with_reducible first|exact HB.out|apply below_alloc|apply pw_below_drewN|apply below_drew1)|exact HB.out))) : w.heap.size≤gb600));clear HB;have HB:=n0_;have BK600:=n1_;have GW600:=n2_;have GE600:=n3_;clear n0_ n1_ n2_ n3_;clear hb hbox hg)|((with_reducible refine gate_dst (N:=4) rfl ?_);refine Kd.R_lit (Kd.int .i64) _ 3 ?hg (N:=4) ?hd (xs:=([] : List Int)) (inner:=[]) (ok:=fun _ => True) (okp:=fun _ => True) ?hr ?hp (fun _ hk => hk) trivial (Below.refl _ _) (Nat.le_refl _) (by simp) ?_;(case hd => rfl);(case hg => rfl);(case hr => first|(go_simp;done)|(go_simp;rfl));(case hp => exact (Reps.none _ _));intro v602 w17 ho18 hb hg_ hnew_;clear hg_ hnew_;(first|rw [← Ny601.out] at ho18|(simp only [Int.reduceToNat] at ho18;rw [← Ny601.out] at ho18));have n0_:=Aside0.mk (Kd.R_lower ho18 (below_size (by repeat (first|(with_reducible first|exact HB.out|apply below_alloc|apply pw_below_drewN|apply below_drew1|refine below_set ?_ GE600.out)|exact HB.out))));have n1_:=Aside0.mk (blk_below (g:=gb600) (o:=.cells #[.int .i64 a0_0,.int .i64 a0_1,.slice A0_2 l0_2.length c0_2,.int .i64 a0_3,.int .i64 a0_4,.int .i64 a0_5] 46 (0,0)) (by (with_reducible repeat (first|refine blk_drewN ?_ _|refine blk_drew ?_|refine blk_alloc ?_ _));exact BK600.out) hb);have n2_:=Aside0.mk (below_step (by repeat (first|(with_reducible first|exact HB.out|apply below_alloc|apply pw_below_drewN|apply below_drew1|refine below_set ?_ GE600.out)|exact HB.out)) hb);clear BK600;clear HB;have HO603:=n0_;have BK600:=n1_;have HB:=n2_;clear n0_ n1_ n2_;clear hb ho18;have hcz19_0 : w17.cell? ⟨gb600,0,none⟩=some (.int .i64 a0_0):=(blk_cell BK600.out 0).trans rfl;have hcz19_1 : w17.cell? ⟨gb600,1,none⟩=some (.int .i64 a0_1):=(blk_cell BK600.out 1).trans rfl;have hcz19_2 : w17.cell? ⟨gb600,2,none⟩=some (.slice A0_2 l0_2.length c0_2):=(blk_cell BK600.out 2).trans rfl;have hcz19_3 : w17.cell? ⟨gb600,3,none⟩=some (.int .i64 a0_3):=(blk_cell BK600.out 3).trans rfl;have hcz19_4 : w17.cell? ⟨gb600,4,none⟩=some (.int .i64 a0_4):=(blk_cell BK600.out 4).trans rfl;have hcz19_5 : w17.cell? ⟨gb600,5,none⟩=some (.int .i64 a0_5):=(blk_cell BK600.out 5).trans rfl;have hfz19_0:=blk_frozen BK600.out 0;have hfz19_1:=blk_frozen BK600.out 1;have hfz19_2:=blk_frozen BK600.out 2;have hfz19_3:=blk_frozen BK600.out 3;have hfz19_4:=blk_frozen BK600.out 4;have hfz19_5:=blk_frozen BK600.out 5)|((with_reducible refine gate_builtin (b:=.append) (xs:=#[.tmp 4,.tmp 6]) rfl ?_);at_builtin;refine Kd.R_append_rows (Kd.int .i64) (w0:=w) w.heap.size rfl (.tmp 4) (.tmp 6) 37 3 (.int .i64 0) 8 rfl Try.underlying37 info3 rfl (by decide) (by omega) v602 y601 l0_2 _ _ _ (fun _ => True) (fun _ => False) rfl rfl ?aO ?aR (fun _ _ h => h) (fun _ h => h.elim) ?aF ?aB ?aS ?aL ?_;(case aR => repeat (first|exact (Kd.C_below HR0_2.out HB.out)|(with_reducible refine Kd.C_alloc ?_ _)|(with_reducible refine Kd.C_drewN ?_ _)|(with_reducible refine Kd.C_drew ?_)));(case aB => exact (by repeat (first|(with_reducible first|exact HB.out|apply below_alloc|apply pw_below_drewN|apply below_drew1|refine below_set ?_ GE600.out)|exact HB.out)));(case aF => exact (fun _ _ => trivial));(case aO => exact (by (with_reducible repeat (first|apply Kd.R_alloc|apply Kd.R_drewN|apply Kd.R_drew));exact HO603.out));(case aS => exact (below_size (by repeat (first|(with_reducible first|exact HB.out|apply below_alloc|apply pw_below_drewN|apply below_drew1|refine below_set ?_ GE600.out)|exact HB.out))));(case aL => have:=LMc2.out;omega);intro v605 w20 ho hb hg hat;rw [← Ny604.out] at ho;have n0_:=Aside0.mk (blk_grown (g:=gb600) (o:=.cells #[.int .i64 a0_0,.int .i64 a0_1,.slice A0_2 l0_2.length c0_2,.int .i64 a0_3,.int .i64 a0_4,.int .i64 a0_5] 46 (0,0)) (by (with_reducible repeat (first|refine blk_drewN ?_ _|refine blk_drew ?_|refine blk_alloc ?_ _));exact BK600.out) hg (Kd.R_ne HO603.out BK600.out (by decide)));have n1_:=Aside0.mk (hb);have n2_:=Aside0.mk (ho);clear BK600;clear HB;clear HO603;have BK600:=n0_;have HB:=n1_;have HO606:=n2_;clear n0_ n1_ n2_;clear ho hb hg hat;have hcz21_0 : w20.cell? ⟨gb600,0,none⟩=some (.int .i64 a0_0):=(blk_cell BK600.out 0).trans rfl;have hcz21_1 : w20.cell? ⟨gb600,1,none⟩=some (.int .i64 a0_1):=(blk_cell BK600.out 1).trans rfl;have hcz21_2 : w20.cell? ⟨gb600,2,none⟩=some (.slice A0_2 l0_2.length c0_2):=(blk_cell BK600.out 2).trans rfl;have hcz21_3 : w20.cell? ⟨gb600,3,none⟩=some (.int .i64 a0_3):=(blk_cell BK600.out 3).trans rfl;have hcz21_4 : w20.cell? ⟨gb600,4,none⟩=some (.int .i64 a0_4):=(blk_cell BK600.out 4).trans rfl;have hcz21_5 : w20.cell? ⟨gb600,5,none⟩=some (.int .i64 a0_5):=(blk_cell BK600.out 5).trans rfl;have hfz21_0:=blk_frozen BK600.out 0;have hfz21_1:=blk_frozen BK600.out 1;have hfz21_2:=blk_frozen BK600.out 2;have hfz21_3:=blk_frozen BK600.out 3;have hfz21_4:=blk_frozen BK600.out 4;have hfz21_5:=blk_frozen BK600.out 5)|((with_reducible refine gate_builtin (b:=.append) (xs:=#[.tmp 11,.tmp 15]) rfl ?_);at_builtin;refine Kd.R_append (Kd.int .i64) (w0:=w) w.heap.size rfl (.tmp 11) (.tmp 15) 37 3 (.int .i64 0) 8 rfl Try.underlying37 info3 rfl (by decide) (by omega) v605 y604 (wrap64 (100 + a0_3)) [.int .i64 (wrap64 (100 + a0_3))] (fun _ => True) (fun _ => False) rfl rfl ?aP (fun _ hk => hk.elim) ?aF ?aO ?aB ?aS ?aL ?_;(case aP => exact rfl);(case aB => exact (by repeat (first|(with_reducible first|exact HB.out|apply below_alloc|apply pw_below_drewN|apply below_drew1|refine below_set ?_ GE600.out)|exact HB.out)));(case aF => exact (fun _ _ => trivial));(case aO => exact (by (with_reducible repeat (first|apply Kd.R_alloc|apply Kd.R_drewN|apply Kd.R_drew));exact HO606.out));(case aS => exact (below_size (by repeat (first|(with_reducible first|exact HB.out|apply below_alloc|apply pw_below_drewN|apply below_drew1|refine below_set ?_ GE600.out)|exact HB.out))));(case aL => have:=LMc4.out;omega);intro v608 w22 ho hb hg hat;rw [← Ny607.out] at ho;have n0_:=Aside0.mk (blk_grown (g:=gb600) (o:=.cells #[.int .i64 a0_0,.int .i64 a0_1,.slice A0_2 l0_2.length c0_2,.int .i64 a0_3,.int .i64 a0_4,.int .i64 a0_5] 46 (0,0)) (by (with_reducible repeat (first|refine blk_drewN ?_ _|refine blk_drew ?_|refine blk_alloc ?_ _));exact BK600.out) hg (Kd.R_ne HO606.out BK600.out (by decide)));have n1_:=Aside0.mk (hb);have n2_:=Aside0.mk (ho);clear BK600;clear HB;clear HO606;have BK600:=n0_;have HB:=n1_;have HO609:=n2_;clear n0_ n1_ n2_;clear ho hb hg hat;have hcz23_0 : w22.cell? ⟨gb600,0,none⟩=some (.int .i64 a0_0):=(blk_cell BK600.out 0).trans rfl;have hcz23_1 : w22.cell? ⟨gb600,1,none⟩=some (.int .i64 a0_1):=(blk_cell BK600.out 1).trans rfl;have hcz23_2 : w22.cell? ⟨gb600,2,none⟩=some (.slice A0_2 l0_2.length c0_2):=(blk_cell BK600.out 2).trans rfl;have hcz23_3 : w22.cell? ⟨gb600,3,none⟩=some (.int .i64 a0_3):=(blk_cell BK600.out 3).trans rfl;have hcz23_4 : w22.cell? ⟨gb600,4,none⟩=some (.int .i64 a0_4):=(blk_cell BK600.out 4).trans rfl;have hcz23_5 : w22.cell? ⟨gb600,5,none⟩=some (.int .i64 a0_5):=(blk_cell BK600.out 5).trans rfl;have hfz23_0:=blk_frozen BK600.out 0;have hfz23_1:=blk_frozen BK600.out 1;have hfz23_2:=blk_frozen BK600.out 2;have hfz23_3:=blk_frozen BK600.out 3;have hfz23_4:=blk_frozen BK600.out 4;have hfz23_5:=blk_frozen BK600.out 5))
     go_ret
     exact ⟨_,by first|rfl|(simp [errW_none,errW_some] <;> rfl)|(simp [*,errW_none,errW_some] <;> rfl),by (with_reducible repeat (first|apply Kd.R_alloc|apply Kd.R_drewN|apply Kd.R_drew));exact HO609.out,by repeat (first|(with_reducible first|exact HB.out|apply below_alloc|apply pw_below_drewN|apply below_drew1|refine below_set ?_ GE600.out)|exact HB.out)⟩
   ·rw [if_neg c4] at H
    exact absurd H (by simp)
  ·rw [if_neg c3] at H
   have c3b0 : (a0_0 == 2)=false:=beq_eq_false_iff_ne.mpr c3
   have c3b1 : (a0_0 != 2)=true:=bne_iff_ne.mpr c3
   by_cases c24 : a0_4 ≥ 0
   ·rw [if_pos c24] at H
    have c24b0 : decide (0≤a0_4)=true:=decide_eq_true c24
    clear c24
    by_cases c25 : y604.length < 17592186044416
    ·rw [if_pos c25] at H
     have LMc25:=Aside0.mk c25
     clear c25
     obtain ⟨y613,hy613⟩ : ∃ y_ : List Int,y_=(y604 ++ [wrap64 (100 + a0_4)]):=⟨_,rfl⟩
     replace H : (some y613)=some r:=by first|(rw [hy613];with_reducible exact H)|(have H2_:=(Option.bind_some _ _).symm.trans H;rw [hy613];with_reducible exact H2_)|(have H2_:=(Option.bind_some _ _).symm.trans H;with_reducible exact H2_)|with_reducible exact H|(rw [hy613];exact H)|exact H
     have Ny613:=Aside0.mk hy613
     clear hy613
     obtain rfl:=Option.some.inj H
     go_enter Try.func83,Try.ntmps83
     go_wp2_with (first|((with_reducible refine gate_dst (N:=1) rfl ?_);refine box_event ?hg (N:=1) ?hd (cs:=#[.int .i64 a0_0,.int .i64 a0_1,.slice A0_2 l0_2.length c0_2,.int .i64 a0_3,.int .i64 a0_4,.int .i64 a0_5]) (t:=46) ?hr ?_;(case hd => rfl);(case hg => rfl);(case hr => first|(go_simp;done)|(go_simp;rfl));intro gb600 hg w26 hbox hb;have n0_:=Aside0.mk (below_step (by repeat (first|(with_reducible first|exact HB.out|apply below_alloc|apply pw_below_drewN|apply below_drew1)|exact HB.out)) hb);have n1_:=Aside0.mk (hbox);have n2_:=Aside0.mk ((by rw [hg];exact (below_size (by repeat (first|(with_reducible first|exact HB.out|apply below_alloc|apply pw_below_drewN|apply below_drew1)|exact HB.out))) : w.heap.size≤gb600));have n3_:=Aside0.mk ((by rw [hg];exact (below_size (by repeat (first|(with_reducible first|exact HB.out|apply below_alloc|apply pw_below_drewN|apply below_drew1)|exact HB.out))) : w.heap.size≤gb600));clear HB;have HB:=n0_;have BK600:=n1_;have GW600:=n2_;have GE600:=n3_;clear n0_ n1_ n2_ n3_;clear hb hbox hg)|((with_reducible refine gate_dst (N:=4) rfl ?_);refine Kd.R_lit (Kd.int .i64) _ 3 ?hg (N:=4) ?hd (xs:=([] : List Int)) (inner:=[]) (ok:=fun _ => True) (okp:=fun _ => True) ?hr ?hp (fun _ hk => hk) trivial (Below.refl _ _) (Nat.le_refl _) (by simp) ?_;(case hd => rfl);(case hg => rfl);(case hr => first|(go_simp;done)|(go_simp;rfl));(case hp => exact (Reps.none _ _));intro v602 w27 ho28 hb hg_ hnew_;clear hg_ hnew_;(first|rw [← Ny601.out] at ho28|(simp only [Int.reduceToNat] at ho28;rw [← Ny601.out] at ho28));have n0_:=Aside0.mk (Kd.R_lower ho28 (below_size (by repeat (first|(with_reducible first|exact HB.out|apply below_alloc|apply pw_below_drewN|apply below_drew1|refine below_set ?_ GE600.out)|exact HB.out))));have n1_:=Aside0.mk (blk_below (g:=gb600) (o:=.cells #[.int .i64 a0_0,.int .i64 a0_1,.slice A0_2 l0_2.length c0_2,.int .i64 a0_3,.int .i64 a0_4,.int .i64 a0_5] 46 (0,0)) (by (with_reducible repeat (first|refine blk_drewN ?_ _|refine blk_drew ?_|refine blk_alloc ?_ _));exact BK600.out) hb);have n2_:=Aside0.mk (below_step (by repeat (first|(with_reducible first|exact HB.out|apply below_alloc|apply pw_below_drewN|apply below_drew1|refine below_set ?_ GE600.out)|exact HB.out)) hb);clear BK600;clear HB;have HO603:=n0_;have BK600:=n1_;have HB:=n2_;clear n0_ n1_ n2_;clear hb ho28;have hcz29_0 : w27.cell? ⟨gb600,0,none⟩=some (.int .i64 a0_0):=(blk_cell BK600.out 0).trans rfl;have hcz29_1 : w27.cell? ⟨gb600,1,none⟩=some (.int .i64 a0_1):=(blk_cell BK600.out 1).trans rfl;have hcz29_2 : w27.cell? ⟨gb600,2,none⟩=some (.slice A0_2 l0_2.length c0_2):=(blk_cell BK600.out 2).trans rfl;have hcz29_3 : w27.cell? ⟨gb600,3,none⟩=some (.int .i64 a0_3):=(blk_cell BK600.out 3).trans rfl;have hcz29_4 : w27.cell? ⟨gb600,4,none⟩=some (.int .i64 a0_4):=(blk_cell BK600.out 4).trans rfl;have hcz29_5 : w27.cell? ⟨gb600,5,none⟩=some (.int .i64 a0_5):=(blk_cell BK600.out 5).trans rfl;have hfz29_0:=blk_frozen BK600.out 0;have hfz29_1:=blk_frozen BK600.out 1;have hfz29_2:=blk_frozen BK600.out 2;have hfz29_3:=blk_frozen BK600.out 3;have hfz29_4:=blk_frozen BK600.out 4;have hfz29_5:=blk_frozen BK600.out 5)|((with_reducible refine gate_builtin (b:=.append) (xs:=#[.tmp 4,.tmp 6]) rfl ?_);at_builtin;refine Kd.R_append_rows (Kd.int .i64) (w0:=w) w.heap.size rfl (.tmp 4) (.tmp 6) 37 3 (.int .i64 0) 8 rfl Try.underlying37 info3 rfl (by decide) (by omega) v602 y601 l0_2 _ _ _ (fun _ => True) (fun _ => False) rfl rfl ?aO ?aR (fun _ _ h => h) (fun _ h => h.elim) ?aF ?aB ?aS ?aL ?_;(case aR => repeat (first|exact (Kd.C_below HR0_2.out HB.out)|(with_reducible refine Kd.C_alloc ?_ _)|(with_reducible refine Kd.C_drewN ?_ _)|(with_reducible refine Kd.C_drew ?_)));(case aB => exact (by repeat (first|(with_reducible first|exact HB.out|apply below_alloc|apply pw_below_drewN|apply below_drew1|refine below_set ?_ GE600.out)|exact HB.out)));(case aF => exact (fun _ _ => trivial));(case aO => exact (by (with_reducible repeat (first|apply Kd.R_alloc|apply Kd.R_drewN|apply Kd.R_drew));exact HO603.out));(case aS => exact (below_size (by repeat (first|(with_reducible first|exact HB.out|apply below_alloc|apply pw_below_drewN|apply below_drew1|refine below_set ?_ GE600.out)|exact HB.out))));(case aL => have:=LMc2.out;omega);intro v605 w30 ho hb hg hat;rw [← Ny604.out] at ho;have n0_:=Aside0.mk (blk_grown (g:=gb600) (o:=.cells #[.int .i64 a0_0,.int .i64 a0_1,.slice A0_2 l0_2.length c0_2,.int .i64 a0_3,.int .i64 a0_4,.int .i64 a0_5] 46 (0,0)) (by (with_reducible repeat (first|refine blk_drewN ?_ _|refine blk_drew ?_|refine blk_alloc ?_ _));exact BK600.out) hg (Kd.R_ne HO603.out BK600.out (by decide)));have n1_:=Aside0.mk (hb);have n2_:=Aside0.mk (ho);clear BK600;clear HB;clear HO603;have BK600:=n0_;have HB:=n1_;have HO606:=n2_;clear n0_ n1_ n2_;clear ho hb hg hat;have hcz31_0 : w30.cell? ⟨gb600,0,none⟩=some (.int .i64 a0_0):=(blk_cell BK600.out 0).trans rfl;have hcz31_1 : w30.cell? ⟨gb600,1,none⟩=some (.int .i64 a0_1):=(blk_cell BK600.out 1).trans rfl;have hcz31_2 : w30.cell? ⟨gb600,2,none⟩=some (.slice A0_2 l0_2.length c0_2):=(blk_cell BK600.out 2).trans rfl;have hcz31_3 : w30.cell? ⟨gb600,3,none⟩=some (.int .i64 a0_3):=(blk_cell BK600.out 3).trans rfl;have hcz31_4 : w30.cell? ⟨gb600,4,none⟩=some (.int .i64 a0_4):=(blk_cell BK600.out 4).trans rfl;have hcz31_5 : w30.cell? ⟨gb600,5,none⟩=some (.int .i64 a0_5):=(blk_cell BK600.out 5).trans rfl;have hfz31_0:=blk_frozen BK600.out 0;have hfz31_1:=blk_frozen BK600.out 1;have hfz31_2:=blk_frozen BK600.out 2;have hfz31_3:=blk_frozen BK600.out 3;have hfz31_4:=blk_frozen BK600.out 4;have hfz31_5:=blk_frozen BK600.out 5)|((with_reducible refine gate_builtin (b:=.append) (xs:=#[.tmp 20,.tmp 24]) rfl ?_);at_builtin;refine Kd.R_append (Kd.int .i64) (w0:=w) w.heap.size rfl (.tmp 20) (.tmp 24) 37 3 (.int .i64 0) 8 rfl Try.underlying37 info3 rfl (by decide) (by omega) v605 y604 (wrap64 (100 + a0_4)) [.int .i64 (wrap64 (100 + a0_4))] (fun _ => True) (fun _ => False) rfl rfl ?aP (fun _ hk => hk.elim) ?aF ?aO ?aB ?aS ?aL ?_;(case aP => exact rfl);(case aB => exact (by repeat (first|(with_reducible first|exact HB.out|apply below_alloc|apply pw_below_drewN|apply below_drew1|refine below_set ?_ GE600.out)|exact HB.out)));(case aF => exact (fun _ _ => trivial));(case aO => exact (by (with_reducible repeat (first|apply Kd.R_alloc|apply Kd.R_drewN|apply Kd.R_drew));exact HO606.out));(case aS => exact (below_size (by repeat (first|(with_reducible first|exact HB.out|apply below_alloc|apply pw_below_drewN|apply below_drew1|refine below_set ?_ GE600.out)|exact HB.out))));(case aL => have:=LMc25.out;omega);intro v614 w32 ho hb hg hat;rw [← Ny613.out] at ho;have n0_:=Aside0.mk (blk_grown (g:=gb600) (o:=.cells #[.int .i64 a0_0,.int .i64 a0_1,.slice A0_2 l0_2.length c0_2,.int .i64 a0_3,.int .i64 a0_4,.int .i64 a0_5] 46 (0,0)) (by (with_reducible repeat (first|refine blk_drewN ?_ _|refine blk_drew ?_|refine blk_alloc ?_ _));exact BK600.out) hg (Kd.R_ne HO606.out BK600.out (by decide)));have n1_:=Aside0.mk (hb);have n2_:=Aside0.mk (ho);clear BK600;clear HB;clear HO606;have BK600:=n0_;have HB:=n1_;have HO615:=n2_;clear n0_ n1_ n2_;clear ho hb hg hat))
     go_ret
     exact ⟨_,by first|rfl|(simp [errW_none,errW_some] <;> rfl)|(simp [*,errW_none,errW_some] <;> rfl),by (with_reducible repeat (first|apply Kd.R_alloc|apply Kd.R_drewN|apply Kd.R_drew));exact HO615.out,by repeat (first|(with_reducible first|exact HB.out|apply below_alloc|apply pw_below_drewN|apply below_drew1|refine below_set ?_ GE600.out)|exact HB.out)⟩
    ·rw [if_neg c25] at H
     exact absurd H (by simp)
   ·rw [if_neg c24] at H
    have c24b0 : decide (0≤a0_4)=false:=decide_eq_false c24
    clear c24
    obtain rfl:=Option.some.inj H
    go_enter Try.func83,Try.ntmps83
    go_wp2_with (first|((with_reducible refine gate_dst (N:=1) rfl ?_);refine box_event ?hg (N:=1) ?hd (cs:=#[.int .i64 a0_0,.int .i64 a0_1,.slice A0_2 l0_2.length c0_2,.int .i64 a0_3,.int .i64 a0_4,.int .i64 a0_5]) (t:=46) ?hr ?_;(case hd => rfl);(case hg => rfl);(case hr => first|(go_simp;done)|(go_simp;rfl));intro gb600 hg w33 hbox hb;have n0_:=Aside0.mk (below_step (by repeat (first|(with_reducible first|exact HB.out|apply below_alloc|apply pw_below_drewN|apply below_drew1)|exact HB.out)) hb);have n1_:=Aside0.mk (hbox);have n2_:=Aside0.mk ((by rw [hg];exact (below_size (by repeat (first|(with_reducible first|exact HB.out|apply below_alloc|apply pw_below_drewN|apply below_drew1)|exact HB.out))) : w.heap.size≤gb600));have n3_:=Aside0.mk ((by rw [hg];exact (below_size (by repeat (first|(with_reducible first|exact HB.out|apply below_alloc|apply pw_below_drewN|apply below_drew1)|exact HB.out))) : w.heap.size≤gb600));clear HB;have HB:=n0_;have BK600:=n1_;have GW600:=n2_;have GE600:=n3_;clear n0_ n1_ n2_ n3_;clear hb hbox hg)|((with_reducible refine gate_dst (N:=4) rfl ?_);refine Kd.R_lit (Kd.int .i64) _ 3 ?hg (N:=4) ?hd (xs:=([] : List Int)) (inner:=[]) (ok:=fun _ => True) (okp:=fun _ => True) ?hr ?hp (fun _ hk => hk) trivial (Below.refl _ _) (Nat.le_refl _) (by simp) ?_;(case hd => rfl);(case hg => rfl);(case hr => first|(go_simp;done)|(go_simp;rfl));(case hp => exact (Reps.none _ _));intro v602 w34 ho35 hb hg_ hnew_;clear hg_ hnew_;(first|rw [← Ny601.out] at ho35|(simp only [Int.reduceToNat] at ho35;rw [← Ny601.out] at ho35));have n0_:=Aside0.mk (Kd.R_lower ho35 (below_size (by repeat (first|(with_reducible first|exact HB.out|apply below_alloc|apply pw_below_drewN|apply below_drew1|refine below_set ?_ GE600.out)|exact HB.out))));have n1_:=Aside0.mk (blk_below (g:=gb600) (o:=.cells #[.int .i64 a0_0,.int .i64 a0_1,.slice A0_2 l0_2.length c0_2,.int .i64 a0_3,.int .i64 a0_4,.int .i64 a0_5] 46 (0,0)) (by (with_reducible repeat (first|refine blk_drewN ?_ _|refine blk_drew ?_|refine blk_alloc ?_ _));exact BK600.out) hb);have n2_:=Aside0.mk (below_step (by repeat (first|(with_reducible first|exact HB.out|apply below_alloc|apply pw_below_drewN|apply below_drew1|refine below_set ?_ GE600.out)|exact HB.out)) hb);clear BK600;clear HB;have HO603:=n0_;have BK600:=n1_;have HB:=n2_;clear n0_ n1_ n2_;clear hb ho35;have hcz36_0 : w34.cell? ⟨gb600,0,none⟩=some (.int .i64 a0_0):=(blk_cell BK600.out 0).trans rfl;have hcz36_1 : w34.cell? ⟨gb600,1,none⟩=some (.int .i64 a0_1):=(blk_cell BK600.out 1).trans rfl;have hcz36_2 : w34.cell? ⟨gb600,2,none⟩=some (.slice A0_2 l0_2.length c0_2):=(blk_cell BK600.out 2).trans rfl;have hcz36_3 : w34.cell? ⟨gb600,3,none⟩=some (.int .i64 a0_3):=(blk_cell BK600.out 3).trans rfl;have hcz36_4 : w34.cell? ⟨gb600,4,none⟩=some (.int .i64 a0_4):=(blk_cell BK600.out 4).trans rfl;have hcz36_5 : w34.cell? ⟨gb600,5,none⟩=some (.int .i64 a0_5):=(blk_cell BK600.out 5).trans rfl;have hfz36_0:=blk_frozen BK600.out 0;have hfz36_1:=blk_frozen BK600.out 1;have hfz36_2:=blk_frozen BK600.out 2;have hfz36_3:=blk_frozen BK600.out 3;have hfz36_4:=blk_frozen BK600.out 4;have hfz36_5:=blk_frozen BK600.out 5)|((with_reducible refine gate_builtin (b:=.append) (xs:=#[.tmp 4,.tmp 6]) rfl ?_);at_builtin;refine Kd.R_append_rows (Kd.int .i64) (w0:=w) w.heap.size rfl (.tmp 4) (.tmp 6) 37 3 (.int .i64 0) 8 rfl Try.underlying37 info3 rfl (by decide) (by omega) v602 y601 l0_2 _ _ _ (fun _ => True) (fun _ => False) rfl rfl ?aO ?aR (fun _ _ h => h) (fun _ h => h.elim) ?aF ?aB ?aS ?aL ?_;(case aR => repeat (first|exact (Kd.C_below HR0_2.out HB.out)|(with_reducible refine Kd.C_alloc ?_ _)|(with_reducible refine Kd.C_drewN ?_ _)|(with_reducible refine Kd.C_drew ?_)));(case aB => exact (by repeat (first|(with_reducible first|exact HB.out|apply below_alloc|apply pw_below_drewN|apply below_drew1|refine below_set ?_ GE600.out)|exact HB.out)));(case aF => exact (fun _ _ => trivial));(case aO => exact (by (with_reducible repeat (first|apply Kd.R_alloc|apply Kd.R_drewN|apply Kd.R_drew));exact HO603.out));(case aS => exact (below_size (by repeat (first|(with_reducible first|exact HB.out|apply below_alloc|apply pw_below_drewN|apply below_drew1|refine below_set ?_ GE600.out)|exact HB.out))));(case aL => have:=LMc2.out;omega);intro v605 w37 ho hb hg hat;rw [← Ny604.out] at ho;have n0_:=Aside0.mk (blk_grown (g:=gb600) (o:=.cells #[.int .i64 a0_0,.int .i64 a0_1,.slice A0_2 l0_2.length c0_2,.int .i64 a0_3,.int .i64 a0_4,.int .i64 a0_5] 46 (0,0)) (by (with_reducible repeat (first|refine blk_drewN ?_ _|refine blk_drew ?_|refine blk_alloc ?_ _));exact BK600.out) hg (Kd.R_ne HO603.out BK600.out (by decide)));have n1_:=Aside0.mk (hb);have n2_:=Aside0.mk (ho);clear BK600;clear HB;clear HO603;have BK600:=n0_;have HB:=n1_;have HO606:=n2_;clear n0_ n1_ n2_;clear ho hb hg hat;have hcz38_0 : w37.cell? ⟨gb600,0,none⟩=some (.int .i64 a0_0):=(blk_cell BK600.out 0).trans rfl;have hcz38_1 : w37.cell? ⟨gb600,1,none⟩=some (.int .i64 a0_1):=(blk_cell BK600.out 1).trans rfl;have hcz38_2 : w37.cell? ⟨gb600,2,none⟩=some (.slice A0_2 l0_2.length c0_2):=(blk_cell BK600.out 2).trans rfl;have hcz38_3 : w37.cell? ⟨gb600,3,none⟩=some (.int .i64 a0_3):=(blk_cell BK600.out 3).trans rfl;have hcz38_4 : w37.cell? ⟨gb600,4,none⟩=some (.int .i64 a0_4):=(blk_cell BK600.out 4).trans rfl;have hcz38_5 : w37.cell? ⟨gb600,5,none⟩=some (.int .i64 a0_5):=(blk_cell BK600.out 5).trans rfl;have hfz38_0:=blk_frozen BK600.out 0;have hfz38_1:=blk_frozen BK600.out 1;have hfz38_2:=blk_frozen BK600.out 2;have hfz38_3:=blk_frozen BK600.out 3;have hfz38_4:=blk_frozen BK600.out 4;have hfz38_5:=blk_frozen BK600.out 5))
    go_ret
    exact ⟨_,by first|rfl|(simp [errW_none,errW_some] <;> rfl)|(simp [*,errW_none,errW_some] <;> rfl),by (with_reducible repeat (first|apply Kd.R_alloc|apply Kd.R_drewN|apply Kd.R_drew));exact HO606.out,by repeat (first|(with_reducible first|exact HB.out|apply below_alloc|apply pw_below_drewN|apply below_drew1|refine below_set ?_ GE600.out)|exact HB.out)⟩
 ·rw [if_neg c2] at H
  exact absurd H (by simp)
end Go.Proofs.Ytbelnopbggkdfaa.Q
end

section
namespace Go.Proofs.Ytbelnopbggkdfaa.Q
open Go.RowKit Go.Proofs.YtbelnopbggkdfaaW.PrintWords Go.Proofs.YtbelnopbggkdfaaW.PrintLast Go.Proofs.YtbelnopbggkdfaaW.PrintMore
attribute [local go_sem] max2_int min2_int max_two min_two max_three min_three max_four min_four   -- for this text's walks alone
set_option linter.unusedVariables false
set_option linter.unusedSimpArgs false
def phasorref19_touch.f (k : Nat) (a0_0 : Int) (a0_1 : Int) (l0_2 : List (S46)) (a1 : Int) (a2 : Int) : Option (Bool):=if 0≤a1 then (if a1 < (l0_2.length : Int) then ((phasorref19_wires.f ((rd_T46 l0_2 a1).f0) ((rd_T46 l0_2 a1).f1) ((rd_T46 l0_2 a1).f2) ((rd_T46 l0_2 a1).f3) ((rd_T46 l0_2 a1).f4) ((rd_T46 l0_2 a1).f5)).bind fun t618 => (if 0≤a2 then (if a2 < (l0_2.length : Int) then ((phasorref19_wires.f ((rd_T46 l0_2 a2).f0) ((rd_T46 l0_2 a2).f1) ((rd_T46 l0_2 a2).f2) ((rd_T46 l0_2 a2).f3) ((rd_T46 l0_2 a2).f4) ((rd_T46 l0_2 a2).f5)).bind fun t622 => ((phasorref19_meet.f k t618 t622).bind fun t625 => (some t625))) else (none)) else (none))) else (none)) else (none)
def phasorref19_touch.T1 : Bool × List (List Nat × List Nat):=(true,[([],[]),([0],[0]),([],[]),([1,2],[1,2]),([3],[3]),([4],[4]),([],[]),([6],[6]),([],[]),([7,8],[7,8]),([9],[9]),([10,5],[10]),([5,11,11],[5,11]),([12,12,0,1,2,3,4,5,6,7,8,9,10,11,12],[12])])
def phasorref19_touch.B1 : List Nat:=[0,1,0,7,15,31,0,64,0,448,960,2047,4095,8191]
theorem phasorref19_touch.tab1 : rtab .any (opsOf Try.f66 1)=phasorref19_touch.T1:=by kernel_rfl
theorem phasorref19_touch.bits1 : waitsOk phasorref19_touch.T1.2 phasorref19_touch.B1=true:=by kernel_rfl
set_option maxHeartbeats 8000000 in
set_option maxRecDepth 100000 in
theorem phasorref19_touch.calls (k : Nat) (a0_0 : Int) (a0_1 : Int) (A0_2 : Option Addr) (c0_2 : Nat) (l0_2 : List (S46)) (a1 : Int) (a2 : Int) (r : Bool) (w : World) (hr0_2 : Kd.C k46 w A0_2 l0_2.length l0_2) (hc0_2 : l0_2.length≤c0_2) (h : phasorref19_touch.f k a0_0 a0_1 l0_2 a1 a2=some r) :
  Calls Try.prog 66 #[.agg #[.int .i64 a0_0,.int .i64 a0_1,.slice A0_2 l0_2.length c0_2],.int .i64 a1,.int .i64 a2] w fun e w' => e=.returned (.bool r)∧Below w.heap.size w w':=by
 have hu24:=Try.underlying24
 have hu46:=Try.underlying46
 have HR0_2:=Aside0.mk hr0_2
 have HC0_2:=Aside0.mk hc0_2
 clear hr0_2 hc0_2
 have HB:=Aside0.mk (Below.refl w.heap.size w)
 have H : (if 0≤a1 then (if a1 < (l0_2.length : Int) then ((phasorref19_wires.f ((rd_T46 l0_2 a1).f0) ((rd_T46 l0_2 a1).f1) ((rd_T46 l0_2 a1).f2) ((rd_T46 l0_2 a1).f3) ((rd_T46 l0_2 a1).f4) ((rd_T46 l0_2 a1).f5)).bind fun t618 => (if 0≤a2 then (if a2 < (l0_2.length : Int) then ((phasorref19_wires.f ((rd_T46 l0_2 a2).f0) ((rd_T46 l0_2 a2).f1) ((rd_T46 l0_2 a2).f2) ((rd_T46 l0_2 a2).f3) ((rd_T46 l0_2 a2).f4) ((rd_T46 l0_2 a2).f5)).bind fun t622 => ((phasorref19_meet.f k t618 t622).bind fun t625 => (some t625))) else (none)) else (none))) else (none)) else (none))=some r:=h
 clear h
 by_cases c4 : 0≤a1
 ·rw [if_pos c4] at H
  have c4b0 : decide (0≤a1)=true:=decide_eq_true c4
  clear c4
  by_cases c5 : a1 < (l0_2.length : Int)
  ·rw [if_pos c5] at H
   have c5b0 : decide (a1 < (l0_2.length : Int))=true:=decide_eq_true c5
   clear c5
   replace H:=Option.bind_eq_some_iff.mp H
   obtain ⟨t618,A60,H⟩:=H
   replace H : (if 0≤a2 then (if a2 < (l0_2.length : Int) then ((phasorref19_wires.f ((rd_T46 l0_2 a2).f0) ((rd_T46 l0_2 a2).f1) ((rd_T46 l0_2 a2).f2) ((rd_T46 l0_2 a2).f3) ((rd_T46 l0_2 a2).f4) ((rd_T46 l0_2 a2).f5)).bind fun t622 => ((phasorref19_meet.f k t618 t622).bind fun t625 => (some t625))) else (none)) else (none))=some r:=H
   have A6:=Aside0.mk A60
   clear A60
   by_cases c7 : 0≤a2
   ·rw [if_pos c7] at H
    have c7b0 : decide (0≤a2)=true:=decide_eq_true c7
    clear c7
    by_cases c8 : a2 < (l0_2.length : Int)
    ·rw [if_pos c8] at H
     have c8b0 : decide (a2 < (l0_2.length : Int))=true:=decide_eq_true c8
     clear c8
     replace H:=Option.bind_eq_some_iff.mp H
     obtain ⟨t622,A90,H⟩:=H
     replace H : ((phasorref19_meet.f k t618 t622).bind fun t625 => (some t625))=some r:=H
     have A9:=Aside0.mk A90
     clear A90
     replace H:=Option.bind_eq_some_iff.mp H
     obtain ⟨t625,A100,H⟩:=H
     replace H : (some t625)=some r:=H
     have A10:=Aside0.mk A100
     clear A100
     obtain rfl:=Option.some.inj H
     go_enter Try.func66,Try.ntmps66
     try go_wp2_with (first|((with_reducible refine gate_dst (N:=3) rfl ?_);refine box_event ?hg (N:=3) ?hd (cs:=#[.int .i64 a0_0,.int .i64 a0_1,.slice A0_2 l0_2.length c0_2]) (t:=24) ?hr ?_;(case hd => rfl);(case hg => rfl);(case hr => first|(go_simp;done)|(go_simp;rfl));intro gb616 hg w11 hbox hb;have n0_:=Aside0.mk (below_step (by repeat (first|(with_reducible first|exact HB.out|apply below_alloc|apply pw_below_drewN|apply below_drew1)|exact HB.out)) hb);have n1_:=Aside0.mk (hbox);have n2_:=Aside0.mk ((by rw [hg];exact (below_size (by repeat (first|(with_reducible first|exact HB.out|apply below_alloc|apply pw_below_drewN|apply below_drew1)|exact HB.out))) : w.heap.size≤gb616));have n3_:=Aside0.mk ((by rw [hg];exact (below_size (by repeat (first|(with_reducible first|exact HB.out|apply below_alloc|apply pw_below_drewN|apply below_drew1)|exact HB.out))) : w.heap.size≤gb616));clear HB;have HB:=n0_;have BK616:=n1_;have GW616:=n2_;have GE616:=n3_;clear n0_ n1_ n2_ n3_;clear hb hbox hg))
     have n0_:=Aside0.mk (blk_drew BK616.out)
     have n1_:=Aside0.mk (below_drew1 HB.out)
     clear BK616
     clear HB
     have BK616:=n0_
     have HB:=n1_
     clear n0_ n1_
     have p617 : 0≤(a1 : Int):=of_decide_eq_true (by first|(with_reducible assumption)|assumption)
     have q617 : a1 < (l0_2.length : Int):=of_decide_eq_true (by first|(with_reducible assumption)|assumption)
     obtain ⟨ad617,A617_2,c617_2,e617,hx617_0,hx617_1,hx617_2,hx617_3,hx617_4,hx617_5,hl617_2,hi617_2⟩:=at_T46 HR0_2.out a1 p617 q617
     have hw617_5:=hx617_5
     have hw617_4:=hx617_4
     have hw617_3:=hx617_3
     have hw617_2:=hx617_2
     have hw617_1:=hx617_1
     have hw617_0:=hx617_0
     cases e617
     replace hx617_0:=(HB.out.cell (World.block_lt_of_cell? w _ hx617_0)).trans hx617_0
     replace hx617_1:=(HB.out.cell (World.block_lt_of_cell? w _ hx617_1)).trans hx617_1
     replace hx617_2:=(HB.out.cell (World.block_lt_of_cell? w _ hx617_2)).trans hx617_2
     replace hx617_3:=(HB.out.cell (World.block_lt_of_cell? w _ hx617_3)).trans hx617_3
     replace hx617_4:=(HB.out.cell (World.block_lt_of_cell? w _ hx617_4)).trans hx617_4
     replace hx617_5:=(HB.out.cell (World.block_lt_of_cell? w _ hx617_5)).trans hx617_5
     have HR617_2:=Aside0.mk hi617_2
     have HC617_2:=Aside0.mk hl617_2
     clear hi617_2 hl617_2
     replace p617:=eq_true p617
     replace q617:=eq_true q617
     have p621 : 0≤(a2 : Int):=of_decide_eq_true (by first|(with_reducible assumption)|assumption)
     have q621 : a2 < (l0_2.length : Int):=of_decide_eq_true (by first|(with_reducible assumption)|assumption)
     obtain ⟨ad621,A621_2,c621_2,e621,hx621_0,hx621_1,hx621_2,hx621_3,hx621_4,hx621_5,hl621_2,hi621_2⟩:=at_T46 HR0_2.out a2 p621 q621
     have hw621_5:=hx621_5
     have hw621_4:=hx621_4
     have hw621_3:=hx621_3
     have hw621_2:=hx621_2
     have hw621_1:=hx621_1
     have hw621_0:=hx621_0
     obtain rfl : ad617=ad621:=(by injection e621)
     replace hx621_0:=(HB.out.cell (World.block_lt_of_cell? w _ hx621_0)).trans hx621_0
     replace hx621_1:=(HB.out.cell (World.block_lt_of_cell? w _ hx621_1)).trans hx621_1
     replace hx621_2:=(HB.out.cell (World.block_lt_of_cell? w _ hx621_2)).trans hx621_2
     replace hx621_3:=(HB.out.cell (World.block_lt_of_cell? w _ hx621_3)).trans hx621_3
     replace hx621_4:=(HB.out.cell (World.block_lt_of_cell? w _ hx621_4)).trans hx621_4
     replace hx621_5:=(HB.out.cell (World.block_lt_of_cell? w _ hx621_5)).trans hx621_5
     have HR621_2:=Aside0.mk hi621_2
     have HC621_2:=Aside0.mk hl621_2
     clear hi621_2 hl621_2
     replace p621:=eq_true p621
     replace q621:=eq_true q621
     refine start_ (n:=14) (S:=fun w' => w'.cell? ⟨gb616,0,none⟩=some (.int .i64 a0_0)∧w'.cell? ⟨gb616,1,none⟩=some (.int .i64 a0_1)∧w'.cell? ⟨gb616,2,none⟩=some (.slice (some ad617) l0_2.length c0_2)∧w'.cell? (ad617.add ((a1).toNat * 6))=some (.int .i64 ((rd_T46 l0_2 a1).f0))∧w'.cell? ⟨(ad617.add ((a1).toNat * 6)).block,(ad617.add ((a1).toNat * 6)).off + 1,none⟩=some (.int .i64 ((rd_T46 l0_2 a1).f1))∧w'.cell? ⟨(ad617.add ((a1).toNat * 6)).block,(ad617.add ((a1).toNat * 6)).off + 2,none⟩=some (.slice A617_2 ((rd_T46 l0_2 a1).f2).length c617_2)∧w'.cell? ⟨(ad617.add ((a1).toNat * 6)).block,(ad617.add ((a1).toNat * 6)).off + 3,none⟩=some (.int .i64 ((rd_T46 l0_2 a1).f3))∧w'.cell? ⟨(ad617.add ((a1).toNat * 6)).block,(ad617.add ((a1).toNat * 6)).off + 4,none⟩=some (.int .i64 ((rd_T46 l0_2 a1).f4))∧w'.cell? ⟨(ad617.add ((a1).toNat * 6)).block,(ad617.add ((a1).toNat * 6)).off + 5,none⟩=some (.int .i64 ((rd_T46 l0_2 a1).f5))∧w'.cell? (ad617.add ((a2).toNat * 6))=some (.int .i64 ((rd_T46 l0_2 a2).f0))∧w'.cell? ⟨(ad617.add ((a2).toNat * 6)).block,(ad617.add ((a2).toNat * 6)).off + 1,none⟩=some (.int .i64 ((rd_T46 l0_2 a2).f1))∧w'.cell? ⟨(ad617.add ((a2).toNat * 6)).block,(ad617.add ((a2).toNat * 6)).off + 2,none⟩=some (.slice A621_2 ((rd_T46 l0_2 a2).f2).length c621_2)∧w'.cell? ⟨(ad617.add ((a2).toNat * 6)).block,(ad617.add ((a2).toNat * 6)).off + 3,none⟩=some (.int .i64 ((rd_T46 l0_2 a2).f3))∧w'.cell? ⟨(ad617.add ((a2).toNat * 6)).block,(ad617.add ((a2).toNat * 6)).off + 4,none⟩=some (.int .i64 ((rd_T46 l0_2 a2).f4))∧w'.cell? ⟨(ad617.add ((a2).toNat * 6)).block,(ad617.add ((a2).toNat * 6)).off + 5,none⟩=some (.int .i64 ((rd_T46 l0_2 a2).f5))) (ds:=[]) #[false,false,false,false,false,false,false,false,false,false,false,false,false,false] (by kernel_rfl) rfl rfl ⟨(blk_cell BK616.out 0).trans rfl,(blk_cell BK616.out 1).trans rfl,(blk_cell BK616.out 2).trans rfl,((HB.out.cell (World.block_lt_of_cell? w _ hw617_0)).trans hw617_0),((HB.out.cell (World.block_lt_of_cell? w _ hw617_1)).trans hw617_1),((HB.out.cell (World.block_lt_of_cell? w _ hw617_2)).trans hw617_2),((HB.out.cell (World.block_lt_of_cell? w _ hw617_3)).trans hw617_3),((HB.out.cell (World.block_lt_of_cell? w _ hw617_4)).trans hw617_4),((HB.out.cell (World.block_lt_of_cell? w _ hw617_5)).trans hw617_5),((HB.out.cell (World.block_lt_of_cell? w _ hw621_0)).trans hw621_0),((HB.out.cell (World.block_lt_of_cell? w _ hw621_1)).trans hw621_1),((HB.out.cell (World.block_lt_of_cell? w _ hw621_2)).trans hw621_2),((HB.out.cell (World.block_lt_of_cell? w _ hw621_3)).trans hw621_3),((HB.out.cell (World.block_lt_of_cell? w _ hw621_4)).trans hw621_4),((HB.out.cell (World.block_lt_of_cell? w _ hw621_5)).trans hw621_5)⟩ (fun hHeld => ?_);refine with_tabW phasorref19_touch.tab1 phasorref19_touch.bits1 (fun HT_ HW_ => ?_)
     generalize w11.drew=w12 at BK616 HB HR617_2 HR621_2 hx617_0 hx617_1 hx617_2 hx617_3 hx617_4 hx617_5 hx621_0 hx621_1 hx621_2 hx621_3 hx621_4 hx621_5 hHeld ⊢
     refine pure_ (i:=0) (N:=some 7) (v:=?_) (a':=?_) #[true,false,false,false,false,false,false,false,false,false,false,false,false,false] rfl rfl (any_of HT_.out (by kernel_rfl)) (fun _ _ _ h => h) (Or.inl ⟨by rfl,?_⟩) ?_ ?_
     rotate_left
     ·intro w'
      go_simp
      with_reducible rfl
     rotate_left
     ·simp only [Act.put,List.setIfInBounds_toArray,List.set_cons_zero,List.set_cons_succ,i64_w,i32_w]
      rfl
     refine pure_ (i:=2) (N:=some 9) (v:=?_) (a':=?_) #[true,false,true,false,false,false,false,false,false,false,false,false,false,false] rfl rfl (any_of HT_.out (by kernel_rfl)) (fun _ _ _ h => h) (Or.inl ⟨by rfl,?_⟩) ?_ ?_
     rotate_left
     ·intro w'
      go_simp
      with_reducible rfl
     rotate_left
     ·simp only [Act.put,List.setIfInBounds_toArray,List.set_cons_zero,List.set_cons_succ,i64_w,i32_w]
      rfl
     refine pure_ (i:=6) (N:=some 13) (v:=?_) (a':=?_) #[true,false,true,false,false,false,true,false,false,false,false,false,false,false] rfl rfl (any_of HT_.out (by kernel_rfl)) (fun _ _ _ h => h) (Or.inl ⟨by rfl,?_⟩) ?_ ?_
     rotate_left
     ·intro w'
      go_simp
      with_reducible rfl
     rotate_left
     ·simp only [Act.put,List.setIfInBounds_toArray,List.set_cons_zero,List.set_cons_succ,i64_w,i32_w]
      rfl
     refine pure_ (i:=8) (N:=some 15) (v:=?_) (a':=?_) #[true,false,true,false,false,false,true,false,true,false,false,false,false,false] rfl rfl (any_of HT_.out (by kernel_rfl)) (fun _ _ _ h => h) (Or.inl ⟨by rfl,?_⟩) ?_ ?_
     rotate_left
     ·intro w'
      go_simp
      with_reducible rfl
     rotate_left
     ·simp only [Act.put,List.setIfInBounds_toArray,List.set_cons_zero,List.set_cons_succ,i64_w,i32_w]
      rfl
     refine take_ (i:=1) (N:=some 8) (v:=?_) (a':=?_) #[true,true,true,false,false,false,true,false,true,false,false,false,false,false] rfl rfl (take_ofW HT_.out HW_.out (by kernel_rfl)) (fun _ _ _ h => h) (Or.inl ⟨by rfl,?_⟩) hHeld ?_ ?_
     rotate_left
     ·rintro w' ⟨s0,s1,s2,s3,s4,s5,s6,s7,s8,s9,s10,s11,s12,s13,s14⟩
      go_simp
      with_reducible rfl
     rotate_left
     ·simp only [Act.put,List.setIfInBounds_toArray,List.set_cons_zero,List.set_cons_succ,i64_w,i32_w]
      rfl
     refine pure_ (i:=3) (N:=some 10) (v:=?_) (a':=?_) #[true,true,true,true,false,false,true,false,true,false,false,false,false,false] rfl rfl (any_of HT_.out (by kernel_rfl)) (fun _ _ _ h => h) (Or.inl ⟨by rfl,?_⟩) ?_ ?_
     rotate_left
     ·intro w'
      go_simp
      with_reducible rfl
     rotate_left
     ·simp only [Act.put,List.setIfInBounds_toArray,List.set_cons_zero,List.set_cons_succ,i64_w,i32_w]
      rfl
     refine take_ (i:=4) (N:=some 11) (v:=?_) (a':=?_) #[true,true,true,true,true,false,true,false,true,false,false,false,false,false] rfl rfl (take_ofW HT_.out HW_.out (by kernel_rfl)) (fun _ _ _ h => h) (Or.inl ⟨by rfl,?_⟩) hHeld ?_ ?_
     rotate_left
     ·rintro w' ⟨s0,s1,s2,s3,s4,s5,s6,s7,s8,s9,s10,s11,s12,s13,s14⟩
      go_simp
      with_reducible rfl
     rotate_left
     ·simp only [Act.put,List.setIfInBounds_toArray,List.set_cons_zero,List.set_cons_succ,i64_w,i32_w]
      rfl
     refine take_ (i:=7) (N:=some 14) (v:=?_) (a':=?_) #[true,true,true,true,true,false,true,true,true,false,false,false,false,false] rfl rfl (take_ofW HT_.out HW_.out (by kernel_rfl)) (fun _ _ _ h => h) (Or.inl ⟨by rfl,?_⟩) hHeld ?_ ?_
     rotate_left
     ·rintro w' ⟨s0,s1,s2,s3,s4,s5,s6,s7,s8,s9,s10,s11,s12,s13,s14⟩
      go_simp
      with_reducible rfl
     rotate_left
     ·simp only [Act.put,List.setIfInBounds_toArray,List.set_cons_zero,List.set_cons_succ,i64_w,i32_w]
      rfl
     refine pure_ (i:=9) (N:=some 16) (v:=?_) (a':=?_) #[true,true,true,true,true,false,true,true,true,true,false,false,false,false] rfl rfl (any_of HT_.out (by kernel_rfl)) (fun _ _ _ h => h) (Or.inl ⟨by rfl,?_⟩) ?_ ?_
     rotate_left
     ·intro w'
      go_simp
      with_reducible rfl
     rotate_left
     ·simp only [Act.put,List.setIfInBounds_toArray,List.set_cons_zero,List.set_cons_succ,i64_w,i32_w]
      rfl
     refine take_ (i:=10) (N:=some 17) (v:=?_) (a':=?_) #[true,true,true,true,true,false,true,true,true,true,true,false,false,false] rfl rfl (take_ofW HT_.out HW_.out (by kernel_rfl)) (fun _ _ _ h => h) (Or.inl ⟨by rfl,?_⟩) hHeld ?_ ?_
     rotate_left
     ·rintro w' ⟨s0,s1,s2,s3,s4,s5,s6,s7,s8,s9,s10,s11,s12,s13,s14⟩
      go_simp
      with_reducible rfl
     rotate_left
     ·simp only [Act.put,List.setIfInBounds_toArray,List.set_cons_zero,List.set_cons_succ,i64_w,i32_w]
      rfl
     refine one_ (i:=5) (N:=some 12) #[true,true,true,true,true,true,true,true,true,true,true,false,false,false] rfl rfl (one_of HT_.out (by kernel_rfl)) (by decide) (fun K hK => ?_)
     refine goes_ Try.func83 (by kernel_rfl) rfl #[.agg #[.int .i64 ((rd_T46 l0_2 a1).f0),.int .i64 ((rd_T46 l0_2 a1).f1),.slice A617_2 ((rd_T46 l0_2 a1).f2).length c617_2,.int .i64 ((rd_T46 l0_2 a1).f3),.int .i64 ((rd_T46 l0_2 a1).f4),.int .i64 ((rd_T46 l0_2 a1).f5)]] (by rfl) rfl rfl (by (try simp only [List.map_toArray,List.map_cons,List.map_nil]);first|done|rfl|(simp only [List.length_drop,List.length_take];rfl)) ?_
     with_reducible refine (phasorref19_wires.calls ((rd_T46 l0_2 a1).f0) ((rd_T46 l0_2 a1).f1) _ _ ((rd_T46 l0_2 a1).f2) ((rd_T46 l0_2 a1).f3) ((rd_T46 l0_2 a1).f4) ((rd_T46 l0_2 a1).f5) t618 _ ?side1 ?side2 A6.out).mono ?_
     (case side1 => repeat (first|exact (Kd.C_below HR617_2.out HB.out)|(with_reducible refine Kd.C_alloc ?_ _)|(with_reducible refine Kd.C_drewN ?_ _)|(with_reducible refine Kd.C_drew ?_)))
     (case side2 => exact HC617_2.out)
     rintro e w13 ⟨v619,rfl,ho0,hb⟩
     refine ⟨_,rfl,?_⟩
     have n0_:=Aside0.mk (Kd.R_lower ho0 (below_size (by repeat (first|(with_reducible first|exact HB.out|apply below_alloc|apply pw_below_drewN|apply below_drew1|refine below_set ?_ GE616.out)|exact HB.out))))
     have n1_:=Aside0.mk (blk_below (g:=gb616) (o:=.cells #[.int .i64 a0_0,.int .i64 a0_1,.slice (some ad617) l0_2.length c0_2] 24 (0,0)) (by (with_reducible repeat (first|refine blk_drewN ?_ _|refine blk_drew ?_|refine blk_alloc ?_ _));exact BK616.out) hb)
     have n2_:=Aside0.mk (below_step (by repeat (first|(with_reducible first|exact HB.out|apply below_alloc|apply pw_below_drewN|apply below_drew1|refine below_set ?_ GE616.out)|exact HB.out)) hb)
     clear BK616
     clear HB
     have HO620:=n0_
     have BK616:=n1_
     have HB:=n2_
     clear n0_ n1_ n2_
     (try clear hb)
     (try clear hb2)
     (try clear hk)
     (try clear hi)
     (try clear ho0)
     refine hK.out _ _ ⟨(blk_cell BK616.out 0).trans rfl,(blk_cell BK616.out 1).trans rfl,(blk_cell BK616.out 2).trans rfl,((HB.out.cell (World.block_lt_of_cell? w _ hw617_0)).trans hw617_0),((HB.out.cell (World.block_lt_of_cell? w _ hw617_1)).trans hw617_1),((HB.out.cell (World.block_lt_of_cell? w _ hw617_2)).trans hw617_2),((HB.out.cell (World.block_lt_of_cell? w _ hw617_3)).trans hw617_3),((HB.out.cell (World.block_lt_of_cell? w _ hw617_4)).trans hw617_4),((HB.out.cell (World.block_lt_of_cell? w _ hw617_5)).trans hw617_5),((HB.out.cell (World.block_lt_of_cell? w _ hw621_0)).trans hw621_0),((HB.out.cell (World.block_lt_of_cell? w _ hw621_1)).trans hw621_1),((HB.out.cell (World.block_lt_of_cell? w _ hw621_2)).trans hw621_2),((HB.out.cell (World.block_lt_of_cell? w _ hw621_3)).trans hw621_3),((HB.out.cell (World.block_lt_of_cell? w _ hw621_4)).trans hw621_4),((HB.out.cell (World.block_lt_of_cell? w _ hw621_5)).trans hw621_5)⟩ (fun hHeld => ?_)
     clear hK K
     refine norm_ (a':=?_) ?_ ?_
     rotate_left
     ·show Act.put _ (some 12) _=_
      simp only [Act.put,List.setIfInBounds_toArray,List.set_cons_zero,List.set_cons_succ,i64_w,i32_w]
      rfl
     refine one_ (i:=11) (N:=some 18) #[true,true,true,true,true,true,true,true,true,true,true,true,false,false] rfl rfl (one_of HT_.out (by kernel_rfl)) (by decide) (fun K hK => ?_)
     refine goes_ Try.func83 (by kernel_rfl) rfl #[.agg #[.int .i64 ((rd_T46 l0_2 a2).f0),.int .i64 ((rd_T46 l0_2 a2).f1),.slice A621_2 ((rd_T46 l0_2 a2).f2).length c621_2,.int .i64 ((rd_T46 l0_2 a2).f3),.int .i64 ((rd_T46 l0_2 a2).f4),.int .i64 ((rd_T46 l0_2 a2).f5)]] (by rfl) rfl rfl (by (try simp only [List.map_toArray,List.map_cons,List.map_nil]);first|done|rfl|(simp only [List.length_drop,List.length_take];rfl)) ?_
     with_reducible refine (phasorref19_wires.calls ((rd_T46 l0_2 a2).f0) ((rd_T46 l0_2 a2).f1) _ _ ((rd_T46 l0_2 a2).f2) ((rd_T46 l0_2 a2).f3) ((rd_T46 l0_2 a2).f4) ((rd_T46 l0_2 a2).f5) t622 _ ?side1 ?side2 A9.out).mono ?_
     (case side1 => repeat (first|exact (Kd.C_below HR621_2.out HB.out)|(with_reducible refine Kd.C_alloc ?_ _)|(with_reducible refine Kd.C_drewN ?_ _)|(with_reducible refine Kd.C_drew ?_)))
     (case side2 => exact HC621_2.out)
     rintro e w14 ⟨v623,rfl,ho0,hb⟩
     refine ⟨_,rfl,?_⟩
     have n0_:=Aside0.mk (Kd.R_elder' (by (with_reducible repeat (first|apply Kd.R_alloc|apply Kd.R_drewN|apply Kd.R_drew));exact HO620.out) (Kd.R_base ho0) hb)
     have n1_:=Aside0.mk (Kd.R_lower (Kd.R_new' ho0 (Kd.R_lt (by (with_reducible repeat (first|apply Kd.R_alloc|apply Kd.R_drewN|apply Kd.R_drew));exact HO620.out))) (below_size (by repeat (first|(with_reducible first|exact HB.out|apply below_alloc|apply pw_below_drewN|apply below_drew1|refine below_set ?_ GE616.out)|exact HB.out))))
     have n2_:=Aside0.mk (blk_below (g:=gb616) (o:=.cells #[.int .i64 a0_0,.int .i64 a0_1,.slice (some ad617) l0_2.length c0_2] 24 (0,0)) (by (with_reducible repeat (first|refine blk_drewN ?_ _|refine blk_drew ?_|refine blk_alloc ?_ _));exact BK616.out) hb)
     have n3_:=Aside0.mk (below_step (by repeat (first|(with_reducible first|exact HB.out|apply below_alloc|apply pw_below_drewN|apply below_drew1|refine below_set ?_ GE616.out)|exact HB.out)) hb)
     clear HO620
     clear BK616
     clear HB
     have HO620:=n0_
     have HO624:=n1_
     have BK616:=n2_
     have HB:=n3_
     clear n0_ n1_ n2_ n3_
     (try clear hb)
     (try clear hb2)
     (try clear hk)
     (try clear hi)
     (try clear ho0)
     obtain ⟨Ao15,co15,eo15⟩:=Kd.R_slice HO620.out
     (first|subst eo15|(injection eo15 with f1_ f2_ f3_;have f4_:=f1_.symm;have f5_:=f3_.symm;clear f1_ f2_ f3_;subst f4_;subst f5_))
     obtain ⟨Ao16,co16,eo16⟩:=Kd.R_slice HO624.out
     (first|subst eo16|(injection eo16 with f1_ f2_ f3_;have f4_:=f1_.symm;have f5_:=f3_.symm;clear f1_ f2_ f3_;subst f4_;subst f5_))
     refine hK.out _ _ ⟨(blk_cell BK616.out 0).trans rfl,(blk_cell BK616.out 1).trans rfl,(blk_cell BK616.out 2).trans rfl,((HB.out.cell (World.block_lt_of_cell? w _ hw617_0)).trans hw617_0),((HB.out.cell (World.block_lt_of_cell? w _ hw617_1)).trans hw617_1),((HB.out.cell (World.block_lt_of_cell? w _ hw617_2)).trans hw617_2),((HB.out.cell (World.block_lt_of_cell? w _ hw617_3)).trans hw617_3),((HB.out.cell (World.block_lt_of_cell? w _ hw617_4)).trans hw617_4),((HB.out.cell (World.block_lt_of_cell? w _ hw617_5)).trans hw617_5),((HB.out.cell (World.block_lt_of_cell? w _ hw621_0)).trans hw621_0),((HB.out.cell (World.block_lt_of_cell? w _ hw621_1)).trans hw621_1),((HB.out.cell (World.block_lt_of_cell? w _ hw621_2)).trans hw621_2),((HB.out.cell (World.block_lt_of_cell? w _ hw621_3)).trans hw621_3),((HB.out.cell (World.block_lt_of_cell? w _ hw621_4)).trans hw621_4),((HB.out.cell (World.block_lt_of_cell? w _ hw621_5)).trans hw621_5)⟩ (fun hHeld => ?_)
     clear hK K
     refine norm_ (a':=?_) ?_ ?_
     rotate_left
     ·show Act.put _ (some 18) _=_
      simp only [Act.put,List.setIfInBounds_toArray,List.set_cons_zero,List.set_cons_succ,i64_w,i32_w]
      rfl
     refine one_ (i:=12) (N:=some 19) #[true,true,true,true,true,true,true,true,true,true,true,true,true,false] rfl rfl (one_of HT_.out (by kernel_rfl)) (by decide) (fun K hK => ?_)
     refine goes_ Try.func82 (by kernel_rfl) rfl #[.slice Ao15 t618.length co15,.slice Ao16 t622.length co16] (by rfl) rfl rfl (by (try simp only [List.map_toArray,List.map_cons,List.map_nil]);first|done|rfl|(simp only [List.length_drop,List.length_take];rfl)) ?_
     with_reducible refine (phasorref19_meet.calls k _ _ t618 _ _ t622 t625 _ ?side1 ?side2 ?side3 ?side4 A10.out).mono ?_
     (case side1 => repeat (first|exact (Kd.R_reads' HO620.out).2.2|(with_reducible refine Kd.C_alloc ?_ _)|(with_reducible refine Kd.C_drewN ?_ _)|(with_reducible refine Kd.C_drew ?_)))
     (case side2 => exact (Kd.R_reads' HO620.out).2.1)
     (case side3 => repeat (first|exact (Kd.R_reads' HO624.out).2.2|(with_reducible refine Kd.C_alloc ?_ _)|(with_reducible refine Kd.C_drewN ?_ _)|(with_reducible refine Kd.C_drew ?_)))
     (case side4 => exact (Kd.R_reads' HO624.out).2.1)
     rintro e w' ⟨rfl,⟨nd,rfl⟩⟩
     refine ⟨_,rfl,?_⟩
     refine hK.out _ _ ⟨(blk_cell BK616.out 0).trans rfl,(blk_cell BK616.out 1).trans rfl,(blk_cell BK616.out 2).trans rfl,((HB.out.cell (World.block_lt_of_cell? w _ hw617_0)).trans hw617_0),((HB.out.cell (World.block_lt_of_cell? w _ hw617_1)).trans hw617_1),((HB.out.cell (World.block_lt_of_cell? w _ hw617_2)).trans hw617_2),((HB.out.cell (World.block_lt_of_cell? w _ hw617_3)).trans hw617_3),((HB.out.cell (World.block_lt_of_cell? w _ hw617_4)).trans hw617_4),((HB.out.cell (World.block_lt_of_cell? w _ hw617_5)).trans hw617_5),((HB.out.cell (World.block_lt_of_cell? w _ hw621_0)).trans hw621_0),((HB.out.cell (World.block_lt_of_cell? w _ hw621_1)).trans hw621_1),((HB.out.cell (World.block_lt_of_cell? w _ hw621_2)).trans hw621_2),((HB.out.cell (World.block_lt_of_cell? w _ hw621_3)).trans hw621_3),((HB.out.cell (World.block_lt_of_cell? w _ hw621_4)).trans hw621_4),((HB.out.cell (World.block_lt_of_cell? w _ hw621_5)).trans hw621_5)⟩ (fun hHeld => ?_)
     clear hK K
     refine norm_ (a':=?_) ?_ ?_
     rotate_left
     ·show Act.put _ (some 19) _=_
      simp only [Act.put,List.setIfInBounds_toArray,List.set_cons_zero,List.set_cons_succ,i64_w,i32_w]
      rfl
     refine pure_ (i:=13) (N:=some 6) (v:=?_) (a':=?_) #[true,true,true,true,true,true,true,true,true,true,true,true,true,true] rfl rfl (any_of HT_.out (by kernel_rfl)) (fun _ _ _ h => h) (Or.inl ⟨by rfl,?_⟩) ?_ ?_
     rotate_left
     ·intro w'
      go_simp
      with_reducible rfl
     rotate_left
     ·simp only [Act.put,List.setIfInBounds_toArray,List.set_cons_zero,List.set_cons_succ,i64_w,i32_w]
      rfl
     refine done_ (done_of HT_.out (by kernel_rfl)) ?_
     try go_wp2
     go_ret
     exact ⟨by first|rfl|(simp [errW_none,errW_some] <;> rfl)|(simp [*,errW_none,errW_some] <;> rfl),by repeat (first|(with_reducible first|exact HB.out|apply below_alloc|apply pw_below_drewN|apply below_drew1|refine below_set ?_ GE616.out)|exact HB.out)⟩
    ·rw [if_neg c8] at H
     exact absurd H (by simp)
   ·rw [if_neg c7] at H
    exact absurd H (by simp)
  ·rw [if_neg c5] at H
   exact absurd H (by simp)
 ·rw [if_neg c4] at H
  exact absurd H (by simp)
end Go.Proofs.Ytbelnopbggkdfaa.Q
end

section
namespace Go.Proofs.Ytbelnopbggkdfaa.Q
open Go.RowKit Go.Proofs.YtbelnopbggkdfaaW.PrintWords Go.Proofs.YtbelnopbggkdfaaW.PrintLast Go.Proofs.YtbelnopbggkdfaaW.PrintMore
attribute [local go_sem] max2_int min2_int max_two min_two max_three min_three max_four min_four   -- for this text's walks alone
set_option linter.unusedVariables false
set_option linter.unusedSimpArgs false
def phasorref19_bar.f (a0_0 : Int) (a0_1 : Int) (l0_2 : List (S46)) (a1 : Int) : Option (Bool):=if 0≤a1 then (if a1 < (l0_2.length : Int) then (some (((rd_T46 l0_2 a1).f0) == 4)) else (none)) else (none)
set_option maxHeartbeats 8000000 in
set_option maxRecDepth 100000 in
theorem phasorref19_bar.calls (a0_0 : Int) (a0_1 : Int) (A0_2 : Option Addr) (c0_2 : Nat) (l0_2 : List (S46)) (a1 : Int) (r : Bool) (w : World) (hr0_2 : Kd.C k46 w A0_2 l0_2.length l0_2) (hc0_2 : l0_2.length≤c0_2) (h : phasorref19_bar.f a0_0 a0_1 l0_2 a1=some r) :
  Calls Try.prog 71 #[.agg #[.int .i64 a0_0,.int .i64 a0_1,.slice A0_2 l0_2.length c0_2],.int .i64 a1] w fun e w' => e=.returned (.bool r)∧Below w.heap.size w w':=by
 have hu24:=Try.underlying24
 have HR0_2:=Aside0.mk hr0_2
 have HC0_2:=Aside0.mk hc0_2
 clear hr0_2 hc0_2
 have HB:=Aside0.mk (Below.refl w.heap.size w)
 have H : (if 0≤a1 then (if a1 < (l0_2.length : Int) then (some (((rd_T46 l0_2 a1).f0) == 4)) else (none)) else (none))=some r:=h
 clear h
 by_cases c3 : 0≤a1
 ·rw [if_pos c3] at H
  have c3b0 : decide (0≤a1)=true:=decide_eq_true c3
  clear c3
  by_cases c4 : a1 < (l0_2.length : Int)
  ·rw [if_pos c4] at H
   have c4b0 : decide (a1 < (l0_2.length : Int))=true:=decide_eq_true c4
   clear c4
   obtain rfl:=Option.some.inj H
   go_enter Try.func71,Try.ntmps71
   go_wp2_with (first|((with_reducible refine gate_dst (N:=2) rfl ?_);refine box_event ?hg (N:=2) ?hd (cs:=#[.int .i64 a0_0,.int .i64 a0_1,.slice A0_2 l0_2.length c0_2]) (t:=24) ?hr ?_;(case hd => rfl);(case hg => rfl);(case hr => first|(go_simp;done)|(go_simp;rfl));intro gb640 hg w5 hbox hb;have n0_:=Aside0.mk (below_step (by repeat (first|(with_reducible first|exact HB.out|apply below_alloc|apply pw_below_drewN|apply below_drew1)|exact HB.out)) hb);have n1_:=Aside0.mk (hbox);have n2_:=Aside0.mk ((by rw [hg];exact (below_size (by repeat (first|(with_reducible first|exact HB.out|apply below_alloc|apply pw_below_drewN|apply below_drew1)|exact HB.out))) : w.heap.size≤gb640));have n3_:=Aside0.mk ((by rw [hg];exact (below_size (by repeat (first|(with_reducible first|exact HB.out|apply below_alloc|apply pw_below_drewN|apply below_drew1)|exact HB.out))) : w.heap.size≤gb640));clear HB;have HB:=n0_;have BK640:=n1_;have GW640:=n2_;have GE640:=n3_;clear n0_ n1_ n2_ n3_;clear hb hbox hg;have hcz6_0 : w5.cell? ⟨gb640,0,none⟩=some (.int .i64 a0_0):=(blk_cell BK640.out 0).trans rfl;have hcz6_1 : w5.cell? ⟨gb640,1,none⟩=some (.int .i64 a0_1):=(blk_cell BK640.out 1).trans rfl;have hcz6_2 : w5.cell? ⟨gb640,2,none⟩=some (.slice A0_2 l0_2.length c0_2):=(blk_cell BK640.out 2).trans rfl;have hfz6_0:=blk_frozen BK640.out 0;have hfz6_1:=blk_frozen BK640.out 1;have hfz6_2:=blk_frozen BK640.out 2;have p641 : 0≤(a1 : Int):=of_decide_eq_true (by first|(with_reducible assumption)|assumption);have q641 : a1 < (l0_2.length : Int):=of_decide_eq_true (by first|(with_reducible assumption)|assumption);obtain ⟨ad641,A641_2,c641_2,e641,hx641_0,hx641_1,hx641_2,hx641_3,hx641_4,hx641_5,hl641_2,hi641_2⟩:=at_T46 HR0_2.out a1 p641 q641;cases e641;replace hx641_0:=(HB.out.cell (World.block_lt_of_cell? w _ hx641_0)).trans hx641_0;replace hx641_1:=(HB.out.cell (World.block_lt_of_cell? w _ hx641_1)).trans hx641_1;replace hx641_2:=(HB.out.cell (World.block_lt_of_cell? w _ hx641_2)).trans hx641_2;replace hx641_3:=(HB.out.cell (World.block_lt_of_cell? w _ hx641_3)).trans hx641_3;replace hx641_4:=(HB.out.cell (World.block_lt_of_cell? w _ hx641_4)).trans hx641_4;replace hx641_5:=(HB.out.cell (World.block_lt_of_cell? w _ hx641_5)).trans hx641_5;have HR641_2:=Aside0.mk hi641_2;have HC641_2:=Aside0.mk hl641_2;clear hi641_2 hl641_2;replace p641:=eq_true p641;replace q641:=eq_true q641))
   go_ret
   exact ⟨by first|rfl|(simp [errW_none,errW_some] <;> rfl)|(simp [*,errW_none,errW_some] <;> rfl),by repeat (first|(with_reducible first|exact HB.out|apply below_alloc|apply pw_below_drewN|apply below_drew1|refine below_set ?_ GE640.out)|exact HB.out)⟩
  ·rw [if_neg c4] at H
   exact absurd H (by simp)
 ·rw [if_neg c3] at H
  exact absurd H (by simp)
end Go.Proofs.Ytbelnopbggkdfaa.Q
end

section
namespace Go.Proofs.Ytbelnopbggkdfaa.Q
open Go.RowKit Go.Proofs.YtbelnopbggkdfaaW.PrintWords Go.Proofs.YtbelnopbggkdfaaW.PrintLast Go.Proofs.YtbelnopbggkdfaaW.PrintMore
def Evt (p : Nat→Prop) : Prop:=∃ K,∀ k,K≤k→p k
theorem Evt.mono {p q : Nat→Prop} (h : Evt p) (hpq : ∀ k,p k→q k) : Evt q:=⟨h.choose,fun k hk => hpq k (h.choose_spec k hk)⟩
theorem Evt.and {p q : Nat→Prop} (h : Evt p) (h2 : Evt q) : Evt fun k => p k∧q k :=
  ⟨max h.choose h2.choose,fun k hk => ⟨h.choose_spec k (by omega),h2.choose_spec k (by omega)⟩⟩
theorem Evt.all {p : Nat→Prop} (h : ∀ k,p k) : Evt p:=⟨0,fun k _ => h k⟩
theorem Evt.succ {p q : Nat→Prop} (h : Evt p) (hpq : ∀ k,p k→q (k + 1)) : Evt q :=
  ⟨h.choose + 1,fun k hk => by obtain ⟨j,rfl⟩ : ∃ j,k=j + 1:=⟨k - 1,by omega⟩;exact hpq j (h.choose_spec j (by omega))⟩
theorem Evt.get {p : Nat→Prop} (h : Evt p) : ∃ k,p k:=⟨h.choose,h.choose_spec _ (Nat.le_refl _)⟩
theorem w64 {x : Int} (h0 : -9223372036854775808≤x) (h1 : x < 9223372036854775808) : wrap64 x=x:=by unfold wrap64;omega
abbrev Opn:=S46
theorem rdT_nat {l : List Opn} {i : Nat} (h : i < l.length) : rd_T46 l (i : Int)=l[i]:=by
  simp [rd_T46,List.getD_eq_getElem?_getD,List.getElem?_eq_getElem h]
theorem rd_nat {l : List Int} {i : Nat} (h : i < l.length) : rd l (i : Int)=l[i]:=by
  simp [rd,List.getD_eq_getElem?_getD,List.getElem?_eq_getElem h]
theorem nodup_len : ∀ (n : Nat) (l : List Int),l.Nodup→(∀ x ∈ l,0≤x∧x < (n : Int))→l.length≤n
  | 0,l,_,h => by
    cases l with
    | nil => simp
    | cons x xs => have:=h x (by simp);omega
  | n + 1,l,hd,h => by
    have h2:=nodup_len n (l.erase (n : Int)) (hd.erase _) fun x hx => by
      have:=h x (List.mem_of_mem_erase hx)
      have hne : x≠(n : Int):=fun e => (hd.mem_erase_iff.1 hx).1 e
      omega
    have:=List.length_erase (a:=(n : Int)) (l:=l)
    split at this <;> omega
theorem okB_facts {zs : List Int} {n : Int} (h : okB zs n=true) : (∀ x ∈ zs,0≤x∧x < n)∧zs.Nodup:=by
  have ha:=okB_iff.1 h
  refine ⟨fun x hx => ?_,?_⟩
  · obtain ⟨i,hi,rfl⟩:=List.getElem_of_mem hx
    have:=ha i hi
    unfold okAt at this
    rw [List.getD_eq_getElem?_getD,List.getElem?_eq_getElem hi] at this
    exact ⟨this.1,this.2.1⟩
  · unfold List.Nodup
    rw [List.pairwise_iff_getElem]
    intro i j hi hj hij e
    have:=(ha j hj).2.2
    rw [List.getD_eq_getElem?_getD,List.getElem?_eq_getElem hj] at this
    simp only [Option.getD_some] at this
    have hm : zs[j] ∈ zs.take j:=by
      rw [← e]
      exact List.mem_take_iff_getElem.2 ⟨i,by omega,rfl⟩
    rw [List.contains_iff_mem.2 hm] at this
    cases this
def mayO (q b : Int) (o : Opn) : Bool:=mayC o.f0 o.f1 o.f2 o.f3 o.f4 o.f5 q b
def wsF (c : Int) (o : Opn) : List Int:=o.f2 ++ (if o.f0=2 then [c + o.f3] else []) ++ (if 0≤o.f4 then [c + o.f4] else [])
structure OpF (q b : Int) (o : Opn) : Prop where
  len : o.f2.length≤64
  qs : ∀ x ∈ o.f2,0≤x∧x < q
  m : o.f0=2→0≤o.f3∧o.f3 < b
  i0 : -1≤o.f4
  i1 : o.f4 < b
theorem mayO_facts {q b : Int} {o : Opn} (h : mayO q b o=true) (hq : q≤64) (hb0 : 0≤b) : OpF q b o:=by
  unfold mayO mayC at h
  have lenOf : okB o.f2 q=true→o.f2.length≤64:=fun hk => by
    obtain ⟨h1,h2⟩:=okB_facts hk
    exact nodup_len 64 _ h2 fun x hx => by have:=h1 x hx;omega
  split at h
  · rename_i h1
    unfold gateB at h
    simp only [Bool.and_eq_true,beq_iff_eq,Bool.or_eq_true,decide_eq_true_eq] at h
    obtain ⟨hc,-,h4⟩:=h
    have hk : okB o.f2 q=true:=by
      unfold checkB at hc
      split at hc
      · omega
      · split at hc
        · omega
        · split at hc
          · assumption
          · omega
    exact ⟨lenOf hk,(okB_facts hk).1,fun e => by omega,by omega,by omega⟩
  · rename_i h1
    unfold restB at h
    simp only [Bool.and_eq_true,beq_iff_eq] at h
    obtain ⟨-,h4,-,-,hk,hrest⟩:=h
    refine ⟨lenOf hk,(okB_facts hk).1,fun e => ?_,by omega,by omega⟩
    rw [if_pos e] at hrest
    simp only [Bool.and_eq_true,decide_eq_true_eq] at hrest
    exact hrest.2
theorem wires64 {q b : Int} {o : Opn} (h : OpF q b o) (hb : b≤64) : layers_wires.f o.f0 o.f1 o.f2 o.f3 o.f4 o.f5=some (wsF 64 o):=by
  have hl:=h.len
  have i0:=h.i0
  have i1:=h.i1
  unfold layers_wires.f slices_Clone_int_int.f wsF
  rw [if_pos (show o.f2.length < 17592186044416 by omega)]
  simp only [Option.bind_some]
  by_cases h2 : o.f0=2
  · have:=h.m h2
    rw [if_pos h2,if_pos h2,if_pos (show o.f2.length < 17592186044416 by omega),w64 (x:=64 + o.f3) (by omega) (by omega)]
    simp only [ge_iff_le]
    by_cases h4 : 0≤o.f4
    · rw [if_pos h4,if_pos h4,if_pos (show (o.f2 ++ [64 + o.f3]).length < 17592186044416 by simp;omega),w64 (x:=64 + o.f4) (by omega) (by omega)]
    · rw [if_neg h4,if_neg h4,List.append_nil]
  · rw [if_neg h2,if_neg h2,List.append_nil]
    simp only [ge_iff_le]
    by_cases h4 : 0≤o.f4
    · rw [if_pos h4,if_pos h4,if_pos (show o.f2.length < 17592186044416 by omega),w64 (x:=64 + o.f4) (by omega) (by omega)]
    · rw [if_neg h4,if_neg h4,List.append_nil]
theorem wires100 {q b : Int} {o : Opn} (h : OpF q b o) (hb : b≤64) : phasorref19_wires.f o.f0 o.f1 o.f2 o.f3 o.f4 o.f5=some (wsF 100 o):=by
  have hl:=h.len
  have i0:=h.i0
  have i1:=h.i1
  unfold phasorref19_wires.f wsF
  simp only [Option.bind_some,List.length_nil,List.nil_append]
  rw [if_pos (show 0 + o.f2.length < 17592186044416 by omega)]
  by_cases h2 : o.f0=2
  · have:=h.m h2
    rw [if_pos h2,if_pos h2,if_pos (show o.f2.length < 17592186044416 by omega),w64 (x:=100 + o.f3) (by omega) (by omega)]
    simp only [ge_iff_le]
    by_cases h4 : 0≤o.f4
    · rw [if_pos h4,if_pos h4,if_pos (show (o.f2 ++ [100 + o.f3]).length < 17592186044416 by simp;omega),w64 (x:=100 + o.f4) (by omega) (by omega)]
    · rw [if_neg h4,if_neg h4,List.append_nil]
  · rw [if_neg h2,if_neg h2,List.append_nil]
    simp only [ge_iff_le]
    by_cases h4 : 0≤o.f4
    · rw [if_pos h4,if_pos h4,if_pos (show o.f2.length < 17592186044416 by omega),w64 (x:=100 + o.f4) (by omega) (by omega)]
    · rw [if_neg h4,if_neg h4,List.append_nil]
theorem mem_ws {c x : Int} {o : Opn} : x ∈ wsF c o↔x ∈ o.f2∨(o.f0=2∧x=c + o.f3)∨(0≤o.f4∧x=c + o.f4):=by
  unfold wsF
  simp only [List.mem_append]
  by_cases h2 : o.f0=2 <;> by_cases h4 : 0≤o.f4 <;> simp [h2,h4,or_assoc]
theorem ws_range {q b x : Int} {o : Opn} (h : OpF q b o) (hq : q≤64) (hb : b≤64) (hx : x ∈ wsF 64 o) : 0≤x∧x < 128:=by
  have i1:=h.i1
  rcases mem_ws.1 hx with h1 | ⟨h1,rfl⟩ | ⟨h1,rfl⟩
  · have:=h.qs x h1;omega
  · have:=h.m h1;omega
  · omega
theorem wires_ok {q b : Int} {o : Opn} (h : OpF q b o) (hq : q≤64) (hb : b≤64) : wireOk (wsF 64 o)=true:=by
  unfold wireOk
  simp only [List.all_eq_true,Bool.and_eq_true,decide_eq_true_eq]
  exact fun x hx => ws_range h hq hb hx
def tch (o p : Opn) : Bool:=(wsF 64 o).any fun x => (wsF 64 p).contains x
theorem tch_iff {o p : Opn} : tch o p=true↔∃ x,x ∈ wsF 64 o∧x ∈ wsF 64 p:=by
  unfold tch
  simp only [List.any_eq_true,List.contains_iff_mem]
def up36 (x : Int) : Int:=if x < 64 then x else x + 36
theorem ws_up {q b x : Int} {o : Opn} (h : OpF q b o) (hq : q≤64) (hx0 : 0≤x) (hx1 : x < 128) : up36 x ∈ wsF 100 o↔x ∈ wsF 64 o:=by
  rw [mem_ws,mem_ws]
  unfold up36
  have hqs:=h.qs
  constructor
  · rintro (h1 | ⟨h1,h2⟩ | ⟨h1,h2⟩)
    · have:=hqs _ h1
      split at h1
      · exact .inl h1
      · rename_i hn;rw [if_neg hn] at this;omega
    · have:=h.m h1
      refine .inr (.inl ⟨h1,?_⟩)
      split at h2 <;> omega
    · refine .inr (.inr ⟨h1,?_⟩)
      split at h2 <;> omega
  · rintro (h1 | ⟨h1,h2⟩ | ⟨h1,h2⟩)
    · have:=hqs _ h1
      rw [if_pos (by omega)]
      exact .inl h1
    · have:=h.m h1
      rw [if_neg (by omega)]
      exact .inr (.inl ⟨h1,by omega⟩)
    · rw [if_neg (by omega)]
      exact .inr (.inr ⟨h1,by omega⟩)
theorem ws_down {q b y : Int} {o : Opn} (h : OpF q b o) (hq : q≤64) (hb : b≤64) (hy : y ∈ wsF 100 o) : ∃ x,x ∈ wsF 64 o∧y=up36 x∧0≤x∧x < 128:=by
  have hi1:=h.i1
  rcases mem_ws.1 hy with h1 | ⟨h1,rfl⟩ | ⟨h1,rfl⟩
  · have:=h.qs _ h1
    exact ⟨y,mem_ws.2 (.inl h1),by unfold up36;rw [if_pos (by omega)],by omega,by omega⟩
  · have:=h.m h1
    exact ⟨64 + o.f3,mem_ws.2 (.inr (.inl ⟨h1,rfl⟩)),by unfold up36;rw [if_neg (by omega)];omega,by omega,by omega⟩
  · exact ⟨64 + o.f4,mem_ws.2 (.inr (.inr ⟨h1,rfl⟩)),by unfold up36;rw [if_neg (by omega)];omega,by omega,by omega⟩
def meetS (a b : List Int) : Bool:=a.any fun x => b.contains x
theorem tch_100 {q b q' b' : Int} {o p : Opn} (h : OpF q b o) (h' : OpF q' b' p) (hq : q≤64) (hb : b≤64) (hq' : q'≤64) : meetS (wsF 100 o) (wsF 100 p)=tch o p:=by
  rw [Bool.eq_iff_iff,tch_iff]
  unfold meetS
  simp only [List.any_eq_true,List.contains_iff_mem]
  constructor
  · rintro ⟨y,h1,h2⟩
    obtain ⟨x,hx,rfl,hx0,hx1⟩:=ws_down h hq hb h1
    exact ⟨x,hx,(ws_up h' hq' hx0 hx1).1 h2⟩
  · rintro ⟨x,h1,h2⟩
    obtain ⟨hx0,hx1⟩:=ws_range h hq hb h1
    exact ⟨up36 x,(ws_up h hq hx0 hx1).2 h1,(ws_up h' hq' hx0 hx1).2 h2⟩
theorem ws_len {q b : Int} {o : Opn} (c : Int) (h : OpF q b o) : (wsF c o).length≤66:=by
  have:=h.len
  unfold wsF
  simp only [List.length_append]
  by_cases h2 : o.f0=2 <;> by_cases h4 : 0≤o.f4 <;> simp [h2,h4] <;> omega
theorem meet_l1 (a b : List Int) (i : Nat) (hi : i < a.length) (ha : a.length≤4611686018427387904) (hb : b.length≤4611686018427387904) (R : Bool) (hn : Evt fun k => phasorref19_meet.l0 k a b ((i : Int) + 1)=some R) :
    ∀ (d j : Nat),b.length - j=d→j≤b.length→Evt fun k => phasorref19_meet.l1 k a b (i : Int) (j : Int)=some (if (b.drop j).contains a[i]=true then true else R)
  | 0,j,hd,hj => by
    refine hn.succ fun k hk => ?_
    unfold phasorref19_meet.l1
    rw [if_neg (by omega),List.drop_eq_nil_of_le (by omega),w64 (by omega) (by omega)]
    simpa using hk
  | d + 1,j,hd,hj => by
    refine (meet_l1 a b i hi ha hb R hn d (j + 1) (by omega) (by omega)).succ fun k hk => ?_
    have hjl : j < b.length:=by omega
    unfold phasorref19_meet.l1
    rw [if_pos (by omega),if_pos (by omega),if_pos (by omega),if_pos (by omega),rd_nat hi,rd_nat hjl,List.drop_eq_getElem_cons hjl]
    by_cases e : a[i]=b[j]
    · rw [if_pos e,List.contains_cons,beq_iff_eq.2 e]
      rfl
    · rw [if_neg e,w64 (by omega) (by omega)]
      have : ((j : Int) + 1)=((j + 1 : Nat) : Int):=by omega
      rw [this,hk]
      have h2 : (b[j] :: b.drop (j + 1)).contains a[i]=(b.drop (j + 1)).contains a[i]:=by
        rw [List.contains_cons]
        simp [e]
      rw [h2]
theorem meet_l0 (a b : List Int) (ha : a.length≤4611686018427387904) (hb : b.length≤4611686018427387904) :
    ∀ (d i : Nat),a.length - i=d→i≤a.length→Evt fun k => phasorref19_meet.l0 k a b (i : Int)=some (meetS (a.drop i) b)
  | 0,i,hd,hi => by
    refine (Evt.all (p:=fun _ => True) fun _ => trivial).succ fun k _ => ?_
    unfold phasorref19_meet.l0
    rw [if_neg (by omega),List.drop_eq_nil_of_le (by omega)]
    rfl
  | d + 1,i,hd,hi => by
    have hil : i < a.length:=by omega
    have h1:=meet_l0 a b ha hb d (i + 1) (by omega) (by omega)
    rw [show ((i + 1 : Nat) : Int)=(i : Int) + 1 by omega] at h1
    refine (meet_l1 a b i hil ha hb _ h1 b.length 0 (by omega) (by omega)).succ fun k hk => ?_
    unfold phasorref19_meet.l0
    rw [if_pos (by omega)]
    rw [show ((0 : Nat) : Int)=0 from rfl] at hk
    rw [hk,List.drop_eq_getElem_cons hil,List.drop_zero]
    unfold meetS
    rw [List.any_cons]
    by_cases c : b.contains a[i]=true
    · rw [if_pos c,c];rfl
    · rw [if_neg c]
      rw [Bool.not_eq_true] at c
      rw [c];rfl
theorem meet_is (a b : List Int) (ha : a.length≤4611686018427387904) (hb : b.length≤4611686018427387904) : Evt fun k => phasorref19_meet.f k a b=some (meetS a b) :=
  (meet_l0 a b ha hb a.length 0 (by omega) (by omega)).mono fun k hk => by simpa [phasorref19_meet.f] using hk
structure CircF (q b : Int) (l : List Opn) : Prop where
  q0 : 0≤q
  q1 : q≤64
  b0 : 0≤b
  b1 : b≤64
  n : l.length≤4096
  op : ∀ o ∈ l,OpF q b o
  may : ∀ o ∈ l,mayO q b o=true
def okc (q b : Int) (l : List Opn) : Bool:=decide (0≤q) && (decide (q≤64) && (decide (0≤b) && (decide (b≤64) && (decide (l.length≤4096) && l.all (mayO q b)))))
theorem okc_facts {q b : Int} {l : List Opn} (h : okc q b l=true) : CircF q b l:=by
  unfold okc at h
  simp only [Bool.and_eq_true,decide_eq_true_eq,List.all_eq_true] at h
  obtain ⟨h1,h2,h3,h4,h5,h6⟩:=h
  exact ⟨h1,h2,h3,h4,h5,fun o ho => mayO_facts (h6 o ho) h2 h3,h6⟩
theorem CircF.okc {q b : Int} {l : List Opn} (h : CircF q b l) : okc q b l=true:=by
  unfold Q.okc
  simp only [Bool.and_eq_true,decide_eq_true_eq,List.all_eq_true]
  exact ⟨h.q0,h.q1,h.b0,h.b1,h.n,h.may⟩
theorem touch_is {q b : Int} {l : List Opn} (h : CircF q b l) {i j : Nat} (hi : i < l.length) (hj : j < l.length) : Evt fun k => phasorref19_touch.f k q b l (i : Int) (j : Int)=some (tch l[i] l[j]):=by
  have oi:=h.op _ (List.getElem_mem hi)
  have oj:=h.op _ (List.getElem_mem hj)
  have li:=ws_len 100 oi
  have lj:=ws_len 100 oj
  refine (meet_is (wsF 100 l[i]) (wsF 100 l[j]) (by omega) (by omega)).mono fun k hk => ?_
  unfold phasorref19_touch.f
  rw [if_pos (by omega),if_pos (by omega),rdT_nat hi,wires100 oi h.b1]
  simp only [Option.bind_some]
  rw [if_pos (by omega),if_pos (by omega),rdT_nat hj,wires100 oj h.b1]
  simp only [Option.bind_some]
  rw [hk,tch_100 oi oj h.q1 h.b1 h.q1]
  rfl
theorem bar_is {q b : Int} {l : List Opn} {i : Nat} (hi : i < l.length) : phasorref19_bar.f q b l (i : Int)=some (l[i].f0 == 4):=by
  unfold phasorref19_bar.f
  rw [if_pos (by omega),if_pos (by omega),rdT_nat hi]
def WfL (l : List Opn) : Prop:=∀ o ∈ l,(Lit.int .i64 o.f1).wf=true
theorem check_l0 {q b : Int} {l : List Opn} (hw : WfL l) (hn : l.length≤4611686018427387904) :
    ∀ (d i : Nat),l.length - i=d→i≤l.length→Evt fun k => ∃ r,circuit_Check.l0 k l (l.length : Int) (i : Int) q b l=some (r,if (l.drop i).all (mayO q b)=true then 0 else 80)
  | 0,i,hd,hi => by
    refine (Evt.all (p:=fun _ => True) fun _ => trivial).succ fun k _ => ?_
    unfold circuit_Check.l0
    rw [if_neg (by omega),List.drop_eq_nil_of_le (by omega)]
    exact ⟨0,rfl⟩
  | d + 1,i,hd,hi => by
    have hil : i < l.length:=by omega
    refine (check_l0 (q:=q) (b:=b) hw hn d (i + 1) (by omega) (by omega)).succ fun k ⟨r,hk⟩ => ?_
    unfold circuit_Check.l0
    rw [if_pos (by omega),if_pos (by omega),if_pos (by omega),rdT_nat hil,circuit_may.f,if_pos (hw _ (List.getElem_mem hil)),List.drop_eq_getElem_cons hil,List.all_cons]
    simp only [Option.bind_some]
    rw [show mayC l[i].f0 l[i].f1 l[i].f2 l[i].f3 l[i].f4 l[i].f5 q b=mayO q b l[i] from rfl]
    by_cases c : mayO q b l[i]=true
    · rw [if_pos c,w64 (by omega) (by omega),show (i : Int) + 1=((i + 1 : Nat) : Int) by omega,hk,c]
      exact ⟨r,by simp⟩
    · rw [if_neg c]
      rw [Bool.not_eq_true] at c
      rw [c]
      exact ⟨_,rfl⟩
theorem rcheck_l0 {q b : Int} {l : List Opn} (hw : WfL l) (hn : l.length≤4611686018427387904) :
    ∀ (d i : Nat),l.length - i=d→i≤l.length→Evt fun k => ∃ r,phasorref08_Check.l0 k (i : Int) q b l=some (r,if (l.drop i).all (mayO q b)=true then 0 else 80)
  | 0,i,hd,hi => by
    refine (Evt.all (p:=fun _ => True) fun _ => trivial).succ fun k _ => ?_
    unfold phasorref08_Check.l0
    rw [if_neg (by omega),List.drop_eq_nil_of_le (by omega)]
    exact ⟨0,rfl⟩
  | d + 1,i,hd,hi => by
    have hil : i < l.length:=by omega
    refine (rcheck_l0 (q:=q) (b:=b) hw hn d (i + 1) (by omega) (by omega)).succ fun k ⟨r,hk⟩ => ?_
    unfold phasorref08_Check.l0
    rw [if_pos (by omega),if_pos (by omega),rdT_nat hil,phasorref08_Op.f,if_pos (hw _ (List.getElem_mem hil)),List.drop_eq_getElem_cons hil,List.all_cons]
    simp only [Option.bind_some]
    rw [show mayC l[i].f0 l[i].f1 l[i].f2 l[i].f3 l[i].f4 l[i].f5 q b=mayO q b l[i] from rfl]
    by_cases c : mayO q b l[i]=true
    · rw [if_pos c,w64 (by omega) (by omega),show (i : Int) + 1=((i + 1 : Nat) : Int) by omega,hk,c]
      exact ⟨r,by simp⟩
    · rw [if_neg c]
      rw [Bool.not_eq_true] at c
      rw [c]
      exact ⟨_,rfl⟩
theorem check_is {q b : Int} {l : List Opn} (hw : WfL l) : Evt fun k => ∃ r,circuit_Check.f k q b l=some (r,if okc q b l=true then 0 else 80):=by
  have hf : Evt fun k => ∃ r,circuit_Check.j0 k true q b l=some (r,80):=(Evt.all (p:=fun _ => True) fun _ => trivial).succ fun k _ => ⟨-1,rfl⟩
  by_cases h1 : q < 0
  · refine hf.mono fun k hk => ?_
    unfold circuit_Check.f okc
    rw [if_pos h1,decide_eq_false (by omega)]
    simpa using hk
  by_cases h2 : q > 64
  · refine hf.mono fun k hk => ?_
    unfold circuit_Check.f okc
    rw [if_neg h1,if_pos h2,decide_eq_false (p:=q≤64) (by omega)]
    simpa using hk
  by_cases h3 : b < 0
  · refine hf.mono fun k hk => ?_
    unfold circuit_Check.f okc
    rw [if_neg h1,if_neg h2,if_pos h3,decide_eq_false (p:=0≤b) (by omega)]
    simpa using hk
  by_cases h4 : b > 64
  · refine hf.mono fun k hk => ?_
    unfold circuit_Check.f okc
    rw [if_neg h1,if_neg h2,if_neg h3,if_pos h4,decide_eq_false (p:=b≤64) (by omega)]
    simpa using hk
  by_cases h5 : (l.length : Int) > 4096
  · refine hf.mono fun k hk => ?_
    unfold circuit_Check.f okc
    rw [if_neg h1,if_neg h2,if_neg h3,if_neg h4,decide_eq_true h5,decide_eq_false (p:=l.length≤4096) (by omega)]
    simpa using hk
  · refine (check_l0 (q:=q) (b:=b) hw (by omega) l.length 0 (by omega) (by omega)).succ fun k hk => ?_
    unfold circuit_Check.f okc
    rw [if_neg h1,if_neg h2,if_neg h3,if_neg h4,decide_eq_false h5,decide_eq_true (p:=0≤q) (by omega),decide_eq_true (p:=q≤64) (by omega),decide_eq_true (p:=0≤b) (by omega),decide_eq_true (p:=b≤64) (by omega),decide_eq_true (p:=l.length≤4096) (by omega)]
    simpa [circuit_Check.j0] using hk
theorem rcheck_is {q b : Int} {l : List Opn} (hw : WfL l) : Evt fun k => ∃ r,phasorref08_Check.f k q b l=some (r,if okc q b l=true then 0 else 80):=by
  have hf : Evt fun k => ∃ r,phasorref08_Check.j0 k true q b l=some (r,80):=(Evt.all (p:=fun _ => True) fun _ => trivial).succ fun k _ => ⟨-1,rfl⟩
  by_cases h1 : q < 0
  · refine hf.mono fun k hk => ?_
    unfold phasorref08_Check.f okc
    rw [if_pos h1,decide_eq_false (by omega)]
    simpa using hk
  by_cases h2 : q > 64
  · refine hf.mono fun k hk => ?_
    unfold phasorref08_Check.f okc
    rw [if_neg h1,if_pos h2,decide_eq_false (p:=q≤64) (by omega)]
    simpa using hk
  by_cases h3 : b < 0
  · refine hf.mono fun k hk => ?_
    unfold phasorref08_Check.f okc
    rw [if_neg h1,if_neg h2,if_pos h3,decide_eq_false (p:=0≤b) (by omega)]
    simpa using hk
  by_cases h4 : b > 64
  · refine hf.mono fun k hk => ?_
    unfold phasorref08_Check.f okc
    rw [if_neg h1,if_neg h2,if_neg h3,if_pos h4,decide_eq_false (p:=b≤64) (by omega)]
    simpa using hk
  by_cases h5 : (l.length : Int) > 4096
  · refine hf.mono fun k hk => ?_
    unfold phasorref08_Check.f okc
    rw [if_neg h1,if_neg h2,if_neg h3,if_neg h4,decide_eq_true h5,decide_eq_false (p:=l.length≤4096) (by omega)]
    simpa using hk
  · refine (rcheck_l0 (q:=q) (b:=b) hw (by omega) l.length 0 (by omega) (by omega)).succ fun k hk => ?_
    unfold phasorref08_Check.f okc
    rw [if_neg h1,if_neg h2,if_neg h3,if_neg h4,decide_eq_false h5,decide_eq_true (p:=0≤q) (by omega),decide_eq_true (p:=q≤64) (by omega),decide_eq_true (p:=0≤b) (by omega),decide_eq_true (p:=b≤64) (by omega),decide_eq_true (p:=l.length≤4096) (by omega)]
    simpa [phasorref08_Check.j0] using hk
theorem checked_is {q b : Int} {l : List Opn} (hw : WfL l) : Evt fun k => layers_checked.f k q b l=some (if okc q b l=true then 0 else 80) :=
  (check_is (q:=q) (b:=b) hw).mono fun k ⟨r,hk⟩ => by
    unfold layers_checked.f
    rw [hk]
    by_cases c : okc q b l=true
    · simp [c]
    · rw [Bool.not_eq_true] at c;simp [c]
theorem may_is {q b : Int} {l : List Opn} (hw : WfL l) : Evt fun k => phasorref08_May.f k q b l=some (okc q b l) :=
  (rcheck_is (q:=q) (b:=b) hw).mono fun k ⟨r,hk⟩ => by
    unfold phasorref08_May.f
    rw [hk]
    by_cases c : okc q b l=true
    · simp [c]
    · rw [Bool.not_eq_true] at c;simp [c]
end Go.Proofs.Ytbelnopbggkdfaa.Q
end

section
namespace Go.Proofs.Ytbelnopbggkdfaa.Q
open Go.RowKit Go.Proofs.YtbelnopbggkdfaaW.PrintWords Go.Proofs.YtbelnopbggkdfaaW.PrintLast Go.Proofs.YtbelnopbggkdfaaW.PrintMore
attribute [local go_sem] max2_int min2_int max_two min_two max_three min_three max_four min_four   -- for this text's walks alone
set_option linter.unusedVariables false
set_option linter.unusedSimpArgs false
def maxTo (l : List Int) : Nat→Int
 | 0 => rd l 0
 | q + 1 => mx (maxTo l q) (rd l ((q : Int) + 1))
def slices_Max_int_int.f (l0 : List Int) : Option (Int):=if l0.length=0 then none else some (maxTo l0 (l0.length - 1))
set_option maxHeartbeats 2000000 in
set_option maxRecDepth 100000 in
theorem slices_Max_int_int.calls (A0 : Option Addr) (c0 : Nat) (l0 : List Int) (r : Int) (w : World) (hr0 : Kd.C (Kd.int .i64) w A0 l0.length l0) (hc0 : l0.length≤c0) (h : slices_Max_int_int.f l0=some r) :
  Calls Try.prog 63 #[.slice A0 l0.length c0] w fun e w' => e=.returned (.int .i64 r)∧Below w.heap.size w w':=by
 unfold slices_Max_int_int.f at h
 split at h
 case isTrue => cases h
 rename_i hne
 obtain rfl:=Option.some.inj h
 clear h
 have HM:=Aside0.mk (show ∀ q,maxTo l0 (q + 1)=mx (maxTo l0 q) (rd l0 ((q : Int) + 1)) from fun _ => rfl)
 have H0:=Aside0.mk (show maxTo l0 0=rd l0 0 from rfl)
 generalize maxTo l0=M at HM H0 ⊢
 obtain ⟨hlen,hmax,hcells⟩:=Kd.reads_of_C (enc:=Value.int .i64) (d:=(0 : Int)) (h1:=fun _ => rfl) hr0
 clear hr0 hlen
 generalize hn : l0.length=n at *
 clear hn
 obtain ⟨ad,rfl,hc⟩:=hcells (by omega)
 have HC:=Aside0.mk hc
 have c0':=hc 0 (by omega)
 rw [show l0.getD 0 0=M 0 by rw [H0.out];simp [rd]] at c0'
 clear hcells hc
 obtain ⟨b,off,spot⟩:=ad
 obtain rfl : spot=none:=by simpa [Addr.add] using World.cell?_spot c0'
 have hn1 : (n : Int)≤9223372036854775807:=by omega
 have hn2 : 1≤n:=by omega
 have hn3 : decide ((n : Int) < 1)=false:=by simp;omega
 have c0'' : w.cell? ⟨b,off,none⟩=some (.int .i64 (M 0)):=by simpa [Addr.add] using c0'
 clear c0' hne
 go_enter Try.func63,Try.ntmps63
 go_wp2
 go_loop [3,4] (fun v3 v4 => ∃ q : Nat,q + 1≤n∧v4=.int .i64 ((q : Int) + 1)∧v3=.int .i64 (M q)) (fun _ i => n - (intOf i).toNat)
 case atStart => exact ⟨0,hn2,rfl,rfl⟩
 case round =>
  obtain ⟨q,hq,rfl,rfl⟩:=hrel
  by_cases hqt : q + 1 < n
  ·have hcell:=HC.out (q + 1) hqt
   rw [show l0.getD (q + 1) 0=rd l0 ((q : Int) + 1) by simp [rd,show ((q : Int) + 1).toNat=q + 1 by omega]] at hcell
   have hs:=HM.out q
   generalize rd l0 ((q : Int) + 1)=x at hcell hs
   have HSN:=Aside0.mk hs
   have hqt2 : (q : Int) + 1 < (n : Int):=by omega
   have ht : ((q : Int) + 1).toNat=q + 1:=by omega
   rw [show (⟨b,off,none⟩ : Addr).add (q + 1)=⟨b,off + (q + 1),none⟩ by simp [Addr.add]] at hcell
   clear hs
   go_wp2
   go_round
   case rel => exact ⟨q + 1,by omega,by go_num,by rw [HSN.out];rfl⟩
   case measure => simp [intOf];omega
  ·obtain rfl : n=q + 1:=by omega
   go_wp2
   go_ret
   exact ⟨by simp,Below.refl _ _⟩
end Go.Proofs.Ytbelnopbggkdfaa.Q
end

section
namespace Go.Proofs.Ytbelnopbggkdfaa.Q
open Go.RowKit Go.Proofs.YtbelnopbggkdfaaW.PrintWords Go.Proofs.YtbelnopbggkdfaaW.PrintLast Go.Proofs.YtbelnopbggkdfaaW.PrintMore
attribute [local go_sem] max2_int min2_int max_two min_two max_three min_three max_four min_four   -- for this text's walks alone
set_option linter.unusedVariables false
set_option linter.unusedSimpArgs false
def layers_Depth.f (k : Nat) (a0_0 : Int) (a0_1 : Int) (l0_2 : List (S46)) : Option (Int × Int):=(layers_Early.f k a0_0 a0_1 l0_2).bind fun bt495 => (if bt495.2=0 then (if (bt495.1.length : Int)=0 then (some (0,bt495.2)) else ((slices_Max_int_int.f bt495.1).bind fun t499 => (some (t499,0)))) else (some (0,bt495.2)))
set_option maxHeartbeats 8000000 in
set_option maxRecDepth 100000 in
theorem layers_Depth.calls (k : Nat) (a0_0 : Int) (a0_1 : Int) (A0_2 : Option Addr) (c0_2 : Nat) (l0_2 : List (S46)) (r1 : Int) (r2 : Int) (w : World) (hr0_2 : Kd.C k46 w A0_2 l0_2.length l0_2) (hc0_2 : l0_2.length≤c0_2) (h : layers_Depth.f k a0_0 a0_1 l0_2=some (r1,r2)) :
  Calls Try.prog 23 #[.agg #[.int .i64 a0_0,.int .i64 a0_1,.slice A0_2 l0_2.length c0_2]] w fun e w' => e=.returned (.tuple #[.int .i64 r1,.int .i64 r2])∧Below w.heap.size w w':=by
 have hu24:=Try.underlying24
 have HR0_2:=Aside0.mk hr0_2
 have HC0_2:=Aside0.mk hc0_2
 clear hr0_2 hc0_2
 have HB:=Aside0.mk (Below.refl w.heap.size w)
 have H : ((layers_Early.f k a0_0 a0_1 l0_2).bind fun bt495 => (if bt495.2=0 then (if (bt495.1.length : Int)=0 then (some (0,bt495.2)) else ((slices_Max_int_int.f bt495.1).bind fun t499 => (some (t499,0)))) else (some (0,bt495.2))))=some (r1,r2):=h
 clear h
 replace H:=Option.bind_eq_some_iff.mp H
 obtain ⟨⟨t495,t498⟩,A20,H⟩:=H
 replace H : (if t498=0 then (if (t495.length : Int)=0 then (some (0,t498)) else ((slices_Max_int_int.f t495).bind fun t499 => (some (t499,0)))) else (some (0,t498)))=some (r1,r2):=H
 have A2:=Aside0.mk A20
 clear A20
 by_cases c3 : t498=0
 ·rw [if_pos c3] at H
  have c3b0 : (t498 == 0)=true:=beq_iff_eq.mpr c3
  have c3b1 : (t498 != 0)=false:=bne_eq_false_iff_eq.mpr c3
  clear c3
  by_cases c4 : (t495.length : Int)=0
  ·rw [if_pos c4] at H
   have c4b0 : ((t495.length : Int) == 0)=true:=beq_iff_eq.mpr c4
   have c4b1 : ((t495.length : Int) != 0)=false:=bne_eq_false_iff_eq.mpr c4
   clear c4
   simp only [Option.some.injEq,Prod.mk.injEq] at H
   obtain ⟨rfl,rfl⟩:=H
   go_enter Try.func23,Try.ntmps23
   go_wp2_with (first|((with_reducible refine gate_dst (N:=1) rfl ?_);(try (refine gate_guard (by rfl) ?_;dsimp only));refine box_event ?hg (N:=1) ?hd (cs:=#[.int .i64 a0_0,.int .i64 a0_1,.slice A0_2 l0_2.length c0_2]) (t:=24) ?hr ?_;(case hd => rfl);(case hg => rfl);(case hr => first|(go_simp;done)|(go_simp;rfl));intro gb494 hg w5 hbox hb;have n0_:=Aside0.mk (below_step (by repeat (first|(with_reducible first|exact HB.out|apply below_alloc|apply pw_below_drewN|apply below_drew1)|exact HB.out)) hb);have n1_:=Aside0.mk (hbox);have n2_:=Aside0.mk ((by rw [hg];exact (below_size (by repeat (first|(with_reducible first|exact HB.out|apply below_alloc|apply pw_below_drewN|apply below_drew1)|exact HB.out))) : w.heap.size≤gb494));have n3_:=Aside0.mk ((by rw [hg];exact (below_size (by repeat (first|(with_reducible first|exact HB.out|apply below_alloc|apply pw_below_drewN|apply below_drew1)|exact HB.out))) : w.heap.size≤gb494));clear HB;have HB:=n0_;have BK494:=n1_;have GW494:=n2_;have GE494:=n3_;clear n0_ n1_ n2_ n3_;clear hb hbox hg;have hcz6_0 : w5.cell? ⟨gb494,0,none⟩=some (.int .i64 a0_0):=(blk_cell BK494.out 0).trans rfl;have hcz6_1 : w5.cell? ⟨gb494,1,none⟩=some (.int .i64 a0_1):=(blk_cell BK494.out 1).trans rfl;have hcz6_2 : w5.cell? ⟨gb494,2,none⟩=some (.slice A0_2 l0_2.length c0_2):=(blk_cell BK494.out 2).trans rfl;have hfz6_0:=blk_frozen BK494.out 0;have hfz6_1:=blk_frozen BK494.out 1;have hfz6_2:=blk_frozen BK494.out 2)|((with_reducible refine gate_callee (f:=21) rfl ?_);refine goesL_ (some 8) rfl rfl Try.func21 (by kernel_rfl) rfl #[.agg #[.int .i64 a0_0,.int .i64 a0_1,.slice A0_2 l0_2.length c0_2]] rfl (by (try simp only [List.map_toArray,List.map_cons,List.map_nil]);first|done|rfl|(simp only [List.length_drop,List.length_take];rfl)) ?_;(with_reducible refine (layers_Early.calls k a0_0 a0_1 _ _ l0_2 t495 t498 _ ?side1 ?side2 A2.out).mono ?_);(case side1 => repeat (first|exact (Kd.C_below HR0_2.out HB.out)|(with_reducible refine Kd.C_alloc ?_ _)|(with_reducible refine Kd.C_drewN ?_ _)|(with_reducible refine Kd.C_drew ?_)));(case side2 => exact HC0_2.out);rintro e w7 ⟨v496,rfl,ho0,hb⟩;refine ⟨_,rfl,?_⟩;have n0_:=Aside0.mk (Kd.R_lower ho0 (below_size (by repeat (first|(with_reducible first|exact HB.out|apply below_alloc|apply pw_below_drewN|apply below_drew1|refine below_set ?_ GE494.out)|exact HB.out))));have n1_:=Aside0.mk (blk_below (g:=gb494) (o:=.cells #[.int .i64 a0_0,.int .i64 a0_1,.slice A0_2 l0_2.length c0_2] 24 (0,0)) (by (with_reducible repeat (first|refine blk_drewN ?_ _|refine blk_drew ?_|refine blk_alloc ?_ _));exact BK494.out) hb);have n2_:=Aside0.mk (below_step (by repeat (first|(with_reducible first|exact HB.out|apply below_alloc|apply pw_below_drewN|apply below_drew1|refine below_set ?_ GE494.out)|exact HB.out)) hb);clear BK494;clear HB;have HO497:=n0_;have BK494:=n1_;have HB:=n2_;clear n0_ n1_ n2_;(try clear hb);(try clear hb2);(try clear hk);(try clear hi);(try clear ho0);obtain ⟨Ao8,co8,eo8⟩:=Kd.R_slice HO497.out;subst eo8))
   go_ret2
   exact ⟨by first|rfl|(simp [errW_none,errW_some] <;> rfl)|(simp [*,errW_none,errW_some] <;> rfl),by repeat (first|(with_reducible first|exact HB.out|apply below_alloc|apply pw_below_drewN|apply below_drew1|refine below_set ?_ GE494.out)|exact HB.out)⟩
  ·rw [if_neg c4] at H
   have c4b0 : ((t495.length : Int) == 0)=false:=beq_eq_false_iff_ne.mpr c4
   have c4b1 : ((t495.length : Int) != 0)=true:=bne_iff_ne.mpr c4
   have c4b2 : ¬ (t495=[]):=fun h_ => c4 (by rw [h_];rfl)
   replace H:=Option.bind_eq_some_iff.mp H
   obtain ⟨t499,A90,H⟩:=H
   replace H : (some (t499,0))=some (r1,r2):=H
   have A9:=Aside0.mk A90
   clear A90
   simp only [Option.some.injEq,Prod.mk.injEq] at H
   obtain ⟨rfl,rfl⟩:=H
   go_enter Try.func23,Try.ntmps23
   go_wp2_with (first|((with_reducible refine gate_dst (N:=1) rfl ?_);(try (refine gate_guard (by rfl) ?_;dsimp only));refine box_event ?hg (N:=1) ?hd (cs:=#[.int .i64 a0_0,.int .i64 a0_1,.slice A0_2 l0_2.length c0_2]) (t:=24) ?hr ?_;(case hd => rfl);(case hg => rfl);(case hr => first|(go_simp;done)|(go_simp;rfl));intro gb494 hg w10 hbox hb;have n0_:=Aside0.mk (below_step (by repeat (first|(with_reducible first|exact HB.out|apply below_alloc|apply pw_below_drewN|apply below_drew1)|exact HB.out)) hb);have n1_:=Aside0.mk (hbox);have n2_:=Aside0.mk ((by rw [hg];exact (below_size (by repeat (first|(with_reducible first|exact HB.out|apply below_alloc|apply pw_below_drewN|apply below_drew1)|exact HB.out))) : w.heap.size≤gb494));have n3_:=Aside0.mk ((by rw [hg];exact (below_size (by repeat (first|(with_reducible first|exact HB.out|apply below_alloc|apply pw_below_drewN|apply below_drew1)|exact HB.out))) : w.heap.size≤gb494));clear HB;have HB:=n0_;have BK494:=n1_;have GW494:=n2_;have GE494:=n3_;clear n0_ n1_ n2_ n3_;clear hb hbox hg;have hcz11_0 : w10.cell? ⟨gb494,0,none⟩=some (.int .i64 a0_0):=(blk_cell BK494.out 0).trans rfl;have hcz11_1 : w10.cell? ⟨gb494,1,none⟩=some (.int .i64 a0_1):=(blk_cell BK494.out 1).trans rfl;have hcz11_2 : w10.cell? ⟨gb494,2,none⟩=some (.slice A0_2 l0_2.length c0_2):=(blk_cell BK494.out 2).trans rfl;have hfz11_0:=blk_frozen BK494.out 0;have hfz11_1:=blk_frozen BK494.out 1;have hfz11_2:=blk_frozen BK494.out 2)|((with_reducible refine gate_callee (f:=21) rfl ?_);refine goesL_ (some 8) rfl rfl Try.func21 (by kernel_rfl) rfl #[.agg #[.int .i64 a0_0,.int .i64 a0_1,.slice A0_2 l0_2.length c0_2]] rfl (by (try simp only [List.map_toArray,List.map_cons,List.map_nil]);first|done|rfl|(simp only [List.length_drop,List.length_take];rfl)) ?_;(with_reducible refine (layers_Early.calls k a0_0 a0_1 _ _ l0_2 t495 t498 _ ?side1 ?side2 A2.out).mono ?_);(case side1 => repeat (first|exact (Kd.C_below HR0_2.out HB.out)|(with_reducible refine Kd.C_alloc ?_ _)|(with_reducible refine Kd.C_drewN ?_ _)|(with_reducible refine Kd.C_drew ?_)));(case side2 => exact HC0_2.out);rintro e w12 ⟨v496,rfl,ho0,hb⟩;refine ⟨_,rfl,?_⟩;have n0_:=Aside0.mk (Kd.R_lower ho0 (below_size (by repeat (first|(with_reducible first|exact HB.out|apply below_alloc|apply pw_below_drewN|apply below_drew1|refine below_set ?_ GE494.out)|exact HB.out))));have n1_:=Aside0.mk (blk_below (g:=gb494) (o:=.cells #[.int .i64 a0_0,.int .i64 a0_1,.slice A0_2 l0_2.length c0_2] 24 (0,0)) (by (with_reducible repeat (first|refine blk_drewN ?_ _|refine blk_drew ?_|refine blk_alloc ?_ _));exact BK494.out) hb);have n2_:=Aside0.mk (below_step (by repeat (first|(with_reducible first|exact HB.out|apply below_alloc|apply pw_below_drewN|apply below_drew1|refine below_set ?_ GE494.out)|exact HB.out)) hb);clear BK494;clear HB;have HO497:=n0_;have BK494:=n1_;have HB:=n2_;clear n0_ n1_ n2_;(try clear hb);(try clear hb2);(try clear hk);(try clear hi);(try clear ho0);obtain ⟨Ao13,co13,eo13⟩:=Kd.R_slice HO497.out;subst eo13)|((with_reducible refine gate_callee (f:=63) rfl ?_);refine goesL_ (some 20) rfl rfl Try.func63 (by kernel_rfl) rfl #[.slice Ao13 t495.length co13] rfl (by (try simp only [List.map_toArray,List.map_cons,List.map_nil]);first|done|rfl|(simp only [List.length_drop,List.length_take];rfl)) ?_;(with_reducible refine (slices_Max_int_int.calls _ _ t495 t499 _ ?side1 ?side2 A9.out).mono ?_);(case side1 => repeat (first|exact (Kd.R_reads' HO497.out).2.2|(with_reducible refine Kd.C_alloc ?_ _)|(with_reducible refine Kd.C_drewN ?_ _)|(with_reducible refine Kd.C_drew ?_)));(case side2 => exact (Kd.R_reads' HO497.out).2.1);rintro e w14 ⟨rfl,hb⟩;refine ⟨_,rfl,?_⟩;have n0_:=Aside0.mk (Kd.R_below (by (with_reducible repeat (first|apply Kd.R_alloc|apply Kd.R_drewN|apply Kd.R_drew));exact HO497.out) hb);have n1_:=Aside0.mk (blk_below (g:=gb494) (o:=.cells #[.int .i64 a0_0,.int .i64 a0_1,.slice A0_2 l0_2.length c0_2] 24 (0,0)) (by (with_reducible repeat (first|refine blk_drewN ?_ _|refine blk_drew ?_|refine blk_alloc ?_ _));exact BK494.out) hb);have n2_:=Aside0.mk (below_step (by repeat (first|(with_reducible first|exact HB.out|apply below_alloc|apply pw_below_drewN|apply below_drew1|refine below_set ?_ GE494.out)|exact HB.out)) hb);clear HO497;clear BK494;clear HB;have HO497:=n0_;have BK494:=n1_;have HB:=n2_;clear n0_ n1_ n2_;(try clear hb);(try clear hb2);(try clear hk);(try clear hi)))
   go_ret2
   exact ⟨by first|rfl|(simp [errW_none,errW_some] <;> rfl)|(simp [*,errW_none,errW_some] <;> rfl),by repeat (first|(with_reducible first|exact HB.out|apply below_alloc|apply pw_below_drewN|apply below_drew1|refine below_set ?_ GE494.out)|exact HB.out)⟩
 ·rw [if_neg c3] at H
  have c3b0 : (t498 == 0)=false:=beq_eq_false_iff_ne.mpr c3
  have c3b1 : (t498 != 0)=true:=bne_iff_ne.mpr c3
  simp only [Option.some.injEq,Prod.mk.injEq] at H
  obtain ⟨rfl,rfl⟩:=H
  go_enter Try.func23,Try.ntmps23
  go_wp2_with (first|((with_reducible refine gate_dst (N:=1) rfl ?_);(try (refine gate_guard (by rfl) ?_;dsimp only));refine box_event ?hg (N:=1) ?hd (cs:=#[.int .i64 a0_0,.int .i64 a0_1,.slice A0_2 l0_2.length c0_2]) (t:=24) ?hr ?_;(case hd => rfl);(case hg => rfl);(case hr => first|(go_simp;done)|(go_simp;rfl));intro gb494 hg w15 hbox hb;have n0_:=Aside0.mk (below_step (by repeat (first|(with_reducible first|exact HB.out|apply below_alloc|apply pw_below_drewN|apply below_drew1)|exact HB.out)) hb);have n1_:=Aside0.mk (hbox);have n2_:=Aside0.mk ((by rw [hg];exact (below_size (by repeat (first|(with_reducible first|exact HB.out|apply below_alloc|apply pw_below_drewN|apply below_drew1)|exact HB.out))) : w.heap.size≤gb494));have n3_:=Aside0.mk ((by rw [hg];exact (below_size (by repeat (first|(with_reducible first|exact HB.out|apply below_alloc|apply pw_below_drewN|apply below_drew1)|exact HB.out))) : w.heap.size≤gb494));clear HB;have HB:=n0_;have BK494:=n1_;have GW494:=n2_;have GE494:=n3_;clear n0_ n1_ n2_ n3_;clear hb hbox hg;have hcz16_0 : w15.cell? ⟨gb494,0,none⟩=some (.int .i64 a0_0):=(blk_cell BK494.out 0).trans rfl;have hcz16_1 : w15.cell? ⟨gb494,1,none⟩=some (.int .i64 a0_1):=(blk_cell BK494.out 1).trans rfl;have hcz16_2 : w15.cell? ⟨gb494,2,none⟩=some (.slice A0_2 l0_2.length c0_2):=(blk_cell BK494.out 2).trans rfl;have hfz16_0:=blk_frozen BK494.out 0;have hfz16_1:=blk_frozen BK494.out 1;have hfz16_2:=blk_frozen BK494.out 2)|((with_reducible refine gate_callee (f:=21) rfl ?_);refine goesL_ (some 8) rfl rfl Try.func21 (by kernel_rfl) rfl #[.agg #[.int .i64 a0_0,.int .i64 a0_1,.slice A0_2 l0_2.length c0_2]] rfl (by (try simp only [List.map_toArray,List.map_cons,List.map_nil]);first|done|rfl|(simp only [List.length_drop,List.length_take];rfl)) ?_;(with_reducible refine (layers_Early.calls k a0_0 a0_1 _ _ l0_2 t495 t498 _ ?side1 ?side2 A2.out).mono ?_);(case side1 => repeat (first|exact (Kd.C_below HR0_2.out HB.out)|(with_reducible refine Kd.C_alloc ?_ _)|(with_reducible refine Kd.C_drewN ?_ _)|(with_reducible refine Kd.C_drew ?_)));(case side2 => exact HC0_2.out);rintro e w17 ⟨v496,rfl,ho0,hb⟩;refine ⟨_,rfl,?_⟩;have n0_:=Aside0.mk (Kd.R_lower ho0 (below_size (by repeat (first|(with_reducible first|exact HB.out|apply below_alloc|apply pw_below_drewN|apply below_drew1|refine below_set ?_ GE494.out)|exact HB.out))));have n1_:=Aside0.mk (blk_below (g:=gb494) (o:=.cells #[.int .i64 a0_0,.int .i64 a0_1,.slice A0_2 l0_2.length c0_2] 24 (0,0)) (by (with_reducible repeat (first|refine blk_drewN ?_ _|refine blk_drew ?_|refine blk_alloc ?_ _));exact BK494.out) hb);have n2_:=Aside0.mk (below_step (by repeat (first|(with_reducible first|exact HB.out|apply below_alloc|apply pw_below_drewN|apply below_drew1|refine below_set ?_ GE494.out)|exact HB.out)) hb);clear BK494;clear HB;have HO497:=n0_;have BK494:=n1_;have HB:=n2_;clear n0_ n1_ n2_;(try clear hb);(try clear hb2);(try clear hk);(try clear hi);(try clear ho0)))
  go_ret2
  exact ⟨by first|rfl|(simp [errW_none,errW_some] <;> rfl)|(simp [*,errW_none,errW_some] <;> rfl),by repeat (first|(with_reducible first|exact HB.out|apply below_alloc|apply pw_below_drewN|apply below_drew1|refine below_set ?_ GE494.out)|exact HB.out)⟩
end Go.Proofs.Ytbelnopbggkdfaa.Q
end

section
namespace Go.Proofs.Ytbelnopbggkdfaa.Q
open Go.RowKit Go.Proofs.YtbelnopbggkdfaaW.PrintWords Go.Proofs.YtbelnopbggkdfaaW.PrintLast Go.Proofs.YtbelnopbggkdfaaW.PrintMore
attribute [local go_sem] max2_int min2_int max_two min_two max_three min_three max_four min_four   -- for this text's walks alone
set_option linter.unusedVariables false
set_option linter.unusedSimpArgs false
def minL (L : List Int) (ws : List Int) (m : Int) : Int:=ws.foldl (fun m x => mn m (rd L x)) m
theorem minL_snoc (L ws : List Int) (x m : Int) : minL L (ws ++ [x]) m=mn (minL L ws m) (rd L x):=by simp [minL]
def late_go (d : Int) : List S46→List Int→Option (List Int)
 | [],_ => some []
 | o :: os,L => (layers_wires.f o.f0 o.f1 o.f2 o.f3 o.f4 o.f5).bind fun ws =>
  if wireOk ws=true then (late_go d os (setL L ws (if o.f0=4 then minL L ws d else wrap64 (minL L ws d - 1)))).bind fun r => some (minL L ws d :: r) else none
def layers_Late.f (k : Nat) (a0_0 : Int) (a0_1 : Int) (l0_2 : List S46) : Option (List Int × Int) :=
 (layers_Depth.f k a0_0 a0_1 l0_2).bind fun t => if t.2=0 then (if l0_2.length < 2199023255552 then (late_go t.1 l0_2.reverse (List.replicate 128 t.1)).bind fun r => some (r.reverse,0) else none) else some ([],t.2)
theorem fill_set {q : Nat} {d : Int} (h : q < 128) : (List.replicate q d ++ List.replicate (128 - q) (0 : Int)).set q d=List.replicate (q + 1) d ++ List.replicate (128 - (q + 1)) (0 : Int):=by
 rw [List.set_append_right _ _ (by simp),List.length_replicate,Nat.sub_self,show 128 - q=(128 - (q + 1)) + 1 by omega,List.replicate_succ,List.set_cons_zero,List.replicate_succ']
 simp
theorem back_set {n p : Nat} {done : List Int} {m : Int} (h : p < n) : (List.replicate (n - p) (0 : Int) ++ done).set (n - 1 - p) m=List.replicate (n - (p + 1)) (0 : Int) ++ m :: done:=by
 rw [List.set_append_left _ _ (by simp;omega),show n - p=(n - (p + 1)) + 1 by omega,List.replicate_succ',List.set_append_right _ _ (by simp;omega)]
 rw [show n - 1 - p - (List.replicate (n - (p + 1)) (0 : Int)).length=0 by simp;omega]
 simp
theorem back_at {α : Type} {l : List α} {n p : Nat} (hn : l.length=n) (h : p < n) : ∃ h1 h2,l.reverse[p]'h1=l[n - 1 - p]'h2:=by
 refine ⟨by simp;omega,by omega,?_⟩
 rw [List.getElem_reverse]
 congr 1
 omega
set_option maxHeartbeats 8000000 in
set_option maxRecDepth 100000 in
theorem layers_Late.calls (k : Nat) (a0_0 : Int) (a0_1 : Int) (A0_2 : Option Addr) (c0_2 : Nat) (l0_2 : List S46) (r1 : List Int) (r2 : Int) (w : World) (hr0_2 : Kd.C k46 w A0_2 l0_2.length l0_2) (hc0_2 : l0_2.length≤c0_2) (h : layers_Late.f k a0_0 a0_1 l0_2=some (r1,r2)) :
  Calls Try.prog 22 #[.agg #[.int .i64 a0_0,.int .i64 a0_1,.slice A0_2 l0_2.length c0_2]] w fun e w' => ∃ v0_ : Value,e=.returned (.tuple #[v0_,.int .i64 r2])∧Kd.R (Kd.int .i64) 3 w' w.heap.size (fun _ => True) v0_ r1∧Below w.heap.size w w':=by
 have hu24:=Try.underlying24
 have hu46:=Try.underlying46
 unfold layers_Late.f at h
 obtain ⟨⟨d,e0⟩,hd,h2⟩:=Option.bind_eq_some_iff.1 h
 simp only at h2
 clear h
 have HD:=Aside0.mk hd
 have HC:=Aside0.mk hc0_2
 have HR:=Aside0.mk hr0_2
 clear hd hr0_2 hc0_2
 split at h2
 case isFalse =>
  rename_i hne
  simp only [Option.some.injEq,Prod.mk.injEq] at h2
  obtain ⟨rfl,rfl⟩:=h2
  have hne' : (e0 != 0)=true:=by simpa using hne
  clear hne
  go_enter Try.func22,Try.ntmps22
  go_wp2_with (go_at_call 23;(with_reducible refine (layers_Depth.calls k a0_0 a0_1 _ _ l0_2 d e0 _ (Kd.C_alloc HR.out _) HC.out HD.out).mono ?_);rintro e w1 ⟨rfl,hb1⟩)
  go_ret2
  exact ⟨_,rfl,Kd.R_nil _ _ _ _ _,below_step (below_alloc (Below.refl _ _) _) hb1⟩
 rename_i he
 obtain rfl : e0=0:=he
 split at h2
 case isFalse => cases h2
 rename_i hlen
 obtain ⟨res,hres,h3⟩:=Option.bind_eq_some_iff.1 h2
 simp only [Option.some.injEq,Prod.mk.injEq] at h3
 obtain ⟨rfl,rfl⟩:=h3
 have H:=Aside0.mk hres
 have LM:=Aside0.mk hlen
 clear h2 hres hlen
 go_enter Try.func22,Try.ntmps22
 go_upto_region 2 with (go_at_call 23;(with_reducible refine (layers_Depth.calls k a0_0 a0_1 _ _ l0_2 d 0 _ (Kd.C_alloc HR.out _) HC.out HD.out).mono ?_);rintro e w1 ⟨rfl,hb1⟩)
 have b1:=blk_below (blk_new w (.cells #[.int .i64 a0_0,.int .i64 a0_1,.slice A0_2 l0_2.length c0_2] 24)) hb1
 have hb:=below_step (below_alloc (Below.refl _ w) (.cells #[.int .i64 a0_0,.int .i64 a0_1,.slice A0_2 l0_2.length c0_2] 24)) hb1
 clear hb1
 obtain ⟨g1,hg1⟩ : ∃ g,g=w.heap.size:=⟨_,rfl⟩
 rw [← hg1] at b1
 have n1 : w.heap.size≤g1:=by omega
 rw [← hg1]
 clear hg1
 generalize hn : l0_2.length=n at *
 have hn64 : (n : Int)≤2199023255552:=by have:=LM.out;omega
 have HN:=Aside0.mk hn
 have HB:=Aside0.mk hb
 have B1:=Aside0.mk b1
 have N1:=Aside0.mk n1
 have f2c : w1.cell? ⟨g1,2,none⟩=some (.slice A0_2 n c0_2):=(blk_cell b1 2).trans rfl
 clear hn hb b1 n1
 go_upto_region 5 with ((with_reducible refine gate_dst (N:=27) rfl ?_);refine Kd.R_make (Kd.int .i64) _ 3 rfl (N:=27) rfl 37 _ _ rfl (n : Int) rfl rfl Try.underlying37 (.int .i64 0) 8 info3 rfl (by decide) (by omega) 0 (ok:=fun _ => True) (okp:=fun _ => True) rfl (fun _ hk => hk) trivial (by omega) (by rw [Int.toNat_natCast];omega) (Below.refl _ _) (Nat.le_refl _) ?_;intro v27 w2 ho hb hg hnew;clear hg hnew f2c)
 go_upto_region 6 with (fail)
 obtain ⟨g3,hg3⟩ : ∃ g,g=w2.heap.size:=⟨_,rfl⟩
 have hs : EarlyS w (w2.alloc (.cells Try.zeroCells75 75)) g1 g3 #[.int .i64 a0_0,.int .i64 a0_1,.slice A0_2 n c0_2] (List.replicate 128 0) v27 (List.replicate n 0):=by
  have h2:=below_step HB.out hb
  have n3:=h2.size
  subst hg3
  exact ⟨below_alloc h2 _,blk_alloc (blk_below B1.out hb) _,by
   have:=blk_new w2 (.cells Try.zeroCells75 75)
   rw [this]
   rfl,by
   have:=Kd.R_alloc (Kd.R_lower ho HB.out.size) (.cells Try.zeroCells75 75)
   rw [Int.toNat_natCast] at this
   exact this,N1.out,n3⟩
 rw [← hg3]
 generalize w2.alloc (.cells Try.zeroCells75 75)=W0 at hs ⊢
 have HS:=Aside0.mk hs
 clear hs hg3 ho hb HB B1 N1 HD
 go_wp2
 go_loopw [8,28] (fun _ v28 wr => ∃ q : Nat,q≤128∧v28=.int .i64 q∧Aside0 (EarlyS w wr g1 g3 #[.int .i64 a0_0,.int .i64 a0_1,.slice A0_2 n c0_2] (List.replicate q d ++ List.replicate (128 - q) 0) v27 (List.replicate n 0))) (fun _ i _ => 128 - (intOf i).toNat)
 case atStart => exact ⟨0,by omega,rfl,HS⟩
 case round =>
  clear HS
  obtain ⟨q,hq,rfl,HS⟩:=hrel
  by_cases hqt : q < 128
  ·have hqi : (q : Int) < 128:=by omega
   have hfr : wr.frozen? ⟨g3,q,none⟩=false:=blk_frozen HS.out.b3 _
   have hcc : wr.cell? ⟨g3,q,none⟩=some (.int .i64 ((List.replicate q d ++ List.replicate (128 - q) 0).getD q 0)):=by
    rw [blk_cell HS.out.b3]
    rw [List.getElem?_toArray,List.getElem?_map,List.getElem?_eq_getElem (by simp;omega)]
    simp [List.getD_eq_getElem?_getD,List.getElem?_eq_getElem (show q < (List.replicate q d ++ List.replicate (128 - q) (0 : Int)).length by simp;omega)]
   generalize (List.replicate q d ++ List.replicate (128 - q) 0).getD q 0=x at hcc
   go_wp2
   go_roundw
   case rel => exact ⟨q + 1,by omega,by go_num,⟨by
    have:=HS.out.put q d
    rw [fill_set hqt] at this
    exact this⟩⟩
   case measure => simp [intOf];omega
  ·obtain rfl : q=128:=by omega
   simp only [Nat.sub_self,List.replicate_zero,List.append_nil] at HS
   rw [show ((128 : Nat) : Int)=128 from rfl]
   have f2c : wr.cell? ⟨g1,2,none⟩=some (.slice A0_2 n c0_2):=(blk_cell HS.out.b1 2).trans rfl
   go_wp2
   clear f2c
   go_loopw [9,10,11,13,15] (fun v9 _ _ _ _ wr => ∃ (p : Nat) (L done rest : List Int),p≤n∧v9=.int .i64 ((n : Int) - 1 - p)∧Aside0 (late_go d (l0_2.reverse.drop p) L=some rest)∧Aside0 (done ++ rest=res)∧Aside0 (L.length=128)∧Aside0 (done.length=p)∧Aside0 (EarlyS w wr g1 g3 #[.int .i64 a0_0,.int .i64 a0_1,.slice A0_2 n c0_2] L v27 (List.replicate (n - p) 0 ++ done.reverse))) (fun i _ _ _ _ _ => (intOf i + 1).toNat)
   case atStart => exact ⟨0,_,[],res,Nat.zero_le _,by simp,H,⟨rfl⟩,⟨by simp⟩,⟨rfl⟩,⟨by simpa using HS.out⟩⟩
   case round =>
    clear HS H
    obtain ⟨p,L,done,rest,hp,rfl,H,HO,HL,HJ,HS⟩:=hrel
    by_cases hlt : p < n
    ·obtain ⟨hr1,hr2,hrv⟩:=back_at HN.out hlt
     obtain ⟨ad,A2,c2,rfl,x0,x1,x2,x3,x4,x5,hl2,hi2⟩:=at_T46 (by rw [HN.out];exact HR.out : Kd.C k46 w A0_2 l0_2.length l0_2) ((n : Int) - 1 - p) (by omega) (by rw [HN.out];omega)
     simp only [show ((n : Int) - 1 - p).toNat=n - 1 - p by omega] at x0 x1 x2 x3 x4 x5
     have hb:=HS.out.hb
     replace x0:=(hb.cell (World.block_lt_of_cell? w _ x0)).trans x0
     replace x1:=(hb.cell (World.block_lt_of_cell? w _ x1)).trans x1
     replace x2:=(hb.cell (World.block_lt_of_cell? w _ x2)).trans x2
     replace x3:=(hb.cell (World.block_lt_of_cell? w _ x3)).trans x3
     replace x4:=(hb.cell (World.block_lt_of_cell? w _ x4)).trans x4
     replace x5:=(hb.cell (World.block_lt_of_cell? w _ x5)).trans x5
     have hO : rd_T46 l0_2 ((n : Int) - 1 - p)=l0_2.reverse[p]'hr1:=by
      rw [hrv]
      have : ((n : Int) - 1 - p).toNat=n - 1 - p:=by omega
      simp [rd_T46,this,List.getD_eq_getElem?_getD,List.getElem?_eq_getElem hr2]
     have H2:=H.out
     rw [List.drop_eq_getElem_cons hr1,← hO] at H2
     clear hO hrv
     generalize rd_T46 l0_2 ((n : Int) - 1 - p)=o at *
     simp only [late_go] at H2
     obtain ⟨ws,hws,H3⟩:=Option.bind_eq_some_iff.1 H2
     clear H2 H
     split at H3
     case isFalse => cases H3
     rename_i hwo
     obtain ⟨rest',hrest,H4⟩:=Option.bind_eq_some_iff.1 H3
     obtain rfl:=Option.some.inj H4
     have HW:=Aside0.mk hws
     have HWO:=Aside0.mk hwo
     have HL2:=Aside0.mk hl2
     have HI2:=Aside0.mk hi2
     have HRE:=Aside0.mk hrest
     have hi0 : decide ((p : Int)≤(n : Int) - 1)=true:=by simp;omega
     have hi1 : (0 : Int)≤(n : Int) - 1 - p:=by omega
     have hi3 : (n : Int) - 1 - p < (n : Int):=by omega
     have f2d : wr.cell? ⟨g1,2,none⟩=some (.slice (some ad) n c0_2):=(blk_cell HS.out.b1 2).trans rfl
     clear hws hwo hl2 hi2 hrest H3 H4 hb
     go_upto_region 15 with (fail)
     have hs1:=HS.out.below (below_alloc (Below.refl _ wr) (.cells #[.int .i64 o.f0,.int .i64 o.f1,.slice A2 o.f2.length c2,.int .i64 o.f3,.int .i64 o.f4,.int .i64 o.f5] 46))
     have b6:=blk_new wr (.cells #[.int .i64 o.f0,.int .i64 o.f1,.slice A2 o.f2.length c2,.int .i64 o.f3,.int .i64 o.f4,.int .i64 o.f5] 46)
     obtain ⟨g6,hg6⟩ : ∃ g,g=wr.heap.size:=⟨_,rfl⟩
     rw [← hg6] at b6
     rw [← hg6]
     generalize wr.alloc _=W1 at hs1 b6 ⊢
     have HB6:=Aside0.mk b6
     have HS1:=Aside0.mk hs1
     clear x0 x1 x2 x3 x4 x5 hs1 b6 hg6 HS f2d
     have f0c : W1.cell? ⟨g6,0,none⟩=some (.int .i64 o.f0):=(blk_cell HB6.out 0).trans rfl
     have f1c : W1.cell? ⟨g6,1,none⟩=some (.int .i64 o.f1):=(blk_cell HB6.out 1).trans rfl
     have f2c : W1.cell? ⟨g6,2,none⟩=some (.slice A2 o.f2.length c2):=(blk_cell HB6.out 2).trans rfl
     have f3c : W1.cell? ⟨g6,3,none⟩=some (.int .i64 o.f3):=(blk_cell HB6.out 3).trans rfl
     have f4c : W1.cell? ⟨g6,4,none⟩=some (.int .i64 o.f4):=(blk_cell HB6.out 4).trans rfl
     have f5c : W1.cell? ⟨g6,5,none⟩=some (.int .i64 o.f5):=(blk_cell HB6.out 5).trans rfl
     go_wp2_with (go_at_call 62;(with_reducible refine (layers_wires.calls o.f0 o.f1 _ _ o.f2 o.f3 o.f4 o.f5 ws _ (Kd.C_below HI2.out HS1.out.hb) HL2.out HW.out).mono ?_);clear f0c f1c f2c f3c f4c f5c;rintro e W2 ⟨v20,rfl,hv20,hb2⟩;obtain ⟨A20,c20,rfl,hl20,hi20⟩:=Kd.R_reads hv20)
     have HS2:=Aside0.mk (HS1.out.below hb2)
     have HB62:=Aside0.mk (blk_below HB6.out hb2)
     have HI20:=Aside0.mk (Kd.reads_of_C (enc:=Value.int .i64) (d:=(0 : Int)) (h1:=fun _ => rfl) hi20)
     have hlw : (ws.length : Int)≤9223372036854775807:=by have:=hi20.2.1;omega
     clear hb2 hv20 hi20 HS1 HB6 hl20
     go_loop [11,13,52] (fun v11 _ v52 => ∃ q : Nat,q≤ws.length∧v52=.int .i64 q∧v11=.int .i64 (minL L (ws.take q) d)) (fun _ _ i => ws.length - (intOf i).toNat)
     case atStart => exact ⟨0,Nat.zero_le _,rfl,rfl⟩
     case round =>
      obtain ⟨q,hq,rfl,rfl⟩:=hrel
      by_cases hqt : q < ws.length
      ·obtain ⟨ad2,rfl,hcell0⟩:=HI20.out.2.2 (by omega)
       have hcell:=hcell0 q hqt
       rw [show ws.getD q 0=rd ws q by simp [rd]] at hcell
       have hx : 0≤rd ws q∧rd ws q < 128:=by
        have:=List.all_eq_true.1 HWO.out (ws[q]'hqt) (List.getElem_mem _)
        simp only [Bool.and_eq_true,decide_eq_true_eq] at this
        simpa [rd,List.getD_eq_getElem?_getD,List.getElem?_eq_getElem hqt] using this
       have hs:=minL_snoc L (ws.take q) (rd ws q) d
       rw [← take_snoc_rd ws q hqt] at hs
       generalize rd ws q=x at hcell hx hs
       obtain ⟨hx0,hx1⟩:=hx
       have harr : W2.cell? ⟨g3,x.toNat,none⟩=some (.int .i64 (rd L x)):=by
        rw [blk_cell HS2.out.b3]
        simp [rd,List.getD_eq_getElem?_getD,List.getElem?_eq_getElem (show x.toNat < L.length by rw [HL.out];omega)]
       have HSN:=Aside0.mk hs
       clear hcell0 hs
       go_wp2
       go_round
       case rel => exact ⟨q + 1,by omega,by go_num,by rw [HSN.out];rfl⟩
       case measure => simp [intOf];omega
      ·obtain rfl : q=ws.length:=by omega
       rw [List.take_length] at *
       clear HI20
       generalize minL L ws d=m0 at *
       obtain ⟨gr,cr,hv,_,_,cells,hcells⟩:=Kd.R_form HS2.out.ho (by simp;omega)
       have hln : (List.replicate (n - p) 0 ++ done.reverse).length=n:=by simp [HJ.out];omega
       rw [hln] at hv
       subst hv
       have hput:=Kd.R_putg HS2.out.ho ((n : Int) - 1 - p) m0
       rw [show ((n : Int) - 1 - p).toNat=n - 1 - p by omega,back_set hlt] at hput
       have HS3:=Aside0.mk (HS2.out.grown (v':=.slice (some ⟨gr,0,none⟩) n cr) (by simpa [Value.ownBlock] using hput.2) (below_set HS2.out.hb (by
        obtain ⟨inner,ho⟩:=Kd.R_own HS2.out.ho
        exact own_base ho gr (by simp [Value.ownBlock]))) hput.1)
       have hce:=Kd.R_celln (0 : Int) HS2.out.ho ((n : Int) - 1 - p) (by omega) (by omega)
       rw [show ((n : Int) - 1 - p).toNat=n - 1 - p by omega] at hce
       obtain ⟨hce1,hce2⟩:=hce
       generalize rdOf (0 : Int) (List.replicate (n - p) 0 ++ done.reverse) ((n : Int) - 1 - p)=y at hce1
       have hne6 : g6≠gr:=by
        rintro rfl
        have:=HB62.out.symm.trans hcells
        injection this with h1
        injection h1 with _ h2
        exact absurd h2 (by decide)
       have HB63:=Aside0.mk (blk_far (p:=⟨gr,n - 1 - p,none⟩) HB62.out hne6 (.int .i64 m0))
       clear hput hcells hln hne6 HS2 HB62
       go_upto_region 21 with (fail)
       generalize W2.setCell _ _=W4 at HS3 HB63 ⊢
       have HS4:=HS3
       clear HS3 hce1 hce2
       have f0c : W4.cell? ⟨g6,0,none⟩=some (.int .i64 o.f0):=(blk_cell HB63.out 0).trans rfl
       have f1c : W4.cell? ⟨g6,1,none⟩=some (.int .i64 o.f1):=(blk_cell HB63.out 1).trans rfl
       have f2c : W4.cell? ⟨g6,2,none⟩=some (.slice A2 o.f2.length c2):=(blk_cell HB63.out 2).trans rfl
       have f3c : W4.cell? ⟨g6,3,none⟩=some (.int .i64 o.f3):=(blk_cell HB63.out 3).trans rfl
       have f4c : W4.cell? ⟨g6,4,none⟩=some (.int .i64 o.f4):=(blk_cell HB63.out 4).trans rfl
       have f5c : W4.cell? ⟨g6,5,none⟩=some (.int .i64 o.f5):=(blk_cell HB63.out 5).trans rfl
       by_cases h4 : o.f0=4
       ·have h4b : (o.f0 != 4)=false:=by simpa using h4
        rw [if_pos h4] at HRE
        clear h4
        go_upto_region 23 with (fail)
        clear h4b
        go_wp2_with (go_at_call 62;(with_reducible refine (layers_wires.calls o.f0 o.f1 _ _ o.f2 o.f3 o.f4 o.f5 ws _ (Kd.C_below HI2.out HS4.out.hb) HL2.out HW.out).mono ?_);clear f0c f1c f2c f3c f4c f5c;rintro e W3 ⟨v38,rfl,hv38,hb3⟩;obtain ⟨A38,c38,rfl,hl38,hi38⟩:=Kd.R_reads hv38)
        have HS5:=Aside0.mk (HS4.out.below hb3)
        have HV3:=Aside0.mk (Kd.R_lower hv38 HS4.out.hb.size)
        clear hb3 hv38 hi38 HS4 hl38
        go_loopw [15,74] (fun _ v74 wr => ∃ q : Nat,q≤ws.length∧v74=.int .i64 q∧Aside0 (EarlyS w wr g1 g3 #[.int .i64 a0_0,.int .i64 a0_1,.slice (some ad) n c0_2] (setL L (ws.take q) m0) (.slice (some ⟨gr,0,none⟩) n cr) (List.replicate (n - (p + 1)) 0 ++ m0 :: done.reverse))∧Aside0 (Kd.R (Kd.int .i64) 3 wr w.heap.size (fun _ => True) (.slice A38 ws.length c38) ws)) (fun _ i _ => ws.length - (intOf i).toNat)
        case atStart => exact ⟨0,Nat.zero_le _,rfl,HS5,HV3⟩
        case round =>
         clear HS5 HV3
         obtain ⟨q,hq,rfl,HS5,HV3⟩:=hrel
         by_cases hqt : q < ws.length
         ·obtain ⟨ad2,e38,hcell0⟩:=(Kd.reads_of_C (enc:=Value.int .i64) (d:=(0 : Int)) (h1:=fun _ => rfl) (Kd.R_reads' HV3.out).2.2).2.2 (by omega)
          cases e38
          have hcell:=hcell0 q hqt
          rw [show ws.getD q 0=rd ws q by simp [rd]] at hcell
          have hx : 0≤rd ws q∧rd ws q < 128:=by
           have:=List.all_eq_true.1 HWO.out (ws[q]'hqt) (List.getElem_mem _)
           simp only [Bool.and_eq_true,decide_eq_true_eq] at this
           simpa [rd,List.getD_eq_getElem?_getD,List.getElem?_eq_getElem hqt] using this
          have hs:=setL_snoc L (ws.take q) (rd ws q) m0
          rw [← take_snoc_rd ws q hqt] at hs
          generalize rd ws q=x at hcell hx hs
          obtain ⟨hx0,hx1⟩:=hx
          have harr : wr.cell? ⟨g3,x.toNat,none⟩=some (.int .i64 (rd (setL L (ws.take q) m0) x)):=by
           rw [blk_cell HS5.out.b3]
           simp [rd,List.getD_eq_getElem?_getD,List.getElem?_eq_getElem (show x.toNat < (setL L (ws.take q) m0).length by rw [setL_len,HL.out];omega)]
          have hfr : wr.frozen? ⟨g3,x.toNat,none⟩=false:=blk_frozen HS5.out.b3 _
          have HSN:=Aside0.mk hs
          clear hcell0 hs
          go_wp2
          go_roundw
          case rel => exact ⟨q + 1,by omega,by go_num,⟨by rw [HSN.out];exact HS5.out.put x.toNat m0⟩,⟨Kd.R_set HV3.out HS5.out.b3 (by decide) _ _⟩⟩
          case measure => simp [intOf];omega
         ·obtain rfl : q=ws.length:=by omega
          rw [List.take_length] at *
          go_wp2
          go_roundw
          case rel => exact ⟨p + 1,_,done ++ [m0],rest',by omega,by congr 1;omega,HRE,⟨by rw [List.append_assoc];exact HO.out⟩,⟨by rw [setL_len];exact HL.out⟩,⟨by rw [List.length_append,HJ.out];rfl⟩,⟨by rw [List.reverse_append];exact HS5.out⟩⟩
          case measure => simp [intOf];omega
       ·have h4b : (o.f0 != 4)=true:=by simpa using h4
        rw [if_neg h4] at HRE
        clear h4
        go_upto_region 23 with (fail)
        clear h4b
        generalize wrap64 (m0 - 1)=m' at HRE ⊢
        go_wp2_with (go_at_call 62;(with_reducible refine (layers_wires.calls o.f0 o.f1 _ _ o.f2 o.f3 o.f4 o.f5 ws _ (Kd.C_below HI2.out HS4.out.hb) HL2.out HW.out).mono ?_);clear f0c f1c f2c f3c f4c f5c;rintro e W3 ⟨v38,rfl,hv38,hb3⟩;obtain ⟨A38,c38,rfl,hl38,hi38⟩:=Kd.R_reads hv38)
        have HS5:=Aside0.mk (HS4.out.below hb3)
        have HV3:=Aside0.mk (Kd.R_lower hv38 HS4.out.hb.size)
        clear hb3 hv38 hi38 HS4 hl38
        go_loopw [15,74] (fun _ v74 wr => ∃ q : Nat,q≤ws.length∧v74=.int .i64 q∧Aside0 (EarlyS w wr g1 g3 #[.int .i64 a0_0,.int .i64 a0_1,.slice (some ad) n c0_2] (setL L (ws.take q) m') (.slice (some ⟨gr,0,none⟩) n cr) (List.replicate (n - (p + 1)) 0 ++ m0 :: done.reverse))∧Aside0 (Kd.R (Kd.int .i64) 3 wr w.heap.size (fun _ => True) (.slice A38 ws.length c38) ws)) (fun _ i _ => ws.length - (intOf i).toNat)
        case atStart => exact ⟨0,Nat.zero_le _,rfl,HS5,HV3⟩
        case round =>
         clear HS5 HV3
         obtain ⟨q,hq,rfl,HS5,HV3⟩:=hrel
         by_cases hqt : q < ws.length
         ·obtain ⟨ad2,e38,hcell0⟩:=(Kd.reads_of_C (enc:=Value.int .i64) (d:=(0 : Int)) (h1:=fun _ => rfl) (Kd.R_reads' HV3.out).2.2).2.2 (by omega)
          cases e38
          have hcell:=hcell0 q hqt
          rw [show ws.getD q 0=rd ws q by simp [rd]] at hcell
          have hx : 0≤rd ws q∧rd ws q < 128:=by
           have:=List.all_eq_true.1 HWO.out (ws[q]'hqt) (List.getElem_mem _)
           simp only [Bool.and_eq_true,decide_eq_true_eq] at this
           simpa [rd,List.getD_eq_getElem?_getD,List.getElem?_eq_getElem hqt] using this
          have hs:=setL_snoc L (ws.take q) (rd ws q) m'
          rw [← take_snoc_rd ws q hqt] at hs
          generalize rd ws q=x at hcell hx hs
          obtain ⟨hx0,hx1⟩:=hx
          have harr : wr.cell? ⟨g3,x.toNat,none⟩=some (.int .i64 (rd (setL L (ws.take q) m') x)):=by
           rw [blk_cell HS5.out.b3]
           simp [rd,List.getD_eq_getElem?_getD,List.getElem?_eq_getElem (show x.toNat < (setL L (ws.take q) m').length by rw [setL_len,HL.out];omega)]
          have hfr : wr.frozen? ⟨g3,x.toNat,none⟩=false:=blk_frozen HS5.out.b3 _
          have HSN:=Aside0.mk hs
          clear hcell0 hs
          go_wp2
          go_roundw
          case rel => exact ⟨q + 1,by omega,by go_num,⟨by rw [HSN.out];exact HS5.out.put x.toNat m'⟩,⟨Kd.R_set HV3.out HS5.out.b3 (by decide) _ _⟩⟩
          case measure => simp [intOf];omega
         ·obtain rfl : q=ws.length:=by omega
          rw [List.take_length] at *
          go_wp2
          go_roundw
          case rel => exact ⟨p + 1,_,done ++ [m0],rest',by omega,by congr 1;omega,HRE,⟨by rw [List.append_assoc];exact HO.out⟩,⟨by rw [setL_len];exact HL.out⟩,⟨by rw [List.length_append,HJ.out];rfl⟩,⟨by rw [List.reverse_append];exact HS5.out⟩⟩
          case measure => simp [intOf];omega
    ·obtain rfl : p=n:=by omega
     have hr : done=res:=by
      have h2:=H.out
      rw [List.drop_eq_nil_of_le (by simp [HN.out])] at h2
      simp only [late_go] at h2
      obtain rfl:=Option.some.inj h2
      rw [← HO.out,List.append_nil]
     subst hr
     simp only [Nat.sub_self,List.replicate_zero,List.nil_append] at HS
     have hi0 : decide ((p : Int)≤(p : Int) - 1)=false:=by simp;omega
     go_wp2
     go_ret2
     exact ⟨_,rfl,HS.out.ho,HS.out.hb⟩
end Go.Proofs.Ytbelnopbggkdfaa.Q
end

section
namespace Go.Proofs.Ytbelnopbggkdfaa.Q
open Go.RowKit Go.Proofs.YtbelnopbggkdfaaW.PrintWords Go.Proofs.YtbelnopbggkdfaaW.PrintLast Go.Proofs.YtbelnopbggkdfaaW.PrintMore
def inc (o : Opn) : Int:=if o.f0=4 then 0 else 1
theorem inc_01 (o : Opn) : 0≤inc o∧inc o≤1:=by unfold inc;split <;> omega
def at_ (l : List Opn) (k : Nat) : Opn:=l.getD k z46
def nth (E : List Int) (k : Nat) : Int:=E.getD k 0
theorem at_get {l : List Opn} {k : Nat} (h : k < l.length) : at_ l k=l[k]:=by simp [at_,List.getD_eq_getElem?_getD,List.getElem?_eq_getElem h]
theorem nth_get {l : List Int} {k : Nat} (h : k < l.length) : nth l k=l[k]:=by simp [nth,List.getD_eq_getElem?_getD,List.getElem?_eq_getElem h]
theorem rd_nth (l : List Int) (k : Nat) : rd l (k : Int)=nth l k:=by simp [rd,nth]
theorem at_app1 {l m : List Opn} {k : Nat} (h : k < l.length) : at_ (l ++ m) k=at_ l k:=by
  simp [at_,List.getD_eq_getElem?_getD,List.getElem?_append_left h]
theorem nth_app1 {l m : List Int} {k : Nat} (h : k < l.length) : nth (l ++ m) k=nth l k:=by
  simp [nth,List.getD_eq_getElem?_getD,List.getElem?_append_left h]
theorem at_mid (l m : List Opn) (o : Opn) : at_ (l ++ o :: m) l.length=o:=by
  simp [at_,List.getD_eq_getElem?_getD]
theorem nth_mid (l m : List Int) (o : Int) : nth (l ++ o :: m) l.length=o:=by
  simp [nth,List.getD_eq_getElem?_getD]
def Lub (P : Int→Prop) (m : Int) : Prop:=(∀ x,P x→x≤m)∧0≤m∧(m=0∨P m)
theorem Lub.uniq {P : Int→Prop} {m m' : Int} (h : Lub P m) (h' : Lub P m') : m=m':=by
  obtain ⟨a,b,c⟩:=h
  obtain ⟨a',b',c'⟩:=h'
  rcases c with rfl|c
  · rcases c' with rfl|c'
    · rfl
    · have:=a _ c';omega
  · have:=a' _ c
    rcases c' with rfl|c'
    · omega
    · have:=a _ c';omega
theorem Lub.congr {P Q : Int→Prop} {m : Int} (h : Lub P m) (e : ∀ x,P x↔Q x) : Lub Q m :=
  ⟨fun x hx => h.1 x ((e x).2 hx),h.2.1,h.2.2.elim .inl fun c => .inr ((e m).1 c)⟩
theorem Lub.or {P Q : Int→Prop} {m m' : Int} (h : Lub P m) (h' : Lub Q m') : Lub (fun x => P x∨Q x) (mx m m'):=by
  obtain ⟨a,b,c⟩:=h
  obtain ⟨a',b',c'⟩:=h'
  unfold mx
  split
  · refine ⟨fun x hx => ?_,b',c'.elim .inl fun c => .inr (.inr c)⟩
    rcases hx with hx|hx
    · have:=a x hx;omega
    · exact a' x hx
  · refine ⟨fun x hx => ?_,b,c.elim .inl fun c => .inr (.inl c)⟩
    rcases hx with hx|hx
    · exact a x hx
    · have:=a' x hx;omega
theorem Lub.none {P : Int→Prop} (h : ∀ x,¬ P x) : Lub P 0:=⟨fun x hx => absurd hx (h x),Int.le_refl _,.inl rfl⟩
def EarlyP (n : Nat) (L : Nat→Opn) (E : Nat→Int) : Prop:=∀ i,i < n→Lub (fun x => ∃ k,k < i∧tch (L i) (L k)=true∧x=E k) (E i - inc (L i))
theorem EarlyP.uniq {n : Nat} {L : Nat→Opn} {E E' : Nat→Int} (h : EarlyP n L E) (h' : EarlyP n L E') : ∀ i,i < n→E i=E' i:=by
  intro i
  induction i using Nat.strongRecOn with
  | _ i ih =>
    intro hi
    have h1:=h i hi
    have h2 : Lub (fun x => ∃ k,k < i∧tch (L i) (L k)=true∧x=E k) (E' i - inc (L i)):=(h' i hi).congr fun x => by
      constructor
      · rintro ⟨k,hk,ht,rfl⟩;exact ⟨k,hk,ht,(ih k hk (by omega)).symm⟩
      · rintro ⟨k,hk,ht,rfl⟩;exact ⟨k,hk,ht,ih k hk (by omega)⟩
    have:=h1.uniq h2
    omega
theorem maxL_lub {LW : List Int} {Pw : Int→Int→Prop} : ∀ (ws : List Int) (m : Int) (Q0 : Int→Prop),(∀ w ∈ ws,Lub (Pw w) (rd LW w))→Lub Q0 m→Lub (fun x => Q0 x∨∃ w,w ∈ ws∧Pw w x) (maxL LW ws m)
  | [],m,Q0,_,h => h.congr fun x => by simp
  | w :: ws,m,Q0,hw,h => by
    have h1:=Lub.or h (hw w (by simp))
    have h2:=maxL_lub ws _ _ (fun w hw' => hw w (by simp [hw'])) h1
    show Lub _ (maxL LW ws (mx m (rd LW w)))
    exact h2.congr fun x => by
      constructor
      · rintro ((a|a) | ⟨w',a,b⟩)
        · exact .inl a
        · exact .inr ⟨w,by simp,a⟩
        · exact .inr ⟨w',by simp [a],b⟩
      · rintro (a | ⟨w',a,b⟩)
        · exact .inl (.inl a)
        · rcases List.mem_cons.1 a with rfl|a
          · exact .inl (.inr b)
          · exact .inr ⟨w',a,b⟩
theorem rd_set {L : List Int} {x w m : Int} (hx0 : 0≤x) (hx1 : x.toNat < L.length) (hw : 0≤w) : rd (L.set x.toNat m) w=if w=x then m else rd L w:=by
  unfold rd
  rw [List.getD_eq_getElem?_getD,List.getD_eq_getElem?_getD,List.getElem?_set]
  by_cases e : w=x
  · subst e
    rw [if_pos rfl,if_pos rfl,if_pos hx1]
    rfl
  · rw [if_neg e,if_neg (by omega)]
theorem setL_lenB (m : Int) : ∀ (ws LW : List Int),(setL LW ws m).length=LW.length
  | [],LW => rfl
  | w :: ws,LW => by show (setL (LW.set w.toNat m) ws m).length=_;rw [setL_lenB m ws];simp
theorem rd_setL (m : Int) : ∀ (ws LW : List Int),LW.length=128→(∀ w ∈ ws,0≤w∧w < 128)→∀ w,0≤w→rd (setL LW ws m) w=if w ∈ ws then m else rd LW w
  | [],LW,_,_,w,_ => by simp [setL]
  | x :: ws,LW,hl,hws,w,hw => by
    show rd (setL (LW.set x.toNat m) ws m) w=_
    have hx:=hws x (by simp)
    rw [rd_setL m ws _ (by simp [hl]) (fun y hy => hws y (by simp [hy])) w hw,rd_set hx.1 (by omega) hw]
    by_cases h1 : w ∈ ws
    · simp [h1]
    · by_cases h2 : w=x
      · simp [h2]
      · simp [h1,h2]
def WireI (pre : List Opn) (done LW : List Int) : Prop:=∀ w : Int,0≤w→w < 128→Lub (fun x => ∃ k,k < pre.length∧w ∈ wsF 64 (at_ pre k)∧x=nth done k) (rd LW w)
theorem early_go_is {q b : Int} (hq : q≤64) (hb : b≤64) : ∀ (os pre : List Opn) (done LW : List Int),(∀ o ∈ os,OpF q b o)→done.length=pre.length→LW.length=128→pre.length + os.length≤100000→(∀ x ∈ done,0≤x∧x≤pre.length)→WireI pre done LW →
    EarlyP pre.length (at_ pre) (nth done)→∃ r,early_go os LW=some r∧r.length=os.length∧(∀ x ∈ r,0≤x∧x≤pre.length + os.length)∧EarlyP (pre.length + os.length) (at_ (pre ++ os)) (nth (done ++ r))
  | [],pre,done,LW,_,_,_,_,_,_,hE => ⟨[],rfl,rfl,by simp,by simpa using hE⟩
  | o :: os,pre,done,LW,ho,hd,hl,hn,hdn,hI,hE => by
    have oo:=ho o (by simp)
    simp only [List.length_cons] at hn
    have hr : ∀ w ∈ wsF 64 o,0≤w∧w < 128:=fun w hw => ws_range oo hq hb hw
    have hM0:=maxL_lub (LW:=LW) (Pw:=fun w x => ∃ k,k < pre.length∧w ∈ wsF 64 (at_ pre k)∧x=nth done k) (wsF 64 o) 0 (fun _ => False) (fun w hw => hI w (hr w hw).1 (hr w hw).2) (Lub.none fun _ h => h)
    have hM : Lub (fun x => ∃ k,k < pre.length∧tch o (at_ pre k)=true∧x=nth done k) (maxL LW (wsF 64 o) 0):=hM0.congr fun x => by
      constructor
      · rintro (h | ⟨w,hw,k,hk,hwk,rfl⟩)
        · exact h.elim
        · exact ⟨k,hk,tch_iff.2 ⟨w,hw,hwk⟩,rfl⟩
      · rintro ⟨k,hk,ht,rfl⟩
        obtain ⟨w,hw,hwk⟩:=tch_iff.1 ht
        exact .inr ⟨w,hw,k,hk,hwk,rfl⟩
    have hm0:=hM.2.1
    have hm1 : maxL LW (wsF 64 o) 0≤pre.length:=by
      rcases hM.2.2 with e | ⟨k,hk,_,e⟩
      · omega
      · rw [e,nth_get (by omega)];exact (hdn _ (List.getElem_mem _)).2
    have hv : (if o.f0=4 then maxL LW (wsF 64 o) 0 else wrap64 (maxL LW (wsF 64 o) 0 + 1))=maxL LW (wsF 64 o) 0 + inc o:=by
      unfold inc
      split
      · omega
      · rw [w64 (by omega) (by omega)]
    have hi:=inc_01 o
    obtain ⟨v,hvv⟩ : ∃ v,v=maxL LW (wsF 64 o) 0 + inc o:=⟨_,rfl⟩
    have hlast : ∀ k,k < pre.length→at_ (pre ++ [o]) k=at_ pre k∧nth (done ++ [v]) k=nth done k:=fun k hk => ⟨at_app1 hk,nth_app1 (by omega)⟩
    have ho1 : at_ (pre ++ [o]) pre.length=o:=at_mid pre [] o
    have hv1 : nth (done ++ [v]) pre.length=v:=by rw [← hd];exact nth_mid done [] v
    have hI2 : WireI (pre ++ [o]) (done ++ [v]) (setL LW (wsF 64 o) v):=fun w h0 h1 => by
      rw [rd_setL v _ _ hl hr w h0]
      have hw0:=hI w h0 h1
      by_cases hw : w ∈ wsF 64 o
      · rw [if_pos hw]
        refine ⟨?_,by omega,.inr ⟨pre.length,by simp,by rw [ho1];exact hw,hv1.symm⟩⟩
        rintro x ⟨k,hk,hwk,rfl⟩
        simp only [List.length_append,List.length_cons,List.length_nil] at hk
        by_cases hk2 : k < pre.length
        · rw [(hlast k hk2).2]
          rw [(hlast k hk2).1] at hwk
          have:=hM.1 _ ⟨k,hk2,tch_iff.2 ⟨w,hw,hwk⟩,rfl⟩
          omega
        · obtain rfl : k=pre.length:=by omega
          rw [hv1];omega
      · rw [if_neg hw]
        refine hw0.congr fun x => ?_
        constructor
        · rintro ⟨k,hk,hwk,rfl⟩
          exact ⟨k,by simp;omega,by rw [(hlast k hk).1];exact hwk,(hlast k hk).2.symm⟩
        · rintro ⟨k,hk,hwk,rfl⟩
          simp only [List.length_append,List.length_cons,List.length_nil] at hk
          by_cases hk2 : k < pre.length
          · rw [(hlast k hk2).1] at hwk
            exact ⟨k,hk2,hwk,(hlast k hk2).2⟩
          · obtain rfl : k=pre.length:=by omega
            rw [ho1] at hwk
            exact absurd hwk hw
    have hE2 : EarlyP (pre ++ [o]).length (at_ (pre ++ [o])) (nth (done ++ [v])):=fun i hi2 => by
      simp only [List.length_append,List.length_cons,List.length_nil] at hi2
      by_cases hk2 : i < pre.length
      · rw [(hlast i hk2).1,(hlast i hk2).2]
        refine (hE i hk2).congr fun x => ?_
        constructor
        · rintro ⟨k,hk,ht,rfl⟩
          exact ⟨k,hk,by rw [(hlast k (by omega)).1];exact ht,(hlast k (by omega)).2.symm⟩
        · rintro ⟨k,hk,ht,rfl⟩
          rw [(hlast k (by omega)).1] at ht
          exact ⟨k,hk,ht,(hlast k (by omega)).2⟩
      · obtain rfl : i=pre.length:=by omega
        rw [ho1,hv1,show v - inc o=maxL LW (wsF 64 o) 0 by omega]
        refine hM.congr fun x => ?_
        constructor
        · rintro ⟨k,hk,ht,rfl⟩
          exact ⟨k,hk,by rw [(hlast k (by omega)).1];exact ht,(hlast k (by omega)).2.symm⟩
        · rintro ⟨k,hk,ht,rfl⟩
          rw [(hlast k (by omega)).1] at ht
          exact ⟨k,hk,ht,(hlast k (by omega)).2⟩
    obtain ⟨r,hr1,hr2,hr3,hr4⟩:=early_go_is hq hb os (pre ++ [o]) (done ++ [v]) (setL LW (wsF 64 o) v) (fun p hp => ho p (by simp [hp])) (by simp [hd]) (by rw [setL_lenB];exact hl) (by simp;omega) (fun x hx => by
      rcases List.mem_append.1 hx with h|h
      · have:=hdn x h;simp;omega
      · obtain rfl:=List.mem_singleton.1 h;simp;omega) hI2 hE2
    refine ⟨v :: r,?_,by simp [hr2],fun x hx => ?_,?_⟩
    · unfold early_go
      rw [wires64 oo hb]
      simp only [Option.bind_some]
      rw [if_pos (wires_ok oo hq hb),hv,← hvv,hr1]
      rfl
    · rcases List.mem_cons.1 hx with rfl|h
      · simp only [List.length_cons];omega
      · have:=hr3 x h
        simp only [List.length_append,List.length_cons,List.length_nil] at this ⊢
        omega
    · have e1 : pre ++ [o] ++ os=pre ++ o :: os:=by simp
      have e2 : done ++ [v] ++ r=done ++ v :: r:=by simp
      have e3 : (pre ++ [o]).length + os.length=pre.length + (o :: os).length:=by simp;omega
      rw [e1,e2,e3] at hr4
      exact hr4
theorem early_is {q b : Int} {l : List Opn} (h : CircF q b l) : ∃ r,early_go l (List.replicate 128 0)=some r∧r.length=l.length∧(∀ x ∈ r,0≤x∧x≤l.length)∧EarlyP l.length (at_ l) (nth r):=by
  have hn:=h.n
  obtain ⟨r,h1,h2,h3,h4⟩:=early_go_is h.q1 h.b1 l [] [] (List.replicate 128 0) h.op rfl (by simp) (by simp;omega) (by simp) (fun w _ h1 => by
    have : rd (List.replicate 128 0) w=0:=by
      unfold rd
      rw [List.getD_eq_getElem?_getD,List.getElem?_replicate,if_pos (by omega)]
      rfl
    rw [this]
    exact Lub.none fun x => by rintro ⟨k,hk,_⟩;simp at hk) (fun i hi => by simp at hi)
  exact ⟨r,h1,h2,by simpa using h3,by simpa using h4⟩
end Go.Proofs.Ytbelnopbggkdfaa.Q
end

section
namespace Go.Proofs.Ytbelnopbggkdfaa
open Go.RowKit Go.Proofs.YtbelnopbggkdfaaW.PrintWords
structure SortEnv (St : World→List Int→Prop) (gd n : Nat) (f : Nat) (cap : Array Value) (V : Int→Prop) (key : Int→Int) : Prop where
  len : ∀ {W d},St W d→d.length=n
  n64 : (n : Int)≤1152921504606846976
  eg : ∀ args w,(callFunc f args).run Try.prog w=.ok (.enter f args) w
  rd : ∀ {W d},St W d→∀ i : Nat,i < n→W.cell? ⟨gd,i,none⟩=some (.int .i64 (rd d i))∧W.frozen? ⟨gd,i,none⟩=false
  wr : ∀ {W d},St W d→∀ (i : Nat) (x : Int),i < n→St (W.setCell ⟨gd,i,none⟩ (.int .i64 x)) (d.set i x)
  dr : ∀ {W d},St W d→∀ m,St (W.drewN m) d
  cmp : ∀ {W d},St W d→∀ x y,V x→V y→Calls Try.prog f (#[.int .i64 x,.int .i64 y] ++ cap) W fun e w' => e=.returned (.int .i64 (key x - key y))∧∃ m,w'=W.drewN m
theorem rd_set (d : List Int) (i j : Nat) (x : Int) (hi : i < d.length) : rd (d.set i x) (j : Int)=if j=i then x else rd d (j : Int):=by
  simp only [rd,Int.toNat_natCast,List.getD_eq_getElem?_getD,List.getElem?_set]
  by_cases h : i=j
  · subst h;simp [hi]
  · rw [if_neg h,if_neg (Ne.symm h)]
def swapL (d : List Int) (i j : Nat) : List Int:=(d.set i (rd d (j : Int))).set j (rd d (i : Int))
theorem swapL_rd (d : List Int) (i j k : Nat) (hi : i < d.length) (hj : j < d.length) : rd (swapL d i j) (k : Int)=if k=j then rd d (i : Int) else if k=i then rd d (j : Int) else rd d (k : Int):=by
  unfold swapL
  rw [rd_set _ _ _ _ (by simpa using hj),rd_set _ _ _ _ hi]
theorem swapL_perm (d : List Int) (i j : Nat) (hi : i < d.length) (hj : j < d.length) : List.Perm (swapL d i j) d:=by
  unfold swapL
  have hi' : rd d (i : Int)=d[i]:=by simp [rd,List.getD_eq_getElem?_getD,List.getElem?_eq_getElem hi]
  have hj' : rd d (j : Int)=d[j]:=by simp [rd,List.getD_eq_getElem?_getD,List.getElem?_eq_getElem hj]
  rw [hi',hj']
  exact List.set_set_perm hi hj
def ltK (key : Int→Int) (x y : Int) : Prop:=key x < key y∨key x=key y∧x < y
theorem ltK_trans {key : Int→Int} {x y z : Int} (h1 : ltK key x y) (h2 : ltK key y z) : ltK key x z:=by
  unfold ltK at *;omega
end Go.Proofs.Ytbelnopbggkdfaa
end

section
namespace Go.Proofs.Ytbelnopbggkdfaa
open Go.RowKit Go.Proofs.YtbelnopbggkdfaaW.PrintWords
variable {St : World→List Int→Prop} {gd n f : Nat} {cap : Array Value} {V : Int→Prop} {key : Int→Int}
structure InsI (key : Int→Int) (n a i : Nat) (d dk : List Int) : Prop where
  perm : dk.Perm d
  out : ∀ k : Nat,k < a∨i≤k→rd dk k=rd d k
  mem : ∀ p : Nat,a≤p→p < i→∃ q : Nat,a≤q∧q < i∧rd dk p=rd d q
  srt : ∀ p q : Nat,a≤p→p < q→q < i→ltK key (rd dk p) (rd dk q)
structure InsJ (key : Int→Int) (n a i j : Nat) (dk dj : List Int) : Prop where
  perm : dj.Perm dk
  at' : rd dj j=rd dk i
  low : ∀ k : Nat,k < j∨i < k→rd dj k=rd dk k
  up : ∀ p : Nat,j < p→p≤i→rd dj p=rd dk ((p - 1 : Nat) : Int)
  gt : ∀ p : Nat,j≤p→p < i→ltK key (rd dk i) (rd dk p)
theorem InsI.start (a : Nat) (d : List Int) (n : Nat) : InsI key n a (a + 1) d d :=
  ⟨List.Perm.refl _,fun _ _ => rfl,fun p h1 h2 => ⟨p,h1,h2,rfl⟩,fun p q h1 h2 h3 => by omega⟩
theorem InsJ.start (a i : Nat) (dk : List Int) (n : Nat) : InsJ key n a i i dk dk :=
  ⟨List.Perm.refl _,rfl,fun _ _ => rfl,fun p h1 h2 => by omega,fun p h1 h2 => by omega⟩
theorem InsJ.step {a i j n : Nat} {dk dj : List Int} (h : InsJ key n a i (j + 1) dk dj) (hl : dj.length=n) (hi : i < n) (hj : j + 1≤i)
    (hc : key (rd dj ((j + 1 : Nat) : Int)) < key (rd dj (j : Int))) : InsJ key n a i j dk (swapL dj (j + 1) j):=by
  have e:=swapL_rd dj (j + 1) j
  have hjd : rd dj (j : Int)=rd dk (j : Int):=h.low j (.inl (by omega))
  refine ⟨(swapL_perm dj (j + 1) j (by omega) (by omega)).trans h.perm,?_,fun k hk => ?_,fun p h1 h2 => ?_,fun p h1 h2 => ?_⟩
  · rw [e j (by omega) (by omega),if_pos rfl,h.at']
  · rw [e k (by omega) (by omega),if_neg (by omega),if_neg (by omega)]
    exact h.low k (by omega)
  · rw [e p (by omega) (by omega),if_neg (by omega)]
    by_cases hp : p=j + 1
    · subst hp
      rw [if_pos rfl]
      exact hjd
    · rw [if_neg hp]
      exact h.up p (by omega) h2
  · by_cases hp : p=j
    · subst hp
      rw [← h.at',← hjd]
      exact .inl hc
    · exact h.gt p (by omega) h2
theorem InsJ.done {a i j n : Nat} {d dk dj : List Int} (H : InsI key n a i d dk) (h : InsJ key n a i j dk dj) (ha : a≤j) (hj : j≤i) (hai : a < i) (hi : i < n)
    (hasc : ∀ p q : Nat,a≤p→p < q→q < n→rd d p < rd d q)
    (hs : j=a∨(a < j∧key (rd dj ((j - 1 : Nat) : Int))≤key (rd dj (j : Int)))) : InsI key n a (i + 1) d dj:=by
  have hx : rd dk (i : Int)=rd d (i : Int):=H.out i (.inr (Nat.le_refl _))
  -- all that stands below j is below x
  have low : ∀ p : Nat,a≤p→p < j→ltK key (rd dj (p : Int)) (rd dk (i : Int)):=by
    intro p h1 h2
    rcases hs with hs | ⟨hs1,hs2⟩
    · omega
    · have last : ltK key (rd dj ((j - 1 : Nat) : Int)) (rd dk (i : Int)):=by
        rw [← h.at']
        rcases Int.lt_or_eq_of_le hs2 with hs3|hs3
        · exact .inl hs3
        · refine .inr ⟨hs3,?_⟩
          rw [h.at',hx,h.low (j - 1) (.inl (by omega))]
          obtain ⟨q,q1,q2,q3⟩:=H.mem (j - 1) (by omega) (by omega)
          rw [q3]
          exact hasc q i q1 (by omega) hi
      by_cases hp : p=j - 1
      · rw [hp];exact last
      · refine ltK_trans ?_ last
        rw [h.low p (.inl h2),h.low (j - 1) (.inl (by omega))]
        exact H.srt p (j - 1) h1 (by omega) (by omega)
  refine ⟨h.perm.trans H.perm,fun k hk => ?_,fun p h1 h2 => ?_,fun p q h1 h2 h3 => ?_⟩
  · rw [h.low k (by omega)]
    exact H.out k (by omega)
  · rcases Nat.lt_trichotomy p j with c|c|c
    · rw [h.low p (.inl c)]
      obtain ⟨q,q1,q2,q3⟩:=H.mem p h1 (by omega)
      exact ⟨q,q1,by omega,q3⟩
    · subst c
      exact ⟨i,by omega,by omega,by rw [h.at',hx]⟩
    · rw [h.up p c (by omega)]
      obtain ⟨q,q1,q2,q3⟩:=H.mem (p - 1) (by omega) (by omega)
      exact ⟨q,q1,by omega,q3⟩
  · rcases Nat.lt_trichotomy q j with c|c|c
    · rw [h.low p (.inl (by omega)),h.low q (.inl c)]
      exact H.srt p q h1 h2 (by omega)
    · subst c
      rw [h.at']
      exact low p h1 h2
    · rw [h.up q c (by omega)]
      have g:=h.gt (q - 1) (by omega) (by omega)
      rcases Nat.lt_trichotomy p j with c2|c2|c2
      · exact ltK_trans (low p h1 c2) g
      · subst c2
        rw [h.at']
        exact g
      · rw [h.up p c2 (by omega)]
        exact H.srt (p - 1) (q - 1) (by omega) (by omega) (by omega)
set_option maxHeartbeats 4000000 in
set_option maxRecDepth 1000000 in
theorem ins_any (E : SortEnv St gd n f cap V key) {W : World} {d : List Int} (hS : St W d) (c a b : Nat) (hab : a≤b) (hb : b≤n) (hV : ∀ i : Nat,i < n→V (rd d i))
    (hasc : ∀ p q : Nat,a≤p→p < q→q < n→rd d p < rd d q) :
    Calls Try.prog 94 #[.slice (some ⟨gd,0,none⟩) n c,.int .i64 a,.int .i64 b,.func (.func f) #[] cap] W fun e w' =>
      e=.returned (.tuple #[])∧∃ d',St w' d'∧InsI key n a b d d':=by
  have h64:=E.n64
  have eg:=E.eg
  have HE:=Aside0.mk E
  have HV:=Aside0.mk hV
  have HA:=Aside0.mk hasc
  have HS:=Aside0.mk hS
  clear hS hV hasc E
  go_enter Try.func94,Try.ntmps94
  go_wp2
  go_loopg [8] (b - a) (fun g1 vi wr => ∃ (i : Nat) (dk : List Int),vi=.int .i64 i∧a < i∧(i≤b∨i=a + 1)∧b + 1 - i≤g1 + 1∧Aside0 (St wr dk∧InsI key n a i d dk))
  case atStart => exact ⟨a + 1,d,by go_num,by omega,by omega,by omega,⟨HS.out,InsI.start _ _ _⟩⟩
  case round =>
    obtain ⟨i,dk,rfl,hai,hib,hg1,HI⟩:=hrel
    by_cases hlt : i < b
    · have hltz : (i : Int) < (b : Int):=by omega
      go_wp2
      go_loopg [9] i (fun g2 vj wr2 => ∃ (j : Nat) (dj : List Int),vj=.int .i64 j∧a≤j∧j≤i∧j≤g2∧Aside0 (St wr2 dj∧InsJ key n a i j dk dj))
      case atStart => exact ⟨i,dk,rfl,by omega,Nat.le_refl _,Nat.le_refl _,⟨HI.out.1,InsJ.start _ _ _ _⟩⟩
      case round =>
        obtain ⟨j,dj,rfl,haj,hji,hg2,HJ⟩:=hrel
        by_cases hja : a < j
        · have E:=HE.out
          have hS2:=HJ.out.1
          have hl:=E.len hS2
          have hV2 : ∀ i : Nat,i < n→V (rd dj i):=by
            intro k hk
            by_cases h1 : k=j
            · rw [h1,HJ.out.2.at',HI.out.2.out i (.inr (Nat.le_refl _))];exact HV.out i (by omega)
            · by_cases h2 : k < j∨i < k
              · rw [HJ.out.2.low k h2]
                by_cases h3 : k < a∨i≤k
                · rw [HI.out.2.out k h3];exact HV.out k hk
                · obtain ⟨q,q1,q2,q3⟩:=HI.out.2.mem k (by omega) (by omega)
                  rw [q3];exact HV.out q (by omega)
              · rw [HJ.out.2.up k (by omega) (by omega)]
                obtain ⟨q,q1,q2,q3⟩:=HI.out.2.mem (k - 1) (by omega) (by omega)
                rw [q3];exact HV.out q (by omega)
          obtain ⟨jp,rfl⟩ : ∃ jp,j=jp + 1:=⟨j - 1,by omega⟩
          obtain ⟨cj,fj⟩:=E.rd hS2 (jp + 1) (by omega)
          obtain ⟨cp,fp⟩:=E.rd hS2 jp (by omega)
          have hc:=fun m => E.cmp (E.dr hS2 m) _ _ (hV2 (jp + 1) (by omega)) (hV2 jp (by omega))
          have HSTEP:=Aside0.mk (show key (rd dj ((jp + 1 : Nat) : Int)) < key (rd dj (jp : Int))→InsJ key n a i jp dk (swapL dj (jp + 1) jp) from fun h => HJ.out.2.step hl (by omega) (by omega) h)
          have HOUT:=Aside0.mk (show key (rd dj (jp : Int))≤key (rd dj ((jp + 1 : Nat) : Int))→InsI key n a (i + 1) d dj from fun h => HJ.out.2.done HI.out.2 haj hji hai (by omega) HA.out (.inr ⟨hja,h⟩))
          have HSW:=Aside0.mk (show ∀ m,St (((wr.drewN m).setCell ⟨gd,jp + 1,none⟩ (.int .i64 (rd dj (jp : Int)))).setCell ⟨gd,jp,none⟩ (.int .i64 (rd dj ((jp + 1 : Nat) : Int)))) (swapL dj (jp + 1) jp) from fun m => E.wr (E.wr (E.dr hS2 m) (jp + 1) _ (by omega)) jp _ (by omega))
          have HS2:=Aside0.mk hS2
          have hjaz : (a : Int) < (jp : Int) + 1:=by omega
          have hwp : IntKind.i64.wrap (jp : Int)=(jp : Int):=by rw [IntKind.wrap_i64];omega
          have jz : (jp : Int) + 1 < (n : Int):=by omega
          have jz1 : (jp : Int) < (n : Int):=by omega
          have p0 : (0 : Int)≤(jp : Int) + 1:=by omega
          have e0 : ((jp : Int) + 1).toNat=jp + 1:=by omega
          clear E hS2 hV2 hl
          generalize rd dj ((jp + 1 : Nat) : Int)=xj at cj hc HSTEP HOUT HSW
          generalize rd dj (jp : Int)=xp at cp hc HSTEP HOUT HSW
          by_cases hlv : key xj - key xp < 0
          · go_wp2_with fail
            go_quiet (first|(go_at_fn f;refine Calls.quiet_of (hc _)))
            go_wp2_with fail
            have cj2 : (wr.drewN nq).cell? ⟨gd,jp + 1,none⟩=some (.int .i64 xj):=cj
            have cp2 : (wr.drewN nq).cell? ⟨gd,jp,none⟩=some (.int .i64 xp):=cp
            have fj2 : (wr.drewN nq).frozen? ⟨gd,jp + 1,none⟩=false:=fj
            have fp2 : (wr.drewN nq).frozen? ⟨gd,jp,none⟩=false:=fp
            have HSW2:=Aside0.mk (HSW.out nq)
            clear cj cp fj fp hc HSW
            generalize wr.drewN nq=wq at HSW2 cj2 cp2 fj2 fp2 ⊢
            obtain ⟨j1,hj1⟩ : ∃ j1,j1=jp + 1:=⟨_,rfl⟩
            rw [← hj1] at cj2 fj2 e0
            have J1:=Aside0.mk hj1
            clear hj1
            go_region
            all_goals go_wp2
            go_roundg jp
            case measure => omega
            case rel => exact ⟨jp,_,by go_num,by omega,by omega,Nat.le_refl _,⟨by rw [J1.out];exact HE.out.dr HSW2.out 1,HSTEP.out (by omega)⟩⟩
          · go_wp2_with fail
            go_quiet (first|(go_at_fn f;refine Calls.quiet_of (hc _)))
            go_wp2
            go_roundg (b - (i + 1))
            case measure => omega
            case rel => exact ⟨i + 1,dj,by go_num,by omega,by omega,by omega,⟨HE.out.dr HS2.out _,HOUT.out (by omega)⟩⟩
        · obtain rfl : j=a:=by omega
          have hjaz : decide ((j : Int) > (j : Int))=false:=decide_eq_false (by omega)
          have HOUT:=Aside0.mk (HJ.out.2.done HI.out.2 haj hji hai (by omega) HA.out (.inl rfl))
          have HS2:=Aside0.mk HJ.out.1
          go_wp2_with fail
          go_region
          all_goals go_wp2
          go_roundg (b - (i + 1))
          case measure => omega
          case rel => exact ⟨i + 1,dj,by go_num,by omega,by omega,by omega,⟨HE.out.dr HS2.out 1,HOUT.out⟩⟩
    · have hltz : ¬ (i : Int) < (b : Int):=by omega
      go_wp2
      go_end0
      refine ⟨rfl,dk,HI.out.1,?_⟩
      have h:=HI.out.2
      refine ⟨h.perm,fun k hk => ?_,fun p h1 h2 => ?_,fun p q h1 h2 h3 => h.srt p q h1 h2 (by omega)⟩
      · by_cases hka : k < a∨i≤k
        · exact h.out k hka
        · obtain ⟨q,q1,q2,q3⟩:=h.mem k (by omega) (by omega)
          rw [q3]
          congr 2
          omega
      · obtain ⟨q,q1,q2,q3⟩:=h.mem p h1 (by omega)
        exact ⟨q,q1,by omega,q3⟩
end Go.Proofs.Ytbelnopbggkdfaa
end
