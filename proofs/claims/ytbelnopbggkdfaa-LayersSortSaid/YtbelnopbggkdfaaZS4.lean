/- A part of the proof: texts of this claim laid together by a program of its own; what the proof does not use is struck. -/
import Derived.Test.YtbelnopbggkdfaaZS3
section
namespace Go.Proofs.Ytbelnopbggkdfaa.Q
open Go.RowKit Go.Proofs.YtbelnopbggkdfaaW.PrintWords Go.Proofs.YtbelnopbggkdfaaW.PrintLast Go.Proofs.YtbelnopbggkdfaaW.PrintMore
attribute [local go_sem] max2_int min2_int max_two min_two max_three min_three max_four min_four   -- for this text's walks alone
set_option linter.unusedVariables false
set_option linter.unusedSimpArgs false
mutual
def phasorlaw19_told.j0 : Nat→List Int→Bool→Option (Bool × List Int)
 | 0,_,_ => none
 | k + 1,x0,x9 => phasorlaw19_told.l0 k x0 x9 0
def phasorlaw19_told.l0 : Nat→List Int→Bool→Int→Option (Bool × List Int)
 | 0,_,_,_ => none
 | k + 1,x0,x9,x10 => if x10 < (x0.length : Int) then (if 0≤x10 then (phasorlaw19_told.l0 k (x0.set (x10 : Int).toNat (-7)) x9 (wrap64 (x10 + 1))) else (none)) else (some (x9,x0))
end
def phasorlaw19_told.f (k : Nat) (l0 : List Int) (a1 : Int) (l2 : List Int) (a3 : Int) : Option (Bool × List Int):=(phasorlaw19_ints.f k l0 l2).bind fun t653 => (if t653=true then (phasorlaw19_told.j0 k l0 (a1 == a3)) else (phasorlaw19_told.j0 k l0 false))
set_option maxHeartbeats 8000000 in
set_option maxRecDepth 100000 in
theorem phasorlaw19_told.calls (k : Nat) (P0_ : Nat→Prop) (u9000_ : Value) (l0 : List Int) (a1 : Int) (A2 : Option Addr) (c2 : Nat) (l2 : List Int) (a3 : Int) (r1 : Bool) (r2 : List Int) (w0 w : World) (hB : Below w0.heap.size w0 w) (ho0 : Kd.R (Kd.int .i64) 3 w w0.heap.size P0_ u9000_ l0) (hr2 : ∀ W_,Kept w W_ (fun k_ => P0_ k_)→Kd.C (Kd.int .i64) W_ A2 l2.length l2) (hc2 : l2.length≤c2) (h : phasorlaw19_told.f k l0 a1 l2 a3=some (r1,r2)) :
  Calls Try.prog 29 #[u9000_,.int .i64 a1,.slice A2 l2.length c2,.int .i64 a3] w fun e w' => e=.returned (.bool r1)∧Kd.R (Kd.int .i64) 3 w' w0.heap.size (fun k_ => (P0_ k_∨w.heap.size≤k_)) u9000_ r2∧Below w0.heap.size w0 w'∧Kept w w' (fun k_ => P0_ k_):=by
 have HO0:=Aside0.mk (show Kd.R (Kd.int .i64) 3 w w0.heap.size (fun k_ => (P0_ k_∨w.heap.size≤k_)) u9000_ l0 from Kd.R_mono ho0 (fun k_ hk => (.inl hk)))
 have HR2:=Aside0.mk hr2
 have HC2:=Aside0.mk hc2
 clear hr2 hc2
 have HK:=Aside0.mk (Kept.refl w (fun k_ => P0_ k_))
 have HW0:=Aside0.mk hB.size
 have HB:=Aside0.mk hB
 clear hB
 have H : ((phasorlaw19_ints.f k l0 l2).bind fun t653 => (if t653=true then (phasorlaw19_told.j0 k l0 (a1 == a3)) else (phasorlaw19_told.j0 k l0 false)))=some (r1,r2):=h
 clear h
 have HC5:=Aside0.mk H
 clear H
 go_enter Try.func29,Try.ntmps29
 go_upto_region 1 with (fail)
 go_cut [9] (fun v9 wc => ∃ (kq : Nat) (x9_4 : Bool),v9=.bool x9_4∧Aside0 (phasorlaw19_told.j0 kq l0 x9_4=some (r1,r2))∧Aside0 (kq≤k)∧Aside0 (Kd.R (Kd.int .i64) 3 wc w0.heap.size (fun k_ => (P0_ k_∨w.heap.size≤k_)) u9000_ l0)∧Aside0 (Kept w wc (fun k_ => P0_ k_))∧Aside0 (Below w0.heap.size w0 wc))
 case first =>
  have H:=HC5.out
  clear HC5
  replace H:=Option.bind_eq_some_iff.mp H
  obtain ⟨t653,A60,H⟩:=H
  replace H : (if t653=true then (phasorlaw19_told.j0 k l0 (a1 == a3)) else (phasorlaw19_told.j0 k l0 false))=some (r1,r2):=H
  have A6:=Aside0.mk A60
  clear A60
  by_cases c7 : t653=true
  ·subst c7
   have H1 : (phasorlaw19_told.j0 k l0 (a1 == a3))=some (r1,r2):=by rw [if_pos rfl] at H;exact H
   clear H
   have H:=H1
   clear H1
   have H':=Aside0.mk H
   clear H
   obtain ⟨Ao8,co8,eo8⟩:=Kd.R_slice HO0.out
   subst eo8
   go_wp2_with (first|((with_reducible refine gate_callee (f:=36) rfl ?_);refine goesL_ (some 13) rfl rfl Try.func36 (by kernel_rfl) rfl #[.slice Ao8 l0.length co8,.slice A2 l2.length c2] rfl (by (try simp only [List.map_toArray,List.map_cons,List.map_nil]);first|done|rfl|(simp only [List.length_drop,List.length_take];rfl)) ?_;(with_reducible refine (phasorlaw19_ints.calls k _ _ l0 _ _ l2 true _ ?side1 ?side2 ?side3 ?side4 A6.out).mono ?_);(case side1 => repeat (first|exact (Kd.R_reads' HO0.out).2.2|(with_reducible refine Kd.C_alloc ?_ _)|(with_reducible refine Kd.C_drewN ?_ _)|(with_reducible refine Kd.C_drew ?_)));(case side2 => exact (Kd.R_reads' HO0.out).2.1);(case side3 => exact Kd.C_kept_now HR2.out (by repeat (first|(with_reducible first|exact HK.out|apply Kept.alloc|apply Kept.drewN|apply Kept.drew)|exact HK.out)));(case side4 => exact HC2.out);rintro e w' ⟨rfl,⟨nd,rfl⟩⟩;refine ⟨_,rfl,?_⟩))
   go_meet
   case rel => exact ⟨_,((a1 == a3)),(by first|rfl|(simp;done)|(simp [*];done)),H',⟨by first|omega|exact Nat.le_refl _⟩,⟨by (with_reducible repeat (first|apply Kd.R_alloc|apply Kd.R_drewN|apply Kd.R_drew));exact HO0.out⟩,⟨by repeat (first|(with_reducible first|exact HK.out|apply Kept.alloc|apply Kept.drewN|apply Kept.drew)|exact HK.out)⟩,⟨by repeat (first|(with_reducible first|exact HB.out|apply below_alloc|apply pw_below_drewN|apply below_drew1)|exact HB.out)⟩⟩
  ·replace c7:=Bool.eq_false_iff.mpr c7
   subst c7
   have H1 : (phasorlaw19_told.j0 k l0 false)=some (r1,r2):=by rw [if_neg (show ¬ (false=true) by decide)] at H;exact H
   clear H
   have H:=H1
   clear H1
   have H':=Aside0.mk H
   clear H
   obtain ⟨Ao9,co9,eo9⟩:=Kd.R_slice HO0.out
   subst eo9
   go_wp2_with (first|((with_reducible refine gate_callee (f:=36) rfl ?_);refine goesL_ (some 13) rfl rfl Try.func36 (by kernel_rfl) rfl #[.slice Ao9 l0.length co9,.slice A2 l2.length c2] rfl (by (try simp only [List.map_toArray,List.map_cons,List.map_nil]);first|done|rfl|(simp only [List.length_drop,List.length_take];rfl)) ?_;(with_reducible refine (phasorlaw19_ints.calls k _ _ l0 _ _ l2 false _ ?side1 ?side2 ?side3 ?side4 A6.out).mono ?_);(case side1 => repeat (first|exact (Kd.R_reads' HO0.out).2.2|(with_reducible refine Kd.C_alloc ?_ _)|(with_reducible refine Kd.C_drewN ?_ _)|(with_reducible refine Kd.C_drew ?_)));(case side2 => exact (Kd.R_reads' HO0.out).2.1);(case side3 => exact Kd.C_kept_now HR2.out (by repeat (first|(with_reducible first|exact HK.out|apply Kept.alloc|apply Kept.drewN|apply Kept.drew)|exact HK.out)));(case side4 => exact HC2.out);rintro e w' ⟨rfl,⟨nd,rfl⟩⟩;refine ⟨_,rfl,?_⟩))
   go_meet
   case rel => exact ⟨_,(false),(by first|rfl|(simp;done)|(simp [*];done)),H',⟨by first|omega|exact Nat.le_refl _⟩,⟨by (with_reducible repeat (first|apply Kd.R_alloc|apply Kd.R_drewN|apply Kd.R_drew));exact HO0.out⟩,⟨by repeat (first|(with_reducible first|exact HK.out|apply Kept.alloc|apply Kept.drewN|apply Kept.drew)|exact HK.out)⟩,⟨by repeat (first|(with_reducible first|exact HB.out|apply below_alloc|apply pw_below_drewN|apply below_drew1)|exact HB.out)⟩⟩
 case rest =>
  clear HC5
  try clear c2
  try clear p2
  try clear c3
  try clear c7
  obtain ⟨kq,x9_4,rfl,HA,HJ4,HO_0,HK,HB⟩:=hcut
  cases kq with
  | zero => exact absurd HA.out (by simp [phasorlaw19_told.j0])
  | succ kj4 =>
   have H:=HA.out
   clear HA
   simp only [phasorlaw19_told.j0] at H
   have H':=Aside0.mk H
   clear H
   go_wp2
   go_loopg [10] kj4 (fun kq v10 w' => ∃ (x0_2 : List Int) (x10_2 : Int),v10=.int .i64 x10_2∧Aside0 (phasorlaw19_told.l0 kq x0_2 x9_4 x10_2=some (r1,r2))∧Aside0 (kq≤kj4)∧Aside0 (Kd.R (Kd.int .i64) 3 w' w0.heap.size (fun k_ => (P0_ k_∨w.heap.size≤k_)) u9000_ x0_2)∧Aside0 (Kept w w' (fun k_ => P0_ k_))∧Aside0 (Below w0.heap.size w0 w'))
   case atStart => exact ⟨(l0),(0),(by first|rfl|(simp;done)|(simp [*];done)),H',⟨Nat.le_refl _⟩,⟨by (with_reducible repeat (first|apply Kd.R_alloc|apply Kd.R_drewN|apply Kd.R_drew));exact HO_0.out⟩,⟨by repeat (first|(with_reducible first|exact HK.out|apply Kept.alloc|apply Kept.drewN|apply Kept.drew)|exact HK.out)⟩,⟨by repeat (first|(with_reducible first|exact HB.out|apply below_alloc|apply pw_below_drewN|apply below_drew1)|exact HB.out)⟩⟩
   case round =>
    clear H'
    try clear c2
    try clear p2
    try clear c3
    try clear c7
    try clear p2
    obtain ⟨x0_2,x10_2,rfl,HA,HK2,HO_0,HK,HB⟩:=hrel
    cases gk with
    | zero => exact absurd HA.out (by simp [phasorlaw19_told.l0])
    | succ k2 =>
     have H:=HA.out
     clear HA
     simp only [phasorlaw19_told.l0] at H
     by_cases c10 : x10_2 < (x0_2.length : Int)
     ·rw [if_pos c10] at H
      have c10b0 : decide (x10_2 < (x0_2.length : Int))=true:=decide_eq_true c10
      clear c10
      by_cases c11 : 0≤x10_2
      ·rw [if_pos c11] at H
       have c11b0 : decide (0≤x10_2)=true:=decide_eq_true c11
       clear c11
       obtain ⟨y654,hy654⟩ : ∃ y_ : List Int,y_=(x0_2.set (x10_2 : Int).toNat (-7)):=⟨_,rfl⟩
       replace H : (phasorlaw19_told.l0 k2 y654 x9_4 (wrap64 (x10_2 + 1)))=some (r1,r2):=by first|(rw [hy654];with_reducible exact H)|(have H2_:=(Option.bind_some _ _).symm.trans H;rw [hy654];with_reducible exact H2_)|(have H2_:=(Option.bind_some _ _).symm.trans H;with_reducible exact H2_)|with_reducible exact H|(rw [hy654];exact H)|exact H
       have Ny654:=Aside0.mk hy654
       clear hy654
       have H':=Aside0.mk H
       clear H
       obtain ⟨Ao13,co13,eo13⟩:=Kd.R_slice HO_0.out
       subst eo13
       have p12 : 0≤(x10_2 : Int):=of_decide_eq_true (by first|(with_reducible assumption)|assumption)
       have q12 : (x10_2 : Int) < ((x0_2.length : Int) : Int):=of_decide_eq_true (by first|(with_reducible assumption)|assumption)
       obtain ⟨go12,co12,eo12,gb12,gl12,cl12,HG12⟩:=Kd.R_form HO_0.out (by omega)
       (first|cases eo12|(injection eo12 with ea_ en_ ec_;(first|subst ea_|(injection ea_ with ea_;subst ea_));subst ec_;clear en_))
       have GB12:=Aside0.mk gb12
       have GG12:=Aside0.mk HG12
       clear gb12 gl12 HG12
       have HMgo12:=Aside0.mk (show (P0_ go12∨w.heap.size≤go12) from (HO_0.out.1 _ rfl))
       obtain ⟨hx12_0,hf12_0⟩:=Kd.R_celln 0 HO_0.out (x10_2 : Int) p12 q12
       replace p12:=eq_true p12
       replace q12:=eq_true q12
       have HP14:=Kd.R_putg HO_0.out (x10_2 : Int) (-7)
       go_wp2_with (first|((with_reducible refine gate_store (t:=3) (p:=27) rfl ?_);refine store_event (t:=3) (p:=27) (v:=?vo_w15) (w1:=(wr.setCell ⟨go12,(x10_2 : Int).toNat,none⟩ (.int .i64 (-7)))) ?hg ?ho ?hn ?hr ?_;(case ho => rfl);(case hg => rfl);(case hn => rfl);(case hr => first|(go_simp;done)|(go_simp;rfl));intro w15 hw;have hg : wr.grownBy w15 (some go12):=(by rw [hw];exact HP14.2);have hp_ : Kd.R (Kd.int .i64) 3 w15 w0.heap.size (fun k_ => (P0_ k_∨w.heap.size≤k_)) (.slice (some ⟨go12,0,none⟩) x0_2.length co13) y654:=(by rw [hw,Ny654.out];exact HP14.1);clear HP14;have n0_:=Aside0.mk (hp_);have n1_:=Aside0.mk ((by rw [hw];exact below_set (HB.out) GB12.out : Below w0.heap.size w0 w15));have n2_:=Aside0.mk (Kept.of_grown (S:=(fun k_ => P0_ k_)) hg (by repeat (first|(with_reducible first|exact HK.out|apply Kept.alloc|apply Kept.drewN|apply Kept.drew)|exact HK.out)) (fun k_ e_ => (HO_0.out.1 k_ e_)));clear HO_0;clear HB;clear HK;have HO_0:=n0_;have HB:=n1_;have HK:=n2_;clear n0_ n1_ n2_;clear hg hw hp_))
       go_roundg k2
       case measure => have:=HJ4.out;have:=HK2.out;omega
       case rel => exact ⟨(y654),(wrap64 (x10_2 + 1)),(by first|rfl|(simp;done)|(simp [*];done)),H',⟨by have:=HJ4.out;have:=HK2.out;omega⟩,⟨by (with_reducible repeat (first|apply Kd.R_alloc|apply Kd.R_drewN|apply Kd.R_drew));exact HO_0.out⟩,⟨by repeat (first|(with_reducible first|exact HK.out|apply Kept.alloc|apply Kept.drewN|apply Kept.drew)|exact HK.out)⟩,⟨by repeat (first|(with_reducible first|exact HB.out|apply below_alloc|apply pw_below_drewN|apply below_drew1)|exact HB.out)⟩⟩
      ·rw [if_neg c11] at H
       exact absurd H (by simp)
     ·rw [if_neg c10] at H
      have c10b0 : decide (x10_2 < (x0_2.length : Int))=false:=decide_eq_false c10
      clear c10
      simp only [Option.some.injEq,Prod.mk.injEq] at H
      obtain ⟨rfl,rfl⟩:=H
      obtain ⟨Ao16,co16,eo16⟩:=Kd.R_slice HO_0.out
      subst eo16
      go_wp2
      go_ret
      exact ⟨by first|rfl|(simp [errW_none,errW_some] <;> rfl)|(simp [*,errW_none,errW_some] <;> rfl),by (with_reducible repeat (first|apply Kd.R_alloc|apply Kd.R_drewN|apply Kd.R_drew));exact HO_0.out,by repeat (first|(with_reducible first|exact HB.out|apply below_alloc|apply pw_below_drewN|apply below_drew1)|exact HB.out),by repeat (first|(with_reducible first|exact HK.out|apply Kept.alloc|apply Kept.drewN|apply Kept.drew)|exact HK.out)⟩
end Go.Proofs.Ytbelnopbggkdfaa.Q
end

section
namespace Go.Proofs.Ytbelnopbggkdfaa.Q
open Go.RowKit Go.Proofs.YtbelnopbggkdfaaW.PrintWords Go.Proofs.YtbelnopbggkdfaaW.PrintLast Go.Proofs.YtbelnopbggkdfaaW.PrintMore
attribute [local go_sem] max2_int min2_int max_two min_two max_three min_three max_four min_four   -- for this text's walks alone
set_option linter.unusedVariables false
set_option linter.unusedSimpArgs false
mutual
def phasorref19_Early.l0 : Nat→List Int→Int→Int→Int→List (S46)→Option (List Int × Int)
 | 0,_,_,_,_,_ => none
 | k + 1,x4,x5,x643000,x643001,x643002 => if x5 < (x643002.length : Int) then (phasorref19_Early.l1 k x4 x5 0 0 x643000 x643001 x643002) else (some (x4,0))
def phasorref19_Early.l1 : Nat→List Int→Int→Int→Int→Int→Int→List (S46)→Option (List Int × Int)
 | 0,_,_,_,_,_,_,_ => none
 | k + 1,x4,x5,x6,x7,x643000,x643001,x643002 => if x7 < x5 then ((phasorref19_touch.f k x643000 x643001 x643002 x5 x7).bind fun t644 => (if t644=true then (if 0≤x7 then (if x7 < (x4.length : Int) then (phasorref19_Early.l1 k x4 x5 (mx x6 (rd x4 x7)) (wrap64 (x7 + 1)) x643000 x643001 x643002) else (none)) else (none)) else (phasorref19_Early.l1 k x4 x5 x6 (wrap64 (x7 + 1)) x643000 x643001 x643002))) else ((phasorref19_bar.f x643000 x643001 x643002 x5).bind fun t646 => (if t646=true then (if x4.length < 17592186044416 then (phasorref19_Early.l0 k (x4 ++ [x6]) (wrap64 (x5 + 1)) x643000 x643001 x643002) else (none)) else (if x4.length < 17592186044416 then (phasorref19_Early.l0 k (x4 ++ [wrap64 (x6 + 1)]) (wrap64 (x5 + 1)) x643000 x643001 x643002) else (none))))
end
def phasorref19_Early.f (k : Nat) (a0_0 : Int) (a0_1 : Int) (l0_2 : List (S46)) : Option (List Int × Int):=(phasorref08_May.f k a0_0 a0_1 l0_2).bind fun t643 => (if t643=true then (phasorref19_Early.l0 k ([] : List Int) 0 a0_0 a0_1 l0_2) else (some (([] : List Int),80)))
set_option maxHeartbeats 8000000 in
set_option maxRecDepth 100000 in
theorem phasorref19_Early.calls (k : Nat) (a0_0 : Int) (a0_1 : Int) (A0_2 : Option Addr) (c0_2 : Nat) (l0_2 : List (S46)) (r1 : List Int) (r2 : Int) (w : World) (hr0_2 : Kd.C k46 w A0_2 l0_2.length l0_2) (hc0_2 : l0_2.length≤c0_2) (h : phasorref19_Early.f k a0_0 a0_1 l0_2=some (r1,r2)) :
  Calls Try.prog 28 #[.agg #[.int .i64 a0_0,.int .i64 a0_1,.slice A0_2 l0_2.length c0_2]] w fun e w' => ∃ v0_ : Value,e=.returned (.tuple #[v0_,.int .i64 r2])∧Kd.R (Kd.int .i64) 3 w' w.heap.size (fun _ => True) v0_ r1∧Below w.heap.size w w':=by
 have hu24:=Try.underlying24
 have HR0_2:=Aside0.mk hr0_2
 have HC0_2:=Aside0.mk hc0_2
 clear hr0_2 hc0_2
 have HB:=Aside0.mk (Below.refl w.heap.size w)
 have H : ((phasorref08_May.f k a0_0 a0_1 l0_2).bind fun t643 => (if t643=true then (phasorref19_Early.l0 k ([] : List Int) 0 a0_0 a0_1 l0_2) else (some (([] : List Int),80))))=some (r1,r2):=h
 clear h
 replace H:=Option.bind_eq_some_iff.mp H
 obtain ⟨t643,A20,H⟩:=H
 replace H : (if t643=true then (phasorref19_Early.l0 k ([] : List Int) 0 a0_0 a0_1 l0_2) else (some (([] : List Int),80)))=some (r1,r2):=H
 have A2:=Aside0.mk A20
 clear A20
 by_cases c3 : t643=true
 ·subst c3
  have H1 : (phasorref19_Early.l0 k ([] : List Int) 0 a0_0 a0_1 l0_2)=some (r1,r2):=by rw [if_pos rfl] at H;exact H
  clear H
  have H:=H1
  clear H1
  have H':=Aside0.mk H
  clear H
  go_enter Try.func28,Try.ntmps28
  go_wp2_with (first|((with_reducible refine gate_dst (N:=1) rfl ?_);refine box_event ?hg (N:=1) ?hd (cs:=#[.int .i64 a0_0,.int .i64 a0_1,.slice A0_2 l0_2.length c0_2]) (t:=24) ?hr ?_;(case hd => rfl);(case hg => rfl);(case hr => first|(go_simp;done)|(go_simp;rfl));intro gb642 hg w4 hbox hb;have n0_:=Aside0.mk (below_step (by repeat (first|(with_reducible first|exact HB.out|apply below_alloc|apply pw_below_drewN|apply below_drew1)|exact HB.out)) hb);have n1_:=Aside0.mk (hbox);have n2_:=Aside0.mk ((by rw [hg];exact (below_size (by repeat (first|(with_reducible first|exact HB.out|apply below_alloc|apply pw_below_drewN|apply below_drew1)|exact HB.out))) : w.heap.size≤gb642));have n3_:=Aside0.mk ((by rw [hg];exact (below_size (by repeat (first|(with_reducible first|exact HB.out|apply below_alloc|apply pw_below_drewN|apply below_drew1)|exact HB.out))) : w.heap.size≤gb642));clear HB;have HB:=n0_;have BK642:=n1_;have GW642:=n2_;have GE642:=n3_;clear n0_ n1_ n2_ n3_;clear hb hbox hg;have hcz5_0 : w4.cell? ⟨gb642,0,none⟩=some (.int .i64 a0_0):=(blk_cell BK642.out 0).trans rfl;have hcz5_1 : w4.cell? ⟨gb642,1,none⟩=some (.int .i64 a0_1):=(blk_cell BK642.out 1).trans rfl;have hcz5_2 : w4.cell? ⟨gb642,2,none⟩=some (.slice A0_2 l0_2.length c0_2):=(blk_cell BK642.out 2).trans rfl;have hfz5_0:=blk_frozen BK642.out 0;have hfz5_1:=blk_frozen BK642.out 1;have hfz5_2:=blk_frozen BK642.out 2)|((with_reducible refine gate_callee (f:=24) rfl ?_);refine goesL_ (some 9) rfl rfl Try.func24 (by kernel_rfl) rfl #[.agg #[.int .i64 a0_0,.int .i64 a0_1,.slice A0_2 l0_2.length c0_2]] rfl (by (try simp only [List.map_toArray,List.map_cons,List.map_nil]);first|done|rfl|(simp only [List.length_drop,List.length_take];rfl)) ?_;(with_reducible refine (phasorref08_May.calls k a0_0 a0_1 _ _ l0_2 true _ ?side1 ?side2 A2.out).mono ?_);(case side1 => repeat (first|exact (Kd.C_below HR0_2.out HB.out)|(with_reducible refine Kd.C_alloc ?_ _)|(with_reducible refine Kd.C_drewN ?_ _)|(with_reducible refine Kd.C_drew ?_)));(case side2 => exact HC0_2.out);rintro e w6 ⟨rfl,hb⟩;refine ⟨_,rfl,?_⟩;have n0_:=Aside0.mk (blk_below (g:=gb642) (o:=.cells #[.int .i64 a0_0,.int .i64 a0_1,.slice A0_2 l0_2.length c0_2] 24 (0,0)) (by (with_reducible repeat (first|refine blk_drewN ?_ _|refine blk_drew ?_|refine blk_alloc ?_ _));exact BK642.out) hb);have n1_:=Aside0.mk (below_step (by repeat (first|(with_reducible first|exact HB.out|apply below_alloc|apply pw_below_drewN|apply below_drew1|refine below_set ?_ GE642.out)|exact HB.out)) hb);clear BK642;clear HB;have BK642:=n0_;have HB:=n1_;clear n0_ n1_;(try clear hb);(try clear hb2);(try clear hk);(try clear hi)))
  go_loopg [4,5] k (fun kq v4 v5 w' => ∃ (x4_1 : List Int) (x5_1 : Int),v5=.int .i64 x5_1∧Aside0 (phasorref19_Early.l0 kq x4_1 x5_1 a0_0 a0_1 l0_2=some (r1,r2))∧Aside0 (kq≤k)∧Aside0 (Kd.R (Kd.int .i64) 3 w' w.heap.size (fun _ => True) v4 x4_1)∧Aside0 (w'.heap[gb642]?=some (.cells #[.int .i64 a0_0,.int .i64 a0_1,(.slice A0_2 l0_2.length c0_2)] 24 (0,0)))∧Aside0 (Below w.heap.size w w'))
  case atStart => exact ⟨(([] : List Int)),(0),(by first|rfl|(simp;done)|(simp [*];done)),H',⟨Nat.le_refl _⟩,⟨by first|exact Kd.R_nil _ _ _ _ _|exact Kd.N_nil _ _ _ _ _|exact Kd.V_nil _ _ _ _ _|exact Kd.Q_nil _ _ _ _ _|exact Kd.S_nil _ _ _ _ _⟩,⟨by (with_reducible repeat (first|refine blk_drewN ?_ _|refine blk_drew ?_|refine blk_alloc ?_ _));exact BK642.out⟩,⟨by repeat (first|(with_reducible first|exact HB.out|apply below_alloc|apply pw_below_drewN|apply below_drew1|refine below_set ?_ GE642.out)|exact HB.out)⟩⟩
  case round =>
   clear H'
   try clear c2
   try clear p2
   try clear c3
   try clear hcz5_0
   try clear hcz5_1
   try clear hcz5_2
   try clear hfz5_0
   try clear hfz5_1
   try clear hfz5_2
   obtain ⟨x4_1,x5_1,rfl,HA,HK1,HO_4,BK642,HB⟩:=hrel
   cases gk with
   | zero => exact absurd HA.out (by simp [phasorref19_Early.l0])
   | succ k1 =>
    have H:=HA.out
    clear HA
    simp only [phasorref19_Early.l0] at H
    by_cases c7 : x5_1 < (l0_2.length : Int)
    ·rw [if_pos c7] at H
     have c7b0 : decide (x5_1 < (l0_2.length : Int))=true:=decide_eq_true c7
     clear c7
     have H':=Aside0.mk H
     clear H
     have hcz8_0 : wr.cell? ⟨gb642,0,none⟩=some (.int .i64 a0_0):=(blk_cell BK642.out 0).trans rfl
     have hcz8_1 : wr.cell? ⟨gb642,1,none⟩=some (.int .i64 a0_1):=(blk_cell BK642.out 1).trans rfl
     have hcz8_2 : wr.cell? ⟨gb642,2,none⟩=some (.slice A0_2 l0_2.length c0_2):=(blk_cell BK642.out 2).trans rfl
     have hfz8_0:=blk_frozen BK642.out 0
     have hfz8_1:=blk_frozen BK642.out 1
     have hfz8_2:=blk_frozen BK642.out 2
     go_wp2
     go_loopg [6,7] k1 (fun kq v6 v7 w' => ∃ (x6_2 : Int) (x7_2 : Int),v6=.int .i64 x6_2∧v7=.int .i64 x7_2∧Aside0 (phasorref19_Early.l1 kq x4_1 x5_1 x6_2 x7_2 a0_0 a0_1 l0_2=some (r1,r2))∧Aside0 (kq≤k1)∧Aside0 (Kd.R (Kd.int .i64) 3 w' w.heap.size (fun _ => True) u4 x4_1)∧Aside0 (w'.heap[gb642]?=some (.cells #[.int .i64 a0_0,.int .i64 a0_1,(.slice A0_2 l0_2.length c0_2)] 24 (0,0)))∧Aside0 (Below w.heap.size w w'))
     case atStart => exact ⟨(0),(0),(by first|rfl|(simp;done)|(simp [*];done)),(by first|rfl|(simp;done)|(simp [*];done)),H',⟨Nat.le_refl _⟩,⟨by (with_reducible repeat (first|apply Kd.R_alloc|apply Kd.R_drewN|apply Kd.R_drew));exact HO_4.out⟩,⟨by (with_reducible repeat (first|refine blk_drewN ?_ _|refine blk_drew ?_|refine blk_alloc ?_ _));exact BK642.out⟩,⟨by repeat (first|(with_reducible first|exact HB.out|apply below_alloc|apply pw_below_drewN|apply below_drew1|refine below_set ?_ GE642.out)|exact HB.out)⟩⟩
     case round =>
      clear H'
      try clear c2
      try clear p2
      try clear c3
      try clear c7
      try clear c7b0
      try clear hcz5_0
      try clear hcz5_1
      try clear hcz5_2
      try clear hcz8_0
      try clear hcz8_1
      try clear hcz8_2
      try clear hfz5_0
      try clear hfz5_1
      try clear hfz5_2
      try clear hfz8_0
      try clear hfz8_1
      try clear hfz8_2
      try clear p2
      obtain ⟨x6_2,x7_2,rfl,rfl,HA,HK2,HO_4,BK642,HB⟩:=hrel
      cases gk with
      | zero => exact absurd HA.out (by simp [phasorref19_Early.l1])
      | succ k2 =>
       have H:=HA.out
       clear HA
       simp only [phasorref19_Early.l1] at H
       by_cases c9 : x7_2 < x5_1
       ·rw [if_pos c9] at H
        have c9b0 : decide (x7_2 < x5_1)=true:=decide_eq_true c9
        clear c9
        replace H:=Option.bind_eq_some_iff.mp H
        obtain ⟨t644,A100,H⟩:=H
        replace H : (if t644=true then (if 0≤x7_2 then (if x7_2 < (x4_1.length : Int) then (phasorref19_Early.l1 k2 x4_1 x5_1 (mx x6_2 (rd x4_1 x7_2)) (wrap64 (x7_2 + 1)) a0_0 a0_1 l0_2) else (none)) else (none)) else (phasorref19_Early.l1 k2 x4_1 x5_1 x6_2 (wrap64 (x7_2 + 1)) a0_0 a0_1 l0_2))=some (r1,r2):=H
        have A10:=Aside0.mk A100
        clear A100
        by_cases c11 : t644=true
        ·subst c11
         have H1 : (if 0≤x7_2 then (if x7_2 < (x4_1.length : Int) then (phasorref19_Early.l1 k2 x4_1 x5_1 (mx x6_2 (rd x4_1 x7_2)) (wrap64 (x7_2 + 1)) a0_0 a0_1 l0_2) else (none)) else (none))=some (r1,r2):=by rw [if_pos rfl] at H;exact H
         clear H
         have H:=H1
         clear H1
         by_cases c12 : 0≤x7_2
         ·rw [if_pos c12] at H
          have c12b0 : decide (0≤x7_2)=true:=decide_eq_true c12
          clear c12
          by_cases c13 : x7_2 < (x4_1.length : Int)
          ·rw [if_pos c13] at H
           have c13b0 : decide (x7_2 < (x4_1.length : Int))=true:=decide_eq_true c13
           clear c13
           obtain ⟨ji14,hji14⟩ : ∃ j_ : Int,(mx x6_2 (rd x4_1 x7_2))=j_:=⟨_,rfl⟩
           replace H : (phasorref19_Early.l1 k2 x4_1 x5_1 ji14 (wrap64 (x7_2 + 1)) a0_0 a0_1 l0_2)=some (r1,r2):=by first|(rw [hji14] at H;exact H)|(simp only [hji14] at H ⊢;exact H)
           (try rw [hji14] at A10)
           have hji14_ : (if x6_2 < (rd x4_1 x7_2) then (rd x4_1 x7_2) else x6_2)=ji14:=hji14
           have H':=Aside0.mk H
           clear H
           have hcz15_0 : wr.cell? ⟨gb642,0,none⟩=some (.int .i64 a0_0):=(blk_cell BK642.out 0).trans rfl
           have hcz15_1 : wr.cell? ⟨gb642,1,none⟩=some (.int .i64 a0_1):=(blk_cell BK642.out 1).trans rfl
           have hcz15_2 : wr.cell? ⟨gb642,2,none⟩=some (.slice A0_2 l0_2.length c0_2):=(blk_cell BK642.out 2).trans rfl
           have hfz15_0:=blk_frozen BK642.out 0
           have hfz15_1:=blk_frozen BK642.out 1
           have hfz15_2:=blk_frozen BK642.out 2
           go_wp2_with (first|((with_reducible refine gate_callee (f:=66) rfl ?_);refine goesL_ (some 26) rfl rfl Try.func66 (by kernel_rfl) rfl #[.agg #[.int .i64 a0_0,.int .i64 a0_1,.slice A0_2 l0_2.length c0_2],.int .i64 x5_1,.int .i64 x7_2] rfl (by (try simp only [List.map_toArray,List.map_cons,List.map_nil]);first|done|rfl|(simp only [List.length_drop,List.length_take];rfl)) ?_;(with_reducible refine (phasorref19_touch.calls k2 a0_0 a0_1 _ _ l0_2 x5_1 x7_2 true _ ?side1 ?side2 A10.out).mono ?_);(case side1 => repeat (first|exact (Kd.C_below HR0_2.out HB.out)|(with_reducible refine Kd.C_alloc ?_ _)|(with_reducible refine Kd.C_drewN ?_ _)|(with_reducible refine Kd.C_drew ?_)));(case side2 => exact HC0_2.out);rintro e w16 ⟨rfl,hb⟩;refine ⟨_,rfl,?_⟩;have n0_:=Aside0.mk (Kd.R_below (by (with_reducible repeat (first|apply Kd.R_alloc|apply Kd.R_drewN|apply Kd.R_drew));exact HO_4.out) hb);have n1_:=Aside0.mk (blk_below (g:=gb642) (o:=.cells #[.int .i64 a0_0,.int .i64 a0_1,.slice A0_2 l0_2.length c0_2] 24 (0,0)) (by (with_reducible repeat (first|refine blk_drewN ?_ _|refine blk_drew ?_|refine blk_alloc ?_ _));exact BK642.out) hb);have n2_:=Aside0.mk (below_step (by repeat (first|(with_reducible first|exact HB.out|apply below_alloc|apply pw_below_drewN|apply below_drew1|refine below_set ?_ GE642.out)|exact HB.out)) hb);clear HO_4;clear BK642;clear HB;have HO_4:=n0_;have BK642:=n1_;have HB:=n2_;clear n0_ n1_ n2_;(try clear hb);(try clear hb2);(try clear hk);(try clear hi);obtain ⟨Ao17,co17,eo17⟩:=Kd.R_slice HO_4.out;subst eo17;have p645 : 0≤(x7_2 : Int):=of_decide_eq_true (by first|(with_reducible assumption)|assumption);have q645 : x7_2 < (x4_1.length : Int):=of_decide_eq_true (by first|(with_reducible assumption)|assumption);obtain ⟨ad645,e645,hx645_0⟩:=Kd.at_int (Kd.R_reads' HO_4.out).2.2 x7_2 p645 q645;cases e645;replace p645:=eq_true p645;replace q645:=eq_true q645))
           go_roundg k2
           case measure => have:=HK1.out;have:=HK2.out;omega
           case rel => exact ⟨(ji14),(wrap64 (x7_2 + 1)),(by first|rfl|(simp;done)|(simp only [← hji14] <;> (first|rfl|simp))|(simp [*];done)),(by first|rfl|(simp;done)|(simp [*];done)),H',⟨by have:=HK1.out;have:=HK2.out;omega⟩,⟨by (with_reducible repeat (first|apply Kd.R_alloc|apply Kd.R_drewN|apply Kd.R_drew));exact HO_4.out⟩,⟨by (with_reducible repeat (first|refine blk_drewN ?_ _|refine blk_drew ?_|refine blk_alloc ?_ _));exact BK642.out⟩,⟨by repeat (first|(with_reducible first|exact HB.out|apply below_alloc|apply pw_below_drewN|apply below_drew1|refine below_set ?_ GE642.out)|exact HB.out)⟩⟩
          ·rw [if_neg c13] at H
           exact absurd H (by simp)
         ·rw [if_neg c12] at H
          exact absurd H (by simp)
        ·replace c11:=Bool.eq_false_iff.mpr c11
         subst c11
         have H1 : (phasorref19_Early.l1 k2 x4_1 x5_1 x6_2 (wrap64 (x7_2 + 1)) a0_0 a0_1 l0_2)=some (r1,r2):=by rw [if_neg (show ¬ (false=true) by decide)] at H;exact H
         clear H
         have H:=H1
         clear H1
         have H':=Aside0.mk H
         clear H
         have hcz18_0 : wr.cell? ⟨gb642,0,none⟩=some (.int .i64 a0_0):=(blk_cell BK642.out 0).trans rfl
         have hcz18_1 : wr.cell? ⟨gb642,1,none⟩=some (.int .i64 a0_1):=(blk_cell BK642.out 1).trans rfl
         have hcz18_2 : wr.cell? ⟨gb642,2,none⟩=some (.slice A0_2 l0_2.length c0_2):=(blk_cell BK642.out 2).trans rfl
         have hfz18_0:=blk_frozen BK642.out 0
         have hfz18_1:=blk_frozen BK642.out 1
         have hfz18_2:=blk_frozen BK642.out 2
         go_wp2_with (first|((with_reducible refine gate_callee (f:=66) rfl ?_);refine goesL_ (some 26) rfl rfl Try.func66 (by kernel_rfl) rfl #[.agg #[.int .i64 a0_0,.int .i64 a0_1,.slice A0_2 l0_2.length c0_2],.int .i64 x5_1,.int .i64 x7_2] rfl (by (try simp only [List.map_toArray,List.map_cons,List.map_nil]);first|done|rfl|(simp only [List.length_drop,List.length_take];rfl)) ?_;(with_reducible refine (phasorref19_touch.calls k2 a0_0 a0_1 _ _ l0_2 x5_1 x7_2 false _ ?side1 ?side2 A10.out).mono ?_);(case side1 => repeat (first|exact (Kd.C_below HR0_2.out HB.out)|(with_reducible refine Kd.C_alloc ?_ _)|(with_reducible refine Kd.C_drewN ?_ _)|(with_reducible refine Kd.C_drew ?_)));(case side2 => exact HC0_2.out);rintro e w19 ⟨rfl,hb⟩;refine ⟨_,rfl,?_⟩;have n0_:=Aside0.mk (Kd.R_below (by (with_reducible repeat (first|apply Kd.R_alloc|apply Kd.R_drewN|apply Kd.R_drew));exact HO_4.out) hb);have n1_:=Aside0.mk (blk_below (g:=gb642) (o:=.cells #[.int .i64 a0_0,.int .i64 a0_1,.slice A0_2 l0_2.length c0_2] 24 (0,0)) (by (with_reducible repeat (first|refine blk_drewN ?_ _|refine blk_drew ?_|refine blk_alloc ?_ _));exact BK642.out) hb);have n2_:=Aside0.mk (below_step (by repeat (first|(with_reducible first|exact HB.out|apply below_alloc|apply pw_below_drewN|apply below_drew1|refine below_set ?_ GE642.out)|exact HB.out)) hb);clear HO_4;clear BK642;clear HB;have HO_4:=n0_;have BK642:=n1_;have HB:=n2_;clear n0_ n1_ n2_;(try clear hb);(try clear hb2);(try clear hk);(try clear hi)))
         go_roundg k2
         case measure => have:=HK1.out;have:=HK2.out;omega
         case rel => exact ⟨(x6_2),(wrap64 (x7_2 + 1)),(by first|rfl|(simp;done)|(simp [*];done)),(by first|rfl|(simp;done)|(simp [*];done)),H',⟨by have:=HK1.out;have:=HK2.out;omega⟩,⟨by (with_reducible repeat (first|apply Kd.R_alloc|apply Kd.R_drewN|apply Kd.R_drew));exact HO_4.out⟩,⟨by (with_reducible repeat (first|refine blk_drewN ?_ _|refine blk_drew ?_|refine blk_alloc ?_ _));exact BK642.out⟩,⟨by repeat (first|(with_reducible first|exact HB.out|apply below_alloc|apply pw_below_drewN|apply below_drew1|refine below_set ?_ GE642.out)|exact HB.out)⟩⟩
       ·rw [if_neg c9] at H
        have c9b0 : decide (x7_2 < x5_1)=false:=decide_eq_false c9
        clear c9
        replace H:=Option.bind_eq_some_iff.mp H
        obtain ⟨t646,A200,H⟩:=H
        replace H : (if t646=true then (if x4_1.length < 17592186044416 then (phasorref19_Early.l0 k2 (x4_1 ++ [x6_2]) (wrap64 (x5_1 + 1)) a0_0 a0_1 l0_2) else (none)) else (if x4_1.length < 17592186044416 then (phasorref19_Early.l0 k2 (x4_1 ++ [wrap64 (x6_2 + 1)]) (wrap64 (x5_1 + 1)) a0_0 a0_1 l0_2) else (none)))=some (r1,r2):=H
        have A20:=Aside0.mk A200
        clear A200
        by_cases c21 : t646=true
        ·subst c21
         have H1 : (if x4_1.length < 17592186044416 then (phasorref19_Early.l0 k2 (x4_1 ++ [x6_2]) (wrap64 (x5_1 + 1)) a0_0 a0_1 l0_2) else (none))=some (r1,r2):=by rw [if_pos rfl] at H;exact H
         clear H
         have H:=H1
         clear H1
         by_cases c22 : x4_1.length < 17592186044416
         ·rw [if_pos c22] at H
          have LMc22:=Aside0.mk c22
          clear c22
          obtain ⟨y647,hy647⟩ : ∃ y_ : List Int,y_=(x4_1 ++ [x6_2]):=⟨_,rfl⟩
          replace H : (phasorref19_Early.l0 k2 y647 (wrap64 (x5_1 + 1)) a0_0 a0_1 l0_2)=some (r1,r2):=by first|(rw [hy647];with_reducible exact H)|(have H2_:=(Option.bind_some _ _).symm.trans H;rw [hy647];with_reducible exact H2_)|(have H2_:=(Option.bind_some _ _).symm.trans H;with_reducible exact H2_)|with_reducible exact H|(rw [hy647];exact H)|exact H
          have Ny647:=Aside0.mk hy647
          clear hy647
          have H':=Aside0.mk H
          clear H
          have hcz23_0 : wr.cell? ⟨gb642,0,none⟩=some (.int .i64 a0_0):=(blk_cell BK642.out 0).trans rfl
          have hcz23_1 : wr.cell? ⟨gb642,1,none⟩=some (.int .i64 a0_1):=(blk_cell BK642.out 1).trans rfl
          have hcz23_2 : wr.cell? ⟨gb642,2,none⟩=some (.slice A0_2 l0_2.length c0_2):=(blk_cell BK642.out 2).trans rfl
          have hfz23_0:=blk_frozen BK642.out 0
          have hfz23_1:=blk_frozen BK642.out 1
          have hfz23_2:=blk_frozen BK642.out 2
          go_wp2_with (first|((with_reducible refine gate_callee (f:=71) rfl ?_);refine goesL_ (some 35) rfl rfl Try.func71 (by kernel_rfl) rfl #[.agg #[.int .i64 a0_0,.int .i64 a0_1,.slice A0_2 l0_2.length c0_2],.int .i64 x5_1] rfl (by (try simp only [List.map_toArray,List.map_cons,List.map_nil]);first|done|rfl|(simp only [List.length_drop,List.length_take];rfl)) ?_;(with_reducible refine (phasorref19_bar.calls a0_0 a0_1 _ _ l0_2 x5_1 true _ ?side1 ?side2 A20.out).mono ?_);(case side1 => repeat (first|exact (Kd.C_below HR0_2.out HB.out)|(with_reducible refine Kd.C_alloc ?_ _)|(with_reducible refine Kd.C_drewN ?_ _)|(with_reducible refine Kd.C_drew ?_)));(case side2 => exact HC0_2.out);rintro e w24 ⟨rfl,hb⟩;refine ⟨_,rfl,?_⟩;have n0_:=Aside0.mk (Kd.R_below (by (with_reducible repeat (first|apply Kd.R_alloc|apply Kd.R_drewN|apply Kd.R_drew));exact HO_4.out) hb);have n1_:=Aside0.mk (blk_below (g:=gb642) (o:=.cells #[.int .i64 a0_0,.int .i64 a0_1,.slice A0_2 l0_2.length c0_2] 24 (0,0)) (by (with_reducible repeat (first|refine blk_drewN ?_ _|refine blk_drew ?_|refine blk_alloc ?_ _));exact BK642.out) hb);have n2_:=Aside0.mk (below_step (by repeat (first|(with_reducible first|exact HB.out|apply below_alloc|apply pw_below_drewN|apply below_drew1|refine below_set ?_ GE642.out)|exact HB.out)) hb);clear HO_4;clear BK642;clear HB;have HO_4:=n0_;have BK642:=n1_;have HB:=n2_;clear n0_ n1_ n2_;(try clear hb);(try clear hb2);(try clear hk);(try clear hi))|((with_reducible refine gate_builtin (b:=.append) (xs:=#[.tmp 39,.tmp 41]) rfl ?_);at_builtin;refine Kd.R_append (Kd.int .i64) (w0:=w) w.heap.size rfl (.tmp 39) (.tmp 41) 37 3 (.int .i64 0) 8 rfl Try.underlying37 info3 rfl (by decide) (by omega) u4 x4_1 x6_2 [.int .i64 x6_2] (fun _ => True) (fun _ => False) rfl rfl ?aP (fun _ hk => hk.elim) ?aF ?aO ?aB ?aS ?aL ?_;(case aP => exact rfl);(case aB => exact (by repeat (first|(with_reducible first|exact HB.out|apply below_alloc|apply pw_below_drewN|apply below_drew1|refine below_set ?_ GE642.out)|exact HB.out)));(case aF => exact (fun _ _ => trivial));(case aO => exact (by (with_reducible repeat (first|apply Kd.R_alloc|apply Kd.R_drewN|apply Kd.R_drew));exact HO_4.out));(case aS => exact (below_size (by repeat (first|(with_reducible first|exact HB.out|apply below_alloc|apply pw_below_drewN|apply below_drew1|refine below_set ?_ GE642.out)|exact HB.out))));(case aL => have:=LMc22.out;omega);intro v648 w25 ho hb hg hat;rw [← Ny647.out] at ho;have n0_:=Aside0.mk (blk_grown (g:=gb642) (o:=.cells #[.int .i64 a0_0,.int .i64 a0_1,.slice A0_2 l0_2.length c0_2] 24 (0,0)) (by (with_reducible repeat (first|refine blk_drewN ?_ _|refine blk_drew ?_|refine blk_alloc ?_ _));exact BK642.out) hg (Kd.R_ne HO_4.out BK642.out (by decide)));have n1_:=Aside0.mk (hb);have n2_:=Aside0.mk (ho);clear BK642;clear HB;clear HO_4;have BK642:=n0_;have HB:=n1_;have HO649:=n2_;clear n0_ n1_ n2_;clear ho hb hg hat))
          go_roundg k2
          case measure => have:=HK1.out;have:=HK2.out;omega
          case rel => exact ⟨(y647),(wrap64 (x5_1 + 1)),(by first|rfl|(simp;done)|(simp [*];done)),H',⟨by have:=HK1.out;have:=HK2.out;omega⟩,⟨by (with_reducible repeat (first|apply Kd.R_alloc|apply Kd.R_drewN|apply Kd.R_drew));exact HO649.out⟩,⟨by (with_reducible repeat (first|refine blk_drewN ?_ _|refine blk_drew ?_|refine blk_alloc ?_ _));exact BK642.out⟩,⟨by repeat (first|(with_reducible first|exact HB.out|apply below_alloc|apply pw_below_drewN|apply below_drew1|refine below_set ?_ GE642.out)|exact HB.out)⟩⟩
         ·rw [if_neg c22] at H
          exact absurd H (by simp)
        ·replace c21:=Bool.eq_false_iff.mpr c21
         subst c21
         have H1 : (if x4_1.length < 17592186044416 then (phasorref19_Early.l0 k2 (x4_1 ++ [wrap64 (x6_2 + 1)]) (wrap64 (x5_1 + 1)) a0_0 a0_1 l0_2) else (none))=some (r1,r2):=by rw [if_neg (show ¬ (false=true) by decide)] at H;exact H
         clear H
         have H:=H1
         clear H1
         by_cases c26 : x4_1.length < 17592186044416
         ·rw [if_pos c26] at H
          have LMc26:=Aside0.mk c26
          clear c26
          obtain ⟨y650,hy650⟩ : ∃ y_ : List Int,y_=(x4_1 ++ [wrap64 (x6_2 + 1)]):=⟨_,rfl⟩
          replace H : (phasorref19_Early.l0 k2 y650 (wrap64 (x5_1 + 1)) a0_0 a0_1 l0_2)=some (r1,r2):=by first|(rw [hy650];with_reducible exact H)|(have H2_:=(Option.bind_some _ _).symm.trans H;rw [hy650];with_reducible exact H2_)|(have H2_:=(Option.bind_some _ _).symm.trans H;with_reducible exact H2_)|with_reducible exact H|(rw [hy650];exact H)|exact H
          have Ny650:=Aside0.mk hy650
          clear hy650
          have H':=Aside0.mk H
          clear H
          have hcz27_0 : wr.cell? ⟨gb642,0,none⟩=some (.int .i64 a0_0):=(blk_cell BK642.out 0).trans rfl
          have hcz27_1 : wr.cell? ⟨gb642,1,none⟩=some (.int .i64 a0_1):=(blk_cell BK642.out 1).trans rfl
          have hcz27_2 : wr.cell? ⟨gb642,2,none⟩=some (.slice A0_2 l0_2.length c0_2):=(blk_cell BK642.out 2).trans rfl
          have hfz27_0:=blk_frozen BK642.out 0
          have hfz27_1:=blk_frozen BK642.out 1
          have hfz27_2:=blk_frozen BK642.out 2
          go_wp2_with (first|((with_reducible refine gate_callee (f:=71) rfl ?_);refine goesL_ (some 35) rfl rfl Try.func71 (by kernel_rfl) rfl #[.agg #[.int .i64 a0_0,.int .i64 a0_1,.slice A0_2 l0_2.length c0_2],.int .i64 x5_1] rfl (by (try simp only [List.map_toArray,List.map_cons,List.map_nil]);first|done|rfl|(simp only [List.length_drop,List.length_take];rfl)) ?_;(with_reducible refine (phasorref19_bar.calls a0_0 a0_1 _ _ l0_2 x5_1 false _ ?side1 ?side2 A20.out).mono ?_);(case side1 => repeat (first|exact (Kd.C_below HR0_2.out HB.out)|(with_reducible refine Kd.C_alloc ?_ _)|(with_reducible refine Kd.C_drewN ?_ _)|(with_reducible refine Kd.C_drew ?_)));(case side2 => exact HC0_2.out);rintro e w28 ⟨rfl,hb⟩;refine ⟨_,rfl,?_⟩;have n0_:=Aside0.mk (Kd.R_below (by (with_reducible repeat (first|apply Kd.R_alloc|apply Kd.R_drewN|apply Kd.R_drew));exact HO_4.out) hb);have n1_:=Aside0.mk (blk_below (g:=gb642) (o:=.cells #[.int .i64 a0_0,.int .i64 a0_1,.slice A0_2 l0_2.length c0_2] 24 (0,0)) (by (with_reducible repeat (first|refine blk_drewN ?_ _|refine blk_drew ?_|refine blk_alloc ?_ _));exact BK642.out) hb);have n2_:=Aside0.mk (below_step (by repeat (first|(with_reducible first|exact HB.out|apply below_alloc|apply pw_below_drewN|apply below_drew1|refine below_set ?_ GE642.out)|exact HB.out)) hb);clear HO_4;clear BK642;clear HB;have HO_4:=n0_;have BK642:=n1_;have HB:=n2_;clear n0_ n1_ n2_;(try clear hb);(try clear hb2);(try clear hk);(try clear hi))|((with_reducible refine gate_builtin (b:=.append) (xs:=#[.tmp 39,.tmp 41]) rfl ?_);at_builtin;refine Kd.R_append (Kd.int .i64) (w0:=w) w.heap.size rfl (.tmp 39) (.tmp 41) 37 3 (.int .i64 0) 8 rfl Try.underlying37 info3 rfl (by decide) (by omega) u4 x4_1 (wrap64 (x6_2 + 1)) [.int .i64 (wrap64 (x6_2 + 1))] (fun _ => True) (fun _ => False) rfl rfl ?aP (fun _ hk => hk.elim) ?aF ?aO ?aB ?aS ?aL ?_;(case aP => exact rfl);(case aB => exact (by repeat (first|(with_reducible first|exact HB.out|apply below_alloc|apply pw_below_drewN|apply below_drew1|refine below_set ?_ GE642.out)|exact HB.out)));(case aF => exact (fun _ _ => trivial));(case aO => exact (by (with_reducible repeat (first|apply Kd.R_alloc|apply Kd.R_drewN|apply Kd.R_drew));exact HO_4.out));(case aS => exact (below_size (by repeat (first|(with_reducible first|exact HB.out|apply below_alloc|apply pw_below_drewN|apply below_drew1|refine below_set ?_ GE642.out)|exact HB.out))));(case aL => have:=LMc26.out;omega);intro v651 w29 ho hb hg hat;rw [← Ny650.out] at ho;have n0_:=Aside0.mk (blk_grown (g:=gb642) (o:=.cells #[.int .i64 a0_0,.int .i64 a0_1,.slice A0_2 l0_2.length c0_2] 24 (0,0)) (by (with_reducible repeat (first|refine blk_drewN ?_ _|refine blk_drew ?_|refine blk_alloc ?_ _));exact BK642.out) hg (Kd.R_ne HO_4.out BK642.out (by decide)));have n1_:=Aside0.mk (hb);have n2_:=Aside0.mk (ho);clear BK642;clear HB;clear HO_4;have BK642:=n0_;have HB:=n1_;have HO652:=n2_;clear n0_ n1_ n2_;clear ho hb hg hat))
          go_roundg k2
          case measure => have:=HK1.out;have:=HK2.out;omega
          case rel => exact ⟨(y650),(wrap64 (x5_1 + 1)),(by first|rfl|(simp;done)|(simp [*];done)),H',⟨by have:=HK1.out;have:=HK2.out;omega⟩,⟨by (with_reducible repeat (first|apply Kd.R_alloc|apply Kd.R_drewN|apply Kd.R_drew));exact HO652.out⟩,⟨by (with_reducible repeat (first|refine blk_drewN ?_ _|refine blk_drew ?_|refine blk_alloc ?_ _));exact BK642.out⟩,⟨by repeat (first|(with_reducible first|exact HB.out|apply below_alloc|apply pw_below_drewN|apply below_drew1|refine below_set ?_ GE642.out)|exact HB.out)⟩⟩
         ·rw [if_neg c26] at H
          exact absurd H (by simp)
    ·rw [if_neg c7] at H
     have c7b0 : decide (x5_1 < (l0_2.length : Int))=false:=decide_eq_false c7
     clear c7
     simp only [Option.some.injEq,Prod.mk.injEq] at H
     obtain ⟨rfl,rfl⟩:=H
     have hcz30_0 : wr.cell? ⟨gb642,0,none⟩=some (.int .i64 a0_0):=(blk_cell BK642.out 0).trans rfl
     have hcz30_1 : wr.cell? ⟨gb642,1,none⟩=some (.int .i64 a0_1):=(blk_cell BK642.out 1).trans rfl
     have hcz30_2 : wr.cell? ⟨gb642,2,none⟩=some (.slice A0_2 l0_2.length c0_2):=(blk_cell BK642.out 2).trans rfl
     have hfz30_0:=blk_frozen BK642.out 0
     have hfz30_1:=blk_frozen BK642.out 1
     have hfz30_2:=blk_frozen BK642.out 2
     go_wp2
     go_ret2
     exact ⟨_,by first|rfl|(simp [errW_none,errW_some] <;> rfl)|(simp [*,errW_none,errW_some] <;> rfl),by (with_reducible repeat (first|apply Kd.R_alloc|apply Kd.R_drewN|apply Kd.R_drew));exact HO_4.out,by repeat (first|(with_reducible first|exact HB.out|apply below_alloc|apply pw_below_drewN|apply below_drew1|refine below_set ?_ GE642.out)|exact HB.out)⟩
 ·replace c3:=Bool.eq_false_iff.mpr c3
  subst c3
  have H1 : (some (([] : List Int),80))=some (r1,r2):=by rw [if_neg (show ¬ (false=true) by decide)] at H;exact H
  clear H
  have H:=H1
  clear H1
  simp only [Option.some.injEq,Prod.mk.injEq] at H
  obtain ⟨rfl,rfl⟩:=H
  go_enter Try.func28,Try.ntmps28
  go_wp2_with (first|((with_reducible refine gate_dst (N:=1) rfl ?_);refine box_event ?hg (N:=1) ?hd (cs:=#[.int .i64 a0_0,.int .i64 a0_1,.slice A0_2 l0_2.length c0_2]) (t:=24) ?hr ?_;(case hd => rfl);(case hg => rfl);(case hr => first|(go_simp;done)|(go_simp;rfl));intro gb642 hg w31 hbox hb;have n0_:=Aside0.mk (below_step (by repeat (first|(with_reducible first|exact HB.out|apply below_alloc|apply pw_below_drewN|apply below_drew1)|exact HB.out)) hb);have n1_:=Aside0.mk (hbox);have n2_:=Aside0.mk ((by rw [hg];exact (below_size (by repeat (first|(with_reducible first|exact HB.out|apply below_alloc|apply pw_below_drewN|apply below_drew1)|exact HB.out))) : w.heap.size≤gb642));have n3_:=Aside0.mk ((by rw [hg];exact (below_size (by repeat (first|(with_reducible first|exact HB.out|apply below_alloc|apply pw_below_drewN|apply below_drew1)|exact HB.out))) : w.heap.size≤gb642));clear HB;have HB:=n0_;have BK642:=n1_;have GW642:=n2_;have GE642:=n3_;clear n0_ n1_ n2_ n3_;clear hb hbox hg;have hcz32_0 : w31.cell? ⟨gb642,0,none⟩=some (.int .i64 a0_0):=(blk_cell BK642.out 0).trans rfl;have hcz32_1 : w31.cell? ⟨gb642,1,none⟩=some (.int .i64 a0_1):=(blk_cell BK642.out 1).trans rfl;have hcz32_2 : w31.cell? ⟨gb642,2,none⟩=some (.slice A0_2 l0_2.length c0_2):=(blk_cell BK642.out 2).trans rfl;have hfz32_0:=blk_frozen BK642.out 0;have hfz32_1:=blk_frozen BK642.out 1;have hfz32_2:=blk_frozen BK642.out 2)|((with_reducible refine gate_callee (f:=24) rfl ?_);refine goesL_ (some 9) rfl rfl Try.func24 (by kernel_rfl) rfl #[.agg #[.int .i64 a0_0,.int .i64 a0_1,.slice A0_2 l0_2.length c0_2]] rfl (by (try simp only [List.map_toArray,List.map_cons,List.map_nil]);first|done|rfl|(simp only [List.length_drop,List.length_take];rfl)) ?_;(with_reducible refine (phasorref08_May.calls k a0_0 a0_1 _ _ l0_2 false _ ?side1 ?side2 A2.out).mono ?_);(case side1 => repeat (first|exact (Kd.C_below HR0_2.out HB.out)|(with_reducible refine Kd.C_alloc ?_ _)|(with_reducible refine Kd.C_drewN ?_ _)|(with_reducible refine Kd.C_drew ?_)));(case side2 => exact HC0_2.out);rintro e w33 ⟨rfl,hb⟩;refine ⟨_,rfl,?_⟩;have n0_:=Aside0.mk (blk_below (g:=gb642) (o:=.cells #[.int .i64 a0_0,.int .i64 a0_1,.slice A0_2 l0_2.length c0_2] 24 (0,0)) (by (with_reducible repeat (first|refine blk_drewN ?_ _|refine blk_drew ?_|refine blk_alloc ?_ _));exact BK642.out) hb);have n1_:=Aside0.mk (below_step (by repeat (first|(with_reducible first|exact HB.out|apply below_alloc|apply pw_below_drewN|apply below_drew1|refine below_set ?_ GE642.out)|exact HB.out)) hb);clear BK642;clear HB;have BK642:=n0_;have HB:=n1_;clear n0_ n1_;(try clear hb);(try clear hb2);(try clear hk);(try clear hi)))
  go_ret2
  exact ⟨_,by first|rfl|(simp [errW_none,errW_some] <;> rfl)|(simp [*,errW_none,errW_some] <;> rfl),by first|exact Kd.R_nil _ _ _ _ _|exact Kd.N_nil _ _ _ _ _|exact Kd.V_nil _ _ _ _ _|exact Kd.Q_nil _ _ _ _ _|exact Kd.S_nil _ _ _ _ _,by repeat (first|(with_reducible first|exact HB.out|apply below_alloc|apply pw_below_drewN|apply below_drew1|refine below_set ?_ GE642.out)|exact HB.out)⟩
end Go.Proofs.Ytbelnopbggkdfaa.Q
end

section
namespace Go.Proofs.Ytbelnopbggkdfaa.Q
open Go.RowKit Go.Proofs.YtbelnopbggkdfaaW.PrintWords Go.Proofs.YtbelnopbggkdfaaW.PrintLast Go.Proofs.YtbelnopbggkdfaaW.PrintMore
attribute [local go_sem] max2_int min2_int max_two min_two max_three min_three max_four min_four   -- for this text's walks alone
set_option linter.unusedVariables false
set_option linter.unusedSimpArgs false
def phasorref19_Depth.l0 : Nat→List Int→Int→Int→Int→Option (Int × Int)
 | 0,_,_,_,_ => none
 | k + 1,x4,x5,x6,x7 => if x7 < (x4.length : Int) then (if 0≤x7 then (phasorref19_Depth.l0 k x4 x5 (mx x6 (rd x4 x7)) (wrap64 (x7 + 1))) else (none)) else (some (x6,x5))
def phasorref19_Depth.f (k : Nat) (a0_0 : Int) (a0_1 : Int) (l0_2 : List (S46)) : Option (Int × Int):=(phasorref19_Early.f k a0_0 a0_1 l0_2).bind fun bt656 => (phasorref19_Depth.l0 k bt656.1 bt656.2 0 0)
set_option maxHeartbeats 8000000 in
set_option maxRecDepth 100000 in
theorem phasorref19_Depth.calls (k : Nat) (a0_0 : Int) (a0_1 : Int) (A0_2 : Option Addr) (c0_2 : Nat) (l0_2 : List (S46)) (r1 : Int) (r2 : Int) (w : World) (hr0_2 : Kd.C k46 w A0_2 l0_2.length l0_2) (hc0_2 : l0_2.length≤c0_2) (h : phasorref19_Depth.f k a0_0 a0_1 l0_2=some (r1,r2)) :
  Calls Try.prog 35 #[.agg #[.int .i64 a0_0,.int .i64 a0_1,.slice A0_2 l0_2.length c0_2]] w fun e w' => e=.returned (.tuple #[.int .i64 r1,.int .i64 r2])∧Below w.heap.size w w':=by
 have hu24:=Try.underlying24
 have HR0_2:=Aside0.mk hr0_2
 have HC0_2:=Aside0.mk hc0_2
 clear hr0_2 hc0_2
 have HB:=Aside0.mk (Below.refl w.heap.size w)
 have H : ((phasorref19_Early.f k a0_0 a0_1 l0_2).bind fun bt656 => (phasorref19_Depth.l0 k bt656.1 bt656.2 0 0))=some (r1,r2):=h
 clear h
 replace H:=Option.bind_eq_some_iff.mp H
 obtain ⟨⟨t656,t659⟩,A20,H⟩:=H
 replace H : (phasorref19_Depth.l0 k t656 t659 0 0)=some (r1,r2):=H
 have A2:=Aside0.mk A20
 clear A20
 have H':=Aside0.mk H
 clear H
 go_enter Try.func35,Try.ntmps35
 go_wp2_with (first|((with_reducible refine gate_dst (N:=1) rfl ?_);refine box_event ?hg (N:=1) ?hd (cs:=#[.int .i64 a0_0,.int .i64 a0_1,.slice A0_2 l0_2.length c0_2]) (t:=24) ?hr ?_;(case hd => rfl);(case hg => rfl);(case hr => first|(go_simp;done)|(go_simp;rfl));intro gb655 hg w3 hbox hb;have n0_:=Aside0.mk (below_step (by repeat (first|(with_reducible first|exact HB.out|apply below_alloc|apply pw_below_drewN|apply below_drew1)|exact HB.out)) hb);have n1_:=Aside0.mk (hbox);have n2_:=Aside0.mk ((by rw [hg];exact (below_size (by repeat (first|(with_reducible first|exact HB.out|apply below_alloc|apply pw_below_drewN|apply below_drew1)|exact HB.out))) : w.heap.size≤gb655));have n3_:=Aside0.mk ((by rw [hg];exact (below_size (by repeat (first|(with_reducible first|exact HB.out|apply below_alloc|apply pw_below_drewN|apply below_drew1)|exact HB.out))) : w.heap.size≤gb655));clear HB;have HB:=n0_;have BK655:=n1_;have GW655:=n2_;have GE655:=n3_;clear n0_ n1_ n2_ n3_;clear hb hbox hg;have hcz4_0 : w3.cell? ⟨gb655,0,none⟩=some (.int .i64 a0_0):=(blk_cell BK655.out 0).trans rfl;have hcz4_1 : w3.cell? ⟨gb655,1,none⟩=some (.int .i64 a0_1):=(blk_cell BK655.out 1).trans rfl;have hcz4_2 : w3.cell? ⟨gb655,2,none⟩=some (.slice A0_2 l0_2.length c0_2):=(blk_cell BK655.out 2).trans rfl;have hfz4_0:=blk_frozen BK655.out 0;have hfz4_1:=blk_frozen BK655.out 1;have hfz4_2:=blk_frozen BK655.out 2)|((with_reducible refine gate_callee (f:=28) rfl ?_);refine goesL_ (some 10) rfl rfl Try.func28 (by kernel_rfl) rfl #[.agg #[.int .i64 a0_0,.int .i64 a0_1,.slice A0_2 l0_2.length c0_2]] rfl (by (try simp only [List.map_toArray,List.map_cons,List.map_nil]);first|done|rfl|(simp only [List.length_drop,List.length_take];rfl)) ?_;(with_reducible refine (phasorref19_Early.calls k a0_0 a0_1 _ _ l0_2 t656 t659 _ ?side1 ?side2 A2.out).mono ?_);(case side1 => repeat (first|exact (Kd.C_below HR0_2.out HB.out)|(with_reducible refine Kd.C_alloc ?_ _)|(with_reducible refine Kd.C_drewN ?_ _)|(with_reducible refine Kd.C_drew ?_)));(case side2 => exact HC0_2.out);rintro e w5 ⟨v657,rfl,ho0,hb⟩;refine ⟨_,rfl,?_⟩;have n0_:=Aside0.mk (Kd.R_lower ho0 (below_size (by repeat (first|(with_reducible first|exact HB.out|apply below_alloc|apply pw_below_drewN|apply below_drew1|refine below_set ?_ GE655.out)|exact HB.out))));have n1_:=Aside0.mk (blk_below (g:=gb655) (o:=.cells #[.int .i64 a0_0,.int .i64 a0_1,.slice A0_2 l0_2.length c0_2] 24 (0,0)) (by (with_reducible repeat (first|refine blk_drewN ?_ _|refine blk_drew ?_|refine blk_alloc ?_ _));exact BK655.out) hb);have n2_:=Aside0.mk (below_step (by repeat (first|(with_reducible first|exact HB.out|apply below_alloc|apply pw_below_drewN|apply below_drew1|refine below_set ?_ GE655.out)|exact HB.out)) hb);clear BK655;clear HB;have HO658:=n0_;have BK655:=n1_;have HB:=n2_;clear n0_ n1_ n2_;(try clear hb);(try clear hb2);(try clear hk);(try clear hi);(try clear ho0)))
 go_loopg [6,7] k (fun kq v6 v7 w' => ∃ (x6_1 : Int) (x7_1 : Int),v6=.int .i64 x6_1∧v7=.int .i64 x7_1∧Aside0 (phasorref19_Depth.l0 kq t656 t659 x6_1 x7_1=some (r1,r2))∧Aside0 (kq≤k)∧Aside0 (Kd.R (Kd.int .i64) 3 w' w.heap.size (fun _ => True) v657 t656)∧Aside0 (w'.heap[gb655]?=some (.cells #[.int .i64 a0_0,.int .i64 a0_1,(.slice A0_2 l0_2.length c0_2)] 24 (0,0)))∧Aside0 (Below w.heap.size w w'))
 case atStart => exact ⟨(0),(0),(by first|rfl|(simp;done)|(simp [*];done)),(by first|rfl|(simp;done)|(simp [*];done)),H',⟨Nat.le_refl _⟩,⟨by (with_reducible repeat (first|apply Kd.R_alloc|apply Kd.R_drewN|apply Kd.R_drew));exact HO658.out⟩,⟨by (with_reducible repeat (first|refine blk_drewN ?_ _|refine blk_drew ?_|refine blk_alloc ?_ _));exact BK655.out⟩,⟨by repeat (first|(with_reducible first|exact HB.out|apply below_alloc|apply pw_below_drewN|apply below_drew1|refine below_set ?_ GE655.out)|exact HB.out)⟩⟩
 case round =>
  clear H'
  try clear c2
  try clear p2
  try clear c3
  try clear hcz4_0
  try clear hcz4_1
  try clear hcz4_2
  try clear hfz4_0
  try clear hfz4_1
  try clear hfz4_2
  obtain ⟨x6_1,x7_1,rfl,rfl,HA,HK1,HO_4,BK655,HB⟩:=hrel
  cases gk with
  | zero => exact absurd HA.out (by simp [phasorref19_Depth.l0])
  | succ k1 =>
   have H:=HA.out
   clear HA
   simp only [phasorref19_Depth.l0] at H
   by_cases c6 : x7_1 < (t656.length : Int)
   ·rw [if_pos c6] at H
    have c6b0 : decide (x7_1 < (t656.length : Int))=true:=decide_eq_true c6
    clear c6
    by_cases c7 : 0≤x7_1
    ·rw [if_pos c7] at H
     have c7b0 : decide (0≤x7_1)=true:=decide_eq_true c7
     clear c7
     obtain ⟨ji8,hji8⟩ : ∃ j_ : Int,(mx x6_1 (rd t656 x7_1))=j_:=⟨_,rfl⟩
     replace H : (phasorref19_Depth.l0 k1 t656 t659 ji8 (wrap64 (x7_1 + 1)))=some (r1,r2):=by first|(rw [hji8] at H;exact H)|(simp only [hji8] at H ⊢;exact H)
     have hji8_ : (if x6_1 < (rd t656 x7_1) then (rd t656 x7_1) else x6_1)=ji8:=hji8
     have H':=Aside0.mk H
     clear H
     obtain ⟨Ao9,co9,eo9⟩:=Kd.R_slice HO_4.out
     subst eo9
     have p660 : 0≤(x7_1 : Int):=of_decide_eq_true (by first|(with_reducible assumption)|assumption)
     have q660 : x7_1 < (t656.length : Int):=of_decide_eq_true (by first|(with_reducible assumption)|assumption)
     obtain ⟨ad660,e660,hx660_0⟩:=Kd.at_int (Kd.R_reads' HO_4.out).2.2 x7_1 p660 q660
     cases e660
     replace p660:=eq_true p660
     replace q660:=eq_true q660
     go_wp2
     go_roundg k1
     case measure => have:=HK1.out;omega
     case rel => exact ⟨(ji8),(wrap64 (x7_1 + 1)),(by first|rfl|(simp;done)|(simp only [← hji8] <;> (first|rfl|simp))|(simp [*];done)),(by first|rfl|(simp;done)|(simp [*];done)),H',⟨by have:=HK1.out;omega⟩,⟨by (with_reducible repeat (first|apply Kd.R_alloc|apply Kd.R_drewN|apply Kd.R_drew));exact HO_4.out⟩,⟨by (with_reducible repeat (first|refine blk_drewN ?_ _|refine blk_drew ?_|refine blk_alloc ?_ _));exact BK655.out⟩,⟨by repeat (first|(with_reducible first|exact HB.out|apply below_alloc|apply pw_below_drewN|apply below_drew1|refine below_set ?_ GE655.out)|exact HB.out)⟩⟩
    ·rw [if_neg c7] at H
     exact absurd H (by simp)
   ·rw [if_neg c6] at H
    have c6b0 : decide (x7_1 < (t656.length : Int))=false:=decide_eq_false c6
    clear c6
    simp only [Option.some.injEq,Prod.mk.injEq] at H
    obtain ⟨rfl,rfl⟩:=H
    obtain ⟨Ao10,co10,eo10⟩:=Kd.R_slice HO_4.out
    subst eo10
    go_wp2
    go_ret2
    exact ⟨by first|rfl|(simp [errW_none,errW_some] <;> rfl)|(simp [*,errW_none,errW_some] <;> rfl),by repeat (first|(with_reducible first|exact HB.out|apply below_alloc|apply pw_below_drewN|apply below_drew1|refine below_set ?_ GE655.out)|exact HB.out)⟩
end Go.Proofs.Ytbelnopbggkdfaa.Q
end

section
namespace Go.Proofs.Ytbelnopbggkdfaa.Q
open Go.RowKit Go.Proofs.YtbelnopbggkdfaaW.PrintWords Go.Proofs.YtbelnopbggkdfaaW.PrintLast Go.Proofs.YtbelnopbggkdfaaW.PrintMore
theorem rcopy_l0 {q b : Int} {l : List Opn} (hf : ∀ o ∈ l,o.f2.length < 17592186044416) (hn : l.length < 2199023255552) :
    ∀ (d i : Nat),l.length - i=d→i≤l.length→Evt fun k => phasorref08_Copy.l0 k (i : Int) q b l q b (l.take i)=some (q,b,l)
  | 0,i,hd,hi => by
    refine (Evt.all (p:=fun _ => True) fun _ => trivial).succ fun k _ => ?_
    unfold phasorref08_Copy.l0
    rw [if_neg (by omega),List.take_of_length_le (by omega)]
  | d + 1,i,hd,hi => by
    have hil : i < l.length:=by omega
    refine (rcopy_l0 (q:=q) (b:=b) hf hn d (i + 1) (by omega) (by omega)).succ fun k hk => ?_
    have h2:=hf _ (List.getElem_mem hil)
    unfold phasorref08_Copy.l0
    rw [if_pos (by omega),if_pos (by omega),rdT_nat hil,if_pos (by simpa using h2),if_pos (by rw [List.length_take];omega),w64 (by omega) (by omega),show (i : Int) + 1=((i + 1 : Nat) : Int) by omega]
    have e : l.take i ++ [(⟨l[i].f0,l[i].f1,([] : List Int) ++ l[i].f2,l[i].f3,l[i].f4,l[i].f5⟩ : Opn)]=l.take (i + 1):=by
      rw [List.take_add_one,List.getElem?_eq_getElem hil,List.nil_append];rfl
    rw [e,hk]
theorem rcopy_is {q b : Int} {l : List Opn} (hf : ∀ o ∈ l,o.f2.length < 17592186044416) (hn : l.length < 2199023255552) : Evt fun k => phasorref08_Copy.f k q b l=some (q,b,l) :=
  (rcopy_l0 hf hn l.length 0 (by omega) (by omega)).mono fun k hk => by simpa [phasorref08_Copy.f] using hk
theorem ints8_l0 {l : List Int} (hn : l.length≤4611686018427387904) : ∀ (d i : Nat),l.length - i=d→i≤l.length→Evt fun k => phasorref08_ints.l0 k l l (i : Int)=some true
  | 0,i,hd,hi => by
    refine (Evt.all (p:=fun _ => True) fun _ => trivial).succ fun k _ => ?_
    unfold phasorref08_ints.l0
    rw [if_neg (by omega)]
  | d + 1,i,hd,hi => by
    refine (ints8_l0 hn d (i + 1) (by omega) (by omega)).succ fun k hk => ?_
    unfold phasorref08_ints.l0
    rw [if_pos (by omega),if_pos (by omega),if_pos (by omega),if_pos rfl,w64 (by omega) (by omega),show (i : Int) + 1=((i + 1 : Nat) : Int) by omega,hk]
theorem ints8_is {l : List Int} (hn : l.length≤4611686018427387904) : Evt fun k => phasorref08_ints.f k l l=some true :=
  (ints8_l0 hn l.length 0 (by omega) (by omega)).mono fun k hk => by simpa [phasorref08_ints.f] using hk
theorem ints19_l0 {l : List Int} (hn : l.length≤4611686018427387904) : ∀ (d i : Nat),l.length - i=d→i≤l.length→Evt fun k => phasorlaw19_ints.l0 k l l (i : Int)=some true
  | 0,i,hd,hi => by
    refine (Evt.all (p:=fun _ => True) fun _ => trivial).succ fun k _ => ?_
    unfold phasorlaw19_ints.l0
    rw [if_neg (by omega)]
  | d + 1,i,hd,hi => by
    refine (ints19_l0 hn d (i + 1) (by omega) (by omega)).succ fun k hk => ?_
    unfold phasorlaw19_ints.l0
    rw [if_pos (by omega),if_pos (by omega),if_pos (by omega),if_pos rfl,w64 (by omega) (by omega),show (i : Int) + 1=((i + 1 : Nat) : Int) by omega,hk]
theorem ints19_is {l : List Int} (hn : l.length≤4611686018427387904) : Evt fun k => phasorlaw19_ints.f k l l=some true :=
  (ints19_l0 hn l.length 0 (by omega) (by omega)).mono fun k hk => by simpa [phasorlaw19_ints.f] using hk
theorem same_l0 {q b : Int} {l : List Opn} (hf : ∀ o ∈ l,o.f2.length < 17592186044416) (hn : l.length < 2199023255552) :
    ∀ (d i : Nat),l.length - i=d→i≤l.length→Evt fun k => phasorref08_Same.l0 k (i : Int) q b l q b l=some true
  | 0,i,hd,hi => by
    refine (Evt.all (p:=fun _ => True) fun _ => trivial).succ fun k _ => ?_
    unfold phasorref08_Same.l0
    rw [if_neg (by omega)]
  | d + 1,i,hd,hi => by
    have hil : i < l.length:=by omega
    have h2:=hf _ (List.getElem_mem hil)
    refine ((same_l0 (q:=q) (b:=b) hf hn d (i + 1) (by omega) (by omega)).and (ints8_is (l:=l[i].f2) (by omega))).succ fun k ⟨hk,hk2⟩ => ?_
    unfold phasorref08_Same.l0 phasorref08_SameOp.f
    rw [if_pos (by omega),if_pos (by omega),if_pos (by omega),rdT_nat hil,if_pos rfl,if_pos rfl,if_pos rfl,if_pos rfl,if_pos rfl,hk2]
    simp only [Option.bind_some]
    rw [if_pos trivial,w64 (by omega) (by omega),show (i : Int) + 1=((i + 1 : Nat) : Int) by omega,hk]
theorem same_is {q b : Int} {l : List Opn} (hf : ∀ o ∈ l,o.f2.length < 17592186044416) (hn : l.length < 2199023255552) : Evt fun k => phasorref08_Same.f k q b l q b l=some true :=
  (same_l0 (q:=q) (b:=b) hf hn l.length 0 (by omega) (by omega)).succ fun k hk => by simpa [phasorref08_Same.f,phasorref08_Same.j0] using hk
theorem told_l0 {R : Bool} : ∀ (d i : Nat) (l : List Int),l.length≤4611686018427387904→l.length - i=d→i≤l.length→Evt fun k => ∃ r,phasorlaw19_told.l0 k l R (i : Int)=some (R,r)
  | 0,i,l,hn,hd,hi => by
    refine (Evt.all (p:=fun _ => True) fun _ => trivial).succ fun k _ => ?_
    unfold phasorlaw19_told.l0
    rw [if_neg (by omega)]
    exact ⟨_,rfl⟩
  | d + 1,i,l,hn,hd,hi => by
    refine (told_l0 (R:=R) d (i + 1) (l.set i (-7)) (by simpa using hn) (by simp;omega) (by simp;omega)).succ fun k ⟨r,hk⟩ => ?_
    unfold phasorlaw19_told.l0
    rw [if_pos (by omega),if_pos (by omega),w64 (by omega) (by omega),show (i : Int) + 1=((i + 1 : Nat) : Int) by omega,Int.toNat_natCast,hk]
    exact ⟨r,rfl⟩
theorem told_is {l : List Int} {e : Int} (hn : l.length≤4611686018427387904) : Evt fun k => ∃ r,phasorlaw19_told.f k l e l e=some (true,r) :=
  (((told_l0 (R:=true) l.length 0 l hn (by omega) (by omega)).succ (q:=fun k => ∃ r,phasorlaw19_told.j0 k l true=some (true,r)) fun k hk => by simpa [phasorlaw19_told.j0] using hk).and (ints19_is hn)).mono fun k ⟨⟨r,h1⟩,h2⟩ => by
    unfold phasorlaw19_told.f
    rw [h2]
    simp only [Option.bind_some]
    rw [if_pos trivial,show (e == e)=true by simp,h1]
    exact ⟨r,rfl⟩
theorem rearly_no {q b : Int} {l : List Opn} (hw : WfL l) (h : okc q b l=false) : Evt fun k => phasorref19_Early.f k q b l=some ([],80) :=
  (may_is (q:=q) (b:=b) hw).mono fun k hk => by
    unfold phasorref19_Early.f
    rw [hk,h]
    rfl
theorem rearly_l1 {q b : Int} {l : List Opn} (h : CircF q b l) {done : List Int} {i : Nat} (hi : i < l.length) (hd : done.length=i) (hb : ∀ x ∈ done,0≤x∧x≤i) :
    ∀ (d kk : Nat) (m : Int),i - kk=d→kk≤i→Lub (fun x => ∃ j,j < kk∧tch (at_ l i) (at_ l j)=true∧x=nth done j) m →
      ∃ M,Lub (fun x => ∃ j,j < i∧tch (at_ l i) (at_ l j)=true∧x=nth done j) M∧∀ R,(Evt fun k => phasorref19_Early.l0 k (done ++ [M + inc (at_ l i)]) ((i + 1 : Nat) : Int) q b l=some R)→Evt fun k => phasorref19_Early.l1 k done (i : Int) m (kk : Int) q b l=some R
  | 0,kk,m,hd',hk,hm => by
    have hn:=h.n
    obtain rfl : kk=i:=by omega
    refine ⟨m,hm,fun R hR => hR.succ fun k hk2 => ?_⟩
    have hm1 : 0≤m∧m≤kk:=⟨hm.2.1,by
      rcases hm.2.2 with e | ⟨j,hj,_,e⟩
      · omega
      · rw [e,nth_get (by omega)];exact (hb _ (List.getElem_mem _)).2⟩
    unfold phasorref19_Early.l1
    rw [if_neg (by omega),bar_is hi]
    simp only [Option.bind_some]
    rw [← at_get hi]
    by_cases c : (at_ l kk).f0=4
    · have e : inc (at_ l kk)=0:=if_pos c
      rw [e,Int.add_zero] at hk2
      rw [if_pos (beq_iff_eq.2 c),if_pos (by omega),w64 (by omega) (by omega),show (kk : Int) + 1=((kk + 1 : Nat) : Int) by omega,hk2]
    · have e : inc (at_ l kk)=1:=if_neg c
      rw [e] at hk2
      rw [if_neg (by simpa using c),if_pos (by omega),w64 (x:=m + 1) (by omega) (by omega),w64 (x:=(kk : Int) + 1) (by omega) (by omega),show (kk : Int) + 1=((kk + 1 : Nat) : Int) by omega,hk2]
  | d + 1,kk,m,hd',hk,hm => by
    have hn:=h.n
    have hkl : kk < l.length:=by omega
    have ht:=touch_is h hi hkl
    rw [← at_get hi,← at_get hkl] at ht
    by_cases c : tch (at_ l i) (at_ l kk)=true
    · have hm' : Lub (fun x => ∃ j,j < kk + 1∧tch (at_ l i) (at_ l j)=true∧x=nth done j) (mx m (nth done kk)):=by
        have h2 : Lub (fun x => x=nth done kk) (nth done kk):=⟨fun x hx => by omega,by rw [nth_get (by omega)];exact (hb _ (List.getElem_mem _)).1,.inr rfl⟩
        refine (hm.or h2).congr fun x => ?_
        constructor
        · rintro (⟨j,hj,hjt,rfl⟩|rfl)
          · exact ⟨j,by omega,hjt,rfl⟩
          · exact ⟨kk,by omega,c,rfl⟩
        · rintro ⟨j,hj,hjt,rfl⟩
          by_cases hjk : j < kk
          · exact .inl ⟨j,hjk,hjt,rfl⟩
          · obtain rfl : j=kk:=by omega
            exact .inr rfl
      obtain ⟨M,hM,hR⟩:=rearly_l1 h hi hd hb d (kk + 1) _ (by omega) (by omega) hm'
      refine ⟨M,hM,fun R hR0 => ((hR R hR0).and ht).succ fun k ⟨hk1,hk2⟩ => ?_⟩
      unfold phasorref19_Early.l1
      rw [if_pos (by omega),hk2]
      simp only [Option.bind_some]
      rw [if_pos c,if_pos (by omega),if_pos (by omega),rd_nth,w64 (by omega) (by omega),show (kk : Int) + 1=((kk + 1 : Nat) : Int) by omega,hk1]
    · have hm' : Lub (fun x => ∃ j,j < kk + 1∧tch (at_ l i) (at_ l j)=true∧x=nth done j) m:=hm.congr fun x => by
        constructor
        · rintro ⟨j,hj,hjt,rfl⟩;exact ⟨j,by omega,hjt,rfl⟩
        · rintro ⟨j,hj,hjt,rfl⟩
          by_cases hjk : j < kk
          · exact ⟨j,hjk,hjt,rfl⟩
          · obtain rfl : j=kk:=by omega
            exact absurd hjt c
      obtain ⟨M,hM,hR⟩:=rearly_l1 h hi hd hb d (kk + 1) _ (by omega) (by omega) hm'
      refine ⟨M,hM,fun R hR0 => ((hR R hR0).and ht).succ fun k ⟨hk1,hk2⟩ => ?_⟩
      unfold phasorref19_Early.l1
      rw [if_pos (by omega),hk2]
      simp only [Option.bind_some]
      rw [if_neg c,w64 (by omega) (by omega),show (kk : Int) + 1=((kk + 1 : Nat) : Int) by omega,hk1]
theorem rearly_l0 {q b : Int} {l : List Opn} (h : CircF q b l) : ∀ (d i : Nat) (done : List Int),l.length - i=d→i≤l.length→done.length=i→(∀ x ∈ done,0≤x∧x≤i)→EarlyP i (at_ l) (nth done) →
    ∃ E,(Evt fun k => phasorref19_Early.l0 k done (i : Int) q b l=some (E,0))∧E.length=l.length∧EarlyP l.length (at_ l) (nth E)
  | 0,i,done,hd,hi,hl,_,hE => by
    obtain rfl : i=l.length:=by omega
    refine ⟨done,(Evt.all (p:=fun _ => True) fun _ => trivial).succ fun k _ => ?_,hl,hE⟩
    unfold phasorref19_Early.l0
    rw [if_neg (by omega)]
  | d + 1,i,done,hd,hi,hl,hb,hE => by
    have hil : i < l.length:=by omega
    obtain ⟨M,hM,hR⟩:=rearly_l1 h hil hl hb i 0 0 (by omega) (by omega) (Lub.none fun x => by rintro ⟨j,hj,_⟩;omega)
    have hi1:=inc_01 (at_ l i)
    have hM1 : 0≤M∧M≤i:=⟨hM.2.1,by
      rcases hM.2.2 with e | ⟨j,hj,_,e⟩
      · omega
      · rw [e,nth_get (by omega)];exact (hb _ (List.getElem_mem _)).2⟩
    have hE2 : EarlyP (i + 1) (at_ l) (nth (done ++ [M + inc (at_ l i)])):=fun j hj => by
      by_cases hji : j < i
      · rw [nth_app1 (by omega)]
        refine (hE j hji).congr fun x => ?_
        constructor
        · rintro ⟨k,hk,ht,rfl⟩;exact ⟨k,hk,ht,(nth_app1 (by omega)).symm⟩
        · rintro ⟨k,hk,ht,rfl⟩;exact ⟨k,hk,ht,nth_app1 (by omega)⟩
      · obtain rfl : j=i:=by omega
        have e : nth (done ++ [M + inc (at_ l j)]) j=M + inc (at_ l j):=by
          have:=nth_mid done [] (M + inc (at_ l j))
          rwa [hl] at this
        rw [e,show M + inc (at_ l j) - inc (at_ l j)=M by omega]
        refine hM.congr fun x => ?_
        constructor
        · rintro ⟨k,hk,ht,rfl⟩;exact ⟨k,hk,ht,(nth_app1 (by omega)).symm⟩
        · rintro ⟨k,hk,ht,rfl⟩;exact ⟨k,hk,ht,nth_app1 (by omega)⟩
    obtain ⟨E,e1,e2,e3⟩:=rearly_l0 h d (i + 1) (done ++ [M + inc (at_ l i)]) (by omega) (by omega) (by simp [hl]) (fun x hx => by
      rcases List.mem_append.1 hx with hx|hx
      · have:=hb x hx;omega
      · obtain rfl:=List.mem_singleton.1 hx;omega) hE2
    refine ⟨E,(hR _ e1).succ fun k hk => ?_,e2,e3⟩
    unfold phasorref19_Early.l0
    rw [if_pos (by omega)]
    exact hk
theorem rearly_is {q b : Int} {l : List Opn} (hw : WfL l) (h : CircF q b l) {E : List Int} (hl : E.length=l.length) (hE : EarlyP l.length (at_ l) (nth E)) : Evt fun k => phasorref19_Early.f k q b l=some (E,0):=by
  obtain ⟨E',e1,e2,e3⟩:=rearly_l0 h l.length 0 [] (by omega) (by omega) rfl (by simp) (fun i hi => by omega)
  have e : E'=E:=List.ext_getElem (by omega) fun i h1 h2 => by
    have:=e3.uniq hE i (by omega)
    rwa [nth_get h1,nth_get h2] at this
  subst e
  refine (e1.and (may_is (q:=q) (b:=b) hw)).mono fun k ⟨hk,hk2⟩ => ?_
  unfold phasorref19_Early.f
  rw [hk2,h.okc]
  simpa using hk
theorem rdepth_l0 {E : List Int} {e : Int} (h0 : ∀ x ∈ E,0≤x) (hn : E.length≤4611686018427387904) : ∀ (d i : Nat) (m : Int),E.length - i=d→i≤E.length→Lub (fun x => ∃ j,j < i∧x=nth E j) m →
    ∃ D,Lub (fun x => ∃ j,j < E.length∧x=nth E j) D∧Evt fun k => phasorref19_Depth.l0 k E e m (i : Int)=some (D,e)
  | 0,i,m,hd,hi,hm => by
    obtain rfl : i=E.length:=by omega
    refine ⟨m,hm,(Evt.all (p:=fun _ => True) fun _ => trivial).succ fun k _ => ?_⟩
    unfold phasorref19_Depth.l0
    rw [if_neg (by omega)]
  | d + 1,i,m,hd,hi,hm => by
    have h2 : Lub (fun x => x=nth E i) (nth E i):=⟨fun x hx => by omega,by rw [nth_get (by omega)];exact h0 _ (List.getElem_mem _),.inr rfl⟩
    obtain ⟨D,d1,d2⟩:=rdepth_l0 (e:=e) h0 hn d (i + 1) (mx m (nth E i)) (by omega) (by omega) ((hm.or h2).congr fun x => by
      constructor
      · rintro (⟨j,hj,rfl⟩|rfl)
        · exact ⟨j,by omega,rfl⟩
        · exact ⟨i,by omega,rfl⟩
      · rintro ⟨j,hj,rfl⟩
        by_cases c : j < i
        · exact .inl ⟨j,c,rfl⟩
        · obtain rfl : j=i:=by omega
          exact .inr rfl)
    refine ⟨D,d1,d2.succ fun k hk => ?_⟩
    unfold phasorref19_Depth.l0
    rw [if_pos (by omega),if_pos (by omega),rd_nth,w64 (by omega) (by omega),show (i : Int) + 1=((i + 1 : Nat) : Int) by omega,hk]
theorem rdepth_of {q b : Int} {l : List Opn} {E : List Int} {e D : Int} (hE : Evt fun k => phasorref19_Early.f k q b l=some (E,e)) (h0 : ∀ x ∈ E,0≤x) (hn : E.length≤4611686018427387904) (hD : Lub (fun x => ∃ j,j < E.length∧x=nth E j) D) :
    Evt fun k => phasorref19_Depth.f k q b l=some (D,e):=by
  obtain ⟨D',d1,d2⟩:=rdepth_l0 (e:=e) h0 hn E.length 0 0 (by omega) (by omega) (Lub.none fun x => by rintro ⟨j,hj,_⟩;omega)
  obtain rfl:=d1.uniq hD
  refine (hE.and d2).mono fun k ⟨h1,h2⟩ => ?_
  unfold phasorref19_Depth.f
  rw [h1]
  simpa using h2
theorem rdepth_no {q b : Int} {l : List Opn} (hw : WfL l) (h : okc q b l=false) : Evt fun k => phasorref19_Depth.f k q b l=some (0,80) :=
  rdepth_of (rearly_no (q:=q) (b:=b) hw h) (by simp) (by simp) (Lub.none fun x => by rintro ⟨j,hj,_⟩;simp at hj)
end Go.Proofs.Ytbelnopbggkdfaa.Q
end

section
namespace Go.Proofs.Ytbelnopbggkdfaa.Q
open Go.RowKit Go.Proofs.YtbelnopbggkdfaaW.PrintWords Go.Proofs.YtbelnopbggkdfaaW.PrintLast Go.Proofs.YtbelnopbggkdfaaW.PrintMore
attribute [local go_sem] max2_int min2_int max_two min_two max_three min_three max_four min_four   -- for this text's walks alone
set_option linter.unusedVariables false
set_option linter.unusedSimpArgs false
def slices_Reverse_int_int.l0 : Nat→List Int→Int→Int→Option (List Int)
 | 0,_,_,_ => none
 | k + 1,x0,x2,x3 => if x2 < x3 then (if 0≤x3 then (if x3 < (x0.length : Int) then (if 0≤x2 then (if x2 < (x0.length : Int) then (slices_Reverse_int_int.l0 k ((x0.set (x2 : Int).toNat (rd x0 x3)).set (x3 : Int).toNat (rd x0 x2)) (wrap64 (x2 + 1)) (wrap64 (x3 - 1))) else (none)) else (none)) else (none)) else (none)) else (some x0)
def slices_Reverse_int_int.f (k : Nat) (l0 : List Int) : Option (List Int):=slices_Reverse_int_int.l0 k l0 0 (wrap64 ((l0.length : Int) - 1))
def slices_Reverse_int_int.T3 : Bool × List (List Nat × List Nat):=(true,[([],[]),([],[]),([],[]),([],[]),([],[]),([],[]),([4,5],[4,5]),([6],[6]),([],[]),([],[]),([8,9],[8,9]),([10],[10]),([0,1,0,1,4,5,6,7,11],[0,1]),([12,7,0,1,4,5,6,7,11],[7,12]),([2,3,0,1,2,3,4,5,6,7,8,9,10,11,12,13],[2,3]),([14,11,13,0,1,2,3,4,5,6,7,8,9,10,11,12,13],[11,14])])
def slices_Reverse_int_int.B3 : List Nat:=[0,0,0,0,0,0,48,112,0,0,768,1792,4083,8179,16383,32767]
theorem slices_Reverse_int_int.tab3 : rtab .any (opsOf Try.f87 3)=slices_Reverse_int_int.T3:=by kernel_rfl
theorem slices_Reverse_int_int.bits3 : waitsOk slices_Reverse_int_int.T3.2 slices_Reverse_int_int.B3=true:=by kernel_rfl
set_option maxHeartbeats 8000000 in
set_option maxRecDepth 100000 in
theorem slices_Reverse_int_int.calls (k : Nat) (P0_ : Nat→Prop) (u9000_ : Value) (l0 : List Int) (r : List Int) (w0 w : World) (hB : Below w0.heap.size w0 w) (ho0 : Kd.R (Kd.int .i64) 3 w w0.heap.size P0_ u9000_ l0) (h : slices_Reverse_int_int.f k l0=some r) :
  Calls Try.prog 87 #[u9000_] w fun e w' => e=.returned (.tuple #[])∧Kd.R (Kd.int .i64) 3 w' w0.heap.size (fun k_ => (P0_ k_∨w.heap.size≤k_)) u9000_ r∧Below w0.heap.size w0 w'∧Kept w w' (fun k_ => P0_ k_):=by
 have HO0:=Aside0.mk (show Kd.R (Kd.int .i64) 3 w w0.heap.size (fun k_ => (P0_ k_∨w.heap.size≤k_)) u9000_ l0 from Kd.R_mono ho0 (fun k_ hk => (.inl hk)))
 have HK:=Aside0.mk (Kept.refl w (fun k_ => P0_ k_))
 have HW0:=Aside0.mk hB.size
 have HB:=Aside0.mk hB
 clear hB
 have H : (slices_Reverse_int_int.l0 k l0 0 (wrap64 ((l0.length : Int) - 1)))=some r:=h
 clear h
 have H':=Aside0.mk H
 clear H
 obtain ⟨Ao2,co2,eo2⟩:=Kd.R_slice HO0.out
 subst eo2
 go_enter Try.func87,Try.ntmps87
 go_wp2
 go_loopg [2,3] k (fun kq v2 v3 w' => ∃ (x0_1 : List Int) (x2_1 : Int) (x3_1 : Int),v2=.int .i64 x2_1∧v3=.int .i64 x3_1∧Aside0 (slices_Reverse_int_int.l0 kq x0_1 x2_1 x3_1=some r)∧Aside0 (kq≤k)∧Aside0 (Kd.R (Kd.int .i64) 3 w' w0.heap.size (fun k_ => (P0_ k_∨w.heap.size≤k_)) (.slice Ao2 l0.length co2) x0_1)∧Aside0 (Kept w w' (fun k_ => P0_ k_))∧Aside0 (Below w0.heap.size w0 w'))
 case atStart => exact ⟨(l0),(0),(wrap64 ((l0.length : Int) - 1)),(by first|rfl|(simp;done)|(simp [*];done)),(by first|rfl|(simp;done)|(simp [*];done)),H',⟨Nat.le_refl _⟩,⟨by (with_reducible repeat (first|apply Kd.R_alloc|apply Kd.R_drewN|apply Kd.R_drew));exact HO0.out⟩,⟨by repeat (first|(with_reducible first|exact HK.out|apply Kept.alloc|apply Kept.drewN|apply Kept.drew)|exact HK.out)⟩,⟨by repeat (first|(with_reducible first|exact HB.out|apply below_alloc|apply pw_below_drewN|apply below_drew1)|exact HB.out)⟩⟩
 case round =>
  clear H'
  try clear p2
  obtain ⟨x0_1,x2_1,x3_1,rfl,rfl,HA,HK1,HO_0,HK,HB⟩:=hrel
  have hl0_1:=(Kd.R_reads' HO_0.out).1
  rw [hl0_1] at HO_0
  (try simp only [hl0_1])
  cases gk with
  | zero => exact absurd HA.out (by simp [slices_Reverse_int_int.l0])
  | succ k1 =>
   have H:=HA.out
   clear HA
   simp only [slices_Reverse_int_int.l0] at H
   by_cases c3 : x2_1 < x3_1
   ·rw [if_pos c3] at H
    have c3b0 : decide (x2_1 < x3_1)=true:=decide_eq_true c3
    clear c3
    by_cases c4 : 0≤x3_1
    ·rw [if_pos c4] at H
     have c4b0 : decide (0≤x3_1)=true:=decide_eq_true c4
     clear c4
     by_cases c5 : x3_1 < (x0_1.length : Int)
     ·rw [if_pos c5] at H
      have c5b0 : decide (x3_1 < (x0_1.length : Int))=true:=decide_eq_true c5
      clear c5
      by_cases c6 : 0≤x2_1
      ·rw [if_pos c6] at H
       have c6b0 : decide (0≤x2_1)=true:=decide_eq_true c6
       clear c6
       by_cases c7 : x2_1 < (x0_1.length : Int)
       ·rw [if_pos c7] at H
        have c7b0 : decide (x2_1 < (x0_1.length : Int))=true:=decide_eq_true c7
        clear c7
        obtain ⟨y521,hy521⟩ : ∃ y_ : List Int,y_=(x0_1.set (x2_1 : Int).toNat (rd x0_1 x3_1)):=⟨_,rfl⟩
        replace H : (slices_Reverse_int_int.l0 k1 (y521.set (x3_1 : Int).toNat (rd x0_1 x2_1)) (wrap64 (x2_1 + 1)) (wrap64 (x3_1 - 1)))=some r:=by first|(rw [hy521];with_reducible exact H)|(have H2_:=(Option.bind_some _ _).symm.trans H;rw [hy521];with_reducible exact H2_)|(have H2_:=(Option.bind_some _ _).symm.trans H;with_reducible exact H2_)|with_reducible exact H|(rw [hy521];exact H)|exact H
        have Ny521:=Aside0.mk hy521
        clear hy521
        obtain ⟨y522,hy522⟩ : ∃ y_ : List Int,y_=(y521.set (x3_1 : Int).toNat (rd x0_1 x2_1)):=⟨_,rfl⟩
        replace H : (slices_Reverse_int_int.l0 k1 y522 (wrap64 (x2_1 + 1)) (wrap64 (x3_1 - 1)))=some r:=by first|(rw [hy522];with_reducible exact H)|(have H2_:=(Option.bind_some _ _).symm.trans H;rw [hy522];with_reducible exact H2_)|(have H2_:=(Option.bind_some _ _).symm.trans H;with_reducible exact H2_)|with_reducible exact H|(rw [hy522];exact H)|exact H
        have Ny522:=Aside0.mk hy522
        clear hy522
        have H':=Aside0.mk H
        clear H
        try go_wp2
        have n0_:=Aside0.mk (Kd.R_drew HO_0.out)
        have n1_:=Aside0.mk (Kept.drew HK.out)
        have n2_:=Aside0.mk (below_drew1 HB.out)
        clear HO_0
        clear HK
        clear HB
        have HO_0:=n0_
        have HK:=n1_
        have HB:=n2_
        clear n0_ n1_ n2_
        have p519 : 0≤(x3_1 : Int):=of_decide_eq_true (by first|(with_reducible assumption)|assumption)
        have q519 : x3_1 < (x0_1.length : Int):=of_decide_eq_true (by first|(with_reducible assumption)|assumption)
        obtain ⟨ad519,e519,hx519_0⟩:=Kd.at_int (Kd.R_reads' HO_0.out).2.2 x3_1 p519 q519
        cases e519
        replace p519:=eq_true p519
        replace q519:=eq_true q519
        have p520 : 0≤(x2_1 : Int):=of_decide_eq_true (by first|(with_reducible assumption)|assumption)
        have q520 : x2_1 < (x0_1.length : Int):=of_decide_eq_true (by first|(with_reducible assumption)|assumption)
        obtain ⟨ad520,e520,hx520_0⟩:=Kd.at_int (Kd.R_reads' HO_0.out).2.2 x2_1 p520 q520
        obtain rfl : ad519=ad520:=(by injection e520)
        replace p520:=eq_true p520
        replace q520:=eq_true q520
        have p8 : 0≤(x2_1 : Int):=of_decide_eq_true (by first|(with_reducible assumption)|assumption)
        have q8 : (x2_1 : Int) < ((x0_1.length : Int) : Int):=of_decide_eq_true (by first|(with_reducible assumption)|assumption)
        obtain ⟨go8,co8,eo8,gb8,gl8,cl8,HG8⟩:=Kd.R_form HO_0.out (by omega)
        (first|cases eo8|(injection eo8 with ea_ en_ ec_;(first|subst ea_|(injection ea_ with ea_;subst ea_));subst ec_;clear en_))
        have GB8:=Aside0.mk gb8
        have GG8:=Aside0.mk HG8
        clear gb8 gl8 HG8
        have HMgo8:=Aside0.mk (show (P0_ go8∨w.heap.size≤go8) from (HO_0.out.1 _ rfl))
        (first|simp only [add_plain] at hx519_0|skip)
        (first|simp only [add_plain] at hx520_0|skip)
        obtain ⟨hx8_0,hf8_0⟩:=Kd.R_celln 0 HO_0.out (x2_1 : Int) p8 q8
        replace p8:=eq_true p8
        replace q8:=eq_true q8
        have HP11:=Kd.R_putn HO_0.out (x2_1 : Int) (rd x0_1 x3_1)
        rw [← Ny521.out] at HP11
        have HQ11:=Aside0.mk HP11
        clear HP11
        have p9 : 0≤(x3_1 : Int):=of_decide_eq_true (by first|(with_reducible assumption)|assumption)
        have q9 : (x3_1 : Int) < ((x0_1.length : Int) : Int):=of_decide_eq_true (by first|(with_reducible assumption)|assumption)
        obtain ⟨hx9_0,hf9_0⟩:=Kd.R_celln 0 HQ11.out (x3_1 : Int) p9 q9
        replace p9:=eq_true p9
        replace q9:=eq_true q9
        have HP12:=Kd.R_putn HQ11.out (x3_1 : Int) (rd x0_1 x2_1)
        rw [← Ny522.out] at HP12
        have HQ12:=Aside0.mk HP12
        clear HP12
        refine start_ (n:=16) (S:=fun w' => w'.cell? ⟨go8,(x3_1).toNat,none⟩=some (.int .i64 (rd x0_1 x3_1))∧w'.cell? ⟨go8,(x2_1).toNat,none⟩=some (.int .i64 (rd x0_1 x2_1))) (ds:=[13,15]) #[false,false,false,false,false,false,false,false,false,false,false,false,false,false,false,false] (by kernel_rfl) rfl rfl ⟨hx519_0,hx520_0⟩ (fun hHeld => ?_);refine with_tabW slices_Reverse_int_int.tab3 slices_Reverse_int_int.bits3 (fun HT_ HW_ => ?_)
        generalize wr.drew=w10 at HO_0 HK HB GG8 HQ11 HQ12 hf8_0 hf9_0 hx519_0 hx520_0 hx8_0 hx9_0 hHeld ⊢
        refine pure_ (i:=0) (N:=some 14) (v:=?_) (a':=?_) #[true,false,false,false,false,false,false,false,false,false,false,false,false,false,false,false] rfl rfl (any_of HT_.out (by kernel_rfl)) (fun _ _ _ h => h) (Or.inl ⟨by rfl,?_⟩) ?_ ?_
        rotate_left
        ·intro w'
         go_simp
         with_reducible rfl
        rotate_left
        ·simp only [Act.put,List.setIfInBounds_toArray,List.set_cons_zero,List.set_cons_succ,i64_w,i32_w]
         rfl
        refine pure_ (i:=1) (N:=some 15) (v:=?_) (a':=?_) #[true,true,false,false,false,false,false,false,false,false,false,false,false,false,false,false] rfl rfl (any_of HT_.out (by kernel_rfl)) (fun _ _ _ h => h) (Or.inl ⟨by rfl,?_⟩) ?_ ?_
        rotate_left
        ·intro w'
         go_simp
         with_reducible rfl
        rotate_left
        ·simp only [Act.put,List.setIfInBounds_toArray,List.set_cons_zero,List.set_cons_succ,i64_w,i32_w]
         rfl
        refine pure_ (i:=2) (N:=some 16) (v:=?_) (a':=?_) #[true,true,true,false,false,false,false,false,false,false,false,false,false,false,false,false] rfl rfl (any_of HT_.out (by kernel_rfl)) (fun _ _ _ h => h) (Or.inl ⟨by rfl,?_⟩) ?_ ?_
        rotate_left
        ·intro w'
         go_simp
         with_reducible rfl
        rotate_left
        ·simp only [Act.put,List.setIfInBounds_toArray,List.set_cons_zero,List.set_cons_succ,i64_w,i32_w]
         rfl
        refine pure_ (i:=3) (N:=some 17) (v:=?_) (a':=?_) #[true,true,true,true,false,false,false,false,false,false,false,false,false,false,false,false] rfl rfl (any_of HT_.out (by kernel_rfl)) (fun _ _ _ h => h) (Or.inl ⟨by rfl,?_⟩) ?_ ?_
        rotate_left
        ·intro w'
         go_simp
         with_reducible rfl
        rotate_left
        ·simp only [Act.put,List.setIfInBounds_toArray,List.set_cons_zero,List.set_cons_succ,i64_w,i32_w]
         rfl
        refine pure_ (i:=4) (N:=some 18) (v:=?_) (a':=?_) #[true,true,true,true,true,false,false,false,false,false,false,false,false,false,false,false] rfl rfl (any_of HT_.out (by kernel_rfl)) (fun _ _ _ h => h) (Or.inl ⟨by rfl,?_⟩) ?_ ?_
        rotate_left
        ·intro w'
         go_simp
         with_reducible rfl
        rotate_left
        ·simp only [Act.put,List.setIfInBounds_toArray,List.set_cons_zero,List.set_cons_succ,i64_w,i32_w]
         rfl
        refine pure_ (i:=5) (N:=some 19) (v:=?_) (a':=?_) #[true,true,true,true,true,true,false,false,false,false,false,false,false,false,false,false] rfl rfl (any_of HT_.out (by kernel_rfl)) (fun _ _ _ h => h) (Or.inl ⟨by rfl,?_⟩) ?_ ?_
        rotate_left
        ·intro w'
         go_simp
         with_reducible rfl
        rotate_left
        ·simp only [Act.put,List.setIfInBounds_toArray,List.set_cons_zero,List.set_cons_succ,i64_w,i32_w]
         rfl
        refine pure_ (i:=6) (N:=some 20) (v:=?_) (a':=?_) #[true,true,true,true,true,true,true,false,false,false,false,false,false,false,false,false] rfl rfl (any_of HT_.out (by kernel_rfl)) (fun _ _ _ h => h) (Or.inl ⟨by rfl,?_⟩) ?_ ?_
        rotate_left
        ·intro w'
         go_simp
         with_reducible rfl
        rotate_left
        ·simp only [Act.put,List.setIfInBounds_toArray,List.set_cons_zero,List.set_cons_succ,i64_w,i32_w]
         rfl
        refine pure_ (i:=8) (N:=some 22) (v:=?_) (a':=?_) #[true,true,true,true,true,true,true,false,true,false,false,false,false,false,false,false] rfl rfl (any_of HT_.out (by kernel_rfl)) (fun _ _ _ h => h) (Or.inl ⟨by rfl,?_⟩) ?_ ?_
        rotate_left
        ·intro w'
         go_simp
         with_reducible rfl
        rotate_left
        ·simp only [Act.put,List.setIfInBounds_toArray,List.set_cons_zero,List.set_cons_succ,i64_w,i32_w]
         rfl
        refine pure_ (i:=9) (N:=some 23) (v:=?_) (a':=?_) #[true,true,true,true,true,true,true,false,true,true,false,false,false,false,false,false] rfl rfl (any_of HT_.out (by kernel_rfl)) (fun _ _ _ h => h) (Or.inl ⟨by rfl,?_⟩) ?_ ?_
        rotate_left
        ·intro w'
         go_simp
         with_reducible rfl
        rotate_left
        ·simp only [Act.put,List.setIfInBounds_toArray,List.set_cons_zero,List.set_cons_succ,i64_w,i32_w]
         rfl
        refine pure_ (i:=10) (N:=some 24) (v:=?_) (a':=?_) #[true,true,true,true,true,true,true,false,true,true,true,false,false,false,false,false] rfl rfl (any_of HT_.out (by kernel_rfl)) (fun _ _ _ h => h) (Or.inl ⟨by rfl,?_⟩) ?_ ?_
        rotate_left
        ·intro w'
         go_simp
         with_reducible rfl
        rotate_left
        ·simp only [Act.put,List.setIfInBounds_toArray,List.set_cons_zero,List.set_cons_succ,i64_w,i32_w]
         rfl
        refine take_ (i:=7) (N:=some 21) (v:=?_) (a':=?_) #[true,true,true,true,true,true,true,true,true,true,true,false,false,false,false,false] rfl rfl (take_ofW HT_.out HW_.out (by kernel_rfl)) (fun _ _ _ h => h) (Or.inl ⟨by rfl,?_⟩) hHeld ?_ ?_
        rotate_left
        ·rintro w' ⟨s0,s1⟩
         go_simp
         with_reducible rfl
        rotate_left
        ·simp only [Act.put,List.setIfInBounds_toArray,List.set_cons_zero,List.set_cons_succ,i64_w,i32_w]
         rfl
        refine take_ (i:=11) (N:=some 25) (v:=?_) (a':=?_) #[true,true,true,true,true,true,true,true,true,true,true,true,false,false,false,false] rfl rfl (take_ofW HT_.out HW_.out (by kernel_rfl)) (fun _ _ _ h => h) (Or.inl ⟨by rfl,?_⟩) hHeld ?_ ?_
        rotate_left
        ·rintro w' ⟨s0,s1⟩
         go_simp
         with_reducible rfl
        rotate_left
        ·simp only [Act.put,List.setIfInBounds_toArray,List.set_cons_zero,List.set_cons_succ,i64_w,i32_w]
         rfl
        refine pure_ (i:=12) (N:=some 26) (v:=?_) (a':=?_) #[true,true,true,true,true,true,true,true,true,true,true,true,true,false,false,false] rfl rfl (any_of HT_.out (by kernel_rfl)) (fun _ _ _ h => h) (Or.inl ⟨by rfl,?_⟩) ?_ ?_
        rotate_left
        ·intro w'
         go_simp
         with_reducible rfl
        rotate_left
        ·simp only [Act.put,List.setIfInBounds_toArray,List.set_cons_zero,List.set_cons_succ,i64_w,i32_w]
         rfl
        refine last_ (i:=13) (N:=none) #[true,true,true,true,true,true,true,true,true,true,true,true,true,true,false,false] rfl rfl (one_of HT_.out (by kernel_rfl)) (by decide) (fun K hK => ?_)
        refine skip_ (w1:=?_) (by rfl) rfl ?_ ?_
        rotate_left
        ·go_simp
         rfl
        refine hK.out _ _ ?_
        clear hK K
        refine pure_ (i:=14) (N:=some 27) (v:=?_) (a':=?_) #[true,true,true,true,true,true,true,true,true,true,true,true,true,true,true,false] rfl rfl (any_of HT_.out (by kernel_rfl)) (fun _ _ _ h => h) (Or.inl ⟨by rfl,?_⟩) ?_ ?_
        rotate_left
        ·intro w'
         go_simp
         with_reducible rfl
        rotate_left
        ·simp only [Act.put,List.setIfInBounds_toArray,List.set_cons_zero,List.set_cons_succ,i64_w,i32_w]
         rfl
        refine last_ (i:=15) (N:=none) #[true,true,true,true,true,true,true,true,true,true,true,true,true,true,true,true] rfl rfl (one_of HT_.out (by kernel_rfl)) (by decide) (fun K hK => ?_)
        refine skip_ (w1:=?_) (by rfl) rfl ?_ ?_
        rotate_left
        ·go_simp
         rfl
        refine hK.out _ _ ?_
        clear hK K
        refine done_ (done_of HT_.out (by kernel_rfl)) ?_
        try go_wp2
        (try simp only [← hl0_1])
        go_roundg k1
        case measure => have:=HK1.out;omega
        case rel => exact ⟨(y522),(wrap64 (x2_1 + 1)),(wrap64 (x3_1 - 1)),(by first|rfl|(simp;done)|(simp [*];done)),(by first|rfl|(simp;done)|(simp [*];done)),H',⟨by have:=HK1.out;omega⟩,⟨by (try simp only [hl0_1]);(with_reducible repeat (first|apply Kd.R_alloc|apply Kd.R_drewN|apply Kd.R_drew));exact HQ12.out⟩,⟨by repeat (first|(with_reducible first|exact HK.out|apply Kept.alloc|apply Kept.drewN|apply Kept.drew|refine Kept.setCell ?_ HMgo8.out _|refine Kept.setCell ?_ HMgo8.out _)|exact HK.out)⟩,⟨by repeat (first|(with_reducible first|exact HB.out|apply below_alloc|apply pw_below_drewN|apply below_drew1|refine below_set ?_ GB8.out|refine below_set ?_ GB8.out)|exact HB.out)⟩⟩
       ·rw [if_neg c7] at H
        exact absurd H (by simp)
      ·rw [if_neg c6] at H
       exact absurd H (by simp)
     ·rw [if_neg c5] at H
      exact absurd H (by simp)
    ·rw [if_neg c4] at H
     exact absurd H (by simp)
   ·rw [if_neg c3] at H
    have c3b0 : decide (x2_1 < x3_1)=false:=decide_eq_false c3
    clear c3
    obtain rfl:=Option.some.inj H
    go_wp2
    first|go_end0|((try simp only [Exit.inBlock,Exit.then]);refine bodyPost_ret (results_none rfl _ _ _) rfl ?_)
    exact ⟨by first|rfl|(simp [errW_none,errW_some] <;> rfl)|(simp [*,errW_none,errW_some] <;> rfl),(by first|exact (by (with_reducible repeat (first|apply Kd.R_alloc|apply Kd.R_drewN|apply Kd.R_drew));exact HO_0.out)|(simp only [hl0_1];exact (by (with_reducible repeat (first|apply Kd.R_alloc|apply Kd.R_drewN|apply Kd.R_drew));exact HO_0.out))),by repeat (first|(with_reducible first|exact HB.out|apply below_alloc|apply pw_below_drewN|apply below_drew1)|exact HB.out),by repeat (first|(with_reducible first|exact HK.out|apply Kept.alloc|apply Kept.drewN|apply Kept.drew)|exact HK.out)⟩
end Go.Proofs.Ytbelnopbggkdfaa.Q
end

section
namespace Go.Proofs.Ytbelnopbggkdfaa.Q
open Go.RowKit Go.Proofs.YtbelnopbggkdfaaW.PrintWords Go.Proofs.YtbelnopbggkdfaaW.PrintLast Go.Proofs.YtbelnopbggkdfaaW.PrintMore
attribute [local go_sem] max2_int min2_int max_two min_two max_three min_three max_four min_four   -- for this text's walks alone
set_option linter.unusedVariables false
set_option linter.unusedSimpArgs false
def cone_mark (n : Int) : List Int→List Bool→Option (List Bool)
 | [],M => some M
 | q :: qs,M => if q < 0∨n≤q∨rdOf false M q=true then none else cone_mark n qs (M.set q.toNat true)
def anyM (M : List Bool) (ws : List Int) : Bool:=ws.any fun x => rdOf false M x
def setM (M : List Bool) (ws : List Int) : List Bool:=ws.foldl (fun M x => M.set x.toNat true) M
def cone_go : List (Int × S46)→List Bool→Option (List Int)
 | [],_ => some []
 | o :: os,M => (layers_wires.f o.2.f0 o.2.f1 o.2.f2 o.2.f3 o.2.f4 o.2.f5).bind fun ws =>
  if wireOk ws=true then (if o.2.f0=4∨anyM M ws=false then cone_go os M else (cone_go os (setM M ws)).bind fun r => some (o.1 :: r)) else none
def cone_list (back : Bool) (l : List S46) : List (Int × S46) :=
 (List.range l.length).map fun (i : Nat) => let j : Int:=if back=true then (l.length : Int) - 1 - i else i;(j,rd_T46 l j)
def cone_end (k : Nat) (l : List S46) (back : Bool) (M : List Bool) : Option (List Int × Int) :=
 (cone_go (cone_list back l) M).bind fun r => if back=true then (slices_Reverse_int_int.f k r).bind fun r' => some (r',0) else some (r,0)
def cone_from (k : Nat) (n : Int) (l : List S46) (back : Bool) : Option (List Bool)→Option (List Int × Int)
 | none => some ([],190)
 | some M => cone_end k l back M
def layers_cone.f (k : Nat) (a0_0 : Int) (a0_1 : Int) (l0_2 : List S46) (l1 : List Int) (a2 : Bool) : Option (List Int × Int) :=
 (layers_checked.f k a0_0 a0_1 l0_2).bind fun t => if t=0 then (if a0_0≤128∧l0_2.length < 2199023255552 then (cone_from k a0_0 l0_2 a2 (cone_mark a0_0 l1 (List.replicate 128 false))) else none) else some ([],t)
theorem setM_len (ws : List Int) : ∀ M : List Bool,(setM M ws).length=M.length:=by
 induction ws with
 | nil => intro L;rfl
 | cons x xs ih => intro L;simp only [setM,List.foldl_cons] at ih ⊢;rw [ih];simp
theorem setM_snoc (M : List Bool) (ws : List Int) (x : Int) : setM M (ws ++ [x])=(setM M ws).set x.toNat true:=by simp [setM]
structure ConeS (w W : World) (g1 g3 : Nat) (cs : Array Value) (L : List Bool) (v : Value) (out : List Int) : Prop where
 hb : Below w.heap.size w W
 b1 : W.heap[g1]?=some (.cells cs 24 (0,0))
 b3 : W.heap[g3]?=some (.cells (L.map Value.bool).toArray 94 (0,0))
 ho : Kd.R (Kd.int .i64) 3 W w.heap.size (fun _ => True) v out
 n1 : w.heap.size≤g1
 n3 : w.heap.size≤g3
theorem ConeS.below {w W W' : World} {g1 g3 : Nat} {cs : Array Value} {L : List Bool} {v : Value} {out : List Int} (h : ConeS w W g1 g3 cs L v out) (hb : Below W.heap.size W W') : ConeS w W' g1 g3 cs L v out :=
 ⟨below_step h.hb hb,blk_below h.b1 hb,blk_below h.b3 hb,Kd.R_below h.ho hb,h.n1,h.n3⟩
theorem ConeS.ne {w W : World} {g1 g3 : Nat} {cs : Array Value} {L : List Bool} {v : Value} {out : List Int} (h : ConeS w W g1 g3 cs L v out) : g1≠g3:=by
 rintro rfl
 have:=h.b1.symm.trans h.b3
 injection this with h1
 injection h1 with _ h2
 exact absurd h2 (by decide)
theorem ConeS.put {w W : World} {g1 g3 : Nat} {cs : Array Value} {L : List Bool} {v : Value} {out : List Int} (h : ConeS w W g1 g3 cs L v out) (i : Nat) (x : Bool) : ConeS w (W.setCell ⟨g3,i,none⟩ (.bool x)) g1 g3 cs (L.set i x) v out :=
 ⟨below_set h.hb h.n3,blk_far h.b1 h.ne _,by rw [List.map_set];simpa using blk_set h.b3 i (.bool x),Kd.R_set h.ho h.b3 (by decide) i _,h.n1,h.n3⟩
theorem ConeS.grown {w W W' : World} {g1 g3 : Nat} {cs : Array Value} {L : List Bool} {v v' : Value} {out out' : List Int} (h : ConeS w W g1 g3 cs L v out) (hg : W.grownBy W' v.ownBlock) (hb : Below w.heap.size w W') (ho : Kd.R (Kd.int .i64) 3 W' w.heap.size (fun _ => True) v' out') : ConeS w W' g1 g3 cs L v' out' :=
 ⟨hb,blk_grown h.b1 hg (Kd.R_ne h.ho h.b1 (by decide)),blk_grown h.b3 hg (Kd.R_ne h.ho h.b3 (by decide)),ho,h.n1,h.n3⟩
theorem ConeS.cell {w W : World} {g1 g3 : Nat} {cs : Array Value} {L : List Bool} {v : Value} {out : List Int} (h : ConeS w W g1 g3 cs L v out) (hL : L.length=128) {x : Int} (h0 : 0≤x) (h1 : x < 128) : W.cell? ⟨g3,x.toNat,none⟩=some (.bool (rdOf false L x)):=by
 rw [blk_cell h.b3]
 simp [rdOf,List.getD_eq_getElem?_getD,List.getElem?_eq_getElem (show x.toNat < L.length by omega)]
theorem cone_at {a2 : Bool} {l : List S46} {p : Nat} (h : p < l.length) : ∃ h1,(cone_list a2 l)[p]'h1=((if a2=true then (l.length : Int) - 1 - p else p),rd_T46 l (if a2=true then (l.length : Int) - 1 - p else p)):=by
 refine ⟨by simpa [cone_list] using h,?_⟩
 simp [cone_list]
theorem cone_fn (g3 : Nat) (M : List Bool) (x : Int) (W : World) (h0 : 0≤x) (h1 : x < 128) (hc : W.cell? ⟨g3,x.toNat,none⟩=some (.bool (rdOf false M x))) :
  Calls Try.prog 86 #[.int .i64 x,.pointer (some ⟨g3,0,none⟩)] W fun e w' => e=.returned (.bool (rdOf false M x))∧W=w':=by
 go_enter Try.func86,Try.ntmps86
 go_wp2
 go_ret
 exact ⟨rfl,rfl⟩
def idxB (M : List Bool) (ws : List Int) : Int :=
 match ws.findIdx? (fun x => rdOf false M x) with
 | some i => i
 | none => -1
theorem idxB_hit {M : List Bool} {ws : List Int} {q : Nat} (hq : q < ws.length) (h : rdOf false M (rd ws q)=true) (hn : ∀ j,j < q→rdOf false M (rd ws j)=false) : idxB M ws=q:=by
 have e : ∀ j (hj : j < ws.length),ws[j]=rd ws j:=fun j hj => by simp [rd,List.getD_eq_getElem?_getD,List.getElem?_eq_getElem hj]
 unfold idxB
 rw [List.findIdx?_eq_some_iff_getElem.2 ⟨hq,by rw [e];exact h,fun j hj => by rw [e j (by omega),hn j hj];simp⟩]
theorem idxB_miss {M : List Bool} {ws : List Int} (hn : ∀ j,j < ws.length→rdOf false M (rd ws j)=false) : idxB M ws=-1:=by
 unfold idxB
 rw [List.findIdx?_eq_none_iff.2 fun x hx => by
  obtain ⟨j,hj,rfl⟩:=List.mem_iff_getElem.1 hx
  have:=hn j hj
  simpa [rd,List.getD_eq_getElem?_getD,List.getElem?_eq_getElem hj] using this]
theorem idxB_any (M : List Bool) (ws : List Int) : decide (0≤idxB M ws)=anyM M ws:=by
 unfold idxB anyM
 cases h : ws.findIdx? (fun x => rdOf false M x) with
 | some i =>
  obtain ⟨hi,h1,_⟩:=List.findIdx?_eq_some_iff_getElem.1 h
  rw [List.any_eq_true.2 ⟨_,List.getElem_mem hi,h1⟩]
  simp
 | none =>
  have:=List.findIdx?_eq_none_iff.1 h
  rw [List.any_eq_false.2 fun x hx => by simpa using this x hx]
  rfl
set_option maxHeartbeats 2000000 in
theorem cone_index (A : Option Addr) (c g3 : Nat) (M : List Bool) (ws : List Int) (W : World) (hw : wireOk ws=true) (h : Kd.C (Kd.int .i64) W A ws.length ws) (hc : ∀ x : Int,0≤x→x < 128→W.cell? ⟨g3,x.toNat,none⟩=some (.bool (rdOf false M x))) :
  Calls Try.prog 96 #[.slice A ws.length c,.func (.func 86) #[] #[.pointer (some ⟨g3,0,none⟩)]] W fun e w' => e=.returned (.int .i64 (idxB M ws))∧W=w':=by
 have HC:=Aside0.mk hc
 have HI:=Aside0.mk (Kd.reads_of_C (enc:=Value.int .i64) (d:=(0 : Int)) (h1:=fun _ => rfl) h)
 have HW:=Aside0.mk hw
 have HH:=Aside0.mk (fun q hq h hn => idxB_hit (M:=M) (ws:=ws) (q:=q) hq h hn)
 have HM:=Aside0.mk (fun hn => idxB_miss (M:=M) (ws:=ws) hn)
 have hl64 : (ws.length : Int)≤9223372036854775807:=by have:=h.2.1;omega
 generalize idxB M ws=R at HH HM ⊢
 clear h hc hw
 go_enter Try.func96,Try.ntmps96
 go_wp2
 go_loop [5,8] (fun _ v8 => ∃ q : Nat,q≤ws.length∧v8=.int .i64 q∧Aside0 (∀ j : Nat,j < q→rdOf false M (rd ws j)=false)) (fun _ i => ws.length - (intOf i).toNat)
 case atStart => exact ⟨0,Nat.zero_le _,rfl,⟨fun j hj => by omega⟩⟩
 case round =>
  obtain ⟨q,hq,rfl,HN⟩:=hrel
  by_cases hqt : q < ws.length
  ·obtain ⟨ad2,rfl,hcell0⟩:=HI.out.2.2 (by omega)
   have hcell:=hcell0 q hqt
   rw [show ws.getD q 0=rd ws q by simp [rd]] at hcell
   have hx : 0≤rd ws q∧rd ws q < 128:=by
    have:=List.all_eq_true.1 HW.out (ws[q]'hqt) (List.getElem_mem _)
    simp only [Bool.and_eq_true,decide_eq_true_eq] at this
    simpa [rd,List.getD_eq_getElem?_getD,List.getElem?_eq_getElem hqt] using this
   have HF:=Aside0.mk (cone_fn g3 M (rd ws q) W hx.1 hx.2 (HC.out _ hx.1 hx.2))
   clear hcell0 hx
   obtain ⟨x,hxq⟩ : ∃ x,rd ws q=x:=⟨_,rfl⟩
   cases hb : rdOf false M (rd ws q) with
   | true =>
    have HE:=Aside0.mk (HH.out q hqt hb HN.out)
    rw [hb] at HF
    rw [hxq] at hcell HF
    clear hb HN hxq
    go_wp2_with (go_at_call 86;refine HF.out.mono ?_;rintro e w1 ⟨rfl,rfl⟩)
    go_ret
    exact ⟨by rw [HE.out];rfl,rfl⟩
   | false =>
    have HN2 : Aside0 (∀ j : Nat,j < q + 1→rdOf false M (rd ws j)=false):=⟨fun j hj => by
     rcases Nat.lt_succ_iff_lt_or_eq.1 hj with h|h
     ·exact HN.out j h
     ·rw [h];exact hb⟩
    rw [hb] at HF
    rw [hxq] at hcell HF
    clear hb HN hxq
    go_wp2_with (go_at_call 86;refine HF.out.mono ?_;rintro e w1 ⟨rfl,rfl⟩)
    go_round
    case rel => exact ⟨q + 1,by omega,by go_num,HN2⟩
    case measure => simp [intOf];omega
  ·have HE:=Aside0.mk (HM.out fun j hj => HN.out j (by omega))
   clear HN
   go_wp2
   go_ret
   exact ⟨by rw [HE.out];rfl,rfl⟩
theorem cone_contains (A : Option Addr) (c g3 : Nat) (M : List Bool) (ws : List Int) (W : World) (hw : wireOk ws=true) (h : Kd.C (Kd.int .i64) W A ws.length ws) (hc : ∀ x : Int,0≤x→x < 128→W.cell? ⟨g3,x.toNat,none⟩=some (.bool (rdOf false M x))) :
  Calls Try.prog 85 #[.slice A ws.length c,.func (.func 86) #[] #[.pointer (some ⟨g3,0,none⟩)]] W fun e w' => e=.returned (.bool (anyM M ws))∧W=w':=by
 have H:=Aside0.mk (idxB_any M ws)
 have HI:=Aside0.mk (cone_index A c g3 M ws W hw h hc)
 clear hc h hw
 go_enter Try.func85,Try.ntmps85
 go_wp2_with (go_at_call 96;refine HI.out.mono ?_;rintro e w' ⟨rfl,rfl⟩)
 go_ret
 exact ⟨by rw [← H.out];rfl,rfl⟩
set_option maxHeartbeats 8000000 in
set_option maxRecDepth 100000 in
theorem layers_cone.calls (k : Nat) (a0_0 : Int) (a0_1 : Int) (A0_2 : Option Addr) (c0_2 : Nat) (l0_2 : List S46) (A1 : Option Addr) (c1 : Nat) (l1 : List Int) (a2 : Bool) (r1 : List Int) (r2 : Int) (w : World) (hr0_2 : Kd.C k46 w A0_2 l0_2.length l0_2) (hc0_2 : l0_2.length≤c0_2) (hr1 : Kd.C (Kd.int .i64) w A1 l1.length l1) (hc1 : l1.length≤c1) (h : layers_cone.f k a0_0 a0_1 l0_2 l1 a2=some (r1,r2)) :
  Calls Try.prog 72 #[.agg #[.int .i64 a0_0,.int .i64 a0_1,.slice A0_2 l0_2.length c0_2],.slice A1 l1.length c1,.bool a2] w fun e w' => ∃ v0_ : Value,e=.returned (.tuple #[v0_,.int .i64 r2])∧Kd.R (Kd.int .i64) 3 w' w.heap.size (fun _ => True) v0_ r1∧Below w.heap.size w w':=by
 have hu24:=Try.underlying24
 have hu46:=Try.underlying46
 unfold layers_cone.f at h
 obtain ⟨t,ht,h2⟩:=Option.bind_eq_some_iff.1 h
 clear h
 have HD:=Aside0.mk ht
 have HC:=Aside0.mk hc0_2
 have HR:=Aside0.mk hr0_2
 have HQ:=Aside0.mk hr1
 clear ht hr0_2 hc0_2 hr1
 split at h2
 case isFalse =>
  rename_i hne
  simp only [Option.some.injEq,Prod.mk.injEq] at h2
  obtain ⟨rfl,rfl⟩:=h2
  have hne' : (t != 0)=true:=by simpa using hne
  clear hne
  go_enter Try.func72,Try.ntmps72
  go_wp2_with (go_at_call 60;(with_reducible refine (layers_checked.calls k a0_0 a0_1 _ _ l0_2 t _ (Kd.C_alloc HR.out _) HC.out HD.out).mono ?_);rintro e w1 ⟨rfl,hb1⟩)
  go_ret2
  exact ⟨_,rfl,Kd.R_nil _ _ _ _ _,below_step (below_alloc (Below.refl _ _) _) hb1⟩
 rename_i he
 obtain rfl : t=0:=he
 split at h2
 case isFalse => cases h2
 rename_i hlen
 have LM:=Aside0.mk hlen
 have H:=Aside0.mk h2
 clear h2 hlen
 go_enter Try.func72,Try.ntmps72
 go_upto_region 4 with (go_at_call 60;(with_reducible refine (layers_checked.calls k a0_0 a0_1 _ _ l0_2 0 _ (Kd.C_alloc HR.out _) HC.out HD.out).mono ?_);rintro e w1 ⟨rfl,hb1⟩)
 have b1:=blk_below (blk_new w (.cells #[.int .i64 a0_0,.int .i64 a0_1,.slice A0_2 l0_2.length c0_2] 24)) hb1
 have hb:=below_step (below_alloc (Below.refl _ w) (.cells #[.int .i64 a0_0,.int .i64 a0_1,.slice A0_2 l0_2.length c0_2] 24)) hb1
 clear hb1 HD
 obtain ⟨g1,hg1⟩ : ∃ g,g=w.heap.size:=⟨_,rfl⟩
 rw [← hg1] at b1
 have n1 : w.heap.size≤g1:=by omega
 rw [← hg1]
 clear hg1
 generalize hn : l0_2.length=n at *
 generalize hm : l1.length=m at *
 have hn64 : (n : Int)≤2199023255552:=by have:=LM.out.2;omega
 have ha : a0_0≤128:=LM.out.1
 have hm64 : (m : Int)≤9223372036854775807:=by have:=HQ.out.2.1;omega
 have HN:=Aside0.mk hn
 have HM:=Aside0.mk hm
 go_upto_region 5 with (fail)
 obtain ⟨g3,hg3⟩ : ∃ g,g=w1.heap.size:=⟨_,rfl⟩
 have hs : ConeS w (w1.alloc (.cells Try.zeroCells94 94)) g1 g3 #[.int .i64 a0_0,.int .i64 a0_1,.slice A0_2 n c0_2] (List.replicate 128 false) (.slice none 0 0) []:=by
  have n3:=hb.size
  subst hg3
  exact ⟨below_alloc hb _,blk_alloc b1 _,by
   have:=blk_new w1 (.cells Try.zeroCells94 94)
   rw [this]
   rfl,Kd.R_nil _ _ _ _ _,n1,n3⟩
 rw [← hg3]
 generalize w1.alloc (.cells Try.zeroCells94 94)=W0 at hs ⊢
 have HS:=Aside0.mk hs
 clear hs hg3 hb b1 n1 hn hm
 go_wp2
 go_loopw [11,26] (fun _ v26 wr => ∃ (q : Nat) (L : List Bool),q≤m∧v26=.int .i64 q∧Aside0 (cone_from k a0_0 l0_2 a2 (cone_mark a0_0 (l1.drop q) L)=some (r1,r2))∧Aside0 (L.length=128)∧Aside0 (ConeS w wr g1 g3 #[.int .i64 a0_0,.int .i64 a0_1,.slice A0_2 n c0_2] L (.slice none 0 0) [])) (fun _ i _ => m - (intOf i).toNat)
 case atStart => exact ⟨0,_,Nat.zero_le _,rfl,H,⟨by simp⟩,HS⟩
 case round =>
  clear HS H
  obtain ⟨q,L,hq,rfl,H,HL,HS⟩:=hrel
  by_cases hqt : q < m
  ·obtain ⟨adq,rfl,hcell0⟩:=(Kd.reads_of_C (enc:=Value.int .i64) (d:=(0 : Int)) (h1:=fun _ => rfl) HQ.out).2.2 (by omega)
   have hcell:=hcell0 q hqt
   rw [show l1.getD q 0=rd l1 q by simp [rd]] at hcell
   replace hcell:=(HS.out.hb.cell (World.block_lt_of_cell? w _ hcell)).trans hcell
   have H2:=H.out
   have hlq : q < l1.length:=by rw [HM.out];exact hqt
   rw [List.drop_eq_getElem_cons hlq,show l1[q]=rd l1 q by simp [rd,List.getD_eq_getElem?_getD,List.getElem?_eq_getElem hlq]] at H2
   generalize rd l1 q=x at hcell H2
   simp only [cone_mark] at H2
   have f0c : wr.cell? ⟨g1,0,none⟩=some (.int .i64 a0_0):=(blk_cell HS.out.b1 0).trans rfl
   clear hcell0 hlq H
   by_cases hx0 : x < 0
   ·rw [if_pos (.inl hx0)] at H2
    simp only [cone_from,Option.some.injEq,Prod.mk.injEq] at H2
    obtain ⟨rfl,rfl⟩:=H2
    go_wp2
    go_ret2
    exact ⟨_,rfl,Kd.R_nil _ _ _ _ _,HS.out.hb⟩
   ·by_cases hx1 : a0_0≤x
    ·rw [if_pos (.inr (.inl hx1))] at H2
     simp only [cone_from,Option.some.injEq,Prod.mk.injEq] at H2
     obtain ⟨rfl,rfl⟩:=H2
     go_wp2
     go_ret2
     exact ⟨_,rfl,Kd.R_nil _ _ _ _ _,HS.out.hb⟩
    ·have hx2 : 0≤x:=by omega
     have hx3 : x < a0_0:=by omega
     have hx4 : x < 128:=by omega
     have harr:=HS.out.cell HL.out hx2 hx4
     have hfr : wr.frozen? ⟨g3,x.toNat,none⟩=false:=blk_frozen HS.out.b3 _
     cases hM : rdOf false L x with
     | true =>
      rw [if_pos (.inr (.inr hM))] at H2
      rw [hM] at harr
      clear hM
      simp only [cone_from,Option.some.injEq,Prod.mk.injEq] at H2
      obtain ⟨rfl,rfl⟩:=H2
      go_wp2
      go_ret2
      exact ⟨_,rfl,Kd.R_nil _ _ _ _ _,HS.out.hb⟩
     | false =>
      rw [if_neg (by rw [hM];rintro (h|h|h);omega;omega;cases h)] at H2
      rw [hM] at harr
      clear hM
      have H3:=Aside0.mk H2
      clear H2
      go_wp2
      go_roundw
      case rel => exact ⟨q + 1,_,by omega,by go_num,H3,⟨by simpa using HL.out⟩,⟨HS.out.put x.toNat true⟩⟩
      case measure => simp [intOf];omega
  ·obtain rfl : q=m:=by omega
   have H2:=H.out
   rw [List.drop_eq_nil_of_le (by rw [HM.out];exact Nat.le_refl _)] at H2
   simp only [cone_mark,cone_from,cone_end] at H2
   obtain ⟨res,hres,H3⟩:=Option.bind_eq_some_iff.1 H2
   have HE:=Aside0.mk H3
   have H:=Aside0.mk hres
   have f2c : wr.cell? ⟨g1,2,none⟩=some (.slice A0_2 n c0_2):=(blk_cell HS.out.b1 2).trans rfl
   clear H2 H3 hres
   go_wp2
   clear f2c
   go_loopw [12,13,14,15,16,18,49] (fun v12 _ _ _ _ _ v49 wr => ∃ (p : Nat) (M : List Bool) (out rest : List Int),p≤n∧v49=.int .i64 p∧Aside0 (cone_go ((cone_list a2 l0_2).drop p) M=some rest)∧Aside0 (out ++ rest=res)∧Aside0 (M.length=128)∧Aside0 (out.length≤p)∧Aside0 (ConeS w wr g1 g3 #[.int .i64 a0_0,.int .i64 a0_1,.slice A0_2 n c0_2] M v12 out)) (fun _ _ _ _ _ _ i _ => n - (intOf i).toNat)
   case atStart => exact ⟨0,_,[],res,Nat.zero_le _,rfl,H,⟨rfl⟩,HL,⟨Nat.le_refl _⟩,HS⟩
   case round =>
    clear HS H HL
    obtain ⟨p,M,out,rest,hp,rfl,H,HO,HL,HJ,HS⟩:=hrel
    by_cases hlt : p < n
    ·obtain ⟨hr1,hrv⟩:=cone_at (a2:=a2) (l:=l0_2) (p:=p) (by rw [HN.out];exact hlt)
     have H2:=H.out
     rw [List.drop_eq_getElem_cons hr1,hrv,HN.out] at H2
     clear hrv H
     cases a2 with
     | true =>
      simp only [if_true] at H2
      obtain ⟨ad,A2,c2,rfl,x0,x1,x2,x3,x4,x5,hl2,hi2⟩:=at_T46 (by rw [HN.out];exact HR.out : Kd.C k46 w A0_2 l0_2.length l0_2) ((n : Int) - 1 - p) (by omega) (by rw [HN.out];omega)
      simp only [show ((n : Int) - 1 - p).toNat=n - 1 - p by omega] at x0 x1 x2 x3 x4 x5
      have hb:=HS.out.hb
      replace x0:=(hb.cell (World.block_lt_of_cell? w _ x0)).trans x0
      replace x1:=(hb.cell (World.block_lt_of_cell? w _ x1)).trans x1
      replace x2:=(hb.cell (World.block_lt_of_cell? w _ x2)).trans x2
      replace x3:=(hb.cell (World.block_lt_of_cell? w _ x3)).trans x3
      replace x4:=(hb.cell (World.block_lt_of_cell? w _ x4)).trans x4
      replace x5:=(hb.cell (World.block_lt_of_cell? w _ x5)).trans x5
      generalize rd_T46 l0_2 ((n : Int) - 1 - p)=o at *
      simp only [cone_go] at H2
      obtain ⟨ws,hws,H3⟩:=Option.bind_eq_some_iff.1 H2
      clear H2
      split at H3
      case isFalse => cases H3
      rename_i hwo
      have HW:=Aside0.mk hws
      have HWO:=Aside0.mk hwo
      have HL2:=Aside0.mk hl2
      have HI2:=Aside0.mk hi2
      have H:=Aside0.mk H3
      have f2d : wr.cell? ⟨g1,2,none⟩=some (.slice (some ad) n c0_2):=(blk_cell HS.out.b1 2).trans rfl
      have hi1 : (0 : Int)≤(n : Int) - 1 - p:=by omega
      have hi3 : (n : Int) - 1 - p < (n : Int):=by omega
      clear hws hwo hl2 hi2 H3 hb hr1
      go_upto_region 20 with (fail)
      have hs1:=HS.out.below (below_alloc (Below.refl _ wr) (.cells #[.int .i64 o.f0,.int .i64 o.f1,.slice A2 o.f2.length c2,.int .i64 o.f3,.int .i64 o.f4,.int .i64 o.f5] 46))
      have b6:=blk_new wr (.cells #[.int .i64 o.f0,.int .i64 o.f1,.slice A2 o.f2.length c2,.int .i64 o.f3,.int .i64 o.f4,.int .i64 o.f5] 46)
      obtain ⟨g6,hg6⟩ : ∃ g,g=wr.heap.size:=⟨_,rfl⟩
      rw [← hg6] at b6
      rw [← hg6]
      generalize wr.alloc _=W1 at hs1 b6 ⊢
      have HB6:=Aside0.mk b6
      have HS1:=Aside0.mk hs1
      clear x0 x1 x2 x3 x4 x5 hs1 b6 hg6 HS f2d
      have f0c : W1.cell? ⟨g6,0,none⟩=some (.int .i64 o.f0):=(blk_cell HB6.out 0).trans rfl
      have f1c : W1.cell? ⟨g6,1,none⟩=some (.int .i64 o.f1):=(blk_cell HB6.out 1).trans rfl
      have f2c : W1.cell? ⟨g6,2,none⟩=some (.slice A2 o.f2.length c2):=(blk_cell HB6.out 2).trans rfl
      have f3c : W1.cell? ⟨g6,3,none⟩=some (.int .i64 o.f3):=(blk_cell HB6.out 3).trans rfl
      have f4c : W1.cell? ⟨g6,4,none⟩=some (.int .i64 o.f4):=(blk_cell HB6.out 4).trans rfl
      have f5c : W1.cell? ⟨g6,5,none⟩=some (.int .i64 o.f5):=(blk_cell HB6.out 5).trans rfl
      go_upto_region 21 with (go_at_call 62;(with_reducible refine (layers_wires.calls o.f0 o.f1 _ _ o.f2 o.f3 o.f4 o.f5 ws _ (Kd.C_below HI2.out HS1.out.hb) HL2.out HW.out).mono ?_);clear f0c f1c f2c f3c f4c f5c;rintro e W2 ⟨v20,rfl,hv20,hb2⟩;obtain ⟨A20,c20,rfl,hl20,hi20⟩:=Kd.R_reads hv20)
      have HS2:=Aside0.mk (HS1.out.below hb2)
      have HV2:=Aside0.mk (Kd.R_lower hv20 HS1.out.hb.size)
      have f0c : W2.cell? ⟨g6,0,none⟩=some (.int .i64 o.f0):=(blk_cell (blk_below HB6.out hb2) 0).trans rfl
      clear hb2 hv20 hi20 HS1 HB6 hl20
      by_cases h4 : o.f0=4
      ·have h4b : (o.f0 == 4)=true:=by simpa using h4
       have H4:=H.out
       rw [if_pos (.inl h4)] at H4
       have H:=Aside0.mk H4
       clear h4 H4
       go_wp2
       go_roundw
       case rel => exact ⟨p + 1,_,out,rest,by omega,by go_num,H,HO,HL,⟨by have:=HJ.out;omega⟩,HS2⟩
       case measure => simp [intOf];omega
      ·have h4b : (o.f0 == 4)=false:=by simpa using h4
       cases hany : anyM M ws with
       | false =>
        have H4:=H.out
        rw [if_pos (.inr hany)] at H4
        have H:=Aside0.mk H4
        clear h4 H4
        go_wp2_with (go_at_call 85;refine (cone_contains A20 c20 g3 M ws W2 HWO.out (Kd.R_reads' HV2.out).2.2 (fun x h0 h1 => HS2.out.cell HL.out h0 h1)).mono ?_;rw [hany];rintro e w' ⟨rfl,rfl⟩;clear hany)
        go_roundw
        case rel => exact ⟨p + 1,_,out,rest,by omega,by go_num,H,HO,HL,⟨by have:=HJ.out;omega⟩,HS2⟩
        case measure => simp [intOf];omega
       | true =>
        have H4:=H.out
        rw [if_neg (by rw [hany];rintro (h|h);exact h4 h;cases h)] at H4
        obtain ⟨rest',hrest,H5⟩:=Option.bind_eq_some_iff.1 H4
        obtain rfl:=Option.some.inj H5
        have H:=Aside0.mk hrest
        clear h4 H4 H5 hrest
        go_wp2_with (go_at_call 85;refine (cone_contains A20 c20 g3 M ws W2 HWO.out (Kd.R_reads' HV2.out).2.2 (fun x h0 h1 => HS2.out.cell HL.out h0 h1)).mono ?_;rw [hany];rintro e w' ⟨rfl,rfl⟩;clear hany)
        clear f0c h4b
        go_loopw [18,78] (fun _ v78 wr => ∃ q : Nat,q≤ws.length∧v78=.int .i64 q∧Aside0 (ConeS w wr g1 g3 #[.int .i64 a0_0,.int .i64 a0_1,.slice (some ad) n c0_2] (setM M (ws.take q)) u12 out)∧Aside0 (Kd.R (Kd.int .i64) 3 wr w.heap.size (fun _ => True) (.slice A20 ws.length c20) ws)) (fun _ i _ => ws.length - (intOf i).toNat)
        case atStart => exact ⟨0,Nat.zero_le _,rfl,HS2,HV2⟩
        case round =>
         clear HS2 HV2
         obtain ⟨q,hq,rfl,HS5,HV3⟩:=hrel
         by_cases hqt : q < ws.length
         ·obtain ⟨ad2,e38,hcell0⟩:=(Kd.reads_of_C (enc:=Value.int .i64) (d:=(0 : Int)) (h1:=fun _ => rfl) (Kd.R_reads' HV3.out).2.2).2.2 (by omega)
          cases e38
          have hcell:=hcell0 q hqt
          rw [show ws.getD q 0=rd ws q by simp [rd]] at hcell
          have hx : 0≤rd ws q∧rd ws q < 128:=by
           have:=List.all_eq_true.1 HWO.out (ws[q]'hqt) (List.getElem_mem _)
           simp only [Bool.and_eq_true,decide_eq_true_eq] at this
           simpa [rd,List.getD_eq_getElem?_getD,List.getElem?_eq_getElem hqt] using this
          have hs:=setM_snoc M (ws.take q) (rd ws q)
          rw [← take_snoc_rd ws q hqt] at hs
          generalize rd ws q=x at hcell hx hs
          obtain ⟨hx0,hx1⟩:=hx
          have harr:=HS5.out.cell (by rw [setM_len];exact HL.out) hx0 hx1
          have hfr : wr.frozen? ⟨g3,x.toNat,none⟩=false:=blk_frozen HS5.out.b3 _
          generalize rdOf false (setM M (ws.take q)) x=y at harr
          have HSN:=Aside0.mk hs
          have hlw : (ws.length : Int)≤9223372036854775807:=by have:=(Kd.R_reads' HV3.out).2.2.2.1;omega
          clear hcell0 hs
          go_wp2
          go_roundw
          case rel => exact ⟨q + 1,by omega,by go_num,⟨by rw [HSN.out];exact HS5.out.put x.toNat true⟩,⟨Kd.R_set HV3.out HS5.out.b3 (by decide) _ _⟩⟩
          case measure => simp [intOf];omega
         ·obtain rfl : q=ws.length:=by omega
          rw [List.take_length] at *
          have hj8 : (out.length + 1) * 8≤140737488355328:=by have:=HJ.out;omega
          go_wp2_with ((with_reducible refine gate_builtin (b:=.append) (xs:=#[.tmp 85,.tmp 87]) rfl ?_);at_builtin;refine Kd.R_append (Kd.int .i64) (w0:=w) w.heap.size rfl (.tmp 85) (.tmp 87) 37 3 (.int .i64 0) 8 rfl Try.underlying37 info3 rfl (by decide) (by omega) u12 out ((n : Int) - 1 - p) [.int .i64 ((n : Int) - 1 - p)] (fun _ => True) (fun _ => False) rfl rfl rfl (fun _ hk => hk.elim) (fun _ _ => trivial) HS5.out.ho HS5.out.hb HS5.out.hb.size hj8 ?_;intro v51 w51 ho hb hg hat;have HS6:=Aside0.mk (HS5.out.grown hg hb ho);clear ho hb hg hat HS5 HV3)
          go_roundw
          case rel => exact ⟨p + 1,_,_,rest',by omega,by go_num,H,⟨by rw [List.append_assoc];exact HO.out⟩,⟨by rw [setM_len];exact HL.out⟩,⟨by rw [List.length_append];have:=HJ.out;simp;omega⟩,HS6⟩
          case measure => simp [intOf];omega
     | false =>
      simp only [Bool.false_eq_true,if_false] at H2
      obtain ⟨ad,A2,c2,rfl,x0,x1,x2,x3,x4,x5,hl2,hi2⟩:=at_T46 (by rw [HN.out];exact HR.out : Kd.C k46 w A0_2 l0_2.length l0_2) (p : Int) (by omega) (by rw [HN.out];omega)
      simp only [Int.toNat_natCast] at x0 x1 x2 x3 x4 x5
      have hb:=HS.out.hb
      replace x0:=(hb.cell (World.block_lt_of_cell? w _ x0)).trans x0
      replace x1:=(hb.cell (World.block_lt_of_cell? w _ x1)).trans x1
      replace x2:=(hb.cell (World.block_lt_of_cell? w _ x2)).trans x2
      replace x3:=(hb.cell (World.block_lt_of_cell? w _ x3)).trans x3
      replace x4:=(hb.cell (World.block_lt_of_cell? w _ x4)).trans x4
      replace x5:=(hb.cell (World.block_lt_of_cell? w _ x5)).trans x5
      generalize rd_T46 l0_2 (p : Int)=o at *
      simp only [cone_go] at H2
      obtain ⟨ws,hws,H3⟩:=Option.bind_eq_some_iff.1 H2
      clear H2
      split at H3
      case isFalse => cases H3
      rename_i hwo
      have HW:=Aside0.mk hws
      have HWO:=Aside0.mk hwo
      have HL2:=Aside0.mk hl2
      have HI2:=Aside0.mk hi2
      have H:=Aside0.mk H3
      have f2d : wr.cell? ⟨g1,2,none⟩=some (.slice (some ad) n c0_2):=(blk_cell HS.out.b1 2).trans rfl
      have hi1 : (0 : Int)≤(p : Int):=by omega
      have hi3 : (p : Int) < (n : Int):=by omega
      clear hws hwo hl2 hi2 H3 hb hr1
      go_upto_region 20 with (fail)
      have hs1:=HS.out.below (below_alloc (Below.refl _ wr) (.cells #[.int .i64 o.f0,.int .i64 o.f1,.slice A2 o.f2.length c2,.int .i64 o.f3,.int .i64 o.f4,.int .i64 o.f5] 46))
      have b6:=blk_new wr (.cells #[.int .i64 o.f0,.int .i64 o.f1,.slice A2 o.f2.length c2,.int .i64 o.f3,.int .i64 o.f4,.int .i64 o.f5] 46)
      obtain ⟨g6,hg6⟩ : ∃ g,g=wr.heap.size:=⟨_,rfl⟩
      rw [← hg6] at b6
      rw [← hg6]
      generalize wr.alloc _=W1 at hs1 b6 ⊢
      have HB6:=Aside0.mk b6
      have HS1:=Aside0.mk hs1
      clear x0 x1 x2 x3 x4 x5 hs1 b6 hg6 HS f2d
      have f0c : W1.cell? ⟨g6,0,none⟩=some (.int .i64 o.f0):=(blk_cell HB6.out 0).trans rfl
      have f1c : W1.cell? ⟨g6,1,none⟩=some (.int .i64 o.f1):=(blk_cell HB6.out 1).trans rfl
      have f2c : W1.cell? ⟨g6,2,none⟩=some (.slice A2 o.f2.length c2):=(blk_cell HB6.out 2).trans rfl
      have f3c : W1.cell? ⟨g6,3,none⟩=some (.int .i64 o.f3):=(blk_cell HB6.out 3).trans rfl
      have f4c : W1.cell? ⟨g6,4,none⟩=some (.int .i64 o.f4):=(blk_cell HB6.out 4).trans rfl
      have f5c : W1.cell? ⟨g6,5,none⟩=some (.int .i64 o.f5):=(blk_cell HB6.out 5).trans rfl
      go_upto_region 21 with (go_at_call 62;(with_reducible refine (layers_wires.calls o.f0 o.f1 _ _ o.f2 o.f3 o.f4 o.f5 ws _ (Kd.C_below HI2.out HS1.out.hb) HL2.out HW.out).mono ?_);clear f0c f1c f2c f3c f4c f5c;rintro e W2 ⟨v20,rfl,hv20,hb2⟩;obtain ⟨A20,c20,rfl,hl20,hi20⟩:=Kd.R_reads hv20)
      have HS2:=Aside0.mk (HS1.out.below hb2)
      have HV2:=Aside0.mk (Kd.R_lower hv20 HS1.out.hb.size)
      have f0c : W2.cell? ⟨g6,0,none⟩=some (.int .i64 o.f0):=(blk_cell (blk_below HB6.out hb2) 0).trans rfl
      clear hb2 hv20 hi20 HS1 HB6 hl20
      by_cases h4 : o.f0=4
      ·have h4b : (o.f0 == 4)=true:=by simpa using h4
       have H4:=H.out
       rw [if_pos (.inl h4)] at H4
       have H:=Aside0.mk H4
       clear h4 H4
       go_wp2
       go_roundw
       case rel => exact ⟨p + 1,_,out,rest,by omega,by go_num,H,HO,HL,⟨by have:=HJ.out;omega⟩,HS2⟩
       case measure => simp [intOf];omega
      ·have h4b : (o.f0 == 4)=false:=by simpa using h4
       cases hany : anyM M ws with
       | false =>
        have H4:=H.out
        rw [if_pos (.inr hany)] at H4
        have H:=Aside0.mk H4
        clear h4 H4
        go_wp2_with (go_at_call 85;refine (cone_contains A20 c20 g3 M ws W2 HWO.out (Kd.R_reads' HV2.out).2.2 (fun x h0 h1 => HS2.out.cell HL.out h0 h1)).mono ?_;rw [hany];rintro e w' ⟨rfl,rfl⟩;clear hany)
        go_roundw
        case rel => exact ⟨p + 1,_,out,rest,by omega,by go_num,H,HO,HL,⟨by have:=HJ.out;omega⟩,HS2⟩
        case measure => simp [intOf];omega
       | true =>
        have H4:=H.out
        rw [if_neg (by rw [hany];rintro (h|h);exact h4 h;cases h)] at H4
        obtain ⟨rest',hrest,H5⟩:=Option.bind_eq_some_iff.1 H4
        obtain rfl:=Option.some.inj H5
        have H:=Aside0.mk hrest
        clear h4 H4 H5 hrest
        go_wp2_with (go_at_call 85;refine (cone_contains A20 c20 g3 M ws W2 HWO.out (Kd.R_reads' HV2.out).2.2 (fun x h0 h1 => HS2.out.cell HL.out h0 h1)).mono ?_;rw [hany];rintro e w' ⟨rfl,rfl⟩;clear hany)
        clear f0c h4b
        go_loopw [18,78] (fun _ v78 wr => ∃ q : Nat,q≤ws.length∧v78=.int .i64 q∧Aside0 (ConeS w wr g1 g3 #[.int .i64 a0_0,.int .i64 a0_1,.slice (some ad) n c0_2] (setM M (ws.take q)) u12 out)∧Aside0 (Kd.R (Kd.int .i64) 3 wr w.heap.size (fun _ => True) (.slice A20 ws.length c20) ws)) (fun _ i _ => ws.length - (intOf i).toNat)
        case atStart => exact ⟨0,Nat.zero_le _,rfl,HS2,HV2⟩
        case round =>
         clear HS2 HV2
         obtain ⟨q,hq,rfl,HS5,HV3⟩:=hrel
         by_cases hqt : q < ws.length
         ·obtain ⟨ad2,e38,hcell0⟩:=(Kd.reads_of_C (enc:=Value.int .i64) (d:=(0 : Int)) (h1:=fun _ => rfl) (Kd.R_reads' HV3.out).2.2).2.2 (by omega)
          cases e38
          have hcell:=hcell0 q hqt
          rw [show ws.getD q 0=rd ws q by simp [rd]] at hcell
          have hx : 0≤rd ws q∧rd ws q < 128:=by
           have:=List.all_eq_true.1 HWO.out (ws[q]'hqt) (List.getElem_mem _)
           simp only [Bool.and_eq_true,decide_eq_true_eq] at this
           simpa [rd,List.getD_eq_getElem?_getD,List.getElem?_eq_getElem hqt] using this
          have hs:=setM_snoc M (ws.take q) (rd ws q)
          rw [← take_snoc_rd ws q hqt] at hs
          generalize rd ws q=x at hcell hx hs
          obtain ⟨hx0,hx1⟩:=hx
          have harr:=HS5.out.cell (by rw [setM_len];exact HL.out) hx0 hx1
          have hfr : wr.frozen? ⟨g3,x.toNat,none⟩=false:=blk_frozen HS5.out.b3 _
          generalize rdOf false (setM M (ws.take q)) x=y at harr
          have HSN:=Aside0.mk hs
          have hlw : (ws.length : Int)≤9223372036854775807:=by have:=(Kd.R_reads' HV3.out).2.2.2.1;omega
          clear hcell0 hs
          go_wp2
          go_roundw
          case rel => exact ⟨q + 1,by omega,by go_num,⟨by rw [HSN.out];exact HS5.out.put x.toNat true⟩,⟨Kd.R_set HV3.out HS5.out.b3 (by decide) _ _⟩⟩
          case measure => simp [intOf];omega
         ·obtain rfl : q=ws.length:=by omega
          rw [List.take_length] at *
          have hj8 : (out.length + 1) * 8≤140737488355328:=by have:=HJ.out;omega
          go_wp2_with ((with_reducible refine gate_builtin (b:=.append) (xs:=#[.tmp 85,.tmp 87]) rfl ?_);at_builtin;refine Kd.R_append (Kd.int .i64) (w0:=w) w.heap.size rfl (.tmp 85) (.tmp 87) 37 3 (.int .i64 0) 8 rfl Try.underlying37 info3 rfl (by decide) (by omega) u12 out (p : Int) [.int .i64 (p : Int)] (fun _ => True) (fun _ => False) rfl rfl rfl (fun _ hk => hk.elim) (fun _ _ => trivial) HS5.out.ho HS5.out.hb HS5.out.hb.size hj8 ?_;intro v51 w51 ho hb hg hat;have HS6:=Aside0.mk (HS5.out.grown hg hb ho);clear ho hb hg hat HS5 HV3)
          go_roundw
          case rel => exact ⟨p + 1,_,_,rest',by omega,by go_num,H,⟨by rw [List.append_assoc];exact HO.out⟩,⟨by rw [setM_len];exact HL.out⟩,⟨by rw [List.length_append];have:=HJ.out;simp;omega⟩,HS6⟩
          case measure => simp [intOf];omega
    ·obtain rfl : p=n:=by omega
     have hr : out=res:=by
      have h2:=H.out
      rw [List.drop_eq_nil_of_le (by simp [cone_list,HN.out])] at h2
      simp only [cone_go] at h2
      obtain rfl:=Option.some.inj h2
      rw [← HO.out,List.append_nil]
     subst hr
     have HE2:=HE.out
     cases a2 with
     | true =>
      simp only [if_true] at HE2
      obtain ⟨rr,hrr,HE3⟩:=Option.bind_eq_some_iff.1 HE2
      simp only [Option.some.injEq,Prod.mk.injEq] at HE3
      obtain ⟨rfl,rfl⟩:=HE3
      have HRR:=Aside0.mk hrr
      clear hrr HE2 HE
      go_wp2_with (go_at_call 87;(with_reducible refine (slices_Reverse_int_int.calls k (fun _ => True) _ _ rr w _ HS.out.hb HS.out.ho HRR.out).mono ?_);rintro e w9 ⟨rfl,hv9,hb9,_⟩)
      go_ret2
      exact ⟨_,rfl,Kd.R_mono hv9 (fun _ _ => trivial),hb9⟩
     | false =>
      simp only [Bool.false_eq_true,if_false,Option.some.injEq,Prod.mk.injEq] at HE2
      obtain ⟨rfl,rfl⟩:=HE2
      go_wp2
      go_ret2
      exact ⟨_,rfl,HS.out.ho,HS.out.hb⟩
end Go.Proofs.Ytbelnopbggkdfaa.Q
end

section
namespace Go.Proofs.Ytbelnopbggkdfaa.Q
open Go.RowKit Go.Proofs.YtbelnopbggkdfaaW.PrintWords Go.Proofs.YtbelnopbggkdfaaW.PrintLast Go.Proofs.YtbelnopbggkdfaaW.PrintMore
attribute [local go_sem] max2_int min2_int max_two min_two max_three min_three max_four min_four   -- for this text's walks alone
set_option linter.unusedVariables false
set_option linter.unusedSimpArgs false
def layers_Past.f (k : Nat) (a0_0 : Int) (a0_1 : Int) (l0_2 : List (S46)) (l1 : List Int) : Option (List Int × Int):=(layers_cone.f k a0_0 a0_1 l0_2 l1 true).bind fun bt524 => (some (bt524.1,bt524.2))
set_option maxHeartbeats 8000000 in
set_option maxRecDepth 100000 in
theorem layers_Past.calls (k : Nat) (a0_0 : Int) (a0_1 : Int) (A0_2 : Option Addr) (c0_2 : Nat) (l0_2 : List (S46)) (A1 : Option Addr) (c1 : Nat) (l1 : List Int) (r1 : List Int) (r2 : Int) (w : World) (hr0_2 : Kd.C k46 w A0_2 l0_2.length l0_2) (hc0_2 : l0_2.length≤c0_2) (hr1 : Kd.C (Kd.int .i64) w A1 l1.length l1) (hc1 : l1.length≤c1) (h : layers_Past.f k a0_0 a0_1 l0_2 l1=some (r1,r2)) :
  Calls Try.prog 31 #[.agg #[.int .i64 a0_0,.int .i64 a0_1,.slice A0_2 l0_2.length c0_2],.slice A1 l1.length c1] w fun e w' => ∃ v0_ : Value,e=.returned (.tuple #[v0_,.int .i64 r2])∧Kd.R (Kd.int .i64) 3 w' w.heap.size (fun _ => True) v0_ r1∧Below w.heap.size w w':=by
 have hu24:=Try.underlying24
 have HR0_2:=Aside0.mk hr0_2
 have HC0_2:=Aside0.mk hc0_2
 clear hr0_2 hc0_2
 have HR1:=Aside0.mk hr1
 have HC1:=Aside0.mk hc1
 clear hr1 hc1
 have HB:=Aside0.mk (Below.refl w.heap.size w)
 have H : ((layers_cone.f k a0_0 a0_1 l0_2 l1 true).bind fun bt524 => (some (bt524.1,bt524.2)))=some (r1,r2):=h
 clear h
 replace H:=Option.bind_eq_some_iff.mp H
 obtain ⟨⟨t524,t527⟩,A30,H⟩:=H
 replace H : (some (t524,t527))=some (r1,r2):=H
 have A3:=Aside0.mk A30
 clear A30
 simp only [Option.some.injEq,Prod.mk.injEq] at H
 obtain ⟨rfl,rfl⟩:=H
 go_enter Try.func31,Try.ntmps31
 go_wp2_with (first|((with_reducible refine gate_dst (N:=2) rfl ?_);refine box_event ?hg (N:=2) ?hd (cs:=#[.int .i64 a0_0,.int .i64 a0_1,.slice A0_2 l0_2.length c0_2]) (t:=24) ?hr ?_;(case hd => rfl);(case hg => rfl);(case hr => first|(go_simp;done)|(go_simp;rfl));intro gb523 hg w4 hbox hb;have n0_:=Aside0.mk (below_step (by repeat (first|(with_reducible first|exact HB.out|apply below_alloc|apply pw_below_drewN|apply below_drew1)|exact HB.out)) hb);have n1_:=Aside0.mk (hbox);have n2_:=Aside0.mk ((by rw [hg];exact (below_size (by repeat (first|(with_reducible first|exact HB.out|apply below_alloc|apply pw_below_drewN|apply below_drew1)|exact HB.out))) : w.heap.size≤gb523));have n3_:=Aside0.mk ((by rw [hg];exact (below_size (by repeat (first|(with_reducible first|exact HB.out|apply below_alloc|apply pw_below_drewN|apply below_drew1)|exact HB.out))) : w.heap.size≤gb523));clear HB;have HB:=n0_;have BK523:=n1_;have GW523:=n2_;have GE523:=n3_;clear n0_ n1_ n2_ n3_;clear hb hbox hg;have hcz5_0 : w4.cell? ⟨gb523,0,none⟩=some (.int .i64 a0_0):=(blk_cell BK523.out 0).trans rfl;have hcz5_1 : w4.cell? ⟨gb523,1,none⟩=some (.int .i64 a0_1):=(blk_cell BK523.out 1).trans rfl;have hcz5_2 : w4.cell? ⟨gb523,2,none⟩=some (.slice A0_2 l0_2.length c0_2):=(blk_cell BK523.out 2).trans rfl;have hfz5_0:=blk_frozen BK523.out 0;have hfz5_1:=blk_frozen BK523.out 1;have hfz5_2:=blk_frozen BK523.out 2)|((with_reducible refine gate_callee (f:=72) rfl ?_);refine goesL_ (some 8) rfl rfl Try.func72 (by kernel_rfl) rfl #[.agg #[.int .i64 a0_0,.int .i64 a0_1,.slice A0_2 l0_2.length c0_2],.slice A1 l1.length c1,.bool true] rfl (by (try simp only [List.map_toArray,List.map_cons,List.map_nil]);first|done|rfl|(simp only [List.length_drop,List.length_take];rfl)) ?_;(with_reducible refine (layers_cone.calls k a0_0 a0_1 _ _ l0_2 _ _ l1 true t524 t527 _ ?side1 ?side2 ?side3 ?side4 A3.out).mono ?_);(case side1 => repeat (first|exact (Kd.C_below HR0_2.out HB.out)|(with_reducible refine Kd.C_alloc ?_ _)|(with_reducible refine Kd.C_drewN ?_ _)|(with_reducible refine Kd.C_drew ?_)));(case side2 => exact HC0_2.out);(case side3 => repeat (first|exact (Kd.C_below HR1.out HB.out)|(with_reducible refine Kd.C_alloc ?_ _)|(with_reducible refine Kd.C_drewN ?_ _)|(with_reducible refine Kd.C_drew ?_)));(case side4 => exact HC1.out);rintro e w6 ⟨v525,rfl,ho0,hb⟩;refine ⟨_,rfl,?_⟩;have n0_:=Aside0.mk (Kd.R_lower ho0 (below_size (by repeat (first|(with_reducible first|exact HB.out|apply below_alloc|apply pw_below_drewN|apply below_drew1|refine below_set ?_ GE523.out)|exact HB.out))));have n1_:=Aside0.mk (blk_below (g:=gb523) (o:=.cells #[.int .i64 a0_0,.int .i64 a0_1,.slice A0_2 l0_2.length c0_2] 24 (0,0)) (by (with_reducible repeat (first|refine blk_drewN ?_ _|refine blk_drew ?_|refine blk_alloc ?_ _));exact BK523.out) hb);have n2_:=Aside0.mk (below_step (by repeat (first|(with_reducible first|exact HB.out|apply below_alloc|apply pw_below_drewN|apply below_drew1|refine below_set ?_ GE523.out)|exact HB.out)) hb);clear BK523;clear HB;have HO526:=n0_;have BK523:=n1_;have HB:=n2_;clear n0_ n1_ n2_;(try clear hb);(try clear hb2);(try clear hk);(try clear hi);(try clear ho0)))
 go_ret2
 exact ⟨_,by first|rfl|(simp [errW_none,errW_some] <;> rfl)|(simp [*,errW_none,errW_some] <;> rfl),by (with_reducible repeat (first|apply Kd.R_alloc|apply Kd.R_drewN|apply Kd.R_drew));exact HO526.out,by repeat (first|(with_reducible first|exact HB.out|apply below_alloc|apply pw_below_drewN|apply below_drew1|refine below_set ?_ GE523.out)|exact HB.out)⟩
end Go.Proofs.Ytbelnopbggkdfaa.Q
end

section
namespace Go.Proofs.Ytbelnopbggkdfaa.Q
open Go.RowKit Go.Proofs.YtbelnopbggkdfaaW.PrintWords Go.Proofs.YtbelnopbggkdfaaW.PrintLast Go.Proofs.YtbelnopbggkdfaaW.PrintMore
attribute [local go_sem] max2_int min2_int max_two min_two max_three min_three max_four min_four   -- for this text's walks alone
set_option linter.unusedVariables false
set_option linter.unusedSimpArgs false
def phasorref07_Qubits.f (l0 : List Int) (a1 : Int) : Option (Bool):=some (okB l0 a1)
theorem phasorref07_Qubits.calls (A0 : Option Addr) (c0 : Nat) (l0 : List Int) (a1 : Int) (r : Bool) (w : World) (hr0 : Kd.C (Kd.int .i64) w A0 l0.length l0) (hc0 : l0.length≤c0) (h : phasorref07_Qubits.f l0 a1=some r) :
  Calls Try.prog 88 #[.slice A0 l0.length c0,.int .i64 a1] w fun e w' => e=.returned (.bool r)∧Below w.heap.size w w':=by
 obtain rfl:=Option.some.inj h
 exact qubits_any A0 l0.length c0 l0 a1 w (isL_of_C hr0) rfl
end Go.Proofs.Ytbelnopbggkdfaa.Q
end

section
namespace Go.Proofs.Ytbelnopbggkdfaa.Q
open Go.RowKit Go.Proofs.YtbelnopbggkdfaaW.PrintWords Go.Proofs.YtbelnopbggkdfaaW.PrintLast Go.Proofs.YtbelnopbggkdfaaW.PrintMore
attribute [local go_sem] max2_int min2_int max_two min_two max_three min_three max_four min_four   -- for this text's walks alone
set_option linter.unusedVariables false
set_option linter.unusedSimpArgs false
mutual
def phasorref19_cone.l0 : Nat→Bool→List Int→List Bool→Int→Int→Int→List (S46)→Option (List Int × Int)
 | 0,_,_,_,_,_,_,_ => none
 | k + 1,x2,x8,x9,x10,x677000,x677001,x677002 => if x10 < (x677002.length : Int) then (if x2=true then (phasorref19_cone.j1 k x2 x8 x9 x10 (wrap64 ((wrap64 ((x677002.length : Int) - 1)) - x10)) x677000 x677001 x677002) else (phasorref19_cone.j1 k x2 x8 x9 x10 x10 x677000 x677001 x677002)) else (phasorref19_cone.l1 k x9 ([] : List Int) 0)
def phasorref19_cone.j1 : Nat→Bool→List Int→List Bool→Int→Int→Int→Int→List (S46)→Option (List Int × Int)
 | 0,_,_,_,_,_,_,_,_ => none
 | k + 1,x2,x8,x9,x10,x11,x677000,x677001,x677002 => if 0≤x11 then (if x11 < (x677002.length : Int) then ((phasorref19_wires.f ((rd_T46 x677002 x11).f0) ((rd_T46 x677002 x11).f1) ((rd_T46 x677002 x11).f2) ((rd_T46 x677002 x11).f3) ((rd_T46 x677002 x11).f4) ((rd_T46 x677002 x11).f5)).bind fun t689 => ((phasorref19_bar.f x677000 x677001 x677002 x11).bind fun t692 => (if t692=true then (phasorref19_cone.l0 k x2 x8 x9 (wrap64 (x10 + 1)) x677000 x677001 x677002) else ((phasorref19_meet.f k x8 t689).bind fun t693 => (if t693=true then (if x11 < (x9.length : Int) then (if x8.length + t689.length < 17592186044416 then (phasorref19_cone.l0 k x2 (x8 ++ t689) (x9.set (x11 : Int).toNat true) (wrap64 (x10 + 1)) x677000 x677001 x677002) else (none)) else (none)) else (phasorref19_cone.l0 k x2 x8 x9 (wrap64 (x10 + 1)) x677000 x677001 x677002)))))) else (none)) else (none)
def phasorref19_cone.l1 : Nat→List Bool→List Int→Int→Option (List Int × Int)
 | 0,_,_,_ => none
 | k + 1,x9,x13,x14 => if x14 < (x9.length : Int) then (if 0≤x14 then (if rdOf false x9 x14=true then (if x13.length < 17592186044416 then (phasorref19_cone.l1 k x9 (x13 ++ [x14]) (wrap64 (x14 + 1))) else (none)) else (phasorref19_cone.l1 k x9 x13 (wrap64 (x14 + 1)))) else (none)) else (some (x13,0))
end
def phasorref19_cone.f (k : Nat) (a0_0 : Int) (a0_1 : Int) (l0_2 : List (S46)) (l1 : List Int) (a2 : Bool) : Option (List Int × Int):=(phasorref08_May.f k a0_0 a0_1 l0_2).bind fun t677 => (if t677=true then ((phasorref07_Qubits.f l1 a0_0).bind fun t678 => (if t678=true then ((some (([] : List Int) : List Int)).bind fun y679 => (if y679.length + l1.length < 17592186044416 then (if 0≤(l0_2.length : Int) then (if ((l0_2.length : Int) : Int).toNat≤281474976710656 then (phasorref19_cone.l0 k a2 (y679 ++ l1) (List.replicate ((l0_2.length : Int) : Int).toNat false) 0 a0_0 a0_1 l0_2) else (none)) else (none)) else (none))) else (some (([] : List Int),190)))) else (some (([] : List Int),80)))
set_option maxHeartbeats 8000000 in
set_option maxRecDepth 100000 in
theorem phasorref19_cone.calls (k : Nat) (a0_0 : Int) (a0_1 : Int) (A0_2 : Option Addr) (c0_2 : Nat) (l0_2 : List (S46)) (A1 : Option Addr) (c1 : Nat) (l1 : List Int) (a2 : Bool) (r1 : List Int) (r2 : Int) (w : World) (hr0_2 : Kd.C k46 w A0_2 l0_2.length l0_2) (hc0_2 : l0_2.length≤c0_2) (hr1 : Kd.C (Kd.int .i64) w A1 l1.length l1) (hc1 : l1.length≤c1) (h : phasorref19_cone.f k a0_0 a0_1 l0_2 l1 a2=some (r1,r2)) :
  Calls Try.prog 73 #[.agg #[.int .i64 a0_0,.int .i64 a0_1,.slice A0_2 l0_2.length c0_2],.slice A1 l1.length c1,.bool a2] w fun e w' => ∃ v0_ : Value,e=.returned (.tuple #[v0_,.int .i64 r2])∧Kd.R (Kd.int .i64) 3 w' w.heap.size (fun _ => True) v0_ r1∧Below w.heap.size w w':=by
 have hu24:=Try.underlying24
 have hu46:=Try.underlying46
 have HR0_2:=Aside0.mk hr0_2
 have HC0_2:=Aside0.mk hc0_2
 clear hr0_2 hc0_2
 have HR1:=Aside0.mk hr1
 have HC1:=Aside0.mk hc1
 clear hr1 hc1
 have HB:=Aside0.mk (Below.refl w.heap.size w)
 have H : ((phasorref08_May.f k a0_0 a0_1 l0_2).bind fun t677 => (if t677=true then ((phasorref07_Qubits.f l1 a0_0).bind fun t678 => (if t678=true then ((some (([] : List Int) : List Int)).bind fun y679 => (if y679.length + l1.length < 17592186044416 then (if 0≤(l0_2.length : Int) then (if ((l0_2.length : Int) : Int).toNat≤281474976710656 then (phasorref19_cone.l0 k a2 (y679 ++ l1) (List.replicate ((l0_2.length : Int) : Int).toNat false) 0 a0_0 a0_1 l0_2) else (none)) else (none)) else (none))) else (some (([] : List Int),190)))) else (some (([] : List Int),80))))=some (r1,r2):=h
 clear h
 replace H:=Option.bind_eq_some_iff.mp H
 obtain ⟨t677,A40,H⟩:=H
 replace H : (if t677=true then ((phasorref07_Qubits.f l1 a0_0).bind fun t678 => (if t678=true then ((some (([] : List Int) : List Int)).bind fun y679 => (if y679.length + l1.length < 17592186044416 then (if 0≤(l0_2.length : Int) then (if ((l0_2.length : Int) : Int).toNat≤281474976710656 then (phasorref19_cone.l0 k a2 (y679 ++ l1) (List.replicate ((l0_2.length : Int) : Int).toNat false) 0 a0_0 a0_1 l0_2) else (none)) else (none)) else (none))) else (some (([] : List Int),190)))) else (some (([] : List Int),80)))=some (r1,r2):=H
 have A4:=Aside0.mk A40
 clear A40
 by_cases c5 : t677=true
 ·subst c5
  have H1 : ((phasorref07_Qubits.f l1 a0_0).bind fun t678 => (if t678=true then ((some (([] : List Int) : List Int)).bind fun y679 => (if y679.length + l1.length < 17592186044416 then (if 0≤(l0_2.length : Int) then (if ((l0_2.length : Int) : Int).toNat≤281474976710656 then (phasorref19_cone.l0 k a2 (y679 ++ l1) (List.replicate ((l0_2.length : Int) : Int).toNat false) 0 a0_0 a0_1 l0_2) else (none)) else (none)) else (none))) else (some (([] : List Int),190))))=some (r1,r2):=by rw [if_pos rfl] at H;exact H
  clear H
  have H:=H1
  clear H1
  replace H:=Option.bind_eq_some_iff.mp H
  obtain ⟨t678,A60,H⟩:=H
  replace H : (if t678=true then ((some (([] : List Int) : List Int)).bind fun y679 => (if y679.length + l1.length < 17592186044416 then (if 0≤(l0_2.length : Int) then (if ((l0_2.length : Int) : Int).toNat≤281474976710656 then (phasorref19_cone.l0 k a2 (y679 ++ l1) (List.replicate ((l0_2.length : Int) : Int).toNat false) 0 a0_0 a0_1 l0_2) else (none)) else (none)) else (none))) else (some (([] : List Int),190)))=some (r1,r2):=H
  have A6:=Aside0.mk A60
  clear A60
  by_cases c7 : t678=true
  ·subst c7
   have H1 : ((some (([] : List Int) : List Int)).bind fun y679 => (if y679.length + l1.length < 17592186044416 then (if 0≤(l0_2.length : Int) then (if ((l0_2.length : Int) : Int).toNat≤281474976710656 then (phasorref19_cone.l0 k a2 (y679 ++ l1) (List.replicate ((l0_2.length : Int) : Int).toNat false) 0 a0_0 a0_1 l0_2) else (none)) else (none)) else (none)))=some (r1,r2):=by rw [if_pos rfl] at H;exact H
   clear H
   have H:=H1
   clear H1
   obtain ⟨y679,hy679⟩ : ∃ y_ : List Int,y_=(([] : List Int)):=⟨_,rfl⟩
   replace H : (if y679.length + l1.length < 17592186044416 then (if 0≤(l0_2.length : Int) then (if ((l0_2.length : Int) : Int).toNat≤281474976710656 then (phasorref19_cone.l0 k a2 (y679 ++ l1) (List.replicate ((l0_2.length : Int) : Int).toNat false) 0 a0_0 a0_1 l0_2) else (none)) else (none)) else (none))=some (r1,r2):=by first|(rw [hy679];with_reducible exact H)|(have H2_:=(Option.bind_some _ _).symm.trans H;rw [hy679];with_reducible exact H2_)|(have H2_:=(Option.bind_some _ _).symm.trans H;with_reducible exact H2_)|with_reducible exact H|(rw [hy679];exact H)|exact H
   have Ny679:=Aside0.mk hy679
   clear hy679
   by_cases c8 : y679.length + l1.length < 17592186044416
   ·rw [if_pos c8] at H
    have LMc8:=Aside0.mk c8
    clear c8
    obtain ⟨y682,hy682⟩ : ∃ y_ : List Int,y_=(y679 ++ l1):=⟨_,rfl⟩
    replace H : (if 0≤(l0_2.length : Int) then (if ((l0_2.length : Int) : Int).toNat≤281474976710656 then (phasorref19_cone.l0 k a2 y682 (List.replicate ((l0_2.length : Int) : Int).toNat false) 0 a0_0 a0_1 l0_2) else (none)) else (none))=some (r1,r2):=by first|(rw [hy682];with_reducible exact H)|(have H2_:=(Option.bind_some _ _).symm.trans H;rw [hy682];with_reducible exact H2_)|(have H2_:=(Option.bind_some _ _).symm.trans H;with_reducible exact H2_)|with_reducible exact H|(rw [hy682];exact H)|exact H
    have Ny682:=Aside0.mk hy682
    clear hy682
    by_cases c9 : 0≤(l0_2.length : Int)
    ·rw [if_pos c9] at H
     have c9b0:=eq_true c9
     have c9b1 : decide (0≤(l0_2.length : Int))=true:=decide_eq_true c9
     clear c9
     by_cases c10 : ((l0_2.length : Int) : Int).toNat≤281474976710656
     ·rw [if_pos c10] at H
      have c10b0:=eq_true c10
      have c10b1 : decide (((l0_2.length : Int) : Int).toNat≤281474976710656)=true:=decide_eq_true c10
      clear c10
      obtain ⟨y685,hy685⟩ : ∃ y_ : List Bool,y_=(List.replicate ((l0_2.length : Int) : Int).toNat false):=⟨_,rfl⟩
      replace H : (phasorref19_cone.l0 k a2 y682 y685 0 a0_0 a0_1 l0_2)=some (r1,r2):=by first|(rw [hy685];with_reducible exact H)|(have H2_:=(Option.bind_some _ _).symm.trans H;rw [hy685];with_reducible exact H2_)|(have H2_:=(Option.bind_some _ _).symm.trans H;with_reducible exact H2_)|with_reducible exact H|(rw [hy685];exact H)|exact H
      have Ny685:=Aside0.mk hy685
      clear hy685
      have H':=Aside0.mk H
      clear H
      go_enter Try.func73,Try.ntmps73
      go_wp2_with (first|((with_reducible refine gate_dst (N:=3) rfl ?_);refine box_event ?hg (N:=3) ?hd (cs:=#[.int .i64 a0_0,.int .i64 a0_1,.slice A0_2 l0_2.length c0_2]) (t:=24) ?hr ?_;(case hd => rfl);(case hg => rfl);(case hr => first|(go_simp;done)|(go_simp;rfl));intro gb676 hg w11 hbox hb;have n0_:=Aside0.mk (below_step (by repeat (first|(with_reducible first|exact HB.out|apply below_alloc|apply pw_below_drewN|apply below_drew1)|exact HB.out)) hb);have n1_:=Aside0.mk (hbox);have n2_:=Aside0.mk ((by rw [hg];exact (below_size (by repeat (first|(with_reducible first|exact HB.out|apply below_alloc|apply pw_below_drewN|apply below_drew1)|exact HB.out))) : w.heap.size≤gb676));have n3_:=Aside0.mk ((by rw [hg];exact (below_size (by repeat (first|(with_reducible first|exact HB.out|apply below_alloc|apply pw_below_drewN|apply below_drew1)|exact HB.out))) : w.heap.size≤gb676));clear HB;have HB:=n0_;have BK676:=n1_;have GW676:=n2_;have GE676:=n3_;clear n0_ n1_ n2_ n3_;clear hb hbox hg;have hcz12_0 : w11.cell? ⟨gb676,0,none⟩=some (.int .i64 a0_0):=(blk_cell BK676.out 0).trans rfl;have hcz12_1 : w11.cell? ⟨gb676,1,none⟩=some (.int .i64 a0_1):=(blk_cell BK676.out 1).trans rfl;have hcz12_2 : w11.cell? ⟨gb676,2,none⟩=some (.slice A0_2 l0_2.length c0_2):=(blk_cell BK676.out 2).trans rfl;have hfz12_0:=blk_frozen BK676.out 0;have hfz12_1:=blk_frozen BK676.out 1;have hfz12_2:=blk_frozen BK676.out 2)|((with_reducible refine gate_callee (f:=24) rfl ?_);refine goesL_ (some 16) rfl rfl Try.func24 (by kernel_rfl) rfl #[.agg #[.int .i64 a0_0,.int .i64 a0_1,.slice A0_2 l0_2.length c0_2]] rfl (by (try simp only [List.map_toArray,List.map_cons,List.map_nil]);first|done|rfl|(simp only [List.length_drop,List.length_take];rfl)) ?_;(with_reducible refine (phasorref08_May.calls k a0_0 a0_1 _ _ l0_2 true _ ?side1 ?side2 A4.out).mono ?_);(case side1 => repeat (first|exact (Kd.C_below HR0_2.out HB.out)|(with_reducible refine Kd.C_alloc ?_ _)|(with_reducible refine Kd.C_drewN ?_ _)|(with_reducible refine Kd.C_drew ?_)));(case side2 => exact HC0_2.out);rintro e w13 ⟨rfl,hb⟩;refine ⟨_,rfl,?_⟩;have n0_:=Aside0.mk (blk_below (g:=gb676) (o:=.cells #[.int .i64 a0_0,.int .i64 a0_1,.slice A0_2 l0_2.length c0_2] 24 (0,0)) (by (with_reducible repeat (first|refine blk_drewN ?_ _|refine blk_drew ?_|refine blk_alloc ?_ _));exact BK676.out) hb);have n1_:=Aside0.mk (below_step (by repeat (first|(with_reducible first|exact HB.out|apply below_alloc|apply pw_below_drewN|apply below_drew1|refine below_set ?_ GE676.out)|exact HB.out)) hb);clear BK676;clear HB;have BK676:=n0_;have HB:=n1_;clear n0_ n1_;(try clear hb);(try clear hb2);(try clear hk);(try clear hi);have hcz14_0 : w13.cell? ⟨gb676,0,none⟩=some (.int .i64 a0_0):=(blk_cell BK676.out 0).trans rfl;have hcz14_1 : w13.cell? ⟨gb676,1,none⟩=some (.int .i64 a0_1):=(blk_cell BK676.out 1).trans rfl;have hcz14_2 : w13.cell? ⟨gb676,2,none⟩=some (.slice A0_2 l0_2.length c0_2):=(blk_cell BK676.out 2).trans rfl;have hfz14_0:=blk_frozen BK676.out 0;have hfz14_1:=blk_frozen BK676.out 1;have hfz14_2:=blk_frozen BK676.out 2)|((with_reducible refine gate_callee (f:=88) rfl ?_);refine goesL_ (some 21) rfl rfl Try.func88 (by kernel_rfl) rfl #[.slice A1 l1.length c1,.int .i64 a0_0] rfl (by (try simp only [List.map_toArray,List.map_cons,List.map_nil]);first|done|rfl|(simp only [List.length_drop,List.length_take];rfl)) ?_;(with_reducible refine (phasorref07_Qubits.calls _ _ l1 a0_0 true _ ?side1 ?side2 A6.out).mono ?_);(case side1 => repeat (first|exact (Kd.C_below HR1.out HB.out)|(with_reducible refine Kd.C_alloc ?_ _)|(with_reducible refine Kd.C_drewN ?_ _)|(with_reducible refine Kd.C_drew ?_)));(case side2 => exact HC1.out);rintro e w15 ⟨rfl,hb⟩;refine ⟨_,rfl,?_⟩;have n0_:=Aside0.mk (blk_below (g:=gb676) (o:=.cells #[.int .i64 a0_0,.int .i64 a0_1,.slice A0_2 l0_2.length c0_2] 24 (0,0)) (by (with_reducible repeat (first|refine blk_drewN ?_ _|refine blk_drew ?_|refine blk_alloc ?_ _));exact BK676.out) hb);have n1_:=Aside0.mk (below_step (by repeat (first|(with_reducible first|exact HB.out|apply below_alloc|apply pw_below_drewN|apply below_drew1|refine below_set ?_ GE676.out)|exact HB.out)) hb);clear BK676;clear HB;have BK676:=n0_;have HB:=n1_;clear n0_ n1_;(try clear hb);(try clear hb2);(try clear hk);(try clear hi))|((with_reducible refine gate_dst (N:=23) rfl ?_);refine Kd.R_lit (Kd.int .i64) _ 3 ?hg (N:=23) ?hd (xs:=([] : List Int)) (inner:=[]) (ok:=fun _ => True) (okp:=fun _ => True) ?hr ?hp (fun _ hk => hk) trivial (Below.refl _ _) (Nat.le_refl _) (by simp) ?_;(case hd => rfl);(case hg => rfl);(case hr => first|(go_simp;done)|(go_simp;rfl));(case hp => exact (Reps.none _ _));intro v680 w16 ho17 hb hg_ hnew_;clear hg_ hnew_;(first|rw [← Ny679.out] at ho17|(simp only [Int.reduceToNat] at ho17;rw [← Ny679.out] at ho17));have n0_:=Aside0.mk (Kd.R_lower ho17 (below_size (by repeat (first|(with_reducible first|exact HB.out|apply below_alloc|apply pw_below_drewN|apply below_drew1|refine below_set ?_ GE676.out)|exact HB.out))));have n1_:=Aside0.mk (blk_below (g:=gb676) (o:=.cells #[.int .i64 a0_0,.int .i64 a0_1,.slice A0_2 l0_2.length c0_2] 24 (0,0)) (by (with_reducible repeat (first|refine blk_drewN ?_ _|refine blk_drew ?_|refine blk_alloc ?_ _));exact BK676.out) hb);have n2_:=Aside0.mk (below_step (by repeat (first|(with_reducible first|exact HB.out|apply below_alloc|apply pw_below_drewN|apply below_drew1|refine below_set ?_ GE676.out)|exact HB.out)) hb);clear BK676;clear HB;have HO681:=n0_;have BK676:=n1_;have HB:=n2_;clear n0_ n1_ n2_;clear hb ho17)|((with_reducible refine gate_builtin (b:=.append) (xs:=#[.tmp 23,.tmp 24]) rfl ?_);at_builtin;refine Kd.R_append_rows (Kd.int .i64) (w0:=w) w.heap.size rfl (.tmp 23) (.tmp 24) 37 3 (.int .i64 0) 8 rfl Try.underlying37 info3 rfl (by decide) (by omega) v680 y679 l1 _ _ _ (fun _ => True) (fun _ => False) rfl rfl ?aO ?aR (fun _ _ h => h) (fun _ h => h.elim) ?aF ?aB ?aS ?aL ?_;(case aR => repeat (first|exact (Kd.C_below HR1.out HB.out)|(with_reducible refine Kd.C_alloc ?_ _)|(with_reducible refine Kd.C_drewN ?_ _)|(with_reducible refine Kd.C_drew ?_)));(case aB => exact (by repeat (first|(with_reducible first|exact HB.out|apply below_alloc|apply pw_below_drewN|apply below_drew1|refine below_set ?_ GE676.out)|exact HB.out)));(case aF => exact (fun _ _ => trivial));(case aO => exact (by (with_reducible repeat (first|apply Kd.R_alloc|apply Kd.R_drewN|apply Kd.R_drew));exact HO681.out));(case aS => exact (below_size (by repeat (first|(with_reducible first|exact HB.out|apply below_alloc|apply pw_below_drewN|apply below_drew1|refine below_set ?_ GE676.out)|exact HB.out))));(case aL => have:=LMc8.out;omega);intro v683 w18 ho hb hg hat;rw [← Ny682.out] at ho;have n0_:=Aside0.mk (blk_grown (g:=gb676) (o:=.cells #[.int .i64 a0_0,.int .i64 a0_1,.slice A0_2 l0_2.length c0_2] 24 (0,0)) (by (with_reducible repeat (first|refine blk_drewN ?_ _|refine blk_drew ?_|refine blk_alloc ?_ _));exact BK676.out) hg (Kd.R_ne HO681.out BK676.out (by decide)));have n1_:=Aside0.mk (hb);have n2_:=Aside0.mk (ho);clear BK676;clear HB;clear HO681;have BK676:=n0_;have HB:=n1_;have HO684:=n2_;clear n0_ n1_ n2_;clear ho hb hg hat;have hcz19_0 : w18.cell? ⟨gb676,0,none⟩=some (.int .i64 a0_0):=(blk_cell BK676.out 0).trans rfl;have hcz19_1 : w18.cell? ⟨gb676,1,none⟩=some (.int .i64 a0_1):=(blk_cell BK676.out 1).trans rfl;have hcz19_2 : w18.cell? ⟨gb676,2,none⟩=some (.slice A0_2 l0_2.length c0_2):=(blk_cell BK676.out 2).trans rfl;have hfz19_0:=blk_frozen BK676.out 0;have hfz19_1:=blk_frozen BK676.out 1;have hfz19_2:=blk_frozen BK676.out 2)|((with_reducible refine gate_dst (N:=29) rfl ?_);refine Kd.R_make Kd.bool _ 4 rfl (N:=29) rfl 99 _ _ rfl (l0_2.length : Int) rfl rfl Try.underlying99 (.bool false) 1 info4 rfl (by decide) (by omega) false (ok:=fun _ => True) (okp:=fun _ => True) rfl (fun _ hk => hk) trivial (of_decide_eq_true (by first|(with_reducible assumption)|assumption)) (Nat.le_trans (Nat.mul_le_mul_right _ (of_decide_eq_true (by first|(with_reducible assumption)|assumption) : (l0_2.length : Int).toNat≤281474976710656)) (by omega)) (Below.refl _ _) (Nat.le_refl _) ?_;intro v686 w20 ho21 hb hg_ hnew_;clear hg_ hnew_;(first|rw [← Ny685.out] at ho21|(simp only [Int.reduceToNat] at ho21;rw [← Ny685.out] at ho21));have n0_:=Aside0.mk (Kd.R_below (by (with_reducible repeat (first|apply Kd.R_alloc|apply Kd.R_drewN|apply Kd.R_drew));exact HO684.out) hb);have n1_:=Aside0.mk (Kd.R_lower ho21 (below_size (by repeat (first|(with_reducible first|exact HB.out|apply below_alloc|apply pw_below_drewN|apply below_drew1|refine below_set ?_ GE676.out)|exact HB.out))));have n2_:=Aside0.mk (blk_below (g:=gb676) (o:=.cells #[.int .i64 a0_0,.int .i64 a0_1,.slice A0_2 l0_2.length c0_2] 24 (0,0)) (by (with_reducible repeat (first|refine blk_drewN ?_ _|refine blk_drew ?_|refine blk_alloc ?_ _));exact BK676.out) hb);have n3_:=Aside0.mk (below_step (by repeat (first|(with_reducible first|exact HB.out|apply below_alloc|apply pw_below_drewN|apply below_drew1|refine below_set ?_ GE676.out)|exact HB.out)) hb);clear HO684;clear BK676;clear HB;have HO684:=n0_;have HO687:=n1_;have BK676:=n2_;have HB:=n3_;clear n0_ n1_ n2_ n3_;clear hb ho21))
      go_loopg [8,10] k (fun kq v8 v10 w' => ∃ (x8_1 : List Int) (x9_1 : List Bool) (x10_1 : Int),v10=.int .i64 x10_1∧Aside0 (phasorref19_cone.l0 kq a2 x8_1 x9_1 x10_1 a0_0 a0_1 l0_2=some (r1,r2))∧Aside0 (kq≤k)∧Aside0 (Kd.R (Kd.int .i64) 3 w' w.heap.size (fun _ => True) v8 x8_1)∧Aside0 (Kd.R Kd.bool 4 w' w.heap.size (fun _ => True) v686 x9_1)∧Aside0 (w'.heap[gb676]?=some (.cells #[.int .i64 a0_0,.int .i64 a0_1,(.slice A0_2 l0_2.length c0_2)] 24 (0,0)))∧Aside0 (Below w.heap.size w w'))
      case atStart => exact ⟨(y682),(y685),(0),(by first|rfl|(simp;done)|(simp [*];done)),H',⟨Nat.le_refl _⟩,⟨by (with_reducible repeat (first|apply Kd.R_alloc|apply Kd.R_drewN|apply Kd.R_drew));exact HO684.out⟩,⟨by (with_reducible repeat (first|apply Kd.R_alloc|apply Kd.R_drewN|apply Kd.R_drew));exact HO687.out⟩,⟨by (with_reducible repeat (first|refine blk_drewN ?_ _|refine blk_drew ?_|refine blk_alloc ?_ _));exact BK676.out⟩,⟨by repeat (first|(with_reducible first|exact HB.out|apply below_alloc|apply pw_below_drewN|apply below_drew1|refine below_set ?_ GE676.out)|exact HB.out)⟩⟩
      case round =>
       clear H'
       try clear c1
       try clear c2
       try clear p2
       try clear c5
       try clear c7
       try clear c8
       try clear c9
       try clear c9b0
       try clear c9b1
       try clear c10
       try clear c10b0
       try clear c10b1
       try clear hcz12_0
       try clear hcz12_1
       try clear hcz12_2
       try clear hcz14_0
       try clear hcz14_1
       try clear hcz14_2
       try clear hcz19_0
       try clear hcz19_1
       try clear hcz19_2
       try clear hfz12_0
       try clear hfz12_1
       try clear hfz12_2
       try clear hfz14_0
       try clear hfz14_1
       try clear hfz14_2
       try clear hfz19_0
       try clear hfz19_1
       try clear hfz19_2
       obtain ⟨x8_1,x9_1,x10_1,rfl,HA,HK1,HO_8,HO_9,BK676,HB⟩:=hrel
       cases gk with
       | zero => exact absurd HA.out (by simp [phasorref19_cone.l0])
       | succ k1 =>
        have H:=HA.out
        clear HA
        simp only [phasorref19_cone.l0] at H
        by_cases c22 : x10_1 < (l0_2.length : Int)
        ·rw [if_pos c22] at H
         have c22b0 : decide (x10_1 < (l0_2.length : Int))=true:=decide_eq_true c22
         clear c22
         have HC23:=Aside0.mk H
         clear H
         have hcz24_0 : wr.cell? ⟨gb676,0,none⟩=some (.int .i64 a0_0):=(blk_cell BK676.out 0).trans rfl
         have hcz24_1 : wr.cell? ⟨gb676,1,none⟩=some (.int .i64 a0_1):=(blk_cell BK676.out 1).trans rfl
         have hcz24_2 : wr.cell? ⟨gb676,2,none⟩=some (.slice A0_2 l0_2.length c0_2):=(blk_cell BK676.out 2).trans rfl
         have hfz24_0:=blk_frozen BK676.out 0
         have hfz24_1:=blk_frozen BK676.out 1
         have hfz24_2:=blk_frozen BK676.out 2
         go_upto_if 38 with (fail)
         go_cut [11] (fun v11 wc => ∃ (kq : Nat) (x11_22 : Int),v11=.int .i64 x11_22∧Aside0 (phasorref19_cone.j1 kq a2 x8_1 x9_1 x10_1 x11_22 a0_0 a0_1 l0_2=some (r1,r2))∧Aside0 (kq≤k1)∧Aside0 (Kd.R (Kd.int .i64) 3 wc w.heap.size (fun _ => True) u8 x8_1)∧Aside0 (Kd.R Kd.bool 4 wc w.heap.size (fun _ => True) v686 x9_1)∧Aside0 (wc.heap[gb676]?=some (.cells #[.int .i64 a0_0,.int .i64 a0_1,(.slice A0_2 l0_2.length c0_2)] 24 (0,0)))∧Aside0 (Below w.heap.size w wc))
         case first =>
          have H:=HC23.out
          clear HC23
          by_cases c25 : a2=true
          ·subst c25
           have H1 : (phasorref19_cone.j1 k1 true x8_1 x9_1 x10_1 (wrap64 ((wrap64 ((l0_2.length : Int) - 1)) - x10_1)) a0_0 a0_1 l0_2)=some (r1,r2):=by rw [if_pos rfl] at H;exact H
           clear H
           have H:=H1
           clear H1
           have H':=Aside0.mk H
           clear H
           have hcz26_0 : wr.cell? ⟨gb676,0,none⟩=some (.int .i64 a0_0):=(blk_cell BK676.out 0).trans rfl
           have hcz26_1 : wr.cell? ⟨gb676,1,none⟩=some (.int .i64 a0_1):=(blk_cell BK676.out 1).trans rfl
           have hcz26_2 : wr.cell? ⟨gb676,2,none⟩=some (.slice A0_2 l0_2.length c0_2):=(blk_cell BK676.out 2).trans rfl
           have hfz26_0:=blk_frozen BK676.out 0
           have hfz26_1:=blk_frozen BK676.out 1
           have hfz26_2:=blk_frozen BK676.out 2
           go_wp2
           go_meet
           case rel => exact ⟨_,(wrap64 ((wrap64 ((l0_2.length : Int) - 1)) - x10_1)),(by first|rfl|(simp;done)|(simp [*];done)),H',⟨by have:=HK1.out;first|omega|exact Nat.le_refl _⟩,⟨by (with_reducible repeat (first|apply Kd.R_alloc|apply Kd.R_drewN|apply Kd.R_drew));exact HO_8.out⟩,⟨by (with_reducible repeat (first|apply Kd.R_alloc|apply Kd.R_drewN|apply Kd.R_drew));exact HO_9.out⟩,⟨by (with_reducible repeat (first|refine blk_drewN ?_ _|refine blk_drew ?_|refine blk_alloc ?_ _));exact BK676.out⟩,⟨by repeat (first|(with_reducible first|exact HB.out|apply below_alloc|apply pw_below_drewN|apply below_drew1|refine below_set ?_ GE676.out)|exact HB.out)⟩⟩
          ·replace c25:=Bool.eq_false_iff.mpr c25
           subst c25
           have H1 : (phasorref19_cone.j1 k1 false x8_1 x9_1 x10_1 x10_1 a0_0 a0_1 l0_2)=some (r1,r2):=by rw [if_neg (show ¬ (false=true) by decide)] at H;exact H
           clear H
           have H:=H1
           clear H1
           have H':=Aside0.mk H
           clear H
           go_wp2
           go_meet
           case rel => exact ⟨_,(x10_1),(by first|rfl|(simp;done)|(simp [*];done)),H',⟨by have:=HK1.out;first|omega|exact Nat.le_refl _⟩,⟨by (with_reducible repeat (first|apply Kd.R_alloc|apply Kd.R_drewN|apply Kd.R_drew));exact HO_8.out⟩,⟨by (with_reducible repeat (first|apply Kd.R_alloc|apply Kd.R_drewN|apply Kd.R_drew));exact HO_9.out⟩,⟨by (with_reducible repeat (first|refine blk_drewN ?_ _|refine blk_drew ?_|refine blk_alloc ?_ _));exact BK676.out⟩,⟨by repeat (first|(with_reducible first|exact HB.out|apply below_alloc|apply pw_below_drewN|apply below_drew1|refine below_set ?_ GE676.out)|exact HB.out)⟩⟩
         case rest =>
          clear HC23
          try clear c1
          try clear c2
          try clear p2
          try clear c5
          try clear p6
          try clear c7
          try clear c8
          try clear c9
          try clear c9b0
          try clear c9b1
          try clear c10
          try clear c10b0
          try clear c10b1
          try clear c22
          try clear c22b0
          try clear c24
          try clear c25
          try clear hcz12_0
          try clear hcz12_1
          try clear hcz12_2
          try clear hcz14_0
          try clear hcz14_1
          try clear hcz14_2
          try clear hcz19_0
          try clear hcz19_1
          try clear hcz19_2
          try clear hcz24_0
          try clear hcz24_1
          try clear hcz24_2
          try clear hcz26_0
          try clear hcz26_1
          try clear hcz26_2
          try clear hfz12_0
          try clear hfz12_1
          try clear hfz12_2
          try clear hfz14_0
          try clear hfz14_1
          try clear hfz14_2
          try clear hfz19_0
          try clear hfz19_1
          try clear hfz19_2
          try clear hfz24_0
          try clear hfz24_1
          try clear hfz24_2
          try clear hfz26_0
          try clear hfz26_1
          try clear hfz26_2
          try clear p2
          obtain ⟨kq,x11_22,rfl,HA,HJ22,HO_8,HO_9,BK676,HB⟩:=hcut
          cases kq with
          | zero => exact absurd HA.out (by simp [phasorref19_cone.j1])
          | succ kj22 =>
           have H:=HA.out
           clear HA
           simp only [phasorref19_cone.j1] at H
           by_cases c27 : 0≤x11_22
           ·rw [if_pos c27] at H
            have c27b0 : decide (0≤x11_22)=true:=decide_eq_true c27
            clear c27
            by_cases c28 : x11_22 < (l0_2.length : Int)
            ·rw [if_pos c28] at H
             have c28b0 : decide (x11_22 < (l0_2.length : Int))=true:=decide_eq_true c28
             clear c28
             replace H:=Option.bind_eq_some_iff.mp H
             obtain ⟨t689,A290,H⟩:=H
             replace H : ((phasorref19_bar.f a0_0 a0_1 l0_2 x11_22).bind fun t692 => (if t692=true then (phasorref19_cone.l0 kj22 a2 x8_1 x9_1 (wrap64 (x10_1 + 1)) a0_0 a0_1 l0_2) else ((phasorref19_meet.f kj22 x8_1 t689).bind fun t693 => (if t693=true then (if x11_22 < (x9_1.length : Int) then (if x8_1.length + t689.length < 17592186044416 then (phasorref19_cone.l0 kj22 a2 (x8_1 ++ t689) (x9_1.set (x11_22 : Int).toNat true) (wrap64 (x10_1 + 1)) a0_0 a0_1 l0_2) else (none)) else (none)) else (phasorref19_cone.l0 kj22 a2 x8_1 x9_1 (wrap64 (x10_1 + 1)) a0_0 a0_1 l0_2)))))=some (r1,r2):=H
             have A29:=Aside0.mk A290
             clear A290
             replace H:=Option.bind_eq_some_iff.mp H
             obtain ⟨t692,A300,H⟩:=H
             replace H : (if t692=true then (phasorref19_cone.l0 kj22 a2 x8_1 x9_1 (wrap64 (x10_1 + 1)) a0_0 a0_1 l0_2) else ((phasorref19_meet.f kj22 x8_1 t689).bind fun t693 => (if t693=true then (if x11_22 < (x9_1.length : Int) then (if x8_1.length + t689.length < 17592186044416 then (phasorref19_cone.l0 kj22 a2 (x8_1 ++ t689) (x9_1.set (x11_22 : Int).toNat true) (wrap64 (x10_1 + 1)) a0_0 a0_1 l0_2) else (none)) else (none)) else (phasorref19_cone.l0 kj22 a2 x8_1 x9_1 (wrap64 (x10_1 + 1)) a0_0 a0_1 l0_2))))=some (r1,r2):=H
             have A30:=Aside0.mk A300
             clear A300
             by_cases c31 : t692=true
             ·subst c31
              have H1 : (phasorref19_cone.l0 kj22 a2 x8_1 x9_1 (wrap64 (x10_1 + 1)) a0_0 a0_1 l0_2)=some (r1,r2):=by rw [if_pos rfl] at H;exact H
              clear H
              have H:=H1
              clear H1
              have H':=Aside0.mk H
              clear H
              have hcz32_0 : wc.cell? ⟨gb676,0,none⟩=some (.int .i64 a0_0):=(blk_cell BK676.out 0).trans rfl
              have hcz32_1 : wc.cell? ⟨gb676,1,none⟩=some (.int .i64 a0_1):=(blk_cell BK676.out 1).trans rfl
              have hcz32_2 : wc.cell? ⟨gb676,2,none⟩=some (.slice A0_2 l0_2.length c0_2):=(blk_cell BK676.out 2).trans rfl
              have hfz32_0:=blk_frozen BK676.out 0
              have hfz32_1:=blk_frozen BK676.out 1
              have hfz32_2:=blk_frozen BK676.out 2
              have p688 : 0≤(x11_22 : Int):=of_decide_eq_true (by first|(with_reducible assumption)|assumption)
              have q688 : x11_22 < (l0_2.length : Int):=of_decide_eq_true (by first|(with_reducible assumption)|assumption)
              obtain ⟨ad688,A688_2,c688_2,e688,hx688_0,hx688_1,hx688_2,hx688_3,hx688_4,hx688_5,hl688_2,hi688_2⟩:=at_T46 HR0_2.out x11_22 p688 q688
              cases e688
              replace hx688_0:=(HB.out.cell (World.block_lt_of_cell? w _ hx688_0)).trans hx688_0
              replace hx688_1:=(HB.out.cell (World.block_lt_of_cell? w _ hx688_1)).trans hx688_1
              replace hx688_2:=(HB.out.cell (World.block_lt_of_cell? w _ hx688_2)).trans hx688_2
              replace hx688_3:=(HB.out.cell (World.block_lt_of_cell? w _ hx688_3)).trans hx688_3
              replace hx688_4:=(HB.out.cell (World.block_lt_of_cell? w _ hx688_4)).trans hx688_4
              replace hx688_5:=(HB.out.cell (World.block_lt_of_cell? w _ hx688_5)).trans hx688_5
              have HR688_2:=Aside0.mk hi688_2
              have HC688_2:=Aside0.mk hl688_2
              clear hi688_2 hl688_2
              replace p688:=eq_true p688
              replace q688:=eq_true q688
              go_wp2_with (first|((with_reducible refine gate_callee (f:=83) rfl ?_);refine goesL_ (some 50) rfl rfl Try.func83 (by kernel_rfl) rfl #[.agg #[.int .i64 ((rd_T46 l0_2 x11_22).f0),.int .i64 ((rd_T46 l0_2 x11_22).f1),.slice A688_2 ((rd_T46 l0_2 x11_22).f2).length c688_2,.int .i64 ((rd_T46 l0_2 x11_22).f3),.int .i64 ((rd_T46 l0_2 x11_22).f4),.int .i64 ((rd_T46 l0_2 x11_22).f5)]] rfl (by (try simp only [List.map_toArray,List.map_cons,List.map_nil]);first|done|rfl|(simp only [List.length_drop,List.length_take];rfl)) ?_;(with_reducible refine (phasorref19_wires.calls ((rd_T46 l0_2 x11_22).f0) ((rd_T46 l0_2 x11_22).f1) _ _ ((rd_T46 l0_2 x11_22).f2) ((rd_T46 l0_2 x11_22).f3) ((rd_T46 l0_2 x11_22).f4) ((rd_T46 l0_2 x11_22).f5) t689 _ ?side1 ?side2 A29.out).mono ?_);(case side1 => repeat (first|exact (Kd.C_below HR688_2.out HB.out)|(with_reducible refine Kd.C_alloc ?_ _)|(with_reducible refine Kd.C_drewN ?_ _)|(with_reducible refine Kd.C_drew ?_)));(case side2 => exact HC688_2.out);rintro e w33 ⟨v690,rfl,ho0,hb⟩;refine ⟨_,rfl,?_⟩;have n0_:=Aside0.mk (Kd.R_elder' (by (with_reducible repeat (first|apply Kd.R_alloc|apply Kd.R_drewN|apply Kd.R_drew));exact HO_8.out) (Kd.R_base ho0) hb);have n1_:=Aside0.mk (Kd.R_below (by (with_reducible repeat (first|apply Kd.R_alloc|apply Kd.R_drewN|apply Kd.R_drew));exact HO_9.out) hb);have n2_:=Aside0.mk (Kd.R_lower (Kd.R_new' ho0 (Kd.R_lt (by (with_reducible repeat (first|apply Kd.R_alloc|apply Kd.R_drewN|apply Kd.R_drew));exact HO_8.out))) (below_size (by repeat (first|(with_reducible first|exact HB.out|apply below_alloc|apply pw_below_drewN|apply below_drew1|refine below_set ?_ GE676.out)|exact HB.out))));have n3_:=Aside0.mk (blk_below (g:=gb676) (o:=.cells #[.int .i64 a0_0,.int .i64 a0_1,.slice (some ad688) l0_2.length c0_2] 24 (0,0)) (by (with_reducible repeat (first|refine blk_drewN ?_ _|refine blk_drew ?_|refine blk_alloc ?_ _));exact BK676.out) hb);have n4_:=Aside0.mk (below_step (by repeat (first|(with_reducible first|exact HB.out|apply below_alloc|apply pw_below_drewN|apply below_drew1|refine below_set ?_ GE676.out)|exact HB.out)) hb);clear HO_8;clear HO_9;clear BK676;clear HB;have HO_8:=n0_;have HO_9:=n1_;have HO691:=n2_;have BK676:=n3_;have HB:=n4_;clear n0_ n1_ n2_ n3_ n4_;(try clear hb);(try clear hb2);(try clear hk);(try clear hi);(try clear ho0);have hcz34_0 : w33.cell? ⟨gb676,0,none⟩=some (.int .i64 a0_0):=(blk_cell BK676.out 0).trans rfl;have hcz34_1 : w33.cell? ⟨gb676,1,none⟩=some (.int .i64 a0_1):=(blk_cell BK676.out 1).trans rfl;have hcz34_2 : w33.cell? ⟨gb676,2,none⟩=some (.slice (some ad688) l0_2.length c0_2):=(blk_cell BK676.out 2).trans rfl;have hfz34_0:=blk_frozen BK676.out 0;have hfz34_1:=blk_frozen BK676.out 1;have hfz34_2:=blk_frozen BK676.out 2)|((with_reducible refine gate_callee (f:=71) rfl ?_);refine goesL_ (some 53) rfl rfl Try.func71 (by kernel_rfl) rfl #[.agg #[.int .i64 a0_0,.int .i64 a0_1,.slice (some ad688) l0_2.length c0_2],.int .i64 x11_22] rfl (by (try simp only [List.map_toArray,List.map_cons,List.map_nil]);first|done|rfl|(simp only [List.length_drop,List.length_take];rfl)) ?_;(with_reducible refine (phasorref19_bar.calls a0_0 a0_1 _ _ l0_2 x11_22 true _ ?side1 ?side2 A30.out).mono ?_);(case side1 => repeat (first|exact (Kd.C_below HR0_2.out HB.out)|(with_reducible refine Kd.C_alloc ?_ _)|(with_reducible refine Kd.C_drewN ?_ _)|(with_reducible refine Kd.C_drew ?_)));(case side2 => exact HC0_2.out);rintro e w35 ⟨rfl,hb⟩;refine ⟨_,rfl,?_⟩;have n0_:=Aside0.mk (Kd.R_below (by (with_reducible repeat (first|apply Kd.R_alloc|apply Kd.R_drewN|apply Kd.R_drew));exact HO_8.out) hb);have n1_:=Aside0.mk (Kd.R_below (by (with_reducible repeat (first|apply Kd.R_alloc|apply Kd.R_drewN|apply Kd.R_drew));exact HO_9.out) hb);have n2_:=Aside0.mk (Kd.R_below (by (with_reducible repeat (first|apply Kd.R_alloc|apply Kd.R_drewN|apply Kd.R_drew));exact HO691.out) hb);have n3_:=Aside0.mk (blk_below (g:=gb676) (o:=.cells #[.int .i64 a0_0,.int .i64 a0_1,.slice (some ad688) l0_2.length c0_2] 24 (0,0)) (by (with_reducible repeat (first|refine blk_drewN ?_ _|refine blk_drew ?_|refine blk_alloc ?_ _));exact BK676.out) hb);have n4_:=Aside0.mk (below_step (by repeat (first|(with_reducible first|exact HB.out|apply below_alloc|apply pw_below_drewN|apply below_drew1|refine below_set ?_ GE676.out)|exact HB.out)) hb);clear HO_8;clear HO_9;clear HO691;clear BK676;clear HB;have HO_8:=n0_;have HO_9:=n1_;have HO691:=n2_;have BK676:=n3_;have HB:=n4_;clear n0_ n1_ n2_ n3_ n4_;(try clear hb);(try clear hb2);(try clear hk);(try clear hi)))
              go_roundg kj22
              case measure => have:=HK1.out;have:=HJ22.out;omega
              case rel => exact ⟨(x8_1),(x9_1),(wrap64 (x10_1 + 1)),(by first|rfl|(simp;done)|(simp [*];done)),H',⟨by have:=HK1.out;have:=HJ22.out;omega⟩,⟨by (with_reducible repeat (first|apply Kd.R_alloc|apply Kd.R_drewN|apply Kd.R_drew));exact Kd.R_mono HO_8.out (fun _ hk => trivial)⟩,⟨by (with_reducible repeat (first|apply Kd.R_alloc|apply Kd.R_drewN|apply Kd.R_drew));exact HO_9.out⟩,⟨by (with_reducible repeat (first|refine blk_drewN ?_ _|refine blk_drew ?_|refine blk_alloc ?_ _));exact BK676.out⟩,⟨by repeat (first|(with_reducible first|exact HB.out|apply below_alloc|apply pw_below_drewN|apply below_drew1|refine below_set ?_ GE676.out)|exact HB.out)⟩⟩
             ·replace c31:=Bool.eq_false_iff.mpr c31
              subst c31
              have H1 : ((phasorref19_meet.f kj22 x8_1 t689).bind fun t693 => (if t693=true then (if x11_22 < (x9_1.length : Int) then (if x8_1.length + t689.length < 17592186044416 then (phasorref19_cone.l0 kj22 a2 (x8_1 ++ t689) (x9_1.set (x11_22 : Int).toNat true) (wrap64 (x10_1 + 1)) a0_0 a0_1 l0_2) else (none)) else (none)) else (phasorref19_cone.l0 kj22 a2 x8_1 x9_1 (wrap64 (x10_1 + 1)) a0_0 a0_1 l0_2)))=some (r1,r2):=by rw [if_neg (show ¬ (false=true) by decide)] at H;exact H
              clear H
              have H:=H1
              clear H1
              replace H:=Option.bind_eq_some_iff.mp H
              obtain ⟨t693,A360,H⟩:=H
              replace H : (if t693=true then (if x11_22 < (x9_1.length : Int) then (if x8_1.length + t689.length < 17592186044416 then (phasorref19_cone.l0 kj22 a2 (x8_1 ++ t689) (x9_1.set (x11_22 : Int).toNat true) (wrap64 (x10_1 + 1)) a0_0 a0_1 l0_2) else (none)) else (none)) else (phasorref19_cone.l0 kj22 a2 x8_1 x9_1 (wrap64 (x10_1 + 1)) a0_0 a0_1 l0_2))=some (r1,r2):=H
              have A36:=Aside0.mk A360
              clear A360
              by_cases c37 : t693=true
              ·subst c37
               have H1 : (if x11_22 < (x9_1.length : Int) then (if x8_1.length + t689.length < 17592186044416 then (phasorref19_cone.l0 kj22 a2 (x8_1 ++ t689) (x9_1.set (x11_22 : Int).toNat true) (wrap64 (x10_1 + 1)) a0_0 a0_1 l0_2) else (none)) else (none))=some (r1,r2):=by rw [if_pos rfl] at H;exact H
               clear H
               have H:=H1
               clear H1
               by_cases c38 : x11_22 < (x9_1.length : Int)
               ·rw [if_pos c38] at H
                have c38b0 : decide (x11_22 < (x9_1.length : Int))=true:=decide_eq_true c38
                clear c38
                obtain ⟨y694,hy694⟩ : ∃ y_ : List Bool,y_=(x9_1.set (x11_22 : Int).toNat true):=⟨_,rfl⟩
                replace H : (if x8_1.length + t689.length < 17592186044416 then (phasorref19_cone.l0 kj22 a2 (x8_1 ++ t689) y694 (wrap64 (x10_1 + 1)) a0_0 a0_1 l0_2) else (none))=some (r1,r2):=by first|(rw [hy694];with_reducible exact H)|(have H2_:=(Option.bind_some _ _).symm.trans H;rw [hy694];with_reducible exact H2_)|(have H2_:=(Option.bind_some _ _).symm.trans H;with_reducible exact H2_)|with_reducible exact H|(rw [hy694];exact H)|exact H
                have Ny694:=Aside0.mk hy694
                clear hy694
                by_cases c40 : x8_1.length + t689.length < 17592186044416
                ·rw [if_pos c40] at H
                 have LMc40:=Aside0.mk c40
                 clear c40
                 obtain ⟨y695,hy695⟩ : ∃ y_ : List Int,y_=(x8_1 ++ t689):=⟨_,rfl⟩
                 replace H : (phasorref19_cone.l0 kj22 a2 y695 y694 (wrap64 (x10_1 + 1)) a0_0 a0_1 l0_2)=some (r1,r2):=by first|(rw [hy695];with_reducible exact H)|(have H2_:=(Option.bind_some _ _).symm.trans H;rw [hy695];with_reducible exact H2_)|(have H2_:=(Option.bind_some _ _).symm.trans H;with_reducible exact H2_)|with_reducible exact H|(rw [hy695];exact H)|exact H
                 have Ny695:=Aside0.mk hy695
                 clear hy695
                 have H':=Aside0.mk H
                 clear H
                 have hcz41_0 : wc.cell? ⟨gb676,0,none⟩=some (.int .i64 a0_0):=(blk_cell BK676.out 0).trans rfl
                 have hcz41_1 : wc.cell? ⟨gb676,1,none⟩=some (.int .i64 a0_1):=(blk_cell BK676.out 1).trans rfl
                 have hcz41_2 : wc.cell? ⟨gb676,2,none⟩=some (.slice A0_2 l0_2.length c0_2):=(blk_cell BK676.out 2).trans rfl
                 have hfz41_0:=blk_frozen BK676.out 0
                 have hfz41_1:=blk_frozen BK676.out 1
                 have hfz41_2:=blk_frozen BK676.out 2
                 have p688 : 0≤(x11_22 : Int):=of_decide_eq_true (by first|(with_reducible assumption)|assumption)
                 have q688 : x11_22 < (l0_2.length : Int):=of_decide_eq_true (by first|(with_reducible assumption)|assumption)
                 obtain ⟨ad688,A688_2,c688_2,e688,hx688_0,hx688_1,hx688_2,hx688_3,hx688_4,hx688_5,hl688_2,hi688_2⟩:=at_T46 HR0_2.out x11_22 p688 q688
                 cases e688
                 replace hx688_0:=(HB.out.cell (World.block_lt_of_cell? w _ hx688_0)).trans hx688_0
                 replace hx688_1:=(HB.out.cell (World.block_lt_of_cell? w _ hx688_1)).trans hx688_1
                 replace hx688_2:=(HB.out.cell (World.block_lt_of_cell? w _ hx688_2)).trans hx688_2
                 replace hx688_3:=(HB.out.cell (World.block_lt_of_cell? w _ hx688_3)).trans hx688_3
                 replace hx688_4:=(HB.out.cell (World.block_lt_of_cell? w _ hx688_4)).trans hx688_4
                 replace hx688_5:=(HB.out.cell (World.block_lt_of_cell? w _ hx688_5)).trans hx688_5
                 have HR688_2:=Aside0.mk hi688_2
                 have HC688_2:=Aside0.mk hl688_2
                 clear hi688_2 hl688_2
                 replace p688:=eq_true p688
                 replace q688:=eq_true q688
                 go_wp2_with (first|((with_reducible refine gate_callee (f:=83) rfl ?_);refine goesL_ (some 50) rfl rfl Try.func83 (by kernel_rfl) rfl #[.agg #[.int .i64 ((rd_T46 l0_2 x11_22).f0),.int .i64 ((rd_T46 l0_2 x11_22).f1),.slice A688_2 ((rd_T46 l0_2 x11_22).f2).length c688_2,.int .i64 ((rd_T46 l0_2 x11_22).f3),.int .i64 ((rd_T46 l0_2 x11_22).f4),.int .i64 ((rd_T46 l0_2 x11_22).f5)]] rfl (by (try simp only [List.map_toArray,List.map_cons,List.map_nil]);first|done|rfl|(simp only [List.length_drop,List.length_take];rfl)) ?_;(with_reducible refine (phasorref19_wires.calls ((rd_T46 l0_2 x11_22).f0) ((rd_T46 l0_2 x11_22).f1) _ _ ((rd_T46 l0_2 x11_22).f2) ((rd_T46 l0_2 x11_22).f3) ((rd_T46 l0_2 x11_22).f4) ((rd_T46 l0_2 x11_22).f5) t689 _ ?side1 ?side2 A29.out).mono ?_);(case side1 => repeat (first|exact (Kd.C_below HR688_2.out HB.out)|(with_reducible refine Kd.C_alloc ?_ _)|(with_reducible refine Kd.C_drewN ?_ _)|(with_reducible refine Kd.C_drew ?_)));(case side2 => exact HC688_2.out);rintro e w42 ⟨v690,rfl,ho0,hb⟩;refine ⟨_,rfl,?_⟩;have n0_:=Aside0.mk (Kd.R_elder' (by (with_reducible repeat (first|apply Kd.R_alloc|apply Kd.R_drewN|apply Kd.R_drew));exact HO_8.out) (Kd.R_base ho0) hb);have n1_:=Aside0.mk (Kd.R_below (by (with_reducible repeat (first|apply Kd.R_alloc|apply Kd.R_drewN|apply Kd.R_drew));exact HO_9.out) hb);have n2_:=Aside0.mk (Kd.R_lower (Kd.R_new' ho0 (Kd.R_lt (by (with_reducible repeat (first|apply Kd.R_alloc|apply Kd.R_drewN|apply Kd.R_drew));exact HO_8.out))) (below_size (by repeat (first|(with_reducible first|exact HB.out|apply below_alloc|apply pw_below_drewN|apply below_drew1|refine below_set ?_ GE676.out)|exact HB.out))));have n3_:=Aside0.mk (blk_below (g:=gb676) (o:=.cells #[.int .i64 a0_0,.int .i64 a0_1,.slice (some ad688) l0_2.length c0_2] 24 (0,0)) (by (with_reducible repeat (first|refine blk_drewN ?_ _|refine blk_drew ?_|refine blk_alloc ?_ _));exact BK676.out) hb);have n4_:=Aside0.mk (below_step (by repeat (first|(with_reducible first|exact HB.out|apply below_alloc|apply pw_below_drewN|apply below_drew1|refine below_set ?_ GE676.out)|exact HB.out)) hb);clear HO_8;clear HO_9;clear BK676;clear HB;have HO_8:=n0_;have HO_9:=n1_;have HO691:=n2_;have BK676:=n3_;have HB:=n4_;clear n0_ n1_ n2_ n3_ n4_;(try clear hb);(try clear hb2);(try clear hk);(try clear hi);(try clear ho0);have hcz43_0 : w42.cell? ⟨gb676,0,none⟩=some (.int .i64 a0_0):=(blk_cell BK676.out 0).trans rfl;have hcz43_1 : w42.cell? ⟨gb676,1,none⟩=some (.int .i64 a0_1):=(blk_cell BK676.out 1).trans rfl;have hcz43_2 : w42.cell? ⟨gb676,2,none⟩=some (.slice (some ad688) l0_2.length c0_2):=(blk_cell BK676.out 2).trans rfl;have hfz43_0:=blk_frozen BK676.out 0;have hfz43_1:=blk_frozen BK676.out 1;have hfz43_2:=blk_frozen BK676.out 2)|((with_reducible refine gate_callee (f:=71) rfl ?_);refine goesL_ (some 53) rfl rfl Try.func71 (by kernel_rfl) rfl #[.agg #[.int .i64 a0_0,.int .i64 a0_1,.slice (some ad688) l0_2.length c0_2],.int .i64 x11_22] rfl (by (try simp only [List.map_toArray,List.map_cons,List.map_nil]);first|done|rfl|(simp only [List.length_drop,List.length_take];rfl)) ?_;(with_reducible refine (phasorref19_bar.calls a0_0 a0_1 _ _ l0_2 x11_22 false _ ?side1 ?side2 A30.out).mono ?_);(case side1 => repeat (first|exact (Kd.C_below HR0_2.out HB.out)|(with_reducible refine Kd.C_alloc ?_ _)|(with_reducible refine Kd.C_drewN ?_ _)|(with_reducible refine Kd.C_drew ?_)));(case side2 => exact HC0_2.out);rintro e w44 ⟨rfl,hb⟩;refine ⟨_,rfl,?_⟩;have n0_:=Aside0.mk (Kd.R_below (by (with_reducible repeat (first|apply Kd.R_alloc|apply Kd.R_drewN|apply Kd.R_drew));exact HO_8.out) hb);have n1_:=Aside0.mk (Kd.R_below (by (with_reducible repeat (first|apply Kd.R_alloc|apply Kd.R_drewN|apply Kd.R_drew));exact HO_9.out) hb);have n2_:=Aside0.mk (Kd.R_below (by (with_reducible repeat (first|apply Kd.R_alloc|apply Kd.R_drewN|apply Kd.R_drew));exact HO691.out) hb);have n3_:=Aside0.mk (blk_below (g:=gb676) (o:=.cells #[.int .i64 a0_0,.int .i64 a0_1,.slice (some ad688) l0_2.length c0_2] 24 (0,0)) (by (with_reducible repeat (first|refine blk_drewN ?_ _|refine blk_drew ?_|refine blk_alloc ?_ _));exact BK676.out) hb);have n4_:=Aside0.mk (below_step (by repeat (first|(with_reducible first|exact HB.out|apply below_alloc|apply pw_below_drewN|apply below_drew1|refine below_set ?_ GE676.out)|exact HB.out)) hb);clear HO_8;clear HO_9;clear HO691;clear BK676;clear HB;have HO_8:=n0_;have HO_9:=n1_;have HO691:=n2_;have BK676:=n3_;have HB:=n4_;clear n0_ n1_ n2_ n3_ n4_;(try clear hb);(try clear hb2);(try clear hk);(try clear hi);obtain ⟨Ao45,co45,eo45⟩:=Kd.R_slice HO_8.out;subst eo45;obtain ⟨Ao46,co46,eo46⟩:=Kd.R_slice HO691.out;subst eo46)|(go_at_call 82;(with_reducible refine (phasorref19_meet.calls kj22 _ _ x8_1 _ _ t689 true _ ?side1 ?side2 ?side3 ?side4 A36.out).mono ?_);(case side1 => repeat (first|exact (Kd.R_reads' HO_8.out).2.2|(with_reducible refine Kd.C_alloc ?_ _)|(with_reducible refine Kd.C_drewN ?_ _)|(with_reducible refine Kd.C_drew ?_)));(case side2 => exact (Kd.R_reads' HO_8.out).2.1);(case side3 => repeat (first|exact (Kd.R_reads' HO691.out).2.2|(with_reducible refine Kd.C_alloc ?_ _)|(with_reducible refine Kd.C_drewN ?_ _)|(with_reducible refine Kd.C_drew ?_)));(case side4 => exact (Kd.R_reads' HO691.out).2.1);rintro e w' ⟨rfl,⟨nd,rfl⟩⟩;(try (rw [drewN_self w44];generalize hq_ : World.drewN w44 _=w44;have n0_ : Aside0 (Kd.R (Kd.int .i64) 3 w44 w.heap.size (fun k_ => some k_≠(.slice Ao45 x8_1.length co45 : Value).ownBlock) (.slice Ao46 t689.length co46) t689):=⟨by rw [← hq_];exact (by (with_reducible repeat (first|apply Kd.R_alloc|apply Kd.R_drewN|apply Kd.R_drew));(first|exact Kd.R_mono HO691.out (fun _ hk => hk.2)|exact HO691.out))⟩;have n1_ : Aside0 (Kd.R (Kd.int .i64) 3 w44 w.heap.size (fun k_ => some k_≠(.slice Ao46 t689.length co46 : Value).ownBlock) (.slice Ao45 x8_1.length co45) x8_1):=⟨by rw [← hq_];exact (by (with_reducible repeat (first|apply Kd.R_alloc|apply Kd.R_drewN|apply Kd.R_drew));(first|exact Kd.R_mono HO_8.out (fun _ hk => hk.2)|exact HO_8.out))⟩;have n2_ : Aside0 (Kd.R Kd.bool 4 w44 w.heap.size (fun _ => True) v686 x9_1):=⟨by rw [← hq_];exact (by (with_reducible repeat (first|apply Kd.R_alloc|apply Kd.R_drewN|apply Kd.R_drew));exact HO_9.out)⟩;have n3_ : Aside0 (w44.heap[gb676]?=some (.cells #[.int .i64 a0_0,.int .i64 a0_1,.slice (some ad688) l0_2.length c0_2] 24 (0,0))):=⟨by rw [← hq_];exact (by (with_reducible repeat (first|refine blk_drewN ?_ _|refine blk_drew ?_|refine blk_alloc ?_ _));exact BK676.out)⟩;have n4_ : Aside0 (Below w.heap.size w w44):=⟨by rw [← hq_];exact (by repeat (first|(with_reducible first|exact HB.out|apply below_alloc|apply pw_below_drewN|apply below_drew1|refine below_set ?_ GE676.out)|exact HB.out))⟩;clear HO691 HO_8 HO_9 BK676 HB hq_;have HO691:=n0_;have HO_8:=n1_;have HO_9:=n2_;have BK676:=n3_;have HB:=n4_;clear n0_ n1_ n2_ n3_ n4_));have p39 : 0≤(x11_22 : Int):=of_decide_eq_true (by first|(with_reducible assumption)|assumption);have q39 : (x11_22 : Int) < ((x9_1.length : Int) : Int):=of_decide_eq_true (by first|(with_reducible assumption)|assumption);obtain ⟨go39,co39,eo39,gb39,gl39,cl39,HG39⟩:=Kd.R_form HO_9.out (by omega);(first|cases eo39|(injection eo39 with ea_ en_ ec_;(first|subst ea_|(injection ea_ with ea_;subst ea_));subst ec_;clear en_));have GB39:=Aside0.mk gb39;have GG39:=Aside0.mk HG39;clear gb39 gl39 HG39;obtain ⟨hx39_0,hf39_0⟩:=Kd.R_celln false HO_9.out (x11_22 : Int) p39 q39;replace p39:=eq_true p39;replace q39:=eq_true q39;obtain ⟨hy47_,hz47_⟩:=Kd.R_celln false HO_9.out (x11_22 : Int) (of_decide_eq_true (by first|(with_reducible assumption)|assumption)) (of_decide_eq_true (by first|(with_reducible assumption)|assumption));have HP47:=Kd.R_putg HO_9.out (x11_22 : Int) true)|((with_reducible refine gate_store (t:=4) (p:=62) rfl ?_);refine store_event (t:=4) (p:=62) (v:=?vo_w48) (w1:=(w44.setCell ⟨go39,(x11_22 : Int).toNat,none⟩ (.bool true))) ?hg ?ho ?hn ?hr ?_;(case ho => rfl);(case hg => rfl);(case hn => rfl);(case hr => first|(go_simp;done)|(go_simp;rfl));intro w48 hw;have hg : w44.grownBy w48 (some go39):=(by rw [hw];exact HP47.2);have hp_ : Kd.R Kd.bool 4 w48 w.heap.size (fun _ => True) (.slice (some ⟨go39,0,none⟩) x9_1.length co39) y694:=(by rw [hw,Ny694.out];exact HP47.1);clear HP47;have n0_:=Aside0.mk (Kd.R_over' (v:=(.slice (some ⟨go39,0,none⟩) x9_1.length co39)) (by (with_reducible repeat (first|apply Kd.R_alloc|apply Kd.R_drewN|apply Kd.R_drew));exact HO_8.out) (Kd.R_typed HO_9.out) (by decide) hg);have n1_:=Aside0.mk (hp_);have n2_:=Aside0.mk (blk_grown (g:=gb676) (o:=.cells #[.int .i64 a0_0,.int .i64 a0_1,.slice (some ad688) l0_2.length c0_2] 24 (0,0)) (by (with_reducible repeat (first|refine blk_drewN ?_ _|refine blk_drew ?_|refine blk_alloc ?_ _));exact BK676.out) hg (Kd.R_ne HO_9.out BK676.out (by decide)));have n3_:=Aside0.mk (Kd.R_over' (v:=(.slice (some ⟨go39,0,none⟩) x9_1.length co39)) (by (with_reducible repeat (first|apply Kd.R_alloc|apply Kd.R_drewN|apply Kd.R_drew));exact HO691.out) (Kd.R_typed HO_9.out) (by decide) hg);have n4_:=Aside0.mk ((by rw [hw];exact below_set (HB.out) GB39.out : Below w.heap.size w w48));clear HO_8;clear HO_9;clear BK676;clear HO691;clear HB;have HO_8:=n0_;have HO_9:=n1_;have BK676:=n2_;have HO691:=n3_;have HB:=n4_;clear n0_ n1_ n2_ n3_ n4_;clear hg hw hp_)|((with_reducible refine gate_builtin (b:=.append) (xs:=#[.tmp 63,.tmp 64]) rfl ?_);at_builtin;refine Kd.R_append_rows (Kd.int .i64) (w0:=w) w.heap.size rfl (.tmp 63) (.tmp 64) 37 3 (.int .i64 0) 8 rfl Try.underlying37 info3 rfl (by decide) (by omega) (.slice Ao45 x8_1.length co45) x8_1 t689 _ _ _ (fun k_ => some k_≠(.slice Ao46 t689.length co46 : Value).ownBlock) (fun _ => False) rfl rfl ?aO ?aR (fun _ _ h => h) (fun _ h => h.elim) ?aF ?aB ?aS ?aL ?_;(case aR => repeat (first|exact (Kd.R_reads' HO691.out).2.2|(with_reducible refine Kd.C_alloc ?_ _)|(with_reducible refine Kd.C_drewN ?_ _)|(with_reducible refine Kd.C_drew ?_)));(case aB => exact (by repeat (first|(with_reducible first|exact HB.out|apply below_alloc|apply pw_below_drewN|apply below_drew1|refine below_set ?_ GE676.out)|exact HB.out)));(case aF => exact (fun k_ hk => Kd.fresh' (Kd.R_lt (by (with_reducible repeat (first|apply Kd.R_alloc|apply Kd.R_drewN|apply Kd.R_drew));exact HO691.out)) k_ hk));(case aO => exact (by (with_reducible repeat (first|apply Kd.R_alloc|apply Kd.R_drewN|apply Kd.R_drew));(first|exact Kd.R_mono HO_8.out (fun _ hk => hk.2)|exact HO_8.out)));(case aS => exact (below_size (by repeat (first|(with_reducible first|exact HB.out|apply below_alloc|apply pw_below_drewN|apply below_drew1|refine below_set ?_ GE676.out)|exact HB.out))));(case aL => have:=LMc40.out;omega);intro v696 w49 ho hb hg hat;rw [← Ny695.out] at ho;have n0_:=Aside0.mk (Kd.R_over' (by (with_reducible repeat (first|apply Kd.R_alloc|apply Kd.R_drewN|apply Kd.R_drew));exact HO_9.out) (Kd.R_typed (by (with_reducible repeat (first|apply Kd.R_alloc|apply Kd.R_drewN|apply Kd.R_drew));exact HO_8.out)) (by decide) hg);have n1_:=Aside0.mk (blk_grown (g:=gb676) (o:=.cells #[.int .i64 a0_0,.int .i64 a0_1,.slice (some ad688) l0_2.length c0_2] 24 (0,0)) (by (with_reducible repeat (first|refine blk_drewN ?_ _|refine blk_drew ?_|refine blk_alloc ?_ _));exact BK676.out) hg (Kd.R_ne HO_8.out BK676.out (by decide)));have n2_:=Aside0.mk (Kd.R_after (ok:=(fun _ => True)) (by (with_reducible repeat (first|apply Kd.R_alloc|apply Kd.R_drewN|apply Kd.R_drew));first|exact HO691.out|exact Kd.R_mono HO691.out (fun _ hk => ⟨trivial,hk⟩)) hg hat);have n3_:=Aside0.mk (hb);have n4_:=Aside0.mk (ho);clear HO_9;clear BK676;clear HO691;clear HB;clear HO_8;have HO_9:=n0_;have BK676:=n1_;have HO691:=n2_;have HB:=n3_;have HO697:=n4_;clear n0_ n1_ n2_ n3_ n4_;clear ho hb hg hat))
                 go_roundg kj22
                 case measure => have:=HK1.out;have:=HJ22.out;omega
                 case rel => exact ⟨(y695),(y694),(wrap64 (x10_1 + 1)),(by first|rfl|(simp;done)|(simp [*];done)),H',⟨by have:=HK1.out;have:=HJ22.out;omega⟩,⟨by (with_reducible repeat (first|apply Kd.R_alloc|apply Kd.R_drewN|apply Kd.R_drew));exact Kd.R_mono HO697.out (fun _ hk => trivial)⟩,⟨by (with_reducible repeat (first|apply Kd.R_alloc|apply Kd.R_drewN|apply Kd.R_drew));exact HO_9.out⟩,⟨by (with_reducible repeat (first|refine blk_drewN ?_ _|refine blk_drew ?_|refine blk_alloc ?_ _));exact BK676.out⟩,⟨by repeat (first|(with_reducible first|exact HB.out|apply below_alloc|apply pw_below_drewN|apply below_drew1|refine below_set ?_ GE676.out)|exact HB.out)⟩⟩
                ·rw [if_neg c40] at H
                 exact absurd H (by simp)
               ·rw [if_neg c38] at H
                exact absurd H (by simp)
              ·replace c37:=Bool.eq_false_iff.mpr c37
               subst c37
               have H1 : (phasorref19_cone.l0 kj22 a2 x8_1 x9_1 (wrap64 (x10_1 + 1)) a0_0 a0_1 l0_2)=some (r1,r2):=by rw [if_neg (show ¬ (false=true) by decide)] at H;exact H
               clear H
               have H:=H1
               clear H1
               have H':=Aside0.mk H
               clear H
               have hcz50_0 : wc.cell? ⟨gb676,0,none⟩=some (.int .i64 a0_0):=(blk_cell BK676.out 0).trans rfl
               have hcz50_1 : wc.cell? ⟨gb676,1,none⟩=some (.int .i64 a0_1):=(blk_cell BK676.out 1).trans rfl
               have hcz50_2 : wc.cell? ⟨gb676,2,none⟩=some (.slice A0_2 l0_2.length c0_2):=(blk_cell BK676.out 2).trans rfl
               have hfz50_0:=blk_frozen BK676.out 0
               have hfz50_1:=blk_frozen BK676.out 1
               have hfz50_2:=blk_frozen BK676.out 2
               have p688 : 0≤(x11_22 : Int):=of_decide_eq_true (by first|(with_reducible assumption)|assumption)
               have q688 : x11_22 < (l0_2.length : Int):=of_decide_eq_true (by first|(with_reducible assumption)|assumption)
               obtain ⟨ad688,A688_2,c688_2,e688,hx688_0,hx688_1,hx688_2,hx688_3,hx688_4,hx688_5,hl688_2,hi688_2⟩:=at_T46 HR0_2.out x11_22 p688 q688
               cases e688
               replace hx688_0:=(HB.out.cell (World.block_lt_of_cell? w _ hx688_0)).trans hx688_0
               replace hx688_1:=(HB.out.cell (World.block_lt_of_cell? w _ hx688_1)).trans hx688_1
               replace hx688_2:=(HB.out.cell (World.block_lt_of_cell? w _ hx688_2)).trans hx688_2
               replace hx688_3:=(HB.out.cell (World.block_lt_of_cell? w _ hx688_3)).trans hx688_3
               replace hx688_4:=(HB.out.cell (World.block_lt_of_cell? w _ hx688_4)).trans hx688_4
               replace hx688_5:=(HB.out.cell (World.block_lt_of_cell? w _ hx688_5)).trans hx688_5
               have HR688_2:=Aside0.mk hi688_2
               have HC688_2:=Aside0.mk hl688_2
               clear hi688_2 hl688_2
               replace p688:=eq_true p688
               replace q688:=eq_true q688
               go_wp2_with (first|((with_reducible refine gate_callee (f:=83) rfl ?_);refine goesL_ (some 50) rfl rfl Try.func83 (by kernel_rfl) rfl #[.agg #[.int .i64 ((rd_T46 l0_2 x11_22).f0),.int .i64 ((rd_T46 l0_2 x11_22).f1),.slice A688_2 ((rd_T46 l0_2 x11_22).f2).length c688_2,.int .i64 ((rd_T46 l0_2 x11_22).f3),.int .i64 ((rd_T46 l0_2 x11_22).f4),.int .i64 ((rd_T46 l0_2 x11_22).f5)]] rfl (by (try simp only [List.map_toArray,List.map_cons,List.map_nil]);first|done|rfl|(simp only [List.length_drop,List.length_take];rfl)) ?_;(with_reducible refine (phasorref19_wires.calls ((rd_T46 l0_2 x11_22).f0) ((rd_T46 l0_2 x11_22).f1) _ _ ((rd_T46 l0_2 x11_22).f2) ((rd_T46 l0_2 x11_22).f3) ((rd_T46 l0_2 x11_22).f4) ((rd_T46 l0_2 x11_22).f5) t689 _ ?side1 ?side2 A29.out).mono ?_);(case side1 => repeat (first|exact (Kd.C_below HR688_2.out HB.out)|(with_reducible refine Kd.C_alloc ?_ _)|(with_reducible refine Kd.C_drewN ?_ _)|(with_reducible refine Kd.C_drew ?_)));(case side2 => exact HC688_2.out);rintro e w51 ⟨v690,rfl,ho0,hb⟩;refine ⟨_,rfl,?_⟩;have n0_:=Aside0.mk (Kd.R_elder' (by (with_reducible repeat (first|apply Kd.R_alloc|apply Kd.R_drewN|apply Kd.R_drew));exact HO_8.out) (Kd.R_base ho0) hb);have n1_:=Aside0.mk (Kd.R_below (by (with_reducible repeat (first|apply Kd.R_alloc|apply Kd.R_drewN|apply Kd.R_drew));exact HO_9.out) hb);have n2_:=Aside0.mk (Kd.R_lower (Kd.R_new' ho0 (Kd.R_lt (by (with_reducible repeat (first|apply Kd.R_alloc|apply Kd.R_drewN|apply Kd.R_drew));exact HO_8.out))) (below_size (by repeat (first|(with_reducible first|exact HB.out|apply below_alloc|apply pw_below_drewN|apply below_drew1|refine below_set ?_ GE676.out)|exact HB.out))));have n3_:=Aside0.mk (blk_below (g:=gb676) (o:=.cells #[.int .i64 a0_0,.int .i64 a0_1,.slice (some ad688) l0_2.length c0_2] 24 (0,0)) (by (with_reducible repeat (first|refine blk_drewN ?_ _|refine blk_drew ?_|refine blk_alloc ?_ _));exact BK676.out) hb);have n4_:=Aside0.mk (below_step (by repeat (first|(with_reducible first|exact HB.out|apply below_alloc|apply pw_below_drewN|apply below_drew1|refine below_set ?_ GE676.out)|exact HB.out)) hb);clear HO_8;clear HO_9;clear BK676;clear HB;have HO_8:=n0_;have HO_9:=n1_;have HO691:=n2_;have BK676:=n3_;have HB:=n4_;clear n0_ n1_ n2_ n3_ n4_;(try clear hb);(try clear hb2);(try clear hk);(try clear hi);(try clear ho0);have hcz52_0 : w51.cell? ⟨gb676,0,none⟩=some (.int .i64 a0_0):=(blk_cell BK676.out 0).trans rfl;have hcz52_1 : w51.cell? ⟨gb676,1,none⟩=some (.int .i64 a0_1):=(blk_cell BK676.out 1).trans rfl;have hcz52_2 : w51.cell? ⟨gb676,2,none⟩=some (.slice (some ad688) l0_2.length c0_2):=(blk_cell BK676.out 2).trans rfl;have hfz52_0:=blk_frozen BK676.out 0;have hfz52_1:=blk_frozen BK676.out 1;have hfz52_2:=blk_frozen BK676.out 2)|((with_reducible refine gate_callee (f:=71) rfl ?_);refine goesL_ (some 53) rfl rfl Try.func71 (by kernel_rfl) rfl #[.agg #[.int .i64 a0_0,.int .i64 a0_1,.slice (some ad688) l0_2.length c0_2],.int .i64 x11_22] rfl (by (try simp only [List.map_toArray,List.map_cons,List.map_nil]);first|done|rfl|(simp only [List.length_drop,List.length_take];rfl)) ?_;(with_reducible refine (phasorref19_bar.calls a0_0 a0_1 _ _ l0_2 x11_22 false _ ?side1 ?side2 A30.out).mono ?_);(case side1 => repeat (first|exact (Kd.C_below HR0_2.out HB.out)|(with_reducible refine Kd.C_alloc ?_ _)|(with_reducible refine Kd.C_drewN ?_ _)|(with_reducible refine Kd.C_drew ?_)));(case side2 => exact HC0_2.out);rintro e w53 ⟨rfl,hb⟩;refine ⟨_,rfl,?_⟩;have n0_:=Aside0.mk (Kd.R_below (by (with_reducible repeat (first|apply Kd.R_alloc|apply Kd.R_drewN|apply Kd.R_drew));exact HO_8.out) hb);have n1_:=Aside0.mk (Kd.R_below (by (with_reducible repeat (first|apply Kd.R_alloc|apply Kd.R_drewN|apply Kd.R_drew));exact HO_9.out) hb);have n2_:=Aside0.mk (Kd.R_below (by (with_reducible repeat (first|apply Kd.R_alloc|apply Kd.R_drewN|apply Kd.R_drew));exact HO691.out) hb);have n3_:=Aside0.mk (blk_below (g:=gb676) (o:=.cells #[.int .i64 a0_0,.int .i64 a0_1,.slice (some ad688) l0_2.length c0_2] 24 (0,0)) (by (with_reducible repeat (first|refine blk_drewN ?_ _|refine blk_drew ?_|refine blk_alloc ?_ _));exact BK676.out) hb);have n4_:=Aside0.mk (below_step (by repeat (first|(with_reducible first|exact HB.out|apply below_alloc|apply pw_below_drewN|apply below_drew1|refine below_set ?_ GE676.out)|exact HB.out)) hb);clear HO_8;clear HO_9;clear HO691;clear BK676;clear HB;have HO_8:=n0_;have HO_9:=n1_;have HO691:=n2_;have BK676:=n3_;have HB:=n4_;clear n0_ n1_ n2_ n3_ n4_;(try clear hb);(try clear hb2);(try clear hk);(try clear hi);obtain ⟨Ao54,co54,eo54⟩:=Kd.R_slice HO_8.out;subst eo54;obtain ⟨Ao55,co55,eo55⟩:=Kd.R_slice HO691.out;subst eo55)|(go_at_call 82;(with_reducible refine (phasorref19_meet.calls kj22 _ _ x8_1 _ _ t689 false _ ?side1 ?side2 ?side3 ?side4 A36.out).mono ?_);(case side1 => repeat (first|exact (Kd.R_reads' HO_8.out).2.2|(with_reducible refine Kd.C_alloc ?_ _)|(with_reducible refine Kd.C_drewN ?_ _)|(with_reducible refine Kd.C_drew ?_)));(case side2 => exact (Kd.R_reads' HO_8.out).2.1);(case side3 => repeat (first|exact (Kd.R_reads' HO691.out).2.2|(with_reducible refine Kd.C_alloc ?_ _)|(with_reducible refine Kd.C_drewN ?_ _)|(with_reducible refine Kd.C_drew ?_)));(case side4 => exact (Kd.R_reads' HO691.out).2.1);rintro e w' ⟨rfl,⟨nd,rfl⟩⟩))
               go_roundg kj22
               case measure => have:=HK1.out;have:=HJ22.out;omega
               case rel => exact ⟨(x8_1),(x9_1),(wrap64 (x10_1 + 1)),(by first|rfl|(simp;done)|(simp [*];done)),H',⟨by have:=HK1.out;have:=HJ22.out;omega⟩,⟨by (with_reducible repeat (first|apply Kd.R_alloc|apply Kd.R_drewN|apply Kd.R_drew));exact Kd.R_mono HO_8.out (fun _ hk => trivial)⟩,⟨by (with_reducible repeat (first|apply Kd.R_alloc|apply Kd.R_drewN|apply Kd.R_drew));exact HO_9.out⟩,⟨by (with_reducible repeat (first|refine blk_drewN ?_ _|refine blk_drew ?_|refine blk_alloc ?_ _));exact BK676.out⟩,⟨by repeat (first|(with_reducible first|exact HB.out|apply below_alloc|apply pw_below_drewN|apply below_drew1|refine below_set ?_ GE676.out)|exact HB.out)⟩⟩
            ·rw [if_neg c28] at H
             exact absurd H (by simp)
           ·rw [if_neg c27] at H
            exact absurd H (by simp)
        ·rw [if_neg c22] at H
         have c22b0 : decide (x10_1 < (l0_2.length : Int))=false:=decide_eq_false c22
         clear c22
         have H':=Aside0.mk H
         clear H
         have hcz56_0 : wr.cell? ⟨gb676,0,none⟩=some (.int .i64 a0_0):=(blk_cell BK676.out 0).trans rfl
         have hcz56_1 : wr.cell? ⟨gb676,1,none⟩=some (.int .i64 a0_1):=(blk_cell BK676.out 1).trans rfl
         have hcz56_2 : wr.cell? ⟨gb676,2,none⟩=some (.slice A0_2 l0_2.length c0_2):=(blk_cell BK676.out 2).trans rfl
         have hfz56_0:=blk_frozen BK676.out 0
         have hfz56_1:=blk_frozen BK676.out 1
         have hfz56_2:=blk_frozen BK676.out 2
         go_wp2
         go_loopg [13,14] k1 (fun kq v13 v14 w' => ∃ (x13_2 : List Int) (x14_2 : Int),v14=.int .i64 x14_2∧Aside0 (phasorref19_cone.l1 kq x9_1 x13_2 x14_2=some (r1,r2))∧Aside0 (kq≤k1)∧Aside0 (Kd.R Kd.bool 4 w' w.heap.size (fun _ => True) v686 x9_1)∧Aside0 (Kd.R (Kd.int .i64) 3 w' w.heap.size (fun _ => True) v13 x13_2)∧Aside0 (w'.heap[gb676]?=some (.cells #[.int .i64 a0_0,.int .i64 a0_1,(.slice A0_2 l0_2.length c0_2)] 24 (0,0)))∧Aside0 (Below w.heap.size w w'))
         case atStart => exact ⟨(([] : List Int)),(0),(by first|rfl|(simp;done)|(simp [*];done)),H',⟨Nat.le_refl _⟩,⟨by (with_reducible repeat (first|apply Kd.R_alloc|apply Kd.R_drewN|apply Kd.R_drew));exact HO_9.out⟩,⟨by first|exact Kd.R_nil _ _ _ _ _|exact Kd.N_nil _ _ _ _ _|exact Kd.V_nil _ _ _ _ _|exact Kd.Q_nil _ _ _ _ _|exact Kd.S_nil _ _ _ _ _⟩,⟨by (with_reducible repeat (first|refine blk_drewN ?_ _|refine blk_drew ?_|refine blk_alloc ?_ _));exact BK676.out⟩,⟨by repeat (first|(with_reducible first|exact HB.out|apply below_alloc|apply pw_below_drewN|apply below_drew1|refine below_set ?_ GE676.out)|exact HB.out)⟩⟩
         case round =>
          clear H'
          try clear c1
          try clear c2
          try clear p2
          try clear c3
          try clear p3
          try clear q3
          try clear hx3
          try clear hf3
          try clear c4
          try clear c5
          try clear c6
          try clear p6
          try clear q6
          try clear hx6
          try clear c7
          try clear c8
          try clear c9
          try clear c9b0
          try clear c9b1
          try clear c10
          try clear c10b0
          try clear c10b1
          try clear c22
          try clear c22b0
          try clear c24
          try clear c25
          try clear c27
          try clear c27b0
          try clear c28
          try clear c28b0
          try clear c31
          try clear c37
          try clear c38
          try clear c38b0
          try clear p39
          try clear q39
          try clear hx39
          try clear hf39
          try clear c40
          try clear hcz12_0
          try clear hcz12_1
          try clear hcz12_2
          try clear hcz14_0
          try clear hcz14_1
          try clear hcz14_2
          try clear hcz19_0
          try clear hcz19_1
          try clear hcz19_2
          try clear hcz24_0
          try clear hcz24_1
          try clear hcz24_2
          try clear hcz26_0
          try clear hcz26_1
          try clear hcz26_2
          try clear hcz32_0
          try clear hcz32_1
          try clear hcz32_2
          try clear hcz34_0
          try clear hcz34_1
          try clear hcz34_2
          try clear hcz41_0
          try clear hcz41_1
          try clear hcz41_2
          try clear hcz43_0
          try clear hcz43_1
          try clear hcz43_2
          try clear hcz50_0
          try clear hcz50_1
          try clear hcz50_2
          try clear hcz52_0
          try clear hcz52_1
          try clear hcz52_2
          try clear hcz56_0
          try clear hcz56_1
          try clear hcz56_2
          try clear hfz12_0
          try clear hfz12_1
          try clear hfz12_2
          try clear hfz14_0
          try clear hfz14_1
          try clear hfz14_2
          try clear hfz19_0
          try clear hfz19_1
          try clear hfz19_2
          try clear hfz24_0
          try clear hfz24_1
          try clear hfz24_2
          try clear hfz26_0
          try clear hfz26_1
          try clear hfz26_2
          try clear hfz32_0
          try clear hfz32_1
          try clear hfz32_2
          try clear hfz34_0
          try clear hfz34_1
          try clear hfz34_2
          try clear hfz41_0
          try clear hfz41_1
          try clear hfz41_2
          try clear hfz43_0
          try clear hfz43_1
          try clear hfz43_2
          try clear hfz50_0
          try clear hfz50_1
          try clear hfz50_2
          try clear hfz52_0
          try clear hfz52_1
          try clear hfz52_2
          try clear hfz56_0
          try clear hfz56_1
          try clear hfz56_2
          try clear hx39_0
          try clear hx688_0
          try clear hx688_1
          try clear hx688_2
          try clear hx688_3
          try clear hx688_4
          try clear hx688_5
          try clear p2
          try clear p39
          try clear p6
          try clear p688
          try clear q39
          try clear q688
          obtain ⟨x13_2,x14_2,rfl,HA,HK2,HO_9,HO_13,BK676,HB⟩:=hrel
          cases gk with
          | zero => exact absurd HA.out (by simp [phasorref19_cone.l1])
          | succ k2 =>
           have H:=HA.out
           clear HA
           simp only [phasorref19_cone.l1] at H
           by_cases c57 : x14_2 < (x9_1.length : Int)
           ·rw [if_pos c57] at H
            have c57b0 : decide (x14_2 < (x9_1.length : Int))=true:=decide_eq_true c57
            clear c57
            by_cases c58 : 0≤x14_2
            ·rw [if_pos c58] at H
             have c58b0 : decide (0≤x14_2)=true:=decide_eq_true c58
             clear c58
             obtain ⟨bq59,hbq59⟩ : ∃ b_ : Bool,b_=(rdOf false x9_1 x14_2):=⟨_,rfl⟩
             replace H : (if bq59=true then (if x13_2.length < 17592186044416 then (phasorref19_cone.l1 k2 x9_1 (x13_2 ++ [x14_2]) (wrap64 (x14_2 + 1))) else (none)) else (phasorref19_cone.l1 k2 x9_1 x13_2 (wrap64 (x14_2 + 1))))=some (r1,r2):=by rw [← hbq59] at H;exact H
             have Nbq59:=Aside0.mk hbq59
             clear hbq59
             by_cases c60 : bq59=true
             ·subst c60
              have H1 : (if x13_2.length < 17592186044416 then (phasorref19_cone.l1 k2 x9_1 (x13_2 ++ [x14_2]) (wrap64 (x14_2 + 1))) else (none))=some (r1,r2):=by rw [if_pos rfl] at H;exact H
              clear H
              have H:=H1
              clear H1
              by_cases c61 : x13_2.length < 17592186044416
              ·rw [if_pos c61] at H
               have LMc61:=Aside0.mk c61
               clear c61
               obtain ⟨y699,hy699⟩ : ∃ y_ : List Int,y_=(x13_2 ++ [x14_2]):=⟨_,rfl⟩
               replace H : (phasorref19_cone.l1 k2 x9_1 y699 (wrap64 (x14_2 + 1)))=some (r1,r2):=by first|(rw [hy699];with_reducible exact H)|(have H2_:=(Option.bind_some _ _).symm.trans H;rw [hy699];with_reducible exact H2_)|(have H2_:=(Option.bind_some _ _).symm.trans H;with_reducible exact H2_)|with_reducible exact H|(rw [hy699];exact H)|exact H
               have Ny699:=Aside0.mk hy699
               clear hy699
               have H':=Aside0.mk H
               clear H
               obtain ⟨Ao62,co62,eo62⟩:=Kd.R_slice HO_9.out
               subst eo62
               have p698 : 0≤(x14_2 : Int):=of_decide_eq_true (by first|(with_reducible assumption)|assumption)
               have q698 : x14_2 < (x9_1.length : Int):=of_decide_eq_true (by first|(with_reducible assumption)|assumption)
               obtain ⟨ad698,e698,hx698_0⟩:=Kd.at_bool (Kd.R_reads' HO_9.out).2.2 x14_2 p698 q698
               (try rw [← Nbq59.out] at hx698_0)
               cases e698
               replace p698:=eq_true p698
               replace q698:=eq_true q698
               go_wp2_with (first|((with_reducible refine gate_builtin (b:=.append) (xs:=#[.tmp 76,.tmp 78]) rfl ?_);at_builtin;refine Kd.R_append (Kd.int .i64) (w0:=w) w.heap.size rfl (.tmp 76) (.tmp 78) 37 3 (.int .i64 0) 8 rfl Try.underlying37 info3 rfl (by decide) (by omega) u13 x13_2 x14_2 [.int .i64 x14_2] (fun _ => True) (fun _ => False) rfl rfl ?aP (fun _ hk => hk.elim) ?aF ?aO ?aB ?aS ?aL ?_;(case aP => exact rfl);(case aB => exact (by repeat (first|(with_reducible first|exact HB.out|apply below_alloc|apply pw_below_drewN|apply below_drew1|refine below_set ?_ GE676.out)|exact HB.out)));(case aF => exact (fun _ _ => trivial));(case aO => exact (by (with_reducible repeat (first|apply Kd.R_alloc|apply Kd.R_drewN|apply Kd.R_drew));exact HO_13.out));(case aS => exact (below_size (by repeat (first|(with_reducible first|exact HB.out|apply below_alloc|apply pw_below_drewN|apply below_drew1|refine below_set ?_ GE676.out)|exact HB.out))));(case aL => have:=LMc61.out;omega);intro v700 w63 ho hb hg hat;rw [← Ny699.out] at ho;have n0_:=Aside0.mk (Kd.R_over' (by (with_reducible repeat (first|apply Kd.R_alloc|apply Kd.R_drewN|apply Kd.R_drew));exact HO_9.out) (Kd.R_typed (by (with_reducible repeat (first|apply Kd.R_alloc|apply Kd.R_drewN|apply Kd.R_drew));exact HO_13.out)) (by decide) hg);have n1_:=Aside0.mk (blk_grown (g:=gb676) (o:=.cells #[.int .i64 a0_0,.int .i64 a0_1,.slice A0_2 l0_2.length c0_2] 24 (0,0)) (by (with_reducible repeat (first|refine blk_drewN ?_ _|refine blk_drew ?_|refine blk_alloc ?_ _));exact BK676.out) hg (Kd.R_ne HO_13.out BK676.out (by decide)));have n2_:=Aside0.mk (hb);have n3_:=Aside0.mk (ho);clear HO_9;clear BK676;clear HB;clear HO_13;have HO_9:=n0_;have BK676:=n1_;have HB:=n2_;have HO701:=n3_;clear n0_ n1_ n2_ n3_;clear ho hb hg hat))
               go_roundg k2
               case measure => have:=HK1.out;have:=HK2.out;omega
               case rel => exact ⟨(y699),(wrap64 (x14_2 + 1)),(by first|rfl|(simp;done)|(simp [*];done)),H',⟨by have:=HK1.out;have:=HK2.out;omega⟩,⟨by (with_reducible repeat (first|apply Kd.R_alloc|apply Kd.R_drewN|apply Kd.R_drew));exact HO_9.out⟩,⟨by (with_reducible repeat (first|apply Kd.R_alloc|apply Kd.R_drewN|apply Kd.R_drew));exact HO701.out⟩,⟨by (with_reducible repeat (first|refine blk_drewN ?_ _|refine blk_drew ?_|refine blk_alloc ?_ _));exact BK676.out⟩,⟨by repeat (first|(with_reducible first|exact HB.out|apply below_alloc|apply pw_below_drewN|apply below_drew1|refine below_set ?_ GE676.out)|exact HB.out)⟩⟩
              ·rw [if_neg c61] at H
               exact absurd H (by simp)
             ·replace c60:=Bool.eq_false_iff.mpr c60
              subst c60
              have H1 : (phasorref19_cone.l1 k2 x9_1 x13_2 (wrap64 (x14_2 + 1)))=some (r1,r2):=by rw [if_neg (show ¬ (false=true) by decide)] at H;exact H
              clear H
              have H:=H1
              clear H1
              have H':=Aside0.mk H
              clear H
              obtain ⟨Ao64,co64,eo64⟩:=Kd.R_slice HO_9.out
              subst eo64
              have p698 : 0≤(x14_2 : Int):=of_decide_eq_true (by first|(with_reducible assumption)|assumption)
              have q698 : x14_2 < (x9_1.length : Int):=of_decide_eq_true (by first|(with_reducible assumption)|assumption)
              obtain ⟨ad698,e698,hx698_0⟩:=Kd.at_bool (Kd.R_reads' HO_9.out).2.2 x14_2 p698 q698
              (try rw [← Nbq59.out] at hx698_0)
              cases e698
              replace p698:=eq_true p698
              replace q698:=eq_true q698
              go_wp2
              go_roundg k2
              case measure => have:=HK1.out;have:=HK2.out;omega
              case rel => exact ⟨(x13_2),(wrap64 (x14_2 + 1)),(by first|rfl|(simp;done)|(simp [*];done)),H',⟨by have:=HK1.out;have:=HK2.out;omega⟩,⟨by (with_reducible repeat (first|apply Kd.R_alloc|apply Kd.R_drewN|apply Kd.R_drew));exact HO_9.out⟩,⟨by (with_reducible repeat (first|apply Kd.R_alloc|apply Kd.R_drewN|apply Kd.R_drew));exact HO_13.out⟩,⟨by (with_reducible repeat (first|refine blk_drewN ?_ _|refine blk_drew ?_|refine blk_alloc ?_ _));exact BK676.out⟩,⟨by repeat (first|(with_reducible first|exact HB.out|apply below_alloc|apply pw_below_drewN|apply below_drew1|refine below_set ?_ GE676.out)|exact HB.out)⟩⟩
            ·rw [if_neg c58] at H
             exact absurd H (by simp)
           ·rw [if_neg c57] at H
            have c57b0 : decide (x14_2 < (x9_1.length : Int))=false:=decide_eq_false c57
            clear c57
            simp only [Option.some.injEq,Prod.mk.injEq] at H
            obtain ⟨rfl,rfl⟩:=H
            obtain ⟨Ao65,co65,eo65⟩:=Kd.R_slice HO_9.out
            subst eo65
            go_wp2
            go_ret2
            exact ⟨_,by first|rfl|(simp [errW_none,errW_some] <;> rfl)|(simp [*,errW_none,errW_some] <;> rfl),by (with_reducible repeat (first|apply Kd.R_alloc|apply Kd.R_drewN|apply Kd.R_drew));exact HO_13.out,by repeat (first|(with_reducible first|exact HB.out|apply below_alloc|apply pw_below_drewN|apply below_drew1|refine below_set ?_ GE676.out)|exact HB.out)⟩
     ·rw [if_neg c10] at H
      exact absurd H (by simp)
    ·rw [if_neg c9] at H
     exact absurd H (by simp)
   ·rw [if_neg c8] at H
    exact absurd H (by simp)
  ·replace c7:=Bool.eq_false_iff.mpr c7
   subst c7
   have H1 : (some (([] : List Int),190))=some (r1,r2):=by rw [if_neg (show ¬ (false=true) by decide)] at H;exact H
   clear H
   have H:=H1
   clear H1
   simp only [Option.some.injEq,Prod.mk.injEq] at H
   obtain ⟨rfl,rfl⟩:=H
   go_enter Try.func73,Try.ntmps73
   go_wp2_with (first|((with_reducible refine gate_dst (N:=3) rfl ?_);refine box_event ?hg (N:=3) ?hd (cs:=#[.int .i64 a0_0,.int .i64 a0_1,.slice A0_2 l0_2.length c0_2]) (t:=24) ?hr ?_;(case hd => rfl);(case hg => rfl);(case hr => first|(go_simp;done)|(go_simp;rfl));intro gb676 hg w66 hbox hb;have n0_:=Aside0.mk (below_step (by repeat (first|(with_reducible first|exact HB.out|apply below_alloc|apply pw_below_drewN|apply below_drew1)|exact HB.out)) hb);have n1_:=Aside0.mk (hbox);have n2_:=Aside0.mk ((by rw [hg];exact (below_size (by repeat (first|(with_reducible first|exact HB.out|apply below_alloc|apply pw_below_drewN|apply below_drew1)|exact HB.out))) : w.heap.size≤gb676));have n3_:=Aside0.mk ((by rw [hg];exact (below_size (by repeat (first|(with_reducible first|exact HB.out|apply below_alloc|apply pw_below_drewN|apply below_drew1)|exact HB.out))) : w.heap.size≤gb676));clear HB;have HB:=n0_;have BK676:=n1_;have GW676:=n2_;have GE676:=n3_;clear n0_ n1_ n2_ n3_;clear hb hbox hg;have hcz67_0 : w66.cell? ⟨gb676,0,none⟩=some (.int .i64 a0_0):=(blk_cell BK676.out 0).trans rfl;have hcz67_1 : w66.cell? ⟨gb676,1,none⟩=some (.int .i64 a0_1):=(blk_cell BK676.out 1).trans rfl;have hcz67_2 : w66.cell? ⟨gb676,2,none⟩=some (.slice A0_2 l0_2.length c0_2):=(blk_cell BK676.out 2).trans rfl;have hfz67_0:=blk_frozen BK676.out 0;have hfz67_1:=blk_frozen BK676.out 1;have hfz67_2:=blk_frozen BK676.out 2)|((with_reducible refine gate_callee (f:=24) rfl ?_);refine goesL_ (some 16) rfl rfl Try.func24 (by kernel_rfl) rfl #[.agg #[.int .i64 a0_0,.int .i64 a0_1,.slice A0_2 l0_2.length c0_2]] rfl (by (try simp only [List.map_toArray,List.map_cons,List.map_nil]);first|done|rfl|(simp only [List.length_drop,List.length_take];rfl)) ?_;(with_reducible refine (phasorref08_May.calls k a0_0 a0_1 _ _ l0_2 true _ ?side1 ?side2 A4.out).mono ?_);(case side1 => repeat (first|exact (Kd.C_below HR0_2.out HB.out)|(with_reducible refine Kd.C_alloc ?_ _)|(with_reducible refine Kd.C_drewN ?_ _)|(with_reducible refine Kd.C_drew ?_)));(case side2 => exact HC0_2.out);rintro e w68 ⟨rfl,hb⟩;refine ⟨_,rfl,?_⟩;have n0_:=Aside0.mk (blk_below (g:=gb676) (o:=.cells #[.int .i64 a0_0,.int .i64 a0_1,.slice A0_2 l0_2.length c0_2] 24 (0,0)) (by (with_reducible repeat (first|refine blk_drewN ?_ _|refine blk_drew ?_|refine blk_alloc ?_ _));exact BK676.out) hb);have n1_:=Aside0.mk (below_step (by repeat (first|(with_reducible first|exact HB.out|apply below_alloc|apply pw_below_drewN|apply below_drew1|refine below_set ?_ GE676.out)|exact HB.out)) hb);clear BK676;clear HB;have BK676:=n0_;have HB:=n1_;clear n0_ n1_;(try clear hb);(try clear hb2);(try clear hk);(try clear hi);have hcz69_0 : w68.cell? ⟨gb676,0,none⟩=some (.int .i64 a0_0):=(blk_cell BK676.out 0).trans rfl;have hcz69_1 : w68.cell? ⟨gb676,1,none⟩=some (.int .i64 a0_1):=(blk_cell BK676.out 1).trans rfl;have hcz69_2 : w68.cell? ⟨gb676,2,none⟩=some (.slice A0_2 l0_2.length c0_2):=(blk_cell BK676.out 2).trans rfl;have hfz69_0:=blk_frozen BK676.out 0;have hfz69_1:=blk_frozen BK676.out 1;have hfz69_2:=blk_frozen BK676.out 2)|((with_reducible refine gate_callee (f:=88) rfl ?_);refine goesL_ (some 21) rfl rfl Try.func88 (by kernel_rfl) rfl #[.slice A1 l1.length c1,.int .i64 a0_0] rfl (by (try simp only [List.map_toArray,List.map_cons,List.map_nil]);first|done|rfl|(simp only [List.length_drop,List.length_take];rfl)) ?_;(with_reducible refine (phasorref07_Qubits.calls _ _ l1 a0_0 false _ ?side1 ?side2 A6.out).mono ?_);(case side1 => repeat (first|exact (Kd.C_below HR1.out HB.out)|(with_reducible refine Kd.C_alloc ?_ _)|(with_reducible refine Kd.C_drewN ?_ _)|(with_reducible refine Kd.C_drew ?_)));(case side2 => exact HC1.out);rintro e w70 ⟨rfl,hb⟩;refine ⟨_,rfl,?_⟩;have n0_:=Aside0.mk (blk_below (g:=gb676) (o:=.cells #[.int .i64 a0_0,.int .i64 a0_1,.slice A0_2 l0_2.length c0_2] 24 (0,0)) (by (with_reducible repeat (first|refine blk_drewN ?_ _|refine blk_drew ?_|refine blk_alloc ?_ _));exact BK676.out) hb);have n1_:=Aside0.mk (below_step (by repeat (first|(with_reducible first|exact HB.out|apply below_alloc|apply pw_below_drewN|apply below_drew1|refine below_set ?_ GE676.out)|exact HB.out)) hb);clear BK676;clear HB;have BK676:=n0_;have HB:=n1_;clear n0_ n1_;(try clear hb);(try clear hb2);(try clear hk);(try clear hi)))
   go_ret2
   exact ⟨_,by first|rfl|(simp [errW_none,errW_some] <;> rfl)|(simp [*,errW_none,errW_some] <;> rfl),by first|exact Kd.R_nil _ _ _ _ _|exact Kd.N_nil _ _ _ _ _|exact Kd.V_nil _ _ _ _ _|exact Kd.Q_nil _ _ _ _ _|exact Kd.S_nil _ _ _ _ _,by repeat (first|(with_reducible first|exact HB.out|apply below_alloc|apply pw_below_drewN|apply below_drew1|refine below_set ?_ GE676.out)|exact HB.out)⟩
 ·replace c5:=Bool.eq_false_iff.mpr c5
  subst c5
  have H1 : (some (([] : List Int),80))=some (r1,r2):=by rw [if_neg (show ¬ (false=true) by decide)] at H;exact H
  clear H
  have H:=H1
  clear H1
  simp only [Option.some.injEq,Prod.mk.injEq] at H
  obtain ⟨rfl,rfl⟩:=H
  go_enter Try.func73,Try.ntmps73
  go_wp2_with (first|((with_reducible refine gate_dst (N:=3) rfl ?_);refine box_event ?hg (N:=3) ?hd (cs:=#[.int .i64 a0_0,.int .i64 a0_1,.slice A0_2 l0_2.length c0_2]) (t:=24) ?hr ?_;(case hd => rfl);(case hg => rfl);(case hr => first|(go_simp;done)|(go_simp;rfl));intro gb676 hg w71 hbox hb;have n0_:=Aside0.mk (below_step (by repeat (first|(with_reducible first|exact HB.out|apply below_alloc|apply pw_below_drewN|apply below_drew1)|exact HB.out)) hb);have n1_:=Aside0.mk (hbox);have n2_:=Aside0.mk ((by rw [hg];exact (below_size (by repeat (first|(with_reducible first|exact HB.out|apply below_alloc|apply pw_below_drewN|apply below_drew1)|exact HB.out))) : w.heap.size≤gb676));have n3_:=Aside0.mk ((by rw [hg];exact (below_size (by repeat (first|(with_reducible first|exact HB.out|apply below_alloc|apply pw_below_drewN|apply below_drew1)|exact HB.out))) : w.heap.size≤gb676));clear HB;have HB:=n0_;have BK676:=n1_;have GW676:=n2_;have GE676:=n3_;clear n0_ n1_ n2_ n3_;clear hb hbox hg;have hcz72_0 : w71.cell? ⟨gb676,0,none⟩=some (.int .i64 a0_0):=(blk_cell BK676.out 0).trans rfl;have hcz72_1 : w71.cell? ⟨gb676,1,none⟩=some (.int .i64 a0_1):=(blk_cell BK676.out 1).trans rfl;have hcz72_2 : w71.cell? ⟨gb676,2,none⟩=some (.slice A0_2 l0_2.length c0_2):=(blk_cell BK676.out 2).trans rfl;have hfz72_0:=blk_frozen BK676.out 0;have hfz72_1:=blk_frozen BK676.out 1;have hfz72_2:=blk_frozen BK676.out 2)|((with_reducible refine gate_callee (f:=24) rfl ?_);refine goesL_ (some 16) rfl rfl Try.func24 (by kernel_rfl) rfl #[.agg #[.int .i64 a0_0,.int .i64 a0_1,.slice A0_2 l0_2.length c0_2]] rfl (by (try simp only [List.map_toArray,List.map_cons,List.map_nil]);first|done|rfl|(simp only [List.length_drop,List.length_take];rfl)) ?_;(with_reducible refine (phasorref08_May.calls k a0_0 a0_1 _ _ l0_2 false _ ?side1 ?side2 A4.out).mono ?_);(case side1 => repeat (first|exact (Kd.C_below HR0_2.out HB.out)|(with_reducible refine Kd.C_alloc ?_ _)|(with_reducible refine Kd.C_drewN ?_ _)|(with_reducible refine Kd.C_drew ?_)));(case side2 => exact HC0_2.out);rintro e w73 ⟨rfl,hb⟩;refine ⟨_,rfl,?_⟩;have n0_:=Aside0.mk (blk_below (g:=gb676) (o:=.cells #[.int .i64 a0_0,.int .i64 a0_1,.slice A0_2 l0_2.length c0_2] 24 (0,0)) (by (with_reducible repeat (first|refine blk_drewN ?_ _|refine blk_drew ?_|refine blk_alloc ?_ _));exact BK676.out) hb);have n1_:=Aside0.mk (below_step (by repeat (first|(with_reducible first|exact HB.out|apply below_alloc|apply pw_below_drewN|apply below_drew1|refine below_set ?_ GE676.out)|exact HB.out)) hb);clear BK676;clear HB;have BK676:=n0_;have HB:=n1_;clear n0_ n1_;(try clear hb);(try clear hb2);(try clear hk);(try clear hi)))
  go_ret2
  exact ⟨_,by first|rfl|(simp [errW_none,errW_some] <;> rfl)|(simp [*,errW_none,errW_some] <;> rfl),by first|exact Kd.R_nil _ _ _ _ _|exact Kd.N_nil _ _ _ _ _|exact Kd.V_nil _ _ _ _ _|exact Kd.Q_nil _ _ _ _ _|exact Kd.S_nil _ _ _ _ _,by repeat (first|(with_reducible first|exact HB.out|apply below_alloc|apply pw_below_drewN|apply below_drew1|refine below_set ?_ GE676.out)|exact HB.out)⟩
end Go.Proofs.Ytbelnopbggkdfaa.Q
end

section
namespace Go.Proofs.Ytbelnopbggkdfaa.Q
open Go.RowKit Go.Proofs.YtbelnopbggkdfaaW.PrintWords Go.Proofs.YtbelnopbggkdfaaW.PrintLast Go.Proofs.YtbelnopbggkdfaaW.PrintMore
attribute [local go_sem] max2_int min2_int max_two min_two max_three min_three max_four min_four   -- for this text's walks alone
set_option linter.unusedVariables false
set_option linter.unusedSimpArgs false
def phasorref19_Past.f (k : Nat) (a0_0 : Int) (a0_1 : Int) (l0_2 : List (S46)) (l1 : List Int) : Option (List Int × Int):=(phasorref19_cone.f k a0_0 a0_1 l0_2 l1 true).bind fun bt703 => (some (bt703.1,bt703.2))
set_option maxHeartbeats 8000000 in
set_option maxRecDepth 100000 in
theorem phasorref19_Past.calls (k : Nat) (a0_0 : Int) (a0_1 : Int) (A0_2 : Option Addr) (c0_2 : Nat) (l0_2 : List (S46)) (A1 : Option Addr) (c1 : Nat) (l1 : List Int) (r1 : List Int) (r2 : Int) (w : World) (hr0_2 : Kd.C k46 w A0_2 l0_2.length l0_2) (hc0_2 : l0_2.length≤c0_2) (hr1 : Kd.C (Kd.int .i64) w A1 l1.length l1) (hc1 : l1.length≤c1) (h : phasorref19_Past.f k a0_0 a0_1 l0_2 l1=some (r1,r2)) :
  Calls Try.prog 32 #[.agg #[.int .i64 a0_0,.int .i64 a0_1,.slice A0_2 l0_2.length c0_2],.slice A1 l1.length c1] w fun e w' => ∃ v0_ : Value,e=.returned (.tuple #[v0_,.int .i64 r2])∧Kd.R (Kd.int .i64) 3 w' w.heap.size (fun _ => True) v0_ r1∧Below w.heap.size w w':=by
 have hu24:=Try.underlying24
 have HR0_2:=Aside0.mk hr0_2
 have HC0_2:=Aside0.mk hc0_2
 clear hr0_2 hc0_2
 have HR1:=Aside0.mk hr1
 have HC1:=Aside0.mk hc1
 clear hr1 hc1
 have HB:=Aside0.mk (Below.refl w.heap.size w)
 have H : ((phasorref19_cone.f k a0_0 a0_1 l0_2 l1 true).bind fun bt703 => (some (bt703.1,bt703.2)))=some (r1,r2):=h
 clear h
 replace H:=Option.bind_eq_some_iff.mp H
 obtain ⟨⟨t703,t706⟩,A30,H⟩:=H
 replace H : (some (t703,t706))=some (r1,r2):=H
 have A3:=Aside0.mk A30
 clear A30
 simp only [Option.some.injEq,Prod.mk.injEq] at H
 obtain ⟨rfl,rfl⟩:=H
 go_enter Try.func32,Try.ntmps32
 go_wp2_with (first|((with_reducible refine gate_dst (N:=2) rfl ?_);refine box_event ?hg (N:=2) ?hd (cs:=#[.int .i64 a0_0,.int .i64 a0_1,.slice A0_2 l0_2.length c0_2]) (t:=24) ?hr ?_;(case hd => rfl);(case hg => rfl);(case hr => first|(go_simp;done)|(go_simp;rfl));intro gb702 hg w4 hbox hb;have n0_:=Aside0.mk (below_step (by repeat (first|(with_reducible first|exact HB.out|apply below_alloc|apply pw_below_drewN|apply below_drew1)|exact HB.out)) hb);have n1_:=Aside0.mk (hbox);have n2_:=Aside0.mk ((by rw [hg];exact (below_size (by repeat (first|(with_reducible first|exact HB.out|apply below_alloc|apply pw_below_drewN|apply below_drew1)|exact HB.out))) : w.heap.size≤gb702));have n3_:=Aside0.mk ((by rw [hg];exact (below_size (by repeat (first|(with_reducible first|exact HB.out|apply below_alloc|apply pw_below_drewN|apply below_drew1)|exact HB.out))) : w.heap.size≤gb702));clear HB;have HB:=n0_;have BK702:=n1_;have GW702:=n2_;have GE702:=n3_;clear n0_ n1_ n2_ n3_;clear hb hbox hg;have hcz5_0 : w4.cell? ⟨gb702,0,none⟩=some (.int .i64 a0_0):=(blk_cell BK702.out 0).trans rfl;have hcz5_1 : w4.cell? ⟨gb702,1,none⟩=some (.int .i64 a0_1):=(blk_cell BK702.out 1).trans rfl;have hcz5_2 : w4.cell? ⟨gb702,2,none⟩=some (.slice A0_2 l0_2.length c0_2):=(blk_cell BK702.out 2).trans rfl;have hfz5_0:=blk_frozen BK702.out 0;have hfz5_1:=blk_frozen BK702.out 1;have hfz5_2:=blk_frozen BK702.out 2)|((with_reducible refine gate_callee (f:=73) rfl ?_);refine goesL_ (some 8) rfl rfl Try.func73 (by kernel_rfl) rfl #[.agg #[.int .i64 a0_0,.int .i64 a0_1,.slice A0_2 l0_2.length c0_2],.slice A1 l1.length c1,.bool true] rfl (by (try simp only [List.map_toArray,List.map_cons,List.map_nil]);first|done|rfl|(simp only [List.length_drop,List.length_take];rfl)) ?_;(with_reducible refine (phasorref19_cone.calls k a0_0 a0_1 _ _ l0_2 _ _ l1 true t703 t706 _ ?side1 ?side2 ?side3 ?side4 A3.out).mono ?_);(case side1 => repeat (first|exact (Kd.C_below HR0_2.out HB.out)|(with_reducible refine Kd.C_alloc ?_ _)|(with_reducible refine Kd.C_drewN ?_ _)|(with_reducible refine Kd.C_drew ?_)));(case side2 => exact HC0_2.out);(case side3 => repeat (first|exact (Kd.C_below HR1.out HB.out)|(with_reducible refine Kd.C_alloc ?_ _)|(with_reducible refine Kd.C_drewN ?_ _)|(with_reducible refine Kd.C_drew ?_)));(case side4 => exact HC1.out);rintro e w6 ⟨v704,rfl,ho0,hb⟩;refine ⟨_,rfl,?_⟩;have n0_:=Aside0.mk (Kd.R_lower ho0 (below_size (by repeat (first|(with_reducible first|exact HB.out|apply below_alloc|apply pw_below_drewN|apply below_drew1|refine below_set ?_ GE702.out)|exact HB.out))));have n1_:=Aside0.mk (blk_below (g:=gb702) (o:=.cells #[.int .i64 a0_0,.int .i64 a0_1,.slice A0_2 l0_2.length c0_2] 24 (0,0)) (by (with_reducible repeat (first|refine blk_drewN ?_ _|refine blk_drew ?_|refine blk_alloc ?_ _));exact BK702.out) hb);have n2_:=Aside0.mk (below_step (by repeat (first|(with_reducible first|exact HB.out|apply below_alloc|apply pw_below_drewN|apply below_drew1|refine below_set ?_ GE702.out)|exact HB.out)) hb);clear BK702;clear HB;have HO705:=n0_;have BK702:=n1_;have HB:=n2_;clear n0_ n1_ n2_;(try clear hb);(try clear hb2);(try clear hk);(try clear hi);(try clear ho0)))
 go_ret2
 exact ⟨_,by first|rfl|(simp [errW_none,errW_some] <;> rfl)|(simp [*,errW_none,errW_some] <;> rfl),by (with_reducible repeat (first|apply Kd.R_alloc|apply Kd.R_drewN|apply Kd.R_drew));exact HO705.out,by repeat (first|(with_reducible first|exact HB.out|apply below_alloc|apply pw_below_drewN|apply below_drew1|refine below_set ?_ GE702.out)|exact HB.out)⟩
end Go.Proofs.Ytbelnopbggkdfaa.Q
end

section
namespace Go.Proofs.Ytbelnopbggkdfaa.Q
open Go.RowKit Go.Proofs.YtbelnopbggkdfaaW.PrintWords Go.Proofs.YtbelnopbggkdfaaW.PrintLast Go.Proofs.YtbelnopbggkdfaaW.PrintMore
def mk (M : List Bool) (w : Int) : Bool:=rdOf false M w
theorem mk_set {M : List Bool} {x w : Int} {v : Bool} (hx0 : 0≤x) (hx1 : x.toNat < M.length) (hw : 0≤w) : mk (M.set x.toNat v) w=if w=x then v else mk M w:=by
  unfold mk rdOf
  rw [List.getD_eq_getElem?_getD,List.getD_eq_getElem?_getD,List.getElem?_set]
  by_cases e : w=x
  · subst e
    rw [if_pos rfl,if_pos rfl,if_pos hx1]
    rfl
  · rw [if_neg e,if_neg (by omega)]
theorem setM_lenE : ∀ (ws : List Int) (M : List Bool),(setM M ws).length=M.length
  | [],M => rfl
  | w :: ws,M => by show (setM (M.set w.toNat true) ws).length=_;rw [setM_lenE ws];simp
theorem mk_setM : ∀ (ws : List Int) (M : List Bool),M.length=128→(∀ w ∈ ws,0≤w∧w < 128)→∀ w,0≤w→(mk (setM M ws) w=true↔w ∈ ws∨mk M w=true)
  | [],M,_,_,w,_ => by simp [setM]
  | x :: ws,M,hl,hws,w,hw => by
    show mk (setM (M.set x.toNat true) ws) w=true↔_
    have hx:=hws x (by simp)
    rw [mk_setM ws _ (by simp [hl]) (fun y hy => hws y (by simp [hy])) w hw,mk_set hx.1 (by omega) hw]
    by_cases h2 : w=x
    · simp [h2]
    · simp [h2]
theorem anyM_iff {M : List Bool} {ws : List Int} : anyM M ws=true↔∃ w,w ∈ ws∧mk M w=true:=by
  unfold anyM mk
  simp only [List.any_eq_true]
theorem mark_ok {n : Int} (hn : n≤64) : ∀ (qs : List Int) (M : List Bool),M.length=128→(∀ x ∈ qs,0≤x∧x < n∧mk M x=false)→qs.Nodup →
    ∃ M',cone_mark n qs M=some M'∧M'.length=128∧∀ w : Int,0≤w→(mk M' w=true↔w ∈ qs∨mk M w=true)
  | [],M,hl,_,_ => ⟨M,rfl,hl,fun w _ => by simp⟩
  | q :: qs,M,hl,h,hd => by
    have hq:=h q (by simp)
    have hd':=List.nodup_cons.1 hd
    obtain ⟨M',m1,m2,m3⟩:=mark_ok hn qs (M.set q.toNat true) (by simp [hl]) (fun x hx => by
      have hx':=h x (by simp [hx])
      refine ⟨hx'.1,hx'.2.1,?_⟩
      rw [mk_set hq.1 (by omega) hx'.1,if_neg (fun e => hd'.1 (by rw [← e];exact hx))]
      exact hx'.2.2) hd'.2
    refine ⟨M',?_,m2,fun w hw => ?_⟩
    · unfold cone_mark
      rw [if_neg (by
        have h3 : rdOf false M q=false:=hq.2.2
        rw [h3]
        simp
        omega),m1]
    · rw [m3 w hw,mk_set hq.1 (by omega) hw]
      by_cases e : w=q
      · simp [e]
      · simp [e]
theorem mark_no {n : Int} (hn : n≤64) : ∀ (qs : List Int) (M M' : List Bool),M.length=128→cone_mark n qs M=some M'→(∀ x ∈ qs,0≤x∧x < n∧mk M x=false)∧qs.Nodup
  | [],M,M',_,_ => ⟨by simp,List.nodup_nil⟩
  | q :: qs,M,M',hl,h => by
    unfold cone_mark at h
    split at h
    · cases h
    · rename_i hc
      simp only [not_or,Int.not_lt,Int.not_le,Bool.not_eq_true] at hc
      obtain ⟨i1,i2⟩:=mark_no hn qs _ M' (by simp [hl]) h
      refine ⟨fun x hx => ?_,List.nodup_cons.2 ⟨fun hx => ?_,i2⟩⟩
      · rcases List.mem_cons.1 hx with rfl|hx
        · exact ⟨hc.1,hc.2.1,hc.2.2⟩
        · have:=i1 x hx
          refine ⟨this.1,this.2.1,?_⟩
          have h3:=this.2.2
          rw [mk_set hc.1 (by omega) this.1] at h3
          split at h3
          · cases h3
          · exact h3
      · have:=(i1 q hx).2.2
        rw [mk_set hc.1 (by omega) hc.1,if_pos rfl] at this
        cases this
theorem okB_of {zs : List Int} {n : Int} (h : ∀ x ∈ zs,0≤x∧x < n) (hd : zs.Nodup) : okB zs n=true:=by
  refine okB_iff.2 fun i hi => ?_
  unfold okAt
  rw [List.getD_eq_getElem?_getD,List.getElem?_eq_getElem hi]
  have hm:=h _ (List.getElem_mem hi)
  refine ⟨hm.1,hm.2,?_⟩
  rw [Option.getD_some,← Bool.not_eq_true,List.contains_iff_mem,List.mem_take_iff_getElem]
  rintro ⟨j,hj,e⟩
  have:=(List.pairwise_iff_getElem.1 hd) j i (by omega) hi (by omega)
  exact this e
theorem mk_start (w : Int) : mk (List.replicate 128 false) w=false:=by
  unfold mk rdOf
  rw [List.getD_eq_getElem?_getD,List.getElem?_replicate]
  split <;> rfl
theorem mark_is {q : Int} (hq : q≤64) (qs : List Int) : (okB qs q=false∧cone_mark q qs (List.replicate 128 false)=none)∨(okB qs q=true∧qs.length≤64∧∃ M,cone_mark q qs (List.replicate 128 false)=some M∧M.length=128∧∀ w : Int,0≤w→(mk M w=true↔w ∈ qs)):=by
  cases h : okB qs q
  · refine .inl ⟨rfl,?_⟩
    cases hm : cone_mark q qs (List.replicate 128 false) with
    | none => rfl
    | some M' =>
      obtain ⟨a,b⟩:=mark_no hq qs _ M' (by simp) hm
      rw [okB_of (fun x hx => ⟨(a x hx).1,(a x hx).2.1⟩) b] at h
      cases h
  · obtain ⟨a,b⟩:=okB_facts h
    obtain ⟨M,m1,m2,m3⟩:=mark_ok hq qs (List.replicate 128 false) (by simp) (fun x hx => ⟨(a x hx).1,(a x hx).2,mk_start x⟩) b
    exact .inr ⟨rfl,nodup_len 64 qs b fun x hx => by have:=a x hx;omega,M,m1,m2,fun w hw => by rw [m3 w hw,mk_start];simp⟩
def coneS (l : List Opn) : List Nat→List Bool→List Nat
  | [],_ => []
  | j :: js,M => if (at_ l j).f0=4∨anyM M (wsF 64 (at_ l j))=false then coneS l js M else j :: coneS l js (setM M (wsF 64 (at_ l j)))
theorem coneS_sub (l : List Opn) : ∀ (js : List Nat) (M : List Bool),(coneS l js M).Sublist js
  | [],_ => List.Sublist.slnil
  | j :: js,M => by
    unfold coneS
    split
    · exact (coneS_sub l js M).cons _
    · exact (coneS_sub l js _).cons_cons _
theorem cone_go_is {q b : Int} {l : List Opn} (h : CircF q b l) : ∀ (js : List Nat) (M : List Bool),(∀ j ∈ js,j < l.length) →
    cone_go (js.map fun (j : Nat) => ((j : Int),at_ l j)) M=some ((coneS l js M).map fun (j : Nat) => (j : Int))
  | [],M,_ => rfl
  | j :: js,M,hj => by
    have hjl:=hj j (by simp)
    have oo : OpF q b (at_ l j):=by rw [at_get hjl];exact h.op _ (List.getElem_mem _)
    have hj' : ∀ i ∈ js,i < l.length:=fun i hi => hj i (by simp [hi])
    rw [List.map_cons]
    unfold cone_go coneS
    simp only
    rw [wires64 oo h.b1]
    simp only [Option.bind_some]
    rw [if_pos (wires_ok oo h.q1 h.b1)]
    split
    · exact cone_go_is h js M hj'
    · rw [cone_go_is h js _ hj']
      rfl
theorem sub_filter : ∀ {s m : List Nat},s.Sublist m→m.Nodup→s=m.filter (fun x => s.contains x)
  | _,_,.slnil,_ => rfl
  | s,x :: m,.cons _ h,hd => by
    have hd':=List.nodup_cons.1 hd
    have hx : s.contains x=false:=by
      rw [← Bool.not_eq_true,List.contains_iff_mem]
      exact fun hx => hd'.1 (h.subset hx)
    rw [List.filter_cons_of_neg (by rw [hx];decide)]
    exact sub_filter h hd'.2
  | x :: s,_ :: m,.cons_cons _ h,hd => by
    have hd':=List.nodup_cons.1 hd
    rw [List.filter_cons_of_pos (by simp)]
    congr 1
    conv => lhs;rw [sub_filter h hd'.2]
    refine List.filter_congr fun y hy => ?_
    have : y≠x:=fun e => hd'.1 (e ▸ hy)
    rw [List.contains_cons,beq_eq_false_iff_ne.2 this,Bool.false_or]
theorem meet_marks {q b : Int} {o : Opn} (h : OpF q b o) (hq : q≤64) (hb : b≤64) {M : List Bool} {xs : List Int} (hM : ∀ w : Int,0≤w→w < 128→(mk M w=true↔up36 w ∈ xs)) : meetS xs (wsF 100 o)=anyM M (wsF 64 o):=by
  rw [Bool.eq_iff_iff,anyM_iff]
  unfold meetS
  simp only [List.any_eq_true,List.contains_iff_mem]
  constructor
  · rintro ⟨y,h1,h2⟩
    obtain ⟨x,hx,rfl,hx0,hx1⟩:=ws_down h hq hb h2
    exact ⟨x,hx,(hM x hx0 hx1).2 h1⟩
  · rintro ⟨x,h1,h2⟩
    obtain ⟨hx0,hx1⟩:=ws_range h hq hb h1
    exact ⟨up36 x,(hM x hx0 hx1).1 h2,(ws_up h hq hx0 hx1).2 h1⟩
def flags (F : List Bool) (s : List Nat) : List Bool:=s.foldl (fun F j => F.set j true) F
theorem flags_at : ∀ (s : List Nat) (F : List Bool) (j : Nat),j < F.length→((flags F s).getD j false=true↔j ∈ s∨F.getD j false=true)
  | [],F,j,_ => by simp [flags]
  | x :: s,F,j,hj => by
    show (flags (F.set x true) s).getD j false=true↔_
    rw [flags_at s _ j (by simpa using hj)]
    rw [List.getD_eq_getElem?_getD,List.getD_eq_getElem?_getD,List.getElem?_set]
    by_cases e : x=j
    · subst e;simp [hj]
    · rw [if_neg e]
      simp [Ne.symm e]
def lookAt (n : Nat) (back : Bool) (p : Nat) : Nat:=if back=true then n - 1 - p else p
theorem rcone_l1 {F : List Bool} (hn : F.length≤100000) : ∀ (d i : Nat) (out : List Int),F.length - i=d→i≤F.length→out.length≤i →
    Evt fun k => phasorref19_cone.l1 k F out (i : Int)=some (out ++ ((List.range' i (F.length - i)).filter fun j => F.getD j false).map (fun (j : Nat) => (j : Int)),0)
  | 0,i,out,hd,hi,ho => by
    refine (Evt.all (p:=fun _ => True) fun _ => trivial).succ fun k _ => ?_
    unfold phasorref19_cone.l1
    rw [if_neg (by omega),hd]
    simp
  | d + 1,i,out,hd,hi,ho => by
    have hil : i < F.length:=by omega
    have e : List.range' i (F.length - i)=i :: List.range' (i + 1) (F.length - (i + 1)):=by
      rw [show F.length - i=(F.length - (i + 1)) + 1 by omega,List.range'_succ]
    have er : rdOf false F (i : Int)=F.getD i false:=by simp [rdOf]
    by_cases c : F.getD i false=true
    · refine (rcone_l1 hn d (i + 1) (out ++ [(i : Int)]) (by omega) (by omega) (by simp;omega)).succ fun k hk => ?_
      unfold phasorref19_cone.l1
      rw [if_pos (by omega),if_pos (by omega),er,if_pos c,if_pos (by omega),w64 (by omega) (by omega),show (i : Int) + 1=((i + 1 : Nat) : Int) by omega,hk,e,List.filter_cons_of_pos (p:=fun j => F.getD j false) c]
      simp
    · refine (rcone_l1 hn d (i + 1) out (by omega) (by omega) (by omega)).succ fun k hk => ?_
      unfold phasorref19_cone.l1
      rw [if_pos (by omega),if_pos (by omega),er,if_neg c,w64 (by omega) (by omega),show (i : Int) + 1=((i + 1 : Nat) : Int) by omega,hk,e,List.filter_cons_of_neg (p:=fun j => F.getD j false) (by simpa using c)]
theorem rcone_l0 {q b : Int} {l : List Opn} (h : CircF q b l) (back : Bool) : ∀ (d p : Nat) (xs : List Int) (F M : List Bool),l.length - p=d→p≤l.length→F.length=l.length→M.length=128→xs.length≤64 + 66 * p →
    (∀ w : Int,0≤w→w < 128→(mk M w=true↔up36 w ∈ xs)) →
    Evt fun k => phasorref19_cone.l0 k back xs F (p : Int) q b l=some (((List.range l.length).filter fun j => (flags F (coneS l ((List.range' p (l.length - p)).map (lookAt l.length back)) M)).getD j false).map (fun (j : Nat) => (j : Int)),0)
  | 0,p,xs,F,M,hd,hp,hF,hM,hx,hI => by
    have hn:=h.n
    refine (rcone_l1 (F:=F) (by omega) F.length 0 [] (by omega) (by omega) (by simp)).succ fun k hk => ?_
    unfold phasorref19_cone.l0
    rw [if_neg (by omega),hd]
    rw [show ((0 : Nat) : Int)=0 from rfl] at hk
    rw [hk,hF]
    simp [coneS,flags,List.range_eq_range']
  | d + 1,p,xs,F,M,hd,hp,hF,hM,hx,hI => by
    have hn:=h.n
    obtain ⟨j,hj⟩ : ∃ j,j=lookAt l.length back p:=⟨_,rfl⟩
    have hjl : j < l.length:=by rw [hj];unfold lookAt;split <;> omega
    have oo : OpF q b (at_ l j):=by rw [at_get hjl];exact h.op _ (List.getElem_mem _)
    have e : (List.range' p (l.length - p)).map (lookAt l.length back)=j :: (List.range' (p + 1) (l.length - (p + 1))).map (lookAt l.length back):=by
      rw [show l.length - p=(l.length - (p + 1)) + 1 by omega,List.range'_succ,List.map_cons,hj]
    have hwl:=ws_len 100 oo
    have hms:=meet_marks oo h.q1 h.b1 hI
    have hrng : ∀ w ∈ wsF 64 (at_ l j),0≤w∧w < 128:=fun w hw => ws_range oo h.q1 h.b1 hw
    have body : ∀ {R : List Int × Int},(Evt fun k => (if (at_ l j).f0=4 then phasorref19_cone.l0 k back xs F ((p + 1 : Nat) : Int) q b l else if anyM M (wsF 64 (at_ l j))=true then phasorref19_cone.l0 k back (xs ++ wsF 100 (at_ l j)) (F.set j true) ((p + 1 : Nat) : Int) q b l else phasorref19_cone.l0 k back xs F ((p + 1 : Nat) : Int) q b l)=some R) →
        Evt fun k => phasorref19_cone.l0 k back xs F (p : Int) q b l=some R:=fun {R} hR => by
      have hmeet:=meet_is xs (wsF 100 (at_ l j)) (by omega) (by omega)
      have h1 : Evt fun k => phasorref19_cone.j1 k back xs F (p : Int) (j : Int) q b l=some R:=(hR.and hmeet).succ fun k ⟨k1,k2⟩ => by
        have hbar:=bar_is (q:=q) (b:=b) hjl
        unfold phasorref19_cone.j1
        rw [if_pos (by omega),if_pos (by omega),rdT_nat hjl,← at_get hjl,wires100 oo h.b1]
        simp only [Option.bind_some]
        rw [hbar]
        simp only [Option.bind_some]
        rw [← at_get hjl,w64 (x:=(p : Int) + 1) (by omega) (by omega),show (p : Int) + 1=((p + 1 : Nat) : Int) by omega]
        by_cases c4 : (at_ l j).f0=4
        · rw [if_pos c4] at k1
          rw [if_pos (beq_iff_eq.2 c4),k1]
        · rw [if_neg c4] at k1
          rw [if_neg (by simpa using c4),k2]
          simp only [Option.bind_some]
          rw [hms]
          by_cases cm : anyM M (wsF 64 (at_ l j))=true
          · rw [if_pos cm] at k1
            rw [if_pos cm,if_pos (by omega),if_pos (by omega),Int.toNat_natCast,k1]
          · rw [if_neg cm] at k1
            rw [if_neg cm,k1]
      refine h1.succ fun k hk => ?_
      unfold phasorref19_cone.l0
      rw [if_pos (by omega)]
      cases back
      · rw [if_neg (by decide)]
        have : (j : Int)=p:=by rw [hj];simp [lookAt]
        rw [this] at hk
        exact hk
      · rw [if_pos rfl,w64 (x:=(l.length : Int) - 1) (by omega) (by omega),w64 (by omega) (by omega)]
        have : (j : Int)=(l.length : Int) - 1 - p:=by rw [hj];simp only [lookAt,if_true];omega
        rw [this] at hk
        exact hk
    rw [e]
    by_cases c4 : (at_ l j).f0=4
    · have ih:=rcone_l0 h back d (p + 1) xs F M (by omega) (by omega) hF hM (by omega) hI
      unfold coneS
      rw [if_pos (.inl c4)]
      refine body (ih.mono fun k hk => ?_)
      rw [if_pos c4,hk]
    · by_cases cm : anyM M (wsF 64 (at_ l j))=true
      · have ih:=rcone_l0 h back d (p + 1) (xs ++ wsF 100 (at_ l j)) (F.set j true) (setM M (wsF 64 (at_ l j))) (by omega) (by omega) (by simpa using hF) (by rw [setM_lenE];exact hM) (by rw [List.length_append];omega) (fun w h0 h1 => by
          rw [mk_setM _ _ hM hrng w h0,List.mem_append,ws_up oo h.q1 h0 h1,hI w h0 h1]
          exact Or.comm)
        unfold coneS
        rw [if_neg (by rw [cm];simpa using c4)]
        refine body (ih.mono fun k hk => ?_)
        rw [if_neg c4,if_pos cm,hk]
        rfl
      · have ih:=rcone_l0 h back d (p + 1) xs F M (by omega) (by omega) hF hM (by omega) hI
        rw [Bool.not_eq_true] at cm
        unfold coneS
        rw [if_pos (.inr cm)]
        refine body (ih.mono fun k hk => ?_)
        rw [if_neg c4,cm,if_neg (by decide),hk]
theorem nth_setN {x : List Int} {i j : Nat} {v : Int} (h : i < x.length) : nth (x.set i v) j=if j=i then v else nth x j:=by
  unfold nth
  rw [List.getD_eq_getElem?_getD,List.getD_eq_getElem?_getD,List.getElem?_set]
  by_cases e : j=i
  · subst e;rw [if_pos rfl,if_pos rfl,if_pos h];rfl
  · rw [if_neg e,if_neg (Ne.symm e)]
theorem rev_l0 {n : Nat} (hn : n≤100000) : ∀ (d i : Nat) (j : Int) (x : List Int),((j + 1 - i).toNat≤d)→x.length=n→(i : Int) + j=n - 1→-1≤j→i≤n →
    ∃ y,y.length=n∧(∀ p : Nat,p < n→nth y p=if (i : Int)≤p∧(p : Int)≤j then nth x (n - 1 - p) else nth x p)∧Evt fun k => slices_Reverse_int_int.l0 k x (i : Int) j=some y
  | 0,i,j,x,hd,hl,hij,hj,hi => by
    refine ⟨x,hl,fun p hp => ?_,(Evt.all (p:=fun _ => True) fun _ => trivial).succ fun k _ => ?_⟩
    · rw [if_neg (by omega)]
    · unfold slices_Reverse_int_int.l0
      rw [if_neg (by omega)]
  | d + 1,i,j,x,hd,hl,hij,hj,hi => by
    by_cases c : (i : Int) < j
    · obtain ⟨y,y1,y2,y3⟩:=rev_l0 hn d (i + 1) (j - 1) ((x.set i (rd x j)).set j.toNat (rd x i)) (by omega) (by simpa using hl) (by omega) (by omega) (by omega)
      refine ⟨y,y1,fun p hp => ?_,y3.succ fun k hk => ?_⟩
      · rw [y2 p hp]
        have ej : rd x j=nth x j.toNat:=by
          have:=rd_nth x j.toNat
          rwa [show ((j.toNat : Nat) : Int)=j by omega] at this
        rw [nth_setN (by simp;omega),nth_setN (by omega),nth_setN (by simp;omega),nth_setN (by omega),rd_nth,ej]
        by_cases c1 : p=i
        · subst c1
          rw [if_neg (by omega),if_neg (by omega),if_pos rfl,if_pos (by omega)]
          congr 1;omega
        · by_cases c2 : p=j.toNat
          · rw [if_neg (by omega),if_pos c2,if_pos (by omega)]
            congr 1;omega
          · by_cases c3 : (i : Int)≤p∧(p : Int)≤j
            · rw [if_pos (by omega),if_neg (by omega),if_neg (by omega),if_pos c3]
            · rw [if_neg (by omega),if_neg c2,if_neg c1,if_neg c3]
      · unfold slices_Reverse_int_int.l0
        rw [if_pos c,if_pos (by omega),if_pos (by omega),if_pos (by omega),if_pos (by omega),Int.toNat_natCast,w64 (by omega) (by omega),w64 (by omega) (by omega),show (i : Int) + 1=((i + 1 : Nat) : Int) by omega,hk]
    · refine ⟨x,hl,fun p hp => ?_,(Evt.all (p:=fun _ => True) fun _ => trivial).succ fun k _ => ?_⟩
      · split
        · congr 1;omega
        · rfl
      · unfold slices_Reverse_int_int.l0
        rw [if_neg c]
theorem reverse_is {x : List Int} (hn : x.length≤100000) : Evt fun k => slices_Reverse_int_int.f k x=some x.reverse:=by
  obtain ⟨y,y1,y2,y3⟩:=rev_l0 hn x.length 0 ((x.length : Int) - 1) x (by omega) rfl (by omega) (by omega) (by omega)
  have e : y=x.reverse:=List.ext_getElem (by simp [y1]) fun p h1 h2 => by
    have:=y2 p (by omega)
    rw [if_pos (by omega),nth_get h1,nth_get (by omega)] at this
    rw [this,List.getElem_reverse]
  subst e
  refine y3.mono fun k hk => ?_
  unfold slices_Reverse_int_int.f
  rw [w64 (by omega) (by omega)]
  exact hk
theorem cone_no {q b : Int} {l : List Opn} {qs : List Int} (back : Bool) (hw : WfL l) (h : okc q b l=false) : Evt fun k => layers_cone.f k q b l qs back=some ([],80)∧phasorref19_cone.f k q b l qs back=some ([],80) :=
  ((checked_is (q:=q) (b:=b) hw).and (may_is (q:=q) (b:=b) hw)).mono fun k ⟨h1,h2⟩ => by
    unfold layers_cone.f phasorref19_cone.f
    rw [h1,h2,h]
    exact ⟨rfl,rfl⟩
theorem cone_is {q b : Int} {l : List Opn} {qs : List Int} (back : Bool) (hw : WfL l) (h : CircF q b l) : ∃ r e,r.length≤4096∧(∀ x ∈ r,0≤x∧x < (l.length : Int))∧(e=0∨r=[])∧Evt fun k => layers_cone.f k q b l qs back=some (r,e)∧phasorref19_cone.f k q b l qs back=some (r,e):=by
  have hn:=h.n
  have hq1:=h.q1
  have hb2 : q≤128∧l.length < 2199023255552:=⟨by omega,by omega⟩
  have hc:=checked_is (q:=q) (b:=b) hw
  have hm:=may_is (q:=q) (b:=b) hw
  rw [h.okc] at hc hm
  rcases mark_is h.q1 qs with ⟨ho,hmk⟩ | ⟨ho,hql,M,m1,m2,m3⟩
  · refine ⟨[],190,by simp,by simp,.inr rfl,(hc.and hm).mono fun k ⟨h1,h2⟩ => ?_⟩
    unfold layers_cone.f phasorref19_cone.f phasorref07_Qubits.f
    rw [h1,h2,ho]
    simp only [Option.bind_some]
    refine ⟨?_,rfl⟩
    rw [if_pos trivial,if_pos hb2,hmk]
    rfl
  · obtain ⟨js,hjs⟩ : ∃ js,js=(List.range l.length).map (lookAt l.length back):=⟨_,rfl⟩
    have hjl : ∀ j ∈ js,j < l.length:=fun j hj => by
      rw [hjs] at hj
      obtain ⟨p,hp,rfl⟩:=List.mem_map.1 hj
      have:=List.mem_range.1 hp
      unfold lookAt
      split <;> omega
    have hgo:=cone_go_is h js M hjl
    have hlist : cone_list back l=js.map fun (j : Nat) => ((j : Int),at_ l j):=by
      rw [hjs]
      unfold cone_list
      rw [List.map_map]
      refine List.map_congr_left fun i hi => ?_
      have:=List.mem_range.1 hi
      unfold lookAt
      simp only [Function.comp]
      cases back
      · simp [rd_T46,at_]
      · have e : ((l.length : Int) - 1 - i)=((l.length - 1 - i : Nat) : Int):=by omega
        simp only [if_true]
        rw [e]
        simp [rd_T46,at_]
    have hsub:=coneS_sub l js M
    have hr0:=rcone_l0 h back l.length 0 qs (List.replicate l.length false) M (by omega) (by omega) (by simp) m2 (by omega) (fun w h0 h1 => by
      rw [m3 w h0]
      unfold up36
      have hr:=(okB_facts ho).1
      split
      · exact Iff.rfl
      · constructor
        · intro hw;have:=hr w hw;omega
        · intro hw;have:=hr _ hw;omega)
    have hjs2 : (List.range' 0 (l.length - 0)).map (lookAt l.length back)=js:=by rw [hjs,Nat.sub_zero,List.range_eq_range']
    rw [hjs2] at hr0
    have hflag : ((List.range l.length).filter fun j => (flags (List.replicate l.length false) (coneS l js M)).getD j false)=(List.range l.length).filter fun j => (coneS l js M).contains j:=by
      refine List.filter_congr fun j hj => ?_
      have hj':=List.mem_range.1 hj
      rw [Bool.eq_iff_iff,flags_at _ _ _ (by simpa using hj'),List.contains_iff_mem]
      simp [hj']
    rw [hflag] at hr0
    obtain ⟨r,hr⟩ : ∃ r,r=((List.range l.length).filter fun j => (coneS l js M).contains j).map (fun (j : Nat) => (j : Int)):=⟨_,rfl⟩
    rw [← hr] at hr0
    have hrl : r.length≤l.length:=by
      rw [hr,List.length_map]
      exact Nat.le_trans (List.length_filter_le _ _) (by simp)
    have hrr : ∀ x ∈ r,0≤x∧x < (l.length : Int):=fun x hx => by
      rw [hr] at hx
      obtain ⟨j,hj,rfl⟩:=List.mem_map.1 hx
      have:=List.mem_range.1 (List.mem_filter.1 hj).1
      omega
    have hlay : Evt fun k => cone_end k l back M=some (r,0):=by
      cases back
      · have e0 : js=List.range l.length:=by
          rw [hjs]
          conv => rhs;rw [← List.map_id (List.range l.length)]
          exact List.map_congr_left fun p _ => rfl
        refine Evt.all fun k => ?_
        unfold cone_end
        rw [hlist,hgo]
        simp only [Option.bind_some]
        rw [if_neg (by decide),hr]
        congr 2
        rw [e0] at hsub ⊢
        conv => lhs;rw [sub_filter hsub List.nodup_range]
      · have e0 : js.reverse=List.range l.length:=by
          rw [hjs]
          refine List.ext_getElem (by simp) fun p h1 h2 => ?_
          simp only [List.getElem_reverse,List.getElem_map,List.getElem_range,lookAt,if_true,List.length_map,List.length_range]
          simp at h2
          omega
        have hsl:=hsub.length_le
        rw [show js.length=l.length by rw [hjs];simp] at hsl
        refine (reverse_is (x:=(coneS l js M).map fun (j : Nat) => (j : Int)) (by simp;omega)).mono fun k hk => ?_
        unfold cone_end
        rw [hlist,hgo]
        simp only [Option.bind_some]
        rw [if_pos trivial,hk,hr]
        simp only [Option.bind_some,Option.some.injEq,Prod.mk.injEq,and_true]
        rw [← List.map_reverse]
        congr 1
        have hs2 : (coneS l js M).reverse.Sublist (List.range l.length):=by rw [← e0];exact hsub.reverse
        conv => lhs;rw [sub_filter hs2 List.nodup_range]
        refine List.filter_congr fun j _ => ?_
        rw [Bool.eq_iff_iff,List.contains_iff_mem,List.contains_iff_mem,List.mem_reverse]
    refine ⟨r,0,by omega,hrr,.inl rfl,(((hc.and hm).and hlay).and hr0).mono fun k ⟨⟨⟨h1,h2⟩,h3⟩,h4⟩ => ?_⟩
    unfold layers_cone.f phasorref19_cone.f phasorref07_Qubits.f
    rw [h1,h2,ho]
    simp only [Option.bind_some]
    rw [if_pos trivial,if_pos hb2,m1]
    refine ⟨h3,?_⟩
    rw [if_pos trivial,if_pos trivial,if_pos (by simp;omega),if_pos (by omega),if_pos (by omega),Int.toNat_natCast,List.nil_append]
    exact h4
end Go.Proofs.Ytbelnopbggkdfaa.Q
end

section
namespace Go.Proofs.Ytbelnopbggkdfaa.Q
open Go.RowKit Go.Proofs.YtbelnopbggkdfaaW.PrintWords Go.Proofs.YtbelnopbggkdfaaW.PrintLast Go.Proofs.YtbelnopbggkdfaaW.PrintMore
attribute [local go_sem] max2_int min2_int max_two min_two max_three min_three max_four min_four   -- for this text's walks alone
set_option linter.unusedVariables false
set_option linter.unusedSimpArgs false
def layers_Moments.l0 : Nat→List (List Int)→List Int→Int→Int→Int→Int→List (S46)→Option ((List (List Int)) × Int)
 | 0,_,_,_,_,_,_,_ => none
 | k + 1,x6,x20,x21,x22,x531000,x531001,x531002 => if x22 < x21 then (if 0≤x22 then (if x22 < (x20.length : Int) then (if x22 < (x531002.length : Int) then (if ((rd_T46 x531002 x22).f0)=4 then (layers_Moments.l0 k x6 x20 x21 (wrap64 (x22 + 1)) x531000 x531001 x531002) else (if 0≤(wrap64 ((rd x20 x22) - 1)) then (if (wrap64 ((rd x20 x22) - 1)) < (x6.length : Int) then (if (rd_L1 x6 (wrap64 ((rd x20 x22) - 1))).length < 17592186044416 then (layers_Moments.l0 k (x6.set ((wrap64 ((rd x20 x22) - 1)) : Int).toNat ((rd_L1 x6 (wrap64 ((rd x20 x22) - 1))) ++ [x22])) x20 x21 (wrap64 (x22 + 1)) x531000 x531001 x531002) else (none)) else (none)) else (none))) else (none)) else (none)) else (none)) else (some (x6,0))
def layers_Moments.f (k : Nat) (a0_0 : Int) (a0_1 : Int) (l0_2 : List (S46)) : Option ((List (List Int)) × Int):=(layers_Depth.f k a0_0 a0_1 l0_2).bind fun bt531 => (if bt531.2=0 then (if 0≤bt531.1 then (if (bt531.1 : Int).toNat≤11728124029610 then ((layers_early.f a0_0 a0_1 l0_2).bind fun t536 => (layers_Moments.l0 k (List.replicate (bt531.1 : Int).toNat []) t536 (t536.length : Int) 0 a0_0 a0_1 l0_2)) else (none)) else (none)) else (some (([] : List (List Int)),bt531.2)))
set_option maxHeartbeats 8000000 in
set_option maxRecDepth 100000 in
theorem layers_Moments.calls (k : Nat) (a0_0 : Int) (a0_1 : Int) (A0_2 : Option Addr) (c0_2 : Nat) (l0_2 : List (S46)) (r1 : List (List Int)) (r2 : Int) (w : World) (hr0_2 : Kd.C k46 w A0_2 l0_2.length l0_2) (hc0_2 : l0_2.length≤c0_2) (h : layers_Moments.f k a0_0 a0_1 l0_2=some (r1,r2)) :
  Calls Try.prog 37 #[.agg #[.int .i64 a0_0,.int .i64 a0_1,.slice A0_2 l0_2.length c0_2]] w fun e w' => ∃ v0_ : Value,e=.returned (.tuple #[v0_,.int .i64 r2])∧Kd.S (Kd.slice 3 (Kd.int .i64)) 37 w' w.heap.size (fun _ => True) v0_ r1∧Below w.heap.size w w':=by
 have hu24:=Try.underlying24
 have HR0_2:=Aside0.mk hr0_2
 have HC0_2:=Aside0.mk hc0_2
 clear hr0_2 hc0_2
 have HB:=Aside0.mk (Below.refl w.heap.size w)
 have H : ((layers_Depth.f k a0_0 a0_1 l0_2).bind fun bt531 => (if bt531.2=0 then (if 0≤bt531.1 then (if (bt531.1 : Int).toNat≤11728124029610 then ((layers_early.f a0_0 a0_1 l0_2).bind fun t536 => (layers_Moments.l0 k (List.replicate (bt531.1 : Int).toNat []) t536 (t536.length : Int) 0 a0_0 a0_1 l0_2)) else (none)) else (none)) else (some (([] : List (List Int)),bt531.2))))=some (r1,r2):=h
 clear h
 replace H:=Option.bind_eq_some_iff.mp H
 obtain ⟨⟨t531,t532⟩,A20,H⟩:=H
 replace H : (if t532=0 then (if 0≤t531 then (if (t531 : Int).toNat≤11728124029610 then ((layers_early.f a0_0 a0_1 l0_2).bind fun t536 => (layers_Moments.l0 k (List.replicate (t531 : Int).toNat []) t536 (t536.length : Int) 0 a0_0 a0_1 l0_2)) else (none)) else (none)) else (some (([] : List (List Int)),t532)))=some (r1,r2):=H
 have A2:=Aside0.mk A20
 clear A20
 by_cases c3 : t532=0
 ·rw [if_pos c3] at H
  have c3b0 : (t532 == 0)=true:=beq_iff_eq.mpr c3
  have c3b1 : (t532 != 0)=false:=bne_eq_false_iff_eq.mpr c3
  clear c3
  by_cases c4 : 0≤t531
  ·rw [if_pos c4] at H
   have c4b0:=eq_true c4
   have c4b1 : decide (0≤t531)=true:=decide_eq_true c4
   clear c4
   by_cases c5 : (t531 : Int).toNat≤11728124029610
   ·rw [if_pos c5] at H
    have c5b0:=eq_true c5
    have c5b1 : decide ((t531 : Int).toNat≤11728124029610)=true:=decide_eq_true c5
    clear c5
    obtain ⟨y533,hy533⟩ : ∃ y_ : List (List Int),y_=(List.replicate (t531 : Int).toNat []):=⟨_,rfl⟩
    replace H : ((layers_early.f a0_0 a0_1 l0_2).bind fun t536 => (layers_Moments.l0 k y533 t536 (t536.length : Int) 0 a0_0 a0_1 l0_2))=some (r1,r2):=by first|(rw [hy533];with_reducible exact H)|(have H2_:=(Option.bind_some _ _).symm.trans H;rw [hy533];with_reducible exact H2_)|(have H2_:=(Option.bind_some _ _).symm.trans H;with_reducible exact H2_)|with_reducible exact H|(rw [hy533];exact H)|exact H
    have Ny533:=Aside0.mk hy533
    clear hy533
    replace H:=Option.bind_eq_some_iff.mp H
    obtain ⟨t536,A60,H⟩:=H
    replace H : (layers_Moments.l0 k y533 t536 (t536.length : Int) 0 a0_0 a0_1 l0_2)=some (r1,r2):=H
    have A6:=Aside0.mk A60
    clear A60
    have H':=Aside0.mk H
    clear H
    go_enter Try.func37,Try.ntmps37
    go_wp2_with (first|((with_reducible refine gate_dst (N:=1) rfl ?_);refine box_event ?hg (N:=1) ?hd (cs:=#[.int .i64 a0_0,.int .i64 a0_1,.slice A0_2 l0_2.length c0_2]) (t:=24) ?hr ?_;(case hd => rfl);(case hg => rfl);(case hr => first|(go_simp;done)|(go_simp;rfl));intro gb530 hg w7 hbox hb;have n0_:=Aside0.mk (below_step (by repeat (first|(with_reducible first|exact HB.out|apply below_alloc|apply pw_below_drewN|apply below_drew1)|exact HB.out)) hb);have n1_:=Aside0.mk (hbox);have n2_:=Aside0.mk ((by rw [hg];exact (below_size (by repeat (first|(with_reducible first|exact HB.out|apply below_alloc|apply pw_below_drewN|apply below_drew1)|exact HB.out))) : w.heap.size≤gb530));have n3_:=Aside0.mk ((by rw [hg];exact (below_size (by repeat (first|(with_reducible first|exact HB.out|apply below_alloc|apply pw_below_drewN|apply below_drew1)|exact HB.out))) : w.heap.size≤gb530));clear HB;have HB:=n0_;have BK530:=n1_;have GW530:=n2_;have GE530:=n3_;clear n0_ n1_ n2_ n3_;clear hb hbox hg;have hcz8_0 : w7.cell? ⟨gb530,0,none⟩=some (.int .i64 a0_0):=(blk_cell BK530.out 0).trans rfl;have hcz8_1 : w7.cell? ⟨gb530,1,none⟩=some (.int .i64 a0_1):=(blk_cell BK530.out 1).trans rfl;have hcz8_2 : w7.cell? ⟨gb530,2,none⟩=some (.slice A0_2 l0_2.length c0_2):=(blk_cell BK530.out 2).trans rfl;have hfz8_0:=blk_frozen BK530.out 0;have hfz8_1:=blk_frozen BK530.out 1;have hfz8_2:=blk_frozen BK530.out 2)|((with_reducible refine gate_callee (f:=23) rfl ?_);refine goesL_ (some 11) rfl rfl Try.func23 (by kernel_rfl) rfl #[.agg #[.int .i64 a0_0,.int .i64 a0_1,.slice A0_2 l0_2.length c0_2]] rfl (by (try simp only [List.map_toArray,List.map_cons,List.map_nil]);first|done|rfl|(simp only [List.length_drop,List.length_take];rfl)) ?_;(with_reducible refine (layers_Depth.calls k a0_0 a0_1 _ _ l0_2 t531 t532 _ ?side1 ?side2 A2.out).mono ?_);(case side1 => repeat (first|exact (Kd.C_below HR0_2.out HB.out)|(with_reducible refine Kd.C_alloc ?_ _)|(with_reducible refine Kd.C_drewN ?_ _)|(with_reducible refine Kd.C_drew ?_)));(case side2 => exact HC0_2.out);rintro e w9 ⟨rfl,hb⟩;refine ⟨_,rfl,?_⟩;have n0_:=Aside0.mk (blk_below (g:=gb530) (o:=.cells #[.int .i64 a0_0,.int .i64 a0_1,.slice A0_2 l0_2.length c0_2] 24 (0,0)) (by (with_reducible repeat (first|refine blk_drewN ?_ _|refine blk_drew ?_|refine blk_alloc ?_ _));exact BK530.out) hb);have n1_:=Aside0.mk (below_step (by repeat (first|(with_reducible first|exact HB.out|apply below_alloc|apply pw_below_drewN|apply below_drew1|refine below_set ?_ GE530.out)|exact HB.out)) hb);clear BK530;clear HB;have BK530:=n0_;have HB:=n1_;clear n0_ n1_;(try clear hb);(try clear hb2);(try clear hk);(try clear hi))|((with_reducible refine gate_dst (N:=18) rfl ?_);refine Kd.S_make (Kd.slice 3 (Kd.int .i64)) _ 37 rfl (N:=18) rfl 57 _ _ rfl t531 rfl rfl Try.underlying57 (.slice none 0 0) 24 info37 rfl (by decide) (by omega) [] (ok:=fun _ => True) (okp:=fun _ => True) ⟨_,rfl,Kd.R_nil _ _ _ _ _⟩ (fun _ hk => hk) trivial (of_decide_eq_true (by first|(with_reducible assumption)|assumption)) (Nat.le_trans (Nat.mul_le_mul_right _ (of_decide_eq_true (by first|(with_reducible assumption)|assumption) : t531.toNat≤11728124029610)) (by omega)) (Below.refl _ _) (Nat.le_refl _) ?_;intro v534 w10 ho11 hb hg_ hnew_;clear hg_ hnew_;(first|rw [← Ny533.out] at ho11|(simp only [Int.reduceToNat] at ho11;rw [← Ny533.out] at ho11));have n0_:=Aside0.mk (Kd.S_lower ho11 (below_size (by repeat (first|(with_reducible first|exact HB.out|apply below_alloc|apply pw_below_drewN|apply below_drew1|refine below_set ?_ GE530.out)|exact HB.out))));have n1_:=Aside0.mk (blk_below (g:=gb530) (o:=.cells #[.int .i64 a0_0,.int .i64 a0_1,.slice A0_2 l0_2.length c0_2] 24 (0,0)) (by (with_reducible repeat (first|refine blk_drewN ?_ _|refine blk_drew ?_|refine blk_alloc ?_ _));exact BK530.out) hb);have n2_:=Aside0.mk (below_step (by repeat (first|(with_reducible first|exact HB.out|apply below_alloc|apply pw_below_drewN|apply below_drew1|refine below_set ?_ GE530.out)|exact HB.out)) hb);clear BK530;clear HB;have HO535:=n0_;have BK530:=n1_;have HB:=n2_;clear n0_ n1_ n2_;clear hb ho11;have hcz12_0 : w10.cell? ⟨gb530,0,none⟩=some (.int .i64 a0_0):=(blk_cell BK530.out 0).trans rfl;have hcz12_1 : w10.cell? ⟨gb530,1,none⟩=some (.int .i64 a0_1):=(blk_cell BK530.out 1).trans rfl;have hcz12_2 : w10.cell? ⟨gb530,2,none⟩=some (.slice A0_2 l0_2.length c0_2):=(blk_cell BK530.out 2).trans rfl;have hfz12_0:=blk_frozen BK530.out 0;have hfz12_1:=blk_frozen BK530.out 1;have hfz12_2:=blk_frozen BK530.out 2)|((with_reducible refine gate_callee (f:=61) rfl ?_);refine goesL_ (some 20) rfl rfl Try.func61 (by kernel_rfl) rfl #[.agg #[.int .i64 a0_0,.int .i64 a0_1,.slice A0_2 l0_2.length c0_2]] rfl (by (try simp only [List.map_toArray,List.map_cons,List.map_nil]);first|done|rfl|(simp only [List.length_drop,List.length_take];rfl)) ?_;(with_reducible refine (layers_early.calls a0_0 a0_1 _ _ l0_2 t536 _ ?side1 ?side2 A6.out).mono ?_);(case side1 => repeat (first|exact (Kd.C_below HR0_2.out HB.out)|(with_reducible refine Kd.C_alloc ?_ _)|(with_reducible refine Kd.C_drewN ?_ _)|(with_reducible refine Kd.C_drew ?_)));(case side2 => exact HC0_2.out);rintro e w13 ⟨v537,rfl,ho0,hb⟩;refine ⟨_,rfl,?_⟩;have n0_:=Aside0.mk (Kd.S_elder' (by (with_reducible repeat (first|apply Kd.S_alloc|apply Kd.S_drewN|apply Kd.S_drew));exact HO535.out) (Kd.R_base ho0) hb);have n1_:=Aside0.mk (Kd.R_lower ho0 (below_size (by repeat (first|(with_reducible first|exact HB.out|apply below_alloc|apply pw_below_drewN|apply below_drew1|refine below_set ?_ GE530.out)|exact HB.out))));have n2_:=Aside0.mk (blk_below (g:=gb530) (o:=.cells #[.int .i64 a0_0,.int .i64 a0_1,.slice A0_2 l0_2.length c0_2] 24 (0,0)) (by (with_reducible repeat (first|refine blk_drewN ?_ _|refine blk_drew ?_|refine blk_alloc ?_ _));exact BK530.out) hb);have n3_:=Aside0.mk (below_step (by repeat (first|(with_reducible first|exact HB.out|apply below_alloc|apply pw_below_drewN|apply below_drew1|refine below_set ?_ GE530.out)|exact HB.out)) hb);clear HO535;clear BK530;clear HB;have HO535:=n0_;have HO538:=n1_;have BK530:=n2_;have HB:=n3_;clear n0_ n1_ n2_ n3_;(try clear hb);(try clear hb2);(try clear hk);(try clear hi);(try clear ho0);obtain ⟨Ao14,co14,eo14⟩:=Kd.R_slice HO538.out;subst eo14))
    go_loopg [22] k (fun kq v22 w' => ∃ (x6_1 : List (List Int)) (x22_1 : Int),v22=.int .i64 x22_1∧Aside0 (layers_Moments.l0 kq x6_1 t536 (t536.length : Int) x22_1 a0_0 a0_1 l0_2=some (r1,r2))∧Aside0 (kq≤k)∧Aside0 (Kd.S (Kd.slice 3 (Kd.int .i64)) 37 w' w.heap.size (fun k_ => some k_≠((.slice Ao14 t536.length co14) : Value).ownBlock) v534 x6_1)∧Aside0 (Kd.R (Kd.int .i64) 3 w' w.heap.size (fun _ => True) (.slice Ao14 t536.length co14) t536)∧Aside0 (w'.heap[gb530]?=some (.cells #[.int .i64 a0_0,.int .i64 a0_1,(.slice A0_2 l0_2.length c0_2)] 24 (0,0)))∧Aside0 (Below w.heap.size w w'))
    case atStart => exact ⟨(y533),(0),(by first|rfl|(simp;done)|(simp [*];done)),H',⟨Nat.le_refl _⟩,⟨by (with_reducible repeat (first|apply Kd.S_alloc|apply Kd.S_drewN|apply Kd.S_drew));exact Kd.S_mono HO535.out (fun _ hk => hk.2)⟩,⟨by (with_reducible repeat (first|apply Kd.R_alloc|apply Kd.R_drewN|apply Kd.R_drew));exact HO538.out⟩,⟨by (with_reducible repeat (first|refine blk_drewN ?_ _|refine blk_drew ?_|refine blk_alloc ?_ _));exact BK530.out⟩,⟨by repeat (first|(with_reducible first|exact HB.out|apply below_alloc|apply pw_below_drewN|apply below_drew1|refine below_set ?_ GE530.out)|exact HB.out)⟩⟩
    case round =>
     clear H'
     try clear c2
     try clear p2
     try clear c3
     try clear c3b0
     try clear c3b1
     try clear c4
     try clear c4b0
     try clear c4b1
     try clear c5
     try clear c5b0
     try clear c5b1
     try clear c6
     try clear hcz12_0
     try clear hcz12_1
     try clear hcz12_2
     try clear hcz8_0
     try clear hcz8_1
     try clear hcz8_2
     try clear hfz12_0
     try clear hfz12_1
     try clear hfz12_2
     try clear hfz8_0
     try clear hfz8_1
     try clear hfz8_2
     obtain ⟨x6_1,x22_1,rfl,HA,HK1,HO_6,HO_20,BK530,HB⟩:=hrel
     cases gk with
     | zero => exact absurd HA.out (by simp [layers_Moments.l0])
     | succ k1 =>
      have H:=HA.out
      clear HA
      simp only [layers_Moments.l0] at H
      by_cases c15 : x22_1 < (t536.length : Int)
      ·rw [if_pos c15] at H
       have c15b0 : decide (x22_1 < (t536.length : Int))=true:=decide_eq_true c15
       clear c15
       by_cases c16 : 0≤x22_1
       ·rw [if_pos c16] at H
        have c16b0 : decide (0≤x22_1)=true:=decide_eq_true c16
        clear c16
        by_cases c17 : x22_1 < (t536.length : Int)
        ·rw [if_pos c17] at H
         have c17b0 : decide (x22_1 < (t536.length : Int))=true:=decide_eq_true c17
         clear c17
         by_cases c18 : x22_1 < (l0_2.length : Int)
         ·rw [if_pos c18] at H
          have c18b0 : decide (x22_1 < (l0_2.length : Int))=true:=decide_eq_true c18
          clear c18
          by_cases c19 : ((rd_T46 l0_2 x22_1).f0)=4
          ·rw [if_pos c19] at H
           have c19b0 : (((rd_T46 l0_2 x22_1).f0) == 4)=true:=beq_iff_eq.mpr c19
           have c19b1 : (((rd_T46 l0_2 x22_1).f0) != 4)=false:=bne_eq_false_iff_eq.mpr c19
           clear c19
           have H':=Aside0.mk H
           clear H
           have p539 : 0≤(x22_1 : Int):=of_decide_eq_true (by first|(with_reducible assumption)|assumption)
           have q539 : x22_1 < (t536.length : Int):=of_decide_eq_true (by first|(with_reducible assumption)|assumption)
           obtain ⟨ad539,e539,hx539_0⟩:=Kd.at_int (Kd.R_reads' HO_20.out).2.2 x22_1 p539 q539
           cases e539
           replace p539:=eq_true p539
           replace q539:=eq_true q539
           have hcz20_0 : wr.cell? ⟨gb530,0,none⟩=some (.int .i64 a0_0):=(blk_cell BK530.out 0).trans rfl
           have hcz20_1 : wr.cell? ⟨gb530,1,none⟩=some (.int .i64 a0_1):=(blk_cell BK530.out 1).trans rfl
           have hcz20_2 : wr.cell? ⟨gb530,2,none⟩=some (.slice A0_2 l0_2.length c0_2):=(blk_cell BK530.out 2).trans rfl
           have hfz20_0:=blk_frozen BK530.out 0
           have hfz20_1:=blk_frozen BK530.out 1
           have hfz20_2:=blk_frozen BK530.out 2
           have p540 : 0≤(x22_1 : Int):=of_decide_eq_true (by first|(with_reducible assumption)|assumption)
           have q540 : x22_1 < (l0_2.length : Int):=of_decide_eq_true (by first|(with_reducible assumption)|assumption)
           obtain ⟨ad540,A540_2,c540_2,e540,hx540_0,hx540_1,hx540_2,hx540_3,hx540_4,hx540_5,hl540_2,hi540_2⟩:=at_T46 HR0_2.out x22_1 p540 q540
           cases e540
           replace hx540_0:=(HB.out.cell (World.block_lt_of_cell? w _ hx540_0)).trans hx540_0
           replace hx540_1:=(HB.out.cell (World.block_lt_of_cell? w _ hx540_1)).trans hx540_1
           replace hx540_2:=(HB.out.cell (World.block_lt_of_cell? w _ hx540_2)).trans hx540_2
           replace hx540_3:=(HB.out.cell (World.block_lt_of_cell? w _ hx540_3)).trans hx540_3
           replace hx540_4:=(HB.out.cell (World.block_lt_of_cell? w _ hx540_4)).trans hx540_4
           replace hx540_5:=(HB.out.cell (World.block_lt_of_cell? w _ hx540_5)).trans hx540_5
           have HR540_2:=Aside0.mk hi540_2
           have HC540_2:=Aside0.mk hl540_2
           clear hi540_2 hl540_2
           replace p540:=eq_true p540
           replace q540:=eq_true q540
           go_wp2
           go_roundg k1
           case measure => have:=HK1.out;omega
           case rel => exact ⟨(x6_1),(wrap64 (x22_1 + 1)),(by first|rfl|(simp;done)|(simp [*];done)),H',⟨by have:=HK1.out;omega⟩,⟨by (with_reducible repeat (first|apply Kd.S_alloc|apply Kd.S_drewN|apply Kd.S_drew));exact HO_6.out⟩,⟨by (with_reducible repeat (first|apply Kd.R_alloc|apply Kd.R_drewN|apply Kd.R_drew));exact HO_20.out⟩,⟨by (with_reducible repeat (first|refine blk_drewN ?_ _|refine blk_drew ?_|refine blk_alloc ?_ _));exact BK530.out⟩,⟨by repeat (first|(with_reducible first|exact HB.out|apply below_alloc|apply pw_below_drewN|apply below_drew1|refine below_set ?_ GE530.out)|exact HB.out)⟩⟩
          ·rw [if_neg c19] at H
           have c19b0 : (((rd_T46 l0_2 x22_1).f0) == 4)=false:=beq_eq_false_iff_ne.mpr c19
           have c19b1 : (((rd_T46 l0_2 x22_1).f0) != 4)=true:=bne_iff_ne.mpr c19
           obtain ⟨ji21,hji21⟩ : ∃ j_ : Int,(wrap64 ((rd t536 x22_1) - 1))=j_:=⟨_,rfl⟩
           replace H : (if 0≤(ji21) then (if (ji21) < (x6_1.length : Int) then (if (rd_L1 x6_1 (ji21)).length < 17592186044416 then (layers_Moments.l0 k1 (x6_1.set ((ji21) : Int).toNat ((rd_L1 x6_1 (ji21)) ++ [x22_1])) t536 (t536.length : Int) (wrap64 (x22_1 + 1)) a0_0 a0_1 l0_2) else (none)) else (none)) else (none))=some (r1,r2):=by first|(rw [hji21] at H;exact H)|(simp only [hji21] at H ⊢;exact H)
           have hji21w : (IntKind.i64.wrap ((rd t536 x22_1) - 1))=ji21:=(i64_w _).trans hji21
           by_cases c22 : 0≤(ji21)
           ·rw [if_pos c22] at H
            have c22b0 : decide (0≤(ji21))=true:=decide_eq_true c22
            clear c22
            by_cases c23 : (ji21) < (x6_1.length : Int)
            ·rw [if_pos c23] at H
             have c23b0 : decide ((ji21) < (x6_1.length : Int))=true:=decide_eq_true c23
             clear c23
             by_cases c24 : (rd_L1 x6_1 (ji21)).length < 17592186044416
             ·rw [if_pos c24] at H
              have LMc24:=Aside0.mk c24
              clear c24
              obtain ⟨y542,hy542⟩ : ∃ y_ : List Int,y_=((rd_L1 x6_1 (ji21)) ++ [x22_1]):=⟨_,rfl⟩
              replace H : (layers_Moments.l0 k1 (x6_1.set ((ji21) : Int).toNat y542) t536 (t536.length : Int) (wrap64 (x22_1 + 1)) a0_0 a0_1 l0_2)=some (r1,r2):=by first|(rw [hy542];with_reducible exact H)|(have H2_:=(Option.bind_some _ _).symm.trans H;rw [hy542];with_reducible exact H2_)|(have H2_:=(Option.bind_some _ _).symm.trans H;with_reducible exact H2_)|with_reducible exact H|(rw [hy542];exact H)|exact H
              have Ny542:=Aside0.mk hy542
              clear hy542
              obtain ⟨y545,hy545⟩ : ∃ y_ : List (List Int),y_=(x6_1.set ((ji21) : Int).toNat y542):=⟨_,rfl⟩
              replace H : (layers_Moments.l0 k1 y545 t536 (t536.length : Int) (wrap64 (x22_1 + 1)) a0_0 a0_1 l0_2)=some (r1,r2):=by first|(rw [hy545];with_reducible exact H)|(have H2_:=(Option.bind_some _ _).symm.trans H;rw [hy545];with_reducible exact H2_)|(have H2_:=(Option.bind_some _ _).symm.trans H;with_reducible exact H2_)|with_reducible exact H|(rw [hy545];exact H)|exact H
              have Ny545:=Aside0.mk hy545
              clear hy545
              have H':=Aside0.mk H
              clear H
              have p539 : 0≤(x22_1 : Int):=of_decide_eq_true (by first|(with_reducible assumption)|assumption)
              have q539 : x22_1 < (t536.length : Int):=of_decide_eq_true (by first|(with_reducible assumption)|assumption)
              obtain ⟨ad539,e539,hx539_0⟩:=Kd.at_int (Kd.R_reads' HO_20.out).2.2 x22_1 p539 q539
              cases e539
              replace p539:=eq_true p539
              replace q539:=eq_true q539
              have hcz26_0 : wr.cell? ⟨gb530,0,none⟩=some (.int .i64 a0_0):=(blk_cell BK530.out 0).trans rfl
              have hcz26_1 : wr.cell? ⟨gb530,1,none⟩=some (.int .i64 a0_1):=(blk_cell BK530.out 1).trans rfl
              have hcz26_2 : wr.cell? ⟨gb530,2,none⟩=some (.slice A0_2 l0_2.length c0_2):=(blk_cell BK530.out 2).trans rfl
              have hfz26_0:=blk_frozen BK530.out 0
              have hfz26_1:=blk_frozen BK530.out 1
              have hfz26_2:=blk_frozen BK530.out 2
              have p540 : 0≤(x22_1 : Int):=of_decide_eq_true (by first|(with_reducible assumption)|assumption)
              have q540 : x22_1 < (l0_2.length : Int):=of_decide_eq_true (by first|(with_reducible assumption)|assumption)
              obtain ⟨ad540,A540_2,c540_2,e540,hx540_0,hx540_1,hx540_2,hx540_3,hx540_4,hx540_5,hl540_2,hi540_2⟩:=at_T46 HR0_2.out x22_1 p540 q540
              cases e540
              replace hx540_0:=(HB.out.cell (World.block_lt_of_cell? w _ hx540_0)).trans hx540_0
              replace hx540_1:=(HB.out.cell (World.block_lt_of_cell? w _ hx540_1)).trans hx540_1
              replace hx540_2:=(HB.out.cell (World.block_lt_of_cell? w _ hx540_2)).trans hx540_2
              replace hx540_3:=(HB.out.cell (World.block_lt_of_cell? w _ hx540_3)).trans hx540_3
              replace hx540_4:=(HB.out.cell (World.block_lt_of_cell? w _ hx540_4)).trans hx540_4
              replace hx540_5:=(HB.out.cell (World.block_lt_of_cell? w _ hx540_5)).trans hx540_5
              have HR540_2:=Aside0.mk hi540_2
              have HC540_2:=Aside0.mk hl540_2
              clear hi540_2 hl540_2
              replace p540:=eq_true p540
              replace q540:=eq_true q540
              obtain ⟨Ao27,co27,eo27⟩:=Kd.S_slice HO_6.out
              subst eo27
              have p541 : 0≤((ji21) : Int):=of_decide_eq_true (by first|(with_reducible assumption)|assumption)
              have q541 : (ji21) < (x6_1.length : Int):=of_decide_eq_true (by first|(with_reducible assumption)|assumption)
              obtain ⟨ad541,A541_0,c541_0,e541,hx541_0,hl541_0,hi541_0⟩:=at_L1 (Kd.S_reads' HO_6.out).2.2 (ji21) p541 q541
              cases e541
              obtain ⟨ce541,hce541,hMe541,hcc541⟩:=Kd.S_get HO_6.out [] (ji21) p541 (by first|exact q541|exact of_decide_eq_true (by first|(with_reducible assumption)|assumption)|(have e_:=(Kd.S_reads' HO_6.out).1;omega))
              obtain ⟨ve541_0,rfl,ge541_0⟩:=hMe541
              have hv541_0:=hcc541 0 _ rfl
              rw [Nat.add_zero,show ((Kd.slice 3 (Kd.int .i64))).sz=1 from rfl,Nat.mul_one] at hv541_0
              replace hv541_0:=Option.some.inj (hv541_0.symm.trans hx541_0)
              rw [hv541_0] at ge541_0
              have HL541_0:=Aside0.mk (show Kd.R (Kd.int .i64) 3 _ _ _ _ (rd_L1 x6_1 (ji21)) from ge541_0)
              clear hv541_0 ge541_0
              have HX541_0:=Aside0.mk hx541_0
              clear hcc541 hce541
              have HR541_0:=Aside0.mk hi541_0
              have HC541_0:=Aside0.mk hl541_0
              clear hi541_0 hl541_0
              replace p541:=eq_true p541
              replace q541:=eq_true q541
              obtain ⟨go28,co28,eo28,gb28,gl28,cl28,HG28⟩:=Kd.S_form HO_6.out (by have h_ : ((ji21) : Int) < ((x6_1.length : Int) : Int):=of_decide_eq_true (by first|(with_reducible assumption)|assumption);have h2_ : 0≤((ji21) : Int):=(of_decide_eq_true (by first|(with_reducible assumption)|assumption));omega)
              (first|cases eo28|(injection eo28 with ea_ en_ ec_;(first|subst ea_|(injection ea_ with ea_;subst ea_));subst ec_;clear en_))
              have GB28:=Aside0.mk gb28
              have GG28:=Aside0.mk HG28
              clear gb28 gl28 HG28
              (first|simp only [add_plain] at hx541_0|skip)
              obtain ⟨oki28,ce28,hcl28,hM28,hcc28,_,_,hH28⟩:=Kd.S_elem HO_6.out [] ((ji21) : Int) (of_decide_eq_true (by first|(with_reducible assumption)|assumption)) (by have h_ : ((ji21) : Int) < ((x6_1.length : Int) : Int):=of_decide_eq_true (by first|(with_reducible assumption)|assumption);first|exact h_|(have e_:=(Kd.S_reads' HO_6.out).1;omega)|simpa using h_)
              obtain ⟨ve28_0,rfl,ge28_0⟩:=hM28
              have hv28:=hcc28 0 _ rfl
              have hX28:=HX541_0.out
              (try simp only [add_plain] at hX28)
              (try simp only [Nat.add_zero] at hv28)
              (try rw [show ((Kd.slice 3 (Kd.int .i64))).sz=1 from rfl,Nat.mul_one] at hv28)
              replace hv28:=Option.some.inj (hv28.symm.trans hX28)
              subst hv28
              clear hX28 hcc28 hcl28
              have UU28:=Aside0.mk (show Kd.R (Kd.int .i64) 3 _ w.heap.size oki28 (.slice A541_0 (rd_L1 x6_1 (ji21)).length c541_0) (rd_L1 x6_1 (ji21)) from ge28_0)
              have HH28:=Aside0.mk hH28
              have HN28:=Aside0.mk (Kd.S_reads' HO_6.out).1
              clear hH28 ge28_0
              go_wp2_with (first|((with_reducible refine gate_builtin (b:=.append) (xs:=#[.tmp 41,.tmp 43]) rfl ?_);at_builtin;refine Kd.R_append (Kd.int .i64) (w0:=w) w.heap.size rfl (.tmp 41) (.tmp 43) 37 3 (.int .i64 0) 8 rfl Try.underlying37 info3 rfl (by decide) (by omega) (.slice A541_0 (rd_L1 x6_1 (ji21)).length c541_0) (rd_L1 x6_1 (ji21)) x22_1 [.int .i64 x22_1] (fun k_ => oki28 k_∨((fun k_ => some k_≠(.slice (some ad539) t536.length co14 : Value).ownBlock)) k_∧wr.heap.size≤k_) (fun _ => False) rfl rfl ?aP (fun _ hk => hk.elim) ?aF ?aO ?aB ?aS ?aL ?_;(case aP => exact rfl);(case aB => exact (by repeat (first|(with_reducible first|exact HB.out|apply below_alloc|apply pw_below_drewN|apply below_drew1|refine below_set ?_ GE530.out)|exact HB.out)));(case aF => exact (fun k_ hk => .inr ⟨Kd.fresh' (Kd.R_lt (by (with_reducible repeat (first|apply Kd.R_alloc|apply Kd.R_drewN|apply Kd.R_drew));exact HO_20.out)) k_ hk,hk⟩));(case aO => exact (by (with_reducible repeat (first|apply Kd.R_alloc|apply Kd.R_drewN|apply Kd.R_drew));exact Kd.R_mono UU28.out (fun _ hk => .inl hk)));(case aS => exact (below_size (by repeat (first|(with_reducible first|exact HB.out|apply below_alloc|apply pw_below_drewN|apply below_drew1|refine below_set ?_ GE530.out)|exact HB.out))));(case aL => have:=LMc24.out;omega);intro v543 w29 ho hb hg hat;rw [← Ny542.out] at ho;have n0_:=Aside0.mk (Kd.R_grown2 (by (with_reducible repeat (first|apply Kd.R_alloc|apply Kd.R_drewN|apply Kd.R_drew));exact HO_20.out) rfl hg (fun k_ e_ => (HL541_0.out.1 k_ e_).1));have n1_:=Aside0.mk (blk_grown (g:=gb530) (o:=.cells #[.int .i64 a0_0,.int .i64 a0_1,.slice (some ad540) l0_2.length c0_2] 24 (0,0)) (by (with_reducible repeat (first|refine blk_drewN ?_ _|refine blk_drew ?_|refine blk_alloc ?_ _));exact BK530.out) hg (Kd.R_ne HL541_0.out BK530.out (by decide)));have n2_:=Aside0.mk (hb);have n3_:=Aside0.mk (Kd.H_grown (Kd.H_widen (by repeat (first|exact HH28.out|refine Kd.H_alloc ?_ _|refine Kd.H_drewN ?_ _|refine Kd.H_drew ?_))) hg (fun k_ e_ => .inl (UU28.out.1 k_ e_)));have n4_:=Aside0.mk (ho);clear HO_20;clear BK530;clear HB;clear HH28;clear HO_6;clear UU28;clear HL541_0;have HO_20:=n0_;have BK530:=n1_;have HB:=n2_;have HH28:=n3_;have HO544:=n4_;clear n0_ n1_ n2_ n3_ n4_;clear ho hb hg hat;have p25 : 0≤((ji21) : Int):=of_decide_eq_true (by first|(with_reducible assumption)|assumption);have q25 : ((ji21) : Int) < ((x6_1.length : Int) : Int):=of_decide_eq_true (by first|(with_reducible assumption)|assumption);replace p25:=eq_true p25;replace q25:=eq_true q25;obtain ⟨Ao32,co32,eo32⟩:=Kd.R_slice HO544.out;subst eo32;obtain ⟨_,_,hraw30,_,_,hcc30,_⟩:=Kd.H_raw HH28.out (of_decide_eq_true (by first|(with_reducible assumption)|assumption)) (by have h_ : ((ji21) : Int) < ((x6_1.length : Int) : Int):=of_decide_eq_true (by first|(with_reducible assumption)|assumption);first|exact h_|(have e_:=(HN28.out);omega)|simpa using h_);obtain ⟨_,hfr30⟩:=Kd.H_at HH28.out (of_decide_eq_true (by first|(with_reducible assumption)|assumption)) (by have h_ : ((ji21) : Int) < ((x6_1.length : Int) : Int):=of_decide_eq_true (by first|(with_reducible assumption)|assumption);first|exact h_|(have e_:=(HN28.out);omega)|simpa using h_);have hx30_0:=hcc30 0 _ rfl;have hf30_0:=hfr30 0;(try simp only [Nat.add_zero] at hx30_0 hf30_0);(try rw [show ((Kd.slice 3 (Kd.int .i64))).sz=1 from rfl,Nat.mul_one] at hx30_0);(try rw [show ((Kd.slice 3 (Kd.int .i64))).sz=1 from rfl,Nat.mul_one] at hf30_0);have HP30:=Kd.S_seg0 HH28.out (of_decide_eq_true (by first|(with_reducible assumption)|assumption)) (by have h_ : ((ji21) : Int) < ((x6_1.length : Int) : Int):=of_decide_eq_true (by first|(with_reducible assumption)|assumption);first|exact h_|(have e_:=(HN28.out);omega)|simpa using h_) (seg:=[.slice Ao32 y542.length co32]) (j:=0) (show 1≤1 from by decide) (x':=y542) (Kd.M_row HO544.out) (fun _ hk => hk);(try simp only [show ((Kd.slice 3 (Kd.int .i64))).sz=1 from rfl,Nat.mul_one,Nat.add_zero] at HP30);clear hcc30 hfr30)|((with_reducible refine gate_store (t:=37) (p:=45) rfl ?_);refine store_event (t:=37) (p:=45) (v:=?vo_w31) (w1:=(w29.setCell ⟨go28,((ji21) : Int).toNat,none⟩ (.slice Ao32 y542.length co32))) ?hg ?ho ?hn ?hr ?_;(case ho => rfl);(case hg => rfl);(case hn => rfl);(case hr => first|(go_simp;done)|(go_simp;rfl));intro w31 hw;have hg : w29.grownBy w31 (some go28):=(by rw [hw];exact HP30.2);have hp_ : Kd.S (Kd.slice 3 (Kd.int .i64)) 37 w31 w.heap.size (fun k_ => some k_≠(.slice (some ad539) t536.length co14 : Value).ownBlock) (.slice (some ⟨go28,0,none⟩) x6_1.length co27) y545:=(by rw [hw,Ny545.out];exact HP30.1);clear HP30;have n0_:=Aside0.mk (Kd.R_over' (v:=(.slice (some ⟨go28,0,none⟩) x6_1.length co27)) (by (with_reducible repeat (first|apply Kd.R_alloc|apply Kd.R_drewN|apply Kd.R_drew));exact HO_20.out) (Kd.R_typed hraw30) (by decide) hg);have n1_:=Aside0.mk (blk_grown (g:=gb530) (o:=.cells #[.int .i64 a0_0,.int .i64 a0_1,.slice (some ad540) l0_2.length c0_2] 24 (0,0)) (by (with_reducible repeat (first|refine blk_drewN ?_ _|refine blk_drew ?_|refine blk_alloc ?_ _));exact BK530.out) hg (Kd.R_ne hraw30 BK530.out (by decide)));have n2_:=Aside0.mk ((by rw [hw];exact below_set HB.out GB28.out : Below w.heap.size w w31));have n3_:=Aside0.mk (hp_);clear HO_20;clear BK530;clear HB;clear HO544;clear HH28;have HO_20:=n0_;have BK530:=n1_;have HB:=n2_;have HO_6:=n3_;clear n0_ n1_ n2_ n3_;clear hg hw hp_ hraw30))
              go_roundg k1
              case measure => have:=HK1.out;omega
              case rel => exact ⟨(y545),(wrap64 (x22_1 + 1)),(by first|rfl|(simp;done)|(simp [*];done)),H',⟨by have:=HK1.out;omega⟩,⟨by (with_reducible repeat (first|apply Kd.S_alloc|apply Kd.S_drewN|apply Kd.S_drew));exact HO_6.out⟩,⟨by (with_reducible repeat (first|apply Kd.R_alloc|apply Kd.R_drewN|apply Kd.R_drew));exact HO_20.out⟩,⟨by (with_reducible repeat (first|refine blk_drewN ?_ _|refine blk_drew ?_|refine blk_alloc ?_ _));exact BK530.out⟩,⟨by repeat (first|(with_reducible first|exact HB.out|apply below_alloc|apply pw_below_drewN|apply below_drew1|refine below_set ?_ GE530.out)|exact HB.out)⟩⟩
             ·rw [if_neg c24] at H
              exact absurd H (by simp)
            ·rw [if_neg c23] at H
             exact absurd H (by simp)
           ·rw [if_neg c22] at H
            exact absurd H (by simp)
         ·rw [if_neg c18] at H
          exact absurd H (by simp)
        ·rw [if_neg c17] at H
         exact absurd H (by simp)
       ·rw [if_neg c16] at H
        exact absurd H (by simp)
      ·rw [if_neg c15] at H
       have c15b0 : decide (x22_1 < (t536.length : Int))=false:=decide_eq_false c15
       clear c15
       simp only [Option.some.injEq,Prod.mk.injEq] at H
       obtain ⟨rfl,rfl⟩:=H
       go_wp2
       go_ret2
       exact ⟨_,by first|rfl|(simp [errW_none,errW_some] <;> rfl)|(simp [*,errW_none,errW_some] <;> rfl),by (with_reducible repeat (first|apply Kd.S_alloc|apply Kd.S_drewN|apply Kd.S_drew));exact Kd.S_mono HO_6.out (fun _ hk => trivial),by repeat (first|(with_reducible first|exact HB.out|apply below_alloc|apply pw_below_drewN|apply below_drew1|refine below_set ?_ GE530.out)|exact HB.out)⟩
   ·rw [if_neg c5] at H
    exact absurd H (by simp)
  ·rw [if_neg c4] at H
   exact absurd H (by simp)
 ·rw [if_neg c3] at H
  have c3b0 : (t532 == 0)=false:=beq_eq_false_iff_ne.mpr c3
  have c3b1 : (t532 != 0)=true:=bne_iff_ne.mpr c3
  simp only [Option.some.injEq,Prod.mk.injEq] at H
  obtain ⟨rfl,rfl⟩:=H
  go_enter Try.func37,Try.ntmps37
  go_wp2_with (first|((with_reducible refine gate_dst (N:=1) rfl ?_);refine box_event ?hg (N:=1) ?hd (cs:=#[.int .i64 a0_0,.int .i64 a0_1,.slice A0_2 l0_2.length c0_2]) (t:=24) ?hr ?_;(case hd => rfl);(case hg => rfl);(case hr => first|(go_simp;done)|(go_simp;rfl));intro gb530 hg w33 hbox hb;have n0_:=Aside0.mk (below_step (by repeat (first|(with_reducible first|exact HB.out|apply below_alloc|apply pw_below_drewN|apply below_drew1)|exact HB.out)) hb);have n1_:=Aside0.mk (hbox);have n2_:=Aside0.mk ((by rw [hg];exact (below_size (by repeat (first|(with_reducible first|exact HB.out|apply below_alloc|apply pw_below_drewN|apply below_drew1)|exact HB.out))) : w.heap.size≤gb530));have n3_:=Aside0.mk ((by rw [hg];exact (below_size (by repeat (first|(with_reducible first|exact HB.out|apply below_alloc|apply pw_below_drewN|apply below_drew1)|exact HB.out))) : w.heap.size≤gb530));clear HB;have HB:=n0_;have BK530:=n1_;have GW530:=n2_;have GE530:=n3_;clear n0_ n1_ n2_ n3_;clear hb hbox hg;have hcz34_0 : w33.cell? ⟨gb530,0,none⟩=some (.int .i64 a0_0):=(blk_cell BK530.out 0).trans rfl;have hcz34_1 : w33.cell? ⟨gb530,1,none⟩=some (.int .i64 a0_1):=(blk_cell BK530.out 1).trans rfl;have hcz34_2 : w33.cell? ⟨gb530,2,none⟩=some (.slice A0_2 l0_2.length c0_2):=(blk_cell BK530.out 2).trans rfl;have hfz34_0:=blk_frozen BK530.out 0;have hfz34_1:=blk_frozen BK530.out 1;have hfz34_2:=blk_frozen BK530.out 2)|((with_reducible refine gate_callee (f:=23) rfl ?_);refine goesL_ (some 11) rfl rfl Try.func23 (by kernel_rfl) rfl #[.agg #[.int .i64 a0_0,.int .i64 a0_1,.slice A0_2 l0_2.length c0_2]] rfl (by (try simp only [List.map_toArray,List.map_cons,List.map_nil]);first|done|rfl|(simp only [List.length_drop,List.length_take];rfl)) ?_;(with_reducible refine (layers_Depth.calls k a0_0 a0_1 _ _ l0_2 t531 t532 _ ?side1 ?side2 A2.out).mono ?_);(case side1 => repeat (first|exact (Kd.C_below HR0_2.out HB.out)|(with_reducible refine Kd.C_alloc ?_ _)|(with_reducible refine Kd.C_drewN ?_ _)|(with_reducible refine Kd.C_drew ?_)));(case side2 => exact HC0_2.out);rintro e w35 ⟨rfl,hb⟩;refine ⟨_,rfl,?_⟩;have n0_:=Aside0.mk (blk_below (g:=gb530) (o:=.cells #[.int .i64 a0_0,.int .i64 a0_1,.slice A0_2 l0_2.length c0_2] 24 (0,0)) (by (with_reducible repeat (first|refine blk_drewN ?_ _|refine blk_drew ?_|refine blk_alloc ?_ _));exact BK530.out) hb);have n1_:=Aside0.mk (below_step (by repeat (first|(with_reducible first|exact HB.out|apply below_alloc|apply pw_below_drewN|apply below_drew1|refine below_set ?_ GE530.out)|exact HB.out)) hb);clear BK530;clear HB;have BK530:=n0_;have HB:=n1_;clear n0_ n1_;(try clear hb);(try clear hb2);(try clear hk);(try clear hi)))
  go_ret2
  exact ⟨_,by first|rfl|(simp [errW_none,errW_some] <;> rfl)|(simp [*,errW_none,errW_some] <;> rfl),by first|exact Kd.S_nil _ _ _ _ _|exact Kd.N_nil _ _ _ _ _|exact Kd.V_nil _ _ _ _ _|exact Kd.Q_nil _ _ _ _ _|exact Kd.R_nil _ _ _ _ _,by repeat (first|(with_reducible first|exact HB.out|apply below_alloc|apply pw_below_drewN|apply below_drew1|refine below_set ?_ GE530.out)|exact HB.out)⟩
end Go.Proofs.Ytbelnopbggkdfaa.Q
end
