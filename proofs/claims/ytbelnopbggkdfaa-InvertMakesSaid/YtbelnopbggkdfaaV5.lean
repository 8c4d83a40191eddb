/- A part of the proof: texts of this claim laid together by a program of its own; what the proof does not use is struck. -/
import Derived.Test.YtbelnopbggkdfaaV4
import Derived.Lib.SmallJoins
import Derived.OpenShut
import Derived.Laws.Cover2
import Derived.SizedLaws
section
namespace Go.Proofs.Ytbelnopbggkdfaa.Q
open Go.RowKit Go.Proofs.YtbelnopbggkdfaaW.PrintWords Go.Proofs.YtbelnopbggkdfaaW.PrintLast Go.Proofs.YtbelnopbggkdfaaW.PrintMore
theorem ctlR_is (k : Int) : phasorref17_controlled.f k=some (ctlF k):=by
  unfold phasorref17_controlled.f ctlF
  repeat' split
  all_goals rfl
theorem ctlF_one {k : Int} (h : k≠1) : ctlF k≠1:=by
  unfold ctlF
  rw [if_neg h]
  repeat' split
  all_goals decide
theorem rctl_l0 {q b : Int} {l : List Opn} (hn : l.length≤1000000) (hf : ∀ o ∈ l,o.f2.length≤64) :
    ∀ (d i : Nat),l.length - i=d→i≤l.length→Evt fun k => phasorref17_Control.l0 k (i : Int) q b l (q + 1) b ((l.take i).map (ctlO q))=some (if (l.drop i).any ctlBad=true then (0,0,[],170) else (q + 1,b,l.map (ctlO q),0))
  | 0,i,hd,hi => by
    obtain rfl : i=l.length:=by omega
    refine (Evt.all (p:=fun _ => True) fun _ => trivial).succ fun k _ => ?_
    unfold phasorref17_Control.l0
    rw [if_neg (by omega),List.drop_eq_nil_of_le (Nat.le_refl _),List.take_length]
    rfl
  | d + 1,i,hd,hi => by
    have hil : i < l.length:=by omega
    have ih:=rctl_l0 (q:=q) (b:=b) hn hf d (i + 1) (by omega) (by omega)
    have hx : rd_T46 l (i : Int)=l[i]:=rdT_nat hil
    have hq:=hf l[i] (List.getElem_mem hil)
    have ht : (l.take (i + 1)).map (ctlO q)=(l.take i).map (ctlO q) ++ [ctlO q l[i]]:=by rw [List.take_succ_eq_append_getElem hil,List.map_append];rfl
    have hlen : ((l.take i).map (ctlO q)).length < 2199023255552:=by rw [List.length_map,List.length_take];omega
    rw [List.drop_eq_getElem_cons hil,List.any_cons]
    generalize l[i]=x at hx hq ht
    have he : wrap64 ((i : Int) + 1)=((i + 1 : Nat) : Int):=by rw [w64 (by omega) (by omega)];rfl
    have hy : ([] : List Int).length + x.f2.length < 17592186044416:=by simp;omega
    have hy1 : ([q] : List Int).length + x.f2.length < 17592186044416:=by simp;omega
    rw [ht] at ih
    by_cases h4 : x.f0=4
    · have hc : ctlBad x=false:=by unfold ctlBad;rw [h4];rfl
      have ho : ctlO q x=x:=by unfold ctlO;rw [if_pos h4]
      rw [hc,Bool.false_or]
      rw [ho] at ih
      refine ih.succ fun k hk => ?_
      unfold phasorref17_Control.l0
      rw [if_pos (by omega),if_pos (by omega),hx,Option.bind_some,if_pos hy,Option.bind_some,if_pos h4,if_pos hlen,he]
      exact hk
    · have e4 : (x.f0 == 4)=false:=beq_eq_false_iff_ne.2 h4
      have step : ∀ {r : Int × Int × List Opn × Int} (bb : Bool),(bb=(!(x.f0 == 1 && x.f4 == -1 && !(ctlF x.f1 == 0))))→(Evt fun k => phasorref17_Control.j1 k (i : Int) ([] ++ x.f2) (ctlF x.f1) bb q b l (q + 1) b ((l.take i).map (ctlO q)) x.f0 x.f1 x.f2 x.f3 x.f4 x.f5=some r) →
          Evt fun k => phasorref17_Control.l0 k (i : Int) q b l (q + 1) b ((l.take i).map (ctlO q))=some r:=fun {r} bb hbb hj => by
        refine hj.succ fun k hk => ?_
        unfold phasorref17_Control.l0
        rw [if_pos (by omega),if_pos (by omega),hx,Option.bind_some,if_pos hy,Option.bind_some,if_neg h4,ctlR_is,Option.bind_some]
        by_cases h1 : x.f0=1
        · rw [if_pos h1]
          by_cases h5 : x.f4=-1
          · rw [if_pos h5]
            have : bb=(ctlF x.f1 == 0):=by rw [hbb,h1,h5];simp
            rw [← this]
            exact hk
          · rw [if_neg h5]
            have : bb=true:=by rw [hbb,beq_eq_false_iff_ne.2 h5];simp
            rw [← this]
            exact hk
        · rw [if_neg h1]
          have : bb=true:=by rw [hbb,beq_eq_false_iff_ne.2 h1];simp
          rw [← this]
          exact hk
      by_cases hb : (x.f0 == 1 && x.f4 == -1 && !(ctlF x.f1 == 0))=true
      · have hc : ctlBad x=false:=by unfold ctlBad;rw [hb,e4];rfl
        rw [hc,Bool.false_or]
        refine step false (by rw [hb];rfl) (ih.succ fun k hk => ?_)
        unfold phasorref17_Control.j1
        rw [if_neg (by decide)]
        simp only [Bool.and_eq_true,beq_iff_eq,Bool.not_eq_true',beq_eq_false_iff_ne] at hb
        by_cases h6 : x.f1=1
        · have ho : ctlO q x=x:=by unfold ctlO;rw [if_neg h4,if_pos h6]
          rw [ho] at hk
          have h7 : ctlF x.f1=1:=by rw [h6];rfl
          rw [if_pos h7,if_pos hlen,he,h7,List.nil_append]
          rw [show (⟨x.f0,1,x.f2,x.f3,x.f4,x.f5⟩ : Opn)=x by rw [← h6]]
          exact hk
        · have ho : ctlO q x={ x with f1:=ctlF x.f1,f2:=q :: x.f2 }:=by unfold ctlO;rw [if_neg h4,if_neg h6]
          rw [ho] at hk
          rw [if_neg (ctlF_one h6),Option.bind_some,if_pos hy1,if_pos hlen,he]
          exact hk
      · rw [Bool.not_eq_true] at hb
        have hc : ctlBad x=true:=by unfold ctlBad;rw [hb,e4];rfl
        rw [hc,Bool.true_or,if_pos rfl]
        refine step true (by rw [hb];rfl) ((Evt.all (p:=fun _ => True) fun _ => trivial).succ fun k _ => ?_)
        unfold phasorref17_Control.j1
        rw [if_pos rfl]
theorem rctl_is {q b : Int} {l : List Opn} (hw : WfL l) : Evt fun k => phasorref17_Control.f k q b l=some (ctlR q b l):=by
  unfold ctlR
  by_cases h : okc q b l=true
  · have ho:=okc_facts h
    have h1:=ho.q0
    rw [if_pos h]
    by_cases h4 : 64≤q
    · rw [if_pos h4]
      refine (may_is (q:=q) (b:=b) hw).mono fun k hk => ?_
      unfold phasorref17_Control.f
      rw [hk,h,Option.bind_some,if_pos rfl,if_pos (by omega)]
    · rw [if_neg h4]
      refine ((may_is (q:=q) (b:=b) hw).and (rctl_l0 (q:=q) (b:=b) (by have:=ho.n;omega) (fun o ho2 => (ho.op o ho2).len) l.length 0 (by omega) (by omega))).mono fun k ⟨hk,hk2⟩ => ?_
      unfold phasorref17_Control.f
      rw [hk,h,Option.bind_some,if_pos rfl,if_neg (by omega),w64 (by omega) (by omega)]
      exact hk2
  · rw [if_neg h]
    refine (may_is (q:=q) (b:=b) hw).mono fun k hk => ?_
    rw [Bool.not_eq_true] at h
    unfold phasorref17_Control.f
    rw [hk,h,Option.bind_some,if_neg (by decide)]
theorem rcontrol_out {q b : Int} {A : Option Addr} {c : Nat} {l : List Opn} {w : World} (HC : Kd.C k46 w A l.length l) (hc : l.length≤c) (hw : WfL l) :
    Calls Try.prog 18 #[.agg #[.int .i64 q,.int .i64 b,.slice A l.length c]] w (Out w (ctlR q b l)):=by
  obtain ⟨k,hk⟩:=(rctl_is (q:=q) (b:=b) hw).get
  obtain ⟨r,hR⟩ : ∃ r,r=ctlR q b l:=⟨_,rfl⟩
  rw [← hR] at hk ⊢
  obtain ⟨r1,r2,r3,r4⟩:=r
  refine (phasorref17_Control.calls k q b A c l r1 r2 r3 r4 w HC hc hk).mono fun e w' ⟨v,he,ho,hb⟩ => ?_
  exact ⟨v,he,Kd.N_mono (Kd.S_N (k46w_S (Kd.S_bound ho))) (fun k hk => hk.2.1),hb⟩
end Go.Proofs.Ytbelnopbggkdfaa.Q
end

section
namespace Go.Proofs.Ytbelnopbggkdfaa.Q
open Go.RowKit Go.Proofs.YtbelnopbggkdfaaW.PrintWords Go.Proofs.YtbelnopbggkdfaaW.PrintLast Go.Proofs.YtbelnopbggkdfaaW.PrintMore
set_option maxHeartbeats 4000000 in
set_option maxRecDepth 1000000 in
theorem pow_no (q b k : Int) (A : Option Addr) (c : Nat) (l : List Opn) (w : World) (HC : Kd.C k46 w A l.length l) (hc : l.length≤c) (hw : WfL l) (k1 : Nat) (e1 : invert_checked.f k1 q b l=some (0,0,[],80)) :
    Calls Try.prog 15 #[.agg #[.int .i64 q,.int .i64 b,.slice A l.length c],.int .i64 k] w (Out w (0,0,[],80)):=by
  have HR:=Aside0.mk HC
  have HS:=Aside0.mk hc
  have HWF:=Aside0.mk hw
  have E1:=Aside0.mk e1
  clear HC hc hw e1
  have hu24:=Try.underlying24
  go_enter Try.func15,Try.ntmps15
  go_upto_region 1 with fail
  have F:=Aside0.mk (Fr.start (q:=q) (b:=b) (c:=c) HR.out)
  clear HR
  obtain ⟨g2,hg2⟩ : ∃ g,g=w.heap.size + 1:=⟨_,rfl⟩
  rw [← hg2] at F ⊢
  clear hg2
  generalize ((w.alloc _).alloc _)=W at F ⊢
  obtain ⟨c0,c1,c2,d0,d1,d2,f0,f1,f2⟩:=F.out.cells
  go_upto_region 2 with (go_at_call 42;(with_reducible refine (invert_checked.calls k1 q b _ _ l _ _ _ _ _ F.out.hc HS.out E1.out).mono ?_);rintro e w3 ⟨v1,rfl,ho1,hb3⟩;obtain ⟨A3,n3,c3,rfl⟩ : ∃ A n c,v1=.slice A n c:=(Kd.S_slice ho1).elim fun A h => h.elim fun c e => ⟨A,_,c,e⟩)
  have bb:=below_alloc (Below.refl w3.heap.size w3) (.cells #[.int .i64 0,.int .i64 0,.slice A3 n3 c3] 24)
  have y4:=blk_new w3 (.cells #[.int .i64 0,.int .i64 0,.slice A3 n3 c3] 24)
  have HQ:=Aside0.mk (Kd.N_lower (Kd.N_mono (Kd.N_below (Kd.S_N (k46w_S (Kd.S_bound ho1))) bb) (fun k hk => F.out.fresh k hk.2.1)) F.out.hb.size)
  replace F:=Aside0.mk (F.out.below (below_step hb3 bb))
  clear c0 c1 c2 d0 d1 d2 f0 f1 f2
  obtain ⟨c0,c1,c2,d0,d1,d2,f0,f1,f2⟩:=F.out.cells
  clear hb3 ho1 bb
  generalize w3.heap.size=g4 at y4 ⊢
  generalize w3.alloc _=w4 at y4 HQ F c0 c1 c2 d0 d1 d2 f0 f1 f2 ⊢
  have q0 : w4.cell? ⟨g4,0,none⟩=some (.int .i64 0):=by rw [blk_cell y4];rfl
  have q1 : w4.cell? ⟨g4,1,none⟩=some (.int .i64 0):=by rw [blk_cell y4];rfl
  have q2 : w4.cell? ⟨g4,2,none⟩=some (.slice A3 n3 c3):=by rw [blk_cell y4];rfl
  clear y4
  go_wp2
  refine bodyPost_ret (results_ct rfl _ _ g2 24 _ (0,0) _ rfl (F.out.put 0 0 (.slice A3 n3 c3)) Try.underlying24 rfl (by kernel_rfl)) rfl ?_
  exact F.out.out HQ.out
set_option maxHeartbeats 4000000 in
set_option maxRecDepth 1000000 in
theorem pow_bad (q b : Int) (n : Nat) (A : Option Addr) (c : Nat) (l : List Opn) (w : World) (HC : Kd.C k46 w A l.length l) (hc : l.length≤c) (hw : WfL l) (k1 : Nat) (e1 : invert_checked.f k1 q b l=some (q,b,l,0)) (hR : invR q b l=(0,0,[],170)) (hn : 0 < n) :
    Calls Try.prog 15 #[.agg #[.int .i64 q,.int .i64 b,.slice A l.length c],.int .i64 (-(n : Int))] w (Out w (0,0,[],170)):=by
  have HRR:=Aside0.mk hR
  have hneg : decide (-(n : Int) < 0)=true:=decide_eq_true (by omega)
  obtain ⟨kk,hkk⟩ : ∃ kk : Int,kk=-(n : Int):=⟨_,rfl⟩
  rw [← hkk] at hneg ⊢
  clear hR hn hkk
  have HR:=Aside0.mk HC
  have HS:=Aside0.mk hc
  have HWF:=Aside0.mk hw
  have E1:=Aside0.mk e1
  clear HC hc hw e1
  have hu24:=Try.underlying24
  go_enter Try.func15,Try.ntmps15
  go_upto_region 1 with fail
  have F:=Aside0.mk (Fr.start (q:=q) (b:=b) (c:=c) HR.out)
  clear HR
  obtain ⟨g2,hg2⟩ : ∃ g,g=w.heap.size + 1:=⟨_,rfl⟩
  rw [← hg2] at F ⊢
  clear hg2
  generalize ((w.alloc _).alloc _)=W at F ⊢
  obtain ⟨c0,c1,c2,d0,d1,d2,f0,f1,f2⟩:=F.out.cells
  go_upto_region 4 with (go_at_call 42;(with_reducible refine (invert_checked.calls k1 q b _ _ l _ _ _ _ _ F.out.hc HS.out E1.out).mono ?_);rintro e w3 ⟨v1,rfl,ho1,hb3⟩;obtain ⟨A3,n3,c3,hv1,hn3⟩ : ∃ A n c,v1=.slice A n c∧n=l.length:=(Kd.S_slice ho1).elim fun A h => h.elim fun c e => ⟨A,_,c,e,rfl⟩;subst hv1;have HN3:=Aside0.mk hn3;clear hn3)
  have bb:=below_alloc (Below.refl w3.heap.size w3) (.cells #[.int .i64 q,.int .i64 b,.slice A3 n3 c3] 24)
  have y4:=blk_new w3 (.cells #[.int .i64 q,.int .i64 b,.slice A3 n3 c3] 24)
  have HG4:=Aside0.mk (show g2 < w3.heap.size from blk_lt (F.out.below hb3).b2)
  have HQ:=Aside0.mk (Kd.N_lower (Kd.N_mono (Kd.N_below (Kd.S_N (k46w_S (Kd.S_bound ho1))) bb) (fun k hk => show w.heap.size≤k∧k≠g2∧k < w3.heap.size from ⟨(F.out.fresh k hk.2.1).1,(F.out.fresh k hk.2.1).2,hk.2.2.1⟩)) F.out.hb.size)
  replace F:=Aside0.mk (F.out.below (below_step hb3 bb))
  clear c0 c1 c2 d0 d1 d2 f0 f1 f2
  obtain ⟨c0,c1,c2,d0,d1,d2,f0,f1,f2⟩:=F.out.cells
  clear hb3 ho1 bb
  generalize w3.heap.size=g4 at y4 HQ HG4 ⊢
  generalize w3.alloc _=w4 at y4 HQ F c0 c1 c2 d0 d1 d2 f0 f1 f2 ⊢
  have Y4:=Aside0.mk y4
  have q0 : w4.cell? ⟨g4,0,none⟩=some (.int .i64 q):=by rw [blk_cell y4];rfl
  have q1 : w4.cell? ⟨g4,1,none⟩=some (.int .i64 b):=by rw [blk_cell y4];rfl
  have q2 : w4.cell? ⟨g4,2,none⟩=some (.slice A3 n3 c3):=by rw [blk_cell y4];rfl
  go_upto_region 5 with fail
  have HI:=inverse_out (w:=w4) F.out.hc HS.out HWF.out (q:=q) (b:=b)
  rw [HRR.out] at HI
  have HI:=Aside0.mk HI
  go_upto_region 6 with (go_at_call 8;(with_reducible refine HI.out.mono ?_);rintro e w5 hO;obtain ⟨A5,n5,c5,rfl,hn5,hN5,hb5⟩:=out_val hO;have HN5:=Aside0.mk hn5;clear hn5;have y5:=blk_below Y4.out hb5;have r0 : w5.cell? ⟨g4,0,none⟩=some (.int .i64 q):=(by rw [blk_cell y5];rfl);have r1 : w5.cell? ⟨g4,1,none⟩=some (.int .i64 b):=(by rw [blk_cell y5];rfl);have r2 : w5.cell? ⟨g4,2,none⟩=some (.slice A3 n3 c3):=(by rw [blk_cell y5];rfl);have r0f:=blk_frozen y5 0;have r1f:=blk_frozen y5 1;have r2f:=blk_frozen y5 2)
  have y6:=blk_put (blk_put (blk_put y5 0 (.int .i64 0) rfl) 1 (.int .i64 0) rfl) 2 (.slice A5 n5 c5) rfl
  have hN6:=Kd.N_mono hN5 (fun k hk => show w.heap.size≤k∧k≠g2∧k≠g4 from ⟨(F.out.fresh k hk).1,(F.out.fresh k hk).2,by have:=blk_lt Y4.out;omega⟩)
  have hN7:=Kd.N_far (p:=⟨g4,2,none⟩) (Kd.N_far (p:=⟨g4,1,none⟩) (Kd.N_far (p:=⟨g4,0,none⟩) hN6 (fun _ hk => hk.2.2) (.int .i64 0)) (fun _ hk => hk.2.2) (.int .i64 0)) (fun _ hk => hk.2.2) (.slice A5 n5 c5)
  have HV:=Aside0.mk (Kd.N_lower hN7 F.out.hb.size)
  have hF6:=((F.out.setOld hb5 (x:=⟨g4,0,none⟩) (.int .i64 0) HG4.out).setOld (Below.refl _ _) (x:=⟨g4,1,none⟩) (.int .i64 0) HG4.out).setOld (Below.refl _ _) (x:=⟨g4,2,none⟩) (.slice A5 n5 c5) HG4.out
  replace F:=Aside0.mk hF6
  clear HI hO hN5 hb5 y5 r0 r1 r2 r0f r1f r2f hN6 hN7 hF6 q0 q1 q2 y4 Y4 HQ c0 c1 c2 d0 d1 d2 f0 f1 f2
  generalize ((w5.setCell _ _).setCell _ _).setCell _ _=w6 at y6 HV F ⊢
  obtain ⟨c0,c1,c2,d0,d1,d2,f0,f1,f2⟩:=F.out.cells
  have q0 : w6.cell? ⟨g4,0,none⟩=some (.int .i64 0):=by rw [blk_cell y6];rfl
  have q1 : w6.cell? ⟨g4,1,none⟩=some (.int .i64 0):=by rw [blk_cell y6];rfl
  have q2 : w6.cell? ⟨g4,2,none⟩=some (.slice A5 n5 c5):=by rw [blk_cell y6];rfl
  clear y6
  go_wp2
  refine bodyPost_ret (results_ct rfl _ _ g2 24 _ (0,0) _ rfl (F.out.put 0 0 (.slice A5 n5 c5)) Try.underlying24 rfl (by kernel_rfl)) rfl ?_
  exact F.out.out (Kd.N_mono HV.out (fun _ hk => ⟨hk.1,hk.2.1⟩))
set_option maxHeartbeats 4000000 in
set_option maxRecDepth 1000000 in
theorem pow_out_neg (q b : Int) (n : Nat) (A : Option Addr) (c : Nat) (l R : List Opn) (w : World) (HC : Kd.C k46 w A l.length l) (hc : l.length≤c) (hw : WfL l) (k1 : Nat) (e1 : invert_checked.f k1 q b l=some (q,b,l,0)) (hR : invR q b l=(q,b,R,0)) (hlr : R.length=l.length) (hbig : 4096 < n) :
    Calls Try.prog 15 #[.agg #[.int .i64 q,.int .i64 b,.slice A l.length c],.int .i64 (-(n : Int))] w (Out w (0,0,[],170)):=by
  have HRR:=Aside0.mk hR
  have HLR:=Aside0.mk hlr
  have hneg : decide (-(n : Int) < 0)=true:=decide_eq_true (by omega)
  have hlo : decide ((-(n : Int)) < -4096)=true:=decide_eq_true (by omega)
  obtain ⟨kk,hkk⟩ : ∃ kk : Int,kk=(-(n : Int)):=⟨_,rfl⟩
  rw [← hkk] at hneg hlo ⊢
  clear hR hlr hkk hbig
  have HR:=Aside0.mk HC
  have HS:=Aside0.mk hc
  have HWF:=Aside0.mk hw
  have E1:=Aside0.mk e1
  clear HC hc hw e1
  have hu24:=Try.underlying24
  go_enter Try.func15,Try.ntmps15
  go_upto_region 1 with fail
  have F:=Aside0.mk (Fr.start (q:=q) (b:=b) (c:=c) HR.out)
  clear HR
  obtain ⟨g2,hg2⟩ : ∃ g,g=w.heap.size + 1:=⟨_,rfl⟩
  rw [← hg2] at F ⊢
  clear hg2
  generalize ((w.alloc _).alloc _)=W at F ⊢
  obtain ⟨c0,c1,c2,d0,d1,d2,f0,f1,f2⟩:=F.out.cells
  go_upto_region 4 with (go_at_call 42;(with_reducible refine (invert_checked.calls k1 q b _ _ l _ _ _ _ _ F.out.hc HS.out E1.out).mono ?_);rintro e w3 ⟨v1,rfl,ho1,hb3⟩;obtain ⟨A3,n3,c3,hv1,hn3⟩ : ∃ A n c,v1=.slice A n c∧n=l.length:=(Kd.S_slice ho1).elim fun A h => h.elim fun c e => ⟨A,_,c,e,rfl⟩;subst hv1;have HN3:=Aside0.mk hn3;clear hn3)
  have bb:=below_alloc (Below.refl w3.heap.size w3) (.cells #[.int .i64 q,.int .i64 b,.slice A3 n3 c3] 24)
  have y4:=blk_new w3 (.cells #[.int .i64 q,.int .i64 b,.slice A3 n3 c3] 24)
  have HG4:=Aside0.mk (show g2 < w3.heap.size from blk_lt (F.out.below hb3).b2)
  have HQ:=Aside0.mk (Kd.N_lower (Kd.N_mono (Kd.N_below (Kd.S_N (k46w_S (Kd.S_bound ho1))) bb) (fun k hk => show w.heap.size≤k∧k≠g2∧k < w3.heap.size from ⟨(F.out.fresh k hk.2.1).1,(F.out.fresh k hk.2.1).2,hk.2.2.1⟩)) F.out.hb.size)
  replace F:=Aside0.mk (F.out.below (below_step hb3 bb))
  clear c0 c1 c2 d0 d1 d2 f0 f1 f2
  obtain ⟨c0,c1,c2,d0,d1,d2,f0,f1,f2⟩:=F.out.cells
  clear hb3 ho1 bb
  generalize w3.heap.size=g4 at y4 HQ HG4 ⊢
  generalize w3.alloc _=w4 at y4 HQ F c0 c1 c2 d0 d1 d2 f0 f1 f2 ⊢
  have Y4:=Aside0.mk y4
  have q0 : w4.cell? ⟨g4,0,none⟩=some (.int .i64 q):=by rw [blk_cell y4];rfl
  have q1 : w4.cell? ⟨g4,1,none⟩=some (.int .i64 b):=by rw [blk_cell y4];rfl
  have q2 : w4.cell? ⟨g4,2,none⟩=some (.slice A3 n3 c3):=by rw [blk_cell y4];rfl
  go_upto_region 5 with fail
  have HI:=inverse_out (w:=w4) F.out.hc HS.out HWF.out (q:=q) (b:=b)
  rw [HRR.out] at HI
  have HI:=Aside0.mk HI
  go_upto_region 8 with (go_at_call 8;(with_reducible refine HI.out.mono ?_);rintro e w5 hO;obtain ⟨A5,n5,c5,rfl,hn5,hN5,hb5⟩:=out_val hO;have HN5:=Aside0.mk hn5;clear hn5;have y5:=blk_below Y4.out hb5;have r0 : w5.cell? ⟨g4,0,none⟩=some (.int .i64 q):=(by rw [blk_cell y5];rfl);have r1 : w5.cell? ⟨g4,1,none⟩=some (.int .i64 b):=(by rw [blk_cell y5];rfl);have r2 : w5.cell? ⟨g4,2,none⟩=some (.slice A3 n3 c3):=(by rw [blk_cell y5];rfl);have r0f:=blk_frozen y5 0;have r1f:=blk_frozen y5 1;have r2f:=blk_frozen y5 2)
  have y6:=blk_put (blk_put (blk_put y5 0 (.int .i64 q) rfl) 1 (.int .i64 b) rfl) 2 (.slice A5 n5 c5) rfl
  have hN6:=Kd.N_mono hN5 (fun k hk => show w.heap.size≤k∧k≠g2∧k≠g4 from ⟨(F.out.fresh k hk).1,(F.out.fresh k hk).2,by have:=blk_lt Y4.out;omega⟩)
  have hN7:=Kd.N_far (p:=⟨g4,2,none⟩) (Kd.N_far (p:=⟨g4,1,none⟩) (Kd.N_far (p:=⟨g4,0,none⟩) hN6 (fun _ hk => hk.2.2) (.int .i64 q)) (fun _ hk => hk.2.2) (.int .i64 b)) (fun _ hk => hk.2.2) (.slice A5 n5 c5)
  have HV:=Aside0.mk (Kd.N_lower hN7 F.out.hb.size)
  have hF6:=((F.out.setOld hb5 (x:=⟨g4,0,none⟩) (.int .i64 q) HG4.out).setOld (Below.refl _ _) (x:=⟨g4,1,none⟩) (.int .i64 b) HG4.out).setOld (Below.refl _ _) (x:=⟨g4,2,none⟩) (.slice A5 n5 c5) HG4.out
  replace F:=Aside0.mk hF6
  clear HI hO hN5 hb5 y5 r0 r1 r2 r0f r1f r2f hN6 hN7 hF6 q0 q1 q2 y4 Y4 HQ c0 c1 c2 d0 d1 d2 f0 f1 f2
  generalize ((w5.setCell _ _).setCell _ _).setCell _ _=w6 at y6 HV F ⊢
  obtain ⟨c0,c1,c2,d0,d1,d2,f0,f1,f2⟩:=F.out.cells
  have q0 : w6.cell? ⟨g4,0,none⟩=some (.int .i64 q):=by rw [blk_cell y6];rfl
  have q1 : w6.cell? ⟨g4,1,none⟩=some (.int .i64 b):=by rw [blk_cell y6];rfl
  have q2 : w6.cell? ⟨g4,2,none⟩=some (.slice A5 n5 c5):=by rw [blk_cell y6];rfl
  clear y6
  go_wp2
  refine bodyPost_ret (results_ct rfl _ _ g2 24 _ (0,0) _ rfl (F.out.put 0 0 (.slice none 0 0)) Try.underlying24 rfl (by kernel_rfl)) rfl ?_
  exact F.out.out Fr.nil
set_option maxHeartbeats 4000000 in
set_option maxRecDepth 1000000 in
theorem pow_long_neg (q b : Int) (n : Nat) (A : Option Addr) (c : Nat) (l R : List Opn) (w : World) (HC : Kd.C k46 w A l.length l) (hc : l.length≤c) (hw : WfL l) (k1 : Nat) (e1 : invert_checked.f k1 q b l=some (q,b,l,0)) (hR : invR q b l=(q,b,R,0)) (hlr : R.length=l.length) (hn : 0 < n) (hle : n≤4096) (hll : l.length≤4096) (hlong : 4096 < n * l.length) :
    Calls Try.prog 15 #[.agg #[.int .i64 q,.int .i64 b,.slice A l.length c],.int .i64 (-(n : Int))] w (Out w (0,0,[],170)):=by
  have HRR:=Aside0.mk hR
  have HLR:=Aside0.mk hlr
  have hneg : decide (-(n : Int) < 0)=true:=decide_eq_true (by omega)
  have hlo : decide ((-(n : Int)) < -4096)=false:=decide_eq_false (by omega)
  have hhi : decide ((4096 : Int) < (-(n : Int)))=false:=decide_eq_false (by omega)
  have hmax : max ((-(n : Int))) (wrap64 (-(-(n : Int))))=(n : Int):=by rw [w64 (by omega) (by omega)];omega
  obtain ⟨kk,hkk⟩ : ∃ kk : Int,kk=(-(n : Int)):=⟨_,rfl⟩
  have HLL:=Aside0.mk hll
  have HLE:=Aside0.mk hle
  have HKK:=Aside0.mk hkk
  have HLONG:=Aside0.mk hlong
  rw [← hkk] at hneg hlo hhi hmax ⊢
  clear hR hlr hn hkk hle hll hlong
  have HR:=Aside0.mk HC
  have HS:=Aside0.mk hc
  have HWF:=Aside0.mk hw
  have E1:=Aside0.mk e1
  clear HC hc hw e1
  have hu24:=Try.underlying24
  go_enter Try.func15,Try.ntmps15
  go_upto_region 1 with fail
  have F:=Aside0.mk (Fr.start (q:=q) (b:=b) (c:=c) HR.out)
  clear HR
  obtain ⟨g2,hg2⟩ : ∃ g,g=w.heap.size + 1:=⟨_,rfl⟩
  rw [← hg2] at F ⊢
  clear hg2
  generalize ((w.alloc _).alloc _)=W at F ⊢
  obtain ⟨c0,c1,c2,d0,d1,d2,f0,f1,f2⟩:=F.out.cells
  go_upto_region 4 with (go_at_call 42;(with_reducible refine (invert_checked.calls k1 q b _ _ l _ _ _ _ _ F.out.hc HS.out E1.out).mono ?_);rintro e w3 ⟨v1,rfl,ho1,hb3⟩;obtain ⟨A3,n3,c3,hv1,hn3⟩ : ∃ A n c,v1=.slice A n c∧n=l.length:=(Kd.S_slice ho1).elim fun A h => h.elim fun c e => ⟨A,_,c,e,rfl⟩;subst hv1;have HN3:=Aside0.mk hn3;clear hn3)
  have bb:=below_alloc (Below.refl w3.heap.size w3) (.cells #[.int .i64 q,.int .i64 b,.slice A3 n3 c3] 24)
  have y4:=blk_new w3 (.cells #[.int .i64 q,.int .i64 b,.slice A3 n3 c3] 24)
  have HG4:=Aside0.mk (show g2 < w3.heap.size from blk_lt (F.out.below hb3).b2)
  have HQ:=Aside0.mk (Kd.N_lower (Kd.N_mono (Kd.N_below (Kd.S_N (k46w_S (Kd.S_bound ho1))) bb) (fun k hk => show w.heap.size≤k∧k≠g2∧k < w3.heap.size from ⟨(F.out.fresh k hk.2.1).1,(F.out.fresh k hk.2.1).2,hk.2.2.1⟩)) F.out.hb.size)
  replace F:=Aside0.mk (F.out.below (below_step hb3 bb))
  clear c0 c1 c2 d0 d1 d2 f0 f1 f2
  obtain ⟨c0,c1,c2,d0,d1,d2,f0,f1,f2⟩:=F.out.cells
  clear hb3 ho1 bb
  generalize w3.heap.size=g4 at y4 HQ HG4 ⊢
  generalize w3.alloc _=w4 at y4 HQ F c0 c1 c2 d0 d1 d2 f0 f1 f2 ⊢
  have Y4:=Aside0.mk y4
  have q0 : w4.cell? ⟨g4,0,none⟩=some (.int .i64 q):=by rw [blk_cell y4];rfl
  have q1 : w4.cell? ⟨g4,1,none⟩=some (.int .i64 b):=by rw [blk_cell y4];rfl
  have q2 : w4.cell? ⟨g4,2,none⟩=some (.slice A3 n3 c3):=by rw [blk_cell y4];rfl
  go_upto_region 5 with fail
  have HI:=inverse_out (w:=w4) F.out.hc HS.out HWF.out (q:=q) (b:=b)
  rw [HRR.out] at HI
  have HI:=Aside0.mk HI
  go_upto_region 8 with (go_at_call 8;(with_reducible refine HI.out.mono ?_);rintro e w5 hO;obtain ⟨A5,n5,c5,rfl,hn5,hN5,hb5⟩:=out_val hO;have HN5:=Aside0.mk hn5;clear hn5;have y5:=blk_below Y4.out hb5;have r0 : w5.cell? ⟨g4,0,none⟩=some (.int .i64 q):=(by rw [blk_cell y5];rfl);have r1 : w5.cell? ⟨g4,1,none⟩=some (.int .i64 b):=(by rw [blk_cell y5];rfl);have r2 : w5.cell? ⟨g4,2,none⟩=some (.slice A3 n3 c3):=(by rw [blk_cell y5];rfl);have r0f:=blk_frozen y5 0;have r1f:=blk_frozen y5 1;have r2f:=blk_frozen y5 2)
  have y6:=blk_put (blk_put (blk_put y5 0 (.int .i64 q) rfl) 1 (.int .i64 b) rfl) 2 (.slice A5 n5 c5) rfl
  have hN6:=Kd.N_mono hN5 (fun k hk => show w.heap.size≤k∧k≠g2∧k≠g4 from ⟨(F.out.fresh k hk).1,(F.out.fresh k hk).2,by have:=blk_lt Y4.out;omega⟩)
  have hN7:=Kd.N_far (p:=⟨g4,2,none⟩) (Kd.N_far (p:=⟨g4,1,none⟩) (Kd.N_far (p:=⟨g4,0,none⟩) hN6 (fun _ hk => hk.2.2) (.int .i64 q)) (fun _ hk => hk.2.2) (.int .i64 b)) (fun _ hk => hk.2.2) (.slice A5 n5 c5)
  have HV:=Aside0.mk (Kd.N_lower hN7 F.out.hb.size)
  have hF6:=((F.out.setOld hb5 (x:=⟨g4,0,none⟩) (.int .i64 q) HG4.out).setOld (Below.refl _ _) (x:=⟨g4,1,none⟩) (.int .i64 b) HG4.out).setOld (Below.refl _ _) (x:=⟨g4,2,none⟩) (.slice A5 n5 c5) HG4.out
  replace F:=Aside0.mk hF6
  clear HI hO hN5 hb5 y5 r0 r1 r2 r0f r1f r2f hN6 hN7 hF6 q0 q1 q2 y4 Y4 HQ c0 c1 c2 d0 d1 d2 f0 f1 f2
  generalize ((w5.setCell _ _).setCell _ _).setCell _ _=w6 at y6 HV F ⊢
  obtain ⟨c0,c1,c2,d0,d1,d2,f0,f1,f2⟩:=F.out.cells
  have q0 : w6.cell? ⟨g4,0,none⟩=some (.int .i64 q):=by rw [blk_cell y6];rfl
  have q1 : w6.cell? ⟨g4,1,none⟩=some (.int .i64 b):=by rw [blk_cell y6];rfl
  have q2 : w6.cell? ⟨g4,2,none⟩=some (.slice A5 n5 c5):=by rw [blk_cell y6];rfl
  have hmul : decide ((4096 : Int) < wrap64 ((n : Int) * (n5 : Int)))=true:=by
    have h1 : n5=l.length:=HN5.out.trans HLR.out
    have h2:=HLE.out
    have h3:=HLL.out
    have h4:=HLONG.out
    have h5 : n * l.length≤4096 * 4096:=Nat.mul_le_mul h2 h3
    have h6 : (n : Int) * (n5 : Int)=((n * l.length : Nat) : Int):=by rw [h1];push_cast;rfl
    rw [h6,w64 (by omega) (by omega)]
    exact decide_eq_true (by omega)
  clear y6
  go_wp2
  refine bodyPost_ret (results_ct rfl _ _ g2 24 _ (0,0) _ rfl (F.out.put 0 0 (.slice none 0 0)) Try.underlying24 rfl (by kernel_rfl)) rfl ?_
  exact F.out.out Fr.nil
set_option maxHeartbeats 4000000 in
set_option maxRecDepth 1000000 in
theorem pow_out_pos (q b : Int) (n : Nat) (A : Option Addr) (c : Nat) (l : List Opn) (w : World) (HC : Kd.C k46 w A l.length l) (hc : l.length≤c) (hw : WfL l) (k1 : Nat) (e1 : invert_checked.f k1 q b l=some (q,b,l,0)) (hbig : 4096 < n) :
    Calls Try.prog 15 #[.agg #[.int .i64 q,.int .i64 b,.slice A l.length c],.int .i64 (n : Int)] w (Out w (0,0,[],170)):=by
  have hneg : decide ((n : Int) < 0)=false:=decide_eq_false (by omega)
  have hlo : decide ((n : Int) < -4096)=false:=decide_eq_false (by omega)
  have hhi : decide ((4096 : Int) < (n : Int))=true:=decide_eq_true (by omega)
  obtain ⟨kk,hkk⟩ : ∃ kk : Int,kk=(n : Int):=⟨_,rfl⟩
  rw [← hkk] at hneg hlo hhi ⊢
  clear hkk hbig
  have HR:=Aside0.mk HC
  have HS:=Aside0.mk hc
  have HWF:=Aside0.mk hw
  have E1:=Aside0.mk e1
  clear HC hc hw e1
  have hu24:=Try.underlying24
  go_enter Try.func15,Try.ntmps15
  go_upto_region 1 with fail
  have F:=Aside0.mk (Fr.start (q:=q) (b:=b) (c:=c) HR.out)
  clear HR
  obtain ⟨g2,hg2⟩ : ∃ g,g=w.heap.size + 1:=⟨_,rfl⟩
  rw [← hg2] at F ⊢
  clear hg2
  generalize ((w.alloc _).alloc _)=W at F ⊢
  obtain ⟨c0,c1,c2,d0,d1,d2,f0,f1,f2⟩:=F.out.cells
  go_upto_region 8 with (go_at_call 42;(with_reducible refine (invert_checked.calls k1 q b _ _ l _ _ _ _ _ F.out.hc HS.out E1.out).mono ?_);rintro e w3 ⟨v1,rfl,ho1,hb3⟩;obtain ⟨A5,n5,c5,hv1,hn5⟩ : ∃ A n c,v1=.slice A n c∧n=l.length:=(Kd.S_slice ho1).elim fun A h => h.elim fun c e => ⟨A,_,c,e,rfl⟩;subst hv1;have HN5:=Aside0.mk hn5;clear hn5)
  have bb:=below_alloc (Below.refl w3.heap.size w3) (.cells #[.int .i64 q,.int .i64 b,.slice A5 n5 c5] 24)
  have y4:=blk_new w3 (.cells #[.int .i64 q,.int .i64 b,.slice A5 n5 c5] 24)
  have HG4:=Aside0.mk (show g2 < w3.heap.size from blk_lt (F.out.below hb3).b2)
  have HQ:=Aside0.mk (Kd.N_lower (Kd.N_mono (Kd.N_below (Kd.S_N (k46w_S (Kd.S_bound ho1))) bb) (fun k hk => show w.heap.size≤k∧k≠g2∧k < w3.heap.size from ⟨(F.out.fresh k hk.2.1).1,(F.out.fresh k hk.2.1).2,hk.2.2.1⟩)) F.out.hb.size)
  replace F:=Aside0.mk (F.out.below (below_step hb3 bb))
  clear c0 c1 c2 d0 d1 d2 f0 f1 f2
  obtain ⟨c0,c1,c2,d0,d1,d2,f0,f1,f2⟩:=F.out.cells
  clear hb3 ho1 bb
  generalize w3.heap.size=g4 at y4 HQ HG4 ⊢
  generalize w3.alloc _=w6 at y4 HQ F c0 c1 c2 d0 d1 d2 f0 f1 f2 ⊢
  have y6:=y4
  have HV:=Aside0.mk (Kd.N_mono HQ.out (fun k hk => show w.heap.size≤k∧k≠g2∧k≠g4 from ⟨hk.1,hk.2.1,Nat.ne_of_lt hk.2.2⟩))
  clear y4 HQ
  have q0 : w6.cell? ⟨g4,0,none⟩=some (.int .i64 q):=by rw [blk_cell y6];rfl
  have q1 : w6.cell? ⟨g4,1,none⟩=some (.int .i64 b):=by rw [blk_cell y6];rfl
  have q2 : w6.cell? ⟨g4,2,none⟩=some (.slice A5 n5 c5):=by rw [blk_cell y6];rfl
  clear y6
  go_wp2
  refine bodyPost_ret (results_ct rfl _ _ g2 24 _ (0,0) _ rfl (F.out.put 0 0 (.slice none 0 0)) Try.underlying24 rfl (by kernel_rfl)) rfl ?_
  exact F.out.out Fr.nil
set_option maxHeartbeats 4000000 in
set_option maxRecDepth 1000000 in
theorem pow_long_pos (q b : Int) (n : Nat) (A : Option Addr) (c : Nat) (l : List Opn) (w : World) (HC : Kd.C k46 w A l.length l) (hc : l.length≤c) (hw : WfL l) (k1 : Nat) (e1 : invert_checked.f k1 q b l=some (q,b,l,0)) (hle : n≤4096) (hll : l.length≤4096) (hlong : 4096 < n * l.length) :
    Calls Try.prog 15 #[.agg #[.int .i64 q,.int .i64 b,.slice A l.length c],.int .i64 (n : Int)] w (Out w (0,0,[],170)):=by
  have hneg : decide ((n : Int) < 0)=false:=decide_eq_false (by omega)
  have hlo : decide ((n : Int) < -4096)=false:=decide_eq_false (by omega)
  have hhi : decide ((4096 : Int) < (n : Int))=false:=decide_eq_false (by omega)
  have hmax : max ((n : Int)) (wrap64 (-(n : Int)))=(n : Int):=by rw [w64 (by omega) (by omega)];omega
  obtain ⟨kk,hkk⟩ : ∃ kk : Int,kk=(n : Int):=⟨_,rfl⟩
  have HLL:=Aside0.mk hll
  have HLE:=Aside0.mk hle
  have HKK:=Aside0.mk hkk
  have HLONG:=Aside0.mk hlong
  rw [← hkk] at hneg hlo hhi hmax ⊢
  clear hkk hle hll hlong
  have HR:=Aside0.mk HC
  have HS:=Aside0.mk hc
  have HWF:=Aside0.mk hw
  have E1:=Aside0.mk e1
  clear HC hc hw e1
  have hu24:=Try.underlying24
  go_enter Try.func15,Try.ntmps15
  go_upto_region 1 with fail
  have F:=Aside0.mk (Fr.start (q:=q) (b:=b) (c:=c) HR.out)
  clear HR
  obtain ⟨g2,hg2⟩ : ∃ g,g=w.heap.size + 1:=⟨_,rfl⟩
  rw [← hg2] at F ⊢
  clear hg2
  generalize ((w.alloc _).alloc _)=W at F ⊢
  obtain ⟨c0,c1,c2,d0,d1,d2,f0,f1,f2⟩:=F.out.cells
  go_upto_region 8 with (go_at_call 42;(with_reducible refine (invert_checked.calls k1 q b _ _ l _ _ _ _ _ F.out.hc HS.out E1.out).mono ?_);rintro e w3 ⟨v1,rfl,ho1,hb3⟩;obtain ⟨A5,n5,c5,hv1,hn5⟩ : ∃ A n c,v1=.slice A n c∧n=l.length:=(Kd.S_slice ho1).elim fun A h => h.elim fun c e => ⟨A,_,c,e,rfl⟩;subst hv1;have HN5:=Aside0.mk hn5;clear hn5)
  have bb:=below_alloc (Below.refl w3.heap.size w3) (.cells #[.int .i64 q,.int .i64 b,.slice A5 n5 c5] 24)
  have y4:=blk_new w3 (.cells #[.int .i64 q,.int .i64 b,.slice A5 n5 c5] 24)
  have HG4:=Aside0.mk (show g2 < w3.heap.size from blk_lt (F.out.below hb3).b2)
  have HQ:=Aside0.mk (Kd.N_lower (Kd.N_mono (Kd.N_below (Kd.S_N (k46w_S (Kd.S_bound ho1))) bb) (fun k hk => show w.heap.size≤k∧k≠g2∧k < w3.heap.size from ⟨(F.out.fresh k hk.2.1).1,(F.out.fresh k hk.2.1).2,hk.2.2.1⟩)) F.out.hb.size)
  replace F:=Aside0.mk (F.out.below (below_step hb3 bb))
  clear c0 c1 c2 d0 d1 d2 f0 f1 f2
  obtain ⟨c0,c1,c2,d0,d1,d2,f0,f1,f2⟩:=F.out.cells
  clear hb3 ho1 bb
  generalize w3.heap.size=g4 at y4 HQ HG4 ⊢
  generalize w3.alloc _=w6 at y4 HQ F c0 c1 c2 d0 d1 d2 f0 f1 f2 ⊢
  have y6:=y4
  have HV:=Aside0.mk (Kd.N_mono HQ.out (fun k hk => show w.heap.size≤k∧k≠g2∧k≠g4 from ⟨hk.1,hk.2.1,Nat.ne_of_lt hk.2.2⟩))
  clear y4 HQ
  have q0 : w6.cell? ⟨g4,0,none⟩=some (.int .i64 q):=by rw [blk_cell y6];rfl
  have q1 : w6.cell? ⟨g4,1,none⟩=some (.int .i64 b):=by rw [blk_cell y6];rfl
  have q2 : w6.cell? ⟨g4,2,none⟩=some (.slice A5 n5 c5):=by rw [blk_cell y6];rfl
  have hmul : decide ((4096 : Int) < wrap64 (kk * (n5 : Int)))=true:=by
    have h1 : n5=l.length:=HN5.out
    have h2:=HLE.out
    have h3:=HLL.out
    have h4:=HLONG.out
    have h5 : n * l.length≤4096 * 4096:=Nat.mul_le_mul h2 h3
    have h6 : kk * (n5 : Int)=((n * l.length : Nat) : Int):=by rw [h1,HKK.out];push_cast;rfl
    rw [h6,w64 (by omega) (by omega)]
    exact decide_eq_true (by omega)
  clear y6
  go_wp2
  refine bodyPost_ret (results_ct rfl _ _ g2 24 _ (0,0) _ rfl (F.out.put 0 0 (.slice none 0 0)) Try.underlying24 rfl (by kernel_rfl)) rfl ?_
  exact F.out.out Fr.nil
end Go.Proofs.Ytbelnopbggkdfaa.Q
end

section
namespace Go.Proofs.Ytbelnopbggkdfaa.Q
open Go.RowKit Go.Proofs.YtbelnopbggkdfaaW.PrintWords Go.Proofs.YtbelnopbggkdfaaW.PrintLast Go.Proofs.YtbelnopbggkdfaaW.PrintMore
set_option maxHeartbeats 4000000 in
set_option maxRecDepth 1000000 in
theorem pow_good_neg (q b : Int) (n : Nat) (A : Option Addr) (c : Nat) (l R : List Opn) (w : World) (HC : Kd.C k46 w A l.length l) (hc : l.length≤c) (hw : WfL l) (k1 : Nat) (e1 : invert_checked.f k1 q b l=some (q,b,l,0)) (hR : invR q b l=(q,b,R,0)) (hlr : R.length=l.length) (hn : 0 < n) (hle : n≤4096) (hll : l.length≤4096) (hshort : ¬ 4096 < n * l.length) (k2 : Nat) (e2 : circuit_Copy.f k2 q b R=some (q,b,R)) :
    Calls Try.prog 15 #[.agg #[.int .i64 q,.int .i64 b,.slice A l.length c],.int .i64 (-(n : Int))] w (Out w (q,b,(List.replicate n R).flatten,0)):=by
  have HRR:=Aside0.mk hR
  have hneg : decide (-(n : Int) < 0)=true:=decide_eq_true (by omega)
  have hlo : decide ((-(n : Int)) < -4096)=false:=decide_eq_false (by omega)
  have hhi : decide ((4096 : Int) < (-(n : Int)))=false:=decide_eq_false (by omega)
  have hmax : max ((-(n : Int))) (wrap64 (-(-(n : Int))))=(n : Int):=by rw [w64 (by omega) (by omega)];omega
  have hSl : R.length=l.length:=hlr
  have HSL:=Aside0.mk (show R.length≤4096 by rw [hSl];exact hll)
  have HMUL:=Aside0.mk (show n * R.length≤4096 by rw [hSl];omega)
  have HSM:=Aside0.mk hSl
  have E2:=Aside0.mk e2
  have HLE:=Aside0.mk hle
  have hmul : decide ((4096 : Int) < wrap64 ((n : Int) * (R.length : Int)))=false:=by
    have h6 : (n : Int) * (R.length : Int)=((n * R.length : Nat) : Int):=by push_cast;rfl
    have h7:=HMUL.out
    rw [h6,w64 (by omega) (by omega)]
    exact decide_eq_false (by omega)
  obtain ⟨kk,hkk⟩ : ∃ kk : Int,kk=-(n : Int):=⟨_,rfl⟩
  rw [← hkk] at hneg hlo hhi hmax ⊢
  clear hR hlr hn hkk hle hll hshort e2 hSl
  have HR:=Aside0.mk HC
  have HS:=Aside0.mk hc
  have HWF:=Aside0.mk hw
  have E1:=Aside0.mk e1
  clear HC hc hw e1
  have hu24:=Try.underlying24
  go_enter Try.func15,Try.ntmps15
  go_upto_region 1 with fail
  have F:=Aside0.mk (Fr.start (q:=q) (b:=b) (c:=c) HR.out)
  clear HR
  obtain ⟨g2,hg2⟩ : ∃ g,g=w.heap.size + 1:=⟨_,rfl⟩
  rw [← hg2] at F ⊢
  clear hg2
  generalize ((w.alloc _).alloc _)=W at F ⊢
  obtain ⟨c0,c1,c2,d0,d1,d2,f0,f1,f2⟩:=F.out.cells
  go_upto_region 4 with (go_at_call 42;(with_reducible refine (invert_checked.calls k1 q b _ _ l _ _ _ _ _ F.out.hc HS.out E1.out).mono ?_);rintro e w3 ⟨v1,rfl,ho1,hb3⟩;obtain ⟨A3,n3,c3,hv1,hn3⟩ : ∃ A n c,v1=.slice A n c∧n=l.length:=(Kd.S_slice ho1).elim fun A h => h.elim fun c e => ⟨A,_,c,e,rfl⟩;subst hv1;have HN3:=Aside0.mk hn3;clear hn3)
  have bb:=below_alloc (Below.refl w3.heap.size w3) (.cells #[.int .i64 q,.int .i64 b,.slice A3 n3 c3] 24)
  have y4:=blk_new w3 (.cells #[.int .i64 q,.int .i64 b,.slice A3 n3 c3] 24)
  have HG4:=Aside0.mk (show g2 < w3.heap.size from blk_lt (F.out.below hb3).b2)
  have HQ:=Aside0.mk (Kd.N_lower (Kd.N_mono (Kd.N_below (Kd.S_N (k46w_S (Kd.S_bound ho1))) bb) (fun k hk => show w.heap.size≤k∧k≠g2∧k < w3.heap.size from ⟨(F.out.fresh k hk.2.1).1,(F.out.fresh k hk.2.1).2,hk.2.2.1⟩)) F.out.hb.size)
  replace F:=Aside0.mk (F.out.below (below_step hb3 bb))
  clear c0 c1 c2 d0 d1 d2 f0 f1 f2
  obtain ⟨c0,c1,c2,d0,d1,d2,f0,f1,f2⟩:=F.out.cells
  clear hb3 ho1 bb
  generalize w3.heap.size=g4 at y4 HQ HG4 ⊢
  generalize w3.alloc _=w4 at y4 HQ F c0 c1 c2 d0 d1 d2 f0 f1 f2 ⊢
  have Y4:=Aside0.mk y4
  have q0 : w4.cell? ⟨g4,0,none⟩=some (.int .i64 q):=by rw [blk_cell y4];rfl
  have q1 : w4.cell? ⟨g4,1,none⟩=some (.int .i64 b):=by rw [blk_cell y4];rfl
  have q2 : w4.cell? ⟨g4,2,none⟩=some (.slice A3 n3 c3):=by rw [blk_cell y4];rfl
  go_upto_region 5 with fail
  have HI:=inverse_out (w:=w4) F.out.hc HS.out HWF.out (q:=q) (b:=b)
  rw [HRR.out] at HI
  have HI:=Aside0.mk HI
  go_upto_region 8 with (go_at_call 8;(with_reducible refine HI.out.mono ?_);rintro e w5 hO;obtain ⟨A5,n5,c5,rfl,hn5,hN5,hb5⟩:=out_val hO;have HN5:=Aside0.mk hn5;clear hn5;have y5:=blk_below Y4.out hb5;have r0 : w5.cell? ⟨g4,0,none⟩=some (.int .i64 q):=(by rw [blk_cell y5];rfl);have r1 : w5.cell? ⟨g4,1,none⟩=some (.int .i64 b):=(by rw [blk_cell y5];rfl);have r2 : w5.cell? ⟨g4,2,none⟩=some (.slice A3 n3 c3):=(by rw [blk_cell y5];rfl);have r0f:=blk_frozen y5 0;have r1f:=blk_frozen y5 1;have r2f:=blk_frozen y5 2)
  have y6:=blk_put (blk_put (blk_put y5 0 (.int .i64 q) rfl) 1 (.int .i64 b) rfl) 2 (.slice A5 n5 c5) rfl
  have hN6:=Kd.N_mono hN5 (fun k hk => show w.heap.size≤k∧k≠g2∧k≠g4 from ⟨(F.out.fresh k hk).1,(F.out.fresh k hk).2,by have:=blk_lt Y4.out;omega⟩)
  have hN7:=Kd.N_far (p:=⟨g4,2,none⟩) (Kd.N_far (p:=⟨g4,1,none⟩) (Kd.N_far (p:=⟨g4,0,none⟩) hN6 (fun _ hk => hk.2.2) (.int .i64 q)) (fun _ hk => hk.2.2) (.int .i64 b)) (fun _ hk => hk.2.2) (.slice A5 n5 c5)
  have HV:=Aside0.mk (Kd.N_lower hN7 F.out.hb.size)
  have hF6:=((F.out.setOld hb5 (x:=⟨g4,0,none⟩) (.int .i64 q) HG4.out).setOld (Below.refl _ _) (x:=⟨g4,1,none⟩) (.int .i64 b) HG4.out).setOld (Below.refl _ _) (x:=⟨g4,2,none⟩) (.slice A5 n5 c5) HG4.out
  replace F:=Aside0.mk hF6
  clear HI hO hN5 hb5 y5 r0 r1 r2 r0f r1f r2f hN6 hN7 hF6 q0 q1 q2 y4 Y4 HQ c0 c1 c2 d0 d1 d2 f0 f1 f2
  generalize ((w5.setCell _ _).setCell _ _).setCell _ _=w6 at y6 HV F ⊢
  obtain ⟨c0,c1,c2,d0,d1,d2,f0,f1,f2⟩:=F.out.cells
  have q0 : w6.cell? ⟨g4,0,none⟩=some (.int .i64 q):=by rw [blk_cell y6];rfl
  have q1 : w6.cell? ⟨g4,1,none⟩=some (.int .i64 b):=by rw [blk_cell y6];rfl
  have q2 : w6.cell? ⟨g4,2,none⟩=some (.slice A5 n5 c5):=by rw [blk_cell y6];rfl
  have h5:=HN5.out
  subst h5
  clear HN5
  have HFF:=Aside0.mk (Kd.N_F HV.out)
  have HCC:=Aside0.mk (Kd.N_reads' HV.out).2.1
  go_upto_region 14 with fail
  have bb:=below_alloc (Below.refl w6.heap.size w6) (.cells #[.int .i64 q,.int .i64 b,.slice A5 R.length c5] 24)
  have hg : w6.heap.size≠g4:=fun e => by have:=blk_lt y6;omega
  have y9:=blk_new w6 (.cells #[.int .i64 q,.int .i64 b,.slice A5 R.length c5] 24)
  have y7:=blk_alloc y6 (.cells #[.int .i64 q,.int .i64 b,.slice A5 R.length c5] 24)
  replace F:=Aside0.mk (F.out.below bb)
  replace HFF:=Aside0.mk (Kd.F_below HFF.out bb)
  clear HV q0 q1 q2 c0 c1 c2 d0 d1 d2 f0 f1 f2 y6 bb
  generalize w6.heap.size=g9 at y9 hg ⊢
  generalize w6.alloc _=w7 at y9 y7 F HFF ⊢
  have q2 : w7.cell? ⟨g4,2,none⟩=some (.slice A5 R.length c5):=by rw [blk_cell y7];rfl
  have q2f:=blk_frozen y7 2
  go_upto_region 15 with fail
  have yn:=blk_far (p:=⟨g4,2,none⟩) y9 hg (.slice none 0 0)
  have ym:=blk_put y7 2 (.slice none 0 0) rfl
  have HV7:=Aside0.mk (Kd.F_far (p:=⟨g4,2,none⟩) HFF.out (fun _ hk => hk.2.2) (.slice none 0 0))
  replace F:=Aside0.mk (F.out.setOld (Below.refl _ _) (x:=⟨g4,2,none⟩) (.slice none 0 0) HG4.out)
  clear y7 y9 q2 q2f HFF
  generalize World.setCell _ _ _=Wl at yn ym F HV7 ⊢
  have y9:=yn
  have y7:=ym
  clear yn ym
  have HWL:=Aside0.mk F.out.hb.size
  have HS0:=Aside0.mk (Lp.start (B:=w.heap.size) y7 HG4.out (by have:=F.out.g;omega))
  have Y9:=Aside0.mk (show Wl.heap[g9]?=some (.cells #[.int .i64 q,.int .i64 b,.slice A5 R.length c5] 24 (0,0)) from y9)
  have HN9:=Aside0.mk hg
  clear y7 y9 hg hneg hlo hhi hmax hmul
  go_wp2_with fail
  go_loopg [51] n (fun gk v51 wr => ∃ i : Nat,i≤n∧n - i≤gk∧v51=.int .i64 (i : Int)∧∃ v,Aside0 (Lp w.heap.size g2 Wl g4 q b (List.replicate i R).flatten v wr))
  case atStart => exact ⟨0,by omega,by omega,by go_num,_,HS0⟩
  case round =>
    obtain ⟨i,hi0,hi1,rfl,v,HI⟩:=hrel
    obtain ⟨Av,nv,cv,rfl⟩:=HI.out.form
    by_cases hlt : i < n
    · have HLEN:=Aside0.mk (show (List.replicate i R).flatten.length≤4096∧R.length≤4096 by
        have h1 : (List.replicate i R).flatten.length=i * R.length:=by simp
        have h2:=HMUL.out
        have h3 : i * R.length≤n * R.length:=Nat.mul_le_mul (by omega) (Nat.le_refl _)
        exact ⟨by omega,HSL.out⟩)
      have HX:=Aside0.mk (show (List.replicate i R).flatten ++ R=(List.replicate (i + 1) R).flatten by rw [List.replicate_succ',List.flatten_append];simp)
      generalize (List.replicate i R).flatten=X at HI HLEN HX ⊢
      go_upto_region 17 with fail
      replace HI:=Aside0.mk HI.out.drew
      have hI:=HI.out
      obtain ⟨-,-,x2,x2f⟩:=hI.cells
      have y9:=(hI.keep g9 (blk_lt Y9.out) HN9.out).trans Y9.out
      have o0 : wr.drew.cell? ⟨g9,0,none⟩=some (.int .i64 q):=by rw [blk_cell y9];rfl
      have o1 : wr.drew.cell? ⟨g9,1,none⟩=some (.int .i64 b):=by rw [blk_cell y9];rfl
      have o2 : wr.drew.cell? ⟨g9,2,none⟩=some (.slice A5 R.length c5):=by rw [blk_cell y9];rfl
      have HCD:=Aside0.mk (k46w_C (Kd.F_now (hI.foot HV7.out (fun _ hk => hk.2.2))))
      clear hI y9 x2f
      refine start_ (n:=8) (S:=fun w' => w'.cell? ⟨g4,2,none⟩=some (.slice Av nv cv)∧w'.cell? ⟨g9,0,none⟩=some (.int .i64 q)∧w'.cell? ⟨g9,1,none⟩=some (.int .i64 b)∧w'.cell? ⟨g9,2,none⟩=some (.slice A5 R.length c5)) (ds:=[7]) #[false,false,false,false,false,false,false,false] (by kernel_rfl) rfl rfl ⟨x2,o0,o1,o2⟩ (fun hHeld => ?_)
      generalize wr.drew=wd at x2 o0 o1 o2 HCD HI hHeld ⊢
      refine pure_ (i:=0) (N:=some 53) (v:=?_) (a':=?_) #[true,false,false,false,false,false,false,false] rfl rfl (by kernel_rfl) (fun _ _ _ h => h) (Or.inl ⟨by rfl,?_⟩) ?_ ?_
      rotate_left
      · intro w'
        go_simp
        with_reducible rfl
      rotate_left
      · simp only [Act.put,List.setIfInBounds_toArray,List.set_cons_zero,List.set_cons_succ]
        rfl
      refine take_ (i:=1) (N:=some 54) (v:=?_) (a':=?_) #[true,true,false,false,false,false,false,false] rfl rfl (by kernel_rfl) (fun _ _ _ h => h) (Or.inl ⟨by rfl,?_⟩) hHeld ?_ ?_
      rotate_left
      · rintro w' ⟨s0,s1,s2,s3⟩
        go_simp
        with_reducible rfl
      rotate_left
      · simp only [Act.put,List.setIfInBounds_toArray,List.set_cons_zero,List.set_cons_succ]
        rfl
      refine take_ (i:=2) (N:=some 55) (v:=?_) (a':=?_) #[true,true,true,false,false,false,false,false] rfl rfl (by kernel_rfl) (fun _ _ _ h => h) (Or.inl ⟨by rfl,?_⟩) hHeld ?_ ?_
      rotate_left
      · rintro w' ⟨s0,s1,s2,s3⟩
        go_simp
        with_reducible rfl
      rotate_left
      · simp only [Act.put,List.setIfInBounds_toArray,List.set_cons_zero,List.set_cons_succ]
        rfl
      refine one_ (i:=3) (N:=some 56) #[true,true,true,true,false,false,false,false] rfl rfl (by kernel_rfl) (by decide) (fun K hK => ?_)
      refine goes_ Try.func54 (by kernel_rfl) rfl #[.agg #[.int .i64 q,.int .i64 b,.slice A5 R.length c5]] (by rfl) rfl rfl (by simp only [List.map_toArray,List.map_cons,List.map_nil];rfl) ?_
      with_reducible refine (circuit_Copy.calls k2 q b _ _ R _ _ _ _ HCD.out HCC.out E2.out).mono ?_
      rintro e x1 ⟨v1,rfl,ho1,hb1⟩
      refine ⟨_,rfl,?_⟩
      obtain ⟨A1,cc1,rfl⟩:=Kd.S_slice ho1
      have HN1:=Aside0.mk (Kd.N_F (Kd.N_mono (Kd.S_N (k46w_S (Kd.S_bound ho1))) (fun k hk => show wd.heap.size≤k from hk.2.1)))
      clear ho1
      refine hK.out _ _ ⟨below_cell hb1 x2,below_cell hb1 o0,below_cell hb1 o1,below_cell hb1 o2⟩ (fun hHeld => ?_)
      clear hK K
      refine norm_ (a':=?_) ?_ ?_
      rotate_left
      · show Act.put _ (some 56) _=_
        simp only [Act.put,List.setIfInBounds_toArray,List.set_cons_zero,List.set_cons_succ]
        rfl
      refine pure_ (i:=4) (N:=some 57) (v:=?_) (a':=?_) #[true,true,true,true,true,false,false,false] rfl rfl (by kernel_rfl) (fun _ _ _ h => h) (Or.inl ⟨by rfl,?_⟩) ?_ ?_
      rotate_left
      · intro w'
        rfl
      rotate_left
      · simp only [Act.put,List.setIfInBounds_toArray,List.set_cons_zero,List.set_cons_succ]
        rfl
      refine one_ (i:=5) (N:=some 58) #[true,true,true,true,true,true,false,false] rfl rfl (by kernel_rfl) (by decide) (fun K hK => ?_)
      refine Kd.N_append_rows_step k46w (w0:=wd) Wl.heap.size (by rfl) (.tmp 54) (.tmp 57) 22 46 (.agg #[.int .i64 0,.int .i64 0,.slice none 0 0,.int .i64 0,.int .i64 0,.int .i64 0]) 64 rfl Try.underlying22 info46 rfl (by decide) (by omega) (.slice Av nv cv) X R A1 R.length cc1 (fun k => w.heap.size≤k∧k≠g4∧k≠g2) (fun k => wd.heap.size≤k) rfl rfl (Kd.N_below HI.out.row hb1) HN1.out (fun k hk => ⟨HI.out.fresh k hk,fun e => by have:=Kd.N_lt HI.out.row k e.symm;omega⟩) (fun k hk => HI.out.fresh k (Nat.le_trans hb1.size hk)) (hb1.mono HI.out.size) (Nat.le_trans HI.out.size hb1.size) (by have:=HLEN.out;omega) ?_
      intro v5 x5 hn5 hb5 hg5 ha5
      obtain ⟨A6,n6,cc6,hv6⟩ : ∃ A n c,v5=.slice A n c:=(Kd.N_slice hn5).elim fun A h => h.elim fun c e => ⟨A,_,c,e⟩
      subst hv6
      rw [HX.out] at hn5
      have HNX:=Aside0.mk (HI.out.set hn5 hb5)
      have yx:=(hb5.block g4 HI.out.lt).trans HI.out.bx
      have z2 : x5.cell? ⟨g4,2,none⟩=some (.slice Av nv cv):=by rw [blk_cell yx];rfl
      have z2f:=blk_frozen yx 2
      have y9:=(hb5.block g9 (blk_lt Y9.out)).trans ((HI.out.keep g9 (blk_lt Y9.out) HN9.out).trans Y9.out)
      have p0 : x5.cell? ⟨g9,0,none⟩=some (.int .i64 q):=by rw [blk_cell y9];rfl
      have p1 : x5.cell? ⟨g9,1,none⟩=some (.int .i64 b):=by rw [blk_cell y9];rfl
      have p2 : x5.cell? ⟨g9,2,none⟩=some (.slice A5 R.length c5):=by rw [blk_cell y9];rfl
      clear hn5 hb5 hg5 ha5 yx y9
      refine hK.out _ _ ⟨z2,p0,p1,p2⟩ (fun hHeld => ?_)
      clear hK K
      refine norm_ (a':=?_) ?_ ?_
      rotate_left
      · show Act.put _ (some 58) _=_
        simp only [Act.put,List.setIfInBounds_toArray,List.set_cons_zero,List.set_cons_succ]
        rfl
      refine pure_ (i:=6) (N:=some 59) (v:=?_) (a':=?_) #[true,true,true,true,true,true,true,false] rfl rfl (by kernel_rfl) (fun _ _ _ h => h) (Or.inl ⟨by rfl,?_⟩) ?_ ?_
      rotate_left
      · intro w'
        go_simp
        with_reducible rfl
      rotate_left
      · simp only [Act.put,List.setIfInBounds_toArray,List.set_cons_zero,List.set_cons_succ]
        rfl
      refine last_ (i:=7) (N:=none) #[true,true,true,true,true,true,true,true] rfl rfl (by kernel_rfl) (by decide) (fun K hK => ?_)
      refine skip_ (w1:=?_) (by rfl) rfl ?_ ?_
      rotate_left
      · go_simp
        rfl
      refine hK.out _ _ ?_
      clear hK K
      refine done_ (by kernel_rfl) ?_
      clear x2 o0 o1 o2 hHeld hb1 z2 z2f p0 p1 p2 HI HCD HN1
      generalize World.setCell _ _ _=wn at HNX ⊢
      go_wp2
      go_roundg (n - (i + 1))
      case measure => omega
      case rel =>
        have hle:=HLE.out
        have e : wrap64 ((i : Int) + 1)=((i + 1 : Nat) : Int):=by rw [w64 (by omega) (by omega)];rfl
        exact ⟨i + 1,by omega,by omega,by first|(rw [e];done)|(rw [← e];done)|exact congrArg (Value.int .i64) e,_,HNX⟩
    · obtain rfl : i=n:=by omega
      have hI:=HI.out
      obtain ⟨x0,x1,x2,-⟩:=hI.cells
      replace F:=Aside0.mk (hI.fr F.out)
      obtain ⟨c0,c1,c2,d0,d1,d2,f0,f1,f2⟩:=F.out.cells
      have HRS:=Aside0.mk (hI.res HWL.out)
      clear hI
      go_wp2
      refine bodyPost_ret (results_ct rfl _ _ g2 24 _ (0,0) _ rfl (F.out.put q b (.slice Av nv cv)) Try.underlying24 rfl (by kernel_rfl)) rfl ?_
      exact F.out.out HRS.out
set_option maxHeartbeats 4000000 in
set_option maxRecDepth 1000000 in
theorem pow_good_pos (q b : Int) (n : Nat) (A : Option Addr) (c : Nat) (l : List Opn) (w : World) (HC : Kd.C k46 w A l.length l) (hc : l.length≤c) (hw : WfL l) (k1 : Nat) (e1 : invert_checked.f k1 q b l=some (q,b,l,0)) (hle : n≤4096) (hll : l.length≤4096) (hshort : ¬ 4096 < n * l.length) (k2 : Nat) (e2 : circuit_Copy.f k2 q b l=some (q,b,l)) :
    Calls Try.prog 15 #[.agg #[.int .i64 q,.int .i64 b,.slice A l.length c],.int .i64 (n : Int)] w (Out w (q,b,(List.replicate n l).flatten,0)):=by
  have hneg : decide ((n : Int) < 0)=false:=decide_eq_false (by omega)
  have hlo : decide ((n : Int) < -4096)=false:=decide_eq_false (by omega)
  have hhi : decide ((4096 : Int) < (n : Int))=false:=decide_eq_false (by omega)
  have hmax : max ((n : Int)) (wrap64 (-(n : Int)))=(n : Int):=by rw [w64 (by omega) (by omega)];omega
  have hSl : l.length=l.length:=rfl
  have HSL:=Aside0.mk (show l.length≤4096 by rw [hSl];exact hll)
  have HMUL:=Aside0.mk (show n * l.length≤4096 by rw [hSl];omega)
  have HSM:=Aside0.mk hSl
  have E2:=Aside0.mk e2
  have HLE:=Aside0.mk hle
  have hmul : decide ((4096 : Int) < wrap64 ((n : Int) * (l.length : Int)))=false:=by
    have h6 : (n : Int) * (l.length : Int)=((n * l.length : Nat) : Int):=by push_cast;rfl
    have h7:=HMUL.out
    rw [h6,w64 (by omega) (by omega)]
    exact decide_eq_false (by omega)
  clear hle hll hshort e2 hSl
  have HR:=Aside0.mk HC
  have HS:=Aside0.mk hc
  have HWF:=Aside0.mk hw
  have E1:=Aside0.mk e1
  clear HC hc hw e1
  have hu24:=Try.underlying24
  go_enter Try.func15,Try.ntmps15
  go_upto_region 1 with fail
  have F:=Aside0.mk (Fr.start (q:=q) (b:=b) (c:=c) HR.out)
  clear HR
  obtain ⟨g2,hg2⟩ : ∃ g,g=w.heap.size + 1:=⟨_,rfl⟩
  rw [← hg2] at F ⊢
  clear hg2
  generalize ((w.alloc _).alloc _)=W at F ⊢
  obtain ⟨c0,c1,c2,d0,d1,d2,f0,f1,f2⟩:=F.out.cells
  go_upto_region 8 with (go_at_call 42;(with_reducible refine (invert_checked.calls k1 q b _ _ l _ _ _ _ _ F.out.hc HS.out E1.out).mono ?_);rintro e w3 ⟨v1,rfl,ho1,hb3⟩;obtain ⟨A5,n5,c5,hv1,hn5⟩ : ∃ A n c,v1=.slice A n c∧n=l.length:=(Kd.S_slice ho1).elim fun A h => h.elim fun c e => ⟨A,_,c,e,rfl⟩;subst hv1;have HN5:=Aside0.mk hn5;clear hn5)
  have bb:=below_alloc (Below.refl w3.heap.size w3) (.cells #[.int .i64 q,.int .i64 b,.slice A5 n5 c5] 24)
  have y4:=blk_new w3 (.cells #[.int .i64 q,.int .i64 b,.slice A5 n5 c5] 24)
  have HG4:=Aside0.mk (show g2 < w3.heap.size from blk_lt (F.out.below hb3).b2)
  have HQ:=Aside0.mk (Kd.N_lower (Kd.N_mono (Kd.N_below (Kd.S_N (k46w_S (Kd.S_bound ho1))) bb) (fun k hk => show w.heap.size≤k∧k≠g2∧k < w3.heap.size from ⟨(F.out.fresh k hk.2.1).1,(F.out.fresh k hk.2.1).2,hk.2.2.1⟩)) F.out.hb.size)
  replace F:=Aside0.mk (F.out.below (below_step hb3 bb))
  clear c0 c1 c2 d0 d1 d2 f0 f1 f2
  obtain ⟨c0,c1,c2,d0,d1,d2,f0,f1,f2⟩:=F.out.cells
  clear hb3 ho1 bb
  generalize w3.heap.size=g4 at y4 HQ HG4 ⊢
  generalize w3.alloc _=w6 at y4 HQ F c0 c1 c2 d0 d1 d2 f0 f1 f2 ⊢
  have y6:=y4
  have HV:=Aside0.mk (Kd.N_mono HQ.out (fun k hk => show w.heap.size≤k∧k≠g2∧k≠g4 from ⟨hk.1,hk.2.1,Nat.ne_of_lt hk.2.2⟩))
  clear y4 HQ
  have q0 : w6.cell? ⟨g4,0,none⟩=some (.int .i64 q):=by rw [blk_cell y6];rfl
  have q1 : w6.cell? ⟨g4,1,none⟩=some (.int .i64 b):=by rw [blk_cell y6];rfl
  have q2 : w6.cell? ⟨g4,2,none⟩=some (.slice A5 n5 c5):=by rw [blk_cell y6];rfl
  have h5:=HN5.out
  subst h5
  clear HN5
  have HFF:=Aside0.mk (Kd.N_F HV.out)
  have HCC:=Aside0.mk (Kd.N_reads' HV.out).2.1
  go_upto_region 14 with fail
  have bb:=below_alloc (Below.refl w6.heap.size w6) (.cells #[.int .i64 q,.int .i64 b,.slice A5 l.length c5] 24)
  have hg : w6.heap.size≠g4:=fun e => by have:=blk_lt y6;omega
  have y9:=blk_new w6 (.cells #[.int .i64 q,.int .i64 b,.slice A5 l.length c5] 24)
  have y7:=blk_alloc y6 (.cells #[.int .i64 q,.int .i64 b,.slice A5 l.length c5] 24)
  replace F:=Aside0.mk (F.out.below bb)
  replace HFF:=Aside0.mk (Kd.F_below HFF.out bb)
  clear HV q0 q1 q2 c0 c1 c2 d0 d1 d2 f0 f1 f2 y6 bb
  generalize w6.heap.size=g9 at y9 hg ⊢
  generalize w6.alloc _=w7 at y9 y7 F HFF ⊢
  have q2 : w7.cell? ⟨g4,2,none⟩=some (.slice A5 l.length c5):=by rw [blk_cell y7];rfl
  have q2f:=blk_frozen y7 2
  go_upto_region 15 with fail
  have yn:=blk_far (p:=⟨g4,2,none⟩) y9 hg (.slice none 0 0)
  have ym:=blk_put y7 2 (.slice none 0 0) rfl
  have HV7:=Aside0.mk (Kd.F_far (p:=⟨g4,2,none⟩) HFF.out (fun _ hk => hk.2.2) (.slice none 0 0))
  replace F:=Aside0.mk (F.out.setOld (Below.refl _ _) (x:=⟨g4,2,none⟩) (.slice none 0 0) HG4.out)
  clear y7 y9 q2 q2f HFF
  generalize World.setCell _ _ _=Wl at yn ym F HV7 ⊢
  have y9:=yn
  have y7:=ym
  clear yn ym
  have HWL:=Aside0.mk F.out.hb.size
  have HS0:=Aside0.mk (Lp.start (B:=w.heap.size) y7 HG4.out (by have:=F.out.g;omega))
  have Y9:=Aside0.mk (show Wl.heap[g9]?=some (.cells #[.int .i64 q,.int .i64 b,.slice A5 l.length c5] 24 (0,0)) from y9)
  have HN9:=Aside0.mk hg
  clear y7 y9 hg hneg hlo hhi hmax hmul
  go_wp2_with fail
  go_loopg [51] n (fun gk v51 wr => ∃ i : Nat,i≤n∧n - i≤gk∧v51=.int .i64 (i : Int)∧∃ v,Aside0 (Lp w.heap.size g2 Wl g4 q b (List.replicate i l).flatten v wr))
  case atStart => exact ⟨0,by omega,by omega,by go_num,_,HS0⟩
  case round =>
    obtain ⟨i,hi0,hi1,rfl,v,HI⟩:=hrel
    obtain ⟨Av,nv,cv,rfl⟩:=HI.out.form
    by_cases hlt : i < n
    · have HLEN:=Aside0.mk (show (List.replicate i l).flatten.length≤4096∧l.length≤4096 by
        have h1 : (List.replicate i l).flatten.length=i * l.length:=by simp
        have h2:=HMUL.out
        have h3 : i * l.length≤n * l.length:=Nat.mul_le_mul (by omega) (Nat.le_refl _)
        exact ⟨by omega,HSL.out⟩)
      have HX:=Aside0.mk (show (List.replicate i l).flatten ++ l=(List.replicate (i + 1) l).flatten by rw [List.replicate_succ',List.flatten_append];simp)
      generalize (List.replicate i l).flatten=X at HI HLEN HX ⊢
      go_upto_region 17 with fail
      replace HI:=Aside0.mk HI.out.drew
      have hI:=HI.out
      obtain ⟨-,-,x2,x2f⟩:=hI.cells
      have y9:=(hI.keep g9 (blk_lt Y9.out) HN9.out).trans Y9.out
      have o0 : wr.drew.cell? ⟨g9,0,none⟩=some (.int .i64 q):=by rw [blk_cell y9];rfl
      have o1 : wr.drew.cell? ⟨g9,1,none⟩=some (.int .i64 b):=by rw [blk_cell y9];rfl
      have o2 : wr.drew.cell? ⟨g9,2,none⟩=some (.slice A5 l.length c5):=by rw [blk_cell y9];rfl
      have HCD:=Aside0.mk (k46w_C (Kd.F_now (hI.foot HV7.out (fun _ hk => hk.2.2))))
      clear hI y9 x2f
      refine start_ (n:=8) (S:=fun w' => w'.cell? ⟨g4,2,none⟩=some (.slice Av nv cv)∧w'.cell? ⟨g9,0,none⟩=some (.int .i64 q)∧w'.cell? ⟨g9,1,none⟩=some (.int .i64 b)∧w'.cell? ⟨g9,2,none⟩=some (.slice A5 l.length c5)) (ds:=[7]) #[false,false,false,false,false,false,false,false] (by kernel_rfl) rfl rfl ⟨x2,o0,o1,o2⟩ (fun hHeld => ?_)
      generalize wr.drew=wd at x2 o0 o1 o2 HCD HI hHeld ⊢
      refine pure_ (i:=0) (N:=some 53) (v:=?_) (a':=?_) #[true,false,false,false,false,false,false,false] rfl rfl (by kernel_rfl) (fun _ _ _ h => h) (Or.inl ⟨by rfl,?_⟩) ?_ ?_
      rotate_left
      · intro w'
        go_simp
        with_reducible rfl
      rotate_left
      · simp only [Act.put,List.setIfInBounds_toArray,List.set_cons_zero,List.set_cons_succ]
        rfl
      refine take_ (i:=1) (N:=some 54) (v:=?_) (a':=?_) #[true,true,false,false,false,false,false,false] rfl rfl (by kernel_rfl) (fun _ _ _ h => h) (Or.inl ⟨by rfl,?_⟩) hHeld ?_ ?_
      rotate_left
      · rintro w' ⟨s0,s1,s2,s3⟩
        go_simp
        with_reducible rfl
      rotate_left
      · simp only [Act.put,List.setIfInBounds_toArray,List.set_cons_zero,List.set_cons_succ]
        rfl
      refine take_ (i:=2) (N:=some 55) (v:=?_) (a':=?_) #[true,true,true,false,false,false,false,false] rfl rfl (by kernel_rfl) (fun _ _ _ h => h) (Or.inl ⟨by rfl,?_⟩) hHeld ?_ ?_
      rotate_left
      · rintro w' ⟨s0,s1,s2,s3⟩
        go_simp
        with_reducible rfl
      rotate_left
      · simp only [Act.put,List.setIfInBounds_toArray,List.set_cons_zero,List.set_cons_succ]
        rfl
      refine one_ (i:=3) (N:=some 56) #[true,true,true,true,false,false,false,false] rfl rfl (by kernel_rfl) (by decide) (fun K hK => ?_)
      refine goes_ Try.func54 (by kernel_rfl) rfl #[.agg #[.int .i64 q,.int .i64 b,.slice A5 l.length c5]] (by rfl) rfl rfl (by simp only [List.map_toArray,List.map_cons,List.map_nil];rfl) ?_
      with_reducible refine (circuit_Copy.calls k2 q b _ _ l _ _ _ _ HCD.out HCC.out E2.out).mono ?_
      rintro e x1 ⟨v1,rfl,ho1,hb1⟩
      refine ⟨_,rfl,?_⟩
      obtain ⟨A1,cc1,rfl⟩:=Kd.S_slice ho1
      have HN1:=Aside0.mk (Kd.N_F (Kd.N_mono (Kd.S_N (k46w_S (Kd.S_bound ho1))) (fun k hk => show wd.heap.size≤k from hk.2.1)))
      clear ho1
      refine hK.out _ _ ⟨below_cell hb1 x2,below_cell hb1 o0,below_cell hb1 o1,below_cell hb1 o2⟩ (fun hHeld => ?_)
      clear hK K
      refine norm_ (a':=?_) ?_ ?_
      rotate_left
      · show Act.put _ (some 56) _=_
        simp only [Act.put,List.setIfInBounds_toArray,List.set_cons_zero,List.set_cons_succ]
        rfl
      refine pure_ (i:=4) (N:=some 57) (v:=?_) (a':=?_) #[true,true,true,true,true,false,false,false] rfl rfl (by kernel_rfl) (fun _ _ _ h => h) (Or.inl ⟨by rfl,?_⟩) ?_ ?_
      rotate_left
      · intro w'
        rfl
      rotate_left
      · simp only [Act.put,List.setIfInBounds_toArray,List.set_cons_zero,List.set_cons_succ]
        rfl
      refine one_ (i:=5) (N:=some 58) #[true,true,true,true,true,true,false,false] rfl rfl (by kernel_rfl) (by decide) (fun K hK => ?_)
      refine Kd.N_append_rows_step k46w (w0:=wd) Wl.heap.size (by rfl) (.tmp 54) (.tmp 57) 22 46 (.agg #[.int .i64 0,.int .i64 0,.slice none 0 0,.int .i64 0,.int .i64 0,.int .i64 0]) 64 rfl Try.underlying22 info46 rfl (by decide) (by omega) (.slice Av nv cv) X l A1 l.length cc1 (fun k => w.heap.size≤k∧k≠g4∧k≠g2) (fun k => wd.heap.size≤k) rfl rfl (Kd.N_below HI.out.row hb1) HN1.out (fun k hk => ⟨HI.out.fresh k hk,fun e => by have:=Kd.N_lt HI.out.row k e.symm;omega⟩) (fun k hk => HI.out.fresh k (Nat.le_trans hb1.size hk)) (hb1.mono HI.out.size) (Nat.le_trans HI.out.size hb1.size) (by have:=HLEN.out;omega) ?_
      intro v5 x5 hn5 hb5 hg5 ha5
      obtain ⟨A6,n6,cc6,hv6⟩ : ∃ A n c,v5=.slice A n c:=(Kd.N_slice hn5).elim fun A h => h.elim fun c e => ⟨A,_,c,e⟩
      subst hv6
      rw [HX.out] at hn5
      have HNX:=Aside0.mk (HI.out.set hn5 hb5)
      have yx:=(hb5.block g4 HI.out.lt).trans HI.out.bx
      have z2 : x5.cell? ⟨g4,2,none⟩=some (.slice Av nv cv):=by rw [blk_cell yx];rfl
      have z2f:=blk_frozen yx 2
      have y9:=(hb5.block g9 (blk_lt Y9.out)).trans ((HI.out.keep g9 (blk_lt Y9.out) HN9.out).trans Y9.out)
      have p0 : x5.cell? ⟨g9,0,none⟩=some (.int .i64 q):=by rw [blk_cell y9];rfl
      have p1 : x5.cell? ⟨g9,1,none⟩=some (.int .i64 b):=by rw [blk_cell y9];rfl
      have p2 : x5.cell? ⟨g9,2,none⟩=some (.slice A5 l.length c5):=by rw [blk_cell y9];rfl
      clear hn5 hb5 hg5 ha5 yx y9
      refine hK.out _ _ ⟨z2,p0,p1,p2⟩ (fun hHeld => ?_)
      clear hK K
      refine norm_ (a':=?_) ?_ ?_
      rotate_left
      · show Act.put _ (some 58) _=_
        simp only [Act.put,List.setIfInBounds_toArray,List.set_cons_zero,List.set_cons_succ]
        rfl
      refine pure_ (i:=6) (N:=some 59) (v:=?_) (a':=?_) #[true,true,true,true,true,true,true,false] rfl rfl (by kernel_rfl) (fun _ _ _ h => h) (Or.inl ⟨by rfl,?_⟩) ?_ ?_
      rotate_left
      · intro w'
        go_simp
        with_reducible rfl
      rotate_left
      · simp only [Act.put,List.setIfInBounds_toArray,List.set_cons_zero,List.set_cons_succ]
        rfl
      refine last_ (i:=7) (N:=none) #[true,true,true,true,true,true,true,true] rfl rfl (by kernel_rfl) (by decide) (fun K hK => ?_)
      refine skip_ (w1:=?_) (by rfl) rfl ?_ ?_
      rotate_left
      · go_simp
        rfl
      refine hK.out _ _ ?_
      clear hK K
      refine done_ (by kernel_rfl) ?_
      clear x2 o0 o1 o2 hHeld hb1 z2 z2f p0 p1 p2 HI HCD HN1
      generalize World.setCell _ _ _=wn at HNX ⊢
      go_wp2
      go_roundg (n - (i + 1))
      case measure => omega
      case rel =>
        have hle:=HLE.out
        have e : wrap64 ((i : Int) + 1)=((i + 1 : Nat) : Int):=by rw [w64 (by omega) (by omega)];rfl
        exact ⟨i + 1,by omega,by omega,by first|(rw [e];done)|(rw [← e];done)|exact congrArg (Value.int .i64) e,_,HNX⟩
    · obtain rfl : i=n:=by omega
      have hI:=HI.out
      obtain ⟨x0,x1,x2,-⟩:=hI.cells
      replace F:=Aside0.mk (hI.fr F.out)
      obtain ⟨c0,c1,c2,d0,d1,d2,f0,f1,f2⟩:=F.out.cells
      have HRS:=Aside0.mk (hI.res HWL.out)
      clear hI
      go_wp2
      refine bodyPost_ret (results_ct rfl _ _ g2 24 _ (0,0) _ rfl (F.out.put q b (.slice Av nv cv)) Try.underlying24 rfl (by kernel_rfl)) rfl ?_
      exact F.out.out HRS.out
theorem power_out {q b k : Int} {A : Option Addr} {c : Nat} {l : List Opn} {w : World} (HC : Kd.C k46 w A l.length l) (hc : l.length≤c) (hw : WfL l) :
    Calls Try.prog 15 #[.agg #[.int .i64 q,.int .i64 b,.slice A l.length c],.int .i64 k] w (Out w (powR q b l k)):=by
  obtain ⟨k1,e1⟩:=(ichecked_is (q:=q) (b:=b) hw).get
  unfold powR
  by_cases h : okc q b l=true
  · have ho:=okc_facts h
    have hl:=ho.n
    rw [if_pos h] at e1 ⊢
    obtain ⟨n,hn⟩ : ∃ n,n=k.natAbs:=⟨_,rfl⟩
    by_cases hk : k < 0
    · obtain rfl : k=-(n : Int):=by omega
      have hn0 : 0 < n:=by omega
      by_cases hb : l.any isBad=true
      · rw [if_pos ⟨hk,hb⟩]
        exact pow_bad q b n A c l w HC hc hw k1 e1 (by unfold invR;rw [if_pos h,if_pos hb]) hn0
      · rw [if_neg (fun e => hb e.2)]
        have hR : invR q b l=(q,b,l.reverse.map invO,0):=by unfold invR;rw [if_pos h,if_neg hb]
        have hlr : (l.reverse.map invO).length=l.length:=by simp
        by_cases h4 : 4096 < n
        · rw [if_pos (by omega)]
          exact pow_out_neg q b n A c l _ w HC hc hw k1 e1 hR hlr h4
        · rw [if_neg (by omega),← hn,if_pos hk]
          by_cases h5 : 4096 < n * l.length
          · rw [if_pos h5]
            exact pow_long_neg q b n A c l _ w HC hc hw k1 e1 hR hlr hn0 (by omega) hl h5
          · rw [if_neg h5]
            obtain ⟨k2,e2⟩:=(copy_is (q:=q) (b:=b) (l:=l.reverse.map invO) (inv_ops h) (by rw [hlr];omega)).get
            exact pow_good_neg q b n A c l _ w HC hc hw k1 e1 hR hlr hn0 (by omega) hl h5 k2 e2
    · obtain rfl : k=(n : Int):=by omega
      rw [if_neg (fun e => hk e.1)]
      by_cases h4 : 4096 < n
      · rw [if_pos (by omega)]
        exact pow_out_pos q b n A c l w HC hc hw k1 e1 h4
      · rw [if_neg (by omega),← hn,if_neg hk]
        by_cases h5 : 4096 < n * l.length
        · rw [if_pos h5]
          exact pow_long_pos q b n A c l w HC hc hw k1 e1 (by omega) hl h5
        · rw [if_neg h5]
          obtain ⟨k2,e2⟩:=(copy_is (q:=q) (b:=b) (l:=l) (fun o ho2 => (ho.op o ho2).len) (by omega)).get
          exact pow_good_pos q b n A c l w HC hc hw k1 e1 (by omega) hl h5 k2 e2
  · rw [if_neg h] at e1 ⊢
    exact pow_no q b k A c l w HC hc hw k1 e1
end Go.Proofs.Ytbelnopbggkdfaa.Q
end

section
namespace Go.Proofs.Ytbelnopbggkdfaa.Q
open Go.RowKit Go.Proofs.YtbelnopbggkdfaaW.PrintWords Go.Proofs.YtbelnopbggkdfaaW.PrintLast Go.Proofs.YtbelnopbggkdfaaW.PrintMore
theorem Lp.reset {B g2 : Nat} {Wl : World} {g : Nat} {q b : Int} {s s' : List Opn} {v v' : Value} {W W' : World} (h : Lp B g2 Wl g q b s v W) (hn : Kd.N k46w 46 W' W.heap.size (fun k => B≤k∧k≠g∧k≠g2) v' s') (hb : Below W.heap.size W W') :
    Lp B g2 Wl g q b s' v' (((W'.setCell ⟨g,0,none⟩ (.int .i64 q)).setCell ⟨g,1,none⟩ (.int .i64 b)).setCell ⟨g,2,none⟩ v'):=by
  have h2:=h.lt2
  have h3:=h.ge
  have h4:=h.lt
  have hb' : Below Wl.heap.size W W':=hb.mono h.size
  refine ⟨blk_put (blk_put (blk_put ((hb'.block g h.lt).trans h.bx) 0 _ rfl) 1 _ rfl) 2 v' rfl,Kd.N_far (p:=⟨g,2,none⟩) (Kd.N_far (p:=⟨g,1,none⟩) (Kd.N_far (p:=⟨g,0,none⟩) (Kd.N_lower hn h.size) (fun _ hk => hk.2.1) _) (fun _ hk => hk.2.1) _) (fun _ hk => hk.2.1) _,fun k h1 h2 => ?_,Below.setCell (Below.setCell (Below.setCell (h.hb.trans (hb'.mono (by omega))) (show B≤g by omega) _) (show B≤g by omega) _) (show B≤g by omega) _,h.lt,h.lt2,h.ge⟩
  rw [Below.heap_setCell _ _ _ _ h2,Below.heap_setCell _ _ _ _ h2,Below.heap_setCell _ _ _ _ h2]
  exact (hb'.block k h1).trans (h.keep k h1 h2)
set_option maxHeartbeats 4000000 in
set_option maxRecDepth 1000000 in
theorem rpow_no (q b k : Int) (A : Option Addr) (c : Nat) (l : List Opn) (w : World) (HC : Kd.C k46 w A l.length l) (hc : l.length≤c) (hw : WfL l) (k1 : Nat) (e1 : phasorref08_May.f k1 q b l=some false) :
    Calls Try.prog 16 #[.agg #[.int .i64 q,.int .i64 b,.slice A l.length c],.int .i64 k] w (Out w (0,0,[],80)):=by
  have HR:=Aside0.mk HC
  have HS:=Aside0.mk hc
  have HWF:=Aside0.mk hw
  have E1:=Aside0.mk e1
  clear HC hc hw e1
  have hu24:=Try.underlying24
  go_enter Try.func16,Try.ntmps16
  go_upto_region 1 with fail
  have F:=Aside0.mk (Fr.start (q:=q) (b:=b) (c:=c) HR.out)
  clear HR
  obtain ⟨g2,hg2⟩ : ∃ g,g=w.heap.size + 1:=⟨_,rfl⟩
  rw [← hg2] at F ⊢
  clear hg2
  generalize ((w.alloc _).alloc _)=W at F ⊢
  obtain ⟨c0,c1,c2,d0,d1,d2,f0,f1,f2⟩:=F.out.cells
  go_wp2_with (go_at_call 24;(with_reducible refine (phasorref08_May.calls k1 q b _ _ l _ _ F.out.hc HS.out E1.out).mono ?_);rintro e w3 ⟨rfl,hb3⟩;replace F:=Aside0.mk (F.out.below hb3);clear c0 c1 c2 d0 d1 d2 f0 f1 f2 hb3;obtain ⟨c0,c1,c2,d0,d1,d2,f0,f1,f2⟩:=F.out.cells)
  refine bodyPost_ret (results_ct rfl _ _ g2 24 _ (0,0) _ rfl (F.out.put 0 0 (.slice none 0 0)) Try.underlying24 rfl (by kernel_rfl)) rfl ?_
  exact F.out.out Fr.nil
set_option maxHeartbeats 4000000 in
set_option maxRecDepth 1000000 in
theorem rpow_out_neg (q b : Int) (n : Nat) (A : Option Addr) (c : Nat) (l : List Opn) (w : World) (HC : Kd.C k46 w A l.length l) (hc : l.length≤c) (hw : WfL l) (k1 : Nat) (e1 : phasorref08_May.f k1 q b l=some true) (hbig : 4096 < n) :
    Calls Try.prog 16 #[.agg #[.int .i64 q,.int .i64 b,.slice A l.length c],.int .i64 (-(n : Int))] w (Out w (0,0,[],170)):=by
  have hlo : decide (-(n : Int) < -4096)=true:=decide_eq_true (by omega)
  obtain ⟨kk,hkk⟩ : ∃ kk : Int,kk=-(n : Int):=⟨_,rfl⟩
  rw [← hkk] at hlo ⊢
  clear hkk hbig
  have HR:=Aside0.mk HC
  have HS:=Aside0.mk hc
  have HWF:=Aside0.mk hw
  have E1:=Aside0.mk e1
  clear HC hc hw e1
  have hu24:=Try.underlying24
  go_enter Try.func16,Try.ntmps16
  go_upto_region 1 with fail
  have F:=Aside0.mk (Fr.start (q:=q) (b:=b) (c:=c) HR.out)
  clear HR
  obtain ⟨g2,hg2⟩ : ∃ g,g=w.heap.size + 1:=⟨_,rfl⟩
  rw [← hg2] at F ⊢
  clear hg2
  generalize ((w.alloc _).alloc _)=W at F ⊢
  obtain ⟨c0,c1,c2,d0,d1,d2,f0,f1,f2⟩:=F.out.cells
  go_wp2_with (go_at_call 24;(with_reducible refine (phasorref08_May.calls k1 q b _ _ l _ _ F.out.hc HS.out E1.out).mono ?_);rintro e w3 ⟨rfl,hb3⟩;replace F:=Aside0.mk (F.out.below hb3);clear c0 c1 c2 d0 d1 d2 f0 f1 f2 hb3;obtain ⟨c0,c1,c2,d0,d1,d2,f0,f1,f2⟩:=F.out.cells)
  refine bodyPost_ret (results_ct rfl _ _ g2 24 _ (0,0) _ rfl (F.out.put 0 0 (.slice none 0 0)) Try.underlying24 rfl (by kernel_rfl)) rfl ?_
  exact F.out.out Fr.nil
set_option maxHeartbeats 4000000 in
set_option maxRecDepth 1000000 in
theorem rpow_out_pos (q b : Int) (n : Nat) (A : Option Addr) (c : Nat) (l : List Opn) (w : World) (HC : Kd.C k46 w A l.length l) (hc : l.length≤c) (hw : WfL l) (k1 : Nat) (e1 : phasorref08_May.f k1 q b l=some true) (hbig : 4096 < n) :
    Calls Try.prog 16 #[.agg #[.int .i64 q,.int .i64 b,.slice A l.length c],.int .i64 (n : Int)] w (Out w (0,0,[],170)):=by
  have hlo : decide ((n : Int) < -4096)=false:=decide_eq_false (by omega)
  have hhi : decide ((4096 : Int) < (n : Int))=true:=decide_eq_true (by omega)
  clear hbig
  have HR:=Aside0.mk HC
  have HS:=Aside0.mk hc
  have HWF:=Aside0.mk hw
  have E1:=Aside0.mk e1
  clear HC hc hw e1
  have hu24:=Try.underlying24
  go_enter Try.func16,Try.ntmps16
  go_upto_region 1 with fail
  have F:=Aside0.mk (Fr.start (q:=q) (b:=b) (c:=c) HR.out)
  clear HR
  obtain ⟨g2,hg2⟩ : ∃ g,g=w.heap.size + 1:=⟨_,rfl⟩
  rw [← hg2] at F ⊢
  clear hg2
  generalize ((w.alloc _).alloc _)=W at F ⊢
  obtain ⟨c0,c1,c2,d0,d1,d2,f0,f1,f2⟩:=F.out.cells
  go_wp2_with (go_at_call 24;(with_reducible refine (phasorref08_May.calls k1 q b _ _ l _ _ F.out.hc HS.out E1.out).mono ?_);rintro e w3 ⟨rfl,hb3⟩;replace F:=Aside0.mk (F.out.below hb3);clear c0 c1 c2 d0 d1 d2 f0 f1 f2 hb3;obtain ⟨c0,c1,c2,d0,d1,d2,f0,f1,f2⟩:=F.out.cells)
  refine bodyPost_ret (results_ct rfl _ _ g2 24 _ (0,0) _ rfl (F.out.put 0 0 (.slice none 0 0)) Try.underlying24 rfl (by kernel_rfl)) rfl ?_
  exact F.out.out Fr.nil
set_option maxHeartbeats 4000000 in
set_option maxRecDepth 1000000 in
theorem rpow_bad (q b : Int) (n : Nat) (A : Option Addr) (c : Nat) (l : List Opn) (w : World) (HC : Kd.C k46 w A l.length l) (hc : l.length≤c) (hw : WfL l) (k1 : Nat) (e1 : phasorref08_May.f k1 q b l=some true) (hle : n≤4096) (hn : 0 < n) (k3 : Nat) (e3 : phasorref08_Unitary.f k3 q b l=some false) :
    Calls Try.prog 16 #[.agg #[.int .i64 q,.int .i64 b,.slice A l.length c],.int .i64 (-(n : Int))] w (Out w (0,0,[],170)):=by
  have hneg : decide (-(n : Int) < 0)=true:=decide_eq_true (by omega)
  have hlo : decide (-(n : Int) < -4096)=false:=decide_eq_false (by omega)
  have hhi : decide ((4096 : Int) < -(n : Int))=false:=decide_eq_false (by omega)
  obtain ⟨kk,hkk⟩ : ∃ kk : Int,kk=-(n : Int):=⟨_,rfl⟩
  rw [← hkk] at hneg hlo hhi ⊢
  have E3:=Aside0.mk e3
  clear hkk hle hn e3
  have HR:=Aside0.mk HC
  have HS:=Aside0.mk hc
  have HWF:=Aside0.mk hw
  have E1:=Aside0.mk e1
  clear HC hc hw e1
  have hu24:=Try.underlying24
  go_enter Try.func16,Try.ntmps16
  go_upto_region 1 with fail
  have F:=Aside0.mk (Fr.start (q:=q) (b:=b) (c:=c) HR.out)
  clear HR
  obtain ⟨g2,hg2⟩ : ∃ g,g=w.heap.size + 1:=⟨_,rfl⟩
  rw [← hg2] at F ⊢
  clear hg2
  generalize ((w.alloc _).alloc _)=W at F ⊢
  obtain ⟨c0,c1,c2,d0,d1,d2,f0,f1,f2⟩:=F.out.cells
  go_upto_region 3 with (go_at_call 24;(with_reducible refine (phasorref08_May.calls k1 q b _ _ l _ _ F.out.hc HS.out E1.out).mono ?_);rintro e w3 ⟨rfl,hb3⟩;replace F:=Aside0.mk (F.out.below hb3);clear c0 c1 c2 d0 d1 d2 f0 f1 f2 hb3;obtain ⟨c0,c1,c2,d0,d1,d2,f0,f1,f2⟩:=F.out.cells)
  go_wp2_with (go_at_call 46;(with_reducible refine (phasorref08_Unitary.calls k3 q b _ _ l _ _ F.out.hc HS.out E3.out).mono ?_);rintro e w4 ⟨rfl,hb4⟩;replace F:=Aside0.mk (F.out.below hb4);clear c0 c1 c2 d0 d1 d2 f0 f1 f2 hb4;obtain ⟨c0,c1,c2,d0,d1,d2,f0,f1,f2⟩:=F.out.cells)
  refine bodyPost_ret (results_ct rfl _ _ g2 24 _ (0,0) _ rfl (F.out.put 0 0 (.slice none 0 0)) Try.underlying24 rfl (by kernel_rfl)) rfl ?_
  exact F.out.out Fr.nil
set_option maxHeartbeats 4000000 in
set_option maxRecDepth 1000000 in
theorem rpow_long_neg (q b : Int) (n : Nat) (A : Option Addr) (c : Nat) (l R : List Opn) (w : World) (HC : Kd.C k46 w A l.length l) (hc : l.length≤c) (hw : WfL l) (k1 : Nat) (e1 : phasorref08_May.f k1 q b l=some true) (hR : invR q b l=(q,b,R,0)) (hn : 0 < n) (k3 : Nat) (e3 : phasorref08_Unitary.f k3 q b l=some true) (hle : n≤4096) (hll : l.length≤4096) (hlong : 4096 < n * l.length) :
    Calls Try.prog 16 #[.agg #[.int .i64 q,.int .i64 b,.slice A l.length c],.int .i64 (-(n : Int))] w (Out w (0,0,[],170)):=by
  have hneg : decide ((-(n : Int)) < 0)=true:=decide_eq_true (by omega)
  have hlo : decide ((-(n : Int)) < -4096)=false:=decide_eq_false (by omega)
  have hhi : decide ((4096 : Int) < (-(n : Int)))=false:=decide_eq_false (by omega)
  have hmul : decide ((4096 : Int) < wrap64 ((n : Int) * (l.length : Int)))=true:=by
    have h5 : n * l.length≤4096 * 4096:=Nat.mul_le_mul hle hll
    have h6 : (n : Int) * (l.length : Int)=((n * l.length : Nat) : Int):=by push_cast;rfl
    rw [h6,w64 (by omega) (by omega)]
    exact decide_eq_true (by omega)
  have hnn : wrap64 (-(-(n : Int)))=(n : Int):=by rw [w64 (by omega) (by omega)];omega
  have HRR:=Aside0.mk hR
  have E3:=Aside0.mk e3
  obtain ⟨kk,hkk⟩ : ∃ kk : Int,kk=-(n : Int):=⟨_,rfl⟩
  rw [← hkk] at hneg hlo hhi hnn ⊢
  clear hR hn hkk e3 hle hll hlong
  have HR:=Aside0.mk HC
  have HS:=Aside0.mk hc
  have HWF:=Aside0.mk hw
  have E1:=Aside0.mk e1
  clear HC hc hw e1
  have hu24:=Try.underlying24
  go_enter Try.func16,Try.ntmps16
  go_upto_region 1 with fail
  have F:=Aside0.mk (Fr.start (q:=q) (b:=b) (c:=c) HR.out)
  clear HR
  obtain ⟨g2,hg2⟩ : ∃ g,g=w.heap.size + 1:=⟨_,rfl⟩
  rw [← hg2] at F ⊢
  clear hg2
  generalize ((w.alloc _).alloc _)=W at F ⊢
  obtain ⟨c0,c1,c2,d0,d1,d2,f0,f1,f2⟩:=F.out.cells
  go_upto_region 3 with (go_at_call 24;(with_reducible refine (phasorref08_May.calls k1 q b _ _ l _ _ F.out.hc HS.out E1.out).mono ?_);rintro e w3 ⟨rfl,hb3⟩;replace F:=Aside0.mk (F.out.below hb3);clear c0 c1 c2 d0 d1 d2 f0 f1 f2 hb3;obtain ⟨c0,c1,c2,d0,d1,d2,f0,f1,f2⟩:=F.out.cells)
  go_upto_region 5 with (go_at_call 46;(with_reducible refine (phasorref08_Unitary.calls k3 q b _ _ l _ _ F.out.hc HS.out E3.out).mono ?_);rintro e w4 ⟨rfl,hb4⟩;replace F:=Aside0.mk (F.out.below hb4);clear c0 c1 c2 d0 d1 d2 f0 f1 f2 hb4;obtain ⟨c0,c1,c2,d0,d1,d2,f0,f1,f2⟩:=F.out.cells)
  go_upto_region 8 with fail
  have bb:=below_alloc (Below.refl w4.heap.size w4) (.cells #[.int .i64 q,.int .i64 b,.slice A l.length c] 24)
  have y5:=blk_new w4 (.cells #[.int .i64 q,.int .i64 b,.slice A l.length c] 24)
  have HG6:=Aside0.mk (show g2 < w4.heap.size from blk_lt F.out.b2)
  replace F:=Aside0.mk (F.out.below bb)
  clear c0 c1 c2 d0 d1 d2 f0 f1 f2
  obtain ⟨c0,c1,c2,d0,d1,d2,f0,f1,f2⟩:=F.out.cells
  clear bb
  generalize w4.heap.size=g6 at y5 HG6 ⊢
  generalize w4.alloc _=w5 at y5 F c0 c1 c2 d0 d1 d2 f0 f1 f2 ⊢
  have Y5:=Aside0.mk y5
  have HI:=rinverse_out (w:=w5) F.out.hc HS.out HWF.out (q:=q) (b:=b)
  rw [HRR.out] at HI
  have HI:=Aside0.mk HI
  go_upto_region 9 with (go_at_call 9;(with_reducible refine HI.out.mono ?_);rintro e w6 hO;obtain ⟨A5,n5,c5,rfl,hn5,hN5,hb5⟩:=out_val hO;have HN5:=Aside0.mk hn5;clear hn5;have y6:=blk_below Y5.out hb5;have r0 : w6.cell? ⟨g6,0,none⟩=some (.int .i64 q):=(by rw [blk_cell y6];rfl);have r1 : w6.cell? ⟨g6,1,none⟩=some (.int .i64 b):=(by rw [blk_cell y6];rfl);have r2 : w6.cell? ⟨g6,2,none⟩=some (.slice A l.length c):=(by rw [blk_cell y6];rfl);have r0f:=blk_frozen y6 0;have r1f:=blk_frozen y6 1;have r2f:=blk_frozen y6 2)
  have y7:=blk_put (blk_put (blk_put y6 0 (.int .i64 q) rfl) 1 (.int .i64 b) rfl) 2 (.slice A5 n5 c5) rfl
  have hN6:=Kd.N_mono hN5 (fun k hk => show w.heap.size≤k∧k≠g2∧k≠g6 from ⟨(F.out.fresh k hk).1,(F.out.fresh k hk).2,by have:=blk_lt Y5.out;omega⟩)
  have hN7:=Kd.N_far (p:=⟨g6,2,none⟩) (Kd.N_far (p:=⟨g6,1,none⟩) (Kd.N_far (p:=⟨g6,0,none⟩) hN6 (fun _ hk => hk.2.2) (.int .i64 q)) (fun _ hk => hk.2.2) (.int .i64 b)) (fun _ hk => hk.2.2) (.slice A5 n5 c5)
  have HV:=Aside0.mk hN7
  have hF6:=((F.out.setOld hb5 (x:=⟨g6,0,none⟩) (.int .i64 q) HG6.out).setOld (Below.refl _ _) (x:=⟨g6,1,none⟩) (.int .i64 b) HG6.out).setOld (Below.refl _ _) (x:=⟨g6,2,none⟩) (.slice A5 n5 c5) HG6.out
  replace F:=Aside0.mk hF6
  clear HI hO hN5 hb5 y6 r0 r1 r2 r0f r1f r2f hN6 hN7 hF6 y5 Y5 c0 c1 c2 d0 d1 d2 f0 f1 f2
  generalize ((w6.setCell _ _).setCell _ _).setCell _ _=w7 at y7 HV F ⊢
  obtain ⟨c0,c1,c2,d0,d1,d2,f0,f1,f2⟩:=F.out.cells
  have h5:=HN5.out
  subst h5
  clear HN5
  have HCC:=Aside0.mk (Kd.N_reads' HV.out).2.1
  replace HV:=Aside0.mk (Kd.N_F HV.out)
  clear y7
  go_wp2
  refine bodyPost_ret (results_ct rfl _ _ g2 24 _ (0,0) _ rfl (F.out.put 0 0 (.slice none 0 0)) Try.underlying24 rfl (by kernel_rfl)) rfl ?_
  exact F.out.out Fr.nil
set_option maxHeartbeats 4000000 in
set_option maxRecDepth 1000000 in
theorem rpow_good_neg (q b : Int) (n : Nat) (A : Option Addr) (c : Nat) (l R : List Opn) (w : World) (HC : Kd.C k46 w A l.length l) (hc : l.length≤c) (hw : WfL l) (k1 : Nat) (e1 : phasorref08_May.f k1 q b l=some true) (hR : invR q b l=(q,b,R,0)) (hlr : R.length=l.length) (hn : 0 < n) (k3 : Nat) (e3 : phasorref08_Unitary.f k3 q b l=some true) (hle : n≤4096) (hll : l.length≤4096) (hshort : ¬ 4096 < n * l.length) (k2 : Nat) (e2 : phasorref08_Copy.f k2 q b R=some (q,b,R)) :
    Calls Try.prog 16 #[.agg #[.int .i64 q,.int .i64 b,.slice A l.length c],.int .i64 (-(n : Int))] w (Out w (q,b,(List.replicate n R).flatten,0)):=by
  have hneg : decide ((-(n : Int)) < 0)=true:=decide_eq_true (by omega)
  have hlo : decide ((-(n : Int)) < -4096)=false:=decide_eq_false (by omega)
  have hhi : decide ((4096 : Int) < (-(n : Int)))=false:=decide_eq_false (by omega)
  have hmul : decide ((4096 : Int) < wrap64 ((n : Int) * (l.length : Int)))=false:=by
    have h5 : n * l.length≤4096 * 4096:=Nat.mul_le_mul hle hll
    have h6 : (n : Int) * (l.length : Int)=((n * l.length : Nat) : Int):=by push_cast;rfl
    rw [h6,w64 (by omega) (by omega)]
    exact decide_eq_false (by omega)
  have hnn : wrap64 (-(-(n : Int)))=(n : Int):=by rw [w64 (by omega) (by omega)];omega
  have HRR:=Aside0.mk hR
  have E3:=Aside0.mk e3
  have hSl : R.length=l.length:=hlr
  have HSL:=Aside0.mk (show R.length≤4096 by rw [hSl];exact hll)
  have HMUL:=Aside0.mk (show n * R.length≤4096 by rw [hSl];omega)
  have E2:=Aside0.mk e2
  have HLE:=Aside0.mk hle
  obtain ⟨kk,hkk⟩ : ∃ kk : Int,kk=-(n : Int):=⟨_,rfl⟩
  rw [← hkk] at hneg hlo hhi hnn ⊢
  clear hR hlr hn hkk e3 hle hll hshort e2 hSl
  have HR:=Aside0.mk HC
  have HS:=Aside0.mk hc
  have HWF:=Aside0.mk hw
  have E1:=Aside0.mk e1
  clear HC hc hw e1
  have hu24:=Try.underlying24
  go_enter Try.func16,Try.ntmps16
  go_upto_region 1 with fail
  have F:=Aside0.mk (Fr.start (q:=q) (b:=b) (c:=c) HR.out)
  clear HR
  obtain ⟨g2,hg2⟩ : ∃ g,g=w.heap.size + 1:=⟨_,rfl⟩
  rw [← hg2] at F ⊢
  clear hg2
  generalize ((w.alloc _).alloc _)=W at F ⊢
  obtain ⟨c0,c1,c2,d0,d1,d2,f0,f1,f2⟩:=F.out.cells
  go_upto_region 3 with (go_at_call 24;(with_reducible refine (phasorref08_May.calls k1 q b _ _ l _ _ F.out.hc HS.out E1.out).mono ?_);rintro e w3 ⟨rfl,hb3⟩;replace F:=Aside0.mk (F.out.below hb3);clear c0 c1 c2 d0 d1 d2 f0 f1 f2 hb3;obtain ⟨c0,c1,c2,d0,d1,d2,f0,f1,f2⟩:=F.out.cells)
  go_upto_region 5 with (go_at_call 46;(with_reducible refine (phasorref08_Unitary.calls k3 q b _ _ l _ _ F.out.hc HS.out E3.out).mono ?_);rintro e w4 ⟨rfl,hb4⟩;replace F:=Aside0.mk (F.out.below hb4);clear c0 c1 c2 d0 d1 d2 f0 f1 f2 hb4;obtain ⟨c0,c1,c2,d0,d1,d2,f0,f1,f2⟩:=F.out.cells)
  go_upto_region 8 with fail
  have bb:=below_alloc (Below.refl w4.heap.size w4) (.cells #[.int .i64 q,.int .i64 b,.slice A l.length c] 24)
  have y5:=blk_new w4 (.cells #[.int .i64 q,.int .i64 b,.slice A l.length c] 24)
  have HG6:=Aside0.mk (show g2 < w4.heap.size from blk_lt F.out.b2)
  replace F:=Aside0.mk (F.out.below bb)
  clear c0 c1 c2 d0 d1 d2 f0 f1 f2
  obtain ⟨c0,c1,c2,d0,d1,d2,f0,f1,f2⟩:=F.out.cells
  clear bb
  generalize w4.heap.size=g6 at y5 HG6 ⊢
  generalize w4.alloc _=w5 at y5 F c0 c1 c2 d0 d1 d2 f0 f1 f2 ⊢
  have Y5:=Aside0.mk y5
  have HI:=rinverse_out (w:=w5) F.out.hc HS.out HWF.out (q:=q) (b:=b)
  rw [HRR.out] at HI
  have HI:=Aside0.mk HI
  go_upto_region 9 with (go_at_call 9;(with_reducible refine HI.out.mono ?_);rintro e w6 hO;obtain ⟨A5,n5,c5,rfl,hn5,hN5,hb5⟩:=out_val hO;have HN5:=Aside0.mk hn5;clear hn5;have y6:=blk_below Y5.out hb5;have r0 : w6.cell? ⟨g6,0,none⟩=some (.int .i64 q):=(by rw [blk_cell y6];rfl);have r1 : w6.cell? ⟨g6,1,none⟩=some (.int .i64 b):=(by rw [blk_cell y6];rfl);have r2 : w6.cell? ⟨g6,2,none⟩=some (.slice A l.length c):=(by rw [blk_cell y6];rfl);have r0f:=blk_frozen y6 0;have r1f:=blk_frozen y6 1;have r2f:=blk_frozen y6 2)
  have y7:=blk_put (blk_put (blk_put y6 0 (.int .i64 q) rfl) 1 (.int .i64 b) rfl) 2 (.slice A5 n5 c5) rfl
  have hN6:=Kd.N_mono hN5 (fun k hk => show w.heap.size≤k∧k≠g2∧k≠g6 from ⟨(F.out.fresh k hk).1,(F.out.fresh k hk).2,by have:=blk_lt Y5.out;omega⟩)
  have hN7:=Kd.N_far (p:=⟨g6,2,none⟩) (Kd.N_far (p:=⟨g6,1,none⟩) (Kd.N_far (p:=⟨g6,0,none⟩) hN6 (fun _ hk => hk.2.2) (.int .i64 q)) (fun _ hk => hk.2.2) (.int .i64 b)) (fun _ hk => hk.2.2) (.slice A5 n5 c5)
  have HV:=Aside0.mk hN7
  have hF6:=((F.out.setOld hb5 (x:=⟨g6,0,none⟩) (.int .i64 q) HG6.out).setOld (Below.refl _ _) (x:=⟨g6,1,none⟩) (.int .i64 b) HG6.out).setOld (Below.refl _ _) (x:=⟨g6,2,none⟩) (.slice A5 n5 c5) HG6.out
  replace F:=Aside0.mk hF6
  clear HI hO hN5 hb5 y6 r0 r1 r2 r0f r1f r2f hN6 hN7 hF6 y5 Y5 c0 c1 c2 d0 d1 d2 f0 f1 f2
  generalize ((w6.setCell _ _).setCell _ _).setCell _ _=w7 at y7 HV F ⊢
  obtain ⟨c0,c1,c2,d0,d1,d2,f0,f1,f2⟩:=F.out.cells
  have h5:=HN5.out
  subst h5
  clear HN5
  have HCC:=Aside0.mk (Kd.N_reads' HV.out).2.1
  replace HV:=Aside0.mk (Kd.N_F HV.out)
  go_upto_region 13 with (go_at_call 47;(with_reducible refine (empty_any _ _ _ _ _ _).mono ?_);rintro e w8 ⟨rfl,hb8⟩)
  have bb:=below_alloc (Below.refl w8.heap.size w8) (.cells #[.int .i64 q,.int .i64 b,.slice none 0 0] 24)
  have y8:=blk_new w8 (.cells #[.int .i64 q,.int .i64 b,.slice none 0 0] 24)
  have b28:=below_step hb8 bb
  have HG8:=Aside0.mk (show g2 < w8.heap.size from blk_lt (F.out.below hb8).b2)
  have HN8:=Aside0.mk (show g6≠w8.heap.size from fun e => by have:=blk_lt (blk_below y7 hb8);omega)
  replace y7:=blk_below y7 b28
  replace F:=Aside0.mk (F.out.below b28)
  have HVN:=Aside0.mk (Kd.F_mono (Kd.F_below (Kd.F_bound HV.out) b28) (fun k hk => show w.heap.size≤k∧k≠g2∧k≠g6∧k≠w8.heap.size from ⟨hk.1.1,hk.1.2.1,hk.1.2.2,by have:=hb8.size;omega⟩))
  clear HV
  clear hb8 bb b28 c0 c1 c2 d0 d1 d2 f0 f1 f2
  generalize w8.heap.size=g8 at y8 HG8 HN8 HVN ⊢
  generalize w8.alloc _=Wl at y7 y8 F HVN ⊢
  have HWL:=Aside0.mk F.out.hb.size
  have HS0:=Aside0.mk (Lp.start (B:=w.heap.size) y8 HG8.out (by have:=F.out.g;omega))
  have Y6:=Aside0.mk y7
  clear y7 y8 hneg hlo hhi hmul
  go_wp2_with fail
  go_loopg [9] n (fun gk v9 wr => ∃ i : Nat,i≤n∧n - i≤gk∧v9=.int .i64 (i : Int)∧∃ v,Aside0 (Lp w.heap.size g2 Wl g8 q b (List.replicate i R).flatten v wr))
  case atStart => exact ⟨0,by omega,by omega,by go_num,_,HS0⟩
  case round =>
    obtain ⟨i,hi0,hi1,rfl,v,HI⟩:=hrel
    by_cases hlt : i < n
    · have HLEN:=Aside0.mk (show (List.replicate i R).flatten.length≤4096∧R.length≤4096 by
        have h1 : (List.replicate i R).flatten.length=i * R.length:=by simp
        have h2:=HMUL.out
        have h3 : i * R.length≤n * R.length:=Nat.mul_le_mul (by omega) (Nat.le_refl _)
        exact ⟨by omega,HSL.out⟩)
      have HX:=Aside0.mk (show (List.replicate i R).flatten ++ R=(List.replicate (i + 1) R).flatten by rw [List.replicate_succ',List.flatten_append];simp)
      generalize (List.replicate i R).flatten=X at HI HLEN HX ⊢
      obtain ⟨Av,nv,cv,hv,hnv⟩ : ∃ A n c,v=.slice A n c∧n=X.length:=(Kd.N_slice HI.out.row).elim fun A h => h.elim fun c e => ⟨A,_,c,e,rfl⟩
      subst hv
      have HNV:=Aside0.mk hnv
      clear hnv
      have hI:=HI.out
      obtain ⟨x0,x1,x2,-⟩:=hI.cells
      have y6:=(hI.keep g6 (blk_lt Y6.out) HN8.out).trans Y6.out
      have o0 : wr.cell? ⟨g6,0,none⟩=some (.int .i64 q):=by rw [blk_cell y6];rfl
      have o1 : wr.cell? ⟨g6,1,none⟩=some (.int .i64 b):=by rw [blk_cell y6];rfl
      have o2 : wr.cell? ⟨g6,2,none⟩=some (.slice A5 R.length c5):=by rw [blk_cell y6];rfl
      have HCD:=Aside0.mk (show Kd.C k46 wr A5 R.length R from k46w_C (Kd.F_now (hI.foot HVN.out (fun _ hk => hk.2.2.2))))
      have HA:=Aside0.mk (show Kd.F k46w wr (fun k => w.heap.size≤k∧k≠g8∧k≠g2) Av X.length X by have h:=Kd.N_F hI.row;rw [HNV.out] at h;exact h)
      clear hI y6
      go_upto_region 15 with (go_at_call 55;(with_reducible refine (more_row (fun k => w.heap.size≤k∧k≠g8∧k≠g2) q b Av nv cv X q b A5 R.length c5 R wr HI.out.fresh HNV.out HA.out rfl HCD.out HCC.out k2 E2.out (by have:=HLEN.out;omega) (by have:=HLEN.out;omega)).mono ?_);rintro e wm ⟨vm,rfl,hnm,hbm⟩;(obtain ⟨Am,nm,cm,rfl⟩ : ∃ A n c,vm=.slice A n c:=(Kd.N_slice hnm).elim fun A h => h.elim fun c e => ⟨A,_,c,e⟩);rw [HX.out] at hnm;have HNX:=Aside0.mk (HI.out.reset hnm hbm);have hI:=HI.out.below hbm;obtain ⟨z0,z1,z2,z2f⟩:=hI.cells;have z0f:=blk_frozen hI.bx 0;have z1f:=blk_frozen hI.bx 1;clear hI)
      clear x0 x1 x2 o0 o1 o2 z0 z1 z2 z0f z1f z2f hnm hbm HCD HA HI
      generalize ((wm.setCell _ _).setCell _ _).setCell _ _=wn at HNX ⊢
      go_wp2
      go_roundg (n - (i + 1))
      case measure => omega
      case rel =>
        have hle:=HLE.out
        have e : wrap64 ((i : Int) + 1)=((i + 1 : Nat) : Int):=by rw [w64 (by omega) (by omega)];rfl
        exact ⟨i + 1,by omega,by omega,by first|(rw [e];done)|(rw [← e];done)|exact congrArg (Value.int .i64) e,_,HNX⟩
    · obtain rfl : i=n:=by omega
      obtain ⟨Av,nv,cv,rfl⟩:=HI.out.form
      have hI:=HI.out
      obtain ⟨x0,x1,x2,-⟩:=hI.cells
      replace F:=Aside0.mk (hI.fr F.out)
      obtain ⟨c0,c1,c2,d0,d1,d2,f0,f1,f2⟩:=F.out.cells
      have HRS:=Aside0.mk (hI.res HWL.out)
      clear hI
      go_wp2
      refine bodyPost_ret (results_ct rfl _ _ g2 24 _ (0,0) _ rfl (F.out.put q b (.slice Av nv cv)) Try.underlying24 rfl (by kernel_rfl)) rfl ?_
      exact F.out.out HRS.out
set_option maxHeartbeats 4000000 in
set_option maxRecDepth 1000000 in
theorem rpow_long_pos (q b : Int) (n : Nat) (A : Option Addr) (c : Nat) (l : List Opn) (w : World) (HC : Kd.C k46 w A l.length l) (hc : l.length≤c) (hw : WfL l) (k1 : Nat) (e1 : phasorref08_May.f k1 q b l=some true) (hle : n≤4096) (hll : l.length≤4096) (hlong : 4096 < n * l.length) :
    Calls Try.prog 16 #[.agg #[.int .i64 q,.int .i64 b,.slice A l.length c],.int .i64 (n : Int)] w (Out w (0,0,[],170)):=by
  have hneg : decide ((n : Int) < 0)=false:=decide_eq_false (by omega)
  have hlo : decide ((n : Int) < -4096)=false:=decide_eq_false (by omega)
  have hhi : decide ((4096 : Int) < (n : Int))=false:=decide_eq_false (by omega)
  have hmul : decide ((4096 : Int) < wrap64 ((n : Int) * (l.length : Int)))=true:=by
    have h5 : n * l.length≤4096 * 4096:=Nat.mul_le_mul hle hll
    have h6 : (n : Int) * (l.length : Int)=((n * l.length : Nat) : Int):=by push_cast;rfl
    rw [h6,w64 (by omega) (by omega)]
    exact decide_eq_true (by omega)
  clear hle hll hlong
  have HR:=Aside0.mk HC
  have HS:=Aside0.mk hc
  have HWF:=Aside0.mk hw
  have E1:=Aside0.mk e1
  clear HC hc hw e1
  have hu24:=Try.underlying24
  go_enter Try.func16,Try.ntmps16
  go_upto_region 1 with fail
  have F:=Aside0.mk (Fr.start (q:=q) (b:=b) (c:=c) HR.out)
  clear HR
  obtain ⟨g2,hg2⟩ : ∃ g,g=w.heap.size + 1:=⟨_,rfl⟩
  rw [← hg2] at F ⊢
  clear hg2
  generalize ((w.alloc _).alloc _)=W at F ⊢
  obtain ⟨c0,c1,c2,d0,d1,d2,f0,f1,f2⟩:=F.out.cells
  go_upto_region 3 with (go_at_call 24;(with_reducible refine (phasorref08_May.calls k1 q b _ _ l _ _ F.out.hc HS.out E1.out).mono ?_);rintro e w3 ⟨rfl,hb3⟩;replace F:=Aside0.mk (F.out.below hb3);clear c0 c1 c2 d0 d1 d2 f0 f1 f2 hb3;obtain ⟨c0,c1,c2,d0,d1,d2,f0,f1,f2⟩:=F.out.cells)
  generalize w3=w4 at F c0 c1 c2 d0 d1 d2 f0 f1 f2 ⊢
  go_upto_region 10 with fail
  have bb:=below_alloc (Below.refl w4.heap.size w4) (.cells #[.int .i64 q,.int .i64 b,.slice A l.length c] 24)
  have y5:=blk_new w4 (.cells #[.int .i64 q,.int .i64 b,.slice A l.length c] 24)
  have HG6:=Aside0.mk (show g2 < w4.heap.size from blk_lt F.out.b2)
  replace F:=Aside0.mk (F.out.below bb)
  clear c0 c1 c2 d0 d1 d2 f0 f1 f2
  obtain ⟨c0,c1,c2,d0,d1,d2,f0,f1,f2⟩:=F.out.cells
  clear bb
  generalize w4.heap.size=g6 at y5 HG6 ⊢
  generalize w4.alloc _=w5 at y5 F c0 c1 c2 d0 d1 d2 f0 f1 f2 ⊢
  have y7:=y5
  clear y5
  generalize w5=w7 at y7 F c0 c1 c2 d0 d1 d2 f0 f1 f2 ⊢
  clear y7
  go_wp2
  refine bodyPost_ret (results_ct rfl _ _ g2 24 _ (0,0) _ rfl (F.out.put 0 0 (.slice none 0 0)) Try.underlying24 rfl (by kernel_rfl)) rfl ?_
  exact F.out.out Fr.nil
set_option maxHeartbeats 4000000 in
set_option maxRecDepth 1000000 in
theorem rpow_good_pos (q b : Int) (n : Nat) (A : Option Addr) (c : Nat) (l : List Opn) (w : World) (HC : Kd.C k46 w A l.length l) (hc : l.length≤c) (hw : WfL l) (k1 : Nat) (e1 : phasorref08_May.f k1 q b l=some true) (hle : n≤4096) (hll : l.length≤4096) (hshort : ¬ 4096 < n * l.length) (k2 : Nat) (e2 : phasorref08_Copy.f k2 q b l=some (q,b,l)) :
    Calls Try.prog 16 #[.agg #[.int .i64 q,.int .i64 b,.slice A l.length c],.int .i64 (n : Int)] w (Out w (q,b,(List.replicate n l).flatten,0)):=by
  have hneg : decide ((n : Int) < 0)=false:=decide_eq_false (by omega)
  have hlo : decide ((n : Int) < -4096)=false:=decide_eq_false (by omega)
  have hhi : decide ((4096 : Int) < (n : Int))=false:=decide_eq_false (by omega)
  have hmul : decide ((4096 : Int) < wrap64 ((n : Int) * (l.length : Int)))=false:=by
    have h5 : n * l.length≤4096 * 4096:=Nat.mul_le_mul hle hll
    have h6 : (n : Int) * (l.length : Int)=((n * l.length : Nat) : Int):=by push_cast;rfl
    rw [h6,w64 (by omega) (by omega)]
    exact decide_eq_false (by omega)
  have hSl : l.length=l.length:=rfl
  have HSL:=Aside0.mk (show l.length≤4096 by rw [hSl];exact hll)
  have HMUL:=Aside0.mk (show n * l.length≤4096 by rw [hSl];omega)
  have E2:=Aside0.mk e2
  have HLE:=Aside0.mk hle
  clear hle hll hshort e2 hSl
  have HR:=Aside0.mk HC
  have HS:=Aside0.mk hc
  have HWF:=Aside0.mk hw
  have E1:=Aside0.mk e1
  clear HC hc hw e1
  have hu24:=Try.underlying24
  go_enter Try.func16,Try.ntmps16
  go_upto_region 1 with fail
  have F:=Aside0.mk (Fr.start (q:=q) (b:=b) (c:=c) HR.out)
  clear HR
  obtain ⟨g2,hg2⟩ : ∃ g,g=w.heap.size + 1:=⟨_,rfl⟩
  rw [← hg2] at F ⊢
  clear hg2
  generalize ((w.alloc _).alloc _)=W at F ⊢
  obtain ⟨c0,c1,c2,d0,d1,d2,f0,f1,f2⟩:=F.out.cells
  go_upto_region 3 with (go_at_call 24;(with_reducible refine (phasorref08_May.calls k1 q b _ _ l _ _ F.out.hc HS.out E1.out).mono ?_);rintro e w3 ⟨rfl,hb3⟩;replace F:=Aside0.mk (F.out.below hb3);clear c0 c1 c2 d0 d1 d2 f0 f1 f2 hb3;obtain ⟨c0,c1,c2,d0,d1,d2,f0,f1,f2⟩:=F.out.cells)
  generalize w3=w4 at F c0 c1 c2 d0 d1 d2 f0 f1 f2 ⊢
  go_upto_region 10 with fail
  have bb:=below_alloc (Below.refl w4.heap.size w4) (.cells #[.int .i64 q,.int .i64 b,.slice A l.length c] 24)
  have y5:=blk_new w4 (.cells #[.int .i64 q,.int .i64 b,.slice A l.length c] 24)
  have HG6:=Aside0.mk (show g2 < w4.heap.size from blk_lt F.out.b2)
  replace F:=Aside0.mk (F.out.below bb)
  clear c0 c1 c2 d0 d1 d2 f0 f1 f2
  obtain ⟨c0,c1,c2,d0,d1,d2,f0,f1,f2⟩:=F.out.cells
  clear bb
  generalize w4.heap.size=g6 at y5 HG6 ⊢
  generalize w4.alloc _=w5 at y5 F c0 c1 c2 d0 d1 d2 f0 f1 f2 ⊢
  have y7:=y5
  clear y5
  generalize w5=w7 at y7 F c0 c1 c2 d0 d1 d2 f0 f1 f2 ⊢
  go_upto_region 13 with (go_at_call 47;(with_reducible refine (empty_any _ _ _ _ _ _).mono ?_);rintro e w8 ⟨rfl,hb8⟩)
  have bb:=below_alloc (Below.refl w8.heap.size w8) (.cells #[.int .i64 q,.int .i64 b,.slice none 0 0] 24)
  have y8:=blk_new w8 (.cells #[.int .i64 q,.int .i64 b,.slice none 0 0] 24)
  have b28:=below_step hb8 bb
  have HG8:=Aside0.mk (show g2 < w8.heap.size from blk_lt (F.out.below hb8).b2)
  have HN8:=Aside0.mk (show g6≠w8.heap.size from fun e => by have:=blk_lt (blk_below y7 hb8);omega)
  replace y7:=blk_below y7 b28
  replace F:=Aside0.mk (F.out.below b28)
  have HVN:=Aside0.mk True.intro
  clear hb8 bb b28 c0 c1 c2 d0 d1 d2 f0 f1 f2
  generalize w8.heap.size=g8 at y8 HG8 HN8 ⊢
  generalize w8.alloc _=Wl at y7 y8 F ⊢
  have HWL:=Aside0.mk F.out.hb.size
  have HS0:=Aside0.mk (Lp.start (B:=w.heap.size) y8 HG8.out (by have:=F.out.g;omega))
  have Y6:=Aside0.mk y7
  clear y7 y8 hneg hlo hhi hmul
  go_wp2_with fail
  go_loopg [9] n (fun gk v9 wr => ∃ i : Nat,i≤n∧n - i≤gk∧v9=.int .i64 (i : Int)∧∃ v,Aside0 (Lp w.heap.size g2 Wl g8 q b (List.replicate i l).flatten v wr))
  case atStart => exact ⟨0,by omega,by omega,by go_num,_,HS0⟩
  case round =>
    obtain ⟨i,hi0,hi1,rfl,v,HI⟩:=hrel
    by_cases hlt : i < n
    · have HLEN:=Aside0.mk (show (List.replicate i l).flatten.length≤4096∧l.length≤4096 by
        have h1 : (List.replicate i l).flatten.length=i * l.length:=by simp
        have h2:=HMUL.out
        have h3 : i * l.length≤n * l.length:=Nat.mul_le_mul (by omega) (Nat.le_refl _)
        exact ⟨by omega,HSL.out⟩)
      have HX:=Aside0.mk (show (List.replicate i l).flatten ++ l=(List.replicate (i + 1) l).flatten by rw [List.replicate_succ',List.flatten_append];simp)
      generalize (List.replicate i l).flatten=X at HI HLEN HX ⊢
      obtain ⟨Av,nv,cv,hv,hnv⟩ : ∃ A n c,v=.slice A n c∧n=X.length:=(Kd.N_slice HI.out.row).elim fun A h => h.elim fun c e => ⟨A,_,c,e,rfl⟩
      subst hv
      have HNV:=Aside0.mk hnv
      clear hnv
      have hI:=HI.out
      obtain ⟨x0,x1,x2,-⟩:=hI.cells
      have y6:=(hI.keep g6 (blk_lt Y6.out) HN8.out).trans Y6.out
      have o0 : wr.cell? ⟨g6,0,none⟩=some (.int .i64 q):=by rw [blk_cell y6];rfl
      have o1 : wr.cell? ⟨g6,1,none⟩=some (.int .i64 b):=by rw [blk_cell y6];rfl
      have o2 : wr.cell? ⟨g6,2,none⟩=some (.slice A l.length c):=by rw [blk_cell y6];rfl
      have HCD:=Aside0.mk (show Kd.C k46 wr A l.length l from (hI.fr F.out).hc)
      have HA:=Aside0.mk (show Kd.F k46w wr (fun k => w.heap.size≤k∧k≠g8∧k≠g2) Av X.length X by have h:=Kd.N_F hI.row;rw [HNV.out] at h;exact h)
      clear hI y6
      go_upto_region 15 with (go_at_call 55;(with_reducible refine (more_row (fun k => w.heap.size≤k∧k≠g8∧k≠g2) q b Av nv cv X q b A l.length c l wr HI.out.fresh HNV.out HA.out rfl HCD.out HS.out k2 E2.out (by have:=HLEN.out;omega) (by have:=HLEN.out;omega)).mono ?_);rintro e wm ⟨vm,rfl,hnm,hbm⟩;(obtain ⟨Am,nm,cm,rfl⟩ : ∃ A n c,vm=.slice A n c:=(Kd.N_slice hnm).elim fun A h => h.elim fun c e => ⟨A,_,c,e⟩);rw [HX.out] at hnm;have HNX:=Aside0.mk (HI.out.reset hnm hbm);have hI:=HI.out.below hbm;obtain ⟨z0,z1,z2,z2f⟩:=hI.cells;have z0f:=blk_frozen hI.bx 0;have z1f:=blk_frozen hI.bx 1;clear hI)
      clear x0 x1 x2 o0 o1 o2 z0 z1 z2 z0f z1f z2f hnm hbm HCD HA HI
      generalize ((wm.setCell _ _).setCell _ _).setCell _ _=wn at HNX ⊢
      go_wp2
      go_roundg (n - (i + 1))
      case measure => omega
      case rel =>
        have hle:=HLE.out
        have e : wrap64 ((i : Int) + 1)=((i + 1 : Nat) : Int):=by rw [w64 (by omega) (by omega)];rfl
        exact ⟨i + 1,by omega,by omega,by first|(rw [e];done)|(rw [← e];done)|exact congrArg (Value.int .i64) e,_,HNX⟩
    · obtain rfl : i=n:=by omega
      obtain ⟨Av,nv,cv,rfl⟩:=HI.out.form
      have hI:=HI.out
      obtain ⟨x0,x1,x2,-⟩:=hI.cells
      replace F:=Aside0.mk (hI.fr F.out)
      obtain ⟨c0,c1,c2,d0,d1,d2,f0,f1,f2⟩:=F.out.cells
      have HRS:=Aside0.mk (hI.res HWL.out)
      clear hI
      go_wp2
      refine bodyPost_ret (results_ct rfl _ _ g2 24 _ (0,0) _ rfl (F.out.put q b (.slice Av nv cv)) Try.underlying24 rfl (by kernel_rfl)) rfl ?_
      exact F.out.out HRS.out
theorem rpower_out {q b k : Int} {A : Option Addr} {c : Nat} {l : List Opn} {w : World} (HC : Kd.C k46 w A l.length l) (hc : l.length≤c) (hw : WfL l) :
    Calls Try.prog 16 #[.agg #[.int .i64 q,.int .i64 b,.slice A l.length c],.int .i64 k] w (Out w (powR q b l k)):=by
  obtain ⟨k1,e1⟩:=(may_is (q:=q) (b:=b) hw).get
  unfold powR
  by_cases h : okc q b l=true
  · have ho:=okc_facts h
    have hl:=ho.n
    rw [h] at e1
    rw [if_pos h]
    obtain ⟨n,hn⟩ : ∃ n,n=k.natAbs:=⟨_,rfl⟩
    obtain ⟨k3,e3⟩:=(runi_is (q:=q) (b:=b) (l:=l) (by omega)).get
    by_cases hk : k < 0
    · obtain rfl : k=-(n : Int):=by omega
      have hn0 : 0 < n:=by omega
      by_cases h4 : 4096 < n
      · have e : (if -(n : Int) < 0∧l.any isBad=true then ((0,0,[],170) : Int × Int × List Opn × Int) else if -(n : Int) < -4096∨4096 < -(n : Int) then (0,0,[],170) else if 4096 < (-(n : Int)).natAbs * l.length then (0,0,[],170) else (q,b,(List.replicate (-(n : Int)).natAbs (if -(n : Int) < 0 then l.reverse.map invO else l)).flatten,0))=(0,0,[],170):=by
          split
          · rfl
          · rw [if_pos (by omega)]
        rw [e]
        exact rpow_out_neg q b n A c l w HC hc hw k1 e1 h4
      · by_cases hb : l.any isBad=true
        · rw [if_pos ⟨hk,hb⟩]
          rw [hb] at e3
          exact rpow_bad q b n A c l w HC hc hw k1 e1 (by omega) hn0 k3 e3
        · rw [if_neg (fun e => hb e.2)]
          have hR : invR q b l=(q,b,l.reverse.map invO,0):=by unfold invR;rw [if_pos h,if_neg hb]
          have hlr : (l.reverse.map invO).length=l.length:=by simp
          have hb':=hb
          rw [Bool.not_eq_true] at hb'
          rw [hb'] at e3
          rw [if_neg (by omega),← hn,if_pos hk]
          by_cases h5 : 4096 < n * l.length
          · rw [if_pos h5]
            exact rpow_long_neg q b n A c l _ w HC hc hw k1 e1 hR hn0 k3 e3 (by omega) hl h5
          · rw [if_neg h5]
            obtain ⟨k2,e2⟩:=(rcopy_is (q:=q) (b:=b) (l:=l.reverse.map invO) (fun o ho2 => by have:=inv_ops h o ho2;omega) (by rw [hlr];omega)).get
            exact rpow_good_neg q b n A c l _ w HC hc hw k1 e1 hR hlr hn0 k3 e3 (by omega) hl h5 k2 e2
    · obtain rfl : k=(n : Int):=by omega
      rw [if_neg (fun e => hk e.1)]
      by_cases h4 : 4096 < n
      · rw [if_pos (by omega)]
        exact rpow_out_pos q b n A c l w HC hc hw k1 e1 h4
      · rw [if_neg (by omega),← hn,if_neg hk]
        by_cases h5 : 4096 < n * l.length
        · rw [if_pos h5]
          exact rpow_long_pos q b n A c l w HC hc hw k1 e1 (by omega) hl h5
        · rw [if_neg h5]
          obtain ⟨k2,e2⟩:=(rcopy_is (q:=q) (b:=b) (l:=l) (fun o ho2 => by have:=(ho.op o ho2).len;omega) (by omega)).get
          exact rpow_good_pos q b n A c l w HC hc hw k1 e1 (by omega) hl h5 k2 e2
  · rw [if_neg h]
    rw [Bool.not_eq_true] at h
    rw [h] at e1
    exact rpow_no q b k A c l w HC hc hw k1 e1
end Go.Proofs.Ytbelnopbggkdfaa.Q
end

section
namespace Go.Proofs.Ytbelnopbggkdfaa.Q
open Go.RowKit Go.Proofs.YtbelnopbggkdfaaW.PrintWords Go.Proofs.YtbelnopbggkdfaaW.PrintLast Go.Proofs.YtbelnopbggkdfaaW.PrintMore
def gop (k : Int) (qs : List Int) : Opn:=⟨1,k,qs,0,-1,0⟩
def hdL : List Opn:=[gop 5 [0],gop 11 [0,1]]
theorem hd_inv : invR 2 0 hdL=(2,0,[gop 11 [0,1],gop 6 [0]],0):=by rfl
theorem hd_conj : conjR 1 0 [gop 3 [0]]=(1,0,[gop 3 [0],gop 2 [0],gop 4 [0],gop 2 [0],gop 4 [0]],0):=by rfl
theorem hd_pow : powR 2 0 hdL (-2)=(2,0,[gop 11 [0,1],gop 6 [0],gop 11 [0,1],gop 6 [0]],0):=by rfl
theorem hd_mir : mirR 2 0 hdL=(2,0,[gop 5 [0],gop 11 [0,1],gop 11 [0,1],gop 6 [0]],0):=by rfl
theorem hd_ctl : ctlR 2 0 [gop 14 [0,1]]=(3,0,[gop 20 [2,0,1]],0):=by rfl
theorem hd_ctl2 : ctlR 2 0 hdL=(0,0,[],170):=by rfl
theorem hd_wf : WfL hdL:=by
  intro o ho
  simp only [hdL,List.mem_cons,List.not_mem_nil,or_false] at ho
  rcases ho with rfl|rfl <;> decide
theorem hd_wf1 {k : Int} {qs : List Int} (h : (Lit.int .i64 k).wf=true) : WfL [gop k qs]:=by
  intro o ho
  simp only [List.mem_cons,List.not_mem_nil,or_false] at ho
  subst ho
  exact h
theorem ints_blk {W : World} {g : Nat} {xs : List Int} {t : TypeId} (h : W.heap[g]?=some (.cells (xs.map (Value.int .i64)).toArray t (0,0))) (hl : xs.length≤100) : Kd.C (Kd.int .i64) W (some ⟨g,0,none⟩) xs.length xs:=by
  refine ⟨rfl,by omega,fun _ => ⟨_,rfl,fun j p hp => ⟨[.int .i64 p],rfl,rfl,fun i u hu => ?_⟩⟩⟩
  have hi : i=0:=by
    have:=(List.getElem?_eq_some_iff.1 hu).1
    simpa using this
  subst hi
  obtain rfl : Value.int .i64 p=u:=by simpa using hu
  have hj:=(List.getElem?_eq_some_iff.1 hp).1
  have e : j * (Kd.int .i64).sz + 0=j:=by show j * 1 + 0=j;omega
  rw [add_plain,e,ints_cell h j hj,List.getD_eq_getElem?_getD,hp]
  rfl
theorem ops_one {W : World} {g : Nat} {x : Opn} {A : Option Addr} {c : Nat} (h : W.heap[g]?=some (.cells (ofV x A c).cs.toArray 46 (0,0))) (hc : x.f2.length≤c) (hC : Kd.C (Kd.int .i64) W A x.f2.length x.f2) : Kd.C k46 W (some ⟨g,0,none⟩) 1 [x]:=by
  refine ⟨rfl,by omega,fun _ => ⟨_,rfl,fun j p hp => ?_⟩⟩
  have hj:=(List.getElem?_eq_some_iff.1 hp).1
  obtain rfl : j=0:=by simpa using hj
  obtain rfl : x=p:=by simpa using hp
  refine ⟨_,rfl,k46_mk W x hc hC,fun i u hu => ?_⟩
  have e : 0 * k46.sz + i=i:=by rw [Nat.zero_mul,Nat.zero_add]
  rw [add_plain,e,blk_cell h,List.getElem?_toArray]
  exact hu
theorem ops_two {W : World} {g : Nat} {x y : Opn} {A A' : Option Addr} {c c' : Nat} (h : W.heap[g]?=some (.cells ((ofV x A c).cs ++ (ofV y A' c').cs).toArray 46 (0,0))) (hc : x.f2.length≤c) (hC : Kd.C (Kd.int .i64) W A x.f2.length x.f2) (hc' : y.f2.length≤c') (hC' : Kd.C (Kd.int .i64) W A' y.f2.length y.f2) : Kd.C k46 W (some ⟨g,0,none⟩) 2 [x,y]:=by
  refine ⟨rfl,by omega,fun _ => ⟨_,rfl,fun j p hp => ?_⟩⟩
  have hj:=(List.getElem?_eq_some_iff.1 hp).1
  rcases j with _|_|j
  · obtain rfl : x=p:=by simpa using hp
    refine ⟨_,rfl,k46_mk W x hc hC,fun i u hu => ?_⟩
    have hi:=(List.getElem?_eq_some_iff.1 hu).1
    have e : 0 * k46.sz + i=i:=by rw [Nat.zero_mul,Nat.zero_add]
    rw [add_plain,e,blk_cell h,List.getElem?_toArray,List.getElem?_append_left (show i < 6 from hi)]
    exact hu
  · obtain rfl : y=p:=by simpa using hp
    refine ⟨_,rfl,k46_mk W y hc' hC',fun i u hu => ?_⟩
    have e : (0 + 1) * k46.sz + i=6 + i:=by show (0 + 1) * 6 + i=_;omega
    rw [add_plain,e,blk_cell h,List.getElem?_toArray,List.getElem?_append_right (show 6≤6 + i by omega)]
    show (ofV y A' c').cs[6 + i - 6]?=_
    rw [Nat.add_sub_cancel_left]
    exact hu
  · exact absurd hj (by simp)
theorem out_gate {w w' : World} {A : Option Addr} {n c : Nat} {s : List Opn} (h : NW w w' (.slice A n c) s) (hp : 0 < s.length) : ∃ g,A=some ⟨g,0,none⟩∧∀ (p : Nat) (x : Opn),s[p]?=some x→w'.cell? ⟨g,p * 6 + 1,none⟩=some (.int .i64 x.f1):=by
  obtain ⟨g,cap,e,-⟩:=Kd.N_form h hp
  injection e with e _ _
  subst e
  refine ⟨g,rfl,fun p x hx => ?_⟩
  obtain ⟨A2,c2,hcx,-⟩:=(RowS.of h).at hx
  exact (hcx 1 _ (by omega) rfl).1
set_option maxHeartbeats 4000000 in
set_option maxRecDepth 1000000 in
theorem g_any (k : Int) (A : Option Addr) (n c : Nat) (w : World) :
    Calls Try.prog 59 #[.int .i64 k,.slice A n c] w fun e w' => e=.returned (.agg #[.int .i64 1,.int .i64 k,.slice A n c,.int .i64 0,.int .i64 (-1),.int .i64 0])∧Below w.heap.size w w':=by
  have hu46:=Try.underlying46
  go_enter Try.func59,Try.ntmps59
  go_wp2
  refine bodyPost_ret (results_cell_row rfl _ _ w.heap.size 46 #[.int .i64 1,.int .i64 k,.slice A n c,.int .i64 0,.int .i64 (-1),.int .i64 0] (0,0) _ rfl (blk_new w _) Try.underlying46 rfl (by kernel_rfl)) rfl ?_
  exact ⟨rfl,below_alloc (Below.refl _ _) _⟩
theorem hd3 {W : World} {g : Nat} {A : Option Addr} (h : W.heap[g]?=some (.cells #[.int .i64 1,.int .i64 3,.slice A 1 1,.int .i64 0,.int .i64 (-1),.int .i64 0] 46 (0,0))) (hC : Kd.C (Kd.int .i64) W A 1 [0]) :
    Calls Try.prog 11 #[.agg #[.int .i64 1,.int .i64 0,.slice (some ⟨g,0,none⟩) 1 1]] W (Out W (1,0,[gop 3 [0],gop 2 [0],gop 4 [0],gop 2 [0],gop 4 [0]],0)):=by
  have h2:=conj_out (q:=1) (b:=0) (c:=1) (l:=[gop 3 [0]]) (ops_one (x:=gop 3 [0]) (c:=1) h (by decide) hC) (by decide) (hd_wf1 (by decide))
  rw [hd_conj] at h2
  exact h2
theorem hd6 {W : World} {g : Nat} {A : Option Addr} (h : W.heap[g]?=some (.cells #[.int .i64 1,.int .i64 14,.slice A 2 2,.int .i64 0,.int .i64 (-1),.int .i64 0] 46 (0,0))) (hC : Kd.C (Kd.int .i64) W A 2 [0,1]) :
    Calls Try.prog 17 #[.agg #[.int .i64 2,.int .i64 0,.slice (some ⟨g,0,none⟩) 1 1]] W (Out W (3,0,[gop 20 [2,0,1]],0)):=by
  have h2:=control_out (q:=2) (b:=0) (c:=1) (l:=[gop 14 [0,1]]) (ops_one (x:=gop 14 [0,1]) (c:=2) h (by decide) hC) (by decide) (hd_wf1 (by decide))
  rw [hd_ctl] at h2
  exact h2
theorem hd2 {W : World} {g : Nat} (hC : Kd.C k46 W (some ⟨g,0,none⟩) 2 hdL) : Calls Try.prog 8 #[.agg #[.int .i64 2,.int .i64 0,.slice (some ⟨g,0,none⟩) 2 2]] W (Out W (2,0,[gop 11 [0,1],gop 6 [0]],0)):=by
  have h2:=inverse_out (q:=2) (b:=0) (c:=2) (l:=hdL) hC (by decide) hd_wf
  rw [hd_inv] at h2
  exact h2
theorem hd4 {W : World} {g : Nat} (hC : Kd.C k46 W (some ⟨g,0,none⟩) 2 hdL) : Calls Try.prog 15 #[.agg #[.int .i64 2,.int .i64 0,.slice (some ⟨g,0,none⟩) 2 2],.int .i64 (-2)] W (Out W (2,0,[gop 11 [0,1],gop 6 [0],gop 11 [0,1],gop 6 [0]],0)):=by
  have h2:=power_out (q:=2) (b:=0) (k:=-2) (c:=2) (l:=hdL) hC (by decide) hd_wf
  rw [hd_pow] at h2
  exact h2
theorem hd5 {W : World} {g : Nat} (hC : Kd.C k46 W (some ⟨g,0,none⟩) 2 hdL) : Calls Try.prog 13 #[.agg #[.int .i64 2,.int .i64 0,.slice (some ⟨g,0,none⟩) 2 2]] W (Out W (2,0,[gop 5 [0],gop 11 [0,1],gop 11 [0,1],gop 6 [0]],0)):=by
  have h2:=mirror_out (q:=2) (b:=0) (c:=2) (l:=hdL) hC (by decide) hd_wf
  rw [hd_mir] at h2
  exact h2
theorem hd7 {W : World} {g : Nat} (hC : Kd.C k46 W (some ⟨g,0,none⟩) 2 hdL) : Calls Try.prog 17 #[.agg #[.int .i64 2,.int .i64 0,.slice (some ⟨g,0,none⟩) 2 2]] W (Out W (0,0,[],170)):=by
  have h2:=control_out (q:=2) (b:=0) (c:=2) (l:=hdL) hC (by decide) hd_wf
  rw [hd_ctl2] at h2
  exact h2
end Go.Proofs.Ytbelnopbggkdfaa.Q
end

section
namespace Go.Proofs.Ytbelnopbggkdfaa.Q
open Go.RowKit Go.Proofs.YtbelnopbggkdfaaW.PrintWords Go.Proofs.YtbelnopbggkdfaaW.PrintLast Go.Proofs.YtbelnopbggkdfaaW.PrintMore
set_option maxHeartbeats 4000000 in
set_option maxRecDepth 1000000 in
theorem heads17_any (w : World) : Calls Try.prog 20 #[] w fun e w' => e=.returned (.bool true)∧Below w.heap.size w w':=by
  have hu24:=Try.underlying24
  have hu46:=Try.underlying46
  go_enter Try.func20,Try.ntmps20
  go_upto_region 2 with (first|(go_at_call 59;(with_reducible refine (g_any 5 _ _ _ _).mono ?_);rintro e wa ⟨rfl,hba⟩;have Ha:=Aside0.mk hba;clear hba)|(go_at_call 59;(with_reducible refine (g_any 11 _ _ _ _).mono ?_);rintro e wb ⟨rfl,hbb⟩;have Hb:=Aside0.mk hbb;clear hbb))
  have y1:=blk_alloc (blk_alloc (blk_below (blk_alloc (blk_below (blk_new w (.cells #[.int .i64 0] 3)) Ha.out) (.cells #[.int .i64 0,.int .i64 1] 3)) Hb.out) (.cells #[.int .i64 1,.int .i64 5,.slice (some ⟨w.heap.size,0,none⟩) 1 1,.int .i64 0,.int .i64 (-1),.int .i64 0,.int .i64 1,.int .i64 11,.slice (some ⟨wa.heap.size,0,none⟩) 2 2,.int .i64 0,.int .i64 (-1),.int .i64 0] 46)) (.cells #[.int .i64 2,.int .i64 0,.slice (some ⟨wb.heap.size,0,none⟩) 2 2] 24)
  have y2:=blk_alloc (blk_alloc (blk_below (blk_new wa (.cells #[.int .i64 0,.int .i64 1] 3)) Hb.out) (.cells #[.int .i64 1,.int .i64 5,.slice (some ⟨w.heap.size,0,none⟩) 1 1,.int .i64 0,.int .i64 (-1),.int .i64 0,.int .i64 1,.int .i64 11,.slice (some ⟨wa.heap.size,0,none⟩) 2 2,.int .i64 0,.int .i64 (-1),.int .i64 0] 46)) (.cells #[.int .i64 2,.int .i64 0,.slice (some ⟨wb.heap.size,0,none⟩) 2 2] 24)
  have y3:=blk_alloc (blk_new wb (.cells #[.int .i64 1,.int .i64 5,.slice (some ⟨w.heap.size,0,none⟩) 1 1,.int .i64 0,.int .i64 (-1),.int .i64 0,.int .i64 1,.int .i64 11,.slice (some ⟨wa.heap.size,0,none⟩) 2 2,.int .i64 0,.int .i64 (-1),.int .i64 0] 46)) (.cells #[.int .i64 2,.int .i64 0,.slice (some ⟨wb.heap.size,0,none⟩) 2 2] 24)
  have y4 : ((wb.alloc (.cells #[.int .i64 1,.int .i64 5,.slice (some ⟨w.heap.size,0,none⟩) 1 1,.int .i64 0,.int .i64 (-1),.int .i64 0,.int .i64 1,.int .i64 11,.slice (some ⟨wa.heap.size,0,none⟩) 2 2,.int .i64 0,.int .i64 (-1),.int .i64 0] 46)).alloc (.cells #[.int .i64 2,.int .i64 0,.slice (some ⟨wb.heap.size,0,none⟩) 2 2] 24)).heap[wb.heap.size + 1]?=some (.cells #[.int .i64 2,.int .i64 0,.slice (some ⟨wb.heap.size,0,none⟩) 2 2] 24 (0,0)):=by
    have:=blk_new (wb.alloc (.cells #[.int .i64 1,.int .i64 5,.slice (some ⟨w.heap.size,0,none⟩) 1 1,.int .i64 0,.int .i64 (-1),.int .i64 0,.int .i64 1,.int .i64 11,.slice (some ⟨wa.heap.size,0,none⟩) 2 2,.int .i64 0,.int .i64 (-1),.int .i64 0] 46)) (.cells #[.int .i64 2,.int .i64 0,.slice (some ⟨wb.heap.size,0,none⟩) 2 2] 24)
    simpa using this
  have HC:=Aside0.mk (show Kd.C k46 _ (some ⟨wb.heap.size,0,none⟩) 2 hdL from ops_two (x:=gop 5 [0]) (y:=gop 11 [0,1]) (c:=1) (c':=2) y3 (by decide) (ints_blk (xs:=[0]) y1 (by decide)) (by decide) (ints_blk (xs:=[0,1]) y2 (by decide)))
  have hb:=below_alloc (below_alloc (below_step (below_alloc (below_step (below_alloc (Below.refl w.heap.size w) (.cells #[.int .i64 0] 3)) Ha.out) (.cells #[.int .i64 0,.int .i64 1] 3)) Hb.out) (.cells #[.int .i64 1,.int .i64 5,.slice (some ⟨w.heap.size,0,none⟩) 1 1,.int .i64 0,.int .i64 (-1),.int .i64 0,.int .i64 1,.int .i64 11,.slice (some ⟨wa.heap.size,0,none⟩) 2 2,.int .i64 0,.int .i64 (-1),.int .i64 0] 46)) (.cells #[.int .i64 2,.int .i64 0,.slice (some ⟨wb.heap.size,0,none⟩) 2 2] 24)
  have HB:=Aside0.mk hb
  clear hb Ha Hb y1 y2 y3
  generalize hgc : wb.heap.size + 1=gc at y4 ⊢
  clear hgc
  generalize wb.heap.size=gr at y4 HC HB ⊢
  generalize ((World.alloc _ _).alloc _)=W at y4 HC HB ⊢
  have c0 : W.cell? ⟨gc,0,none⟩=some (.int .i64 2):=by rw [blk_cell y4];rfl
  have c1 : W.cell? ⟨gc,1,none⟩=some (.int .i64 0):=by rw [blk_cell y4];rfl
  have c2 : W.cell? ⟨gc,2,none⟩=some (.slice (some ⟨gr,0,none⟩) 2 2):=by rw [blk_cell y4];rfl
  clear y4
  go_upto_region 3 with (go_at_call 8;(with_reducible refine (hd2 HC.out).mono ?_);rintro e w1 hO;obtain ⟨Ap,np,cp,rfl,hn,hN,hbR⟩:=out_val hO;obtain rfl : np=2:=hn;clear hO;obtain ⟨rp,hr,hk⟩:=out_gate hN (by decide);subst hr;have kp0 : w1.cell? ⟨rp,1,none⟩=some (.int .i64 11):=hk 0 _ rfl;have kp1 : w1.cell? ⟨rp,7,none⟩=some (.int .i64 6):=hk 1 _ rfl;clear hk;clear hN)
  have bb:=below_alloc (hbR) (.cells #[.int .i64 2,.int .i64 0,.slice (some ⟨rp,0,none⟩) 2 cp] 24)
  have yb:=blk_new w1 (.cells #[.int .i64 2,.int .i64 0,.slice (some ⟨rp,0,none⟩) 2 cp] 24)
  have ba:=below_alloc (Below.refl w1.heap.size w1) (.cells #[.int .i64 2,.int .i64 0,.slice (some ⟨rp,0,none⟩) 2 cp] 24)
  replace c0:=below_cell bb c0
  replace c1:=below_cell bb c1
  replace c2:=below_cell bb c2
  replace HC:=Aside0.mk (Kd.C_below HC.out bb)
  replace HB:=Aside0.mk (below_step HB.out bb)
  replace kp0:=below_cell ba kp0
  replace kp1:=below_cell ba kp1
  clear bb ba
  generalize w1.heap.size=xp at yb ⊢
  generalize w1.alloc _=Wp at yb HC HB c0 c1 c2 kp0 kp1 ⊢
  have zp0 : Wp.cell? ⟨xp,0,none⟩=some (.int .i64 2):=by rw [blk_cell yb];rfl
  have zp2 : Wp.cell? ⟨xp,2,none⟩=some (.slice (some ⟨rp,0,none⟩) 2 cp):=by rw [blk_cell yb];rfl
  clear yb
  go_upto_region 4 with (first|(go_at_call 59;(with_reducible refine (g_any 3 _ _ _ _).mono ?_);rintro e wg ⟨rfl,hbg⟩;have Hg:=Aside0.mk hbg;clear hbg)|(go_at_call 11;(with_reducible refine (hd3 (blk_new wg _) (ints_blk (xs:=[0]) (blk_alloc (blk_below (blk_new Wp _) Hg.out) _) (by decide))).mono ?_);rintro e w2 hO;obtain ⟨Aq,nq,cq,rfl,hn,hN,hbR⟩:=out_val hO;obtain rfl : nq=5:=hn;clear hO;clear hN))
  have bb:=below_alloc (below_step (below_alloc (below_step (below_alloc (Below.refl Wp.heap.size Wp) (.cells #[.int .i64 0] 3)) Hg.out) (.cells #[.int .i64 1,.int .i64 3,.slice (some ⟨Wp.heap.size,0,none⟩) 1 1,.int .i64 0,.int .i64 (-1),.int .i64 0] 46)) hbR) (.cells #[.int .i64 1,.int .i64 0,.slice Aq 5 cq] 24)
  have yb:=blk_new w2 (.cells #[.int .i64 1,.int .i64 0,.slice Aq 5 cq] 24)
  have ba:=below_alloc (Below.refl w2.heap.size w2) (.cells #[.int .i64 1,.int .i64 0,.slice Aq 5 cq] 24)
  replace c0:=below_cell bb c0
  replace c1:=below_cell bb c1
  replace c2:=below_cell bb c2
  replace kp0:=below_cell bb kp0
  replace kp1:=below_cell bb kp1
  replace zp0:=below_cell bb zp0
  replace zp2:=below_cell bb zp2
  replace HC:=Aside0.mk (Kd.C_below HC.out bb)
  replace HB:=Aside0.mk (below_step HB.out bb)
  clear bb ba
  generalize w2.heap.size=xq at yb ⊢
  generalize w2.alloc _=Wq at yb HC HB c0 c1 c2 kp0 kp1 zp0 zp2 ⊢
  have zq0 : Wq.cell? ⟨xq,0,none⟩=some (.int .i64 1):=by rw [blk_cell yb];rfl
  have zq2 : Wq.cell? ⟨xq,2,none⟩=some (.slice Aq 5 cq):=by rw [blk_cell yb];rfl
  clear yb
  go_upto_region 5 with (go_at_call 15;(with_reducible refine (hd4 HC.out).mono ?_);rintro e w3 hO;obtain ⟨As,ns,cs,rfl,hn,hN,hbR⟩:=out_val hO;obtain rfl : ns=4:=hn;clear hO;clear hN)
  have bb:=below_alloc (hbR) (.cells #[.int .i64 2,.int .i64 0,.slice As 4 cs] 24)
  have yb:=blk_new w3 (.cells #[.int .i64 2,.int .i64 0,.slice As 4 cs] 24)
  have ba:=below_alloc (Below.refl w3.heap.size w3) (.cells #[.int .i64 2,.int .i64 0,.slice As 4 cs] 24)
  replace c0:=below_cell bb c0
  replace c1:=below_cell bb c1
  replace c2:=below_cell bb c2
  replace kp0:=below_cell bb kp0
  replace kp1:=below_cell bb kp1
  replace zp0:=below_cell bb zp0
  replace zp2:=below_cell bb zp2
  replace zq0:=below_cell bb zq0
  replace zq2:=below_cell bb zq2
  replace HC:=Aside0.mk (Kd.C_below HC.out bb)
  replace HB:=Aside0.mk (below_step HB.out bb)
  clear bb ba
  generalize w3.heap.size=xs at yb ⊢
  generalize w3.alloc _=Ws at yb HC HB c0 c1 c2 kp0 kp1 zp0 zp2 zq0 zq2 ⊢
  have zs0 : Ws.cell? ⟨xs,0,none⟩=some (.int .i64 2):=by rw [blk_cell yb];rfl
  have zs2 : Ws.cell? ⟨xs,2,none⟩=some (.slice As 4 cs):=by rw [blk_cell yb];rfl
  clear yb
  go_upto_region 6 with (go_at_call 13;(with_reducible refine (hd5 HC.out).mono ?_);rintro e w4 hO;obtain ⟨At,nt,ct,rfl,hn,hN,hbR⟩:=out_val hO;obtain rfl : nt=4:=hn;clear hO;clear hN)
  have bb:=below_alloc (hbR) (.cells #[.int .i64 2,.int .i64 0,.slice At 4 ct] 24)
  have yb:=blk_new w4 (.cells #[.int .i64 2,.int .i64 0,.slice At 4 ct] 24)
  have ba:=below_alloc (Below.refl w4.heap.size w4) (.cells #[.int .i64 2,.int .i64 0,.slice At 4 ct] 24)
  replace c0:=below_cell bb c0
  replace c1:=below_cell bb c1
  replace c2:=below_cell bb c2
  replace kp0:=below_cell bb kp0
  replace kp1:=below_cell bb kp1
  replace zp0:=below_cell bb zp0
  replace zp2:=below_cell bb zp2
  replace zq0:=below_cell bb zq0
  replace zq2:=below_cell bb zq2
  replace zs0:=below_cell bb zs0
  replace zs2:=below_cell bb zs2
  replace HC:=Aside0.mk (Kd.C_below HC.out bb)
  replace HB:=Aside0.mk (below_step HB.out bb)
  clear bb ba
  generalize w4.heap.size=xt at yb ⊢
  generalize w4.alloc _=Wt at yb HC HB c0 c1 c2 kp0 kp1 zp0 zp2 zq0 zq2 zs0 zs2 ⊢
  have zt0 : Wt.cell? ⟨xt,0,none⟩=some (.int .i64 2):=by rw [blk_cell yb];rfl
  have zt2 : Wt.cell? ⟨xt,2,none⟩=some (.slice At 4 ct):=by rw [blk_cell yb];rfl
  clear yb
  go_upto_region 7 with (first|(go_at_call 59;(with_reducible refine (g_any 14 _ _ _ _).mono ?_);rintro e wh ⟨rfl,hbh⟩;have Hh:=Aside0.mk hbh;clear hbh)|(go_at_call 17;(with_reducible refine (hd6 (blk_new wh _) (ints_blk (xs:=[0,1]) (blk_alloc (blk_below (blk_new Wt _) Hh.out) _) (by decide))).mono ?_);rintro e w5 hO;obtain ⟨Au,nu,cu,rfl,hn,hN,hbR⟩:=out_val hO;obtain rfl : nu=1:=hn;clear hO;obtain ⟨ru,hr,hk⟩:=out_gate hN (by decide);subst hr;have ku0 : w5.cell? ⟨ru,1,none⟩=some (.int .i64 20):=hk 0 _ rfl;clear hk;clear hN))
  have bb:=below_alloc (below_step (below_alloc (below_step (below_alloc (Below.refl Wt.heap.size Wt) (.cells #[.int .i64 0,.int .i64 1] 3)) Hh.out) (.cells #[.int .i64 1,.int .i64 14,.slice (some ⟨Wt.heap.size,0,none⟩) 2 2,.int .i64 0,.int .i64 (-1),.int .i64 0] 46)) hbR) (.cells #[.int .i64 3,.int .i64 0,.slice (some ⟨ru,0,none⟩) 1 cu] 24)
  have yb:=blk_new w5 (.cells #[.int .i64 3,.int .i64 0,.slice (some ⟨ru,0,none⟩) 1 cu] 24)
  have ba:=below_alloc (Below.refl w5.heap.size w5) (.cells #[.int .i64 3,.int .i64 0,.slice (some ⟨ru,0,none⟩) 1 cu] 24)
  replace c0:=below_cell bb c0
  replace c1:=below_cell bb c1
  replace c2:=below_cell bb c2
  replace kp0:=below_cell bb kp0
  replace kp1:=below_cell bb kp1
  replace zp0:=below_cell bb zp0
  replace zp2:=below_cell bb zp2
  replace zq0:=below_cell bb zq0
  replace zq2:=below_cell bb zq2
  replace zs0:=below_cell bb zs0
  replace zs2:=below_cell bb zs2
  replace zt0:=below_cell bb zt0
  replace zt2:=below_cell bb zt2
  replace HC:=Aside0.mk (Kd.C_below HC.out bb)
  replace HB:=Aside0.mk (below_step HB.out bb)
  replace ku0:=below_cell ba ku0
  clear bb ba
  generalize w5.heap.size=xu at yb ⊢
  generalize w5.alloc _=Wu at yb HC HB c0 c1 c2 kp0 kp1 zp0 zp2 zq0 zq2 zs0 zs2 zt0 zt2 ku0 ⊢
  have zu0 : Wu.cell? ⟨xu,0,none⟩=some (.int .i64 3):=by rw [blk_cell yb];rfl
  have zu2 : Wu.cell? ⟨xu,2,none⟩=some (.slice (some ⟨ru,0,none⟩) 1 cu):=by rw [blk_cell yb];rfl
  clear yb
  go_wp2_with (go_at_call 17;(with_reducible refine (hd7 HC.out).mono ?_);rintro e w6 hO;obtain ⟨Av,nv,cv,rfl,hn,hN,hbR⟩:=out_val hO;obtain rfl : nv=0:=hn;clear hO;clear hN;replace kp0:=below_cell hbR kp0;have lkp0:=World.block_lt_of_cell? _ _ kp0;replace kp1:=below_cell hbR kp1;have lkp1:=World.block_lt_of_cell? _ _ kp1;replace zp0:=below_cell hbR zp0;have lzp0:=World.block_lt_of_cell? _ _ zp0;replace zp2:=below_cell hbR zp2;have lzp2:=World.block_lt_of_cell? _ _ zp2;replace zq0:=below_cell hbR zq0;have lzq0:=World.block_lt_of_cell? _ _ zq0;replace zq2:=below_cell hbR zq2;have lzq2:=World.block_lt_of_cell? _ _ zq2;replace zs0:=below_cell hbR zs0;have lzs0:=World.block_lt_of_cell? _ _ zs0;replace zs2:=below_cell hbR zs2;have lzs2:=World.block_lt_of_cell? _ _ zs2;replace zt0:=below_cell hbR zt0;have lzt0:=World.block_lt_of_cell? _ _ zt0;replace zt2:=below_cell hbR zt2;have lzt2:=World.block_lt_of_cell? _ _ zt2;replace ku0:=below_cell hbR ku0;have lku0:=World.block_lt_of_cell? _ _ ku0;replace zu0:=below_cell hbR zu0;have lzu0:=World.block_lt_of_cell? _ _ zu0;replace zu2:=below_cell hbR zu2;have lzu2:=World.block_lt_of_cell? _ _ zu2;replace HB:=Aside0.mk (below_step HB.out hbR);dsimp only at lkp0 lkp1 lzp0 lzp2 lzq0 lzq2 lzs0 lzs2 lzt0 lzt2 lku0 lzu0 lzu2;clear hbR)
  go_ret
  exact ⟨rfl,below_alloc HB.out _⟩
end Go.Proofs.Ytbelnopbggkdfaa.Q
end

section
namespace Go.Proofs.Ytbelnopbggkdfaa.Q
open Go.RowKit Go.Proofs.YtbelnopbggkdfaaW.PrintWords Go.Proofs.YtbelnopbggkdfaaW.PrintLast Go.Proofs.YtbelnopbggkdfaaW.PrintMore
def Fine (r : Int × Int × List Opn × Int) : Prop:=r.2.2.1.length≤1000000∧∀ o ∈ r.2.2.1,o.f2.length≤1000
theorem fine_nil (x y z : Int) : Fine (x,y,[],z):=⟨by simp,by simp⟩
theorem inv_fine (q b : Int) (l : List Opn) : Fine (invR q b l):=by
  unfold invR
  split
  · rename_i h
    split
    · exact fine_nil _ _ _
    · have:=(okc_facts h).n
      exact ⟨by simp;omega,fun o ho => by have:=inv_ops h o ho;omega⟩
  · exact fine_nil _ _ _
theorem told_fine {q b : Int} {s : List Opn} (h : ∀ o ∈ s,o.f2.length≤1000) : Fine (toldR q b s):=by
  unfold toldR
  split
  · exact fine_nil _ _ _
  · exact ⟨by show s.length≤_;omega,h⟩
theorem conj_fine (q b : Int) (l : List Opn) : Fine (conjR q b l):=by
  unfold conjR
  split
  · rename_i h
    refine told_fine fun o ho => ?_
    obtain ⟨x,hx,ho⟩:=List.mem_flatMap.1 ho
    have hl:=((okc_facts h).op x hx).len
    unfold conjO at ho
    split at ho
    · obtain ⟨i,hi,rfl⟩:=List.getElem_of_mem ho
      rw [List.getElem_mapIdx]
      show (if i=0 then x.f2 else x.f2.take 1).length≤1000
      split
      · omega
      · rw [List.length_take];omega
    · obtain rfl : o=x:=by simpa using ho
      omega
  · exact fine_nil _ _ _
theorem mir_fine (q b : Int) (l : List Opn) : Fine (mirR q b l):=by
  unfold mirR
  split
  · rename_i h
    split
    · exact fine_nil _ _ _
    · refine told_fine fun o ho => ?_
      rcases List.mem_append.1 ho with ho|ho
      · have:=((okc_facts h).op o ho).len;omega
      · have:=inv_ops h o ho;omega
  · exact fine_nil _ _ _
theorem pow_fine (q b k : Int) (l : List Opn) : Fine (powR q b l k):=by
  unfold powR
  split
  · rename_i h
    split
    · exact fine_nil _ _ _
    · split
      · exact fine_nil _ _ _
      · split
        · exact fine_nil _ _ _
        · rename_i hs
          have hlen : (if k < 0 then l.reverse.map invO else l).length=l.length:=by split <;> simp
          refine ⟨?_,fun o ho => ?_⟩
          · show ((List.replicate k.natAbs (if k < 0 then l.reverse.map invO else l)).flatten).length≤_
            have e : ((List.replicate k.natAbs (if k < 0 then l.reverse.map invO else l)).flatten).length=k.natAbs * l.length:=by
              rw [List.length_flatten,List.map_replicate,List.sum_replicate_nat,hlen]
            omega
          · obtain ⟨s,hs2,ho⟩:=List.mem_flatten.1 ho
            obtain rfl:=List.eq_of_mem_replicate hs2
            split at ho
            · have:=inv_ops h o ho;omega
            · have:=((okc_facts h).op o ho).len;omega
  · exact fine_nil _ _ _
theorem ctl_fine (q b : Int) (l : List Opn) : Fine (ctlR q b l):=by
  unfold ctlR
  split
  · rename_i h
    split
    · exact fine_nil _ _ _
    · split
      · exact fine_nil _ _ _
      · have hn:=(okc_facts h).n
        refine ⟨by simp;omega,fun o ho => ?_⟩
        obtain ⟨x,hx,rfl⟩:=List.mem_map.1 ho
        have hl:=((okc_facts h).op x hx).len
        unfold ctlO
        split
        · omega
        · split
          · omega
          · show (q :: x.f2).length≤1000
            rw [List.length_cons]
            omega
  · exact fine_nil _ _ _
end Go.Proofs.Ytbelnopbggkdfaa.Q
end

section
namespace Go.Proofs.Ytbelnopbggkdfaa.Q
open Go.RowKit Go.Proofs.YtbelnopbggkdfaaW.PrintWords Go.Proofs.YtbelnopbggkdfaaW.PrintLast Go.Proofs.YtbelnopbggkdfaaW.PrintMore
set_option maxHeartbeats 4000000 in
set_option maxRecDepth 1000000 in
theorem makes_walk (q b : Int) (A : Option Addr) (c : Nat) (l : List Opn) (kk : Int) (w : World) (HC : Kd.C k46 w A l.length l) (hc : l.length≤c) (hw : WfL l) (hn : l.length < 2199023255552) (hf : ∀ o ∈ l,o.f2.length < 17592186044416) :
    Calls Try.prog 3 #[.agg #[.int .i64 q,.int .i64 b,.slice A l.length c],.int .i64 kk] w fun e w' => e=.returned (.bool true)∧Below w.heap.size w w':=by
  have hu24:=Try.underlying24
  obtain ⟨k0,e0⟩:=(rcopy_is (q:=q) (b:=b) (l:=l) hf hn).get
  obtain ⟨k9,e9⟩:=(same_is (q:=q) (b:=b) (l:=l) hf hn).get
  have HR:=Aside0.mk HC
  have HS:=Aside0.mk hc
  have HWF:=Aside0.mk hw
  have E0:=Aside0.mk e0
  have E9:=Aside0.mk e9
  clear HC hc hw e0 e9 hf hn
  go_enter Try.func3,Try.ntmps3
  go_upto_region 1 with fail
  have y0:=blk_new w (.cells #[.int .i64 q,.int .i64 b,.slice A l.length c] 24)
  have HB0:=Aside0.mk (below_alloc (Below.refl w.heap.size w) (.cells #[.int .i64 q,.int .i64 b,.slice A l.length c] 24))
  generalize hg0 : w.heap.size=g0 at y0 ⊢
  clear hg0
  generalize w.alloc _=W0 at y0 HB0 ⊢
  have c0 : W0.cell? ⟨g0,0,none⟩=some (.int .i64 q):=by rw [blk_cell y0];rfl
  have c1 : W0.cell? ⟨g0,1,none⟩=some (.int .i64 b):=by rw [blk_cell y0];rfl
  have c2 : W0.cell? ⟨g0,2,none⟩=some (.slice A l.length c):=by rw [blk_cell y0];rfl
  have Y0:=Aside0.mk y0
  clear y0
  go_upto_region 2 with (go_at_call 7;(with_reducible refine (phasorref08_Copy.calls k0 q b _ _ l _ _ _ _ (Kd.C_below HR.out HB0.out) HS.out E0.out).mono ?_);rintro e w1 ⟨v1,rfl,ho1,hb1⟩;obtain ⟨Ax,cx,rfl⟩:=Kd.S_slice ho1)
  have bb:=below_alloc hb1 (.cells #[.int .i64 q,.int .i64 b,.slice Ax l.length cx] 24)
  have yx:=blk_new w1 (.cells #[.int .i64 q,.int .i64 b,.slice Ax l.length cx] 24)
  have HX:=Aside0.mk (Kd.C_alloc (Kd.S_reads' ho1).2.2 (.cells #[.int .i64 q,.int .i64 b,.slice Ax l.length cx] 24))
  have HXC:=Aside0.mk (Kd.S_reads' ho1).2.1
  have HA:=Aside0.mk (Kd.C_below (Kd.C_below HR.out HB0.out) bb)
  have HBW:=Aside0.mk (below_step HB0.out bb)
  have Y00:=Aside0.mk (blk_below Y0.out bb)
  clear c0 c1 c2 hb1 ho1 bb Y0 HB0
  generalize w1.heap.size=gx at yx ⊢
  generalize w1.alloc _=Wx at yx HX HA HBW Y00 ⊢
  have YX:=Aside0.mk yx
  have HB:=Aside0.mk (Below.refl Wx.heap.size Wx)
  clear yx
  obtain ⟨⟨x0,v0,s0,z0⟩,hR0⟩ : ∃ r,r=invR q b l:=⟨_,rfl⟩
  have HF0:=Aside0.mk (show Fine (x0,v0,s0,z0) by rw [hR0];exact inv_fine q b l)
  have HI:=inverse_out (w:=Wx) (q:=q) (b:=b) (Kd.C_below HX.out HB.out) HXC.out HWF.out
  rw [← hR0] at HI
  have HI:=Aside0.mk HI
  have HRR0:=Aside0.mk hR0
  clear hR0
  have cx0 : Wx.cell? ⟨gx,0,none⟩=some (.int .i64 q):=by rw [blk_cell (blk_below YX.out HB.out)];rfl
  have cx1 : Wx.cell? ⟨gx,1,none⟩=some (.int .i64 b):=by rw [blk_cell (blk_below YX.out HB.out)];rfl
  have cx2 : Wx.cell? ⟨gx,2,none⟩=some (.slice Ax l.length cx):=by rw [blk_cell (blk_below YX.out HB.out)];rfl
  go_upto_region 3 with (go_at_call 8;(with_reducible refine HI.out.mono ?_);rintro e wa0 hO;obtain ⟨Aa0,na0,ca0,rfl,hna0,hNa0,hba0⟩:=out_val hO;have HNA0:=Aside0.mk hna0;clear hna0 hO)
  have bb:=below_alloc hba0 (.cells #[.int .i64 x0,.int .i64 v0,.slice Aa0 na0 ca0] 24)
  have ya:=blk_new wa0 (.cells #[.int .i64 x0,.int .i64 v0,.slice Aa0 na0 ca0] 24)
  have HNa:=Aside0.mk (Kd.N_alloc hNa0 (.cells #[.int .i64 x0,.int .i64 v0,.slice Aa0 na0 ca0] 24))
  have HGA:=Aside0.mk (show Wx.heap.size≤wa0.heap.size from hba0.size)
  replace HB:=Aside0.mk (HB.out.trans bb)
  clear hba0 hNa0 bb HI cx0 cx1 cx2
  generalize wa0.heap.size=ga at ya HGA ⊢
  generalize wa0.alloc _=wb0 at ya HNa HB ⊢
  have YA:=Aside0.mk ya
  clear ya
  have HI:=rinverse_out (w:=wb0) (q:=q) (b:=b) (Kd.C_below HA.out HB.out) HS.out HWF.out
  rw [← HRR0.out] at HI
  have HI:=Aside0.mk HI
  have c0 : wb0.cell? ⟨g0,0,none⟩=some (.int .i64 q):=by rw [blk_cell (blk_below Y00.out HB.out)];rfl
  have c1 : wb0.cell? ⟨g0,1,none⟩=some (.int .i64 b):=by rw [blk_cell (blk_below Y00.out HB.out)];rfl
  have c2 : wb0.cell? ⟨g0,2,none⟩=some (.slice A l.length c):=by rw [blk_cell (blk_below Y00.out HB.out)];rfl
  go_upto_region 4 with (go_at_call 9;(with_reducible refine HI.out.mono ?_);rintro e wc0 hO;obtain ⟨Ab0,nb0,cb0,rfl,hnb0,hNb0,hbb0⟩:=out_val hO;have HNB0:=Aside0.mk hnb0;clear hnb0 hO)
  have bb:=below_alloc hbb0 (.cells #[.int .i64 x0,.int .i64 v0,.slice Ab0 nb0 cb0] 24)
  have yb:=blk_new wc0 (.cells #[.int .i64 x0,.int .i64 v0,.slice Ab0 nb0 cb0] 24)
  have HNE:=Aside0.mk (show wc0.heap.size≠ga from fun e => by have:=blk_lt YA.out;have:=hbb0.size;omega)
  have HCb:=Aside0.mk (k46w_C (Kd.N_reads' (Kd.N_alloc hNb0 (.cells #[.int .i64 x0,.int .i64 v0,.slice Ab0 nb0 cb0] 24))).2.2)
  have HCbc:=Aside0.mk (Kd.N_reads' hNb0).2.1
  replace HNa:=Aside0.mk (Kd.N_below HNa.out bb)
  have HGB:=Aside0.mk (show Wx.heap.size≤wc0.heap.size from Nat.le_trans HB.out.size hbb0.size)
  replace YA:=Aside0.mk (blk_below YA.out bb)
  have HSZ:=Aside0.mk (show Wx.heap.size≤(wc0.alloc (.cells #[.int .i64 x0,.int .i64 v0,.slice Ab0 nb0 cb0] 24)).heap.size from Nat.le_trans HB.out.size bb.size)
  replace HB:=Aside0.mk (HB.out.trans (bb.mono HB.out.size))
  clear hbb0 hNb0 bb HI c0 c1 c2
  generalize wc0.heap.size=gb at yb HNE HGB ⊢
  generalize wc0.alloc _=wd0 at yb HNa HB HCb YA HSZ ⊢
  have YB:=Aside0.mk yb
  clear yb
  have p0 : wd0.cell? ⟨ga,0,none⟩=some (.int .i64 x0):=by rw [blk_cell (YA.out)];rfl
  have p1 : wd0.cell? ⟨ga,1,none⟩=some (.int .i64 v0):=by rw [blk_cell (YA.out)];rfl
  have p2 : wd0.cell? ⟨ga,2,none⟩=some (.slice Aa0 na0 ca0):=by rw [blk_cell (YA.out)];rfl
  have r0 : wd0.cell? ⟨gb,0,none⟩=some (.int .i64 x0):=by rw [blk_cell (YB.out)];rfl
  have r1 : wd0.cell? ⟨gb,1,none⟩=some (.int .i64 v0):=by rw [blk_cell (YB.out)];rfl
  have r2 : wd0.cell? ⟨gb,2,none⟩=some (.slice Ab0 nb0 cb0):=by rw [blk_cell (YB.out)];rfl
  have HS0:=Aside0.mk (show Calls Try.prog 10 #[.agg #[.int .i64 x0,.int .i64 v0,.slice Aa0 na0 ca0],.int .i64 z0,.agg #[.int .i64 x0,.int .i64 v0,.slice Ab0 nb0 cb0],.int .i64 z0] wd0 fun e w' => e=Ending.returned (.bool true)∧Below Wx.heap.size wd0 w'∧∀ (k : Nat) (cs : Array Value),wd0.heap[k]?=some (.cells cs 24 (0,0))→w'.heap[k]?=some (.cells cs 24 (0,0)) by
    have h1:=HNA0.out
    have h2:=HNB0.out
    have h3:=HCb.out
    have h4:=HNa.out
    have h5:=HCbc.out
    subst h1 h2
    exact same17_any Wx.heap.size x0 v0 z0 Aa0 ca0 Ab0 cb0 s0 wd0 HSZ.out h4 h3 h5 HF0.out.1 HF0.out.2)
  go_upto_region 6 with (go_at_call 10;(with_reducible refine HS0.out.mono ?_);rintro e We0 ⟨rfl,hbs,hbox⟩)
  replace HB:=Aside0.mk (HB.out.trans (hbs.mono (Nat.le_refl _)))
  replace YA:=Aside0.mk (hbox _ _ YA.out)
  replace YB:=Aside0.mk (hbox _ _ YB.out)
  have HWX:=Aside0.mk HB.out.size
  clear p0 p1 p2 r0 r1 r2 hbs hbox HS0 HNa HCb HCbc HSZ HF0 HRR0
  obtain ⟨⟨x1,v1,s1,z1⟩,hR1⟩ : ∃ r,r=conjR q b l:=⟨_,rfl⟩
  have HF1:=Aside0.mk (show Fine (x1,v1,s1,z1) by rw [hR1];exact conj_fine q b l)
  have HI:=conj_out (w:=We0) (q:=q) (b:=b) (Kd.C_below HX.out HB.out) HXC.out HWF.out
  rw [← hR1] at HI
  have HI:=Aside0.mk HI
  have HRR1:=Aside0.mk hR1
  clear hR1
  have cx0 : We0.cell? ⟨gx,0,none⟩=some (.int .i64 q):=by rw [blk_cell (blk_below YX.out HB.out)];rfl
  have cx1 : We0.cell? ⟨gx,1,none⟩=some (.int .i64 b):=by rw [blk_cell (blk_below YX.out HB.out)];rfl
  have cx2 : We0.cell? ⟨gx,2,none⟩=some (.slice Ax l.length cx):=by rw [blk_cell (blk_below YX.out HB.out)];rfl
  go_upto_region 7 with (go_at_call 11;(with_reducible refine HI.out.mono ?_);rintro e wa1 hO;obtain ⟨Aa1,na1,ca1,rfl,hna1,hNa1,hba1⟩:=out_val hO;have HNA1:=Aside0.mk hna1;clear hna1 hO;have yg:=blk_below YA.out hba1;have t0 : wa1.cell? ⟨ga,0,none⟩=some (.int .i64 x0):=(by rw [blk_cell yg];rfl);have t1 : wa1.cell? ⟨ga,1,none⟩=some (.int .i64 v0):=(by rw [blk_cell yg];rfl);have t2 : wa1.cell? ⟨ga,2,none⟩=some (.slice Aa0 na0 ca0):=(by rw [blk_cell yg];rfl);have t0f:=blk_frozen yg 0;have t1f:=blk_frozen yg 1;have t2f:=blk_frozen yg 2)
  have ya : (((wa1.setCell ⟨ga,0,none⟩ (.int .i64 x1)).setCell ⟨ga,1,none⟩ (.int .i64 v1)).setCell ⟨ga,2,none⟩ (.slice Aa1 na1 ca1)).heap[ga]?=some (.cells #[.int .i64 x1,.int .i64 v1,.slice Aa1 na1 ca1] 24 (0,0)):=blk_put (blk_put (blk_put yg 0 (.int .i64 x1) rfl) 1 (.int .i64 v1) rfl) 2 (.slice Aa1 na1 ca1) rfl
  have HNa:=Aside0.mk (Kd.N_far (p:=⟨ga,2,none⟩) (Kd.N_far (p:=⟨ga,1,none⟩) (Kd.N_far (p:=⟨ga,0,none⟩) hNa1 (fun k hk => by have:=blk_lt YA.out;show k≠ga;omega) (.int .i64 x1)) (fun k hk => by have:=blk_lt YA.out;show k≠ga;omega) (.int .i64 v1)) (fun k hk => by have:=blk_lt YA.out;show k≠ga;omega) (.slice Aa1 na1 ca1))
  have hbx:=below_set (below_set (below_set (HB.out.trans (hba1.mono HB.out.size)) HGA.out : Below Wx.heap.size Wx (wa1.setCell ⟨ga,0,none⟩ (.int .i64 x1))) HGA.out : Below Wx.heap.size Wx ((wa1.setCell ⟨ga,0,none⟩ (.int .i64 x1)).setCell ⟨ga,1,none⟩ (.int .i64 v1))) HGA.out (j:=2) (v:=.slice Aa1 na1 ca1)
  have yb:=blk_far (p:=⟨ga,2,none⟩) (blk_far (p:=⟨ga,1,none⟩) (blk_far (p:=⟨ga,0,none⟩) (blk_below YB.out hba1) HNE.out (.int .i64 x1)) HNE.out (.int .i64 v1)) HNE.out (.slice Aa1 na1 ca1)
  have HSZ:=Aside0.mk (show We0.heap.size≤(((wa1.setCell ⟨ga,0,none⟩ (.int .i64 x1)).setCell ⟨ga,1,none⟩ (.int .i64 v1)).setCell ⟨ga,2,none⟩ (.slice Aa1 na1 ca1)).heap.size by simpa [World.setCell] using hba1.size)
  have HGAW:=Aside0.mk (show ga < We0.heap.size∧gb < We0.heap.size from ⟨blk_lt YA.out,blk_lt YB.out⟩)
  replace HB:=Aside0.mk hbx
  clear hba1 hNa1 hbx yg t0 t1 t2 t0f t1f t2f HI cx0 cx1 cx2 YA YB
  generalize ((wa1.setCell _ _).setCell _ _).setCell _ _=wb1 at ya yb HNa HB HSZ ⊢
  have YB:=Aside0.mk yb
  clear yb
  have YA:=Aside0.mk ya
  clear ya
  have HI:=rconj_out (w:=wb1) (q:=q) (b:=b) (Kd.C_below HA.out HB.out) HS.out HWF.out
  rw [← HRR1.out] at HI
  have HI:=Aside0.mk HI
  have c0 : wb1.cell? ⟨g0,0,none⟩=some (.int .i64 q):=by rw [blk_cell (blk_below Y00.out HB.out)];rfl
  have c1 : wb1.cell? ⟨g0,1,none⟩=some (.int .i64 b):=by rw [blk_cell (blk_below Y00.out HB.out)];rfl
  have c2 : wb1.cell? ⟨g0,2,none⟩=some (.slice A l.length c):=by rw [blk_cell (blk_below Y00.out HB.out)];rfl
  go_upto_region 8 with (go_at_call 12;(with_reducible refine HI.out.mono ?_);rintro e wc1 hO;obtain ⟨Ab1,nb1,cb1,rfl,hnb1,hNb1,hbb1⟩:=out_val hO;have HNB1:=Aside0.mk hnb1;clear hnb1 hO;have yg:=blk_below YB.out hbb1;have t0 : wc1.cell? ⟨gb,0,none⟩=some (.int .i64 x0):=(by rw [blk_cell yg];rfl);have t1 : wc1.cell? ⟨gb,1,none⟩=some (.int .i64 v0):=(by rw [blk_cell yg];rfl);have t2 : wc1.cell? ⟨gb,2,none⟩=some (.slice Ab0 nb0 cb0):=(by rw [blk_cell yg];rfl);have t0f:=blk_frozen yg 0;have t1f:=blk_frozen yg 1;have t2f:=blk_frozen yg 2)
  have yb : (((wc1.setCell ⟨gb,0,none⟩ (.int .i64 x1)).setCell ⟨gb,1,none⟩ (.int .i64 v1)).setCell ⟨gb,2,none⟩ (.slice Ab1 nb1 cb1)).heap[gb]?=some (.cells #[.int .i64 x1,.int .i64 v1,.slice Ab1 nb1 cb1] 24 (0,0)):=blk_put (blk_put (blk_put yg 0 (.int .i64 x1) rfl) 1 (.int .i64 v1) rfl) 2 (.slice Ab1 nb1 cb1) rfl
  have hNn:=Kd.N_far (p:=⟨gb,2,none⟩) (Kd.N_far (p:=⟨gb,1,none⟩) (Kd.N_far (p:=⟨gb,0,none⟩) hNb1 (fun k hk => by have:=HGAW.out;have:=HSZ.out;show k≠gb;omega) (.int .i64 x1)) (fun k hk => by have:=HGAW.out;have:=HSZ.out;show k≠gb;omega) (.int .i64 v1)) (fun k hk => by have:=HGAW.out;have:=HSZ.out;show k≠gb;omega) (.slice Ab1 nb1 cb1)
  have HCb:=Aside0.mk (k46w_C (Kd.N_reads' hNn).2.2)
  have HCbc:=Aside0.mk (Kd.N_reads' hNb1).2.1
  replace HNa:=Aside0.mk (Kd.N_far (p:=⟨gb,2,none⟩) (Kd.N_far (p:=⟨gb,1,none⟩) (Kd.N_far (p:=⟨gb,0,none⟩) (Kd.N_below HNa.out hbb1) (fun k hk => by have:=HGAW.out;show k≠gb;omega) (.int .i64 x1)) (fun k hk => by have:=HGAW.out;show k≠gb;omega) (.int .i64 v1)) (fun k hk => by have:=HGAW.out;show k≠gb;omega) (.slice Ab1 nb1 cb1))
  have hbx:=below_set (below_set (below_set (HB.out.trans (hbb1.mono HB.out.size)) HGB.out : Below Wx.heap.size Wx (wc1.setCell ⟨gb,0,none⟩ (.int .i64 x1))) HGB.out : Below Wx.heap.size Wx ((wc1.setCell ⟨gb,0,none⟩ (.int .i64 x1)).setCell ⟨gb,1,none⟩ (.int .i64 v1))) HGB.out (j:=2) (v:=.slice Ab1 nb1 cb1)
  replace YA:=Aside0.mk (blk_far (p:=⟨gb,2,none⟩) (blk_far (p:=⟨gb,1,none⟩) (blk_far (p:=⟨gb,0,none⟩) (blk_below YA.out hbb1) HNE.out.symm (.int .i64 x1)) HNE.out.symm (.int .i64 v1)) HNE.out.symm (.slice Ab1 nb1 cb1))
  replace HSZ:=Aside0.mk (show We0.heap.size≤(((wc1.setCell ⟨gb,0,none⟩ (.int .i64 x1)).setCell ⟨gb,1,none⟩ (.int .i64 v1)).setCell ⟨gb,2,none⟩ (.slice Ab1 nb1 cb1)).heap.size by simpa [World.setCell] using Nat.le_trans HSZ.out hbb1.size)
  replace HB:=Aside0.mk hbx
  clear hbb1 hNb1 hNn hbx yg t0 t1 t2 t0f t1f t2f HI c0 c1 c2 YB HGAW
  generalize ((wc1.setCell _ _).setCell _ _).setCell _ _=wd1 at yb HNa HB HCb YA HSZ ⊢
  have YB:=Aside0.mk yb
  clear yb
  have p0 : wd1.cell? ⟨ga,0,none⟩=some (.int .i64 x1):=by rw [blk_cell (YA.out)];rfl
  have p1 : wd1.cell? ⟨ga,1,none⟩=some (.int .i64 v1):=by rw [blk_cell (YA.out)];rfl
  have p2 : wd1.cell? ⟨ga,2,none⟩=some (.slice Aa1 na1 ca1):=by rw [blk_cell (YA.out)];rfl
  have r0 : wd1.cell? ⟨gb,0,none⟩=some (.int .i64 x1):=by rw [blk_cell (YB.out)];rfl
  have r1 : wd1.cell? ⟨gb,1,none⟩=some (.int .i64 v1):=by rw [blk_cell (YB.out)];rfl
  have r2 : wd1.cell? ⟨gb,2,none⟩=some (.slice Ab1 nb1 cb1):=by rw [blk_cell (YB.out)];rfl
  have HS1:=Aside0.mk (show Calls Try.prog 10 #[.agg #[.int .i64 x1,.int .i64 v1,.slice Aa1 na1 ca1],.int .i64 z1,.agg #[.int .i64 x1,.int .i64 v1,.slice Ab1 nb1 cb1],.int .i64 z1] wd1 fun e w' => e=Ending.returned (.bool true)∧Below We0.heap.size wd1 w'∧∀ (k : Nat) (cs : Array Value),wd1.heap[k]?=some (.cells cs 24 (0,0))→w'.heap[k]?=some (.cells cs 24 (0,0)) by
    have h1:=HNA1.out
    have h2:=HNB1.out
    have h3:=HCb.out
    have h4:=HNa.out
    have h5:=HCbc.out
    subst h1 h2
    exact same17_any We0.heap.size x1 v1 z1 Aa1 ca1 Ab1 cb1 s1 wd1 HSZ.out h4 h3 h5 HF1.out.1 HF1.out.2)
  go_upto_region 10 with (go_at_call 10;(with_reducible refine HS1.out.mono ?_);rintro e We1 ⟨rfl,hbs,hbox⟩)
  replace HB:=Aside0.mk (HB.out.trans (hbs.mono HWX.out))
  replace YA:=Aside0.mk (hbox _ _ YA.out)
  replace YB:=Aside0.mk (hbox _ _ YB.out)
  replace HWX:=Aside0.mk HB.out.size
  clear p0 p1 p2 r0 r1 r2 hbs hbox HS1 HNa HCb HCbc HSZ HF1 HRR1
  obtain ⟨⟨x2,v2,s2,z2⟩,hR2⟩ : ∃ r,r=mirR q b l:=⟨_,rfl⟩
  have HF2:=Aside0.mk (show Fine (x2,v2,s2,z2) by rw [hR2];exact mir_fine q b l)
  have HI:=mirror_out (w:=We1) (q:=q) (b:=b) (Kd.C_below HX.out HB.out) HXC.out HWF.out
  rw [← hR2] at HI
  have HI:=Aside0.mk HI
  have HRR2:=Aside0.mk hR2
  clear hR2
  have cx0 : We1.cell? ⟨gx,0,none⟩=some (.int .i64 q):=by rw [blk_cell (blk_below YX.out HB.out)];rfl
  have cx1 : We1.cell? ⟨gx,1,none⟩=some (.int .i64 b):=by rw [blk_cell (blk_below YX.out HB.out)];rfl
  have cx2 : We1.cell? ⟨gx,2,none⟩=some (.slice Ax l.length cx):=by rw [blk_cell (blk_below YX.out HB.out)];rfl
  go_upto_region 11 with (go_at_call 13;(with_reducible refine HI.out.mono ?_);rintro e wa2 hO;obtain ⟨Aa2,na2,ca2,rfl,hna2,hNa2,hba2⟩:=out_val hO;have HNA2:=Aside0.mk hna2;clear hna2 hO;have yg:=blk_below YA.out hba2;have t0 : wa2.cell? ⟨ga,0,none⟩=some (.int .i64 x1):=(by rw [blk_cell yg];rfl);have t1 : wa2.cell? ⟨ga,1,none⟩=some (.int .i64 v1):=(by rw [blk_cell yg];rfl);have t2 : wa2.cell? ⟨ga,2,none⟩=some (.slice Aa1 na1 ca1):=(by rw [blk_cell yg];rfl);have t0f:=blk_frozen yg 0;have t1f:=blk_frozen yg 1;have t2f:=blk_frozen yg 2)
  have ya : (((wa2.setCell ⟨ga,0,none⟩ (.int .i64 x2)).setCell ⟨ga,1,none⟩ (.int .i64 v2)).setCell ⟨ga,2,none⟩ (.slice Aa2 na2 ca2)).heap[ga]?=some (.cells #[.int .i64 x2,.int .i64 v2,.slice Aa2 na2 ca2] 24 (0,0)):=blk_put (blk_put (blk_put yg 0 (.int .i64 x2) rfl) 1 (.int .i64 v2) rfl) 2 (.slice Aa2 na2 ca2) rfl
  have HNa:=Aside0.mk (Kd.N_far (p:=⟨ga,2,none⟩) (Kd.N_far (p:=⟨ga,1,none⟩) (Kd.N_far (p:=⟨ga,0,none⟩) hNa2 (fun k hk => by have:=blk_lt YA.out;show k≠ga;omega) (.int .i64 x2)) (fun k hk => by have:=blk_lt YA.out;show k≠ga;omega) (.int .i64 v2)) (fun k hk => by have:=blk_lt YA.out;show k≠ga;omega) (.slice Aa2 na2 ca2))
  have hbx:=below_set (below_set (below_set (HB.out.trans (hba2.mono HB.out.size)) HGA.out : Below Wx.heap.size Wx (wa2.setCell ⟨ga,0,none⟩ (.int .i64 x2))) HGA.out : Below Wx.heap.size Wx ((wa2.setCell ⟨ga,0,none⟩ (.int .i64 x2)).setCell ⟨ga,1,none⟩ (.int .i64 v2))) HGA.out (j:=2) (v:=.slice Aa2 na2 ca2)
  have yb:=blk_far (p:=⟨ga,2,none⟩) (blk_far (p:=⟨ga,1,none⟩) (blk_far (p:=⟨ga,0,none⟩) (blk_below YB.out hba2) HNE.out (.int .i64 x2)) HNE.out (.int .i64 v2)) HNE.out (.slice Aa2 na2 ca2)
  have HSZ:=Aside0.mk (show We1.heap.size≤(((wa2.setCell ⟨ga,0,none⟩ (.int .i64 x2)).setCell ⟨ga,1,none⟩ (.int .i64 v2)).setCell ⟨ga,2,none⟩ (.slice Aa2 na2 ca2)).heap.size by simpa [World.setCell] using hba2.size)
  have HGAW:=Aside0.mk (show ga < We1.heap.size∧gb < We1.heap.size from ⟨blk_lt YA.out,blk_lt YB.out⟩)
  replace HB:=Aside0.mk hbx
  clear hba2 hNa2 hbx yg t0 t1 t2 t0f t1f t2f HI cx0 cx1 cx2 YA YB
  generalize ((wa2.setCell _ _).setCell _ _).setCell _ _=wb2 at ya yb HNa HB HSZ ⊢
  have YB:=Aside0.mk yb
  clear yb
  have YA:=Aside0.mk ya
  clear ya
  have HI:=rmirror_out (w:=wb2) (q:=q) (b:=b) (Kd.C_below HA.out HB.out) HS.out HWF.out
  rw [← HRR2.out] at HI
  have HI:=Aside0.mk HI
  have c0 : wb2.cell? ⟨g0,0,none⟩=some (.int .i64 q):=by rw [blk_cell (blk_below Y00.out HB.out)];rfl
  have c1 : wb2.cell? ⟨g0,1,none⟩=some (.int .i64 b):=by rw [blk_cell (blk_below Y00.out HB.out)];rfl
  have c2 : wb2.cell? ⟨g0,2,none⟩=some (.slice A l.length c):=by rw [blk_cell (blk_below Y00.out HB.out)];rfl
  go_upto_region 12 with (go_at_call 14;(with_reducible refine HI.out.mono ?_);rintro e wc2 hO;obtain ⟨Ab2,nb2,cb2,rfl,hnb2,hNb2,hbb2⟩:=out_val hO;have HNB2:=Aside0.mk hnb2;clear hnb2 hO;have yg:=blk_below YB.out hbb2;have t0 : wc2.cell? ⟨gb,0,none⟩=some (.int .i64 x1):=(by rw [blk_cell yg];rfl);have t1 : wc2.cell? ⟨gb,1,none⟩=some (.int .i64 v1):=(by rw [blk_cell yg];rfl);have t2 : wc2.cell? ⟨gb,2,none⟩=some (.slice Ab1 nb1 cb1):=(by rw [blk_cell yg];rfl);have t0f:=blk_frozen yg 0;have t1f:=blk_frozen yg 1;have t2f:=blk_frozen yg 2)
  have yb : (((wc2.setCell ⟨gb,0,none⟩ (.int .i64 x2)).setCell ⟨gb,1,none⟩ (.int .i64 v2)).setCell ⟨gb,2,none⟩ (.slice Ab2 nb2 cb2)).heap[gb]?=some (.cells #[.int .i64 x2,.int .i64 v2,.slice Ab2 nb2 cb2] 24 (0,0)):=blk_put (blk_put (blk_put yg 0 (.int .i64 x2) rfl) 1 (.int .i64 v2) rfl) 2 (.slice Ab2 nb2 cb2) rfl
  have hNn:=Kd.N_far (p:=⟨gb,2,none⟩) (Kd.N_far (p:=⟨gb,1,none⟩) (Kd.N_far (p:=⟨gb,0,none⟩) hNb2 (fun k hk => by have:=HGAW.out;have:=HSZ.out;show k≠gb;omega) (.int .i64 x2)) (fun k hk => by have:=HGAW.out;have:=HSZ.out;show k≠gb;omega) (.int .i64 v2)) (fun k hk => by have:=HGAW.out;have:=HSZ.out;show k≠gb;omega) (.slice Ab2 nb2 cb2)
  have HCb:=Aside0.mk (k46w_C (Kd.N_reads' hNn).2.2)
  have HCbc:=Aside0.mk (Kd.N_reads' hNb2).2.1
  replace HNa:=Aside0.mk (Kd.N_far (p:=⟨gb,2,none⟩) (Kd.N_far (p:=⟨gb,1,none⟩) (Kd.N_far (p:=⟨gb,0,none⟩) (Kd.N_below HNa.out hbb2) (fun k hk => by have:=HGAW.out;show k≠gb;omega) (.int .i64 x2)) (fun k hk => by have:=HGAW.out;show k≠gb;omega) (.int .i64 v2)) (fun k hk => by have:=HGAW.out;show k≠gb;omega) (.slice Ab2 nb2 cb2))
  have hbx:=below_set (below_set (below_set (HB.out.trans (hbb2.mono HB.out.size)) HGB.out : Below Wx.heap.size Wx (wc2.setCell ⟨gb,0,none⟩ (.int .i64 x2))) HGB.out : Below Wx.heap.size Wx ((wc2.setCell ⟨gb,0,none⟩ (.int .i64 x2)).setCell ⟨gb,1,none⟩ (.int .i64 v2))) HGB.out (j:=2) (v:=.slice Ab2 nb2 cb2)
  replace YA:=Aside0.mk (blk_far (p:=⟨gb,2,none⟩) (blk_far (p:=⟨gb,1,none⟩) (blk_far (p:=⟨gb,0,none⟩) (blk_below YA.out hbb2) HNE.out.symm (.int .i64 x2)) HNE.out.symm (.int .i64 v2)) HNE.out.symm (.slice Ab2 nb2 cb2))
  replace HSZ:=Aside0.mk (show We1.heap.size≤(((wc2.setCell ⟨gb,0,none⟩ (.int .i64 x2)).setCell ⟨gb,1,none⟩ (.int .i64 v2)).setCell ⟨gb,2,none⟩ (.slice Ab2 nb2 cb2)).heap.size by simpa [World.setCell] using Nat.le_trans HSZ.out hbb2.size)
  replace HB:=Aside0.mk hbx
  clear hbb2 hNb2 hNn hbx yg t0 t1 t2 t0f t1f t2f HI c0 c1 c2 YB HGAW
  generalize ((wc2.setCell _ _).setCell _ _).setCell _ _=wd2 at yb HNa HB HCb YA HSZ ⊢
  have YB:=Aside0.mk yb
  clear yb
  have p0 : wd2.cell? ⟨ga,0,none⟩=some (.int .i64 x2):=by rw [blk_cell (YA.out)];rfl
  have p1 : wd2.cell? ⟨ga,1,none⟩=some (.int .i64 v2):=by rw [blk_cell (YA.out)];rfl
  have p2 : wd2.cell? ⟨ga,2,none⟩=some (.slice Aa2 na2 ca2):=by rw [blk_cell (YA.out)];rfl
  have r0 : wd2.cell? ⟨gb,0,none⟩=some (.int .i64 x2):=by rw [blk_cell (YB.out)];rfl
  have r1 : wd2.cell? ⟨gb,1,none⟩=some (.int .i64 v2):=by rw [blk_cell (YB.out)];rfl
  have r2 : wd2.cell? ⟨gb,2,none⟩=some (.slice Ab2 nb2 cb2):=by rw [blk_cell (YB.out)];rfl
  have HS2:=Aside0.mk (show Calls Try.prog 10 #[.agg #[.int .i64 x2,.int .i64 v2,.slice Aa2 na2 ca2],.int .i64 z2,.agg #[.int .i64 x2,.int .i64 v2,.slice Ab2 nb2 cb2],.int .i64 z2] wd2 fun e w' => e=Ending.returned (.bool true)∧Below We1.heap.size wd2 w'∧∀ (k : Nat) (cs : Array Value),wd2.heap[k]?=some (.cells cs 24 (0,0))→w'.heap[k]?=some (.cells cs 24 (0,0)) by
    have h1:=HNA2.out
    have h2:=HNB2.out
    have h3:=HCb.out
    have h4:=HNa.out
    have h5:=HCbc.out
    subst h1 h2
    exact same17_any We1.heap.size x2 v2 z2 Aa2 ca2 Ab2 cb2 s2 wd2 HSZ.out h4 h3 h5 HF2.out.1 HF2.out.2)
  go_upto_region 14 with (go_at_call 10;(with_reducible refine HS2.out.mono ?_);rintro e We2 ⟨rfl,hbs,hbox⟩)
  replace HB:=Aside0.mk (HB.out.trans (hbs.mono HWX.out))
  replace YA:=Aside0.mk (hbox _ _ YA.out)
  replace YB:=Aside0.mk (hbox _ _ YB.out)
  replace HWX:=Aside0.mk HB.out.size
  clear p0 p1 p2 r0 r1 r2 hbs hbox HS2 HNa HCb HCbc HSZ HF2 HRR2
  obtain ⟨⟨x3,v3,s3,z3⟩,hR3⟩ : ∃ r,r=powR q b l kk:=⟨_,rfl⟩
  have HF3:=Aside0.mk (show Fine (x3,v3,s3,z3) by rw [hR3];exact pow_fine q b kk l)
  have HI:=power_out (k:=kk) (w:=We2) (q:=q) (b:=b) (Kd.C_below HX.out HB.out) HXC.out HWF.out
  rw [← hR3] at HI
  have HI:=Aside0.mk HI
  have HRR3:=Aside0.mk hR3
  clear hR3
  have cx0 : We2.cell? ⟨gx,0,none⟩=some (.int .i64 q):=by rw [blk_cell (blk_below YX.out HB.out)];rfl
  have cx1 : We2.cell? ⟨gx,1,none⟩=some (.int .i64 b):=by rw [blk_cell (blk_below YX.out HB.out)];rfl
  have cx2 : We2.cell? ⟨gx,2,none⟩=some (.slice Ax l.length cx):=by rw [blk_cell (blk_below YX.out HB.out)];rfl
  go_upto_region 15 with (go_at_call 15;(with_reducible refine HI.out.mono ?_);rintro e wa3 hO;obtain ⟨Aa3,na3,ca3,rfl,hna3,hNa3,hba3⟩:=out_val hO;have HNA3:=Aside0.mk hna3;clear hna3 hO;have yg:=blk_below YA.out hba3;have t0 : wa3.cell? ⟨ga,0,none⟩=some (.int .i64 x2):=(by rw [blk_cell yg];rfl);have t1 : wa3.cell? ⟨ga,1,none⟩=some (.int .i64 v2):=(by rw [blk_cell yg];rfl);have t2 : wa3.cell? ⟨ga,2,none⟩=some (.slice Aa2 na2 ca2):=(by rw [blk_cell yg];rfl);have t0f:=blk_frozen yg 0;have t1f:=blk_frozen yg 1;have t2f:=blk_frozen yg 2)
  have ya : (((wa3.setCell ⟨ga,0,none⟩ (.int .i64 x3)).setCell ⟨ga,1,none⟩ (.int .i64 v3)).setCell ⟨ga,2,none⟩ (.slice Aa3 na3 ca3)).heap[ga]?=some (.cells #[.int .i64 x3,.int .i64 v3,.slice Aa3 na3 ca3] 24 (0,0)):=blk_put (blk_put (blk_put yg 0 (.int .i64 x3) rfl) 1 (.int .i64 v3) rfl) 2 (.slice Aa3 na3 ca3) rfl
  have HNa:=Aside0.mk (Kd.N_far (p:=⟨ga,2,none⟩) (Kd.N_far (p:=⟨ga,1,none⟩) (Kd.N_far (p:=⟨ga,0,none⟩) hNa3 (fun k hk => by have:=blk_lt YA.out;show k≠ga;omega) (.int .i64 x3)) (fun k hk => by have:=blk_lt YA.out;show k≠ga;omega) (.int .i64 v3)) (fun k hk => by have:=blk_lt YA.out;show k≠ga;omega) (.slice Aa3 na3 ca3))
  have hbx:=below_set (below_set (below_set (HB.out.trans (hba3.mono HB.out.size)) HGA.out : Below Wx.heap.size Wx (wa3.setCell ⟨ga,0,none⟩ (.int .i64 x3))) HGA.out : Below Wx.heap.size Wx ((wa3.setCell ⟨ga,0,none⟩ (.int .i64 x3)).setCell ⟨ga,1,none⟩ (.int .i64 v3))) HGA.out (j:=2) (v:=.slice Aa3 na3 ca3)
  have yb:=blk_far (p:=⟨ga,2,none⟩) (blk_far (p:=⟨ga,1,none⟩) (blk_far (p:=⟨ga,0,none⟩) (blk_below YB.out hba3) HNE.out (.int .i64 x3)) HNE.out (.int .i64 v3)) HNE.out (.slice Aa3 na3 ca3)
  have HSZ:=Aside0.mk (show We2.heap.size≤(((wa3.setCell ⟨ga,0,none⟩ (.int .i64 x3)).setCell ⟨ga,1,none⟩ (.int .i64 v3)).setCell ⟨ga,2,none⟩ (.slice Aa3 na3 ca3)).heap.size by simpa [World.setCell] using hba3.size)
  have HGAW:=Aside0.mk (show ga < We2.heap.size∧gb < We2.heap.size from ⟨blk_lt YA.out,blk_lt YB.out⟩)
  replace HB:=Aside0.mk hbx
  clear hba3 hNa3 hbx yg t0 t1 t2 t0f t1f t2f HI cx0 cx1 cx2 YA YB
  generalize ((wa3.setCell _ _).setCell _ _).setCell _ _=wb3 at ya yb HNa HB HSZ ⊢
  have YB:=Aside0.mk yb
  clear yb
  have YA:=Aside0.mk ya
  clear ya
  have HI:=rpower_out (k:=kk) (w:=wb3) (q:=q) (b:=b) (Kd.C_below HA.out HB.out) HS.out HWF.out
  rw [← HRR3.out] at HI
  have HI:=Aside0.mk HI
  have c0 : wb3.cell? ⟨g0,0,none⟩=some (.int .i64 q):=by rw [blk_cell (blk_below Y00.out HB.out)];rfl
  have c1 : wb3.cell? ⟨g0,1,none⟩=some (.int .i64 b):=by rw [blk_cell (blk_below Y00.out HB.out)];rfl
  have c2 : wb3.cell? ⟨g0,2,none⟩=some (.slice A l.length c):=by rw [blk_cell (blk_below Y00.out HB.out)];rfl
  go_upto_region 16 with (go_at_call 16;(with_reducible refine HI.out.mono ?_);rintro e wc3 hO;obtain ⟨Ab3,nb3,cb3,rfl,hnb3,hNb3,hbb3⟩:=out_val hO;have HNB3:=Aside0.mk hnb3;clear hnb3 hO;have yg:=blk_below YB.out hbb3;have t0 : wc3.cell? ⟨gb,0,none⟩=some (.int .i64 x2):=(by rw [blk_cell yg];rfl);have t1 : wc3.cell? ⟨gb,1,none⟩=some (.int .i64 v2):=(by rw [blk_cell yg];rfl);have t2 : wc3.cell? ⟨gb,2,none⟩=some (.slice Ab2 nb2 cb2):=(by rw [blk_cell yg];rfl);have t0f:=blk_frozen yg 0;have t1f:=blk_frozen yg 1;have t2f:=blk_frozen yg 2)
  have yb : (((wc3.setCell ⟨gb,0,none⟩ (.int .i64 x3)).setCell ⟨gb,1,none⟩ (.int .i64 v3)).setCell ⟨gb,2,none⟩ (.slice Ab3 nb3 cb3)).heap[gb]?=some (.cells #[.int .i64 x3,.int .i64 v3,.slice Ab3 nb3 cb3] 24 (0,0)):=blk_put (blk_put (blk_put yg 0 (.int .i64 x3) rfl) 1 (.int .i64 v3) rfl) 2 (.slice Ab3 nb3 cb3) rfl
  have hNn:=Kd.N_far (p:=⟨gb,2,none⟩) (Kd.N_far (p:=⟨gb,1,none⟩) (Kd.N_far (p:=⟨gb,0,none⟩) hNb3 (fun k hk => by have:=HGAW.out;have:=HSZ.out;show k≠gb;omega) (.int .i64 x3)) (fun k hk => by have:=HGAW.out;have:=HSZ.out;show k≠gb;omega) (.int .i64 v3)) (fun k hk => by have:=HGAW.out;have:=HSZ.out;show k≠gb;omega) (.slice Ab3 nb3 cb3)
  have HCb:=Aside0.mk (k46w_C (Kd.N_reads' hNn).2.2)
  have HCbc:=Aside0.mk (Kd.N_reads' hNb3).2.1
  replace HNa:=Aside0.mk (Kd.N_far (p:=⟨gb,2,none⟩) (Kd.N_far (p:=⟨gb,1,none⟩) (Kd.N_far (p:=⟨gb,0,none⟩) (Kd.N_below HNa.out hbb3) (fun k hk => by have:=HGAW.out;show k≠gb;omega) (.int .i64 x3)) (fun k hk => by have:=HGAW.out;show k≠gb;omega) (.int .i64 v3)) (fun k hk => by have:=HGAW.out;show k≠gb;omega) (.slice Ab3 nb3 cb3))
  have hbx:=below_set (below_set (below_set (HB.out.trans (hbb3.mono HB.out.size)) HGB.out : Below Wx.heap.size Wx (wc3.setCell ⟨gb,0,none⟩ (.int .i64 x3))) HGB.out : Below Wx.heap.size Wx ((wc3.setCell ⟨gb,0,none⟩ (.int .i64 x3)).setCell ⟨gb,1,none⟩ (.int .i64 v3))) HGB.out (j:=2) (v:=.slice Ab3 nb3 cb3)
  replace YA:=Aside0.mk (blk_far (p:=⟨gb,2,none⟩) (blk_far (p:=⟨gb,1,none⟩) (blk_far (p:=⟨gb,0,none⟩) (blk_below YA.out hbb3) HNE.out.symm (.int .i64 x3)) HNE.out.symm (.int .i64 v3)) HNE.out.symm (.slice Ab3 nb3 cb3))
  replace HSZ:=Aside0.mk (show We2.heap.size≤(((wc3.setCell ⟨gb,0,none⟩ (.int .i64 x3)).setCell ⟨gb,1,none⟩ (.int .i64 v3)).setCell ⟨gb,2,none⟩ (.slice Ab3 nb3 cb3)).heap.size by simpa [World.setCell] using Nat.le_trans HSZ.out hbb3.size)
  replace HB:=Aside0.mk hbx
  clear hbb3 hNb3 hNn hbx yg t0 t1 t2 t0f t1f t2f HI c0 c1 c2 YB HGAW
  generalize ((wc3.setCell _ _).setCell _ _).setCell _ _=wd3 at yb HNa HB HCb YA HSZ ⊢
  have YB:=Aside0.mk yb
  clear yb
  have p0 : wd3.cell? ⟨ga,0,none⟩=some (.int .i64 x3):=by rw [blk_cell (YA.out)];rfl
  have p1 : wd3.cell? ⟨ga,1,none⟩=some (.int .i64 v3):=by rw [blk_cell (YA.out)];rfl
  have p2 : wd3.cell? ⟨ga,2,none⟩=some (.slice Aa3 na3 ca3):=by rw [blk_cell (YA.out)];rfl
  have r0 : wd3.cell? ⟨gb,0,none⟩=some (.int .i64 x3):=by rw [blk_cell (YB.out)];rfl
  have r1 : wd3.cell? ⟨gb,1,none⟩=some (.int .i64 v3):=by rw [blk_cell (YB.out)];rfl
  have r2 : wd3.cell? ⟨gb,2,none⟩=some (.slice Ab3 nb3 cb3):=by rw [blk_cell (YB.out)];rfl
  have HS3:=Aside0.mk (show Calls Try.prog 10 #[.agg #[.int .i64 x3,.int .i64 v3,.slice Aa3 na3 ca3],.int .i64 z3,.agg #[.int .i64 x3,.int .i64 v3,.slice Ab3 nb3 cb3],.int .i64 z3] wd3 fun e w' => e=Ending.returned (.bool true)∧Below We2.heap.size wd3 w'∧∀ (k : Nat) (cs : Array Value),wd3.heap[k]?=some (.cells cs 24 (0,0))→w'.heap[k]?=some (.cells cs 24 (0,0)) by
    have h1:=HNA3.out
    have h2:=HNB3.out
    have h3:=HCb.out
    have h4:=HNa.out
    have h5:=HCbc.out
    subst h1 h2
    exact same17_any We2.heap.size x3 v3 z3 Aa3 ca3 Ab3 cb3 s3 wd3 HSZ.out h4 h3 h5 HF3.out.1 HF3.out.2)
  go_upto_region 18 with (go_at_call 10;(with_reducible refine HS3.out.mono ?_);rintro e We3 ⟨rfl,hbs,hbox⟩)
  replace HB:=Aside0.mk (HB.out.trans (hbs.mono HWX.out))
  replace YA:=Aside0.mk (hbox _ _ YA.out)
  replace YB:=Aside0.mk (hbox _ _ YB.out)
  replace HWX:=Aside0.mk HB.out.size
  clear p0 p1 p2 r0 r1 r2 hbs hbox HS3 HNa HCb HCbc HSZ HF3 HRR3
  obtain ⟨⟨x4,v4,s4,z4⟩,hR4⟩ : ∃ r,r=ctlR q b l:=⟨_,rfl⟩
  have HF4:=Aside0.mk (show Fine (x4,v4,s4,z4) by rw [hR4];exact ctl_fine q b l)
  have HI:=control_out (w:=We3) (q:=q) (b:=b) (Kd.C_below HX.out HB.out) HXC.out HWF.out
  rw [← hR4] at HI
  have HI:=Aside0.mk HI
  have HRR4:=Aside0.mk hR4
  clear hR4
  have cx0 : We3.cell? ⟨gx,0,none⟩=some (.int .i64 q):=by rw [blk_cell (blk_below YX.out HB.out)];rfl
  have cx1 : We3.cell? ⟨gx,1,none⟩=some (.int .i64 b):=by rw [blk_cell (blk_below YX.out HB.out)];rfl
  have cx2 : We3.cell? ⟨gx,2,none⟩=some (.slice Ax l.length cx):=by rw [blk_cell (blk_below YX.out HB.out)];rfl
  go_upto_region 19 with (go_at_call 17;(with_reducible refine HI.out.mono ?_);rintro e wa4 hO;obtain ⟨Aa4,na4,ca4,rfl,hna4,hNa4,hba4⟩:=out_val hO;have HNA4:=Aside0.mk hna4;clear hna4 hO;have yg:=blk_below YA.out hba4;have t0 : wa4.cell? ⟨ga,0,none⟩=some (.int .i64 x3):=(by rw [blk_cell yg];rfl);have t1 : wa4.cell? ⟨ga,1,none⟩=some (.int .i64 v3):=(by rw [blk_cell yg];rfl);have t2 : wa4.cell? ⟨ga,2,none⟩=some (.slice Aa3 na3 ca3):=(by rw [blk_cell yg];rfl);have t0f:=blk_frozen yg 0;have t1f:=blk_frozen yg 1;have t2f:=blk_frozen yg 2)
  have ya : (((wa4.setCell ⟨ga,0,none⟩ (.int .i64 x4)).setCell ⟨ga,1,none⟩ (.int .i64 v4)).setCell ⟨ga,2,none⟩ (.slice Aa4 na4 ca4)).heap[ga]?=some (.cells #[.int .i64 x4,.int .i64 v4,.slice Aa4 na4 ca4] 24 (0,0)):=blk_put (blk_put (blk_put yg 0 (.int .i64 x4) rfl) 1 (.int .i64 v4) rfl) 2 (.slice Aa4 na4 ca4) rfl
  have HNa:=Aside0.mk (Kd.N_far (p:=⟨ga,2,none⟩) (Kd.N_far (p:=⟨ga,1,none⟩) (Kd.N_far (p:=⟨ga,0,none⟩) hNa4 (fun k hk => by have:=blk_lt YA.out;show k≠ga;omega) (.int .i64 x4)) (fun k hk => by have:=blk_lt YA.out;show k≠ga;omega) (.int .i64 v4)) (fun k hk => by have:=blk_lt YA.out;show k≠ga;omega) (.slice Aa4 na4 ca4))
  have hbx:=below_set (below_set (below_set (HB.out.trans (hba4.mono HB.out.size)) HGA.out : Below Wx.heap.size Wx (wa4.setCell ⟨ga,0,none⟩ (.int .i64 x4))) HGA.out : Below Wx.heap.size Wx ((wa4.setCell ⟨ga,0,none⟩ (.int .i64 x4)).setCell ⟨ga,1,none⟩ (.int .i64 v4))) HGA.out (j:=2) (v:=.slice Aa4 na4 ca4)
  have yb:=blk_far (p:=⟨ga,2,none⟩) (blk_far (p:=⟨ga,1,none⟩) (blk_far (p:=⟨ga,0,none⟩) (blk_below YB.out hba4) HNE.out (.int .i64 x4)) HNE.out (.int .i64 v4)) HNE.out (.slice Aa4 na4 ca4)
  have HSZ:=Aside0.mk (show We3.heap.size≤(((wa4.setCell ⟨ga,0,none⟩ (.int .i64 x4)).setCell ⟨ga,1,none⟩ (.int .i64 v4)).setCell ⟨ga,2,none⟩ (.slice Aa4 na4 ca4)).heap.size by simpa [World.setCell] using hba4.size)
  have HGAW:=Aside0.mk (show ga < We3.heap.size∧gb < We3.heap.size from ⟨blk_lt YA.out,blk_lt YB.out⟩)
  replace HB:=Aside0.mk hbx
  clear hba4 hNa4 hbx yg t0 t1 t2 t0f t1f t2f HI cx0 cx1 cx2 YA YB
  generalize ((wa4.setCell _ _).setCell _ _).setCell _ _=wb4 at ya yb HNa HB HSZ ⊢
  have YB:=Aside0.mk yb
  clear yb
  have YA:=Aside0.mk ya
  clear ya
  have HI:=rcontrol_out (w:=wb4) (q:=q) (b:=b) (Kd.C_below HA.out HB.out) HS.out HWF.out
  rw [← HRR4.out] at HI
  have HI:=Aside0.mk HI
  have c0 : wb4.cell? ⟨g0,0,none⟩=some (.int .i64 q):=by rw [blk_cell (blk_below Y00.out HB.out)];rfl
  have c1 : wb4.cell? ⟨g0,1,none⟩=some (.int .i64 b):=by rw [blk_cell (blk_below Y00.out HB.out)];rfl
  have c2 : wb4.cell? ⟨g0,2,none⟩=some (.slice A l.length c):=by rw [blk_cell (blk_below Y00.out HB.out)];rfl
  go_upto_region 20 with (go_at_call 18;(with_reducible refine HI.out.mono ?_);rintro e wc4 hO;obtain ⟨Ab4,nb4,cb4,rfl,hnb4,hNb4,hbb4⟩:=out_val hO;have HNB4:=Aside0.mk hnb4;clear hnb4 hO;have yg:=blk_below YB.out hbb4;have t0 : wc4.cell? ⟨gb,0,none⟩=some (.int .i64 x3):=(by rw [blk_cell yg];rfl);have t1 : wc4.cell? ⟨gb,1,none⟩=some (.int .i64 v3):=(by rw [blk_cell yg];rfl);have t2 : wc4.cell? ⟨gb,2,none⟩=some (.slice Ab3 nb3 cb3):=(by rw [blk_cell yg];rfl);have t0f:=blk_frozen yg 0;have t1f:=blk_frozen yg 1;have t2f:=blk_frozen yg 2)
  have yb : (((wc4.setCell ⟨gb,0,none⟩ (.int .i64 x4)).setCell ⟨gb,1,none⟩ (.int .i64 v4)).setCell ⟨gb,2,none⟩ (.slice Ab4 nb4 cb4)).heap[gb]?=some (.cells #[.int .i64 x4,.int .i64 v4,.slice Ab4 nb4 cb4] 24 (0,0)):=blk_put (blk_put (blk_put yg 0 (.int .i64 x4) rfl) 1 (.int .i64 v4) rfl) 2 (.slice Ab4 nb4 cb4) rfl
  have hNn:=Kd.N_far (p:=⟨gb,2,none⟩) (Kd.N_far (p:=⟨gb,1,none⟩) (Kd.N_far (p:=⟨gb,0,none⟩) hNb4 (fun k hk => by have:=HGAW.out;have:=HSZ.out;show k≠gb;omega) (.int .i64 x4)) (fun k hk => by have:=HGAW.out;have:=HSZ.out;show k≠gb;omega) (.int .i64 v4)) (fun k hk => by have:=HGAW.out;have:=HSZ.out;show k≠gb;omega) (.slice Ab4 nb4 cb4)
  have HCb:=Aside0.mk (k46w_C (Kd.N_reads' hNn).2.2)
  have HCbc:=Aside0.mk (Kd.N_reads' hNb4).2.1
  replace HNa:=Aside0.mk (Kd.N_far (p:=⟨gb,2,none⟩) (Kd.N_far (p:=⟨gb,1,none⟩) (Kd.N_far (p:=⟨gb,0,none⟩) (Kd.N_below HNa.out hbb4) (fun k hk => by have:=HGAW.out;show k≠gb;omega) (.int .i64 x4)) (fun k hk => by have:=HGAW.out;show k≠gb;omega) (.int .i64 v4)) (fun k hk => by have:=HGAW.out;show k≠gb;omega) (.slice Ab4 nb4 cb4))
  have hbx:=below_set (below_set (below_set (HB.out.trans (hbb4.mono HB.out.size)) HGB.out : Below Wx.heap.size Wx (wc4.setCell ⟨gb,0,none⟩ (.int .i64 x4))) HGB.out : Below Wx.heap.size Wx ((wc4.setCell ⟨gb,0,none⟩ (.int .i64 x4)).setCell ⟨gb,1,none⟩ (.int .i64 v4))) HGB.out (j:=2) (v:=.slice Ab4 nb4 cb4)
  replace YA:=Aside0.mk (blk_far (p:=⟨gb,2,none⟩) (blk_far (p:=⟨gb,1,none⟩) (blk_far (p:=⟨gb,0,none⟩) (blk_below YA.out hbb4) HNE.out.symm (.int .i64 x4)) HNE.out.symm (.int .i64 v4)) HNE.out.symm (.slice Ab4 nb4 cb4))
  replace HSZ:=Aside0.mk (show We3.heap.size≤(((wc4.setCell ⟨gb,0,none⟩ (.int .i64 x4)).setCell ⟨gb,1,none⟩ (.int .i64 v4)).setCell ⟨gb,2,none⟩ (.slice Ab4 nb4 cb4)).heap.size by simpa [World.setCell] using Nat.le_trans HSZ.out hbb4.size)
  replace HB:=Aside0.mk hbx
  clear hbb4 hNb4 hNn hbx yg t0 t1 t2 t0f t1f t2f HI c0 c1 c2 YB HGAW
  generalize ((wc4.setCell _ _).setCell _ _).setCell _ _=wd4 at yb HNa HB HCb YA HSZ ⊢
  have YB:=Aside0.mk yb
  clear yb
  have p0 : wd4.cell? ⟨ga,0,none⟩=some (.int .i64 x4):=by rw [blk_cell (YA.out)];rfl
  have p1 : wd4.cell? ⟨ga,1,none⟩=some (.int .i64 v4):=by rw [blk_cell (YA.out)];rfl
  have p2 : wd4.cell? ⟨ga,2,none⟩=some (.slice Aa4 na4 ca4):=by rw [blk_cell (YA.out)];rfl
  have r0 : wd4.cell? ⟨gb,0,none⟩=some (.int .i64 x4):=by rw [blk_cell (YB.out)];rfl
  have r1 : wd4.cell? ⟨gb,1,none⟩=some (.int .i64 v4):=by rw [blk_cell (YB.out)];rfl
  have r2 : wd4.cell? ⟨gb,2,none⟩=some (.slice Ab4 nb4 cb4):=by rw [blk_cell (YB.out)];rfl
  have HS4:=Aside0.mk (show Calls Try.prog 10 #[.agg #[.int .i64 x4,.int .i64 v4,.slice Aa4 na4 ca4],.int .i64 z4,.agg #[.int .i64 x4,.int .i64 v4,.slice Ab4 nb4 cb4],.int .i64 z4] wd4 fun e w' => e=Ending.returned (.bool true)∧Below We3.heap.size wd4 w'∧∀ (k : Nat) (cs : Array Value),wd4.heap[k]?=some (.cells cs 24 (0,0))→w'.heap[k]?=some (.cells cs 24 (0,0)) by
    have h1:=HNA4.out
    have h2:=HNB4.out
    have h3:=HCb.out
    have h4:=HNa.out
    have h5:=HCbc.out
    subst h1 h2
    exact same17_any We3.heap.size x4 v4 z4 Aa4 ca4 Ab4 cb4 s4 wd4 HSZ.out h4 h3 h5 HF4.out.1 HF4.out.2)
  go_wp2_with (first|(go_at_call 10;(with_reducible refine HS4.out.mono ?_);rintro e We4 ⟨rfl,hbs,hbox⟩;replace HB:=Aside0.mk (HB.out.trans (hbs.mono HWX.out));have HXE:=Aside0.mk (Kd.C_below HX.out HB.out);have HAE:=Aside0.mk (Kd.C_below HA.out HB.out);have cx0 : We4.cell? ⟨gx,0,none⟩=some (.int .i64 q):=(by rw [blk_cell (blk_below YX.out HB.out)];rfl);have cx1 : We4.cell? ⟨gx,1,none⟩=some (.int .i64 b):=(by rw [blk_cell (blk_below YX.out HB.out)];rfl);have cx2 : We4.cell? ⟨gx,2,none⟩=some (.slice Ax l.length cx):=(by rw [blk_cell (blk_below YX.out HB.out)];rfl);have c0 : We4.cell? ⟨g0,0,none⟩=some (.int .i64 q):=(by rw [blk_cell (blk_below Y00.out HB.out)];rfl);have c1 : We4.cell? ⟨g0,1,none⟩=some (.int .i64 b):=(by rw [blk_cell (blk_below Y00.out HB.out)];rfl);have c2 : We4.cell? ⟨g0,2,none⟩=some (.slice A l.length c):=(by rw [blk_cell (blk_below Y00.out HB.out)];rfl);clear p0 p1 p2 r0 r1 r2 hbs hbox)|(go_at_call 19;(with_reducible refine (phasorref08_Same.calls k9 q b Ax cx l q b A c l true _ HXE.out HXC.out HAE.out HS.out E9.out).mono ?_);rintro e Wf ⟨rfl,hbf⟩;replace HB:=Aside0.mk (HB.out.trans (hbf.mono HB.out.size));clear hbf)|(go_at_call 20;(with_reducible refine (heads17_any _).mono ?_);rintro e Wg ⟨rfl,hbg⟩;replace HB:=Aside0.mk (HB.out.trans (hbg.mono HB.out.size));clear hbg))
  go_ret
  exact ⟨rfl,HBW.out.trans (HB.out.mono HBW.out.size)⟩
theorem makes_row (q b : Int) (A : Option Addr) (c : Nat) (l : List Opn) (kk : Int) (w : World) (HC : Kd.C k46 w A l.length l) (hc : l.length≤c) (hw : WfL l) (hn : l.length * 64≤140737488351232) (hf : ∀ o ∈ l,o.f2.length * 8≤140737488351232) (_ : (Lit.int .i64 kk).wf=true) :
    Calls Try.prog 3 #[.agg #[.int .i64 q,.int .i64 b,.slice A l.length c],.int .i64 kk] w fun e w' => e=.returned (.bool true)∧Below w.heap.size w w' :=
  makes_walk q b A c l kk w HC hc hw (by omega) (fun o ho => by have:=hf o ho;omega)
end Go.Proofs.Ytbelnopbggkdfaa.Q
end

section
namespace Go.Proofs.Ytbelnopbggkdfaa.Q
open Go.ChangeShapes Go.WideShapes Go.ChangeAt Go.Deep Go.Joins
open Go.RowKit Go.Proofs.YtbelnopbggkdfaaW.PrintWords Go.Proofs.YtbelnopbggkdfaaW.PrintLast Go.Proofs.YtbelnopbggkdfaaW.PrintMore
section
variable {H : Type} {enc : TypeId × Value→H} {W : World} {spare : Nat→Bool} {held : Bool}
theorem cells1 : Try.prog.cellsOf 3=1:=by kernel_rfl
theorem cells6 : Try.prog.cellsOf 46=6:=by kernel_rfl
theorem cells1k : Try.prog.cellsOf 44=1:=by kernel_rfl
theorem cells1o : Try.prog.cellsOf 43=1:=by kernel_rfl
theorem cells1s : Try.prog.cellsOf 37=1:=by kernel_rfl
end
end Go.Proofs.Ytbelnopbggkdfaa.Q
end

section
namespace Go.Proofs.Ytbelnopbggkdfaa.Q
open Go.ChangeShapes Go.WideShapes Go.ChangeAt Go.Deep Go.Joins
open Go.RowKit Go.Proofs.YtbelnopbggkdfaaW.PrintWords Go.Proofs.YtbelnopbggkdfaaW.PrintLast Go.Proofs.YtbelnopbggkdfaaW.PrintMore
section
variable {H : Type} {enc : TypeId × Value→H} {W : World} {spare : Nat→Bool} {held : Bool}
theorem weights_mem_all {P : Program} {e : TypeId} : ∀ {ds : List (DataW H)} {d : DataW H} {n : Nat},d ∈ ds→n ∈ d.weights P e→n ∈ DataW.weightsAll P e ds
  | d0 :: ds,d,n,hd,hn => by
    simp only [DataW.weightsAll,List.mem_append]
    rcases List.mem_cons.1 hd with rfl|hd
    · exact .inl hn
    · exact .inr (weights_mem_all hd hn)
theorem bytes8 : Try.prog.bytesOf 3=8:=by kernel_rfl
theorem bytes64 : Try.prog.bytesOf 46=64:=by kernel_rfl
theorem open_intsS {fuel : Nat} {cs : List Value} {x : DataW H × List MemPlace} (h : DataW.trod enc Try.prog W 0 (fun _ => true) held fuel 37 cs=some x) :
    ∃ (A : Option Addr) (c : Nat) (zs : List Int),cs=[.slice A zs.length c]∧zs.length≤c∧Kd.C (Kd.int .i64) W A zs.length zs∧(∀ z ∈ zs,(Lit.int .i64 z).wf=true)∧(∀ N,(∀ n ∈ x.1.weights Try.prog 37,n≤N)→zs.length * 8≤N):=by
  rcases open_slice Try.underlying37 h with ⟨rfl,-⟩ | ⟨a,len,cap,m,n,D,Pl,rfl,-,hl,hm,hmm,hx,hi⟩
  · exact ⟨none,0,[],rfl,Nat.le_refl _,Kd.C_nil _ _,by simp,by simp⟩
  · rw [if_pos rfl] at hmm
    subst hmm
    rw [cells1] at hi
    have hz : ∀ i,i < m→∃ z,W.cell? (a.add i)=some (.int .i64 z)∧(Lit.int .i64 z).wf=true:=fun i hi' => by
      obtain ⟨cs',hc,ht⟩:=hi i hi'
      obtain ⟨z,rfl,-,hw⟩:=DataW.trod_int Try.underlying3 ht
      obtain ⟨-,-,hat⟩:=World.cells?_some hc
      have:=hat 0 (by decide)
      rw [Go.Deep.add_add,Nat.mul_one] at this
      exact ⟨z,by simpa using this,hw⟩
    have hz2 : ∀ i : Nat,∃ z,i < m→W.cell? (a.add i)=some (.int .i64 z)∧(Lit.int .i64 z).wf=true:=fun i => by
      by_cases h : i < m
      · obtain ⟨z,hz'⟩:=hz i h
        exact ⟨z,fun _ => hz'⟩
      · exact ⟨0,fun h' => absurd h' h⟩
    let g : Nat→Int:=fun i => (hz2 i).choose
    have hg : ∀ i,i < m→W.cell? (a.add i)=some (.int .i64 (g i))∧(Lit.int .i64 (g i)).wf=true:=fun i h => (hz2 i).choose_spec h
    have hlen : ((List.range len).map g).length=len:=by simp
    refine ⟨some a,m,(List.range len).map g,by rw [hlen],by rw [hlen];exact hl,?_,?_,fun N hN => ?_⟩
    · rw [hlen]
      refine Kd.C_of_reads (enc:=Value.int .i64) (d:=(0 : Int)) (h1:=fun _ => rfl) ⟨hlen,Nat.le_trans hl hm,fun _ => ⟨a,rfl,fun j hj => ?_⟩⟩
      rw [(hg j (by omega)).1]
      simp [List.getD_eq_getElem?_getD,List.getElem?_map,List.getElem?_range hj]
    · intro z hz
      obtain ⟨i,hi',rfl⟩:=List.mem_map.1 hz
      exact (hg i (by have:=List.mem_range.1 hi';omega)).2
    · have:=hN ((len + (m - len)) * Try.prog.bytesOf 3) (by rw [hx];simp [DataW.weights,Try.underlying37])
      rw [bytes8] at this
      rw [hlen]
      omega
set_option maxRecDepth 100000 in
/-- One operation. -/
theorem open_opS {fuel : Nat} {cs : List Value} {x : DataW H × List MemPlace} (h : DataW.trod enc Try.prog W 0 (fun _ => true) held fuel 46 cs=some x) :
    ∃ o : Opn,Kd.K k46 W o cs∧(Lit.int .i64 o.f1).wf=true∧cs.length=6∧(∀ N,(∀ n ∈ x.1.weights Try.prog 46,n≤N)→o.f2.length * 8≤N):=by
  obtain ⟨xs,n,-,hxx,hlen,hxl,hf⟩:=DataW.trod_struct Try.underlying46 h
  rw [cells6] at hlen
  match cs,hlen with
  | [u0,u1,u2,u3,u4,u5],_ =>
    have hx : ∀ i,i < 6→∃ y,xs[i]?=some y:=fun i hi => ⟨xs[i]'(by rw [hxl];exact hi),List.getElem?_eq_getElem _⟩
    obtain ⟨y0,hy0⟩:=hx 0 (by decide)
    have h0:=(hf 0 _ rfl).trans hy0
    obtain ⟨y1,hy1⟩:=hx 1 (by decide)
    have h1:=(hf 1 _ rfl).trans hy1
    obtain ⟨y2,hy2⟩:=hx 2 (by decide)
    have h2:=(hf 2 _ rfl).trans hy2
    obtain ⟨y3,hy3⟩:=hx 3 (by decide)
    have h3:=(hf 3 _ rfl).trans hy3
    obtain ⟨y4,hy4⟩:=hx 4 (by decide)
    have h4:=(hf 4 _ rfl).trans hy4
    obtain ⟨y5,hy5⟩:=hx 5 (by decide)
    have h5:=(hf 5 _ rfl).trans hy5
    simp only [List.getElem_toArray,List.getElem_cons_succ,List.getElem_cons_zero,cells1,cells1k,cells1o,cells1s,List.drop_zero,List.drop_succ_cons,List.take_succ_cons,List.take_zero] at h0 h1 h2 h3 h4 h5
    obtain ⟨z0,e0,-,w0⟩:=DataW.trod_int Try.underlying43 h0
    obtain ⟨z1,e1,-,w1⟩:=DataW.trod_int Try.underlying44 h1
    obtain ⟨A,c,zs,e2,hc,hC,-,hN⟩:=open_intsS h2
    obtain ⟨z3,e3,-,w3⟩:=DataW.trod_int Try.underlying3 h3
    obtain ⟨z4,e4,-,w4⟩:=DataW.trod_int Try.underlying3 h4
    obtain ⟨z5,e5,-,w5⟩:=DataW.trod_int Try.underlying3 h5
    cases e0;cases e1;cases e2;cases e3;cases e4;cases e5
    refine ⟨⟨z0,z1,zs,z3,z4,z5⟩,k46_mk W _ hc hC,w1,rfl,fun N hall => hN N fun n hn => hall n ?_⟩
    rw [hxx]
    simp only [DataW.weights,Try.underlying46]
    exact DataW.weights_mem_each (j:=2) (t:=37) (d:=y2.1) rfl (by rw [List.getElem?_map,hy2];rfl) n hn
set_option maxRecDepth 100000 in
/-- A circuit. -/
theorem open_circS {b0 : Nat} {v : Value} {d : DataW H} {p : List MemPlace} (hv : Value.okWide Try.prog W .any b0 24 v) (h : DataW.Trod enc Try.prog W 0 (fun _ => true) held 24 v d p) {N : Nat} (hN : ∀ n ∈ d.weights Try.prog 24,n≤N) :
    ∃ (q b : Int) (A : Option Addr) (c : Nat) (l : List Opn),v=.agg #[.int .i64 q,.int .i64 b,.slice A l.length c]∧l.length≤c∧Kd.C k46 W A l.length l∧WfL l∧l.length * 64≤N∧∀ o ∈ l,o.f2.length * 8≤N:=by
  obtain ⟨v0,v1,v2,y0,y1,y2,n,rfl,hd,-,h0,h1,h2⟩:=open_agg3 Try.underlying24 (by kernel_rfl) (by kernel_rfl) hv h
  have hN2 : ∀ n ∈ y2.1.weights Try.prog 22,n≤N:=fun n hn => hN n (by
    rw [hd]
    simp only [DataW.weights,Try.underlying24]
    exact DataW.weights_mem_each (j:=2) (t:=22) (d:=y2.1) rfl rfl n hn)
  obtain ⟨q,e0,-,-⟩:=DataW.trod_int Try.underlying3 h0
  obtain ⟨b,e1,-,-⟩:=DataW.trod_int Try.underlying3 h1
  cases e0;cases e1
  rcases open_slice Try.underlying22 h2 with ⟨e2,-⟩ | ⟨a,len,cap,m,n',D,Pl,e2,-,hl,hm,hmm,hx,hi⟩
  · cases e2
    exact ⟨q,b,none,0,[],rfl,Nat.le_refl _,Kd.C_nil _ _,by simp [WfL],by simp,by simp⟩
  · cases e2
    rw [if_pos rfl] at hmm
    subst hmm
    rw [cells6] at hi
    have hz2 : ∀ i : Nat,∃ o : Opn,i < m→∃ cs,Kd.K k46 W o cs∧(Lit.int .i64 o.f1).wf=true∧cs.length=6∧(∀ j u,cs[j]?=some u→W.cell? (a.add (i * 6 + j))=some u)∧∀ N,(∀ n ∈ (D i).weights Try.prog 46,n≤N)→o.f2.length * 8≤N:=fun i => by
      by_cases h : i < m
      · obtain ⟨cs',hc,ht⟩:=hi i h
        obtain ⟨o,k1,k2,k3,k4⟩:=open_opS ht
        obtain ⟨-,hcl,hat⟩:=World.cells?_some hc
        refine ⟨o,fun _ => ⟨cs',k1,k2,k3,fun j u hu => ?_,k4⟩⟩
        have hj:=(List.getElem?_eq_some_iff.1 hu).1
        rw [← Go.Deep.add_add,hat j (by omega),hu]
      · exact ⟨z46,fun h' => absurd h' h⟩
    let g : Nat→Opn:=fun i => (hz2 i).choose
    have hg : ∀ i,i < m→∃ cs,Kd.K k46 W (g i) cs∧(Lit.int .i64 (g i).f1).wf=true∧cs.length=6∧(∀ j u,cs[j]?=some u→W.cell? (a.add (i * 6 + j))=some u)∧∀ N,(∀ n ∈ (D i).weights Try.prog 46,n≤N)→(g i).f2.length * 8≤N:=fun i h => (hz2 i).choose_spec h
    have hlen : ((List.range len).map g).length=len:=by simp
    refine ⟨q,b,some a,m,(List.range len).map g,by rw [hlen],by rw [hlen];exact hl,?_,?_,?_,?_⟩
    · rw [hlen]
      refine ⟨hlen,Nat.le_trans hl hm,fun _ => ⟨a,rfl,fun j p hj => ?_⟩⟩
      have hjl:=(List.getElem?_eq_some_iff.1 hj).1
      rw [hlen] at hjl
      have : p=g j:=by
        simp [List.getElem?_map,List.getElem?_range hjl] at hj
        exact hj.symm
      subst this
      obtain ⟨cs,k1,-,k3,k4,-⟩:=hg j (by omega)
      exact ⟨cs,k3,k1,fun i u hu => k4 i u hu⟩
    · intro o ho
      obtain ⟨i,hi',rfl⟩:=List.mem_map.1 ho
      obtain ⟨_,_,k2,_⟩:=hg i (by have:=List.mem_range.1 hi';omega)
      exact k2
    · have:=hN2 ((len + (m - len)) * Try.prog.bytesOf 46) (by rw [hx];simp [DataW.weights,Try.underlying22])
      rw [bytes64] at this
      rw [hlen]
      omega
    · intro o ho
      obtain ⟨i,hi',rfl⟩:=List.mem_map.1 ho
      have hil:=List.mem_range.1 hi'
      obtain ⟨_,_,_,_,_,k5⟩:=hg i (by omega)
      refine k5 N fun n hn => hN2 n ?_
      rw [hx]
      simp only [DataW.weights,Try.underlying22,List.mem_cons,List.mem_append]
      exact .inr (.inl (weights_mem_all (List.mem_map.2 ⟨i,hi',rfl⟩) hn))
end
end Go.Proofs.Ytbelnopbggkdfaa.Q
end
