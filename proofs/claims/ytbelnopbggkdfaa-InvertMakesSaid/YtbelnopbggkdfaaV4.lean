/- A part of the proof: texts of this claim laid together by a program of its own; what the proof does not use is struck. -/
import Derived.Test.YtbelnopbggkdfaaV3
section
namespace Go.Proofs.Ytbelnopbggkdfaa.Q
open Go.RowKit Go.Proofs.YtbelnopbggkdfaaW.PrintWords Go.Proofs.YtbelnopbggkdfaaW.PrintLast Go.Proofs.YtbelnopbggkdfaaW.PrintMore
theorem arity_pos {k : Int} (h1 : 1≤k) (h2 : k≤20) : 0 < Lift.arityF k:=by
  obtain ⟨n,rfl⟩ : ∃ n : Nat,k=((n + 1 : Nat) : Int):=⟨(k - 1).toNat,by omega⟩
  have hn : n < 20:=by omega
  obtain rfl|rfl|rfl|rfl|rfl|rfl|rfl|rfl|rfl|rfl|rfl|rfl|rfl|rfl|rfl|rfl|rfl|rfl|rfl|rfl : n=0∨n=1∨n=2∨n=3∨n=4∨n=5∨n=6∨n=7∨n=8∨n=9∨n=10∨n=11∨n=12∨n=13∨n=14∨n=15∨n=16∨n=17∨n=18∨n=19:=by omega
  all_goals decide
set_option maxHeartbeats 4000000 in
set_option maxRecDepth 1000000 in
theorem cj_no (q b : Int) (A : Option Addr) (c : Nat) (l : List Opn) (w : World) (HC : Kd.C k46 w A l.length l) (hc : l.length≤c) (hw : WfL l) (k1 : Nat) (e1 : invert_checked.f k1 q b l=some (0,0,[],80)) :
    Calls Try.prog 11 #[.agg #[.int .i64 q,.int .i64 b,.slice A l.length c]] w (Out w (0,0,[],80)):=by
  have HR:=Aside0.mk HC
  have HS:=Aside0.mk hc
  have HWF:=Aside0.mk hw
  have E1:=Aside0.mk e1
  clear HC hc hw e1
  have hu24:=Try.underlying24
  go_enter Try.func11,Try.ntmps11
  go_upto_region 1 with fail
  have F:=Aside0.mk (Fr.start (q:=q) (b:=b) (c:=c) HR.out)
  clear HR
  obtain ⟨g2,hg2⟩ : ∃ g,g=w.heap.size + 1:=⟨_,rfl⟩
  rw [← hg2] at F ⊢
  clear hg2
  generalize ((w.alloc _).alloc _)=W at F ⊢
  obtain ⟨c0,c1,c2,d0,d1,d2,f0,f1,f2⟩:=F.out.cells
  go_upto_region 2 with (go_at_call 42;(with_reducible refine (invert_checked.calls k1 q b _ _ l _ _ _ _ _ F.out.hc HS.out E1.out).mono ?_);rintro e w3 ⟨v1,rfl,ho1,hb3⟩;obtain ⟨A3,n3,c3,rfl⟩ : ∃ A n c,v1=.slice A n c:=(Kd.S_slice ho1).elim fun A h => h.elim fun c e => ⟨A,_,c,e⟩)
  have bb:=below_alloc (Below.refl w3.heap.size w3) (.cells #[.int .i64 0,.int .i64 0,.slice A3 n3 c3] 24)
  have y4:=blk_new w3 (.cells #[.int .i64 0,.int .i64 0,.slice A3 n3 c3] 24)
  have HQ:=Aside0.mk (Kd.N_lower (Kd.N_mono (Kd.N_below (Kd.S_N (k46w_S (Kd.S_bound ho1))) bb) (fun k hk => F.out.fresh k hk.2.1)) F.out.hb.size)
  replace F:=Aside0.mk (F.out.below (below_step hb3 bb))
  clear c0 c1 c2 d0 d1 d2 f0 f1 f2
  obtain ⟨c0,c1,c2,d0,d1,d2,f0,f1,f2⟩:=F.out.cells
  clear hb3 ho1 bb
  generalize w3.heap.size=g4 at y4 ⊢
  generalize w3.alloc _=w4 at y4 HQ F c0 c1 c2 d0 d1 d2 f0 f1 f2 ⊢
  have q0 : w4.cell? ⟨g4,0,none⟩=some (.int .i64 0):=by rw [blk_cell y4];rfl
  have q1 : w4.cell? ⟨g4,1,none⟩=some (.int .i64 0):=by rw [blk_cell y4];rfl
  have q2 : w4.cell? ⟨g4,2,none⟩=some (.slice A3 n3 c3):=by rw [blk_cell y4];rfl
  clear y4
  go_wp2
  refine bodyPost_ret (results_ct rfl _ _ g2 24 _ (0,0) _ rfl (F.out.put 0 0 (.slice A3 n3 c3)) Try.underlying24 rfl (by kernel_rfl)) rfl ?_
  exact F.out.out HQ.out
set_option maxHeartbeats 4000000 in
set_option maxRecDepth 1000000 in
theorem cj_main (q b : Int) (A : Option Addr) (c : Nat) (l : List Opn) (w : World) (HC : Kd.C k46 w A l.length l) (hc : l.length≤c) (hw : WfL l) (k1 : Nat) (e1 : invert_checked.f k1 q b l=some (q,b,l,0)) (hle : l.length≤4096) (hpos : 0 < l.length) (hqs : ∀ o ∈ l,o.f2.length≤64) (hg : ∀ o ∈ l,o.f0=1→1≤o.f1∧o.f1≤20∧0 < o.f2.length) :
    Calls Try.prog 11 #[.agg #[.int .i64 q,.int .i64 b,.slice A l.length c]] w (Out w (toldR q b (l.flatMap conjO))):=by
  have HGATE:=Aside0.mk hg
  have HLE:=Aside0.mk hle
  have HQS:=Aside0.mk hqs
  have HPOS:=Aside0.mk hpos
  clear hg hle hqs hpos
  have HR:=Aside0.mk HC
  have HS:=Aside0.mk hc
  have HWF:=Aside0.mk hw
  have E1:=Aside0.mk e1
  clear HC hc hw e1
  have hu24:=Try.underlying24
  go_enter Try.func11,Try.ntmps11
  go_upto_region 1 with fail
  have F:=Aside0.mk (Fr.start (q:=q) (b:=b) (c:=c) HR.out)
  clear HR
  obtain ⟨g2,hg2⟩ : ∃ g,g=w.heap.size + 1:=⟨_,rfl⟩
  rw [← hg2] at F ⊢
  clear hg2
  generalize ((w.alloc _).alloc _)=W at F ⊢
  obtain ⟨c0,c1,c2,d0,d1,d2,f0,f1,f2⟩:=F.out.cells
  go_upto_region 4 with (go_at_call 42;(with_reducible refine (invert_checked.calls k1 q b _ _ l _ _ _ _ _ F.out.hc HS.out E1.out).mono ?_);rintro e w3 ⟨v1,rfl,ho1,hb3⟩;obtain ⟨A3,c3,rfl⟩:=Kd.S_slice ho1)
  have bb:=below_alloc (Below.refl w3.heap.size w3) (.cells #[.int .i64 q,.int .i64 b,.slice A3 l.length c3] 24)
  have y4:=blk_new w3 (.cells #[.int .i64 q,.int .i64 b,.slice A3 l.length c3] 24)
  have HG4:=Aside0.mk (show g2 < w3.heap.size from blk_lt (F.out.below hb3).b2)
  have HQ:=Aside0.mk (Kd.N_lower (Kd.N_mono (Kd.N_below (Kd.S_N (k46w_S (Kd.S_bound ho1))) bb) (fun k hk => show w.heap.size≤k∧k≠g2∧k < w3.heap.size from ⟨(F.out.fresh k hk.2.1).1,(F.out.fresh k hk.2.1).2,hk.2.2.1⟩)) F.out.hb.size)
  replace F:=Aside0.mk (F.out.below (below_step hb3 bb))
  clear c0 c1 c2 d0 d1 d2 f0 f1 f2
  obtain ⟨c0,c1,c2,d0,d1,d2,f0,f1,f2⟩:=F.out.cells
  clear hb3 ho1 bb
  generalize w3.heap.size=g4 at y4 HQ HG4 ⊢
  generalize w3.alloc _=w4 at y4 HQ F c0 c1 c2 d0 d1 d2 f0 f1 f2 ⊢
  have Y4:=Aside0.mk y4
  have q0 : w4.cell? ⟨g4,0,none⟩=some (.int .i64 q):=by rw [blk_cell y4];rfl
  have q1 : w4.cell? ⟨g4,1,none⟩=some (.int .i64 b):=by rw [blk_cell y4];rfl
  have q2 : w4.cell? ⟨g4,2,none⟩=some (.slice A3 l.length c3):=by rw [blk_cell y4];rfl
  obtain ⟨g,hA3⟩ : ∃ g,A3=some ⟨g,0,none⟩:=by
    obtain ⟨g,cap,e,-⟩:=Kd.N_form HQ.out HPOS.out
    injection e with e _ _
    exact ⟨g,e⟩
  subst hA3
  have HG44:=Aside0.mk (show g4 < w4.heap.size from blk_lt y4)
  have HNEW:=Aside0.mk (show ∀ k,w4.heap.size≤k→w.heap.size≤k∧k≠g2∧k≠g4 from fun k hk => by have h1:=HG44.out;have h2:=HG4.out;have h3:=F.out.g;exact ⟨by omega,by omega,by omega⟩)
  have HN0:=Aside0.mk (show Kd.N k46w 46 w4 w4.heap.size (fun k => w.heap.size≤k∧k≠g2∧k≠g4) (.slice none 0 0) ((l.take 0).flatMap conjO) from Kd.N_nil _ _ _ _ _)
  have HB0:=Aside0.mk (Below.refl w4.heap.size w4)
  clear y4 c0 c1 c2 d0 d1 d2 f0 f1 f2 q0 q1
  go_wp2_with fail
  clear q2
  go_loopg [6,24] l.length (fun gk v6 v24 wr => ∃ i : Nat,i≤l.length∧l.length - i≤gk∧v24=.int .i64 (i : Int)∧Aside0 (Below w4.heap.size w4 wr)∧Aside0 (Kd.N k46w 46 wr w4.heap.size (fun k => w.heap.size≤k∧k≠g2∧k≠g4) v6 ((l.take i).flatMap conjO)))
  case atStart => exact ⟨0,by omega,by omega,by go_num,HB0,HN0⟩
  case round =>
    obtain ⟨i,hi0,hi1,rfl,HB,HN⟩:=hrel
    have hle:=HLE.out
    obtain ⟨Av,nv,cv,hv6⟩ : ∃ A n c,u6=.slice A n c:=(Kd.N_slice HN.out).elim fun A h => h.elim fun c e => ⟨A,_,c,e⟩
    subst hv6
    by_cases hlt : i < l.length
    · obtain ⟨x,hx⟩ : ∃ x,l[i]?=some x:=⟨_,List.getElem?_eq_getElem hlt⟩
      have HX:=Aside0.mk hx
      have HST:=Aside0.mk (conjs_step hx)
      have HPL:=Aside0.mk (show ((l.take i).flatMap conjO).length≤5 * 4096 from Nat.le_trans (conjs_len _) (by rw [List.length_take];omega))
      obtain ⟨A2,c2,hcx,hF⟩:=(RowS.of (Kd.N_below HQ.out HB.out)).at hx
      have a0:=(hcx 0 _ (by omega) rfl).1
      have a1:=(hcx 1 _ (by omega) rfl).1
      have a2:=(hcx 2 _ (by omega) rfl).1
      have a3:=(hcx 3 _ (by omega) rfl).1
      have a4:=(hcx 4 _ (by omega) rfl).1
      have a5:=(hcx 5 _ (by omega) rfl).1
      simp only [Nat.add_zero] at a0
      unfold ofV at a0 a1 a2 a3 a4 a5
      dsimp only at a0 a1 a2 a3 a4 a5
      clear hcx hx
      go_upto_region 8 with fail
      generalize hPRE : (l.take i).flatMap conjO=PRE at HN HST HPL
      have bb7:=below_alloc (Below.refl wr.heap.size wr) (.cells #[.int .i64 x.f0,.int .i64 x.f1,.slice A2 x.f2.length c2,.int .i64 x.f3,.int .i64 x.f4,.int .i64 x.f5] 46)
      have y8:=blk_new wr (.cells #[.int .i64 x.f0,.int .i64 x.f1,.slice A2 x.f2.length c2,.int .i64 x.f3,.int .i64 x.f4,.int .i64 x.f5] 46)
      have HF:=Aside0.mk (Kd.FK_below hF bb7)
      have HLT:=Aside0.mk (show ∀ k,(.slice Av nv cv : Value).ownBlock=some k→k < wr.heap.size from Kd.N_lt HN.out)
      replace HN:=Aside0.mk (Kd.N_below HN.out bb7)
      have HW4:=Aside0.mk (show w4.heap.size≤wr.heap.size from HB.out.size)
      replace HB:=Aside0.mk (below_step HB.out bb7)
      clear a0 a1 a2 a3 a4 a5 hF bb7 hPRE
      generalize wr.heap.size=g8 at y8 HLT HW4 ⊢
      generalize wr.alloc _=wa at y8 HN HF HB ⊢
      have a0 : wa.cell? ⟨g8,0,none⟩=some (.int .i64 x.f0):=by rw [blk_cell y8];rfl
      have a1 : wa.cell? ⟨g8,1,none⟩=some (.int .i64 x.f1):=by rw [blk_cell y8];rfl
      have a2 : wa.cell? ⟨g8,2,none⟩=some (.slice A2 x.f2.length c2):=by rw [blk_cell y8];rfl
      have a3 : wa.cell? ⟨g8,3,none⟩=some (.int .i64 x.f3):=by rw [blk_cell y8];rfl
      have a4 : wa.cell? ⟨g8,4,none⟩=some (.int .i64 x.f4):=by rw [blk_cell y8];rfl
      have a5 : wa.cell? ⟨g8,5,none⟩=some (.int .i64 x.f5):=by rw [blk_cell y8];rfl
      by_cases h1 : x.f0=1
      · skip
        have b1 : (x.f0 != 1)=false:=bne_eq_false_iff_eq.2 h1
        have HGX:=Aside0.mk (HGATE.out x (List.mem_of_getElem? HX.out) h1)
        have HQX:=Aside0.mk (HQS.out x (List.mem_of_getElem? HX.out))
        have HH1:=Aside0.mk h1
        have Y8A:=Aside0.mk y8
        clear h1 y8 a2 a3 a4 a5
        go_wp2_with (go_at_call 49;(with_reducible refine (cnj_any x.f1 HGX.out.1 HGX.out.2.1 _).mono ?_);rintro e wc ⟨g5,rfl,hge5,hlt5,hc5,hb5⟩)
        have HS0:=Aside0.mk (show Inn w4 wc g8 (fun k => w.heap.size≤k∧k≠g2∧k≠g4) (PRE ++ (conjO x).take 0) (.slice Av nv cv) wc from
          ⟨by rw [List.take_zero,List.append_nil];exact Kd.N_below HN.out hb5,fun _ _ _ => rfl,fun k hk => .inl (HLT.out k hk),below_step HB.out hb5,Nat.le_refl _⟩)
        have HFC:=Aside0.mk (Kd.FK_below HF.out hb5)
        have Y8:=Aside0.mk (blk_below Y8A.out hb5)
        have HG5:=Aside0.mk (show g8≤g5∧g5 < wc.heap.size from ⟨by have:=blk_lt Y8A.out;omega,hlt5⟩)
        have HC5:=Aside0.mk hc5
        clear a0 a1 b1 hge5 hlt5 hc5 hb5 Y8A HF HB HN
        go_loopg [6,39] (conjF x.f1).length (fun gk2 v6 v39 ws => ∃ j : Nat,j≤(conjF x.f1).length∧(conjF x.f1).length - j≤gk2∧v39=.int .i64 (j : Int)∧Aside0 (Inn w4 wc g8 (fun k => w.heap.size≤k∧k≠g2∧k≠g4) (PRE ++ (conjO x).take j) v6 ws))
        case atStart => exact ⟨0,by omega,by omega,by go_num,HS0⟩
        case round =>
          obtain ⟨j,hj0,hj1,rfl,HI⟩:=hrel
          obtain ⟨Aw,nw,cw,hvw⟩ : ∃ A n c,u6=.slice A n c:=(Kd.N_slice HI.out.row).elim fun A h => h.elim fun c e => ⟨A,_,c,e⟩
          subst hvw
          have hl5:=(conjF_len x.f1).1
          by_cases hlj : j < (conjF x.f1).length
          · have HTK:=Aside0.mk (conjO_take HH1.out hlj)
            have HPJ:=Aside0.mk (show (PRE ++ (conjO x).take j).length≤5 * 4096 + 5 by
              have h2:=HPL.out
              have h3:=conjO_len x
              rw [List.length_append,List.length_take]
              omega)
            have y8:=(HI.out.keep g8 (blk_lt Y8.out) (.inr (Nat.le_refl _))).trans Y8.out
            have a0 : wr.cell? ⟨g8,0,none⟩=some (.int .i64 x.f0):=by rw [blk_cell y8];rfl
            have a1 : wr.cell? ⟨g8,1,none⟩=some (.int .i64 x.f1):=by rw [blk_cell y8];rfl
            have a2 : wr.cell? ⟨g8,2,none⟩=some (.slice A2 x.f2.length c2):=by rw [blk_cell y8];rfl
            have a3 : wr.cell? ⟨g8,3,none⟩=some (.int .i64 x.f3):=by rw [blk_cell y8];rfl
            have a4 : wr.cell? ⟨g8,4,none⟩=some (.int .i64 x.f4):=by rw [blk_cell y8];rfl
            have a5 : wr.cell? ⟨g8,5,none⟩=some (.int .i64 x.f5):=by rw [blk_cell y8];rfl
            obtain ⟨K,hK⟩ : ∃ K,K=(conjF x.f1).getD j 0:=⟨_,rfl⟩
            have kc : wr.cell? ⟨g5,j,none⟩=some (.int .i64 K):=by
              rw [hK,← HC5.out j hlj]
              exact World.cell?_of_block (HI.out.keep g5 HG5.out.2 (.inr HG5.out.1))
            have HK:=Aside0.mk hK
            have HCQ:=Aside0.mk (FK_qs (HI.out.foot HFC.out (fun k hk => .inl (by have:=HG44.out;have:=hk.1.2.2;omega))))
            clear hK
            go_upto_region 14 with fail
            have BW:=Aside0.mk (below_alloc (Below.refl wr.heap.size wr) (.cells #[.int .i64 x.f0,.int .i64 x.f1,.slice A2 x.f2.length c2,.int .i64 x.f3,.int .i64 x.f4,.int .i64 x.f5] 46))
            have y11:=blk_new wr (.cells #[.int .i64 x.f0,.int .i64 x.f1,.slice A2 x.f2.length c2,.int .i64 x.f3,.int .i64 x.f4,.int .i64 x.f5] 46)
            have y8b:=blk_below y8 BW.out
            have HWP0:=Aside0.mk (Kd.N_lt HI.out.row)
            replace HCQ:=Aside0.mk (show Kd.C (Kd.int .i64) (wr.alloc (.cells #[.int .i64 x.f0,.int .i64 x.f1,.slice A2 x.f2.length c2,.int .i64 x.f3,.int .i64 x.f4,.int .i64 x.f5] 46)) A2 x.f2.length x.f2∧x.f2.length≤c2 from ⟨Kd.C_below HCQ.out.1 BW.out,HCQ.out.2⟩)
            obtain ⟨g11,hg11⟩ : ∃ g,g=wr.heap.size:=⟨_,rfl⟩
            have HG11:=Aside0.mk (show wr.heap.size≤g11 from Nat.le_of_eq hg11.symm)
            rw [← hg11] at y11 ⊢
            clear hg11 a0 a1 a2 a3 a4 a5 kc y8
            generalize wr.alloc _=wq at BW y11 y8b HCQ ⊢
            have HWP:=Aside0.mk (show w4.heap.size≤wq.heap.size∧∀ k,(.slice Aw nw cw : Value).ownBlock=some k→k < wq.heap.size from ⟨Nat.le_trans HI.out.hb.size BW.out.size,fun k hk => Nat.lt_of_lt_of_le (HWP0.out k hk) BW.out.size⟩)
            have HG1Q:=Aside0.mk (show g11 < wq.heap.size from blk_lt y11)
            have a2 : wq.cell? ⟨g8,2,none⟩=some (.slice A2 x.f2.length c2):=by rw [blk_cell y8b];rfl
            have Y11:=Aside0.mk y11
            have Y8B:=Aside0.mk y8b
            clear y11 y8b HWP0
            go_upto_region 15 with (go_at_call 50;(with_reducible refine (slices_Clone_int_int.calls A2 c2 x.f2 x.f2 _ HCQ.out.1 HCQ.out.2 (by unfold slices_Clone_int_int.f;rw [if_pos (by have:=HQX.out;omega)])).mono ?_);rintro e wd ⟨vq,rfl,hR,hbd⟩;obtain ⟨gq,cq,hvq,-⟩:=Kd.R_form hR HGX.out.2.2;subst hvq;have yd:=blk_below Y11.out hbd;have z1 : wd.cell? ⟨g11,1,none⟩=some (.int .i64 x.f1):=(by rw [blk_cell yd];rfl);have z2 : wd.cell? ⟨g11,2,none⟩=some (.slice A2 x.f2.length c2):=(by rw [blk_cell yd];rfl);have z1f:=blk_frozen yd 1;have z2f:=blk_frozen yd 2)
            have yz:=blk_put (blk_put yd 1 (.int .i64 K) rfl) 2 (.slice (some ⟨gq,0,none⟩) x.f2.length cq) rfl
            have BZ:=Aside0.mk (below_set (below_set (below_step BW.out hbd) HG11.out : Below wr.heap.size wr (wd.setCell ⟨g11,1,none⟩ (.int .i64 K))) HG11.out : Below wr.heap.size wr ((wd.setCell ⟨g11,1,none⟩ (.int .i64 K)).setCell ⟨g11,2,none⟩ (.slice (some ⟨gq,0,none⟩) x.f2.length cq)))
            have HR2:=Aside0.mk (show Kd.R (Kd.int .i64) 3 ((wd.setCell ⟨g11,1,none⟩ (.int .i64 K)).setCell ⟨g11,2,none⟩ (.slice (some ⟨gq,0,none⟩) x.f2.length cq)) wq.heap.size (fun k => wq.heap.size≤k) (.slice (some ⟨gq,0,none⟩) x.f2.length cq) x.f2 from
              Kd.R_step (Kd.R_mono (Kd.R_bound hR) (fun k hk => hk.2.1)) (fun k hk _ => by
                have h1 : k≠g11:=by have:=HG1Q.out;omega
                rw [Below.heap_setCell _ _ _ _ h1,Below.heap_setCell _ _ _ _ h1]))
            clear a2 z1 z2 z1f z2f yd hR hbd
            generalize World.setCell _ _ _=wy at yz BZ HR2 ⊢
            by_cases hj : j=0
            · have bj : decide ((0 : Int) < (j : Int))=false:=decide_eq_false (by omega)
              have bp : ¬ 0 < j:=by omega
              have bn : decide (0 < j)=false:=decide_eq_false bp
              have HFZ:=Aside0.mk (show Kd.FK k46w wy (fun k => wq.heap.size≤k) (conjAt x j) [.int .i64 x.f0,.int .i64 K,.slice (some ⟨gq,0,none⟩) x.f2.length cq,.int .i64 x.f3,.int .i64 x.f4,.int .i64 x.f5] by
                have e : (conjAt x j).f2=x.f2:=by unfold conjAt;rw [if_pos hj]
                have h:=FK_ints HR2.out (x:=conjAt x j) (m:=x.f2.length) (Nat.le_refl _) (by rw [e,List.take_length])
                unfold ofV OpV.cs at h
                dsimp only at h
                rw [e] at h
                rw [HK.out]
                exact h)
              have HIZ:=Aside0.mk (HI.out.below BZ.out)
              clear hj
              generalize wy=wz at yz BZ HR2 HFZ HIZ ⊢
              have z0 : wz.cell? ⟨g11,0,none⟩=some (.int .i64 x.f0):=by rw [blk_cell yz];rfl
              have z1 : wz.cell? ⟨g11,1,none⟩=some (.int .i64 K):=by rw [blk_cell yz];rfl
              have z2 : wz.cell? ⟨g11,2,none⟩=some (.slice (some ⟨gq,0,none⟩) x.f2.length cq):=by rw [blk_cell yz];rfl
              have z3 : wz.cell? ⟨g11,3,none⟩=some (.int .i64 x.f3):=by rw [blk_cell yz];rfl
              have z4 : wz.cell? ⟨g11,4,none⟩=some (.int .i64 x.f4):=by rw [blk_cell yz];rfl
              have z5 : wz.cell? ⟨g11,5,none⟩=some (.int .i64 x.f5):=by rw [blk_cell yz];rfl
              clear yz
              go_wp2_with ((with_reducible refine gate_builtin (b:=.append) (xs:=#[.tmp 57,.tmp 59]) rfl ?_);at_builtin;refine Kd.N_append k46w (w0:=wz) w4.heap.size rfl (.tmp 57) (.tmp 59) 22 46 (.agg #[.int .i64 0,.int .i64 0,.slice none 0 0,.int .i64 0,.int .i64 0,.int .i64 0]) 64 rfl Try.underlying22 info46 rfl (by decide) (by omega) (.slice Aw nw cw) (PRE ++ (conjO x).take j) (conjAt x j) _ (fun k => w.heap.size≤k∧k≠g2∧k≠g4) (fun k => wq.heap.size≤k) rfl rfl HFZ.out (fun k hk => ⟨HNEW.out k (Nat.le_trans HWP.out.1 hk),fun e => by have h1:=HWP.out.2 k e.symm;omega⟩) (fun k hk => HNEW.out k (Nat.le_trans HIZ.out.hb.size hk)) HIZ.out.row (Below.refl _ _) HIZ.out.hb.size (by have:=HPJ.out;omega) ?_;intro v1 w1 hn1 hb1 hg1 ha1;rw [List.append_assoc,HTK.out] at hn1;have HI1:=Aside0.mk (HIZ.out.app hn1 hb1 hg1 ha1);clear hn1 hb1 hg1 ha1)
              go_roundg ((conjF x.f1).length - (j + 1))
              case measure => omega
              case rel =>
                have h5:=(conjF_len x.f1).1
                have e : wrap64 ((j : Int) + 1)=((j + 1 : Nat) : Int):=by rw [w64 (by omega) (by omega)];rfl
                exact ⟨j + 1,by omega,by omega,by first|go_num|(rw [e];done)|(rw [← e];done)|exact congrArg (Value.int .i64) e,HI1⟩
            · have bj : decide ((0 : Int) < (j : Int))=true:=decide_eq_true (by omega)
              have bp : 0 < j:=by omega
              have bn : decide (0 < j)=true:=decide_eq_true bp
              have y2 : wy.cell? ⟨g11,2,none⟩=some (.slice (some ⟨gq,0,none⟩) x.f2.length cq):=by rw [blk_cell yz];rfl
              have y2f:=blk_frozen yz 2
              have hcap : x.f2.length≤cq:=(Kd.R_reads' HR2.out).2.1
              have hpos : 0 < x.f2.length:=HGX.out.2.2
              have h64 : x.f2.length≤64:=HQX.out
              go_upto_region 17 with fail
              have yz2:=blk_put yz 2 (.slice (some ⟨gq,0,none⟩) 1 cq) rfl
              have BZ2:=Aside0.mk (below_set BZ.out HG11.out : Below wr.heap.size wr (wy.setCell ⟨g11,2,none⟩ (.slice (some ⟨gq,0,none⟩) 1 cq)))
              have HFZ:=Aside0.mk (show Kd.FK k46w (wy.setCell ⟨g11,2,none⟩ (.slice (some ⟨gq,0,none⟩) 1 cq)) (fun k => wq.heap.size≤k) (conjAt x j) [.int .i64 x.f0,.int .i64 K,.slice (some ⟨gq,0,none⟩) 1 cq,.int .i64 x.f3,.int .i64 x.f4,.int .i64 x.f5] by
                have e : (conjAt x j).f2=x.f2.take 1:=by unfold conjAt;rw [if_neg hj]
                have e1 : (x.f2.take 1).length=1:=by rw [List.length_take];omega
                have h:=Kd.FK_step (FK_ints HR2.out (x:=conjAt x j) (m:=1) hpos e) (W1:=wy.setCell ⟨g11,2,none⟩ (.slice (some ⟨gq,0,none⟩) 1 cq)) (fun k hk _ => Below.heap_setCell _ _ _ _ (by have:=HG1Q.out;show k≠g11;omega))
                unfold ofV OpV.cs at h
                dsimp only at h
                rw [e,e1] at h
                rw [HK.out]
                exact h)
              clear y2 y2f hcap hpos h64 HR2 yz
              generalize World.setCell _ _ _=wz at yz2 BZ2 HFZ ⊢
              have yz:=yz2
              have HIZ:=Aside0.mk (HI.out.below BZ2.out)
              clear hj yz2
              have z0 : wz.cell? ⟨g11,0,none⟩=some (.int .i64 x.f0):=by rw [blk_cell yz];rfl
              have z1 : wz.cell? ⟨g11,1,none⟩=some (.int .i64 K):=by rw [blk_cell yz];rfl
              have z2 : wz.cell? ⟨g11,2,none⟩=some (.slice (some ⟨gq,0,none⟩) 1 cq):=by rw [blk_cell yz];rfl
              have z3 : wz.cell? ⟨g11,3,none⟩=some (.int .i64 x.f3):=by rw [blk_cell yz];rfl
              have z4 : wz.cell? ⟨g11,4,none⟩=some (.int .i64 x.f4):=by rw [blk_cell yz];rfl
              have z5 : wz.cell? ⟨g11,5,none⟩=some (.int .i64 x.f5):=by rw [blk_cell yz];rfl
              clear yz
              go_wp2_with ((with_reducible refine gate_builtin (b:=.append) (xs:=#[.tmp 57,.tmp 59]) rfl ?_);at_builtin;refine Kd.N_append k46w (w0:=wz) w4.heap.size rfl (.tmp 57) (.tmp 59) 22 46 (.agg #[.int .i64 0,.int .i64 0,.slice none 0 0,.int .i64 0,.int .i64 0,.int .i64 0]) 64 rfl Try.underlying22 info46 rfl (by decide) (by omega) (.slice Aw nw cw) (PRE ++ (conjO x).take j) (conjAt x j) _ (fun k => w.heap.size≤k∧k≠g2∧k≠g4) (fun k => wq.heap.size≤k) rfl rfl HFZ.out (fun k hk => ⟨HNEW.out k (Nat.le_trans HWP.out.1 hk),fun e => by have h1:=HWP.out.2 k e.symm;omega⟩) (fun k hk => HNEW.out k (Nat.le_trans HIZ.out.hb.size hk)) HIZ.out.row (Below.refl _ _) HIZ.out.hb.size (by have:=HPJ.out;omega) ?_;intro v1 w1 hn1 hb1 hg1 ha1;rw [List.append_assoc,HTK.out] at hn1;have HI1:=Aside0.mk (HIZ.out.app hn1 hb1 hg1 ha1);clear hn1 hb1 hg1 ha1)
              go_roundg ((conjF x.f1).length - (j + 1))
              case measure => omega
              case rel =>
                have h5:=(conjF_len x.f1).1
                have e : wrap64 ((j : Int) + 1)=((j + 1 : Nat) : Int):=by rw [w64 (by omega) (by omega)];rfl
                exact ⟨j + 1,by omega,by omega,by first|go_num|(rw [e];done)|(rw [← e];done)|exact congrArg (Value.int .i64) e,HI1⟩
          · obtain rfl : j=(conjF x.f1).length:=by omega
            have hI:=HI.out
            have HN1:=Aside0.mk (show Kd.N k46w 46 wr w4.heap.size (fun k => w.heap.size≤k∧k≠g2∧k≠g4) (.slice Aw nw cw) ((l.take (i + 1)).flatMap conjO) by
              have h:=hI.row
              rw [conjO_all HH1.out,HST.out] at h
              exact h)
            have HB1:=Aside0.mk hI.hb
            clear hI
            go_wp2
            go_roundg (l.length - (i + 1))
            case measure => omega
            case rel =>
              have e : wrap64 ((i : Int) + 1)=((i + 1 : Nat) : Int):=by rw [w64 (by omega) (by omega)];rfl
              exact ⟨i + 1,by omega,by omega,by first|go_num|(rw [e];done)|(rw [← e];done)|exact congrArg (Value.int .i64) e,HB1,HN1⟩
      · have b1 : (x.f0 != 1)=true:=bne_iff_ne.2 h1
        have HCO:=Aside0.mk (show conjO x=[x] by unfold conjO;rw [if_neg h1])
        clear h1 y8
        go_wp2_with ((with_reducible refine gate_builtin (b:=.append) (xs:=#[.tmp 31,.tmp 33]) rfl ?_);at_builtin;refine Kd.N_append k46w (w0:=wa) w4.heap.size rfl (.tmp 31) (.tmp 33) 22 46 (.agg #[.int .i64 0,.int .i64 0,.slice none 0 0,.int .i64 0,.int .i64 0,.int .i64 0]) 64 rfl Try.underlying22 info46 rfl (by decide) (by omega) (.slice Av nv cv) PRE x _ (fun k => w.heap.size≤k∧k≠g2∧k≠g4) (fun k => ((w.heap.size≤k∧k≠g2∧k < g4)∧k≠g)) rfl rfl HF.out (fun k hk => ⟨⟨hk.1.1,hk.1.2.1,Nat.ne_of_lt hk.1.2.2⟩,fun e => by have h1:=Kd.N_base HN.out k e.symm;have h2:=HG44.out;omega⟩) (fun k hk => HNEW.out k (by have h1:=HB.out.size;omega)) HN.out (Below.refl _ _) HB.out.size (by have:=HPL.out;omega) ?_;intro v1 w1 hn1 hb1 hg1 ha1;rw [← HCO.out,HST.out] at hn1;have HN1:=Aside0.mk hn1;have HB1:=Aside0.mk (HB.out.trans hb1);clear hn1 hb1 hg1 ha1)
        go_roundg (l.length - (i + 1))
        case measure => omega
        case rel =>
          have e : wrap64 ((i : Int) + 1)=((i + 1 : Nat) : Int):=by rw [w64 (by omega) (by omega)];rfl
          exact ⟨i + 1,by omega,by omega,by first|go_num|(rw [e];done)|(rw [← e];done)|exact congrArg (Value.int .i64) e,HB1,HN1⟩
    · obtain rfl : i=l.length:=by omega
      have hB:=HB.out
      have y4:=blk_below Y4.out hB
      have hN:=HN.out
      rw [List.take_length] at hN
      have HNL:=Aside0.mk (show nv=(l.flatMap conjO).length from (Kd.N_reads' hN).1)
      have HN6:=Aside0.mk (Kd.N_far (p:=⟨g4,2,none⟩) hN (fun _ hk => hk.2.2) (.slice Av nv cv))
      replace F:=Aside0.mk ((F.out.below hB).setOld (Below.refl _ _) (x:=⟨g4,2,none⟩) (.slice Av nv cv) HG4.out)
      have y6:=blk_put y4 2 (.slice Av nv cv) rfl
      have q2 : wr.cell? ⟨g4,2,none⟩=some (.slice (some ⟨g,0,none⟩) l.length c3):=by rw [blk_cell y4];rfl
      have q2f:=blk_frozen y4 2
      have HWW:=Aside0.mk (show w.heap.size≤w4.heap.size by have h1:=HG44.out;have h2:=HG4.out;have h3:=F.out.g;omega)
      clear hN hB HN HB y4
      go_upto_region 21 with fail
      clear q2 q2f
      generalize wr.setCell _ _=x6 at y6 HN6 F ⊢
      obtain ⟨c0,c1,c2,d0,d1,d2,f0,f1,f2⟩:=F.out.cells
      have q0 : x6.cell? ⟨g4,0,none⟩=some (.int .i64 q):=by rw [blk_cell y6];rfl
      have q1 : x6.cell? ⟨g4,1,none⟩=some (.int .i64 b):=by rw [blk_cell y6];rfl
      have q2 : x6.cell? ⟨g4,2,none⟩=some (.slice Av nv cv):=by rw [blk_cell y6];rfl
      clear y6
      have HC6:=Aside0.mk (k46w_C (Kd.N_reads' HN6.out).2.2)
      by_cases hlg : 4096 < (l.flatMap conjO).length
      · have HLG:=Aside0.mk hlg
        clear hlg
        go_wp2_with (go_at_call 51;(with_reducible refine (told_long q b Av nv cv (l.flatMap conjO) _ HNL.out HC6.out HLG.out).mono ?_);rintro e w7 ⟨rfl,hb7⟩;replace F:=Aside0.mk (F.out.below hb7);clear c0 c1 c2 d0 d1 d2 f0 f1 f2;obtain ⟨c0,c1,c2,d0,d1,d2,f0,f1,f2⟩:=F.out.cells)
        refine bodyPost_ret (results_ct rfl _ _ g2 24 _ (0,0) _ rfl (F.out.put 0 0 (.slice none 0 0)) Try.underlying24 rfl (by kernel_rfl)) rfl ?_
        have e : toldR q b (l.flatMap conjO)=(0,0,[],170):=if_pos HLG.out
        rw [e]
        exact F.out.out (z:=170) Fr.nil
      · have HLG:=Aside0.mk hlg
        clear hlg
        go_wp2_with (go_at_call 51;(with_reducible refine (told_short q b Av nv cv (l.flatMap conjO) _ HNL.out HC6.out HLG.out).mono ?_);rintro e w7 ⟨rfl,hb7⟩;replace HN6:=Aside0.mk (Kd.N_below HN6.out hb7);replace F:=Aside0.mk (F.out.below hb7);clear c0 c1 c2 d0 d1 d2 f0 f1 f2;obtain ⟨c0,c1,c2,d0,d1,d2,f0,f1,f2⟩:=F.out.cells)
        refine bodyPost_ret (results_ct rfl _ _ g2 24 _ (0,0) _ rfl (F.out.put q b (.slice Av nv cv)) Try.underlying24 rfl (by kernel_rfl)) rfl ?_
        have e : toldR q b (l.flatMap conjO)=(q,b,l.flatMap conjO,0):=if_neg HLG.out
        rw [e]
        exact F.out.out (z:=0) (Kd.N_lower (Kd.N_mono HN6.out (fun _ hk => ⟨hk.1,hk.2.1⟩)) HWW.out)
set_option maxHeartbeats 4000000 in
set_option maxRecDepth 1000000 in
theorem cj_nil (q b : Int) (A : Option Addr) (c : Nat) (l : List Opn) (w : World) (HC : Kd.C k46 w A l.length l) (hc : l.length≤c) (hw : WfL l) (k1 : Nat) (e1 : invert_checked.f k1 q b l=some (q,b,l,0)) (hnil : l.length=0) :
    Calls Try.prog 11 #[.agg #[.int .i64 q,.int .i64 b,.slice A l.length c]] w (Out w (q,b,[],0)):=by
  have HL0:=Aside0.mk hnil
  clear hnil
  have HR:=Aside0.mk HC
  have HS:=Aside0.mk hc
  have HWF:=Aside0.mk hw
  have E1:=Aside0.mk e1
  clear HC hc hw e1
  have hu24:=Try.underlying24
  go_enter Try.func11,Try.ntmps11
  go_upto_region 1 with fail
  have F:=Aside0.mk (Fr.start (q:=q) (b:=b) (c:=c) HR.out)
  clear HR
  obtain ⟨g2,hg2⟩ : ∃ g,g=w.heap.size + 1:=⟨_,rfl⟩
  rw [← hg2] at F ⊢
  clear hg2
  generalize ((w.alloc _).alloc _)=W at F ⊢
  obtain ⟨c0,c1,c2,d0,d1,d2,f0,f1,f2⟩:=F.out.cells
  go_upto_region 4 with (go_at_call 42;(with_reducible refine (invert_checked.calls k1 q b _ _ l _ _ _ _ _ F.out.hc HS.out E1.out).mono ?_);rintro e w3 ⟨v1,rfl,ho1,hb3⟩;obtain ⟨A3,c3,rfl⟩:=Kd.S_slice ho1)
  have bb:=below_alloc (Below.refl w3.heap.size w3) (.cells #[.int .i64 q,.int .i64 b,.slice A3 l.length c3] 24)
  have y4:=blk_new w3 (.cells #[.int .i64 q,.int .i64 b,.slice A3 l.length c3] 24)
  have HG4:=Aside0.mk (show g2 < w3.heap.size from blk_lt (F.out.below hb3).b2)
  have HQ:=Aside0.mk (Kd.N_lower (Kd.N_mono (Kd.N_below (Kd.S_N (k46w_S (Kd.S_bound ho1))) bb) (fun k hk => show w.heap.size≤k∧k≠g2∧k < w3.heap.size from ⟨(F.out.fresh k hk.2.1).1,(F.out.fresh k hk.2.1).2,hk.2.2.1⟩)) F.out.hb.size)
  replace F:=Aside0.mk (F.out.below (below_step hb3 bb))
  clear c0 c1 c2 d0 d1 d2 f0 f1 f2
  obtain ⟨c0,c1,c2,d0,d1,d2,f0,f1,f2⟩:=F.out.cells
  clear hb3 ho1 bb
  generalize w3.heap.size=g4 at y4 HQ HG4 ⊢
  generalize w3.alloc _=w4 at y4 HQ F c0 c1 c2 d0 d1 d2 f0 f1 f2 ⊢
  have Y4:=Aside0.mk y4
  have q0 : w4.cell? ⟨g4,0,none⟩=some (.int .i64 q):=by rw [blk_cell y4];rfl
  have q1 : w4.cell? ⟨g4,1,none⟩=some (.int .i64 b):=by rw [blk_cell y4];rfl
  have q2 : w4.cell? ⟨g4,2,none⟩=some (.slice A3 l.length c3):=by rw [blk_cell y4];rfl
  have HG44:=Aside0.mk (show g4 < w4.heap.size from blk_lt y4)
  clear y4 c0 c1 c2 d0 d1 d2 f0 f1 f2 q0 q1
  go_wp2_with fail
  clear q2
  go_loopg [6,24] 0 (fun gk v6 v24 wr => v24=.int .i64 0∧v6=.slice none 0 0∧wr=w4)
  case atStart => exact ⟨rfl,rfl,rfl⟩
  case round =>
    obtain ⟨rfl,rfl,rfl⟩:=hrel
    have hl0 : ¬ (0 : Int) < (l.length : Int):=by have:=HL0.out;omega
    have HN6:=Aside0.mk (Kd.N_nil k46w 46 (wr.setCell ⟨g4,2,none⟩ (.slice none 0 0)) w.heap.size (fun k => w.heap.size≤k∧k≠g2))
    replace F:=Aside0.mk (F.out.setOld (Below.refl _ _) (x:=⟨g4,2,none⟩) (.slice none 0 0) HG4.out)
    have y6:=blk_put Y4.out 2 (.slice none 0 0) rfl
    have q2 : wr.cell? ⟨g4,2,none⟩=some (.slice A3 l.length c3):=by rw [blk_cell Y4.out];rfl
    have q2f:=blk_frozen Y4.out 2
    go_upto_region 21 with fail
    clear q2 q2f hl0
    generalize wr.setCell _ _=x6 at y6 HN6 F ⊢
    obtain ⟨c0,c1,c2,d0,d1,d2,f0,f1,f2⟩:=F.out.cells
    have q0 : x6.cell? ⟨g4,0,none⟩=some (.int .i64 q):=by rw [blk_cell y6];rfl
    have q1 : x6.cell? ⟨g4,1,none⟩=some (.int .i64 b):=by rw [blk_cell y6];rfl
    have q2 : x6.cell? ⟨g4,2,none⟩=some (.slice none 0 0):=by rw [blk_cell y6];rfl
    clear y6
    have HC6:=Aside0.mk (k46w_C (Kd.N_reads' HN6.out).2.2)
    go_wp2_with (go_at_call 51;(with_reducible refine (told_short q b none 0 0 [] _ rfl HC6.out (by decide)).mono ?_);rintro e w7 ⟨rfl,hb7⟩;replace HN6:=Aside0.mk (Kd.N_below HN6.out hb7);replace F:=Aside0.mk (F.out.below hb7);clear c0 c1 c2 d0 d1 d2 f0 f1 f2;obtain ⟨c0,c1,c2,d0,d1,d2,f0,f1,f2⟩:=F.out.cells)
    refine bodyPost_ret (results_ct rfl _ _ g2 24 _ (0,0) _ rfl (F.out.put q b (.slice none 0 0)) Try.underlying24 rfl (by kernel_rfl)) rfl ?_
    exact F.out.out (z:=0) HN6.out
theorem conj_out {q b : Int} {A : Option Addr} {c : Nat} {l : List Opn} {w : World} (HC : Kd.C k46 w A l.length l) (hc : l.length≤c) (hw : WfL l) :
    Calls Try.prog 11 #[.agg #[.int .i64 q,.int .i64 b,.slice A l.length c]] w (Out w (conjR q b l)):=by
  obtain ⟨k1,e1⟩:=(ichecked_is (q:=q) (b:=b) hw).get
  unfold conjR
  by_cases h : okc q b l=true
  · have ho:=okc_facts h
    rw [if_pos h] at e1 ⊢
    by_cases hl : 0 < l.length
    · exact cj_main q b A c l w HC hc hw k1 e1 ho.n hl (fun o ho2 => (ho.op o ho2).len) (fun o ho2 h1 => by
        have h2:=gate_facts (ho.may o ho2) h1
        have h3:=arity_pos h2.1 h2.2.1
        exact ⟨h2.1,h2.2.1,by omega⟩)
    · obtain rfl : l=[]:=List.eq_nil_of_length_eq_zero (by omega)
      exact cj_nil q b A c [] w HC hc hw k1 e1 rfl
  · rw [if_neg h] at e1 ⊢
    exact cj_no q b A c l w HC hc hw k1 e1
end Go.Proofs.Ytbelnopbggkdfaa.Q
end

section
namespace Go.Proofs.Ytbelnopbggkdfaa.Q
open Go.RowKit Go.Proofs.YtbelnopbggkdfaaW.PrintWords Go.Proofs.YtbelnopbggkdfaaW.PrintLast Go.Proofs.YtbelnopbggkdfaaW.PrintMore
attribute [local go_sem] max2_int min2_int max_two min_two max_three min_three max_four min_four   -- for this text's walks alone
set_option linter.unusedVariables false
set_option linter.unusedSimpArgs false
def phasorref17_in.j0 : Nat→Int→Int→Bool→Option (List Int)
 | 0,_,_,_ => none
 | k + 1,x0,x3,x4 => if x4=true then ((phasorref06_Inverse.f k x0).bind fun t266 => (some (([t266] : List Int)))) else (if x3=3 then (some (([3,2,4,2,4] : List Int))) else (if x3=9 then (some (([9,4,2,3] : List Int))) else (if x3=10 then (some (([10,3,2,4] : List Int))) else (if x3=12 then (some (([12,4] : List Int))) else (some (([x0] : List Int)))))))
def phasorref17_in.f (k : Nat) (a0 : Int) : Option (List Int):=if a0=5 then (phasorref17_in.j0 k a0 a0 (a0 == 5)) else (if a0=6 then (phasorref17_in.j0 k a0 a0 (a0 == 6)) else (if a0=7 then (phasorref17_in.j0 k a0 a0 (a0 == 7)) else (if a0=8 then (phasorref17_in.j0 k a0 a0 (a0 == 8)) else (if a0=15 then (phasorref17_in.j0 k a0 a0 (a0 == 15)) else (phasorref17_in.j0 k a0 a0 (a0 == 16))))))
set_option maxHeartbeats 8000000 in
set_option maxRecDepth 100000 in
theorem phasorref17_in.calls (k : Nat) (a0 : Int) (r : List Int) (w : World) (h : phasorref17_in.f k a0=some r) :
  Calls Try.prog 52 #[.int .i64 a0] w fun e w' => ∃ v0_ : Value,e=.returned (v0_)∧Kd.R (Kd.int .i64) 44 w' w.heap.size (fun _ => True) v0_ r∧Below w.heap.size w w':=by
 have HB:=Aside0.mk (Below.refl w.heap.size w)
 have H : (if a0=5 then (phasorref17_in.j0 k a0 a0 (a0 == 5)) else (if a0=6 then (phasorref17_in.j0 k a0 a0 (a0 == 6)) else (if a0=7 then (phasorref17_in.j0 k a0 a0 (a0 == 7)) else (if a0=8 then (phasorref17_in.j0 k a0 a0 (a0 == 8)) else (if a0=15 then (phasorref17_in.j0 k a0 a0 (a0 == 15)) else (phasorref17_in.j0 k a0 a0 (a0 == 16)))))))=some r:=h
 clear h
 have HC2:=Aside0.mk H
 clear H
 go_enter Try.func52,Try.ntmps52
 go_upto_if 4 with (fail)
 go_cut [4] (fun v4 wc => ∃ (kq : Nat) (x4_1 : Bool),v4=.bool x4_1∧Aside0 (phasorref17_in.j0 kq a0 a0 x4_1=some r)∧Aside0 (kq≤k)∧Aside0 (Below w.heap.size w wc))
 case first =>
  have H:=HC2.out
  clear HC2
  by_cases c3 : a0=5
  ·rw [if_pos c3] at H
   have c3b0 : (a0 == 5)=true:=beq_iff_eq.mpr c3
   have c3b1 : (a0 != 5)=false:=bne_eq_false_iff_eq.mpr c3
   clear c3
   (first|rw [c3b0]|(simp only [i64_w,i32_w];rw [c3b0])|skip)
   have H':=Aside0.mk H
   clear H
   go_wp2
   go_meet
   case rel => exact ⟨_,((a0 == 5)),(by first|rfl|(simp;done)|(simp [*];done)),H',⟨by first|omega|exact Nat.le_refl _⟩,⟨by repeat (first|(with_reducible first|exact HB.out|apply below_alloc|apply pw_below_drewN|apply below_drew1)|exact HB.out)⟩⟩
  ·rw [if_neg c3] at H
   have c3b0 : (a0 == 5)=false:=beq_eq_false_iff_ne.mpr c3
   have c3b1 : (a0 != 5)=true:=bne_iff_ne.mpr c3
   (first|rw [c3b0]|(simp only [i64_w,i32_w];rw [c3b0])|skip)
   by_cases c4 : a0=6
   ·rw [if_pos c4] at H
    have c4b0 : (a0 == 6)=true:=beq_iff_eq.mpr c4
    have c4b1 : (a0 != 6)=false:=bne_eq_false_iff_eq.mpr c4
    clear c4
    have H':=Aside0.mk H
    clear H
    go_wp2
    go_meet
    case rel => exact ⟨_,((a0 == 6)),(by first|rfl|(simp;done)|(simp [*];done)),H',⟨by first|omega|exact Nat.le_refl _⟩,⟨by repeat (first|(with_reducible first|exact HB.out|apply below_alloc|apply pw_below_drewN|apply below_drew1)|exact HB.out)⟩⟩
   ·rw [if_neg c4] at H
    have c4b0 : (a0 == 6)=false:=beq_eq_false_iff_ne.mpr c4
    have c4b1 : (a0 != 6)=true:=bne_iff_ne.mpr c4
    by_cases c5 : a0=7
    ·rw [if_pos c5] at H
     have c5b0 : (a0 == 7)=true:=beq_iff_eq.mpr c5
     have c5b1 : (a0 != 7)=false:=bne_eq_false_iff_eq.mpr c5
     clear c5
     have H':=Aside0.mk H
     clear H
     go_wp2
     go_meet
     case rel => exact ⟨_,((a0 == 7)),(by first|rfl|(simp;done)|(simp [*];done)),H',⟨by first|omega|exact Nat.le_refl _⟩,⟨by repeat (first|(with_reducible first|exact HB.out|apply below_alloc|apply pw_below_drewN|apply below_drew1)|exact HB.out)⟩⟩
    ·rw [if_neg c5] at H
     have c5b0 : (a0 == 7)=false:=beq_eq_false_iff_ne.mpr c5
     have c5b1 : (a0 != 7)=true:=bne_iff_ne.mpr c5
     by_cases c6 : a0=8
     ·rw [if_pos c6] at H
      have c6b0 : (a0 == 8)=true:=beq_iff_eq.mpr c6
      have c6b1 : (a0 != 8)=false:=bne_eq_false_iff_eq.mpr c6
      clear c6
      have H':=Aside0.mk H
      clear H
      go_wp2
      go_meet
      case rel => exact ⟨_,((a0 == 8)),(by first|rfl|(simp;done)|(simp [*];done)),H',⟨by first|omega|exact Nat.le_refl _⟩,⟨by repeat (first|(with_reducible first|exact HB.out|apply below_alloc|apply pw_below_drewN|apply below_drew1)|exact HB.out)⟩⟩
     ·rw [if_neg c6] at H
      have c6b0 : (a0 == 8)=false:=beq_eq_false_iff_ne.mpr c6
      have c6b1 : (a0 != 8)=true:=bne_iff_ne.mpr c6
      by_cases c7 : a0=15
      ·rw [if_pos c7] at H
       have c7b0 : (a0 == 15)=true:=beq_iff_eq.mpr c7
       have c7b1 : (a0 != 15)=false:=bne_eq_false_iff_eq.mpr c7
       clear c7
       have H':=Aside0.mk H
       clear H
       go_wp2
       go_meet
       case rel => exact ⟨_,((a0 == 15)),(by first|rfl|(simp;done)|(simp [*];done)),H',⟨by first|omega|exact Nat.le_refl _⟩,⟨by repeat (first|(with_reducible first|exact HB.out|apply below_alloc|apply pw_below_drewN|apply below_drew1)|exact HB.out)⟩⟩
      ·rw [if_neg c7] at H
       have c7b0 : (a0 == 15)=false:=beq_eq_false_iff_ne.mpr c7
       have c7b1 : (a0 != 15)=true:=bne_iff_ne.mpr c7
       have H':=Aside0.mk H
       clear H
       go_wp2
       go_meet
       case rel => exact ⟨_,((a0 == 16)),(by first|rfl|(simp;done)|(simp [*];done)),H',⟨by first|omega|exact Nat.le_refl _⟩,⟨by repeat (first|(with_reducible first|exact HB.out|apply below_alloc|apply pw_below_drewN|apply below_drew1)|exact HB.out)⟩⟩
 case rest =>
  clear HC2
  try clear p2
  try clear c3
  try clear c3b0
  try clear c3b1
  try clear c4
  try clear c4b0
  try clear c4b1
  try clear c5
  try clear c5b0
  try clear c5b1
  try clear c6
  try clear c6b0
  try clear c6b1
  try clear c7
  try clear c7b0
  try clear c7b1
  obtain ⟨kq,x4_1,rfl,HA,HJ1,HB⟩:=hcut
  cases kq with
  | zero => exact absurd HA.out (by simp [phasorref17_in.j0])
  | succ kj1 =>
   have H:=HA.out
   clear HA
   simp only [phasorref17_in.j0] at H
   by_cases c8 : x4_1=true
   ·subst c8
    have H1 : ((phasorref06_Inverse.f kj1 a0).bind fun t266 => (some (([t266] : List Int))))=some r:=by rw [if_pos rfl] at H;exact H
    clear H
    have H:=H1
    clear H1
    replace H:=Option.bind_eq_some_iff.mp H
    obtain ⟨t266,A90,H⟩:=H
    replace H : (some (([t266] : List Int)))=some r:=H
    have A9:=Aside0.mk A90
    clear A90
    obtain ⟨y267,hy267⟩ : ∃ y_ : List Int,y_=(([t266] : List Int)):=⟨_,rfl⟩
    replace H : (some y267)=some r:=by first|(rw [hy267];with_reducible exact H)|(have H2_:=(Option.bind_some _ _).symm.trans H;rw [hy267];with_reducible exact H2_)|(have H2_:=(Option.bind_some _ _).symm.trans H;with_reducible exact H2_)|with_reducible exact H|(rw [hy267];exact H)|exact H
    have Ny267:=Aside0.mk hy267
    clear hy267
    obtain rfl:=Option.some.inj H
    go_wp2_with (first|((with_reducible refine gate_callee (f:=48) rfl ?_);refine goesL_ (some 12) rfl rfl Try.func48 (by kernel_rfl) rfl #[.int .i64 a0] rfl (by (try simp only [List.map_toArray,List.map_cons,List.map_nil]);first|done|rfl|(simp only [List.length_drop,List.length_take];rfl)) ?_;(with_reducible refine (phasorref06_Inverse.calls kj1 a0 t266 _ A9.out).mono ?_);rintro e w' ⟨rfl,⟨nd,rfl⟩⟩;refine ⟨_,rfl,?_⟩)|((with_reducible refine gate_dst (N:=13) rfl ?_);refine Kd.R_lit (Kd.int .i64) _ 44 ?hg (N:=13) ?hd (xs:=([t266] : List Int)) (inner:=[.int .i64 t266]) (ok:=fun _ => True) (okp:=fun _ => True) ?hr ?hp (fun _ hk => hk) trivial (Below.refl _ _) (Nat.le_refl _) (by simp) ?_;(case hd => rfl);(case hg => rfl);(case hr => first|(go_simp;done)|(go_simp;rfl));(case hp => exact (Reps.one (show Kd.M (Kd.int .i64) _ _ _ t266 [.int .i64 t266] from rfl) (Reps.none _ _)));intro v268 w10 ho11 hb hg_ hnew_;clear hg_ hnew_;(first|rw [← Ny267.out] at ho11|(simp only [Int.reduceToNat] at ho11;rw [← Ny267.out] at ho11));have n0_:=Aside0.mk (Kd.R_lower ho11 (below_size (by repeat (first|(with_reducible first|exact HB.out|apply below_alloc|apply pw_below_drewN|apply below_drew1)|exact HB.out))));have n1_:=Aside0.mk (below_step (by repeat (first|(with_reducible first|exact HB.out|apply below_alloc|apply pw_below_drewN|apply below_drew1)|exact HB.out)) hb);clear HB;have HO269:=n0_;have HB:=n1_;clear n0_ n1_;clear hb ho11))
    go_ret
    exact ⟨_,by first|rfl|(simp [errW_none,errW_some] <;> rfl)|(simp [*,errW_none,errW_some] <;> rfl),by (with_reducible repeat (first|apply Kd.R_alloc|apply Kd.R_drewN|apply Kd.R_drew));exact HO269.out,by repeat (first|(with_reducible first|exact HB.out|apply below_alloc|apply pw_below_drewN|apply below_drew1)|exact HB.out)⟩
   ·replace c8:=Bool.eq_false_iff.mpr c8
    subst c8
    have H1 : (if a0=3 then (some (([3,2,4,2,4] : List Int))) else (if a0=9 then (some (([9,4,2,3] : List Int))) else (if a0=10 then (some (([10,3,2,4] : List Int))) else (if a0=12 then (some (([12,4] : List Int))) else (some (([a0] : List Int)))))))=some r:=by rw [if_neg (show ¬ (false=true) by decide)] at H;exact H
    clear H
    have H:=H1
    clear H1
    by_cases c12 : a0=3
    ·rw [if_pos c12] at H
     have c12b0 : (a0 == 3)=true:=beq_iff_eq.mpr c12
     have c12b1 : (a0 != 3)=false:=bne_eq_false_iff_eq.mpr c12
     clear c12
     obtain ⟨y270,hy270⟩ : ∃ y_ : List Int,y_=(([3,2,4,2,4] : List Int)):=⟨_,rfl⟩
     replace H : (some y270)=some r:=by first|(rw [hy270];with_reducible exact H)|(have H2_:=(Option.bind_some _ _).symm.trans H;rw [hy270];with_reducible exact H2_)|(have H2_:=(Option.bind_some _ _).symm.trans H;with_reducible exact H2_)|with_reducible exact H|(rw [hy270];exact H)|exact H
     have Ny270:=Aside0.mk hy270
     clear hy270
     obtain rfl:=Option.some.inj H
     go_wp2_with (first|((with_reducible refine gate_dst (N:=16) rfl ?_);refine Kd.R_lit (Kd.int .i64) _ 44 ?hg (N:=16) ?hd (xs:=([3,2,4,2,4] : List Int)) (inner:=[.int .i64 3,.int .i64 2,.int .i64 4,.int .i64 2,.int .i64 4]) (ok:=fun _ => True) (okp:=fun _ => True) ?hr ?hp (fun _ hk => hk) trivial (Below.refl _ _) (Nat.le_refl _) (by simp) ?_;(case hd => rfl);(case hg => rfl);(case hr => first|(go_simp;done)|(go_simp;rfl));(case hp => exact (Reps.one (show Kd.M (Kd.int .i64) _ _ _ 3 [.int .i64 3] from rfl) (Reps.one (show Kd.M (Kd.int .i64) _ _ _ 2 [.int .i64 2] from rfl) (Reps.one (show Kd.M (Kd.int .i64) _ _ _ 4 [.int .i64 4] from rfl) (Reps.one (show Kd.M (Kd.int .i64) _ _ _ 2 [.int .i64 2] from rfl) (Reps.one (show Kd.M (Kd.int .i64) _ _ _ 4 [.int .i64 4] from rfl) (Reps.none _ _)))))));intro v271 w13 ho14 hb hg_ hnew_;clear hg_ hnew_;(first|rw [← Ny270.out] at ho14|(simp only [Int.reduceToNat] at ho14;rw [← Ny270.out] at ho14));have n0_:=Aside0.mk (Kd.R_lower ho14 (below_size (by repeat (first|(with_reducible first|exact HB.out|apply below_alloc|apply pw_below_drewN|apply below_drew1)|exact HB.out))));have n1_:=Aside0.mk (below_step (by repeat (first|(with_reducible first|exact HB.out|apply below_alloc|apply pw_below_drewN|apply below_drew1)|exact HB.out)) hb);clear HB;have HO272:=n0_;have HB:=n1_;clear n0_ n1_;clear hb ho14))
     go_ret
     exact ⟨_,by first|rfl|(simp [errW_none,errW_some] <;> rfl)|(simp [*,errW_none,errW_some] <;> rfl),by (with_reducible repeat (first|apply Kd.R_alloc|apply Kd.R_drewN|apply Kd.R_drew));exact HO272.out,by repeat (first|(with_reducible first|exact HB.out|apply below_alloc|apply pw_below_drewN|apply below_drew1)|exact HB.out)⟩
    ·rw [if_neg c12] at H
     have c12b0 : (a0 == 3)=false:=beq_eq_false_iff_ne.mpr c12
     have c12b1 : (a0 != 3)=true:=bne_iff_ne.mpr c12
     by_cases c15 : a0=9
     ·rw [if_pos c15] at H
      have c15b0 : (a0 == 9)=true:=beq_iff_eq.mpr c15
      have c15b1 : (a0 != 9)=false:=bne_eq_false_iff_eq.mpr c15
      clear c15
      obtain ⟨y273,hy273⟩ : ∃ y_ : List Int,y_=(([9,4,2,3] : List Int)):=⟨_,rfl⟩
      replace H : (some y273)=some r:=by first|(rw [hy273];with_reducible exact H)|(have H2_:=(Option.bind_some _ _).symm.trans H;rw [hy273];with_reducible exact H2_)|(have H2_:=(Option.bind_some _ _).symm.trans H;with_reducible exact H2_)|with_reducible exact H|(rw [hy273];exact H)|exact H
      have Ny273:=Aside0.mk hy273
      clear hy273
      obtain rfl:=Option.some.inj H
      go_wp2_with (first|((with_reducible refine gate_dst (N:=19) rfl ?_);refine Kd.R_lit (Kd.int .i64) _ 44 ?hg (N:=19) ?hd (xs:=([9,4,2,3] : List Int)) (inner:=[.int .i64 9,.int .i64 4,.int .i64 2,.int .i64 3]) (ok:=fun _ => True) (okp:=fun _ => True) ?hr ?hp (fun _ hk => hk) trivial (Below.refl _ _) (Nat.le_refl _) (by simp) ?_;(case hd => rfl);(case hg => rfl);(case hr => first|(go_simp;done)|(go_simp;rfl));(case hp => exact (Reps.one (show Kd.M (Kd.int .i64) _ _ _ 9 [.int .i64 9] from rfl) (Reps.one (show Kd.M (Kd.int .i64) _ _ _ 4 [.int .i64 4] from rfl) (Reps.one (show Kd.M (Kd.int .i64) _ _ _ 2 [.int .i64 2] from rfl) (Reps.one (show Kd.M (Kd.int .i64) _ _ _ 3 [.int .i64 3] from rfl) (Reps.none _ _))))));intro v274 w16 ho17 hb hg_ hnew_;clear hg_ hnew_;(first|rw [← Ny273.out] at ho17|(simp only [Int.reduceToNat] at ho17;rw [← Ny273.out] at ho17));have n0_:=Aside0.mk (Kd.R_lower ho17 (below_size (by repeat (first|(with_reducible first|exact HB.out|apply below_alloc|apply pw_below_drewN|apply below_drew1)|exact HB.out))));have n1_:=Aside0.mk (below_step (by repeat (first|(with_reducible first|exact HB.out|apply below_alloc|apply pw_below_drewN|apply below_drew1)|exact HB.out)) hb);clear HB;have HO275:=n0_;have HB:=n1_;clear n0_ n1_;clear hb ho17))
      go_ret
      exact ⟨_,by first|rfl|(simp [errW_none,errW_some] <;> rfl)|(simp [*,errW_none,errW_some] <;> rfl),by (with_reducible repeat (first|apply Kd.R_alloc|apply Kd.R_drewN|apply Kd.R_drew));exact HO275.out,by repeat (first|(with_reducible first|exact HB.out|apply below_alloc|apply pw_below_drewN|apply below_drew1)|exact HB.out)⟩
     ·rw [if_neg c15] at H
      have c15b0 : (a0 == 9)=false:=beq_eq_false_iff_ne.mpr c15
      have c15b1 : (a0 != 9)=true:=bne_iff_ne.mpr c15
      by_cases c18 : a0=10
      ·rw [if_pos c18] at H
       have c18b0 : (a0 == 10)=true:=beq_iff_eq.mpr c18
       have c18b1 : (a0 != 10)=false:=bne_eq_false_iff_eq.mpr c18
       clear c18
       obtain ⟨y276,hy276⟩ : ∃ y_ : List Int,y_=(([10,3,2,4] : List Int)):=⟨_,rfl⟩
       replace H : (some y276)=some r:=by first|(rw [hy276];with_reducible exact H)|(have H2_:=(Option.bind_some _ _).symm.trans H;rw [hy276];with_reducible exact H2_)|(have H2_:=(Option.bind_some _ _).symm.trans H;with_reducible exact H2_)|with_reducible exact H|(rw [hy276];exact H)|exact H
       have Ny276:=Aside0.mk hy276
       clear hy276
       obtain rfl:=Option.some.inj H
       go_wp2_with (first|((with_reducible refine gate_dst (N:=22) rfl ?_);refine Kd.R_lit (Kd.int .i64) _ 44 ?hg (N:=22) ?hd (xs:=([10,3,2,4] : List Int)) (inner:=[.int .i64 10,.int .i64 3,.int .i64 2,.int .i64 4]) (ok:=fun _ => True) (okp:=fun _ => True) ?hr ?hp (fun _ hk => hk) trivial (Below.refl _ _) (Nat.le_refl _) (by simp) ?_;(case hd => rfl);(case hg => rfl);(case hr => first|(go_simp;done)|(go_simp;rfl));(case hp => exact (Reps.one (show Kd.M (Kd.int .i64) _ _ _ 10 [.int .i64 10] from rfl) (Reps.one (show Kd.M (Kd.int .i64) _ _ _ 3 [.int .i64 3] from rfl) (Reps.one (show Kd.M (Kd.int .i64) _ _ _ 2 [.int .i64 2] from rfl) (Reps.one (show Kd.M (Kd.int .i64) _ _ _ 4 [.int .i64 4] from rfl) (Reps.none _ _))))));intro v277 w19 ho20 hb hg_ hnew_;clear hg_ hnew_;(first|rw [← Ny276.out] at ho20|(simp only [Int.reduceToNat] at ho20;rw [← Ny276.out] at ho20));have n0_:=Aside0.mk (Kd.R_lower ho20 (below_size (by repeat (first|(with_reducible first|exact HB.out|apply below_alloc|apply pw_below_drewN|apply below_drew1)|exact HB.out))));have n1_:=Aside0.mk (below_step (by repeat (first|(with_reducible first|exact HB.out|apply below_alloc|apply pw_below_drewN|apply below_drew1)|exact HB.out)) hb);clear HB;have HO278:=n0_;have HB:=n1_;clear n0_ n1_;clear hb ho20))
       go_ret
       exact ⟨_,by first|rfl|(simp [errW_none,errW_some] <;> rfl)|(simp [*,errW_none,errW_some] <;> rfl),by (with_reducible repeat (first|apply Kd.R_alloc|apply Kd.R_drewN|apply Kd.R_drew));exact HO278.out,by repeat (first|(with_reducible first|exact HB.out|apply below_alloc|apply pw_below_drewN|apply below_drew1)|exact HB.out)⟩
      ·rw [if_neg c18] at H
       have c18b0 : (a0 == 10)=false:=beq_eq_false_iff_ne.mpr c18
       have c18b1 : (a0 != 10)=true:=bne_iff_ne.mpr c18
       by_cases c21 : a0=12
       ·rw [if_pos c21] at H
        have c21b0 : (a0 == 12)=true:=beq_iff_eq.mpr c21
        have c21b1 : (a0 != 12)=false:=bne_eq_false_iff_eq.mpr c21
        clear c21
        obtain ⟨y279,hy279⟩ : ∃ y_ : List Int,y_=(([12,4] : List Int)):=⟨_,rfl⟩
        replace H : (some y279)=some r:=by first|(rw [hy279];with_reducible exact H)|(have H2_:=(Option.bind_some _ _).symm.trans H;rw [hy279];with_reducible exact H2_)|(have H2_:=(Option.bind_some _ _).symm.trans H;with_reducible exact H2_)|with_reducible exact H|(rw [hy279];exact H)|exact H
        have Ny279:=Aside0.mk hy279
        clear hy279
        obtain rfl:=Option.some.inj H
        go_wp2_with (first|((with_reducible refine gate_dst (N:=25) rfl ?_);refine Kd.R_lit (Kd.int .i64) _ 44 ?hg (N:=25) ?hd (xs:=([12,4] : List Int)) (inner:=[.int .i64 12,.int .i64 4]) (ok:=fun _ => True) (okp:=fun _ => True) ?hr ?hp (fun _ hk => hk) trivial (Below.refl _ _) (Nat.le_refl _) (by simp) ?_;(case hd => rfl);(case hg => rfl);(case hr => first|(go_simp;done)|(go_simp;rfl));(case hp => exact (Reps.one (show Kd.M (Kd.int .i64) _ _ _ 12 [.int .i64 12] from rfl) (Reps.one (show Kd.M (Kd.int .i64) _ _ _ 4 [.int .i64 4] from rfl) (Reps.none _ _))));intro v280 w22 ho23 hb hg_ hnew_;clear hg_ hnew_;(first|rw [← Ny279.out] at ho23|(simp only [Int.reduceToNat] at ho23;rw [← Ny279.out] at ho23));have n0_:=Aside0.mk (Kd.R_lower ho23 (below_size (by repeat (first|(with_reducible first|exact HB.out|apply below_alloc|apply pw_below_drewN|apply below_drew1)|exact HB.out))));have n1_:=Aside0.mk (below_step (by repeat (first|(with_reducible first|exact HB.out|apply below_alloc|apply pw_below_drewN|apply below_drew1)|exact HB.out)) hb);clear HB;have HO281:=n0_;have HB:=n1_;clear n0_ n1_;clear hb ho23))
        go_ret
        exact ⟨_,by first|rfl|(simp [errW_none,errW_some] <;> rfl)|(simp [*,errW_none,errW_some] <;> rfl),by (with_reducible repeat (first|apply Kd.R_alloc|apply Kd.R_drewN|apply Kd.R_drew));exact HO281.out,by repeat (first|(with_reducible first|exact HB.out|apply below_alloc|apply pw_below_drewN|apply below_drew1)|exact HB.out)⟩
       ·rw [if_neg c21] at H
        have c21b0 : (a0 == 12)=false:=beq_eq_false_iff_ne.mpr c21
        have c21b1 : (a0 != 12)=true:=bne_iff_ne.mpr c21
        obtain ⟨y282,hy282⟩ : ∃ y_ : List Int,y_=(([a0] : List Int)):=⟨_,rfl⟩
        replace H : (some y282)=some r:=by first|(rw [hy282];with_reducible exact H)|(have H2_:=(Option.bind_some _ _).symm.trans H;rw [hy282];with_reducible exact H2_)|(have H2_:=(Option.bind_some _ _).symm.trans H;with_reducible exact H2_)|with_reducible exact H|(rw [hy282];exact H)|exact H
        have Ny282:=Aside0.mk hy282
        clear hy282
        obtain rfl:=Option.some.inj H
        go_wp2_with (first|((with_reducible refine gate_dst (N:=27) rfl ?_);refine Kd.R_lit (Kd.int .i64) _ 44 ?hg (N:=27) ?hd (xs:=([a0] : List Int)) (inner:=[.int .i64 a0]) (ok:=fun _ => True) (okp:=fun _ => True) ?hr ?hp (fun _ hk => hk) trivial (Below.refl _ _) (Nat.le_refl _) (by simp) ?_;(case hd => rfl);(case hg => rfl);(case hr => first|(go_simp;done)|(go_simp;rfl));(case hp => exact (Reps.one (show Kd.M (Kd.int .i64) _ _ _ a0 [.int .i64 a0] from rfl) (Reps.none _ _)));intro v283 w24 ho25 hb hg_ hnew_;clear hg_ hnew_;(first|rw [← Ny282.out] at ho25|(simp only [Int.reduceToNat] at ho25;rw [← Ny282.out] at ho25));have n0_:=Aside0.mk (Kd.R_lower ho25 (below_size (by repeat (first|(with_reducible first|exact HB.out|apply below_alloc|apply pw_below_drewN|apply below_drew1)|exact HB.out))));have n1_:=Aside0.mk (below_step (by repeat (first|(with_reducible first|exact HB.out|apply below_alloc|apply pw_below_drewN|apply below_drew1)|exact HB.out)) hb);clear HB;have HO284:=n0_;have HB:=n1_;clear n0_ n1_;clear hb ho25))
        go_ret
        exact ⟨_,by first|rfl|(simp [errW_none,errW_some] <;> rfl)|(simp [*,errW_none,errW_some] <;> rfl),by (with_reducible repeat (first|apply Kd.R_alloc|apply Kd.R_drewN|apply Kd.R_drew));exact HO284.out,by repeat (first|(with_reducible first|exact HB.out|apply below_alloc|apply pw_below_drewN|apply below_drew1)|exact HB.out)⟩
end Go.Proofs.Ytbelnopbggkdfaa.Q
end

section
namespace Go.Proofs.Ytbelnopbggkdfaa.Q
open Go.RowKit Go.Proofs.YtbelnopbggkdfaaW.PrintWords Go.Proofs.YtbelnopbggkdfaaW.PrintLast Go.Proofs.YtbelnopbggkdfaaW.PrintMore
theorem rin_in : ∀ k : Nat,k < 20→phasorref17_in.f 7 ((k + 1 : Nat) : Int)=some (conjF ((k + 1 : Nat) : Int)):=by
  intro k hk
  obtain rfl|rfl|rfl|rfl|rfl|rfl|rfl|rfl|rfl|rfl|rfl|rfl|rfl|rfl|rfl|rfl|rfl|rfl|rfl|rfl : k=0∨k=1∨k=2∨k=3∨k=4∨k=5∨k=6∨k=7∨k=8∨k=9∨k=10∨k=11∨k=12∨k=13∨k=14∨k=15∨k=16∨k=17∨k=18∨k=19:=by omega
  all_goals simp [phasorref17_in.f,phasorref17_in.j0,phasorref06_Inverse.f,phasorref06_Inverse.j0,phasorref06_Inverse.j1,conjF]
  all_goals first|rfl|(rw [w64 (by omega) (by omega)])
theorem rin_is {k : Int} (h1 : 1≤k) (h2 : k≤20) : phasorref17_in.f 7 k=some (conjF k):=by
  have:=rin_in (k - 1).toNat (by omega)
  have e : (((k - 1).toNat + 1 : Nat) : Int)=k:=by omega
  rwa [e] at this
def rcK (x : Opn) : List Int:=if x.f0=1 then conjF x.f1 else [x.f1]
def rcAt (x : Opn) (j : Nat) : Opn:=if x.f0=1 then conjAt x j else x
theorem rc_len (x : Opn) : (rcK x).length≤5∧0 < (rcK x).length:=by
  unfold rcK
  split
  · exact conjF_len _
  · simp
theorem rc_take {x : Opn} {j : Nat} (hj : j < (rcK x).length) : (conjO x).take j ++ [rcAt x j]=(conjO x).take (j + 1):=by
  unfold rcK at hj
  unfold rcAt
  by_cases h : x.f0=1
  · rw [if_pos h] at hj ⊢
    exact conjO_take h hj
  · rw [if_neg h] at hj ⊢
    obtain rfl : j=0:=by simpa using hj
    unfold conjO
    rw [if_neg h]
    rfl
theorem rc_all (x : Opn) : (conjO x).take (rcK x).length=conjO x:=by
  unfold rcK
  by_cases h : x.f0=1
  · rw [if_pos h]
    exact conjO_all h
  · rw [if_neg h]
    unfold conjO
    rw [if_neg h]
    rfl
theorem rc_kind {x : Opn} {j : Nat} (hj : j < (rcK x).length) : (rcAt x j).f1=(rcK x).getD j 0:=by
  unfold rcK at hj ⊢
  unfold rcAt
  by_cases h : x.f0=1
  · rw [if_pos h,if_pos h]
    rfl
  · rw [if_neg h] at hj
    rw [if_neg h,if_neg h]
    obtain rfl : j=0:=by simpa using hj
    rfl
theorem rc_arity {x : Opn} {j : Nat} (h1 : 1≤x.f1) (h2 : x.f1≤20) (hj : j < (conjF x.f1).length) : 1≤(conjF x.f1).getD j 0∧(conjF x.f1).getD j 0≤20∧Lift.arityF ((conjF x.f1).getD j 0)=if j=0 then Lift.arityF x.f1 else 1:=by
  generalize x.f1=k at h1 h2 hj
  have hl:=(conjF_len k).1
  obtain ⟨n,rfl⟩ : ∃ n : Nat,k=((n + 1 : Nat) : Int):=⟨(k - 1).toNat,by omega⟩
  have hn : n < 20:=by omega
  have key : ∀ n : Nat,n < 20→∀ j : Nat,j < 5→j < (conjF ((n + 1 : Nat) : Int)).length→1≤(conjF ((n + 1 : Nat) : Int)).getD j 0∧(conjF ((n + 1 : Nat) : Int)).getD j 0≤20∧Lift.arityF ((conjF ((n + 1 : Nat) : Int)).getD j 0)=if j=0 then Lift.arityF ((n + 1 : Nat) : Int) else 1:=by decide
  exact key n hn j (by omega) hj
structure InL (B g2 : Nat) (Wl wc : World) (gO g : Nat) (q b : Int) (s : List Opn) (v : Value) (ws : World) : Prop where
  lp : Lp B g2 Wl g q b s v ws
  keep : ∀ k,k < wc.heap.size→gO≤k→ws.heap[k]?=wc.heap[k]?
  own : ∀ k,v.ownBlock=some k→k < gO∨wc.heap.size≤k
  size : wc.heap.size≤ws.heap.size
  gl : g < gO
variable {B g2 : Nat} {Wl wc : World} {gO g : Nat} {q b : Int} {s s' : List Opn} {v v' : Value} {ws W' : World}
theorem InL.below (h : InL B g2 Wl wc gO g q b s v ws) (hb : Below ws.heap.size ws W') : InL B g2 Wl wc gO g q b s v W' :=
  ⟨h.lp.below hb,fun k h1 h2 => (hb.block k (Nat.lt_of_lt_of_le h1 h.size)).trans (h.keep k h1 h2),h.own,Nat.le_trans h.size hb.size,h.gl⟩
theorem InL.app (h : InL B g2 Wl wc gO g q b s v ws) (hn : Kd.N k46w 46 W' Wl.heap.size (fun k => B≤k∧k≠g∧k≠g2) v' s') (hb : Below Wl.heap.size ws W') (hg : ws.grownBy W' v.ownBlock) (hat : v'.ownBlock=v.ownBlock∨∃ b,v'.ownBlock=some b∧ws.heap.size≤b) :
    InL B g2 Wl wc gO g q b s' v' (W'.setCell ⟨g,2,none⟩ v'):=by
  refine ⟨h.lp.set hn hb,fun k h1 h2 => ?_,fun k hk => ?_,?_,h.gl⟩
  · rw [Below.heap_setCell _ _ _ _ (show k≠g by have:=h.gl;omega)]
    refine (hg.block k (Nat.lt_of_lt_of_le h1 h.size) (fun e => ?_)).trans (h.keep k h1 h2)
    have h3:=h.own k e.symm
    omega
  · rcases hat with e | ⟨b,e,hb2⟩
    · exact h.own k (e ▸ hk)
    · rw [e] at hk
      injection hk with hk
      have:=h.size
      omega
  · have h1:=hb.size
    have h2:=h.size
    simpa [World.setCell] using Nat.le_trans h2 h1
theorem at_op {w : World} {A : Option Addr} {n i : Nat} {l : List Opn} {x : Opn} (h : Kd.C k46 w A n l) (hx : l[i]?=some x) (hn : n=l.length) : ∃ ad A2 c2,A=some ad∧w.cell? (ad.add (i * 6))=some (.int .i64 x.f0)∧w.cell? ⟨(ad.add (i * 6)).block,(ad.add (i * 6)).off + 1,none⟩=some (.int .i64 x.f1) ∧
    w.cell? ⟨(ad.add (i * 6)).block,(ad.add (i * 6)).off + 2,none⟩=some (.slice A2 x.f2.length c2)∧w.cell? ⟨(ad.add (i * 6)).block,(ad.add (i * 6)).off + 3,none⟩=some (.int .i64 x.f3)∧w.cell? ⟨(ad.add (i * 6)).block,(ad.add (i * 6)).off + 4,none⟩=some (.int .i64 x.f4) ∧
    w.cell? ⟨(ad.add (i * 6)).block,(ad.add (i * 6)).off + 5,none⟩=some (.int .i64 x.f5)∧x.f2.length≤c2∧Kd.C (Kd.int .i64) w A2 x.f2.length x.f2:=by
  have hi:=(List.getElem?_eq_some_iff.1 hx).1
  have hr : rd_T46 l (i : Int)=x:=by simp [rd_T46,List.getD_eq_getElem?_getD,hx]
  obtain ⟨ad,A2,c2,e,h0,h1,h2,h3,h4,h5,h6,h7⟩:=at_T46 h (i : Int) (by omega) (by omega)
  rw [hr] at h0 h1 h2 h3 h4 h5 h6 h7
  rw [Int.toNat_natCast] at h0 h1 h2 h3 h4 h5
  exact ⟨ad,A2,c2,e,h0,h1,h2,h3,h4,h5,h6,h7⟩
end Go.Proofs.Ytbelnopbggkdfaa.Q
end

section
namespace Go.Proofs.Ytbelnopbggkdfaa.Q
open Go.RowKit Go.Proofs.YtbelnopbggkdfaaW.PrintWords Go.Proofs.YtbelnopbggkdfaaW.PrintLast Go.Proofs.YtbelnopbggkdfaaW.PrintMore
theorem wf_small {k : Int} (h1 : 1≤k) (h2 : k≤20) : (Lit.int .i64 k).wf=true:=by
  obtain ⟨n,rfl⟩ : ∃ n : Nat,k=((n + 1 : Nat) : Int):=⟨(k - 1).toNat,by omega⟩
  have hn : n < 20:=by omega
  have key : ∀ n : Nat,n < 20→(Lit.int .i64 ((n + 1 : Nat) : Int)).wf=true:=by decide
  exact key n hn
set_option maxHeartbeats 4000000 in
set_option maxRecDepth 1000000 in
theorem rcj_no (q b : Int) (A : Option Addr) (c : Nat) (l : List Opn) (w : World) (HC : Kd.C k46 w A l.length l) (hc : l.length≤c) (hw : WfL l) (k1 : Nat) (e1 : phasorref08_May.f k1 q b l=some false) :
    Calls Try.prog 12 #[.agg #[.int .i64 q,.int .i64 b,.slice A l.length c]] w (Out w (0,0,[],80)):=by
  have HR:=Aside0.mk HC
  have HS:=Aside0.mk hc
  have HWF:=Aside0.mk hw
  have E1:=Aside0.mk e1
  clear HC hc hw e1
  have hu24:=Try.underlying24
  go_enter Try.func12,Try.ntmps12
  go_upto_region 1 with fail
  have F:=Aside0.mk (Fr.start (q:=q) (b:=b) (c:=c) HR.out)
  clear HR
  obtain ⟨g2,hg2⟩ : ∃ g,g=w.heap.size + 1:=⟨_,rfl⟩
  rw [← hg2] at F ⊢
  clear hg2
  generalize ((w.alloc _).alloc _)=W at F ⊢
  obtain ⟨c0,c1,c2,d0,d1,d2,f0,f1,f2⟩:=F.out.cells
  go_wp2_with (go_at_call 24;(with_reducible refine (phasorref08_May.calls k1 q b _ _ l _ _ F.out.hc HS.out E1.out).mono ?_);rintro e w3 ⟨rfl,hb3⟩;replace F:=Aside0.mk (F.out.below hb3);clear c0 c1 c2 d0 d1 d2 f0 f1 f2 hb3;obtain ⟨c0,c1,c2,d0,d1,d2,f0,f1,f2⟩:=F.out.cells)
  refine bodyPost_ret (results_ct rfl _ _ g2 24 _ (0,0) _ rfl (F.out.put 0 0 (.slice none 0 0)) Try.underlying24 rfl (by kernel_rfl)) rfl ?_
  exact F.out.out Fr.nil
set_option maxHeartbeats 4000000 in
set_option maxRecDepth 1000000 in
theorem rcj_main (q b : Int) (A : Option Addr) (c : Nat) (l : List Opn) (w : World) (HC : Kd.C k46 w A l.length l) (hc : l.length≤c) (hw : WfL l) (k1 : Nat) (e1 : phasorref08_May.f k1 q b l=some true) (hle : l.length≤4096) (hqs : ∀ o ∈ l,o.f2.length≤64) (hg : ∀ o ∈ l,o.f0=1→1≤o.f1∧o.f1≤20∧(o.f2.length : Int)=Lift.arityF o.f1∧0 < o.f2.length) :
    Calls Try.prog 12 #[.agg #[.int .i64 q,.int .i64 b,.slice A l.length c]] w (Out w (toldR q b (l.flatMap conjO))):=by
  have HGATE:=Aside0.mk hg
  have HLE:=Aside0.mk hle
  have HQS:=Aside0.mk hqs
  clear hg hle hqs
  have HR:=Aside0.mk HC
  have HS:=Aside0.mk hc
  have HWF:=Aside0.mk hw
  have E1:=Aside0.mk e1
  clear HC hc hw e1
  have hu24:=Try.underlying24
  go_enter Try.func12,Try.ntmps12
  go_upto_region 1 with fail
  have F:=Aside0.mk (Fr.start (q:=q) (b:=b) (c:=c) HR.out)
  clear HR
  obtain ⟨g2,hg2⟩ : ∃ g,g=w.heap.size + 1:=⟨_,rfl⟩
  rw [← hg2] at F ⊢
  clear hg2
  generalize ((w.alloc _).alloc _)=W at F ⊢
  obtain ⟨c0,c1,c2,d0,d1,d2,f0,f1,f2⟩:=F.out.cells
  go_upto_region 3 with (go_at_call 24;(with_reducible refine (phasorref08_May.calls k1 q b _ _ l _ _ F.out.hc HS.out E1.out).mono ?_);rintro e w3 ⟨rfl,hb3⟩;replace F:=Aside0.mk (F.out.below hb3);clear c0 c1 c2 d0 d1 d2 f0 f1 f2 hb3;obtain ⟨c0,c1,c2,d0,d1,d2,f0,f1,f2⟩:=F.out.cells)
  go_upto_region 4 with (go_at_call 47;(with_reducible refine (empty_any _ _ _ _ _ _).mono ?_);rintro e w8 ⟨rfl,hb8⟩)
  have bb:=below_alloc (Below.refl w8.heap.size w8) (.cells #[.int .i64 q,.int .i64 b,.slice none 0 0] 24)
  have y4:=blk_new w8 (.cells #[.int .i64 q,.int .i64 b,.slice none 0 0] 24)
  have HG4:=Aside0.mk (show g2 < w8.heap.size from blk_lt (F.out.below hb8).b2)
  replace F:=Aside0.mk (F.out.below (below_step hb8 bb))
  clear hb8 bb c0 c1 c2 d0 d1 d2 f0 f1 f2
  generalize w8.heap.size=g4 at y4 HG4 ⊢
  generalize w8.alloc _=Wl at y4 F ⊢
  have HWL:=Aside0.mk F.out.hb.size
  have HS0:=Aside0.mk (show Lp w.heap.size g2 Wl g4 q b ((l.take 0).flatMap conjO) (.slice none 0 0) Wl from Lp.start (B:=w.heap.size) y4 HG4.out (by have:=F.out.g;omega))
  clear y4
  go_wp2_with fail
  go_loopg [5] l.length (fun gk v5 wr => ∃ i : Nat,i≤l.length∧l.length - i≤gk∧v5=.int .i64 (i : Int)∧∃ v,Aside0 (Lp w.heap.size g2 Wl g4 q b ((l.take i).flatMap conjO) v wr))
  case atStart => exact ⟨0,by omega,by omega,by go_num,_,HS0⟩
  case round =>
    obtain ⟨i,hi0,hi1,rfl,v,HI⟩:=hrel
    have hle:=HLE.out
    obtain ⟨Av,nv,cv,hv⟩:=HI.out.form
    subst hv
    have hF':=HI.out.fr F.out
    obtain ⟨-,-,c2,-,-,-,-,-,-⟩:=hF'.cells
    by_cases hlt : i < l.length
    · obtain ⟨x,hx⟩ : ∃ x,l[i]?=some x:=⟨_,List.getElem?_eq_getElem hlt⟩
      have HX:=Aside0.mk hx
      have HQX:=Aside0.mk (HQS.out x (List.mem_of_getElem? hx))
      have HST:=Aside0.mk (conjs_step hx)
      have HPL:=Aside0.mk (show ((l.take i).flatMap conjO).length≤5 * 4096 from Nat.le_trans (conjs_len _) (by rw [List.length_take];omega))
      obtain ⟨ad,A2,cc2,hA,a0,a1,a2,a3,a4,a5,hcap,hints⟩:=at_op F.out.hc0 hx rfl
      subst hA
      have HC0:=Aside0.mk hints
      replace a0:=below_cell hF'.hb a0
      replace a1:=below_cell hF'.hb a1
      replace a2:=below_cell hF'.hb a2
      replace a3:=below_cell hF'.hb a3
      replace a4:=below_cell hF'.hb a4
      replace a5:=below_cell hF'.hb a5
      have HCAP:=Aside0.mk hcap
      clear hints hcap hx hF'
      go_upto_region 8 with fail
      generalize hPRE : (l.take i).flatMap conjO=PRE at HI HST HPL
      have bb7:=below_alloc (Below.refl wr.heap.size wr) (.cells #[.int .i64 x.f0,.int .i64 x.f1,.slice A2 x.f2.length cc2,.int .i64 x.f3,.int .i64 x.f4,.int .i64 x.f5] 46)
      have y6:=blk_new wr (.cells #[.int .i64 x.f0,.int .i64 x.f1,.slice A2 x.f2.length cc2,.int .i64 x.f3,.int .i64 x.f4,.int .i64 x.f5] 46)
      have HLT:=Aside0.mk (show ∀ k,(.slice Av nv cv : Value).ownBlock=some k→k < wr.heap.size from Kd.N_lt HI.out.row)
      have HGO:=Aside0.mk (show g4 < wr.heap.size from blk_lt HI.out.bx)
      replace HI:=Aside0.mk (HI.out.below bb7)
      clear a0 a1 a2 a3 a4 a5 bb7 c2 hPRE
      generalize wr.heap.size=gO at y6 HLT HGO ⊢
      generalize wr.alloc _=wa at y6 HI ⊢
      have a0 : wa.cell? ⟨gO,0,none⟩=some (.int .i64 x.f0):=by rw [blk_cell y6];rfl
      have a1 : wa.cell? ⟨gO,1,none⟩=some (.int .i64 x.f1):=by rw [blk_cell y6];rfl
      have hwa:=blk_lt y6
      by_cases h1 : x.f0=1
      · have B1:=Aside0.mk (beq_iff_eq.2 h1 : (x.f0 == 1)=true)
        have b1:=B1.out
        have HGX:=Aside0.mk (HGATE.out x (List.mem_of_getElem? HX.out) h1)
        have HK0:=Aside0.mk (show rcK x=conjF x.f1 by unfold rcK;rw [if_pos h1])
        have HA0:=Aside0.mk (show ∀ j,rcAt x j=conjAt x j from fun j => by unfold rcAt;rw [if_pos h1])
        have HWA:=Aside0.mk hwa
        have Y60:=Aside0.mk y6
        clear h1 hwa y6
        go_upto_region 9 with fail
        have bb8:=below_alloc (Below.refl wa.heap.size wa) (.cells #[.int .i64 x.f1] 44)
        have y61:=blk_below Y60.out bb8
        replace HI:=Aside0.mk (HI.out.below bb8)
        have HWA2:=Aside0.mk bb8.size
        clear a0 a1 bb8
        generalize wa.heap.size=gL at HWA HWA2 ⊢
        generalize wa.alloc _=wk at y61 HI HWA2 ⊢
        have a0 : wk.cell? ⟨gO,0,none⟩=some (.int .i64 x.f0):=by rw [blk_cell y61];rfl
        have a1 : wk.cell? ⟨gO,1,none⟩=some (.int .i64 x.f1):=by rw [blk_cell y61];rfl
        have Y61:=Aside0.mk y61
        clear y61 Y60
        go_upto_region 11 with (go_at_call 52;(with_reducible refine (phasorref17_in.calls 7 x.f1 _ _ (rin_is HGX.out.1 HGX.out.2.1)).mono ?_);rintro e wc ⟨v7,rfl,hR7,hb7⟩;obtain ⟨g5,cap5,hv7,hge5,hlt5,-⟩:=Kd.R_form hR7 (conjF_len x.f1).2;subst hv7)
        have hm : (conjF x.f1).length=(rcK x).length:=by rw [HK0.out]
        have hc5 : ∀ j,j < (rcK x).length→wc.cell? ⟨g5,j,none⟩=some (.int .i64 ((rcK x).getD j 0)):=fun j hj => by
          rw [HK0.out] at hj ⊢
          have h:=Kd.foot_int (Kd.R_reads' hR7).2.2 (j : Int) (by omega) (by omega)
          rw [Int.toNat_natCast,add_plain] at h
          exact h
        have y6:=blk_below Y61.out hb7
        have hg5 : gO≤g5∧g5 < wc.heap.size:=⟨by have:=HWA.out;have:=HWA2.out;omega,hlt5⟩
        have hIC : InL w.heap.size g2 Wl wc gO g4 q b (PRE ++ (conjO x).take 0) (.slice Av nv cv) wc:=⟨by rw [List.take_zero,List.append_nil];exact HI.out.below hb7,fun _ _ _ => rfl,fun k hk => .inl (HLT.out k hk),Nat.le_refl _,HGO.out⟩
        clear b1 a0 a1 hR7 hb7 hge5 hlt5 HI Y61
        have HM:=Aside0.mk hm
        clear hm
        have HIC:=Aside0.mk hIC
        have HC5:=Aside0.mk hc5
        have HG5:=Aside0.mk hg5
        have Y6:=Aside0.mk y6
        clear hIC hc5 hg5 y6
        go_wp2_with fail
        go_loopg [8] (conjF x.f1).length (fun gk2 v8 ws => ∃ j : Nat,j≤(conjF x.f1).length∧(conjF x.f1).length - j≤gk2∧v8=.int .i64 (j : Int)∧∃ v,Aside0 (InL w.heap.size g2 Wl wc gO g4 q b (PRE ++ (conjO x).take j) v ws))
        case atStart => exact ⟨0,by omega,by omega,by go_num,_,HIC⟩
        case round =>
          obtain ⟨j,hj0,hj1,rfl,v,HI⟩:=hrel
          obtain ⟨Aw,nw,cw,hvw⟩:=HI.out.lp.form
          subst hvw
          have hl5 : (conjF x.f1).length≤5:=by rw [HM.out];exact (rc_len x).1
          by_cases hlj : j < (conjF x.f1).length
          · have HTK:=Aside0.mk (rc_take (x:=x) (j:=j) (by rw [← HM.out];exact hlj))
            have HKK:=Aside0.mk (rc_kind (x:=x) (j:=j) (by rw [← HM.out];exact hlj))
            have HPJ:=Aside0.mk (show (PRE ++ (conjO x).take j).length≤5 * 4096 + 5 by
              have h2:=HPL.out
              have h3:=conjO_len x
              rw [List.length_append,List.length_take]
              omega)
            have y6:=(HI.out.keep gO (blk_lt Y6.out) (Nat.le_refl _)).trans Y6.out
            have a0 : wr.cell? ⟨gO,0,none⟩=some (.int .i64 x.f0):=by rw [blk_cell y6];rfl
            have a1 : wr.cell? ⟨gO,1,none⟩=some (.int .i64 x.f1):=by rw [blk_cell y6];rfl
            have a2 : wr.cell? ⟨gO,2,none⟩=some (.slice A2 x.f2.length cc2):=by rw [blk_cell y6];rfl
            have a3 : wr.cell? ⟨gO,3,none⟩=some (.int .i64 x.f3):=by rw [blk_cell y6];rfl
            have a4 : wr.cell? ⟨gO,4,none⟩=some (.int .i64 x.f4):=by rw [blk_cell y6];rfl
            have a5 : wr.cell? ⟨gO,5,none⟩=some (.int .i64 x.f5):=by rw [blk_cell y6];rfl
            obtain ⟨KK,hK⟩ : ∃ KK,KK=(rcK x).getD j 0:=⟨_,rfl⟩
            have kc : wr.cell? ⟨g5,j,none⟩=some (.int .i64 KK):=by
              rw [hK,← HC5.out j (by rw [← HM.out];exact hlj)]
              exact World.cell?_of_block (HI.out.keep g5 HG5.out.2 HG5.out.1)
            have HK:=Aside0.mk (show (rcAt x j).f1=KK by rw [hK];exact HKK.out)
            have HKR:=Aside0.mk hK
            clear hK
            go_upto_region 15 with fail
            have bb:=below_alloc (Below.refl wr.heap.size wr) (.cells #[.int .i64 x.f0,.int .i64 x.f1,.slice A2 x.f2.length cc2,.int .i64 x.f3,.int .i64 x.f4,.int .i64 x.f5] 46)
            have y9:=blk_new wr (.cells #[.int .i64 x.f0,.int .i64 x.f1,.slice A2 x.f2.length cc2,.int .i64 x.f3,.int .i64 x.f4,.int .i64 x.f5] 46)
            have y6b:=blk_below y6 bb
            have kcb:=below_cell bb kc
            obtain ⟨g9,hg9⟩ : ∃ g,g=wr.heap.size:=⟨_,rfl⟩
            have HG9:=Aside0.mk (show gO < g9 by have:=blk_lt y6;omega)
            have HIB:=Aside0.mk (show ∀ W',Below wr.heap.size wr W'→InL w.heap.size g2 Wl wc gO g4 q b (PRE ++ (conjO x).take j) (.slice Aw nw cw) W' from fun W' h => HI.out.below h)
            have BW:=Aside0.mk bb
            have HG9E:=Aside0.mk (show wr.heap.size≤g9 from Nat.le_of_eq hg9.symm)
            rw [← hg9] at y9 ⊢
            clear hg9 a0 a1 a2 a3 a4 a5 kc y6 bb HI
            generalize wr.alloc _=wq at BW y9 y6b kcb ⊢
            have z1 : wq.cell? ⟨g9,1,none⟩=some (.int .i64 x.f1):=by rw [blk_cell y9];rfl
            have z1f:=blk_frozen y9 1
            go_upto_region 16 with fail
            have y9b:=blk_put y9 1 (.int .i64 KK) rfl
            have y6c:=blk_far (p:=⟨g9,1,none⟩) y6b (by have:=HG9.out;show gO≠g9;omega) (.int .i64 KK)
            have kcc : (wq.setCell ⟨g9,1,none⟩ (.int .i64 KK)).cell? ⟨g5,j,none⟩=some (.int .i64 KK):=cell_far (k:=g5) (by have:=HG5.out.2;have:=HG9E.out;have:=HIB.out wr (Below.refl _ _) |>.size;show g5≠g9;omega) kcb
            replace BW:=Aside0.mk (below_set BW.out HG9E.out : Below wr.heap.size wr (wq.setCell ⟨g9,1,none⟩ (.int .i64 KK)))
            clear z1 z1f y9 y6b kcb
            generalize World.setCell _ _ _=wy at BW y9b y6c kcc ⊢
            have HIY:=Aside0.mk (HIB.out wy BW.out)
            have HCI:=Aside0.mk (Kd.C_below HC0.out (HIY.out.lp.fr F.out).hb)
            have q2 : wy.cell? ⟨gO,2,none⟩=some (.slice A2 x.f2.length cc2):=by rw [blk_cell y6c];rfl
            have Y9:=Aside0.mk y9b
            have Y6C:=Aside0.mk y6c
            have HKC:=Aside0.mk kcc
            have HG9Y:=Aside0.mk (show g9 < wy.heap.size from blk_lt y9b)
            clear y9b y6c kcc
            go_upto_region 17 with (first|((with_reducible refine gate_dst (N:=49) rfl ?_);refine Kd.R_lit (Kd.int .i64) (w0:=wy) wy.heap.size 3 ?hg (N:=49) ?hd (xs:=([] : List Int)) (inner:=[]) (ok:=fun k => wy.heap.size≤k) (okp:=fun k => wy.heap.size≤k) ?hr ?hp (fun _ hk => hk) (Nat.le_refl _) (Below.refl _ _) (Nat.le_refl _) (by simp) ?_;(case hd => rfl);(case hg => rfl);(case hr => first|(go_simp;done)|(go_simp;rfl));(case hp => exact (Reps.none _ _));intro v1 x1 hn1 hb1 hg1 ha1;have o2 : x1.cell? ⟨gO,2,none⟩=some (.slice A2 x.f2.length cc2):=below_cell hb1 q2;clear hg1 ha1)|((with_reducible refine gate_builtin (b:=.append) (xs:=#[.tmp 49,.tmp 51]) rfl ?_);at_builtin;refine Kd.R_append_rows (Kd.int .i64) (w0:=wy) wy.heap.size rfl (.tmp 49) (.tmp 51) 37 3 (.int .i64 0) 8 rfl Try.underlying37 info3 rfl (by decide) (by omega) v1 [] x.f2 A2 x.f2.length cc2 (fun k => wy.heap.size≤k) (fun _ => False) rfl rfl hn1 (Kd.C_below HCI.out hb1) (fun _ _ h => h) (fun _ h => h.elim) (fun k hk => Nat.le_trans hb1.size hk) hb1 hb1.size (by have:=HQX.out;simp only [List.length_nil];omega) ?_;intro v3 x3 hn3 hb3 hg3 ha3;(obtain ⟨Aq,nq,cq,hv3⟩ : ∃ A n c,v3=.slice A n c:=(Kd.R_slice hn3).elim fun A h => h.elim fun c e => ⟨A,_,c,e⟩);subst hv3;have y3:=blk_below Y9.out hb3;have t2 : x3.cell? ⟨g9,2,none⟩=some (.slice A2 x.f2.length cc2):=(by rw [blk_cell y3];rfl);have t2f:=blk_frozen y3 2;clear hg3 ha3 o2))
            have hn3' : Kd.R (Kd.int .i64) 3 x3 wy.heap.size (fun k => wy.heap.size≤k) (.slice Aq nq cq) x.f2:=hn3
            have hnq : nq=x.f2.length:=(Kd.R_reads' hn3').1
            have HR2:=Aside0.mk (show Kd.R (Kd.int .i64) 3 (x3.setCell ⟨g9,2,none⟩ (.slice Aq nq cq)) wy.heap.size (fun k => wy.heap.size≤k) (.slice Aq nq cq) x.f2 from Kd.R_step hn3' (fun k hk _ => Below.heap_setCell _ _ _ _ (by have:=HG9Y.out;show k≠g9;omega)))
            have yz:=blk_put y3 2 (.slice Aq nq cq) rfl
            have BZ:=Aside0.mk (below_set (below_step BW.out hb3) HG9E.out : Below wr.heap.size wr (x3.setCell ⟨g9,2,none⟩ (.slice Aq nq cq)))
            have y6d:=blk_far (p:=⟨g9,2,none⟩) (blk_below Y6C.out hb3) (by have:=HG9.out;show gO≠g9;omega) (.slice Aq nq cq)
            have kcd : (x3.setCell ⟨g9,2,none⟩ (.slice Aq nq cq)).cell? ⟨g5,j,none⟩=some (.int .i64 KK):=cell_far (k:=g5) (by have:=HG5.out.2;have:=HG9E.out;have:=HIB.out wr (Below.refl _ _) |>.size;show g5≠g9;omega) (below_cell hb3 HKC.out)
            have HNQ:=Aside0.mk hnq
            clear q2 hn1 hb1 hn3 hn3' hb3 y3 t2 t2f hnq
            generalize World.setCell _ _ _=wt at yz BZ HR2 y6d kcd ⊢
            have a0 : wt.cell? ⟨gO,0,none⟩=some (.int .i64 x.f0):=by rw [blk_cell y6d];rfl
            have b1 : (x.f0 == 1)=true:=B1.out
            obtain ⟨gq,capq,hvq,-⟩:=Kd.R_form HR2.out HGX.out.2.2.2
            injection hvq with hq1 hq2 hq3
            subst hq1 hq2 hq3
            have hcapq : x.f2.length≤cq:=(Kd.R_reads' HR2.out).2.1
            have hposq : 0 < x.f2.length:=HGX.out.2.2.2
            obtain ⟨hk1,hk2,har⟩:=rc_arity HGX.out.1 HGX.out.2.1 hlj
            have hke : (conjF x.f1).getD j 0=KK:=by rw [HKR.out,HK0.out]
            rw [hke] at hk1 hk2 har
            clear hke
            by_cases hj : j=0
            · rw [if_pos hj,← HGX.out.2.2.1] at har
              have hft : (conjAt x j).f2=x.f2.take x.f2.length:=by unfold conjAt;rw [if_pos hj,List.take_length]
              have hftl : (x.f2.take x.f2.length).length=x.f2.length:=by rw [List.take_length]
              have hmle : x.f2.length≤x.f2.length:=Nat.le_refl _
              have HAR:=Aside0.mk (show ∀ W : World,Calls Try.prog 53 #[.int .i64 KK] W fun e w' => e=.returned (.int .i64 (x.f2.length : Int))∧Below W.heap.size W w' from fun W => by
                have h:=Lift.rarity_any KK (wf_small hk1 hk2) W
                rw [har] at h
                exact h)
              clear har hk1 hk2 hj
              go_upto_region 18 with fail
              have t2 : wt.drew.cell? ⟨g9,2,none⟩=some (.slice (some ⟨gq,0,none⟩) x.f2.length cq):=by rw [blk_cell (blk_drew yz)];rfl
              have k5 : wt.drew.cell? ⟨g5,j,none⟩=some (.int .i64 KK):=below_cell (below_drew (Below.refl _ _)) kcd
              have YZ:=Aside0.mk (blk_drew yz)
              replace BZ:=Aside0.mk (below_drew BZ.out)
              replace HR2:=Aside0.mk (Kd.R_step HR2.out (w1:=wt.drew) (fun _ _ _ => rfl))
              clear yz kcd y6d a0 b1
              refine start_ (n:=10) (S:=fun w' => w'.cell? ⟨g9,2,none⟩=some (.slice (some ⟨gq,0,none⟩) x.f2.length cq)∧w'.cell? ⟨g5,j,none⟩=some (.int .i64 KK)) (ds:=[9]) #[false,false,false,false,false,false,false,false,false,false] (by kernel_rfl) rfl rfl ⟨t2,k5⟩ (fun hHeld => ?_)
              generalize wt.drew=wd at t2 k5 YZ BZ HR2 hHeld ⊢
              refine pure_ (i:=0) (N:=some 57) (v:=?_) (a':=?_) #[true,false,false,false,false,false,false,false,false,false] rfl rfl (by kernel_rfl) (fun _ _ _ h => h) (Or.inl ⟨by rfl,?_⟩) ?_ ?_
              rotate_left
              · intro w'
                go_simp
                with_reducible rfl
              rotate_left
              · simp only [Act.put,List.setIfInBounds_toArray,List.set_cons_zero,List.set_cons_succ]
                rfl
              refine pure_ (i:=2) (N:=some 59) (v:=?_) (a':=?_) #[true,false,true,false,false,false,false,false,false,false] rfl rfl (by kernel_rfl) (fun _ _ _ h => h) (Or.inl ⟨by rfl,?_⟩) ?_ ?_
              rotate_left
              · intro w'
                go_simp
                with_reducible rfl
              rotate_left
              · simp only [Act.put,List.setIfInBounds_toArray,List.set_cons_zero,List.set_cons_succ]
                rfl
              refine pure_ (i:=3) (N:=some 60) (v:=?_) (a':=?_) #[true,false,true,true,false,false,false,false,false,false] rfl rfl (by kernel_rfl) (fun _ _ _ h => h) (Or.inl ⟨by rfl,?_⟩) ?_ ?_
              rotate_left
              · intro w'
                go_simp
                with_reducible rfl
              rotate_left
              · simp only [Act.put,List.setIfInBounds_toArray,List.set_cons_zero,List.set_cons_succ]
                rfl
              refine pure_ (i:=4) (N:=some 61) (v:=?_) (a':=?_) #[true,false,true,true,true,false,false,false,false,false] rfl rfl (by kernel_rfl) (fun _ _ _ h => h) (Or.inl ⟨by rfl,?_⟩) ?_ ?_
              rotate_left
              · intro w'
                go_simp
                with_reducible rfl
              rotate_left
              · simp only [Act.put,List.setIfInBounds_toArray,List.set_cons_zero,List.set_cons_succ]
                rfl
              refine take_ (i:=1) (N:=some 58) (v:=?_) (a':=?_) #[true,true,true,true,true,false,false,false,false,false] rfl rfl (by kernel_rfl) (fun _ _ _ h => h) (Or.inl ⟨by rfl,?_⟩) hHeld ?_ ?_
              rotate_left
              · rintro w' ⟨s0,s1⟩
                go_simp
                with_reducible rfl
              rotate_left
              · simp only [Act.put,List.setIfInBounds_toArray,List.set_cons_zero,List.set_cons_succ]
                rfl
              refine take_ (i:=5) (N:=some 62) (v:=?_) (a':=?_) #[true,true,true,true,true,true,false,false,false,false] rfl rfl (by kernel_rfl) (fun _ _ _ h => h) (Or.inl ⟨by rfl,?_⟩) hHeld ?_ ?_
              rotate_left
              · rintro w' ⟨s0,s1⟩
                go_simp
                with_reducible rfl
              rotate_left
              · simp only [Act.put,List.setIfInBounds_toArray,List.set_cons_zero,List.set_cons_succ]
                rfl
              refine one_ (i:=6) (N:=some 63) #[true,true,true,true,true,true,true,false,false,false] rfl rfl (by kernel_rfl) (by decide) (fun K hK => ?_)
              refine goes_ Try.func53 (by kernel_rfl) rfl #[.int .i64 KK] (by rfl) rfl rfl (by simp only [List.map_toArray,List.map_cons,List.map_nil];rfl) ?_
              with_reducible refine (HAR.out wd).mono ?_
              rintro e x1 ⟨rfl,hb1⟩
              refine ⟨_,rfl,?_⟩
              have u2:=below_cell hb1 t2
              have u2f:=blk_frozen (blk_below YZ.out hb1) 2
              have u5:=below_cell hb1 k5
              refine hK.out _ _ ⟨u2,u5⟩ (fun hHeld => ?_)
              clear hK K
              refine norm_ (a':=?_) ?_ ?_
              rotate_left
              · show Act.put _ (some 63) _=_
                simp only [Act.put,List.setIfInBounds_toArray,List.set_cons_zero,List.set_cons_succ]
                rfl
              refine pure_ (i:=7) (N:=some 64) (v:=?_) (a':=?_) #[true,true,true,true,true,true,true,true,false,false] rfl rfl (by kernel_rfl) (fun _ _ _ h => h) (Or.inl ⟨by rfl,?_⟩) ?_ ?_
              rotate_left
              · intro w'
                go_simp
                with_reducible rfl
              rotate_left
              · simp only [Act.put,List.setIfInBounds_toArray,List.set_cons_zero,List.set_cons_succ]
                rfl
              refine pure_ (i:=8) (N:=some 65) (v:=?_) (a':=?_) #[true,true,true,true,true,true,true,true,true,false] rfl rfl (by kernel_rfl) (fun _ _ _ h => h) (Or.inl ⟨by rfl,?_⟩) ?_ ?_
              rotate_left
              · intro w'
                go_simp
                with_reducible rfl
              rotate_left
              · simp only [Act.put,List.setIfInBounds_toArray,List.set_cons_zero,List.set_cons_succ]
                rfl
              refine last_ (i:=9) (N:=none) #[true,true,true,true,true,true,true,true,true,true] rfl rfl (by kernel_rfl) (by decide) (fun K hK => ?_)
              refine skip_ (w1:=?_) (by rfl) rfl ?_ ?_
              rotate_left
              · go_simp
                rfl
              refine hK.out _ _ ?_
              clear hK K
              refine done_ (by kernel_rfl) ?_
              have yz:=blk_put (blk_below YZ.out hb1) 2 (.slice (some ⟨gq,0,none⟩) x.f2.length cq) rfl
              have BZ2:=Aside0.mk (below_set (below_step BZ.out hb1) HG9E.out : Below wr.heap.size wr (x1.setCell ⟨g9,2,none⟩ (.slice (some ⟨gq,0,none⟩) x.f2.length cq)))
              have HR3:=Aside0.mk (show Kd.R (Kd.int .i64) 3 (x1.setCell ⟨g9,2,none⟩ (.slice (some ⟨gq,0,none⟩) x.f2.length cq)) wy.heap.size (fun k => wy.heap.size≤k) (.slice (some ⟨gq,0,none⟩) x.f2.length cq) x.f2 from
                Kd.R_step HR2.out (fun k hk hlt => (Below.heap_setCell _ _ _ _ (by have:=HG9Y.out;show k≠g9;omega)).trans (hb1.block k hlt)))
              clear t2 k5 u2 u2f u5 hHeld hb1 HR2 BZ YZ
              generalize World.setCell _ _ _=wz at yz BZ2 HR3 ⊢
              have HFZ:=Aside0.mk (show Kd.FK k46w wz (fun k => wy.heap.size≤k) (rcAt x j) [.int .i64 x.f0,.int .i64 KK,.slice (some ⟨gq,0,none⟩) x.f2.length cq,.int .i64 x.f3,.int .i64 x.f4,.int .i64 x.f5] by
                have e : rcAt x j=conjAt x j:=HA0.out j
                have hk : (conjAt x j).f1=KK:=by rw [← HK.out,e]
                have h:=FK_ints HR3.out (x:=conjAt x j) (m:=x.f2.length) hmle hft
                unfold ofV OpV.cs at h
                dsimp only at h
                rw [hft,hftl,hk] at h
                rw [e]
                exact h)
              have HIZ:=Aside0.mk (HIB.out wz BZ2.out)
              clear hft hftl hmle hcapq hposq
              (try clear h64q h1cq h1ci)
              have z0 : wz.cell? ⟨g9,0,none⟩=some (.int .i64 x.f0):=by rw [blk_cell yz];rfl
              have z1 : wz.cell? ⟨g9,1,none⟩=some (.int .i64 KK):=by rw [blk_cell yz];rfl
              have z2 : wz.cell? ⟨g9,2,none⟩=some (.slice (some ⟨gq,0,none⟩) x.f2.length cq):=by rw [blk_cell yz];rfl
              have z3 : wz.cell? ⟨g9,3,none⟩=some (.int .i64 x.f3):=by rw [blk_cell yz];rfl
              have z4 : wz.cell? ⟨g9,4,none⟩=some (.int .i64 x.f4):=by rw [blk_cell yz];rfl
              have z5 : wz.cell? ⟨g9,5,none⟩=some (.int .i64 x.f5):=by rw [blk_cell yz];rfl
              have b2 : wz.cell? ⟨g4,2,none⟩=some (.slice Aw nw cw):=HIZ.out.lp.cells.2.2.1
              clear yz
              go_wp2_with ((with_reducible refine gate_builtin (b:=.append) (xs:=#[.tmp 67,.tmp 69]) rfl ?_);at_builtin;refine Kd.N_append k46w (w0:=wz) Wl.heap.size rfl (.tmp 67) (.tmp 69) 22 46 (.agg #[.int .i64 0,.int .i64 0,.slice none 0 0,.int .i64 0,.int .i64 0,.int .i64 0]) 64 rfl Try.underlying22 info46 rfl (by decide) (by omega) (.slice Aw nw cw) (PRE ++ (conjO x).take j) (rcAt x j) _ (fun k => w.heap.size≤k∧k≠g4∧k≠g2) (fun k => wy.heap.size≤k) rfl rfl HFZ.out (fun k hk => ⟨HIY.out.lp.fresh k hk,fun e => by have h1:=Kd.N_lt HIY.out.lp.row k e.symm;omega⟩) (fun k hk => HIZ.out.lp.fresh k hk) HIZ.out.lp.row (Below.refl _ _) HIZ.out.lp.size (by have:=HPJ.out;omega) ?_;intro v1 w1 hn1 hb1 hg1 ha1;rw [List.append_assoc,HTK.out] at hn1;(obtain ⟨An,nn,cn,hvn⟩ : ∃ A n c,v1=.slice A n c:=(Kd.N_slice hn1).elim fun A h => h.elim fun c e => ⟨A,_,c,e⟩);subst hvn;have HI1:=Aside0.mk (HIZ.out.app hn1 hb1 hg1 ha1);have yb:=(hb1.block g4 HIZ.out.lp.lt).trans HIZ.out.lp.bx;have s2 : w1.cell? ⟨g4,2,none⟩=some (.slice Aw nw cw):=(by rw [blk_cell yb];rfl);have s2f:=blk_frozen yb 2;clear hn1 hb1 hg1 ha1 yb)
              go_roundg ((conjF x.f1).length - (j + 1))
              case measure => omega
              case rel =>
                have e : wrap64 ((j : Int) + 1)=((j + 1 : Nat) : Int):=by rw [w64 (by omega) (by omega)];rfl
                exact ⟨j + 1,Nat.succ_le_of_lt hlj,Nat.le_refl _,by first|go_num|(rw [e];done)|(rw [← e];done)|exact congrArg (Value.int .i64) e,_,HI1⟩
            · rw [if_neg hj] at har
              have hft : (conjAt x j).f2=x.f2.take 1:=by unfold conjAt;rw [if_neg hj]
              have hftl : (x.f2.take 1).length=1:=by rw [List.length_take];omega
              have hmle : 1≤x.f2.length:=hposq
              have h64q : x.f2.length≤64:=HQX.out
              have h1cq : 1≤cq:=by omega
              have h1ci : (1 : Int)≤(cq : Int):=by omega
              have HAR:=Aside0.mk (show ∀ W : World,Calls Try.prog 53 #[.int .i64 KK] W fun e w' => e=.returned (.int .i64 1)∧Below W.heap.size W w' from fun W => by
                have h:=Lift.rarity_any KK (wf_small hk1 hk2) W
                rw [har] at h
                exact h)
              clear har hk1 hk2 hj
              go_upto_region 18 with fail
              have t2 : wt.drew.cell? ⟨g9,2,none⟩=some (.slice (some ⟨gq,0,none⟩) x.f2.length cq):=by rw [blk_cell (blk_drew yz)];rfl
              have k5 : wt.drew.cell? ⟨g5,j,none⟩=some (.int .i64 KK):=below_cell (below_drew (Below.refl _ _)) kcd
              have YZ:=Aside0.mk (blk_drew yz)
              replace BZ:=Aside0.mk (below_drew BZ.out)
              replace HR2:=Aside0.mk (Kd.R_step HR2.out (w1:=wt.drew) (fun _ _ _ => rfl))
              clear yz kcd y6d a0 b1
              refine start_ (n:=10) (S:=fun w' => w'.cell? ⟨g9,2,none⟩=some (.slice (some ⟨gq,0,none⟩) x.f2.length cq)∧w'.cell? ⟨g5,j,none⟩=some (.int .i64 KK)) (ds:=[9]) #[false,false,false,false,false,false,false,false,false,false] (by kernel_rfl) rfl rfl ⟨t2,k5⟩ (fun hHeld => ?_)
              generalize wt.drew=wd at t2 k5 YZ BZ HR2 hHeld ⊢
              refine pure_ (i:=0) (N:=some 57) (v:=?_) (a':=?_) #[true,false,false,false,false,false,false,false,false,false] rfl rfl (by kernel_rfl) (fun _ _ _ h => h) (Or.inl ⟨by rfl,?_⟩) ?_ ?_
              rotate_left
              · intro w'
                go_simp
                with_reducible rfl
              rotate_left
              · simp only [Act.put,List.setIfInBounds_toArray,List.set_cons_zero,List.set_cons_succ]
                rfl
              refine pure_ (i:=2) (N:=some 59) (v:=?_) (a':=?_) #[true,false,true,false,false,false,false,false,false,false] rfl rfl (by kernel_rfl) (fun _ _ _ h => h) (Or.inl ⟨by rfl,?_⟩) ?_ ?_
              rotate_left
              · intro w'
                go_simp
                with_reducible rfl
              rotate_left
              · simp only [Act.put,List.setIfInBounds_toArray,List.set_cons_zero,List.set_cons_succ]
                rfl
              refine pure_ (i:=3) (N:=some 60) (v:=?_) (a':=?_) #[true,false,true,true,false,false,false,false,false,false] rfl rfl (by kernel_rfl) (fun _ _ _ h => h) (Or.inl ⟨by rfl,?_⟩) ?_ ?_
              rotate_left
              · intro w'
                go_simp
                with_reducible rfl
              rotate_left
              · simp only [Act.put,List.setIfInBounds_toArray,List.set_cons_zero,List.set_cons_succ]
                rfl
              refine pure_ (i:=4) (N:=some 61) (v:=?_) (a':=?_) #[true,false,true,true,true,false,false,false,false,false] rfl rfl (by kernel_rfl) (fun _ _ _ h => h) (Or.inl ⟨by rfl,?_⟩) ?_ ?_
              rotate_left
              · intro w'
                go_simp
                with_reducible rfl
              rotate_left
              · simp only [Act.put,List.setIfInBounds_toArray,List.set_cons_zero,List.set_cons_succ]
                rfl
              refine take_ (i:=1) (N:=some 58) (v:=?_) (a':=?_) #[true,true,true,true,true,false,false,false,false,false] rfl rfl (by kernel_rfl) (fun _ _ _ h => h) (Or.inl ⟨by rfl,?_⟩) hHeld ?_ ?_
              rotate_left
              · rintro w' ⟨s0,s1⟩
                go_simp
                with_reducible rfl
              rotate_left
              · simp only [Act.put,List.setIfInBounds_toArray,List.set_cons_zero,List.set_cons_succ]
                rfl
              refine take_ (i:=5) (N:=some 62) (v:=?_) (a':=?_) #[true,true,true,true,true,true,false,false,false,false] rfl rfl (by kernel_rfl) (fun _ _ _ h => h) (Or.inl ⟨by rfl,?_⟩) hHeld ?_ ?_
              rotate_left
              · rintro w' ⟨s0,s1⟩
                go_simp
                with_reducible rfl
              rotate_left
              · simp only [Act.put,List.setIfInBounds_toArray,List.set_cons_zero,List.set_cons_succ]
                rfl
              refine one_ (i:=6) (N:=some 63) #[true,true,true,true,true,true,true,false,false,false] rfl rfl (by kernel_rfl) (by decide) (fun K hK => ?_)
              refine goes_ Try.func53 (by kernel_rfl) rfl #[.int .i64 KK] (by rfl) rfl rfl (by simp only [List.map_toArray,List.map_cons,List.map_nil];rfl) ?_
              with_reducible refine (HAR.out wd).mono ?_
              rintro e x1 ⟨rfl,hb1⟩
              refine ⟨_,rfl,?_⟩
              have u2:=below_cell hb1 t2
              have u2f:=blk_frozen (blk_below YZ.out hb1) 2
              have u5:=below_cell hb1 k5
              refine hK.out _ _ ⟨u2,u5⟩ (fun hHeld => ?_)
              clear hK K
              refine norm_ (a':=?_) ?_ ?_
              rotate_left
              · show Act.put _ (some 63) _=_
                simp only [Act.put,List.setIfInBounds_toArray,List.set_cons_zero,List.set_cons_succ]
                rfl
              refine pure_ (i:=7) (N:=some 64) (v:=?_) (a':=?_) #[true,true,true,true,true,true,true,true,false,false] rfl rfl (by kernel_rfl) (fun _ _ _ h => h) (Or.inl ⟨by rfl,?_⟩) ?_ ?_
              rotate_left
              · intro w'
                go_simp
                with_reducible rfl
              rotate_left
              · simp only [Act.put,List.setIfInBounds_toArray,List.set_cons_zero,List.set_cons_succ]
                rfl
              refine pure_ (i:=8) (N:=some 65) (v:=?_) (a':=?_) #[true,true,true,true,true,true,true,true,true,false] rfl rfl (by kernel_rfl) (fun _ _ _ h => h) (Or.inl ⟨by rfl,?_⟩) ?_ ?_
              rotate_left
              · intro w'
                go_simp
                with_reducible rfl
              rotate_left
              · simp only [Act.put,List.setIfInBounds_toArray,List.set_cons_zero,List.set_cons_succ]
                rfl
              refine last_ (i:=9) (N:=none) #[true,true,true,true,true,true,true,true,true,true] rfl rfl (by kernel_rfl) (by decide) (fun K hK => ?_)
              refine skip_ (w1:=?_) (by rfl) rfl ?_ ?_
              rotate_left
              · go_simp
                rfl
              refine hK.out _ _ ?_
              clear hK K
              refine done_ (by kernel_rfl) ?_
              have yz:=blk_put (blk_below YZ.out hb1) 2 (.slice (some ⟨gq,0,none⟩) 1 cq) rfl
              have BZ2:=Aside0.mk (below_set (below_step BZ.out hb1) HG9E.out : Below wr.heap.size wr (x1.setCell ⟨g9,2,none⟩ (.slice (some ⟨gq,0,none⟩) 1 cq)))
              have HR3:=Aside0.mk (show Kd.R (Kd.int .i64) 3 (x1.setCell ⟨g9,2,none⟩ (.slice (some ⟨gq,0,none⟩) 1 cq)) wy.heap.size (fun k => wy.heap.size≤k) (.slice (some ⟨gq,0,none⟩) x.f2.length cq) x.f2 from
                Kd.R_step HR2.out (fun k hk hlt => (Below.heap_setCell _ _ _ _ (by have:=HG9Y.out;show k≠g9;omega)).trans (hb1.block k hlt)))
              clear t2 k5 u2 u2f u5 hHeld hb1 HR2 BZ YZ
              generalize World.setCell _ _ _=wz at yz BZ2 HR3 ⊢
              have HFZ:=Aside0.mk (show Kd.FK k46w wz (fun k => wy.heap.size≤k) (rcAt x j) [.int .i64 x.f0,.int .i64 KK,.slice (some ⟨gq,0,none⟩) 1 cq,.int .i64 x.f3,.int .i64 x.f4,.int .i64 x.f5] by
                have e : rcAt x j=conjAt x j:=HA0.out j
                have hk : (conjAt x j).f1=KK:=by rw [← HK.out,e]
                have h:=FK_ints HR3.out (x:=conjAt x j) (m:=1) hmle hft
                unfold ofV OpV.cs at h
                dsimp only at h
                rw [hft,hftl,hk] at h
                rw [e]
                exact h)
              have HIZ:=Aside0.mk (HIB.out wz BZ2.out)
              clear hft hftl hmle hcapq hposq
              (try clear h64q h1cq h1ci)
              have z0 : wz.cell? ⟨g9,0,none⟩=some (.int .i64 x.f0):=by rw [blk_cell yz];rfl
              have z1 : wz.cell? ⟨g9,1,none⟩=some (.int .i64 KK):=by rw [blk_cell yz];rfl
              have z2 : wz.cell? ⟨g9,2,none⟩=some (.slice (some ⟨gq,0,none⟩) 1 cq):=by rw [blk_cell yz];rfl
              have z3 : wz.cell? ⟨g9,3,none⟩=some (.int .i64 x.f3):=by rw [blk_cell yz];rfl
              have z4 : wz.cell? ⟨g9,4,none⟩=some (.int .i64 x.f4):=by rw [blk_cell yz];rfl
              have z5 : wz.cell? ⟨g9,5,none⟩=some (.int .i64 x.f5):=by rw [blk_cell yz];rfl
              have b2 : wz.cell? ⟨g4,2,none⟩=some (.slice Aw nw cw):=HIZ.out.lp.cells.2.2.1
              clear yz
              go_wp2_with ((with_reducible refine gate_builtin (b:=.append) (xs:=#[.tmp 67,.tmp 69]) rfl ?_);at_builtin;refine Kd.N_append k46w (w0:=wz) Wl.heap.size rfl (.tmp 67) (.tmp 69) 22 46 (.agg #[.int .i64 0,.int .i64 0,.slice none 0 0,.int .i64 0,.int .i64 0,.int .i64 0]) 64 rfl Try.underlying22 info46 rfl (by decide) (by omega) (.slice Aw nw cw) (PRE ++ (conjO x).take j) (rcAt x j) _ (fun k => w.heap.size≤k∧k≠g4∧k≠g2) (fun k => wy.heap.size≤k) rfl rfl HFZ.out (fun k hk => ⟨HIY.out.lp.fresh k hk,fun e => by have h1:=Kd.N_lt HIY.out.lp.row k e.symm;omega⟩) (fun k hk => HIZ.out.lp.fresh k hk) HIZ.out.lp.row (Below.refl _ _) HIZ.out.lp.size (by have:=HPJ.out;omega) ?_;intro v1 w1 hn1 hb1 hg1 ha1;rw [List.append_assoc,HTK.out] at hn1;(obtain ⟨An,nn,cn,hvn⟩ : ∃ A n c,v1=.slice A n c:=(Kd.N_slice hn1).elim fun A h => h.elim fun c e => ⟨A,_,c,e⟩);subst hvn;have HI1:=Aside0.mk (HIZ.out.app hn1 hb1 hg1 ha1);have yb:=(hb1.block g4 HIZ.out.lp.lt).trans HIZ.out.lp.bx;have s2 : w1.cell? ⟨g4,2,none⟩=some (.slice Aw nw cw):=(by rw [blk_cell yb];rfl);have s2f:=blk_frozen yb 2;clear hn1 hb1 hg1 ha1 yb)
              go_roundg ((conjF x.f1).length - (j + 1))
              case measure => omega
              case rel =>
                have e : wrap64 ((j : Int) + 1)=((j + 1 : Nat) : Int):=by rw [w64 (by omega) (by omega)];rfl
                exact ⟨j + 1,Nat.succ_le_of_lt hlj,Nat.le_refl _,by first|go_num|(rw [e];done)|(rw [← e];done)|exact congrArg (Value.int .i64) e,_,HI1⟩
          · obtain rfl : j=(conjF x.f1).length:=by omega
            have hI:=HI.out.lp
            have HN1:=Aside0.mk (show Lp w.heap.size g2 Wl g4 q b ((l.take (i + 1)).flatMap conjO) (.slice Aw nw cw) wr by
              have h : Lp w.heap.size g2 Wl g4 q b (PRE ++ (conjO x).take (rcK x).length) (.slice Aw nw cw) wr:=by rw [← HM.out];exact hI
              rw [rc_all,HST.out] at h
              exact h)
            clear hI
            go_wp2
            go_roundg (l.length - (i + 1))
            case measure => omega
            case rel =>
              have e : wrap64 ((i : Int) + 1)=((i + 1 : Nat) : Int):=by rw [w64 (by omega) (by omega)];rfl
              exact ⟨i + 1,by omega,by omega,by first|go_num|(rw [e];done)|(rw [← e];done)|exact congrArg (Value.int .i64) e,_,HN1⟩
      · have B1:=Aside0.mk (beq_eq_false_iff_ne.2 h1 : (x.f0 == 1)=false)
        have b1:=B1.out
        have HK0:=Aside0.mk (show rcK x=[x.f1] by unfold rcK;rw [if_neg h1])
        have HA0:=Aside0.mk (show ∀ j,rcAt x j=x from fun j => by unfold rcAt;rw [if_neg h1])
        clear h1
        go_upto_region 11 with fail
        have bb8:=below_alloc (Below.refl wa.heap.size wa) (.cells #[.int .i64 x.f1] 44)
        have y5:=blk_new wa (.cells #[.int .i64 x.f1] 44)
        replace y6:=blk_below y6 bb8
        replace HI:=Aside0.mk (HI.out.below bb8)
        clear a0 a1 bb8 b1
        generalize wa.heap.size=g5 at y5 hwa ⊢
        generalize wa.alloc _=wc at y5 y6 HI ⊢
        have hm : 1=(rcK x).length:=by rw [HK0.out];rfl
        have hc5 : ∀ j,j < (rcK x).length→wc.cell? ⟨g5,j,none⟩=some (.int .i64 ((rcK x).getD j 0)):=fun j hj => by
          rw [HK0.out] at hj ⊢
          exact ints_cell (xs:=[x.f1]) y5 j hj
        have hg5 : gO≤g5∧g5 < wc.heap.size:=⟨Nat.le_of_lt hwa,blk_lt y5⟩
        have hIC : InL w.heap.size g2 Wl wc gO g4 q b (PRE ++ (conjO x).take 0) (.slice Av nv cv) wc:=⟨by rw [List.take_zero,List.append_nil];exact HI.out,fun _ _ _ => rfl,fun k hk => .inl (HLT.out k hk),Nat.le_refl _,HGO.out⟩
        clear y5 hwa HI
        have HM:=Aside0.mk hm
        clear hm
        have HIC:=Aside0.mk hIC
        have HC5:=Aside0.mk hc5
        have HG5:=Aside0.mk hg5
        have Y6:=Aside0.mk y6
        clear hIC hc5 hg5 y6
        go_wp2_with fail
        go_loopg [8] 1 (fun gk2 v8 ws => ∃ j : Nat,j≤1∧1 - j≤gk2∧v8=.int .i64 (j : Int)∧∃ v,Aside0 (InL w.heap.size g2 Wl wc gO g4 q b (PRE ++ (conjO x).take j) v ws))
        case atStart => exact ⟨0,by omega,by omega,by go_num,_,HIC⟩
        case round =>
          obtain ⟨j,hj0,hj1,rfl,v,HI⟩:=hrel
          obtain ⟨Aw,nw,cw,hvw⟩:=HI.out.lp.form
          subst hvw
          have hl5 : 1≤5:=by rw [HM.out];exact (rc_len x).1
          by_cases hlj : j < 1
          · have HTK:=Aside0.mk (rc_take (x:=x) (j:=j) (by rw [← HM.out];exact hlj))
            have HKK:=Aside0.mk (rc_kind (x:=x) (j:=j) (by rw [← HM.out];exact hlj))
            have HPJ:=Aside0.mk (show (PRE ++ (conjO x).take j).length≤5 * 4096 + 5 by
              have h2:=HPL.out
              have h3:=conjO_len x
              rw [List.length_append,List.length_take]
              omega)
            have y6:=(HI.out.keep gO (blk_lt Y6.out) (Nat.le_refl _)).trans Y6.out
            have a0 : wr.cell? ⟨gO,0,none⟩=some (.int .i64 x.f0):=by rw [blk_cell y6];rfl
            have a1 : wr.cell? ⟨gO,1,none⟩=some (.int .i64 x.f1):=by rw [blk_cell y6];rfl
            have a2 : wr.cell? ⟨gO,2,none⟩=some (.slice A2 x.f2.length cc2):=by rw [blk_cell y6];rfl
            have a3 : wr.cell? ⟨gO,3,none⟩=some (.int .i64 x.f3):=by rw [blk_cell y6];rfl
            have a4 : wr.cell? ⟨gO,4,none⟩=some (.int .i64 x.f4):=by rw [blk_cell y6];rfl
            have a5 : wr.cell? ⟨gO,5,none⟩=some (.int .i64 x.f5):=by rw [blk_cell y6];rfl
            obtain ⟨KK,hK⟩ : ∃ KK,KK=(rcK x).getD j 0:=⟨_,rfl⟩
            have kc : wr.cell? ⟨g5,j,none⟩=some (.int .i64 KK):=by
              rw [hK,← HC5.out j (by rw [← HM.out];exact hlj)]
              exact World.cell?_of_block (HI.out.keep g5 HG5.out.2 HG5.out.1)
            have HK:=Aside0.mk (show (rcAt x j).f1=KK by rw [hK];exact HKK.out)
            have HKR:=Aside0.mk hK
            clear hK
            go_upto_region 15 with fail
            have bb:=below_alloc (Below.refl wr.heap.size wr) (.cells #[.int .i64 x.f0,.int .i64 x.f1,.slice A2 x.f2.length cc2,.int .i64 x.f3,.int .i64 x.f4,.int .i64 x.f5] 46)
            have y9:=blk_new wr (.cells #[.int .i64 x.f0,.int .i64 x.f1,.slice A2 x.f2.length cc2,.int .i64 x.f3,.int .i64 x.f4,.int .i64 x.f5] 46)
            have y6b:=blk_below y6 bb
            have kcb:=below_cell bb kc
            obtain ⟨g9,hg9⟩ : ∃ g,g=wr.heap.size:=⟨_,rfl⟩
            have HG9:=Aside0.mk (show gO < g9 by have:=blk_lt y6;omega)
            have HIB:=Aside0.mk (show ∀ W',Below wr.heap.size wr W'→InL w.heap.size g2 Wl wc gO g4 q b (PRE ++ (conjO x).take j) (.slice Aw nw cw) W' from fun W' h => HI.out.below h)
            have BW:=Aside0.mk bb
            have HG9E:=Aside0.mk (show wr.heap.size≤g9 from Nat.le_of_eq hg9.symm)
            rw [← hg9] at y9 ⊢
            clear hg9 a0 a1 a2 a3 a4 a5 kc y6 bb HI
            generalize wr.alloc _=wq at BW y9 y6b kcb ⊢
            have z1 : wq.cell? ⟨g9,1,none⟩=some (.int .i64 x.f1):=by rw [blk_cell y9];rfl
            have z1f:=blk_frozen y9 1
            go_upto_region 16 with fail
            have y9b:=blk_put y9 1 (.int .i64 KK) rfl
            have y6c:=blk_far (p:=⟨g9,1,none⟩) y6b (by have:=HG9.out;show gO≠g9;omega) (.int .i64 KK)
            have kcc : (wq.setCell ⟨g9,1,none⟩ (.int .i64 KK)).cell? ⟨g5,j,none⟩=some (.int .i64 KK):=cell_far (k:=g5) (by have:=HG5.out.2;have:=HG9E.out;have:=HIB.out wr (Below.refl _ _) |>.size;show g5≠g9;omega) kcb
            replace BW:=Aside0.mk (below_set BW.out HG9E.out : Below wr.heap.size wr (wq.setCell ⟨g9,1,none⟩ (.int .i64 KK)))
            clear z1 z1f y9 y6b kcb
            generalize World.setCell _ _ _=wy at BW y9b y6c kcc ⊢
            have HIY:=Aside0.mk (HIB.out wy BW.out)
            have HCI:=Aside0.mk (Kd.C_below HC0.out (HIY.out.lp.fr F.out).hb)
            have q2 : wy.cell? ⟨gO,2,none⟩=some (.slice A2 x.f2.length cc2):=by rw [blk_cell y6c];rfl
            have Y9:=Aside0.mk y9b
            have Y6C:=Aside0.mk y6c
            have HKC:=Aside0.mk kcc
            have HG9Y:=Aside0.mk (show g9 < wy.heap.size from blk_lt y9b)
            clear y9b y6c kcc
            go_upto_region 17 with (first|((with_reducible refine gate_dst (N:=49) rfl ?_);refine Kd.R_lit (Kd.int .i64) (w0:=wy) wy.heap.size 3 ?hg (N:=49) ?hd (xs:=([] : List Int)) (inner:=[]) (ok:=fun k => wy.heap.size≤k) (okp:=fun k => wy.heap.size≤k) ?hr ?hp (fun _ hk => hk) (Nat.le_refl _) (Below.refl _ _) (Nat.le_refl _) (by simp) ?_;(case hd => rfl);(case hg => rfl);(case hr => first|(go_simp;done)|(go_simp;rfl));(case hp => exact (Reps.none _ _));intro v1 x1 hn1 hb1 hg1 ha1;have o2 : x1.cell? ⟨gO,2,none⟩=some (.slice A2 x.f2.length cc2):=below_cell hb1 q2;clear hg1 ha1)|((with_reducible refine gate_builtin (b:=.append) (xs:=#[.tmp 49,.tmp 51]) rfl ?_);at_builtin;refine Kd.R_append_rows (Kd.int .i64) (w0:=wy) wy.heap.size rfl (.tmp 49) (.tmp 51) 37 3 (.int .i64 0) 8 rfl Try.underlying37 info3 rfl (by decide) (by omega) v1 [] x.f2 A2 x.f2.length cc2 (fun k => wy.heap.size≤k) (fun _ => False) rfl rfl hn1 (Kd.C_below HCI.out hb1) (fun _ _ h => h) (fun _ h => h.elim) (fun k hk => Nat.le_trans hb1.size hk) hb1 hb1.size (by have:=HQX.out;simp only [List.length_nil];omega) ?_;intro v3 x3 hn3 hb3 hg3 ha3;(obtain ⟨Aq,nq,cq,hv3⟩ : ∃ A n c,v3=.slice A n c:=(Kd.R_slice hn3).elim fun A h => h.elim fun c e => ⟨A,_,c,e⟩);subst hv3;have y3:=blk_below Y9.out hb3;have t2 : x3.cell? ⟨g9,2,none⟩=some (.slice A2 x.f2.length cc2):=(by rw [blk_cell y3];rfl);have t2f:=blk_frozen y3 2;clear hg3 ha3 o2))
            have hn3' : Kd.R (Kd.int .i64) 3 x3 wy.heap.size (fun k => wy.heap.size≤k) (.slice Aq nq cq) x.f2:=hn3
            have hnq : nq=x.f2.length:=(Kd.R_reads' hn3').1
            have HR2:=Aside0.mk (show Kd.R (Kd.int .i64) 3 (x3.setCell ⟨g9,2,none⟩ (.slice Aq nq cq)) wy.heap.size (fun k => wy.heap.size≤k) (.slice Aq nq cq) x.f2 from Kd.R_step hn3' (fun k hk _ => Below.heap_setCell _ _ _ _ (by have:=HG9Y.out;show k≠g9;omega)))
            have yz:=blk_put y3 2 (.slice Aq nq cq) rfl
            have BZ:=Aside0.mk (below_set (below_step BW.out hb3) HG9E.out : Below wr.heap.size wr (x3.setCell ⟨g9,2,none⟩ (.slice Aq nq cq)))
            have y6d:=blk_far (p:=⟨g9,2,none⟩) (blk_below Y6C.out hb3) (by have:=HG9.out;show gO≠g9;omega) (.slice Aq nq cq)
            have kcd : (x3.setCell ⟨g9,2,none⟩ (.slice Aq nq cq)).cell? ⟨g5,j,none⟩=some (.int .i64 KK):=cell_far (k:=g5) (by have:=HG5.out.2;have:=HG9E.out;have:=HIB.out wr (Below.refl _ _) |>.size;show g5≠g9;omega) (below_cell hb3 HKC.out)
            have HNQ:=Aside0.mk hnq
            clear q2 hn1 hb1 hn3 hn3' hb3 y3 t2 t2f hnq
            generalize World.setCell _ _ _=wt at yz BZ HR2 y6d kcd ⊢
            have a0 : wt.cell? ⟨gO,0,none⟩=some (.int .i64 x.f0):=by rw [blk_cell y6d];rfl
            have b1 : (x.f0 == 1)=false:=B1.out
            go_upto_region 19 with fail
            have HFZ:=Aside0.mk (show Kd.FK k46w wt (fun k => wy.heap.size≤k) (rcAt x j) [.int .i64 x.f0,.int .i64 KK,.slice Aq nq cq,.int .i64 x.f3,.int .i64 x.f4,.int .i64 x.f5] by
              have e : rcAt x j=x:=HA0.out j
              have hk : KK=x.f1:=by rw [← HK.out,e]
              have h:=FK_ints HR2.out (x:=x) (m:=x.f2.length) (Nat.le_refl _) (by rw [List.take_length])
              unfold ofV OpV.cs at h
              dsimp only at h
              rw [e,hk,HNQ.out]
              exact h)
            have HIZ:=Aside0.mk (HIB.out wt BZ.out)
            clear y6d kcd a0 b1 HR2
            generalize wt=wz at yz BZ HFZ HIZ ⊢
            have z0 : wz.cell? ⟨g9,0,none⟩=some (.int .i64 x.f0):=by rw [blk_cell yz];rfl
            have z1 : wz.cell? ⟨g9,1,none⟩=some (.int .i64 KK):=by rw [blk_cell yz];rfl
            have z2 : wz.cell? ⟨g9,2,none⟩=some (.slice Aq nq cq):=by rw [blk_cell yz];rfl
            have z3 : wz.cell? ⟨g9,3,none⟩=some (.int .i64 x.f3):=by rw [blk_cell yz];rfl
            have z4 : wz.cell? ⟨g9,4,none⟩=some (.int .i64 x.f4):=by rw [blk_cell yz];rfl
            have z5 : wz.cell? ⟨g9,5,none⟩=some (.int .i64 x.f5):=by rw [blk_cell yz];rfl
            have b2 : wz.cell? ⟨g4,2,none⟩=some (.slice Aw nw cw):=HIZ.out.lp.cells.2.2.1
            clear yz
            go_wp2_with ((with_reducible refine gate_builtin (b:=.append) (xs:=#[.tmp 67,.tmp 69]) rfl ?_);at_builtin;refine Kd.N_append k46w (w0:=wz) Wl.heap.size rfl (.tmp 67) (.tmp 69) 22 46 (.agg #[.int .i64 0,.int .i64 0,.slice none 0 0,.int .i64 0,.int .i64 0,.int .i64 0]) 64 rfl Try.underlying22 info46 rfl (by decide) (by omega) (.slice Aw nw cw) (PRE ++ (conjO x).take j) (rcAt x j) _ (fun k => w.heap.size≤k∧k≠g4∧k≠g2) (fun k => wy.heap.size≤k) rfl rfl HFZ.out (fun k hk => ⟨HIY.out.lp.fresh k hk,fun e => by have h1:=Kd.N_lt HIY.out.lp.row k e.symm;omega⟩) (fun k hk => HIZ.out.lp.fresh k hk) HIZ.out.lp.row (Below.refl _ _) HIZ.out.lp.size (by have:=HPJ.out;omega) ?_;intro v1 w1 hn1 hb1 hg1 ha1;rw [List.append_assoc,HTK.out] at hn1;(obtain ⟨An,nn,cn,hvn⟩ : ∃ A n c,v1=.slice A n c:=(Kd.N_slice hn1).elim fun A h => h.elim fun c e => ⟨A,_,c,e⟩);subst hvn;have HI1:=Aside0.mk (HIZ.out.app hn1 hb1 hg1 ha1);have yb:=(hb1.block g4 HIZ.out.lp.lt).trans HIZ.out.lp.bx;have s2 : w1.cell? ⟨g4,2,none⟩=some (.slice Aw nw cw):=(by rw [blk_cell yb];rfl);have s2f:=blk_frozen yb 2;clear hn1 hb1 hg1 ha1 yb)
            go_roundg (1 - (j + 1))
            case measure => omega
            case rel =>
              have e : wrap64 ((j : Int) + 1)=((j + 1 : Nat) : Int):=by rw [w64 (by omega) (by omega)];rfl
              exact ⟨j + 1,Nat.succ_le_of_lt hlj,Nat.le_refl _,by first|go_num|(rw [e];done)|(rw [← e];done)|exact congrArg (Value.int .i64) e,_,HI1⟩
          · obtain rfl : j=1:=by omega
            have hI:=HI.out.lp
            have HN1:=Aside0.mk (show Lp w.heap.size g2 Wl g4 q b ((l.take (i + 1)).flatMap conjO) (.slice Aw nw cw) wr by
              have h : Lp w.heap.size g2 Wl g4 q b (PRE ++ (conjO x).take (rcK x).length) (.slice Aw nw cw) wr:=by rw [← HM.out];exact hI
              rw [rc_all,HST.out] at h
              exact h)
            clear hI
            go_wp2
            go_roundg (l.length - (i + 1))
            case measure => omega
            case rel =>
              have e : wrap64 ((i : Int) + 1)=((i + 1 : Nat) : Int):=by rw [w64 (by omega) (by omega)];rfl
              exact ⟨i + 1,by omega,by omega,by first|go_num|(rw [e];done)|(rw [← e];done)|exact congrArg (Value.int .i64) e,_,HN1⟩
    · obtain rfl : i=l.length:=by omega
      have hL:=HI.out
      rw [List.take_length] at hL
      obtain ⟨x0,x1,x2,-⟩:=hL.cells
      have HNL:=Aside0.mk (show nv=(l.flatMap conjO).length from (Kd.N_reads' hL.row).1)
      have HRS:=Aside0.mk (hL.res HWL.out)
      replace F:=Aside0.mk hF'
      clear hL hF' c2 HI
      obtain ⟨c0,c1,c2,d0,d1,d2,f0,f1,f2⟩:=F.out.cells
      by_cases hlg : 4096 < (l.flatMap conjO).length
      · have hd : decide ((4096 : Int) < (nv : Int))=true:=decide_eq_true (by have:=HNL.out;omega)
        have HLG:=Aside0.mk hlg
        clear hlg
        go_wp2
        refine bodyPost_ret (results_ct rfl _ _ g2 24 _ (0,0) _ rfl (F.out.put 0 0 (.slice none 0 0)) Try.underlying24 rfl (by kernel_rfl)) rfl ?_
        have e : toldR q b (l.flatMap conjO)=(0,0,[],170):=if_pos HLG.out
        rw [e]
        exact F.out.out (z:=170) Fr.nil
      · have hd : decide ((4096 : Int) < (nv : Int))=false:=decide_eq_false (by have:=HNL.out;omega)
        have HLG:=Aside0.mk hlg
        clear hlg
        go_wp2
        refine bodyPost_ret (results_ct rfl _ _ g2 24 _ (0,0) _ rfl (F.out.put q b (.slice Av nv cv)) Try.underlying24 rfl (by kernel_rfl)) rfl ?_
        have e : toldR q b (l.flatMap conjO)=(q,b,l.flatMap conjO,0):=if_neg HLG.out
        rw [e]
        exact F.out.out (z:=0) HRS.out
theorem rconj_out {q b : Int} {A : Option Addr} {c : Nat} {l : List Opn} {w : World} (HC : Kd.C k46 w A l.length l) (hc : l.length≤c) (hw : WfL l) :
    Calls Try.prog 12 #[.agg #[.int .i64 q,.int .i64 b,.slice A l.length c]] w (Out w (conjR q b l)):=by
  obtain ⟨k1,e1⟩:=(may_is (q:=q) (b:=b) hw).get
  unfold conjR
  by_cases h : okc q b l=true
  · have ho:=okc_facts h
    rw [h] at e1
    rw [if_pos h]
    exact rcj_main q b A c l w HC hc hw k1 e1 ho.n (fun o ho2 => (ho.op o ho2).len) (fun o ho2 h1 => by
        have h2:=gate_facts (ho.may o ho2) h1
        have h3:=arity_pos h2.1 h2.2.1
        exact ⟨h2.1,h2.2.1,h2.2.2,by omega⟩)
  · rw [if_neg h]
    rw [Bool.not_eq_true] at h
    rw [h] at e1
    exact rcj_no q b A c l w HC hc hw k1 e1
end Go.Proofs.Ytbelnopbggkdfaa.Q
end

section
namespace Go.Proofs.Ytbelnopbggkdfaa.Q
open Go.RowKit Go.Proofs.YtbelnopbggkdfaaW.PrintWords Go.Proofs.YtbelnopbggkdfaaW.PrintLast Go.Proofs.YtbelnopbggkdfaaW.PrintMore
attribute [local go_sem] max2_int min2_int max_two min_two max_three min_three max_four min_four   -- for this text's walks alone
set_option linter.unusedVariables false
set_option linter.unusedSimpArgs false
def phasorref17_controlled.f (a0 : Int) : Option (Int):=if a0=1 then (some 1) else (if a0=2 then (some 11) else (if a0=3 then (some 12) else (if a0=4 then (some 13) else (if a0=11 then (some 18) else (if a0=13 then (some 19) else (if a0=14 then (some 20) else (some 0)))))))
set_option maxHeartbeats 8000000 in
set_option maxRecDepth 100000 in
theorem phasorref17_controlled.calls (a0 : Int) (r : Int) (w : World) (h : phasorref17_controlled.f a0=some r) :
  Calls Try.prog 57 #[.int .i64 a0] w fun e w' => e=.returned (.int .i64 r)∧Drawn0 w w':=by
 have H : (if a0=1 then (some 1) else (if a0=2 then (some 11) else (if a0=3 then (some 12) else (if a0=4 then (some 13) else (if a0=11 then (some 18) else (if a0=13 then (some 19) else (if a0=14 then (some 20) else (some 0))))))))=some r:=h
 clear h
 by_cases c2 : a0=1
 ·rw [if_pos c2] at H
  have c2b0 : (a0 == 1)=true:=beq_iff_eq.mpr c2
  have c2b1 : (a0 != 1)=false:=bne_eq_false_iff_eq.mpr c2
  clear c2
  obtain rfl:=Option.some.inj H
  go_enter Try.func57,Try.ntmps57
  go_wp2
  go_ret
  exact ⟨by first|rfl|(simp;done)|(simp [*];done),by repeat (first|exact Drawn0.refl _|apply Drawn0.step)⟩
 ·rw [if_neg c2] at H
  have c2b0 : (a0 == 1)=false:=beq_eq_false_iff_ne.mpr c2
  have c2b1 : (a0 != 1)=true:=bne_iff_ne.mpr c2
  by_cases c3 : a0=2
  ·rw [if_pos c3] at H
   have c3b0 : (a0 == 2)=true:=beq_iff_eq.mpr c3
   have c3b1 : (a0 != 2)=false:=bne_eq_false_iff_eq.mpr c3
   clear c3
   obtain rfl:=Option.some.inj H
   go_enter Try.func57,Try.ntmps57
   go_wp2
   go_ret
   exact ⟨by first|rfl|(simp;done)|(simp [*];done),by repeat (first|exact Drawn0.refl _|apply Drawn0.step)⟩
  ·rw [if_neg c3] at H
   have c3b0 : (a0 == 2)=false:=beq_eq_false_iff_ne.mpr c3
   have c3b1 : (a0 != 2)=true:=bne_iff_ne.mpr c3
   by_cases c4 : a0=3
   ·rw [if_pos c4] at H
    have c4b0 : (a0 == 3)=true:=beq_iff_eq.mpr c4
    have c4b1 : (a0 != 3)=false:=bne_eq_false_iff_eq.mpr c4
    clear c4
    obtain rfl:=Option.some.inj H
    go_enter Try.func57,Try.ntmps57
    go_wp2
    go_ret
    exact ⟨by first|rfl|(simp;done)|(simp [*];done),by repeat (first|exact Drawn0.refl _|apply Drawn0.step)⟩
   ·rw [if_neg c4] at H
    have c4b0 : (a0 == 3)=false:=beq_eq_false_iff_ne.mpr c4
    have c4b1 : (a0 != 3)=true:=bne_iff_ne.mpr c4
    by_cases c5 : a0=4
    ·rw [if_pos c5] at H
     have c5b0 : (a0 == 4)=true:=beq_iff_eq.mpr c5
     have c5b1 : (a0 != 4)=false:=bne_eq_false_iff_eq.mpr c5
     clear c5
     obtain rfl:=Option.some.inj H
     go_enter Try.func57,Try.ntmps57
     go_wp2
     go_ret
     exact ⟨by first|rfl|(simp;done)|(simp [*];done),by repeat (first|exact Drawn0.refl _|apply Drawn0.step)⟩
    ·rw [if_neg c5] at H
     have c5b0 : (a0 == 4)=false:=beq_eq_false_iff_ne.mpr c5
     have c5b1 : (a0 != 4)=true:=bne_iff_ne.mpr c5
     by_cases c6 : a0=11
     ·rw [if_pos c6] at H
      have c6b0 : (a0 == 11)=true:=beq_iff_eq.mpr c6
      have c6b1 : (a0 != 11)=false:=bne_eq_false_iff_eq.mpr c6
      clear c6
      obtain rfl:=Option.some.inj H
      go_enter Try.func57,Try.ntmps57
      go_wp2
      go_ret
      exact ⟨by first|rfl|(simp;done)|(simp [*];done),by repeat (first|exact Drawn0.refl _|apply Drawn0.step)⟩
     ·rw [if_neg c6] at H
      have c6b0 : (a0 == 11)=false:=beq_eq_false_iff_ne.mpr c6
      have c6b1 : (a0 != 11)=true:=bne_iff_ne.mpr c6
      by_cases c7 : a0=13
      ·rw [if_pos c7] at H
       have c7b0 : (a0 == 13)=true:=beq_iff_eq.mpr c7
       have c7b1 : (a0 != 13)=false:=bne_eq_false_iff_eq.mpr c7
       clear c7
       obtain rfl:=Option.some.inj H
       go_enter Try.func57,Try.ntmps57
       go_wp2
       go_ret
       exact ⟨by first|rfl|(simp;done)|(simp [*];done),by repeat (first|exact Drawn0.refl _|apply Drawn0.step)⟩
      ·rw [if_neg c7] at H
       have c7b0 : (a0 == 13)=false:=beq_eq_false_iff_ne.mpr c7
       have c7b1 : (a0 != 13)=true:=bne_iff_ne.mpr c7
       by_cases c8 : a0=14
       ·rw [if_pos c8] at H
        have c8b0 : (a0 == 14)=true:=beq_iff_eq.mpr c8
        have c8b1 : (a0 != 14)=false:=bne_eq_false_iff_eq.mpr c8
        clear c8
        obtain rfl:=Option.some.inj H
        go_enter Try.func57,Try.ntmps57
        go_wp2
        go_ret
        exact ⟨by first|rfl|(simp;done)|(simp [*];done),by repeat (first|exact Drawn0.refl _|apply Drawn0.step)⟩
       ·rw [if_neg c8] at H
        have c8b0 : (a0 == 14)=false:=beq_eq_false_iff_ne.mpr c8
        have c8b1 : (a0 != 14)=true:=bne_iff_ne.mpr c8
        obtain rfl:=Option.some.inj H
        go_enter Try.func57,Try.ntmps57
        go_wp2
        go_ret
        exact ⟨by first|rfl|(simp;done)|(simp [*];done),by repeat (first|exact Drawn0.refl _|apply Drawn0.step)⟩
end Go.Proofs.Ytbelnopbggkdfaa.Q
end

section
namespace Go.Proofs.Ytbelnopbggkdfaa.Q
open Go.RowKit Go.Proofs.YtbelnopbggkdfaaW.PrintWords Go.Proofs.YtbelnopbggkdfaaW.PrintLast Go.Proofs.YtbelnopbggkdfaaW.PrintMore
attribute [local go_sem] max2_int min2_int max_two min_two max_three min_three max_four min_four   -- for this text's walks alone
set_option linter.unusedVariables false
set_option linter.unusedSimpArgs false
mutual
def phasorref17_Control.l0 : Nat→Int→Int→Int→List (S46)→Int→Int→List (S46)→Option (Int × Int × (List (S46)) × Int)
 | 0,_,_,_,_,_,_,_ => none
 | k + 1,x5,x407000,x407001,x407002,x415000,x415001,x415002 => if x5 < (x407002.length : Int) then (if 0≤x5 then ((some (([] : List Int) : List Int)).bind fun y417 => (if y417.length + ((rd_T46 x407002 x5).f2).length < 17592186044416 then ((some (y417 ++ ((rd_T46 x407002 x5).f2) : List Int)).bind fun y420 => (if ((rd_T46 x407002 x5).f0)=4 then (if x415002.length < 2199023255552 then (phasorref17_Control.l0 k (wrap64 (x5 + 1)) x407000 x407001 x407002 x415000 x415001 (x415002 ++ [(⟨(rd_T46 x407002 x5).f0,(rd_T46 x407002 x5).f1,y420,(rd_T46 x407002 x5).f3,(rd_T46 x407002 x5).f4,(rd_T46 x407002 x5).f5⟩ : S46)])) else (none)) else ((phasorref17_controlled.f ((rd_T46 x407002 x5).f1)).bind fun t426 => (if ((rd_T46 x407002 x5).f0)=1 then (if ((rd_T46 x407002 x5).f4)=(-1) then (phasorref17_Control.j1 k x5 y420 t426 (t426 == 0) x407000 x407001 x407002 x415000 x415001 x415002 ((rd_T46 x407002 x5).f0) ((rd_T46 x407002 x5).f1) ((rd_T46 x407002 x5).f2) ((rd_T46 x407002 x5).f3) ((rd_T46 x407002 x5).f4) ((rd_T46 x407002 x5).f5)) else (phasorref17_Control.j1 k x5 y420 t426 true x407000 x407001 x407002 x415000 x415001 x415002 ((rd_T46 x407002 x5).f0) ((rd_T46 x407002 x5).f1) ((rd_T46 x407002 x5).f2) ((rd_T46 x407002 x5).f3) ((rd_T46 x407002 x5).f4) ((rd_T46 x407002 x5).f5))) else (phasorref17_Control.j1 k x5 y420 t426 true x407000 x407001 x407002 x415000 x415001 x415002 ((rd_T46 x407002 x5).f0) ((rd_T46 x407002 x5).f1) ((rd_T46 x407002 x5).f2) ((rd_T46 x407002 x5).f3) ((rd_T46 x407002 x5).f4) ((rd_T46 x407002 x5).f5)))))) else (none))) else (none)) else (some (x415000,x415001,x415002,0))
def phasorref17_Control.j1 : Nat→Int→List Int→Int→Bool→Int→Int→List (S46)→Int→Int→List (S46)→Int→Int→List Int→Int→Int→Int→Option (Int × Int × (List (S46)) × Int)
 | 0,_,_,_,_,_,_,_,_,_,_,_,_,_,_,_,_ => none
 | k + 1,x5,x7,x8,x56,x407000,x407001,x407002,x415000,x415001,x415002,x417000,x417001,x417002,x417003,x417004,x417005 => if x56=true then (some (0,0,([] : List (S46)),170)) else (if x8=1 then (if x415002.length < 2199023255552 then (phasorref17_Control.l0 k (wrap64 (x5 + 1)) x407000 x407001 x407002 x415000 x415001 (x415002 ++ [(⟨x417000,x8,x7,x417003,x417004,x417005⟩ : S46)])) else (none)) else ((some (([x407000] : List Int) : List Int)).bind fun y430 => (if y430.length + x417002.length < 17592186044416 then (if x415002.length < 2199023255552 then (phasorref17_Control.l0 k (wrap64 (x5 + 1)) x407000 x407001 x407002 x415000 x415001 (x415002 ++ [(⟨x417000,x8,(y430 ++ x417002),x417003,x417004,x417005⟩ : S46)])) else (none)) else (none))))
end
def phasorref17_Control.f (k : Nat) (a0_0 : Int) (a0_1 : Int) (l0_2 : List (S46)) : Option (Int × Int × (List (S46)) × Int):=(phasorref08_May.f k a0_0 a0_1 l0_2).bind fun t408 => (if t408=true then (if a0_0 ≥ 64 then (some (0,0,([] : List (S46)),170)) else ((phasorref17_empty.f a0_0 a0_1 l0_2).bind fun bt409 => (phasorref17_Control.l0 k 0 a0_0 a0_1 l0_2 (wrap64 (a0_0 + 1)) bt409.2.1 bt409.2.2))) else (some (0,0,([] : List (S46)),80)))
set_option maxHeartbeats 8000000 in
set_option maxRecDepth 100000 in
theorem phasorref17_Control.calls (k : Nat) (a0_0 : Int) (a0_1 : Int) (A0_2 : Option Addr) (c0_2 : Nat) (l0_2 : List (S46)) (r1 : Int) (r2 : Int) (r3 : List (S46)) (r4 : Int) (w : World) (hr0_2 : Kd.C k46 w A0_2 l0_2.length l0_2) (hc0_2 : l0_2.length≤c0_2) (h : phasorref17_Control.f k a0_0 a0_1 l0_2=some (r1,r2,r3,r4)) :
  Calls Try.prog 18 #[.agg #[.int .i64 a0_0,.int .i64 a0_1,.slice A0_2 l0_2.length c0_2]] w fun e w' => ∃ v2_ : Value,e=.returned (.tuple #[.agg #[.int .i64 r1,.int .i64 r2,v2_],.int .i64 r4])∧Kd.S k46 46 w' w.heap.size (fun _ => True) v2_ r3∧Below w.heap.size w w':=by
 have hu24:=Try.underlying24
 have hu46:=Try.underlying46
 have HR0_2:=Aside0.mk hr0_2
 have HC0_2:=Aside0.mk hc0_2
 clear hr0_2 hc0_2
 have HB:=Aside0.mk (Below.refl w.heap.size w)
 have H : ((phasorref08_May.f k a0_0 a0_1 l0_2).bind fun t408 => (if t408=true then (if a0_0 ≥ 64 then (some (0,0,([] : List (S46)),170)) else ((phasorref17_empty.f a0_0 a0_1 l0_2).bind fun bt409 => (phasorref17_Control.l0 k 0 a0_0 a0_1 l0_2 (wrap64 (a0_0 + 1)) bt409.2.1 bt409.2.2))) else (some (0,0,([] : List (S46)),80))))=some (r1,r2,r3,r4):=h
 clear h
 replace H:=Option.bind_eq_some_iff.mp H
 obtain ⟨t408,A20,H⟩:=H
 replace H : (if t408=true then (if a0_0 ≥ 64 then (some (0,0,([] : List (S46)),170)) else ((phasorref17_empty.f a0_0 a0_1 l0_2).bind fun bt409 => (phasorref17_Control.l0 k 0 a0_0 a0_1 l0_2 (wrap64 (a0_0 + 1)) bt409.2.1 bt409.2.2))) else (some (0,0,([] : List (S46)),80)))=some (r1,r2,r3,r4):=H
 have A2:=Aside0.mk A20
 clear A20
 by_cases c3 : t408=true
 ·subst c3
  have H1 : (if a0_0 ≥ 64 then (some (0,0,([] : List (S46)),170)) else ((phasorref17_empty.f a0_0 a0_1 l0_2).bind fun bt409 => (phasorref17_Control.l0 k 0 a0_0 a0_1 l0_2 (wrap64 (a0_0 + 1)) bt409.2.1 bt409.2.2)))=some (r1,r2,r3,r4):=by rw [if_pos rfl] at H;exact H
  clear H
  have H:=H1
  clear H1
  by_cases c4 : a0_0 ≥ 64
  ·rw [if_pos c4] at H
   have c4b0 : decide (64≤a0_0)=true:=decide_eq_true c4
   clear c4
   simp only [Option.some.injEq,Prod.mk.injEq] at H
   obtain ⟨rfl,rfl,rfl,rfl⟩:=H
   go_enter Try.func18,Try.ntmps18
   go_wp2_with (first|((with_reducible refine gate_dst (N:=1) rfl ?_);refine box_event ?hg (N:=1) ?hd (cs:=#[.int .i64 a0_0,.int .i64 a0_1,.slice A0_2 l0_2.length c0_2]) (t:=24) ?hr ?_;(case hd => rfl);(case hg => rfl);(case hr => first|(go_simp;done)|(go_simp;rfl));intro gb406 hg w5 hbox hb;have n0_:=Aside0.mk (below_step (by repeat (first|(with_reducible first|exact HB.out|apply below_alloc|apply pw_below_drewN|apply below_drew1)|exact HB.out)) hb);have n1_:=Aside0.mk (hbox);have n2_:=Aside0.mk ((by rw [hg];exact (below_size (by repeat (first|(with_reducible first|exact HB.out|apply below_alloc|apply pw_below_drewN|apply below_drew1)|exact HB.out))) : w.heap.size≤gb406));have n3_:=Aside0.mk ((by rw [hg];exact (below_size (by repeat (first|(with_reducible first|exact HB.out|apply below_alloc|apply pw_below_drewN|apply below_drew1)|exact HB.out))) : w.heap.size≤gb406));clear HB;have HB:=n0_;have BK406:=n1_;have GW406:=n2_;have GE406:=n3_;clear n0_ n1_ n2_ n3_;clear hb hbox hg)|((with_reducible refine gate_dst (N:=2) rfl ?_);refine box_event ?hg (N:=2) ?hd (cs:=#[.int .i64 0,.int .i64 0,.slice none 0 0]) (t:=24) ?hr ?_;(case hd => rfl);(case hg => rfl);(case hr => first|(go_simp;done)|(go_simp;rfl));intro gb407 hg w6 hbox hb;have n0_:=Aside0.mk (blk_below (g:=gb406) (o:=.cells #[.int .i64 a0_0,.int .i64 a0_1,.slice A0_2 l0_2.length c0_2] 24 (0,0)) (by (with_reducible repeat (first|refine blk_drewN ?_ _|refine blk_drew ?_|refine blk_alloc ?_ _));exact BK406.out) hb);have n1_:=Aside0.mk (below_step (by repeat (first|(with_reducible first|exact HB.out|apply below_alloc|apply pw_below_drewN|apply below_drew1|refine below_set ?_ GE406.out)|exact HB.out)) hb);have n2_:=Aside0.mk (hbox);have n3_:=Aside0.mk ((by rw [hg];exact (below_size (by repeat (first|(with_reducible first|exact HB.out|apply below_alloc|apply pw_below_drewN|apply below_drew1|refine below_set ?_ GE406.out)|exact HB.out))) : w.heap.size≤gb407));have n4_:=Aside0.mk ((by rw [hg];exact (below_size (by repeat (first|(with_reducible first|exact HB.out|apply below_alloc|apply pw_below_drewN|apply below_drew1|refine below_set ?_ GE406.out)|exact HB.out))) : w.heap.size≤gb407));have n5_:=Aside0.mk ((by rw [hg];exact Nat.ne_of_lt (blk_lt (g:=gb406) (o:=.cells #[.int .i64 a0_0,.int .i64 a0_1,.slice A0_2 l0_2.length c0_2] 24 (0,0)) (by (with_reducible repeat (first|refine blk_drewN ?_ _|refine blk_drew ?_|refine blk_alloc ?_ _));exact BK406.out)) : gb406≠gb407));have n6_:=Aside0.mk ((by rw [hg];exact Nat.ne_of_gt (blk_lt (g:=gb406) (o:=.cells #[.int .i64 a0_0,.int .i64 a0_1,.slice A0_2 l0_2.length c0_2] 24 (0,0)) (by (with_reducible repeat (first|refine blk_drewN ?_ _|refine blk_drew ?_|refine blk_alloc ?_ _));exact BK406.out)) : gb407≠gb406));clear BK406;clear HB;have BK406:=n0_;have HB:=n1_;have BK407:=n2_;have GW407:=n3_;have GE407:=n4_;have NB406_407:=n5_;have NB407_406:=n6_;clear n0_ n1_ n2_ n3_ n4_ n5_ n6_;clear hb hbox hg;have hnb7:=NB406_407.out;have hnc7:=NB407_406.out;have hcz8_0 : w6.cell? ⟨gb406,0,none⟩=some (.int .i64 a0_0):=(blk_cell BK406.out 0).trans rfl;have hcz8_1 : w6.cell? ⟨gb406,1,none⟩=some (.int .i64 a0_1):=(blk_cell BK406.out 1).trans rfl;have hcz8_2 : w6.cell? ⟨gb406,2,none⟩=some (.slice A0_2 l0_2.length c0_2):=(blk_cell BK406.out 2).trans rfl;have hfz8_0:=blk_frozen BK406.out 0;have hfz8_1:=blk_frozen BK406.out 1;have hfz8_2:=blk_frozen BK406.out 2)|((with_reducible refine gate_callee (f:=24) rfl ?_);refine goesL_ (some 10) rfl rfl Try.func24 (by kernel_rfl) rfl #[.agg #[.int .i64 a0_0,.int .i64 a0_1,.slice A0_2 l0_2.length c0_2]] rfl (by (try simp only [List.map_toArray,List.map_cons,List.map_nil]);first|done|rfl|(simp only [List.length_drop,List.length_take];rfl)) ?_;(with_reducible refine (phasorref08_May.calls k a0_0 a0_1 _ _ l0_2 true _ ?side1 ?side2 A2.out).mono ?_);(case side1 => repeat (first|exact (Kd.C_below HR0_2.out HB.out)|(with_reducible refine Kd.C_alloc ?_ _)|(with_reducible refine Kd.C_drewN ?_ _)|(with_reducible refine Kd.C_drew ?_)));(case side2 => exact HC0_2.out);rintro e w9 ⟨rfl,hb⟩;refine ⟨_,rfl,?_⟩;have n0_:=Aside0.mk (blk_below (g:=gb406) (o:=.cells #[.int .i64 a0_0,.int .i64 a0_1,.slice A0_2 l0_2.length c0_2] 24 (0,0)) (by (with_reducible repeat (first|refine blk_drewN ?_ _|refine blk_drew ?_|refine blk_alloc ?_ _));exact BK406.out) hb);have n1_:=Aside0.mk (blk_below (g:=gb407) (o:=.cells #[.int .i64 0,.int .i64 0,.slice none 0 0] 24 (0,0)) (by (with_reducible repeat (first|refine blk_drewN ?_ _|refine blk_drew ?_|refine blk_alloc ?_ _));exact BK407.out) hb);have n2_:=Aside0.mk (below_step (by repeat (first|(with_reducible first|exact HB.out|apply below_alloc|apply pw_below_drewN|apply below_drew1|refine below_set ?_ GE406.out|refine below_set ?_ GE407.out)|exact HB.out)) hb);clear BK406;clear BK407;clear HB;have BK406:=n0_;have BK407:=n1_;have HB:=n2_;clear n0_ n1_ n2_;(try clear hb);(try clear hb2);(try clear hk);(try clear hi);have hcz10_0 : w9.cell? ⟨gb406,0,none⟩=some (.int .i64 a0_0):=(blk_cell BK406.out 0).trans rfl;have hcz10_1 : w9.cell? ⟨gb406,1,none⟩=some (.int .i64 a0_1):=(blk_cell BK406.out 1).trans rfl;have hcz10_2 : w9.cell? ⟨gb406,2,none⟩=some (.slice A0_2 l0_2.length c0_2):=(blk_cell BK406.out 2).trans rfl;have hfz10_0:=blk_frozen BK406.out 0;have hfz10_1:=blk_frozen BK406.out 1;have hfz10_2:=blk_frozen BK406.out 2;have hcz11_0 : w9.cell? ⟨gb407,0,none⟩=some (.int .i64 0):=(blk_cell BK407.out 0).trans rfl;have hcz11_1 : w9.cell? ⟨gb407,1,none⟩=some (.int .i64 0):=(blk_cell BK407.out 1).trans rfl;have hcz11_2 : w9.cell? ⟨gb407,2,none⟩=some (.slice none 0 0):=(blk_cell BK407.out 2).trans rfl;have hfz11_0:=blk_frozen BK407.out 0;have hfz11_1:=blk_frozen BK407.out 1;have hfz11_2:=blk_frozen BK407.out 2))
   refine bodyPost_ret (results_ct rfl _ _ gb407 24 #[.int .i64 0,.int .i64 0,.slice none 0 0] (0,0) _ rfl (by (with_reducible repeat (first|refine blk_drewN ?_ _|refine blk_drew ?_|refine blk_alloc ?_ _));refine blk_put (cs:=#[.int .i64 0,.int .i64 0,.slice none 0 0]) ?_ 2 _ rfl;(with_reducible repeat (first|refine blk_drewN ?_ _|refine blk_drew ?_|refine blk_alloc ?_ _));refine blk_put (cs:=#[.int .i64 0,.int .i64 0,.slice none 0 0]) ?_ 1 _ rfl;(with_reducible repeat (first|refine blk_drewN ?_ _|refine blk_drew ?_|refine blk_alloc ?_ _));refine blk_put (cs:=#[.int .i64 0,.int .i64 0,.slice none 0 0]) ?_ 0 _ rfl;(with_reducible repeat (first|refine blk_drewN ?_ _|refine blk_drew ?_|refine blk_alloc ?_ _));exact BK407.out) Try.underlying24 rfl (by kernel_rfl)) rfl ?_
   exact ⟨_,by first|rfl|(simp [errW_none,errW_some] <;> rfl)|(simp [*,errW_none,errW_some] <;> rfl),by first|exact Kd.S_nil _ _ _ _ _|exact Kd.N_nil _ _ _ _ _|exact Kd.V_nil _ _ _ _ _|exact Kd.Q_nil _ _ _ _ _|exact Kd.R_nil _ _ _ _ _,by repeat (first|(with_reducible first|exact HB.out|apply below_alloc|apply pw_below_drewN|apply below_drew1|refine below_set ?_ GE406.out|refine below_set ?_ GE407.out)|exact HB.out)⟩
  ·rw [if_neg c4] at H
   have c4b0 : decide (64≤a0_0)=false:=decide_eq_false c4
   clear c4
   replace H:=Option.bind_eq_some_iff.mp H
   obtain ⟨⟨t409,t410,t411⟩,A120,H⟩:=H
   replace H : (phasorref17_Control.l0 k 0 a0_0 a0_1 l0_2 (wrap64 (a0_0 + 1)) t410 t411)=some (r1,r2,r3,r4):=H
   have A12:=Aside0.mk A120
   clear A120
   have H':=Aside0.mk H
   clear H
   go_enter Try.func18,Try.ntmps18
   go_wp2_with (first|((with_reducible refine gate_dst (N:=1) rfl ?_);refine box_event ?hg (N:=1) ?hd (cs:=#[.int .i64 a0_0,.int .i64 a0_1,.slice A0_2 l0_2.length c0_2]) (t:=24) ?hr ?_;(case hd => rfl);(case hg => rfl);(case hr => first|(go_simp;done)|(go_simp;rfl));intro gb406 hg w13 hbox hb;have n0_:=Aside0.mk (below_step (by repeat (first|(with_reducible first|exact HB.out|apply below_alloc|apply pw_below_drewN|apply below_drew1)|exact HB.out)) hb);have n1_:=Aside0.mk (hbox);have n2_:=Aside0.mk ((by rw [hg];exact (below_size (by repeat (first|(with_reducible first|exact HB.out|apply below_alloc|apply pw_below_drewN|apply below_drew1)|exact HB.out))) : w.heap.size≤gb406));have n3_:=Aside0.mk ((by rw [hg];exact (below_size (by repeat (first|(with_reducible first|exact HB.out|apply below_alloc|apply pw_below_drewN|apply below_drew1)|exact HB.out))) : w.heap.size≤gb406));clear HB;have HB:=n0_;have BK406:=n1_;have GW406:=n2_;have GE406:=n3_;clear n0_ n1_ n2_ n3_;clear hb hbox hg)|((with_reducible refine gate_dst (N:=2) rfl ?_);refine box_event ?hg (N:=2) ?hd (cs:=#[.int .i64 0,.int .i64 0,.slice none 0 0]) (t:=24) ?hr ?_;(case hd => rfl);(case hg => rfl);(case hr => first|(go_simp;done)|(go_simp;rfl));intro gb407 hg w14 hbox hb;have n0_:=Aside0.mk (blk_below (g:=gb406) (o:=.cells #[.int .i64 a0_0,.int .i64 a0_1,.slice A0_2 l0_2.length c0_2] 24 (0,0)) (by (with_reducible repeat (first|refine blk_drewN ?_ _|refine blk_drew ?_|refine blk_alloc ?_ _));exact BK406.out) hb);have n1_:=Aside0.mk (below_step (by repeat (first|(with_reducible first|exact HB.out|apply below_alloc|apply pw_below_drewN|apply below_drew1|refine below_set ?_ GE406.out)|exact HB.out)) hb);have n2_:=Aside0.mk (hbox);have n3_:=Aside0.mk ((by rw [hg];exact (below_size (by repeat (first|(with_reducible first|exact HB.out|apply below_alloc|apply pw_below_drewN|apply below_drew1|refine below_set ?_ GE406.out)|exact HB.out))) : w.heap.size≤gb407));have n4_:=Aside0.mk ((by rw [hg];exact (below_size (by repeat (first|(with_reducible first|exact HB.out|apply below_alloc|apply pw_below_drewN|apply below_drew1|refine below_set ?_ GE406.out)|exact HB.out))) : w.heap.size≤gb407));have n5_:=Aside0.mk ((by rw [hg];exact Nat.ne_of_lt (blk_lt (g:=gb406) (o:=.cells #[.int .i64 a0_0,.int .i64 a0_1,.slice A0_2 l0_2.length c0_2] 24 (0,0)) (by (with_reducible repeat (first|refine blk_drewN ?_ _|refine blk_drew ?_|refine blk_alloc ?_ _));exact BK406.out)) : gb406≠gb407));have n6_:=Aside0.mk ((by rw [hg];exact Nat.ne_of_gt (blk_lt (g:=gb406) (o:=.cells #[.int .i64 a0_0,.int .i64 a0_1,.slice A0_2 l0_2.length c0_2] 24 (0,0)) (by (with_reducible repeat (first|refine blk_drewN ?_ _|refine blk_drew ?_|refine blk_alloc ?_ _));exact BK406.out)) : gb407≠gb406));clear BK406;clear HB;have BK406:=n0_;have HB:=n1_;have BK407:=n2_;have GW407:=n3_;have GE407:=n4_;have NB406_407:=n5_;have NB407_406:=n6_;clear n0_ n1_ n2_ n3_ n4_ n5_ n6_;clear hb hbox hg;have hnb15:=NB406_407.out;have hnc15:=NB407_406.out;have hcz16_0 : w14.cell? ⟨gb406,0,none⟩=some (.int .i64 a0_0):=(blk_cell BK406.out 0).trans rfl;have hcz16_1 : w14.cell? ⟨gb406,1,none⟩=some (.int .i64 a0_1):=(blk_cell BK406.out 1).trans rfl;have hcz16_2 : w14.cell? ⟨gb406,2,none⟩=some (.slice A0_2 l0_2.length c0_2):=(blk_cell BK406.out 2).trans rfl;have hfz16_0:=blk_frozen BK406.out 0;have hfz16_1:=blk_frozen BK406.out 1;have hfz16_2:=blk_frozen BK406.out 2)|((with_reducible refine gate_callee (f:=24) rfl ?_);refine goesL_ (some 10) rfl rfl Try.func24 (by kernel_rfl) rfl #[.agg #[.int .i64 a0_0,.int .i64 a0_1,.slice A0_2 l0_2.length c0_2]] rfl (by (try simp only [List.map_toArray,List.map_cons,List.map_nil]);first|done|rfl|(simp only [List.length_drop,List.length_take];rfl)) ?_;(with_reducible refine (phasorref08_May.calls k a0_0 a0_1 _ _ l0_2 true _ ?side1 ?side2 A2.out).mono ?_);(case side1 => repeat (first|exact (Kd.C_below HR0_2.out HB.out)|(with_reducible refine Kd.C_alloc ?_ _)|(with_reducible refine Kd.C_drewN ?_ _)|(with_reducible refine Kd.C_drew ?_)));(case side2 => exact HC0_2.out);rintro e w17 ⟨rfl,hb⟩;refine ⟨_,rfl,?_⟩;have n0_:=Aside0.mk (blk_below (g:=gb406) (o:=.cells #[.int .i64 a0_0,.int .i64 a0_1,.slice A0_2 l0_2.length c0_2] 24 (0,0)) (by (with_reducible repeat (first|refine blk_drewN ?_ _|refine blk_drew ?_|refine blk_alloc ?_ _));exact BK406.out) hb);have n1_:=Aside0.mk (blk_below (g:=gb407) (o:=.cells #[.int .i64 0,.int .i64 0,.slice none 0 0] 24 (0,0)) (by (with_reducible repeat (first|refine blk_drewN ?_ _|refine blk_drew ?_|refine blk_alloc ?_ _));exact BK407.out) hb);have n2_:=Aside0.mk (below_step (by repeat (first|(with_reducible first|exact HB.out|apply below_alloc|apply pw_below_drewN|apply below_drew1|refine below_set ?_ GE406.out|refine below_set ?_ GE407.out)|exact HB.out)) hb);clear BK406;clear BK407;clear HB;have BK406:=n0_;have BK407:=n1_;have HB:=n2_;clear n0_ n1_ n2_;(try clear hb);(try clear hb2);(try clear hk);(try clear hi);have hcz18_0 : w17.cell? ⟨gb406,0,none⟩=some (.int .i64 a0_0):=(blk_cell BK406.out 0).trans rfl;have hcz18_1 : w17.cell? ⟨gb406,1,none⟩=some (.int .i64 a0_1):=(blk_cell BK406.out 1).trans rfl;have hcz18_2 : w17.cell? ⟨gb406,2,none⟩=some (.slice A0_2 l0_2.length c0_2):=(blk_cell BK406.out 2).trans rfl;have hfz18_0:=blk_frozen BK406.out 0;have hfz18_1:=blk_frozen BK406.out 1;have hfz18_2:=blk_frozen BK406.out 2)|((with_reducible refine gate_callee (f:=47) rfl ?_);refine goesL_ (some 18) rfl rfl Try.func47 (by kernel_rfl) rfl #[.agg #[.int .i64 a0_0,.int .i64 a0_1,.slice A0_2 l0_2.length c0_2]] rfl (by (try simp only [List.map_toArray,List.map_cons,List.map_nil]);first|done|rfl|(simp only [List.length_drop,List.length_take];rfl)) ?_;(with_reducible refine (phasorref17_empty.calls a0_0 a0_1 _ _ l0_2 t409 t410 t411 _ ?side1 ?side2 A12.out).mono ?_);(case side1 => repeat (first|exact (Kd.C_below HR0_2.out HB.out)|(with_reducible refine Kd.C_alloc ?_ _)|(with_reducible refine Kd.C_drewN ?_ _)|(with_reducible refine Kd.C_drew ?_)));(case side2 => exact HC0_2.out);rintro e w19 ⟨v412,rfl,ho0,hb⟩;refine ⟨_,rfl,?_⟩;have n0_:=Aside0.mk (Kd.S_lower ho0 (below_size (by repeat (first|(with_reducible first|exact HB.out|apply below_alloc|apply pw_below_drewN|apply below_drew1|refine below_set ?_ GE406.out|refine below_set ?_ GE407.out)|exact HB.out))));have n1_:=Aside0.mk (blk_below (g:=gb406) (o:=.cells #[.int .i64 a0_0,.int .i64 a0_1,.slice A0_2 l0_2.length c0_2] 24 (0,0)) (by (with_reducible repeat (first|refine blk_drewN ?_ _|refine blk_drew ?_|refine blk_alloc ?_ _));exact BK406.out) hb);have n2_:=Aside0.mk (blk_below (g:=gb407) (o:=.cells #[.int .i64 0,.int .i64 0,.slice none 0 0] 24 (0,0)) (by (with_reducible repeat (first|refine blk_drewN ?_ _|refine blk_drew ?_|refine blk_alloc ?_ _));exact BK407.out) hb);have n3_:=Aside0.mk (below_step (by repeat (first|(with_reducible first|exact HB.out|apply below_alloc|apply pw_below_drewN|apply below_drew1|refine below_set ?_ GE406.out|refine below_set ?_ GE407.out)|exact HB.out)) hb);clear BK406;clear BK407;clear HB;have HO413:=n0_;have BK406:=n1_;have BK407:=n2_;have HB:=n3_;clear n0_ n1_ n2_ n3_;(try clear hb);(try clear hb2);(try clear hk);(try clear hi);(try clear ho0))|((with_reducible refine gate_dst (N:=4) rfl ?_);refine box_event ?hg (N:=4) ?hd (cs:=#[.int .i64 0,.int .i64 0,.slice none 0 0]) (t:=24) ?hr ?_;(case hd => rfl);(case hg => rfl);(case hr => first|(go_simp;done)|(go_simp;rfl));intro gb414 hg w20 hbox hb;have n0_:=Aside0.mk (Kd.S_below (by (with_reducible repeat (first|apply Kd.S_alloc|apply Kd.S_drewN|apply Kd.S_drew));exact HO413.out) hb);have n1_:=Aside0.mk (blk_below (g:=gb406) (o:=.cells #[.int .i64 a0_0,.int .i64 a0_1,.slice A0_2 l0_2.length c0_2] 24 (0,0)) (by (with_reducible repeat (first|refine blk_drewN ?_ _|refine blk_drew ?_|refine blk_alloc ?_ _));exact BK406.out) hb);have n2_:=Aside0.mk (blk_below (g:=gb407) (o:=.cells #[.int .i64 0,.int .i64 0,.slice none 0 0] 24 (0,0)) (by (with_reducible repeat (first|refine blk_drewN ?_ _|refine blk_drew ?_|refine blk_alloc ?_ _));exact BK407.out) hb);have n3_:=Aside0.mk (below_step (by repeat (first|(with_reducible first|exact HB.out|apply below_alloc|apply pw_below_drewN|apply below_drew1|refine below_set ?_ GE406.out|refine below_set ?_ GE407.out)|exact HB.out)) hb);have n4_:=Aside0.mk (hbox);have n5_:=Aside0.mk ((by rw [hg];exact (below_size (by repeat (first|(with_reducible first|exact HB.out|apply below_alloc|apply pw_below_drewN|apply below_drew1|refine below_set ?_ GE406.out|refine below_set ?_ GE407.out)|exact HB.out))) : w.heap.size≤gb414));have n6_:=Aside0.mk ((by rw [hg];exact (below_size (by repeat (first|(with_reducible first|exact HB.out|apply below_alloc|apply pw_below_drewN|apply below_drew1|refine below_set ?_ GE406.out|refine below_set ?_ GE407.out)|exact HB.out))) : w.heap.size≤gb414));have n7_:=Aside0.mk ((by rw [hg];exact Nat.ne_of_lt (blk_lt (g:=gb406) (o:=.cells #[.int .i64 a0_0,.int .i64 a0_1,.slice A0_2 l0_2.length c0_2] 24 (0,0)) (by (with_reducible repeat (first|refine blk_drewN ?_ _|refine blk_drew ?_|refine blk_alloc ?_ _));exact BK406.out)) : gb406≠gb414));have n8_:=Aside0.mk ((by rw [hg];exact Nat.ne_of_gt (blk_lt (g:=gb406) (o:=.cells #[.int .i64 a0_0,.int .i64 a0_1,.slice A0_2 l0_2.length c0_2] 24 (0,0)) (by (with_reducible repeat (first|refine blk_drewN ?_ _|refine blk_drew ?_|refine blk_alloc ?_ _));exact BK406.out)) : gb414≠gb406));have n9_:=Aside0.mk ((by rw [hg];exact Nat.ne_of_lt (blk_lt (g:=gb407) (o:=.cells #[.int .i64 0,.int .i64 0,.slice none 0 0] 24 (0,0)) (by (with_reducible repeat (first|refine blk_drewN ?_ _|refine blk_drew ?_|refine blk_alloc ?_ _));exact BK407.out)) : gb407≠gb414));have n10_:=Aside0.mk ((by rw [hg];exact Nat.ne_of_gt (blk_lt (g:=gb407) (o:=.cells #[.int .i64 0,.int .i64 0,.slice none 0 0] 24 (0,0)) (by (with_reducible repeat (first|refine blk_drewN ?_ _|refine blk_drew ?_|refine blk_alloc ?_ _));exact BK407.out)) : gb414≠gb407));clear HO413;clear BK406;clear BK407;clear HB;have HO413:=n0_;have BK406:=n1_;have BK407:=n2_;have HB:=n3_;have BK414:=n4_;have GW414:=n5_;have GE414:=n6_;have NB406_414:=n7_;have NB414_406:=n8_;have NB407_414:=n9_;have NB414_407:=n10_;clear n0_ n1_ n2_ n3_ n4_ n5_ n6_ n7_ n8_ n9_ n10_;clear hb hbox hg;have hnb21:=NB414_406.out;have hnc21:=NB406_414.out;have hnb22:=NB414_407.out;have hnc22:=NB407_414.out;have hcz23_0 : w20.cell? ⟨gb414,0,none⟩=some (.int .i64 0):=(blk_cell BK414.out 0).trans rfl;have hcz23_1 : w20.cell? ⟨gb414,1,none⟩=some (.int .i64 0):=(blk_cell BK414.out 1).trans rfl;have hcz23_2 : w20.cell? ⟨gb414,2,none⟩=some (.slice none 0 0):=(blk_cell BK414.out 2).trans rfl;have hfz23_0:=blk_frozen BK414.out 0;have hfz23_1:=blk_frozen BK414.out 1;have hfz23_2:=blk_frozen BK414.out 2;obtain ⟨Ao24,co24,eo24⟩:=Kd.S_slice HO413.out;subst eo24;have hcz25_0 : w20.cell? ⟨gb406,0,none⟩=some (.int .i64 a0_0):=(blk_cell BK406.out 0).trans rfl;have hcz25_1 : w20.cell? ⟨gb406,1,none⟩=some (.int .i64 a0_1):=(blk_cell BK406.out 1).trans rfl;have hcz25_2 : w20.cell? ⟨gb406,2,none⟩=some (.slice A0_2 l0_2.length c0_2):=(blk_cell BK406.out 2).trans rfl;have hfz25_0:=blk_frozen BK406.out 0;have hfz25_1:=blk_frozen BK406.out 1;have hfz25_2:=blk_frozen BK406.out 2))
   go_loopg [5] k (fun kq v5 w' => ∃ (x5_1 : Int) (x408000_1 : Int) (x408001_1 : Int) (x415002_1 : List (S46)) (u415002 : Value),v5=.int .i64 x5_1∧Aside0 (phasorref17_Control.l0 kq x5_1 a0_0 a0_1 l0_2 (wrap64 (a0_0 + 1)) t410 x415002_1=some (r1,r2,r3,r4))∧Aside0 (kq≤k)∧Aside0 (Kd.S k46 46 w' w.heap.size (fun _ => True) u415002 x415002_1)∧Aside0 (w'.heap[gb406]?=some (.cells #[.int .i64 a0_0,.int .i64 a0_1,(.slice A0_2 l0_2.length c0_2)] 24 (0,0)))∧Aside0 (w'.heap[gb407]?=some (.cells #[.int .i64 x408000_1,.int .i64 x408001_1,(.slice none 0 0)] 24 (0,0)))∧Aside0 (w'.heap[gb414]?=some (.cells #[.int .i64 (wrap64 (a0_0 + 1)),.int .i64 t410,u415002] 24 (0,0)))∧Aside0 (Below w.heap.size w w'))
   case atStart => exact ⟨(0),(0),(0),(t411),(.slice Ao24 t411.length co24),(by first|rfl|(simp;done)|(simp [*];done)),H',⟨Nat.le_refl _⟩,⟨by (with_reducible repeat (first|apply Kd.S_alloc|apply Kd.S_drewN|apply Kd.S_drew));exact Kd.S_mono (Kd.S_far (p:=⟨gb414,0,none⟩) (Kd.S_far (p:=⟨gb414,2,none⟩) (Kd.S_far (p:=⟨gb414,1,none⟩) (Kd.S_far (p:=⟨gb414,0,none⟩) (Kd.S_types HO413.out BK414.out (by decide)) (fun _ hk => hk.2) (.int .i64 t409)) (fun _ hk => hk.2) (.int .i64 t410)) (fun _ hk => hk.2) (.slice Ao24 t411.length co24)) (fun _ hk => hk.2) (.int .i64 (wrap64 (a0_0 + 1)))) (fun _ hk => trivial)⟩,⟨by (with_reducible repeat (first|refine blk_drewN ?_ _|refine blk_drew ?_|refine blk_alloc ?_ _));refine blk_far ?_ NB406_414.out _;(with_reducible repeat (first|refine blk_drewN ?_ _|refine blk_drew ?_|refine blk_alloc ?_ _));refine blk_far ?_ NB406_414.out _;(with_reducible repeat (first|refine blk_drewN ?_ _|refine blk_drew ?_|refine blk_alloc ?_ _));refine blk_far ?_ NB406_414.out _;(with_reducible repeat (first|refine blk_drewN ?_ _|refine blk_drew ?_|refine blk_alloc ?_ _));refine blk_far ?_ NB406_414.out _;(with_reducible repeat (first|refine blk_drewN ?_ _|refine blk_drew ?_|refine blk_alloc ?_ _));exact BK406.out⟩,⟨by (with_reducible repeat (first|refine blk_drewN ?_ _|refine blk_drew ?_|refine blk_alloc ?_ _));refine blk_far ?_ NB407_414.out _;(with_reducible repeat (first|refine blk_drewN ?_ _|refine blk_drew ?_|refine blk_alloc ?_ _));refine blk_far ?_ NB407_414.out _;(with_reducible repeat (first|refine blk_drewN ?_ _|refine blk_drew ?_|refine blk_alloc ?_ _));refine blk_far ?_ NB407_414.out _;(with_reducible repeat (first|refine blk_drewN ?_ _|refine blk_drew ?_|refine blk_alloc ?_ _));refine blk_far ?_ NB407_414.out _;(with_reducible repeat (first|refine blk_drewN ?_ _|refine blk_drew ?_|refine blk_alloc ?_ _));exact BK407.out⟩,⟨by (with_reducible repeat (first|refine blk_drewN ?_ _|refine blk_drew ?_|refine blk_alloc ?_ _));refine blk_put (cs:=#[.int .i64 t409,.int .i64 t410,.slice Ao24 t411.length co24]) ?_ 0 _ rfl;(with_reducible repeat (first|refine blk_drewN ?_ _|refine blk_drew ?_|refine blk_alloc ?_ _));refine blk_put (cs:=#[.int .i64 t409,.int .i64 t410,.slice none 0 0]) ?_ 2 _ rfl;(with_reducible repeat (first|refine blk_drewN ?_ _|refine blk_drew ?_|refine blk_alloc ?_ _));refine blk_put (cs:=#[.int .i64 t409,.int .i64 0,.slice none 0 0]) ?_ 1 _ rfl;(with_reducible repeat (first|refine blk_drewN ?_ _|refine blk_drew ?_|refine blk_alloc ?_ _));refine blk_put (cs:=#[.int .i64 0,.int .i64 0,.slice none 0 0]) ?_ 0 _ rfl;(with_reducible repeat (first|refine blk_drewN ?_ _|refine blk_drew ?_|refine blk_alloc ?_ _));exact BK414.out⟩,⟨by repeat (first|(with_reducible first|exact HB.out|apply below_alloc|apply pw_below_drewN|apply below_drew1|refine below_set ?_ GE406.out|refine below_set ?_ GE407.out|refine below_set ?_ GE414.out)|exact HB.out)⟩⟩
   case round =>
    clear H'
    try clear c1
    try clear c2
    try clear p2
    try clear c3
    try clear c4
    try clear c4b0
    try clear p6
    try clear c7
    try clear c15
    try clear c18
    try clear c21
    try clear c22
    try clear c24
    try clear hcz10_0
    try clear hcz10_1
    try clear hcz10_2
    try clear hcz11_0
    try clear hcz11_1
    try clear hcz11_2
    try clear hcz16_0
    try clear hcz16_1
    try clear hcz16_2
    try clear hcz18_0
    try clear hcz18_1
    try clear hcz18_2
    try clear hcz23_0
    try clear hcz23_1
    try clear hcz23_2
    try clear hcz25_0
    try clear hcz25_1
    try clear hcz25_2
    try clear hcz8_0
    try clear hcz8_1
    try clear hcz8_2
    try clear hfz10_0
    try clear hfz10_1
    try clear hfz10_2
    try clear hfz11_0
    try clear hfz11_1
    try clear hfz11_2
    try clear hfz16_0
    try clear hfz16_1
    try clear hfz16_2
    try clear hfz18_0
    try clear hfz18_1
    try clear hfz18_2
    try clear hfz23_0
    try clear hfz23_1
    try clear hfz23_2
    try clear hfz25_0
    try clear hfz25_1
    try clear hfz25_2
    try clear hfz8_0
    try clear hfz8_1
    try clear hfz8_2
    obtain ⟨x5_1,x408000_1,x408001_1,x415002_1,u415002,rfl,HA,HK1,HO_415002,BK406,BK407,BK414,HB⟩:=hrel
    cases gk with
    | zero => exact absurd HA.out (by simp [phasorref17_Control.l0])
    | succ k1 =>
     have H:=HA.out
     clear HA
     simp only [phasorref17_Control.l0] at H
     by_cases c26 : x5_1 < (l0_2.length : Int)
     ·rw [if_pos c26] at H
      have c26b0 : decide (x5_1 < (l0_2.length : Int))=true:=decide_eq_true c26
      clear c26
      by_cases c27 : 0≤x5_1
      ·rw [if_pos c27] at H
       have c27b0 : decide (0≤x5_1)=true:=decide_eq_true c27
       clear c27
       obtain ⟨y417,hy417⟩ : ∃ y_ : List Int,y_=(([] : List Int)):=⟨_,rfl⟩
       replace H : (if y417.length + ((rd_T46 l0_2 x5_1).f2).length < 17592186044416 then ((some (y417 ++ ((rd_T46 l0_2 x5_1).f2) : List Int)).bind fun y420 => (if ((rd_T46 l0_2 x5_1).f0)=4 then (if x415002_1.length < 2199023255552 then (phasorref17_Control.l0 k1 (wrap64 (x5_1 + 1)) a0_0 a0_1 l0_2 (wrap64 (a0_0 + 1)) t410 (x415002_1 ++ [(⟨(rd_T46 l0_2 x5_1).f0,(rd_T46 l0_2 x5_1).f1,y420,(rd_T46 l0_2 x5_1).f3,(rd_T46 l0_2 x5_1).f4,(rd_T46 l0_2 x5_1).f5⟩ : S46)])) else (none)) else ((phasorref17_controlled.f ((rd_T46 l0_2 x5_1).f1)).bind fun t426 => (if ((rd_T46 l0_2 x5_1).f0)=1 then (if ((rd_T46 l0_2 x5_1).f4)=(-1) then (phasorref17_Control.j1 k1 x5_1 y420 t426 (t426 == 0) a0_0 a0_1 l0_2 (wrap64 (a0_0 + 1)) t410 x415002_1 ((rd_T46 l0_2 x5_1).f0) ((rd_T46 l0_2 x5_1).f1) ((rd_T46 l0_2 x5_1).f2) ((rd_T46 l0_2 x5_1).f3) ((rd_T46 l0_2 x5_1).f4) ((rd_T46 l0_2 x5_1).f5)) else (phasorref17_Control.j1 k1 x5_1 y420 t426 true a0_0 a0_1 l0_2 (wrap64 (a0_0 + 1)) t410 x415002_1 ((rd_T46 l0_2 x5_1).f0) ((rd_T46 l0_2 x5_1).f1) ((rd_T46 l0_2 x5_1).f2) ((rd_T46 l0_2 x5_1).f3) ((rd_T46 l0_2 x5_1).f4) ((rd_T46 l0_2 x5_1).f5))) else (phasorref17_Control.j1 k1 x5_1 y420 t426 true a0_0 a0_1 l0_2 (wrap64 (a0_0 + 1)) t410 x415002_1 ((rd_T46 l0_2 x5_1).f0) ((rd_T46 l0_2 x5_1).f1) ((rd_T46 l0_2 x5_1).f2) ((rd_T46 l0_2 x5_1).f3) ((rd_T46 l0_2 x5_1).f4) ((rd_T46 l0_2 x5_1).f5)))))) else (none))=some (r1,r2,r3,r4):=by first|(rw [hy417];with_reducible exact H)|(have H2_:=(Option.bind_some _ _).symm.trans H;rw [hy417];with_reducible exact H2_)|(have H2_:=(Option.bind_some _ _).symm.trans H;with_reducible exact H2_)|with_reducible exact H|(rw [hy417];exact H)|exact H
       have Ny417:=Aside0.mk hy417
       clear hy417
       by_cases c28 : y417.length + ((rd_T46 l0_2 x5_1).f2).length < 17592186044416
       ·rw [if_pos c28] at H
        have LMc28:=Aside0.mk c28
        clear c28
        obtain ⟨y420,hy420⟩ : ∃ y_ : List Int,y_=(y417 ++ ((rd_T46 l0_2 x5_1).f2)):=⟨_,rfl⟩
        replace H : (if ((rd_T46 l0_2 x5_1).f0)=4 then (if x415002_1.length < 2199023255552 then (phasorref17_Control.l0 k1 (wrap64 (x5_1 + 1)) a0_0 a0_1 l0_2 (wrap64 (a0_0 + 1)) t410 (x415002_1 ++ [(⟨(rd_T46 l0_2 x5_1).f0,(rd_T46 l0_2 x5_1).f1,y420,(rd_T46 l0_2 x5_1).f3,(rd_T46 l0_2 x5_1).f4,(rd_T46 l0_2 x5_1).f5⟩ : S46)])) else (none)) else ((phasorref17_controlled.f ((rd_T46 l0_2 x5_1).f1)).bind fun t426 => (if ((rd_T46 l0_2 x5_1).f0)=1 then (if ((rd_T46 l0_2 x5_1).f4)=(-1) then (phasorref17_Control.j1 k1 x5_1 y420 t426 (t426 == 0) a0_0 a0_1 l0_2 (wrap64 (a0_0 + 1)) t410 x415002_1 ((rd_T46 l0_2 x5_1).f0) ((rd_T46 l0_2 x5_1).f1) ((rd_T46 l0_2 x5_1).f2) ((rd_T46 l0_2 x5_1).f3) ((rd_T46 l0_2 x5_1).f4) ((rd_T46 l0_2 x5_1).f5)) else (phasorref17_Control.j1 k1 x5_1 y420 t426 true a0_0 a0_1 l0_2 (wrap64 (a0_0 + 1)) t410 x415002_1 ((rd_T46 l0_2 x5_1).f0) ((rd_T46 l0_2 x5_1).f1) ((rd_T46 l0_2 x5_1).f2) ((rd_T46 l0_2 x5_1).f3) ((rd_T46 l0_2 x5_1).f4) ((rd_T46 l0_2 x5_1).f5))) else (phasorref17_Control.j1 k1 x5_1 y420 t426 true a0_0 a0_1 l0_2 (wrap64 (a0_0 + 1)) t410 x415002_1 ((rd_T46 l0_2 x5_1).f0) ((rd_T46 l0_2 x5_1).f1) ((rd_T46 l0_2 x5_1).f2) ((rd_T46 l0_2 x5_1).f3) ((rd_T46 l0_2 x5_1).f4) ((rd_T46 l0_2 x5_1).f5)))))=some (r1,r2,r3,r4):=by first|(rw [hy420];with_reducible exact H)|(have H2_:=(Option.bind_some _ _).symm.trans H;rw [hy420];with_reducible exact H2_)|(have H2_:=(Option.bind_some _ _).symm.trans H;with_reducible exact H2_)|with_reducible exact H|(rw [hy420];exact H)|exact H
        have Ny420:=Aside0.mk hy420
        clear hy420
        by_cases c29 : ((rd_T46 l0_2 x5_1).f0)=4
        ·rw [if_pos c29] at H
         have c29b0 : (((rd_T46 l0_2 x5_1).f0) == 4)=true:=beq_iff_eq.mpr c29
         have c29b1 : (((rd_T46 l0_2 x5_1).f0) != 4)=false:=bne_eq_false_iff_eq.mpr c29
         clear c29
         by_cases c30 : x415002_1.length < 2199023255552
         ·rw [if_pos c30] at H
          have LMc30:=Aside0.mk c30
          clear c30
          obtain ⟨y423,hy423⟩ : ∃ y_ : List (S46),y_=(x415002_1 ++ [(⟨(rd_T46 l0_2 x5_1).f0,(rd_T46 l0_2 x5_1).f1,y420,(rd_T46 l0_2 x5_1).f3,(rd_T46 l0_2 x5_1).f4,(rd_T46 l0_2 x5_1).f5⟩ : S46)]):=⟨_,rfl⟩
          replace H : (phasorref17_Control.l0 k1 (wrap64 (x5_1 + 1)) a0_0 a0_1 l0_2 (wrap64 (a0_0 + 1)) t410 y423)=some (r1,r2,r3,r4):=by first|(rw [hy423];with_reducible exact H)|(have H2_:=(Option.bind_some _ _).symm.trans H;rw [hy423];with_reducible exact H2_)|(have H2_:=(Option.bind_some _ _).symm.trans H;with_reducible exact H2_)|with_reducible exact H|(rw [hy423];exact H)|exact H
          have Ny423:=Aside0.mk hy423
          clear hy423
          have H':=Aside0.mk H
          clear H
          have hnb31:=NB406_407.out
          have hnc31:=NB407_406.out
          have hnb32:=NB406_414.out
          have hnc32:=NB414_406.out
          have hcz33_0 : wr.cell? ⟨gb406,0,none⟩=some (.int .i64 a0_0):=(blk_cell BK406.out 0).trans rfl
          have hcz33_1 : wr.cell? ⟨gb406,1,none⟩=some (.int .i64 a0_1):=(blk_cell BK406.out 1).trans rfl
          have hcz33_2 : wr.cell? ⟨gb406,2,none⟩=some (.slice A0_2 l0_2.length c0_2):=(blk_cell BK406.out 2).trans rfl
          have hfz33_0:=blk_frozen BK406.out 0
          have hfz33_1:=blk_frozen BK406.out 1
          have hfz33_2:=blk_frozen BK406.out 2
          have p415 : 0≤(x5_1 : Int):=of_decide_eq_true (by first|(with_reducible assumption)|assumption)
          have q415 : x5_1 < (l0_2.length : Int):=of_decide_eq_true (by first|(with_reducible assumption)|assumption)
          obtain ⟨ad415,A415_2,c415_2,e415,hx415_0,hx415_1,hx415_2,hx415_3,hx415_4,hx415_5,hl415_2,hi415_2⟩:=at_T46 HR0_2.out x5_1 p415 q415
          cases e415
          replace hx415_0:=(HB.out.cell (World.block_lt_of_cell? w _ hx415_0)).trans hx415_0
          replace hx415_1:=(HB.out.cell (World.block_lt_of_cell? w _ hx415_1)).trans hx415_1
          replace hx415_2:=(HB.out.cell (World.block_lt_of_cell? w _ hx415_2)).trans hx415_2
          replace hx415_3:=(HB.out.cell (World.block_lt_of_cell? w _ hx415_3)).trans hx415_3
          replace hx415_4:=(HB.out.cell (World.block_lt_of_cell? w _ hx415_4)).trans hx415_4
          replace hx415_5:=(HB.out.cell (World.block_lt_of_cell? w _ hx415_5)).trans hx415_5
          have HR415_2:=Aside0.mk hi415_2
          have HC415_2:=Aside0.mk hl415_2
          clear hi415_2 hl415_2
          replace p415:=eq_true p415
          replace q415:=eq_true q415
          go_wp2_with (first|((with_reducible refine gate_dst (N:=6) rfl ?_);refine box_event ?hg (N:=6) ?hd (cs:=#[.int .i64 0,.int .i64 0,.slice none 0 0,.int .i64 0,.int .i64 0,.int .i64 0]) (t:=46) ?hr ?_;(case hd => rfl);(case hg => rfl);(case hr => first|(go_simp;done)|(go_simp;rfl));intro gb416 hg w34 hbox hb;have n0_:=Aside0.mk (Kd.S_below (Kd.S_elderB (by (with_reducible repeat (first|apply Kd.S_alloc|apply Kd.S_drewN|apply Kd.S_drew));exact HO_415002.out) gb416 (Nat.le_of_eq hg.symm)) hb);have n1_:=Aside0.mk (blk_below (g:=gb406) (o:=.cells #[.int .i64 a0_0,.int .i64 a0_1,.slice (some ad415) l0_2.length c0_2] 24 (0,0)) (by (with_reducible repeat (first|refine blk_drewN ?_ _|refine blk_drew ?_|refine blk_alloc ?_ _));exact BK406.out) hb);have n2_:=Aside0.mk (blk_below (g:=gb407) (o:=.cells #[.int .i64 x408000_1,.int .i64 x408001_1,.slice none 0 0] 24 (0,0)) (by (with_reducible repeat (first|refine blk_drewN ?_ _|refine blk_drew ?_|refine blk_alloc ?_ _));exact BK407.out) hb);have n3_:=Aside0.mk (blk_below (g:=gb414) (o:=.cells #[.int .i64 (wrap64 (a0_0 + 1)),.int .i64 t410,u415002] 24 (0,0)) (by (with_reducible repeat (first|refine blk_drewN ?_ _|refine blk_drew ?_|refine blk_alloc ?_ _));exact BK414.out) hb);have n4_:=Aside0.mk (below_step (by repeat (first|(with_reducible first|exact HB.out|apply below_alloc|apply pw_below_drewN|apply below_drew1|refine below_set ?_ GE406.out|refine below_set ?_ GE407.out|refine below_set ?_ GE414.out)|exact HB.out)) hb);have n5_:=Aside0.mk (hbox);have n6_:=Aside0.mk ((by rw [hg];exact (below_size (by repeat (first|(with_reducible first|exact HB.out|apply below_alloc|apply pw_below_drewN|apply below_drew1|refine below_set ?_ GE406.out|refine below_set ?_ GE407.out|refine below_set ?_ GE414.out)|exact HB.out))) : w.heap.size≤gb416));have n7_:=Aside0.mk ((by rw [hg];exact (below_size (by repeat (first|(with_reducible first|exact HB.out|apply below_alloc|apply pw_below_drewN|apply below_drew1|refine below_set ?_ GE406.out|refine below_set ?_ GE407.out|refine below_set ?_ GE414.out)|exact HB.out))) : w.heap.size≤gb416));have n8_:=Aside0.mk ((by rw [hg];exact Nat.ne_of_lt (blk_lt (g:=gb406) (o:=.cells #[.int .i64 a0_0,.int .i64 a0_1,.slice (some ad415) l0_2.length c0_2] 24 (0,0)) (by (with_reducible repeat (first|refine blk_drewN ?_ _|refine blk_drew ?_|refine blk_alloc ?_ _));exact BK406.out)) : gb406≠gb416));have n9_:=Aside0.mk ((by rw [hg];exact Nat.ne_of_gt (blk_lt (g:=gb406) (o:=.cells #[.int .i64 a0_0,.int .i64 a0_1,.slice (some ad415) l0_2.length c0_2] 24 (0,0)) (by (with_reducible repeat (first|refine blk_drewN ?_ _|refine blk_drew ?_|refine blk_alloc ?_ _));exact BK406.out)) : gb416≠gb406));have n10_:=Aside0.mk ((by rw [hg];exact Nat.ne_of_lt (blk_lt (g:=gb407) (o:=.cells #[.int .i64 x408000_1,.int .i64 x408001_1,.slice none 0 0] 24 (0,0)) (by (with_reducible repeat (first|refine blk_drewN ?_ _|refine blk_drew ?_|refine blk_alloc ?_ _));exact BK407.out)) : gb407≠gb416));have n11_:=Aside0.mk ((by rw [hg];exact Nat.ne_of_gt (blk_lt (g:=gb407) (o:=.cells #[.int .i64 x408000_1,.int .i64 x408001_1,.slice none 0 0] 24 (0,0)) (by (with_reducible repeat (first|refine blk_drewN ?_ _|refine blk_drew ?_|refine blk_alloc ?_ _));exact BK407.out)) : gb416≠gb407));have n12_:=Aside0.mk ((by rw [hg];exact Nat.ne_of_lt (blk_lt (g:=gb414) (o:=.cells #[.int .i64 (wrap64 (a0_0 + 1)),.int .i64 t410,u415002] 24 (0,0)) (by (with_reducible repeat (first|refine blk_drewN ?_ _|refine blk_drew ?_|refine blk_alloc ?_ _));exact BK414.out)) : gb414≠gb416));have n13_:=Aside0.mk ((by rw [hg];exact Nat.ne_of_gt (blk_lt (g:=gb414) (o:=.cells #[.int .i64 (wrap64 (a0_0 + 1)),.int .i64 t410,u415002] 24 (0,0)) (by (with_reducible repeat (first|refine blk_drewN ?_ _|refine blk_drew ?_|refine blk_alloc ?_ _));exact BK414.out)) : gb416≠gb414));clear HO_415002;clear BK406;clear BK407;clear BK414;clear HB;have HO_415002:=n0_;have BK406:=n1_;have BK407:=n2_;have BK414:=n3_;have HB:=n4_;have BK416:=n5_;have GW416:=n6_;have GE416:=n7_;have NB406_416:=n8_;have NB416_406:=n9_;have NB407_416:=n10_;have NB416_407:=n11_;have NB414_416:=n12_;have NB416_414:=n13_;clear n0_ n1_ n2_ n3_ n4_ n5_ n6_ n7_ n8_ n9_ n10_ n11_ n12_ n13_;clear hb hbox hg;have hnb35:=NB416_406.out;have hnc35:=NB406_416.out;have hnb36:=NB416_407.out;have hnc36:=NB407_416.out;have hnb37:=NB416_414.out;have hnc37:=NB414_416.out;have hcz38_0 : w34.cell? ⟨gb416,0,none⟩=some (.int .i64 0):=(blk_cell BK416.out 0).trans rfl;have hcz38_1 : w34.cell? ⟨gb416,1,none⟩=some (.int .i64 0):=(blk_cell BK416.out 1).trans rfl;have hcz38_2 : w34.cell? ⟨gb416,2,none⟩=some (.slice none 0 0):=(blk_cell BK416.out 2).trans rfl;have hcz38_3 : w34.cell? ⟨gb416,3,none⟩=some (.int .i64 0):=(blk_cell BK416.out 3).trans rfl;have hcz38_4 : w34.cell? ⟨gb416,4,none⟩=some (.int .i64 0):=(blk_cell BK416.out 4).trans rfl;have hcz38_5 : w34.cell? ⟨gb416,5,none⟩=some (.int .i64 0):=(blk_cell BK416.out 5).trans rfl;have hfz38_0:=blk_frozen BK416.out 0;have hfz38_1:=blk_frozen BK416.out 1;have hfz38_2:=blk_frozen BK416.out 2;have hfz38_3:=blk_frozen BK416.out 3;have hfz38_4:=blk_frozen BK416.out 4;have hfz38_5:=blk_frozen BK416.out 5)|((with_reducible refine gate_dst (N:=35) rfl ?_);refine Kd.R_lit (Kd.int .i64) _ 3 ?hg (N:=35) ?hd (xs:=([] : List Int)) (inner:=[]) (ok:=fun _ => True) (okp:=fun _ => True) ?hr ?hp (fun _ hk => hk) trivial (Below.refl _ _) (Nat.le_refl _) (by simp) ?_;(case hd => rfl);(case hg => rfl);(case hr => first|(go_simp;done)|(go_simp;rfl));(case hp => exact (Reps.none _ _));intro v418 w39 ho40 hb hg_ hnew_;clear hg_ hnew_;(first|rw [← Ny417.out] at ho40|(simp only [Int.reduceToNat] at ho40;rw [← Ny417.out] at ho40));have n0_:=Aside0.mk (Kd.S_elder' (by (with_reducible repeat (first|apply Kd.S_alloc|apply Kd.S_drewN|apply Kd.S_drew));exact (Kd.S_mono (Kd.S_far (p:=⟨gb416,5,none⟩) (Kd.S_far (p:=⟨gb416,4,none⟩) (Kd.S_far (p:=⟨gb416,3,none⟩) (Kd.S_far (p:=⟨gb416,2,none⟩) (Kd.S_far (p:=⟨gb416,1,none⟩) (Kd.S_far (p:=⟨gb416,0,none⟩) (Kd.S_mono HO_415002.out (fun k_ hk => (⟨hk,hk.2⟩ : _∧k_≠gb416))) (fun _ hk => hk.2) (.int .i64 ((rd_T46 l0_2 x5_1).f0))) (fun _ hk => hk.2) (.int .i64 ((rd_T46 l0_2 x5_1).f1))) (fun _ hk => hk.2) (.slice A415_2 ((rd_T46 l0_2 x5_1).f2).length c415_2)) (fun _ hk => hk.2) (.int .i64 ((rd_T46 l0_2 x5_1).f3))) (fun _ hk => hk.2) (.int .i64 ((rd_T46 l0_2 x5_1).f4))) (fun _ hk => hk.2) (.int .i64 ((rd_T46 l0_2 x5_1).f5))) (fun _ h_ => h_.1))) (Kd.R_base ho40) hb);have n1_:=Aside0.mk (Kd.R_lower ho40 (below_size (by repeat (first|(with_reducible first|exact HB.out|apply below_alloc|apply pw_below_drewN|apply below_drew1|refine below_set ?_ GE406.out|refine below_set ?_ GE407.out|refine below_set ?_ GE414.out|refine below_set ?_ GE416.out)|exact HB.out))));have n2_:=Aside0.mk (blk_below (g:=gb406) (o:=.cells #[.int .i64 a0_0,.int .i64 a0_1,.slice (some ad415) l0_2.length c0_2] 24 (0,0)) (by (with_reducible repeat (first|refine blk_drewN ?_ _|refine blk_drew ?_|refine blk_alloc ?_ _));refine blk_far ?_ NB406_416.out _;(with_reducible repeat (first|refine blk_drewN ?_ _|refine blk_drew ?_|refine blk_alloc ?_ _));refine blk_far ?_ NB406_416.out _;(with_reducible repeat (first|refine blk_drewN ?_ _|refine blk_drew ?_|refine blk_alloc ?_ _));refine blk_far ?_ NB406_416.out _;(with_reducible repeat (first|refine blk_drewN ?_ _|refine blk_drew ?_|refine blk_alloc ?_ _));refine blk_far ?_ NB406_416.out _;(with_reducible repeat (first|refine blk_drewN ?_ _|refine blk_drew ?_|refine blk_alloc ?_ _));refine blk_far ?_ NB406_416.out _;(with_reducible repeat (first|refine blk_drewN ?_ _|refine blk_drew ?_|refine blk_alloc ?_ _));refine blk_far ?_ NB406_416.out _;(with_reducible repeat (first|refine blk_drewN ?_ _|refine blk_drew ?_|refine blk_alloc ?_ _));exact BK406.out) hb);have n3_:=Aside0.mk (blk_below (g:=gb407) (o:=.cells #[.int .i64 x408000_1,.int .i64 x408001_1,.slice none 0 0] 24 (0,0)) (by (with_reducible repeat (first|refine blk_drewN ?_ _|refine blk_drew ?_|refine blk_alloc ?_ _));refine blk_far ?_ NB407_416.out _;(with_reducible repeat (first|refine blk_drewN ?_ _|refine blk_drew ?_|refine blk_alloc ?_ _));refine blk_far ?_ NB407_416.out _;(with_reducible repeat (first|refine blk_drewN ?_ _|refine blk_drew ?_|refine blk_alloc ?_ _));refine blk_far ?_ NB407_416.out _;(with_reducible repeat (first|refine blk_drewN ?_ _|refine blk_drew ?_|refine blk_alloc ?_ _));refine blk_far ?_ NB407_416.out _;(with_reducible repeat (first|refine blk_drewN ?_ _|refine blk_drew ?_|refine blk_alloc ?_ _));refine blk_far ?_ NB407_416.out _;(with_reducible repeat (first|refine blk_drewN ?_ _|refine blk_drew ?_|refine blk_alloc ?_ _));refine blk_far ?_ NB407_416.out _;(with_reducible repeat (first|refine blk_drewN ?_ _|refine blk_drew ?_|refine blk_alloc ?_ _));exact BK407.out) hb);have n4_:=Aside0.mk (blk_below (g:=gb414) (o:=.cells #[.int .i64 (wrap64 (a0_0 + 1)),.int .i64 t410,u415002] 24 (0,0)) (by (with_reducible repeat (first|refine blk_drewN ?_ _|refine blk_drew ?_|refine blk_alloc ?_ _));refine blk_far ?_ NB414_416.out _;(with_reducible repeat (first|refine blk_drewN ?_ _|refine blk_drew ?_|refine blk_alloc ?_ _));refine blk_far ?_ NB414_416.out _;(with_reducible repeat (first|refine blk_drewN ?_ _|refine blk_drew ?_|refine blk_alloc ?_ _));refine blk_far ?_ NB414_416.out _;(with_reducible repeat (first|refine blk_drewN ?_ _|refine blk_drew ?_|refine blk_alloc ?_ _));refine blk_far ?_ NB414_416.out _;(with_reducible repeat (first|refine blk_drewN ?_ _|refine blk_drew ?_|refine blk_alloc ?_ _));refine blk_far ?_ NB414_416.out _;(with_reducible repeat (first|refine blk_drewN ?_ _|refine blk_drew ?_|refine blk_alloc ?_ _));refine blk_far ?_ NB414_416.out _;(with_reducible repeat (first|refine blk_drewN ?_ _|refine blk_drew ?_|refine blk_alloc ?_ _));exact BK414.out) hb);have n5_:=Aside0.mk (blk_below (g:=gb416) (o:=.cells #[.int .i64 ((rd_T46 l0_2 x5_1).f0),.int .i64 ((rd_T46 l0_2 x5_1).f1),.slice A415_2 ((rd_T46 l0_2 x5_1).f2).length c415_2,.int .i64 ((rd_T46 l0_2 x5_1).f3),.int .i64 ((rd_T46 l0_2 x5_1).f4),.int .i64 ((rd_T46 l0_2 x5_1).f5)] 46 (0,0)) (by (with_reducible repeat (first|refine blk_drewN ?_ _|refine blk_drew ?_|refine blk_alloc ?_ _));refine blk_put (cs:=#[.int .i64 ((rd_T46 l0_2 x5_1).f0),.int .i64 ((rd_T46 l0_2 x5_1).f1),.slice A415_2 ((rd_T46 l0_2 x5_1).f2).length c415_2,.int .i64 ((rd_T46 l0_2 x5_1).f3),.int .i64 ((rd_T46 l0_2 x5_1).f4),.int .i64 0]) ?_ 5 _ rfl;(with_reducible repeat (first|refine blk_drewN ?_ _|refine blk_drew ?_|refine blk_alloc ?_ _));refine blk_put (cs:=#[.int .i64 ((rd_T46 l0_2 x5_1).f0),.int .i64 ((rd_T46 l0_2 x5_1).f1),.slice A415_2 ((rd_T46 l0_2 x5_1).f2).length c415_2,.int .i64 ((rd_T46 l0_2 x5_1).f3),.int .i64 0,.int .i64 0]) ?_ 4 _ rfl;(with_reducible repeat (first|refine blk_drewN ?_ _|refine blk_drew ?_|refine blk_alloc ?_ _));refine blk_put (cs:=#[.int .i64 ((rd_T46 l0_2 x5_1).f0),.int .i64 ((rd_T46 l0_2 x5_1).f1),.slice A415_2 ((rd_T46 l0_2 x5_1).f2).length c415_2,.int .i64 0,.int .i64 0,.int .i64 0]) ?_ 3 _ rfl;(with_reducible repeat (first|refine blk_drewN ?_ _|refine blk_drew ?_|refine blk_alloc ?_ _));refine blk_put (cs:=#[.int .i64 ((rd_T46 l0_2 x5_1).f0),.int .i64 ((rd_T46 l0_2 x5_1).f1),.slice none 0 0,.int .i64 0,.int .i64 0,.int .i64 0]) ?_ 2 _ rfl;(with_reducible repeat (first|refine blk_drewN ?_ _|refine blk_drew ?_|refine blk_alloc ?_ _));refine blk_put (cs:=#[.int .i64 ((rd_T46 l0_2 x5_1).f0),.int .i64 0,.slice none 0 0,.int .i64 0,.int .i64 0,.int .i64 0]) ?_ 1 _ rfl;(with_reducible repeat (first|refine blk_drewN ?_ _|refine blk_drew ?_|refine blk_alloc ?_ _));refine blk_put (cs:=#[.int .i64 0,.int .i64 0,.slice none 0 0,.int .i64 0,.int .i64 0,.int .i64 0]) ?_ 0 _ rfl;(with_reducible repeat (first|refine blk_drewN ?_ _|refine blk_drew ?_|refine blk_alloc ?_ _));exact BK416.out) hb);have n6_:=Aside0.mk (below_step (by repeat (first|(with_reducible first|exact HB.out|apply below_alloc|apply pw_below_drewN|apply below_drew1|refine below_set ?_ GE406.out|refine below_set ?_ GE407.out|refine below_set ?_ GE414.out|refine below_set ?_ GE416.out)|exact HB.out)) hb);clear HO_415002;clear BK406;clear BK407;clear BK414;clear BK416;clear HB;have HO_415002:=n0_;have HO419:=n1_;have BK406:=n2_;have BK407:=n3_;have BK414:=n4_;have BK416:=n5_;have HB:=n6_;clear n0_ n1_ n2_ n3_ n4_ n5_ n6_;clear hb ho40;have hcz41_0 : w39.cell? ⟨gb416,0,none⟩=some (.int .i64 ((rd_T46 l0_2 x5_1).f0)):=(blk_cell BK416.out 0).trans rfl;have hcz41_1 : w39.cell? ⟨gb416,1,none⟩=some (.int .i64 ((rd_T46 l0_2 x5_1).f1)):=(blk_cell BK416.out 1).trans rfl;have hcz41_2 : w39.cell? ⟨gb416,2,none⟩=some (.slice A415_2 ((rd_T46 l0_2 x5_1).f2).length c415_2):=(blk_cell BK416.out 2).trans rfl;have hcz41_3 : w39.cell? ⟨gb416,3,none⟩=some (.int .i64 ((rd_T46 l0_2 x5_1).f3)):=(blk_cell BK416.out 3).trans rfl;have hcz41_4 : w39.cell? ⟨gb416,4,none⟩=some (.int .i64 ((rd_T46 l0_2 x5_1).f4)):=(blk_cell BK416.out 4).trans rfl;have hcz41_5 : w39.cell? ⟨gb416,5,none⟩=some (.int .i64 ((rd_T46 l0_2 x5_1).f5)):=(blk_cell BK416.out 5).trans rfl;have hfz41_0:=blk_frozen BK416.out 0;have hfz41_1:=blk_frozen BK416.out 1;have hfz41_2:=blk_frozen BK416.out 2;have hfz41_3:=blk_frozen BK416.out 3;have hfz41_4:=blk_frozen BK416.out 4;have hfz41_5:=blk_frozen BK416.out 5)|((with_reducible refine gate_builtin (b:=.append) (xs:=#[.tmp 35,.tmp 37]) rfl ?_);at_builtin;refine Kd.R_append_rows (Kd.int .i64) (w0:=w) w.heap.size rfl (.tmp 35) (.tmp 37) 37 3 (.int .i64 0) 8 rfl Try.underlying37 info3 rfl (by decide) (by omega) v418 y417 ((rd_T46 l0_2 x5_1).f2) _ _ _ (fun _ => True) (fun _ => False) rfl rfl ?aO ?aR (fun _ _ h => h) (fun _ h => h.elim) ?aF ?aB ?aS ?aL ?_;(case aR => repeat (first|exact (Kd.C_below HR415_2.out HB.out)|(with_reducible refine Kd.C_alloc ?_ _)|(with_reducible refine Kd.C_drewN ?_ _)|(with_reducible refine Kd.C_drew ?_)));(case aB => exact (by repeat (first|(with_reducible first|exact HB.out|apply below_alloc|apply pw_below_drewN|apply below_drew1|refine below_set ?_ GE406.out|refine below_set ?_ GE407.out|refine below_set ?_ GE414.out|refine below_set ?_ GE416.out)|exact HB.out)));(case aF => exact (fun _ _ => trivial));(case aO => exact (by (with_reducible repeat (first|apply Kd.R_alloc|apply Kd.R_drewN|apply Kd.R_drew));exact HO419.out));(case aS => exact (below_size (by repeat (first|(with_reducible first|exact HB.out|apply below_alloc|apply pw_below_drewN|apply below_drew1|refine below_set ?_ GE406.out|refine below_set ?_ GE407.out|refine below_set ?_ GE414.out|refine below_set ?_ GE416.out)|exact HB.out))));(case aL => have:=LMc28.out;omega);intro v421 w42 ho hb hg hat;rw [← Ny420.out] at ho;have n0_:=Aside0.mk (Kd.S_after (ok:=(fun k_ => k_≠gb416)) (by (with_reducible repeat (first|apply Kd.S_alloc|apply Kd.S_drewN|apply Kd.S_drew));exact Kd.S_mono HO_415002.out (fun _ hk => ⟨hk.1.2,hk.2⟩)) hg hat);have n1_:=Aside0.mk (blk_grown (g:=gb406) (o:=.cells #[.int .i64 a0_0,.int .i64 a0_1,.slice (some ad415) l0_2.length c0_2] 24 (0,0)) (by (with_reducible repeat (first|refine blk_drewN ?_ _|refine blk_drew ?_|refine blk_alloc ?_ _));exact BK406.out) hg (Kd.R_ne HO419.out BK406.out (by decide)));have n2_:=Aside0.mk (blk_grown (g:=gb407) (o:=.cells #[.int .i64 x408000_1,.int .i64 x408001_1,.slice none 0 0] 24 (0,0)) (by (with_reducible repeat (first|refine blk_drewN ?_ _|refine blk_drew ?_|refine blk_alloc ?_ _));exact BK407.out) hg (Kd.R_ne HO419.out BK407.out (by decide)));have n3_:=Aside0.mk (blk_grown (g:=gb414) (o:=.cells #[.int .i64 (wrap64 (a0_0 + 1)),.int .i64 t410,u415002] 24 (0,0)) (by (with_reducible repeat (first|refine blk_drewN ?_ _|refine blk_drew ?_|refine blk_alloc ?_ _));exact BK414.out) hg (Kd.R_ne HO419.out BK414.out (by decide)));have n4_:=Aside0.mk (blk_grown (g:=gb416) (o:=.cells #[.int .i64 ((rd_T46 l0_2 x5_1).f0),.int .i64 ((rd_T46 l0_2 x5_1).f1),.slice A415_2 ((rd_T46 l0_2 x5_1).f2).length c415_2,.int .i64 ((rd_T46 l0_2 x5_1).f3),.int .i64 ((rd_T46 l0_2 x5_1).f4),.int .i64 ((rd_T46 l0_2 x5_1).f5)] 46 (0,0)) (by (with_reducible repeat (first|refine blk_drewN ?_ _|refine blk_drew ?_|refine blk_alloc ?_ _));exact BK416.out) hg (Kd.R_ne HO419.out BK416.out (by decide)));have n5_:=Aside0.mk (hb);have n6_:=Aside0.mk (ho);clear HO_415002;clear BK406;clear BK407;clear BK414;clear BK416;clear HB;clear HO419;have HO_415002:=n0_;have BK406:=n1_;have BK407:=n2_;have BK414:=n3_;have BK416:=n4_;have HB:=n5_;have HO422:=n6_;clear n0_ n1_ n2_ n3_ n4_ n5_ n6_;clear ho hb hg hat;have hcz43_0 : w42.cell? ⟨gb416,0,none⟩=some (.int .i64 ((rd_T46 l0_2 x5_1).f0)):=(blk_cell BK416.out 0).trans rfl;have hcz43_1 : w42.cell? ⟨gb416,1,none⟩=some (.int .i64 ((rd_T46 l0_2 x5_1).f1)):=(blk_cell BK416.out 1).trans rfl;have hcz43_2 : w42.cell? ⟨gb416,2,none⟩=some (.slice A415_2 ((rd_T46 l0_2 x5_1).f2).length c415_2):=(blk_cell BK416.out 2).trans rfl;have hcz43_3 : w42.cell? ⟨gb416,3,none⟩=some (.int .i64 ((rd_T46 l0_2 x5_1).f3)):=(blk_cell BK416.out 3).trans rfl;have hcz43_4 : w42.cell? ⟨gb416,4,none⟩=some (.int .i64 ((rd_T46 l0_2 x5_1).f4)):=(blk_cell BK416.out 4).trans rfl;have hcz43_5 : w42.cell? ⟨gb416,5,none⟩=some (.int .i64 ((rd_T46 l0_2 x5_1).f5)):=(blk_cell BK416.out 5).trans rfl;have hfz43_0:=blk_frozen BK416.out 0;have hfz43_1:=blk_frozen BK416.out 1;have hfz43_2:=blk_frozen BK416.out 2;have hfz43_3:=blk_frozen BK416.out 3;have hfz43_4:=blk_frozen BK416.out 4;have hfz43_5:=blk_frozen BK416.out 5;obtain ⟨Ao44,co44,eo44⟩:=Kd.R_slice HO422.out;subst eo44)|((with_reducible refine gate_store (t:=37) (p:=69) rfl ?_);refine store_event (t:=37) (p:=69) (v:=?vo_w45) (w1:=(w42.setCell ⟨gb416,2,none⟩ (.slice Ao44 y420.length co44))) ?hg ?ho ?hn ?hr ?_;(case ho => rfl);(case hg => rfl);(case hn => rfl);(case hr => first|(go_simp;done)|(go_simp;rfl));intro w45 hw;have n0_ : Aside0 (Kd.S k46 46 w45 w.heap.size (fun k_ => some k_≠(.slice Ao44 y420.length co44 : Value).ownBlock∧k_≠gb416) u415002 x415002_1):=⟨(by rw [hw];exact (by (with_reducible repeat (first|apply Kd.S_alloc|apply Kd.S_drewN|apply Kd.S_drew));exact Kd.S_mono (Kd.S_far (p:=⟨gb416,2,none⟩) (Kd.S_mono HO_415002.out (fun k_ hk => (⟨hk,hk.1⟩ : _∧k_≠gb416))) (fun _ hk => hk.2) (.slice Ao44 y420.length co44)) (fun _ hk => ⟨hk.1.2,hk.1.1⟩)))⟩;have n1_ : Aside0 (Kd.R (Kd.int .i64) 3 w45 w.heap.size (fun _ => True) (.slice Ao44 y420.length co44) y420):=⟨(by rw [hw];exact (by (with_reducible repeat (first|apply Kd.R_alloc|apply Kd.R_drewN|apply Kd.R_drew));exact Kd.R_mono (Kd.R_far (p:=⟨gb416,2,none⟩) (Kd.R_types HO422.out BK416.out (by decide)) (fun _ hk => hk.2) (.slice Ao44 y420.length co44)) (fun _ hk => trivial)))⟩;have n2_ : Aside0 (w45.heap[gb406]?=some (.cells #[.int .i64 a0_0,.int .i64 a0_1,.slice (some ad415) l0_2.length c0_2] 24 (0,0))):=⟨(by rw [hw];exact (by (with_reducible repeat (first|refine blk_drewN ?_ _|refine blk_drew ?_|refine blk_alloc ?_ _));refine blk_far ?_ NB406_416.out _;(with_reducible repeat (first|refine blk_drewN ?_ _|refine blk_drew ?_|refine blk_alloc ?_ _));exact BK406.out))⟩;have n3_ : Aside0 (w45.heap[gb407]?=some (.cells #[.int .i64 x408000_1,.int .i64 x408001_1,.slice none 0 0] 24 (0,0))):=⟨(by rw [hw];exact (by (with_reducible repeat (first|refine blk_drewN ?_ _|refine blk_drew ?_|refine blk_alloc ?_ _));refine blk_far ?_ NB407_416.out _;(with_reducible repeat (first|refine blk_drewN ?_ _|refine blk_drew ?_|refine blk_alloc ?_ _));exact BK407.out))⟩;have n4_ : Aside0 (w45.heap[gb414]?=some (.cells #[.int .i64 (wrap64 (a0_0 + 1)),.int .i64 t410,u415002] 24 (0,0))):=⟨(by rw [hw];exact (by (with_reducible repeat (first|refine blk_drewN ?_ _|refine blk_drew ?_|refine blk_alloc ?_ _));refine blk_far ?_ NB414_416.out _;(with_reducible repeat (first|refine blk_drewN ?_ _|refine blk_drew ?_|refine blk_alloc ?_ _));exact BK414.out))⟩;have n5_ : Aside0 (w45.heap[gb416]?=some (.cells #[.int .i64 ((rd_T46 l0_2 x5_1).f0),.int .i64 ((rd_T46 l0_2 x5_1).f1),.slice Ao44 y420.length co44,.int .i64 ((rd_T46 l0_2 x5_1).f3),.int .i64 ((rd_T46 l0_2 x5_1).f4),.int .i64 ((rd_T46 l0_2 x5_1).f5)] 46 (0,0))):=⟨(by rw [hw];exact (by (with_reducible repeat (first|refine blk_drewN ?_ _|refine blk_drew ?_|refine blk_alloc ?_ _));refine blk_put (cs:=#[.int .i64 ((rd_T46 l0_2 x5_1).f0),.int .i64 ((rd_T46 l0_2 x5_1).f1),.slice A415_2 ((rd_T46 l0_2 x5_1).f2).length c415_2,.int .i64 ((rd_T46 l0_2 x5_1).f3),.int .i64 ((rd_T46 l0_2 x5_1).f4),.int .i64 ((rd_T46 l0_2 x5_1).f5)]) ?_ 2 _ rfl;(with_reducible repeat (first|refine blk_drewN ?_ _|refine blk_drew ?_|refine blk_alloc ?_ _));exact BK416.out))⟩;have n6_ : Aside0 (Below w.heap.size w w45):=⟨(by rw [hw];exact (by repeat (first|(with_reducible first|exact HB.out|apply below_alloc|apply pw_below_drewN|apply below_drew1|refine below_set ?_ GE406.out|refine below_set ?_ GE407.out|refine below_set ?_ GE414.out|refine below_set ?_ GE416.out)|exact HB.out)))⟩;clear hw;clear HO_415002;clear HO422;clear BK406;clear BK407;clear BK414;clear BK416;clear HB;have HO_415002:=n0_;have HO422:=n1_;have BK406:=n2_;have BK407:=n3_;have BK414:=n4_;have BK416:=n5_;have HB:=n6_;clear n0_ n1_ n2_ n3_ n4_ n5_ n6_;have hnb46:=NB414_407.out;have hnc46:=NB407_414.out;have hcz47_0 : w45.cell? ⟨gb414,0,none⟩=some (.int .i64 (wrap64 (a0_0 + 1))):=(blk_cell BK414.out 0).trans rfl;have hcz47_1 : w45.cell? ⟨gb414,1,none⟩=some (.int .i64 t410):=(blk_cell BK414.out 1).trans rfl;have hcz47_2 : w45.cell? ⟨gb414,2,none⟩=some (u415002):=(blk_cell BK414.out 2).trans rfl;have hfz47_0:=blk_frozen BK414.out 0;have hfz47_1:=blk_frozen BK414.out 1;have hfz47_2:=blk_frozen BK414.out 2;have hcz48_0 : w45.cell? ⟨gb416,0,none⟩=some (.int .i64 ((rd_T46 l0_2 x5_1).f0)):=(blk_cell BK416.out 0).trans rfl;have hcz48_1 : w45.cell? ⟨gb416,1,none⟩=some (.int .i64 ((rd_T46 l0_2 x5_1).f1)):=(blk_cell BK416.out 1).trans rfl;have hcz48_2 : w45.cell? ⟨gb416,2,none⟩=some (.slice Ao44 y420.length co44):=(blk_cell BK416.out 2).trans rfl;have hcz48_3 : w45.cell? ⟨gb416,3,none⟩=some (.int .i64 ((rd_T46 l0_2 x5_1).f3)):=(blk_cell BK416.out 3).trans rfl;have hcz48_4 : w45.cell? ⟨gb416,4,none⟩=some (.int .i64 ((rd_T46 l0_2 x5_1).f4)):=(blk_cell BK416.out 4).trans rfl;have hcz48_5 : w45.cell? ⟨gb416,5,none⟩=some (.int .i64 ((rd_T46 l0_2 x5_1).f5)):=(blk_cell BK416.out 5).trans rfl;have hfz48_0:=blk_frozen BK416.out 0;have hfz48_1:=blk_frozen BK416.out 1;have hfz48_2:=blk_frozen BK416.out 2;have hfz48_3:=blk_frozen BK416.out 3;have hfz48_4:=blk_frozen BK416.out 4;have hfz48_5:=blk_frozen BK416.out 5)|((with_reducible refine gate_builtin (b:=.append) (xs:=#[.tmp 71,.tmp 73]) rfl ?_);at_builtin;refine Kd.S_append k46 (w0:=w) w.heap.size rfl (.tmp 71) (.tmp 73) 22 46 (.agg #[(.int .i64 0),(.int .i64 0),(.slice none 0 0),(.int .i64 0),(.int .i64 0),(.int .i64 0)]) 64 rfl Try.underlying22 info46 rfl (by decide) (by omega) u415002 x415002_1 (⟨(rd_T46 l0_2 x5_1).f0,(rd_T46 l0_2 x5_1).f1,y420,(rd_T46 l0_2 x5_1).f3,(rd_T46 l0_2 x5_1).f4,(rd_T46 l0_2 x5_1).f5⟩ : S46) [.int .i64 ((rd_T46 l0_2 x5_1).f0),.int .i64 ((rd_T46 l0_2 x5_1).f1),.slice Ao44 y420.length co44,.int .i64 ((rd_T46 l0_2 x5_1).f3),.int .i64 ((rd_T46 l0_2 x5_1).f4),.int .i64 ((rd_T46 l0_2 x5_1).f5)] (fun k_ => k_≠gb416) (fun k_ => some k_=(.slice Ao44 y420.length co44 : Value).ownBlock) rfl rfl ?aP (fun k_ hk_ => ((Kd.R_mono (ok':=fun k_ => ((fun k_ => k_≠gb416)) k_∧some k_≠(u415002 : Value).ownBlock) (Kd.R_types (Kd.R_apart' (HO422.out) (Kd.S_typed HO_415002.out) (by decide)) BK416.out (by decide)) (fun k_ hk => ⟨hk.2,hk.1.2⟩))).1 k_ hk_.symm) ?aF ?aO ?aB ?aS ?aL ?_;(case aP => exact k46_mkM _ _ _ (⟨(rd_T46 l0_2 x5_1).f0,(rd_T46 l0_2 x5_1).f1,y420,(rd_T46 l0_2 x5_1).f3,(rd_T46 l0_2 x5_1).f4,(rd_T46 l0_2 x5_1).f5⟩ : S46) (Kd.R_mono (Kd.R_tight rfl (Kd.R_mono (ok':=fun k_ => ((fun k_ => k_≠gb416)) k_∧some k_≠(u415002 : Value).ownBlock) (Kd.R_types (Kd.R_apart' (HO422.out) (Kd.S_typed HO_415002.out) (by decide)) BK416.out (by decide)) (fun k_ hk => ⟨hk.2,hk.1.2⟩))) (fun _ h_ => h_)));(case aB => exact (by repeat (first|(with_reducible first|exact HB.out|apply below_alloc|apply pw_below_drewN|apply below_drew1|refine below_set ?_ GE406.out|refine below_set ?_ GE407.out|refine below_set ?_ GE414.out|refine below_set ?_ GE416.out)|exact HB.out)));(case aF => exact (fun k_ hk => Kd.freshB (g:=gb416) (o:=.cells #[.int .i64 ((rd_T46 l0_2 x5_1).f0),.int .i64 ((rd_T46 l0_2 x5_1).f1),.slice Ao44 y420.length co44,.int .i64 ((rd_T46 l0_2 x5_1).f3),.int .i64 ((rd_T46 l0_2 x5_1).f4),.int .i64 ((rd_T46 l0_2 x5_1).f5)] 46 (0,0)) (by (with_reducible repeat (first|refine blk_drewN ?_ _|refine blk_drew ?_|refine blk_alloc ?_ _));exact BK416.out) k_ hk));(case aO => exact (by (with_reducible repeat (first|apply Kd.S_alloc|apply Kd.S_drewN|apply Kd.S_drew));exact Kd.S_mono HO_415002.out (fun k_ hk => ⟨hk.2,fun e_ => hk.1 e_⟩)));(case aS => exact (below_size (by repeat (first|(with_reducible first|exact HB.out|apply below_alloc|apply pw_below_drewN|apply below_drew1|refine below_set ?_ GE406.out|refine below_set ?_ GE407.out|refine below_set ?_ GE414.out|refine below_set ?_ GE416.out)|exact HB.out))));(case aL => have:=LMc30.out;omega);intro v424 w49 ho hb hg hat;rw [← Ny423.out] at ho;have n0_:=Aside0.mk (blk_grown (g:=gb406) (o:=.cells #[.int .i64 a0_0,.int .i64 a0_1,.slice (some ad415) l0_2.length c0_2] 24 (0,0)) (by (with_reducible repeat (first|refine blk_drewN ?_ _|refine blk_drew ?_|refine blk_alloc ?_ _));exact BK406.out) hg (Kd.S_ne HO_415002.out BK406.out (by decide)));have n1_:=Aside0.mk (blk_grown (g:=gb407) (o:=.cells #[.int .i64 x408000_1,.int .i64 x408001_1,.slice none 0 0] 24 (0,0)) (by (with_reducible repeat (first|refine blk_drewN ?_ _|refine blk_drew ?_|refine blk_alloc ?_ _));exact BK407.out) hg (Kd.S_ne HO_415002.out BK407.out (by decide)));have n2_:=Aside0.mk (blk_grown (g:=gb414) (o:=.cells #[.int .i64 (wrap64 (a0_0 + 1)),.int .i64 t410,u415002] 24 (0,0)) (by (with_reducible repeat (first|refine blk_drewN ?_ _|refine blk_drew ?_|refine blk_alloc ?_ _));exact BK414.out) hg (Kd.S_ne HO_415002.out BK414.out (by decide)));have n3_:=Aside0.mk (blk_grown (g:=gb416) (o:=.cells #[.int .i64 ((rd_T46 l0_2 x5_1).f0),.int .i64 ((rd_T46 l0_2 x5_1).f1),.slice Ao44 y420.length co44,.int .i64 ((rd_T46 l0_2 x5_1).f3),.int .i64 ((rd_T46 l0_2 x5_1).f4),.int .i64 ((rd_T46 l0_2 x5_1).f5)] 46 (0,0)) (by (with_reducible repeat (first|refine blk_drewN ?_ _|refine blk_drew ?_|refine blk_alloc ?_ _));exact BK416.out) hg (Kd.S_away HO_415002.out (fun _ hk => hk.2)));have n4_:=Aside0.mk (hb);have n5_:=Aside0.mk (ho);clear BK406;clear BK407;clear BK414;clear BK416;clear HB;clear HO_415002;clear HO422;have BK406:=n0_;have BK407:=n1_;have BK414:=n2_;have BK416:=n3_;have HB:=n4_;have HO425:=n5_;clear n0_ n1_ n2_ n3_ n4_ n5_;clear ho hb hg hat;obtain ⟨Ao50,co50,eo50⟩:=Kd.S_slice HO425.out;subst eo50;have hcz51_0 : w49.cell? ⟨gb414,0,none⟩=some (.int .i64 (wrap64 (a0_0 + 1))):=(blk_cell BK414.out 0).trans rfl;have hcz51_1 : w49.cell? ⟨gb414,1,none⟩=some (.int .i64 t410):=(blk_cell BK414.out 1).trans rfl;have hcz51_2 : w49.cell? ⟨gb414,2,none⟩=some (u415002):=(blk_cell BK414.out 2).trans rfl;have hfz51_0:=blk_frozen BK414.out 0;have hfz51_1:=blk_frozen BK414.out 1;have hfz51_2:=blk_frozen BK414.out 2))
          go_roundg k1
          case measure => have:=HK1.out;omega
          case rel => exact ⟨(wrap64 (x5_1 + 1)),(x408000_1),(x408001_1),(y423),(.slice Ao50 y423.length co50),(by first|rfl|(simp;done)|(simp [*];done)),H',⟨by have:=HK1.out;omega⟩,⟨by (with_reducible repeat (first|apply Kd.S_alloc|apply Kd.S_drewN|apply Kd.S_drew));exact Kd.S_mono (Kd.S_far (p:=⟨gb414,2,none⟩) (Kd.S_types HO425.out BK414.out (by decide)) (fun _ hk => hk.2) (.slice Ao50 y423.length co50)) (fun _ hk => trivial)⟩,⟨by (with_reducible repeat (first|refine blk_drewN ?_ _|refine blk_drew ?_|refine blk_alloc ?_ _));refine blk_far ?_ NB406_414.out _;(with_reducible repeat (first|refine blk_drewN ?_ _|refine blk_drew ?_|refine blk_alloc ?_ _));exact BK406.out⟩,⟨by (with_reducible repeat (first|refine blk_drewN ?_ _|refine blk_drew ?_|refine blk_alloc ?_ _));refine blk_far ?_ NB407_414.out _;(with_reducible repeat (first|refine blk_drewN ?_ _|refine blk_drew ?_|refine blk_alloc ?_ _));exact BK407.out⟩,⟨by (with_reducible repeat (first|refine blk_drewN ?_ _|refine blk_drew ?_|refine blk_alloc ?_ _));refine blk_put (cs:=#[.int .i64 (wrap64 (a0_0 + 1)),.int .i64 t410,u415002]) ?_ 2 _ rfl;(with_reducible repeat (first|refine blk_drewN ?_ _|refine blk_drew ?_|refine blk_alloc ?_ _));exact BK414.out⟩,⟨by repeat (first|(with_reducible first|exact HB.out|apply below_alloc|apply pw_below_drewN|apply below_drew1|refine below_set ?_ GE406.out|refine below_set ?_ GE407.out|refine below_set ?_ GE414.out|refine below_set ?_ GE416.out)|exact HB.out)⟩⟩
         ·rw [if_neg c30] at H
          exact absurd H (by simp)
        ·rw [if_neg c29] at H
         have c29b0 : (((rd_T46 l0_2 x5_1).f0) == 4)=false:=beq_eq_false_iff_ne.mpr c29
         have c29b1 : (((rd_T46 l0_2 x5_1).f0) != 4)=true:=bne_iff_ne.mpr c29
         replace H:=Option.bind_eq_some_iff.mp H
         obtain ⟨t426,A520,H⟩:=H
         replace H : (if ((rd_T46 l0_2 x5_1).f0)=1 then (if ((rd_T46 l0_2 x5_1).f4)=(-1) then (phasorref17_Control.j1 k1 x5_1 y420 t426 (t426 == 0) a0_0 a0_1 l0_2 (wrap64 (a0_0 + 1)) t410 x415002_1 ((rd_T46 l0_2 x5_1).f0) ((rd_T46 l0_2 x5_1).f1) ((rd_T46 l0_2 x5_1).f2) ((rd_T46 l0_2 x5_1).f3) ((rd_T46 l0_2 x5_1).f4) ((rd_T46 l0_2 x5_1).f5)) else (phasorref17_Control.j1 k1 x5_1 y420 t426 true a0_0 a0_1 l0_2 (wrap64 (a0_0 + 1)) t410 x415002_1 ((rd_T46 l0_2 x5_1).f0) ((rd_T46 l0_2 x5_1).f1) ((rd_T46 l0_2 x5_1).f2) ((rd_T46 l0_2 x5_1).f3) ((rd_T46 l0_2 x5_1).f4) ((rd_T46 l0_2 x5_1).f5))) else (phasorref17_Control.j1 k1 x5_1 y420 t426 true a0_0 a0_1 l0_2 (wrap64 (a0_0 + 1)) t410 x415002_1 ((rd_T46 l0_2 x5_1).f0) ((rd_T46 l0_2 x5_1).f1) ((rd_T46 l0_2 x5_1).f2) ((rd_T46 l0_2 x5_1).f3) ((rd_T46 l0_2 x5_1).f4) ((rd_T46 l0_2 x5_1).f5)))=some (r1,r2,r3,r4):=H
         have A52:=Aside0.mk A520
         clear A520
         have HC53:=Aside0.mk H
         clear H
         have hnb54:=NB406_407.out
         have hnc54:=NB407_406.out
         have hnb55:=NB406_414.out
         have hnc55:=NB414_406.out
         have hcz56_0 : wr.cell? ⟨gb406,0,none⟩=some (.int .i64 a0_0):=(blk_cell BK406.out 0).trans rfl
         have hcz56_1 : wr.cell? ⟨gb406,1,none⟩=some (.int .i64 a0_1):=(blk_cell BK406.out 1).trans rfl
         have hcz56_2 : wr.cell? ⟨gb406,2,none⟩=some (.slice A0_2 l0_2.length c0_2):=(blk_cell BK406.out 2).trans rfl
         have hfz56_0:=blk_frozen BK406.out 0
         have hfz56_1:=blk_frozen BK406.out 1
         have hfz56_2:=blk_frozen BK406.out 2
         have p415 : 0≤(x5_1 : Int):=of_decide_eq_true (by first|(with_reducible assumption)|assumption)
         have q415 : x5_1 < (l0_2.length : Int):=of_decide_eq_true (by first|(with_reducible assumption)|assumption)
         obtain ⟨ad415,A415_2,c415_2,e415,hx415_0,hx415_1,hx415_2,hx415_3,hx415_4,hx415_5,hl415_2,hi415_2⟩:=at_T46 HR0_2.out x5_1 p415 q415
         cases e415
         replace hx415_0:=(HB.out.cell (World.block_lt_of_cell? w _ hx415_0)).trans hx415_0
         replace hx415_1:=(HB.out.cell (World.block_lt_of_cell? w _ hx415_1)).trans hx415_1
         replace hx415_2:=(HB.out.cell (World.block_lt_of_cell? w _ hx415_2)).trans hx415_2
         replace hx415_3:=(HB.out.cell (World.block_lt_of_cell? w _ hx415_3)).trans hx415_3
         replace hx415_4:=(HB.out.cell (World.block_lt_of_cell? w _ hx415_4)).trans hx415_4
         replace hx415_5:=(HB.out.cell (World.block_lt_of_cell? w _ hx415_5)).trans hx415_5
         have HR415_2:=Aside0.mk hi415_2
         have HC415_2:=Aside0.mk hl415_2
         clear hi415_2 hl415_2
         replace p415:=eq_true p415
         replace q415:=eq_true q415
         go_upto_region 14 with (first|((with_reducible refine gate_dst (N:=6) rfl ?_);refine box_event ?hg (N:=6) ?hd (cs:=#[.int .i64 0,.int .i64 0,.slice none 0 0,.int .i64 0,.int .i64 0,.int .i64 0]) (t:=46) ?hr ?_;(case hd => rfl);(case hg => rfl);(case hr => first|(go_simp;done)|(go_simp;rfl));intro gb416 hg w57 hbox hb;have n0_:=Aside0.mk (Kd.S_below (Kd.S_elderB (by (with_reducible repeat (first|apply Kd.S_alloc|apply Kd.S_drewN|apply Kd.S_drew));exact HO_415002.out) gb416 (Nat.le_of_eq hg.symm)) hb);have n1_:=Aside0.mk (blk_below (g:=gb406) (o:=.cells #[.int .i64 a0_0,.int .i64 a0_1,.slice (some ad415) l0_2.length c0_2] 24 (0,0)) (by (with_reducible repeat (first|refine blk_drewN ?_ _|refine blk_drew ?_|refine blk_alloc ?_ _));exact BK406.out) hb);have n2_:=Aside0.mk (blk_below (g:=gb407) (o:=.cells #[.int .i64 x408000_1,.int .i64 x408001_1,.slice none 0 0] 24 (0,0)) (by (with_reducible repeat (first|refine blk_drewN ?_ _|refine blk_drew ?_|refine blk_alloc ?_ _));exact BK407.out) hb);have n3_:=Aside0.mk (blk_below (g:=gb414) (o:=.cells #[.int .i64 (wrap64 (a0_0 + 1)),.int .i64 t410,u415002] 24 (0,0)) (by (with_reducible repeat (first|refine blk_drewN ?_ _|refine blk_drew ?_|refine blk_alloc ?_ _));exact BK414.out) hb);have n4_:=Aside0.mk (below_step (by repeat (first|(with_reducible first|exact HB.out|apply below_alloc|apply pw_below_drewN|apply below_drew1|refine below_set ?_ GE406.out|refine below_set ?_ GE407.out|refine below_set ?_ GE414.out)|exact HB.out)) hb);have n5_:=Aside0.mk (hbox);have n6_:=Aside0.mk ((by rw [hg];exact (below_size (by repeat (first|(with_reducible first|exact HB.out|apply below_alloc|apply pw_below_drewN|apply below_drew1|refine below_set ?_ GE406.out|refine below_set ?_ GE407.out|refine below_set ?_ GE414.out)|exact HB.out))) : w.heap.size≤gb416));have n7_:=Aside0.mk ((by rw [hg];exact (below_size (by repeat (first|(with_reducible first|exact HB.out|apply below_alloc|apply pw_below_drewN|apply below_drew1|refine below_set ?_ GE406.out|refine below_set ?_ GE407.out|refine below_set ?_ GE414.out)|exact HB.out))) : w.heap.size≤gb416));have n8_:=Aside0.mk ((by rw [hg];exact Nat.ne_of_lt (blk_lt (g:=gb406) (o:=.cells #[.int .i64 a0_0,.int .i64 a0_1,.slice (some ad415) l0_2.length c0_2] 24 (0,0)) (by (with_reducible repeat (first|refine blk_drewN ?_ _|refine blk_drew ?_|refine blk_alloc ?_ _));exact BK406.out)) : gb406≠gb416));have n9_:=Aside0.mk ((by rw [hg];exact Nat.ne_of_gt (blk_lt (g:=gb406) (o:=.cells #[.int .i64 a0_0,.int .i64 a0_1,.slice (some ad415) l0_2.length c0_2] 24 (0,0)) (by (with_reducible repeat (first|refine blk_drewN ?_ _|refine blk_drew ?_|refine blk_alloc ?_ _));exact BK406.out)) : gb416≠gb406));have n10_:=Aside0.mk ((by rw [hg];exact Nat.ne_of_lt (blk_lt (g:=gb407) (o:=.cells #[.int .i64 x408000_1,.int .i64 x408001_1,.slice none 0 0] 24 (0,0)) (by (with_reducible repeat (first|refine blk_drewN ?_ _|refine blk_drew ?_|refine blk_alloc ?_ _));exact BK407.out)) : gb407≠gb416));have n11_:=Aside0.mk ((by rw [hg];exact Nat.ne_of_gt (blk_lt (g:=gb407) (o:=.cells #[.int .i64 x408000_1,.int .i64 x408001_1,.slice none 0 0] 24 (0,0)) (by (with_reducible repeat (first|refine blk_drewN ?_ _|refine blk_drew ?_|refine blk_alloc ?_ _));exact BK407.out)) : gb416≠gb407));have n12_:=Aside0.mk ((by rw [hg];exact Nat.ne_of_lt (blk_lt (g:=gb414) (o:=.cells #[.int .i64 (wrap64 (a0_0 + 1)),.int .i64 t410,u415002] 24 (0,0)) (by (with_reducible repeat (first|refine blk_drewN ?_ _|refine blk_drew ?_|refine blk_alloc ?_ _));exact BK414.out)) : gb414≠gb416));have n13_:=Aside0.mk ((by rw [hg];exact Nat.ne_of_gt (blk_lt (g:=gb414) (o:=.cells #[.int .i64 (wrap64 (a0_0 + 1)),.int .i64 t410,u415002] 24 (0,0)) (by (with_reducible repeat (first|refine blk_drewN ?_ _|refine blk_drew ?_|refine blk_alloc ?_ _));exact BK414.out)) : gb416≠gb414));clear HO_415002;clear BK406;clear BK407;clear BK414;clear HB;have HO_415002:=n0_;have BK406:=n1_;have BK407:=n2_;have BK414:=n3_;have HB:=n4_;have BK416:=n5_;have GW416:=n6_;have GE416:=n7_;have NB406_416:=n8_;have NB416_406:=n9_;have NB407_416:=n10_;have NB416_407:=n11_;have NB414_416:=n12_;have NB416_414:=n13_;clear n0_ n1_ n2_ n3_ n4_ n5_ n6_ n7_ n8_ n9_ n10_ n11_ n12_ n13_;clear hb hbox hg;have hnb58:=NB416_406.out;have hnc58:=NB406_416.out;have hnb59:=NB416_407.out;have hnc59:=NB407_416.out;have hnb60:=NB416_414.out;have hnc60:=NB414_416.out;have hcz61_0 : w57.cell? ⟨gb416,0,none⟩=some (.int .i64 0):=(blk_cell BK416.out 0).trans rfl;have hcz61_1 : w57.cell? ⟨gb416,1,none⟩=some (.int .i64 0):=(blk_cell BK416.out 1).trans rfl;have hcz61_2 : w57.cell? ⟨gb416,2,none⟩=some (.slice none 0 0):=(blk_cell BK416.out 2).trans rfl;have hcz61_3 : w57.cell? ⟨gb416,3,none⟩=some (.int .i64 0):=(blk_cell BK416.out 3).trans rfl;have hcz61_4 : w57.cell? ⟨gb416,4,none⟩=some (.int .i64 0):=(blk_cell BK416.out 4).trans rfl;have hcz61_5 : w57.cell? ⟨gb416,5,none⟩=some (.int .i64 0):=(blk_cell BK416.out 5).trans rfl;have hfz61_0:=blk_frozen BK416.out 0;have hfz61_1:=blk_frozen BK416.out 1;have hfz61_2:=blk_frozen BK416.out 2;have hfz61_3:=blk_frozen BK416.out 3;have hfz61_4:=blk_frozen BK416.out 4;have hfz61_5:=blk_frozen BK416.out 5)|((with_reducible refine gate_dst (N:=35) rfl ?_);refine Kd.R_lit (Kd.int .i64) _ 3 ?hg (N:=35) ?hd (xs:=([] : List Int)) (inner:=[]) (ok:=fun _ => True) (okp:=fun _ => True) ?hr ?hp (fun _ hk => hk) trivial (Below.refl _ _) (Nat.le_refl _) (by simp) ?_;(case hd => rfl);(case hg => rfl);(case hr => first|(go_simp;done)|(go_simp;rfl));(case hp => exact (Reps.none _ _));intro v418 w62 ho63 hb hg_ hnew_;clear hg_ hnew_;(first|rw [← Ny417.out] at ho63|(simp only [Int.reduceToNat] at ho63;rw [← Ny417.out] at ho63));have n0_:=Aside0.mk (Kd.S_elder' (by (with_reducible repeat (first|apply Kd.S_alloc|apply Kd.S_drewN|apply Kd.S_drew));exact (Kd.S_mono (Kd.S_far (p:=⟨gb416,5,none⟩) (Kd.S_far (p:=⟨gb416,4,none⟩) (Kd.S_far (p:=⟨gb416,3,none⟩) (Kd.S_far (p:=⟨gb416,2,none⟩) (Kd.S_far (p:=⟨gb416,1,none⟩) (Kd.S_far (p:=⟨gb416,0,none⟩) (Kd.S_mono HO_415002.out (fun k_ hk => (⟨hk,hk.2⟩ : _∧k_≠gb416))) (fun _ hk => hk.2) (.int .i64 ((rd_T46 l0_2 x5_1).f0))) (fun _ hk => hk.2) (.int .i64 ((rd_T46 l0_2 x5_1).f1))) (fun _ hk => hk.2) (.slice A415_2 ((rd_T46 l0_2 x5_1).f2).length c415_2)) (fun _ hk => hk.2) (.int .i64 ((rd_T46 l0_2 x5_1).f3))) (fun _ hk => hk.2) (.int .i64 ((rd_T46 l0_2 x5_1).f4))) (fun _ hk => hk.2) (.int .i64 ((rd_T46 l0_2 x5_1).f5))) (fun _ h_ => h_.1))) (Kd.R_base ho63) hb);have n1_:=Aside0.mk (Kd.R_lower ho63 (below_size (by repeat (first|(with_reducible first|exact HB.out|apply below_alloc|apply pw_below_drewN|apply below_drew1|refine below_set ?_ GE406.out|refine below_set ?_ GE407.out|refine below_set ?_ GE414.out|refine below_set ?_ GE416.out)|exact HB.out))));have n2_:=Aside0.mk (blk_below (g:=gb406) (o:=.cells #[.int .i64 a0_0,.int .i64 a0_1,.slice (some ad415) l0_2.length c0_2] 24 (0,0)) (by (with_reducible repeat (first|refine blk_drewN ?_ _|refine blk_drew ?_|refine blk_alloc ?_ _));refine blk_far ?_ NB406_416.out _;(with_reducible repeat (first|refine blk_drewN ?_ _|refine blk_drew ?_|refine blk_alloc ?_ _));refine blk_far ?_ NB406_416.out _;(with_reducible repeat (first|refine blk_drewN ?_ _|refine blk_drew ?_|refine blk_alloc ?_ _));refine blk_far ?_ NB406_416.out _;(with_reducible repeat (first|refine blk_drewN ?_ _|refine blk_drew ?_|refine blk_alloc ?_ _));refine blk_far ?_ NB406_416.out _;(with_reducible repeat (first|refine blk_drewN ?_ _|refine blk_drew ?_|refine blk_alloc ?_ _));refine blk_far ?_ NB406_416.out _;(with_reducible repeat (first|refine blk_drewN ?_ _|refine blk_drew ?_|refine blk_alloc ?_ _));refine blk_far ?_ NB406_416.out _;(with_reducible repeat (first|refine blk_drewN ?_ _|refine blk_drew ?_|refine blk_alloc ?_ _));exact BK406.out) hb);have n3_:=Aside0.mk (blk_below (g:=gb407) (o:=.cells #[.int .i64 x408000_1,.int .i64 x408001_1,.slice none 0 0] 24 (0,0)) (by (with_reducible repeat (first|refine blk_drewN ?_ _|refine blk_drew ?_|refine blk_alloc ?_ _));refine blk_far ?_ NB407_416.out _;(with_reducible repeat (first|refine blk_drewN ?_ _|refine blk_drew ?_|refine blk_alloc ?_ _));refine blk_far ?_ NB407_416.out _;(with_reducible repeat (first|refine blk_drewN ?_ _|refine blk_drew ?_|refine blk_alloc ?_ _));refine blk_far ?_ NB407_416.out _;(with_reducible repeat (first|refine blk_drewN ?_ _|refine blk_drew ?_|refine blk_alloc ?_ _));refine blk_far ?_ NB407_416.out _;(with_reducible repeat (first|refine blk_drewN ?_ _|refine blk_drew ?_|refine blk_alloc ?_ _));refine blk_far ?_ NB407_416.out _;(with_reducible repeat (first|refine blk_drewN ?_ _|refine blk_drew ?_|refine blk_alloc ?_ _));refine blk_far ?_ NB407_416.out _;(with_reducible repeat (first|refine blk_drewN ?_ _|refine blk_drew ?_|refine blk_alloc ?_ _));exact BK407.out) hb);have n4_:=Aside0.mk (blk_below (g:=gb414) (o:=.cells #[.int .i64 (wrap64 (a0_0 + 1)),.int .i64 t410,u415002] 24 (0,0)) (by (with_reducible repeat (first|refine blk_drewN ?_ _|refine blk_drew ?_|refine blk_alloc ?_ _));refine blk_far ?_ NB414_416.out _;(with_reducible repeat (first|refine blk_drewN ?_ _|refine blk_drew ?_|refine blk_alloc ?_ _));refine blk_far ?_ NB414_416.out _;(with_reducible repeat (first|refine blk_drewN ?_ _|refine blk_drew ?_|refine blk_alloc ?_ _));refine blk_far ?_ NB414_416.out _;(with_reducible repeat (first|refine blk_drewN ?_ _|refine blk_drew ?_|refine blk_alloc ?_ _));refine blk_far ?_ NB414_416.out _;(with_reducible repeat (first|refine blk_drewN ?_ _|refine blk_drew ?_|refine blk_alloc ?_ _));refine blk_far ?_ NB414_416.out _;(with_reducible repeat (first|refine blk_drewN ?_ _|refine blk_drew ?_|refine blk_alloc ?_ _));refine blk_far ?_ NB414_416.out _;(with_reducible repeat (first|refine blk_drewN ?_ _|refine blk_drew ?_|refine blk_alloc ?_ _));exact BK414.out) hb);have n5_:=Aside0.mk (blk_below (g:=gb416) (o:=.cells #[.int .i64 ((rd_T46 l0_2 x5_1).f0),.int .i64 ((rd_T46 l0_2 x5_1).f1),.slice A415_2 ((rd_T46 l0_2 x5_1).f2).length c415_2,.int .i64 ((rd_T46 l0_2 x5_1).f3),.int .i64 ((rd_T46 l0_2 x5_1).f4),.int .i64 ((rd_T46 l0_2 x5_1).f5)] 46 (0,0)) (by (with_reducible repeat (first|refine blk_drewN ?_ _|refine blk_drew ?_|refine blk_alloc ?_ _));refine blk_put (cs:=#[.int .i64 ((rd_T46 l0_2 x5_1).f0),.int .i64 ((rd_T46 l0_2 x5_1).f1),.slice A415_2 ((rd_T46 l0_2 x5_1).f2).length c415_2,.int .i64 ((rd_T46 l0_2 x5_1).f3),.int .i64 ((rd_T46 l0_2 x5_1).f4),.int .i64 0]) ?_ 5 _ rfl;(with_reducible repeat (first|refine blk_drewN ?_ _|refine blk_drew ?_|refine blk_alloc ?_ _));refine blk_put (cs:=#[.int .i64 ((rd_T46 l0_2 x5_1).f0),.int .i64 ((rd_T46 l0_2 x5_1).f1),.slice A415_2 ((rd_T46 l0_2 x5_1).f2).length c415_2,.int .i64 ((rd_T46 l0_2 x5_1).f3),.int .i64 0,.int .i64 0]) ?_ 4 _ rfl;(with_reducible repeat (first|refine blk_drewN ?_ _|refine blk_drew ?_|refine blk_alloc ?_ _));refine blk_put (cs:=#[.int .i64 ((rd_T46 l0_2 x5_1).f0),.int .i64 ((rd_T46 l0_2 x5_1).f1),.slice A415_2 ((rd_T46 l0_2 x5_1).f2).length c415_2,.int .i64 0,.int .i64 0,.int .i64 0]) ?_ 3 _ rfl;(with_reducible repeat (first|refine blk_drewN ?_ _|refine blk_drew ?_|refine blk_alloc ?_ _));refine blk_put (cs:=#[.int .i64 ((rd_T46 l0_2 x5_1).f0),.int .i64 ((rd_T46 l0_2 x5_1).f1),.slice none 0 0,.int .i64 0,.int .i64 0,.int .i64 0]) ?_ 2 _ rfl;(with_reducible repeat (first|refine blk_drewN ?_ _|refine blk_drew ?_|refine blk_alloc ?_ _));refine blk_put (cs:=#[.int .i64 ((rd_T46 l0_2 x5_1).f0),.int .i64 0,.slice none 0 0,.int .i64 0,.int .i64 0,.int .i64 0]) ?_ 1 _ rfl;(with_reducible repeat (first|refine blk_drewN ?_ _|refine blk_drew ?_|refine blk_alloc ?_ _));refine blk_put (cs:=#[.int .i64 0,.int .i64 0,.slice none 0 0,.int .i64 0,.int .i64 0,.int .i64 0]) ?_ 0 _ rfl;(with_reducible repeat (first|refine blk_drewN ?_ _|refine blk_drew ?_|refine blk_alloc ?_ _));exact BK416.out) hb);have n6_:=Aside0.mk (below_step (by repeat (first|(with_reducible first|exact HB.out|apply below_alloc|apply pw_below_drewN|apply below_drew1|refine below_set ?_ GE406.out|refine below_set ?_ GE407.out|refine below_set ?_ GE414.out|refine below_set ?_ GE416.out)|exact HB.out)) hb);clear HO_415002;clear BK406;clear BK407;clear BK414;clear BK416;clear HB;have HO_415002:=n0_;have HO419:=n1_;have BK406:=n2_;have BK407:=n3_;have BK414:=n4_;have BK416:=n5_;have HB:=n6_;clear n0_ n1_ n2_ n3_ n4_ n5_ n6_;clear hb ho63;have hcz64_0 : w62.cell? ⟨gb416,0,none⟩=some (.int .i64 ((rd_T46 l0_2 x5_1).f0)):=(blk_cell BK416.out 0).trans rfl;have hcz64_1 : w62.cell? ⟨gb416,1,none⟩=some (.int .i64 ((rd_T46 l0_2 x5_1).f1)):=(blk_cell BK416.out 1).trans rfl;have hcz64_2 : w62.cell? ⟨gb416,2,none⟩=some (.slice A415_2 ((rd_T46 l0_2 x5_1).f2).length c415_2):=(blk_cell BK416.out 2).trans rfl;have hcz64_3 : w62.cell? ⟨gb416,3,none⟩=some (.int .i64 ((rd_T46 l0_2 x5_1).f3)):=(blk_cell BK416.out 3).trans rfl;have hcz64_4 : w62.cell? ⟨gb416,4,none⟩=some (.int .i64 ((rd_T46 l0_2 x5_1).f4)):=(blk_cell BK416.out 4).trans rfl;have hcz64_5 : w62.cell? ⟨gb416,5,none⟩=some (.int .i64 ((rd_T46 l0_2 x5_1).f5)):=(blk_cell BK416.out 5).trans rfl;have hfz64_0:=blk_frozen BK416.out 0;have hfz64_1:=blk_frozen BK416.out 1;have hfz64_2:=blk_frozen BK416.out 2;have hfz64_3:=blk_frozen BK416.out 3;have hfz64_4:=blk_frozen BK416.out 4;have hfz64_5:=blk_frozen BK416.out 5)|((with_reducible refine gate_builtin (b:=.append) (xs:=#[.tmp 35,.tmp 37]) rfl ?_);at_builtin;refine Kd.R_append_rows (Kd.int .i64) (w0:=w) w.heap.size rfl (.tmp 35) (.tmp 37) 37 3 (.int .i64 0) 8 rfl Try.underlying37 info3 rfl (by decide) (by omega) v418 y417 ((rd_T46 l0_2 x5_1).f2) _ _ _ (fun _ => True) (fun _ => False) rfl rfl ?aO ?aR (fun _ _ h => h) (fun _ h => h.elim) ?aF ?aB ?aS ?aL ?_;(case aR => repeat (first|exact (Kd.C_below HR415_2.out HB.out)|(with_reducible refine Kd.C_alloc ?_ _)|(with_reducible refine Kd.C_drewN ?_ _)|(with_reducible refine Kd.C_drew ?_)));(case aB => exact (by repeat (first|(with_reducible first|exact HB.out|apply below_alloc|apply pw_below_drewN|apply below_drew1|refine below_set ?_ GE406.out|refine below_set ?_ GE407.out|refine below_set ?_ GE414.out|refine below_set ?_ GE416.out)|exact HB.out)));(case aF => exact (fun _ _ => trivial));(case aO => exact (by (with_reducible repeat (first|apply Kd.R_alloc|apply Kd.R_drewN|apply Kd.R_drew));exact HO419.out));(case aS => exact (below_size (by repeat (first|(with_reducible first|exact HB.out|apply below_alloc|apply pw_below_drewN|apply below_drew1|refine below_set ?_ GE406.out|refine below_set ?_ GE407.out|refine below_set ?_ GE414.out|refine below_set ?_ GE416.out)|exact HB.out))));(case aL => have:=LMc28.out;omega);intro v421 w65 ho hb hg hat;rw [← Ny420.out] at ho;have n0_:=Aside0.mk (Kd.S_after (ok:=(fun k_ => k_≠gb416)) (by (with_reducible repeat (first|apply Kd.S_alloc|apply Kd.S_drewN|apply Kd.S_drew));exact Kd.S_mono HO_415002.out (fun _ hk => ⟨hk.1.2,hk.2⟩)) hg hat);have n1_:=Aside0.mk (blk_grown (g:=gb406) (o:=.cells #[.int .i64 a0_0,.int .i64 a0_1,.slice (some ad415) l0_2.length c0_2] 24 (0,0)) (by (with_reducible repeat (first|refine blk_drewN ?_ _|refine blk_drew ?_|refine blk_alloc ?_ _));exact BK406.out) hg (Kd.R_ne HO419.out BK406.out (by decide)));have n2_:=Aside0.mk (blk_grown (g:=gb407) (o:=.cells #[.int .i64 x408000_1,.int .i64 x408001_1,.slice none 0 0] 24 (0,0)) (by (with_reducible repeat (first|refine blk_drewN ?_ _|refine blk_drew ?_|refine blk_alloc ?_ _));exact BK407.out) hg (Kd.R_ne HO419.out BK407.out (by decide)));have n3_:=Aside0.mk (blk_grown (g:=gb414) (o:=.cells #[.int .i64 (wrap64 (a0_0 + 1)),.int .i64 t410,u415002] 24 (0,0)) (by (with_reducible repeat (first|refine blk_drewN ?_ _|refine blk_drew ?_|refine blk_alloc ?_ _));exact BK414.out) hg (Kd.R_ne HO419.out BK414.out (by decide)));have n4_:=Aside0.mk (blk_grown (g:=gb416) (o:=.cells #[.int .i64 ((rd_T46 l0_2 x5_1).f0),.int .i64 ((rd_T46 l0_2 x5_1).f1),.slice A415_2 ((rd_T46 l0_2 x5_1).f2).length c415_2,.int .i64 ((rd_T46 l0_2 x5_1).f3),.int .i64 ((rd_T46 l0_2 x5_1).f4),.int .i64 ((rd_T46 l0_2 x5_1).f5)] 46 (0,0)) (by (with_reducible repeat (first|refine blk_drewN ?_ _|refine blk_drew ?_|refine blk_alloc ?_ _));exact BK416.out) hg (Kd.R_ne HO419.out BK416.out (by decide)));have n5_:=Aside0.mk (hb);have n6_:=Aside0.mk (ho);clear HO_415002;clear BK406;clear BK407;clear BK414;clear BK416;clear HB;clear HO419;have HO_415002:=n0_;have BK406:=n1_;have BK407:=n2_;have BK414:=n3_;have BK416:=n4_;have HB:=n5_;have HO422:=n6_;clear n0_ n1_ n2_ n3_ n4_ n5_ n6_;clear ho hb hg hat;have hcz66_0 : w65.cell? ⟨gb416,0,none⟩=some (.int .i64 ((rd_T46 l0_2 x5_1).f0)):=(blk_cell BK416.out 0).trans rfl;have hcz66_1 : w65.cell? ⟨gb416,1,none⟩=some (.int .i64 ((rd_T46 l0_2 x5_1).f1)):=(blk_cell BK416.out 1).trans rfl;have hcz66_2 : w65.cell? ⟨gb416,2,none⟩=some (.slice A415_2 ((rd_T46 l0_2 x5_1).f2).length c415_2):=(blk_cell BK416.out 2).trans rfl;have hcz66_3 : w65.cell? ⟨gb416,3,none⟩=some (.int .i64 ((rd_T46 l0_2 x5_1).f3)):=(blk_cell BK416.out 3).trans rfl;have hcz66_4 : w65.cell? ⟨gb416,4,none⟩=some (.int .i64 ((rd_T46 l0_2 x5_1).f4)):=(blk_cell BK416.out 4).trans rfl;have hcz66_5 : w65.cell? ⟨gb416,5,none⟩=some (.int .i64 ((rd_T46 l0_2 x5_1).f5)):=(blk_cell BK416.out 5).trans rfl;have hfz66_0:=blk_frozen BK416.out 0;have hfz66_1:=blk_frozen BK416.out 1;have hfz66_2:=blk_frozen BK416.out 2;have hfz66_3:=blk_frozen BK416.out 3;have hfz66_4:=blk_frozen BK416.out 4;have hfz66_5:=blk_frozen BK416.out 5)|((with_reducible refine gate_callee (f:=57) rfl ?_);refine goesL_ (some 44) rfl rfl Try.func57 (by kernel_rfl) rfl #[.int .i64 ((rd_T46 l0_2 x5_1).f1)] rfl (by (try simp only [List.map_toArray,List.map_cons,List.map_nil]);first|done|rfl|(simp only [List.length_drop,List.length_take];rfl)) ?_;(with_reducible refine (phasorref17_controlled.calls ((rd_T46 l0_2 x5_1).f1) t426 _ A52.out).mono ?_);rintro e w' ⟨rfl,⟨nd,rfl⟩⟩;refine ⟨_,rfl,?_⟩))
         (try simp only [Act.put,List.setIfInBounds_toArray,List.set_cons_zero,List.set_cons_succ])
         go_cut [56] (fun v56 wc => ∃ (kq : Nat) (x56_52 : Bool),v56=.bool x56_52∧Aside0 (phasorref17_Control.j1 kq x5_1 y420 t426 x56_52 a0_0 a0_1 l0_2 (wrap64 (a0_0 + 1)) t410 x415002_1 ((rd_T46 l0_2 x5_1).f0) ((rd_T46 l0_2 x5_1).f1) ((rd_T46 l0_2 x5_1).f2) ((rd_T46 l0_2 x5_1).f3) ((rd_T46 l0_2 x5_1).f4) ((rd_T46 l0_2 x5_1).f5)=some (r1,r2,r3,r4))∧Aside0 (kq≤k1)∧Aside0 (Kd.R (Kd.int .i64) 3 wc w.heap.size (fun _ => True) v421 y420)∧Aside0 (Kd.S k46 46 wc w.heap.size (fun k_ => some k_≠(v421 : Value).ownBlock∧k_≠gb416) u415002 x415002_1)∧Aside0 (wc.heap[gb406]?=some (.cells #[.int .i64 a0_0,.int .i64 a0_1,(.slice (some ad415) l0_2.length c0_2)] 24 (0,0)))∧Aside0 (wc.heap[gb407]?=some (.cells #[.int .i64 x408000_1,.int .i64 x408001_1,(.slice none 0 0)] 24 (0,0)))∧Aside0 (wc.heap[gb414]?=some (.cells #[.int .i64 (wrap64 (a0_0 + 1)),.int .i64 t410,u415002] 24 (0,0)))∧Aside0 (wc.heap[gb416]?=some (.cells #[.int .i64 ((rd_T46 l0_2 x5_1).f0),.int .i64 ((rd_T46 l0_2 x5_1).f1),(.slice A415_2 ((rd_T46 l0_2 x5_1).f2).length c415_2),.int .i64 ((rd_T46 l0_2 x5_1).f3),.int .i64 ((rd_T46 l0_2 x5_1).f4),.int .i64 ((rd_T46 l0_2 x5_1).f5)] 46 (0,0)))∧Aside0 (Below w.heap.size w wc))
         case first =>
          have H:=HC53.out
          clear HC53
          by_cases c67 : ((rd_T46 l0_2 x5_1).f0)=1
          ·rw [if_pos c67] at H
           have c67b0 : (((rd_T46 l0_2 x5_1).f0) == 1)=true:=beq_iff_eq.mpr c67
           have c67b1 : (((rd_T46 l0_2 x5_1).f0) != 1)=false:=bne_eq_false_iff_eq.mpr c67
           clear c67
           (first|rw [c67b0]|(simp only [i64_w,i32_w];rw [c67b0])|skip)
           by_cases c68 : ((rd_T46 l0_2 x5_1).f4)=(-1)
           ·rw [if_pos c68] at H
            have c68b0 : (((rd_T46 l0_2 x5_1).f4) == (-1))=true:=beq_iff_eq.mpr c68
            have c68b1 : (((rd_T46 l0_2 x5_1).f4) != (-1))=false:=bne_eq_false_iff_eq.mpr c68
            clear c68
            have H':=Aside0.mk H
            clear H
            have hnb69:=NB416_406.out
            have hnc69:=NB406_416.out
            have hnb70:=NB416_407.out
            have hnc70:=NB407_416.out
            have hnb71:=NB416_414.out
            have hnc71:=NB414_416.out
            have hcz72_0 : w65.cell? ⟨gb416,0,none⟩=some (.int .i64 ((rd_T46 l0_2 x5_1).f0)):=(blk_cell BK416.out 0).trans rfl
            have hcz72_1 : w65.cell? ⟨gb416,1,none⟩=some (.int .i64 ((rd_T46 l0_2 x5_1).f1)):=(blk_cell BK416.out 1).trans rfl
            have hcz72_2 : w65.cell? ⟨gb416,2,none⟩=some (.slice A415_2 ((rd_T46 l0_2 x5_1).f2).length c415_2):=(blk_cell BK416.out 2).trans rfl
            have hcz72_3 : w65.cell? ⟨gb416,3,none⟩=some (.int .i64 ((rd_T46 l0_2 x5_1).f3)):=(blk_cell BK416.out 3).trans rfl
            have hcz72_4 : w65.cell? ⟨gb416,4,none⟩=some (.int .i64 ((rd_T46 l0_2 x5_1).f4)):=(blk_cell BK416.out 4).trans rfl
            have hcz72_5 : w65.cell? ⟨gb416,5,none⟩=some (.int .i64 ((rd_T46 l0_2 x5_1).f5)):=(blk_cell BK416.out 5).trans rfl
            have hfz72_0:=blk_frozen BK416.out 0
            have hfz72_1:=blk_frozen BK416.out 1
            have hfz72_2:=blk_frozen BK416.out 2
            have hfz72_3:=blk_frozen BK416.out 3
            have hfz72_4:=blk_frozen BK416.out 4
            have hfz72_5:=blk_frozen BK416.out 5
            go_wp2
            go_meet
            case rel => exact ⟨_,((t426 == 0)),(by first|rfl|(simp;done)|(simp [*];done)),H',⟨by have:=HK1.out;first|omega|exact Nat.le_refl _⟩,⟨by (with_reducible repeat (first|apply Kd.R_alloc|apply Kd.R_drewN|apply Kd.R_drew));exact HO422.out⟩,⟨by (with_reducible repeat (first|apply Kd.S_alloc|apply Kd.S_drewN|apply Kd.S_drew));exact Kd.S_mono HO_415002.out (fun _ hk => ⟨hk.2,hk.1⟩)⟩,⟨by (with_reducible repeat (first|refine blk_drewN ?_ _|refine blk_drew ?_|refine blk_alloc ?_ _));exact BK406.out⟩,⟨by (with_reducible repeat (first|refine blk_drewN ?_ _|refine blk_drew ?_|refine blk_alloc ?_ _));exact BK407.out⟩,⟨by (with_reducible repeat (first|refine blk_drewN ?_ _|refine blk_drew ?_|refine blk_alloc ?_ _));exact BK414.out⟩,⟨by (with_reducible repeat (first|refine blk_drewN ?_ _|refine blk_drew ?_|refine blk_alloc ?_ _));exact BK416.out⟩,⟨by repeat (first|(with_reducible first|exact HB.out|apply below_alloc|apply pw_below_drewN|apply below_drew1|refine below_set ?_ GE406.out|refine below_set ?_ GE407.out|refine below_set ?_ GE414.out|refine below_set ?_ GE416.out)|exact HB.out)⟩⟩
           ·rw [if_neg c68] at H
            have c68b0 : (((rd_T46 l0_2 x5_1).f4) == (-1))=false:=beq_eq_false_iff_ne.mpr c68
            have c68b1 : (((rd_T46 l0_2 x5_1).f4) != (-1))=true:=bne_iff_ne.mpr c68
            have H':=Aside0.mk H
            clear H
            have hnb73:=NB416_406.out
            have hnc73:=NB406_416.out
            have hnb74:=NB416_407.out
            have hnc74:=NB407_416.out
            have hnb75:=NB416_414.out
            have hnc75:=NB414_416.out
            have hcz76_0 : w65.cell? ⟨gb416,0,none⟩=some (.int .i64 ((rd_T46 l0_2 x5_1).f0)):=(blk_cell BK416.out 0).trans rfl
            have hcz76_1 : w65.cell? ⟨gb416,1,none⟩=some (.int .i64 ((rd_T46 l0_2 x5_1).f1)):=(blk_cell BK416.out 1).trans rfl
            have hcz76_2 : w65.cell? ⟨gb416,2,none⟩=some (.slice A415_2 ((rd_T46 l0_2 x5_1).f2).length c415_2):=(blk_cell BK416.out 2).trans rfl
            have hcz76_3 : w65.cell? ⟨gb416,3,none⟩=some (.int .i64 ((rd_T46 l0_2 x5_1).f3)):=(blk_cell BK416.out 3).trans rfl
            have hcz76_4 : w65.cell? ⟨gb416,4,none⟩=some (.int .i64 ((rd_T46 l0_2 x5_1).f4)):=(blk_cell BK416.out 4).trans rfl
            have hcz76_5 : w65.cell? ⟨gb416,5,none⟩=some (.int .i64 ((rd_T46 l0_2 x5_1).f5)):=(blk_cell BK416.out 5).trans rfl
            have hfz76_0:=blk_frozen BK416.out 0
            have hfz76_1:=blk_frozen BK416.out 1
            have hfz76_2:=blk_frozen BK416.out 2
            have hfz76_3:=blk_frozen BK416.out 3
            have hfz76_4:=blk_frozen BK416.out 4
            have hfz76_5:=blk_frozen BK416.out 5
            go_wp2
            go_meet
            case rel => exact ⟨_,(true),(by first|rfl|(simp;done)|(simp [*];done)),H',⟨by have:=HK1.out;first|omega|exact Nat.le_refl _⟩,⟨by (with_reducible repeat (first|apply Kd.R_alloc|apply Kd.R_drewN|apply Kd.R_drew));exact HO422.out⟩,⟨by (with_reducible repeat (first|apply Kd.S_alloc|apply Kd.S_drewN|apply Kd.S_drew));exact Kd.S_mono HO_415002.out (fun _ hk => ⟨hk.2,hk.1⟩)⟩,⟨by (with_reducible repeat (first|refine blk_drewN ?_ _|refine blk_drew ?_|refine blk_alloc ?_ _));exact BK406.out⟩,⟨by (with_reducible repeat (first|refine blk_drewN ?_ _|refine blk_drew ?_|refine blk_alloc ?_ _));exact BK407.out⟩,⟨by (with_reducible repeat (first|refine blk_drewN ?_ _|refine blk_drew ?_|refine blk_alloc ?_ _));exact BK414.out⟩,⟨by (with_reducible repeat (first|refine blk_drewN ?_ _|refine blk_drew ?_|refine blk_alloc ?_ _));exact BK416.out⟩,⟨by repeat (first|(with_reducible first|exact HB.out|apply below_alloc|apply pw_below_drewN|apply below_drew1|refine below_set ?_ GE406.out|refine below_set ?_ GE407.out|refine below_set ?_ GE414.out|refine below_set ?_ GE416.out)|exact HB.out)⟩⟩
          ·rw [if_neg c67] at H
           have c67b0 : (((rd_T46 l0_2 x5_1).f0) == 1)=false:=beq_eq_false_iff_ne.mpr c67
           have c67b1 : (((rd_T46 l0_2 x5_1).f0) != 1)=true:=bne_iff_ne.mpr c67
           (first|rw [c67b0]|(simp only [i64_w,i32_w];rw [c67b0])|skip)
           have H':=Aside0.mk H
           clear H
           have hnb77:=NB416_406.out
           have hnc77:=NB406_416.out
           have hnb78:=NB416_407.out
           have hnc78:=NB407_416.out
           have hnb79:=NB416_414.out
           have hnc79:=NB414_416.out
           have hcz80_0 : w65.cell? ⟨gb416,0,none⟩=some (.int .i64 ((rd_T46 l0_2 x5_1).f0)):=(blk_cell BK416.out 0).trans rfl
           have hcz80_1 : w65.cell? ⟨gb416,1,none⟩=some (.int .i64 ((rd_T46 l0_2 x5_1).f1)):=(blk_cell BK416.out 1).trans rfl
           have hcz80_2 : w65.cell? ⟨gb416,2,none⟩=some (.slice A415_2 ((rd_T46 l0_2 x5_1).f2).length c415_2):=(blk_cell BK416.out 2).trans rfl
           have hcz80_3 : w65.cell? ⟨gb416,3,none⟩=some (.int .i64 ((rd_T46 l0_2 x5_1).f3)):=(blk_cell BK416.out 3).trans rfl
           have hcz80_4 : w65.cell? ⟨gb416,4,none⟩=some (.int .i64 ((rd_T46 l0_2 x5_1).f4)):=(blk_cell BK416.out 4).trans rfl
           have hcz80_5 : w65.cell? ⟨gb416,5,none⟩=some (.int .i64 ((rd_T46 l0_2 x5_1).f5)):=(blk_cell BK416.out 5).trans rfl
           have hfz80_0:=blk_frozen BK416.out 0
           have hfz80_1:=blk_frozen BK416.out 1
           have hfz80_2:=blk_frozen BK416.out 2
           have hfz80_3:=blk_frozen BK416.out 3
           have hfz80_4:=blk_frozen BK416.out 4
           have hfz80_5:=blk_frozen BK416.out 5
           go_wp2
           go_meet
           case rel => exact ⟨_,(true),(by first|rfl|(simp;done)|(simp [*];done)),H',⟨by have:=HK1.out;first|omega|exact Nat.le_refl _⟩,⟨by (with_reducible repeat (first|apply Kd.R_alloc|apply Kd.R_drewN|apply Kd.R_drew));exact HO422.out⟩,⟨by (with_reducible repeat (first|apply Kd.S_alloc|apply Kd.S_drewN|apply Kd.S_drew));exact Kd.S_mono HO_415002.out (fun _ hk => ⟨hk.2,hk.1⟩)⟩,⟨by (with_reducible repeat (first|refine blk_drewN ?_ _|refine blk_drew ?_|refine blk_alloc ?_ _));exact BK406.out⟩,⟨by (with_reducible repeat (first|refine blk_drewN ?_ _|refine blk_drew ?_|refine blk_alloc ?_ _));exact BK407.out⟩,⟨by (with_reducible repeat (first|refine blk_drewN ?_ _|refine blk_drew ?_|refine blk_alloc ?_ _));exact BK414.out⟩,⟨by (with_reducible repeat (first|refine blk_drewN ?_ _|refine blk_drew ?_|refine blk_alloc ?_ _));exact BK416.out⟩,⟨by repeat (first|(with_reducible first|exact HB.out|apply below_alloc|apply pw_below_drewN|apply below_drew1|refine below_set ?_ GE406.out|refine below_set ?_ GE407.out|refine below_set ?_ GE414.out|refine below_set ?_ GE416.out)|exact HB.out)⟩⟩
         case rest =>
          clear HC53
          try clear c1
          try clear c2
          try clear p2
          try clear c3
          try clear c4
          try clear c4b0
          try clear p4
          try clear q4
          try clear hx4
          try clear c5
          try clear c6
          try clear p6
          try clear c7
          try clear c15
          try clear c18
          try clear c21
          try clear c22
          try clear c24
          try clear c26
          try clear c26b0
          try clear c27
          try clear c27b0
          try clear c28
          try clear c29
          try clear c29b0
          try clear c29b1
          try clear c30
          try clear c31
          try clear c32
          try clear c35
          try clear c36
          try clear c37
          try clear c41
          try clear p41
          try clear q41
          try clear hx41
          try clear c46
          try clear c47
          try clear c54
          try clear c55
          try clear c57
          try clear c58
          try clear c59
          try clear c60
          try clear p64
          try clear c67
          try clear c67b0
          try clear c67b1
          try clear c68
          try clear c68b0
          try clear c68b1
          try clear c69
          try clear c70
          try clear c71
          try clear c73
          try clear c74
          try clear c75
          try clear c77
          try clear c78
          try clear c79
          try clear hcz10_0
          try clear hcz10_1
          try clear hcz10_2
          try clear hcz11_0
          try clear hcz11_1
          try clear hcz11_2
          try clear hcz16_0
          try clear hcz16_1
          try clear hcz16_2
          try clear hcz18_0
          try clear hcz18_1
          try clear hcz18_2
          try clear hcz23_0
          try clear hcz23_1
          try clear hcz23_2
          try clear hcz25_0
          try clear hcz25_1
          try clear hcz25_2
          try clear hcz33_0
          try clear hcz33_1
          try clear hcz33_2
          try clear hcz38_0
          try clear hcz38_1
          try clear hcz38_2
          try clear hcz38_3
          try clear hcz38_4
          try clear hcz38_5
          try clear hcz41_0
          try clear hcz41_1
          try clear hcz41_2
          try clear hcz41_3
          try clear hcz41_4
          try clear hcz41_5
          try clear hcz43_0
          try clear hcz43_1
          try clear hcz43_2
          try clear hcz43_3
          try clear hcz43_4
          try clear hcz43_5
          try clear hcz47_0
          try clear hcz47_1
          try clear hcz47_2
          try clear hcz48_0
          try clear hcz48_1
          try clear hcz48_2
          try clear hcz48_3
          try clear hcz48_4
          try clear hcz48_5
          try clear hcz51_0
          try clear hcz51_1
          try clear hcz51_2
          try clear hcz56_0
          try clear hcz56_1
          try clear hcz56_2
          try clear hcz61_0
          try clear hcz61_1
          try clear hcz61_2
          try clear hcz61_3
          try clear hcz61_4
          try clear hcz61_5
          try clear hcz64_0
          try clear hcz64_1
          try clear hcz64_2
          try clear hcz64_3
          try clear hcz64_4
          try clear hcz64_5
          try clear hcz66_0
          try clear hcz66_1
          try clear hcz66_2
          try clear hcz66_3
          try clear hcz66_4
          try clear hcz66_5
          try clear hcz72_0
          try clear hcz72_1
          try clear hcz72_2
          try clear hcz72_3
          try clear hcz72_4
          try clear hcz72_5
          try clear hcz76_0
          try clear hcz76_1
          try clear hcz76_2
          try clear hcz76_3
          try clear hcz76_4
          try clear hcz76_5
          try clear hcz80_0
          try clear hcz80_1
          try clear hcz80_2
          try clear hcz80_3
          try clear hcz80_4
          try clear hcz80_5
          try clear hcz8_0
          try clear hcz8_1
          try clear hcz8_2
          try clear hfz10_0
          try clear hfz10_1
          try clear hfz10_2
          try clear hfz11_0
          try clear hfz11_1
          try clear hfz11_2
          try clear hfz16_0
          try clear hfz16_1
          try clear hfz16_2
          try clear hfz18_0
          try clear hfz18_1
          try clear hfz18_2
          try clear hfz23_0
          try clear hfz23_1
          try clear hfz23_2
          try clear hfz25_0
          try clear hfz25_1
          try clear hfz25_2
          try clear hfz33_0
          try clear hfz33_1
          try clear hfz33_2
          try clear hfz38_0
          try clear hfz38_1
          try clear hfz38_2
          try clear hfz38_3
          try clear hfz38_4
          try clear hfz38_5
          try clear hfz41_0
          try clear hfz41_1
          try clear hfz41_2
          try clear hfz41_3
          try clear hfz41_4
          try clear hfz41_5
          try clear hfz43_0
          try clear hfz43_1
          try clear hfz43_2
          try clear hfz43_3
          try clear hfz43_4
          try clear hfz43_5
          try clear hfz47_0
          try clear hfz47_1
          try clear hfz47_2
          try clear hfz48_0
          try clear hfz48_1
          try clear hfz48_2
          try clear hfz48_3
          try clear hfz48_4
          try clear hfz48_5
          try clear hfz51_0
          try clear hfz51_1
          try clear hfz51_2
          try clear hfz56_0
          try clear hfz56_1
          try clear hfz56_2
          try clear hfz61_0
          try clear hfz61_1
          try clear hfz61_2
          try clear hfz61_3
          try clear hfz61_4
          try clear hfz61_5
          try clear hfz64_0
          try clear hfz64_1
          try clear hfz64_2
          try clear hfz64_3
          try clear hfz64_4
          try clear hfz64_5
          try clear hfz66_0
          try clear hfz66_1
          try clear hfz66_2
          try clear hfz66_3
          try clear hfz66_4
          try clear hfz66_5
          try clear hfz72_0
          try clear hfz72_1
          try clear hfz72_2
          try clear hfz72_3
          try clear hfz72_4
          try clear hfz72_5
          try clear hfz76_0
          try clear hfz76_1
          try clear hfz76_2
          try clear hfz76_3
          try clear hfz76_4
          try clear hfz76_5
          try clear hfz80_0
          try clear hfz80_1
          try clear hfz80_2
          try clear hfz80_3
          try clear hfz80_4
          try clear hfz80_5
          try clear hfz8_0
          try clear hfz8_1
          try clear hfz8_2
          try clear hx415_0
          try clear hx415_1
          try clear hx415_2
          try clear hx415_3
          try clear hx415_4
          try clear hx415_5
          try clear p2
          try clear p415
          try clear p6
          try clear q415
          obtain ⟨kq,x56_52,rfl,HA,HJ52,HO_7,HO_415002,BK406,BK407,BK414,BK416,HB⟩:=hcut
          cases kq with
          | zero => exact absurd HA.out (by simp [phasorref17_Control.j1])
          | succ kj52 =>
           have H:=HA.out
           clear HA
           simp only [phasorref17_Control.j1] at H
           by_cases c81 : x56_52=true
           ·subst c81
            have H1 : (some (0,0,([] : List (S46)),170))=some (r1,r2,r3,r4):=by rw [if_pos rfl] at H;exact H
            clear H
            have H:=H1
            clear H1
            simp only [Option.some.injEq,Prod.mk.injEq] at H
            obtain ⟨rfl,rfl,rfl,rfl⟩:=H
            have hnb82:=NB407_406.out
            have hnc82:=NB406_407.out
            have hnb83:=NB407_414.out
            have hnc83:=NB414_407.out
            have hnb84:=NB407_416.out
            have hnc84:=NB416_407.out
            have hcz85_0 : wc.cell? ⟨gb407,0,none⟩=some (.int .i64 x408000_1):=(blk_cell BK407.out 0).trans rfl
            have hcz85_1 : wc.cell? ⟨gb407,1,none⟩=some (.int .i64 x408001_1):=(blk_cell BK407.out 1).trans rfl
            have hcz85_2 : wc.cell? ⟨gb407,2,none⟩=some (.slice none 0 0):=(blk_cell BK407.out 2).trans rfl
            have hfz85_0:=blk_frozen BK407.out 0
            have hfz85_1:=blk_frozen BK407.out 1
            have hfz85_2:=blk_frozen BK407.out 2
            go_wp2
            refine bodyPost_ret (results_ct rfl _ _ gb407 24 #[.int .i64 0,.int .i64 0,.slice none 0 0] (0,0) _ rfl (by (with_reducible repeat (first|refine blk_drewN ?_ _|refine blk_drew ?_|refine blk_alloc ?_ _));refine blk_put (cs:=#[.int .i64 0,.int .i64 0,.slice none 0 0]) ?_ 2 _ rfl;(with_reducible repeat (first|refine blk_drewN ?_ _|refine blk_drew ?_|refine blk_alloc ?_ _));refine blk_put (cs:=#[.int .i64 0,.int .i64 x408001_1,.slice none 0 0]) ?_ 1 _ rfl;(with_reducible repeat (first|refine blk_drewN ?_ _|refine blk_drew ?_|refine blk_alloc ?_ _));refine blk_put (cs:=#[.int .i64 x408000_1,.int .i64 x408001_1,.slice none 0 0]) ?_ 0 _ rfl;(with_reducible repeat (first|refine blk_drewN ?_ _|refine blk_drew ?_|refine blk_alloc ?_ _));exact BK407.out) Try.underlying24 rfl (by kernel_rfl)) rfl ?_
            exact ⟨_,by first|rfl|(simp [errW_none,errW_some] <;> rfl)|(simp [*,errW_none,errW_some] <;> rfl),by first|exact Kd.S_nil _ _ _ _ _|exact Kd.N_nil _ _ _ _ _|exact Kd.V_nil _ _ _ _ _|exact Kd.Q_nil _ _ _ _ _|exact Kd.R_nil _ _ _ _ _,by repeat (first|(with_reducible first|exact HB.out|apply below_alloc|apply pw_below_drewN|apply below_drew1|refine below_set ?_ GE406.out|refine below_set ?_ GE407.out|refine below_set ?_ GE414.out|refine below_set ?_ GE416.out)|exact HB.out)⟩
           ·replace c81:=Bool.eq_false_iff.mpr c81
            subst c81
            have H1 : (if t426=1 then (if x415002_1.length < 2199023255552 then (phasorref17_Control.l0 kj52 (wrap64 (x5_1 + 1)) a0_0 a0_1 l0_2 (wrap64 (a0_0 + 1)) t410 (x415002_1 ++ [(⟨((rd_T46 l0_2 x5_1).f0),t426,y420,((rd_T46 l0_2 x5_1).f3),((rd_T46 l0_2 x5_1).f4),((rd_T46 l0_2 x5_1).f5)⟩ : S46)])) else (none)) else ((some (([a0_0] : List Int) : List Int)).bind fun y430 => (if y430.length + ((rd_T46 l0_2 x5_1).f2).length < 17592186044416 then (if x415002_1.length < 2199023255552 then (phasorref17_Control.l0 kj52 (wrap64 (x5_1 + 1)) a0_0 a0_1 l0_2 (wrap64 (a0_0 + 1)) t410 (x415002_1 ++ [(⟨((rd_T46 l0_2 x5_1).f0),t426,(y430 ++ ((rd_T46 l0_2 x5_1).f2)),((rd_T46 l0_2 x5_1).f3),((rd_T46 l0_2 x5_1).f4),((rd_T46 l0_2 x5_1).f5)⟩ : S46)])) else (none)) else (none))))=some (r1,r2,r3,r4):=by rw [if_neg (show ¬ (false=true) by decide)] at H;exact H
            clear H
            have H:=H1
            clear H1
            by_cases c86 : t426=1
            ·rw [if_pos c86] at H
             have c86b0 : (t426 == 1)=true:=beq_iff_eq.mpr c86
             have c86b1 : (t426 != 1)=false:=bne_eq_false_iff_eq.mpr c86
             clear c86
             by_cases c87 : x415002_1.length < 2199023255552
             ·rw [if_pos c87] at H
              have LMc87:=Aside0.mk c87
              clear c87
              obtain ⟨y427,hy427⟩ : ∃ y_ : List (S46),y_=(x415002_1 ++ [(⟨((rd_T46 l0_2 x5_1).f0),t426,y420,((rd_T46 l0_2 x5_1).f3),((rd_T46 l0_2 x5_1).f4),((rd_T46 l0_2 x5_1).f5)⟩ : S46)]):=⟨_,rfl⟩
              replace H : (phasorref17_Control.l0 kj52 (wrap64 (x5_1 + 1)) a0_0 a0_1 l0_2 (wrap64 (a0_0 + 1)) t410 y427)=some (r1,r2,r3,r4):=by first|(rw [hy427];with_reducible exact H)|(have H2_:=(Option.bind_some _ _).symm.trans H;rw [hy427];with_reducible exact H2_)|(have H2_:=(Option.bind_some _ _).symm.trans H;with_reducible exact H2_)|with_reducible exact H|(rw [hy427];exact H)|exact H
              have Ny427:=Aside0.mk hy427
              clear hy427
              have H':=Aside0.mk H
              clear H
              have hnb88:=NB416_406.out
              have hnc88:=NB406_416.out
              have hnb89:=NB416_407.out
              have hnc89:=NB407_416.out
              have hnb90:=NB416_414.out
              have hnc90:=NB414_416.out
              have hcz91_0 : wc.cell? ⟨gb416,0,none⟩=some (.int .i64 ((rd_T46 l0_2 x5_1).f0)):=(blk_cell BK416.out 0).trans rfl
              have hcz91_1 : wc.cell? ⟨gb416,1,none⟩=some (.int .i64 ((rd_T46 l0_2 x5_1).f1)):=(blk_cell BK416.out 1).trans rfl
              have hcz91_2 : wc.cell? ⟨gb416,2,none⟩=some (.slice A415_2 ((rd_T46 l0_2 x5_1).f2).length c415_2):=(blk_cell BK416.out 2).trans rfl
              have hcz91_3 : wc.cell? ⟨gb416,3,none⟩=some (.int .i64 ((rd_T46 l0_2 x5_1).f3)):=(blk_cell BK416.out 3).trans rfl
              have hcz91_4 : wc.cell? ⟨gb416,4,none⟩=some (.int .i64 ((rd_T46 l0_2 x5_1).f4)):=(blk_cell BK416.out 4).trans rfl
              have hcz91_5 : wc.cell? ⟨gb416,5,none⟩=some (.int .i64 ((rd_T46 l0_2 x5_1).f5)):=(blk_cell BK416.out 5).trans rfl
              have hfz91_0:=blk_frozen BK416.out 0
              have hfz91_1:=blk_frozen BK416.out 1
              have hfz91_2:=blk_frozen BK416.out 2
              have hfz91_3:=blk_frozen BK416.out 3
              have hfz91_4:=blk_frozen BK416.out 4
              have hfz91_5:=blk_frozen BK416.out 5
              go_wp2_with (first|((with_reducible refine gate_store (t:=44) (p:=67) rfl ?_);refine store_event (t:=44) (p:=67) (v:=?vo_w92) (w1:=(wc.setCell ⟨gb416,1,none⟩ (.int .i64 t426))) ?hg ?ho ?hn ?hr ?_;(case ho => rfl);(case hg => rfl);(case hn => rfl);(case hr => first|(go_simp;done)|(go_simp;rfl));intro w92 hw;have n0_ : Aside0 (Kd.R (Kd.int .i64) 3 w92 w.heap.size (fun _ => True) v421 y420):=⟨(by rw [hw];exact (by (with_reducible repeat (first|apply Kd.R_alloc|apply Kd.R_drewN|apply Kd.R_drew));exact Kd.R_mono (Kd.R_far (p:=⟨gb416,1,none⟩) (Kd.R_types HO_7.out BK416.out (by decide)) (fun _ hk => hk.2) (.int .i64 t426)) (fun _ hk => trivial)))⟩;have n1_ : Aside0 (Kd.S k46 46 w92 w.heap.size (fun k_ => some k_≠(v421 : Value).ownBlock∧k_≠gb416) u415002 x415002_1):=⟨(by rw [hw];exact (by (with_reducible repeat (first|apply Kd.S_alloc|apply Kd.S_drewN|apply Kd.S_drew));exact Kd.S_mono (Kd.S_far (p:=⟨gb416,1,none⟩) (Kd.S_mono HO_415002.out (fun k_ hk => (⟨hk,hk.2⟩ : _∧k_≠gb416))) (fun _ hk => hk.2) (.int .i64 t426)) (fun _ hk => ⟨hk.1.1,hk.1.2⟩)))⟩;have n2_ : Aside0 (w92.heap[gb406]?=some (.cells #[.int .i64 a0_0,.int .i64 a0_1,.slice (some ad415) l0_2.length c0_2] 24 (0,0))):=⟨(by rw [hw];exact (by (with_reducible repeat (first|refine blk_drewN ?_ _|refine blk_drew ?_|refine blk_alloc ?_ _));refine blk_far ?_ NB406_416.out _;(with_reducible repeat (first|refine blk_drewN ?_ _|refine blk_drew ?_|refine blk_alloc ?_ _));exact BK406.out))⟩;have n3_ : Aside0 (w92.heap[gb407]?=some (.cells #[.int .i64 x408000_1,.int .i64 x408001_1,.slice none 0 0] 24 (0,0))):=⟨(by rw [hw];exact (by (with_reducible repeat (first|refine blk_drewN ?_ _|refine blk_drew ?_|refine blk_alloc ?_ _));refine blk_far ?_ NB407_416.out _;(with_reducible repeat (first|refine blk_drewN ?_ _|refine blk_drew ?_|refine blk_alloc ?_ _));exact BK407.out))⟩;have n4_ : Aside0 (w92.heap[gb414]?=some (.cells #[.int .i64 (wrap64 (a0_0 + 1)),.int .i64 t410,u415002] 24 (0,0))):=⟨(by rw [hw];exact (by (with_reducible repeat (first|refine blk_drewN ?_ _|refine blk_drew ?_|refine blk_alloc ?_ _));refine blk_far ?_ NB414_416.out _;(with_reducible repeat (first|refine blk_drewN ?_ _|refine blk_drew ?_|refine blk_alloc ?_ _));exact BK414.out))⟩;have n5_ : Aside0 (w92.heap[gb416]?=some (.cells #[.int .i64 ((rd_T46 l0_2 x5_1).f0),.int .i64 t426,.slice A415_2 ((rd_T46 l0_2 x5_1).f2).length c415_2,.int .i64 ((rd_T46 l0_2 x5_1).f3),.int .i64 ((rd_T46 l0_2 x5_1).f4),.int .i64 ((rd_T46 l0_2 x5_1).f5)] 46 (0,0))):=⟨(by rw [hw];exact (by (with_reducible repeat (first|refine blk_drewN ?_ _|refine blk_drew ?_|refine blk_alloc ?_ _));refine blk_put (cs:=#[.int .i64 ((rd_T46 l0_2 x5_1).f0),.int .i64 ((rd_T46 l0_2 x5_1).f1),.slice A415_2 ((rd_T46 l0_2 x5_1).f2).length c415_2,.int .i64 ((rd_T46 l0_2 x5_1).f3),.int .i64 ((rd_T46 l0_2 x5_1).f4),.int .i64 ((rd_T46 l0_2 x5_1).f5)]) ?_ 1 _ rfl;(with_reducible repeat (first|refine blk_drewN ?_ _|refine blk_drew ?_|refine blk_alloc ?_ _));exact BK416.out))⟩;have n6_ : Aside0 (Below w.heap.size w w92):=⟨(by rw [hw];exact (by repeat (first|(with_reducible first|exact HB.out|apply below_alloc|apply pw_below_drewN|apply below_drew1|refine below_set ?_ GE406.out|refine below_set ?_ GE407.out|refine below_set ?_ GE414.out|refine below_set ?_ GE416.out)|exact HB.out)))⟩;clear hw;clear HO_7;clear HO_415002;clear BK406;clear BK407;clear BK414;clear BK416;clear HB;have HO_7:=n0_;have HO_415002:=n1_;have BK406:=n2_;have BK407:=n3_;have BK414:=n4_;have BK416:=n5_;have HB:=n6_;clear n0_ n1_ n2_ n3_ n4_ n5_ n6_;obtain ⟨Ao93,co93,eo93⟩:=Kd.R_slice HO_7.out;subst eo93;have hcz94_0 : w92.cell? ⟨gb416,0,none⟩=some (.int .i64 ((rd_T46 l0_2 x5_1).f0)):=(blk_cell BK416.out 0).trans rfl;have hcz94_1 : w92.cell? ⟨gb416,1,none⟩=some (.int .i64 t426):=(blk_cell BK416.out 1).trans rfl;have hcz94_2 : w92.cell? ⟨gb416,2,none⟩=some (.slice A415_2 ((rd_T46 l0_2 x5_1).f2).length c415_2):=(blk_cell BK416.out 2).trans rfl;have hcz94_3 : w92.cell? ⟨gb416,3,none⟩=some (.int .i64 ((rd_T46 l0_2 x5_1).f3)):=(blk_cell BK416.out 3).trans rfl;have hcz94_4 : w92.cell? ⟨gb416,4,none⟩=some (.int .i64 ((rd_T46 l0_2 x5_1).f4)):=(blk_cell BK416.out 4).trans rfl;have hcz94_5 : w92.cell? ⟨gb416,5,none⟩=some (.int .i64 ((rd_T46 l0_2 x5_1).f5)):=(blk_cell BK416.out 5).trans rfl;have hfz94_0:=blk_frozen BK416.out 0;have hfz94_1:=blk_frozen BK416.out 1;have hfz94_2:=blk_frozen BK416.out 2;have hfz94_3:=blk_frozen BK416.out 3;have hfz94_4:=blk_frozen BK416.out 4;have hfz94_5:=blk_frozen BK416.out 5)|((with_reducible refine gate_store (t:=37) (p:=69) rfl ?_);refine store_event (t:=37) (p:=69) (v:=?vo_w95) (w1:=(w92.setCell ⟨gb416,2,none⟩ (.slice Ao93 y420.length co93))) ?hg ?ho ?hn ?hr ?_;(case ho => rfl);(case hg => rfl);(case hn => rfl);(case hr => first|(go_simp;done)|(go_simp;rfl));intro w95 hw;have n0_ : Aside0 (Kd.R (Kd.int .i64) 3 w95 w.heap.size (fun _ => True) (.slice Ao93 y420.length co93) y420):=⟨(by rw [hw];exact (by (with_reducible repeat (first|apply Kd.R_alloc|apply Kd.R_drewN|apply Kd.R_drew));exact Kd.R_mono (Kd.R_far (p:=⟨gb416,2,none⟩) (Kd.R_types HO_7.out BK416.out (by decide)) (fun _ hk => hk.2) (.slice Ao93 y420.length co93)) (fun _ hk => trivial)))⟩;have n1_ : Aside0 (Kd.S k46 46 w95 w.heap.size (fun k_ => some k_≠(.slice Ao93 y420.length co93 : Value).ownBlock∧k_≠gb416) u415002 x415002_1):=⟨(by rw [hw];exact (by (with_reducible repeat (first|apply Kd.S_alloc|apply Kd.S_drewN|apply Kd.S_drew));exact Kd.S_mono (Kd.S_far (p:=⟨gb416,2,none⟩) (Kd.S_mono HO_415002.out (fun k_ hk => (⟨hk,hk.2⟩ : _∧k_≠gb416))) (fun _ hk => hk.2) (.slice Ao93 y420.length co93)) (fun _ hk => ⟨hk.1.1,hk.1.2⟩)))⟩;have n2_ : Aside0 (w95.heap[gb406]?=some (.cells #[.int .i64 a0_0,.int .i64 a0_1,.slice (some ad415) l0_2.length c0_2] 24 (0,0))):=⟨(by rw [hw];exact (by (with_reducible repeat (first|refine blk_drewN ?_ _|refine blk_drew ?_|refine blk_alloc ?_ _));refine blk_far ?_ NB406_416.out _;(with_reducible repeat (first|refine blk_drewN ?_ _|refine blk_drew ?_|refine blk_alloc ?_ _));exact BK406.out))⟩;have n3_ : Aside0 (w95.heap[gb407]?=some (.cells #[.int .i64 x408000_1,.int .i64 x408001_1,.slice none 0 0] 24 (0,0))):=⟨(by rw [hw];exact (by (with_reducible repeat (first|refine blk_drewN ?_ _|refine blk_drew ?_|refine blk_alloc ?_ _));refine blk_far ?_ NB407_416.out _;(with_reducible repeat (first|refine blk_drewN ?_ _|refine blk_drew ?_|refine blk_alloc ?_ _));exact BK407.out))⟩;have n4_ : Aside0 (w95.heap[gb414]?=some (.cells #[.int .i64 (wrap64 (a0_0 + 1)),.int .i64 t410,u415002] 24 (0,0))):=⟨(by rw [hw];exact (by (with_reducible repeat (first|refine blk_drewN ?_ _|refine blk_drew ?_|refine blk_alloc ?_ _));refine blk_far ?_ NB414_416.out _;(with_reducible repeat (first|refine blk_drewN ?_ _|refine blk_drew ?_|refine blk_alloc ?_ _));exact BK414.out))⟩;have n5_ : Aside0 (w95.heap[gb416]?=some (.cells #[.int .i64 ((rd_T46 l0_2 x5_1).f0),.int .i64 t426,.slice Ao93 y420.length co93,.int .i64 ((rd_T46 l0_2 x5_1).f3),.int .i64 ((rd_T46 l0_2 x5_1).f4),.int .i64 ((rd_T46 l0_2 x5_1).f5)] 46 (0,0))):=⟨(by rw [hw];exact (by (with_reducible repeat (first|refine blk_drewN ?_ _|refine blk_drew ?_|refine blk_alloc ?_ _));refine blk_put (cs:=#[.int .i64 ((rd_T46 l0_2 x5_1).f0),.int .i64 t426,.slice A415_2 ((rd_T46 l0_2 x5_1).f2).length c415_2,.int .i64 ((rd_T46 l0_2 x5_1).f3),.int .i64 ((rd_T46 l0_2 x5_1).f4),.int .i64 ((rd_T46 l0_2 x5_1).f5)]) ?_ 2 _ rfl;(with_reducible repeat (first|refine blk_drewN ?_ _|refine blk_drew ?_|refine blk_alloc ?_ _));exact BK416.out))⟩;have n6_ : Aside0 (Below w.heap.size w w95):=⟨(by rw [hw];exact (by repeat (first|(with_reducible first|exact HB.out|apply below_alloc|apply pw_below_drewN|apply below_drew1|refine below_set ?_ GE406.out|refine below_set ?_ GE407.out|refine below_set ?_ GE414.out|refine below_set ?_ GE416.out)|exact HB.out)))⟩;clear hw;clear HO_7;clear HO_415002;clear BK406;clear BK407;clear BK414;clear BK416;clear HB;have HO_7:=n0_;have HO_415002:=n1_;have BK406:=n2_;have BK407:=n3_;have BK414:=n4_;have BK416:=n5_;have HB:=n6_;clear n0_ n1_ n2_ n3_ n4_ n5_ n6_;have hnb96:=NB414_406.out;have hnc96:=NB406_414.out;have hnb97:=NB414_407.out;have hnc97:=NB407_414.out;have hcz98_0 : w95.cell? ⟨gb414,0,none⟩=some (.int .i64 (wrap64 (a0_0 + 1))):=(blk_cell BK414.out 0).trans rfl;have hcz98_1 : w95.cell? ⟨gb414,1,none⟩=some (.int .i64 t410):=(blk_cell BK414.out 1).trans rfl;have hcz98_2 : w95.cell? ⟨gb414,2,none⟩=some (u415002):=(blk_cell BK414.out 2).trans rfl;have hfz98_0:=blk_frozen BK414.out 0;have hfz98_1:=blk_frozen BK414.out 1;have hfz98_2:=blk_frozen BK414.out 2;have hcz99_0 : w95.cell? ⟨gb416,0,none⟩=some (.int .i64 ((rd_T46 l0_2 x5_1).f0)):=(blk_cell BK416.out 0).trans rfl;have hcz99_1 : w95.cell? ⟨gb416,1,none⟩=some (.int .i64 t426):=(blk_cell BK416.out 1).trans rfl;have hcz99_2 : w95.cell? ⟨gb416,2,none⟩=some (.slice Ao93 y420.length co93):=(blk_cell BK416.out 2).trans rfl;have hcz99_3 : w95.cell? ⟨gb416,3,none⟩=some (.int .i64 ((rd_T46 l0_2 x5_1).f3)):=(blk_cell BK416.out 3).trans rfl;have hcz99_4 : w95.cell? ⟨gb416,4,none⟩=some (.int .i64 ((rd_T46 l0_2 x5_1).f4)):=(blk_cell BK416.out 4).trans rfl;have hcz99_5 : w95.cell? ⟨gb416,5,none⟩=some (.int .i64 ((rd_T46 l0_2 x5_1).f5)):=(blk_cell BK416.out 5).trans rfl;have hfz99_0:=blk_frozen BK416.out 0;have hfz99_1:=blk_frozen BK416.out 1;have hfz99_2:=blk_frozen BK416.out 2;have hfz99_3:=blk_frozen BK416.out 3;have hfz99_4:=blk_frozen BK416.out 4;have hfz99_5:=blk_frozen BK416.out 5)|((with_reducible refine gate_builtin (b:=.append) (xs:=#[.tmp 71,.tmp 73]) rfl ?_);at_builtin;refine Kd.S_append k46 (w0:=w) w.heap.size rfl (.tmp 71) (.tmp 73) 22 46 (.agg #[(.int .i64 0),(.int .i64 0),(.slice none 0 0),(.int .i64 0),(.int .i64 0),(.int .i64 0)]) 64 rfl Try.underlying22 info46 rfl (by decide) (by omega) u415002 x415002_1 (⟨((rd_T46 l0_2 x5_1).f0),t426,y420,((rd_T46 l0_2 x5_1).f3),((rd_T46 l0_2 x5_1).f4),((rd_T46 l0_2 x5_1).f5)⟩ : S46) [.int .i64 ((rd_T46 l0_2 x5_1).f0),.int .i64 t426,.slice Ao93 y420.length co93,.int .i64 ((rd_T46 l0_2 x5_1).f3),.int .i64 ((rd_T46 l0_2 x5_1).f4),.int .i64 ((rd_T46 l0_2 x5_1).f5)] (fun k_ => k_≠gb416) (fun k_ => some k_=(.slice Ao93 y420.length co93 : Value).ownBlock) rfl rfl ?aP (fun k_ hk_ => ((Kd.R_mono (ok':=fun k_ => ((fun k_ => k_≠gb416)) k_∧some k_≠(u415002 : Value).ownBlock) (Kd.R_types (Kd.R_apart' (HO_7.out) (Kd.S_typed HO_415002.out) (by decide)) BK416.out (by decide)) (fun k_ hk => ⟨hk.2,hk.1.2⟩))).1 k_ hk_.symm) ?aF ?aO ?aB ?aS ?aL ?_;(case aP => exact k46_mkM _ _ _ (⟨((rd_T46 l0_2 x5_1).f0),t426,y420,((rd_T46 l0_2 x5_1).f3),((rd_T46 l0_2 x5_1).f4),((rd_T46 l0_2 x5_1).f5)⟩ : S46) (Kd.R_mono (Kd.R_tight rfl (Kd.R_mono (ok':=fun k_ => ((fun k_ => k_≠gb416)) k_∧some k_≠(u415002 : Value).ownBlock) (Kd.R_types (Kd.R_apart' (HO_7.out) (Kd.S_typed HO_415002.out) (by decide)) BK416.out (by decide)) (fun k_ hk => ⟨hk.2,hk.1.2⟩))) (fun _ h_ => h_)));(case aB => exact (by repeat (first|(with_reducible first|exact HB.out|apply below_alloc|apply pw_below_drewN|apply below_drew1|refine below_set ?_ GE406.out|refine below_set ?_ GE407.out|refine below_set ?_ GE414.out|refine below_set ?_ GE416.out)|exact HB.out)));(case aF => exact (fun k_ hk => Kd.freshB (g:=gb416) (o:=.cells #[.int .i64 ((rd_T46 l0_2 x5_1).f0),.int .i64 t426,.slice Ao93 y420.length co93,.int .i64 ((rd_T46 l0_2 x5_1).f3),.int .i64 ((rd_T46 l0_2 x5_1).f4),.int .i64 ((rd_T46 l0_2 x5_1).f5)] 46 (0,0)) (by (with_reducible repeat (first|refine blk_drewN ?_ _|refine blk_drew ?_|refine blk_alloc ?_ _));exact BK416.out) k_ hk));(case aO => exact (by (with_reducible repeat (first|apply Kd.S_alloc|apply Kd.S_drewN|apply Kd.S_drew));exact Kd.S_mono HO_415002.out (fun k_ hk => ⟨hk.2,fun e_ => hk.1 e_⟩)));(case aS => exact (below_size (by repeat (first|(with_reducible first|exact HB.out|apply below_alloc|apply pw_below_drewN|apply below_drew1|refine below_set ?_ GE406.out|refine below_set ?_ GE407.out|refine below_set ?_ GE414.out|refine below_set ?_ GE416.out)|exact HB.out))));(case aL => have:=LMc87.out;omega);intro v428 w100 ho hb hg hat;rw [← Ny427.out] at ho;have n0_:=Aside0.mk (blk_grown (g:=gb406) (o:=.cells #[.int .i64 a0_0,.int .i64 a0_1,.slice (some ad415) l0_2.length c0_2] 24 (0,0)) (by (with_reducible repeat (first|refine blk_drewN ?_ _|refine blk_drew ?_|refine blk_alloc ?_ _));exact BK406.out) hg (Kd.S_ne HO_415002.out BK406.out (by decide)));have n1_:=Aside0.mk (blk_grown (g:=gb407) (o:=.cells #[.int .i64 x408000_1,.int .i64 x408001_1,.slice none 0 0] 24 (0,0)) (by (with_reducible repeat (first|refine blk_drewN ?_ _|refine blk_drew ?_|refine blk_alloc ?_ _));exact BK407.out) hg (Kd.S_ne HO_415002.out BK407.out (by decide)));have n2_:=Aside0.mk (blk_grown (g:=gb414) (o:=.cells #[.int .i64 (wrap64 (a0_0 + 1)),.int .i64 t410,u415002] 24 (0,0)) (by (with_reducible repeat (first|refine blk_drewN ?_ _|refine blk_drew ?_|refine blk_alloc ?_ _));exact BK414.out) hg (Kd.S_ne HO_415002.out BK414.out (by decide)));have n3_:=Aside0.mk (blk_grown (g:=gb416) (o:=.cells #[.int .i64 ((rd_T46 l0_2 x5_1).f0),.int .i64 t426,.slice Ao93 y420.length co93,.int .i64 ((rd_T46 l0_2 x5_1).f3),.int .i64 ((rd_T46 l0_2 x5_1).f4),.int .i64 ((rd_T46 l0_2 x5_1).f5)] 46 (0,0)) (by (with_reducible repeat (first|refine blk_drewN ?_ _|refine blk_drew ?_|refine blk_alloc ?_ _));exact BK416.out) hg (Kd.S_away HO_415002.out (fun _ hk => hk.2)));have n4_:=Aside0.mk (hb);have n5_:=Aside0.mk (ho);clear BK406;clear BK407;clear BK414;clear BK416;clear HB;clear HO_415002;clear HO_7;have BK406:=n0_;have BK407:=n1_;have BK414:=n2_;have BK416:=n3_;have HB:=n4_;have HO429:=n5_;clear n0_ n1_ n2_ n3_ n4_ n5_;clear ho hb hg hat;obtain ⟨Ao101,co101,eo101⟩:=Kd.S_slice HO429.out;subst eo101;have hcz102_0 : w100.cell? ⟨gb414,0,none⟩=some (.int .i64 (wrap64 (a0_0 + 1))):=(blk_cell BK414.out 0).trans rfl;have hcz102_1 : w100.cell? ⟨gb414,1,none⟩=some (.int .i64 t410):=(blk_cell BK414.out 1).trans rfl;have hcz102_2 : w100.cell? ⟨gb414,2,none⟩=some (u415002):=(blk_cell BK414.out 2).trans rfl;have hfz102_0:=blk_frozen BK414.out 0;have hfz102_1:=blk_frozen BK414.out 1;have hfz102_2:=blk_frozen BK414.out 2))
              go_roundg kj52
              case measure => have:=HK1.out;have:=HJ52.out;omega
              case rel => exact ⟨(wrap64 (x5_1 + 1)),(x408000_1),(x408001_1),(y427),(.slice Ao101 y427.length co101),(by first|rfl|(simp;done)|(simp [*];done)),H',⟨by have:=HK1.out;have:=HJ52.out;omega⟩,⟨by (with_reducible repeat (first|apply Kd.S_alloc|apply Kd.S_drewN|apply Kd.S_drew));exact Kd.S_mono (Kd.S_far (p:=⟨gb414,2,none⟩) (Kd.S_types HO429.out BK414.out (by decide)) (fun _ hk => hk.2) (.slice Ao101 y427.length co101)) (fun _ hk => trivial)⟩,⟨by (with_reducible repeat (first|refine blk_drewN ?_ _|refine blk_drew ?_|refine blk_alloc ?_ _));refine blk_far ?_ NB406_414.out _;(with_reducible repeat (first|refine blk_drewN ?_ _|refine blk_drew ?_|refine blk_alloc ?_ _));exact BK406.out⟩,⟨by (with_reducible repeat (first|refine blk_drewN ?_ _|refine blk_drew ?_|refine blk_alloc ?_ _));refine blk_far ?_ NB407_414.out _;(with_reducible repeat (first|refine blk_drewN ?_ _|refine blk_drew ?_|refine blk_alloc ?_ _));exact BK407.out⟩,⟨by (with_reducible repeat (first|refine blk_drewN ?_ _|refine blk_drew ?_|refine blk_alloc ?_ _));refine blk_put (cs:=#[.int .i64 (wrap64 (a0_0 + 1)),.int .i64 t410,u415002]) ?_ 2 _ rfl;(with_reducible repeat (first|refine blk_drewN ?_ _|refine blk_drew ?_|refine blk_alloc ?_ _));exact BK414.out⟩,⟨by repeat (first|(with_reducible first|exact HB.out|apply below_alloc|apply pw_below_drewN|apply below_drew1|refine below_set ?_ GE406.out|refine below_set ?_ GE407.out|refine below_set ?_ GE414.out|refine below_set ?_ GE416.out)|exact HB.out)⟩⟩
             ·rw [if_neg c87] at H
              exact absurd H (by simp)
            ·rw [if_neg c86] at H
             have c86b0 : (t426 == 1)=false:=beq_eq_false_iff_ne.mpr c86
             have c86b1 : (t426 != 1)=true:=bne_iff_ne.mpr c86
             obtain ⟨y430,hy430⟩ : ∃ y_ : List Int,y_=(([a0_0] : List Int)):=⟨_,rfl⟩
             replace H : (if y430.length + ((rd_T46 l0_2 x5_1).f2).length < 17592186044416 then (if x415002_1.length < 2199023255552 then (phasorref17_Control.l0 kj52 (wrap64 (x5_1 + 1)) a0_0 a0_1 l0_2 (wrap64 (a0_0 + 1)) t410 (x415002_1 ++ [(⟨((rd_T46 l0_2 x5_1).f0),t426,(y430 ++ ((rd_T46 l0_2 x5_1).f2)),((rd_T46 l0_2 x5_1).f3),((rd_T46 l0_2 x5_1).f4),((rd_T46 l0_2 x5_1).f5)⟩ : S46)])) else (none)) else (none))=some (r1,r2,r3,r4):=by first|(rw [hy430];with_reducible exact H)|(have H2_:=(Option.bind_some _ _).symm.trans H;rw [hy430];with_reducible exact H2_)|(have H2_:=(Option.bind_some _ _).symm.trans H;with_reducible exact H2_)|with_reducible exact H|(rw [hy430];exact H)|exact H
             have Ny430:=Aside0.mk hy430
             clear hy430
             by_cases c103 : y430.length + ((rd_T46 l0_2 x5_1).f2).length < 17592186044416
             ·rw [if_pos c103] at H
              have LMc103:=Aside0.mk c103
              clear c103
              obtain ⟨y433,hy433⟩ : ∃ y_ : List Int,y_=(y430 ++ ((rd_T46 l0_2 x5_1).f2)):=⟨_,rfl⟩
              replace H : (if x415002_1.length < 2199023255552 then (phasorref17_Control.l0 kj52 (wrap64 (x5_1 + 1)) a0_0 a0_1 l0_2 (wrap64 (a0_0 + 1)) t410 (x415002_1 ++ [(⟨((rd_T46 l0_2 x5_1).f0),t426,y433,((rd_T46 l0_2 x5_1).f3),((rd_T46 l0_2 x5_1).f4),((rd_T46 l0_2 x5_1).f5)⟩ : S46)])) else (none))=some (r1,r2,r3,r4):=by first|(rw [hy433];with_reducible exact H)|(have H2_:=(Option.bind_some _ _).symm.trans H;rw [hy433];with_reducible exact H2_)|(have H2_:=(Option.bind_some _ _).symm.trans H;with_reducible exact H2_)|with_reducible exact H|(rw [hy433];exact H)|exact H
              have Ny433:=Aside0.mk hy433
              clear hy433
              by_cases c104 : x415002_1.length < 2199023255552
              ·rw [if_pos c104] at H
               have LMc104:=Aside0.mk c104
               clear c104
               obtain ⟨y436,hy436⟩ : ∃ y_ : List (S46),y_=(x415002_1 ++ [(⟨((rd_T46 l0_2 x5_1).f0),t426,y433,((rd_T46 l0_2 x5_1).f3),((rd_T46 l0_2 x5_1).f4),((rd_T46 l0_2 x5_1).f5)⟩ : S46)]):=⟨_,rfl⟩
               replace H : (phasorref17_Control.l0 kj52 (wrap64 (x5_1 + 1)) a0_0 a0_1 l0_2 (wrap64 (a0_0 + 1)) t410 y436)=some (r1,r2,r3,r4):=by first|(rw [hy436];with_reducible exact H)|(have H2_:=(Option.bind_some _ _).symm.trans H;rw [hy436];with_reducible exact H2_)|(have H2_:=(Option.bind_some _ _).symm.trans H;with_reducible exact H2_)|with_reducible exact H|(rw [hy436];exact H)|exact H
               have Ny436:=Aside0.mk hy436
               clear hy436
               have H':=Aside0.mk H
               clear H
               have hnb105:=NB406_407.out
               have hnc105:=NB407_406.out
               have hnb106:=NB406_414.out
               have hnc106:=NB414_406.out
               have hnb107:=NB406_416.out
               have hnc107:=NB416_406.out
               have hcz108_0 : wc.cell? ⟨gb406,0,none⟩=some (.int .i64 a0_0):=(blk_cell BK406.out 0).trans rfl
               have hcz108_1 : wc.cell? ⟨gb406,1,none⟩=some (.int .i64 a0_1):=(blk_cell BK406.out 1).trans rfl
               have hcz108_2 : wc.cell? ⟨gb406,2,none⟩=some (.slice (some ad415) l0_2.length c0_2):=(blk_cell BK406.out 2).trans rfl
               have hfz108_0:=blk_frozen BK406.out 0
               have hfz108_1:=blk_frozen BK406.out 1
               have hfz108_2:=blk_frozen BK406.out 2
               go_wp2_with (first|((with_reducible refine gate_dst (N:=62) rfl ?_);refine Kd.R_lit (Kd.int .i64) _ 3 ?hg (N:=62) ?hd (xs:=([a0_0] : List Int)) (inner:=[.int .i64 a0_0]) (ok:=fun _ => True) (okp:=fun _ => True) ?hr ?hp (fun _ hk => hk) trivial (Below.refl _ _) (Nat.le_refl _) (by simp) ?_;(case hd => rfl);(case hg => rfl);(case hr => first|(go_simp;done)|(go_simp;rfl));(case hp => exact (Reps.one (show Kd.M (Kd.int .i64) _ _ _ a0_0 [.int .i64 a0_0] from rfl) (Reps.none _ _)));intro v431 w109 ho110 hb hg_ hnew_;clear hg_ hnew_;(first|rw [← Ny430.out] at ho110|(simp only [Int.reduceToNat] at ho110;rw [← Ny430.out] at ho110));have n0_:=Aside0.mk (Kd.R_elder' (by (with_reducible repeat (first|apply Kd.R_alloc|apply Kd.R_drewN|apply Kd.R_drew));exact HO_7.out) (Kd.R_base ho110) hb);have n1_:=Aside0.mk (Kd.S_elder' (by (with_reducible repeat (first|apply Kd.S_alloc|apply Kd.S_drewN|apply Kd.S_drew));exact HO_415002.out) (Kd.R_base ho110) hb);have n2_:=Aside0.mk (Kd.R_lower (Kd.R_new' ho110 (Kd.R_lt (by (with_reducible repeat (first|apply Kd.R_alloc|apply Kd.R_drewN|apply Kd.R_drew));exact HO_7.out))) (below_size (by repeat (first|(with_reducible first|exact HB.out|apply below_alloc|apply pw_below_drewN|apply below_drew1|refine below_set ?_ GE406.out|refine below_set ?_ GE407.out|refine below_set ?_ GE414.out|refine below_set ?_ GE416.out)|exact HB.out))));have n3_:=Aside0.mk (blk_below (g:=gb406) (o:=.cells #[.int .i64 a0_0,.int .i64 a0_1,.slice (some ad415) l0_2.length c0_2] 24 (0,0)) (by (with_reducible repeat (first|refine blk_drewN ?_ _|refine blk_drew ?_|refine blk_alloc ?_ _));exact BK406.out) hb);have n4_:=Aside0.mk (blk_below (g:=gb407) (o:=.cells #[.int .i64 x408000_1,.int .i64 x408001_1,.slice none 0 0] 24 (0,0)) (by (with_reducible repeat (first|refine blk_drewN ?_ _|refine blk_drew ?_|refine blk_alloc ?_ _));exact BK407.out) hb);have n5_:=Aside0.mk (blk_below (g:=gb414) (o:=.cells #[.int .i64 (wrap64 (a0_0 + 1)),.int .i64 t410,u415002] 24 (0,0)) (by (with_reducible repeat (first|refine blk_drewN ?_ _|refine blk_drew ?_|refine blk_alloc ?_ _));exact BK414.out) hb);have n6_:=Aside0.mk (blk_below (g:=gb416) (o:=.cells #[.int .i64 ((rd_T46 l0_2 x5_1).f0),.int .i64 ((rd_T46 l0_2 x5_1).f1),.slice A415_2 ((rd_T46 l0_2 x5_1).f2).length c415_2,.int .i64 ((rd_T46 l0_2 x5_1).f3),.int .i64 ((rd_T46 l0_2 x5_1).f4),.int .i64 ((rd_T46 l0_2 x5_1).f5)] 46 (0,0)) (by (with_reducible repeat (first|refine blk_drewN ?_ _|refine blk_drew ?_|refine blk_alloc ?_ _));exact BK416.out) hb);have n7_:=Aside0.mk (below_step (by repeat (first|(with_reducible first|exact HB.out|apply below_alloc|apply pw_below_drewN|apply below_drew1|refine below_set ?_ GE406.out|refine below_set ?_ GE407.out|refine below_set ?_ GE414.out|refine below_set ?_ GE416.out)|exact HB.out)) hb);clear HO_7;clear HO_415002;clear BK406;clear BK407;clear BK414;clear BK416;clear HB;have HO_7:=n0_;have HO_415002:=n1_;have HO432:=n2_;have BK406:=n3_;have BK407:=n4_;have BK414:=n5_;have BK416:=n6_;have HB:=n7_;clear n0_ n1_ n2_ n3_ n4_ n5_ n6_ n7_;clear hb ho110;have hnb111:=NB416_407.out;have hnc111:=NB407_416.out;have hnb112:=NB416_414.out;have hnc112:=NB414_416.out;have hcz113_0 : w109.cell? ⟨gb416,0,none⟩=some (.int .i64 ((rd_T46 l0_2 x5_1).f0)):=(blk_cell BK416.out 0).trans rfl;have hcz113_1 : w109.cell? ⟨gb416,1,none⟩=some (.int .i64 ((rd_T46 l0_2 x5_1).f1)):=(blk_cell BK416.out 1).trans rfl;have hcz113_2 : w109.cell? ⟨gb416,2,none⟩=some (.slice A415_2 ((rd_T46 l0_2 x5_1).f2).length c415_2):=(blk_cell BK416.out 2).trans rfl;have hcz113_3 : w109.cell? ⟨gb416,3,none⟩=some (.int .i64 ((rd_T46 l0_2 x5_1).f3)):=(blk_cell BK416.out 3).trans rfl;have hcz113_4 : w109.cell? ⟨gb416,4,none⟩=some (.int .i64 ((rd_T46 l0_2 x5_1).f4)):=(blk_cell BK416.out 4).trans rfl;have hcz113_5 : w109.cell? ⟨gb416,5,none⟩=some (.int .i64 ((rd_T46 l0_2 x5_1).f5)):=(blk_cell BK416.out 5).trans rfl;have hfz113_0:=blk_frozen BK416.out 0;have hfz113_1:=blk_frozen BK416.out 1;have hfz113_2:=blk_frozen BK416.out 2;have hfz113_3:=blk_frozen BK416.out 3;have hfz113_4:=blk_frozen BK416.out 4;have hfz113_5:=blk_frozen BK416.out 5)|((with_reducible refine gate_builtin (b:=.append) (xs:=#[.tmp 62,.tmp 64]) rfl ?_);at_builtin;refine Kd.R_append_rows (Kd.int .i64) (w0:=w) w.heap.size rfl (.tmp 62) (.tmp 64) 37 3 (.int .i64 0) 8 rfl Try.underlying37 info3 rfl (by decide) (by omega) v431 y430 ((rd_T46 l0_2 x5_1).f2) _ _ _ (fun k_ => some k_≠(v421 : Value).ownBlock) (fun _ => False) rfl rfl ?aO ?aR (fun _ _ h => h) (fun _ h => h.elim) ?aF ?aB ?aS ?aL ?_;(case aR => repeat (first|exact (Kd.C_below HR415_2.out HB.out)|(with_reducible refine Kd.C_alloc ?_ _)|(with_reducible refine Kd.C_drewN ?_ _)|(with_reducible refine Kd.C_drew ?_)));(case aB => exact (by repeat (first|(with_reducible first|exact HB.out|apply below_alloc|apply pw_below_drewN|apply below_drew1|refine below_set ?_ GE406.out|refine below_set ?_ GE407.out|refine below_set ?_ GE414.out|refine below_set ?_ GE416.out)|exact HB.out)));(case aF => exact (fun k_ hk => Kd.fresh' (Kd.R_lt (by (with_reducible repeat (first|apply Kd.R_alloc|apply Kd.R_drewN|apply Kd.R_drew));exact HO_7.out)) k_ hk));(case aO => exact (by (with_reducible repeat (first|apply Kd.R_alloc|apply Kd.R_drewN|apply Kd.R_drew));(first|exact Kd.R_mono HO432.out (fun _ hk => hk.2)|exact HO432.out)));(case aS => exact (below_size (by repeat (first|(with_reducible first|exact HB.out|apply below_alloc|apply pw_below_drewN|apply below_drew1|refine below_set ?_ GE406.out|refine below_set ?_ GE407.out|refine below_set ?_ GE414.out|refine below_set ?_ GE416.out)|exact HB.out))));(case aL => have:=LMc103.out;omega);intro v434 w114 ho hb hg hat;rw [← Ny433.out] at ho;have n0_:=Aside0.mk (Kd.R_after (ok:=(fun _ => True)) (by (with_reducible repeat (first|apply Kd.R_alloc|apply Kd.R_drewN|apply Kd.R_drew));first|exact HO_7.out|exact Kd.R_mono HO_7.out (fun _ hk => ⟨trivial,hk⟩)) hg hat);have n1_:=Aside0.mk (Kd.S_after (ok:=(fun k_ => some k_≠(v421 : Value).ownBlock∧k_≠gb416)) (by (with_reducible repeat (first|apply Kd.S_alloc|apply Kd.S_drewN|apply Kd.S_drew));exact HO_415002.out) hg hat);have n2_:=Aside0.mk (blk_grown (g:=gb406) (o:=.cells #[.int .i64 a0_0,.int .i64 a0_1,.slice (some ad415) l0_2.length c0_2] 24 (0,0)) (by (with_reducible repeat (first|refine blk_drewN ?_ _|refine blk_drew ?_|refine blk_alloc ?_ _));exact BK406.out) hg (Kd.R_ne HO432.out BK406.out (by decide)));have n3_:=Aside0.mk (blk_grown (g:=gb407) (o:=.cells #[.int .i64 x408000_1,.int .i64 x408001_1,.slice none 0 0] 24 (0,0)) (by (with_reducible repeat (first|refine blk_drewN ?_ _|refine blk_drew ?_|refine blk_alloc ?_ _));exact BK407.out) hg (Kd.R_ne HO432.out BK407.out (by decide)));have n4_:=Aside0.mk (blk_grown (g:=gb414) (o:=.cells #[.int .i64 (wrap64 (a0_0 + 1)),.int .i64 t410,u415002] 24 (0,0)) (by (with_reducible repeat (first|refine blk_drewN ?_ _|refine blk_drew ?_|refine blk_alloc ?_ _));exact BK414.out) hg (Kd.R_ne HO432.out BK414.out (by decide)));have n5_:=Aside0.mk (blk_grown (g:=gb416) (o:=.cells #[.int .i64 ((rd_T46 l0_2 x5_1).f0),.int .i64 ((rd_T46 l0_2 x5_1).f1),.slice A415_2 ((rd_T46 l0_2 x5_1).f2).length c415_2,.int .i64 ((rd_T46 l0_2 x5_1).f3),.int .i64 ((rd_T46 l0_2 x5_1).f4),.int .i64 ((rd_T46 l0_2 x5_1).f5)] 46 (0,0)) (by (with_reducible repeat (first|refine blk_drewN ?_ _|refine blk_drew ?_|refine blk_alloc ?_ _));exact BK416.out) hg (Kd.R_ne HO432.out BK416.out (by decide)));have n6_:=Aside0.mk (hb);have n7_:=Aside0.mk (ho);clear HO_7;clear HO_415002;clear BK406;clear BK407;clear BK414;clear BK416;clear HB;clear HO432;have HO_7:=n0_;have HO_415002:=n1_;have BK406:=n2_;have BK407:=n3_;have BK414:=n4_;have BK416:=n5_;have HB:=n6_;have HO435:=n7_;clear n0_ n1_ n2_ n3_ n4_ n5_ n6_ n7_;clear ho hb hg hat;have hcz115_0 : w114.cell? ⟨gb416,0,none⟩=some (.int .i64 ((rd_T46 l0_2 x5_1).f0)):=(blk_cell BK416.out 0).trans rfl;have hcz115_1 : w114.cell? ⟨gb416,1,none⟩=some (.int .i64 ((rd_T46 l0_2 x5_1).f1)):=(blk_cell BK416.out 1).trans rfl;have hcz115_2 : w114.cell? ⟨gb416,2,none⟩=some (.slice A415_2 ((rd_T46 l0_2 x5_1).f2).length c415_2):=(blk_cell BK416.out 2).trans rfl;have hcz115_3 : w114.cell? ⟨gb416,3,none⟩=some (.int .i64 ((rd_T46 l0_2 x5_1).f3)):=(blk_cell BK416.out 3).trans rfl;have hcz115_4 : w114.cell? ⟨gb416,4,none⟩=some (.int .i64 ((rd_T46 l0_2 x5_1).f4)):=(blk_cell BK416.out 4).trans rfl;have hcz115_5 : w114.cell? ⟨gb416,5,none⟩=some (.int .i64 ((rd_T46 l0_2 x5_1).f5)):=(blk_cell BK416.out 5).trans rfl;have hfz115_0:=blk_frozen BK416.out 0;have hfz115_1:=blk_frozen BK416.out 1;have hfz115_2:=blk_frozen BK416.out 2;have hfz115_3:=blk_frozen BK416.out 3;have hfz115_4:=blk_frozen BK416.out 4;have hfz115_5:=blk_frozen BK416.out 5)|((with_reducible refine gate_store (t:=44) (p:=67) rfl ?_);refine store_event (t:=44) (p:=67) (v:=?vo_w116) (w1:=(w114.setCell ⟨gb416,1,none⟩ (.int .i64 t426))) ?hg ?ho ?hn ?hr ?_;(case ho => rfl);(case hg => rfl);(case hn => rfl);(case hr => first|(go_simp;done)|(go_simp;rfl));intro w116 hw;have n0_ : Aside0 (Kd.R (Kd.int .i64) 3 w116 w.heap.size (fun k_ => some k_≠(v434 : Value).ownBlock) v421 y420):=⟨(by rw [hw];exact (by (with_reducible repeat (first|apply Kd.R_alloc|apply Kd.R_drewN|apply Kd.R_drew));exact Kd.R_mono (Kd.R_far (p:=⟨gb416,1,none⟩) (Kd.R_types HO_7.out BK416.out (by decide)) (fun _ hk => hk.2) (.int .i64 t426)) (fun _ hk => hk.1.2)))⟩;have n1_ : Aside0 (Kd.S k46 46 w116 w.heap.size (fun k_ => some k_≠(v421 : Value).ownBlock∧some k_≠(v434 : Value).ownBlock∧k_≠gb416) u415002 x415002_1):=⟨(by rw [hw];exact (by (with_reducible repeat (first|apply Kd.S_alloc|apply Kd.S_drewN|apply Kd.S_drew));exact Kd.S_mono (Kd.S_far (p:=⟨gb416,1,none⟩) (Kd.S_mono HO_415002.out (fun k_ hk => (⟨hk,hk.1.2⟩ : _∧k_≠gb416))) (fun _ hk => hk.2) (.int .i64 t426)) (fun _ hk => ⟨hk.1.1.1,⟨hk.1.2,hk.1.1.2⟩⟩)))⟩;have n2_ : Aside0 (Kd.R (Kd.int .i64) 3 w116 w.heap.size (fun k_ => some k_≠(v421 : Value).ownBlock) v434 y433):=⟨(by rw [hw];exact (by (with_reducible repeat (first|apply Kd.R_alloc|apply Kd.R_drewN|apply Kd.R_drew));exact Kd.R_mono (Kd.R_far (p:=⟨gb416,1,none⟩) (Kd.R_types HO435.out BK416.out (by decide)) (fun _ hk => hk.2) (.int .i64 t426)) (fun _ hk => hk.1)))⟩;have n3_ : Aside0 (w116.heap[gb406]?=some (.cells #[.int .i64 a0_0,.int .i64 a0_1,.slice (some ad415) l0_2.length c0_2] 24 (0,0))):=⟨(by rw [hw];exact (by (with_reducible repeat (first|refine blk_drewN ?_ _|refine blk_drew ?_|refine blk_alloc ?_ _));refine blk_far ?_ NB406_416.out _;(with_reducible repeat (first|refine blk_drewN ?_ _|refine blk_drew ?_|refine blk_alloc ?_ _));exact BK406.out))⟩;have n4_ : Aside0 (w116.heap[gb407]?=some (.cells #[.int .i64 x408000_1,.int .i64 x408001_1,.slice none 0 0] 24 (0,0))):=⟨(by rw [hw];exact (by (with_reducible repeat (first|refine blk_drewN ?_ _|refine blk_drew ?_|refine blk_alloc ?_ _));refine blk_far ?_ NB407_416.out _;(with_reducible repeat (first|refine blk_drewN ?_ _|refine blk_drew ?_|refine blk_alloc ?_ _));exact BK407.out))⟩;have n5_ : Aside0 (w116.heap[gb414]?=some (.cells #[.int .i64 (wrap64 (a0_0 + 1)),.int .i64 t410,u415002] 24 (0,0))):=⟨(by rw [hw];exact (by (with_reducible repeat (first|refine blk_drewN ?_ _|refine blk_drew ?_|refine blk_alloc ?_ _));refine blk_far ?_ NB414_416.out _;(with_reducible repeat (first|refine blk_drewN ?_ _|refine blk_drew ?_|refine blk_alloc ?_ _));exact BK414.out))⟩;have n6_ : Aside0 (w116.heap[gb416]?=some (.cells #[.int .i64 ((rd_T46 l0_2 x5_1).f0),.int .i64 t426,.slice A415_2 ((rd_T46 l0_2 x5_1).f2).length c415_2,.int .i64 ((rd_T46 l0_2 x5_1).f3),.int .i64 ((rd_T46 l0_2 x5_1).f4),.int .i64 ((rd_T46 l0_2 x5_1).f5)] 46 (0,0))):=⟨(by rw [hw];exact (by (with_reducible repeat (first|refine blk_drewN ?_ _|refine blk_drew ?_|refine blk_alloc ?_ _));refine blk_put (cs:=#[.int .i64 ((rd_T46 l0_2 x5_1).f0),.int .i64 ((rd_T46 l0_2 x5_1).f1),.slice A415_2 ((rd_T46 l0_2 x5_1).f2).length c415_2,.int .i64 ((rd_T46 l0_2 x5_1).f3),.int .i64 ((rd_T46 l0_2 x5_1).f4),.int .i64 ((rd_T46 l0_2 x5_1).f5)]) ?_ 1 _ rfl;(with_reducible repeat (first|refine blk_drewN ?_ _|refine blk_drew ?_|refine blk_alloc ?_ _));exact BK416.out))⟩;have n7_ : Aside0 (Below w.heap.size w w116):=⟨(by rw [hw];exact (by repeat (first|(with_reducible first|exact HB.out|apply below_alloc|apply pw_below_drewN|apply below_drew1|refine below_set ?_ GE406.out|refine below_set ?_ GE407.out|refine below_set ?_ GE414.out|refine below_set ?_ GE416.out)|exact HB.out)))⟩;clear hw;clear HO_7;clear HO_415002;clear HO435;clear BK406;clear BK407;clear BK414;clear BK416;clear HB;have HO_7:=n0_;have HO_415002:=n1_;have HO435:=n2_;have BK406:=n3_;have BK407:=n4_;have BK414:=n5_;have BK416:=n6_;have HB:=n7_;clear n0_ n1_ n2_ n3_ n4_ n5_ n6_ n7_;obtain ⟨Ao117,co117,eo117⟩:=Kd.R_slice HO435.out;subst eo117;have hcz118_0 : w116.cell? ⟨gb416,0,none⟩=some (.int .i64 ((rd_T46 l0_2 x5_1).f0)):=(blk_cell BK416.out 0).trans rfl;have hcz118_1 : w116.cell? ⟨gb416,1,none⟩=some (.int .i64 t426):=(blk_cell BK416.out 1).trans rfl;have hcz118_2 : w116.cell? ⟨gb416,2,none⟩=some (.slice A415_2 ((rd_T46 l0_2 x5_1).f2).length c415_2):=(blk_cell BK416.out 2).trans rfl;have hcz118_3 : w116.cell? ⟨gb416,3,none⟩=some (.int .i64 ((rd_T46 l0_2 x5_1).f3)):=(blk_cell BK416.out 3).trans rfl;have hcz118_4 : w116.cell? ⟨gb416,4,none⟩=some (.int .i64 ((rd_T46 l0_2 x5_1).f4)):=(blk_cell BK416.out 4).trans rfl;have hcz118_5 : w116.cell? ⟨gb416,5,none⟩=some (.int .i64 ((rd_T46 l0_2 x5_1).f5)):=(blk_cell BK416.out 5).trans rfl;have hfz118_0:=blk_frozen BK416.out 0;have hfz118_1:=blk_frozen BK416.out 1;have hfz118_2:=blk_frozen BK416.out 2;have hfz118_3:=blk_frozen BK416.out 3;have hfz118_4:=blk_frozen BK416.out 4;have hfz118_5:=blk_frozen BK416.out 5)|((with_reducible refine gate_store (t:=37) (p:=69) rfl ?_);refine store_event (t:=37) (p:=69) (v:=?vo_w119) (w1:=(w116.setCell ⟨gb416,2,none⟩ (.slice Ao117 y433.length co117))) ?hg ?ho ?hn ?hr ?_;(case ho => rfl);(case hg => rfl);(case hn => rfl);(case hr => first|(go_simp;done)|(go_simp;rfl));intro w119 hw;have n0_ : Aside0 (Kd.R (Kd.int .i64) 3 w119 w.heap.size (fun k_ => some k_≠(.slice Ao117 y433.length co117 : Value).ownBlock) v421 y420):=⟨(by rw [hw];exact (by (with_reducible repeat (first|apply Kd.R_alloc|apply Kd.R_drewN|apply Kd.R_drew));exact Kd.R_mono (Kd.R_far (p:=⟨gb416,2,none⟩) (Kd.R_types HO_7.out BK416.out (by decide)) (fun _ hk => hk.2) (.slice Ao117 y433.length co117)) (fun _ hk => hk.1)))⟩;have n1_ : Aside0 (Kd.S k46 46 w119 w.heap.size (fun k_ => some k_≠(v421 : Value).ownBlock∧some k_≠(.slice Ao117 y433.length co117 : Value).ownBlock∧k_≠gb416) u415002 x415002_1):=⟨(by rw [hw];exact (by (with_reducible repeat (first|apply Kd.S_alloc|apply Kd.S_drewN|apply Kd.S_drew));exact Kd.S_mono (Kd.S_far (p:=⟨gb416,2,none⟩) (Kd.S_mono HO_415002.out (fun k_ hk => (⟨hk,hk.2.2⟩ : _∧k_≠gb416))) (fun _ hk => hk.2) (.slice Ao117 y433.length co117)) (fun _ hk => ⟨hk.1.1,⟨hk.1.2.1,hk.1.2.2⟩⟩)))⟩;have n2_ : Aside0 (Kd.R (Kd.int .i64) 3 w119 w.heap.size (fun k_ => some k_≠(v421 : Value).ownBlock) (.slice Ao117 y433.length co117) y433):=⟨(by rw [hw];exact (by (with_reducible repeat (first|apply Kd.R_alloc|apply Kd.R_drewN|apply Kd.R_drew));exact Kd.R_mono (Kd.R_far (p:=⟨gb416,2,none⟩) (Kd.R_types HO435.out BK416.out (by decide)) (fun _ hk => hk.2) (.slice Ao117 y433.length co117)) (fun _ hk => hk.1)))⟩;have n3_ : Aside0 (w119.heap[gb406]?=some (.cells #[.int .i64 a0_0,.int .i64 a0_1,.slice (some ad415) l0_2.length c0_2] 24 (0,0))):=⟨(by rw [hw];exact (by (with_reducible repeat (first|refine blk_drewN ?_ _|refine blk_drew ?_|refine blk_alloc ?_ _));refine blk_far ?_ NB406_416.out _;(with_reducible repeat (first|refine blk_drewN ?_ _|refine blk_drew ?_|refine blk_alloc ?_ _));exact BK406.out))⟩;have n4_ : Aside0 (w119.heap[gb407]?=some (.cells #[.int .i64 x408000_1,.int .i64 x408001_1,.slice none 0 0] 24 (0,0))):=⟨(by rw [hw];exact (by (with_reducible repeat (first|refine blk_drewN ?_ _|refine blk_drew ?_|refine blk_alloc ?_ _));refine blk_far ?_ NB407_416.out _;(with_reducible repeat (first|refine blk_drewN ?_ _|refine blk_drew ?_|refine blk_alloc ?_ _));exact BK407.out))⟩;have n5_ : Aside0 (w119.heap[gb414]?=some (.cells #[.int .i64 (wrap64 (a0_0 + 1)),.int .i64 t410,u415002] 24 (0,0))):=⟨(by rw [hw];exact (by (with_reducible repeat (first|refine blk_drewN ?_ _|refine blk_drew ?_|refine blk_alloc ?_ _));refine blk_far ?_ NB414_416.out _;(with_reducible repeat (first|refine blk_drewN ?_ _|refine blk_drew ?_|refine blk_alloc ?_ _));exact BK414.out))⟩;have n6_ : Aside0 (w119.heap[gb416]?=some (.cells #[.int .i64 ((rd_T46 l0_2 x5_1).f0),.int .i64 t426,.slice Ao117 y433.length co117,.int .i64 ((rd_T46 l0_2 x5_1).f3),.int .i64 ((rd_T46 l0_2 x5_1).f4),.int .i64 ((rd_T46 l0_2 x5_1).f5)] 46 (0,0))):=⟨(by rw [hw];exact (by (with_reducible repeat (first|refine blk_drewN ?_ _|refine blk_drew ?_|refine blk_alloc ?_ _));refine blk_put (cs:=#[.int .i64 ((rd_T46 l0_2 x5_1).f0),.int .i64 t426,.slice A415_2 ((rd_T46 l0_2 x5_1).f2).length c415_2,.int .i64 ((rd_T46 l0_2 x5_1).f3),.int .i64 ((rd_T46 l0_2 x5_1).f4),.int .i64 ((rd_T46 l0_2 x5_1).f5)]) ?_ 2 _ rfl;(with_reducible repeat (first|refine blk_drewN ?_ _|refine blk_drew ?_|refine blk_alloc ?_ _));exact BK416.out))⟩;have n7_ : Aside0 (Below w.heap.size w w119):=⟨(by rw [hw];exact (by repeat (first|(with_reducible first|exact HB.out|apply below_alloc|apply pw_below_drewN|apply below_drew1|refine below_set ?_ GE406.out|refine below_set ?_ GE407.out|refine below_set ?_ GE414.out|refine below_set ?_ GE416.out)|exact HB.out)))⟩;clear hw;clear HO_7;clear HO_415002;clear HO435;clear BK406;clear BK407;clear BK414;clear BK416;clear HB;have HO_7:=n0_;have HO_415002:=n1_;have HO435:=n2_;have BK406:=n3_;have BK407:=n4_;have BK414:=n5_;have BK416:=n6_;have HB:=n7_;clear n0_ n1_ n2_ n3_ n4_ n5_ n6_ n7_;have hnb120:=NB414_407.out;have hnc120:=NB407_414.out;have hcz121_0 : w119.cell? ⟨gb414,0,none⟩=some (.int .i64 (wrap64 (a0_0 + 1))):=(blk_cell BK414.out 0).trans rfl;have hcz121_1 : w119.cell? ⟨gb414,1,none⟩=some (.int .i64 t410):=(blk_cell BK414.out 1).trans rfl;have hcz121_2 : w119.cell? ⟨gb414,2,none⟩=some (u415002):=(blk_cell BK414.out 2).trans rfl;have hfz121_0:=blk_frozen BK414.out 0;have hfz121_1:=blk_frozen BK414.out 1;have hfz121_2:=blk_frozen BK414.out 2;have hcz122_0 : w119.cell? ⟨gb416,0,none⟩=some (.int .i64 ((rd_T46 l0_2 x5_1).f0)):=(blk_cell BK416.out 0).trans rfl;have hcz122_1 : w119.cell? ⟨gb416,1,none⟩=some (.int .i64 t426):=(blk_cell BK416.out 1).trans rfl;have hcz122_2 : w119.cell? ⟨gb416,2,none⟩=some (.slice Ao117 y433.length co117):=(blk_cell BK416.out 2).trans rfl;have hcz122_3 : w119.cell? ⟨gb416,3,none⟩=some (.int .i64 ((rd_T46 l0_2 x5_1).f3)):=(blk_cell BK416.out 3).trans rfl;have hcz122_4 : w119.cell? ⟨gb416,4,none⟩=some (.int .i64 ((rd_T46 l0_2 x5_1).f4)):=(blk_cell BK416.out 4).trans rfl;have hcz122_5 : w119.cell? ⟨gb416,5,none⟩=some (.int .i64 ((rd_T46 l0_2 x5_1).f5)):=(blk_cell BK416.out 5).trans rfl;have hfz122_0:=blk_frozen BK416.out 0;have hfz122_1:=blk_frozen BK416.out 1;have hfz122_2:=blk_frozen BK416.out 2;have hfz122_3:=blk_frozen BK416.out 3;have hfz122_4:=blk_frozen BK416.out 4;have hfz122_5:=blk_frozen BK416.out 5)|((with_reducible refine gate_builtin (b:=.append) (xs:=#[.tmp 71,.tmp 73]) rfl ?_);at_builtin;refine Kd.S_append k46 (w0:=w) w.heap.size rfl (.tmp 71) (.tmp 73) 22 46 (.agg #[(.int .i64 0),(.int .i64 0),(.slice none 0 0),(.int .i64 0),(.int .i64 0),(.int .i64 0)]) 64 rfl Try.underlying22 info46 rfl (by decide) (by omega) u415002 x415002_1 (⟨((rd_T46 l0_2 x5_1).f0),t426,y433,((rd_T46 l0_2 x5_1).f3),((rd_T46 l0_2 x5_1).f4),((rd_T46 l0_2 x5_1).f5)⟩ : S46) [.int .i64 ((rd_T46 l0_2 x5_1).f0),.int .i64 t426,.slice Ao117 y433.length co117,.int .i64 ((rd_T46 l0_2 x5_1).f3),.int .i64 ((rd_T46 l0_2 x5_1).f4),.int .i64 ((rd_T46 l0_2 x5_1).f5)] (fun k_ => some k_≠(v421 : Value).ownBlock∧k_≠gb416) (fun k_ => some k_=(.slice Ao117 y433.length co117 : Value).ownBlock) rfl rfl ?aP (fun k_ hk_ => ((Kd.R_mono (ok':=fun k_ => ((fun k_ => some k_≠(v421 : Value).ownBlock∧k_≠gb416)) k_∧some k_≠(u415002 : Value).ownBlock) (Kd.R_types (Kd.R_apart' (HO435.out) (Kd.S_typed HO_415002.out) (by decide)) BK416.out (by decide)) (fun k_ hk => ⟨⟨hk.1.1,hk.2⟩,hk.1.2⟩))).1 k_ hk_.symm) ?aF ?aO ?aB ?aS ?aL ?_;(case aP => exact k46_mkM _ _ _ (⟨((rd_T46 l0_2 x5_1).f0),t426,y433,((rd_T46 l0_2 x5_1).f3),((rd_T46 l0_2 x5_1).f4),((rd_T46 l0_2 x5_1).f5)⟩ : S46) (Kd.R_mono (Kd.R_tight rfl (Kd.R_mono (ok':=fun k_ => ((fun k_ => some k_≠(v421 : Value).ownBlock∧k_≠gb416)) k_∧some k_≠(u415002 : Value).ownBlock) (Kd.R_types (Kd.R_apart' (HO435.out) (Kd.S_typed HO_415002.out) (by decide)) BK416.out (by decide)) (fun k_ hk => ⟨⟨hk.1.1,hk.2⟩,hk.1.2⟩))) (fun _ h_ => h_)));(case aB => exact (by repeat (first|(with_reducible first|exact HB.out|apply below_alloc|apply pw_below_drewN|apply below_drew1|refine below_set ?_ GE406.out|refine below_set ?_ GE407.out|refine below_set ?_ GE414.out|refine below_set ?_ GE416.out)|exact HB.out)));(case aF => exact (fun k_ hk => ⟨Kd.fresh' (Kd.R_lt (by (with_reducible repeat (first|apply Kd.R_alloc|apply Kd.R_drewN|apply Kd.R_drew));exact HO_7.out)) k_ hk,Kd.freshB (g:=gb416) (o:=.cells #[.int .i64 ((rd_T46 l0_2 x5_1).f0),.int .i64 t426,.slice Ao117 y433.length co117,.int .i64 ((rd_T46 l0_2 x5_1).f3),.int .i64 ((rd_T46 l0_2 x5_1).f4),.int .i64 ((rd_T46 l0_2 x5_1).f5)] 46 (0,0)) (by (with_reducible repeat (first|refine blk_drewN ?_ _|refine blk_drew ?_|refine blk_alloc ?_ _));exact BK416.out) k_ hk⟩));(case aO => exact (by (with_reducible repeat (first|apply Kd.S_alloc|apply Kd.S_drewN|apply Kd.S_drew));exact Kd.S_mono HO_415002.out (fun k_ hk => ⟨⟨hk.1,hk.2.2⟩,fun e_ => hk.2.1 e_⟩)));(case aS => exact (below_size (by repeat (first|(with_reducible first|exact HB.out|apply below_alloc|apply pw_below_drewN|apply below_drew1|refine below_set ?_ GE406.out|refine below_set ?_ GE407.out|refine below_set ?_ GE414.out|refine below_set ?_ GE416.out)|exact HB.out))));(case aL => have:=LMc104.out;omega);intro v437 w123 ho hb hg hat;rw [← Ny436.out] at ho;have n0_:=Aside0.mk (Kd.R_over' (by (with_reducible repeat (first|apply Kd.R_alloc|apply Kd.R_drewN|apply Kd.R_drew));exact HO_7.out) (Kd.S_typed (by (with_reducible repeat (first|apply Kd.S_alloc|apply Kd.S_drewN|apply Kd.S_drew));exact HO_415002.out)) (by decide) hg);have n1_:=Aside0.mk (blk_grown (g:=gb406) (o:=.cells #[.int .i64 a0_0,.int .i64 a0_1,.slice (some ad415) l0_2.length c0_2] 24 (0,0)) (by (with_reducible repeat (first|refine blk_drewN ?_ _|refine blk_drew ?_|refine blk_alloc ?_ _));exact BK406.out) hg (Kd.S_ne HO_415002.out BK406.out (by decide)));have n2_:=Aside0.mk (blk_grown (g:=gb407) (o:=.cells #[.int .i64 x408000_1,.int .i64 x408001_1,.slice none 0 0] 24 (0,0)) (by (with_reducible repeat (first|refine blk_drewN ?_ _|refine blk_drew ?_|refine blk_alloc ?_ _));exact BK407.out) hg (Kd.S_ne HO_415002.out BK407.out (by decide)));have n3_:=Aside0.mk (blk_grown (g:=gb414) (o:=.cells #[.int .i64 (wrap64 (a0_0 + 1)),.int .i64 t410,u415002] 24 (0,0)) (by (with_reducible repeat (first|refine blk_drewN ?_ _|refine blk_drew ?_|refine blk_alloc ?_ _));exact BK414.out) hg (Kd.S_ne HO_415002.out BK414.out (by decide)));have n4_:=Aside0.mk (blk_grown (g:=gb416) (o:=.cells #[.int .i64 ((rd_T46 l0_2 x5_1).f0),.int .i64 t426,.slice Ao117 y433.length co117,.int .i64 ((rd_T46 l0_2 x5_1).f3),.int .i64 ((rd_T46 l0_2 x5_1).f4),.int .i64 ((rd_T46 l0_2 x5_1).f5)] 46 (0,0)) (by (with_reducible repeat (first|refine blk_drewN ?_ _|refine blk_drew ?_|refine blk_alloc ?_ _));exact BK416.out) hg (Kd.S_away HO_415002.out (fun _ hk => hk.2.2)));have n5_:=Aside0.mk (hb);have n6_:=Aside0.mk (ho);clear HO_7;clear BK406;clear BK407;clear BK414;clear BK416;clear HB;clear HO_415002;clear HO435;have HO_7:=n0_;have BK406:=n1_;have BK407:=n2_;have BK414:=n3_;have BK416:=n4_;have HB:=n5_;have HO438:=n6_;clear n0_ n1_ n2_ n3_ n4_ n5_ n6_;clear ho hb hg hat;obtain ⟨Ao124,co124,eo124⟩:=Kd.S_slice HO438.out;subst eo124;have hcz125_0 : w123.cell? ⟨gb414,0,none⟩=some (.int .i64 (wrap64 (a0_0 + 1))):=(blk_cell BK414.out 0).trans rfl;have hcz125_1 : w123.cell? ⟨gb414,1,none⟩=some (.int .i64 t410):=(blk_cell BK414.out 1).trans rfl;have hcz125_2 : w123.cell? ⟨gb414,2,none⟩=some (u415002):=(blk_cell BK414.out 2).trans rfl;have hfz125_0:=blk_frozen BK414.out 0;have hfz125_1:=blk_frozen BK414.out 1;have hfz125_2:=blk_frozen BK414.out 2))
               go_roundg kj52
               case measure => have:=HK1.out;have:=HJ52.out;omega
               case rel => exact ⟨(wrap64 (x5_1 + 1)),(x408000_1),(x408001_1),(y436),(.slice Ao124 y436.length co124),(by first|rfl|(simp;done)|(simp [*];done)),H',⟨by have:=HK1.out;have:=HJ52.out;omega⟩,⟨by (with_reducible repeat (first|apply Kd.S_alloc|apply Kd.S_drewN|apply Kd.S_drew));exact Kd.S_mono (Kd.S_far (p:=⟨gb414,2,none⟩) (Kd.S_types HO438.out BK414.out (by decide)) (fun _ hk => hk.2) (.slice Ao124 y436.length co124)) (fun _ hk => trivial)⟩,⟨by (with_reducible repeat (first|refine blk_drewN ?_ _|refine blk_drew ?_|refine blk_alloc ?_ _));refine blk_far ?_ NB406_414.out _;(with_reducible repeat (first|refine blk_drewN ?_ _|refine blk_drew ?_|refine blk_alloc ?_ _));exact BK406.out⟩,⟨by (with_reducible repeat (first|refine blk_drewN ?_ _|refine blk_drew ?_|refine blk_alloc ?_ _));refine blk_far ?_ NB407_414.out _;(with_reducible repeat (first|refine blk_drewN ?_ _|refine blk_drew ?_|refine blk_alloc ?_ _));exact BK407.out⟩,⟨by (with_reducible repeat (first|refine blk_drewN ?_ _|refine blk_drew ?_|refine blk_alloc ?_ _));refine blk_put (cs:=#[.int .i64 (wrap64 (a0_0 + 1)),.int .i64 t410,u415002]) ?_ 2 _ rfl;(with_reducible repeat (first|refine blk_drewN ?_ _|refine blk_drew ?_|refine blk_alloc ?_ _));exact BK414.out⟩,⟨by repeat (first|(with_reducible first|exact HB.out|apply below_alloc|apply pw_below_drewN|apply below_drew1|refine below_set ?_ GE406.out|refine below_set ?_ GE407.out|refine below_set ?_ GE414.out|refine below_set ?_ GE416.out)|exact HB.out)⟩⟩
              ·rw [if_neg c104] at H
               exact absurd H (by simp)
             ·rw [if_neg c103] at H
              exact absurd H (by simp)
       ·rw [if_neg c28] at H
        exact absurd H (by simp)
      ·rw [if_neg c27] at H
       exact absurd H (by simp)
     ·rw [if_neg c26] at H
      have c26b0 : decide (x5_1 < (l0_2.length : Int))=false:=decide_eq_false c26
      clear c26
      simp only [Option.some.injEq,Prod.mk.injEq] at H
      obtain ⟨rfl,rfl,rfl,rfl⟩:=H
      have hnb126:=NB406_407.out
      have hnc126:=NB407_406.out
      have hnb127:=NB406_414.out
      have hnc127:=NB414_406.out
      have hcz128_0 : wr.cell? ⟨gb406,0,none⟩=some (.int .i64 a0_0):=(blk_cell BK406.out 0).trans rfl
      have hcz128_1 : wr.cell? ⟨gb406,1,none⟩=some (.int .i64 a0_1):=(blk_cell BK406.out 1).trans rfl
      have hcz128_2 : wr.cell? ⟨gb406,2,none⟩=some (.slice A0_2 l0_2.length c0_2):=(blk_cell BK406.out 2).trans rfl
      have hfz128_0:=blk_frozen BK406.out 0
      have hfz128_1:=blk_frozen BK406.out 1
      have hfz128_2:=blk_frozen BK406.out 2
      have hnb129:=NB414_407.out
      have hnc129:=NB407_414.out
      have hcz130_0 : wr.cell? ⟨gb414,0,none⟩=some (.int .i64 (wrap64 (a0_0 + 1))):=(blk_cell BK414.out 0).trans rfl
      have hcz130_1 : wr.cell? ⟨gb414,1,none⟩=some (.int .i64 t410):=(blk_cell BK414.out 1).trans rfl
      have hcz130_2 : wr.cell? ⟨gb414,2,none⟩=some (u415002):=(blk_cell BK414.out 2).trans rfl
      have hfz130_0:=blk_frozen BK414.out 0
      have hfz130_1:=blk_frozen BK414.out 1
      have hfz130_2:=blk_frozen BK414.out 2
      have hcz131_0 : wr.cell? ⟨gb407,0,none⟩=some (.int .i64 x408000_1):=(blk_cell BK407.out 0).trans rfl
      have hcz131_1 : wr.cell? ⟨gb407,1,none⟩=some (.int .i64 x408001_1):=(blk_cell BK407.out 1).trans rfl
      have hcz131_2 : wr.cell? ⟨gb407,2,none⟩=some (.slice none 0 0):=(blk_cell BK407.out 2).trans rfl
      have hfz131_0:=blk_frozen BK407.out 0
      have hfz131_1:=blk_frozen BK407.out 1
      have hfz131_2:=blk_frozen BK407.out 2
      obtain ⟨Ao132,co132,eo132⟩:=Kd.S_slice HO_415002.out
      subst eo132
      go_wp2
      refine bodyPost_ret (results_ct rfl _ _ gb407 24 #[.int .i64 (wrap64 (a0_0 + 1)),.int .i64 t410,.slice Ao132 x415002_1.length co132] (0,0) _ rfl (by (with_reducible repeat (first|refine blk_drewN ?_ _|refine blk_drew ?_|refine blk_alloc ?_ _));refine blk_put (cs:=#[.int .i64 (wrap64 (a0_0 + 1)),.int .i64 t410,.slice none 0 0]) ?_ 2 _ rfl;(with_reducible repeat (first|refine blk_drewN ?_ _|refine blk_drew ?_|refine blk_alloc ?_ _));refine blk_put (cs:=#[.int .i64 (wrap64 (a0_0 + 1)),.int .i64 x408001_1,.slice none 0 0]) ?_ 1 _ rfl;(with_reducible repeat (first|refine blk_drewN ?_ _|refine blk_drew ?_|refine blk_alloc ?_ _));refine blk_put (cs:=#[.int .i64 x408000_1,.int .i64 x408001_1,.slice none 0 0]) ?_ 0 _ rfl;(with_reducible repeat (first|refine blk_drewN ?_ _|refine blk_drew ?_|refine blk_alloc ?_ _));exact BK407.out) Try.underlying24 rfl (by kernel_rfl)) rfl ?_
      exact ⟨_,by first|rfl|(simp [errW_none,errW_some] <;> rfl)|(simp [*,errW_none,errW_some] <;> rfl),by (with_reducible repeat (first|apply Kd.S_alloc|apply Kd.S_drewN|apply Kd.S_drew));exact Kd.S_mono (Kd.S_far (p:=⟨gb407,2,none⟩) (Kd.S_far (p:=⟨gb407,1,none⟩) (Kd.S_far (p:=⟨gb407,0,none⟩) (Kd.S_types HO_415002.out BK407.out (by decide)) (fun _ hk => hk.2) (.int .i64 (wrap64 (a0_0 + 1)))) (fun _ hk => hk.2) (.int .i64 t410)) (fun _ hk => hk.2) (.slice Ao132 x415002_1.length co132)) (fun _ hk => trivial),by repeat (first|(with_reducible first|exact HB.out|apply below_alloc|apply pw_below_drewN|apply below_drew1|refine below_set ?_ GE406.out|refine below_set ?_ GE407.out|refine below_set ?_ GE414.out)|exact HB.out)⟩
 ·replace c3:=Bool.eq_false_iff.mpr c3
  subst c3
  have H1 : (some (0,0,([] : List (S46)),80))=some (r1,r2,r3,r4):=by rw [if_neg (show ¬ (false=true) by decide)] at H;exact H
  clear H
  have H:=H1
  clear H1
  simp only [Option.some.injEq,Prod.mk.injEq] at H
  obtain ⟨rfl,rfl,rfl,rfl⟩:=H
  go_enter Try.func18,Try.ntmps18
  go_wp2_with (first|((with_reducible refine gate_dst (N:=1) rfl ?_);refine box_event ?hg (N:=1) ?hd (cs:=#[.int .i64 a0_0,.int .i64 a0_1,.slice A0_2 l0_2.length c0_2]) (t:=24) ?hr ?_;(case hd => rfl);(case hg => rfl);(case hr => first|(go_simp;done)|(go_simp;rfl));intro gb406 hg w133 hbox hb;have n0_:=Aside0.mk (below_step (by repeat (first|(with_reducible first|exact HB.out|apply below_alloc|apply pw_below_drewN|apply below_drew1)|exact HB.out)) hb);have n1_:=Aside0.mk (hbox);have n2_:=Aside0.mk ((by rw [hg];exact (below_size (by repeat (first|(with_reducible first|exact HB.out|apply below_alloc|apply pw_below_drewN|apply below_drew1)|exact HB.out))) : w.heap.size≤gb406));have n3_:=Aside0.mk ((by rw [hg];exact (below_size (by repeat (first|(with_reducible first|exact HB.out|apply below_alloc|apply pw_below_drewN|apply below_drew1)|exact HB.out))) : w.heap.size≤gb406));clear HB;have HB:=n0_;have BK406:=n1_;have GW406:=n2_;have GE406:=n3_;clear n0_ n1_ n2_ n3_;clear hb hbox hg)|((with_reducible refine gate_dst (N:=2) rfl ?_);refine box_event ?hg (N:=2) ?hd (cs:=#[.int .i64 0,.int .i64 0,.slice none 0 0]) (t:=24) ?hr ?_;(case hd => rfl);(case hg => rfl);(case hr => first|(go_simp;done)|(go_simp;rfl));intro gb407 hg w134 hbox hb;have n0_:=Aside0.mk (blk_below (g:=gb406) (o:=.cells #[.int .i64 a0_0,.int .i64 a0_1,.slice A0_2 l0_2.length c0_2] 24 (0,0)) (by (with_reducible repeat (first|refine blk_drewN ?_ _|refine blk_drew ?_|refine blk_alloc ?_ _));exact BK406.out) hb);have n1_:=Aside0.mk (below_step (by repeat (first|(with_reducible first|exact HB.out|apply below_alloc|apply pw_below_drewN|apply below_drew1|refine below_set ?_ GE406.out)|exact HB.out)) hb);have n2_:=Aside0.mk (hbox);have n3_:=Aside0.mk ((by rw [hg];exact (below_size (by repeat (first|(with_reducible first|exact HB.out|apply below_alloc|apply pw_below_drewN|apply below_drew1|refine below_set ?_ GE406.out)|exact HB.out))) : w.heap.size≤gb407));have n4_:=Aside0.mk ((by rw [hg];exact (below_size (by repeat (first|(with_reducible first|exact HB.out|apply below_alloc|apply pw_below_drewN|apply below_drew1|refine below_set ?_ GE406.out)|exact HB.out))) : w.heap.size≤gb407));have n5_:=Aside0.mk ((by rw [hg];exact Nat.ne_of_lt (blk_lt (g:=gb406) (o:=.cells #[.int .i64 a0_0,.int .i64 a0_1,.slice A0_2 l0_2.length c0_2] 24 (0,0)) (by (with_reducible repeat (first|refine blk_drewN ?_ _|refine blk_drew ?_|refine blk_alloc ?_ _));exact BK406.out)) : gb406≠gb407));have n6_:=Aside0.mk ((by rw [hg];exact Nat.ne_of_gt (blk_lt (g:=gb406) (o:=.cells #[.int .i64 a0_0,.int .i64 a0_1,.slice A0_2 l0_2.length c0_2] 24 (0,0)) (by (with_reducible repeat (first|refine blk_drewN ?_ _|refine blk_drew ?_|refine blk_alloc ?_ _));exact BK406.out)) : gb407≠gb406));clear BK406;clear HB;have BK406:=n0_;have HB:=n1_;have BK407:=n2_;have GW407:=n3_;have GE407:=n4_;have NB406_407:=n5_;have NB407_406:=n6_;clear n0_ n1_ n2_ n3_ n4_ n5_ n6_;clear hb hbox hg;have hnb135:=NB406_407.out;have hnc135:=NB407_406.out;have hcz136_0 : w134.cell? ⟨gb406,0,none⟩=some (.int .i64 a0_0):=(blk_cell BK406.out 0).trans rfl;have hcz136_1 : w134.cell? ⟨gb406,1,none⟩=some (.int .i64 a0_1):=(blk_cell BK406.out 1).trans rfl;have hcz136_2 : w134.cell? ⟨gb406,2,none⟩=some (.slice A0_2 l0_2.length c0_2):=(blk_cell BK406.out 2).trans rfl;have hfz136_0:=blk_frozen BK406.out 0;have hfz136_1:=blk_frozen BK406.out 1;have hfz136_2:=blk_frozen BK406.out 2)|((with_reducible refine gate_callee (f:=24) rfl ?_);refine goesL_ (some 10) rfl rfl Try.func24 (by kernel_rfl) rfl #[.agg #[.int .i64 a0_0,.int .i64 a0_1,.slice A0_2 l0_2.length c0_2]] rfl (by (try simp only [List.map_toArray,List.map_cons,List.map_nil]);first|done|rfl|(simp only [List.length_drop,List.length_take];rfl)) ?_;(with_reducible refine (phasorref08_May.calls k a0_0 a0_1 _ _ l0_2 false _ ?side1 ?side2 A2.out).mono ?_);(case side1 => repeat (first|exact (Kd.C_below HR0_2.out HB.out)|(with_reducible refine Kd.C_alloc ?_ _)|(with_reducible refine Kd.C_drewN ?_ _)|(with_reducible refine Kd.C_drew ?_)));(case side2 => exact HC0_2.out);rintro e w137 ⟨rfl,hb⟩;refine ⟨_,rfl,?_⟩;have n0_:=Aside0.mk (blk_below (g:=gb406) (o:=.cells #[.int .i64 a0_0,.int .i64 a0_1,.slice A0_2 l0_2.length c0_2] 24 (0,0)) (by (with_reducible repeat (first|refine blk_drewN ?_ _|refine blk_drew ?_|refine blk_alloc ?_ _));exact BK406.out) hb);have n1_:=Aside0.mk (blk_below (g:=gb407) (o:=.cells #[.int .i64 0,.int .i64 0,.slice none 0 0] 24 (0,0)) (by (with_reducible repeat (first|refine blk_drewN ?_ _|refine blk_drew ?_|refine blk_alloc ?_ _));exact BK407.out) hb);have n2_:=Aside0.mk (below_step (by repeat (first|(with_reducible first|exact HB.out|apply below_alloc|apply pw_below_drewN|apply below_drew1|refine below_set ?_ GE406.out|refine below_set ?_ GE407.out)|exact HB.out)) hb);clear BK406;clear BK407;clear HB;have BK406:=n0_;have BK407:=n1_;have HB:=n2_;clear n0_ n1_ n2_;(try clear hb);(try clear hb2);(try clear hk);(try clear hi);have hcz138_0 : w137.cell? ⟨gb407,0,none⟩=some (.int .i64 0):=(blk_cell BK407.out 0).trans rfl;have hcz138_1 : w137.cell? ⟨gb407,1,none⟩=some (.int .i64 0):=(blk_cell BK407.out 1).trans rfl;have hcz138_2 : w137.cell? ⟨gb407,2,none⟩=some (.slice none 0 0):=(blk_cell BK407.out 2).trans rfl;have hfz138_0:=blk_frozen BK407.out 0;have hfz138_1:=blk_frozen BK407.out 1;have hfz138_2:=blk_frozen BK407.out 2))
  refine bodyPost_ret (results_ct rfl _ _ gb407 24 #[.int .i64 0,.int .i64 0,.slice none 0 0] (0,0) _ rfl (by (with_reducible repeat (first|refine blk_drewN ?_ _|refine blk_drew ?_|refine blk_alloc ?_ _));refine blk_put (cs:=#[.int .i64 0,.int .i64 0,.slice none 0 0]) ?_ 2 _ rfl;(with_reducible repeat (first|refine blk_drewN ?_ _|refine blk_drew ?_|refine blk_alloc ?_ _));refine blk_put (cs:=#[.int .i64 0,.int .i64 0,.slice none 0 0]) ?_ 1 _ rfl;(with_reducible repeat (first|refine blk_drewN ?_ _|refine blk_drew ?_|refine blk_alloc ?_ _));refine blk_put (cs:=#[.int .i64 0,.int .i64 0,.slice none 0 0]) ?_ 0 _ rfl;(with_reducible repeat (first|refine blk_drewN ?_ _|refine blk_drew ?_|refine blk_alloc ?_ _));exact BK407.out) Try.underlying24 rfl (by kernel_rfl)) rfl ?_
  exact ⟨_,by first|rfl|(simp [errW_none,errW_some] <;> rfl)|(simp [*,errW_none,errW_some] <;> rfl),by first|exact Kd.S_nil _ _ _ _ _|exact Kd.N_nil _ _ _ _ _|exact Kd.V_nil _ _ _ _ _|exact Kd.Q_nil _ _ _ _ _|exact Kd.R_nil _ _ _ _ _,by repeat (first|(with_reducible first|exact HB.out|apply below_alloc|apply pw_below_drewN|apply below_drew1|refine below_set ?_ GE406.out|refine below_set ?_ GE407.out)|exact HB.out)⟩
end Go.Proofs.Ytbelnopbggkdfaa.Q
end
