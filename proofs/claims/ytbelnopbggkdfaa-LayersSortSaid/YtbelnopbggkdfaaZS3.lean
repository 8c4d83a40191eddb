/- A part of the proof: texts of this claim laid together by a program of its own; what the proof does not use is struck. -/
import Derived.Test.YtbelnopbggkdfaaZS2
import Derived.Deep.RegionWith
import Derived.StillTailTactics
import Derived.Deep.Upon
import Derived.Laws.EntriesVeiled
section
namespace Go.Proofs.Ytbelnopbggkdfaa
open Go.RowKit Go.Proofs.YtbelnopbggkdfaaW.PrintWords
variable {St : World→List Int→Prop} {gd n f : Nat} {cap : Array Value} {V : Int→Prop} {key : Int→Int}
structure SwR (a b m : Nat) (d d' : List Int) : Prop where
  perm : d'.Perm d
  lo : ∀ p q : Nat,a≤p→p < a + m→q + a=p + b→rd d' p=rd d q
  hi : ∀ p q : Nat,b≤p→p < b + m→q + b=p + a→rd d' p=rd d q
  out : ∀ p : Nat,(p < a∨a + m≤p)→(p < b∨b + m≤p)→rd d' p=rd d p
theorem SwR.start (a b : Nat) (d : List Int) : SwR a b 0 d d :=
  ⟨List.Perm.refl _,fun p q _ _ _ => by omega,fun p q _ _ _ => by omega,fun _ _ _ => rfl⟩
theorem SwR.step {a b m n : Nat} {d d' : List Int} (h : SwR a b m d d') (hl : d'.length=n) (hab : a + m < b) (hb : b + m < n) : SwR a b (m + 1) d (swapL d' (a + m) (b + m)):=by
  have e:=fun k => swapL_rd d' (a + m) (b + m) k (by omega) (by omega)
  refine ⟨(swapL_perm d' _ _ (by omega) (by omega)).trans h.perm,fun p q h1 h2 h3 => ?_,fun p q h1 h2 h3 => ?_,fun p h1 h2 => ?_⟩
  · rw [e p,if_neg (by omega)]
    by_cases c : p=a + m
    · rw [if_pos c,show q=b + m by omega]
      exact h.out (b + m) (by omega) (by omega)
    · rw [if_neg c]
      exact h.lo p q h1 (by omega) h3
  · rw [e p]
    by_cases c : p=b + m
    · rw [if_pos c,show q=a + m by omega]
      exact h.out (a + m) (by omega) (by omega)
    · rw [if_neg c,if_neg (by omega)]
      exact h.hi p q h1 (by omega) h3
  · rw [e p,if_neg (by omega),if_neg (by omega)]
    exact h.out p (by omega) (by omega)
structure Rot (a m b : Nat) (d d' : List Int) : Prop where
  perm : d'.Perm d
  lo : ∀ p q : Nat,a≤p→q < b→q + a=p + m→rd d' p=rd d q
  hi : ∀ p q : Nat,a≤q→q < m→p + m=q + b→rd d' p=rd d q
  out : ∀ p : Nat,p < a∨b≤p→rd d' p=rd d p
theorem Rot.left {i j m : Nat} {d d2 d' : List Int} (hi : i≤m) (hij : j < i) (hs : SwR (m - i) m j d d2) (h : Rot (m - (i - j)) m (m + j) d2 d') : Rot (m - i) m (m + j) d d':=by
  refine ⟨h.perm.trans hs.perm,fun p q h1 h2 h3 => ?_,fun p q h1 h2 h3 => ?_,fun p h1 => ?_⟩
  · rw [h.out p (by omega)]
    exact hs.lo p q h1 (by omega) (by omega)
  · by_cases c : q < m - i + j
    · rw [h.lo p (p + (i - j)) (by omega) (by omega) (by omega)]
      exact hs.hi (p + (i - j)) q (by omega) (by omega) (by omega)
    · rw [h.hi p q (by omega) h2 h3]
      exact hs.out q (by omega) (by omega)
  · rw [h.out p (by omega)]
    exact hs.out p (by omega) (by omega)
theorem Rot.right {i j m : Nat} {d d2 d' : List Int} (hi : i≤m) (hij : i < j) (hs : SwR (m - i) (m + j - i) i d d2) (h : Rot (m - i) m (m + (j - i)) d2 d') : Rot (m - i) m (m + j) d d':=by
  refine ⟨h.perm.trans hs.perm,fun p q h1 h2 h3 => ?_,fun p q h1 h2 h3 => ?_,fun p h1 => ?_⟩
  · by_cases c : q < m + (j - i)
    · rw [h.lo p q h1 c h3]
      exact hs.out q (by omega) (by omega)
    · rw [h.hi p (p + m - (m + (j - i))) (by omega) (by omega) (by omega)]
      exact hs.lo _ q (by omega) (by omega) (by omega)
  · rw [h.out p (by omega)]
    exact hs.hi p q (by omega) (by omega) (by omega)
  · rw [h.out p (by omega)]
    exact hs.out p (by omega) (by omega)
theorem Rot.last {i m : Nat} {d d' : List Int} (hi : i≤m) (hs : SwR (m - i) m i d d') : Rot (m - i) m (m + i) d d' :=
  ⟨hs.perm,fun p q h1 h2 h3 => hs.lo p q h1 (by omega) (by omega),fun p q h1 h2 h3 => hs.hi p q (by omega) (by omega) (by omega),fun p h1 => hs.out p (by omega) (by omega)⟩
set_option maxHeartbeats 4000000 in
set_option maxRecDepth 1000000 in
theorem swr_any (E : SortEnv St gd n f cap V key) {W : World} {d : List Int} (hS : St W d) (c a b m : Nat) (g : Value) (hab : a + m≤b) (hb : b + m≤n) :
    Calls Try.prog 102 #[.slice (some ⟨gd,0,none⟩) n c,.int .i64 a,.int .i64 b,.int .i64 m,g] W fun e w' =>
      e=.returned (.tuple #[])∧∃ d',St w' d'∧SwR a b m d d':=by
  have h64:=E.n64
  have HE:=Aside0.mk E
  have HS:=Aside0.mk hS
  clear hS E
  go_enter Try.func102,Try.ntmps102
  go_wp2
  go_loopg [10] m (fun g1 vi wr => ∃ (i : Nat) (dk : List Int),vi=.int .i64 i∧i≤m∧m - i≤g1∧Aside0 (St wr dk∧SwR a b i d dk))
  case atStart => exact ⟨0,d,rfl,by omega,by omega,⟨HS.out,SwR.start _ _ _⟩⟩
  case round =>
    obtain ⟨i,dk,rfl,him,hg1,HI⟩:=hrel
    by_cases hlt : i < m
    · have hltz : (i : Int) < (m : Int):=by omega
      have hS2:=HI.out.1
      obtain ⟨ca,fa⟩:=HE.out.rd hS2 (a + i) (by omega)
      obtain ⟨cb,fb⟩:=HE.out.rd hS2 (b + i) (by omega)
      have HST:=Aside0.mk (show SwR a b (i + 1) d (swapL dk (a + i) (b + i)) from HI.out.2.step (HE.out.len hS2) (by omega) (by omega))
      have HSW:=Aside0.mk (show St ((wr.setCell ⟨gd,a + i,none⟩ (.int .i64 (rd dk ((b + i : Nat) : Int)))).setCell ⟨gd,b + i,none⟩ (.int .i64 (rd dk ((a + i : Nat) : Int)))) (swapL dk (a + i) (b + i)) from HE.out.wr (HE.out.wr hS2 (a + i) _ (by omega)) (b + i) _ (by omega))
      have e1 : (a : Int) + (i : Int)=((a + i : Nat) : Int):=by omega
      have e2 : (b : Int) + (i : Int)=((b + i : Nat) : Int):=by omega
      have l1 : ((a + i : Nat) : Int) < (n : Int):=by omega
      have l2 : ((b + i : Nat) : Int) < (n : Int):=by omega
      generalize rd dk ((a + i : Nat) : Int)=xa at ca HSW
      generalize rd dk ((b + i : Nat) : Int)=xb at cb HSW
      generalize a + i=pa at *
      generalize b + i=pb at *
      clear hS2
      go_wp2_with fail
      go_region
      all_goals go_wp2
      go_roundg (m - (i + 1))
      case measure => omega
      case rel => exact ⟨i + 1,_,by go_num,by omega,Nat.le_refl _,⟨HE.out.dr HSW.out 1,HST.out⟩⟩
    · have hltz : ¬ (i : Int) < (m : Int):=by omega
      obtain rfl : i=m:=by omega
      go_wp2
      go_end0
      exact ⟨rfl,dk,HI.out⟩
set_option maxHeartbeats 4000000 in
set_option maxRecDepth 1000000 in
theorem rot_any (E : SortEnv St gd n f cap V key) {W : World} {d : List Int} (hS : St W d) (c a b m : Nat) (g : Value) (ham : a < m) (hmb : m < b) (hb : b≤n) :
    Calls Try.prog 99 #[.slice (some ⟨gd,0,none⟩) n c,.int .i64 a,.int .i64 m,.int .i64 b,g] W fun e w' =>
      e=.returned (.tuple #[])∧∃ d',St w' d'∧Rot a m b d d':=by
  have h64:=E.n64
  have HE:=Aside0.mk E
  have HS:=Aside0.mk hS
  have HC:=fun {W d} (hS : St W d) => swr_any E hS c
  have HSR:=Aside0.mk (show ∀ d',Rot (m - (m - a)) m (m + (b - m)) d d'→Rot a m b d d' from fun d' h => by rwa [show m - (m - a)=a by omega,show m + (b - m)=b by omega] at h)
  have e1 : (m : Int) - (a : Int)=((m - a : Nat) : Int):=by omega
  have e2 : (b : Int) - (m : Int)=((b - m : Nat) : Int):=by omega
  have hi0 : 0 < m - a:=by omega
  have hj0 : 0 < b - m:=by omega
  have hi1 : m - a≤m:=by omega
  have hj1 : m + (b - m)≤n:=by omega
  generalize m - a=i0 at e1 HSR hi0 hi1
  generalize b - m=j0 at e2 HSR hj0 hj1
  clear hS E
  go_enter Try.func99,Try.ntmps99
  go_wp2
  go_loopg [10,11] (i0 + j0) (fun g1 vi vj wr => ∃ (i j : Nat) (dk : List Int),vi=.int .i64 i∧vj=.int .i64 j∧0 < i∧0 < j∧i≤m∧m + j≤n∧i + j≤g1∧Aside0 (St wr dk∧∀ d',Rot (m - i) m (m + j) dk d'→Rot a m b d d'))
  case atStart => exact ⟨i0,j0,d,rfl,rfl,hi0,hj0,hi1,hj1,Nat.le_refl _,⟨HS.out,HSR.out⟩⟩
  case round =>
    obtain ⟨i,j,dk,rfl,rfl,hi0',hj0',him,hjn,hg1,HI⟩:=hrel
    have e3 : (m : Int) - (i : Int)=((m - i : Nat) : Int):=by omega
    rcases Nat.lt_trichotomy i j with hij|hij|hij
    · have hc:=HC HI.out.1 (m - i) (m + j - i) i g (by omega) (by omega)
      have HL:=Aside0.mk (fun d2 (h : SwR (m - i) (m + j - i) i dk d2) d' h' => HI.out.2 d' (Rot.right him hij h h'))
      have e4 : (m : Int) + (j : Int)=((m + j : Nat) : Int):=by omega
      have e5 : ((m + j : Nat) : Int) - (i : Int)=((m + j - i : Nat) : Int):=by omega
      have e6 : (j : Int) - (i : Int)=((j - i : Nat) : Int):=by omega
      have hgt : ¬ (j : Int) < (i : Int):=by omega
      have hne : ¬ i=j:=by omega
      have b1 : m + j - i≤n:=by omega
      have b2 : j - i≤n:=by omega
      have b3 : 0 < j - i:=by omega
      have b4 : m + (j - i)≤n:=by omega
      have b5 : i + (j - i) < i + j:=by omega
      generalize m + j - i=pj at hc HL e5 b1
      generalize m + j=pk at e4 e5 hjn
      generalize j - i=j2 at HL e6 b2 b3 b4 b5
      generalize hpm : m - i=pm at hc HL e3
      have HPM:=Aside0.mk hpm
      clear hpm
      go_wp2_with (go_at_call 102;refine hc.mono ?_;rintro e w2 ⟨rfl,d2,hs2⟩;have HS2:=Aside0.mk hs2;clear hs2)
      go_roundg (i + j2)
      case measure => omega
      case rel => exact ⟨i,j2,d2,rfl,by go_num,hi0',b3,him,b4,Nat.le_refl _,⟨HS2.out.1,by rw [HPM.out];exact HL.out d2 HS2.out.2⟩⟩
    · subst hij
      have hc:=HC HI.out.1 (m - i) m i g (by omega) hjn
      have HL:=Aside0.mk (fun d' h => HI.out.2 d' (Rot.last (d:=dk) (d':=d') him h))
      generalize hpm : m - i=pm at hc HL e3
      have HPM:=Aside0.mk hpm
      clear hpm
      go_wp2_with (go_at_call 102;refine hc.mono ?_;rintro e w2 ⟨rfl,d2,hs2⟩;have HS2:=Aside0.mk hs2;clear hs2)
      go_end0
      exact ⟨rfl,d2,HS2.out.1,HL.out _ HS2.out.2⟩
    · have hc:=HC HI.out.1 (m - i) m j g (by omega) (by omega)
      have HL:=Aside0.mk (fun d2 (h : SwR (m - i) m j dk d2) d' h' => HI.out.2 d' (Rot.left him hij h h'))
      have e6 : (i : Int) - (j : Int)=((i - j : Nat) : Int):=by omega
      have hgt : (j : Int) < (i : Int):=by omega
      have hne : ¬ i=j:=by omega
      have b2 : i - j≤n:=by omega
      have b3 : 0 < i - j:=by omega
      have b4 : i - j≤m:=by omega
      have b5 : (i - j) + j < i + j:=by omega
      generalize i - j=i2 at HL e6 b2 b3 b4 b5
      generalize hpm : m - i=pm at hc HL e3
      have HPM:=Aside0.mk hpm
      clear hpm
      go_wp2_with (go_at_call 102;refine hc.mono ?_;rintro e w2 ⟨rfl,d2,hs2⟩;have HS2:=Aside0.mk hs2;clear hs2)
      go_roundg (i2 + j)
      case measure => omega
      case rel => exact ⟨i2,j,d2,by go_num,rfl,b3,hj0',b4,hjn,Nat.le_refl _,⟨HS2.out.1,HL.out d2 HS2.out.2⟩⟩
end Go.Proofs.Ytbelnopbggkdfaa
end

section
namespace Go.Proofs.Ytbelnopbggkdfaa
open Go.RowKit Go.Proofs.YtbelnopbggkdfaaW.PrintWords
variable {key : Int→Int}
structure Pre (key : Int→Int) (a m b : Nat) (d : List Int) : Prop where
  sl : ∀ p q : Nat,a≤p→p < q→q < m→ltK key (rd d p) (rd d q)
  sr : ∀ p q : Nat,m≤p→p < q→q < b→ltK key (rd d p) (rd d q)
  asc : ∀ p q : Nat,a≤p→p < m→m≤q→q < b→rd d p < rd d q
structure Mrg (key : Int→Int) (a b : Nat) (d d' : List Int) : Prop where
  perm : d'.Perm d
  out : ∀ p : Nat,p < a∨b≤p→rd d' p=rd d p
  mem : ∀ p : Nat,a≤p→p < b→∃ q : Nat,a≤q∧q < b∧rd d' p=rd d q
  srt : ∀ p q : Nat,a≤p→p < q→q < b→ltK key (rd d' p) (rd d' q)
theorem ltK_of_le {x y : Int} (h : key x≤key y) (h2 : x < y) : ltK key x y:=by unfold ltK;omega
theorem ltK_key {x y : Int} (h : ltK key x y) : key x≤key y:=by unfold ltK at h;omega
theorem Pre.keyl {a m b : Nat} {d : List Int} (h : Pre key a m b d) {p q : Nat} (h1 : a≤p) (h2 : p≤q) (h3 : q < m) : key (rd d p)≤key (rd d q):=by
  rcases Nat.lt_or_eq_of_le h2 with c|c
  · exact ltK_key (h.sl p q h1 c h3)
  · rw [c];exact Int.le_refl _
theorem Pre.keyr {a m b : Nat} {d : List Int} (h : Pre key a m b d) {p q : Nat} (h1 : m≤p) (h2 : p≤q) (h3 : q < b) : key (rd d p)≤key (rd d q):=by
  rcases Nat.lt_or_eq_of_le h2 with c|c
  · exact ltK_key (h.sr p q h1 c h3)
  · rw [c];exact Int.le_refl _
theorem Rot.refl {s m e : Nat} {d : List Int} (h : s=m∨e=m) (hs : s≤m) (he : m≤e) : Rot s m e d d :=
  ⟨List.Perm.refl _,fun p q h1 h2 h3 => by congr 2;omega,fun p q h1 h2 h3 => by congr 2;omega,fun _ _ => rfl⟩
theorem Rot.from {s m e : Nat} {d d' : List Int} (h : Rot s m e d d') (_hs : s≤m) (_he : m≤e) (p : Nat) :
    (p < s∨e≤p)∧rd d' p=rd d p∨(s≤p∧p + m < s + e∧rd d' p=rd d ((p + m - s : Nat) : Int))∨(s + e≤p + m∧p < e∧rd d' p=rd d ((p + m - e : Nat) : Int)):=by
  by_cases c1 : p < s∨e≤p
  · exact .inl ⟨c1,h.out p c1⟩
  · by_cases c2 : p + m < s + e
    · exact .inr (.inl ⟨by omega,c2,h.lo p _ (by omega) (by omega) (by omega)⟩)
    · exact .inr (.inr ⟨by omega,by omega,h.hi p _ (by omega) (by omega) (by omega)⟩)
theorem Rot.merge {a s m e b : Nat} {d d' : List Int} (h : Rot s m e d d') (P : Pre key a m b d) (has : a≤s) (hs : s≤m) (he : m≤e) (heb : e≤b)
    (h1 : ∀ p q : Nat,a≤p→p < s→m≤q→q < b→ltK key (rd d p) (rd d q))
    (h2 : ∀ p q : Nat,s≤p→p < m→m≤q→q < e→ltK key (rd d q) (rd d p))
    (h3 : ∀ p q : Nat,s≤p→p < m→e≤q→q < b→ltK key (rd d p) (rd d q)) : Mrg key a b d d':=by
  refine ⟨h.perm,fun p c => h.out p (by omega),fun p c1 c2 => ?_,fun p q c1 c2 c3 => ?_⟩
  · rcases h.from hs he p with ⟨_,e1⟩ | ⟨_,_,e1⟩ | ⟨_,_,e1⟩
    · exact ⟨p,c1,c2,e1⟩
    · exact ⟨_,by omega,by omega,e1⟩
    · exact ⟨_,by omega,by omega,e1⟩
  · rcases h.from hs he p with ⟨o1,e1⟩ | ⟨o1,o2,e1⟩ | ⟨o1,o2,e1⟩ <;> rcases h.from hs he q with ⟨x1,f1⟩ | ⟨x1,x2,f1⟩ | ⟨x1,x2,f1⟩ <;> rw [e1,f1]
    · by_cases c4 : q < s
      · exact P.sl p q c1 c2 (by omega)
      · by_cases c5 : p < s
        · exact h1 p q c1 c5 (by omega) c3
        · exact P.sr p q (by omega) c2 c3
    · exact h1 p _ c1 (by omega) (by omega) (by omega)
    · exact P.sl p _ c1 (by omega) (by omega)
    · exact P.sr _ q (by omega) (by omega) c3
    · exact P.sr _ _ (by omega) (by omega) (by omega)
    · exact h2 _ _ (by omega) (by omega) (by omega) (by omega)
    · exact h3 _ q (by omega) (by omega) (by omega) c3
    · omega
    · exact P.sl _ _ (by omega) (by omega) (by omega)
theorem Rot.halves {a s m e b mid : Nat} {d d' : List Int} (h : Rot s m e d d') (P : Pre key a m b d) (has : a≤s) (hs : s≤m) (he : m≤e) (heb : e≤b) (hmid : mid + m=s + e)
    (h1 : ∀ p q : Nat,a≤p→p < s→e≤q→q < b→ltK key (rd d p) (rd d q))
    (h2 : ∀ p q : Nat,s≤p→p < m→m≤q→q < e→ltK key (rd d q) (rd d p)) :
    Pre key a s mid d'∧Pre key mid e b d'∧∀ p q : Nat,a≤p→p < mid→mid≤q→q < b→ltK key (rd d' p) (rd d' q):=by
  have lo : ∀ p : Nat,s≤p→p < mid→rd d' p=rd d ((p + m - s : Nat) : Int):=fun p c1 c2 => h.lo p _ c1 (by omega) (by omega)
  have hi : ∀ p : Nat,mid≤p→p < e→rd d' p=rd d ((p + m - e : Nat) : Int):=fun p c1 c2 => h.hi p _ (by omega) (by omega) (by omega)
  refine ⟨⟨fun p q c1 c2 c3 => ?_,fun p q c1 c2 c3 => ?_,fun p q c1 c2 c3 c4 => ?_⟩,⟨fun p q c1 c2 c3 => ?_,fun p q c1 c2 c3 => ?_,fun p q c1 c2 c3 c4 => ?_⟩,fun p q c1 c2 c3 c4 => ?_⟩
  · rw [h.out p (by omega),h.out q (by omega)];exact P.sl p q c1 c2 (by omega)
  · rw [lo p c1 (by omega),lo q (by omega) c3];exact P.sr _ _ (by omega) (by omega) (by omega)
  · rw [h.out p (by omega),lo q c3 c4];exact P.asc _ _ c1 (by omega) (by omega) (by omega)
  · rw [hi p c1 (by omega),hi q (by omega) c3];exact P.sl _ _ (by omega) (by omega) (by omega)
  · rw [h.out p (by omega),h.out q (by omega)];exact P.sr p q (by omega) c2 c3
  · rw [hi p c1 c2,h.out q (by omega)];exact P.asc _ _ (by omega) (by omega) (by omega) c4
  · by_cases c5 : p < s
    · rw [h.out p (by omega)]
      by_cases c6 : q < e
      · rw [hi q c3 c6];exact P.sl _ _ c1 (by omega) (by omega)
      · rw [h.out q (by omega)];exact h1 p q c1 c5 (by omega) c4
    · rw [lo p (by omega) c2]
      by_cases c6 : q < e
      · rw [hi q c3 c6];exact h2 _ _ (by omega) (by omega) (by omega) (by omega)
      · rw [h.out q (by omega)];exact P.sr _ _ (by omega) (by omega) c4
theorem Mrg.join {a mid b : Nat} {d d1 d2 d3 : List Int} (ham : a≤mid) (hmb : mid≤b) (hp : d1.Perm d) (ho : ∀ p : Nat,p < a∨b≤p→rd d1 p=rd d p) (hm : ∀ p : Nat,a≤p→p < b→∃ q : Nat,a≤q∧q < b∧rd d1 p=rd d q)
    (hx : ∀ p q : Nat,a≤p→p < mid→mid≤q→q < b→ltK key (rd d1 p) (rd d1 q)) (h1 : Mrg key a mid d1 d2) (h2 : Mrg key mid b d2 d3) : Mrg key a b d d3:=by
  refine ⟨h2.perm.trans (h1.perm.trans hp),fun p c => ?_,fun p c1 c2 => ?_,fun p q c1 c2 c3 => ?_⟩
  · rw [h2.out p (by omega),h1.out p (by omega)];exact ho p c
  · by_cases c : p < mid
    · rw [h2.out p (by omega)]
      obtain ⟨q,q1,q2,q3⟩:=h1.mem p c1 c
      rw [q3]
      exact hm q q1 (by omega)
    · obtain ⟨q,q1,q2,q3⟩:=h2.mem p (by omega) c2
      rw [q3,h1.out q (by omega)]
      exact hm q (by omega) q2
  · by_cases c : q < mid
    · rw [h2.out p (by omega),h2.out q (by omega)];exact h1.srt p q c1 c2 c
    · by_cases c' : p < mid
      · rw [h2.out p (by omega)]
        obtain ⟨p',p1,p2,p3⟩:=h1.mem p c1 c'
        obtain ⟨q',q1,q2,q3⟩:=h2.mem q (by omega) c3
        rw [p3,q3,h1.out q' (by omega)]
        exact hx p' q' p1 p2 q1 q2
      · exact h2.srt p q (by omega) c2 c3
theorem Mrg.refl {a b : Nat} {d : List Int} (h : ∀ p q : Nat,a≤p→p < q→q < b→ltK key (rd d p) (rd d q)) : Mrg key a b d d :=
  ⟨List.Perm.refl _,fun _ _ => rfl,fun p c1 c2 => ⟨p,c1,c2,rfl⟩,h⟩
theorem Rot.mem {a s m e b : Nat} {d d' : List Int} (h : Rot s m e d d') (has : a≤s) (hs : s≤m) (he : m≤e) (heb : e≤b) (p : Nat) (c1 : a≤p) (c2 : p < b) : ∃ q : Nat,a≤q∧q < b∧rd d' p=rd d q:=by
  rcases h.from hs he p with ⟨_,e1⟩ | ⟨_,_,e1⟩ | ⟨_,_,e1⟩
  · exact ⟨p,c1,c2,e1⟩
  · exact ⟨_,by omega,by omega,e1⟩
  · exact ⟨_,by omega,by omega,e1⟩
end Go.Proofs.Ytbelnopbggkdfaa
end

section
namespace Go.Proofs.Ytbelnopbggkdfaa
open Go.RowKit Go.Proofs.YtbelnopbggkdfaaW.PrintWords
variable {St : World→List Int→Prop} {gd n f : Nat} {cap : Array Value} {V : Int→Prop} {key : Int→Int}
theorem Rot.up {a k n : Nat} {d dk : List Int} (h : Rot a (a + 1) (k + 1) d dk) (hl : dk.length=n) (ha : a≤k) (hk : k + 1 < n) : Rot a (a + 1) (k + 2) d (swapL dk k (k + 1)):=by
  have e:=fun p => swapL_rd dk k (k + 1) p (by omega) (by omega)
  refine ⟨(swapL_perm dk _ _ (by omega) (by omega)).trans h.perm,fun p q h1 h2 h3 => ?_,fun p q h1 h2 h3 => ?_,fun p h1 => ?_⟩
  · rw [e p,if_neg (by omega)]
    by_cases c : p=k
    · rw [if_pos c,h.out _ (by omega)]
      congr 2
      omega
    · rw [if_neg c]
      exact h.lo p q h1 (by omega) h3
  · rw [e p,if_pos (by omega)]
    exact h.hi k q h1 h2 (by omega)
  · rw [e p,if_neg (by omega),if_neg (by omega)]
    exact h.out p (by omega)
theorem Rot.down {m k n : Nat} {d dk : List Int} (h : Rot (k + 1) m (m + 1) d dk) (hl : dk.length=n) (hk : k < m) (hm : m < n) : Rot k m (m + 1) d (swapL dk (k + 1) k):=by
  have e:=fun p => swapL_rd dk (k + 1) k p (by omega) (by omega)
  refine ⟨(swapL_perm dk _ _ (by omega) (by omega)).trans h.perm,fun p q h1 h2 h3 => ?_,fun p q h1 h2 h3 => ?_,fun p h1 => ?_⟩
  · rw [e p,if_pos (by omega)]
    exact h.lo (k + 1) q (Nat.le_refl _) h2 (by omega)
  · rw [e p,if_neg (by omega)]
    by_cases c : p=k + 1
    · rw [if_pos c,h.out k (by omega)]
      congr 2
      omega
    · rw [if_neg c]
      exact h.hi p q (by omega) h2 h3
  · rw [e p,if_neg (by omega),if_neg (by omega)]
    exact h.out p (by omega)
set_option maxHeartbeats 4000000 in
set_option maxRecDepth 1000000 in
theorem sym_one (E : SortEnv St gd n f cap V key) {W : World} {d : List Int} (hS : St W d) (c a m b : Nat) (ham : m=a + 1) (hmb : m < b) (hb : b≤n) (hV : ∀ i : Nat,i < n→V (rd d i)) (P : Pre key a m b d) :
    Calls Try.prog 95 #[.slice (some ⟨gd,0,none⟩) n c,.int .i64 a,.int .i64 m,.int .i64 b,.func (.func f) #[] cap] W fun e w' =>
      e=.returned (.tuple #[])∧∃ d',St w' d'∧Mrg key a b d d':=by
  have h64:=E.n64
  have eg:=E.eg
  have HE:=Aside0.mk E
  have HV:=Aside0.mk hV
  have HP:=Aside0.mk P
  have HS:=Aside0.mk hS
  have HAM:=Aside0.mk ham
  have hone : (m : Int) - (a : Int)=1:=by omega
  have hand : a < m:=by omega
  clear hS hV E P ham
  go_enter Try.func95,Try.ntmps95
  go_wp2
  go_loopg [10,11] (b - m) (fun g1 vi vj wr => ∃ (i j : Nat),vi=.int .i64 i∧vj=.int .i64 j∧m≤i∧i≤j∧j≤b∧j - i≤g1∧Aside0 (St wr d∧(∀ p : Nat,m≤p→p < i→key (rd d p) < key (rd d a))∧(∀ p : Nat,j≤p→p < b→key (rd d a)≤key (rd d p))))
  case atStart => exact ⟨m,b,rfl,rfl,Nat.le_refl _,by omega,Nat.le_refl _,Nat.le_refl _,⟨HS.out,fun p h1 h2 => by omega,fun p h1 h2 => by omega⟩⟩
  case round =>
    obtain ⟨i,j,rfl,rfl,hmi,hij,hjb,hg1,HI⟩:=hrel
    by_cases hlt : i < j
    · have hltz : (i : Int) < (j : Int):=by omega
      obtain ⟨h,hh⟩ : ∃ h,h=(i + j) / 2:=⟨_,rfl⟩
      have b1 : i≤h:=by omega
      have b2 : h < j:=by omega
      have e1 : ((i : Int) + (j : Int)) / 2=(h : Int):=by omega
      clear hh
      have hS2:=HI.out.1
      obtain ⟨ch,fh⟩:=HE.out.rd hS2 h (by omega)
      obtain ⟨ca,fa⟩:=HE.out.rd hS2 a (by omega)
      have hc:=fun q => HE.out.cmp (HE.out.dr hS2 q) _ _ (HV.out h (by omega)) (HV.out a (by omega))
      have HLO:=Aside0.mk (show key (rd d h) < key (rd d a)→∀ p : Nat,m≤p→p < h + 1→key (rd d p) < key (rd d a) from fun hk p p1 p2 => by have:=HP.out.keyr p1 (show p≤h by omega) (by omega);omega)
      have HHI:=Aside0.mk (show key (rd d a)≤key (rd d h)→∀ p : Nat,h≤p→p < b→key (rd d a)≤key (rd d p) from fun hk p p1 p2 => by have:=HP.out.keyr (show m≤h by omega) p1 p2;omega)
      have l1 : (h : Int) < (n : Int):=by omega
      have l2 : (a : Int) < (n : Int):=by omega
      have l3 : (h : Int) + 1≤(n : Int):=by omega
      clear hS2
      generalize rd d (h : Int)=xh at ch hc HLO HHI
      generalize hxa : rd d (a : Int)=xa at ca hc HLO HHI
      have HXA:=Aside0.mk hxa
      clear hxa
      by_cases hlv : key xh - key xa < 0
      · go_wp2_with fail
        go_quiet (first|(go_at_fn f;refine Calls.quiet_of (hc _)))
        go_wp2
        go_roundg (j - (h + 1))
        case measure => omega
        case rel => exact ⟨h + 1,j,by go_num,rfl,by omega,by omega,hjb,Nat.le_refl _,⟨HE.out.dr HI.out.1 _,by rw [HXA.out];exact HLO.out (by omega),HI.out.2.2⟩⟩
      · go_wp2_with fail
        go_quiet (first|(go_at_fn f;refine Calls.quiet_of (hc _)))
        go_wp2
        go_roundg (h - i)
        case measure => omega
        case rel => exact ⟨i,h,rfl,rfl,hmi,b1,by omega,Nat.le_refl _,⟨HE.out.dr HI.out.1 _,HI.out.2.1,by rw [HXA.out];exact HHI.out (by omega)⟩⟩
    · obtain rfl : i=j:=by omega
      have HI':=Aside0.mk HI.out
      obtain ⟨ip,rfl⟩ : ∃ ip,i=ip + 1:=⟨i - 1,by omega⟩
      have hap : a≤ip:=by have:=HAM.out;omega
      go_wp2_with fail
      go_loopg [13] (ip - a) (fun g1 vk wr => ∃ (k : Nat) (dk : List Int),vk=.int .i64 k∧a≤k∧k≤ip∧ip - k≤g1∧Aside0 (St wr dk∧Rot a (a + 1) (k + 1) d dk))
      case atStart => exact ⟨a,d,rfl,Nat.le_refl _,hap,Nat.le_refl _,⟨HI.out.1,Rot.refl (.inr rfl) (by omega) (by omega)⟩⟩
      case round =>
        obtain ⟨k,dk,rfl,hak,hki,hg2,HK⟩:=hrel
        by_cases hlt2 : k < ip
        · have hltz2 : (k : Int) < (ip : Int):=by omega
          have hS2:=HK.out.1
          obtain ⟨ck,fk⟩:=HE.out.rd hS2 k (by omega)
          obtain ⟨cl,fl⟩:=HE.out.rd hS2 (k + 1) (by omega)
          have HST:=Aside0.mk (HK.out.2.up (HE.out.len hS2) hak (by omega))
          have HSW:=Aside0.mk (show St ((wr.setCell ⟨gd,k,none⟩ (.int .i64 (rd dk ((k + 1 : Nat) : Int)))).setCell ⟨gd,k + 1,none⟩ (.int .i64 (rd dk (k : Int)))) (swapL dk k (k + 1)) from HE.out.wr (HE.out.wr hS2 k _ (by omega)) (k + 1) _ (by omega))
          have e3 : (k : Int) + 1=((k + 1 : Nat) : Int):=by omega
          have l1 : (k : Int) < (n : Int):=by omega
          have l2 : ((k + 1 : Nat) : Int) < (n : Int):=by omega
          generalize rd dk (k : Int)=xa at ck HSW
          generalize rd dk ((k + 1 : Nat) : Int)=xb at cl HSW
          generalize hk1 : k + 1=k1 at e3 l2 ck cl HSW HST fl
          have HK1:=Aside0.mk hk1
          clear hk1 hS2
          go_wp2_with fail
          go_region
          all_goals go_wp2
          go_roundg (ip - (k + 1))
          case measure => omega
          case rel => exact ⟨k1,_,by go_num,by have:=HK1.out;omega,by have:=HK1.out;omega,by have:=HK1.out;omega,⟨HE.out.dr HSW.out 1,by rw [← HK1.out];rw [← HK1.out] at HST;exact HST.out⟩⟩
        · obtain rfl : k=ip:=by omega
          go_wp2
          (try simp only [Exit.inBlock,Exit.then]);refine bodyPost_ret (results_none rfl _ _ _) rfl ?_
          have ham:=HAM.out
          subst ham
          refine ⟨rfl,dk,HK.out.1,HK.out.2.merge HP.out (Nat.le_refl _) (by omega) (by omega) (by omega) (fun p q h1 h2 => by omega) (fun p q h1 h2 h3 h4 => ?_) (fun p q h1 h2 h3 h4 => ?_)⟩
          · obtain rfl : p=a:=by omega
            exact .inl (HI'.out.2.1 q h3 h4)
          · obtain rfl : p=a:=by omega
            exact ltK_of_le (HI'.out.2.2 q h3 h4) (HP.out.asc p q (Nat.le_refl _) h2 (by omega) h4)
end Go.Proofs.Ytbelnopbggkdfaa
end

section
namespace Go.Proofs.Ytbelnopbggkdfaa
open Go.RowKit Go.Proofs.YtbelnopbggkdfaaW.PrintWords
variable {St : World→List Int→Prop} {gd n f : Nat} {cap : Array Value} {V : Int→Prop} {key : Int→Int}
set_option maxHeartbeats 4000000 in
set_option maxRecDepth 1000000 in
theorem sym_two (E : SortEnv St gd n f cap V key) {W : World} {d : List Int} (hS : St W d) (c a m b : Nat) (ham : a + 1 < m) (hmb : b=m + 1) (hb : b≤n) (hV : ∀ i : Nat,i < n→V (rd d i)) (P : Pre key a m b d) :
    Calls Try.prog 95 #[.slice (some ⟨gd,0,none⟩) n c,.int .i64 a,.int .i64 m,.int .i64 b,.func (.func f) #[] cap] W fun e w' =>
      e=.returned (.tuple #[])∧∃ d',St w' d'∧Mrg key a b d d':=by
  have h64:=E.n64
  have eg:=E.eg
  have HE:=Aside0.mk E
  have HV:=Aside0.mk hV
  have HP:=Aside0.mk P
  have HS:=Aside0.mk hS
  have HMB:=Aside0.mk hmb
  have hn1 : ¬ (m : Int) - (a : Int)=1:=by omega
  have hn1' : ((m : Int) - (a : Int) == 1)=false:=beq_false_of_ne hn1
  have hone : (b : Int) - (m : Int)=1:=by omega
  have hn2 : (a : Int)≤(m : Int):=by omega
  have hn3 : (m : Int)≤(b : Int):=by omega
  have hn4 : (b : Int)≤(n : Int):=by omega
  clear hS hV E P hmb
  go_enter Try.func95,Try.ntmps95
  go_wp2
  go_loopg [14,15] (m - a) (fun g1 vi vj wr => ∃ (i j : Nat),vi=.int .i64 i∧vj=.int .i64 j∧a≤i∧i≤j∧j≤m∧j - i≤g1∧Aside0 (St wr d∧(∀ p : Nat,a≤p→p < i→key (rd d p)≤key (rd d m))∧(∀ p : Nat,j≤p→p < m→key (rd d m) < key (rd d p))))
  case atStart => exact ⟨a,m,rfl,rfl,Nat.le_refl _,by omega,Nat.le_refl _,Nat.le_refl _,⟨HS.out,fun p h1 h2 => by omega,fun p h1 h2 => by omega⟩⟩
  case round =>
    obtain ⟨i,j,rfl,rfl,hmi,hij,hjb,hg1,HI⟩:=hrel
    by_cases hlt : i < j
    · have hltz : (i : Int) < (j : Int):=by omega
      obtain ⟨h,hh⟩ : ∃ h,h=(i + j) / 2:=⟨_,rfl⟩
      have b1 : i≤h:=by omega
      have b2 : h < j:=by omega
      have e1 : ((i : Int) + (j : Int)) / 2=(h : Int):=by omega
      clear hh
      have hS2:=HI.out.1
      obtain ⟨ch,fh⟩:=HE.out.rd hS2 h (by omega)
      obtain ⟨ca,fa⟩:=HE.out.rd hS2 m (by omega)
      have hc:=fun q => HE.out.cmp (HE.out.dr hS2 q) _ _ (HV.out m (by omega)) (HV.out h (by omega))
      have HLO:=Aside0.mk (show key (rd d h)≤key (rd d m)→∀ p : Nat,a≤p→p < h + 1→key (rd d p)≤key (rd d m) from fun hk p p1 p2 => by have:=HP.out.keyl p1 (show p≤h by omega) (by omega);omega)
      have HHI:=Aside0.mk (show key (rd d m) < key (rd d h)→∀ p : Nat,h≤p→p < m→key (rd d m) < key (rd d p) from fun hk p p1 p2 => by have:=HP.out.keyl (show a≤h by omega) p1 p2;omega)
      have l1 : (h : Int) < (n : Int):=by omega
      have l2 : (m : Int) < (n : Int):=by omega
      have l3 : (h : Int) + 1≤(n : Int):=by omega
      clear hS2
      generalize rd d (h : Int)=xh at ch hc HLO HHI
      generalize hxa : rd d (m : Int)=xa at ca hc HLO HHI
      have HXA:=Aside0.mk hxa
      clear hxa
      by_cases hlv : key xa - key xh < 0
      · go_wp2_with fail
        go_quiet (first|(go_at_fn f;refine Calls.quiet_of (hc _)))
        go_wp2
        go_roundg (h - i)
        case measure => omega
        case rel => exact ⟨i,h,rfl,rfl,hmi,b1,by omega,Nat.le_refl _,⟨HE.out.dr HI.out.1 _,HI.out.2.1,by rw [HXA.out];exact HHI.out (by omega)⟩⟩
      · have hlv2 : decide (key xa - key xh < 0)=false:=decide_eq_false hlv
        go_wp2_with fail
        go_quiet (first|(go_at_fn f;refine Calls.quiet_of (hc _)))
        go_wp2
        go_roundg (j - (h + 1))
        case measure => omega
        case rel => exact ⟨h + 1,j,by go_num,rfl,by omega,by omega,hjb,Nat.le_refl _,⟨HE.out.dr HI.out.1 _,by rw [HXA.out];exact HLO.out (by omega),HI.out.2.2⟩⟩
    · obtain rfl : i=j:=by omega
      have HI':=Aside0.mk HI.out
      go_wp2_with fail
      go_loopg [17] (m - i) (fun g1 vk wr => ∃ (k : Nat) (dk : List Int),vk=.int .i64 k∧i≤k∧k≤m∧k - i≤g1∧Aside0 (St wr dk∧Rot k m (m + 1) d dk))
      case atStart => exact ⟨m,d,rfl,hjb,Nat.le_refl _,Nat.le_refl _,⟨HI.out.1,Rot.refl (.inl rfl) (by omega) (by omega)⟩⟩
      case round =>
        obtain ⟨k,dk,rfl,hik,hkm,hg2,HK⟩:=hrel
        by_cases hlt2 : i < k
        · obtain ⟨kp,rfl⟩ : ∃ kp,k=kp + 1:=⟨k - 1,by omega⟩
          have hS2:=HK.out.1
          obtain ⟨ck,fk⟩:=HE.out.rd hS2 kp (by omega)
          obtain ⟨cl,fl⟩:=HE.out.rd hS2 (kp + 1) (by omega)
          have HST:=Aside0.mk (HK.out.2.down (HE.out.len hS2) (by omega) (by omega))
          have HSW:=Aside0.mk (show St ((wr.setCell ⟨gd,kp + 1,none⟩ (.int .i64 (rd dk (kp : Int)))).setCell ⟨gd,kp,none⟩ (.int .i64 (rd dk ((kp + 1 : Nat) : Int)))) (swapL dk (kp + 1) kp) from HE.out.wr (HE.out.wr hS2 (kp + 1) _ (by omega)) kp _ (by omega))
          have l1 : (kp : Int) < (n : Int):=by omega
          have l2 : ((kp + 1 : Nat) : Int) < (n : Int):=by omega
          have e3 : ((kp + 1 : Nat) : Int) - 1=(kp : Int):=by omega
          have hltz2 : (i : Int) < ((kp + 1 : Nat) : Int):=by omega
          generalize rd dk (kp : Int)=xa at ck HSW
          generalize rd dk ((kp + 1 : Nat) : Int)=xb at cl HSW
          generalize hk1 : kp + 1=k1 at *
          have HK1:=Aside0.mk hk1
          clear hk1 hS2
          go_wp2_with fail
          go_region
          all_goals go_wp2
          go_roundg (kp - i)
          case measure => have:=HK1.out;omega
          case rel => exact ⟨kp,_,by go_num,by have:=HK1.out;omega,by have:=HK1.out;omega,Nat.le_refl _,⟨HE.out.dr HSW.out 1,HST.out⟩⟩
        · obtain rfl : k=i:=by omega
          go_wp2
          (try simp only [Exit.inBlock,Exit.then]);refine bodyPost_ret (results_none rfl _ _ _) rfl ?_
          have hmb:=HMB.out
          subst hmb
          refine ⟨rfl,dk,HK.out.1,HK.out.2.merge HP.out (by omega) (by omega) (by omega) (Nat.le_refl _) (fun p q h1 h2 h3 h4 => ?_) (fun p q h1 h2 h3 h4 => ?_) (fun p q h1 h2 h3 h4 => by omega)⟩
          · obtain rfl : q=m:=by omega
            exact ltK_of_le (HI'.out.2.1 p h1 h2) (HP.out.asc p q h1 (by omega) (Nat.le_refl _) h4)
          · obtain rfl : q=m:=by omega
            exact .inl (HI'.out.2.2 p h1 h2)
end Go.Proofs.Ytbelnopbggkdfaa
end

section
namespace Go.Proofs.Ytbelnopbggkdfaa
open Go.RowKit Go.Proofs.YtbelnopbggkdfaaW.PrintWords
variable {St : World→List Int→Prop} {gd n f : Nat} {cap : Array Value} {V : Int→Prop} {key : Int→Int}
theorem sym_cross {a m b mid s0 r0 s e : Nat} {d : List Int} (P : Pre key a m b d) (hc : (mid < m∧s0 + b=mid + m∧r0=mid)∨(m≤mid∧s0=a∧r0=m)) (hmid : mid=(a + b) / 2) (_ : a < m) (_ : m < b)
    (h0 : s0≤s) (h1 : s≤r0) (he : e + s=mid + m) (lo : ∀ q : Nat,s0≤q→q < s→key (rd d q)≤key (rd d ((mid + m - 1 - q : Nat) : Int))) (hi : ∀ q : Nat,s≤q→q < r0→key (rd d ((mid + m - 1 - q : Nat) : Int)) < key (rd d q)) :
    a≤s∧s≤m∧m≤e∧e≤b∧(∀ p q : Nat,a≤p→p < s→e≤q→q < b→ltK key (rd d p) (rd d q))∧(∀ p q : Nat,s≤p→p < m→m≤q→q < e→ltK key (rd d q) (rd d p)):=by
  refine ⟨by omega,by omega,by omega,by omega,fun p q c1 c2 c3 c4 => ?_,fun p q c1 c2 c3 c4 => ?_⟩
  · have hs : s0 < s:=by omega
    have h:=lo (s - 1) (by omega) (by omega)
    rw [show mid + m - 1 - (s - 1)=e by omega] at h
    have k1:=P.keyl c1 (show p≤s - 1 by omega) (by omega)
    have k2:=P.keyr (show m≤e by omega) c3 c4
    exact ltK_of_le (by omega) (P.asc p q c1 (by omega) (by omega) c4)
  · have hs : s < r0:=by omega
    have h:=hi s (Nat.le_refl _) hs
    rw [show mid + m - 1 - s=e - 1 by omega] at h
    have k1:=P.keyr c3 (show q≤e - 1 by omega) (by omega)
    have k2:=P.keyl (show a≤s by omega) c1 c2
    exact .inl (by omega)
def SymOk (St : World→List Int→Prop) (gd n f : Nat) (cap : Array Value) (V : Int→Prop) (key : Int→Int) (c a m b : Nat) : Prop :=
  ∀ {W : World} {d : List Int},St W d→(∀ i : Nat,i < n→V (rd d i))→Pre key a m b d →
    Calls Try.prog 95 #[.slice (some ⟨gd,0,none⟩) n c,.int .i64 a,.int .i64 m,.int .i64 b,.func (.func f) #[] cap] W fun e w' =>
      e=.returned (.tuple #[])∧∃ d',St w' d'∧Mrg key a b d d'
set_option maxHeartbeats 8000000 in
set_option maxRecDepth 1000000 in
theorem sym_hi (E : SortEnv St gd n f cap V key) (c a m b mid : Nat) (hmid : mid=(a + b) / 2) (ham : a + 1 < m) (hmb : m + 1 < b) (hb : b≤n) (hsel : mid < m)
    (ih1 : ∀ s,a < s→s < mid→SymOk St gd n f cap V key c a s mid) (ih2 : ∀ s,mid < s→s < b→SymOk St gd n f cap V key c mid s b) : SymOk St gd n f cap V key c a m b:=by
  intro W d hS hV P
  have h64:=E.n64
  have eg:=E.eg
  have HROT:=Aside0.mk (fun {W d} (hS : St W d) => rot_any E hS c)
  have HE:=Aside0.mk E
  have HV:=Aside0.mk hV
  have HP:=Aside0.mk P
  have HS:=Aside0.mk hS
  have H1:=Aside0.mk @ih1
  have H2:=Aside0.mk @ih2
  obtain ⟨nn,hnn⟩ : ∃ nn,nn=mid + m:=⟨_,rfl⟩
  obtain ⟨s0,hs0⟩ : ∃ s0,s0=mid + m - b:=⟨_,rfl⟩
  have hn1 : ¬ (m : Int) - (a : Int)=1:=by omega
  have hn1' : ((m : Int) - (a : Int) == 1)=false:=beq_false_of_ne hn1
  have hn2 : ¬ (b : Int) - (m : Int)=1:=by omega
  have hn2' : ((b : Int) - (m : Int) == 1)=false:=beq_false_of_ne hn2
  have hn3 : (a : Int)≤(m : Int):=by omega
  have hn4 : (m : Int)≤(b : Int):=by omega
  have hn5 : (b : Int)≤(n : Int):=by omega
  have em : ((a : Int) + (b : Int)) / 2=(mid : Int):=by omega
  have en : (mid : Int) + (m : Int)=(nn : Int):=by omega
  have ep : (nn : Int) - 1=((nn - 1 : Nat) : Int):=by omega
  have hsl : (mid : Int) < (m : Int):=by omega
  have es : (nn : Int) - (b : Int)=(s0 : Int):=by omega
  have b1 : s0≤mid:=by omega
  have b2 : mid≤m:=by omega
  have b3 : a≤s0:=by omega
  have b4 : nn≤2 * n:=by omega
  have b5 : mid≤mid:=by omega
  have b6 : mid < b:=by omega
  have b7 : a < mid:=by omega
  have HC:=Aside0.mk (show (∀ q : Nat,s0≤q→q < mid→m≤nn - 1 - q∧nn - 1 - q < b∧a≤q∧q < m) from fun q q1 q2 => by omega)
  have HX:=Aside0.mk (fun s e h0 h1 he lo hi => sym_cross (s:=s) (e:=e) (r0:=mid) P (show (mid < m∧s0 + b=mid + m∧mid=mid)∨(m≤mid∧s0=a∧mid=m) by omega) hmid (by omega) (by omega) h0 h1 he lo hi)
  rw [← hnn] at HX
  generalize hp : nn - 1=p at ep HC HX
  have hpn : p < nn:=by omega
  have hpb : p + 1=nn:=by omega
  have HP1:=Aside0.mk hpb
  have HNN:=Aside0.mk hnn
  clear hpb hp hnn hs0 hmid hsel hS hV E P ih1 ih2
  go_enter Try.func95,Try.ntmps95
  go_wp2
  go_loopg [20,21] (mid - s0) (fun g1 vi vj wr => ∃ (i j : Nat),vi=.int .i64 i∧vj=.int .i64 j∧s0≤i∧i≤j∧j≤mid∧j - i≤g1∧Aside0 (St wr d∧(∀ q : Nat,s0≤q→q < i→key (rd d q)≤key (rd d ((p - q : Nat) : Int)))∧(∀ q : Nat,j≤q→q < mid→key (rd d ((p - q : Nat) : Int)) < key (rd d q))))
  case atStart => exact ⟨s0,mid,rfl,rfl,Nat.le_refl _,b1,Nat.le_refl _,Nat.le_refl _,⟨HS.out,fun p h1 h2 => by omega,fun p h1 h2 => by omega⟩⟩
  case round =>
    obtain ⟨i,j,rfl,rfl,hmi,hij,hjb,hg1,HI⟩:=hrel
    by_cases hlt : i < j
    · have hltz : (i : Int) < (j : Int):=by omega
      obtain ⟨h,hh⟩ : ∃ h,h=(i + j) / 2:=⟨_,rfl⟩
      have d1 : i≤h:=by omega
      have d2 : h < j:=by omega
      have e1 : ((i : Int) + (j : Int)) / 2=(h : Int):=by omega
      clear hh
      have hS2:=HI.out.1
      have hC:=HC.out h (by omega) (by omega)
      have e2 : (p : Int) - (h : Int)=((p - h : Nat) : Int):=by omega
      obtain ⟨ch,fh⟩:=HE.out.rd hS2 h (by omega)
      obtain ⟨ca,fa⟩:=HE.out.rd hS2 (p - h) (by omega)
      have hc:=fun q => HE.out.cmp (HE.out.dr hS2 q) _ _ (HV.out (p - h) (by omega)) (HV.out h (by omega))
      have HLO:=Aside0.mk (show key (rd d h)≤key (rd d ((p - h : Nat) : Int))→∀ q : Nat,s0≤q→q < h + 1→key (rd d q)≤key (rd d ((p - q : Nat) : Int)) from fun hk q q1 q2 => by
        have hq:=HC.out q q1 (by omega)
        have:=HP.out.keyl hq.2.2.1 (show q≤h by omega) hC.2.2.2
        have:=HP.out.keyr hC.1 (show p - h≤p - q by omega) hq.2.1
        omega)
      have HHI:=Aside0.mk (show key (rd d ((p - h : Nat) : Int)) < key (rd d h)→∀ q : Nat,h≤q→q < mid→key (rd d ((p - q : Nat) : Int)) < key (rd d q) from fun hk q q1 q2 => by
        have hq:=HC.out q (by omega) q2
        have:=HP.out.keyl hC.2.2.1 q1 hq.2.2.2
        have:=HP.out.keyr hq.1 (show p - q≤p - h by omega) hC.2.1
        omega)
      have l1 : (h : Int) < (n : Int):=by omega
      have l2 : ((p - h : Nat) : Int) < (n : Int):=by omega
      have l3 : (h : Int) + 1≤(n : Int):=by omega
      clear hS2 hC
      generalize rd d (h : Int)=xh at ch hc HLO HHI
      generalize rd d ((p - h : Nat) : Int)=xa at ca hc HLO HHI
      generalize p - h=ph at e2 ca fa l2
      by_cases hlv : key xa - key xh < 0
      · go_wp2_with fail
        go_quiet (first|(go_at_fn f;refine Calls.quiet_of (hc _)))
        go_wp2
        go_roundg (h - i)
        case measure => omega
        case rel => exact ⟨i,h,rfl,rfl,hmi,d1,by omega,Nat.le_refl _,⟨HE.out.dr HI.out.1 _,HI.out.2.1,HHI.out (by omega)⟩⟩
      · have hlv2 : decide (key xa - key xh < 0)=false:=decide_eq_false hlv
        go_wp2_with fail
        go_quiet (first|(go_at_fn f;refine Calls.quiet_of (hc _)))
        go_wp2
        go_roundg (j - (h + 1))
        case measure => omega
        case rel => exact ⟨h + 1,j,by go_num,rfl,by omega,by omega,hjb,Nat.le_refl _,⟨HE.out.dr HI.out.1 _,HLO.out (by omega),HI.out.2.2⟩⟩
    · obtain rfl : i=j:=by omega
      obtain ⟨e,he⟩ : ∃ e,e=nn - i:=⟨_,rfl⟩
      have hnn:=HNN.out
      have e1 : (nn : Int) - (i : Int)=(e : Int):=by omega
      have hcr:=HX.out i e hmi hjb (by omega) HI.out.2.1 HI.out.2.2
      obtain ⟨x1,x2,x3,x4,x5,x6⟩:=hcr
      obtain ⟨D1,hD1⟩ : ∃ D : World→Prop,∀ w,D w↔∃ d1,St w d1∧Rot i m e d d1:=⟨_,fun _ => Iff.rfl⟩
      obtain ⟨D2,hD2⟩ : ∃ D : World→Prop,∀ w,D w↔∃ d1 d2,St w d2∧Rot i m e d d1∧Mrg key a mid d1 d2:=⟨_,fun _ => Iff.rfl⟩
      obtain ⟨D3,hD3⟩ : ∃ D : World→Prop,∀ w,D w↔∃ d',St w d'∧Mrg key a b d d':=⟨_,fun _ => Iff.rfl⟩
      have hal:=fun d1 (h : Rot i m e d d1) => h.halves (mid:=mid) HP.out x1 x2 x3 x4 (by omega) x5 x6
      have vof : ∀ d1,(∀ p : Nat,p < a∨b≤p→rd d1 p=rd d p)→(∀ p : Nat,a≤p→p < b→∃ q : Nat,a≤q∧q < b∧rd d1 p=rd d q)→∀ i : Nat,i < n→V (rd d1 i):=fun d1 ho hm k hk => by
        by_cases hkk : k < a∨b≤k
        · rw [ho k hkk];exact HV.out k hk
        · obtain ⟨q,q1,q2,q3⟩:=hm k (by omega) (by omega)
          rw [q3];exact HV.out q (by omega)
      -- the turning
      have R1:=Aside0.mk (show i < m→m < e→Calls Try.prog 99 #[.slice (some ⟨gd,0,none⟩) n c,.int .i64 i,.int .i64 m,.int .i64 e,.func (.func f) #[] cap] wr fun e w' => e=.returned (.tuple #[])∧D1 w' from fun h1 h2 =>
        (HROT.out HI.out.1 i e m _ h1 h2 (by omega)).mono fun _ _ ⟨h1,d',h2,h3⟩ => ⟨h1,(hD1 _).2 ⟨d',h2,h3⟩⟩)
      have R1':=Aside0.mk (show ¬ (i < m∧m < e)→D1 wr from fun h => (hD1 _).2 ⟨d,HI.out.1,Rot.refl (by omega) x2 x3⟩)
      -- the left half
      have R2:=Aside0.mk (show a < i→i < mid→∀ w,D1 w→Calls Try.prog 95 #[.slice (some ⟨gd,0,none⟩) n c,.int .i64 a,.int .i64 i,.int .i64 mid,.func (.func f) #[] cap] w fun e w' => e=.returned (.tuple #[])∧D2 w' from fun h1 h2 w hd => by
        obtain ⟨d1,hs1,hr1⟩:=(hD1 _).1 hd
        exact (H1.out i h1 h2 hs1 (vof d1 (fun p hp => hr1.out p (by omega)) (hr1.mem x1 x2 x3 x4)) (hal d1 hr1).1).mono fun _ _ ⟨h1,d2,h2,h3⟩ => ⟨h1,(hD2 _).2 ⟨d1,d2,h2,hr1,h3⟩⟩)
      have R2':=Aside0.mk (show ¬ (a < i∧i < mid)→∀ w,D1 w→D2 w from fun h w hd => by
        obtain ⟨d1,hs1,hr1⟩:=(hD1 _).1 hd
        refine (hD2 _).2 ⟨d1,d1,hs1,hr1,Mrg.refl fun p q c1 c2 c3 => ?_⟩
        by_cases hi : i=a
        · exact (hal d1 hr1).1.sr p q (by omega) c2 c3
        · exact (hal d1 hr1).1.sl p q c1 c2 (by omega))
      -- the right half
      have fin : ∀ {d1 d2 d3 : List Int},Rot i m e d d1→Mrg key a mid d1 d2→Mrg key mid b d2 d3→Mrg key a b d d3:=fun {d1 d2 d3} hr1 h1 h2 =>
        h1.join (by omega) (by omega) hr1.perm (fun p hp => hr1.out p (by omega)) (hr1.mem x1 x2 x3 x4) (hal d1 hr1).2.2 h2
      have pre2 : ∀ {d1 d2 : List Int},Rot i m e d d1→Mrg key a mid d1 d2→Pre key mid e b d2:=fun {d1 d2} hr1 h1 => by
        have h:=(hal d1 hr1).2.1
        refine ⟨fun p q c1 c2 c3 => ?_,fun p q c1 c2 c3 => ?_,fun p q c1 c2 c3 c4 => ?_⟩ <;> rw [h1.out p (by omega),h1.out q (by omega)]
        · exact h.sl p q c1 c2 c3
        · exact h.sr p q c1 c2 c3
        · exact h.asc p q c1 c2 c3 c4
      have R3:=Aside0.mk (show mid < e→e < b→∀ w,D2 w→Calls Try.prog 95 #[.slice (some ⟨gd,0,none⟩) n c,.int .i64 mid,.int .i64 e,.int .i64 b,.func (.func f) #[] cap] w fun e w' => e=.returned (.tuple #[])∧D3 w' from fun h1 h2 w hd => by
        obtain ⟨d1,d2,hs2,hr1,hm2⟩:=(hD2 _).1 hd
        refine (H2.out e h1 h2 hs2 (vof d2 (fun p hp => by rw [hm2.out p (by omega),hr1.out p (by omega)]) (fun p c1 c2 => ?_)) (pre2 hr1 hm2)).mono fun _ _ ⟨h1,d3,h2,h3⟩ => ⟨h1,(hD3 _).2 ⟨d3,h2,fin hr1 hm2 h3⟩⟩
        by_cases hpm : p < mid
        · obtain ⟨q,q1,q2,q3⟩:=hm2.mem p c1 hpm
          rw [q3]
          exact hr1.mem x1 x2 x3 x4 q q1 (by omega)
        · rw [hm2.out p (by omega)]
          exact hr1.mem x1 x2 x3 x4 p c1 c2)
      have R3':=Aside0.mk (show ¬ (mid < e∧e < b)→∀ w,D2 w→D3 w from fun h w hd => by
        obtain ⟨d1,d2,hs2,hr1,hm2⟩:=(hD2 _).1 hd
        refine (hD3 _).2 ⟨d2,hs2,fin hr1 hm2 (Mrg.refl fun p q c1 c2 c3 => ?_)⟩
        by_cases hi : e=b
        · exact (pre2 hr1 hm2).sl p q c1 c2 (by omega)
        · exact (pre2 hr1 hm2).sr p q (by omega) c2 c3)
      have HEND:=Aside0.mk (fun w => (hD3 w).1)
      clear fin pre2 hal vof hD1 hD2 hD3 x5 x6 hnn he HI HX HC HP HS HV HE H1 H2 HROT
      have g1 : (i < m∧(i : Int) < (m : Int))∧(m < e∧(m : Int) < (e : Int))∨(¬ i < m∧¬ (i : Int) < (m : Int))∨(i < m∧(i : Int) < (m : Int))∧(¬ m < e∧¬ (m : Int) < (e : Int)):=by omega
      have g2 : (a < i∧(a : Int) < (i : Int))∧(i < mid∧(i : Int) < (mid : Int))∨(¬ a < i∧¬ (a : Int) < (i : Int))∨(a < i∧(a : Int) < (i : Int))∧(¬ i < mid∧¬ (i : Int) < (mid : Int)):=by omega
      have g3 : (mid < e∧(mid : Int) < (e : Int))∧(e < b∧(e : Int) < (b : Int))∨(¬ mid < e∧¬ (mid : Int) < (e : Int))∨(mid < e∧(mid : Int) < (e : Int))∧(¬ e < b∧¬ (e : Int) < (b : Int)):=by omega
      rcases g1 with ⟨⟨p1,p2⟩,⟨p3,p4⟩⟩ | ⟨p1,p2⟩ | ⟨⟨p1,p2⟩,⟨p3,p4⟩⟩ <;> rcases g2 with ⟨⟨q1,q2⟩,⟨q3,q4⟩⟩ | ⟨q1,q2⟩ | ⟨⟨q1,q2⟩,⟨q3,q4⟩⟩ <;> rcases g3 with ⟨⟨r1,r2⟩,⟨r3,r4⟩⟩ | ⟨r1,r2⟩ | ⟨⟨r1,r2⟩,⟨r3,r4⟩⟩ <;> first|(exfalso;omega)|(
      go_wp2_with (first
        | (go_at_call 99;refine (R1.out p1 p3).mono ?_;rintro e' w2 ⟨rfl,k1⟩)
        | (go_at_call_of 95 (Value.int .i64 (a : Int));refine (R2.out q1 q3 _ (by first|assumption|exact R1'.out (by omega))).mono ?_;rintro e' w2 ⟨rfl,k2⟩)
        | (go_at_call_of 95 (Value.int .i64 (e : Int));refine (R3.out r1 r3 _ (by first|assumption|(refine R2'.out (by omega) _ ?_;first|assumption|exact R1'.out (by omega)))).mono ?_;rintro e' w2 ⟨rfl,k3⟩))
      go_end0
      refine ⟨rfl,HEND.out _ ?_⟩
      first|assumption|(refine R3'.out (by omega) _ ?_;first|assumption|(refine R2'.out (by omega) _ ?_;first|assumption|exact R1'.out (by omega))))
set_option maxHeartbeats 8000000 in
set_option maxRecDepth 1000000 in
theorem sym_lo (E : SortEnv St gd n f cap V key) (c a m b mid : Nat) (hmid : mid=(a + b) / 2) (ham : a + 1 < m) (hmb : m + 1 < b) (hb : b≤n) (hsel : m≤mid)
    (ih1 : ∀ s,a < s→s < mid→SymOk St gd n f cap V key c a s mid) (ih2 : ∀ s,mid < s→s < b→SymOk St gd n f cap V key c mid s b) : SymOk St gd n f cap V key c a m b:=by
  intro W d hS hV P
  have h64:=E.n64
  have eg:=E.eg
  have HROT:=Aside0.mk (fun {W d} (hS : St W d) => rot_any E hS c)
  have HE:=Aside0.mk E
  have HV:=Aside0.mk hV
  have HP:=Aside0.mk P
  have HS:=Aside0.mk hS
  have H1:=Aside0.mk @ih1
  have H2:=Aside0.mk @ih2
  obtain ⟨nn,hnn⟩ : ∃ nn,nn=mid + m:=⟨_,rfl⟩
  have hn1 : ¬ (m : Int) - (a : Int)=1:=by omega
  have hn1' : ((m : Int) - (a : Int) == 1)=false:=beq_false_of_ne hn1
  have hn2 : ¬ (b : Int) - (m : Int)=1:=by omega
  have hn2' : ((b : Int) - (m : Int) == 1)=false:=beq_false_of_ne hn2
  have hn3 : (a : Int)≤(m : Int):=by omega
  have hn4 : (m : Int)≤(b : Int):=by omega
  have hn5 : (b : Int)≤(n : Int):=by omega
  have em : ((a : Int) + (b : Int)) / 2=(mid : Int):=by omega
  have en : (mid : Int) + (m : Int)=(nn : Int):=by omega
  have ep : (nn : Int) - 1=((nn - 1 : Nat) : Int):=by omega
  have hsl : ¬ (mid : Int) < (m : Int):=by omega
  have b1 : a≤m:=by omega
  have b2 : m≤m:=by omega
  have b3 : a≤a:=by omega
  have b4 : nn≤2 * n:=by omega
  have b5 : m≤mid:=by omega
  have b6 : mid < b:=by omega
  have b7 : a < mid:=by omega
  have HC:=Aside0.mk (show (∀ q : Nat,a≤q→q < m→m≤nn - 1 - q∧nn - 1 - q < b∧a≤q∧q < m) from fun q q1 q2 => by omega)
  have HX:=Aside0.mk (fun s e h0 h1 he lo hi => sym_cross (s:=s) (e:=e) (r0:=m) P (show (mid < m∧a + b=mid + m∧m=mid)∨(m≤mid∧a=a∧m=m) by omega) hmid (by omega) (by omega) h0 h1 he lo hi)
  rw [← hnn] at HX
  generalize hp : nn - 1=p at ep HC HX
  have hpn : p < nn:=by omega
  have hpb : p + 1=nn:=by omega
  have HP1:=Aside0.mk hpb
  have HNN:=Aside0.mk hnn
  clear hpb hp hnn  hmid hsel hS hV E P ih1 ih2
  go_enter Try.func95,Try.ntmps95
  go_wp2
  go_loopg [20,21] (m - a) (fun g1 vi vj wr => ∃ (i j : Nat),vi=.int .i64 i∧vj=.int .i64 j∧a≤i∧i≤j∧j≤m∧j - i≤g1∧Aside0 (St wr d∧(∀ q : Nat,a≤q→q < i→key (rd d q)≤key (rd d ((p - q : Nat) : Int)))∧(∀ q : Nat,j≤q→q < m→key (rd d ((p - q : Nat) : Int)) < key (rd d q))))
  case atStart => exact ⟨a,m,rfl,rfl,Nat.le_refl _,b1,Nat.le_refl _,Nat.le_refl _,⟨HS.out,fun p h1 h2 => by omega,fun p h1 h2 => by omega⟩⟩
  case round =>
    obtain ⟨i,j,rfl,rfl,hmi,hij,hjb,hg1,HI⟩:=hrel
    by_cases hlt : i < j
    · have hltz : (i : Int) < (j : Int):=by omega
      obtain ⟨h,hh⟩ : ∃ h,h=(i + j) / 2:=⟨_,rfl⟩
      have d1 : i≤h:=by omega
      have d2 : h < j:=by omega
      have e1 : ((i : Int) + (j : Int)) / 2=(h : Int):=by omega
      clear hh
      have hS2:=HI.out.1
      have hC:=HC.out h (by omega) (by omega)
      have e2 : (p : Int) - (h : Int)=((p - h : Nat) : Int):=by omega
      obtain ⟨ch,fh⟩:=HE.out.rd hS2 h (by omega)
      obtain ⟨ca,fa⟩:=HE.out.rd hS2 (p - h) (by omega)
      have hc:=fun q => HE.out.cmp (HE.out.dr hS2 q) _ _ (HV.out (p - h) (by omega)) (HV.out h (by omega))
      have HLO:=Aside0.mk (show key (rd d h)≤key (rd d ((p - h : Nat) : Int))→∀ q : Nat,a≤q→q < h + 1→key (rd d q)≤key (rd d ((p - q : Nat) : Int)) from fun hk q q1 q2 => by
        have hq:=HC.out q q1 (by omega)
        have:=HP.out.keyl hq.2.2.1 (show q≤h by omega) hC.2.2.2
        have:=HP.out.keyr hC.1 (show p - h≤p - q by omega) hq.2.1
        omega)
      have HHI:=Aside0.mk (show key (rd d ((p - h : Nat) : Int)) < key (rd d h)→∀ q : Nat,h≤q→q < m→key (rd d ((p - q : Nat) : Int)) < key (rd d q) from fun hk q q1 q2 => by
        have hq:=HC.out q (by omega) q2
        have:=HP.out.keyl hC.2.2.1 q1 hq.2.2.2
        have:=HP.out.keyr hq.1 (show p - q≤p - h by omega) hC.2.1
        omega)
      have l1 : (h : Int) < (n : Int):=by omega
      have l2 : ((p - h : Nat) : Int) < (n : Int):=by omega
      have l3 : (h : Int) + 1≤(n : Int):=by omega
      clear hS2 hC
      generalize rd d (h : Int)=xh at ch hc HLO HHI
      generalize rd d ((p - h : Nat) : Int)=xa at ca hc HLO HHI
      generalize p - h=ph at e2 ca fa l2
      by_cases hlv : key xa - key xh < 0
      · go_wp2_with fail
        go_quiet (first|(go_at_fn f;refine Calls.quiet_of (hc _)))
        go_wp2
        go_roundg (h - i)
        case measure => omega
        case rel => exact ⟨i,h,rfl,rfl,hmi,d1,by omega,Nat.le_refl _,⟨HE.out.dr HI.out.1 _,HI.out.2.1,HHI.out (by omega)⟩⟩
      · have hlv2 : decide (key xa - key xh < 0)=false:=decide_eq_false hlv
        go_wp2_with fail
        go_quiet (first|(go_at_fn f;refine Calls.quiet_of (hc _)))
        go_wp2
        go_roundg (j - (h + 1))
        case measure => omega
        case rel => exact ⟨h + 1,j,by go_num,rfl,by omega,by omega,hjb,Nat.le_refl _,⟨HE.out.dr HI.out.1 _,HLO.out (by omega),HI.out.2.2⟩⟩
    · obtain rfl : i=j:=by omega
      obtain ⟨e,he⟩ : ∃ e,e=nn - i:=⟨_,rfl⟩
      have hnn:=HNN.out
      have e1 : (nn : Int) - (i : Int)=(e : Int):=by omega
      have hcr:=HX.out i e hmi hjb (by omega) HI.out.2.1 HI.out.2.2
      obtain ⟨x1,x2,x3,x4,x5,x6⟩:=hcr
      obtain ⟨D1,hD1⟩ : ∃ D : World→Prop,∀ w,D w↔∃ d1,St w d1∧Rot i m e d d1:=⟨_,fun _ => Iff.rfl⟩
      obtain ⟨D2,hD2⟩ : ∃ D : World→Prop,∀ w,D w↔∃ d1 d2,St w d2∧Rot i m e d d1∧Mrg key a mid d1 d2:=⟨_,fun _ => Iff.rfl⟩
      obtain ⟨D3,hD3⟩ : ∃ D : World→Prop,∀ w,D w↔∃ d',St w d'∧Mrg key a b d d':=⟨_,fun _ => Iff.rfl⟩
      have hal:=fun d1 (h : Rot i m e d d1) => h.halves (mid:=mid) HP.out x1 x2 x3 x4 (by omega) x5 x6
      have vof : ∀ d1,(∀ p : Nat,p < a∨b≤p→rd d1 p=rd d p)→(∀ p : Nat,a≤p→p < b→∃ q : Nat,a≤q∧q < b∧rd d1 p=rd d q)→∀ i : Nat,i < n→V (rd d1 i):=fun d1 ho hm k hk => by
        by_cases hkk : k < a∨b≤k
        · rw [ho k hkk];exact HV.out k hk
        · obtain ⟨q,q1,q2,q3⟩:=hm k (by omega) (by omega)
          rw [q3];exact HV.out q (by omega)
      -- the turning
      have R1:=Aside0.mk (show i < m→m < e→Calls Try.prog 99 #[.slice (some ⟨gd,0,none⟩) n c,.int .i64 i,.int .i64 m,.int .i64 e,.func (.func f) #[] cap] wr fun e w' => e=.returned (.tuple #[])∧D1 w' from fun h1 h2 =>
        (HROT.out HI.out.1 i e m _ h1 h2 (by omega)).mono fun _ _ ⟨h1,d',h2,h3⟩ => ⟨h1,(hD1 _).2 ⟨d',h2,h3⟩⟩)
      have R1':=Aside0.mk (show ¬ (i < m∧m < e)→D1 wr from fun h => (hD1 _).2 ⟨d,HI.out.1,Rot.refl (by omega) x2 x3⟩)
      -- the left half
      have R2:=Aside0.mk (show a < i→i < mid→∀ w,D1 w→Calls Try.prog 95 #[.slice (some ⟨gd,0,none⟩) n c,.int .i64 a,.int .i64 i,.int .i64 mid,.func (.func f) #[] cap] w fun e w' => e=.returned (.tuple #[])∧D2 w' from fun h1 h2 w hd => by
        obtain ⟨d1,hs1,hr1⟩:=(hD1 _).1 hd
        exact (H1.out i h1 h2 hs1 (vof d1 (fun p hp => hr1.out p (by omega)) (hr1.mem x1 x2 x3 x4)) (hal d1 hr1).1).mono fun _ _ ⟨h1,d2,h2,h3⟩ => ⟨h1,(hD2 _).2 ⟨d1,d2,h2,hr1,h3⟩⟩)
      have R2':=Aside0.mk (show ¬ (a < i∧i < mid)→∀ w,D1 w→D2 w from fun h w hd => by
        obtain ⟨d1,hs1,hr1⟩:=(hD1 _).1 hd
        refine (hD2 _).2 ⟨d1,d1,hs1,hr1,Mrg.refl fun p q c1 c2 c3 => ?_⟩
        by_cases hi : i=a
        · exact (hal d1 hr1).1.sr p q (by omega) c2 c3
        · exact (hal d1 hr1).1.sl p q c1 c2 (by omega))
      -- the right half
      have fin : ∀ {d1 d2 d3 : List Int},Rot i m e d d1→Mrg key a mid d1 d2→Mrg key mid b d2 d3→Mrg key a b d d3:=fun {d1 d2 d3} hr1 h1 h2 =>
        h1.join (by omega) (by omega) hr1.perm (fun p hp => hr1.out p (by omega)) (hr1.mem x1 x2 x3 x4) (hal d1 hr1).2.2 h2
      have pre2 : ∀ {d1 d2 : List Int},Rot i m e d d1→Mrg key a mid d1 d2→Pre key mid e b d2:=fun {d1 d2} hr1 h1 => by
        have h:=(hal d1 hr1).2.1
        refine ⟨fun p q c1 c2 c3 => ?_,fun p q c1 c2 c3 => ?_,fun p q c1 c2 c3 c4 => ?_⟩ <;> rw [h1.out p (by omega),h1.out q (by omega)]
        · exact h.sl p q c1 c2 c3
        · exact h.sr p q c1 c2 c3
        · exact h.asc p q c1 c2 c3 c4
      have R3:=Aside0.mk (show mid < e→e < b→∀ w,D2 w→Calls Try.prog 95 #[.slice (some ⟨gd,0,none⟩) n c,.int .i64 mid,.int .i64 e,.int .i64 b,.func (.func f) #[] cap] w fun e w' => e=.returned (.tuple #[])∧D3 w' from fun h1 h2 w hd => by
        obtain ⟨d1,d2,hs2,hr1,hm2⟩:=(hD2 _).1 hd
        refine (H2.out e h1 h2 hs2 (vof d2 (fun p hp => by rw [hm2.out p (by omega),hr1.out p (by omega)]) (fun p c1 c2 => ?_)) (pre2 hr1 hm2)).mono fun _ _ ⟨h1,d3,h2,h3⟩ => ⟨h1,(hD3 _).2 ⟨d3,h2,fin hr1 hm2 h3⟩⟩
        by_cases hpm : p < mid
        · obtain ⟨q,q1,q2,q3⟩:=hm2.mem p c1 hpm
          rw [q3]
          exact hr1.mem x1 x2 x3 x4 q q1 (by omega)
        · rw [hm2.out p (by omega)]
          exact hr1.mem x1 x2 x3 x4 p c1 c2)
      have R3':=Aside0.mk (show ¬ (mid < e∧e < b)→∀ w,D2 w→D3 w from fun h w hd => by
        obtain ⟨d1,d2,hs2,hr1,hm2⟩:=(hD2 _).1 hd
        refine (hD3 _).2 ⟨d2,hs2,fin hr1 hm2 (Mrg.refl fun p q c1 c2 c3 => ?_)⟩
        by_cases hi : e=b
        · exact (pre2 hr1 hm2).sl p q c1 c2 (by omega)
        · exact (pre2 hr1 hm2).sr p q (by omega) c2 c3)
      have HEND:=Aside0.mk (fun w => (hD3 w).1)
      clear fin pre2 hal vof hD1 hD2 hD3 x5 x6 hnn he HI HX HC HP HS HV HE H1 H2 HROT
      have g1 : (i < m∧(i : Int) < (m : Int))∧(m < e∧(m : Int) < (e : Int))∨(¬ i < m∧¬ (i : Int) < (m : Int))∨(i < m∧(i : Int) < (m : Int))∧(¬ m < e∧¬ (m : Int) < (e : Int)):=by omega
      have g2 : (a < i∧(a : Int) < (i : Int))∧(i < mid∧(i : Int) < (mid : Int))∨(¬ a < i∧¬ (a : Int) < (i : Int))∨(a < i∧(a : Int) < (i : Int))∧(¬ i < mid∧¬ (i : Int) < (mid : Int)):=by omega
      have g3 : (mid < e∧(mid : Int) < (e : Int))∧(e < b∧(e : Int) < (b : Int))∨(¬ mid < e∧¬ (mid : Int) < (e : Int))∨(mid < e∧(mid : Int) < (e : Int))∧(¬ e < b∧¬ (e : Int) < (b : Int)):=by omega
      rcases g1 with ⟨⟨p1,p2⟩,⟨p3,p4⟩⟩ | ⟨p1,p2⟩ | ⟨⟨p1,p2⟩,⟨p3,p4⟩⟩ <;> rcases g2 with ⟨⟨q1,q2⟩,⟨q3,q4⟩⟩ | ⟨q1,q2⟩ | ⟨⟨q1,q2⟩,⟨q3,q4⟩⟩ <;> rcases g3 with ⟨⟨r1,r2⟩,⟨r3,r4⟩⟩ | ⟨r1,r2⟩ | ⟨⟨r1,r2⟩,⟨r3,r4⟩⟩ <;> first|(exfalso;omega)|(
      go_wp2_with (first
        | (go_at_call 99;refine (R1.out p1 p3).mono ?_;rintro e' w2 ⟨rfl,k1⟩)
        | (go_at_call_of 95 (Value.int .i64 (a : Int));refine (R2.out q1 q3 _ (by first|assumption|exact R1'.out (by omega))).mono ?_;rintro e' w2 ⟨rfl,k2⟩)
        | (go_at_call_of 95 (Value.int .i64 (e : Int));refine (R3.out r1 r3 _ (by first|assumption|(refine R2'.out (by omega) _ ?_;first|assumption|exact R1'.out (by omega)))).mono ?_;rintro e' w2 ⟨rfl,k3⟩))
      go_end0
      refine ⟨rfl,HEND.out _ ?_⟩
      first|assumption|(refine R3'.out (by omega) _ ?_;first|assumption|(refine R2'.out (by omega) _ ?_;first|assumption|exact R1'.out (by omega))))
theorem sym_any (E : SortEnv St gd n f cap V key) (c : Nat) : ∀ N a m b : Nat,b - a≤N→a < m→m < b→b≤n→SymOk St gd n f cap V key c a m b:=by
  intro N
  induction N with
  | zero => intro a m b h1 h2 h3 _;omega
  | succ N ih =>
    intro a m b h1 h2 h3 h4
    by_cases c1 : m=a + 1
    · exact fun hS hV P => sym_one E hS c a m b c1 h3 h4 hV P
    · by_cases c2 : b=m + 1
      · exact fun hS hV P => sym_two E hS c a m b (by omega) c2 h4 hV P
      · by_cases c3 : (a + b) / 2 < m
        · exact sym_hi E c a m b _ rfl (by omega) (by omega) h4 c3 (fun s s1 s2 => ih _ _ _ (by omega) s1 s2 (by omega)) (fun s s1 s2 => ih _ _ _ (by omega) s1 s2 (by omega))
        · exact sym_lo E c a m b _ rfl (by omega) (by omega) h4 (by omega) (fun s s1 s2 => ih _ _ _ (by omega) s1 s2 (by omega)) (fun s s1 s2 => ih _ _ _ (by omega) s1 s2 (by omega))
end Go.Proofs.Ytbelnopbggkdfaa
end

section
namespace Go.Proofs.Ytbelnopbggkdfaa
open Go.RowKit Go.Proofs.YtbelnopbggkdfaaW.PrintWords
variable {St : World→List Int→Prop} {gd n f : Nat} {cap : Array Value} {V : Int→Prop} {key : Int→Int}
def Ali (s u : Nat) : Prop:=∃ t,u=t * s
theorem Ali.zero (s : Nat) : Ali s 0:=⟨0,by simp⟩
theorem Ali.next {s u : Nat} (h : Ali s u) : Ali s (u + s):=by
  obtain ⟨t,rfl⟩:=h
  exact ⟨t + 1,by rw [Nat.add_mul,Nat.one_mul]⟩
theorem Ali.half {s u : Nat} (h : Ali (2 * s) u) : Ali s u:=by
  obtain ⟨t,rfl⟩:=h
  exact ⟨t * 2,by rw [Nat.mul_assoc]⟩
theorem Ali.sep {s u v : Nat} (hu : Ali s u) (hv : Ali s v) (h : u < v) : u + s≤v:=by
  obtain ⟨t,rfl⟩:=hu
  obtain ⟨r,rfl⟩:=hv
  have : t < r:=by
    rcases Nat.lt_or_ge t r with c|c
    · exact c
    · exact absurd (Nat.mul_le_mul_right s c) (by omega)
  calc t * s + s=(t + 1) * s:=by rw [Nat.add_mul,Nat.one_mul]
    _≤r * s:=Nat.mul_le_mul_right s this
structure Blk (key : Int→Int) (n s u : Nat) (d dk : List Int) : Prop where
  srt : ∀ p q : Nat,u≤p→p < q→q < u + s→q < n→ltK key (rd dk p) (rd dk q)
  mem : ∀ p : Nat,u≤p→p < u + s→p < n→∃ q : Nat,u≤q∧q < u + s∧q < n∧rd dk p=rd d q
theorem Blk.keep {s u : Nat} {d dk d' : List Int} (h : Blk key n s u d dk) (e : ∀ p : Nat,u≤p→p < u + s→p < n→rd d' p=rd dk p) : Blk key n s u d d' :=
  ⟨fun p q h1 h2 h3 h4 => by rw [e p h1 (by omega) (by omega),e q (by omega) h3 h4];exact h.srt p q h1 h2 h3 h4,fun p h1 h2 h3 => by rw [e p h1 h2 h3];exact h.mem p h1 h2 h3⟩
def Out (key : Int→Int) (n s : Nat) (d dk : List Int) : Prop:=dk.Perm d∧∀ u,Ali s u→Blk key n s u d dk
structure Fst (key : Int→Int) (n s a : Nat) (d dk : List Int) : Prop where
  perm : dk.Perm d
  ali : Ali s a
  low : ∀ u,Ali s u→u < a→Blk key n s u d dk
  out : ∀ p : Nat,a≤p→rd dk p=rd d p
structure Snd (key : Int→Int) (n s a : Nat) (d dk : List Int) : Prop where
  perm : dk.Perm d
  ali : Ali (2 * s) a
  low : ∀ u,Ali (2 * s) u→u < a→Blk key n (2 * s) u d dk
  hi : ∀ u,Ali s u→a≤u→Blk key n s u d dk
theorem Fst.step {s a b : Nat} {d dk d' : List Int} (h : Fst key n s a d dk) (hi : InsI key n a b dk d') (hbn : b≤n) (hb : b=a + s∨(b=n∧n≤a + s)) : Fst key n s (a + s) d d':=by
  refine ⟨hi.perm.trans h.perm,h.ali.next,fun u hu hlt => ?_,fun p hp => ?_⟩
  · by_cases c : u=a
    · subst c
      refine ⟨fun p q h1 h2 h3 h4 => hi.srt p q h1 h2 (by omega),fun p h1 h2 h3 => ?_⟩
      obtain ⟨q,q1,q2,q3⟩:=hi.mem p h1 (by omega)
      exact ⟨q,q1,by omega,by omega,by rw [q3,h.out q q1]⟩
    · have hua : u < a:=by
        rcases Nat.lt_or_ge u a with c2|c2
        · exact c2
        · have:=h.ali.sep hu (by omega)
          omega
      have:=hu.sep h.ali hua
      exact (h.low u hu hua).keep fun p h1 h2 _ => hi.out p (.inl (by omega))
  · rw [hi.out p (.inr (by omega)),h.out p (by omega)]
theorem Fst.fin {s a : Nat} {d dk : List Int} (h : Fst key n s a d dk) (hn : n≤a) : Out key n s d dk:=by
  refine ⟨h.perm,fun u hu => ?_⟩
  by_cases c : u < a
  · exact h.low u hu c
  · exact ⟨fun p q h1 h2 h3 h4 => by omega,fun p h1 h2 h3 => by omega⟩
theorem Out.start {s : Nat} {d dk : List Int} (h : Out key n s d dk) : Snd key n s 0 d dk :=
  ⟨h.1,Ali.zero _,fun u _ hlt => by omega,fun u hu _ => h.2 u hu⟩
theorem Snd.pre {s a b : Nat} {d dk : List Int} (h : Snd key n s a d dk) (hasc : ∀ p q : Nat,p < q→q < n→rd d p < rd d q) (hb : b≤n) (hb2 : b≤a + 2 * s) (hb3 : a + s < b) : Pre key a (a + s) b dk:=by
  have h1:=h.hi a h.ali.half (Nat.le_refl _)
  have h2:=h.hi (a + s) h.ali.half.next (by omega)
  refine ⟨fun p q c1 c2 c3 => ?_,fun p q c1 c2 c3 => h2.srt p q c1 c2 (by omega) (by omega),fun p q c1 c2 c3 c4 => ?_⟩
  · exact h1.srt p q c1 c2 c3 (by omega)
  · obtain ⟨p',p1,p2,p3,p4⟩:=h1.mem p c1 c2 (by omega)
    obtain ⟨q',q1,q2,q3,q4⟩:=h2.mem q c3 (by omega) (by omega)
    rw [p4,q4]
    exact hasc p' q' (by omega) q3
theorem Snd.step {s a b : Nat} {d dk d' : List Int} (hs : 0 < s) (h : Snd key n s a d dk) (hm : Mrg key a b dk d') (hbn : b≤n) (hb : b=a + 2 * s∨(b=n∧n≤a + 2 * s)) : Snd key n s (a + 2 * s) d d':=by
  have hn:=h.ali.next
  refine ⟨hm.perm.trans h.perm,hn,fun u hu hlt => ?_,fun u hu hge => ?_⟩
  · by_cases c : u=a
    · subst c
      refine ⟨fun p q h1 h2 h3 h4 => hm.srt p q h1 h2 (by omega),fun p h1 h2 h3 => ?_⟩
      obtain ⟨q,q1,q2,q3⟩:=hm.mem p h1 (by omega)
      rw [q3]
      by_cases c2 : q < u + s
      · obtain ⟨r,r1,r2,r3,r4⟩:=(h.hi u h.ali.half (Nat.le_refl _)).mem q q1 c2 (by omega)
        exact ⟨r,r1,by omega,r3,r4⟩
      · obtain ⟨r,r1,r2,r3,r4⟩:=(h.hi (u + s) h.ali.half.next (by omega)).mem q (by omega) (by omega) (by omega)
        exact ⟨r,by omega,by omega,r3,r4⟩
    · have hua : u < a:=by
        rcases Nat.lt_or_ge u a with c2|c2
        · exact c2
        · have:=h.ali.sep hu (by omega)
          omega
      have:=hu.sep h.ali hua
      exact (h.low u hu hua).keep fun p h1 h2 _ => hm.out p (.inl (by omega))
  · exact (h.hi u hu (by omega)).keep fun p h1 h2 h3 => hm.out p (.inr (by omega))
theorem Snd.skip {s a : Nat} {d dk : List Int} (h : Snd key n s a d dk) (hn : n≤a + s) : Snd key n s (a + 2 * s) d dk:=by
  have hn2:=h.ali.next
  refine ⟨h.perm,hn2,fun u hu hlt => ?_,fun u hu hge => h.hi u hu (by omega)⟩
  by_cases c : u=a
  · subst c
    have hb:=h.hi u h.ali.half (Nat.le_refl _)
    refine ⟨fun p q h1 h2 h3 h4 => hb.srt p q h1 h2 (by omega) h4,fun p h1 h2 h3 => ?_⟩
    obtain ⟨r,r1,r2,r3,r4⟩:=hb.mem p h1 (by omega) h3
    exact ⟨r,r1,by omega,r3,r4⟩
  · have hua : u < a:=by
      rcases Nat.lt_or_ge u a with c2|c2
      · exact c2
      · have:=h.ali.sep hu (by omega)
        omega
    exact h.low u hu hua
theorem Snd.fin {s a : Nat} {d dk : List Int} (h : Snd key n s a d dk) (hn : n≤a) : Out key n (2 * s) d dk:=by
  refine ⟨h.perm,fun u hu => ?_⟩
  by_cases c : u < a
  · exact h.low u hu c
  · exact ⟨fun p q h1 h2 h3 h4 => by omega,fun p h1 h2 h3 => by omega⟩
theorem vperm {d dk : List Int} (hp : dk.Perm d) (hl : d.length=n) (hV : ∀ i : Nat,i < n→V (rd d i)) : ∀ i : Nat,i < n→V (rd dk i):=fun i hi => by
  have hl2 : dk.length=n:=by rw [hp.length_eq,hl]
  have e1 : rd dk i=dk[i]:=by simp [rd,List.getD_eq_getElem?_getD,List.getElem?_eq_getElem (show i < dk.length by omega)]
  have hm : rd dk i ∈ d:=hp.mem_iff.1 (by rw [e1];exact List.getElem_mem _)
  obtain ⟨j,hj,e⟩:=List.getElem_of_mem hm
  have h:=hV j (by omega)
  have e2 : rd d j=d[j]:=by simp [rd,List.getD_eq_getElem?_getD,List.getElem?_eq_getElem hj]
  rw [e2,e] at h
  exact h
set_option maxHeartbeats 8000000 in
set_option maxRecDepth 1000000 in
theorem stable_any (E : SortEnv St gd n f cap V key) {W : World} {d : List Int} (hS : St W d) (c : Nat) (hV : ∀ i : Nat,i < n→V (rd d i)) (hasc : ∀ p q : Nat,p < q→q < n→rd d p < rd d q) :
    Calls Try.prog 84 #[.slice (some ⟨gd,0,none⟩) n c,.int .i64 n,.func (.func f) #[] cap] W fun e w' =>
      e=.returned (.tuple #[])∧∃ d',St w' d'∧∃ s,n≤s∧Out key n s d d':=by
  have h64:=E.n64
  have HINS:=Aside0.mk (fun {W d} (hS : St W d) => ins_any E hS c)
  have HSYM:=Aside0.mk (sym_any E c)
  have HV:=Aside0.mk hV
  have HA:=Aside0.mk hasc
  have HS:=Aside0.mk hS
  have HL:=Aside0.mk (E.len hS)
  clear hS hV hasc E
  go_enter Try.func84,Try.ntmps84
  go_wp2
  go_loopg [7,8] n (fun g1 va vb wr => ∃ (a : Nat) (dk : List Int),va=.int .i64 a∧vb=.int .i64 ((a : Int) + 20)∧a≤n∧n - a≤g1∧Aside0 (St wr dk∧Fst key n 20 a d dk))
  case atStart => exact ⟨0,d,rfl,rfl,by omega,by omega,⟨HS.out,List.Perm.refl _,Ali.zero _,fun u _ hlt => by omega,fun _ _ => rfl⟩⟩
  case round =>
    obtain ⟨a,dk,rfl,rfl,han,hg1,HI⟩:=hrel
    have vof:=vperm HI.out.2.perm HL.out HV.out
    by_cases hlt : a + 20≤n
    · have hltz : (a : Int) + 20≤(n : Int):=by omega
      have hc:=HINS.out HI.out.1 a (a + 20) (by omega) hlt vof (fun p q h1 h2 h3 => by rw [HI.out.2.out p h1,HI.out.2.out q (by omega)];exact HA.out p q h2 h3)
      have HVO:=Aside0.mk vof
      clear vof
      rw [show ((a + 20 : Nat) : Int)=(a : Int) + 20 by omega] at hc
      go_wp2_with (go_at_call 94;refine hc.mono ?_;rintro e w2 ⟨rfl,d2,hs2⟩;have HS2:=Aside0.mk hs2;clear hs2)
      go_roundg (n - (a + 20))
      case measure => omega
      case rel => exact ⟨a + 20,d2,by go_num,by go_num,hlt,Nat.le_refl _,⟨HS2.out.1,HI.out.2.step HS2.out.2 hlt (.inl rfl)⟩⟩
    · have hltz : ¬ (a : Int) + 20≤(n : Int):=by omega
      have hc:=HINS.out HI.out.1 a n han (Nat.le_refl _) vof (fun p q h1 h2 h3 => by rw [HI.out.2.out p h1,HI.out.2.out q (by omega)];exact HA.out p q h2 h3)
      have HVO:=Aside0.mk vof
      clear vof
      go_wp2_with (go_at_call 94;refine hc.mono ?_;rintro e w2 ⟨rfl,d2,hs2⟩;have HS2:=Aside0.mk hs2;clear hs2)
      have HO:=Aside0.mk (show Out key n 20 d d2 from (HI.out.2.step HS2.out.2 (Nat.le_refl _) (.inr ⟨rfl,by omega⟩)).fin (by omega))
      clear hc HI HVO
      go_loopg [6] n (fun g1 vs wr => ∃ (s : Nat) (dk : List Int),vs=.int .i64 s∧0 < s∧s≤2 * n + 20∧n - s≤g1∧Aside0 (St wr dk∧Out key n s d dk))
      case atStart => exact ⟨20,d2,rfl,by omega,by omega,by omega,⟨HS2.out.1,HO.out⟩⟩
      case round =>
        obtain ⟨s,dk2,rfl,hs0,hs1,hg2,HI⟩:=hrel
        by_cases hlt2 : s < n
        · have hltz2 : (s : Int) < (n : Int):=by omega
          obtain ⟨s2,hs2⟩ : ∃ s2,s2=2 * s:=⟨_,rfl⟩
          have es : 2 * (s : Int)=(s2 : Int):=by omega
          have es2 : (s : Int) * 2=(s2 : Int):=by omega
          have HS2E:=Aside0.mk hs2
          have hsb : s < s2:=by omega
          have hsb2 : s2≤2 * n:=by omega
          clear hs2
          go_wp2_with fail
          go_loopg [7,8] n (fun g1 va vb wr => ∃ (a : Nat) (dk : List Int),va=.int .i64 a∧vb=.int .i64 ((a : Int) + s2)∧a≤n∧n - a≤g1∧Aside0 (St wr dk∧Snd key n s a d dk))
          case atStart => exact ⟨0,dk2,rfl,by go_num,by omega,by omega,⟨HI.out.1,HI.out.2.start⟩⟩
          case round =>
            obtain ⟨a,dk,rfl,rfl,han,hg3,HJ⟩:=hrel
            have vof:=vperm HJ.out.2.perm HL.out HV.out
            have hs2:=HS2E.out
            obtain ⟨m,hm⟩ : ∃ m,m=a + s:=⟨_,rfl⟩
            have em : (a : Int) + (s : Int)=(m : Int):=by omega
            by_cases hlt3 : a + s2≤n
            · have hltz3 : (a : Int) + (s2 : Int)≤(n : Int):=by omega
              have hc:=HSYM.out n a (a + s) (a + s2) (by omega) (by omega) (by omega) hlt3 HJ.out.1 vof (HJ.out.2.pre HA.out hlt3 (by omega) (by omega))
              rw [show ((a + s2 : Nat) : Int)=(a : Int) + (s2 : Int) by omega,← hm] at hc
              have HST:=Aside0.mk (fun d' (h : Mrg key a (a + s2) dk d') => HJ.out.2.step hs0 h hlt3 (.inl (by omega)))
              rw [← hs2] at HST
              clear vof hm hs2
              go_wp2_with (go_at_call 95;refine hc.mono ?_;rintro e w2 ⟨rfl,d3,h3⟩;have H3:=Aside0.mk h3;clear h3)
              go_roundg (n - (a + s2))
              case measure => omega
              case rel => exact ⟨a + s2,d3,by go_num,by go_num,hlt3,Nat.le_refl _,⟨H3.out.1,HST.out d3 H3.out.2⟩⟩
            · have hltz3 : ¬ (a : Int) + (s2 : Int)≤(n : Int):=by omega
              by_cases hmn : m < n
              · have hmz : (m : Int) < (n : Int):=by omega
                have hc:=HSYM.out n a (a + s) n (by omega) (by omega) (by omega) (Nat.le_refl _) HJ.out.1 vof (HJ.out.2.pre HA.out (Nat.le_refl _) (by omega) (by omega))
                rw [← hm] at hc
                have HST:=Aside0.mk (fun d' (h : Mrg key a n dk d') => (HJ.out.2.step hs0 h (Nat.le_refl _) (.inr (by omega))).fin (by omega))
                rw [← hs2] at HST
                clear vof hm hs2
                go_wp2_with (go_at_call 95;refine hc.mono ?_;rintro e w2 ⟨rfl,d3,h3⟩;have H3:=Aside0.mk h3;clear h3)
                go_roundg (n - s2)
                case measure => omega
                case rel => exact ⟨s2,d3,by go_num,by omega,by omega,Nat.le_refl _,⟨H3.out.1,HST.out d3 H3.out.2⟩⟩
              · have hmz : ¬ (m : Int) < (n : Int):=by omega
                have HST:=Aside0.mk ((HJ.out.2.skip (by omega)).fin (by omega))
                rw [← hs2] at HST
                clear vof hm hs2
                go_wp2
                go_roundg (n - s2)
                case measure => omega
                case rel => exact ⟨s2,dk,by go_num,by omega,by omega,Nat.le_refl _,⟨HJ.out.1,HST.out⟩⟩
        · have hltz2 : ¬ (s : Int) < (n : Int):=by omega
          go_wp2
          go_end0
          exact ⟨rfl,dk2,HI.out.1,s,by omega,HI.out.2⟩
set_option maxHeartbeats 8000000 in
set_option maxRecDepth 1000000 in
/-- slices.SortStableFunc: the one ordered row of the numbers. -/
theorem sort_any (E : SortEnv St gd n f cap V key) {W : World} {d : List Int} (hS : St W d) (c : Nat) (hV : ∀ i : Nat,i < n→V (rd d i)) (hasc : ∀ p q : Nat,p < q→q < n→rd d p < rd d q) :
    Calls Try.prog 68 #[.slice (some ⟨gd,0,none⟩) n c,.func (.func f) #[] cap] W fun e w' =>
      e=.returned (.tuple #[])∧∃ d',St w' d'∧d'.Perm d∧∀ p q : Nat,p < q→q < n→ltK key (rd d' p) (rd d' q):=by
  have hc:=stable_any E hS c hV hasc
  go_enter Try.func68,Try.ntmps68
  go_wp2_with (go_at_call 84;refine hc.mono ?_;rintro e w2 ⟨rfl,d3,h3⟩;have H3:=Aside0.mk h3;clear h3)
  go_end0
  obtain ⟨h1,s,hs,h2,h4⟩:=H3.out
  exact ⟨rfl,d3,h1,h2,fun p q c1 c2 => (h4 0 (Ali.zero _)).srt p q (by omega) c1 (by omega) c2⟩
end Go.Proofs.Ytbelnopbggkdfaa
end

section
namespace Go.Proofs.Ytbelnopbggkdfaa
open Go.RowKit Go.Proofs.YtbelnopbggkdfaaW.PrintWords
def mkey (k t : Int) : Int:=if k=4 then 2 * t + 1 else 2 * t
set_option maxHeartbeats 2000000 in
set_option maxRecDepth 100000 in
theorem key_any {W : World} {g1 g4 : Nat} (x : Int) {A B : Addr} {n c n2 c2 : Nat} {k t : Int} (h0 : 0≤x) (h1 : x < n) (h2 : x < n2) (ht0 : 0≤t) (ht : t≤1152921504606846976)
    (c1 : W.cell? ⟨g1,2,none⟩=some (.slice (some A) n c)) (ck : W.cell? (A.add (x.toNat * 6))=some (.int .i64 k)) (c4 : W.cell? ⟨g4,0,none⟩=some (.slice (some B) n2 c2)) (ct : W.cell? (B.add x.toNat)=some (.int .i64 t)) :
    Calls Try.prog 67 #[.int .i64 x,.pointer (some ⟨g1,0,none⟩),.pointer (some ⟨g4,0,none⟩)] W fun e w' => e=.returned (.int .i64 (mkey k t))∧w'=W:=by
  by_cases hk : k=4
  · subst hk
    have e : mkey 4 t=2 * t + 1:=rfl
    rw [e]
    go_enter Try.func67,Try.ntmps67
    go_wp2
    go_ret
    exact ⟨rfl,rfl⟩
  · have e : mkey k t=2 * t:=if_neg hk
    rw [e]
    go_enter Try.func67,Try.ntmps67
    go_wp2
    go_ret
    exact ⟨rfl,rfl⟩
set_option maxHeartbeats 2000000 in
set_option maxRecDepth 100000 in
theorem cmp_any {W : World} {g8 g : Nat} {cap : Array Value} (x y kx ky : Int) (b1 : 0≤kx) (b2 : kx≤4611686018427387904) (b3 : 0≤ky) (b4 : ky≤4611686018427387904)
    (eg : ∀ args w,(callFunc g args).run Try.prog w=.ok (.enter g args) w) (c8 : W.cell? ⟨g8,0,none⟩=some (.func (.func g) #[] cap))
    (hx : ∀ m,Calls Try.prog g (#[.int .i64 x] ++ cap) (W.drewN m) fun e w' => e=.returned (.int .i64 kx)∧w'=W.drewN m)
    (hy : ∀ m,Calls Try.prog g (#[.int .i64 y] ++ cap) (W.drewN m) fun e w' => e=.returned (.int .i64 ky)∧w'=W.drewN m) :
    Calls Try.prog 69 #[.int .i64 x,.int .i64 y,.pointer (some ⟨g8,0,none⟩)] W fun e w' => e=.returned (.int .i64 (kx - ky))∧∃ m,w'=W.drewN m:=by
  go_enter Try.func69,Try.ntmps69
  go_wp2_with fail
  go_quiet (first|with_reducible exact Calls.quiet_of_same (hx _)|with_reducible exact Calls.quiet_of_same (hy _))
  go_wp2
  go_ret
  exact ⟨rfl,nq,rfl⟩
end Go.Proofs.Ytbelnopbggkdfaa
end

section
namespace Go.Proofs.Ytbelnopbggkdfaa
open Go.RowKit Go.Proofs.YtbelnopbggkdfaaW.PrintWords
def insO (key : Int→Int) (x : Int) : List Int→List Int
  | [] => [x]
  | y :: ys => if key x < key y∨key x=key y∧x < y then x :: y :: ys else y :: insO key x ys
def sortO (key : Int→Int) : List Int→List Int
  | [] => []
  | x :: xs => insO key x (sortO key xs)
theorem insO_perm (key : Int→Int) (x : Int) : ∀ l,(insO key x l).Perm (x :: l)
  | [] => List.Perm.refl _
  | y :: ys => by
    unfold insO
    split
    · exact List.Perm.refl _
    · exact ((insO_perm key x ys).cons y).trans (List.Perm.swap x y ys)
theorem sortO_perm (key : Int→Int) : ∀ l,(sortO key l).Perm l
  | [] => List.Perm.refl _
  | x :: xs => (insO_perm key x _).trans ((sortO_perm key xs).cons x)
theorem insO_srt (key : Int→Int) (x : Int) : ∀ l,l.Pairwise (ltK key)→x ∉ l→(insO key x l).Pairwise (ltK key)
  | [],_,_ => by simp [insO]
  | y :: ys,h,hx => by
    have h':=List.pairwise_cons.1 h
    simp only [List.mem_cons,not_or] at hx
    unfold insO
    split
    · rename_i c
      refine List.pairwise_cons.2 ⟨fun z hz => ?_,h⟩
      rcases List.mem_cons.1 hz with rfl|hz
      · exact c
      · exact ltK_trans c (h'.1 z hz)
    · rename_i c
      refine List.pairwise_cons.2 ⟨fun z hz => ?_,insO_srt key x ys h'.2 hx.2⟩
      rcases List.mem_cons.1 ((insO_perm key x ys).mem_iff.1 hz) with rfl|hz
      · unfold ltK
        omega
      · exact h'.1 z hz
theorem sortO_srt (key : Int→Int) : ∀ l : List Int,l.Nodup→(sortO key l).Pairwise (ltK key)
  | [],_ => List.Pairwise.nil
  | x :: xs,h => by
    have h':=List.nodup_cons.1 h
    exact insO_srt key x _ (sortO_srt key xs h'.2) fun hm => h'.1 ((sortO_perm key xs).mem_iff.1 hm)
theorem ltK_asymm {key : Int→Int} {x y : Int} (h1 : ltK key x y) (h2 : ltK key y x) : False:=by
  unfold ltK at *
  omega
theorem srt_unique {key : Int→Int} : ∀ {l m : List Int},l.Perm m→l.Pairwise (ltK key)→m.Pairwise (ltK key)→l=m
  | [],m,hp,_,_ => (List.perm_nil.1 hp.symm).symm
  | x :: xs,[],hp,_,_ => List.perm_nil.1 hp
  | x :: xs,y :: ys,hp,h1,h2 => by
    have a1:=List.pairwise_cons.1 h1
    have a2:=List.pairwise_cons.1 h2
    have e : x=y:=by
      have m1:=hp.mem_iff.1 (List.mem_cons_self (a:=x) (l:=xs))
      have m2:=hp.mem_iff.2 (List.mem_cons_self (a:=y) (l:=ys))
      rcases List.mem_cons.1 m1 with c|c
      · exact c
      · rcases List.mem_cons.1 m2 with c2|c2
        · exact c2.symm
        · exact absurd (ltK_asymm (a1.1 y c2) (a2.1 x c)) id
    subst e
    rw [srt_unique (List.Perm.cons_inv hp) a1.2 a2.2]
theorem srt_of_rd {key : Int→Int} {l : List Int} {n : Nat} (hl : l.length=n) (h : ∀ p q : Nat,p < q→q < n→ltK key (rd l p) (rd l q)) : l.Pairwise (ltK key):=by
  rw [List.pairwise_iff_getElem]
  intro i j hi hj hij
  have:=h i j hij (by omega)
  simpa [rd,List.getD_eq_getElem?_getD,List.getElem?_eq_getElem hi,List.getElem?_eq_getElem hj] using this
theorem sort_is {key : Int→Int} {l d : List Int} {n : Nat} (hp : l.Perm d) (hl : d.length=n) (hd : d.Nodup) (h : ∀ p q : Nat,p < q→q < n→ltK key (rd l p) (rd l q)) : l=sortO key d :=
  srt_unique (hp.trans (sortO_perm key d).symm) (srt_of_rd (by rw [hp.length_eq,hl]) h) (sortO_srt key d hd)
set_option maxHeartbeats 2000000 in
set_option maxRecDepth 100000 in
theorem ins_nil {W : World} (g : Value) : Calls Try.prog 94 #[.slice none 0 0,.int .i64 0,.int .i64 0,g] W fun e w' => e=.returned (.tuple #[])∧w'=W:=by
  go_enter Try.func94,Try.ntmps94
  go_wp2
  go_loopg [8] 1 (fun g1 vi wr => vi=.int .i64 1∧wr=W)
  case atStart => exact ⟨by go_num,rfl⟩
  case round =>
    obtain ⟨rfl,rfl⟩:=hrel
    go_wp2
    go_end0
    exact ⟨rfl,rfl⟩
set_option maxHeartbeats 2000000 in
set_option maxRecDepth 100000 in
theorem stable_nil {W : World} (g : Value) : Calls Try.prog 84 #[.slice none 0 0,.int .i64 0,g] W fun e w' => e=.returned (.tuple #[])∧w'=W:=by
  go_enter Try.func84,Try.ntmps84
  go_wp2
  go_loopg [7,8] 1 (fun g1 va vb wr => va=.int .i64 0∧vb=.int .i64 20∧wr=W)
  case atStart => exact ⟨rfl,rfl,rfl⟩
  case round =>
    obtain ⟨rfl,rfl,rfl⟩:=hrel
    go_wp2_with (go_at_call 94;refine (ins_nil g).mono ?_;rintro e w2 ⟨rfl,rfl⟩)
    go_loopg [6] 1 (fun g1 va wr => va=.int .i64 20∧wr=w2)
    case atStart => exact ⟨rfl,rfl⟩
    case round =>
      obtain ⟨rfl,rfl⟩:=hrel
      go_wp2
      go_end0
      exact ⟨rfl,rfl⟩
set_option maxHeartbeats 2000000 in
set_option maxRecDepth 100000 in
theorem sort_nil {W : World} (g : Value) : Calls Try.prog 68 #[.slice none 0 0,g] W fun e w' => e=.returned (.tuple #[])∧w'=W:=by
  go_enter Try.func68,Try.ntmps68
  go_wp2_with (go_at_call 84;refine (stable_nil g).mono ?_;rintro e w2 ⟨rfl,rfl⟩)
  go_end0
  exact ⟨rfl,rfl⟩
end Go.Proofs.Ytbelnopbggkdfaa
end

section
namespace Go.Proofs.Ytbelnopbggkdfaa.Q
open Go.RowKit Go.Proofs.YtbelnopbggkdfaaW.PrintWords Go.Proofs.YtbelnopbggkdfaaW.PrintLast Go.Proofs.YtbelnopbggkdfaaW.PrintMore
structure SrtS (w : World) (N g1 g2 g4 g8 gd cap : Nat) (a0 a1 : Int) (A : Option Addr) (c : Nat) (l : List S46) (A4 : Option Addr) (c4 : Nat) (into : List Int) (W : World) (d : List Int) : Prop where
  hb : Below w.heap.size w W
  b1 : W.heap[g1]?=some (.cells #[.int .i64 a0,.int .i64 a1,.slice A l.length c] 24 (0,0))
  b2 : W.heap[g2]?=some (.cells #[.int .i64 0,.int .i64 0,.slice none 0 0] 24 (0,0))
  b4 : W.heap[g4]?=some (.cells #[.slice A4 into.length c4] 37 (0,0))
  b8 : W.heap[g8]?=some (.cells #[.func (.func 67) #[] #[.pointer (some ⟨g1,0,none⟩),.pointer (some ⟨g4,0,none⟩)]] 79 (0,0))
  hi : Kd.R (Kd.int .i64) 3 W w.heap.size (fun k => k < N) (.slice A4 into.length c4) into
  ho : Kd.R (Kd.int .i64) 3 W N (fun k => N≤k) (.slice (some ⟨gd,0,none⟩) d.length cap) d
  l1 : d.length=into.length
  hN : w.heap.size≤N
variable {w : World} {N g1 g2 g4 g8 gd cap : Nat} {a0 a1 : Int} {A : Option Addr} {c : Nat} {l : List S46} {A4 : Option Addr} {c4 : Nat} {into : List Int} {W : World} {d : List Int}
theorem SrtS.ge (h : SrtS w N g1 g2 g4 g8 gd cap a0 a1 A c l A4 c4 into W d) : N≤gd:=Kd.R_base h.ho gd rfl
theorem SrtS.drew (h : SrtS w N g1 g2 g4 g8 gd cap a0 a1 A c l A4 c4 into W d) (m : Nat) : SrtS w N g1 g2 g4 g8 gd cap a0 a1 A c l A4 c4 into (W.drewN m) d :=
  ⟨pw_below_drewN h.hb m,h.b1,h.b2,h.b4,h.b8,Kd.R_drewN h.hi m,Kd.R_drewN h.ho m,h.l1,h.hN⟩
theorem SrtS.ne {g t : Nat} {cs : Array Value} (h : SrtS w N g1 g2 g4 g8 gd cap a0 a1 A c l A4 c4 into W d) (hb : W.heap[g]?=some (.cells cs t (0,0))) (ht : 3≠t) : g≠gd:=fun e => Kd.R_ne h.ho hb ht (by rw [e];rfl)
theorem SrtS.put (h : SrtS w N g1 g2 g4 g8 gd cap a0 a1 A c l A4 c4 into W d) (i : Nat) (x : Int) : SrtS w N g1 g2 g4 g8 gd cap a0 a1 A c l A4 c4 into (W.setCell ⟨gd,i,none⟩ (.int .i64 x)) (d.set i x):=by
  have hg:=h.ge
  have hN:=h.hN
  refine ⟨below_set h.hb (by omega),blk_far h.b1 (h.ne h.b1 (by decide)) _,blk_far h.b2 (h.ne h.b2 (by decide)) _,blk_far h.b4 (h.ne h.b4 (by decide)) _,blk_far h.b8 (h.ne h.b8 (by decide)) _,Kd.R_far h.hi (fun k hk => by show k≠gd;omega) _,?_,by rw [List.length_set];exact h.l1,h.hN⟩
  have:=(Kd.R_put h.ho (i : Int) x).1
  rw [Int.toNat_natCast] at this
  rw [List.length_set]
  exact this
def skey (l : List S46) (into : List Int) (x : Int) : Int:=mkey (rd_T46 l x).f0 (rd into x)
theorem SrtS.env (hl : l.length=into.length) (hn : (into.length : Int)≤1152921504606846976) (hc : Kd.C k46 w A l.length l) (ht : ∀ x : Int,0≤x→x < into.length→0≤rd into x∧rd into x≤1152921504606846976) :
    SortEnv (SrtS w N g1 g2 g4 g8 gd cap a0 a1 A c l A4 c4 into) gd into.length 69 #[.pointer (some ⟨g8,0,none⟩)] (fun x => 0≤x∧x < into.length) (skey l into) where
  len:=fun h => h.l1
  n64:=hn
  eg:=enters_of Try.func69 (by kernel_rfl) rfl
  rd:=fun h i hi => by
    have:=Kd.R_cell (0 : Int) h.ho (i : Int) (by omega) (by rw [h.l1];omega)
    rw [Int.toNat_natCast] at this
    exact this
  wr:=fun h i x hi => h.put i x
  dr:=fun h m => h.drew m
  cmp:=fun {W d} h x y hx hy => by
    have key : ∀ z : Int,0≤z∧z < into.length→∀ m,Calls Try.prog 67 (#[.int .i64 z] ++ #[.pointer (some ⟨g1,0,none⟩),.pointer (some ⟨g4,0,none⟩)]) (W.drewN m) fun e w' => e=.returned (.int .i64 (skey l into z))∧w'=W.drewN m:=fun z hz m => by
      have h:=h.drew m
      obtain ⟨ad,A2,c2,rfl,k0,_⟩:=at_T46 (Kd.C_below hc h.hb) z hz.1 (by omega)
      obtain ⟨A',c',e,_,hC⟩:=Kd.R_reads h.hi
      injection e with e1 _ e2
      subst e1 e2
      obtain ⟨_,_,hcells⟩:=Kd.reads_of_C (enc:=Value.int .i64) (d:=(0 : Int)) (h1:=fun _ => rfl) hC
      obtain ⟨ad4,rfl,hc4⟩:=hcells (by omega)
      have ct:=hc4 z.toNat (by omega)
      exact key_any (n:=l.length) (c:=c) (n2:=into.length) (c2:=c4) z hz.1 (by omega) hz.2 (ht z hz.1 hz.2).1 (ht z hz.1 hz.2).2 (by rw [blk_cell h.b1];rfl) k0 (by rw [blk_cell h.b4];rfl) ct
    have kb : ∀ z : Int,0≤z∧z < into.length→0≤skey l into z∧skey l into z≤4611686018427387904:=fun z hz => by
      have:=ht z hz.1 hz.2
      unfold skey mkey
      split <;> omega
    exact cmp_any x y _ _ (kb x hx).1 (kb x hx).2 (kb y hy).1 (kb y hy).2 (enters_of Try.func67 (by kernel_rfl) rfl) (by rw [blk_cell h.b8];rfl) (key x hx) (key y hy)
end Go.Proofs.Ytbelnopbggkdfaa.Q
end

section
namespace Go.Proofs.Ytbelnopbggkdfaa.Q
open Go.RowKit Go.Proofs.YtbelnopbggkdfaaW.PrintWords Go.Proofs.YtbelnopbggkdfaaW.PrintLast Go.Proofs.YtbelnopbggkdfaaW.PrintMore
attribute [local go_sem] max2_int min2_int max_two min_two max_three min_three max_four min_four   -- for this text's walks alone
set_option linter.unusedVariables false
set_option linter.unusedSimpArgs false
def circuit_Copy.l0 : Nat→List (S46)→Int→Int→Int→Int→List (S46)→Option (Int × Int × (List (S46)))
 | 0,_,_,_,_,_,_ => none
 | k + 1,x12,x13,x14,x115000,x115001,x115002 => if x14 < x13 then (if 0≤x14 then (if x14 < (x12.length : Int) then ((slices_Clone_int_int.f ((rd_T46 x12 x14).f2)).bind fun t117 => (if x115002.length < 2199023255552 then (circuit_Copy.l0 k x12 x13 (wrap64 (x14 + 1)) x115000 x115001 (x115002 ++ [(⟨(rd_T46 x12 x14).f0,(rd_T46 x12 x14).f1,t117,(rd_T46 x12 x14).f3,(rd_T46 x12 x14).f4,(rd_T46 x12 x14).f5⟩ : S46)])) else (none))) else (none)) else (none)) else (some (x115000,x115001,x115002))
def circuit_Copy.f (k : Nat) (a0_0 : Int) (a0_1 : Int) (l0_2 : List (S46)) : Option (Int × Int × (List (S46))):=circuit_Copy.l0 k l0_2 (l0_2.length : Int) 0 a0_0 a0_1 ([] : List (S46))
set_option maxHeartbeats 8000000 in
set_option maxRecDepth 100000 in
theorem circuit_Copy.calls (k : Nat) (a0_0 : Int) (a0_1 : Int) (A0_2 : Option Addr) (c0_2 : Nat) (l0_2 : List (S46)) (r1 : Int) (r2 : Int) (r3 : List (S46)) (w : World) (hr0_2 : Kd.C k46 w A0_2 l0_2.length l0_2) (hc0_2 : l0_2.length≤c0_2) (h : circuit_Copy.f k a0_0 a0_1 l0_2=some (r1,r2,r3)) :
  Calls Try.prog 54 #[.agg #[.int .i64 a0_0,.int .i64 a0_1,.slice A0_2 l0_2.length c0_2]] w fun e w' => ∃ v2_ : Value,e=.returned (.agg #[.int .i64 r1,.int .i64 r2,v2_])∧Kd.S k46 46 w' w.heap.size (fun _ => True) v2_ r3∧Below w.heap.size w w':=by
 have hu24:=Try.underlying24
 have hu46:=Try.underlying46
 have HR0_2:=Aside0.mk hr0_2
 have HC0_2:=Aside0.mk hc0_2
 clear hr0_2 hc0_2
 have HB:=Aside0.mk (Below.refl w.heap.size w)
 have H : (circuit_Copy.l0 k l0_2 (l0_2.length : Int) 0 a0_0 a0_1 ([] : List (S46)))=some (r1,r2,r3):=h
 clear h
 have H':=Aside0.mk H
 clear H
 go_enter Try.func54,Try.ntmps54
 go_wp2_with (first|((with_reducible refine gate_dst (N:=1) rfl ?_);refine box_event ?hg (N:=1) ?hd (cs:=#[.int .i64 a0_0,.int .i64 a0_1,.slice A0_2 l0_2.length c0_2]) (t:=24) ?hr ?_;(case hd => rfl);(case hg => rfl);(case hr => first|(go_simp;done)|(go_simp;rfl));intro gb112 hg w2 hbox hb;have n0_:=Aside0.mk (below_step (by repeat (first|(with_reducible first|exact HB.out|apply below_alloc|apply pw_below_drewN|apply below_drew1)|exact HB.out)) hb);have n1_:=Aside0.mk (hbox);have n2_:=Aside0.mk ((by rw [hg];exact (below_size (by repeat (first|(with_reducible first|exact HB.out|apply below_alloc|apply pw_below_drewN|apply below_drew1)|exact HB.out))) : w.heap.size≤gb112));have n3_:=Aside0.mk ((by rw [hg];exact (below_size (by repeat (first|(with_reducible first|exact HB.out|apply below_alloc|apply pw_below_drewN|apply below_drew1)|exact HB.out))) : w.heap.size≤gb112));clear HB;have HB:=n0_;have BK112:=n1_;have GW112:=n2_;have GE112:=n3_;clear n0_ n1_ n2_ n3_;clear hb hbox hg)|((with_reducible refine gate_dst (N:=2) rfl ?_);refine box_event ?hg (N:=2) ?hd (cs:=#[.int .i64 0,.int .i64 0,.slice none 0 0]) (t:=24) ?hr ?_;(case hd => rfl);(case hg => rfl);(case hr => first|(go_simp;done)|(go_simp;rfl));intro gb113 hg w3 hbox hb;have n0_:=Aside0.mk (blk_below (g:=gb112) (o:=.cells #[.int .i64 a0_0,.int .i64 a0_1,.slice A0_2 l0_2.length c0_2] 24 (0,0)) (by (with_reducible repeat (first|refine blk_drewN ?_ _|refine blk_drew ?_|refine blk_alloc ?_ _));exact BK112.out) hb);have n1_:=Aside0.mk (below_step (by repeat (first|(with_reducible first|exact HB.out|apply below_alloc|apply pw_below_drewN|apply below_drew1|refine below_set ?_ GE112.out)|exact HB.out)) hb);have n2_:=Aside0.mk (hbox);have n3_:=Aside0.mk ((by rw [hg];exact (below_size (by repeat (first|(with_reducible first|exact HB.out|apply below_alloc|apply pw_below_drewN|apply below_drew1|refine below_set ?_ GE112.out)|exact HB.out))) : w.heap.size≤gb113));have n4_:=Aside0.mk ((by rw [hg];exact (below_size (by repeat (first|(with_reducible first|exact HB.out|apply below_alloc|apply pw_below_drewN|apply below_drew1|refine below_set ?_ GE112.out)|exact HB.out))) : w.heap.size≤gb113));have n5_:=Aside0.mk ((by rw [hg];exact Nat.ne_of_lt (blk_lt (g:=gb112) (o:=.cells #[.int .i64 a0_0,.int .i64 a0_1,.slice A0_2 l0_2.length c0_2] 24 (0,0)) (by (with_reducible repeat (first|refine blk_drewN ?_ _|refine blk_drew ?_|refine blk_alloc ?_ _));exact BK112.out)) : gb112≠gb113));have n6_:=Aside0.mk ((by rw [hg];exact Nat.ne_of_gt (blk_lt (g:=gb112) (o:=.cells #[.int .i64 a0_0,.int .i64 a0_1,.slice A0_2 l0_2.length c0_2] 24 (0,0)) (by (with_reducible repeat (first|refine blk_drewN ?_ _|refine blk_drew ?_|refine blk_alloc ?_ _));exact BK112.out)) : gb113≠gb112));clear BK112;clear HB;have BK112:=n0_;have HB:=n1_;have BK113:=n2_;have GW113:=n3_;have GE113:=n4_;have NB112_113:=n5_;have NB113_112:=n6_;clear n0_ n1_ n2_ n3_ n4_ n5_ n6_;clear hb hbox hg;have hnb4:=NB112_113.out;have hnc4:=NB113_112.out;have hcz5_0 : w3.cell? ⟨gb112,0,none⟩=some (.int .i64 a0_0):=(blk_cell BK112.out 0).trans rfl;have hcz5_1 : w3.cell? ⟨gb112,1,none⟩=some (.int .i64 a0_1):=(blk_cell BK112.out 1).trans rfl;have hcz5_2 : w3.cell? ⟨gb112,2,none⟩=some (.slice A0_2 l0_2.length c0_2):=(blk_cell BK112.out 2).trans rfl;have hfz5_0:=blk_frozen BK112.out 0;have hfz5_1:=blk_frozen BK112.out 1;have hfz5_2:=blk_frozen BK112.out 2)|((with_reducible refine gate_dst (N:=3) rfl ?_);refine box_event ?hg (N:=3) ?hd (cs:=#[.int .i64 0,.int .i64 0,.slice none 0 0]) (t:=24) ?hr ?_;(case hd => rfl);(case hg => rfl);(case hr => first|(go_simp;done)|(go_simp;rfl));intro gb114 hg w6 hbox hb;have n0_:=Aside0.mk (blk_below (g:=gb112) (o:=.cells #[.int .i64 a0_0,.int .i64 a0_1,.slice A0_2 l0_2.length c0_2] 24 (0,0)) (by (with_reducible repeat (first|refine blk_drewN ?_ _|refine blk_drew ?_|refine blk_alloc ?_ _));exact BK112.out) hb);have n1_:=Aside0.mk (blk_below (g:=gb113) (o:=.cells #[.int .i64 0,.int .i64 0,.slice none 0 0] 24 (0,0)) (by (with_reducible repeat (first|refine blk_drewN ?_ _|refine blk_drew ?_|refine blk_alloc ?_ _));exact BK113.out) hb);have n2_:=Aside0.mk (below_step (by repeat (first|(with_reducible first|exact HB.out|apply below_alloc|apply pw_below_drewN|apply below_drew1|refine below_set ?_ GE112.out|refine below_set ?_ GE113.out)|exact HB.out)) hb);have n3_:=Aside0.mk (hbox);have n4_:=Aside0.mk ((by rw [hg];exact (below_size (by repeat (first|(with_reducible first|exact HB.out|apply below_alloc|apply pw_below_drewN|apply below_drew1|refine below_set ?_ GE112.out|refine below_set ?_ GE113.out)|exact HB.out))) : w.heap.size≤gb114));have n5_:=Aside0.mk ((by rw [hg];exact (below_size (by repeat (first|(with_reducible first|exact HB.out|apply below_alloc|apply pw_below_drewN|apply below_drew1|refine below_set ?_ GE112.out|refine below_set ?_ GE113.out)|exact HB.out))) : w.heap.size≤gb114));have n6_:=Aside0.mk ((by rw [hg];exact Nat.ne_of_lt (blk_lt (g:=gb112) (o:=.cells #[.int .i64 a0_0,.int .i64 a0_1,.slice A0_2 l0_2.length c0_2] 24 (0,0)) (by (with_reducible repeat (first|refine blk_drewN ?_ _|refine blk_drew ?_|refine blk_alloc ?_ _));exact BK112.out)) : gb112≠gb114));have n7_:=Aside0.mk ((by rw [hg];exact Nat.ne_of_gt (blk_lt (g:=gb112) (o:=.cells #[.int .i64 a0_0,.int .i64 a0_1,.slice A0_2 l0_2.length c0_2] 24 (0,0)) (by (with_reducible repeat (first|refine blk_drewN ?_ _|refine blk_drew ?_|refine blk_alloc ?_ _));exact BK112.out)) : gb114≠gb112));have n8_:=Aside0.mk ((by rw [hg];exact Nat.ne_of_lt (blk_lt (g:=gb113) (o:=.cells #[.int .i64 0,.int .i64 0,.slice none 0 0] 24 (0,0)) (by (with_reducible repeat (first|refine blk_drewN ?_ _|refine blk_drew ?_|refine blk_alloc ?_ _));exact BK113.out)) : gb113≠gb114));have n9_:=Aside0.mk ((by rw [hg];exact Nat.ne_of_gt (blk_lt (g:=gb113) (o:=.cells #[.int .i64 0,.int .i64 0,.slice none 0 0] 24 (0,0)) (by (with_reducible repeat (first|refine blk_drewN ?_ _|refine blk_drew ?_|refine blk_alloc ?_ _));exact BK113.out)) : gb114≠gb113));clear BK112;clear BK113;clear HB;have BK112:=n0_;have BK113:=n1_;have HB:=n2_;have BK114:=n3_;have GW114:=n4_;have GE114:=n5_;have NB112_114:=n6_;have NB114_112:=n7_;have NB113_114:=n8_;have NB114_113:=n9_;clear n0_ n1_ n2_ n3_ n4_ n5_ n6_ n7_ n8_ n9_;clear hb hbox hg;have hnb7:=NB114_112.out;have hnc7:=NB112_114.out;have hnb8:=NB114_113.out;have hnc8:=NB113_114.out;have hcz9_0 : w6.cell? ⟨gb114,0,none⟩=some (.int .i64 0):=(blk_cell BK114.out 0).trans rfl;have hcz9_1 : w6.cell? ⟨gb114,1,none⟩=some (.int .i64 0):=(blk_cell BK114.out 1).trans rfl;have hcz9_2 : w6.cell? ⟨gb114,2,none⟩=some (.slice none 0 0):=(blk_cell BK114.out 2).trans rfl;have hfz9_0:=blk_frozen BK114.out 0;have hfz9_1:=blk_frozen BK114.out 1;have hfz9_2:=blk_frozen BK114.out 2;have hcz10_0 : w6.cell? ⟨gb112,0,none⟩=some (.int .i64 a0_0):=(blk_cell BK112.out 0).trans rfl;have hcz10_1 : w6.cell? ⟨gb112,1,none⟩=some (.int .i64 a0_1):=(blk_cell BK112.out 1).trans rfl;have hcz10_2 : w6.cell? ⟨gb112,2,none⟩=some (.slice A0_2 l0_2.length c0_2):=(blk_cell BK112.out 2).trans rfl;have hfz10_0:=blk_frozen BK112.out 0;have hfz10_1:=blk_frozen BK112.out 1;have hfz10_2:=blk_frozen BK112.out 2))
 go_loopg [14] k (fun kq v14 w' => ∃ (x14_1 : Int) (x115002_1 : List (S46)) (u115002 : Value),v14=.int .i64 x14_1∧Aside0 (circuit_Copy.l0 kq l0_2 (l0_2.length : Int) x14_1 a0_0 a0_1 x115002_1=some (r1,r2,r3))∧Aside0 (kq≤k)∧Aside0 (Kd.S k46 46 w' w.heap.size (fun _ => True) u115002 x115002_1)∧Aside0 (w'.heap[gb112]?=some (.cells #[.int .i64 a0_0,.int .i64 a0_1,(.slice A0_2 l0_2.length c0_2)] 24 (0,0)))∧Aside0 (w'.heap[gb113]?=some (.cells #[.int .i64 0,.int .i64 0,(.slice none 0 0)] 24 (0,0)))∧Aside0 (w'.heap[gb114]?=some (.cells #[.int .i64 a0_0,.int .i64 a0_1,u115002] 24 (0,0)))∧Aside0 (Below w.heap.size w w'))
 case atStart => exact ⟨(0),(([] : List (S46))),(.slice none 0 0),(by first|rfl|(simp;done)|(simp [*];done)),H',⟨Nat.le_refl _⟩,⟨by first|exact Kd.S_nil _ _ _ _ _|exact Kd.N_nil _ _ _ _ _|exact Kd.V_nil _ _ _ _ _|exact Kd.Q_nil _ _ _ _ _|exact Kd.R_nil _ _ _ _ _⟩,⟨by (with_reducible repeat (first|refine blk_drewN ?_ _|refine blk_drew ?_|refine blk_alloc ?_ _));refine blk_far ?_ NB112_114.out _;(with_reducible repeat (first|refine blk_drewN ?_ _|refine blk_drew ?_|refine blk_alloc ?_ _));refine blk_far ?_ NB112_114.out _;(with_reducible repeat (first|refine blk_drewN ?_ _|refine blk_drew ?_|refine blk_alloc ?_ _));refine blk_far ?_ NB112_114.out _;(with_reducible repeat (first|refine blk_drewN ?_ _|refine blk_drew ?_|refine blk_alloc ?_ _));exact BK112.out⟩,⟨by (with_reducible repeat (first|refine blk_drewN ?_ _|refine blk_drew ?_|refine blk_alloc ?_ _));refine blk_far ?_ NB113_114.out _;(with_reducible repeat (first|refine blk_drewN ?_ _|refine blk_drew ?_|refine blk_alloc ?_ _));refine blk_far ?_ NB113_114.out _;(with_reducible repeat (first|refine blk_drewN ?_ _|refine blk_drew ?_|refine blk_alloc ?_ _));refine blk_far ?_ NB113_114.out _;(with_reducible repeat (first|refine blk_drewN ?_ _|refine blk_drew ?_|refine blk_alloc ?_ _));exact BK113.out⟩,⟨by (with_reducible repeat (first|refine blk_drewN ?_ _|refine blk_drew ?_|refine blk_alloc ?_ _));refine blk_put (cs:=#[.int .i64 a0_0,.int .i64 a0_1,.slice none 0 0]) ?_ 2 _ rfl;(with_reducible repeat (first|refine blk_drewN ?_ _|refine blk_drew ?_|refine blk_alloc ?_ _));refine blk_put (cs:=#[.int .i64 a0_0,.int .i64 0,.slice none 0 0]) ?_ 1 _ rfl;(with_reducible repeat (first|refine blk_drewN ?_ _|refine blk_drew ?_|refine blk_alloc ?_ _));refine blk_put (cs:=#[.int .i64 0,.int .i64 0,.slice none 0 0]) ?_ 0 _ rfl;(with_reducible repeat (first|refine blk_drewN ?_ _|refine blk_drew ?_|refine blk_alloc ?_ _));exact BK114.out⟩,⟨by repeat (first|(with_reducible first|exact HB.out|apply below_alloc|apply pw_below_drewN|apply below_drew1|refine below_set ?_ GE112.out|refine below_set ?_ GE113.out|refine below_set ?_ GE114.out)|exact HB.out)⟩⟩
 case round =>
  clear H'
  try clear p2
  try clear c4
  try clear c5
  try clear c7
  try clear c8
  try clear hcz10_0
  try clear hcz10_1
  try clear hcz10_2
  try clear hcz5_0
  try clear hcz5_1
  try clear hcz5_2
  try clear hcz9_0
  try clear hcz9_1
  try clear hcz9_2
  try clear hfz10_0
  try clear hfz10_1
  try clear hfz10_2
  try clear hfz5_0
  try clear hfz5_1
  try clear hfz5_2
  try clear hfz9_0
  try clear hfz9_1
  try clear hfz9_2
  obtain ⟨x14_1,x115002_1,u115002,rfl,HA,HK1,HO_115002,BK112,BK113,BK114,HB⟩:=hrel
  cases gk with
  | zero => exact absurd HA.out (by simp [circuit_Copy.l0])
  | succ k1 =>
   have H:=HA.out
   clear HA
   simp only [circuit_Copy.l0] at H
   by_cases c11 : x14_1 < (l0_2.length : Int)
   ·rw [if_pos c11] at H
    have c11b0 : decide (x14_1 < (l0_2.length : Int))=true:=decide_eq_true c11
    clear c11
    by_cases c12 : 0≤x14_1
    ·rw [if_pos c12] at H
     have c12b0 : decide (0≤x14_1)=true:=decide_eq_true c12
     clear c12
     by_cases c13 : x14_1 < (l0_2.length : Int)
     ·rw [if_pos c13] at H
      have c13b0 : decide (x14_1 < (l0_2.length : Int))=true:=decide_eq_true c13
      clear c13
      replace H:=Option.bind_eq_some_iff.mp H
      obtain ⟨t117,A140,H⟩:=H
      replace H : (if x115002_1.length < 2199023255552 then (circuit_Copy.l0 k1 l0_2 (l0_2.length : Int) (wrap64 (x14_1 + 1)) a0_0 a0_1 (x115002_1 ++ [(⟨(rd_T46 l0_2 x14_1).f0,(rd_T46 l0_2 x14_1).f1,t117,(rd_T46 l0_2 x14_1).f3,(rd_T46 l0_2 x14_1).f4,(rd_T46 l0_2 x14_1).f5⟩ : S46)])) else (none))=some (r1,r2,r3):=H
      have A14:=Aside0.mk A140
      clear A140
      by_cases c15 : x115002_1.length < 2199023255552
      ·rw [if_pos c15] at H
       have LMc15:=Aside0.mk c15
       clear c15
       obtain ⟨y120,hy120⟩ : ∃ y_ : List (S46),y_=(x115002_1 ++ [(⟨(rd_T46 l0_2 x14_1).f0,(rd_T46 l0_2 x14_1).f1,t117,(rd_T46 l0_2 x14_1).f3,(rd_T46 l0_2 x14_1).f4,(rd_T46 l0_2 x14_1).f5⟩ : S46)]):=⟨_,rfl⟩
       replace H : (circuit_Copy.l0 k1 l0_2 (l0_2.length : Int) (wrap64 (x14_1 + 1)) a0_0 a0_1 y120)=some (r1,r2,r3):=by first|(rw [hy120];with_reducible exact H)|(have H2_:=(Option.bind_some _ _).symm.trans H;rw [hy120];with_reducible exact H2_)|(have H2_:=(Option.bind_some _ _).symm.trans H;with_reducible exact H2_)|with_reducible exact H|(rw [hy120];exact H)|exact H
       have Ny120:=Aside0.mk hy120
       clear hy120
       have H':=Aside0.mk H
       clear H
       have p115 : 0≤(x14_1 : Int):=of_decide_eq_true (by first|(with_reducible assumption)|assumption)
       have q115 : x14_1 < (l0_2.length : Int):=of_decide_eq_true (by first|(with_reducible assumption)|assumption)
       obtain ⟨ad115,A115_2,c115_2,e115,hx115_0,hx115_1,hx115_2,hx115_3,hx115_4,hx115_5,hl115_2,hi115_2⟩:=at_T46 HR0_2.out x14_1 p115 q115
       cases e115
       replace hx115_0:=(HB.out.cell (World.block_lt_of_cell? w _ hx115_0)).trans hx115_0
       replace hx115_1:=(HB.out.cell (World.block_lt_of_cell? w _ hx115_1)).trans hx115_1
       replace hx115_2:=(HB.out.cell (World.block_lt_of_cell? w _ hx115_2)).trans hx115_2
       replace hx115_3:=(HB.out.cell (World.block_lt_of_cell? w _ hx115_3)).trans hx115_3
       replace hx115_4:=(HB.out.cell (World.block_lt_of_cell? w _ hx115_4)).trans hx115_4
       replace hx115_5:=(HB.out.cell (World.block_lt_of_cell? w _ hx115_5)).trans hx115_5
       have HR115_2:=Aside0.mk hi115_2
       have HC115_2:=Aside0.mk hl115_2
       clear hi115_2 hl115_2
       replace p115:=eq_true p115
       replace q115:=eq_true q115
       go_wp2_with (first|((with_reducible refine gate_dst (N:=5) rfl ?_);refine box_event ?hg (N:=5) ?hd (cs:=#[.int .i64 0,.int .i64 0,.slice none 0 0,.int .i64 0,.int .i64 0,.int .i64 0]) (t:=46) ?hr ?_;(case hd => rfl);(case hg => rfl);(case hr => first|(go_simp;done)|(go_simp;rfl));intro gb116 hg w16 hbox hb;have n0_:=Aside0.mk (Kd.S_below (Kd.S_elderB (by (with_reducible repeat (first|apply Kd.S_alloc|apply Kd.S_drewN|apply Kd.S_drew));exact HO_115002.out) gb116 (Nat.le_of_eq hg.symm)) hb);have n1_:=Aside0.mk (blk_below (g:=gb112) (o:=.cells #[.int .i64 a0_0,.int .i64 a0_1,.slice (some ad115) l0_2.length c0_2] 24 (0,0)) (by (with_reducible repeat (first|refine blk_drewN ?_ _|refine blk_drew ?_|refine blk_alloc ?_ _));exact BK112.out) hb);have n2_:=Aside0.mk (blk_below (g:=gb113) (o:=.cells #[.int .i64 0,.int .i64 0,.slice none 0 0] 24 (0,0)) (by (with_reducible repeat (first|refine blk_drewN ?_ _|refine blk_drew ?_|refine blk_alloc ?_ _));exact BK113.out) hb);have n3_:=Aside0.mk (blk_below (g:=gb114) (o:=.cells #[.int .i64 a0_0,.int .i64 a0_1,u115002] 24 (0,0)) (by (with_reducible repeat (first|refine blk_drewN ?_ _|refine blk_drew ?_|refine blk_alloc ?_ _));exact BK114.out) hb);have n4_:=Aside0.mk (below_step (by repeat (first|(with_reducible first|exact HB.out|apply below_alloc|apply pw_below_drewN|apply below_drew1|refine below_set ?_ GE112.out|refine below_set ?_ GE113.out|refine below_set ?_ GE114.out)|exact HB.out)) hb);have n5_:=Aside0.mk (hbox);have n6_:=Aside0.mk ((by rw [hg];exact (below_size (by repeat (first|(with_reducible first|exact HB.out|apply below_alloc|apply pw_below_drewN|apply below_drew1|refine below_set ?_ GE112.out|refine below_set ?_ GE113.out|refine below_set ?_ GE114.out)|exact HB.out))) : w.heap.size≤gb116));have n7_:=Aside0.mk ((by rw [hg];exact (below_size (by repeat (first|(with_reducible first|exact HB.out|apply below_alloc|apply pw_below_drewN|apply below_drew1|refine below_set ?_ GE112.out|refine below_set ?_ GE113.out|refine below_set ?_ GE114.out)|exact HB.out))) : w.heap.size≤gb116));have n8_:=Aside0.mk ((by rw [hg];exact Nat.ne_of_lt (blk_lt (g:=gb112) (o:=.cells #[.int .i64 a0_0,.int .i64 a0_1,.slice (some ad115) l0_2.length c0_2] 24 (0,0)) (by (with_reducible repeat (first|refine blk_drewN ?_ _|refine blk_drew ?_|refine blk_alloc ?_ _));exact BK112.out)) : gb112≠gb116));have n9_:=Aside0.mk ((by rw [hg];exact Nat.ne_of_gt (blk_lt (g:=gb112) (o:=.cells #[.int .i64 a0_0,.int .i64 a0_1,.slice (some ad115) l0_2.length c0_2] 24 (0,0)) (by (with_reducible repeat (first|refine blk_drewN ?_ _|refine blk_drew ?_|refine blk_alloc ?_ _));exact BK112.out)) : gb116≠gb112));have n10_:=Aside0.mk ((by rw [hg];exact Nat.ne_of_lt (blk_lt (g:=gb113) (o:=.cells #[.int .i64 0,.int .i64 0,.slice none 0 0] 24 (0,0)) (by (with_reducible repeat (first|refine blk_drewN ?_ _|refine blk_drew ?_|refine blk_alloc ?_ _));exact BK113.out)) : gb113≠gb116));have n11_:=Aside0.mk ((by rw [hg];exact Nat.ne_of_gt (blk_lt (g:=gb113) (o:=.cells #[.int .i64 0,.int .i64 0,.slice none 0 0] 24 (0,0)) (by (with_reducible repeat (first|refine blk_drewN ?_ _|refine blk_drew ?_|refine blk_alloc ?_ _));exact BK113.out)) : gb116≠gb113));have n12_:=Aside0.mk ((by rw [hg];exact Nat.ne_of_lt (blk_lt (g:=gb114) (o:=.cells #[.int .i64 a0_0,.int .i64 a0_1,u115002] 24 (0,0)) (by (with_reducible repeat (first|refine blk_drewN ?_ _|refine blk_drew ?_|refine blk_alloc ?_ _));exact BK114.out)) : gb114≠gb116));have n13_:=Aside0.mk ((by rw [hg];exact Nat.ne_of_gt (blk_lt (g:=gb114) (o:=.cells #[.int .i64 a0_0,.int .i64 a0_1,u115002] 24 (0,0)) (by (with_reducible repeat (first|refine blk_drewN ?_ _|refine blk_drew ?_|refine blk_alloc ?_ _));exact BK114.out)) : gb116≠gb114));clear HO_115002;clear BK112;clear BK113;clear BK114;clear HB;have HO_115002:=n0_;have BK112:=n1_;have BK113:=n2_;have BK114:=n3_;have HB:=n4_;have BK116:=n5_;have GW116:=n6_;have GE116:=n7_;have NB112_116:=n8_;have NB116_112:=n9_;have NB113_116:=n10_;have NB116_113:=n11_;have NB114_116:=n12_;have NB116_114:=n13_;clear n0_ n1_ n2_ n3_ n4_ n5_ n6_ n7_ n8_ n9_ n10_ n11_ n12_ n13_;clear hb hbox hg;have hnb17:=NB116_112.out;have hnc17:=NB112_116.out;have hnb18:=NB116_113.out;have hnc18:=NB113_116.out;have hnb19:=NB116_114.out;have hnc19:=NB114_116.out;have hcz20_0 : w16.cell? ⟨gb116,0,none⟩=some (.int .i64 0):=(blk_cell BK116.out 0).trans rfl;have hcz20_1 : w16.cell? ⟨gb116,1,none⟩=some (.int .i64 0):=(blk_cell BK116.out 1).trans rfl;have hcz20_2 : w16.cell? ⟨gb116,2,none⟩=some (.slice none 0 0):=(blk_cell BK116.out 2).trans rfl;have hcz20_3 : w16.cell? ⟨gb116,3,none⟩=some (.int .i64 0):=(blk_cell BK116.out 3).trans rfl;have hcz20_4 : w16.cell? ⟨gb116,4,none⟩=some (.int .i64 0):=(blk_cell BK116.out 4).trans rfl;have hcz20_5 : w16.cell? ⟨gb116,5,none⟩=some (.int .i64 0):=(blk_cell BK116.out 5).trans rfl;have hfz20_0:=blk_frozen BK116.out 0;have hfz20_1:=blk_frozen BK116.out 1;have hfz20_2:=blk_frozen BK116.out 2;have hfz20_3:=blk_frozen BK116.out 3;have hfz20_4:=blk_frozen BK116.out 4;have hfz20_5:=blk_frozen BK116.out 5)|((with_reducible refine gate_callee (f:=50) rfl ?_);refine goesL_ (some 20) rfl rfl Try.func50 (by kernel_rfl) rfl #[.slice A115_2 ((rd_T46 l0_2 x14_1).f2).length c115_2] rfl (by (try simp only [List.map_toArray,List.map_cons,List.map_nil]);first|done|rfl|(simp only [List.length_drop,List.length_take];rfl)) ?_;(with_reducible refine (slices_Clone_int_int.calls _ _ ((rd_T46 l0_2 x14_1).f2) t117 _ ?side1 ?side2 A14.out).mono ?_);(case side1 => exact Kd.C_below HR115_2.out (by repeat (first|(with_reducible first|exact HB.out|apply below_alloc|apply pw_below_drewN|apply below_drew1|refine below_set ?_ GE112.out|refine below_set ?_ GE113.out|refine below_set ?_ GE114.out|refine below_set ?_ GE116.out)|exact HB.out)));(case side2 => exact HC115_2.out);rintro e w21 ⟨v118,rfl,ho0,hb⟩;refine ⟨_,rfl,?_⟩;have n0_:=Aside0.mk (Kd.S_elder' (by (with_reducible repeat (first|apply Kd.S_alloc|apply Kd.S_drewN|apply Kd.S_drew));exact (Kd.S_mono (Kd.S_far (p:=⟨gb116,5,none⟩) (Kd.S_far (p:=⟨gb116,4,none⟩) (Kd.S_far (p:=⟨gb116,3,none⟩) (Kd.S_far (p:=⟨gb116,2,none⟩) (Kd.S_far (p:=⟨gb116,1,none⟩) (Kd.S_far (p:=⟨gb116,0,none⟩) (Kd.S_mono HO_115002.out (fun k_ hk => (⟨hk,hk.2⟩ : _∧k_≠gb116))) (fun _ hk => hk.2) (.int .i64 ((rd_T46 l0_2 x14_1).f0))) (fun _ hk => hk.2) (.int .i64 ((rd_T46 l0_2 x14_1).f1))) (fun _ hk => hk.2) (.slice A115_2 ((rd_T46 l0_2 x14_1).f2).length c115_2)) (fun _ hk => hk.2) (.int .i64 ((rd_T46 l0_2 x14_1).f3))) (fun _ hk => hk.2) (.int .i64 ((rd_T46 l0_2 x14_1).f4))) (fun _ hk => hk.2) (.int .i64 ((rd_T46 l0_2 x14_1).f5))) (fun _ h_ => h_.1))) (Kd.R_base ho0) hb);have n1_:=Aside0.mk (Kd.R_lower ho0 (below_size (by repeat (first|(with_reducible first|exact HB.out|apply below_alloc|apply pw_below_drewN|apply below_drew1|refine below_set ?_ GE112.out|refine below_set ?_ GE113.out|refine below_set ?_ GE114.out|refine below_set ?_ GE116.out)|exact HB.out))));have n2_:=Aside0.mk (blk_below (g:=gb112) (o:=.cells #[.int .i64 a0_0,.int .i64 a0_1,.slice (some ad115) l0_2.length c0_2] 24 (0,0)) (by (with_reducible repeat (first|refine blk_drewN ?_ _|refine blk_drew ?_|refine blk_alloc ?_ _));refine blk_far ?_ NB112_116.out _;(with_reducible repeat (first|refine blk_drewN ?_ _|refine blk_drew ?_|refine blk_alloc ?_ _));refine blk_far ?_ NB112_116.out _;(with_reducible repeat (first|refine blk_drewN ?_ _|refine blk_drew ?_|refine blk_alloc ?_ _));refine blk_far ?_ NB112_116.out _;(with_reducible repeat (first|refine blk_drewN ?_ _|refine blk_drew ?_|refine blk_alloc ?_ _));refine blk_far ?_ NB112_116.out _;(with_reducible repeat (first|refine blk_drewN ?_ _|refine blk_drew ?_|refine blk_alloc ?_ _));refine blk_far ?_ NB112_116.out _;(with_reducible repeat (first|refine blk_drewN ?_ _|refine blk_drew ?_|refine blk_alloc ?_ _));refine blk_far ?_ NB112_116.out _;(with_reducible repeat (first|refine blk_drewN ?_ _|refine blk_drew ?_|refine blk_alloc ?_ _));exact BK112.out) hb);have n3_:=Aside0.mk (blk_below (g:=gb113) (o:=.cells #[.int .i64 0,.int .i64 0,.slice none 0 0] 24 (0,0)) (by (with_reducible repeat (first|refine blk_drewN ?_ _|refine blk_drew ?_|refine blk_alloc ?_ _));refine blk_far ?_ NB113_116.out _;(with_reducible repeat (first|refine blk_drewN ?_ _|refine blk_drew ?_|refine blk_alloc ?_ _));refine blk_far ?_ NB113_116.out _;(with_reducible repeat (first|refine blk_drewN ?_ _|refine blk_drew ?_|refine blk_alloc ?_ _));refine blk_far ?_ NB113_116.out _;(with_reducible repeat (first|refine blk_drewN ?_ _|refine blk_drew ?_|refine blk_alloc ?_ _));refine blk_far ?_ NB113_116.out _;(with_reducible repeat (first|refine blk_drewN ?_ _|refine blk_drew ?_|refine blk_alloc ?_ _));refine blk_far ?_ NB113_116.out _;(with_reducible repeat (first|refine blk_drewN ?_ _|refine blk_drew ?_|refine blk_alloc ?_ _));refine blk_far ?_ NB113_116.out _;(with_reducible repeat (first|refine blk_drewN ?_ _|refine blk_drew ?_|refine blk_alloc ?_ _));exact BK113.out) hb);have n4_:=Aside0.mk (blk_below (g:=gb114) (o:=.cells #[.int .i64 a0_0,.int .i64 a0_1,u115002] 24 (0,0)) (by (with_reducible repeat (first|refine blk_drewN ?_ _|refine blk_drew ?_|refine blk_alloc ?_ _));refine blk_far ?_ NB114_116.out _;(with_reducible repeat (first|refine blk_drewN ?_ _|refine blk_drew ?_|refine blk_alloc ?_ _));refine blk_far ?_ NB114_116.out _;(with_reducible repeat (first|refine blk_drewN ?_ _|refine blk_drew ?_|refine blk_alloc ?_ _));refine blk_far ?_ NB114_116.out _;(with_reducible repeat (first|refine blk_drewN ?_ _|refine blk_drew ?_|refine blk_alloc ?_ _));refine blk_far ?_ NB114_116.out _;(with_reducible repeat (first|refine blk_drewN ?_ _|refine blk_drew ?_|refine blk_alloc ?_ _));refine blk_far ?_ NB114_116.out _;(with_reducible repeat (first|refine blk_drewN ?_ _|refine blk_drew ?_|refine blk_alloc ?_ _));refine blk_far ?_ NB114_116.out _;(with_reducible repeat (first|refine blk_drewN ?_ _|refine blk_drew ?_|refine blk_alloc ?_ _));exact BK114.out) hb);have n5_:=Aside0.mk (blk_below (g:=gb116) (o:=.cells #[.int .i64 ((rd_T46 l0_2 x14_1).f0),.int .i64 ((rd_T46 l0_2 x14_1).f1),.slice A115_2 ((rd_T46 l0_2 x14_1).f2).length c115_2,.int .i64 ((rd_T46 l0_2 x14_1).f3),.int .i64 ((rd_T46 l0_2 x14_1).f4),.int .i64 ((rd_T46 l0_2 x14_1).f5)] 46 (0,0)) (by (with_reducible repeat (first|refine blk_drewN ?_ _|refine blk_drew ?_|refine blk_alloc ?_ _));refine blk_put (cs:=#[.int .i64 ((rd_T46 l0_2 x14_1).f0),.int .i64 ((rd_T46 l0_2 x14_1).f1),.slice A115_2 ((rd_T46 l0_2 x14_1).f2).length c115_2,.int .i64 ((rd_T46 l0_2 x14_1).f3),.int .i64 ((rd_T46 l0_2 x14_1).f4),.int .i64 0]) ?_ 5 _ rfl;(with_reducible repeat (first|refine blk_drewN ?_ _|refine blk_drew ?_|refine blk_alloc ?_ _));refine blk_put (cs:=#[.int .i64 ((rd_T46 l0_2 x14_1).f0),.int .i64 ((rd_T46 l0_2 x14_1).f1),.slice A115_2 ((rd_T46 l0_2 x14_1).f2).length c115_2,.int .i64 ((rd_T46 l0_2 x14_1).f3),.int .i64 0,.int .i64 0]) ?_ 4 _ rfl;(with_reducible repeat (first|refine blk_drewN ?_ _|refine blk_drew ?_|refine blk_alloc ?_ _));refine blk_put (cs:=#[.int .i64 ((rd_T46 l0_2 x14_1).f0),.int .i64 ((rd_T46 l0_2 x14_1).f1),.slice A115_2 ((rd_T46 l0_2 x14_1).f2).length c115_2,.int .i64 0,.int .i64 0,.int .i64 0]) ?_ 3 _ rfl;(with_reducible repeat (first|refine blk_drewN ?_ _|refine blk_drew ?_|refine blk_alloc ?_ _));refine blk_put (cs:=#[.int .i64 ((rd_T46 l0_2 x14_1).f0),.int .i64 ((rd_T46 l0_2 x14_1).f1),.slice none 0 0,.int .i64 0,.int .i64 0,.int .i64 0]) ?_ 2 _ rfl;(with_reducible repeat (first|refine blk_drewN ?_ _|refine blk_drew ?_|refine blk_alloc ?_ _));refine blk_put (cs:=#[.int .i64 ((rd_T46 l0_2 x14_1).f0),.int .i64 0,.slice none 0 0,.int .i64 0,.int .i64 0,.int .i64 0]) ?_ 1 _ rfl;(with_reducible repeat (first|refine blk_drewN ?_ _|refine blk_drew ?_|refine blk_alloc ?_ _));refine blk_put (cs:=#[.int .i64 0,.int .i64 0,.slice none 0 0,.int .i64 0,.int .i64 0,.int .i64 0]) ?_ 0 _ rfl;(with_reducible repeat (first|refine blk_drewN ?_ _|refine blk_drew ?_|refine blk_alloc ?_ _));exact BK116.out) hb);have n6_:=Aside0.mk (below_step (by repeat (first|(with_reducible first|exact HB.out|apply below_alloc|apply pw_below_drewN|apply below_drew1|refine below_set ?_ GE112.out|refine below_set ?_ GE113.out|refine below_set ?_ GE114.out|refine below_set ?_ GE116.out)|exact HB.out)) hb);clear HO_115002;clear BK112;clear BK113;clear BK114;clear BK116;clear HB;have HO_115002:=n0_;have HO119:=n1_;have BK112:=n2_;have BK113:=n3_;have BK114:=n4_;have BK116:=n5_;have HB:=n6_;clear n0_ n1_ n2_ n3_ n4_ n5_ n6_;(try clear hb);(try clear hb2);(try clear hk);(try clear hi);(try clear ho0);obtain ⟨Ao22,co22,eo22⟩:=Kd.R_slice HO119.out;subst eo22;have hcz23_0 : w21.cell? ⟨gb116,0,none⟩=some (.int .i64 ((rd_T46 l0_2 x14_1).f0)):=(blk_cell BK116.out 0).trans rfl;have hcz23_1 : w21.cell? ⟨gb116,1,none⟩=some (.int .i64 ((rd_T46 l0_2 x14_1).f1)):=(blk_cell BK116.out 1).trans rfl;have hcz23_2 : w21.cell? ⟨gb116,2,none⟩=some (.slice A115_2 ((rd_T46 l0_2 x14_1).f2).length c115_2):=(blk_cell BK116.out 2).trans rfl;have hcz23_3 : w21.cell? ⟨gb116,3,none⟩=some (.int .i64 ((rd_T46 l0_2 x14_1).f3)):=(blk_cell BK116.out 3).trans rfl;have hcz23_4 : w21.cell? ⟨gb116,4,none⟩=some (.int .i64 ((rd_T46 l0_2 x14_1).f4)):=(blk_cell BK116.out 4).trans rfl;have hcz23_5 : w21.cell? ⟨gb116,5,none⟩=some (.int .i64 ((rd_T46 l0_2 x14_1).f5)):=(blk_cell BK116.out 5).trans rfl;have hfz23_0:=blk_frozen BK116.out 0;have hfz23_1:=blk_frozen BK116.out 1;have hfz23_2:=blk_frozen BK116.out 2;have hfz23_3:=blk_frozen BK116.out 3;have hfz23_4:=blk_frozen BK116.out 4;have hfz23_5:=blk_frozen BK116.out 5)|((with_reducible refine gate_store (t:=37) (p:=21) rfl ?_);refine store_event (t:=37) (p:=21) (v:=?vo_w24) (w1:=(w21.setCell ⟨gb116,2,none⟩ (.slice Ao22 t117.length co22))) ?hg ?ho ?hn ?hr ?_;(case ho => rfl);(case hg => rfl);(case hn => rfl);(case hr => first|(go_simp;done)|(go_simp;rfl));intro w24 hw;have n0_ : Aside0 (Kd.S k46 46 w24 w.heap.size (fun k_ => some k_≠(.slice Ao22 t117.length co22 : Value).ownBlock∧k_≠gb116) u115002 x115002_1):=⟨(by rw [hw];exact (by (with_reducible repeat (first|apply Kd.S_alloc|apply Kd.S_drewN|apply Kd.S_drew));exact Kd.S_mono (Kd.S_far (p:=⟨gb116,2,none⟩) (Kd.S_mono HO_115002.out (fun k_ hk => (⟨hk,hk.1.2⟩ : _∧k_≠gb116))) (fun _ hk => hk.2) (.slice Ao22 t117.length co22)) (fun _ hk => ⟨hk.1.2,hk.1.1.2⟩)))⟩;have n1_ : Aside0 (Kd.R (Kd.int .i64) 3 w24 w.heap.size (fun _ => True) (.slice Ao22 t117.length co22) t117):=⟨(by rw [hw];exact (by (with_reducible repeat (first|apply Kd.R_alloc|apply Kd.R_drewN|apply Kd.R_drew));exact Kd.R_mono (Kd.R_far (p:=⟨gb116,2,none⟩) (Kd.R_types HO119.out BK116.out (by decide)) (fun _ hk => hk.2) (.slice Ao22 t117.length co22)) (fun _ hk => trivial)))⟩;have n2_ : Aside0 (w24.heap[gb112]?=some (.cells #[.int .i64 a0_0,.int .i64 a0_1,.slice (some ad115) l0_2.length c0_2] 24 (0,0))):=⟨(by rw [hw];exact (by (with_reducible repeat (first|refine blk_drewN ?_ _|refine blk_drew ?_|refine blk_alloc ?_ _));refine blk_far ?_ NB112_116.out _;(with_reducible repeat (first|refine blk_drewN ?_ _|refine blk_drew ?_|refine blk_alloc ?_ _));exact BK112.out))⟩;have n3_ : Aside0 (w24.heap[gb113]?=some (.cells #[.int .i64 0,.int .i64 0,.slice none 0 0] 24 (0,0))):=⟨(by rw [hw];exact (by (with_reducible repeat (first|refine blk_drewN ?_ _|refine blk_drew ?_|refine blk_alloc ?_ _));refine blk_far ?_ NB113_116.out _;(with_reducible repeat (first|refine blk_drewN ?_ _|refine blk_drew ?_|refine blk_alloc ?_ _));exact BK113.out))⟩;have n4_ : Aside0 (w24.heap[gb114]?=some (.cells #[.int .i64 a0_0,.int .i64 a0_1,u115002] 24 (0,0))):=⟨(by rw [hw];exact (by (with_reducible repeat (first|refine blk_drewN ?_ _|refine blk_drew ?_|refine blk_alloc ?_ _));refine blk_far ?_ NB114_116.out _;(with_reducible repeat (first|refine blk_drewN ?_ _|refine blk_drew ?_|refine blk_alloc ?_ _));exact BK114.out))⟩;have n5_ : Aside0 (w24.heap[gb116]?=some (.cells #[.int .i64 ((rd_T46 l0_2 x14_1).f0),.int .i64 ((rd_T46 l0_2 x14_1).f1),.slice Ao22 t117.length co22,.int .i64 ((rd_T46 l0_2 x14_1).f3),.int .i64 ((rd_T46 l0_2 x14_1).f4),.int .i64 ((rd_T46 l0_2 x14_1).f5)] 46 (0,0))):=⟨(by rw [hw];exact (by (with_reducible repeat (first|refine blk_drewN ?_ _|refine blk_drew ?_|refine blk_alloc ?_ _));refine blk_put (cs:=#[.int .i64 ((rd_T46 l0_2 x14_1).f0),.int .i64 ((rd_T46 l0_2 x14_1).f1),.slice A115_2 ((rd_T46 l0_2 x14_1).f2).length c115_2,.int .i64 ((rd_T46 l0_2 x14_1).f3),.int .i64 ((rd_T46 l0_2 x14_1).f4),.int .i64 ((rd_T46 l0_2 x14_1).f5)]) ?_ 2 _ rfl;(with_reducible repeat (first|refine blk_drewN ?_ _|refine blk_drew ?_|refine blk_alloc ?_ _));exact BK116.out))⟩;have n6_ : Aside0 (Below w.heap.size w w24):=⟨(by rw [hw];exact (by repeat (first|(with_reducible first|exact HB.out|apply below_alloc|apply pw_below_drewN|apply below_drew1|refine below_set ?_ GE112.out|refine below_set ?_ GE113.out|refine below_set ?_ GE114.out|refine below_set ?_ GE116.out)|exact HB.out)))⟩;clear hw;clear HO_115002;clear HO119;clear BK112;clear BK113;clear BK114;clear BK116;clear HB;have HO_115002:=n0_;have HO119:=n1_;have BK112:=n2_;have BK113:=n3_;have BK114:=n4_;have BK116:=n5_;have HB:=n6_;clear n0_ n1_ n2_ n3_ n4_ n5_ n6_;have hnb25:=NB114_112.out;have hnc25:=NB112_114.out;have hnb26:=NB114_113.out;have hnc26:=NB113_114.out;have hcz27_0 : w24.cell? ⟨gb114,0,none⟩=some (.int .i64 a0_0):=(blk_cell BK114.out 0).trans rfl;have hcz27_1 : w24.cell? ⟨gb114,1,none⟩=some (.int .i64 a0_1):=(blk_cell BK114.out 1).trans rfl;have hcz27_2 : w24.cell? ⟨gb114,2,none⟩=some (u115002):=(blk_cell BK114.out 2).trans rfl;have hfz27_0:=blk_frozen BK114.out 0;have hfz27_1:=blk_frozen BK114.out 1;have hfz27_2:=blk_frozen BK114.out 2;have hcz28_0 : w24.cell? ⟨gb116,0,none⟩=some (.int .i64 ((rd_T46 l0_2 x14_1).f0)):=(blk_cell BK116.out 0).trans rfl;have hcz28_1 : w24.cell? ⟨gb116,1,none⟩=some (.int .i64 ((rd_T46 l0_2 x14_1).f1)):=(blk_cell BK116.out 1).trans rfl;have hcz28_2 : w24.cell? ⟨gb116,2,none⟩=some (.slice Ao22 t117.length co22):=(blk_cell BK116.out 2).trans rfl;have hcz28_3 : w24.cell? ⟨gb116,3,none⟩=some (.int .i64 ((rd_T46 l0_2 x14_1).f3)):=(blk_cell BK116.out 3).trans rfl;have hcz28_4 : w24.cell? ⟨gb116,4,none⟩=some (.int .i64 ((rd_T46 l0_2 x14_1).f4)):=(blk_cell BK116.out 4).trans rfl;have hcz28_5 : w24.cell? ⟨gb116,5,none⟩=some (.int .i64 ((rd_T46 l0_2 x14_1).f5)):=(blk_cell BK116.out 5).trans rfl;have hfz28_0:=blk_frozen BK116.out 0;have hfz28_1:=blk_frozen BK116.out 1;have hfz28_2:=blk_frozen BK116.out 2;have hfz28_3:=blk_frozen BK116.out 3;have hfz28_4:=blk_frozen BK116.out 4;have hfz28_5:=blk_frozen BK116.out 5)|((with_reducible refine gate_builtin (b:=.append) (xs:=#[.tmp 23,.tmp 25]) rfl ?_);at_builtin;refine Kd.S_append k46 (w0:=w) w.heap.size rfl (.tmp 23) (.tmp 25) 22 46 (.agg #[(.int .i64 0),(.int .i64 0),(.slice none 0 0),(.int .i64 0),(.int .i64 0),(.int .i64 0)]) 64 rfl Try.underlying22 info46 rfl (by decide) (by omega) u115002 x115002_1 (⟨(rd_T46 l0_2 x14_1).f0,(rd_T46 l0_2 x14_1).f1,t117,(rd_T46 l0_2 x14_1).f3,(rd_T46 l0_2 x14_1).f4,(rd_T46 l0_2 x14_1).f5⟩ : S46) [.int .i64 ((rd_T46 l0_2 x14_1).f0),.int .i64 ((rd_T46 l0_2 x14_1).f1),.slice Ao22 t117.length co22,.int .i64 ((rd_T46 l0_2 x14_1).f3),.int .i64 ((rd_T46 l0_2 x14_1).f4),.int .i64 ((rd_T46 l0_2 x14_1).f5)] (fun k_ => k_≠gb116) (fun k_ => some k_=(.slice Ao22 t117.length co22 : Value).ownBlock) rfl rfl ?aP (fun k_ hk_ => ((Kd.R_mono (ok':=fun k_ => ((fun k_ => k_≠gb116)) k_∧some k_≠(u115002 : Value).ownBlock) (Kd.R_types (Kd.R_apart' (HO119.out) (Kd.S_typed HO_115002.out) (by decide)) BK116.out (by decide)) (fun k_ hk => ⟨hk.2,hk.1.2⟩))).1 k_ hk_.symm) ?aF ?aO ?aB ?aS ?aL ?_;(case aP => exact k46_mkM _ _ _ (⟨(rd_T46 l0_2 x14_1).f0,(rd_T46 l0_2 x14_1).f1,t117,(rd_T46 l0_2 x14_1).f3,(rd_T46 l0_2 x14_1).f4,(rd_T46 l0_2 x14_1).f5⟩ : S46) (Kd.R_mono (Kd.R_tight rfl (Kd.R_mono (ok':=fun k_ => ((fun k_ => k_≠gb116)) k_∧some k_≠(u115002 : Value).ownBlock) (Kd.R_types (Kd.R_apart' (HO119.out) (Kd.S_typed HO_115002.out) (by decide)) BK116.out (by decide)) (fun k_ hk => ⟨hk.2,hk.1.2⟩))) (fun _ h_ => h_)));(case aB => exact (by repeat (first|(with_reducible first|exact HB.out|apply below_alloc|apply pw_below_drewN|apply below_drew1|refine below_set ?_ GE112.out|refine below_set ?_ GE113.out|refine below_set ?_ GE114.out|refine below_set ?_ GE116.out)|exact HB.out)));(case aF => exact (fun k_ hk => Kd.freshB (g:=gb116) (o:=.cells #[.int .i64 ((rd_T46 l0_2 x14_1).f0),.int .i64 ((rd_T46 l0_2 x14_1).f1),.slice Ao22 t117.length co22,.int .i64 ((rd_T46 l0_2 x14_1).f3),.int .i64 ((rd_T46 l0_2 x14_1).f4),.int .i64 ((rd_T46 l0_2 x14_1).f5)] 46 (0,0)) (by (with_reducible repeat (first|refine blk_drewN ?_ _|refine blk_drew ?_|refine blk_alloc ?_ _));exact BK116.out) k_ hk));(case aO => exact (by (with_reducible repeat (first|apply Kd.S_alloc|apply Kd.S_drewN|apply Kd.S_drew));exact Kd.S_mono HO_115002.out (fun k_ hk => ⟨hk.2,fun e_ => hk.1 e_⟩)));(case aS => exact (below_size (by repeat (first|(with_reducible first|exact HB.out|apply below_alloc|apply pw_below_drewN|apply below_drew1|refine below_set ?_ GE112.out|refine below_set ?_ GE113.out|refine below_set ?_ GE114.out|refine below_set ?_ GE116.out)|exact HB.out))));(case aL => have:=LMc15.out;omega);intro v121 w29 ho hb hg hat;rw [← Ny120.out] at ho;have n0_:=Aside0.mk (blk_grown (g:=gb112) (o:=.cells #[.int .i64 a0_0,.int .i64 a0_1,.slice (some ad115) l0_2.length c0_2] 24 (0,0)) (by (with_reducible repeat (first|refine blk_drewN ?_ _|refine blk_drew ?_|refine blk_alloc ?_ _));exact BK112.out) hg (Kd.S_ne HO_115002.out BK112.out (by decide)));have n1_:=Aside0.mk (blk_grown (g:=gb113) (o:=.cells #[.int .i64 0,.int .i64 0,.slice none 0 0] 24 (0,0)) (by (with_reducible repeat (first|refine blk_drewN ?_ _|refine blk_drew ?_|refine blk_alloc ?_ _));exact BK113.out) hg (Kd.S_ne HO_115002.out BK113.out (by decide)));have n2_:=Aside0.mk (blk_grown (g:=gb114) (o:=.cells #[.int .i64 a0_0,.int .i64 a0_1,u115002] 24 (0,0)) (by (with_reducible repeat (first|refine blk_drewN ?_ _|refine blk_drew ?_|refine blk_alloc ?_ _));exact BK114.out) hg (Kd.S_ne HO_115002.out BK114.out (by decide)));have n3_:=Aside0.mk (blk_grown (g:=gb116) (o:=.cells #[.int .i64 ((rd_T46 l0_2 x14_1).f0),.int .i64 ((rd_T46 l0_2 x14_1).f1),.slice Ao22 t117.length co22,.int .i64 ((rd_T46 l0_2 x14_1).f3),.int .i64 ((rd_T46 l0_2 x14_1).f4),.int .i64 ((rd_T46 l0_2 x14_1).f5)] 46 (0,0)) (by (with_reducible repeat (first|refine blk_drewN ?_ _|refine blk_drew ?_|refine blk_alloc ?_ _));exact BK116.out) hg (Kd.S_away HO_115002.out (fun _ hk => hk.2)));have n4_:=Aside0.mk (hb);have n5_:=Aside0.mk (ho);clear BK112;clear BK113;clear BK114;clear BK116;clear HB;clear HO_115002;clear HO119;have BK112:=n0_;have BK113:=n1_;have BK114:=n2_;have BK116:=n3_;have HB:=n4_;have HO122:=n5_;clear n0_ n1_ n2_ n3_ n4_ n5_;clear ho hb hg hat;obtain ⟨Ao30,co30,eo30⟩:=Kd.S_slice HO122.out;subst eo30;have hcz31_0 : w29.cell? ⟨gb114,0,none⟩=some (.int .i64 a0_0):=(blk_cell BK114.out 0).trans rfl;have hcz31_1 : w29.cell? ⟨gb114,1,none⟩=some (.int .i64 a0_1):=(blk_cell BK114.out 1).trans rfl;have hcz31_2 : w29.cell? ⟨gb114,2,none⟩=some (u115002):=(blk_cell BK114.out 2).trans rfl;have hfz31_0:=blk_frozen BK114.out 0;have hfz31_1:=blk_frozen BK114.out 1;have hfz31_2:=blk_frozen BK114.out 2))
       go_roundg k1
       case measure => have:=HK1.out;omega
       case rel => exact ⟨(wrap64 (x14_1 + 1)),(y120),(.slice Ao30 y120.length co30),(by first|rfl|(simp;done)|(simp [*];done)),H',⟨by have:=HK1.out;omega⟩,⟨by (with_reducible repeat (first|apply Kd.S_alloc|apply Kd.S_drewN|apply Kd.S_drew));exact Kd.S_mono (Kd.S_far (p:=⟨gb114,2,none⟩) (Kd.S_types HO122.out BK114.out (by decide)) (fun _ hk => hk.2) (.slice Ao30 y120.length co30)) (fun _ hk => trivial)⟩,⟨by (with_reducible repeat (first|refine blk_drewN ?_ _|refine blk_drew ?_|refine blk_alloc ?_ _));refine blk_far ?_ NB112_114.out _;(with_reducible repeat (first|refine blk_drewN ?_ _|refine blk_drew ?_|refine blk_alloc ?_ _));exact BK112.out⟩,⟨by (with_reducible repeat (first|refine blk_drewN ?_ _|refine blk_drew ?_|refine blk_alloc ?_ _));refine blk_far ?_ NB113_114.out _;(with_reducible repeat (first|refine blk_drewN ?_ _|refine blk_drew ?_|refine blk_alloc ?_ _));exact BK113.out⟩,⟨by (with_reducible repeat (first|refine blk_drewN ?_ _|refine blk_drew ?_|refine blk_alloc ?_ _));refine blk_put (cs:=#[.int .i64 a0_0,.int .i64 a0_1,u115002]) ?_ 2 _ rfl;(with_reducible repeat (first|refine blk_drewN ?_ _|refine blk_drew ?_|refine blk_alloc ?_ _));exact BK114.out⟩,⟨by repeat (first|(with_reducible first|exact HB.out|apply below_alloc|apply pw_below_drewN|apply below_drew1|refine below_set ?_ GE112.out|refine below_set ?_ GE113.out|refine below_set ?_ GE114.out|refine below_set ?_ GE116.out)|exact HB.out)⟩⟩
      ·rw [if_neg c15] at H
       exact absurd H (by simp)
     ·rw [if_neg c13] at H
      exact absurd H (by simp)
    ·rw [if_neg c12] at H
     exact absurd H (by simp)
   ·rw [if_neg c11] at H
    have c11b0 : decide (x14_1 < (l0_2.length : Int))=false:=decide_eq_false c11
    clear c11
    simp only [Option.some.injEq,Prod.mk.injEq] at H
    obtain ⟨rfl,rfl,rfl⟩:=H
    have hnb32:=NB114_112.out
    have hnc32:=NB112_114.out
    have hnb33:=NB114_113.out
    have hnc33:=NB113_114.out
    have hcz34_0 : wr.cell? ⟨gb114,0,none⟩=some (.int .i64 a0_0):=(blk_cell BK114.out 0).trans rfl
    have hcz34_1 : wr.cell? ⟨gb114,1,none⟩=some (.int .i64 a0_1):=(blk_cell BK114.out 1).trans rfl
    have hcz34_2 : wr.cell? ⟨gb114,2,none⟩=some (u115002):=(blk_cell BK114.out 2).trans rfl
    have hfz34_0:=blk_frozen BK114.out 0
    have hfz34_1:=blk_frozen BK114.out 1
    have hfz34_2:=blk_frozen BK114.out 2
    have hnb35:=NB113_112.out
    have hnc35:=NB112_113.out
    have hcz36_0 : wr.cell? ⟨gb113,0,none⟩=some (.int .i64 0):=(blk_cell BK113.out 0).trans rfl
    have hcz36_1 : wr.cell? ⟨gb113,1,none⟩=some (.int .i64 0):=(blk_cell BK113.out 1).trans rfl
    have hcz36_2 : wr.cell? ⟨gb113,2,none⟩=some (.slice none 0 0):=(blk_cell BK113.out 2).trans rfl
    have hfz36_0:=blk_frozen BK113.out 0
    have hfz36_1:=blk_frozen BK113.out 1
    have hfz36_2:=blk_frozen BK113.out 2
    obtain ⟨Ao37,co37,eo37⟩:=Kd.S_slice HO_115002.out
    subst eo37
    go_wp2
    refine bodyPost_ret (results_cell_row rfl _ _ gb113 24 #[.int .i64 a0_0,.int .i64 a0_1,.slice Ao37 x115002_1.length co37] (0,0) _ rfl (by (with_reducible repeat (first|refine blk_drewN ?_ _|refine blk_drew ?_|refine blk_alloc ?_ _));refine blk_put (cs:=#[.int .i64 a0_0,.int .i64 a0_1,.slice none 0 0]) ?_ 2 _ rfl;(with_reducible repeat (first|refine blk_drewN ?_ _|refine blk_drew ?_|refine blk_alloc ?_ _));refine blk_put (cs:=#[.int .i64 a0_0,.int .i64 0,.slice none 0 0]) ?_ 1 _ rfl;(with_reducible repeat (first|refine blk_drewN ?_ _|refine blk_drew ?_|refine blk_alloc ?_ _));refine blk_put (cs:=#[.int .i64 0,.int .i64 0,.slice none 0 0]) ?_ 0 _ rfl;(with_reducible repeat (first|refine blk_drewN ?_ _|refine blk_drew ?_|refine blk_alloc ?_ _));exact BK113.out) Try.underlying24 rfl (by kernel_rfl)) rfl ?_
    exact ⟨_,by first|rfl|(simp [errW_none,errW_some] <;> rfl)|(simp [*,errW_none,errW_some] <;> rfl),by (with_reducible repeat (first|apply Kd.S_alloc|apply Kd.S_drewN|apply Kd.S_drew));exact Kd.S_mono (Kd.S_far (p:=⟨gb113,2,none⟩) (Kd.S_far (p:=⟨gb113,1,none⟩) (Kd.S_far (p:=⟨gb113,0,none⟩) (Kd.S_types HO_115002.out BK113.out (by decide)) (fun _ hk => hk.2) (.int .i64 a0_0)) (fun _ hk => hk.2) (.int .i64 a0_1)) (fun _ hk => hk.2) (.slice Ao37 x115002_1.length co37)) (fun _ hk => trivial),by repeat (first|(with_reducible first|exact HB.out|apply below_alloc|apply pw_below_drewN|apply below_drew1|refine below_set ?_ GE112.out|refine below_set ?_ GE113.out|refine below_set ?_ GE114.out)|exact HB.out)⟩
end Go.Proofs.Ytbelnopbggkdfaa.Q
end

section
namespace Go.Proofs.Ytbelnopbggkdfaa.Q
open Go.RowKit Go.Proofs.YtbelnopbggkdfaaW.PrintWords Go.Proofs.YtbelnopbggkdfaaW.PrintLast Go.Proofs.YtbelnopbggkdfaaW.PrintMore
attribute [local go_sem] max2_int min2_int max_two min_two max_three min_three max_four min_four   -- for this text's walks alone
set_option linter.unusedVariables false
set_option linter.unusedSimpArgs false
def layers_only.l0 : Nat→List (S46)→List Int→Int→Int→Int→Int→List (S46)→Option (Int × Int × (List (S46)))
 | 0,_,_,_,_,_,_,_ => none
 | k + 1,x6,x11,x12,x13,x508000,x508001,x508002 => if x13 < x12 then (if 0≤x13 then (if x13 < (x11.length : Int) then (if 0≤(rd x11 x13) then (if (rd x11 x13) < (x508002.length : Int) then (if x6.length < 2199023255552 then (layers_only.l0 k (x6 ++ [(⟨(rd_T46 x508002 (rd x11 x13)).f0,(rd_T46 x508002 (rd x11 x13)).f1,(rd_T46 x508002 (rd x11 x13)).f2,(rd_T46 x508002 (rd x11 x13)).f3,(rd_T46 x508002 (rd x11 x13)).f4,(rd_T46 x508002 (rd x11 x13)).f5⟩ : S46)]) x11 x12 (wrap64 (x13 + 1)) x508000 x508001 x508002) else (none)) else (none)) else (none)) else (none)) else (none)) else (some (x508000,x508001,x6))
def layers_only.f (k : Nat) (a0_0 : Int) (a0_1 : Int) (l0_2 : List (S46)) (l1 : List Int) : Option (Int × Int × (List (S46))):=(circuit_Copy.f k a0_0 a0_1 l0_2).bind fun bt502 => (layers_only.l0 k ([] : List (S46)) l1 (l1.length : Int) 0 bt502.1 bt502.2.1 bt502.2.2)
end Go.Proofs.Ytbelnopbggkdfaa.Q
end

section
namespace Go.Proofs.Ytbelnopbggkdfaa.Q
open Go.RowKit Go.Proofs.YtbelnopbggkdfaaW.PrintWords Go.Proofs.YtbelnopbggkdfaaW.PrintLast Go.Proofs.YtbelnopbggkdfaaW.PrintMore
def upTo (n : Nat) : List Int:=(List.range n).map fun (i : Nat) => (i : Int)
def layers_Sorted.f (k : Nat) (a0 a1 : Int) (l : List S46) : Option (Int × Int × List S46 × Int) :=
  (layers_Early.f k a0 a1 l).bind fun t => if t.2=0 then
    (if l.length=t.1.length∧l.length < 2199023255552∧(t.1.all fun x => decide (0≤x∧x≤1152921504606846976))=true then (layers_only.f k a0 a1 l (sortO (skey l t.1) (upTo t.1.length))).bind fun r => some (r.1,r.2.1,r.2.2,0) else none)
    else some (0,0,[],t.2)
theorem upTo_len (n : Nat) : (upTo n).length=n:=by simp [upTo]
theorem upTo_succ (n : Nat) : upTo (n + 1)=upTo n ++ [(n : Int)]:=by simp [upTo,List.range_succ]
end Go.Proofs.Ytbelnopbggkdfaa.Q
end

section
namespace Go.Proofs.Ytbelnopbggkdfaa.Q
open Go.RowKit Go.Proofs.YtbelnopbggkdfaaW.PrintWords Go.Proofs.YtbelnopbggkdfaaW.PrintLast Go.Proofs.YtbelnopbggkdfaaW.PrintMore
theorem early_no {q b : Int} {l : List Opn} (hw : WfL l) (h : okc q b l=false) : Evt fun k => layers_Early.f k q b l=some ([],80) :=
  (checked_is (q:=q) (b:=b) hw).mono fun k hk => by
    unfold layers_Early.f
    rw [hk,h]
    rfl
theorem Early_is {q b : Int} {l : List Opn} (hw : WfL l) (h : CircF q b l) : ∃ E,(Evt fun k => layers_Early.f k q b l=some (E,0))∧E.length=l.length∧(∀ x ∈ E,0≤x∧x≤l.length)∧EarlyP l.length (at_ l) (nth E):=by
  obtain ⟨r,h1,h2,h3,h4⟩:=early_is h
  refine ⟨r,(checked_is (q:=q) (b:=b) hw).mono fun k hk => ?_,h2,h3,h4⟩
  have hn:=h.n
  unfold layers_Early.f layers_early.f
  rw [hk,h.okc,if_pos (show l.length < 2199023255552 by omega),h1]
  rfl
theorem maxTo_lub {l : List Int} (h0 : ∀ x ∈ l,0≤x) : ∀ c,c < l.length→Lub (fun x => ∃ i,i≤c∧x=nth l i) (maxTo l c)
  | 0,hc => by
    have e : maxTo l 0=nth l 0:=rd_nth l 0
    rw [e]
    refine ⟨?_,?_,.inr ⟨0,Nat.le_refl _,rfl⟩⟩
    · rintro x ⟨i,hi,rfl⟩
      obtain rfl : i=0:=by omega
      exact Int.le_refl _
    · rw [nth_get hc];exact h0 _ (List.getElem_mem _)
  | c + 1,hc => by
    have e : maxTo l (c + 1)=mx (maxTo l c) (nth l (c + 1)):=by
      show mx (maxTo l c) (rd l ((c : Int) + 1))=_
      rw [show (c : Int) + 1=((c + 1 : Nat) : Int) by omega,rd_nth]
    rw [e]
    have h1:=maxTo_lub h0 c (by omega)
    have h2 : Lub (fun x => x=nth l (c + 1)) (nth l (c + 1)):=⟨fun x hx => by omega,by rw [nth_get hc];exact h0 _ (List.getElem_mem _),.inr rfl⟩
    refine (h1.or h2).congr fun x => ?_
    constructor
    · rintro (⟨i,hi,rfl⟩|rfl)
      · exact ⟨i,by omega,rfl⟩
      · exact ⟨c + 1,by omega,rfl⟩
    · rintro ⟨i,hi,rfl⟩
      by_cases hic : i≤c
      · exact .inl ⟨i,hic,rfl⟩
      · obtain rfl : i=c + 1:=by omega
        exact .inr rfl
theorem depth_no {q b : Int} {l : List Opn} (hw : WfL l) (h : okc q b l=false) : Evt fun k => layers_Depth.f k q b l=some (0,80) :=
  (early_no (q:=q) (b:=b) hw h).mono fun k hk => by
    unfold layers_Depth.f
    rw [hk]
    rfl
theorem Depth_is {q b : Int} {l : List Opn} {E : List Int} (hE : Evt fun k => layers_Early.f k q b l=some (E,0)) (hl : E.length=l.length) (h0 : ∀ x ∈ E,0≤x∧x≤l.length) :
    ∃ D,(Evt fun k => layers_Depth.f k q b l=some (D,0))∧0≤D∧D≤l.length∧Lub (fun x => ∃ i,i < l.length∧x=nth E i) D:=by
  by_cases hn : E=[]
  · subst hn
    refine ⟨0,hE.mono fun k hk => ?_,Int.le_refl _,by omega,Lub.none ?_⟩
    · unfold layers_Depth.f
      rw [hk]
      rfl
    · rintro x ⟨i,hi,_⟩
      simp only [List.length_nil] at hl
      omega
  · have hp : 0 < E.length:=List.length_pos_iff.2 hn
    have h1:=maxTo_lub (fun x hx => (h0 x hx).1) (E.length - 1) (by omega)
    refine ⟨maxTo E (E.length - 1),hE.mono fun k hk => ?_,h1.2.1,?_,h1.congr fun x => ⟨fun ⟨i,a,c⟩ => ⟨i,by omega,c⟩,fun ⟨i,a,c⟩ => ⟨i,by omega,c⟩⟩⟩
    · unfold layers_Depth.f slices_Max_int_int.f
      rw [hk]
      simp only [Option.bind_some]
      rw [if_pos trivial,if_neg (by omega),if_neg (by omega)]
      rfl
    · rcases h1.2.2 with c | ⟨i,hi,c⟩
      · omega
      · rw [c,nth_get (by omega)];exact (h0 _ (List.getElem_mem _)).2
theorem clone_is {l : List Int} (h : l.length < 17592186044416) : slices_Clone_int_int.f l=some l:=by unfold slices_Clone_int_int.f;rw [if_pos h]
theorem copy_l0 {q b : Int} {l : List Opn} (hf : ∀ o ∈ l,o.f2.length≤64) (hn : l.length≤1000000) :
    ∀ (d i : Nat),l.length - i=d→i≤l.length→Evt fun k => circuit_Copy.l0 k l (l.length : Int) (i : Int) q b (l.take i)=some (q,b,l)
  | 0,i,hd,hi => by
    refine (Evt.all (p:=fun _ => True) fun _ => trivial).succ fun k _ => ?_
    unfold circuit_Copy.l0
    rw [if_neg (by omega),List.take_of_length_le (by omega)]
  | d + 1,i,hd,hi => by
    have hil : i < l.length:=by omega
    refine (copy_l0 (q:=q) (b:=b) hf hn d (i + 1) (by omega) (by omega)).succ fun k hk => ?_
    have h2:=hf _ (List.getElem_mem hil)
    unfold circuit_Copy.l0
    rw [if_pos (by omega),if_pos (by omega),if_pos (by omega),rdT_nat hil,clone_is (by omega)]
    simp only [Option.bind_some]
    rw [if_pos (by rw [List.length_take];omega),w64 (by omega) (by omega),show (i : Int) + 1=((i + 1 : Nat) : Int) by omega]
    have e : l.take i ++ [(⟨l[i].f0,l[i].f1,l[i].f2,l[i].f3,l[i].f4,l[i].f5⟩ : Opn)]=l.take (i + 1):=by
      rw [List.take_add_one,List.getElem?_eq_getElem hil];rfl
    rw [e,hk]
theorem copy_is {q b : Int} {l : List Opn} (hf : ∀ o ∈ l,o.f2.length≤64) (hn : l.length≤1000000) : Evt fun k => circuit_Copy.f k q b l=some (q,b,l) :=
  (copy_l0 hf hn l.length 0 (by omega) (by omega)).mono fun k hk => by simpa [circuit_Copy.f] using hk
theorem only_l0 {q b : Int} {l : List Opn} {ord : List Int} (ho : ∀ x ∈ ord,0≤x∧x < (l.length : Int)) (hn : ord.length≤1000000) :
    ∀ (d i : Nat),ord.length - i=d→i≤ord.length→Evt fun k => layers_only.l0 k ((ord.take i).map (rd_T46 l)) ord (ord.length : Int) (i : Int) q b l=some (q,b,ord.map (rd_T46 l))
  | 0,i,hd,hi => by
    refine (Evt.all (p:=fun _ => True) fun _ => trivial).succ fun k _ => ?_
    unfold layers_only.l0
    rw [if_neg (by omega),List.take_of_length_le (by omega)]
  | d + 1,i,hd,hi => by
    have hil : i < ord.length:=by omega
    refine (only_l0 (q:=q) (b:=b) ho hn d (i + 1) (by omega) (by omega)).succ fun k hk => ?_
    have h2:=ho _ (List.getElem_mem hil)
    unfold layers_only.l0
    rw [if_pos (by omega),if_pos (by omega),if_pos (by omega),rd_nat hil,if_pos h2.1,if_pos h2.2,if_pos (by rw [List.length_map,List.length_take];omega),w64 (by omega) (by omega),show (i : Int) + 1=((i + 1 : Nat) : Int) by omega]
    have e : (ord.take i).map (rd_T46 l) ++ [(⟨(rd_T46 l ord[i]).f0,(rd_T46 l ord[i]).f1,(rd_T46 l ord[i]).f2,(rd_T46 l ord[i]).f3,(rd_T46 l ord[i]).f4,(rd_T46 l ord[i]).f5⟩ : Opn)]=(ord.take (i + 1)).map (rd_T46 l):=by
      rw [List.take_add_one,List.getElem?_eq_getElem hil,List.map_append];rfl
    rw [e,hk]
theorem only_is {q b : Int} {l : List Opn} {ord : List Int} (hf : ∀ o ∈ l,o.f2.length≤64) (hl : l.length≤1000000) (ho : ∀ x ∈ ord,0≤x∧x < (l.length : Int)) (hn : ord.length≤1000000) :
    Evt fun k => layers_only.f k q b l ord=some (q,b,ord.map (rd_T46 l)) :=
  ((copy_is (q:=q) (b:=b) hf hl).and (only_l0 (q:=q) (b:=b) ho hn ord.length 0 (by omega) (by omega))).mono fun k ⟨h1,h2⟩ => by
    unfold layers_only.f
    rw [h1]
    simpa using h2
theorem mem_upTo {n : Nat} {x : Int} : x ∈ upTo n↔0≤x∧x < n:=by
  unfold upTo
  simp only [List.mem_map,List.mem_range]
  constructor
  · rintro ⟨i,hi,rfl⟩;omega
  · rintro ⟨h0,h1⟩;exact ⟨x.toNat,by omega,by omega⟩
theorem upTo_nodup (n : Nat) : (upTo n).Nodup:=by
  unfold upTo
  exact List.Pairwise.map _ (fun a b hab => by show (a : Int)≠b;omega) List.nodup_range
theorem sortO_mem {key : Int→Int} {n : Nat} {x : Int} : x ∈ sortO key (upTo n)↔0≤x∧x < n:=by
  rw [(sortO_perm key _).mem_iff,mem_upTo]
theorem sortO_len {key : Int→Int} {n : Nat} : (sortO key (upTo n)).length=n:=by rw [(sortO_perm key _).length_eq,upTo_len]
theorem Sorted_is {q b : Int} {l : List Opn} {E : List Int} (h : CircF q b l) (hE : Evt fun k => layers_Early.f k q b l=some (E,0)) (hl : E.length=l.length) (h0 : ∀ x ∈ E,0≤x∧x≤l.length) :
    Evt fun k => layers_Sorted.f k q b l=some (q,b,(sortO (skey l E) (upTo l.length)).map (rd_T46 l),0):=by
  have hn:=h.n
  refine (hE.and (only_is (q:=q) (b:=b) (l:=l) (ord:=sortO (skey l E) (upTo l.length)) (fun o ho => (h.op o ho).len) (by omega) (fun x hx => sortO_mem.1 hx) (by rw [sortO_len];omega))).mono fun k ⟨h1,h2⟩ => ?_
  unfold layers_Sorted.f
  rw [h1]
  simp only [Option.bind_some]
  rw [if_pos trivial,if_pos ⟨hl.symm,by omega,by
    simp only [List.all_eq_true,decide_eq_true_eq]
    intro x hx
    have:=h0 x hx
    omega⟩,hl,h2]
  rfl
end Go.Proofs.Ytbelnopbggkdfaa.Q
end

section
namespace Go.Proofs.Ytbelnopbggkdfaa.Q
open Go.RowKit Go.Proofs.YtbelnopbggkdfaaW.PrintWords Go.Proofs.YtbelnopbggkdfaaW.PrintLast Go.Proofs.YtbelnopbggkdfaaW.PrintMore
attribute [local go_sem] max2_int min2_int max_two min_two max_three min_three max_four min_four   -- for this text's walks alone
set_option linter.unusedVariables false
set_option linter.unusedSimpArgs false
def phasorref08_Copy.l0 : Nat→Int→Int→Int→List (S46)→Int→Int→List (S46)→Option (Int × Int × (List (S46)))
 | 0,_,_,_,_,_,_,_ => none
 | k + 1,x4,x102000,x102001,x102002,x104000,x104001,x104002 => if x4 < (x102002.length : Int) then (if 0≤x4 then (if ([] : List Int).length + ((rd_T46 x102002 x4).f2).length < 17592186044416 then (if x104002.length < 2199023255552 then (phasorref08_Copy.l0 k (wrap64 (x4 + 1)) x102000 x102001 x102002 x104000 x104001 (x104002 ++ [(⟨(rd_T46 x102002 x4).f0,(rd_T46 x102002 x4).f1,(([] : List Int) ++ ((rd_T46 x102002 x4).f2)),(rd_T46 x102002 x4).f3,(rd_T46 x102002 x4).f4,(rd_T46 x102002 x4).f5⟩ : S46)])) else (none)) else (none)) else (none)) else (some (x104000,x104001,x104002))
def phasorref08_Copy.f (k : Nat) (a0_0 : Int) (a0_1 : Int) (l0_2 : List (S46)) : Option (Int × Int × (List (S46))):=phasorref08_Copy.l0 k 0 a0_0 a0_1 l0_2 a0_0 a0_1 ([] : List (S46))
set_option maxHeartbeats 8000000 in
set_option maxRecDepth 100000 in
theorem phasorref08_Copy.calls (k : Nat) (a0_0 : Int) (a0_1 : Int) (A0_2 : Option Addr) (c0_2 : Nat) (l0_2 : List (S46)) (r1 : Int) (r2 : Int) (r3 : List (S46)) (w : World) (hr0_2 : Kd.C k46 w A0_2 l0_2.length l0_2) (hc0_2 : l0_2.length≤c0_2) (h : phasorref08_Copy.f k a0_0 a0_1 l0_2=some (r1,r2,r3)) :
  Calls Try.prog 7 #[.agg #[.int .i64 a0_0,.int .i64 a0_1,.slice A0_2 l0_2.length c0_2]] w fun e w' => ∃ v2_ : Value,e=.returned (.agg #[.int .i64 r1,.int .i64 r2,v2_])∧Kd.S k46 46 w' w.heap.size (fun _ => True) v2_ r3∧Below w.heap.size w w':=by
 have hu24:=Try.underlying24
 have hu46:=Try.underlying46
 have HR0_2:=Aside0.mk hr0_2
 have HC0_2:=Aside0.mk hc0_2
 clear hr0_2 hc0_2
 have HB:=Aside0.mk (Below.refl w.heap.size w)
 have H : (phasorref08_Copy.l0 k 0 a0_0 a0_1 l0_2 a0_0 a0_1 ([] : List (S46)))=some (r1,r2,r3):=h
 clear h
 have H':=Aside0.mk H
 clear H
 go_enter Try.func7,Try.ntmps7
 go_wp2_with (first|((with_reducible refine gate_dst (N:=1) rfl ?_);refine box_event ?hg (N:=1) ?hd (cs:=#[.int .i64 a0_0,.int .i64 a0_1,.slice A0_2 l0_2.length c0_2]) (t:=24) ?hr ?_;(case hd => rfl);(case hg => rfl);(case hr => first|(go_simp;done)|(go_simp;rfl));intro gb101 hg w2 hbox hb;have n0_:=Aside0.mk (below_step (by repeat (first|(with_reducible first|exact HB.out|apply below_alloc|apply pw_below_drewN|apply below_drew1)|exact HB.out)) hb);have n1_:=Aside0.mk (hbox);have n2_:=Aside0.mk ((by rw [hg];exact (below_size (by repeat (first|(with_reducible first|exact HB.out|apply below_alloc|apply pw_below_drewN|apply below_drew1)|exact HB.out))) : w.heap.size≤gb101));have n3_:=Aside0.mk ((by rw [hg];exact (below_size (by repeat (first|(with_reducible first|exact HB.out|apply below_alloc|apply pw_below_drewN|apply below_drew1)|exact HB.out))) : w.heap.size≤gb101));clear HB;have HB:=n0_;have BK101:=n1_;have GW101:=n2_;have GE101:=n3_;clear n0_ n1_ n2_ n3_;clear hb hbox hg)|((with_reducible refine gate_dst (N:=2) rfl ?_);refine box_event ?hg (N:=2) ?hd (cs:=#[.int .i64 0,.int .i64 0,.slice none 0 0]) (t:=24) ?hr ?_;(case hd => rfl);(case hg => rfl);(case hr => first|(go_simp;done)|(go_simp;rfl));intro gb102 hg w3 hbox hb;have n0_:=Aside0.mk (blk_below (g:=gb101) (o:=.cells #[.int .i64 a0_0,.int .i64 a0_1,.slice A0_2 l0_2.length c0_2] 24 (0,0)) (by (with_reducible repeat (first|refine blk_drewN ?_ _|refine blk_drew ?_|refine blk_alloc ?_ _));exact BK101.out) hb);have n1_:=Aside0.mk (below_step (by repeat (first|(with_reducible first|exact HB.out|apply below_alloc|apply pw_below_drewN|apply below_drew1|refine below_set ?_ GE101.out)|exact HB.out)) hb);have n2_:=Aside0.mk (hbox);have n3_:=Aside0.mk ((by rw [hg];exact (below_size (by repeat (first|(with_reducible first|exact HB.out|apply below_alloc|apply pw_below_drewN|apply below_drew1|refine below_set ?_ GE101.out)|exact HB.out))) : w.heap.size≤gb102));have n4_:=Aside0.mk ((by rw [hg];exact (below_size (by repeat (first|(with_reducible first|exact HB.out|apply below_alloc|apply pw_below_drewN|apply below_drew1|refine below_set ?_ GE101.out)|exact HB.out))) : w.heap.size≤gb102));have n5_:=Aside0.mk ((by rw [hg];exact Nat.ne_of_lt (blk_lt (g:=gb101) (o:=.cells #[.int .i64 a0_0,.int .i64 a0_1,.slice A0_2 l0_2.length c0_2] 24 (0,0)) (by (with_reducible repeat (first|refine blk_drewN ?_ _|refine blk_drew ?_|refine blk_alloc ?_ _));exact BK101.out)) : gb101≠gb102));have n6_:=Aside0.mk ((by rw [hg];exact Nat.ne_of_gt (blk_lt (g:=gb101) (o:=.cells #[.int .i64 a0_0,.int .i64 a0_1,.slice A0_2 l0_2.length c0_2] 24 (0,0)) (by (with_reducible repeat (first|refine blk_drewN ?_ _|refine blk_drew ?_|refine blk_alloc ?_ _));exact BK101.out)) : gb102≠gb101));clear BK101;clear HB;have BK101:=n0_;have HB:=n1_;have BK102:=n2_;have GW102:=n3_;have GE102:=n4_;have NB101_102:=n5_;have NB102_101:=n6_;clear n0_ n1_ n2_ n3_ n4_ n5_ n6_;clear hb hbox hg;have hnb4:=NB101_102.out;have hnc4:=NB102_101.out;have hcz5_0 : w3.cell? ⟨gb101,0,none⟩=some (.int .i64 a0_0):=(blk_cell BK101.out 0).trans rfl;have hcz5_1 : w3.cell? ⟨gb101,1,none⟩=some (.int .i64 a0_1):=(blk_cell BK101.out 1).trans rfl;have hcz5_2 : w3.cell? ⟨gb101,2,none⟩=some (.slice A0_2 l0_2.length c0_2):=(blk_cell BK101.out 2).trans rfl;have hfz5_0:=blk_frozen BK101.out 0;have hfz5_1:=blk_frozen BK101.out 1;have hfz5_2:=blk_frozen BK101.out 2)|((with_reducible refine gate_dst (N:=3) rfl ?_);refine box_event ?hg (N:=3) ?hd (cs:=#[.int .i64 0,.int .i64 0,.slice none 0 0]) (t:=24) ?hr ?_;(case hd => rfl);(case hg => rfl);(case hr => first|(go_simp;done)|(go_simp;rfl));intro gb103 hg w6 hbox hb;have n0_:=Aside0.mk (blk_below (g:=gb101) (o:=.cells #[.int .i64 a0_0,.int .i64 a0_1,.slice A0_2 l0_2.length c0_2] 24 (0,0)) (by (with_reducible repeat (first|refine blk_drewN ?_ _|refine blk_drew ?_|refine blk_alloc ?_ _));exact BK101.out) hb);have n1_:=Aside0.mk (blk_below (g:=gb102) (o:=.cells #[.int .i64 0,.int .i64 0,.slice none 0 0] 24 (0,0)) (by (with_reducible repeat (first|refine blk_drewN ?_ _|refine blk_drew ?_|refine blk_alloc ?_ _));exact BK102.out) hb);have n2_:=Aside0.mk (below_step (by repeat (first|(with_reducible first|exact HB.out|apply below_alloc|apply pw_below_drewN|apply below_drew1|refine below_set ?_ GE101.out|refine below_set ?_ GE102.out)|exact HB.out)) hb);have n3_:=Aside0.mk (hbox);have n4_:=Aside0.mk ((by rw [hg];exact (below_size (by repeat (first|(with_reducible first|exact HB.out|apply below_alloc|apply pw_below_drewN|apply below_drew1|refine below_set ?_ GE101.out|refine below_set ?_ GE102.out)|exact HB.out))) : w.heap.size≤gb103));have n5_:=Aside0.mk ((by rw [hg];exact (below_size (by repeat (first|(with_reducible first|exact HB.out|apply below_alloc|apply pw_below_drewN|apply below_drew1|refine below_set ?_ GE101.out|refine below_set ?_ GE102.out)|exact HB.out))) : w.heap.size≤gb103));have n6_:=Aside0.mk ((by rw [hg];exact Nat.ne_of_lt (blk_lt (g:=gb101) (o:=.cells #[.int .i64 a0_0,.int .i64 a0_1,.slice A0_2 l0_2.length c0_2] 24 (0,0)) (by (with_reducible repeat (first|refine blk_drewN ?_ _|refine blk_drew ?_|refine blk_alloc ?_ _));exact BK101.out)) : gb101≠gb103));have n7_:=Aside0.mk ((by rw [hg];exact Nat.ne_of_gt (blk_lt (g:=gb101) (o:=.cells #[.int .i64 a0_0,.int .i64 a0_1,.slice A0_2 l0_2.length c0_2] 24 (0,0)) (by (with_reducible repeat (first|refine blk_drewN ?_ _|refine blk_drew ?_|refine blk_alloc ?_ _));exact BK101.out)) : gb103≠gb101));have n8_:=Aside0.mk ((by rw [hg];exact Nat.ne_of_lt (blk_lt (g:=gb102) (o:=.cells #[.int .i64 0,.int .i64 0,.slice none 0 0] 24 (0,0)) (by (with_reducible repeat (first|refine blk_drewN ?_ _|refine blk_drew ?_|refine blk_alloc ?_ _));exact BK102.out)) : gb102≠gb103));have n9_:=Aside0.mk ((by rw [hg];exact Nat.ne_of_gt (blk_lt (g:=gb102) (o:=.cells #[.int .i64 0,.int .i64 0,.slice none 0 0] 24 (0,0)) (by (with_reducible repeat (first|refine blk_drewN ?_ _|refine blk_drew ?_|refine blk_alloc ?_ _));exact BK102.out)) : gb103≠gb102));clear BK101;clear BK102;clear HB;have BK101:=n0_;have BK102:=n1_;have HB:=n2_;have BK103:=n3_;have GW103:=n4_;have GE103:=n5_;have NB101_103:=n6_;have NB103_101:=n7_;have NB102_103:=n8_;have NB103_102:=n9_;clear n0_ n1_ n2_ n3_ n4_ n5_ n6_ n7_ n8_ n9_;clear hb hbox hg;have hnb7:=NB103_101.out;have hnc7:=NB101_103.out;have hnb8:=NB103_102.out;have hnc8:=NB102_103.out;have hcz9_0 : w6.cell? ⟨gb103,0,none⟩=some (.int .i64 0):=(blk_cell BK103.out 0).trans rfl;have hcz9_1 : w6.cell? ⟨gb103,1,none⟩=some (.int .i64 0):=(blk_cell BK103.out 1).trans rfl;have hcz9_2 : w6.cell? ⟨gb103,2,none⟩=some (.slice none 0 0):=(blk_cell BK103.out 2).trans rfl;have hfz9_0:=blk_frozen BK103.out 0;have hfz9_1:=blk_frozen BK103.out 1;have hfz9_2:=blk_frozen BK103.out 2))
 go_loopg [4] k (fun kq v4 w' => ∃ (x4_1 : Int) (x104002_1 : List (S46)) (u104002 : Value),v4=.int .i64 x4_1∧Aside0 (phasorref08_Copy.l0 kq x4_1 a0_0 a0_1 l0_2 a0_0 a0_1 x104002_1=some (r1,r2,r3))∧Aside0 (kq≤k)∧Aside0 (Kd.S k46 46 w' w.heap.size (fun _ => True) u104002 x104002_1)∧Aside0 (w'.heap[gb101]?=some (.cells #[.int .i64 a0_0,.int .i64 a0_1,(.slice A0_2 l0_2.length c0_2)] 24 (0,0)))∧Aside0 (w'.heap[gb102]?=some (.cells #[.int .i64 0,.int .i64 0,(.slice none 0 0)] 24 (0,0)))∧Aside0 (w'.heap[gb103]?=some (.cells #[.int .i64 a0_0,.int .i64 a0_1,u104002] 24 (0,0)))∧Aside0 (Below w.heap.size w w'))
 case atStart => exact ⟨(0),(([] : List (S46))),(.slice none 0 0),(by first|rfl|(simp;done)|(simp [*];done)),H',⟨Nat.le_refl _⟩,⟨by first|exact Kd.S_nil _ _ _ _ _|exact Kd.N_nil _ _ _ _ _|exact Kd.V_nil _ _ _ _ _|exact Kd.Q_nil _ _ _ _ _|exact Kd.R_nil _ _ _ _ _⟩,⟨by (with_reducible repeat (first|refine blk_drewN ?_ _|refine blk_drew ?_|refine blk_alloc ?_ _));refine blk_far ?_ NB101_103.out _;(with_reducible repeat (first|refine blk_drewN ?_ _|refine blk_drew ?_|refine blk_alloc ?_ _));refine blk_far ?_ NB101_103.out _;(with_reducible repeat (first|refine blk_drewN ?_ _|refine blk_drew ?_|refine blk_alloc ?_ _));refine blk_far ?_ NB101_103.out _;(with_reducible repeat (first|refine blk_drewN ?_ _|refine blk_drew ?_|refine blk_alloc ?_ _));exact BK101.out⟩,⟨by (with_reducible repeat (first|refine blk_drewN ?_ _|refine blk_drew ?_|refine blk_alloc ?_ _));refine blk_far ?_ NB102_103.out _;(with_reducible repeat (first|refine blk_drewN ?_ _|refine blk_drew ?_|refine blk_alloc ?_ _));refine blk_far ?_ NB102_103.out _;(with_reducible repeat (first|refine blk_drewN ?_ _|refine blk_drew ?_|refine blk_alloc ?_ _));refine blk_far ?_ NB102_103.out _;(with_reducible repeat (first|refine blk_drewN ?_ _|refine blk_drew ?_|refine blk_alloc ?_ _));exact BK102.out⟩,⟨by (with_reducible repeat (first|refine blk_drewN ?_ _|refine blk_drew ?_|refine blk_alloc ?_ _));refine blk_put (cs:=#[.int .i64 a0_0,.int .i64 a0_1,.slice none 0 0]) ?_ 2 _ rfl;(with_reducible repeat (first|refine blk_drewN ?_ _|refine blk_drew ?_|refine blk_alloc ?_ _));refine blk_put (cs:=#[.int .i64 a0_0,.int .i64 0,.slice none 0 0]) ?_ 1 _ rfl;(with_reducible repeat (first|refine blk_drewN ?_ _|refine blk_drew ?_|refine blk_alloc ?_ _));refine blk_put (cs:=#[.int .i64 0,.int .i64 0,.slice none 0 0]) ?_ 0 _ rfl;(with_reducible repeat (first|refine blk_drewN ?_ _|refine blk_drew ?_|refine blk_alloc ?_ _));exact BK103.out⟩,⟨by repeat (first|(with_reducible first|exact HB.out|apply below_alloc|apply pw_below_drewN|apply below_drew1|refine below_set ?_ GE101.out|refine below_set ?_ GE102.out|refine below_set ?_ GE103.out)|exact HB.out)⟩⟩
 case round =>
  clear H'
  try clear p2
  try clear c4
  try clear c7
  try clear c8
  try clear hcz5_0
  try clear hcz5_1
  try clear hcz5_2
  try clear hcz9_0
  try clear hcz9_1
  try clear hcz9_2
  try clear hfz5_0
  try clear hfz5_1
  try clear hfz5_2
  try clear hfz9_0
  try clear hfz9_1
  try clear hfz9_2
  obtain ⟨x4_1,x104002_1,u104002,rfl,HA,HK1,HO_104002,BK101,BK102,BK103,HB⟩:=hrel
  cases gk with
  | zero => exact absurd HA.out (by simp [phasorref08_Copy.l0])
  | succ k1 =>
   have H:=HA.out
   clear HA
   simp only [phasorref08_Copy.l0] at H
   by_cases c10 : x4_1 < (l0_2.length : Int)
   ·rw [if_pos c10] at H
    have c10b0 : decide (x4_1 < (l0_2.length : Int))=true:=decide_eq_true c10
    clear c10
    by_cases c11 : 0≤x4_1
    ·rw [if_pos c11] at H
     have c11b0 : decide (0≤x4_1)=true:=decide_eq_true c11
     clear c11
     by_cases c12 : ([] : List Int).length + ((rd_T46 l0_2 x4_1).f2).length < 17592186044416
     ·rw [if_pos c12] at H
      have LMc12:=Aside0.mk c12
      clear c12
      obtain ⟨y106,hy106⟩ : ∃ y_ : List Int,y_=(([] : List Int) ++ ((rd_T46 l0_2 x4_1).f2)):=⟨_,rfl⟩
      replace H : (if x104002_1.length < 2199023255552 then (phasorref08_Copy.l0 k1 (wrap64 (x4_1 + 1)) a0_0 a0_1 l0_2 a0_0 a0_1 (x104002_1 ++ [(⟨(rd_T46 l0_2 x4_1).f0,(rd_T46 l0_2 x4_1).f1,y106,(rd_T46 l0_2 x4_1).f3,(rd_T46 l0_2 x4_1).f4,(rd_T46 l0_2 x4_1).f5⟩ : S46)])) else (none))=some (r1,r2,r3):=by first|(rw [hy106];with_reducible exact H)|(have H2_:=(Option.bind_some _ _).symm.trans H;rw [hy106];with_reducible exact H2_)|(have H2_:=(Option.bind_some _ _).symm.trans H;with_reducible exact H2_)|with_reducible exact H|(rw [hy106];exact H)|exact H
      have Ny106:=Aside0.mk hy106
      clear hy106
      by_cases c13 : x104002_1.length < 2199023255552
      ·rw [if_pos c13] at H
       have LMc13:=Aside0.mk c13
       clear c13
       obtain ⟨y109,hy109⟩ : ∃ y_ : List (S46),y_=(x104002_1 ++ [(⟨(rd_T46 l0_2 x4_1).f0,(rd_T46 l0_2 x4_1).f1,y106,(rd_T46 l0_2 x4_1).f3,(rd_T46 l0_2 x4_1).f4,(rd_T46 l0_2 x4_1).f5⟩ : S46)]):=⟨_,rfl⟩
       replace H : (phasorref08_Copy.l0 k1 (wrap64 (x4_1 + 1)) a0_0 a0_1 l0_2 a0_0 a0_1 y109)=some (r1,r2,r3):=by first|(rw [hy109];with_reducible exact H)|(have H2_:=(Option.bind_some _ _).symm.trans H;rw [hy109];with_reducible exact H2_)|(have H2_:=(Option.bind_some _ _).symm.trans H;with_reducible exact H2_)|with_reducible exact H|(rw [hy109];exact H)|exact H
       have Ny109:=Aside0.mk hy109
       clear hy109
       have H':=Aside0.mk H
       clear H
       have hnb14:=NB101_102.out
       have hnc14:=NB102_101.out
       have hnb15:=NB101_103.out
       have hnc15:=NB103_101.out
       have hcz16_0 : wr.cell? ⟨gb101,0,none⟩=some (.int .i64 a0_0):=(blk_cell BK101.out 0).trans rfl
       have hcz16_1 : wr.cell? ⟨gb101,1,none⟩=some (.int .i64 a0_1):=(blk_cell BK101.out 1).trans rfl
       have hcz16_2 : wr.cell? ⟨gb101,2,none⟩=some (.slice A0_2 l0_2.length c0_2):=(blk_cell BK101.out 2).trans rfl
       have hfz16_0:=blk_frozen BK101.out 0
       have hfz16_1:=blk_frozen BK101.out 1
       have hfz16_2:=blk_frozen BK101.out 2
       have p104 : 0≤(x4_1 : Int):=of_decide_eq_true (by first|(with_reducible assumption)|assumption)
       have q104 : x4_1 < (l0_2.length : Int):=of_decide_eq_true (by first|(with_reducible assumption)|assumption)
       obtain ⟨ad104,A104_2,c104_2,e104,hx104_0,hx104_1,hx104_2,hx104_3,hx104_4,hx104_5,hl104_2,hi104_2⟩:=at_T46 HR0_2.out x4_1 p104 q104
       cases e104
       replace hx104_0:=(HB.out.cell (World.block_lt_of_cell? w _ hx104_0)).trans hx104_0
       replace hx104_1:=(HB.out.cell (World.block_lt_of_cell? w _ hx104_1)).trans hx104_1
       replace hx104_2:=(HB.out.cell (World.block_lt_of_cell? w _ hx104_2)).trans hx104_2
       replace hx104_3:=(HB.out.cell (World.block_lt_of_cell? w _ hx104_3)).trans hx104_3
       replace hx104_4:=(HB.out.cell (World.block_lt_of_cell? w _ hx104_4)).trans hx104_4
       replace hx104_5:=(HB.out.cell (World.block_lt_of_cell? w _ hx104_5)).trans hx104_5
       have HR104_2:=Aside0.mk hi104_2
       have HC104_2:=Aside0.mk hl104_2
       clear hi104_2 hl104_2
       replace p104:=eq_true p104
       replace q104:=eq_true q104
       go_wp2_with (first|((with_reducible refine gate_dst (N:=5) rfl ?_);refine box_event ?hg (N:=5) ?hd (cs:=#[.int .i64 0,.int .i64 0,.slice none 0 0,.int .i64 0,.int .i64 0,.int .i64 0]) (t:=46) ?hr ?_;(case hd => rfl);(case hg => rfl);(case hr => first|(go_simp;done)|(go_simp;rfl));intro gb105 hg w17 hbox hb;have n0_:=Aside0.mk (Kd.S_below (Kd.S_elderB (by (with_reducible repeat (first|apply Kd.S_alloc|apply Kd.S_drewN|apply Kd.S_drew));exact HO_104002.out) gb105 (Nat.le_of_eq hg.symm)) hb);have n1_:=Aside0.mk (blk_below (g:=gb101) (o:=.cells #[.int .i64 a0_0,.int .i64 a0_1,.slice (some ad104) l0_2.length c0_2] 24 (0,0)) (by (with_reducible repeat (first|refine blk_drewN ?_ _|refine blk_drew ?_|refine blk_alloc ?_ _));exact BK101.out) hb);have n2_:=Aside0.mk (blk_below (g:=gb102) (o:=.cells #[.int .i64 0,.int .i64 0,.slice none 0 0] 24 (0,0)) (by (with_reducible repeat (first|refine blk_drewN ?_ _|refine blk_drew ?_|refine blk_alloc ?_ _));exact BK102.out) hb);have n3_:=Aside0.mk (blk_below (g:=gb103) (o:=.cells #[.int .i64 a0_0,.int .i64 a0_1,u104002] 24 (0,0)) (by (with_reducible repeat (first|refine blk_drewN ?_ _|refine blk_drew ?_|refine blk_alloc ?_ _));exact BK103.out) hb);have n4_:=Aside0.mk (below_step (by repeat (first|(with_reducible first|exact HB.out|apply below_alloc|apply pw_below_drewN|apply below_drew1|refine below_set ?_ GE101.out|refine below_set ?_ GE102.out|refine below_set ?_ GE103.out)|exact HB.out)) hb);have n5_:=Aside0.mk (hbox);have n6_:=Aside0.mk ((by rw [hg];exact (below_size (by repeat (first|(with_reducible first|exact HB.out|apply below_alloc|apply pw_below_drewN|apply below_drew1|refine below_set ?_ GE101.out|refine below_set ?_ GE102.out|refine below_set ?_ GE103.out)|exact HB.out))) : w.heap.size≤gb105));have n7_:=Aside0.mk ((by rw [hg];exact (below_size (by repeat (first|(with_reducible first|exact HB.out|apply below_alloc|apply pw_below_drewN|apply below_drew1|refine below_set ?_ GE101.out|refine below_set ?_ GE102.out|refine below_set ?_ GE103.out)|exact HB.out))) : w.heap.size≤gb105));have n8_:=Aside0.mk ((by rw [hg];exact Nat.ne_of_lt (blk_lt (g:=gb101) (o:=.cells #[.int .i64 a0_0,.int .i64 a0_1,.slice (some ad104) l0_2.length c0_2] 24 (0,0)) (by (with_reducible repeat (first|refine blk_drewN ?_ _|refine blk_drew ?_|refine blk_alloc ?_ _));exact BK101.out)) : gb101≠gb105));have n9_:=Aside0.mk ((by rw [hg];exact Nat.ne_of_gt (blk_lt (g:=gb101) (o:=.cells #[.int .i64 a0_0,.int .i64 a0_1,.slice (some ad104) l0_2.length c0_2] 24 (0,0)) (by (with_reducible repeat (first|refine blk_drewN ?_ _|refine blk_drew ?_|refine blk_alloc ?_ _));exact BK101.out)) : gb105≠gb101));have n10_:=Aside0.mk ((by rw [hg];exact Nat.ne_of_lt (blk_lt (g:=gb102) (o:=.cells #[.int .i64 0,.int .i64 0,.slice none 0 0] 24 (0,0)) (by (with_reducible repeat (first|refine blk_drewN ?_ _|refine blk_drew ?_|refine blk_alloc ?_ _));exact BK102.out)) : gb102≠gb105));have n11_:=Aside0.mk ((by rw [hg];exact Nat.ne_of_gt (blk_lt (g:=gb102) (o:=.cells #[.int .i64 0,.int .i64 0,.slice none 0 0] 24 (0,0)) (by (with_reducible repeat (first|refine blk_drewN ?_ _|refine blk_drew ?_|refine blk_alloc ?_ _));exact BK102.out)) : gb105≠gb102));have n12_:=Aside0.mk ((by rw [hg];exact Nat.ne_of_lt (blk_lt (g:=gb103) (o:=.cells #[.int .i64 a0_0,.int .i64 a0_1,u104002] 24 (0,0)) (by (with_reducible repeat (first|refine blk_drewN ?_ _|refine blk_drew ?_|refine blk_alloc ?_ _));exact BK103.out)) : gb103≠gb105));have n13_:=Aside0.mk ((by rw [hg];exact Nat.ne_of_gt (blk_lt (g:=gb103) (o:=.cells #[.int .i64 a0_0,.int .i64 a0_1,u104002] 24 (0,0)) (by (with_reducible repeat (first|refine blk_drewN ?_ _|refine blk_drew ?_|refine blk_alloc ?_ _));exact BK103.out)) : gb105≠gb103));clear HO_104002;clear BK101;clear BK102;clear BK103;clear HB;have HO_104002:=n0_;have BK101:=n1_;have BK102:=n2_;have BK103:=n3_;have HB:=n4_;have BK105:=n5_;have GW105:=n6_;have GE105:=n7_;have NB101_105:=n8_;have NB105_101:=n9_;have NB102_105:=n10_;have NB105_102:=n11_;have NB103_105:=n12_;have NB105_103:=n13_;clear n0_ n1_ n2_ n3_ n4_ n5_ n6_ n7_ n8_ n9_ n10_ n11_ n12_ n13_;clear hb hbox hg;have hnb18:=NB105_101.out;have hnc18:=NB101_105.out;have hnb19:=NB105_102.out;have hnc19:=NB102_105.out;have hnb20:=NB105_103.out;have hnc20:=NB103_105.out;have hcz21_0 : w17.cell? ⟨gb105,0,none⟩=some (.int .i64 0):=(blk_cell BK105.out 0).trans rfl;have hcz21_1 : w17.cell? ⟨gb105,1,none⟩=some (.int .i64 0):=(blk_cell BK105.out 1).trans rfl;have hcz21_2 : w17.cell? ⟨gb105,2,none⟩=some (.slice none 0 0):=(blk_cell BK105.out 2).trans rfl;have hcz21_3 : w17.cell? ⟨gb105,3,none⟩=some (.int .i64 0):=(blk_cell BK105.out 3).trans rfl;have hcz21_4 : w17.cell? ⟨gb105,4,none⟩=some (.int .i64 0):=(blk_cell BK105.out 4).trans rfl;have hcz21_5 : w17.cell? ⟨gb105,5,none⟩=some (.int .i64 0):=(blk_cell BK105.out 5).trans rfl;have hfz21_0:=blk_frozen BK105.out 0;have hfz21_1:=blk_frozen BK105.out 1;have hfz21_2:=blk_frozen BK105.out 2;have hfz21_3:=blk_frozen BK105.out 3;have hfz21_4:=blk_frozen BK105.out 4;have hfz21_5:=blk_frozen BK105.out 5)|((with_reducible refine gate_builtin (b:=.append) (xs:=#[.tmp 24,.tmp 26]) rfl ?_);at_builtin;refine Kd.R_append_rows (Kd.int .i64) (w0:=w) w.heap.size rfl (.tmp 24) (.tmp 26) 37 3 (.int .i64 0) 8 rfl Try.underlying37 info3 rfl (by decide) (by omega) (.slice none 0 0) ([] : List Int) ((rd_T46 l0_2 x4_1).f2) _ _ _ (fun _ => True) (fun _ => False) rfl rfl ?aO ?aR (fun _ _ h => h) (fun _ h => h.elim) ?aF ?aB ?aS ?aL ?_;(case aR => exact Kd.C_below HR104_2.out (by repeat (first|(with_reducible first|exact HB.out|apply below_alloc|apply pw_below_drewN|apply below_drew1|refine below_set ?_ GE101.out|refine below_set ?_ GE102.out|refine below_set ?_ GE103.out|refine below_set ?_ GE105.out)|exact HB.out)));(case aB => exact (by repeat (first|(with_reducible first|exact HB.out|apply below_alloc|apply pw_below_drewN|apply below_drew1|refine below_set ?_ GE101.out|refine below_set ?_ GE102.out|refine below_set ?_ GE103.out|refine below_set ?_ GE105.out)|exact HB.out)));(case aF => exact (fun _ _ => trivial));(case aO => exact ((Kd.R_nil _ _ _ _ (fun _ => True))));(case aS => exact (below_size (by repeat (first|(with_reducible first|exact HB.out|apply below_alloc|apply pw_below_drewN|apply below_drew1|refine below_set ?_ GE101.out|refine below_set ?_ GE102.out|refine below_set ?_ GE103.out|refine below_set ?_ GE105.out)|exact HB.out))));(case aL => have:=LMc12.out;omega);intro v107 w22 ho hb hg hat;rw [← Ny106.out] at ho;have n0_:=Aside0.mk (Kd.S_after (Kd.S_apart_nil (by (with_reducible repeat (first|apply Kd.S_alloc|apply Kd.S_drewN|apply Kd.S_drew));exact (Kd.S_mono (Kd.S_far (p:=⟨gb105,5,none⟩) (Kd.S_far (p:=⟨gb105,4,none⟩) (Kd.S_far (p:=⟨gb105,3,none⟩) (Kd.S_far (p:=⟨gb105,2,none⟩) (Kd.S_far (p:=⟨gb105,1,none⟩) (Kd.S_far (p:=⟨gb105,0,none⟩) (Kd.S_mono HO_104002.out (fun k_ hk => (⟨hk,hk.2⟩ : _∧k_≠gb105))) (fun _ hk => hk.2) (.int .i64 ((rd_T46 l0_2 x4_1).f0))) (fun _ hk => hk.2) (.int .i64 ((rd_T46 l0_2 x4_1).f1))) (fun _ hk => hk.2) (.slice A104_2 ((rd_T46 l0_2 x4_1).f2).length c104_2)) (fun _ hk => hk.2) (.int .i64 ((rd_T46 l0_2 x4_1).f3))) (fun _ hk => hk.2) (.int .i64 ((rd_T46 l0_2 x4_1).f4))) (fun _ hk => hk.2) (.int .i64 ((rd_T46 l0_2 x4_1).f5))) (fun _ h_ => h_.1)))) hg hat);have n1_:=Aside0.mk (blk_grown (g:=gb101) (o:=.cells #[.int .i64 a0_0,.int .i64 a0_1,.slice (some ad104) l0_2.length c0_2] 24 (0,0)) (by (with_reducible repeat (first|refine blk_drewN ?_ _|refine blk_drew ?_|refine blk_alloc ?_ _));refine blk_far ?_ NB101_105.out _;(with_reducible repeat (first|refine blk_drewN ?_ _|refine blk_drew ?_|refine blk_alloc ?_ _));refine blk_far ?_ NB101_105.out _;(with_reducible repeat (first|refine blk_drewN ?_ _|refine blk_drew ?_|refine blk_alloc ?_ _));refine blk_far ?_ NB101_105.out _;(with_reducible repeat (first|refine blk_drewN ?_ _|refine blk_drew ?_|refine blk_alloc ?_ _));refine blk_far ?_ NB101_105.out _;(with_reducible repeat (first|refine blk_drewN ?_ _|refine blk_drew ?_|refine blk_alloc ?_ _));refine blk_far ?_ NB101_105.out _;(with_reducible repeat (first|refine blk_drewN ?_ _|refine blk_drew ?_|refine blk_alloc ?_ _));refine blk_far ?_ NB101_105.out _;(with_reducible repeat (first|refine blk_drewN ?_ _|refine blk_drew ?_|refine blk_alloc ?_ _));exact BK101.out) hg (by simp [Value.ownBlock]));have n2_:=Aside0.mk (blk_grown (g:=gb102) (o:=.cells #[.int .i64 0,.int .i64 0,.slice none 0 0] 24 (0,0)) (by (with_reducible repeat (first|refine blk_drewN ?_ _|refine blk_drew ?_|refine blk_alloc ?_ _));refine blk_far ?_ NB102_105.out _;(with_reducible repeat (first|refine blk_drewN ?_ _|refine blk_drew ?_|refine blk_alloc ?_ _));refine blk_far ?_ NB102_105.out _;(with_reducible repeat (first|refine blk_drewN ?_ _|refine blk_drew ?_|refine blk_alloc ?_ _));refine blk_far ?_ NB102_105.out _;(with_reducible repeat (first|refine blk_drewN ?_ _|refine blk_drew ?_|refine blk_alloc ?_ _));refine blk_far ?_ NB102_105.out _;(with_reducible repeat (first|refine blk_drewN ?_ _|refine blk_drew ?_|refine blk_alloc ?_ _));refine blk_far ?_ NB102_105.out _;(with_reducible repeat (first|refine blk_drewN ?_ _|refine blk_drew ?_|refine blk_alloc ?_ _));refine blk_far ?_ NB102_105.out _;(with_reducible repeat (first|refine blk_drewN ?_ _|refine blk_drew ?_|refine blk_alloc ?_ _));exact BK102.out) hg (by simp [Value.ownBlock]));have n3_:=Aside0.mk (blk_grown (g:=gb103) (o:=.cells #[.int .i64 a0_0,.int .i64 a0_1,u104002] 24 (0,0)) (by (with_reducible repeat (first|refine blk_drewN ?_ _|refine blk_drew ?_|refine blk_alloc ?_ _));refine blk_far ?_ NB103_105.out _;(with_reducible repeat (first|refine blk_drewN ?_ _|refine blk_drew ?_|refine blk_alloc ?_ _));refine blk_far ?_ NB103_105.out _;(with_reducible repeat (first|refine blk_drewN ?_ _|refine blk_drew ?_|refine blk_alloc ?_ _));refine blk_far ?_ NB103_105.out _;(with_reducible repeat (first|refine blk_drewN ?_ _|refine blk_drew ?_|refine blk_alloc ?_ _));refine blk_far ?_ NB103_105.out _;(with_reducible repeat (first|refine blk_drewN ?_ _|refine blk_drew ?_|refine blk_alloc ?_ _));refine blk_far ?_ NB103_105.out _;(with_reducible repeat (first|refine blk_drewN ?_ _|refine blk_drew ?_|refine blk_alloc ?_ _));refine blk_far ?_ NB103_105.out _;(with_reducible repeat (first|refine blk_drewN ?_ _|refine blk_drew ?_|refine blk_alloc ?_ _));exact BK103.out) hg (by simp [Value.ownBlock]));have n4_:=Aside0.mk (blk_grown (g:=gb105) (o:=.cells #[.int .i64 ((rd_T46 l0_2 x4_1).f0),.int .i64 ((rd_T46 l0_2 x4_1).f1),.slice A104_2 ((rd_T46 l0_2 x4_1).f2).length c104_2,.int .i64 ((rd_T46 l0_2 x4_1).f3),.int .i64 ((rd_T46 l0_2 x4_1).f4),.int .i64 ((rd_T46 l0_2 x4_1).f5)] 46 (0,0)) (by (with_reducible repeat (first|refine blk_drewN ?_ _|refine blk_drew ?_|refine blk_alloc ?_ _));refine blk_put (cs:=#[.int .i64 ((rd_T46 l0_2 x4_1).f0),.int .i64 ((rd_T46 l0_2 x4_1).f1),.slice A104_2 ((rd_T46 l0_2 x4_1).f2).length c104_2,.int .i64 ((rd_T46 l0_2 x4_1).f3),.int .i64 ((rd_T46 l0_2 x4_1).f4),.int .i64 0]) ?_ 5 _ rfl;(with_reducible repeat (first|refine blk_drewN ?_ _|refine blk_drew ?_|refine blk_alloc ?_ _));refine blk_put (cs:=#[.int .i64 ((rd_T46 l0_2 x4_1).f0),.int .i64 ((rd_T46 l0_2 x4_1).f1),.slice A104_2 ((rd_T46 l0_2 x4_1).f2).length c104_2,.int .i64 ((rd_T46 l0_2 x4_1).f3),.int .i64 0,.int .i64 0]) ?_ 4 _ rfl;(with_reducible repeat (first|refine blk_drewN ?_ _|refine blk_drew ?_|refine blk_alloc ?_ _));refine blk_put (cs:=#[.int .i64 ((rd_T46 l0_2 x4_1).f0),.int .i64 ((rd_T46 l0_2 x4_1).f1),.slice A104_2 ((rd_T46 l0_2 x4_1).f2).length c104_2,.int .i64 0,.int .i64 0,.int .i64 0]) ?_ 3 _ rfl;(with_reducible repeat (first|refine blk_drewN ?_ _|refine blk_drew ?_|refine blk_alloc ?_ _));refine blk_put (cs:=#[.int .i64 ((rd_T46 l0_2 x4_1).f0),.int .i64 ((rd_T46 l0_2 x4_1).f1),.slice none 0 0,.int .i64 0,.int .i64 0,.int .i64 0]) ?_ 2 _ rfl;(with_reducible repeat (first|refine blk_drewN ?_ _|refine blk_drew ?_|refine blk_alloc ?_ _));refine blk_put (cs:=#[.int .i64 ((rd_T46 l0_2 x4_1).f0),.int .i64 0,.slice none 0 0,.int .i64 0,.int .i64 0,.int .i64 0]) ?_ 1 _ rfl;(with_reducible repeat (first|refine blk_drewN ?_ _|refine blk_drew ?_|refine blk_alloc ?_ _));refine blk_put (cs:=#[.int .i64 0,.int .i64 0,.slice none 0 0,.int .i64 0,.int .i64 0,.int .i64 0]) ?_ 0 _ rfl;(with_reducible repeat (first|refine blk_drewN ?_ _|refine blk_drew ?_|refine blk_alloc ?_ _));exact BK105.out) hg (by simp [Value.ownBlock]));have n5_:=Aside0.mk (hb);have n6_:=Aside0.mk (ho);clear HO_104002;clear BK101;clear BK102;clear BK103;clear BK105;clear HB;have HO_104002:=n0_;have BK101:=n1_;have BK102:=n2_;have BK103:=n3_;have BK105:=n4_;have HB:=n5_;have HO108:=n6_;clear n0_ n1_ n2_ n3_ n4_ n5_ n6_;clear ho hb hg hat;obtain ⟨Ao23,co23,eo23⟩:=Kd.R_slice HO108.out;subst eo23;have hcz24_0 : w22.cell? ⟨gb105,0,none⟩=some (.int .i64 ((rd_T46 l0_2 x4_1).f0)):=(blk_cell BK105.out 0).trans rfl;have hcz24_1 : w22.cell? ⟨gb105,1,none⟩=some (.int .i64 ((rd_T46 l0_2 x4_1).f1)):=(blk_cell BK105.out 1).trans rfl;have hcz24_2 : w22.cell? ⟨gb105,2,none⟩=some (.slice A104_2 ((rd_T46 l0_2 x4_1).f2).length c104_2):=(blk_cell BK105.out 2).trans rfl;have hcz24_3 : w22.cell? ⟨gb105,3,none⟩=some (.int .i64 ((rd_T46 l0_2 x4_1).f3)):=(blk_cell BK105.out 3).trans rfl;have hcz24_4 : w22.cell? ⟨gb105,4,none⟩=some (.int .i64 ((rd_T46 l0_2 x4_1).f4)):=(blk_cell BK105.out 4).trans rfl;have hcz24_5 : w22.cell? ⟨gb105,5,none⟩=some (.int .i64 ((rd_T46 l0_2 x4_1).f5)):=(blk_cell BK105.out 5).trans rfl;have hfz24_0:=blk_frozen BK105.out 0;have hfz24_1:=blk_frozen BK105.out 1;have hfz24_2:=blk_frozen BK105.out 2;have hfz24_3:=blk_frozen BK105.out 3;have hfz24_4:=blk_frozen BK105.out 4;have hfz24_5:=blk_frozen BK105.out 5)|((with_reducible refine gate_store (t:=37) (p:=28) rfl ?_);refine store_event (t:=37) (p:=28) (v:=?vo_w25) (w1:=(w22.setCell ⟨gb105,2,none⟩ (.slice Ao23 y106.length co23))) ?hg ?ho ?hn ?hr ?_;(case ho => rfl);(case hg => rfl);(case hn => rfl);(case hr => first|(go_simp;done)|(go_simp;rfl));intro w25 hw;have n0_ : Aside0 (Kd.S k46 46 w25 w.heap.size (fun k_ => some k_≠(.slice Ao23 y106.length co23 : Value).ownBlock∧k_≠gb105) u104002 x104002_1):=⟨(by rw [hw];exact (by (with_reducible repeat (first|apply Kd.S_alloc|apply Kd.S_drewN|apply Kd.S_drew));exact Kd.S_mono (Kd.S_far (p:=⟨gb105,2,none⟩) (Kd.S_mono HO_104002.out (fun k_ hk => (⟨hk,hk.1.2⟩ : _∧k_≠gb105))) (fun _ hk => hk.2) (.slice Ao23 y106.length co23)) (fun _ hk => ⟨hk.1.2,hk.1.1.2⟩)))⟩;have n1_ : Aside0 (Kd.R (Kd.int .i64) 3 w25 w.heap.size (fun _ => True) (.slice Ao23 y106.length co23) y106):=⟨(by rw [hw];exact (by (with_reducible repeat (first|apply Kd.R_alloc|apply Kd.R_drewN|apply Kd.R_drew));exact Kd.R_mono (Kd.R_far (p:=⟨gb105,2,none⟩) (Kd.R_types HO108.out BK105.out (by decide)) (fun _ hk => hk.2) (.slice Ao23 y106.length co23)) (fun _ hk => trivial)))⟩;have n2_ : Aside0 (w25.heap[gb101]?=some (.cells #[.int .i64 a0_0,.int .i64 a0_1,.slice (some ad104) l0_2.length c0_2] 24 (0,0))):=⟨(by rw [hw];exact (by (with_reducible repeat (first|refine blk_drewN ?_ _|refine blk_drew ?_|refine blk_alloc ?_ _));refine blk_far ?_ NB101_105.out _;(with_reducible repeat (first|refine blk_drewN ?_ _|refine blk_drew ?_|refine blk_alloc ?_ _));exact BK101.out))⟩;have n3_ : Aside0 (w25.heap[gb102]?=some (.cells #[.int .i64 0,.int .i64 0,.slice none 0 0] 24 (0,0))):=⟨(by rw [hw];exact (by (with_reducible repeat (first|refine blk_drewN ?_ _|refine blk_drew ?_|refine blk_alloc ?_ _));refine blk_far ?_ NB102_105.out _;(with_reducible repeat (first|refine blk_drewN ?_ _|refine blk_drew ?_|refine blk_alloc ?_ _));exact BK102.out))⟩;have n4_ : Aside0 (w25.heap[gb103]?=some (.cells #[.int .i64 a0_0,.int .i64 a0_1,u104002] 24 (0,0))):=⟨(by rw [hw];exact (by (with_reducible repeat (first|refine blk_drewN ?_ _|refine blk_drew ?_|refine blk_alloc ?_ _));refine blk_far ?_ NB103_105.out _;(with_reducible repeat (first|refine blk_drewN ?_ _|refine blk_drew ?_|refine blk_alloc ?_ _));exact BK103.out))⟩;have n5_ : Aside0 (w25.heap[gb105]?=some (.cells #[.int .i64 ((rd_T46 l0_2 x4_1).f0),.int .i64 ((rd_T46 l0_2 x4_1).f1),.slice Ao23 y106.length co23,.int .i64 ((rd_T46 l0_2 x4_1).f3),.int .i64 ((rd_T46 l0_2 x4_1).f4),.int .i64 ((rd_T46 l0_2 x4_1).f5)] 46 (0,0))):=⟨(by rw [hw];exact (by (with_reducible repeat (first|refine blk_drewN ?_ _|refine blk_drew ?_|refine blk_alloc ?_ _));refine blk_put (cs:=#[.int .i64 ((rd_T46 l0_2 x4_1).f0),.int .i64 ((rd_T46 l0_2 x4_1).f1),.slice A104_2 ((rd_T46 l0_2 x4_1).f2).length c104_2,.int .i64 ((rd_T46 l0_2 x4_1).f3),.int .i64 ((rd_T46 l0_2 x4_1).f4),.int .i64 ((rd_T46 l0_2 x4_1).f5)]) ?_ 2 _ rfl;(with_reducible repeat (first|refine blk_drewN ?_ _|refine blk_drew ?_|refine blk_alloc ?_ _));exact BK105.out))⟩;have n6_ : Aside0 (Below w.heap.size w w25):=⟨(by rw [hw];exact (by repeat (first|(with_reducible first|exact HB.out|apply below_alloc|apply pw_below_drewN|apply below_drew1|refine below_set ?_ GE101.out|refine below_set ?_ GE102.out|refine below_set ?_ GE103.out|refine below_set ?_ GE105.out)|exact HB.out)))⟩;clear hw;clear HO_104002;clear HO108;clear BK101;clear BK102;clear BK103;clear BK105;clear HB;have HO_104002:=n0_;have HO108:=n1_;have BK101:=n2_;have BK102:=n3_;have BK103:=n4_;have BK105:=n5_;have HB:=n6_;clear n0_ n1_ n2_ n3_ n4_ n5_ n6_;have hnb26:=NB103_102.out;have hnc26:=NB102_103.out;have hcz27_0 : w25.cell? ⟨gb103,0,none⟩=some (.int .i64 a0_0):=(blk_cell BK103.out 0).trans rfl;have hcz27_1 : w25.cell? ⟨gb103,1,none⟩=some (.int .i64 a0_1):=(blk_cell BK103.out 1).trans rfl;have hcz27_2 : w25.cell? ⟨gb103,2,none⟩=some (u104002):=(blk_cell BK103.out 2).trans rfl;have hfz27_0:=blk_frozen BK103.out 0;have hfz27_1:=blk_frozen BK103.out 1;have hfz27_2:=blk_frozen BK103.out 2;have hcz28_0 : w25.cell? ⟨gb105,0,none⟩=some (.int .i64 ((rd_T46 l0_2 x4_1).f0)):=(blk_cell BK105.out 0).trans rfl;have hcz28_1 : w25.cell? ⟨gb105,1,none⟩=some (.int .i64 ((rd_T46 l0_2 x4_1).f1)):=(blk_cell BK105.out 1).trans rfl;have hcz28_2 : w25.cell? ⟨gb105,2,none⟩=some (.slice Ao23 y106.length co23):=(blk_cell BK105.out 2).trans rfl;have hcz28_3 : w25.cell? ⟨gb105,3,none⟩=some (.int .i64 ((rd_T46 l0_2 x4_1).f3)):=(blk_cell BK105.out 3).trans rfl;have hcz28_4 : w25.cell? ⟨gb105,4,none⟩=some (.int .i64 ((rd_T46 l0_2 x4_1).f4)):=(blk_cell BK105.out 4).trans rfl;have hcz28_5 : w25.cell? ⟨gb105,5,none⟩=some (.int .i64 ((rd_T46 l0_2 x4_1).f5)):=(blk_cell BK105.out 5).trans rfl;have hfz28_0:=blk_frozen BK105.out 0;have hfz28_1:=blk_frozen BK105.out 1;have hfz28_2:=blk_frozen BK105.out 2;have hfz28_3:=blk_frozen BK105.out 3;have hfz28_4:=blk_frozen BK105.out 4;have hfz28_5:=blk_frozen BK105.out 5)|((with_reducible refine gate_builtin (b:=.append) (xs:=#[.tmp 30,.tmp 32]) rfl ?_);at_builtin;refine Kd.S_append k46 (w0:=w) w.heap.size rfl (.tmp 30) (.tmp 32) 22 46 (.agg #[(.int .i64 0),(.int .i64 0),(.slice none 0 0),(.int .i64 0),(.int .i64 0),(.int .i64 0)]) 64 rfl Try.underlying22 info46 rfl (by decide) (by omega) u104002 x104002_1 (⟨(rd_T46 l0_2 x4_1).f0,(rd_T46 l0_2 x4_1).f1,y106,(rd_T46 l0_2 x4_1).f3,(rd_T46 l0_2 x4_1).f4,(rd_T46 l0_2 x4_1).f5⟩ : S46) [.int .i64 ((rd_T46 l0_2 x4_1).f0),.int .i64 ((rd_T46 l0_2 x4_1).f1),.slice Ao23 y106.length co23,.int .i64 ((rd_T46 l0_2 x4_1).f3),.int .i64 ((rd_T46 l0_2 x4_1).f4),.int .i64 ((rd_T46 l0_2 x4_1).f5)] (fun k_ => k_≠gb105) (fun k_ => some k_=(.slice Ao23 y106.length co23 : Value).ownBlock) rfl rfl ?aP (fun k_ hk_ => ((Kd.R_mono (ok':=fun k_ => ((fun k_ => k_≠gb105)) k_∧some k_≠(u104002 : Value).ownBlock) (Kd.R_types (Kd.R_apart' (HO108.out) (Kd.S_typed HO_104002.out) (by decide)) BK105.out (by decide)) (fun k_ hk => ⟨hk.2,hk.1.2⟩))).1 k_ hk_.symm) ?aF ?aO ?aB ?aS ?aL ?_;(case aP => exact k46_mkM _ _ _ (⟨(rd_T46 l0_2 x4_1).f0,(rd_T46 l0_2 x4_1).f1,y106,(rd_T46 l0_2 x4_1).f3,(rd_T46 l0_2 x4_1).f4,(rd_T46 l0_2 x4_1).f5⟩ : S46) (Kd.R_mono (Kd.R_tight rfl (Kd.R_mono (ok':=fun k_ => ((fun k_ => k_≠gb105)) k_∧some k_≠(u104002 : Value).ownBlock) (Kd.R_types (Kd.R_apart' (HO108.out) (Kd.S_typed HO_104002.out) (by decide)) BK105.out (by decide)) (fun k_ hk => ⟨hk.2,hk.1.2⟩))) (fun _ h_ => h_)));(case aB => exact (by repeat (first|(with_reducible first|exact HB.out|apply below_alloc|apply pw_below_drewN|apply below_drew1|refine below_set ?_ GE101.out|refine below_set ?_ GE102.out|refine below_set ?_ GE103.out|refine below_set ?_ GE105.out)|exact HB.out)));(case aF => exact (fun k_ hk => Kd.freshB (g:=gb105) (o:=.cells #[.int .i64 ((rd_T46 l0_2 x4_1).f0),.int .i64 ((rd_T46 l0_2 x4_1).f1),.slice Ao23 y106.length co23,.int .i64 ((rd_T46 l0_2 x4_1).f3),.int .i64 ((rd_T46 l0_2 x4_1).f4),.int .i64 ((rd_T46 l0_2 x4_1).f5)] 46 (0,0)) (by (with_reducible repeat (first|refine blk_drewN ?_ _|refine blk_drew ?_|refine blk_alloc ?_ _));exact BK105.out) k_ hk));(case aO => exact (by (with_reducible repeat (first|apply Kd.S_alloc|apply Kd.S_drewN|apply Kd.S_drew));exact Kd.S_mono HO_104002.out (fun k_ hk => ⟨hk.2,fun e_ => hk.1 e_⟩)));(case aS => exact (below_size (by repeat (first|(with_reducible first|exact HB.out|apply below_alloc|apply pw_below_drewN|apply below_drew1|refine below_set ?_ GE101.out|refine below_set ?_ GE102.out|refine below_set ?_ GE103.out|refine below_set ?_ GE105.out)|exact HB.out))));(case aL => have:=LMc13.out;omega);intro v110 w29 ho hb hg hat;rw [← Ny109.out] at ho;have n0_:=Aside0.mk (blk_grown (g:=gb101) (o:=.cells #[.int .i64 a0_0,.int .i64 a0_1,.slice (some ad104) l0_2.length c0_2] 24 (0,0)) (by (with_reducible repeat (first|refine blk_drewN ?_ _|refine blk_drew ?_|refine blk_alloc ?_ _));exact BK101.out) hg (Kd.S_ne HO_104002.out BK101.out (by decide)));have n1_:=Aside0.mk (blk_grown (g:=gb102) (o:=.cells #[.int .i64 0,.int .i64 0,.slice none 0 0] 24 (0,0)) (by (with_reducible repeat (first|refine blk_drewN ?_ _|refine blk_drew ?_|refine blk_alloc ?_ _));exact BK102.out) hg (Kd.S_ne HO_104002.out BK102.out (by decide)));have n2_:=Aside0.mk (blk_grown (g:=gb103) (o:=.cells #[.int .i64 a0_0,.int .i64 a0_1,u104002] 24 (0,0)) (by (with_reducible repeat (first|refine blk_drewN ?_ _|refine blk_drew ?_|refine blk_alloc ?_ _));exact BK103.out) hg (Kd.S_ne HO_104002.out BK103.out (by decide)));have n3_:=Aside0.mk (blk_grown (g:=gb105) (o:=.cells #[.int .i64 ((rd_T46 l0_2 x4_1).f0),.int .i64 ((rd_T46 l0_2 x4_1).f1),.slice Ao23 y106.length co23,.int .i64 ((rd_T46 l0_2 x4_1).f3),.int .i64 ((rd_T46 l0_2 x4_1).f4),.int .i64 ((rd_T46 l0_2 x4_1).f5)] 46 (0,0)) (by (with_reducible repeat (first|refine blk_drewN ?_ _|refine blk_drew ?_|refine blk_alloc ?_ _));exact BK105.out) hg (Kd.S_away HO_104002.out (fun _ hk => hk.2)));have n4_:=Aside0.mk (hb);have n5_:=Aside0.mk (ho);clear BK101;clear BK102;clear BK103;clear BK105;clear HB;clear HO_104002;clear HO108;have BK101:=n0_;have BK102:=n1_;have BK103:=n2_;have BK105:=n3_;have HB:=n4_;have HO111:=n5_;clear n0_ n1_ n2_ n3_ n4_ n5_;clear ho hb hg hat;obtain ⟨Ao30,co30,eo30⟩:=Kd.S_slice HO111.out;subst eo30;have hcz31_0 : w29.cell? ⟨gb103,0,none⟩=some (.int .i64 a0_0):=(blk_cell BK103.out 0).trans rfl;have hcz31_1 : w29.cell? ⟨gb103,1,none⟩=some (.int .i64 a0_1):=(blk_cell BK103.out 1).trans rfl;have hcz31_2 : w29.cell? ⟨gb103,2,none⟩=some (u104002):=(blk_cell BK103.out 2).trans rfl;have hfz31_0:=blk_frozen BK103.out 0;have hfz31_1:=blk_frozen BK103.out 1;have hfz31_2:=blk_frozen BK103.out 2))
       go_roundg k1
       case measure => have:=HK1.out;omega
       case rel => exact ⟨(wrap64 (x4_1 + 1)),(y109),(.slice Ao30 y109.length co30),(by first|rfl|(simp;done)|(simp [*];done)),H',⟨by have:=HK1.out;omega⟩,⟨by (with_reducible repeat (first|apply Kd.S_alloc|apply Kd.S_drewN|apply Kd.S_drew));exact Kd.S_mono (Kd.S_far (p:=⟨gb103,2,none⟩) (Kd.S_types HO111.out BK103.out (by decide)) (fun _ hk => hk.2) (.slice Ao30 y109.length co30)) (fun _ hk => trivial)⟩,⟨by (with_reducible repeat (first|refine blk_drewN ?_ _|refine blk_drew ?_|refine blk_alloc ?_ _));refine blk_far ?_ NB101_103.out _;(with_reducible repeat (first|refine blk_drewN ?_ _|refine blk_drew ?_|refine blk_alloc ?_ _));exact BK101.out⟩,⟨by (with_reducible repeat (first|refine blk_drewN ?_ _|refine blk_drew ?_|refine blk_alloc ?_ _));refine blk_far ?_ NB102_103.out _;(with_reducible repeat (first|refine blk_drewN ?_ _|refine blk_drew ?_|refine blk_alloc ?_ _));exact BK102.out⟩,⟨by (with_reducible repeat (first|refine blk_drewN ?_ _|refine blk_drew ?_|refine blk_alloc ?_ _));refine blk_put (cs:=#[.int .i64 a0_0,.int .i64 a0_1,u104002]) ?_ 2 _ rfl;(with_reducible repeat (first|refine blk_drewN ?_ _|refine blk_drew ?_|refine blk_alloc ?_ _));exact BK103.out⟩,⟨by repeat (first|(with_reducible first|exact HB.out|apply below_alloc|apply pw_below_drewN|apply below_drew1|refine below_set ?_ GE101.out|refine below_set ?_ GE102.out|refine below_set ?_ GE103.out|refine below_set ?_ GE105.out)|exact HB.out)⟩⟩
      ·rw [if_neg c13] at H
       exact absurd H (by simp)
     ·rw [if_neg c12] at H
      exact absurd H (by simp)
    ·rw [if_neg c11] at H
     exact absurd H (by simp)
   ·rw [if_neg c10] at H
    have c10b0 : decide (x4_1 < (l0_2.length : Int))=false:=decide_eq_false c10
    clear c10
    simp only [Option.some.injEq,Prod.mk.injEq] at H
    obtain ⟨rfl,rfl,rfl⟩:=H
    have hnb32:=NB101_102.out
    have hnc32:=NB102_101.out
    have hnb33:=NB101_103.out
    have hnc33:=NB103_101.out
    have hcz34_0 : wr.cell? ⟨gb101,0,none⟩=some (.int .i64 a0_0):=(blk_cell BK101.out 0).trans rfl
    have hcz34_1 : wr.cell? ⟨gb101,1,none⟩=some (.int .i64 a0_1):=(blk_cell BK101.out 1).trans rfl
    have hcz34_2 : wr.cell? ⟨gb101,2,none⟩=some (.slice A0_2 l0_2.length c0_2):=(blk_cell BK101.out 2).trans rfl
    have hfz34_0:=blk_frozen BK101.out 0
    have hfz34_1:=blk_frozen BK101.out 1
    have hfz34_2:=blk_frozen BK101.out 2
    have hnb35:=NB103_102.out
    have hnc35:=NB102_103.out
    have hcz36_0 : wr.cell? ⟨gb103,0,none⟩=some (.int .i64 a0_0):=(blk_cell BK103.out 0).trans rfl
    have hcz36_1 : wr.cell? ⟨gb103,1,none⟩=some (.int .i64 a0_1):=(blk_cell BK103.out 1).trans rfl
    have hcz36_2 : wr.cell? ⟨gb103,2,none⟩=some (u104002):=(blk_cell BK103.out 2).trans rfl
    have hfz36_0:=blk_frozen BK103.out 0
    have hfz36_1:=blk_frozen BK103.out 1
    have hfz36_2:=blk_frozen BK103.out 2
    have hcz37_0 : wr.cell? ⟨gb102,0,none⟩=some (.int .i64 0):=(blk_cell BK102.out 0).trans rfl
    have hcz37_1 : wr.cell? ⟨gb102,1,none⟩=some (.int .i64 0):=(blk_cell BK102.out 1).trans rfl
    have hcz37_2 : wr.cell? ⟨gb102,2,none⟩=some (.slice none 0 0):=(blk_cell BK102.out 2).trans rfl
    have hfz37_0:=blk_frozen BK102.out 0
    have hfz37_1:=blk_frozen BK102.out 1
    have hfz37_2:=blk_frozen BK102.out 2
    obtain ⟨Ao38,co38,eo38⟩:=Kd.S_slice HO_104002.out
    subst eo38
    go_wp2
    refine bodyPost_ret (results_cell_row rfl _ _ gb102 24 #[.int .i64 a0_0,.int .i64 a0_1,.slice Ao38 x104002_1.length co38] (0,0) _ rfl (by (with_reducible repeat (first|refine blk_drewN ?_ _|refine blk_drew ?_|refine blk_alloc ?_ _));refine blk_put (cs:=#[.int .i64 a0_0,.int .i64 a0_1,.slice none 0 0]) ?_ 2 _ rfl;(with_reducible repeat (first|refine blk_drewN ?_ _|refine blk_drew ?_|refine blk_alloc ?_ _));refine blk_put (cs:=#[.int .i64 a0_0,.int .i64 0,.slice none 0 0]) ?_ 1 _ rfl;(with_reducible repeat (first|refine blk_drewN ?_ _|refine blk_drew ?_|refine blk_alloc ?_ _));refine blk_put (cs:=#[.int .i64 0,.int .i64 0,.slice none 0 0]) ?_ 0 _ rfl;(with_reducible repeat (first|refine blk_drewN ?_ _|refine blk_drew ?_|refine blk_alloc ?_ _));exact BK102.out) Try.underlying24 rfl (by kernel_rfl)) rfl ?_
    exact ⟨_,by first|rfl|(simp [errW_none,errW_some] <;> rfl)|(simp [*,errW_none,errW_some] <;> rfl),by (with_reducible repeat (first|apply Kd.S_alloc|apply Kd.S_drewN|apply Kd.S_drew));exact Kd.S_mono (Kd.S_far (p:=⟨gb102,2,none⟩) (Kd.S_far (p:=⟨gb102,1,none⟩) (Kd.S_far (p:=⟨gb102,0,none⟩) (Kd.S_types HO_104002.out BK102.out (by decide)) (fun _ hk => hk.2) (.int .i64 a0_0)) (fun _ hk => hk.2) (.int .i64 a0_1)) (fun _ hk => hk.2) (.slice Ao38 x104002_1.length co38)) (fun _ hk => trivial),by repeat (first|(with_reducible first|exact HB.out|apply below_alloc|apply pw_below_drewN|apply below_drew1|refine below_set ?_ GE101.out|refine below_set ?_ GE102.out|refine below_set ?_ GE103.out)|exact HB.out)⟩
end Go.Proofs.Ytbelnopbggkdfaa.Q
end

section
namespace Go.Proofs.Ytbelnopbggkdfaa.Q
open Go.RowKit Go.Proofs.YtbelnopbggkdfaaW.PrintWords Go.Proofs.YtbelnopbggkdfaaW.PrintLast Go.Proofs.YtbelnopbggkdfaaW.PrintMore
attribute [local go_sem] max2_int min2_int max_two min_two max_three min_three max_four min_four   -- for this text's walks alone
set_option linter.unusedVariables false
set_option linter.unusedSimpArgs false
def phasorref08_ints.l0 : Nat→List Int→List Int→Int→Option (Bool)
 | 0,_,_,_ => none
 | k + 1,x0,x1,x5 => if x5 < (x0.length : Int) then (if 0≤x5 then (if x5 < (x1.length : Int) then (if (rd x0 x5)=(rd x1 x5) then (phasorref08_ints.l0 k x0 x1 (wrap64 (x5 + 1))) else (some false)) else (none)) else (none)) else (some true)
def phasorref08_ints.f (k : Nat) (l0 : List Int) (l1 : List Int) : Option (Bool):=if (l0.length : Int)=(l1.length : Int) then (phasorref08_ints.l0 k l0 l1 0) else (some false)
set_option maxHeartbeats 8000000 in
set_option maxRecDepth 100000 in
theorem phasorref08_ints.calls (k : Nat) (A0 : Option Addr) (c0 : Nat) (l0 : List Int) (A1 : Option Addr) (c1 : Nat) (l1 : List Int) (r : Bool) (w : World) (hr0 : Kd.C (Kd.int .i64) w A0 l0.length l0) (hc0 : l0.length≤c0) (hr1 : Kd.C (Kd.int .i64) w A1 l1.length l1) (hc1 : l1.length≤c1) (h : phasorref08_ints.f k l0 l1=some r) :
  Calls Try.prog 80 #[.slice A0 l0.length c0,.slice A1 l1.length c1] w fun e w' => e=.returned (.bool r)∧Drawn0 w w':=by
 have HR0:=Aside0.mk hr0
 have HC0:=Aside0.mk hc0
 clear hr0 hc0
 have HR1:=Aside0.mk hr1
 have HC1:=Aside0.mk hc1
 clear hr1 hc1
 have H : (if (l0.length : Int)=(l1.length : Int) then (phasorref08_ints.l0 k l0 l1 0) else (some false))=some r:=h
 clear h
 by_cases c3 : (l0.length : Int)=(l1.length : Int)
 ·rw [if_pos c3] at H
  have c3b0 : ((l0.length : Int) == (l1.length : Int))=true:=beq_iff_eq.mpr c3
  have c3b1 : ((l0.length : Int) != (l1.length : Int))=false:=bne_eq_false_iff_eq.mpr c3
  have c3b2 : (l0.length == l1.length)=true:=by first|simpa using c3|(simp at c3 ⊢;omega)
  clear c3
  have H':=Aside0.mk H
  clear H
  go_enter Try.func80,Try.ntmps80
  go_wp2
  repeat (go_quiet (fail);try go_wp2)
  go_loopg [5] k (fun kq v5 w' => ∃ (x5_1 : Int),v5=.int .i64 x5_1∧Aside0 (phasorref08_ints.l0 kq l0 l1 x5_1=some r)∧Aside0 (kq≤k)∧Drawn0 w w')
  case atStart => exact ⟨(0),(by first|rfl|(simp;done)|(simp [*];done)),H',⟨Nat.le_refl _⟩,by repeat (first|exact Drawn0.refl _|apply Drawn0.step)⟩
  case round =>
   clear H'
   try clear c1
   try clear p2
   try clear c3
   try clear c3b0
   try clear c3b1
   try clear c3b2
   obtain ⟨x5_1,rfl,HA,HK1,⟨m1,rfl⟩⟩:=hrel
   cases gk with
   | zero => exact absurd HA.out (by simp [phasorref08_ints.l0])
   | succ k1 =>
    have H:=HA.out
    clear HA
    simp only [phasorref08_ints.l0] at H
    by_cases c4 : x5_1 < (l0.length : Int)
    ·rw [if_pos c4] at H
     have c4b0 : decide (x5_1 < (l0.length : Int))=true:=decide_eq_true c4
     clear c4
     by_cases c5 : 0≤x5_1
     ·rw [if_pos c5] at H
      have c5b0 : decide (0≤x5_1)=true:=decide_eq_true c5
      clear c5
      by_cases c6 : x5_1 < (l1.length : Int)
      ·rw [if_pos c6] at H
       have c6b0 : decide (x5_1 < (l1.length : Int))=true:=decide_eq_true c6
       clear c6
       by_cases c7 : (rd l0 x5_1)=(rd l1 x5_1)
       ·rw [if_pos c7] at H
        have c7b0 : ((rd l0 x5_1) == (rd l1 x5_1))=true:=beq_iff_eq.mpr c7
        have c7b1 : ((rd l0 x5_1) != (rd l1 x5_1))=false:=bne_eq_false_iff_eq.mpr c7
        clear c7
        have H':=Aside0.mk H
        clear H
        have p199 : 0≤(x5_1 : Int):=of_decide_eq_true (by first|(with_reducible assumption)|assumption)
        have q199 : x5_1 < (l0.length : Int):=of_decide_eq_true (by first|(with_reducible assumption)|assumption)
        obtain ⟨ad199,e199,hx199_0⟩:=Kd.at_int HR0.out x5_1 p199 q199
        cases e199
        replace p199:=eq_true p199
        replace q199:=eq_true q199
        have p200 : 0≤(x5_1 : Int):=of_decide_eq_true (by first|(with_reducible assumption)|assumption)
        have q200 : x5_1 < (l1.length : Int):=of_decide_eq_true (by first|(with_reducible assumption)|assumption)
        obtain ⟨ad200,e200,hx200_0⟩:=Kd.at_int HR1.out x5_1 p200 q200
        cases e200
        replace p200:=eq_true p200
        replace q200:=eq_true q200
        go_wp2
        repeat (go_quiet (fail);try go_wp2)
        go_roundg k1
        case measure => have:=HK1.out;omega
        case rel => exact ⟨(wrap64 (x5_1 + 1)),(by first|rfl|(simp;done)|(simp [*];done)),H',⟨by have:=HK1.out;omega⟩,by repeat (first|exact Drawn0.refl _|apply Drawn0.step)⟩
       ·rw [if_neg c7] at H
        have c7b0 : ((rd l0 x5_1) == (rd l1 x5_1))=false:=beq_eq_false_iff_ne.mpr c7
        have c7b1 : ((rd l0 x5_1) != (rd l1 x5_1))=true:=bne_iff_ne.mpr c7
        obtain rfl:=Option.some.inj H
        have p199 : 0≤(x5_1 : Int):=of_decide_eq_true (by first|(with_reducible assumption)|assumption)
        have q199 : x5_1 < (l0.length : Int):=of_decide_eq_true (by first|(with_reducible assumption)|assumption)
        obtain ⟨ad199,e199,hx199_0⟩:=Kd.at_int HR0.out x5_1 p199 q199
        cases e199
        replace p199:=eq_true p199
        replace q199:=eq_true q199
        have p200 : 0≤(x5_1 : Int):=of_decide_eq_true (by first|(with_reducible assumption)|assumption)
        have q200 : x5_1 < (l1.length : Int):=of_decide_eq_true (by first|(with_reducible assumption)|assumption)
        obtain ⟨ad200,e200,hx200_0⟩:=Kd.at_int HR1.out x5_1 p200 q200
        cases e200
        replace p200:=eq_true p200
        replace q200:=eq_true q200
        go_wp2
        repeat (go_quiet (fail);try go_wp2)
        go_ret
        exact ⟨by first|rfl|(simp;done)|(simp [*];done),by repeat (first|exact Drawn0.refl _|apply Drawn0.step)⟩
      ·rw [if_neg c6] at H
       exact absurd H (by simp)
     ·rw [if_neg c5] at H
      exact absurd H (by simp)
    ·rw [if_neg c4] at H
     have c4b0 : decide (x5_1 < (l0.length : Int))=false:=decide_eq_false c4
     clear c4
     obtain rfl:=Option.some.inj H
     go_wp2
     repeat (go_quiet (fail);try go_wp2)
     go_ret
     exact ⟨by first|rfl|(simp;done)|(simp [*];done),by repeat (first|exact Drawn0.refl _|apply Drawn0.step)⟩
 ·rw [if_neg c3] at H
  have c3b0 : ((l0.length : Int) == (l1.length : Int))=false:=beq_eq_false_iff_ne.mpr c3
  have c3b1 : ((l0.length : Int) != (l1.length : Int))=true:=bne_iff_ne.mpr c3
  have c3b2 : (l0.length == l1.length)=false:=by first|simpa using c3|(simp at c3 ⊢;omega)
  obtain rfl:=Option.some.inj H
  go_enter Try.func80,Try.ntmps80
  go_wp2
  repeat (go_quiet (fail);try go_wp2)
  go_ret
  exact ⟨by first|rfl|(simp;done)|(simp [*];done),by repeat (first|exact Drawn0.refl _|apply Drawn0.step)⟩
end Go.Proofs.Ytbelnopbggkdfaa.Q
end

section
namespace Go.Proofs.Ytbelnopbggkdfaa.Q
open Go.RowKit Go.Proofs.YtbelnopbggkdfaaW.PrintWords Go.Proofs.YtbelnopbggkdfaaW.PrintLast Go.Proofs.YtbelnopbggkdfaaW.PrintMore
attribute [local go_sem] max2_int min2_int max_two min_two max_three min_three max_four min_four   -- for this text's walks alone
set_option linter.unusedVariables false
set_option linter.unusedSimpArgs false
def phasorref08_SameOp.f (k : Nat) (a0_0 : Int) (a0_1 : Int) (l0_2 : List Int) (a0_3 : Int) (a0_4 : Int) (a0_5 : Int) (a1_0 : Int) (a1_1 : Int) (l1_2 : List Int) (a1_3 : Int) (a1_4 : Int) (a1_5 : Int) : Option (Bool):=if a0_0=a1_0 then (if a0_1=a1_1 then (if a0_3=a1_3 then (if a0_4=a1_4 then (if a0_5=a1_5 then ((phasorref08_ints.f k l0_2 l1_2).bind fun t203 => (some t203)) else (some false)) else (some false)) else (some false)) else (some false)) else (some false)
set_option maxHeartbeats 8000000 in
set_option maxRecDepth 100000 in
theorem phasorref08_SameOp.calls (k : Nat) (a0_0 : Int) (a0_1 : Int) (A0_2 : Option Addr) (c0_2 : Nat) (l0_2 : List Int) (a0_3 : Int) (a0_4 : Int) (a0_5 : Int) (a1_0 : Int) (a1_1 : Int) (A1_2 : Option Addr) (c1_2 : Nat) (l1_2 : List Int) (a1_3 : Int) (a1_4 : Int) (a1_5 : Int) (r : Bool) (w : World) (hr0_2 : Kd.C (Kd.int .i64) w A0_2 l0_2.length l0_2) (hc0_2 : l0_2.length≤c0_2) (hr1_2 : Kd.C (Kd.int .i64) w A1_2 l1_2.length l1_2) (hc1_2 : l1_2.length≤c1_2) (h : phasorref08_SameOp.f k a0_0 a0_1 l0_2 a0_3 a0_4 a0_5 a1_0 a1_1 l1_2 a1_3 a1_4 a1_5=some r) :
  Calls Try.prog 58 #[.agg #[.int .i64 a0_0,.int .i64 a0_1,.slice A0_2 l0_2.length c0_2,.int .i64 a0_3,.int .i64 a0_4,.int .i64 a0_5],.agg #[.int .i64 a1_0,.int .i64 a1_1,.slice A1_2 l1_2.length c1_2,.int .i64 a1_3,.int .i64 a1_4,.int .i64 a1_5]] w fun e w' => e=.returned (.bool r)∧Below w.heap.size w w':=by
 have hu46:=Try.underlying46
 have HR0_2:=Aside0.mk hr0_2
 have HC0_2:=Aside0.mk hc0_2
 clear hr0_2 hc0_2
 have HR1_2:=Aside0.mk hr1_2
 have HC1_2:=Aside0.mk hc1_2
 clear hr1_2 hc1_2
 have HB:=Aside0.mk (Below.refl w.heap.size w)
 have H : (if a0_0=a1_0 then (if a0_1=a1_1 then (if a0_3=a1_3 then (if a0_4=a1_4 then (if a0_5=a1_5 then ((phasorref08_ints.f k l0_2 l1_2).bind fun t203 => (some t203)) else (some false)) else (some false)) else (some false)) else (some false)) else (some false))=some r:=h
 clear h
 by_cases c3 : a0_0=a1_0
 ·rw [if_pos c3] at H
  have c3b0 : (a0_0 == a1_0)=true:=beq_iff_eq.mpr c3
  have c3b1 : (a0_0 != a1_0)=false:=bne_eq_false_iff_eq.mpr c3
  clear c3
  by_cases c4 : a0_1=a1_1
  ·rw [if_pos c4] at H
   have c4b0 : (a0_1 == a1_1)=true:=beq_iff_eq.mpr c4
   have c4b1 : (a0_1 != a1_1)=false:=bne_eq_false_iff_eq.mpr c4
   clear c4
   by_cases c5 : a0_3=a1_3
   ·rw [if_pos c5] at H
    have c5b0 : (a0_3 == a1_3)=true:=beq_iff_eq.mpr c5
    have c5b1 : (a0_3 != a1_3)=false:=bne_eq_false_iff_eq.mpr c5
    clear c5
    by_cases c6 : a0_4=a1_4
    ·rw [if_pos c6] at H
     have c6b0 : (a0_4 == a1_4)=true:=beq_iff_eq.mpr c6
     have c6b1 : (a0_4 != a1_4)=false:=bne_eq_false_iff_eq.mpr c6
     clear c6
     by_cases c7 : a0_5=a1_5
     ·rw [if_pos c7] at H
      have c7b0 : (a0_5 == a1_5)=true:=beq_iff_eq.mpr c7
      have c7b1 : (a0_5 != a1_5)=false:=bne_eq_false_iff_eq.mpr c7
      clear c7
      replace H:=Option.bind_eq_some_iff.mp H
      obtain ⟨t203,A80,H⟩:=H
      replace H : (some t203)=some r:=H
      have A8:=Aside0.mk A80
      clear A80
      obtain rfl:=Option.some.inj H
      go_enter Try.func58,Try.ntmps58
      go_wp2_with (first|((with_reducible refine gate_dst (N:=2) rfl ?_);refine box_event ?hg (N:=2) ?hd (cs:=#[.int .i64 a0_0,.int .i64 a0_1,.slice A0_2 l0_2.length c0_2,.int .i64 a0_3,.int .i64 a0_4,.int .i64 a0_5]) (t:=46) ?hr ?_;(case hd => rfl);(case hg => rfl);(case hr => first|(go_simp;done)|(go_simp;rfl));intro gb201 hg w9 hbox hb;have n0_:=Aside0.mk (below_step (by repeat (first|(with_reducible first|exact HB.out|apply below_alloc|apply pw_below_drewN|apply below_drew1)|exact HB.out)) hb);have n1_:=Aside0.mk (hbox);have n2_:=Aside0.mk ((by rw [hg];exact (below_size (by repeat (first|(with_reducible first|exact HB.out|apply below_alloc|apply pw_below_drewN|apply below_drew1)|exact HB.out))) : w.heap.size≤gb201));have n3_:=Aside0.mk ((by rw [hg];exact (below_size (by repeat (first|(with_reducible first|exact HB.out|apply below_alloc|apply pw_below_drewN|apply below_drew1)|exact HB.out))) : w.heap.size≤gb201));clear HB;have HB:=n0_;have BK201:=n1_;have GW201:=n2_;have GE201:=n3_;clear n0_ n1_ n2_ n3_;clear hb hbox hg)|((with_reducible refine gate_dst (N:=3) rfl ?_);refine box_event ?hg (N:=3) ?hd (cs:=#[.int .i64 a1_0,.int .i64 a1_1,.slice A1_2 l1_2.length c1_2,.int .i64 a1_3,.int .i64 a1_4,.int .i64 a1_5]) (t:=46) ?hr ?_;(case hd => rfl);(case hg => rfl);(case hr => first|(go_simp;done)|(go_simp;rfl));intro gb202 hg w10 hbox hb;have n0_:=Aside0.mk (blk_below (g:=gb201) (o:=.cells #[.int .i64 a0_0,.int .i64 a0_1,.slice A0_2 l0_2.length c0_2,.int .i64 a0_3,.int .i64 a0_4,.int .i64 a0_5] 46 (0,0)) (by (with_reducible repeat (first|refine blk_drewN ?_ _|refine blk_drew ?_|refine blk_alloc ?_ _));exact BK201.out) hb);have n1_:=Aside0.mk (below_step (by repeat (first|(with_reducible first|exact HB.out|apply below_alloc|apply pw_below_drewN|apply below_drew1|refine below_set ?_ GE201.out)|exact HB.out)) hb);have n2_:=Aside0.mk (hbox);have n3_:=Aside0.mk ((by rw [hg];exact (below_size (by repeat (first|(with_reducible first|exact HB.out|apply below_alloc|apply pw_below_drewN|apply below_drew1|refine below_set ?_ GE201.out)|exact HB.out))) : w.heap.size≤gb202));have n4_:=Aside0.mk ((by rw [hg];exact (below_size (by repeat (first|(with_reducible first|exact HB.out|apply below_alloc|apply pw_below_drewN|apply below_drew1|refine below_set ?_ GE201.out)|exact HB.out))) : w.heap.size≤gb202));have n5_:=Aside0.mk ((by rw [hg];exact Nat.ne_of_lt (blk_lt (g:=gb201) (o:=.cells #[.int .i64 a0_0,.int .i64 a0_1,.slice A0_2 l0_2.length c0_2,.int .i64 a0_3,.int .i64 a0_4,.int .i64 a0_5] 46 (0,0)) (by (with_reducible repeat (first|refine blk_drewN ?_ _|refine blk_drew ?_|refine blk_alloc ?_ _));exact BK201.out)) : gb201≠gb202));have n6_:=Aside0.mk ((by rw [hg];exact Nat.ne_of_gt (blk_lt (g:=gb201) (o:=.cells #[.int .i64 a0_0,.int .i64 a0_1,.slice A0_2 l0_2.length c0_2,.int .i64 a0_3,.int .i64 a0_4,.int .i64 a0_5] 46 (0,0)) (by (with_reducible repeat (first|refine blk_drewN ?_ _|refine blk_drew ?_|refine blk_alloc ?_ _));exact BK201.out)) : gb202≠gb201));clear BK201;clear HB;have BK201:=n0_;have HB:=n1_;have BK202:=n2_;have GW202:=n3_;have GE202:=n4_;have NB201_202:=n5_;have NB202_201:=n6_;clear n0_ n1_ n2_ n3_ n4_ n5_ n6_;clear hb hbox hg;have hnb11:=NB201_202.out;have hnc11:=NB202_201.out;have hcz12_0 : w10.cell? ⟨gb201,0,none⟩=some (.int .i64 a0_0):=(blk_cell BK201.out 0).trans rfl;have hcz12_1 : w10.cell? ⟨gb201,1,none⟩=some (.int .i64 a0_1):=(blk_cell BK201.out 1).trans rfl;have hcz12_2 : w10.cell? ⟨gb201,2,none⟩=some (.slice A0_2 l0_2.length c0_2):=(blk_cell BK201.out 2).trans rfl;have hcz12_3 : w10.cell? ⟨gb201,3,none⟩=some (.int .i64 a0_3):=(blk_cell BK201.out 3).trans rfl;have hcz12_4 : w10.cell? ⟨gb201,4,none⟩=some (.int .i64 a0_4):=(blk_cell BK201.out 4).trans rfl;have hcz12_5 : w10.cell? ⟨gb201,5,none⟩=some (.int .i64 a0_5):=(blk_cell BK201.out 5).trans rfl;have hfz12_0:=blk_frozen BK201.out 0;have hfz12_1:=blk_frozen BK201.out 1;have hfz12_2:=blk_frozen BK201.out 2;have hfz12_3:=blk_frozen BK201.out 3;have hfz12_4:=blk_frozen BK201.out 4;have hfz12_5:=blk_frozen BK201.out 5;have hcz13_0 : w10.cell? ⟨gb202,0,none⟩=some (.int .i64 a1_0):=(blk_cell BK202.out 0).trans rfl;have hcz13_1 : w10.cell? ⟨gb202,1,none⟩=some (.int .i64 a1_1):=(blk_cell BK202.out 1).trans rfl;have hcz13_2 : w10.cell? ⟨gb202,2,none⟩=some (.slice A1_2 l1_2.length c1_2):=(blk_cell BK202.out 2).trans rfl;have hcz13_3 : w10.cell? ⟨gb202,3,none⟩=some (.int .i64 a1_3):=(blk_cell BK202.out 3).trans rfl;have hcz13_4 : w10.cell? ⟨gb202,4,none⟩=some (.int .i64 a1_4):=(blk_cell BK202.out 4).trans rfl;have hcz13_5 : w10.cell? ⟨gb202,5,none⟩=some (.int .i64 a1_5):=(blk_cell BK202.out 5).trans rfl;have hfz13_0:=blk_frozen BK202.out 0;have hfz13_1:=blk_frozen BK202.out 1;have hfz13_2:=blk_frozen BK202.out 2;have hfz13_3:=blk_frozen BK202.out 3;have hfz13_4:=blk_frozen BK202.out 4;have hfz13_5:=blk_frozen BK202.out 5)|(go_at_call 80;(with_reducible refine (phasorref08_ints.calls k _ _ l0_2 _ _ l1_2 t203 _ ?side1 ?side2 ?side3 ?side4 A8.out).mono ?_);(case side1 => repeat (first|exact (Kd.C_below HR0_2.out HB.out)|(with_reducible refine Kd.C_alloc ?_ _)|(with_reducible refine Kd.C_drewN ?_ _)|(with_reducible refine Kd.C_drew ?_)));(case side2 => exact HC0_2.out);(case side3 => repeat (first|exact (Kd.C_below HR1_2.out HB.out)|(with_reducible refine Kd.C_alloc ?_ _)|(with_reducible refine Kd.C_drewN ?_ _)|(with_reducible refine Kd.C_drew ?_)));(case side4 => exact HC1_2.out);rintro e w' ⟨rfl,⟨nd,rfl⟩⟩))
      go_ret
      exact ⟨by first|rfl|(simp [errW_none,errW_some] <;> rfl)|(simp [*,errW_none,errW_some] <;> rfl),by repeat (first|(with_reducible first|exact HB.out|apply below_alloc|apply pw_below_drewN|apply below_drew1|refine below_set ?_ GE201.out|refine below_set ?_ GE202.out)|exact HB.out)⟩
     ·rw [if_neg c7] at H
      have c7b0 : (a0_5 == a1_5)=false:=beq_eq_false_iff_ne.mpr c7
      have c7b1 : (a0_5 != a1_5)=true:=bne_iff_ne.mpr c7
      obtain rfl:=Option.some.inj H
      go_enter Try.func58,Try.ntmps58
      go_wp2_with (first|((with_reducible refine gate_dst (N:=2) rfl ?_);refine box_event ?hg (N:=2) ?hd (cs:=#[.int .i64 a0_0,.int .i64 a0_1,.slice A0_2 l0_2.length c0_2,.int .i64 a0_3,.int .i64 a0_4,.int .i64 a0_5]) (t:=46) ?hr ?_;(case hd => rfl);(case hg => rfl);(case hr => first|(go_simp;done)|(go_simp;rfl));intro gb201 hg w14 hbox hb;have n0_:=Aside0.mk (below_step (by repeat (first|(with_reducible first|exact HB.out|apply below_alloc|apply pw_below_drewN|apply below_drew1)|exact HB.out)) hb);have n1_:=Aside0.mk (hbox);have n2_:=Aside0.mk ((by rw [hg];exact (below_size (by repeat (first|(with_reducible first|exact HB.out|apply below_alloc|apply pw_below_drewN|apply below_drew1)|exact HB.out))) : w.heap.size≤gb201));have n3_:=Aside0.mk ((by rw [hg];exact (below_size (by repeat (first|(with_reducible first|exact HB.out|apply below_alloc|apply pw_below_drewN|apply below_drew1)|exact HB.out))) : w.heap.size≤gb201));clear HB;have HB:=n0_;have BK201:=n1_;have GW201:=n2_;have GE201:=n3_;clear n0_ n1_ n2_ n3_;clear hb hbox hg)|((with_reducible refine gate_dst (N:=3) rfl ?_);refine box_event ?hg (N:=3) ?hd (cs:=#[.int .i64 a1_0,.int .i64 a1_1,.slice A1_2 l1_2.length c1_2,.int .i64 a1_3,.int .i64 a1_4,.int .i64 a1_5]) (t:=46) ?hr ?_;(case hd => rfl);(case hg => rfl);(case hr => first|(go_simp;done)|(go_simp;rfl));intro gb202 hg w15 hbox hb;have n0_:=Aside0.mk (blk_below (g:=gb201) (o:=.cells #[.int .i64 a0_0,.int .i64 a0_1,.slice A0_2 l0_2.length c0_2,.int .i64 a0_3,.int .i64 a0_4,.int .i64 a0_5] 46 (0,0)) (by (with_reducible repeat (first|refine blk_drewN ?_ _|refine blk_drew ?_|refine blk_alloc ?_ _));exact BK201.out) hb);have n1_:=Aside0.mk (below_step (by repeat (first|(with_reducible first|exact HB.out|apply below_alloc|apply pw_below_drewN|apply below_drew1|refine below_set ?_ GE201.out)|exact HB.out)) hb);have n2_:=Aside0.mk (hbox);have n3_:=Aside0.mk ((by rw [hg];exact (below_size (by repeat (first|(with_reducible first|exact HB.out|apply below_alloc|apply pw_below_drewN|apply below_drew1|refine below_set ?_ GE201.out)|exact HB.out))) : w.heap.size≤gb202));have n4_:=Aside0.mk ((by rw [hg];exact (below_size (by repeat (first|(with_reducible first|exact HB.out|apply below_alloc|apply pw_below_drewN|apply below_drew1|refine below_set ?_ GE201.out)|exact HB.out))) : w.heap.size≤gb202));have n5_:=Aside0.mk ((by rw [hg];exact Nat.ne_of_lt (blk_lt (g:=gb201) (o:=.cells #[.int .i64 a0_0,.int .i64 a0_1,.slice A0_2 l0_2.length c0_2,.int .i64 a0_3,.int .i64 a0_4,.int .i64 a0_5] 46 (0,0)) (by (with_reducible repeat (first|refine blk_drewN ?_ _|refine blk_drew ?_|refine blk_alloc ?_ _));exact BK201.out)) : gb201≠gb202));have n6_:=Aside0.mk ((by rw [hg];exact Nat.ne_of_gt (blk_lt (g:=gb201) (o:=.cells #[.int .i64 a0_0,.int .i64 a0_1,.slice A0_2 l0_2.length c0_2,.int .i64 a0_3,.int .i64 a0_4,.int .i64 a0_5] 46 (0,0)) (by (with_reducible repeat (first|refine blk_drewN ?_ _|refine blk_drew ?_|refine blk_alloc ?_ _));exact BK201.out)) : gb202≠gb201));clear BK201;clear HB;have BK201:=n0_;have HB:=n1_;have BK202:=n2_;have GW202:=n3_;have GE202:=n4_;have NB201_202:=n5_;have NB202_201:=n6_;clear n0_ n1_ n2_ n3_ n4_ n5_ n6_;clear hb hbox hg;have hnb16:=NB201_202.out;have hnc16:=NB202_201.out;have hcz17_0 : w15.cell? ⟨gb201,0,none⟩=some (.int .i64 a0_0):=(blk_cell BK201.out 0).trans rfl;have hcz17_1 : w15.cell? ⟨gb201,1,none⟩=some (.int .i64 a0_1):=(blk_cell BK201.out 1).trans rfl;have hcz17_2 : w15.cell? ⟨gb201,2,none⟩=some (.slice A0_2 l0_2.length c0_2):=(blk_cell BK201.out 2).trans rfl;have hcz17_3 : w15.cell? ⟨gb201,3,none⟩=some (.int .i64 a0_3):=(blk_cell BK201.out 3).trans rfl;have hcz17_4 : w15.cell? ⟨gb201,4,none⟩=some (.int .i64 a0_4):=(blk_cell BK201.out 4).trans rfl;have hcz17_5 : w15.cell? ⟨gb201,5,none⟩=some (.int .i64 a0_5):=(blk_cell BK201.out 5).trans rfl;have hfz17_0:=blk_frozen BK201.out 0;have hfz17_1:=blk_frozen BK201.out 1;have hfz17_2:=blk_frozen BK201.out 2;have hfz17_3:=blk_frozen BK201.out 3;have hfz17_4:=blk_frozen BK201.out 4;have hfz17_5:=blk_frozen BK201.out 5;have hcz18_0 : w15.cell? ⟨gb202,0,none⟩=some (.int .i64 a1_0):=(blk_cell BK202.out 0).trans rfl;have hcz18_1 : w15.cell? ⟨gb202,1,none⟩=some (.int .i64 a1_1):=(blk_cell BK202.out 1).trans rfl;have hcz18_2 : w15.cell? ⟨gb202,2,none⟩=some (.slice A1_2 l1_2.length c1_2):=(blk_cell BK202.out 2).trans rfl;have hcz18_3 : w15.cell? ⟨gb202,3,none⟩=some (.int .i64 a1_3):=(blk_cell BK202.out 3).trans rfl;have hcz18_4 : w15.cell? ⟨gb202,4,none⟩=some (.int .i64 a1_4):=(blk_cell BK202.out 4).trans rfl;have hcz18_5 : w15.cell? ⟨gb202,5,none⟩=some (.int .i64 a1_5):=(blk_cell BK202.out 5).trans rfl;have hfz18_0:=blk_frozen BK202.out 0;have hfz18_1:=blk_frozen BK202.out 1;have hfz18_2:=blk_frozen BK202.out 2;have hfz18_3:=blk_frozen BK202.out 3;have hfz18_4:=blk_frozen BK202.out 4;have hfz18_5:=blk_frozen BK202.out 5))
      go_ret
      exact ⟨by first|rfl|(simp [errW_none,errW_some] <;> rfl)|(simp [*,errW_none,errW_some] <;> rfl),by repeat (first|(with_reducible first|exact HB.out|apply below_alloc|apply pw_below_drewN|apply below_drew1|refine below_set ?_ GE201.out|refine below_set ?_ GE202.out)|exact HB.out)⟩
    ·rw [if_neg c6] at H
     have c6b0 : (a0_4 == a1_4)=false:=beq_eq_false_iff_ne.mpr c6
     have c6b1 : (a0_4 != a1_4)=true:=bne_iff_ne.mpr c6
     obtain rfl:=Option.some.inj H
     go_enter Try.func58,Try.ntmps58
     go_wp2_with (first|((with_reducible refine gate_dst (N:=2) rfl ?_);refine box_event ?hg (N:=2) ?hd (cs:=#[.int .i64 a0_0,.int .i64 a0_1,.slice A0_2 l0_2.length c0_2,.int .i64 a0_3,.int .i64 a0_4,.int .i64 a0_5]) (t:=46) ?hr ?_;(case hd => rfl);(case hg => rfl);(case hr => first|(go_simp;done)|(go_simp;rfl));intro gb201 hg w19 hbox hb;have n0_:=Aside0.mk (below_step (by repeat (first|(with_reducible first|exact HB.out|apply below_alloc|apply pw_below_drewN|apply below_drew1)|exact HB.out)) hb);have n1_:=Aside0.mk (hbox);have n2_:=Aside0.mk ((by rw [hg];exact (below_size (by repeat (first|(with_reducible first|exact HB.out|apply below_alloc|apply pw_below_drewN|apply below_drew1)|exact HB.out))) : w.heap.size≤gb201));have n3_:=Aside0.mk ((by rw [hg];exact (below_size (by repeat (first|(with_reducible first|exact HB.out|apply below_alloc|apply pw_below_drewN|apply below_drew1)|exact HB.out))) : w.heap.size≤gb201));clear HB;have HB:=n0_;have BK201:=n1_;have GW201:=n2_;have GE201:=n3_;clear n0_ n1_ n2_ n3_;clear hb hbox hg)|((with_reducible refine gate_dst (N:=3) rfl ?_);refine box_event ?hg (N:=3) ?hd (cs:=#[.int .i64 a1_0,.int .i64 a1_1,.slice A1_2 l1_2.length c1_2,.int .i64 a1_3,.int .i64 a1_4,.int .i64 a1_5]) (t:=46) ?hr ?_;(case hd => rfl);(case hg => rfl);(case hr => first|(go_simp;done)|(go_simp;rfl));intro gb202 hg w20 hbox hb;have n0_:=Aside0.mk (blk_below (g:=gb201) (o:=.cells #[.int .i64 a0_0,.int .i64 a0_1,.slice A0_2 l0_2.length c0_2,.int .i64 a0_3,.int .i64 a0_4,.int .i64 a0_5] 46 (0,0)) (by (with_reducible repeat (first|refine blk_drewN ?_ _|refine blk_drew ?_|refine blk_alloc ?_ _));exact BK201.out) hb);have n1_:=Aside0.mk (below_step (by repeat (first|(with_reducible first|exact HB.out|apply below_alloc|apply pw_below_drewN|apply below_drew1|refine below_set ?_ GE201.out)|exact HB.out)) hb);have n2_:=Aside0.mk (hbox);have n3_:=Aside0.mk ((by rw [hg];exact (below_size (by repeat (first|(with_reducible first|exact HB.out|apply below_alloc|apply pw_below_drewN|apply below_drew1|refine below_set ?_ GE201.out)|exact HB.out))) : w.heap.size≤gb202));have n4_:=Aside0.mk ((by rw [hg];exact (below_size (by repeat (first|(with_reducible first|exact HB.out|apply below_alloc|apply pw_below_drewN|apply below_drew1|refine below_set ?_ GE201.out)|exact HB.out))) : w.heap.size≤gb202));have n5_:=Aside0.mk ((by rw [hg];exact Nat.ne_of_lt (blk_lt (g:=gb201) (o:=.cells #[.int .i64 a0_0,.int .i64 a0_1,.slice A0_2 l0_2.length c0_2,.int .i64 a0_3,.int .i64 a0_4,.int .i64 a0_5] 46 (0,0)) (by (with_reducible repeat (first|refine blk_drewN ?_ _|refine blk_drew ?_|refine blk_alloc ?_ _));exact BK201.out)) : gb201≠gb202));have n6_:=Aside0.mk ((by rw [hg];exact Nat.ne_of_gt (blk_lt (g:=gb201) (o:=.cells #[.int .i64 a0_0,.int .i64 a0_1,.slice A0_2 l0_2.length c0_2,.int .i64 a0_3,.int .i64 a0_4,.int .i64 a0_5] 46 (0,0)) (by (with_reducible repeat (first|refine blk_drewN ?_ _|refine blk_drew ?_|refine blk_alloc ?_ _));exact BK201.out)) : gb202≠gb201));clear BK201;clear HB;have BK201:=n0_;have HB:=n1_;have BK202:=n2_;have GW202:=n3_;have GE202:=n4_;have NB201_202:=n5_;have NB202_201:=n6_;clear n0_ n1_ n2_ n3_ n4_ n5_ n6_;clear hb hbox hg;have hnb21:=NB201_202.out;have hnc21:=NB202_201.out;have hcz22_0 : w20.cell? ⟨gb201,0,none⟩=some (.int .i64 a0_0):=(blk_cell BK201.out 0).trans rfl;have hcz22_1 : w20.cell? ⟨gb201,1,none⟩=some (.int .i64 a0_1):=(blk_cell BK201.out 1).trans rfl;have hcz22_2 : w20.cell? ⟨gb201,2,none⟩=some (.slice A0_2 l0_2.length c0_2):=(blk_cell BK201.out 2).trans rfl;have hcz22_3 : w20.cell? ⟨gb201,3,none⟩=some (.int .i64 a0_3):=(blk_cell BK201.out 3).trans rfl;have hcz22_4 : w20.cell? ⟨gb201,4,none⟩=some (.int .i64 a0_4):=(blk_cell BK201.out 4).trans rfl;have hcz22_5 : w20.cell? ⟨gb201,5,none⟩=some (.int .i64 a0_5):=(blk_cell BK201.out 5).trans rfl;have hfz22_0:=blk_frozen BK201.out 0;have hfz22_1:=blk_frozen BK201.out 1;have hfz22_2:=blk_frozen BK201.out 2;have hfz22_3:=blk_frozen BK201.out 3;have hfz22_4:=blk_frozen BK201.out 4;have hfz22_5:=blk_frozen BK201.out 5;have hcz23_0 : w20.cell? ⟨gb202,0,none⟩=some (.int .i64 a1_0):=(blk_cell BK202.out 0).trans rfl;have hcz23_1 : w20.cell? ⟨gb202,1,none⟩=some (.int .i64 a1_1):=(blk_cell BK202.out 1).trans rfl;have hcz23_2 : w20.cell? ⟨gb202,2,none⟩=some (.slice A1_2 l1_2.length c1_2):=(blk_cell BK202.out 2).trans rfl;have hcz23_3 : w20.cell? ⟨gb202,3,none⟩=some (.int .i64 a1_3):=(blk_cell BK202.out 3).trans rfl;have hcz23_4 : w20.cell? ⟨gb202,4,none⟩=some (.int .i64 a1_4):=(blk_cell BK202.out 4).trans rfl;have hcz23_5 : w20.cell? ⟨gb202,5,none⟩=some (.int .i64 a1_5):=(blk_cell BK202.out 5).trans rfl;have hfz23_0:=blk_frozen BK202.out 0;have hfz23_1:=blk_frozen BK202.out 1;have hfz23_2:=blk_frozen BK202.out 2;have hfz23_3:=blk_frozen BK202.out 3;have hfz23_4:=blk_frozen BK202.out 4;have hfz23_5:=blk_frozen BK202.out 5))
     go_ret
     exact ⟨by first|rfl|(simp [errW_none,errW_some] <;> rfl)|(simp [*,errW_none,errW_some] <;> rfl),by repeat (first|(with_reducible first|exact HB.out|apply below_alloc|apply pw_below_drewN|apply below_drew1|refine below_set ?_ GE201.out|refine below_set ?_ GE202.out)|exact HB.out)⟩
   ·rw [if_neg c5] at H
    have c5b0 : (a0_3 == a1_3)=false:=beq_eq_false_iff_ne.mpr c5
    have c5b1 : (a0_3 != a1_3)=true:=bne_iff_ne.mpr c5
    obtain rfl:=Option.some.inj H
    go_enter Try.func58,Try.ntmps58
    go_wp2_with (first|((with_reducible refine gate_dst (N:=2) rfl ?_);refine box_event ?hg (N:=2) ?hd (cs:=#[.int .i64 a0_0,.int .i64 a0_1,.slice A0_2 l0_2.length c0_2,.int .i64 a0_3,.int .i64 a0_4,.int .i64 a0_5]) (t:=46) ?hr ?_;(case hd => rfl);(case hg => rfl);(case hr => first|(go_simp;done)|(go_simp;rfl));intro gb201 hg w24 hbox hb;have n0_:=Aside0.mk (below_step (by repeat (first|(with_reducible first|exact HB.out|apply below_alloc|apply pw_below_drewN|apply below_drew1)|exact HB.out)) hb);have n1_:=Aside0.mk (hbox);have n2_:=Aside0.mk ((by rw [hg];exact (below_size (by repeat (first|(with_reducible first|exact HB.out|apply below_alloc|apply pw_below_drewN|apply below_drew1)|exact HB.out))) : w.heap.size≤gb201));have n3_:=Aside0.mk ((by rw [hg];exact (below_size (by repeat (first|(with_reducible first|exact HB.out|apply below_alloc|apply pw_below_drewN|apply below_drew1)|exact HB.out))) : w.heap.size≤gb201));clear HB;have HB:=n0_;have BK201:=n1_;have GW201:=n2_;have GE201:=n3_;clear n0_ n1_ n2_ n3_;clear hb hbox hg)|((with_reducible refine gate_dst (N:=3) rfl ?_);refine box_event ?hg (N:=3) ?hd (cs:=#[.int .i64 a1_0,.int .i64 a1_1,.slice A1_2 l1_2.length c1_2,.int .i64 a1_3,.int .i64 a1_4,.int .i64 a1_5]) (t:=46) ?hr ?_;(case hd => rfl);(case hg => rfl);(case hr => first|(go_simp;done)|(go_simp;rfl));intro gb202 hg w25 hbox hb;have n0_:=Aside0.mk (blk_below (g:=gb201) (o:=.cells #[.int .i64 a0_0,.int .i64 a0_1,.slice A0_2 l0_2.length c0_2,.int .i64 a0_3,.int .i64 a0_4,.int .i64 a0_5] 46 (0,0)) (by (with_reducible repeat (first|refine blk_drewN ?_ _|refine blk_drew ?_|refine blk_alloc ?_ _));exact BK201.out) hb);have n1_:=Aside0.mk (below_step (by repeat (first|(with_reducible first|exact HB.out|apply below_alloc|apply pw_below_drewN|apply below_drew1|refine below_set ?_ GE201.out)|exact HB.out)) hb);have n2_:=Aside0.mk (hbox);have n3_:=Aside0.mk ((by rw [hg];exact (below_size (by repeat (first|(with_reducible first|exact HB.out|apply below_alloc|apply pw_below_drewN|apply below_drew1|refine below_set ?_ GE201.out)|exact HB.out))) : w.heap.size≤gb202));have n4_:=Aside0.mk ((by rw [hg];exact (below_size (by repeat (first|(with_reducible first|exact HB.out|apply below_alloc|apply pw_below_drewN|apply below_drew1|refine below_set ?_ GE201.out)|exact HB.out))) : w.heap.size≤gb202));have n5_:=Aside0.mk ((by rw [hg];exact Nat.ne_of_lt (blk_lt (g:=gb201) (o:=.cells #[.int .i64 a0_0,.int .i64 a0_1,.slice A0_2 l0_2.length c0_2,.int .i64 a0_3,.int .i64 a0_4,.int .i64 a0_5] 46 (0,0)) (by (with_reducible repeat (first|refine blk_drewN ?_ _|refine blk_drew ?_|refine blk_alloc ?_ _));exact BK201.out)) : gb201≠gb202));have n6_:=Aside0.mk ((by rw [hg];exact Nat.ne_of_gt (blk_lt (g:=gb201) (o:=.cells #[.int .i64 a0_0,.int .i64 a0_1,.slice A0_2 l0_2.length c0_2,.int .i64 a0_3,.int .i64 a0_4,.int .i64 a0_5] 46 (0,0)) (by (with_reducible repeat (first|refine blk_drewN ?_ _|refine blk_drew ?_|refine blk_alloc ?_ _));exact BK201.out)) : gb202≠gb201));clear BK201;clear HB;have BK201:=n0_;have HB:=n1_;have BK202:=n2_;have GW202:=n3_;have GE202:=n4_;have NB201_202:=n5_;have NB202_201:=n6_;clear n0_ n1_ n2_ n3_ n4_ n5_ n6_;clear hb hbox hg;have hnb26:=NB201_202.out;have hnc26:=NB202_201.out;have hcz27_0 : w25.cell? ⟨gb201,0,none⟩=some (.int .i64 a0_0):=(blk_cell BK201.out 0).trans rfl;have hcz27_1 : w25.cell? ⟨gb201,1,none⟩=some (.int .i64 a0_1):=(blk_cell BK201.out 1).trans rfl;have hcz27_2 : w25.cell? ⟨gb201,2,none⟩=some (.slice A0_2 l0_2.length c0_2):=(blk_cell BK201.out 2).trans rfl;have hcz27_3 : w25.cell? ⟨gb201,3,none⟩=some (.int .i64 a0_3):=(blk_cell BK201.out 3).trans rfl;have hcz27_4 : w25.cell? ⟨gb201,4,none⟩=some (.int .i64 a0_4):=(blk_cell BK201.out 4).trans rfl;have hcz27_5 : w25.cell? ⟨gb201,5,none⟩=some (.int .i64 a0_5):=(blk_cell BK201.out 5).trans rfl;have hfz27_0:=blk_frozen BK201.out 0;have hfz27_1:=blk_frozen BK201.out 1;have hfz27_2:=blk_frozen BK201.out 2;have hfz27_3:=blk_frozen BK201.out 3;have hfz27_4:=blk_frozen BK201.out 4;have hfz27_5:=blk_frozen BK201.out 5;have hcz28_0 : w25.cell? ⟨gb202,0,none⟩=some (.int .i64 a1_0):=(blk_cell BK202.out 0).trans rfl;have hcz28_1 : w25.cell? ⟨gb202,1,none⟩=some (.int .i64 a1_1):=(blk_cell BK202.out 1).trans rfl;have hcz28_2 : w25.cell? ⟨gb202,2,none⟩=some (.slice A1_2 l1_2.length c1_2):=(blk_cell BK202.out 2).trans rfl;have hcz28_3 : w25.cell? ⟨gb202,3,none⟩=some (.int .i64 a1_3):=(blk_cell BK202.out 3).trans rfl;have hcz28_4 : w25.cell? ⟨gb202,4,none⟩=some (.int .i64 a1_4):=(blk_cell BK202.out 4).trans rfl;have hcz28_5 : w25.cell? ⟨gb202,5,none⟩=some (.int .i64 a1_5):=(blk_cell BK202.out 5).trans rfl;have hfz28_0:=blk_frozen BK202.out 0;have hfz28_1:=blk_frozen BK202.out 1;have hfz28_2:=blk_frozen BK202.out 2;have hfz28_3:=blk_frozen BK202.out 3;have hfz28_4:=blk_frozen BK202.out 4;have hfz28_5:=blk_frozen BK202.out 5))
    go_ret
    exact ⟨by first|rfl|(simp [errW_none,errW_some] <;> rfl)|(simp [*,errW_none,errW_some] <;> rfl),by repeat (first|(with_reducible first|exact HB.out|apply below_alloc|apply pw_below_drewN|apply below_drew1|refine below_set ?_ GE201.out|refine below_set ?_ GE202.out)|exact HB.out)⟩
  ·rw [if_neg c4] at H
   have c4b0 : (a0_1 == a1_1)=false:=beq_eq_false_iff_ne.mpr c4
   have c4b1 : (a0_1 != a1_1)=true:=bne_iff_ne.mpr c4
   obtain rfl:=Option.some.inj H
   go_enter Try.func58,Try.ntmps58
   go_wp2_with (first|((with_reducible refine gate_dst (N:=2) rfl ?_);refine box_event ?hg (N:=2) ?hd (cs:=#[.int .i64 a0_0,.int .i64 a0_1,.slice A0_2 l0_2.length c0_2,.int .i64 a0_3,.int .i64 a0_4,.int .i64 a0_5]) (t:=46) ?hr ?_;(case hd => rfl);(case hg => rfl);(case hr => first|(go_simp;done)|(go_simp;rfl));intro gb201 hg w29 hbox hb;have n0_:=Aside0.mk (below_step (by repeat (first|(with_reducible first|exact HB.out|apply below_alloc|apply pw_below_drewN|apply below_drew1)|exact HB.out)) hb);have n1_:=Aside0.mk (hbox);have n2_:=Aside0.mk ((by rw [hg];exact (below_size (by repeat (first|(with_reducible first|exact HB.out|apply below_alloc|apply pw_below_drewN|apply below_drew1)|exact HB.out))) : w.heap.size≤gb201));have n3_:=Aside0.mk ((by rw [hg];exact (below_size (by repeat (first|(with_reducible first|exact HB.out|apply below_alloc|apply pw_below_drewN|apply below_drew1)|exact HB.out))) : w.heap.size≤gb201));clear HB;have HB:=n0_;have BK201:=n1_;have GW201:=n2_;have GE201:=n3_;clear n0_ n1_ n2_ n3_;clear hb hbox hg)|((with_reducible refine gate_dst (N:=3) rfl ?_);refine box_event ?hg (N:=3) ?hd (cs:=#[.int .i64 a1_0,.int .i64 a1_1,.slice A1_2 l1_2.length c1_2,.int .i64 a1_3,.int .i64 a1_4,.int .i64 a1_5]) (t:=46) ?hr ?_;(case hd => rfl);(case hg => rfl);(case hr => first|(go_simp;done)|(go_simp;rfl));intro gb202 hg w30 hbox hb;have n0_:=Aside0.mk (blk_below (g:=gb201) (o:=.cells #[.int .i64 a0_0,.int .i64 a0_1,.slice A0_2 l0_2.length c0_2,.int .i64 a0_3,.int .i64 a0_4,.int .i64 a0_5] 46 (0,0)) (by (with_reducible repeat (first|refine blk_drewN ?_ _|refine blk_drew ?_|refine blk_alloc ?_ _));exact BK201.out) hb);have n1_:=Aside0.mk (below_step (by repeat (first|(with_reducible first|exact HB.out|apply below_alloc|apply pw_below_drewN|apply below_drew1|refine below_set ?_ GE201.out)|exact HB.out)) hb);have n2_:=Aside0.mk (hbox);have n3_:=Aside0.mk ((by rw [hg];exact (below_size (by repeat (first|(with_reducible first|exact HB.out|apply below_alloc|apply pw_below_drewN|apply below_drew1|refine below_set ?_ GE201.out)|exact HB.out))) : w.heap.size≤gb202));have n4_:=Aside0.mk ((by rw [hg];exact (below_size (by repeat (first|(with_reducible first|exact HB.out|apply below_alloc|apply pw_below_drewN|apply below_drew1|refine below_set ?_ GE201.out)|exact HB.out))) : w.heap.size≤gb202));have n5_:=Aside0.mk ((by rw [hg];exact Nat.ne_of_lt (blk_lt (g:=gb201) (o:=.cells #[.int .i64 a0_0,.int .i64 a0_1,.slice A0_2 l0_2.length c0_2,.int .i64 a0_3,.int .i64 a0_4,.int .i64 a0_5] 46 (0,0)) (by (with_reducible repeat (first|refine blk_drewN ?_ _|refine blk_drew ?_|refine blk_alloc ?_ _));exact BK201.out)) : gb201≠gb202));have n6_:=Aside0.mk ((by rw [hg];exact Nat.ne_of_gt (blk_lt (g:=gb201) (o:=.cells #[.int .i64 a0_0,.int .i64 a0_1,.slice A0_2 l0_2.length c0_2,.int .i64 a0_3,.int .i64 a0_4,.int .i64 a0_5] 46 (0,0)) (by (with_reducible repeat (first|refine blk_drewN ?_ _|refine blk_drew ?_|refine blk_alloc ?_ _));exact BK201.out)) : gb202≠gb201));clear BK201;clear HB;have BK201:=n0_;have HB:=n1_;have BK202:=n2_;have GW202:=n3_;have GE202:=n4_;have NB201_202:=n5_;have NB202_201:=n6_;clear n0_ n1_ n2_ n3_ n4_ n5_ n6_;clear hb hbox hg;have hnb31:=NB201_202.out;have hnc31:=NB202_201.out;have hcz32_0 : w30.cell? ⟨gb201,0,none⟩=some (.int .i64 a0_0):=(blk_cell BK201.out 0).trans rfl;have hcz32_1 : w30.cell? ⟨gb201,1,none⟩=some (.int .i64 a0_1):=(blk_cell BK201.out 1).trans rfl;have hcz32_2 : w30.cell? ⟨gb201,2,none⟩=some (.slice A0_2 l0_2.length c0_2):=(blk_cell BK201.out 2).trans rfl;have hcz32_3 : w30.cell? ⟨gb201,3,none⟩=some (.int .i64 a0_3):=(blk_cell BK201.out 3).trans rfl;have hcz32_4 : w30.cell? ⟨gb201,4,none⟩=some (.int .i64 a0_4):=(blk_cell BK201.out 4).trans rfl;have hcz32_5 : w30.cell? ⟨gb201,5,none⟩=some (.int .i64 a0_5):=(blk_cell BK201.out 5).trans rfl;have hfz32_0:=blk_frozen BK201.out 0;have hfz32_1:=blk_frozen BK201.out 1;have hfz32_2:=blk_frozen BK201.out 2;have hfz32_3:=blk_frozen BK201.out 3;have hfz32_4:=blk_frozen BK201.out 4;have hfz32_5:=blk_frozen BK201.out 5;have hcz33_0 : w30.cell? ⟨gb202,0,none⟩=some (.int .i64 a1_0):=(blk_cell BK202.out 0).trans rfl;have hcz33_1 : w30.cell? ⟨gb202,1,none⟩=some (.int .i64 a1_1):=(blk_cell BK202.out 1).trans rfl;have hcz33_2 : w30.cell? ⟨gb202,2,none⟩=some (.slice A1_2 l1_2.length c1_2):=(blk_cell BK202.out 2).trans rfl;have hcz33_3 : w30.cell? ⟨gb202,3,none⟩=some (.int .i64 a1_3):=(blk_cell BK202.out 3).trans rfl;have hcz33_4 : w30.cell? ⟨gb202,4,none⟩=some (.int .i64 a1_4):=(blk_cell BK202.out 4).trans rfl;have hcz33_5 : w30.cell? ⟨gb202,5,none⟩=some (.int .i64 a1_5):=(blk_cell BK202.out 5).trans rfl;have hfz33_0:=blk_frozen BK202.out 0;have hfz33_1:=blk_frozen BK202.out 1;have hfz33_2:=blk_frozen BK202.out 2;have hfz33_3:=blk_frozen BK202.out 3;have hfz33_4:=blk_frozen BK202.out 4;have hfz33_5:=blk_frozen BK202.out 5))
   go_ret
   exact ⟨by first|rfl|(simp [errW_none,errW_some] <;> rfl)|(simp [*,errW_none,errW_some] <;> rfl),by repeat (first|(with_reducible first|exact HB.out|apply below_alloc|apply pw_below_drewN|apply below_drew1|refine below_set ?_ GE201.out|refine below_set ?_ GE202.out)|exact HB.out)⟩
 ·rw [if_neg c3] at H
  have c3b0 : (a0_0 == a1_0)=false:=beq_eq_false_iff_ne.mpr c3
  have c3b1 : (a0_0 != a1_0)=true:=bne_iff_ne.mpr c3
  obtain rfl:=Option.some.inj H
  go_enter Try.func58,Try.ntmps58
  go_wp2_with (first|((with_reducible refine gate_dst (N:=2) rfl ?_);refine box_event ?hg (N:=2) ?hd (cs:=#[.int .i64 a0_0,.int .i64 a0_1,.slice A0_2 l0_2.length c0_2,.int .i64 a0_3,.int .i64 a0_4,.int .i64 a0_5]) (t:=46) ?hr ?_;(case hd => rfl);(case hg => rfl);(case hr => first|(go_simp;done)|(go_simp;rfl));intro gb201 hg w34 hbox hb;have n0_:=Aside0.mk (below_step (by repeat (first|(with_reducible first|exact HB.out|apply below_alloc|apply pw_below_drewN|apply below_drew1)|exact HB.out)) hb);have n1_:=Aside0.mk (hbox);have n2_:=Aside0.mk ((by rw [hg];exact (below_size (by repeat (first|(with_reducible first|exact HB.out|apply below_alloc|apply pw_below_drewN|apply below_drew1)|exact HB.out))) : w.heap.size≤gb201));have n3_:=Aside0.mk ((by rw [hg];exact (below_size (by repeat (first|(with_reducible first|exact HB.out|apply below_alloc|apply pw_below_drewN|apply below_drew1)|exact HB.out))) : w.heap.size≤gb201));clear HB;have HB:=n0_;have BK201:=n1_;have GW201:=n2_;have GE201:=n3_;clear n0_ n1_ n2_ n3_;clear hb hbox hg)|((with_reducible refine gate_dst (N:=3) rfl ?_);refine box_event ?hg (N:=3) ?hd (cs:=#[.int .i64 a1_0,.int .i64 a1_1,.slice A1_2 l1_2.length c1_2,.int .i64 a1_3,.int .i64 a1_4,.int .i64 a1_5]) (t:=46) ?hr ?_;(case hd => rfl);(case hg => rfl);(case hr => first|(go_simp;done)|(go_simp;rfl));intro gb202 hg w35 hbox hb;have n0_:=Aside0.mk (blk_below (g:=gb201) (o:=.cells #[.int .i64 a0_0,.int .i64 a0_1,.slice A0_2 l0_2.length c0_2,.int .i64 a0_3,.int .i64 a0_4,.int .i64 a0_5] 46 (0,0)) (by (with_reducible repeat (first|refine blk_drewN ?_ _|refine blk_drew ?_|refine blk_alloc ?_ _));exact BK201.out) hb);have n1_:=Aside0.mk (below_step (by repeat (first|(with_reducible first|exact HB.out|apply below_alloc|apply pw_below_drewN|apply below_drew1|refine below_set ?_ GE201.out)|exact HB.out)) hb);have n2_:=Aside0.mk (hbox);have n3_:=Aside0.mk ((by rw [hg];exact (below_size (by repeat (first|(with_reducible first|exact HB.out|apply below_alloc|apply pw_below_drewN|apply below_drew1|refine below_set ?_ GE201.out)|exact HB.out))) : w.heap.size≤gb202));have n4_:=Aside0.mk ((by rw [hg];exact (below_size (by repeat (first|(with_reducible first|exact HB.out|apply below_alloc|apply pw_below_drewN|apply below_drew1|refine below_set ?_ GE201.out)|exact HB.out))) : w.heap.size≤gb202));have n5_:=Aside0.mk ((by rw [hg];exact Nat.ne_of_lt (blk_lt (g:=gb201) (o:=.cells #[.int .i64 a0_0,.int .i64 a0_1,.slice A0_2 l0_2.length c0_2,.int .i64 a0_3,.int .i64 a0_4,.int .i64 a0_5] 46 (0,0)) (by (with_reducible repeat (first|refine blk_drewN ?_ _|refine blk_drew ?_|refine blk_alloc ?_ _));exact BK201.out)) : gb201≠gb202));have n6_:=Aside0.mk ((by rw [hg];exact Nat.ne_of_gt (blk_lt (g:=gb201) (o:=.cells #[.int .i64 a0_0,.int .i64 a0_1,.slice A0_2 l0_2.length c0_2,.int .i64 a0_3,.int .i64 a0_4,.int .i64 a0_5] 46 (0,0)) (by (with_reducible repeat (first|refine blk_drewN ?_ _|refine blk_drew ?_|refine blk_alloc ?_ _));exact BK201.out)) : gb202≠gb201));clear BK201;clear HB;have BK201:=n0_;have HB:=n1_;have BK202:=n2_;have GW202:=n3_;have GE202:=n4_;have NB201_202:=n5_;have NB202_201:=n6_;clear n0_ n1_ n2_ n3_ n4_ n5_ n6_;clear hb hbox hg;have hnb36:=NB201_202.out;have hnc36:=NB202_201.out;have hcz37_0 : w35.cell? ⟨gb201,0,none⟩=some (.int .i64 a0_0):=(blk_cell BK201.out 0).trans rfl;have hcz37_1 : w35.cell? ⟨gb201,1,none⟩=some (.int .i64 a0_1):=(blk_cell BK201.out 1).trans rfl;have hcz37_2 : w35.cell? ⟨gb201,2,none⟩=some (.slice A0_2 l0_2.length c0_2):=(blk_cell BK201.out 2).trans rfl;have hcz37_3 : w35.cell? ⟨gb201,3,none⟩=some (.int .i64 a0_3):=(blk_cell BK201.out 3).trans rfl;have hcz37_4 : w35.cell? ⟨gb201,4,none⟩=some (.int .i64 a0_4):=(blk_cell BK201.out 4).trans rfl;have hcz37_5 : w35.cell? ⟨gb201,5,none⟩=some (.int .i64 a0_5):=(blk_cell BK201.out 5).trans rfl;have hfz37_0:=blk_frozen BK201.out 0;have hfz37_1:=blk_frozen BK201.out 1;have hfz37_2:=blk_frozen BK201.out 2;have hfz37_3:=blk_frozen BK201.out 3;have hfz37_4:=blk_frozen BK201.out 4;have hfz37_5:=blk_frozen BK201.out 5;have hcz38_0 : w35.cell? ⟨gb202,0,none⟩=some (.int .i64 a1_0):=(blk_cell BK202.out 0).trans rfl;have hcz38_1 : w35.cell? ⟨gb202,1,none⟩=some (.int .i64 a1_1):=(blk_cell BK202.out 1).trans rfl;have hcz38_2 : w35.cell? ⟨gb202,2,none⟩=some (.slice A1_2 l1_2.length c1_2):=(blk_cell BK202.out 2).trans rfl;have hcz38_3 : w35.cell? ⟨gb202,3,none⟩=some (.int .i64 a1_3):=(blk_cell BK202.out 3).trans rfl;have hcz38_4 : w35.cell? ⟨gb202,4,none⟩=some (.int .i64 a1_4):=(blk_cell BK202.out 4).trans rfl;have hcz38_5 : w35.cell? ⟨gb202,5,none⟩=some (.int .i64 a1_5):=(blk_cell BK202.out 5).trans rfl;have hfz38_0:=blk_frozen BK202.out 0;have hfz38_1:=blk_frozen BK202.out 1;have hfz38_2:=blk_frozen BK202.out 2;have hfz38_3:=blk_frozen BK202.out 3;have hfz38_4:=blk_frozen BK202.out 4;have hfz38_5:=blk_frozen BK202.out 5))
  go_ret
  exact ⟨by first|rfl|(simp [errW_none,errW_some] <;> rfl)|(simp [*,errW_none,errW_some] <;> rfl),by repeat (first|(with_reducible first|exact HB.out|apply below_alloc|apply pw_below_drewN|apply below_drew1|refine below_set ?_ GE201.out|refine below_set ?_ GE202.out)|exact HB.out)⟩
end Go.Proofs.Ytbelnopbggkdfaa.Q
end

section
namespace Go.Proofs.Ytbelnopbggkdfaa.Q
open Go.RowKit Go.Proofs.YtbelnopbggkdfaaW.PrintWords Go.Proofs.YtbelnopbggkdfaaW.PrintLast Go.Proofs.YtbelnopbggkdfaaW.PrintMore
attribute [local go_sem] max2_int min2_int max_two min_two max_three min_three max_four min_four   -- for this text's walks alone
set_option linter.unusedVariables false
set_option linter.unusedSimpArgs false
mutual
def phasorref08_Same.j0 : Nat→Bool→Int→Int→List (S46)→Int→Int→List (S46)→Option (Bool)
 | 0,_,_,_,_,_,_,_ => none
 | k + 1,x26,x205000,x205001,x205002,x206000,x206001,x206002 => if x26=true then (some false) else (phasorref08_Same.l0 k 0 x205000 x205001 x205002 x206000 x206001 x206002)
def phasorref08_Same.l0 : Nat→Int→Int→Int→List (S46)→Int→Int→List (S46)→Option (Bool)
 | 0,_,_,_,_,_,_,_ => none
 | k + 1,x5,x205000,x205001,x205002,x206000,x206001,x206002 => if x5 < (x205002.length : Int) then (if 0≤x5 then (if x5 < (x206002.length : Int) then ((phasorref08_SameOp.f k ((rd_T46 x205002 x5).f0) ((rd_T46 x205002 x5).f1) ((rd_T46 x205002 x5).f2) ((rd_T46 x205002 x5).f3) ((rd_T46 x205002 x5).f4) ((rd_T46 x205002 x5).f5) ((rd_T46 x206002 x5).f0) ((rd_T46 x206002 x5).f1) ((rd_T46 x206002 x5).f2) ((rd_T46 x206002 x5).f3) ((rd_T46 x206002 x5).f4) ((rd_T46 x206002 x5).f5)).bind fun t208 => (if t208=true then (phasorref08_Same.l0 k (wrap64 (x5 + 1)) x205000 x205001 x205002 x206000 x206001 x206002) else (some false))) else (none)) else (none)) else (some true)
end
def phasorref08_Same.f (k : Nat) (a0_0 : Int) (a0_1 : Int) (l0_2 : List (S46)) (a1_0 : Int) (a1_1 : Int) (l1_2 : List (S46)) : Option (Bool):=if a0_0=a1_0 then (if a0_1=a1_1 then (phasorref08_Same.j0 k ((l0_2.length : Int) != (l1_2.length : Int)) a0_0 a0_1 l0_2 a1_0 a1_1 l1_2) else (phasorref08_Same.j0 k true a0_0 a0_1 l0_2 a1_0 a1_1 l1_2)) else (phasorref08_Same.j0 k true a0_0 a0_1 l0_2 a1_0 a1_1 l1_2)
def phasorref08_Same.T6 : Bool × List (List Nat × List Nat):=(true,[([],[]),([0],[0]),([],[]),([1,2],[1,2]),([3],[3]),([],[]),([5],[5]),([],[]),([6,7],[6,7]),([8],[8]),([4,9],[4,9]),([10],[10])])
def phasorref08_Same.B6 : List Nat:=[0,1,0,7,15,0,32,0,224,480,1023,2047]
theorem phasorref08_Same.tab6 : rtab .any (opsOf Try.f19 6)=phasorref08_Same.T6:=by kernel_rfl
theorem phasorref08_Same.bits6 : waitsOk phasorref08_Same.T6.2 phasorref08_Same.B6=true:=by kernel_rfl
set_option maxHeartbeats 8000000 in
set_option maxRecDepth 100000 in
theorem phasorref08_Same.calls (k : Nat) (a0_0 : Int) (a0_1 : Int) (A0_2 : Option Addr) (c0_2 : Nat) (l0_2 : List (S46)) (a1_0 : Int) (a1_1 : Int) (A1_2 : Option Addr) (c1_2 : Nat) (l1_2 : List (S46)) (r : Bool) (w : World) (hr0_2 : Kd.C k46 w A0_2 l0_2.length l0_2) (hc0_2 : l0_2.length≤c0_2) (hr1_2 : Kd.C k46 w A1_2 l1_2.length l1_2) (hc1_2 : l1_2.length≤c1_2) (h : phasorref08_Same.f k a0_0 a0_1 l0_2 a1_0 a1_1 l1_2=some r) :
  Calls Try.prog 19 #[.agg #[.int .i64 a0_0,.int .i64 a0_1,.slice A0_2 l0_2.length c0_2],.agg #[.int .i64 a1_0,.int .i64 a1_1,.slice A1_2 l1_2.length c1_2]] w fun e w' => e=.returned (.bool r)∧Below w.heap.size w w':=by
 have hu24:=Try.underlying24
 have hu46:=Try.underlying46
 have HR0_2:=Aside0.mk hr0_2
 have HC0_2:=Aside0.mk hc0_2
 clear hr0_2 hc0_2
 have HR1_2:=Aside0.mk hr1_2
 have HC1_2:=Aside0.mk hc1_2
 clear hr1_2 hc1_2
 have HB:=Aside0.mk (Below.refl w.heap.size w)
 have H : (if a0_0=a1_0 then (if a0_1=a1_1 then (phasorref08_Same.j0 k ((l0_2.length : Int) != (l1_2.length : Int)) a0_0 a0_1 l0_2 a1_0 a1_1 l1_2) else (phasorref08_Same.j0 k true a0_0 a0_1 l0_2 a1_0 a1_1 l1_2)) else (phasorref08_Same.j0 k true a0_0 a0_1 l0_2 a1_0 a1_1 l1_2))=some r:=h
 clear h
 have HC3:=Aside0.mk H
 clear H
 go_enter Try.func19,Try.ntmps19
 go_upto_region 1 with (first|((with_reducible refine gate_dst (N:=2) rfl ?_);(try (refine gate_guard (by rfl) ?_;dsimp only));refine box_event ?hg (N:=2) ?hd (cs:=#[.int .i64 a0_0,.int .i64 a0_1,.slice A0_2 l0_2.length c0_2]) (t:=24) ?hr ?_;(case hd => rfl);(case hg => rfl);(case hr => first|(go_simp;done)|(go_simp;rfl));intro gb204 hg w4 hbox hb;have n0_:=Aside0.mk (below_step (by repeat (first|(with_reducible first|exact HB.out|apply below_alloc|apply pw_below_drewN|apply below_drew1)|exact HB.out)) hb);have n1_:=Aside0.mk (hbox);have n2_:=Aside0.mk ((by rw [hg];exact (below_size (by repeat (first|(with_reducible first|exact HB.out|apply below_alloc|apply pw_below_drewN|apply below_drew1)|exact HB.out))) : w.heap.size≤gb204));have n3_:=Aside0.mk ((by rw [hg];exact (below_size (by repeat (first|(with_reducible first|exact HB.out|apply below_alloc|apply pw_below_drewN|apply below_drew1)|exact HB.out))) : w.heap.size≤gb204));clear HB;have HB:=n0_;have BK204:=n1_;have GW204:=n2_;have GE204:=n3_;clear n0_ n1_ n2_ n3_;clear hb hbox hg)|((with_reducible refine gate_dst (N:=3) rfl ?_);(try (refine gate_guard (by rfl) ?_;dsimp only));refine box_event ?hg (N:=3) ?hd (cs:=#[.int .i64 a1_0,.int .i64 a1_1,.slice A1_2 l1_2.length c1_2]) (t:=24) ?hr ?_;(case hd => rfl);(case hg => rfl);(case hr => first|(go_simp;done)|(go_simp;rfl));intro gb205 hg w5 hbox hb;have n0_:=Aside0.mk (blk_below (g:=gb204) (o:=.cells #[.int .i64 a0_0,.int .i64 a0_1,.slice A0_2 l0_2.length c0_2] 24 (0,0)) (by (with_reducible repeat (first|refine blk_drewN ?_ _|refine blk_drew ?_|refine blk_alloc ?_ _));exact BK204.out) hb);have n1_:=Aside0.mk (below_step (by repeat (first|(with_reducible first|exact HB.out|apply below_alloc|apply pw_below_drewN|apply below_drew1|refine below_set ?_ GE204.out)|exact HB.out)) hb);have n2_:=Aside0.mk (hbox);have n3_:=Aside0.mk ((by rw [hg];exact (below_size (by repeat (first|(with_reducible first|exact HB.out|apply below_alloc|apply pw_below_drewN|apply below_drew1|refine below_set ?_ GE204.out)|exact HB.out))) : w.heap.size≤gb205));have n4_:=Aside0.mk ((by rw [hg];exact (below_size (by repeat (first|(with_reducible first|exact HB.out|apply below_alloc|apply pw_below_drewN|apply below_drew1|refine below_set ?_ GE204.out)|exact HB.out))) : w.heap.size≤gb205));have n5_:=Aside0.mk ((by rw [hg];exact Nat.ne_of_lt (blk_lt (g:=gb204) (o:=.cells #[.int .i64 a0_0,.int .i64 a0_1,.slice A0_2 l0_2.length c0_2] 24 (0,0)) (by (with_reducible repeat (first|refine blk_drewN ?_ _|refine blk_drew ?_|refine blk_alloc ?_ _));exact BK204.out)) : gb204≠gb205));have n6_:=Aside0.mk ((by rw [hg];exact Nat.ne_of_gt (blk_lt (g:=gb204) (o:=.cells #[.int .i64 a0_0,.int .i64 a0_1,.slice A0_2 l0_2.length c0_2] 24 (0,0)) (by (with_reducible repeat (first|refine blk_drewN ?_ _|refine blk_drew ?_|refine blk_alloc ?_ _));exact BK204.out)) : gb205≠gb204));clear BK204;clear HB;have BK204:=n0_;have HB:=n1_;have BK205:=n2_;have GW205:=n3_;have GE205:=n4_;have NB204_205:=n5_;have NB205_204:=n6_;clear n0_ n1_ n2_ n3_ n4_ n5_ n6_;clear hb hbox hg))
 (try simp only [Act.put,List.setIfInBounds_toArray,List.set_cons_zero,List.set_cons_succ])
 go_cut [26] (fun v26 wc => ∃ (kq : Nat) (x26_2 : Bool),v26=.bool x26_2∧Aside0 (phasorref08_Same.j0 kq x26_2 a0_0 a0_1 l0_2 a1_0 a1_1 l1_2=some r)∧Aside0 (kq≤k)∧Aside0 (wc.heap[gb204]?=some (.cells #[.int .i64 a0_0,.int .i64 a0_1,(.slice A0_2 l0_2.length c0_2)] 24 (0,0)))∧Aside0 (wc.heap[gb205]?=some (.cells #[.int .i64 a1_0,.int .i64 a1_1,(.slice A1_2 l1_2.length c1_2)] 24 (0,0)))∧Aside0 (Below w.heap.size w wc))
 case first =>
  have H:=HC3.out
  clear HC3
  by_cases c6 : a0_0=a1_0
  ·rw [if_pos c6] at H
   have c6b0 : (a0_0 == a1_0)=true:=beq_iff_eq.mpr c6
   have c6b1 : (a0_0 != a1_0)=false:=bne_eq_false_iff_eq.mpr c6
   clear c6
   (first|rw [c6b0]|(simp only [i64_w,i32_w];rw [c6b0])|skip)
   by_cases c7 : a0_1=a1_1
   ·rw [if_pos c7] at H
    have c7b0 : (a0_1 == a1_1)=true:=beq_iff_eq.mpr c7
    have c7b1 : (a0_1 != a1_1)=false:=bne_eq_false_iff_eq.mpr c7
    clear c7
    have H':=Aside0.mk H
    clear H
    have hnb8:=NB204_205.out
    have hnc8:=NB205_204.out
    have hcz9_0 : w5.cell? ⟨gb204,0,none⟩=some (.int .i64 a0_0):=(blk_cell BK204.out 0).trans rfl
    have hcz9_1 : w5.cell? ⟨gb204,1,none⟩=some (.int .i64 a0_1):=(blk_cell BK204.out 1).trans rfl
    have hcz9_2 : w5.cell? ⟨gb204,2,none⟩=some (.slice A0_2 l0_2.length c0_2):=(blk_cell BK204.out 2).trans rfl
    have hfz9_0:=blk_frozen BK204.out 0
    have hfz9_1:=blk_frozen BK204.out 1
    have hfz9_2:=blk_frozen BK204.out 2
    have hcz10_0 : w5.cell? ⟨gb205,0,none⟩=some (.int .i64 a1_0):=(blk_cell BK205.out 0).trans rfl
    have hcz10_1 : w5.cell? ⟨gb205,1,none⟩=some (.int .i64 a1_1):=(blk_cell BK205.out 1).trans rfl
    have hcz10_2 : w5.cell? ⟨gb205,2,none⟩=some (.slice A1_2 l1_2.length c1_2):=(blk_cell BK205.out 2).trans rfl
    have hfz10_0:=blk_frozen BK205.out 0
    have hfz10_1:=blk_frozen BK205.out 1
    have hfz10_2:=blk_frozen BK205.out 2
    go_wp2
    go_meet
    case rel => exact ⟨_,(((l0_2.length : Int) != (l1_2.length : Int))),(by first|rfl|(simp;done)|(simp [*];done)),H',⟨by first|omega|exact Nat.le_refl _⟩,⟨by (with_reducible repeat (first|refine blk_drewN ?_ _|refine blk_drew ?_|refine blk_alloc ?_ _));exact BK204.out⟩,⟨by (with_reducible repeat (first|refine blk_drewN ?_ _|refine blk_drew ?_|refine blk_alloc ?_ _));exact BK205.out⟩,⟨by repeat (first|(with_reducible first|exact HB.out|apply below_alloc|apply pw_below_drewN|apply below_drew1|refine below_set ?_ GE204.out|refine below_set ?_ GE205.out)|exact HB.out)⟩⟩
   ·rw [if_neg c7] at H
    have c7b0 : (a0_1 == a1_1)=false:=beq_eq_false_iff_ne.mpr c7
    have c7b1 : (a0_1 != a1_1)=true:=bne_iff_ne.mpr c7
    have H':=Aside0.mk H
    clear H
    have hnb11:=NB204_205.out
    have hnc11:=NB205_204.out
    have hcz12_0 : w5.cell? ⟨gb204,0,none⟩=some (.int .i64 a0_0):=(blk_cell BK204.out 0).trans rfl
    have hcz12_1 : w5.cell? ⟨gb204,1,none⟩=some (.int .i64 a0_1):=(blk_cell BK204.out 1).trans rfl
    have hcz12_2 : w5.cell? ⟨gb204,2,none⟩=some (.slice A0_2 l0_2.length c0_2):=(blk_cell BK204.out 2).trans rfl
    have hfz12_0:=blk_frozen BK204.out 0
    have hfz12_1:=blk_frozen BK204.out 1
    have hfz12_2:=blk_frozen BK204.out 2
    have hcz13_0 : w5.cell? ⟨gb205,0,none⟩=some (.int .i64 a1_0):=(blk_cell BK205.out 0).trans rfl
    have hcz13_1 : w5.cell? ⟨gb205,1,none⟩=some (.int .i64 a1_1):=(blk_cell BK205.out 1).trans rfl
    have hcz13_2 : w5.cell? ⟨gb205,2,none⟩=some (.slice A1_2 l1_2.length c1_2):=(blk_cell BK205.out 2).trans rfl
    have hfz13_0:=blk_frozen BK205.out 0
    have hfz13_1:=blk_frozen BK205.out 1
    have hfz13_2:=blk_frozen BK205.out 2
    go_wp2
    go_meet
    case rel => exact ⟨_,(true),(by first|rfl|(simp;done)|(simp [*];done)),H',⟨by first|omega|exact Nat.le_refl _⟩,⟨by (with_reducible repeat (first|refine blk_drewN ?_ _|refine blk_drew ?_|refine blk_alloc ?_ _));exact BK204.out⟩,⟨by (with_reducible repeat (first|refine blk_drewN ?_ _|refine blk_drew ?_|refine blk_alloc ?_ _));exact BK205.out⟩,⟨by repeat (first|(with_reducible first|exact HB.out|apply below_alloc|apply pw_below_drewN|apply below_drew1|refine below_set ?_ GE204.out|refine below_set ?_ GE205.out)|exact HB.out)⟩⟩
  ·rw [if_neg c6] at H
   have c6b0 : (a0_0 == a1_0)=false:=beq_eq_false_iff_ne.mpr c6
   have c6b1 : (a0_0 != a1_0)=true:=bne_iff_ne.mpr c6
   (first|rw [c6b0]|(simp only [i64_w,i32_w];rw [c6b0])|skip)
   have H':=Aside0.mk H
   clear H
   have hnb14:=NB204_205.out
   have hnc14:=NB205_204.out
   have hcz15_0 : w5.cell? ⟨gb204,0,none⟩=some (.int .i64 a0_0):=(blk_cell BK204.out 0).trans rfl
   have hcz15_1 : w5.cell? ⟨gb204,1,none⟩=some (.int .i64 a0_1):=(blk_cell BK204.out 1).trans rfl
   have hcz15_2 : w5.cell? ⟨gb204,2,none⟩=some (.slice A0_2 l0_2.length c0_2):=(blk_cell BK204.out 2).trans rfl
   have hfz15_0:=blk_frozen BK204.out 0
   have hfz15_1:=blk_frozen BK204.out 1
   have hfz15_2:=blk_frozen BK204.out 2
   have hcz16_0 : w5.cell? ⟨gb205,0,none⟩=some (.int .i64 a1_0):=(blk_cell BK205.out 0).trans rfl
   have hcz16_1 : w5.cell? ⟨gb205,1,none⟩=some (.int .i64 a1_1):=(blk_cell BK205.out 1).trans rfl
   have hcz16_2 : w5.cell? ⟨gb205,2,none⟩=some (.slice A1_2 l1_2.length c1_2):=(blk_cell BK205.out 2).trans rfl
   have hfz16_0:=blk_frozen BK205.out 0
   have hfz16_1:=blk_frozen BK205.out 1
   have hfz16_2:=blk_frozen BK205.out 2
   go_wp2
   go_meet
   case rel => exact ⟨_,(true),(by first|rfl|(simp;done)|(simp [*];done)),H',⟨by first|omega|exact Nat.le_refl _⟩,⟨by (with_reducible repeat (first|refine blk_drewN ?_ _|refine blk_drew ?_|refine blk_alloc ?_ _));exact BK204.out⟩,⟨by (with_reducible repeat (first|refine blk_drewN ?_ _|refine blk_drew ?_|refine blk_alloc ?_ _));exact BK205.out⟩,⟨by repeat (first|(with_reducible first|exact HB.out|apply below_alloc|apply pw_below_drewN|apply below_drew1|refine below_set ?_ GE204.out|refine below_set ?_ GE205.out)|exact HB.out)⟩⟩
 case rest =>
  clear HC3
  try clear c1
  try clear p2
  try clear c6
  try clear c6b0
  try clear c6b1
  try clear c7
  try clear c7b0
  try clear c7b1
  try clear c8
  try clear c11
  try clear c14
  try clear hcz10_0
  try clear hcz10_1
  try clear hcz10_2
  try clear hcz12_0
  try clear hcz12_1
  try clear hcz12_2
  try clear hcz13_0
  try clear hcz13_1
  try clear hcz13_2
  try clear hcz15_0
  try clear hcz15_1
  try clear hcz15_2
  try clear hcz16_0
  try clear hcz16_1
  try clear hcz16_2
  try clear hcz9_0
  try clear hcz9_1
  try clear hcz9_2
  try clear hfz10_0
  try clear hfz10_1
  try clear hfz10_2
  try clear hfz12_0
  try clear hfz12_1
  try clear hfz12_2
  try clear hfz13_0
  try clear hfz13_1
  try clear hfz13_2
  try clear hfz15_0
  try clear hfz15_1
  try clear hfz15_2
  try clear hfz16_0
  try clear hfz16_1
  try clear hfz16_2
  try clear hfz9_0
  try clear hfz9_1
  try clear hfz9_2
  obtain ⟨kq,x26_2,rfl,HA,HJ2,BK204,BK205,HB⟩:=hcut
  cases kq with
  | zero => exact absurd HA.out (by simp [phasorref08_Same.j0])
  | succ kj2 =>
   have H:=HA.out
   clear HA
   simp only [phasorref08_Same.j0] at H
   by_cases c17 : x26_2=true
   ·subst c17
    have H1 : (some false)=some r:=by rw [if_pos rfl] at H;exact H
    clear H
    have H:=H1
    clear H1
    obtain rfl:=Option.some.inj H
    go_wp2
    go_ret
    exact ⟨by first|rfl|(simp [errW_none,errW_some] <;> rfl)|(simp [*,errW_none,errW_some] <;> rfl),by repeat (first|(with_reducible first|exact HB.out|apply below_alloc|apply pw_below_drewN|apply below_drew1|refine below_set ?_ GE204.out|refine below_set ?_ GE205.out)|exact HB.out)⟩
   ·replace c17:=Bool.eq_false_iff.mpr c17
    subst c17
    have H1 : (phasorref08_Same.l0 kj2 0 a0_0 a0_1 l0_2 a1_0 a1_1 l1_2)=some r:=by rw [if_neg (show ¬ (false=true) by decide)] at H;exact H
    clear H
    have H:=H1
    clear H1
    have H':=Aside0.mk H
    clear H
    go_wp2
    go_loopg [5] kj2 (fun kq v5 w' => ∃ (x5_2 : Int),v5=.int .i64 x5_2∧Aside0 (phasorref08_Same.l0 kq x5_2 a0_0 a0_1 l0_2 a1_0 a1_1 l1_2=some r)∧Aside0 (kq≤kj2)∧Aside0 (w'.heap[gb204]?=some (.cells #[.int .i64 a0_0,.int .i64 a0_1,(.slice A0_2 l0_2.length c0_2)] 24 (0,0)))∧Aside0 (w'.heap[gb205]?=some (.cells #[.int .i64 a1_0,.int .i64 a1_1,(.slice A1_2 l1_2.length c1_2)] 24 (0,0)))∧Aside0 (Below w.heap.size w w'))
    case atStart => exact ⟨(0),(by first|rfl|(simp;done)|(simp [*];done)),H',⟨Nat.le_refl _⟩,⟨by (with_reducible repeat (first|refine blk_drewN ?_ _|refine blk_drew ?_|refine blk_alloc ?_ _));exact BK204.out⟩,⟨by (with_reducible repeat (first|refine blk_drewN ?_ _|refine blk_drew ?_|refine blk_alloc ?_ _));exact BK205.out⟩,⟨by repeat (first|(with_reducible first|exact HB.out|apply below_alloc|apply pw_below_drewN|apply below_drew1|refine below_set ?_ GE204.out|refine below_set ?_ GE205.out)|exact HB.out)⟩⟩
    case round =>
     clear H'
     try clear c1
     try clear p2
     try clear c6
     try clear c6b0
     try clear c6b1
     try clear c7
     try clear c7b0
     try clear c7b1
     try clear c8
     try clear c11
     try clear c14
     try clear c17
     try clear hcz10_0
     try clear hcz10_1
     try clear hcz10_2
     try clear hcz12_0
     try clear hcz12_1
     try clear hcz12_2
     try clear hcz13_0
     try clear hcz13_1
     try clear hcz13_2
     try clear hcz15_0
     try clear hcz15_1
     try clear hcz15_2
     try clear hcz16_0
     try clear hcz16_1
     try clear hcz16_2
     try clear hcz9_0
     try clear hcz9_1
     try clear hcz9_2
     try clear hfz10_0
     try clear hfz10_1
     try clear hfz10_2
     try clear hfz12_0
     try clear hfz12_1
     try clear hfz12_2
     try clear hfz13_0
     try clear hfz13_1
     try clear hfz13_2
     try clear hfz15_0
     try clear hfz15_1
     try clear hfz15_2
     try clear hfz16_0
     try clear hfz16_1
     try clear hfz16_2
     try clear hfz9_0
     try clear hfz9_1
     try clear hfz9_2
     try clear p2
     obtain ⟨x5_2,rfl,HA,HK2,BK204,BK205,HB⟩:=hrel
     cases gk with
     | zero => exact absurd HA.out (by simp [phasorref08_Same.l0])
     | succ k2 =>
      have H:=HA.out
      clear HA
      simp only [phasorref08_Same.l0] at H
      by_cases c18 : x5_2 < (l0_2.length : Int)
      ·rw [if_pos c18] at H
       have c18b0 : decide (x5_2 < (l0_2.length : Int))=true:=decide_eq_true c18
       clear c18
       by_cases c19 : 0≤x5_2
       ·rw [if_pos c19] at H
        have c19b0 : decide (0≤x5_2)=true:=decide_eq_true c19
        clear c19
        by_cases c20 : x5_2 < (l1_2.length : Int)
        ·rw [if_pos c20] at H
         have c20b0 : decide (x5_2 < (l1_2.length : Int))=true:=decide_eq_true c20
         clear c20
         replace H:=Option.bind_eq_some_iff.mp H
         obtain ⟨t208,A210,H⟩:=H
         replace H : (if t208=true then (phasorref08_Same.l0 k2 (wrap64 (x5_2 + 1)) a0_0 a0_1 l0_2 a1_0 a1_1 l1_2) else (some false))=some r:=H
         have A21:=Aside0.mk A210
         clear A210
         by_cases c22 : t208=true
         ·subst c22
          have H1 : (phasorref08_Same.l0 k2 (wrap64 (x5_2 + 1)) a0_0 a0_1 l0_2 a1_0 a1_1 l1_2)=some r:=by rw [if_pos rfl] at H;exact H
          clear H
          have H:=H1
          clear H1
          have H':=Aside0.mk H
          clear H
          have hnb23:=NB204_205.out
          have hnc23:=NB205_204.out
          have hcz24_0 : wr.cell? ⟨gb204,0,none⟩=some (.int .i64 a0_0):=(blk_cell BK204.out 0).trans rfl
          have hcz24_1 : wr.cell? ⟨gb204,1,none⟩=some (.int .i64 a0_1):=(blk_cell BK204.out 1).trans rfl
          have hcz24_2 : wr.cell? ⟨gb204,2,none⟩=some (.slice A0_2 l0_2.length c0_2):=(blk_cell BK204.out 2).trans rfl
          have hfz24_0:=blk_frozen BK204.out 0
          have hfz24_1:=blk_frozen BK204.out 1
          have hfz24_2:=blk_frozen BK204.out 2
          try go_wp2
          have n0_:=Aside0.mk (blk_drew BK204.out)
          have n1_:=Aside0.mk (blk_drew BK205.out)
          have n2_:=Aside0.mk (below_drew1 HB.out)
          clear BK204
          clear BK205
          clear HB
          have BK204:=n0_
          have BK205:=n1_
          have HB:=n2_
          clear n0_ n1_ n2_
          have p206 : 0≤(x5_2 : Int):=of_decide_eq_true (by first|(with_reducible assumption)|assumption)
          have q206 : x5_2 < (l0_2.length : Int):=of_decide_eq_true (by first|(with_reducible assumption)|assumption)
          obtain ⟨ad206,A206_2,c206_2,e206,hx206_0,hx206_1,hx206_2,hx206_3,hx206_4,hx206_5,hl206_2,hi206_2⟩:=at_T46 HR0_2.out x5_2 p206 q206
          have hw206_5:=hx206_5
          have hw206_4:=hx206_4
          have hw206_3:=hx206_3
          have hw206_2:=hx206_2
          have hw206_1:=hx206_1
          have hw206_0:=hx206_0
          cases e206
          replace hx206_0:=(HB.out.cell (World.block_lt_of_cell? w _ hx206_0)).trans hx206_0
          replace hx206_1:=(HB.out.cell (World.block_lt_of_cell? w _ hx206_1)).trans hx206_1
          replace hx206_2:=(HB.out.cell (World.block_lt_of_cell? w _ hx206_2)).trans hx206_2
          replace hx206_3:=(HB.out.cell (World.block_lt_of_cell? w _ hx206_3)).trans hx206_3
          replace hx206_4:=(HB.out.cell (World.block_lt_of_cell? w _ hx206_4)).trans hx206_4
          replace hx206_5:=(HB.out.cell (World.block_lt_of_cell? w _ hx206_5)).trans hx206_5
          have HR206_2:=Aside0.mk hi206_2
          have HC206_2:=Aside0.mk hl206_2
          clear hi206_2 hl206_2
          replace p206:=eq_true p206
          replace q206:=eq_true q206
          have p207 : 0≤(x5_2 : Int):=of_decide_eq_true (by first|(with_reducible assumption)|assumption)
          have q207 : x5_2 < (l1_2.length : Int):=of_decide_eq_true (by first|(with_reducible assumption)|assumption)
          obtain ⟨ad207,A207_2,c207_2,e207,hx207_0,hx207_1,hx207_2,hx207_3,hx207_4,hx207_5,hl207_2,hi207_2⟩:=at_T46 HR1_2.out x5_2 p207 q207
          have hw207_5:=hx207_5
          have hw207_4:=hx207_4
          have hw207_3:=hx207_3
          have hw207_2:=hx207_2
          have hw207_1:=hx207_1
          have hw207_0:=hx207_0
          cases e207
          replace hx207_0:=(HB.out.cell (World.block_lt_of_cell? w _ hx207_0)).trans hx207_0
          replace hx207_1:=(HB.out.cell (World.block_lt_of_cell? w _ hx207_1)).trans hx207_1
          replace hx207_2:=(HB.out.cell (World.block_lt_of_cell? w _ hx207_2)).trans hx207_2
          replace hx207_3:=(HB.out.cell (World.block_lt_of_cell? w _ hx207_3)).trans hx207_3
          replace hx207_4:=(HB.out.cell (World.block_lt_of_cell? w _ hx207_4)).trans hx207_4
          replace hx207_5:=(HB.out.cell (World.block_lt_of_cell? w _ hx207_5)).trans hx207_5
          have HR207_2:=Aside0.mk hi207_2
          have HC207_2:=Aside0.mk hl207_2
          clear hi207_2 hl207_2
          replace p207:=eq_true p207
          replace q207:=eq_true q207
          refine start_ (n:=12) (S:=fun w' => w'.cell? ⟨gb204,0,none⟩=some (.int .i64 a0_0)∧w'.cell? ⟨gb204,1,none⟩=some (.int .i64 a0_1)∧w'.cell? ⟨gb204,2,none⟩=some (.slice (some ad206) l0_2.length c0_2)∧w'.cell? ⟨gb205,0,none⟩=some (.int .i64 a1_0)∧w'.cell? ⟨gb205,1,none⟩=some (.int .i64 a1_1)∧w'.cell? ⟨gb205,2,none⟩=some (.slice (some ad207) l1_2.length c1_2)∧w'.cell? (ad206.add ((x5_2).toNat * 6))=some (.int .i64 ((rd_T46 l0_2 x5_2).f0))∧w'.cell? ⟨(ad206.add ((x5_2).toNat * 6)).block,(ad206.add ((x5_2).toNat * 6)).off + 1,none⟩=some (.int .i64 ((rd_T46 l0_2 x5_2).f1))∧w'.cell? ⟨(ad206.add ((x5_2).toNat * 6)).block,(ad206.add ((x5_2).toNat * 6)).off + 2,none⟩=some (.slice A206_2 ((rd_T46 l0_2 x5_2).f2).length c206_2)∧w'.cell? ⟨(ad206.add ((x5_2).toNat * 6)).block,(ad206.add ((x5_2).toNat * 6)).off + 3,none⟩=some (.int .i64 ((rd_T46 l0_2 x5_2).f3))∧w'.cell? ⟨(ad206.add ((x5_2).toNat * 6)).block,(ad206.add ((x5_2).toNat * 6)).off + 4,none⟩=some (.int .i64 ((rd_T46 l0_2 x5_2).f4))∧w'.cell? ⟨(ad206.add ((x5_2).toNat * 6)).block,(ad206.add ((x5_2).toNat * 6)).off + 5,none⟩=some (.int .i64 ((rd_T46 l0_2 x5_2).f5))∧w'.cell? (ad207.add ((x5_2).toNat * 6))=some (.int .i64 ((rd_T46 l1_2 x5_2).f0))∧w'.cell? ⟨(ad207.add ((x5_2).toNat * 6)).block,(ad207.add ((x5_2).toNat * 6)).off + 1,none⟩=some (.int .i64 ((rd_T46 l1_2 x5_2).f1))∧w'.cell? ⟨(ad207.add ((x5_2).toNat * 6)).block,(ad207.add ((x5_2).toNat * 6)).off + 2,none⟩=some (.slice A207_2 ((rd_T46 l1_2 x5_2).f2).length c207_2)∧w'.cell? ⟨(ad207.add ((x5_2).toNat * 6)).block,(ad207.add ((x5_2).toNat * 6)).off + 3,none⟩=some (.int .i64 ((rd_T46 l1_2 x5_2).f3))∧w'.cell? ⟨(ad207.add ((x5_2).toNat * 6)).block,(ad207.add ((x5_2).toNat * 6)).off + 4,none⟩=some (.int .i64 ((rd_T46 l1_2 x5_2).f4))∧w'.cell? ⟨(ad207.add ((x5_2).toNat * 6)).block,(ad207.add ((x5_2).toNat * 6)).off + 5,none⟩=some (.int .i64 ((rd_T46 l1_2 x5_2).f5))) (ds:=[]) #[false,false,false,false,false,false,false,false,false,false,false,false] (by kernel_rfl) rfl rfl ⟨(blk_cell BK204.out 0).trans rfl,(blk_cell BK204.out 1).trans rfl,(blk_cell BK204.out 2).trans rfl,(blk_cell BK205.out 0).trans rfl,(blk_cell BK205.out 1).trans rfl,(blk_cell BK205.out 2).trans rfl,((HB.out.cell (World.block_lt_of_cell? w _ hw206_0)).trans hw206_0),((HB.out.cell (World.block_lt_of_cell? w _ hw206_1)).trans hw206_1),((HB.out.cell (World.block_lt_of_cell? w _ hw206_2)).trans hw206_2),((HB.out.cell (World.block_lt_of_cell? w _ hw206_3)).trans hw206_3),((HB.out.cell (World.block_lt_of_cell? w _ hw206_4)).trans hw206_4),((HB.out.cell (World.block_lt_of_cell? w _ hw206_5)).trans hw206_5),((HB.out.cell (World.block_lt_of_cell? w _ hw207_0)).trans hw207_0),((HB.out.cell (World.block_lt_of_cell? w _ hw207_1)).trans hw207_1),((HB.out.cell (World.block_lt_of_cell? w _ hw207_2)).trans hw207_2),((HB.out.cell (World.block_lt_of_cell? w _ hw207_3)).trans hw207_3),((HB.out.cell (World.block_lt_of_cell? w _ hw207_4)).trans hw207_4),((HB.out.cell (World.block_lt_of_cell? w _ hw207_5)).trans hw207_5)⟩ (fun hHeld => ?_);refine with_tabW phasorref08_Same.tab6 phasorref08_Same.bits6 (fun HT_ HW_ => ?_)
          generalize wr.drew=w25 at BK204 BK205 HB HR206_2 HR207_2 hx206_0 hx206_1 hx206_2 hx206_3 hx206_4 hx206_5 hx207_0 hx207_1 hx207_2 hx207_3 hx207_4 hx207_5 hHeld ⊢
          refine pure_ (i:=0) (N:=some 34) (v:=?_) (a':=?_) #[true,false,false,false,false,false,false,false,false,false,false,false] rfl rfl (any_of HT_.out (by kernel_rfl)) (fun _ _ _ h => h) (Or.inl ⟨by rfl,?_⟩) ?_ ?_
          rotate_left
          ·intro w'
           go_simp
           with_reducible rfl
          rotate_left
          ·simp only [Act.put,List.setIfInBounds_toArray,List.set_cons_zero,List.set_cons_succ,i64_w,i32_w]
           rfl
          refine pure_ (i:=2) (N:=some 36) (v:=?_) (a':=?_) #[true,false,true,false,false,false,false,false,false,false,false,false] rfl rfl (any_of HT_.out (by kernel_rfl)) (fun _ _ _ h => h) (Or.inl ⟨by rfl,?_⟩) ?_ ?_
          rotate_left
          ·intro w'
           go_simp
           with_reducible rfl
          rotate_left
          ·simp only [Act.put,List.setIfInBounds_toArray,List.set_cons_zero,List.set_cons_succ,i64_w,i32_w]
           rfl
          refine pure_ (i:=5) (N:=some 39) (v:=?_) (a':=?_) #[true,false,true,false,false,true,false,false,false,false,false,false] rfl rfl (any_of HT_.out (by kernel_rfl)) (fun _ _ _ h => h) (Or.inl ⟨by rfl,?_⟩) ?_ ?_
          rotate_left
          ·intro w'
           go_simp
           with_reducible rfl
          rotate_left
          ·simp only [Act.put,List.setIfInBounds_toArray,List.set_cons_zero,List.set_cons_succ,i64_w,i32_w]
           rfl
          refine pure_ (i:=7) (N:=some 41) (v:=?_) (a':=?_) #[true,false,true,false,false,true,false,true,false,false,false,false] rfl rfl (any_of HT_.out (by kernel_rfl)) (fun _ _ _ h => h) (Or.inl ⟨by rfl,?_⟩) ?_ ?_
          rotate_left
          ·intro w'
           go_simp
           with_reducible rfl
          rotate_left
          ·simp only [Act.put,List.setIfInBounds_toArray,List.set_cons_zero,List.set_cons_succ,i64_w,i32_w]
           rfl
          refine take_ (i:=1) (N:=some 35) (v:=?_) (a':=?_) #[true,true,true,false,false,true,false,true,false,false,false,false] rfl rfl (take_ofW HT_.out HW_.out (by kernel_rfl)) (fun _ _ _ h => h) (Or.inl ⟨by rfl,?_⟩) hHeld ?_ ?_
          rotate_left
          ·rintro w' ⟨s0,s1,s2,s3,s4,s5,s6,s7,s8,s9,s10,s11,s12,s13,s14,s15,s16,s17⟩
           go_simp
           with_reducible rfl
          rotate_left
          ·simp only [Act.put,List.setIfInBounds_toArray,List.set_cons_zero,List.set_cons_succ,i64_w,i32_w]
           rfl
          refine pure_ (i:=3) (N:=some 37) (v:=?_) (a':=?_) #[true,true,true,true,false,true,false,true,false,false,false,false] rfl rfl (any_of HT_.out (by kernel_rfl)) (fun _ _ _ h => h) (Or.inl ⟨by rfl,?_⟩) ?_ ?_
          rotate_left
          ·intro w'
           go_simp
           with_reducible rfl
          rotate_left
          ·simp only [Act.put,List.setIfInBounds_toArray,List.set_cons_zero,List.set_cons_succ,i64_w,i32_w]
           rfl
          refine take_ (i:=4) (N:=some 38) (v:=?_) (a':=?_) #[true,true,true,true,true,true,false,true,false,false,false,false] rfl rfl (take_ofW HT_.out HW_.out (by kernel_rfl)) (fun _ _ _ h => h) (Or.inl ⟨by rfl,?_⟩) hHeld ?_ ?_
          rotate_left
          ·rintro w' ⟨s0,s1,s2,s3,s4,s5,s6,s7,s8,s9,s10,s11,s12,s13,s14,s15,s16,s17⟩
           go_simp
           with_reducible rfl
          rotate_left
          ·simp only [Act.put,List.setIfInBounds_toArray,List.set_cons_zero,List.set_cons_succ,i64_w,i32_w]
           rfl
          refine take_ (i:=6) (N:=some 40) (v:=?_) (a':=?_) #[true,true,true,true,true,true,true,true,false,false,false,false] rfl rfl (take_ofW HT_.out HW_.out (by kernel_rfl)) (fun _ _ _ h => h) (Or.inl ⟨by rfl,?_⟩) hHeld ?_ ?_
          rotate_left
          ·rintro w' ⟨s0,s1,s2,s3,s4,s5,s6,s7,s8,s9,s10,s11,s12,s13,s14,s15,s16,s17⟩
           go_simp
           with_reducible rfl
          rotate_left
          ·simp only [Act.put,List.setIfInBounds_toArray,List.set_cons_zero,List.set_cons_succ,i64_w,i32_w]
           rfl
          refine pure_ (i:=8) (N:=some 42) (v:=?_) (a':=?_) #[true,true,true,true,true,true,true,true,true,false,false,false] rfl rfl (any_of HT_.out (by kernel_rfl)) (fun _ _ _ h => h) (Or.inl ⟨by rfl,?_⟩) ?_ ?_
          rotate_left
          ·intro w'
           go_simp
           with_reducible rfl
          rotate_left
          ·simp only [Act.put,List.setIfInBounds_toArray,List.set_cons_zero,List.set_cons_succ,i64_w,i32_w]
           rfl
          refine take_ (i:=9) (N:=some 43) (v:=?_) (a':=?_) #[true,true,true,true,true,true,true,true,true,true,false,false] rfl rfl (take_ofW HT_.out HW_.out (by kernel_rfl)) (fun _ _ _ h => h) (Or.inl ⟨by rfl,?_⟩) hHeld ?_ ?_
          rotate_left
          ·rintro w' ⟨s0,s1,s2,s3,s4,s5,s6,s7,s8,s9,s10,s11,s12,s13,s14,s15,s16,s17⟩
           go_simp
           with_reducible rfl
          rotate_left
          ·simp only [Act.put,List.setIfInBounds_toArray,List.set_cons_zero,List.set_cons_succ,i64_w,i32_w]
           rfl
          refine one_ (i:=10) (N:=some 44) #[true,true,true,true,true,true,true,true,true,true,true,false] rfl rfl (one_of HT_.out (by kernel_rfl)) (by decide) (fun K hK => ?_)
          refine goes_ Try.func58 (by kernel_rfl) rfl #[.agg #[.int .i64 ((rd_T46 l0_2 x5_2).f0),.int .i64 ((rd_T46 l0_2 x5_2).f1),.slice A206_2 ((rd_T46 l0_2 x5_2).f2).length c206_2,.int .i64 ((rd_T46 l0_2 x5_2).f3),.int .i64 ((rd_T46 l0_2 x5_2).f4),.int .i64 ((rd_T46 l0_2 x5_2).f5)],.agg #[.int .i64 ((rd_T46 l1_2 x5_2).f0),.int .i64 ((rd_T46 l1_2 x5_2).f1),.slice A207_2 ((rd_T46 l1_2 x5_2).f2).length c207_2,.int .i64 ((rd_T46 l1_2 x5_2).f3),.int .i64 ((rd_T46 l1_2 x5_2).f4),.int .i64 ((rd_T46 l1_2 x5_2).f5)]] (by rfl) rfl rfl (by (try simp only [List.map_toArray,List.map_cons,List.map_nil]);first|done|rfl|(simp only [List.length_drop,List.length_take];rfl)) ?_
          with_reducible refine (phasorref08_SameOp.calls k2 ((rd_T46 l0_2 x5_2).f0) ((rd_T46 l0_2 x5_2).f1) _ _ ((rd_T46 l0_2 x5_2).f2) ((rd_T46 l0_2 x5_2).f3) ((rd_T46 l0_2 x5_2).f4) ((rd_T46 l0_2 x5_2).f5) ((rd_T46 l1_2 x5_2).f0) ((rd_T46 l1_2 x5_2).f1) _ _ ((rd_T46 l1_2 x5_2).f2) ((rd_T46 l1_2 x5_2).f3) ((rd_T46 l1_2 x5_2).f4) ((rd_T46 l1_2 x5_2).f5) true _ ?side1 ?side2 ?side3 ?side4 A21.out).mono ?_
          (case side1 => repeat (first|exact (Kd.C_below HR206_2.out HB.out)|(with_reducible refine Kd.C_alloc ?_ _)|(with_reducible refine Kd.C_drewN ?_ _)|(with_reducible refine Kd.C_drew ?_)))
          (case side2 => exact HC206_2.out)
          (case side3 => repeat (first|exact (Kd.C_below HR207_2.out HB.out)|(with_reducible refine Kd.C_alloc ?_ _)|(with_reducible refine Kd.C_drewN ?_ _)|(with_reducible refine Kd.C_drew ?_)))
          (case side4 => exact HC207_2.out)
          rintro e w26 ⟨rfl,hb⟩
          refine ⟨_,rfl,?_⟩
          have n0_:=Aside0.mk (blk_below (g:=gb204) (o:=.cells #[.int .i64 a0_0,.int .i64 a0_1,.slice (some ad206) l0_2.length c0_2] 24 (0,0)) (by (with_reducible repeat (first|refine blk_drewN ?_ _|refine blk_drew ?_|refine blk_alloc ?_ _));exact BK204.out) hb)
          have n1_:=Aside0.mk (blk_below (g:=gb205) (o:=.cells #[.int .i64 a1_0,.int .i64 a1_1,.slice (some ad207) l1_2.length c1_2] 24 (0,0)) (by (with_reducible repeat (first|refine blk_drewN ?_ _|refine blk_drew ?_|refine blk_alloc ?_ _));exact BK205.out) hb)
          have n2_:=Aside0.mk (below_step (by repeat (first|(with_reducible first|exact HB.out|apply below_alloc|apply pw_below_drewN|apply below_drew1|refine below_set ?_ GE204.out|refine below_set ?_ GE205.out)|exact HB.out)) hb)
          clear BK204
          clear BK205
          clear HB
          have BK204:=n0_
          have BK205:=n1_
          have HB:=n2_
          clear n0_ n1_ n2_
          (try clear hb)
          (try clear hb2)
          (try clear hk)
          (try clear hi)
          refine hK.out _ _ ⟨(blk_cell BK204.out 0).trans rfl,(blk_cell BK204.out 1).trans rfl,(blk_cell BK204.out 2).trans rfl,(blk_cell BK205.out 0).trans rfl,(blk_cell BK205.out 1).trans rfl,(blk_cell BK205.out 2).trans rfl,((HB.out.cell (World.block_lt_of_cell? w _ hw206_0)).trans hw206_0),((HB.out.cell (World.block_lt_of_cell? w _ hw206_1)).trans hw206_1),((HB.out.cell (World.block_lt_of_cell? w _ hw206_2)).trans hw206_2),((HB.out.cell (World.block_lt_of_cell? w _ hw206_3)).trans hw206_3),((HB.out.cell (World.block_lt_of_cell? w _ hw206_4)).trans hw206_4),((HB.out.cell (World.block_lt_of_cell? w _ hw206_5)).trans hw206_5),((HB.out.cell (World.block_lt_of_cell? w _ hw207_0)).trans hw207_0),((HB.out.cell (World.block_lt_of_cell? w _ hw207_1)).trans hw207_1),((HB.out.cell (World.block_lt_of_cell? w _ hw207_2)).trans hw207_2),((HB.out.cell (World.block_lt_of_cell? w _ hw207_3)).trans hw207_3),((HB.out.cell (World.block_lt_of_cell? w _ hw207_4)).trans hw207_4),((HB.out.cell (World.block_lt_of_cell? w _ hw207_5)).trans hw207_5)⟩ (fun hHeld => ?_)
          clear hK K
          refine norm_ (a':=?_) ?_ ?_
          rotate_left
          ·show Act.put _ (some 44) _=_
           simp only [Act.put,List.setIfInBounds_toArray,List.set_cons_zero,List.set_cons_succ,i64_w,i32_w]
           rfl
          refine pure_ (i:=11) (N:=some 45) (v:=?_) (a':=?_) #[true,true,true,true,true,true,true,true,true,true,true,true] rfl rfl (any_of HT_.out (by kernel_rfl)) (fun _ _ _ h => h) (Or.inl ⟨by rfl,?_⟩) ?_ ?_
          rotate_left
          ·intro w'
           go_simp
           with_reducible rfl
          rotate_left
          ·simp only [Act.put,List.setIfInBounds_toArray,List.set_cons_zero,List.set_cons_succ,i64_w,i32_w]
           rfl
          refine done_ (done_of HT_.out (by kernel_rfl)) ?_
          try go_wp2
          go_roundg k2
          case measure => have:=HJ2.out;have:=HK2.out;omega
          case rel => exact ⟨(wrap64 (x5_2 + 1)),(by first|rfl|(simp;done)|(simp [*];done)),H',⟨by have:=HJ2.out;have:=HK2.out;omega⟩,⟨by (with_reducible repeat (first|refine blk_drewN ?_ _|refine blk_drew ?_|refine blk_alloc ?_ _));exact BK204.out⟩,⟨by (with_reducible repeat (first|refine blk_drewN ?_ _|refine blk_drew ?_|refine blk_alloc ?_ _));exact BK205.out⟩,⟨by repeat (first|(with_reducible first|exact HB.out|apply below_alloc|apply pw_below_drewN|apply below_drew1|refine below_set ?_ GE204.out|refine below_set ?_ GE205.out)|exact HB.out)⟩⟩
         ·replace c22:=Bool.eq_false_iff.mpr c22
          subst c22
          have H1 : (some false)=some r:=by rw [if_neg (show ¬ (false=true) by decide)] at H;exact H
          clear H
          have H:=H1
          clear H1
          obtain rfl:=Option.some.inj H
          have hnb27:=NB204_205.out
          have hnc27:=NB205_204.out
          have hcz28_0 : wr.cell? ⟨gb204,0,none⟩=some (.int .i64 a0_0):=(blk_cell BK204.out 0).trans rfl
          have hcz28_1 : wr.cell? ⟨gb204,1,none⟩=some (.int .i64 a0_1):=(blk_cell BK204.out 1).trans rfl
          have hcz28_2 : wr.cell? ⟨gb204,2,none⟩=some (.slice A0_2 l0_2.length c0_2):=(blk_cell BK204.out 2).trans rfl
          have hfz28_0:=blk_frozen BK204.out 0
          have hfz28_1:=blk_frozen BK204.out 1
          have hfz28_2:=blk_frozen BK204.out 2
          try go_wp2
          have n0_:=Aside0.mk (blk_drew BK204.out)
          have n1_:=Aside0.mk (blk_drew BK205.out)
          have n2_:=Aside0.mk (below_drew1 HB.out)
          clear BK204
          clear BK205
          clear HB
          have BK204:=n0_
          have BK205:=n1_
          have HB:=n2_
          clear n0_ n1_ n2_
          have p206 : 0≤(x5_2 : Int):=of_decide_eq_true (by first|(with_reducible assumption)|assumption)
          have q206 : x5_2 < (l0_2.length : Int):=of_decide_eq_true (by first|(with_reducible assumption)|assumption)
          obtain ⟨ad206,A206_2,c206_2,e206,hx206_0,hx206_1,hx206_2,hx206_3,hx206_4,hx206_5,hl206_2,hi206_2⟩:=at_T46 HR0_2.out x5_2 p206 q206
          have hw206_5:=hx206_5
          have hw206_4:=hx206_4
          have hw206_3:=hx206_3
          have hw206_2:=hx206_2
          have hw206_1:=hx206_1
          have hw206_0:=hx206_0
          cases e206
          replace hx206_0:=(HB.out.cell (World.block_lt_of_cell? w _ hx206_0)).trans hx206_0
          replace hx206_1:=(HB.out.cell (World.block_lt_of_cell? w _ hx206_1)).trans hx206_1
          replace hx206_2:=(HB.out.cell (World.block_lt_of_cell? w _ hx206_2)).trans hx206_2
          replace hx206_3:=(HB.out.cell (World.block_lt_of_cell? w _ hx206_3)).trans hx206_3
          replace hx206_4:=(HB.out.cell (World.block_lt_of_cell? w _ hx206_4)).trans hx206_4
          replace hx206_5:=(HB.out.cell (World.block_lt_of_cell? w _ hx206_5)).trans hx206_5
          have HR206_2:=Aside0.mk hi206_2
          have HC206_2:=Aside0.mk hl206_2
          clear hi206_2 hl206_2
          replace p206:=eq_true p206
          replace q206:=eq_true q206
          have p207 : 0≤(x5_2 : Int):=of_decide_eq_true (by first|(with_reducible assumption)|assumption)
          have q207 : x5_2 < (l1_2.length : Int):=of_decide_eq_true (by first|(with_reducible assumption)|assumption)
          obtain ⟨ad207,A207_2,c207_2,e207,hx207_0,hx207_1,hx207_2,hx207_3,hx207_4,hx207_5,hl207_2,hi207_2⟩:=at_T46 HR1_2.out x5_2 p207 q207
          have hw207_5:=hx207_5
          have hw207_4:=hx207_4
          have hw207_3:=hx207_3
          have hw207_2:=hx207_2
          have hw207_1:=hx207_1
          have hw207_0:=hx207_0
          cases e207
          replace hx207_0:=(HB.out.cell (World.block_lt_of_cell? w _ hx207_0)).trans hx207_0
          replace hx207_1:=(HB.out.cell (World.block_lt_of_cell? w _ hx207_1)).trans hx207_1
          replace hx207_2:=(HB.out.cell (World.block_lt_of_cell? w _ hx207_2)).trans hx207_2
          replace hx207_3:=(HB.out.cell (World.block_lt_of_cell? w _ hx207_3)).trans hx207_3
          replace hx207_4:=(HB.out.cell (World.block_lt_of_cell? w _ hx207_4)).trans hx207_4
          replace hx207_5:=(HB.out.cell (World.block_lt_of_cell? w _ hx207_5)).trans hx207_5
          have HR207_2:=Aside0.mk hi207_2
          have HC207_2:=Aside0.mk hl207_2
          clear hi207_2 hl207_2
          replace p207:=eq_true p207
          replace q207:=eq_true q207
          refine start_ (n:=12) (S:=fun w' => w'.cell? ⟨gb204,0,none⟩=some (.int .i64 a0_0)∧w'.cell? ⟨gb204,1,none⟩=some (.int .i64 a0_1)∧w'.cell? ⟨gb204,2,none⟩=some (.slice (some ad206) l0_2.length c0_2)∧w'.cell? ⟨gb205,0,none⟩=some (.int .i64 a1_0)∧w'.cell? ⟨gb205,1,none⟩=some (.int .i64 a1_1)∧w'.cell? ⟨gb205,2,none⟩=some (.slice (some ad207) l1_2.length c1_2)∧w'.cell? (ad206.add ((x5_2).toNat * 6))=some (.int .i64 ((rd_T46 l0_2 x5_2).f0))∧w'.cell? ⟨(ad206.add ((x5_2).toNat * 6)).block,(ad206.add ((x5_2).toNat * 6)).off + 1,none⟩=some (.int .i64 ((rd_T46 l0_2 x5_2).f1))∧w'.cell? ⟨(ad206.add ((x5_2).toNat * 6)).block,(ad206.add ((x5_2).toNat * 6)).off + 2,none⟩=some (.slice A206_2 ((rd_T46 l0_2 x5_2).f2).length c206_2)∧w'.cell? ⟨(ad206.add ((x5_2).toNat * 6)).block,(ad206.add ((x5_2).toNat * 6)).off + 3,none⟩=some (.int .i64 ((rd_T46 l0_2 x5_2).f3))∧w'.cell? ⟨(ad206.add ((x5_2).toNat * 6)).block,(ad206.add ((x5_2).toNat * 6)).off + 4,none⟩=some (.int .i64 ((rd_T46 l0_2 x5_2).f4))∧w'.cell? ⟨(ad206.add ((x5_2).toNat * 6)).block,(ad206.add ((x5_2).toNat * 6)).off + 5,none⟩=some (.int .i64 ((rd_T46 l0_2 x5_2).f5))∧w'.cell? (ad207.add ((x5_2).toNat * 6))=some (.int .i64 ((rd_T46 l1_2 x5_2).f0))∧w'.cell? ⟨(ad207.add ((x5_2).toNat * 6)).block,(ad207.add ((x5_2).toNat * 6)).off + 1,none⟩=some (.int .i64 ((rd_T46 l1_2 x5_2).f1))∧w'.cell? ⟨(ad207.add ((x5_2).toNat * 6)).block,(ad207.add ((x5_2).toNat * 6)).off + 2,none⟩=some (.slice A207_2 ((rd_T46 l1_2 x5_2).f2).length c207_2)∧w'.cell? ⟨(ad207.add ((x5_2).toNat * 6)).block,(ad207.add ((x5_2).toNat * 6)).off + 3,none⟩=some (.int .i64 ((rd_T46 l1_2 x5_2).f3))∧w'.cell? ⟨(ad207.add ((x5_2).toNat * 6)).block,(ad207.add ((x5_2).toNat * 6)).off + 4,none⟩=some (.int .i64 ((rd_T46 l1_2 x5_2).f4))∧w'.cell? ⟨(ad207.add ((x5_2).toNat * 6)).block,(ad207.add ((x5_2).toNat * 6)).off + 5,none⟩=some (.int .i64 ((rd_T46 l1_2 x5_2).f5))) (ds:=[]) #[false,false,false,false,false,false,false,false,false,false,false,false] (by kernel_rfl) rfl rfl ⟨(blk_cell BK204.out 0).trans rfl,(blk_cell BK204.out 1).trans rfl,(blk_cell BK204.out 2).trans rfl,(blk_cell BK205.out 0).trans rfl,(blk_cell BK205.out 1).trans rfl,(blk_cell BK205.out 2).trans rfl,((HB.out.cell (World.block_lt_of_cell? w _ hw206_0)).trans hw206_0),((HB.out.cell (World.block_lt_of_cell? w _ hw206_1)).trans hw206_1),((HB.out.cell (World.block_lt_of_cell? w _ hw206_2)).trans hw206_2),((HB.out.cell (World.block_lt_of_cell? w _ hw206_3)).trans hw206_3),((HB.out.cell (World.block_lt_of_cell? w _ hw206_4)).trans hw206_4),((HB.out.cell (World.block_lt_of_cell? w _ hw206_5)).trans hw206_5),((HB.out.cell (World.block_lt_of_cell? w _ hw207_0)).trans hw207_0),((HB.out.cell (World.block_lt_of_cell? w _ hw207_1)).trans hw207_1),((HB.out.cell (World.block_lt_of_cell? w _ hw207_2)).trans hw207_2),((HB.out.cell (World.block_lt_of_cell? w _ hw207_3)).trans hw207_3),((HB.out.cell (World.block_lt_of_cell? w _ hw207_4)).trans hw207_4),((HB.out.cell (World.block_lt_of_cell? w _ hw207_5)).trans hw207_5)⟩ (fun hHeld => ?_);refine with_tabW phasorref08_Same.tab6 phasorref08_Same.bits6 (fun HT_ HW_ => ?_)
          generalize wr.drew=w29 at BK204 BK205 HB HR206_2 HR207_2 hx206_0 hx206_1 hx206_2 hx206_3 hx206_4 hx206_5 hx207_0 hx207_1 hx207_2 hx207_3 hx207_4 hx207_5 hHeld ⊢
          refine pure_ (i:=0) (N:=some 34) (v:=?_) (a':=?_) #[true,false,false,false,false,false,false,false,false,false,false,false] rfl rfl (any_of HT_.out (by kernel_rfl)) (fun _ _ _ h => h) (Or.inl ⟨by rfl,?_⟩) ?_ ?_
          rotate_left
          ·intro w'
           go_simp
           with_reducible rfl
          rotate_left
          ·simp only [Act.put,List.setIfInBounds_toArray,List.set_cons_zero,List.set_cons_succ,i64_w,i32_w]
           rfl
          refine pure_ (i:=2) (N:=some 36) (v:=?_) (a':=?_) #[true,false,true,false,false,false,false,false,false,false,false,false] rfl rfl (any_of HT_.out (by kernel_rfl)) (fun _ _ _ h => h) (Or.inl ⟨by rfl,?_⟩) ?_ ?_
          rotate_left
          ·intro w'
           go_simp
           with_reducible rfl
          rotate_left
          ·simp only [Act.put,List.setIfInBounds_toArray,List.set_cons_zero,List.set_cons_succ,i64_w,i32_w]
           rfl
          refine pure_ (i:=5) (N:=some 39) (v:=?_) (a':=?_) #[true,false,true,false,false,true,false,false,false,false,false,false] rfl rfl (any_of HT_.out (by kernel_rfl)) (fun _ _ _ h => h) (Or.inl ⟨by rfl,?_⟩) ?_ ?_
          rotate_left
          ·intro w'
           go_simp
           with_reducible rfl
          rotate_left
          ·simp only [Act.put,List.setIfInBounds_toArray,List.set_cons_zero,List.set_cons_succ,i64_w,i32_w]
           rfl
          refine pure_ (i:=7) (N:=some 41) (v:=?_) (a':=?_) #[true,false,true,false,false,true,false,true,false,false,false,false] rfl rfl (any_of HT_.out (by kernel_rfl)) (fun _ _ _ h => h) (Or.inl ⟨by rfl,?_⟩) ?_ ?_
          rotate_left
          ·intro w'
           go_simp
           with_reducible rfl
          rotate_left
          ·simp only [Act.put,List.setIfInBounds_toArray,List.set_cons_zero,List.set_cons_succ,i64_w,i32_w]
           rfl
          refine take_ (i:=1) (N:=some 35) (v:=?_) (a':=?_) #[true,true,true,false,false,true,false,true,false,false,false,false] rfl rfl (take_ofW HT_.out HW_.out (by kernel_rfl)) (fun _ _ _ h => h) (Or.inl ⟨by rfl,?_⟩) hHeld ?_ ?_
          rotate_left
          ·rintro w' ⟨s0,s1,s2,s3,s4,s5,s6,s7,s8,s9,s10,s11,s12,s13,s14,s15,s16,s17⟩
           go_simp
           with_reducible rfl
          rotate_left
          ·simp only [Act.put,List.setIfInBounds_toArray,List.set_cons_zero,List.set_cons_succ,i64_w,i32_w]
           rfl
          refine pure_ (i:=3) (N:=some 37) (v:=?_) (a':=?_) #[true,true,true,true,false,true,false,true,false,false,false,false] rfl rfl (any_of HT_.out (by kernel_rfl)) (fun _ _ _ h => h) (Or.inl ⟨by rfl,?_⟩) ?_ ?_
          rotate_left
          ·intro w'
           go_simp
           with_reducible rfl
          rotate_left
          ·simp only [Act.put,List.setIfInBounds_toArray,List.set_cons_zero,List.set_cons_succ,i64_w,i32_w]
           rfl
          refine take_ (i:=4) (N:=some 38) (v:=?_) (a':=?_) #[true,true,true,true,true,true,false,true,false,false,false,false] rfl rfl (take_ofW HT_.out HW_.out (by kernel_rfl)) (fun _ _ _ h => h) (Or.inl ⟨by rfl,?_⟩) hHeld ?_ ?_
          rotate_left
          ·rintro w' ⟨s0,s1,s2,s3,s4,s5,s6,s7,s8,s9,s10,s11,s12,s13,s14,s15,s16,s17⟩
           go_simp
           with_reducible rfl
          rotate_left
          ·simp only [Act.put,List.setIfInBounds_toArray,List.set_cons_zero,List.set_cons_succ,i64_w,i32_w]
           rfl
          refine take_ (i:=6) (N:=some 40) (v:=?_) (a':=?_) #[true,true,true,true,true,true,true,true,false,false,false,false] rfl rfl (take_ofW HT_.out HW_.out (by kernel_rfl)) (fun _ _ _ h => h) (Or.inl ⟨by rfl,?_⟩) hHeld ?_ ?_
          rotate_left
          ·rintro w' ⟨s0,s1,s2,s3,s4,s5,s6,s7,s8,s9,s10,s11,s12,s13,s14,s15,s16,s17⟩
           go_simp
           with_reducible rfl
          rotate_left
          ·simp only [Act.put,List.setIfInBounds_toArray,List.set_cons_zero,List.set_cons_succ,i64_w,i32_w]
           rfl
          refine pure_ (i:=8) (N:=some 42) (v:=?_) (a':=?_) #[true,true,true,true,true,true,true,true,true,false,false,false] rfl rfl (any_of HT_.out (by kernel_rfl)) (fun _ _ _ h => h) (Or.inl ⟨by rfl,?_⟩) ?_ ?_
          rotate_left
          ·intro w'
           go_simp
           with_reducible rfl
          rotate_left
          ·simp only [Act.put,List.setIfInBounds_toArray,List.set_cons_zero,List.set_cons_succ,i64_w,i32_w]
           rfl
          refine take_ (i:=9) (N:=some 43) (v:=?_) (a':=?_) #[true,true,true,true,true,true,true,true,true,true,false,false] rfl rfl (take_ofW HT_.out HW_.out (by kernel_rfl)) (fun _ _ _ h => h) (Or.inl ⟨by rfl,?_⟩) hHeld ?_ ?_
          rotate_left
          ·rintro w' ⟨s0,s1,s2,s3,s4,s5,s6,s7,s8,s9,s10,s11,s12,s13,s14,s15,s16,s17⟩
           go_simp
           with_reducible rfl
          rotate_left
          ·simp only [Act.put,List.setIfInBounds_toArray,List.set_cons_zero,List.set_cons_succ,i64_w,i32_w]
           rfl
          refine one_ (i:=10) (N:=some 44) #[true,true,true,true,true,true,true,true,true,true,true,false] rfl rfl (one_of HT_.out (by kernel_rfl)) (by decide) (fun K hK => ?_)
          refine goes_ Try.func58 (by kernel_rfl) rfl #[.agg #[.int .i64 ((rd_T46 l0_2 x5_2).f0),.int .i64 ((rd_T46 l0_2 x5_2).f1),.slice A206_2 ((rd_T46 l0_2 x5_2).f2).length c206_2,.int .i64 ((rd_T46 l0_2 x5_2).f3),.int .i64 ((rd_T46 l0_2 x5_2).f4),.int .i64 ((rd_T46 l0_2 x5_2).f5)],.agg #[.int .i64 ((rd_T46 l1_2 x5_2).f0),.int .i64 ((rd_T46 l1_2 x5_2).f1),.slice A207_2 ((rd_T46 l1_2 x5_2).f2).length c207_2,.int .i64 ((rd_T46 l1_2 x5_2).f3),.int .i64 ((rd_T46 l1_2 x5_2).f4),.int .i64 ((rd_T46 l1_2 x5_2).f5)]] (by rfl) rfl rfl (by (try simp only [List.map_toArray,List.map_cons,List.map_nil]);first|done|rfl|(simp only [List.length_drop,List.length_take];rfl)) ?_
          with_reducible refine (phasorref08_SameOp.calls k2 ((rd_T46 l0_2 x5_2).f0) ((rd_T46 l0_2 x5_2).f1) _ _ ((rd_T46 l0_2 x5_2).f2) ((rd_T46 l0_2 x5_2).f3) ((rd_T46 l0_2 x5_2).f4) ((rd_T46 l0_2 x5_2).f5) ((rd_T46 l1_2 x5_2).f0) ((rd_T46 l1_2 x5_2).f1) _ _ ((rd_T46 l1_2 x5_2).f2) ((rd_T46 l1_2 x5_2).f3) ((rd_T46 l1_2 x5_2).f4) ((rd_T46 l1_2 x5_2).f5) false _ ?side1 ?side2 ?side3 ?side4 A21.out).mono ?_
          (case side1 => repeat (first|exact (Kd.C_below HR206_2.out HB.out)|(with_reducible refine Kd.C_alloc ?_ _)|(with_reducible refine Kd.C_drewN ?_ _)|(with_reducible refine Kd.C_drew ?_)))
          (case side2 => exact HC206_2.out)
          (case side3 => repeat (first|exact (Kd.C_below HR207_2.out HB.out)|(with_reducible refine Kd.C_alloc ?_ _)|(with_reducible refine Kd.C_drewN ?_ _)|(with_reducible refine Kd.C_drew ?_)))
          (case side4 => exact HC207_2.out)
          rintro e w30 ⟨rfl,hb⟩
          refine ⟨_,rfl,?_⟩
          have n0_:=Aside0.mk (blk_below (g:=gb204) (o:=.cells #[.int .i64 a0_0,.int .i64 a0_1,.slice (some ad206) l0_2.length c0_2] 24 (0,0)) (by (with_reducible repeat (first|refine blk_drewN ?_ _|refine blk_drew ?_|refine blk_alloc ?_ _));exact BK204.out) hb)
          have n1_:=Aside0.mk (blk_below (g:=gb205) (o:=.cells #[.int .i64 a1_0,.int .i64 a1_1,.slice (some ad207) l1_2.length c1_2] 24 (0,0)) (by (with_reducible repeat (first|refine blk_drewN ?_ _|refine blk_drew ?_|refine blk_alloc ?_ _));exact BK205.out) hb)
          have n2_:=Aside0.mk (below_step (by repeat (first|(with_reducible first|exact HB.out|apply below_alloc|apply pw_below_drewN|apply below_drew1|refine below_set ?_ GE204.out|refine below_set ?_ GE205.out)|exact HB.out)) hb)
          clear BK204
          clear BK205
          clear HB
          have BK204:=n0_
          have BK205:=n1_
          have HB:=n2_
          clear n0_ n1_ n2_
          (try clear hb)
          (try clear hb2)
          (try clear hk)
          (try clear hi)
          refine hK.out _ _ ⟨(blk_cell BK204.out 0).trans rfl,(blk_cell BK204.out 1).trans rfl,(blk_cell BK204.out 2).trans rfl,(blk_cell BK205.out 0).trans rfl,(blk_cell BK205.out 1).trans rfl,(blk_cell BK205.out 2).trans rfl,((HB.out.cell (World.block_lt_of_cell? w _ hw206_0)).trans hw206_0),((HB.out.cell (World.block_lt_of_cell? w _ hw206_1)).trans hw206_1),((HB.out.cell (World.block_lt_of_cell? w _ hw206_2)).trans hw206_2),((HB.out.cell (World.block_lt_of_cell? w _ hw206_3)).trans hw206_3),((HB.out.cell (World.block_lt_of_cell? w _ hw206_4)).trans hw206_4),((HB.out.cell (World.block_lt_of_cell? w _ hw206_5)).trans hw206_5),((HB.out.cell (World.block_lt_of_cell? w _ hw207_0)).trans hw207_0),((HB.out.cell (World.block_lt_of_cell? w _ hw207_1)).trans hw207_1),((HB.out.cell (World.block_lt_of_cell? w _ hw207_2)).trans hw207_2),((HB.out.cell (World.block_lt_of_cell? w _ hw207_3)).trans hw207_3),((HB.out.cell (World.block_lt_of_cell? w _ hw207_4)).trans hw207_4),((HB.out.cell (World.block_lt_of_cell? w _ hw207_5)).trans hw207_5)⟩ (fun hHeld => ?_)
          clear hK K
          refine norm_ (a':=?_) ?_ ?_
          rotate_left
          ·show Act.put _ (some 44) _=_
           simp only [Act.put,List.setIfInBounds_toArray,List.set_cons_zero,List.set_cons_succ,i64_w,i32_w]
           rfl
          refine pure_ (i:=11) (N:=some 45) (v:=?_) (a':=?_) #[true,true,true,true,true,true,true,true,true,true,true,true] rfl rfl (any_of HT_.out (by kernel_rfl)) (fun _ _ _ h => h) (Or.inl ⟨by rfl,?_⟩) ?_ ?_
          rotate_left
          ·intro w'
           go_simp
           with_reducible rfl
          rotate_left
          ·simp only [Act.put,List.setIfInBounds_toArray,List.set_cons_zero,List.set_cons_succ,i64_w,i32_w]
           rfl
          refine done_ (done_of HT_.out (by kernel_rfl)) ?_
          try go_wp2
          go_ret
          exact ⟨by first|rfl|(simp [errW_none,errW_some] <;> rfl)|(simp [*,errW_none,errW_some] <;> rfl),by repeat (first|(with_reducible first|exact HB.out|apply below_alloc|apply pw_below_drewN|apply below_drew1|refine below_set ?_ GE204.out|refine below_set ?_ GE205.out)|exact HB.out)⟩
        ·rw [if_neg c20] at H
         exact absurd H (by simp)
       ·rw [if_neg c19] at H
        exact absurd H (by simp)
      ·rw [if_neg c18] at H
       have c18b0 : decide (x5_2 < (l0_2.length : Int))=false:=decide_eq_false c18
       clear c18
       obtain rfl:=Option.some.inj H
       have hnb31:=NB204_205.out
       have hnc31:=NB205_204.out
       have hcz32_0 : wr.cell? ⟨gb204,0,none⟩=some (.int .i64 a0_0):=(blk_cell BK204.out 0).trans rfl
       have hcz32_1 : wr.cell? ⟨gb204,1,none⟩=some (.int .i64 a0_1):=(blk_cell BK204.out 1).trans rfl
       have hcz32_2 : wr.cell? ⟨gb204,2,none⟩=some (.slice A0_2 l0_2.length c0_2):=(blk_cell BK204.out 2).trans rfl
       have hfz32_0:=blk_frozen BK204.out 0
       have hfz32_1:=blk_frozen BK204.out 1
       have hfz32_2:=blk_frozen BK204.out 2
       go_wp2
       go_ret
       exact ⟨by first|rfl|(simp [errW_none,errW_some] <;> rfl)|(simp [*,errW_none,errW_some] <;> rfl),by repeat (first|(with_reducible first|exact HB.out|apply below_alloc|apply pw_below_drewN|apply below_drew1|refine below_set ?_ GE204.out|refine below_set ?_ GE205.out)|exact HB.out)⟩
end Go.Proofs.Ytbelnopbggkdfaa.Q
end

section
namespace Go.Proofs.Ytbelnopbggkdfaa.Q
open Go.RowKit Go.Proofs.YtbelnopbggkdfaaW.PrintWords Go.Proofs.YtbelnopbggkdfaaW.PrintLast Go.Proofs.YtbelnopbggkdfaaW.PrintMore
attribute [local go_sem] max2_int min2_int max_two min_two max_three min_three max_four min_four   -- for this text's walks alone
set_option linter.unusedVariables false
set_option linter.unusedSimpArgs false
def phasorlaw19_ints.l0 : Nat→List Int→List Int→Int→Option (Bool)
 | 0,_,_,_ => none
 | k + 1,x0,x1,x5 => if x5 < (x0.length : Int) then (if 0≤x5 then (if x5 < (x1.length : Int) then (if (rd x0 x5)=(rd x1 x5) then (phasorlaw19_ints.l0 k x0 x1 (wrap64 (x5 + 1))) else (some false)) else (none)) else (none)) else (some true)
def phasorlaw19_ints.f (k : Nat) (l0 : List Int) (l1 : List Int) : Option (Bool):=if (l0.length : Int)=(l1.length : Int) then (phasorlaw19_ints.l0 k l0 l1 0) else (some false)
set_option maxHeartbeats 8000000 in
set_option maxRecDepth 100000 in
theorem phasorlaw19_ints.calls (k : Nat) (A0 : Option Addr) (c0 : Nat) (l0 : List Int) (A1 : Option Addr) (c1 : Nat) (l1 : List Int) (r : Bool) (w : World) (hr0 : Kd.C (Kd.int .i64) w A0 l0.length l0) (hc0 : l0.length≤c0) (hr1 : Kd.C (Kd.int .i64) w A1 l1.length l1) (hc1 : l1.length≤c1) (h : phasorlaw19_ints.f k l0 l1=some r) :
  Calls Try.prog 36 #[.slice A0 l0.length c0,.slice A1 l1.length c1] w fun e w' => e=.returned (.bool r)∧Drawn0 w w':=by
 have HR0:=Aside0.mk hr0
 have HC0:=Aside0.mk hc0
 clear hr0 hc0
 have HR1:=Aside0.mk hr1
 have HC1:=Aside0.mk hc1
 clear hr1 hc1
 have H : (if (l0.length : Int)=(l1.length : Int) then (phasorlaw19_ints.l0 k l0 l1 0) else (some false))=some r:=h
 clear h
 by_cases c3 : (l0.length : Int)=(l1.length : Int)
 ·rw [if_pos c3] at H
  have c3b0 : ((l0.length : Int) == (l1.length : Int))=true:=beq_iff_eq.mpr c3
  have c3b1 : ((l0.length : Int) != (l1.length : Int))=false:=bne_eq_false_iff_eq.mpr c3
  have c3b2 : (l0.length == l1.length)=true:=by first|simpa using c3|(simp at c3 ⊢;omega)
  clear c3
  have H':=Aside0.mk H
  clear H
  go_enter Try.func36,Try.ntmps36
  go_wp2
  repeat (go_quiet (fail);try go_wp2)
  go_loopg [5] k (fun kq v5 w' => ∃ (x5_1 : Int),v5=.int .i64 x5_1∧Aside0 (phasorlaw19_ints.l0 kq l0 l1 x5_1=some r)∧Aside0 (kq≤k)∧Drawn0 w w')
  case atStart => exact ⟨(0),(by first|rfl|(simp;done)|(simp [*];done)),H',⟨Nat.le_refl _⟩,by repeat (first|exact Drawn0.refl _|apply Drawn0.step)⟩
  case round =>
   clear H'
   try clear c1
   try clear p2
   try clear c3
   try clear c3b0
   try clear c3b1
   try clear c3b2
   obtain ⟨x5_1,rfl,HA,HK1,⟨m1,rfl⟩⟩:=hrel
   cases gk with
   | zero => exact absurd HA.out (by simp [phasorlaw19_ints.l0])
   | succ k1 =>
    have H:=HA.out
    clear HA
    simp only [phasorlaw19_ints.l0] at H
    by_cases c4 : x5_1 < (l0.length : Int)
    ·rw [if_pos c4] at H
     have c4b0 : decide (x5_1 < (l0.length : Int))=true:=decide_eq_true c4
     clear c4
     by_cases c5 : 0≤x5_1
     ·rw [if_pos c5] at H
      have c5b0 : decide (0≤x5_1)=true:=decide_eq_true c5
      clear c5
      by_cases c6 : x5_1 < (l1.length : Int)
      ·rw [if_pos c6] at H
       have c6b0 : decide (x5_1 < (l1.length : Int))=true:=decide_eq_true c6
       clear c6
       by_cases c7 : (rd l0 x5_1)=(rd l1 x5_1)
       ·rw [if_pos c7] at H
        have c7b0 : ((rd l0 x5_1) == (rd l1 x5_1))=true:=beq_iff_eq.mpr c7
        have c7b1 : ((rd l0 x5_1) != (rd l1 x5_1))=false:=bne_eq_false_iff_eq.mpr c7
        clear c7
        have H':=Aside0.mk H
        clear H
        have p528 : 0≤(x5_1 : Int):=of_decide_eq_true (by first|(with_reducible assumption)|assumption)
        have q528 : x5_1 < (l0.length : Int):=of_decide_eq_true (by first|(with_reducible assumption)|assumption)
        obtain ⟨ad528,e528,hx528_0⟩:=Kd.at_int HR0.out x5_1 p528 q528
        cases e528
        replace p528:=eq_true p528
        replace q528:=eq_true q528
        have p529 : 0≤(x5_1 : Int):=of_decide_eq_true (by first|(with_reducible assumption)|assumption)
        have q529 : x5_1 < (l1.length : Int):=of_decide_eq_true (by first|(with_reducible assumption)|assumption)
        obtain ⟨ad529,e529,hx529_0⟩:=Kd.at_int HR1.out x5_1 p529 q529
        cases e529
        replace p529:=eq_true p529
        replace q529:=eq_true q529
        go_wp2
        repeat (go_quiet (fail);try go_wp2)
        go_roundg k1
        case measure => have:=HK1.out;omega
        case rel => exact ⟨(wrap64 (x5_1 + 1)),(by first|rfl|(simp;done)|(simp [*];done)),H',⟨by have:=HK1.out;omega⟩,by repeat (first|exact Drawn0.refl _|apply Drawn0.step)⟩
       ·rw [if_neg c7] at H
        have c7b0 : ((rd l0 x5_1) == (rd l1 x5_1))=false:=beq_eq_false_iff_ne.mpr c7
        have c7b1 : ((rd l0 x5_1) != (rd l1 x5_1))=true:=bne_iff_ne.mpr c7
        obtain rfl:=Option.some.inj H
        have p528 : 0≤(x5_1 : Int):=of_decide_eq_true (by first|(with_reducible assumption)|assumption)
        have q528 : x5_1 < (l0.length : Int):=of_decide_eq_true (by first|(with_reducible assumption)|assumption)
        obtain ⟨ad528,e528,hx528_0⟩:=Kd.at_int HR0.out x5_1 p528 q528
        cases e528
        replace p528:=eq_true p528
        replace q528:=eq_true q528
        have p529 : 0≤(x5_1 : Int):=of_decide_eq_true (by first|(with_reducible assumption)|assumption)
        have q529 : x5_1 < (l1.length : Int):=of_decide_eq_true (by first|(with_reducible assumption)|assumption)
        obtain ⟨ad529,e529,hx529_0⟩:=Kd.at_int HR1.out x5_1 p529 q529
        cases e529
        replace p529:=eq_true p529
        replace q529:=eq_true q529
        go_wp2
        repeat (go_quiet (fail);try go_wp2)
        go_ret
        exact ⟨by first|rfl|(simp;done)|(simp [*];done),by repeat (first|exact Drawn0.refl _|apply Drawn0.step)⟩
      ·rw [if_neg c6] at H
       exact absurd H (by simp)
     ·rw [if_neg c5] at H
      exact absurd H (by simp)
    ·rw [if_neg c4] at H
     have c4b0 : decide (x5_1 < (l0.length : Int))=false:=decide_eq_false c4
     clear c4
     obtain rfl:=Option.some.inj H
     go_wp2
     repeat (go_quiet (fail);try go_wp2)
     go_ret
     exact ⟨by first|rfl|(simp;done)|(simp [*];done),by repeat (first|exact Drawn0.refl _|apply Drawn0.step)⟩
 ·rw [if_neg c3] at H
  have c3b0 : ((l0.length : Int) == (l1.length : Int))=false:=beq_eq_false_iff_ne.mpr c3
  have c3b1 : ((l0.length : Int) != (l1.length : Int))=true:=bne_iff_ne.mpr c3
  have c3b2 : (l0.length == l1.length)=false:=by first|simpa using c3|(simp at c3 ⊢;omega)
  obtain rfl:=Option.some.inj H
  go_enter Try.func36,Try.ntmps36
  go_wp2
  repeat (go_quiet (fail);try go_wp2)
  go_ret
  exact ⟨by first|rfl|(simp;done)|(simp [*];done),by repeat (first|exact Drawn0.refl _|apply Drawn0.step)⟩
end Go.Proofs.Ytbelnopbggkdfaa.Q
end
