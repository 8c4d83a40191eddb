/- A part of the proof: texts of this claim laid together by a program of its own; what the proof does not use is struck. -/
import Derived.Below
import Derived.Deep.Draws
import Derived.Deep.AppendLies
import Derived.Maps.AppendAt
import Derived.OwnWalk
import Derived.Laws.BytesArg
import Derived.Laws.MakeOwn
import Derived.Laws.OwnMore
import Derived.Deep.OwnRows
import Derived.Tactics
import Derived.Lib.ConvBytes
import Derived.Laws.Slices
import Derived.WalkKit
import Derived.KernelRfl
import Derived.RowKit3
import Derived.Deep.LoopGhost
import Derived.Deep.QuietTactic
import Derived.BigQuiet
import Derived.WideLaws
import Derived.Deep.DeepCutAuto
import Derived.Deep.CutBlock
import Derived.Deep.RegionHeld3
import Derived.Laws.Rows
import Derived.Lib.AppendStr
import Derived.ArgAppend
import Derived.Laws.IdiomCopy
import Derived.RowKit
import Derived.OrdersHeld
import Derived.Laws.BitsLemmas
import Derived.Laws.StructEq
import Derived.Test.YtbelnopbggkdfaaProg
import Derived.Test.YtbelnopbggkdfaaRows
import Derived.WalkLawsBesides
import Derived.WalkSpells
import Derived.RegionTactic
import Derived.BigRegion
import Derived.Lib.Hide
import Derived.Deep.MidRow
import Derived.Deep.Light
import Derived.Lib.SliceRun
section
set_option linter.unusedVariables false
set_option linter.unusedSimpArgs false
namespace Go.Proofs.YtbelnopbggkdfaaW.PrintWords
open Go.RowKit
structure Aside0 (p : Prop) : Prop where mk :: (out : p)
structure Drawn0 (w w' : World) : Prop where mk :: (out : ∃ n,w'=w.drewN n)
theorem Drawn0.refl (w : World) : Drawn0 w w:=⟨⟨0,rfl⟩⟩
theorem Drawn0.step {w w' : World} (h : Drawn0 w w') (n : Nat) : Drawn0 w (w'.drewN n):=by
  obtain ⟨m,rfl⟩:=h
  exact ⟨⟨m + n,World.drewN_drewN ..⟩⟩
theorem Drawn0.below {w w' : World} (h : Drawn0 w w') : Below w.heap.size w w':=by
  obtain ⟨n,rfl⟩:=h
  induction n with
  | zero => exact Below.refl _ _
  | succ n ih => rw [← World.drew_drewN];exact ih.drew
def rd (xs : List Int) (i : Int) : Int:=xs.getD i.toNat 0
def nums (k : IntKind) (xs : List Int) : List Value:=xs.map fun x => .int k x
theorem below_alloc {w W : World} (h : Below w.heap.size w W) (o : Obj) : Below w.heap.size w (W.alloc o):=h.alloc h.size o
theorem below_drew {B : Nat} {w W : World} (h : Below B w W) : Below B w W.drew:=⟨h.os,h.tape,h.output,h.size,h.block⟩
theorem pw_below_drewN {B : Nat} {w W : World} (h : Below B w W) (n : Nat) : Below B w (W.drewN n):=⟨h.os,h.tape,h.output,h.size,h.block⟩
theorem below_then {B : Nat} {w w1 w2 : World} (h : Below B w w1) (hB : B≤w1.heap.size) (k : Below w1.heap.size w1 w2) : Below B w w2 :=
  h.trans ⟨k.os,k.tape,k.output,k.size,fun i hi => k.block i (Nat.lt_of_lt_of_le hi hB)⟩
theorem pw_cell_below {w w1 : World} (h : Below w.heap.size w w1) {a : Addr} {v : Value} (hc : w.cell? a=some v) : w1.cell? a=some v:=(h.cell (World.block_lt_of_cell? w a hc)).trans hc
theorem add_plain (g j : Nat) : (⟨g,0,none⟩ : Addr).add j=⟨g,j,none⟩:=by unfold Addr.add;split <;> simp_all
def ReadsInt (w : World) (k : IntKind) (A : Option Addr) (n : Nat) (xs : List Int) : Prop :=
  xs.length=n∧n≤9223372036854775807∧(0 < n→∃ ad,A=some ad∧∀ j,j < n→w.cell? (ad.add j)=some (.int k (xs.getD j 0)))
theorem ReadsInt.at_ {w : World} {k : IntKind} {A : Option Addr} {n : Nat} {xs : List Int} (h : ReadsInt w k A n xs) (i : Int) (h0 : 0≤i) (h1 : i < n) : ∃ ad,A=some ad∧w.cell? (ad.add i.toNat)=some (.int k (rd xs i)):=by
  obtain ⟨ad,e,hc⟩:=h.2.2 (by omega)
  exact ⟨ad,e,hc _ (by omega)⟩
theorem own_nil (W : World) (base : Nat) (e : TypeId) (size : Nat) : W.ownsRow base e size (.slice none 0 0) 0 []:=⟨by simp,.inl ⟨rfl,rfl⟩⟩
theorem own_base {w : World} {base : Nat} {e : TypeId} {size n : Nat} {v : Value} {xs : List Value} (h : w.ownsRow base e size v n xs) (k : Nat) (hk : v.ownBlock=some k) : base≤k:=by
  rcases h.2 with ⟨rfl,_⟩ | ⟨g,cap,cur,rfl,hb,_⟩
  · simp [Value.ownBlock] at hk
  · have : g=k:=by simpa [Value.ownBlock] using hk
    omega
theorem own_lt {w : World} {base : Nat} {e : TypeId} {size n : Nat} {v : Value} {xs : List Value} (h : w.ownsRow base e size v n xs) (k : Nat) (hk : v.ownBlock=some k) : k < w.heap.size:=by
  rcases h.2 with ⟨rfl,_⟩ | ⟨g,cap,cur,rfl,hb,hh,_⟩
  · simp [Value.ownBlock] at hk
  · have : g=k:=by simpa [Value.ownBlock] using hk
    subst this
    exact (Array.getElem?_eq_some_iff.1 hh).1
section
variable {P : Program} {ops : Array Oper} {rest : List Oper} {o : Oper} {a : Act} {Q : Exit→Act→World→Prop}
end
section
variable {P : Program}
end
theorem own_at {W : World} {base g n cap : Nat} {e : TypeId} {k : IntKind} {xs : List Int} (h : W.ownsRow base e 1 (.slice (some ⟨g,0,none⟩) n cap) n (nums k xs)) (i : Int) (h0 : 0≤i) (h1 : i < n) :
    W.cell? ⟨g,i.toNat,none⟩=some (.int k (rd xs i))∧W.frozen? ⟨g,i.toNat,none⟩=false:=by
  have hl : xs.length=n:=by have:=h.1;simp [nums] at this;exact this
  constructor
  · have hc:=h.cells (g:=g) rfl i.toNat (.int k (rd xs i)) (by simp [nums,rd,List.getElem?_eq_getElem (show i.toNat < xs.length by omega),List.getD_eq_getElem?_getD])
    rwa [add_plain] at hc
  · rcases h.2 with ⟨h',_⟩ | ⟨g',cap',cur,h',_,hh,_⟩
    · cases h'
    · have : g=g':=by injection h' with h';injection h' with h';injection h' with h'
      subst this
      simp [World.frozen?,hh]
section
variable {P : Program} {ops : Array Oper} {rest : List Oper} {o : Oper} {a : Act} {Q : Exit→Act→World→Prop}
end
def Reps {α : Type} (R : α→List Value→Prop) (size : Nat) (ps : List α) (cs : List Value) : Prop :=
  cs.length=ps.length * size∧∀ j p,ps[j]?=some p→R p ((cs.drop (j * size)).take size)
theorem Reps.none {α : Type} (R : α→List Value→Prop) (size : Nat) : Reps R size [] []:=⟨by simp,fun j p h => by simp at h⟩
theorem Reps.snoc {α : Type} {R : α→List Value→Prop} {size : Nat} {ps : List α} {cs c : List Value} {p : α} (h : Reps R size ps cs) (hp : R p c) (hc : c.length=size) : Reps R size (ps ++ [p]) (cs ++ c):=by
  refine ⟨by rw [List.length_append,h.1,hc,List.length_append,List.length_singleton,Nat.add_mul,Nat.one_mul],fun j q hq => ?_⟩
  rcases Nat.lt_or_ge j ps.length with hj|hj
  · rw [List.getElem?_append_left hj] at hq
    have h1 : j * size + size≤cs.length:=by rw [h.1,← Nat.succ_mul];exact Nat.mul_le_mul_right _ hj
    have h2:=h.2 j q hq
    rw [List.drop_append_of_le_length (by omega),List.take_append_of_le_length (by rw [List.length_drop];omega)]
    exact h2
  · have hj' : j=ps.length:=by
      have:=(List.getElem?_eq_some_iff.1 hq).1
      rw [List.length_append,List.length_singleton] at this
      omega
    subst hj'
    have hq' : p=q:=by simpa using hq
    subst hq'
    rw [← h.1,List.drop_left,← hc,List.take_length]
    exact hp
theorem Reps.imp_ {α : Type} {R R' : α→List Value→Prop} {size : Nat} {ps : List α} {cs : List Value} (h : Reps R size ps cs) (hR : ∀ p c,R p c→R' p c) : Reps R' size ps cs:=⟨h.1,fun j p hj => hR _ _ (h.2 j p hj)⟩
def ReadsRow {α : Type} (R : α→List Value→Prop) (size : Nat) (w : World) (A : Option Addr) (n : Nat) (ps : List α) : Prop :=
  ps.length=n∧n≤9223372036854775807∧(0 < n→∃ ad,A=some ad∧∀ j p,ps[j]?=some p→∃ c,c.length=size∧R p c∧∀ i u,c[i]?=some u→w.cell? (ad.add (j * size + i))=some u)
theorem ReadsRow.get_ {α : Type} {R : α→List Value→Prop} {size : Nat} {w : World} {A : Option Addr} {n : Nat} {ps : List α} (h : ReadsRow R size w A n ps) (d : α) (i : Int) (h0 : 0≤i) (h1 : i < n) :
    ∃ ad c,A=some ad∧c.length=size∧R (ps.getD i.toNat d) c∧∀ j u,c[j]?=some u→w.cell? (ad.add (i.toNat * size + j))=some u:=by
  obtain ⟨ad,e,hc⟩:=h.2.2 (by omega)
  have hl : i.toNat < ps.length:=by have:=h.1;omega
  obtain ⟨c,hs,hr,hcell⟩:=hc i.toNat _ (List.getElem?_eq_getElem hl)
  refine ⟨ad,c,e,hs,?_,hcell⟩
  rw [List.getD_eq_getElem?_getD,List.getElem?_eq_getElem hl]
  exact hr
theorem ReadsRow.imp_ {α : Type} {R R' : α→List Value→Prop} {size : Nat} {w w1 : World} {A : Option Addr} {n : Nat} {ps : List α} (h : ReadsRow R size w A n ps) (hb : Below w.heap.size w w1) (hR : ∀ p c,R p c→R' p c) : ReadsRow R' size w1 A n ps :=
  ⟨h.1,h.2.1,fun hn => by
    obtain ⟨ad,e,hc⟩:=h.2.2 hn
    refine ⟨ad,e,fun j p hj => ?_⟩
    obtain ⟨c,hs,hr,hcell⟩:=hc j p hj
    exact ⟨c,hs,hR _ _ hr,fun i u hu => pw_cell_below hb (hcell i u hu)⟩⟩
theorem own_reads_row {α : Type} {R : α→List Value→Prop} {w : World} {base n size : Nat} {e : TypeId} {v : Value} {ps : List α} {cs : List Value} (h : w.ownsRow base e size v n cs) (hR : Reps R size ps cs) (hn : ps.length=n) :
    ∃ A c,v=.slice A n c∧ReadsRow R size w A n ps:=by
  rcases Nat.eq_zero_or_pos n with h0|h0
  · rcases h.2 with ⟨rfl,rfl⟩ | ⟨g,cap,cur,rfl,_⟩
    · exact ⟨none,0,rfl,hn,by omega,fun hp => absurd hp (by omega)⟩
    · exact ⟨_,cap,rfl,hn,by omega,fun hp => absurd hp (by omega)⟩
  · obtain ⟨g,cap,rfl,_,_⟩:=h.form h0
    have hm : n≤9223372036854775807:=by
      rcases h.2 with ⟨_,h1⟩ | ⟨g',cap',cur,he,_,_,h1,h2,_⟩
      · omega
      · simp only [maxLen] at h2
        omega
    refine ⟨_,cap,rfl,hn,hm,fun _ => ⟨_,rfl,fun j p hj => ⟨(cs.drop (j * size)).take size,?_,hR.2 j p hj,fun i u hu => ?_⟩⟩⟩
    · have hjl:=(List.getElem?_eq_some_iff.1 hj).1
      have h1 : j * size + size≤cs.length:=by rw [hR.1,← Nat.succ_mul];exact Nat.mul_le_mul_right _ hjl
      rw [List.length_take,List.length_drop]
      omega
    · refine h.cells (g:=g) rfl _ u ?_
      rw [List.getElem?_take] at hu
      split at hu
      · rw [List.getElem?_drop] at hu
        exact hu
      · cases hu
theorem add_field (ad : Addr) (m j : Nat) (hj : 0 < j) : ad.add (m + j)=⟨(ad.add m).block,(ad.add m).off + j,none⟩:=by
  unfold Addr.add
  by_cases hm : m=0
  · subst hm
    simp [Nat.ne_of_gt hj]
  · simp [hm,Nat.add_assoc]
section
variable {P : Program} {ops : Array Oper} {rest : List Oper} {o : Oper} {a : Act} {Q : Exit→Act→World→Prop}
theorem print_append_cells {w0 W : World} (base : Nat) (hgd : o.guard=none) (s x : Operand) (t e : TypeId) (z : Value) (size bytes : Nat)
    (ho : o.op=.call { callee:=.builtin .append,args:=#[s,x],argTypes:=#[t,t] })
    (ht : P.underlying t=some (.slice e)) (hinfo : (P.info? e).map (fun i => (i.zero,i.size,i.bytes))=some (some z,size,bytes)) (hz : z.cells.size=size) (hs0 : 0 < size) (hb0 : 0 < bytes)
    (v : Value) (n : Nat) (xs ys : List Value) (hs : a.eval s=v) (hx : a.eval x=.slice (some ⟨W.heap.size,0,none⟩) 1 1) (hys : ys.length=size) (h1 : ∀ u ∈ ys,u.oneCell'=true)
    (HO : W.ownsRow base e size v n xs) (HB : Below base w0 W) (hbase : base≤W.heap.size) (hl : (n + 1) * bytes≤140737488355328)
    (h : ∀ v1 w1,w1.ownsRow base e size v1 (n + 1) (xs ++ ys)→Below base w0 w1→W.grownBy w1 v.ownBlock→(v1.ownBlock=v.ownBlock∨∃ b,v1.ownBlock=some b∧W.heap.size≤b)→wpList P ops Q rest (a.put o.dst v1) w1) :
    wpList P ops Q (o :: rest) a (W.alloc (.cells ys.toArray e)):=by
  obtain ⟨i0,hi,hzz⟩:=Option.map_eq_some_iff.1 hinfo
  simp only [Prod.mk.injEq] at hzz
  obtain ⟨hz0,hz1,hz2⟩:=hzz
  have hlen : n + 1≤140737488355328:=Nat.le_trans (Nat.le_mul_of_pos_right _ hb0) hl
  refine wpList_append_own_at (W.alloc (.cells ys.toArray e)) hgd s x t ho base e i0 z size bytes ht hi hz0 hz1 hz2 hz hs0 v n xs hs (HO.alloc _) ⟨W.heap.size,0,none⟩ 1 1 ys hx (by rw [hys];simp)
    (by simpa using World.news_of_block (cs:=ys.toArray) (t:=e) (fr:=(0,0)) (heap_alloc_new W (.cells ys.toArray e))) h1 (by simp only [maxLen];omega) hl (by simp;omega) ?_
  intro v1 w1 hown hg _ hat
  refine h v1 w1 hown ((HB.alloc hbase _).grown hg (by simp;omega) (own_base HO)) (World.grownBy.trans (World.grownBy_alloc W _ _) hg) ?_
  rcases hat with hat|hat
  · exact .inl hat
  · exact .inr ⟨_,hat,by simp⟩
end
theorem own_ne {w : World} {base : Nat} {e t : TypeId} {size n g : Nat} {v : Value} {xs : List Value} {cs : Array Value} (h : w.ownsRow base e size v n xs) (hg : w.heap[g]?=some (.cells cs t (0,0))) (hne : e≠t) : some g≠v.ownBlock:=by
  rcases h.2 with ⟨rfl,_⟩ | ⟨g',cap,cur,rfl,_,hh,_⟩
  · simp [Value.ownBlock]
  · intro he
    have : g=g':=by simpa [Value.ownBlock] using he
    subst this
    rw [hg] at hh
    injection hh with hh
    injection hh with _ ht
    exact hne ht.symm
theorem blk_set {w : World} {g : Nat} {t : TypeId} {cs : Array Value} (h : w.heap[g]?=some (.cells cs t (0,0))) (i : Nat) (u : Value) : (w.setCell ⟨g,i,none⟩ u).heap[g]?=some (.cells (cs.setIfInBounds i u) t (0,0)):=by
  simp [World.setCell,Array.getElem?_modify,h]
theorem blk_far {w : World} {g : Nat} {t : TypeId} {cs : Array Value} (h : w.heap[g]?=some (.cells cs t (0,0))) {p : Addr} (hp : g≠p.block) (u : Value) : (w.setCell p u).heap[g]?=some (.cells cs t (0,0)):=(Below.heap_setCell w p u g hp).trans h
theorem blk_lt {w : World} {g : Nat} {o : Obj} (h : w.heap[g]?=some o) : g < w.heap.size:=(Array.getElem?_eq_some_iff.1 h).1
theorem blk_cell {w : World} {g : Nat} {t : TypeId} {cs : Array Value} (h : w.heap[g]?=some (.cells cs t (0,0))) (i : Nat) : w.cell? ⟨g,i,none⟩=cs[i]?:=cell_of_row w g i cs t (0,0) h
theorem blk_frozen {w : World} {g : Nat} {t : TypeId} {cs : Array Value} (h : w.heap[g]?=some (.cells cs t (0,0))) (i : Nat) : w.frozen? ⟨g,i,none⟩=false:=by simp [World.frozen?,h]
theorem blk_grown {w w1 : World} {g : Nat} {o : Obj} {row : Option Nat} (h : w.heap[g]?=some o) (hg : w.grownBy w1 row) (hne : some g≠row) : w1.heap[g]?=some o:=(hg.block g (blk_lt h) hne).trans h
def KeepBut (w w' : World) (g : Nat) (row : Option Nat) : Prop:=w.heap.size≤w'.heap.size∧∀ i,i < w.heap.size→i≠g→some i≠row→w'.heap[i]?=w.heap[i]?
theorem KeepBut.trans {w w1 w2 : World} {g : Nat} {row row1 : Option Nat} (h : KeepBut w w1 g row) (k : KeepBut w1 w2 g row1) (hr : row1=row∨∃ b,row1=some b∧w.heap.size≤b) : KeepBut w w2 g row :=
  ⟨Nat.le_trans h.1 k.1,fun i hi hg hn => by
    refine (k.2 i (Nat.lt_of_lt_of_le hi h.1) hg ?_).trans (h.2 i hi hg hn)
    rcases hr with rfl | ⟨b,rfl,hb⟩
    · exact hn
    · intro e
      injection e with e
      omega⟩
section
variable {P : Program} {ops : Array Oper} {o : Oper} {a : Act} {Q : Exit→Act→World→Prop} {K : Act→World→Prop}
end
theorem own_weaken {w : World} {base base' : Nat} {e : TypeId} {size n : Nat} {v : Value} {xs : List Value} (h : w.ownsRow base e size v n xs) (hb : base'≤base) : w.ownsRow base' e size v n xs:=by
  obtain ⟨h1,h2⟩:=h
  refine ⟨h1,?_⟩
  rcases h2 with h2 | ⟨g,cap,cur,rfl,hg,r⟩
  · exact .inl h2
  · exact .inr ⟨g,cap,cur,rfl,Nat.le_trans hb hg,r⟩
section
variable {α : Type} {enc : α→Value} {d : α}
def rdOf (d : α) (xs : List α) (i : Int) : α:=xs.getD i.toNat d
def ReadsOf (enc : α→Value) (d : α) (w : World) (A : Option Addr) (n : Nat) (xs : List α) : Prop :=
  xs.length=n∧n≤9223372036854775807∧(0 < n→∃ ad,A=some ad∧∀ j,j < n→w.cell? (ad.add j)=some (enc (xs.getD j d)))
theorem ReadsOf.at_ {w : World} {A : Option Addr} {n : Nat} {xs : List α} (h : ReadsOf enc d w A n xs) (i : Int) (h0 : 0≤i) (h1 : i < n) : ∃ ad,A=some ad∧w.cell? (ad.add i.toNat)=some (enc (rdOf d xs i)):=by
  obtain ⟨ad,e,hc⟩:=h.2.2 (by omega)
  exact ⟨ad,e,hc _ (by omega)⟩
end
section
variable {α : Type} {P : Program} {ops : Array Oper} {rest : List Oper} {o : Oper} {a : Act} {Q : Exit→Act→World→Prop}
end
def NeRow (v v' : Value) : Prop:=∀ k,v.ownBlock=some k→v'.ownBlock≠some k
theorem ne_below {W w1 : World} {v1 v' : Value} {base n size n1 size1 : Nat} {e e1 : TypeId} {xs xs1 : List Value} (h1 : w1.ownsRow W.heap.size e1 size1 v1 n1 xs1) (ho : W.ownsRow base e size v' n xs) : NeRow v1 v':=by
  intro k hk hk'
  have h2:=own_base h1 k hk
  have h3:=own_lt ho k hk'
  omega
theorem blk_alloc {w : World} {g : Nat} {o : Obj} (h : w.heap[g]?=some o) (o' : Obj) : (w.alloc o').heap[g]?=some o:=(Below.heap_alloc w o' g (blk_lt h)).trans h
theorem blk_drew {w : World} {g : Nat} {o : Obj} (h : w.heap[g]?=some o) : w.drew.heap[g]?=some o:=h
theorem blk_drewN {w : World} {g : Nat} {o : Obj} (h : w.heap[g]?=some o) (n : Nat) : (w.drewN n).heap[g]?=some o:=h
theorem blk_below {w w1 : World} {g : Nat} {o : Obj} (h : w.heap[g]?=some o) (hb : Below w.heap.size w w1) : w1.heap[g]?=some o:=(hb.block g (blk_lt h)).trans h
theorem blk_new (w : World) (o : Obj) : (w.alloc o).heap[w.heap.size]?=some o:=heap_alloc_new w o
section
variable {P : Program}
theorem results_ct {fn : Func} {p u : Tmp} {ty : TypeId} (h : fn.results=#[.cell p ty,.tmp u]) (tmps : Array Value) (w : World) (g : Nat) (t : TypeId) (cs : Array Value) (fr : Nat × Nat) (d : TypeDesc)
    (hp : tmps.getD p undef=.pointer (some ⟨g,0,none⟩)) (hg : w.heap[g]?=some (.cells cs t fr))
    (hu : P.underlying ty=some d) (hd : (match d with | .struct _ | .array _ _ => true|_ => false)=true) (hi : (P.info? ty).map (·.size)=some cs.size) :
    (results fn tmps).run P w=.ok (.tuple #[.agg cs,tmps.getD u undef]) w:=by
  have hp' : tmps[p]?.getD undef=.pointer (some ⟨g,0,none⟩):=by simpa using hp
  simp [results,h,hp',asAddr,run_loadVar_row w g t ty cs fr d hg hu hd hi]
end
theorem own_le {w : World} {base n m c size : Nat} {e : TypeId} {A : Option Addr} {xs : List Value} (h : w.ownsRow base e size (.slice A m c) n xs) : m≤c:=by
  rcases h.2 with ⟨he,_⟩ | ⟨g,cap,cur,he,_,_,hnc,_⟩
  · injection he with _ h2 h3
    omega
  · injection he with _ h2 h3
    omega
def OwnRow {α : Type} (R : α→List Value→Prop) (e : TypeId) (size : Nat) (w : World) (base : Nat) (v : Value) (ps : List α) : Prop :=
  ∃ inner,w.ownsRow base e size v ps.length inner∧Reps R size ps inner
section
variable {α : Type} {R R' : α→List Value→Prop} {e : TypeId} {size : Nat} {w w1 : World} {base : Nat} {v : Value} {ps : List α}
theorem OwnRow.none_ (R : α→List Value→Prop) (e : TypeId) (size : Nat) (w : World) (base : Nat) : OwnRow R e size w base (.slice none 0 0) []:=⟨[],own_nil _ _ _ _,Reps.none _ _⟩
theorem OwnRow.imp_ (h : OwnRow R e size w base v ps) (hR : ∀ p c,R p c→R' p c) : OwnRow R' e size w base v ps:=by
  obtain ⟨inner,ho,hr⟩:=h
  exact ⟨inner,ho,hr.imp_ hR⟩
theorem OwnRow.reads (h : OwnRow R e size w base v ps) : ∃ A c,v=.slice A ps.length c∧ps.length≤c∧ReadsRow R size w A ps.length ps:=by
  obtain ⟨inner,ho,hr⟩:=h
  obtain ⟨A,c,rfl,hrow⟩:=own_reads_row ho hr rfl
  exact ⟨A,c,rfl,own_le ho,hrow⟩
theorem OwnRow.ne_block (h : OwnRow R e size w base v ps) {g : Nat} {t : TypeId} {cells : Array Value} (hb : w.heap[g]?=some (.cells cells t (0,0))) (ht : e≠t) : some g≠v.ownBlock:=by
  obtain ⟨inner,ho,hr⟩:=h
  exact own_ne ho hb ht
end
section
variable {P : Program} {ops : Array Oper} {rest : List Oper} {o : Oper} {a : Act} {Q : Exit→Act→World→Prop} {α : Type} {R : α→List Value→Prop}
end
section
variable {P : Program} {ops : Array Oper} {o : Oper} {a : Act} {Q : Exit→Act→World→Prop} {K : Act→World→Prop} {α : Type} {R : α→List Value→Prop}
end
theorem ReadsRow.inner_ {α : Type} {R : α→List Value→Prop} {size : Nat} {w : World} {ad : Addr} {n : Nat} {ps : List α} (h : ReadsRow R size w (some ad) n ps) :
    ∃ inner,Reps R size ps inner∧∀ j u,inner[j]?=some u→w.cell? (ad.add j)=some u:=by
  have key : ∀ m,m≤ps.length→∃ inner,Reps R size (ps.take m) inner∧∀ j u,inner[j]?=some u→w.cell? (ad.add j)=some u:=by
    intro m
    induction m with
    | zero => exact fun _ => ⟨[],Reps.none _ _,fun j u hu => by simp at hu⟩
    | succ m ih =>
      intro hm
      obtain ⟨inner,hr,hc⟩:=ih (by omega)
      obtain ⟨ad',he,hcell⟩:=h.2.2 (by have:=h.1;omega)
      injection he with he
      subst he
      obtain ⟨c,hcl,hp,hcc⟩:=hcell m _ (List.getElem?_eq_getElem (show m < ps.length by omega))
      refine ⟨inner ++ c,?_,fun j u hu => ?_⟩
      · rw [List.take_succ_eq_append_getElem (show m < ps.length by omega)]
        exact hr.snoc hp hcl
      · have hil : inner.length=m * size:=by rw [hr.1,List.length_take,Nat.min_eq_left (by omega)]
        rcases Nat.lt_or_ge j inner.length with hj|hj
        · rw [List.getElem?_append_left hj] at hu
          exact hc j u hu
        · rw [List.getElem?_append_right hj] at hu
          have:=hcc (j - inner.length) u hu
          rwa [hil,Nat.add_sub_cancel' (by omega)] at this
  obtain ⟨inner,hr,hc⟩:=key ps.length (Nat.le_refl _)
  rw [List.take_length] at hr
  exact ⟨inner,hr,hc⟩
section
variable {α : Type} {P : Program}
end
section
variable {P : Program} {ops : Array Oper} {rest : List Oper} {o : Oper} {a : Act} {Q : Exit→Act→World→Prop}
end
structure Kd (α : Type) where
  sz : Nat
  E : List Nat
  K : World→α→List Value→Prop
  M : World→Nat→(Nat→Prop)→α→List Value→Prop
  K_len : ∀ {w x cs},K w x cs→cs.length=sz
  K_one : ∀ {w x cs},K w x cs→∀ u ∈ cs,u.oneCell'=true
  K_below : ∀ {w w1 : World} {x cs},Below w.heap.size w w1→K w x cs→K w1 x cs
  K_of_M : ∀ {w base ok x cs},M w base ok x cs→K w x cs
  M_mono : ∀ {w base ok ok' x cs},(∀ k,ok k→ok' k)→M w base ok x cs→M w base ok' x cs
  M_bound : ∀ {w : World} {base ok x cs},M w base ok x cs→M w base (fun k => ok k∧base≤k∧k < w.heap.size∧∃ q,q ∈ E∧∃ cells,w.heap[k]?=some (.cells cells q (0,0))) x cs
  M_move : ∀ {w w1 : World} {base ok x cs},(∀ k,ok k→w1.heap[k]?=w.heap[k]?)→M w base ok x cs→M w1 base ok x cs
  M_lower : ∀ {w base base' ok x cs},base'≤base→M w base ok x cs→M w base' ok x cs
theorem own_move {w w1 : World} {base : Nat} {e : TypeId} {size n : Nat} {v : Value} {xs : List Value} (h : w.ownsRow base e size v n xs) (hm : ∀ k,v.ownBlock=some k→w1.heap[k]?=w.heap[k]?) : w1.ownsRow base e size v n xs:=by
  obtain ⟨h1,h2⟩:=h
  refine ⟨h1,?_⟩
  rcases h2 with h2 | ⟨g,cap,cur,rfl,hg,hh,r⟩
  · exact .inl h2
  · exact .inr ⟨g,cap,cur,rfl,hg,(hm g (by simp [Value.ownBlock])).trans hh,r⟩
theorem own_typed {w : World} {base : Nat} {e : TypeId} {size n : Nat} {v : Value} {xs : List Value} (h : w.ownsRow base e size v n xs) (k : Nat) (hk : v.ownBlock=some k) : ∃ cells,w.heap[k]?=some (.cells cells e (0,0)):=by
  rcases h.2 with ⟨rfl,_⟩ | ⟨g,cap,cur,rfl,hg,hh,r⟩
  · simp [Value.ownBlock] at hk
  · have : g=k:=by simpa [Value.ownBlock] using hk
    subst this
    exact ⟨cur,hh⟩
namespace Kd
def C {α : Type} (d : Kd α) (w : World) (A : Option Addr) (n : Nat) (xs : List α) : Prop:=ReadsRow (d.K w) d.sz w A n xs
def R {α : Type} (d : Kd α) (e : Nat) (w : World) (base : Nat) (ok : Nat→Prop) (v : Value) (xs : List α) : Prop :=
  (∀ k,v.ownBlock=some k→ok k)∧OwnRow (d.M w base (fun k => ok k∧some k≠v.ownBlock)) e d.sz w base v xs
section
variable {α : Type} {d : Kd α} {e : Nat} {w w1 : World} {base : Nat} {ok ok' : Nat→Prop} {v : Value} {xs : List α}
theorem C_below {A : Option Addr} {n : Nat} (h : d.C w A n xs) (hb : Below w.heap.size w w1) : d.C w1 A n xs:=ReadsRow.imp_ h hb (fun _ _ hp => d.K_below hb hp)
theorem R_nil (d : Kd α) (e : Nat) (w : World) (base : Nat) (ok : Nat→Prop) : d.R e w base ok (.slice none 0 0) []:=⟨fun k hk => by simp [Value.ownBlock] at hk,OwnRow.none_ _ _ _ _ _⟩
theorem R_mono (h : d.R e w base ok v xs) (hok : ∀ k,ok k→ok' k) : d.R e w base ok' v xs:=⟨fun k hk => hok k (h.1 k hk),h.2.imp_ (fun _ _ hp => d.M_mono (fun k hk => ⟨hok k hk.1,hk.2⟩) hp)⟩
theorem R_bound (h : d.R e w base ok v xs) : d.R e w base (fun k => ok k∧base≤k∧k < w.heap.size∧∃ q,q ∈ e :: d.E∧∃ cells,w.heap[k]?=some (.cells cells q (0,0))) v xs:=by
  obtain ⟨h0,inner,ho,hr⟩:=h
  refine ⟨fun k hk => ?_,inner,ho,hr.imp_ (fun _ _ hp => d.M_mono (fun k hk => ?_) (d.M_bound hp))⟩
  · obtain ⟨cells,hc⟩:=own_typed ho k hk
    exact ⟨h0 k hk,own_base ho k hk,own_lt ho k hk,e,List.mem_cons_self,cells,hc⟩
  · obtain ⟨⟨h1,h2⟩,h3,h4,q,hq,hc⟩:=hk
    exact ⟨⟨h1,h3,h4,q,List.mem_cons_of_mem _ hq,hc⟩,h2⟩
theorem R_move (h : d.R e w base ok v xs) (hm : ∀ k,ok k→w1.heap[k]?=w.heap[k]?) : d.R e w1 base ok v xs:=by
  obtain ⟨h0,inner,ho,hr⟩:=h
  exact ⟨h0,inner,own_move ho (fun k hk => hm k (h0 k hk)),hr.imp_ (fun _ _ hp => d.M_move (fun k hk => hm k hk.1) hp)⟩
theorem R_lower {base' : Nat} (h : d.R e w base ok v xs) (hb : base'≤base) : d.R e w base' ok v xs:=by
  obtain ⟨h0,inner,ho,hr⟩:=h
  exact ⟨h0,inner,own_weaken ho hb,hr.imp_ (fun _ _ hp => d.M_lower hb hp)⟩
theorem R_step (h : d.R e w base ok v xs) (hm : ∀ k,ok k→k < w.heap.size→w1.heap[k]?=w.heap[k]?) : d.R e w1 base ok v xs :=
  R_mono (R_move (R_bound h) (fun k hk => hm k hk.1 hk.2.2.1)) (fun _ hk => hk.1)
theorem M_step {x : α} {cs : List Value} (h : d.M w base ok x cs) (hm : ∀ k,ok k→k < w.heap.size→w1.heap[k]?=w.heap[k]?) : d.M w1 base ok x cs :=
  d.M_mono (fun _ hk => hk.1) (d.M_move (fun k hk => hm k hk.1 hk.2.2.1) (d.M_bound h))
theorem R_below (h : d.R e w base ok v xs) (hb : Below w.heap.size w w1) : d.R e w1 base ok v xs:=R_step h (fun k _ hk => hb.block k hk)
theorem M_below {x : α} {cs : List Value} (h : d.M w base ok x cs) (hb : Below w.heap.size w w1) : d.M w1 base ok x cs:=M_step h (fun k _ hk => hb.block k hk)
theorem R_far (h : d.R e w base ok v xs) {p : Addr} (hok : ∀ k,ok k→k≠p.block) (u : Value) : d.R e (w.setCell p u) base ok v xs:=R_step h (fun k ho _ => Below.heap_setCell w p u k (hok k ho))
theorem R_types (h : d.R e w base ok v xs) {g t : Nat} {cells : Array Value} (hb : w.heap[g]?=some (.cells cells t (0,0))) (ht : ∀ q,q ∈ e :: d.E→q≠t) : d.R e w base (fun k => ok k∧k≠g) v xs :=
  R_mono (R_bound h) (fun k hk => ⟨hk.1,by
    obtain ⟨_,_,_,q,hq,cells',hc⟩:=hk
    rintro rfl
    rw [hc] at hb
    injection hb with hb
    injection hb with _ hb
    exact ht q hq hb⟩)
theorem R_reads (h : d.R e w base ok v xs) : ∃ A c,v=.slice A xs.length c∧xs.length≤c∧d.C w A xs.length xs:=by
  obtain ⟨A,c,he,hl,hr⟩:=OwnRow.reads h.2
  exact ⟨A,c,he,hl,hr.imp_ (Below.refl _ _) (fun _ _ hp => d.K_of_M hp)⟩
theorem R_slice (h : d.R e w base ok v xs) : ∃ A c,v=.slice A xs.length c:=by
  obtain ⟨A,c,he,_⟩:=R_reads h
  exact ⟨A,c,he⟩
theorem R_own (h : d.R e w base ok v xs) : ∃ inner,w.ownsRow base e d.sz v xs.length inner:=by
  obtain ⟨_,inner,ho,_⟩:=h
  exact ⟨inner,ho⟩
theorem R_ne (h : d.R e w base ok v xs) {g t : Nat} {cells : Array Value} (hb : w.heap[g]?=some (.cells cells t (0,0))) (ht : e≠t) : some g≠v.ownBlock:=OwnRow.ne_block h.2 hb ht
end
def scalar {α : Type} (enc : α→Value) (h1 : ∀ x,(enc x).oneCell'=true) : Kd α where
  sz:=1
  E:=[]
  K:=fun _ x cs => cs=[enc x]
  M:=fun _ _ _ x cs => cs=[enc x]
  K_len:=fun h => by rw [h];rfl
  K_one:=fun h u hu => by
    rw [h] at hu
    rw [List.mem_singleton.1 hu]
    exact h1 _
  K_below:=fun _ h => h
  K_of_M:=fun h => h
  M_mono:=fun _ h => h
  M_bound:=fun h => h
  M_move:=fun _ h => h
  M_lower:=fun _ h => h
def int (k : IntKind) : Kd Int:=scalar (Value.int k) (fun _ => rfl)
def slice {α : Type} (e : Nat) (d : Kd α) : Kd (List α) where
  sz:=1
  E:=e :: d.E
  K:=fun w xs cs => ∃ A c,cs=[.slice A xs.length c]∧xs.length≤c∧d.C w A xs.length xs
  M:=fun w base ok xs cs => ∃ v,cs=[v]∧d.R e w base ok v xs
  K_len:=by
    rintro w x cs ⟨A,c,rfl,_⟩
    rfl
  K_one:=by
    rintro w x cs ⟨A,c,rfl,_⟩ u hu
    rw [List.mem_singleton.1 hu]
    rfl
  K_below:=by
    rintro w w1 x cs hb ⟨A,c,rfl,hl,hr⟩
    exact ⟨A,c,rfl,hl,C_below hr hb⟩
  K_of_M:=by
    rintro w base ok x cs ⟨v,rfl,h⟩
    obtain ⟨A,c,rfl,hl,hr⟩:=R_reads h
    exact ⟨A,c,rfl,hl,hr⟩
  M_mono:=by
    rintro w base ok ok' x cs hok ⟨v,rfl,h⟩
    exact ⟨v,rfl,R_mono h hok⟩
  M_bound:=by
    rintro w base ok x cs ⟨v,rfl,h⟩
    exact ⟨v,rfl,R_bound h⟩
  M_move:=by
    rintro w w1 base ok x cs hm ⟨v,rfl,h⟩
    exact ⟨v,rfl,R_move h hm⟩
  M_lower:=by
    rintro w base base' ok x cs hb ⟨v,rfl,h⟩
    exact ⟨v,rfl,R_lower h hb⟩
def pair {α β : Type} (a : Kd α) (b : Kd β) : Kd (α × β) where
  sz:=a.sz + b.sz
  E:=a.E ++ b.E
  K:=fun w x cs => ∃ c0 c1,cs=c0 ++ c1∧a.K w x.1 c0∧b.K w x.2 c1
  M:=fun w base ok x cs => ∃ c0 c1,cs=c0 ++ c1∧a.M w base ok x.1 c0∧b.M w base ok x.2 c1
  K_len:=by
    rintro w x cs ⟨c0,c1,rfl,h0,h1⟩
    rw [List.length_append,a.K_len h0,b.K_len h1]
  K_one:=by
    rintro w x cs ⟨c0,c1,rfl,h0,h1⟩ u hu
    rcases List.mem_append.1 hu with hu|hu
    · exact a.K_one h0 u hu
    · exact b.K_one h1 u hu
  K_below:=by
    rintro w w1 x cs hb ⟨c0,c1,rfl,h0,h1⟩
    exact ⟨c0,c1,rfl,a.K_below hb h0,b.K_below hb h1⟩
  K_of_M:=by
    rintro w base ok x cs ⟨c0,c1,rfl,h0,h1⟩
    exact ⟨c0,c1,rfl,a.K_of_M h0,b.K_of_M h1⟩
  M_mono:=by
    rintro w base ok ok' x cs hok ⟨c0,c1,rfl,h0,h1⟩
    exact ⟨c0,c1,rfl,a.M_mono hok h0,b.M_mono hok h1⟩
  M_bound:=by
    rintro w base ok x cs ⟨c0,c1,rfl,h0,h1⟩
    refine ⟨c0,c1,rfl,a.M_mono ?_ (a.M_bound h0),b.M_mono ?_ (b.M_bound h1)⟩
    · rintro k ⟨h2,h3,h4,q,hq,hc⟩
      exact ⟨h2,h3,h4,q,List.mem_append_left _ hq,hc⟩
    · rintro k ⟨h2,h3,h4,q,hq,hc⟩
      exact ⟨h2,h3,h4,q,List.mem_append_right _ hq,hc⟩
  M_move:=by
    rintro w w1 base ok x cs hm ⟨c0,c1,rfl,h0,h1⟩
    exact ⟨c0,c1,rfl,a.M_move hm h0,b.M_move hm h1⟩
  M_lower:=by
    rintro w base base' ok x cs hb ⟨c0,c1,rfl,h0,h1⟩
    exact ⟨c0,c1,rfl,a.M_lower hb h0,b.M_lower hb h1⟩
def iso {α β : Type} (d : Kd α) (f : β→α) : Kd β where
  sz:=d.sz
  E:=d.E
  K:=fun w x cs => d.K w (f x) cs
  M:=fun w base ok x cs => d.M w base ok (f x) cs
  K_len:=d.K_len
  K_one:=d.K_one
  K_below:=d.K_below
  K_of_M:=d.K_of_M
  M_mono:=d.M_mono
  M_bound:=d.M_bound
  M_move:=d.M_move
  M_lower:=d.M_lower
def bot {α : Type} (sz : Nat) (E : List Nat) : Kd α where
  sz:=sz
  E:=E
  K:=fun _ _ _ => False
  M:=fun _ _ _ _ _ => False
  K_len:=fun h => h.elim
  K_one:=fun h => h.elim
  K_below:=fun _ h => h
  K_of_M:=fun h => h
  M_mono:=fun _ h => h
  M_bound:=fun h => h
  M_move:=fun _ h => h
  M_lower:=fun _ h => h
def upto {α : Type} (F : Kd α→Kd α) (sz : Nat) (E : List Nat) : Nat→Kd α
  | 0 => bot sz E
  | n + 1 => F (upto F sz E n)
theorem C_get {α : Type} {d : Kd α} {w : World} {A : Option Addr} {n : Nat} {xs : List α} (h : d.C w A n xs) (z : α) (i : Int) (h0 : 0≤i) (h1 : i < n) :
    ∃ ad c,A=some ad∧c.length=d.sz∧d.K w (xs.getD i.toNat z) c∧∀ j u,c[j]?=some u→w.cell? (ad.add (i.toNat * d.sz + j))=some u:=ReadsRow.get_ h z i h0 h1
theorem R_appended {α : Type} {d : Kd α} {e base : Nat} {ok okp : Nat→Prop} {W w1 : World} {v v1 : Value} {xs : List α} {p : α} {inner cs : List Value} (h0 : ∀ k,v.ownBlock=some k→ok k) (hr : Reps (d.M W base (fun k => ok k∧some k≠v.ownBlock)) d.sz xs inner) (hp : d.M W base okp p cs) (hokp : ∀ k,okp k→ok k∧some k≠v.ownBlock) (hfresh : ∀ k,W.heap.size≤k→ok k)
    (hown : w1.ownsRow base e d.sz v1 (xs.length + 1) (inner ++ cs)) (hg : W.grownBy w1 v.ownBlock) (hat : v1.ownBlock=v.ownBlock∨∃ b,v1.ownBlock=some b∧W.heap.size≤b) : d.R e w1 base ok v1 (xs ++ [p]):=by
  have hne : ∀ k,some k≠v.ownBlock→k < W.heap.size→some k≠v1.ownBlock:=by
    intro k hk hlt
    rcases hat with hat | ⟨b,hb,hle⟩
    · rw [hat];exact hk
    · rw [hb]
      intro he
      injection he with he
      omega
  have step : ∀ {q : α} {c : List Value} {o : Nat→Prop},d.M W base o q c→(∀ k,o k→ok k∧some k≠v.ownBlock)→d.M w1 base (fun k => ok k∧some k≠v1.ownBlock) q c:=by
    intro q c o hq ho
    have h1:=d.M_move (w1:=w1) (fun k hk => hg.block k hk.2.2.1 (ho k hk.1).2) (d.M_bound hq)
    exact d.M_mono (fun k hk => ⟨(ho k hk.1).1,hne k (ho k hk.1).2 hk.2.2.1⟩) h1
  refine ⟨fun k hk => ?_,inner ++ cs,by rw [List.length_append,List.length_singleton];exact hown,?_⟩
  · rcases hat with hat | ⟨b,hb,hle⟩
    · exact h0 k (hat ▸ hk)
    · rw [hb] at hk
      injection hk with hk
      exact hfresh k (by omega)
  · exact (hr.imp_ (fun _ _ hq => step hq (fun _ hk => hk))).snoc (step hp hokp) (d.K_len (d.K_of_M hp))
section
variable {P : Program} {ops : Array Oper} {rest : List Oper} {o : Oper} {a : Act} {Q : Exit→Act→World→Prop} {α : Type}
theorem R_append (d : Kd α) {w0 W : World} (base : Nat) (hgd : o.guard=none) (s x : Operand) (t e : TypeId) (z : Value) (bytes : Nat)
    (ho : o.op=.call { callee:=.builtin .append,args:=#[s,x],argTypes:=#[t,t] })
    (ht : P.underlying t=some (.slice e)) (hinfo : (P.info? e).map (fun i => (i.zero,i.size,i.bytes))=some (some z,d.sz,bytes)) (hz : z.cells.size=d.sz) (hs0 : 0 < d.sz) (hb0 : 0 < bytes)
    (v : Value) (xs : List α) (p : α) (cs : List Value) (ok okp : Nat→Prop) (hs : a.eval s=v) (hx : a.eval x=.slice (some ⟨W.heap.size,0,none⟩) 1 1) (hp : d.M W base okp p cs) (hokp : ∀ k,okp k→ok k∧some k≠v.ownBlock) (hfresh : ∀ k,W.heap.size≤k→ok k)
    (HO : d.R e W base ok v xs) (HB : Below base w0 W) (hbase : base≤W.heap.size) (hl : (xs.length + 1) * bytes≤140737488355328)
    (h : ∀ v1 w1,d.R e w1 base ok v1 (xs ++ [p])→Below base w0 w1→W.grownBy w1 v.ownBlock→(v1.ownBlock=v.ownBlock∨∃ b,v1.ownBlock=some b∧W.heap.size≤b)→wpList P ops Q rest (a.put o.dst v1) w1) :
    wpList P ops Q (o :: rest) a (W.alloc (.cells cs.toArray e)):=by
  obtain ⟨h0,inner,hown,hr⟩:=HO
  refine print_append_cells base hgd s x t e z d.sz bytes ho ht hinfo hz hs0 hb0 v xs.length inner cs hs hx (d.K_len (d.K_of_M hp)) (d.K_one (d.K_of_M hp)) hown HB hbase hl ?_
  intro v1 w1 hown1 hb1 hg1 hat1
  exact h v1 w1 (R_appended h0 hr hp hokp hfresh hown1 hg1 hat1) hb1 hg1 hat1
end
section
variable {P : Program} {ops : Array Oper} {o : Oper} {a : Act} {Q : Exit→Act→World→Prop} {Kc : Act→World→Prop} {α : Type}
end
theorem C_of_reads {α : Type} {enc : α→Value} {d : α} {h1 : ∀ x,(enc x).oneCell'=true} {w : World} {A : Option Addr} {n : Nat} {xs : List α} (h : ReadsOf enc d w A n xs) : (scalar enc h1).C w A n xs:=by
  refine ⟨h.1,h.2.1,fun hn => ?_⟩
  obtain ⟨ad,e,hc⟩:=h.2.2 hn
  refine ⟨ad,e,fun j p hj => ⟨[enc p],rfl,rfl,fun i u hu => ?_⟩⟩
  obtain ⟨hl,hp⟩:=List.getElem?_eq_some_iff.1 hj
  have h2:=hc j (by have:=h.1;omega)
  rw [List.getD_eq_getElem?_getD,hj] at h2
  cases i with
  | zero =>
    have : enc p=u:=by simpa using hu
    subst this
    simpa [scalar] using h2
  | succ i => simp at hu
theorem reads_of_C {α : Type} {enc : α→Value} {d : α} {h1 : ∀ x,(enc x).oneCell'=true} {w : World} {A : Option Addr} {n : Nat} {xs : List α} (h : (scalar enc h1).C w A n xs) : ReadsOf enc d w A n xs:=by
  refine ⟨h.1,h.2.1,fun hn => ?_⟩
  obtain ⟨ad,e,hc⟩:=h.2.2 hn
  refine ⟨ad,e,fun j hj => ?_⟩
  have hl : j < xs.length:=by have:=h.1;omega
  obtain ⟨c,_,hK,hcell⟩:=hc j _ (List.getElem?_eq_getElem hl)
  have hK' : c=[enc xs[j]]:=hK
  subst hK'
  have:=hcell 0 _ rfl
  simpa [scalar,List.getD_eq_getElem?_getD,List.getElem?_eq_getElem hl] using this
end Kd
namespace Kd
section
variable {α : Type} {F : Kd α→Kd α} {sz : Nat} {E : List Nat} {hs : ∀ n,(upto F sz E n).sz=sz} {hE : ∀ n q,q ∈ (upto F sz E n).E→q ∈ E}
end
end Kd
namespace Kd
theorem R_after {α : Type} {d : Kd α} {e base : Nat} {ok : Nat→Prop} {W w1 : World} {u v v1 : Value} {xs : List α} (h : d.R e W base (fun k => ok k∧some k≠v.ownBlock) u xs) (hg : W.grownBy w1 v.ownBlock) (hat : v1.ownBlock=v.ownBlock∨∃ b,v1.ownBlock=some b∧W.heap.size≤b) : d.R e w1 base (fun k => ok k∧some k≠v1.ownBlock) u xs:=by
  refine R_mono (R_move (R_bound h) (fun k hk => hg.block k hk.2.2.1 hk.1.2)) (fun k hk => ⟨hk.1.1,?_⟩)
  rcases hat with hat | ⟨b,hb,hle⟩
  · rw [hat];exact hk.1.2
  · rw [hb]
    intro he
    injection he with he
    have:=hk.2.2.1
    omega
end Kd
namespace Kd
section
variable {α β : Type} {d : Kd α} {d' : Kd β} {e e' : Nat} {w w1 W : World} {base b b' : Nat} {ok ok' okv oku : Nat→Prop} {v u : Value} {xs : List α} {ys : List β}
theorem R_drewN (h : d.R e w base ok v xs) (m : Nat) : d.R e (w.drewN m) base ok v xs:=R_below h (pw_below_drewN (Below.refl _ _) m)
theorem C_alloc {A : Option Addr} {n : Nat} (h : d.C w A n xs) (o : Obj) : d.C (w.alloc o) A n xs:=C_below h (below_alloc (Below.refl _ _) o)
theorem C_nil (d : Kd α) (w : World) : d.C w none ([] : List α).length []:=⟨rfl,by simp,fun h => absurd h (Nat.lt_irrefl 0)⟩
theorem R_reads' {A : Option Addr} {n c : Nat} (h : d.R e w base ok (.slice A n c) xs) : n=xs.length∧n≤c∧d.C w A xs.length xs:=by
  obtain ⟨A',c',he,hl,hr⟩:=R_reads h
  injection he with h1 h2 h3
  subst h1
  exact ⟨h2,by omega,hr⟩
theorem R_lt (h : d.R e w base ok v xs) : ∀ k,v.ownBlock=some k→k < w.heap.size:=by
  obtain ⟨inner,ho⟩:=R_own h
  exact own_lt ho
theorem R_base (h : d.R e w base ok v xs) : ∀ k,v.ownBlock=some k→base≤k:=by
  obtain ⟨inner,ho⟩:=R_own h
  exact own_base ho
theorem R_away (h : d.R e w base ok v xs) {g : Nat} (hok : ∀ k,ok k→k≠g) : some g≠v.ownBlock:=fun e => hok g (h.1 g e.symm) rfl
theorem R_form (h : d.R e w base ok v xs) (hp : 0 < xs.length) : ∃ g cap,v=.slice (some ⟨g,0,none⟩) xs.length cap∧base≤g∧g < w.heap.size∧∃ cells,w.heap[g]?=some (.cells cells e (0,0)):=by
  obtain ⟨inner,ho⟩:=R_own h
  obtain ⟨g,cap,he,hb,hl⟩:=ho.form hp
  obtain ⟨cells,hc⟩:=own_typed ho g (by rw [he];simp [Value.ownBlock])
  exact ⟨g,cap,he,hb,hl,cells,hc⟩
theorem R_elder (hu : d'.R e' W b oku u ys) (h : d.R e w1 W.heap.size okv v xs) (hb : Below W.heap.size W w1) : d'.R e' w1 b (fun k => oku k∧some k≠v.ownBlock) u ys:=by
  obtain ⟨inner,ho⟩:=R_own h
  exact R_mono (R_move (R_bound hu) (fun k hk => hb.block k hk.2.2.1)) (fun k hk => ⟨hk.1,fun he => by have:=own_base ho k he.symm;have:=hk.2.2.1;omega⟩)
end
section
variable {w W : World} {A : Option Addr} {n : Nat}
theorem at_int {k : IntKind} {xs : List Int} (h : (Kd.int k).C w A n xs) (i : Int) (h0 : 0≤i) (h1 : i < n) : ∃ ad,A=some ad∧w.cell? (ad.add i.toNat)=some (.int k (rd xs i)) :=
  ReadsOf.at_ (reads_of_C (enc:=Value.int k) (d:=(0 : Int)) (h1:=fun _ => rfl) h) i h0 h1
variable {α : Type} {enc : α→Value} {h1 : ∀ x,(enc x).oneCell'=true} {e base g cap : Nat} {ok : Nat→Prop} {xs : List α}
end
section
variable {P : Program} {ops : Array Oper} {rest : List Oper} {o : Oper} {a : Act} {Q : Exit→Act→World→Prop}
theorem event_run {W w1 : World} {v : Value} (hgd : o.guard=none) (hrun : (execOp a.eval o).run P W=.ok (.value v) w1) (h : wpList P ops Q rest (a.put o.dst v) w1) : wpList P ops Q (o :: rest) a W:=by
  refine wpList_plain hgd fun K hK => ?_
  unfold Oper.wp
  rw [hrun]
  exact hK _ _ h
variable {α : Type}
theorem R_lit (d : Kd α) {w0 W : World} (base e : Nat) (hgd : o.guard=none) {N : Tmp} (_hd : o.dst=some N) {xs : List α} {inner : List Value} {ok okp : Nat→Prop}
    (hrun : (execOp a.eval o).run P W=.ok (.value (.slice (some ⟨W.heap.size,0,none⟩) xs.length xs.length)) (W.alloc (.cells inner.toArray e)))
    (hrep : Reps (d.M W base okp) d.sz xs inner) (hok : ∀ k,okp k→ok k) (hfresh : ok W.heap.size) (HB : Below base w0 W) (hbase : base≤W.heap.size) (hm : xs.length≤9223372036854775807)
    (h : ∀ v1 w1,d.R e w1 base ok v1 xs→Below base w0 w1→W.grownBy w1 none→(∃ b,v1.ownBlock=some b∧W.heap.size≤b)→wpList P ops Q rest (a.put o.dst v1) w1) : wpList P ops Q (o :: rest) a W:=by
  refine event_run hgd hrun (h _ _ ⟨fun k hk => ?_,inner,?_,?_⟩ (HB.alloc hbase _) (World.grownBy_alloc W _ none) ⟨W.heap.size,by simp [Value.ownBlock],Nat.le_refl _⟩)
  · have : W.heap.size=k:=by simpa [Value.ownBlock] using hk
    subst this
    exact hfresh
  · have h2:=World.ownsRow_lit (base:=base) (e:=e) (size:=d.sz) W inner.toArray xs.length hbase (by simpa [maxLen] using hm) (by simpa using hrep.1)
    simpa using h2
  · refine hrep.imp_ (fun p c hp => d.M_mono (fun k hk => ⟨hok k hk.1,fun he => ?_⟩) (M_below (d.M_bound hp) (below_alloc (Below.refl _ _) _)))
    have h3 : k=W.heap.size:=by simpa [Value.ownBlock] using he
    have:=hk.2.2.1
    omega
end
end Kd
section
variable {P : Program}
end
def QRow (w : World) (base : Nat) (e : TypeId) (size : Nat) (v : Value) (n : Nat) (xs : List Value) : Prop :=
  xs.length=n * size ∧
  ((n=0∧∃ A,v=.slice A 0 0∧∀ a,A=some a→base≤a.block∧∃ cur,w.heap[a.block]?=some (.cells cur e (0,0))) ∨
   ∃ g off cap cur,v=.slice (some ⟨g,off * size,none⟩) n cap∧base≤g∧w.heap[g]?=some (.cells cur e (0,0))∧n≤cap∧off + cap≤maxLen∧cur.size=(off + cap) * size∧(cur.toList.drop (off * size)).take (n * size)=xs)
section
variable {w w1 : World} {base n size : Nat} {e : TypeId} {v : Value} {xs : List Value}
end
section
variable {P : Program}
end
namespace Kd
def Q {α : Type} (d : Kd α) (e : Nat) (w : World) (base : Nat) (ok : Nat→Prop) (v : Value) (xs : List α) : Prop :=
  (∀ k,v.ownBlock=some k→ok k)∧∃ inner,QRow w base e d.sz v xs.length inner∧Reps (d.M w base (fun k => ok k∧some k≠v.ownBlock)) d.sz xs inner
section
variable {α : Type} {d : Kd α} {e : Nat} {w w1 W : World} {base : Nat} {ok ok' : Nat→Prop} {v : Value} {xs : List α}
end
section
variable {P : Program} {ops : Array Oper} {rest : List Oper} {o : Oper} {a : Act} {Q' : Exit→Act→World→Prop} {Kc : Act→World→Prop} {α : Type}
end
end Kd
namespace Kd
section
variable {α : Type} {d : Kd α} {e e' : Nat} {w w1 W : World} {base : Nat} {ok : Nat→Prop} {u v : Value} {xs : List α}
theorem R_typed (h : d.R e w base ok v xs) : ∀ k,v.ownBlock=some k→∃ cells,w.heap[k]?=some (.cells cells e (0,0)):=by
  obtain ⟨inner,ho⟩:=R_own h
  exact fun k hk => own_typed ho k hk
theorem R_over' (h : d.R e W base ok u xs) (hty : ∀ k,v.ownBlock=some k→∃ cells,W.heap[k]?=some (.cells cells e' (0,0))) (ht : ∀ q,q ∈ e :: d.E→q≠e') (hg : W.grownBy w1 v.ownBlock) : d.R e w1 base ok u xs:=by
  refine R_mono (R_move (R_bound h) (fun k hk => hg.block k hk.2.2.1 (fun he => ?_))) (fun _ hk => hk.1)
  obtain ⟨_,_,_,q,hq,cells,hc⟩:=hk
  obtain ⟨cells',hc'⟩:=hty k he.symm
  rw [hc] at hc'
  injection hc' with hc'
  injection hc' with _ hc'
  exact ht q hq hc'
theorem R_apart' (h : d.R e W base ok u xs) (hty : ∀ k,v.ownBlock=some k→∃ cells,W.heap[k]?=some (.cells cells e' (0,0))) (ht : ∀ q,q ∈ e :: d.E→q≠e') : d.R e W base (fun k => ok k∧some k≠v.ownBlock) u xs:=by
  refine R_mono (R_bound h) (fun k hk => ⟨hk.1,fun he => ?_⟩)
  obtain ⟨_,_,_,q,hq,cells,hc⟩:=hk
  obtain ⟨cells',hc'⟩:=hty k he.symm
  rw [hc] at hc'
  injection hc' with hc'
  injection hc' with _ hc'
  exact ht q hq hc'
theorem R_elder' (hu : d.R e W base ok u xs) (hbase : ∀ k,v.ownBlock=some k→W.heap.size≤k) (hb : Below W.heap.size W w1) : d.R e w1 base (fun k => ok k∧some k≠v.ownBlock) u xs :=
  R_mono (R_move (R_bound hu) (fun k hk => hb.block k hk.2.2.1)) (fun k hk => ⟨hk.1,fun he => by have:=hbase k he.symm;have:=hk.2.2.1;omega⟩)
theorem R_new' (h : d.R e w1 W.heap.size ok v xs) (hlt : ∀ k,u.ownBlock=some k→k < W.heap.size) : d.R e w1 W.heap.size (fun k => ok k∧some k≠u.ownBlock) v xs :=
  R_mono (R_bound h) (fun k hk => ⟨hk.1,fun he => by have:=hlt k he.symm;have:=hk.2.1;omega⟩)
theorem fresh' (hlt : ∀ k,u.ownBlock=some k→k < W.heap.size) : ∀ k,W.heap.size≤k→some k≠u.ownBlock:=fun k hk he => by have:=hlt k he.symm;omega
end
end Kd
namespace Kd
section
variable {α : Type} {d : Kd α} {e base g n cap : Nat} {ok okp : Nat→Prop} {W : World} {xs : List α}
theorem R_elem (h : d.R e W base ok (.slice (some ⟨g,0,none⟩) n cap) xs) (z : α) (i : Int) (h0 : 0≤i) (h1 : i < n) :
    ∃ c,c.length=d.sz∧d.M W base (fun k => ok k∧k≠g) (xs.getD i.toNat z) c∧(∀ j u,c[j]?=some u→W.cell? ⟨g,i.toNat * d.sz + j,none⟩=some u)∧∀ j,W.frozen? ⟨g,i.toNat * d.sz + j,none⟩=false:=by
  obtain ⟨hn,hnc,hC⟩:=R_reads' h
  obtain ⟨_,inner,ho,hr⟩:=h
  have hil : i.toNat < xs.length:=by omega
  have hseg : i.toNat * d.sz + d.sz≤inner.length:=by rw [hr.1,← Nat.succ_mul];exact Nat.mul_le_mul_right _ hil
  have hM:=hr.2 i.toNat _ (List.getElem?_eq_getElem hil)
  refine ⟨(inner.drop (i.toNat * d.sz)).take d.sz,by rw [List.length_take,List.length_drop];omega,?_,fun j u hu => ?_,fun j => ?_⟩
  · rw [List.getD_eq_getElem?_getD,List.getElem?_eq_getElem hil]
    exact d.M_mono (fun k hk => ⟨hk.1,fun he => hk.2 (by rw [he];simp [Value.ownBlock])⟩) hM
  · rw [List.getElem?_take] at hu
    split at hu
    · rw [List.getElem?_drop] at hu
      have:=ho.cells (g:=g) (by simp [Value.ownBlock]) _ u hu
      rwa [add_plain] at this
    · cases hu
  · obtain ⟨cells,hc⟩:=own_typed ho g (by simp [Value.ownBlock])
    exact blk_frozen hc _
end
end Kd
namespace Kd
section
variable {α : Type} {F : Kd α→Kd α} {sz : Nat} {E : List Nat} {hs : ∀ n,(upto F sz E n).sz=sz} {hE : ∀ n q,q ∈ (upto F sz E n).E→q ∈ E}
end
end Kd
namespace Kd
theorem reps_append {α : Type} {R : α→List Value→Prop} {size : Nat} {ps qs : List α} {cs ds : List Value} (h : Reps R size ps cs) (h' : Reps R size qs ds) : Reps R size (ps ++ qs) (cs ++ ds):=by
  refine ⟨by rw [List.length_append,List.length_append,h.1,h'.1,Nat.add_mul],fun j p hj => ?_⟩
  rcases Nat.lt_or_ge j ps.length with hlt|hge
  · rw [List.getElem?_append_left hlt] at hj
    have hle : j * size + size≤cs.length:=by rw [h.1,← Nat.succ_mul];exact Nat.mul_le_mul_right _ hlt
    rw [List.drop_append_of_le_length (by omega),List.take_append_of_le_length (by rw [List.length_drop];omega)]
    exact h.2 j p hj
  · rw [List.getElem?_append_right hge] at hj
    have h2:=h'.2 (j - ps.length) p hj
    have hle : ps.length * size≤j * size:=Nat.mul_le_mul_right _ hge
    rw [List.drop_append,List.drop_eq_nil_of_le (by rw [h.1];exact hle),List.nil_append,h.1,← Nat.sub_mul]
    exact h2
section
variable {P : Program} {ops : Array Oper} {rest : List Oper} {o : Oper} {a : Act} {Q : Exit→Act→World→Prop} {α : Type}
theorem R_append_rows (d : Kd α) {Rr : α→List Value→Prop} {w0 W : World} (base : Nat) (hgd : o.guard=none) (s x : Operand) (t e : TypeId) (z : Value) (bytes : Nat)
    (ho : o.op=.call { callee:=.builtin .append,args:=#[s,x],argTypes:=#[t,t] })
    (ht : P.underlying t=some (.slice e)) (hinfo : (P.info? e).map (fun i => (i.zero,i.size,i.bytes))=some (some z,d.sz,bytes)) (hz : z.cells.size=d.sz) (hs0 : 0 < d.sz) (hb0 : 0 < bytes)
    (v : Value) (xs ys : List α) (A : Option Addr) (m c : Nat) (ok okp : Nat→Prop) (hs : a.eval s=v) (hx : a.eval x=.slice A m c)
    (HO : d.R e W base ok v xs) (HR : ReadsRow Rr d.sz W A m ys) (hKM : ∀ x cs,Rr x cs→d.M W base okp x cs) (hokp : ∀ k,okp k→ok k∧some k≠v.ownBlock) (hfresh : ∀ k,W.heap.size≤k→ok k)
    (HB : Below base w0 W) (hbase : base≤W.heap.size) (hl : (xs.length + m) * bytes≤140737488355328)
    (h : ∀ v1 w1,d.R e w1 base ok v1 (xs ++ ys)→Below base w0 w1→W.grownBy w1 v.ownBlock→(v1.ownBlock=v.ownBlock∨∃ b,v1.ownBlock=some b∧W.heap.size≤b)→wpList P ops Q rest (a.put o.dst v1) w1) :
    wpList P ops Q (o :: rest) a W:=by
  obtain ⟨i0,hi,hzz⟩:=Option.map_eq_some_iff.1 hinfo
  simp only [Prod.mk.injEq] at hzz
  obtain ⟨hz0,hz1,hz2⟩:=hzz
  have hm : ys.length=m:=HR.1
  have hlen : xs.length + m≤140737488355328:=Nat.le_trans (Nat.le_mul_of_pos_right _ hb0) hl
  obtain ⟨hok,inner,hown,hr⟩:=HO
  have hrun : ∃ v1 w1,(Builtin.append_ #[t,t] o.type #[v,.slice A m c]).run P W=.ok v1 w1∧d.R e w1 base ok v1 (xs ++ ys)∧W.grownBy w1 v.ownBlock∧(v1.ownBlock=v.ownBlock∨∃ b,v1.ownBlock=some b∧W.heap.size≤b):=by
    rcases A with _|ad
    · have h0 : m=0:=by
        rcases Nat.eq_zero_or_pos m with h0|h0
        · exact h0
        · obtain ⟨ad,h,_⟩:=HR.2.2 h0
          cases h
      subst h0
      obtain rfl : ys=[]:=List.eq_nil_of_length_eq_zero hm
      refine ⟨v,W,?_,by rw [List.append_nil];exact ⟨hok,inner,hown,hr⟩,World.grownBy.refl W _,.inl rfl⟩
      rcases hown.2 with ⟨rfl,hn⟩ | ⟨g,cap,cur,rfl,_,_,hnc,_⟩
      · simp [Builtin.append_,run_underlying ht,sizeOf,typeInfo,hi,Builtin.lenOf,Builtin.firstCells]
      · simp [Builtin.append_,run_underlying ht,sizeOf,typeInfo,hi,Builtin.lenOf,Builtin.firstCells,hnc,storeCells]
    · obtain ⟨news,hnr,hnc⟩:=ReadsRow.inner_ HR
      have hnM : Reps (d.M W base okp) d.sz ys news:=hnr.imp_ (fun p c hp => hKM p c hp)
      have hone : ∀ u ∈ news,u.oneCell'=true:=by
        intro u hu
        obtain ⟨q,hq,rfl⟩:=List.mem_iff_getElem.1 hu
        have hql : q / d.sz < ys.length:=by
          rw [Nat.div_lt_iff_lt_mul hs0]
          rw [← hnM.1]
          exact hq
        have hc:=hnM.2 (q / d.sz) _ (List.getElem?_eq_getElem hql)
        refine d.K_one (d.K_of_M hc) _ ?_
        rw [List.mem_iff_getElem?]
        refine ⟨q % d.sz,?_⟩
        rw [List.getElem?_take,if_pos (Nat.mod_lt _ hs0),List.getElem?_drop,Nat.mul_comm,Nat.div_add_mod,List.getElem?_eq_getElem hq]
      obtain ⟨v1,w1,hrun,h2,hg,_,hat⟩:=run_append_own_at (P:=P) W base t o.type e i0 z d.sz bytes ht hi hz0 hz1 hz2 hz hs0 v xs.length inner hown ad m c news (by rw [hnM.1,hm]) hnc hone (by simp only [maxLen];omega) hl hbase
      have hat' : v1.ownBlock=v.ownBlock∨∃ b,v1.ownBlock=some b∧W.heap.size≤b:=by
        rcases hat with hat|hat
        · exact .inl hat
        · exact .inr ⟨_,hat,Nat.le_refl _⟩
      have hne : ∀ k,some k≠v.ownBlock→k < W.heap.size→some k≠v1.ownBlock:=by
        intro k hk hlt
        rcases hat' with hat | ⟨b,hb,hle⟩
        · rw [hat];exact hk
        · rw [hb]
          intro he
          injection he with he
          omega
      have step : ∀ {q : α} {c : List Value} {o : Nat→Prop},d.M W base o q c→(∀ k,o k→ok k∧some k≠v.ownBlock)→d.M w1 base (fun k => ok k∧some k≠v1.ownBlock) q c:=by
        intro q c o hq ho
        have h1:=d.M_move (w1:=w1) (fun k hk => hg.block k hk.2.2.1 (ho k hk.1).2) (d.M_bound hq)
        exact d.M_mono (fun k hk => ⟨(ho k hk.1).1,hne k (ho k hk.1).2 hk.2.2.1⟩) h1
      refine ⟨v1,w1,hrun,⟨fun k hk => ?_,inner ++ news,by rw [List.length_append,hm];exact h2,reps_append (hr.imp_ (fun _ _ hq => step hq (fun _ hk => hk))) (hnM.imp_ (fun _ _ hq => step hq hokp))⟩,hg,hat'⟩
      rcases hat' with hat | ⟨b,hb,hle⟩
      · exact hok k (hat ▸ hk)
      · rw [hb] at hk
        injection hk with hk
        exact hfresh k (by omega)
  obtain ⟨v1,w1,hr1,h1,hg,hat⟩:=hrun
  refine wpList_plain hgd fun K hK => ?_
  unfold Oper.wp execOp
  simp only [ho,resolve,invoke,builtin,Sem.run_bind,Sem.run_pure,Result.andThen_ok,List.map_toArray,List.map_cons,List.map_nil,hs,hx,hr1]
  exact hK _ _ (h v1 w1 h1 (HB.grown hg hbase (own_base hown)) hg hat)
end
end Kd
namespace Kd
section
variable {P : Program} {ops : Array Oper} {rest : List Oper} {o : Oper} {a : Act} {Q : Exit→Act→World→Prop} {α : Type}
end
end Kd
namespace Kd
section
variable {α : Type} {k : Kd α} {w : World} {A : Option Addr} {xs : List α} {m c : Nat}
theorem C_take (h : k.C w A xs.length xs) (hm : m≤xs.length) : k.C w A (xs.take m).length (xs.take m):=by
  have hl : (xs.take m).length=m:=by rw [List.length_take];omega
  refine ⟨rfl,by rw [hl];have:=h.2.1;omega,fun hp => ?_⟩
  obtain ⟨ad,e,hc⟩:=h.2.2 (by omega)
  refine ⟨ad,e,fun j p hj => hc j p ?_⟩
  rw [List.getElem?_take] at hj
  split at hj
  · exact hj
  · cases hj
end
end Kd
section
variable {P : Program}
end
theorem below_size {w W : World} (h : Below w.heap.size w W) : w.heap.size≤W.heap.size:=h.size
theorem below_step {w W w2 : World} (h : Below w.heap.size w W) (k : Below W.heap.size W w2) : Below w.heap.size w w2:=below_then h h.size k
theorem below_set {w W : World} {g j : Nat} {v : Value} (h : Below w.heap.size w W) (hg : w.heap.size≤g) : Below w.heap.size w (W.setCell ⟨g,j,none⟩ v):=h.setCell hg _
theorem add_block (a : Addr) (i : Nat) : (a.add i).block=a.block:=by unfold Addr.add;split <;> rfl
theorem cell_far {W : World} {p a : Addr} (h : a.block≠p.block) (u : Value) : (W.setCell p u).cell? a=W.cell? a:=by
  have:=Below.heap_setCell W p u a.block h
  simp [World.cell?,this]
theorem blk_put {w : World} {g : Nat} {t : TypeId} {cs cs' : Array Value} (h : w.heap[g]?=some (.cells cs t (0,0))) (i : Nat) (u : Value) (e : cs.setIfInBounds i u=cs') : (w.setCell ⟨g,i,none⟩ u).heap[g]?=some (.cells cs' t (0,0)):=e ▸ blk_set h i u
theorem below_drew1 {base : Nat} {w W : World} (h : Below base w W) : Below base w W.drew:=h.drew
namespace Kd
section
variable {α β : Type} {d : Kd α} {d' : Kd β} {e e' base base' n : Nat} {ok ok' : Nat→Prop} {w W w1 W1 : World} {v u : Value} {xs : List α} {ys : List β} {A : Option Addr} {c : Nat}
end
section
variable {α : Type} {enc : α→Value} {h1 : ∀ x,(enc x).oneCell'=true} {w W : World} {A : Option Addr} {n g : Nat} {xs : List α}
end
end Kd
namespace Kd
section
variable {α : Type} {d : Kd α} {e base g : Nat} {ok : Nat→Prop} {w w1 : World} {v : Value} {xs : List α} {o : Obj}
theorem freshB (hb : w.heap[g]?=some o) : ∀ k,w.heap.size≤k→k≠g:=fun k hk => by have:=blk_lt hb;omega
end
end Kd
section
variable {P : Program} {ops : Array Oper} {rest : List Oper} {o : Oper} {a : Act} {Q : Exit→Act→World→Prop}
theorem box_event {W : World} (hgd : o.guard=none) {N : Tmp} (_hd : o.dst=some N) {cs : Array Value} {t : TypeId}
    (hrun : (execOp a.eval o).run P W=.ok (.value (.pointer (some ⟨W.heap.size,0,none⟩))) (W.alloc (.cells cs t (0,0))))
    (h : ∀ g,g=W.heap.size→∀ w1,w1.heap[g]?=some (.cells cs t (0,0))→Below W.heap.size W w1→wpList P ops Q rest (a.put o.dst (.pointer (some ⟨g,0,none⟩))) w1) : wpList P ops Q (o :: rest) a W :=
  Kd.event_run hgd hrun (h _ rfl _ (blk_new W _) (below_alloc (Below.refl _ _) _))
end
namespace Kd
section
variable {α : Type} {enc : α→Value} {h1 : ∀ x,(enc x).oneCell'=true} {e base g n cap : Nat} {ok : Nat→Prop} {W : World} {xs : List α}
end
end Kd
section
variable {P : Program} {ops : Array Oper} {rest : List Oper} {o : Oper} {a : Act} {Q : Exit→Act→World→Prop}
theorem store_event {W w1 : World} (hgd : o.guard=none) {t : TypeId} {p : Tmp} {v : Operand} (_ho : o.op=.store t (.tmp p) v) (hN : o.dst=none)
    (hrun : (execOp a.eval o).run P W=.ok .skip w1) (h : ∀ w',w'=w1→wpList P ops Q rest a w') : wpList P ops Q (o :: rest) a W:=by
  refine wpList_plain hgd fun K hK => ?_
  unfold Oper.wp
  rw [hrun]
  show K (a.put o.dst undef) w1
  rw [hN]
  exact hK _ _ (h _ rfl)
end
namespace Kd
section
variable {α : Type} {enc : α→Value} {h1 : ∀ x,(enc x).oneCell'=true} {e base g n cap : Nat} {ok : Nat→Prop} {W : World} {xs : List α}
end
end Kd
section
variable {P : Program} {ops : Array Oper} {rest : List Oper} {o : Oper} {a : Act} {Q : Exit→Act→World→Prop} {W : World}
theorem gate_dst {N : Tmp} (_hN : o.dst=some N) (h : wpList P ops Q (o :: rest) a W) : wpList P ops Q (o :: rest) a W:=h
theorem gate_store {t : TypeId} {p : Tmp} {v : Operand} (_ho : o.op=.store t (.tmp p) v) (h : wpList P ops Q (o :: rest) a W) : wpList P ops Q (o :: rest) a W:=h
end
section
variable {P : Program} {ops : Array Oper} {o : Oper} {a : Act} {Q : Exit→Act→World→Prop} {Kc : Act→World→Prop}
theorem event_step {W w1 : World} {v : Value} (hw : Region.wanted o (yielded ops a.tmps)=true) (hrun : (execOp a.eval o).run P W=.ok (.value v) w1) (h : Kc (a.put o.dst v) w1) : if Region.wanted o (yielded ops a.tmps)=true then Oper.wp P o a W Kc Q else Kc (a.put o.dst undef) W:=by
  rw [if_pos hw]
  unfold Oper.wp
  rw [hrun]
  exact h
namespace Kd
variable {α : Type}
theorem R_lit_step (d : Kd α) {w0 W : World} (base e : Nat) (hw : Region.wanted o (yielded ops a.tmps)=true) {N : Tmp} (_hd : o.dst=some N) {xs : List α} {inner : List Value} {ok okp : Nat→Prop}
    (hrun : (execOp a.eval o).run P W=.ok (.value (.slice (some ⟨W.heap.size,0,none⟩) xs.length xs.length)) (W.alloc (.cells inner.toArray e)))
    (hrep : Reps (d.M W base okp) d.sz xs inner) (hok : ∀ k,okp k→ok k) (hfresh : ok W.heap.size) (HB : Below base w0 W) (hbase : base≤W.heap.size) (hm : xs.length≤9223372036854775807)
    (h : ∀ v1 w1,d.R e w1 base ok v1 xs→Below base w0 w1→W.grownBy w1 none→(∃ b,v1.ownBlock=some b∧W.heap.size≤b)→Kc (a.put o.dst v1) w1) : if Region.wanted o (yielded ops a.tmps)=true then Oper.wp P o a W Kc Q else Kc (a.put o.dst undef) W:=by
  refine event_step hw hrun (h _ _ ⟨fun k hk => ?_,inner,?_,?_⟩ (HB.alloc hbase _) (World.grownBy_alloc W _ none) ⟨W.heap.size,by simp [Value.ownBlock],Nat.le_refl _⟩)
  · have : W.heap.size=k:=by simpa [Value.ownBlock] using hk
    subst this
    exact hfresh
  · have h2:=World.ownsRow_lit (base:=base) (e:=e) (size:=d.sz) W inner.toArray xs.length hbase (by simpa [maxLen] using hm) (by simpa using hrep.1)
    simpa using h2
  · refine hrep.imp_ (fun p c hp => d.M_mono (fun k hk => ⟨hok k hk.1,fun he => ?_⟩) (M_below (d.M_bound hp) (below_alloc (Below.refl _ _) _)))
    have h3 : k=W.heap.size:=by simpa [Value.ownBlock] using he
    have:=hk.2.2.1
    omega
theorem R_append_rows_step (d : Kd α) {Rr : α→List Value→Prop} {w0 W : World} (base : Nat) (hw : Region.wanted o (yielded ops a.tmps)=true) (s x : Operand) (t e : TypeId) (z : Value) (bytes : Nat)
    (ho : o.op=.call { callee:=.builtin .append,args:=#[s,x],argTypes:=#[t,t] })
    (ht : P.underlying t=some (.slice e)) (hinfo : (P.info? e).map (fun i => (i.zero,i.size,i.bytes))=some (some z,d.sz,bytes)) (hz : z.cells.size=d.sz) (hs0 : 0 < d.sz) (hb0 : 0 < bytes)
    (v : Value) (xs ys : List α) (A : Option Addr) (m c : Nat) (ok okp : Nat→Prop) (hs : a.eval s=v) (hx : a.eval x=.slice A m c)
    (HO : d.R e W base ok v xs) (HR : ReadsRow Rr d.sz W A m ys) (hKM : ∀ x cs,Rr x cs→d.M W base okp x cs) (hokp : ∀ k,okp k→ok k∧some k≠v.ownBlock) (hfresh : ∀ k,W.heap.size≤k→ok k)
    (HB : Below base w0 W) (hbase : base≤W.heap.size) (hl : (xs.length + m) * bytes≤140737488355328)
    (h : ∀ v1 w1,d.R e w1 base ok v1 (xs ++ ys)→Below base w0 w1→W.grownBy w1 v.ownBlock→(v1.ownBlock=v.ownBlock∨∃ b,v1.ownBlock=some b∧W.heap.size≤b)→Kc (a.put o.dst v1) w1) :
    if Region.wanted o (yielded ops a.tmps)=true then Oper.wp P o a W Kc Q else Kc (a.put o.dst undef) W:=by
  obtain ⟨i0,hi,hzz⟩:=Option.map_eq_some_iff.1 hinfo
  simp only [Prod.mk.injEq] at hzz
  obtain ⟨hz0,hz1,hz2⟩:=hzz
  have hm : ys.length=m:=HR.1
  have hlen : xs.length + m≤140737488355328:=Nat.le_trans (Nat.le_mul_of_pos_right _ hb0) hl
  obtain ⟨hok,inner,hown,hr⟩:=HO
  have hrun : ∃ v1 w1,(Builtin.append_ #[t,t] o.type #[v,.slice A m c]).run P W=.ok v1 w1∧d.R e w1 base ok v1 (xs ++ ys)∧W.grownBy w1 v.ownBlock∧(v1.ownBlock=v.ownBlock∨∃ b,v1.ownBlock=some b∧W.heap.size≤b):=by
    rcases A with _|ad
    · have h0 : m=0:=by
        rcases Nat.eq_zero_or_pos m with h0|h0
        · exact h0
        · obtain ⟨ad,h,_⟩:=HR.2.2 h0
          cases h
      subst h0
      obtain rfl : ys=[]:=List.eq_nil_of_length_eq_zero hm
      refine ⟨v,W,?_,by rw [List.append_nil];exact ⟨hok,inner,hown,hr⟩,World.grownBy.refl W _,.inl rfl⟩
      rcases hown.2 with ⟨rfl,hn⟩ | ⟨g,cap,cur,rfl,_,_,hnc,_⟩
      · simp [Builtin.append_,run_underlying ht,sizeOf,typeInfo,hi,Builtin.lenOf,Builtin.firstCells]
      · simp [Builtin.append_,run_underlying ht,sizeOf,typeInfo,hi,Builtin.lenOf,Builtin.firstCells,hnc,storeCells]
    · obtain ⟨news,hnr,hnc⟩:=ReadsRow.inner_ HR
      have hnM : Reps (d.M W base okp) d.sz ys news:=hnr.imp_ (fun p c hp => hKM p c hp)
      have hone : ∀ u ∈ news,u.oneCell'=true:=by
        intro u hu
        obtain ⟨q,hq,rfl⟩:=List.mem_iff_getElem.1 hu
        have hql : q / d.sz < ys.length:=by
          rw [Nat.div_lt_iff_lt_mul hs0]
          rw [← hnM.1]
          exact hq
        have hc:=hnM.2 (q / d.sz) _ (List.getElem?_eq_getElem hql)
        refine d.K_one (d.K_of_M hc) _ ?_
        rw [List.mem_iff_getElem?]
        refine ⟨q % d.sz,?_⟩
        rw [List.getElem?_take,if_pos (Nat.mod_lt _ hs0),List.getElem?_drop,Nat.mul_comm,Nat.div_add_mod,List.getElem?_eq_getElem hq]
      obtain ⟨v1,w1,hrun,h2,hg,_,hat⟩:=run_append_own_at (P:=P) W base t o.type e i0 z d.sz bytes ht hi hz0 hz1 hz2 hz hs0 v xs.length inner hown ad m c news (by rw [hnM.1,hm]) hnc hone (by simp only [maxLen];omega) hl hbase
      have hat' : v1.ownBlock=v.ownBlock∨∃ b,v1.ownBlock=some b∧W.heap.size≤b:=by
        rcases hat with hat|hat
        · exact .inl hat
        · exact .inr ⟨_,hat,Nat.le_refl _⟩
      have hne : ∀ k,some k≠v.ownBlock→k < W.heap.size→some k≠v1.ownBlock:=by
        intro k hk hlt
        rcases hat' with hat | ⟨b,hb,hle⟩
        · rw [hat];exact hk
        · rw [hb]
          intro he
          injection he with he
          omega
      have step : ∀ {q : α} {c : List Value} {o : Nat→Prop},d.M W base o q c→(∀ k,o k→ok k∧some k≠v.ownBlock)→d.M w1 base (fun k => ok k∧some k≠v1.ownBlock) q c:=by
        intro q c o hq ho
        have h1:=d.M_move (w1:=w1) (fun k hk => hg.block k hk.2.2.1 (ho k hk.1).2) (d.M_bound hq)
        exact d.M_mono (fun k hk => ⟨(ho k hk.1).1,hne k (ho k hk.1).2 hk.2.2.1⟩) h1
      refine ⟨v1,w1,hrun,⟨fun k hk => ?_,inner ++ news,by rw [List.length_append,hm];exact h2,reps_append (hr.imp_ (fun _ _ hq => step hq (fun _ hk => hk))) (hnM.imp_ (fun _ _ hq => step hq hokp))⟩,hg,hat'⟩
      rcases hat' with hat | ⟨b,hb,hle⟩
      · exact hok k (hat ▸ hk)
      · rw [hb] at hk
        injection hk with hk
        exact hfresh k (by omega)
  obtain ⟨v1,w1,hr1,h1,hg,hat⟩:=hrun
  rw [if_pos hw]
  unfold Oper.wp execOp
  simp only [ho,resolve,invoke,builtin,Sem.run_bind,Sem.run_pure,Result.andThen_ok,List.map_toArray,List.map_cons,List.map_nil,hs,hx,hr1]
  exact h v1 w1 h1 (HB.grown hg hbase (own_base hown)) hg hat
end Kd
end
section
variable {P : Program} {tmps : Array Value} {w : World}
end
namespace Kd
section
variable {P : Program} {α : Type}
end
section
variable {P : Program} {ops : Array Oper} {rest : List Oper} {o : Oper} {a : Act} {Q : Exit→Act→World→Prop} {Kc : Act→World→Prop} {α : Type}
end
end Kd
end Go.Proofs.YtbelnopbggkdfaaW.PrintWords
end

section
namespace Go.Proofs.YtbelnopbggkdfaaW.PrintLast
section
variable {P : Program} {ops : Array Oper} {Q : Exit→Act→World→Prop} {md : Region.Mode} {S : World→Prop} {ds : List Nat}
def Region.reachB (md : Region.Mode) (ops : Array Oper) (i : Nat) : Nat→Nat→Bool
  | 0,_ => false
  | fuel + 1,d => match ops[d]? with
    | some o => o.after.any fun e => Region.binds md e && (e.on == i || Region.reachB md ops i fuel e.on)
    | none => false
def Region.closedB (md : Region.Mode) (ops : Array Oper) (listed : Array Bool) : Bool :=
  (List.range ops.size).all fun j => !listed.getD j false || match ops[j]? with
    | some o => o.after.all fun e => !Region.binds md e || listed.getD e.on false
    | none => true
def Region.lastB (md : Region.Mode) (ops : Array Oper) (listed : Array Bool) (ds : List Nat) (i : Nat) : Bool :=
  ds.all fun d => listed.getD d true || Region.reachB md ops i ops.size d
def ListedClosed (md : Region.Mode) (ops : Array Oper) (listed : Array Bool) : Prop :=
  ∀ j oj,ops[j]?=some oj→listed.getD j false=true→∀ e ∈ oj.after,Region.binds md e=true→listed.getD e.on false=true
theorem Region.closedB_spec {listed : Array Bool} (h : Region.closedB md ops listed=true) : ListedClosed md ops listed:=by
  intro j oj hj hl e he hb
  have hlt : j < ops.size:=(Array.getElem?_eq_some_iff.1 hj).1
  have h1:=List.all_eq_true.1 h j (List.mem_range.2 hlt)
  simp only [hl,hj,Bool.not_true,Bool.false_or] at h1
  have h2:=Array.all_eq_true_iff_forall_mem.1 h1 e he
  simpa [hb] using h2
theorem ListedClosed.set {listed : Array Bool} {i : Nat} (h : ListedClosed md ops listed) (hi : i ∈ Region.ready md ops listed) : ListedClosed md ops (listed.setIfInBounds i true):=by
  obtain ⟨_,oi,hoi,hall⟩:=mem_ready.1 hi
  intro j oj hj hl e he hb
  by_cases hij : i=j
  · subst hij
    have : oj=oi:=Option.some.inj (hj.symm.trans hoi)
    subst this
    exact getD_set_true (hall e he hb)
  · rw [getD_set_ne false hij] at hl
    exact getD_set_true (h j oj hj hl e he hb)
theorem Region.reach_listed {listed : Array Bool} {i : Nat} (hc : ListedClosed md ops listed) : ∀ (fuel d : Nat),Region.reachB md ops i fuel d=true→listed.getD d false=true→listed.getD i false=true
  | 0,_,h,_ => by simp [Region.reachB] at h
  | fuel + 1,d,h,hl => by
    unfold Region.reachB at h
    cases ho : ops[d]? with
    | none => rw [ho] at h;simp at h
    | some o =>
      rw [ho] at h
      obtain ⟨e,he,h1⟩:=Array.any_eq_true'.1 h
      simp only [Bool.and_eq_true,Bool.or_eq_true,beq_iff_eq] at h1
      have hle:=hc d o ho hl e he h1.1
      rcases h1.2 with h2|h2
      · rw [← h2];exact hle
      · exact Region.reach_listed hc fuel e.on h2 hle
theorem Region.reach_not_ready {listed : Array Bool} {i d fuel : Nat} (hc : ListedClosed md ops listed) (hr : Region.reachB md ops i fuel d=true) (hun : listed.getD i true=false) : d ∉ Region.ready md ops listed:=by
  intro hd
  obtain ⟨_,o,ho,hall⟩:=mem_ready.1 hd
  have hi : listed.getD i false=true:=by
    cases fuel with
    | zero => simp [Region.reachB] at hr
    | succ n =>
      unfold Region.reachB at hr
      rw [ho] at hr
      obtain ⟨e,he,h1⟩:=Array.any_eq_true'.1 hr
      simp only [Bool.and_eq_true,Bool.or_eq_true,beq_iff_eq] at h1
      have hle:=hall e he h1.1
      rcases h1.2 with h2|h2
      · rw [← h2];exact hle
      · exact Region.reach_listed hc n e.on h2 hle
  rcases Nat.lt_or_ge i listed.size with h' | h'
  · simp [h'] at hun hi
    rw [hun] at hi
    cases hi
  · simp [Array.getElem?_eq_none h'] at hun
def wpAnyLast (P : Program) (md : Region.Mode) (ops : Array Oper) (Q : Exit→Act→World→Prop) (S : World→Prop) (ds : List Nat) : Nat→Array Bool→Act→World→Prop
  | 0,listed,a,w => Region.ready md ops listed=[]∧Q .normal a w
  | fuel + 1,listed,a,w =>
    (Region.ready md ops listed=[]→Q .normal a w) ∧
    ∀ i ∈ Region.ready md ops listed,wpOp P ops Q i (fun a' w' => (i ∉ ds→S w→S w')∧wpAnyLast P md ops Q S ds fuel (listed.setIfInBounds i true) a' w') a w
theorem wpAny_of_last : ∀ (fuel : Nat) (listed : Array Bool) (a : Act) (w : World),wpAnyLast P md ops Q S ds fuel listed a w→wpAny P md ops Q fuel listed a w
  | 0,_,_,_,h => h
  | fuel + 1,_,_,_,h => ⟨h.1,fun i hi => wpOp_mono (fun a' w' h' => wpAny_of_last fuel _ a' w' h'.2) (h.2 i hi)⟩
theorem wpAnyLast_first {i : Nat} {oi : Oper} {v : Value} (hi : ops[i]?=some oi) (hsel : ∀ (j : Nat) (o : Oper) cs b,ops[j]?=some o→o.op≠.select cs b)
    (hQ : ∀ c a w,Q (.panic c) (a.put oi.dst v) w→Q (.panic c) a w) (n : Nat) :
    ∀ (fuel : Nat) (listed : Array Bool) (a : Act) (w : World),
      (∀ j oj,ops[j]?=some oj→j≠i→listed.getD j true=false→(∀ e ∈ oj.after,Region.binds md e=true→e.on≠i)→oi.apart ops oj=true) →
      ListedClosed md ops listed→(∀ d ∈ ds,listed.getD d true=false→Region.reachB md ops i n d=true) →
      i ∈ Region.ready md ops listed→YieldsIf P ops S oi v a→S w →
      wpAnyLast P md ops Q S ds fuel (listed.setIfInBounds i true) (a.put oi.dst v) w→wpAnyLast P md ops Q S ds (fuel + 1) listed a w:=by
  intro fuel
  induction fuel with
  | zero =>
    intro listed a w _ _ _ hr hy hS H
    refine ⟨fun h => (by rw [h] at hr;cases hr),fun j hj => ?_⟩
    by_cases hji : j=i
    · subst hji;exact hy.wpOp hi hS ⟨fun _ h => h,H⟩
    · have:=ready_mono hj hji
      rw [H.1] at this
      cases this
  | succ fuel ih =>
    intro listed a w hfree hc hd hr hy hS H
    refine ⟨fun h => (by rw [h] at hr;cases hr),fun j hj => ?_⟩
    by_cases hji : j=i
    · subst hji;exact hy.wpOp hi hS ⟨fun _ h => h,H⟩
    · have h1:=H.2 j (ready_mono hj hji)
      obtain ⟨hjun,oj,hoj,hall⟩:=mem_ready.1 hj
      have hiun:=(mem_ready.1 hr).1
      have hnot : ∀ e ∈ oj.after,Region.binds md e=true→e.on≠i:=fun e he hb heq => by
        have h1:=hall e he hb
        rw [heq] at h1
        rcases Nat.lt_or_ge i listed.size with h' | h'
        · simp [h'] at hiun h1;rw [hiun] at h1;cases h1
        · simp [Array.getElem?_eq_none h'] at h1
      have hjd : j ∉ ds:=fun hm => Region.reach_not_ready hc (hd j hm hjun) hiun hj
      have h2:=wpOp_putIf hoj (hfree j oj hoj hji hjun hnot) (fun cs b => hsel i oi cs b hi) (fun cs b => hsel j oj cs b hoj) hQ hy h1
      have hfree' : ∀ k ok,ops[k]?=some ok→k≠i→(listed.setIfInBounds j true).getD k true=false →
          (∀ e ∈ ok.after,Region.binds md e=true→e.on≠i)→oi.apart ops ok=true:=fun k ok hk hki hun hno => by
        refine hfree k ok hk hki ?_ hno
        by_cases hjk : j=k
        · subst hjk;exact hjun
        · rw [getD_set_ne true hjk] at hun;exact hun
      have hd' : ∀ d ∈ ds,(listed.setIfInBounds j true).getD d true=false→Region.reachB md ops i n d=true:=fun d hm hun => by
        refine hd d hm ?_
        by_cases hjk : j=d
        · subst hjk;exact hjun
        · rw [getD_set_ne true hjk] at hun;exact hun
      refine wpOp_mono (fun a' w' h3 => ⟨h3.2.1,ih (listed.setIfInBounds j true) a' w' hfree' (hc.set hj) hd' (ready_mono hr (Ne.symm hji)) h3.1 (h3.2.1 hjd hS) ?_⟩) h2
      rw [Array.setIfInBounds_comm _ _ hji]
      exact h3.2.2
theorem wpAnyLast_any {i : Nat} {oi : Oper} {v : Value} (hi : ops[i]?=some oi) (hsel : ∀ (j : Nat) (o : Oper) cs b,ops[j]?=some o→o.op≠.select cs b)
    (hQ : ∀ c a w,Q (.panic c) (a.put oi.dst v) w→Q (.panic c) a w) :
    ∀ (fuel : Nat) (listed : Array Bool) (a : Act) (w : World),
      (∀ j oj,ops[j]?=some oj→j≠i→listed.getD j true=false→(∀ e ∈ oj.after,Region.binds md e=true→e.on≠i)→oi.apart ops oj=true) →
      i ∈ Region.ready md ops listed→Yields P ops oi v a →
      wpAnyLast P md ops Q S ds fuel (listed.setIfInBounds i true) (a.put oi.dst v) w→wpAnyLast P md ops Q S ds (fuel + 1) listed a w:=by
  intro fuel
  induction fuel with
  | zero =>
    intro listed a w _ hr hy H
    refine ⟨fun h => (by rw [h] at hr;cases hr),fun j hj => ?_⟩
    by_cases hji : j=i
    · subst hji;exact (hy.yieldsIf (S:=fun _ => True)).wpOp hi trivial ⟨fun _ h => h,H⟩
    · have:=ready_mono hj hji
      rw [H.1] at this
      cases this
  | succ fuel ih =>
    intro listed a w hfree hr hy H
    refine ⟨fun h => (by rw [h] at hr;cases hr),fun j hj => ?_⟩
    by_cases hji : j=i
    · subst hji;exact (hy.yieldsIf (S:=fun _ => True)).wpOp hi trivial ⟨fun _ h => h,H⟩
    · have h1:=H.2 j (ready_mono hj hji)
      obtain ⟨hjun,oj,hoj,hall⟩:=mem_ready.1 hj
      have hiun:=(mem_ready.1 hr).1
      have hnot : ∀ e ∈ oj.after,Region.binds md e=true→e.on≠i:=fun e he hb heq => by
        have h1:=hall e he hb
        rw [heq] at h1
        rcases Nat.lt_or_ge i listed.size with h' | h'
        · simp [h'] at hiun h1;rw [hiun] at h1;cases h1
        · simp [Array.getElem?_eq_none h'] at h1
      have h2:=wpOp_put hoj (hfree j oj hoj hji hjun hnot) (fun cs b => hsel i oi cs b hi) (fun cs b => hsel j oj cs b hoj) hQ hy h1
      have hfree' : ∀ k ok,ops[k]?=some ok→k≠i→(listed.setIfInBounds j true).getD k true=false →
          (∀ e ∈ ok.after,Region.binds md e=true→e.on≠i)→oi.apart ops ok=true:=fun k ok hk hki hun hno => by
        refine hfree k ok hk hki ?_ hno
        by_cases hjk : j=k
        · subst hjk;exact hjun
        · rw [getD_set_ne true hjk] at hun;exact hun
      refine wpOp_mono (fun a' w' h3 => ⟨h3.2.1,ih (listed.setIfInBounds j true) a' w' hfree' (ready_mono hr (Ne.symm hji)) h3.1 ?_⟩) h2
      rw [Array.setIfInBounds_comm _ _ hji]
      exact h3.2.2
theorem wpAnyLast_take {i : Nat} {oi : Oper} {v : Value} {fuel : Nat} {listed : Array Bool} {a : Act} {w : World} (hi : ops[i]?=some oi)
    (hs : Region.noSelect ops=true) (hf : Region.free md ops listed i=true) (hr : (Region.ready md ops listed).contains i=true)
    (hc : Region.closedB md ops listed=true) (hl : Region.lastB md ops listed ds i=true)
    (hQ : ∀ c a w,Q (.panic c) (a.put oi.dst v) w→Q (.panic c) a w) (hy : YieldsIf P ops S oi v a) (hS : S w)
    (h : wpAnyLast P md ops Q S ds fuel (listed.setIfInBounds i true) (a.put oi.dst v) w) : wpAnyLast P md ops Q S ds (fuel + 1) listed a w :=
  wpAnyLast_first hi (Region.noSelect_spec hs) hQ ops.size fuel listed a w (Region.free_spec hi hf) (Region.closedB_spec hc)
    (fun d hm hun => by have:=List.all_eq_true.1 hl d hm;rw [hun] at this;simpa using this) (by simpa using hr) hy hS h
theorem wpAnyLast_all {rs : List Nat} {fuel : Nat} {listed : Array Bool} {a : Act} {w : World} (hr : Region.ready md ops listed=rs) (hne : rs≠[])
    (h : ∀ i ∈ rs,wpOp P ops Q i (fun a' w' => (i ∉ ds→S w→S w')∧wpAnyLast P md ops Q S ds fuel (listed.setIfInBounds i true) a' w') a w) : wpAnyLast P md ops Q S ds (fuel + 1) listed a w :=
  ⟨fun h0 => absurd (hr ▸ h0) hne,hr ▸ h⟩
theorem wpAnyLast_done {listed : Array Bool} {a : Act} {w : World} (hr : Region.ready md ops listed=[]) (h : Q .normal a w) :
    ∀ fuel,wpAnyLast P md ops Q S ds fuel listed a w
  | 0 => ⟨hr,h⟩
  | _ + 1 => ⟨fun _ => h,by rw [hr];simp⟩
theorem wp_region_last {id : Nat} {a : Act} {w : World} (hm : P.follows .mixedOrders=true)
    (h : wpAnyLast P .any ops Q S ds ops.size (Array.replicate ops.size false) a { w with drawn:=w.drawn + 1 }) : (Code.region id ops true).wp P Q a w :=
  wp_region_any hm (wpAny_of_last _ _ _ _ h)
end
section
variable {P : Program} {ops : Array Oper} {Q : Exit→Act→World→Prop} {md : Region.Mode} {S : World→Prop} {ds : List Nat}
def AllReadyL (P : Program) (md : Region.Mode) (ops : Array Oper) (Q : Exit→Act→World→Prop) (S : World→Prop) (ds : List Nat) (fuel : Nat) (listed : Array Bool) (a : Act) (w : World) (rs : List Nat) : Prop :=
  ∀ i ∈ rs,wpOp P ops Q i (fun a' w' => (i ∉ ds→S w→S w')∧wpAnyLast P md ops Q S ds fuel (listed.setIfInBounds i true) a' w') a w
theorem AllReadyL.nil {fuel : Nat} {listed : Array Bool} {a : Act} {w : World} : AllReadyL P md ops Q S ds fuel listed a w []:=fun _ h => by cases h
theorem AllReadyL.cons {fuel : Nat} {listed : Array Bool} {a : Act} {w : World} {i : Nat} {o : Oper} {rs : List Nat} (ho : ops[i]?=some o) (hd : i ∉ ds)
    (h : ∀ K' : Act→World→Prop,Shut (∀ a w,S w→(S w→wpAnyLast P md ops Q S ds fuel (listed.setIfInBounds i true) a w)→K' a w)→if Region.wanted o (yielded ops a.tmps)=true then Oper.wp P o a w K' Q else K' (a.put o.dst undef) w)
    (hs : AllReadyL P md ops Q S ds fuel listed a w rs) : AllReadyL P md ops Q S ds fuel listed a w (i :: rs):=fun j hj => by
  rcases List.mem_cons.1 hj with rfl|hj
  · exact wpOp_step ho (fun K' hK => h K' (fun a w hS hW => hK a w ⟨fun _ _ => hS,hW hS⟩))
  · exact hs j hj
theorem AllReadyL.cons_last {fuel : Nat} {listed : Array Bool} {a : Act} {w : World} {i : Nat} {o : Oper} {rs : List Nat} (ho : ops[i]?=some o) (hd : i ∈ ds)
    (h : ∀ K' : Act→World→Prop,Shut (∀ a w,wpAnyLast P md ops Q S ds fuel (listed.setIfInBounds i true) a w→K' a w)→if Region.wanted o (yielded ops a.tmps)=true then Oper.wp P o a w K' Q else K' (a.put o.dst undef) w)
    (hs : AllReadyL P md ops Q S ds fuel listed a w rs) : AllReadyL P md ops Q S ds fuel listed a w (i :: rs):=fun j hj => by
  rcases List.mem_cons.1 hj with rfl|hj
  · exact wpOp_step ho (fun K' hK => h K' (fun a w hW => hK a w ⟨fun hn => absurd hd hn,hW⟩))
  · exact hs j hj
theorem wpAnyLast_ready {rs : List Nat} {fuel : Nat} {listed : Array Bool} {a : Act} {w : World} (hr : Region.ready md ops listed=rs) (hne : rs≠[])
    (h : AllReadyL P md ops Q S ds fuel listed a w rs) : wpAnyLast P md ops Q S ds (fuel + 1) listed a w:=wpAnyLast_all hr hne h
theorem start_ {id n : Nat} {a : Act} {w : World} (l : Array Bool) (hm : P.follows .mixedOrders=true) (hn : ops.size=n) (hl : Array.replicate n false=l) (hS : S w.drew)
    (h : S w.drew→wpAnyLast P .any ops Q S ds n l a w.drew) : (Code.region id ops true).wp P Q a w:=by
  subst hn
  subst hl
  exact wp_region_last hm (h hS)
def takeB (md : Region.Mode) (ops : Array Oper) (ds : List Nat) (l l' : Array Bool) (i : Nat) : Bool :=
  Region.noSelect ops && Region.free md ops l i && (Region.ready md ops l).contains i && Region.closedB md ops l && Region.lastB md ops l ds i && (l.setIfInBounds i true == l')
theorem take_ {i : Nat} {N : Option Tmp} {oi : Oper} {v : Value} {fuel : Nat} {l : Array Bool} {a : Act} {w : World} (l' : Array Bool) (hi : ops[i]?=some oi) (hN : oi.dst=N) (hc : takeB md ops ds l l' i=true)
    (hQ : ∀ c a w,Q (.panic c) (a.put oi.dst v) w→Q (.panic c) a w) (hy : YieldsIf P ops S oi v a) (hS : S w) {a' : Act} (ha : a.put N v=a')
    (h : wpAnyLast P md ops Q S ds fuel l' a' w) : wpAnyLast P md ops Q S ds (fuel + 1) l a w:=by
  subst ha
  subst hN
  simp only [takeB,Bool.and_eq_true,beq_iff_eq] at hc
  obtain ⟨⟨⟨⟨⟨h1,h2⟩,h3⟩,h4⟩,h5⟩,h6⟩:=hc
  subst h6
  exact wpAnyLast_take hi h1 h2 h3 h4 h5 hQ hy hS h
def anyB (md : Region.Mode) (ops : Array Oper) (l l' : Array Bool) (i : Nat) : Bool :=
  Region.noSelect ops && Region.free md ops l i && (Region.ready md ops l).contains i && (l.setIfInBounds i true == l')
theorem pure_ {i : Nat} {N : Option Tmp} {oi : Oper} {v : Value} {fuel : Nat} {l : Array Bool} {a : Act} {w : World} (l' : Array Bool) (hi : ops[i]?=some oi) (hN : oi.dst=N) (hc : anyB md ops l l' i=true)
    (hQ : ∀ c a w,Q (.panic c) (a.put oi.dst v) w→Q (.panic c) a w) (hy : Yields P ops oi v a) {a' : Act} (ha : a.put N v=a')
    (h : wpAnyLast P md ops Q S ds fuel l' a' w) : wpAnyLast P md ops Q S ds (fuel + 1) l a w:=by
  subst ha
  subst hN
  simp only [anyB,Bool.and_eq_true,beq_iff_eq] at hc
  obtain ⟨⟨⟨h1,h2⟩,h3⟩,h6⟩:=hc
  subst h6
  exact wpAnyLast_any hi (Region.noSelect_spec h1) hQ fuel l a w (Region.free_spec hi h2) (by simpa using h3) hy h
def readyB (md : Region.Mode) (ops : Array Oper) (l l' : Array Bool) (i : Nat) : Bool:=(Region.ready md ops l == [i]) && (l.setIfInBounds i true == l')
theorem one_ {i : Nat} {N : Option Tmp} {oi : Oper} {fuel : Nat} {l : Array Bool} {a : Act} {w : World} (l' : Array Bool) (hi : ops[i]?=some oi) (hN : oi.dst=N) (hc : readyB md ops l l' i=true) (hd : i ∉ ds)
    (h : ∀ K : Act→World→Prop,Shut (∀ a' w',S w'→(S w'→wpAnyLast P md ops Q S ds fuel l' a' w')→K a' w')→if Region.wanted oi (yielded ops a.tmps)=true then Oper.wp P oi a w K Q else K (a.put N undef) w) :
    wpAnyLast P md ops Q S ds (fuel + 1) l a w:=by
  subst hN
  simp only [readyB,Bool.and_eq_true,beq_iff_eq] at hc
  obtain ⟨h1,h2⟩:=hc
  subst h2
  exact wpAnyLast_ready h1 (by simp) (AllReadyL.cons hi hd (fun K hK => h K hK) AllReadyL.nil)
theorem last_ {i : Nat} {N : Option Tmp} {oi : Oper} {fuel : Nat} {l : Array Bool} {a : Act} {w : World} (l' : Array Bool) (hi : ops[i]?=some oi) (hN : oi.dst=N) (hc : readyB md ops l l' i=true) (hd : i ∈ ds)
    (h : ∀ K : Act→World→Prop,Shut (∀ a' w',wpAnyLast P md ops Q S ds fuel l' a' w'→K a' w')→if Region.wanted oi (yielded ops a.tmps)=true then Oper.wp P oi a w K Q else K (a.put N undef) w) :
    wpAnyLast P md ops Q S ds (fuel + 1) l a w:=by
  subst hN
  simp only [readyB,Bool.and_eq_true,beq_iff_eq] at hc
  obtain ⟨h1,h2⟩:=hc
  subst h2
  exact wpAnyLast_ready h1 (by simp) (AllReadyL.cons_last hi hd (fun K hK => h K hK) AllReadyL.nil)
theorem done_ {l : Array Bool} {a : Act} {w : World} {n : Nat} (hr : (Region.ready md ops l == [])=true) (h : Q .normal a w) : wpAnyLast P md ops Q S ds n l a w:=wpAnyLast_done (by simpa using hr) h n
theorem norm_ {fuel : Nat} {l : Array Bool} {a a' : Act} {w : World} (ha : a=a') (h : wpAnyLast P md ops Q S ds fuel l a' w) : wpAnyLast P md ops Q S ds fuel l a w:=by
  subst ha
  exact h
theorem call_ {oi : Oper} {N : Option Tmp} {a : Act} {w : World} {K : Act→World→Prop} (f : FuncId) (args : Array Value) (hw : Region.wanted oi (yielded ops a.tmps)=true) (hN : oi.dst=N) (hrun : (execOp a.eval oi).run P w=.ok (.enter f args) w)
    (h : Calls P f args w fun e w' => ∃ v,e=.returned v∧K (a.put N v) w') : if Region.wanted oi (yielded ops a.tmps)=true then Oper.wp P oi a w K Q else K (a.put N undef) w:=by
  rw [if_pos hw]
  subst hN
  unfold Oper.wp
  rw [hrun,Oper.upon_enter]
  refine h.mono fun e w'' hh => ?_
  obtain ⟨v,rfl,hk⟩:=hh
  exact hk
theorem enters_ {f : FuncId} {fn : Func} (hf : P.funcs[f]? = some fn) (hname : (fn.name == "runtime.NumGoroutine") = false) (hb : fn.body.isSome = true) (args : Array Value) (w : World) : (callFunc f args).run P w = .ok (.enter f args) w := by
  have h1 : fn.name ≠ "runtime.NumGoroutine" := by simpa using hname
  obtain ⟨c,hc⟩:=Option.isSome_iff_exists.1 hb
  simp [callFunc,hf,h1,hc]
theorem goes_ {oi : Oper} {N : Option Tmp} {a : Act} {w : World} {K : Act → World → Prop} {f : FuncId} {fn : Func} {as_ : Array Operand} {ts : Array TypeId} (hf : P.funcs[f]? = some fn) (hname : (fn.name == "runtime.NumGoroutine") = false) (hb : fn.body.isSome = true) (args : Array Value)
    (hw : Region.wanted oi (yielded ops a.tmps)=true) (hN : oi.dst=N) (hop : oi.op=.call { callee:=.value (.func f),args:=as_,argTypes:=ts }) (hargs : as_.map a.eval=args)
    (h : Calls P f args w fun e w' => ∃ v,e=.returned v∧K (a.put N v) w') : if Region.wanted oi (yielded ops a.tmps)=true then Oper.wp P oi a w K Q else K (a.put N undef) w:=by
  refine call_ f args hw hN ?_ h
  have he:=enters_ hf hname hb args w
  unfold execOp
  simp [hop,resolve,Deferred.ofValue,invoke,Act.eval,hargs,he]
theorem goesL_ {rest : List Oper} {oi : Oper} {a : Act} {w : World} (N : Option Tmp) (hd : oi.dst = N) (hg : oi.guard = none) {f : FuncId} {fn : Func} {as_ : Array Operand} {ts : Array TypeId} (hf : P.funcs[f]? = some fn) (hname : (fn.name == "runtime.NumGoroutine") = false) (hb : fn.body.isSome = true) (args : Array Value)
    (hop : oi.op=.call { callee:=.value (.func f),args:=as_,argTypes:=ts }) (hargs : as_.map a.eval=args)
    (h : Calls P f args w fun e w' => ∃ v,e=.returned v∧wpList P ops Q rest (a.put N v) w') : wpList P ops Q (oi :: rest) a w:=by
  refine wpList_plain hg fun K hK => ?_
  have he:=enters_ hf hname hb args w
  have hrun : (execOp a.eval oi).run P w=.ok (.enter f args) w:=by
    unfold execOp
    simp [hop,resolve,Deferred.ofValue,invoke,Act.eval,hargs,he]
  unfold Oper.wp
  rw [hrun,Oper.upon_enter]
  refine h.mono fun e w'' hh => ?_
  obtain ⟨v,rfl,hk⟩:=hh
  subst hd
  exact hK _ _ hk
theorem skip_ {oi : Oper} {a : Act} {w w1 : World} {K : Act→World→Prop} (hw : Region.wanted oi (yielded ops a.tmps)=true) (hN : oi.dst=none) (hrun : (execOp a.eval oi).run P w=.ok .skip w1)
    (h : K a w1) : if Region.wanted oi (yielded ops a.tmps)=true then Oper.wp P oi a w K Q else K (a.put none undef) w:=by
  rw [if_pos hw]
  unfold Oper.wp
  rw [hrun]
  show K (a.put oi.dst undef) w1
  rw [hN]
  exact h
theorem i64_w (n : Int) : IntKind.i64.wrap n=Go.RowKit.wrap64 n:=by unfold Go.RowKit.wrap64;exact IntKind.wrap_i64 n
theorem i32_w (n : Int) : IntKind.i32.wrap n=Go.RowKit.wrap32 n:=by unfold Go.RowKit.wrap32;exact IntKind.wrap_i32 n
end
end Go.Proofs.YtbelnopbggkdfaaW.PrintLast
end

section
namespace Go.Proofs.YtbelnopbggkdfaaW.PrintLast
open Go.Proofs.YtbelnopbggkdfaaW.PrintWords (Aside0)
def needsOf (md : Region.Mode) (o : Oper) : List Nat:=(o.after.toList.filter (fun e => Region.binds md e)).map (fun e => e.on)
def clashOf (md : Region.Mode) (ops : Array Oper) (i : Nat) (oi : Oper) : List Nat:=(List.range ops.size).filter fun j => !(j == i) && match ops[j]? with
  | some oj => !(oj.after.any (fun e => Region.binds md e && e.on == i) || oi.apart ops oj)
  | none => false
def rtab (md : Region.Mode) (ops : Array Oper) : Bool × List (List Nat × List Nat):=(Region.noSelect ops,(List.range ops.size).map fun i => match ops[i]? with
  | some o => (needsOf md o,clashOf md ops i o)
  | none => ([],[]))
def readyAt (T : List (List Nat × List Nat)) (l : List Bool) (i : Nat) : Bool:=!l.getD i true && match T[i]? with
  | some r => r.1.all (fun j => l.getD j false)
  | none => false
def readyT (T : List (List Nat × List Nat)) (l : List Bool) : List Nat:=(List.range T.length).filter (readyAt T l)
def freeT (T : List (List Nat × List Nat)) (l : List Bool) (i : Nat) : Bool:=match T[i]? with
  | some r => r.2.all (fun j => l.getD j true)
  | none => false
def closedT (T : List (List Nat × List Nat)) (l : List Bool) : Bool:=(List.range T.length).all fun j => !l.getD j false || match T[j]? with
  | some r => r.1.all (fun k => l.getD k false)
  | none => true
def reachT (T : List (List Nat × List Nat)) (i : Nat) : Nat→Nat→Bool
  | 0,_ => false
  | fuel + 1,d => match T[d]? with
    | some r => r.1.any fun j => j == i || reachT T i fuel j
    | none => false
def lastT (T : List (List Nat × List Nat)) (l : List Bool) (ds : List Nat) (i : Nat) : Bool:=ds.all fun d => l.getD d true || reachT T i T.length d
section
variable {md : Region.Mode} {ops : Array Oper} {T : Bool × List (List Nat × List Nat)} {l l' li lj lk : Array Bool} {ds : List Nat} {i j k : Nat}
theorem gd (l : Array Bool) (j : Nat) (b : Bool) : l.getD j b=l.toList.getD j b:=by simp [Array.getD_eq_getD_getElem?,List.getD_eq_getElem?_getD]
theorem needs_all (o : Oper) (p : Nat→Bool) : o.after.all (fun e => !Region.binds md e || p e.on)=(needsOf md o).all p:=by
  unfold needsOf
  rw [← Array.all_toList]
  induction o.after.toList with
  | nil => rfl
  | cons e r ih =>
    rw [List.all_cons,ih,List.filter_cons]
    cases h : Region.binds md e <;> simp
theorem needs_any (o : Oper) (p : Nat→Bool) : o.after.any (fun e => Region.binds md e && p e.on)=(needsOf md o).any p:=by
  unfold needsOf
  rw [← Array.any_toList]
  induction o.after.toList with
  | nil => rfl
  | cons e r ih =>
    rw [List.any_cons,ih,List.filter_cons]
    cases h : Region.binds md e <;> simp
theorem rtab_length : (rtab md ops).2.length=ops.size:=by simp [rtab]
theorem rtab_some {o : Oper} (h : ops[i]?=some o) : (rtab md ops).2[i]?=some (needsOf md o,clashOf md ops i o):=by
  have hi:=(Array.getElem?_eq_some_iff.1 h).1
  unfold rtab
  rw [List.getElem?_map,List.getElem?_range hi,Option.map_some,h]
theorem rtab_none (h : ops[i]?=none) : (rtab md ops).2[i]?=none:=by
  have hi : ops.size≤i:=Array.getElem?_eq_none_iff.1 h
  exact List.getElem?_eq_none (by rw [rtab_length];exact hi)
theorem readyAt_eq : readyAt (rtab md ops).2 l.toList i=(!l.getD i true && ((ops[i]?).map (·.after.all fun e => !Region.binds md e || l.getD e.on false)).getD false):=by
  unfold readyAt
  rw [gd]
  cases h : ops[i]? with
  | none => rw [rtab_none h];rfl
  | some o =>
    rw [rtab_some h]
    simp only [Option.map_some,Option.getD_some]
    rw [← needs_all]
    simp only [gd]
theorem ready_eq : Region.ready md ops l=readyT (rtab md ops).2 l.toList:=by
  unfold Region.ready readyT
  rw [rtab_length]
  refine List.filter_congr (fun i _ => ?_)
  rw [readyAt_eq]
theorem free_eq : Region.free md ops l i=freeT (rtab md ops).2 l.toList i:=by
  unfold Region.free freeT
  cases h : ops[i]? with
  | none => rw [rtab_none h]
  | some oi =>
    rw [rtab_some h]
    simp only [clashOf]
    rw [List.all_filter]
    congr 1
    funext j
    rw [gd]
    cases hj : ops[j]? with
    | none => cases (j == i) <;> cases (l.toList.getD j true) <;> simp
    | some oj =>
      cases (j == i) <;> cases (l.toList.getD j true) <;> cases (oj.after.any (fun e => Region.binds md e && e.on == i) || oi.apart ops oj) <;> simp_all
theorem closed_eq : Region.closedB md ops l=closedT (rtab md ops).2 l.toList:=by
  unfold Region.closedB closedT
  rw [rtab_length]
  congr 1
  funext j
  rw [gd]
  cases h : ops[j]? with
  | none => rw [rtab_none h]
  | some o =>
    rw [rtab_some h]
    simp only
    rw [← needs_all]
    simp only [gd]
theorem reach_eq : ∀ (fuel d : Nat),Region.reachB md ops i fuel d=reachT (rtab md ops).2 i fuel d
  | 0,_ => rfl
  | fuel + 1,d => by
    unfold Region.reachB reachT
    cases h : ops[d]? with
    | none => rw [rtab_none h]
    | some o =>
      rw [rtab_some h]
      simp only
      rw [← needs_any]
      congr 1
      funext e
      rw [reach_eq fuel]
theorem last_eq : Region.lastB md ops l ds i=lastT (rtab md ops).2 l.toList ds i:=by
  unfold Region.lastB lastT
  rw [rtab_length]
  congr 1
  funext d
  rw [gd,reach_eq]
theorem readyAt_mem (h : readyAt T.2 l.toList i=true) (hT : rtab md ops=T) : (Region.ready md ops l).contains i=true:=by
  subst hT
  rw [ready_eq]
  unfold readyT
  rw [List.contains_iff_mem,List.mem_filter,List.mem_range]
  refine ⟨?_,h⟩
  unfold readyAt at h
  rw [Bool.and_eq_true] at h
  cases hq : (rtab md ops).2[i]? with
  | none => rw [hq] at h;simp at h
  | some r => exact (List.getElem?_eq_some_iff.1 hq).1
theorem set_of (h : (l.toList.set i true == l'.toList)=true) : (l.setIfInBounds i true == l')=true:=by
  rw [beq_iff_eq] at h ⊢
  apply Array.ext'
  rw [Array.toList_setIfInBounds]
  exact h
def anyT (T : Bool × List (List Nat × List Nat)) (l l' : List Bool) (i : Nat) : Bool:=T.1 && freeT T.2 l i && readyAt T.2 l i && (l.set i true == l')
theorem any_of (hT : rtab md ops=T) (h : anyT T l.toList l'.toList i=true) : anyB md ops l l' i=true:=by
  simp only [anyT,Bool.and_eq_true] at h
  obtain ⟨⟨⟨h1,h2⟩,h3⟩,h4⟩:=h
  have h5:=readyAt_mem h3 hT
  have h6:=set_of h4
  subst hT
  simp only [anyB,Bool.and_eq_true]
  exact ⟨⟨⟨h1,by rw [free_eq];exact h2⟩,h5⟩,h6⟩
def takeT (T : Bool × List (List Nat × List Nat)) (ds : List Nat) (l l' : List Bool) (i : Nat) : Bool:=T.1 && freeT T.2 l i && readyAt T.2 l i && closedT T.2 l && lastT T.2 l ds i && (l.set i true == l')
theorem take_of (hT : rtab md ops=T) (h : takeT T ds l.toList l'.toList i=true) : takeB md ops ds l l' i=true:=by
  simp only [takeT,Bool.and_eq_true] at h
  obtain ⟨⟨⟨⟨⟨h1,h2⟩,h3⟩,h4⟩,h5⟩,h6⟩:=h
  have h7:=readyAt_mem h3 hT
  have h8:=set_of h6
  subst hT
  simp only [takeB,Bool.and_eq_true]
  exact ⟨⟨⟨⟨⟨h1,by rw [free_eq];exact h2⟩,h7⟩,by rw [closed_eq];exact h4⟩,by rw [last_eq];exact h5⟩,h8⟩
theorem one_of (hT : rtab md ops=T) (h : (readyT T.2 l.toList == [i] && l.toList.set i true == l'.toList)=true) : readyB md ops l l' i=true:=by
  simp only [Bool.and_eq_true] at h
  obtain ⟨h1,h2⟩:=h
  subst hT
  simp only [readyB,Bool.and_eq_true]
  exact ⟨by rw [ready_eq];exact h1,set_of h2⟩
theorem done_of (hT : rtab md ops=T) (h : (readyT T.2 l.toList == [])=true) : (Region.ready md ops l == [])=true:=by
  subst hT
  rw [ready_eq]
  exact h
def upM (B : List Nat) (d : Nat) : List Nat→Nat
  | [] => 0
  | n :: r => (2 ^ n ||| (if n < d then B.getD n 0 else 0)) ||| upM B d r
def waitsOk (T : List (List Nat × List Nat)) (B : List Nat) : Bool:=(List.range T.length).all fun d => match T[d]? with
  | some r => (B.getD d 0 ||| upM B d r.1) == upM B d r.1
  | none => false
theorem upM_bit {B : List Nat} {d i : Nat} : ∀ {ns : List Nat},(upM B d ns).testBit i=true→∃ n ∈ ns,n=i∨(n < d∧(B.getD n 0).testBit i=true)
  | [],h => by simp [upM] at h
  | n :: r,h => by
    unfold upM at h
    rw [Nat.testBit_or,Nat.testBit_or,Bool.or_eq_true,Bool.or_eq_true] at h
    rcases h with (h|h)|h
    · rw [Nat.testBit_two_pow] at h
      exact ⟨n,List.mem_cons_self,.inl (by simpa using h)⟩
    · by_cases hn : n < d
      · rw [if_pos hn] at h
        exact ⟨n,List.mem_cons_self,.inr ⟨hn,h⟩⟩
      · rw [if_neg hn] at h
        simp at h
    · obtain ⟨m,hm,h2⟩:=upM_bit h
      exact ⟨m,List.mem_cons_of_mem _ hm,h2⟩
theorem reach_bit {T : List (List Nat × List Nat)} {B : List Nat} (hB : waitsOk T B=true) : ∀ (fuel d : Nat),d < fuel→d < T.length→(B.getD d 0).testBit i=true→reachT T i fuel d=true
  | 0,d,h,_,_ => by omega
  | fuel + 1,d,h,hd,hb => by
    have h1:=List.all_eq_true.1 hB d (List.mem_range.2 hd)
    cases hr : T[d]? with
    | none => rw [hr] at h1;simp at h1
    | some r =>
      rw [hr] at h1
      simp only [beq_iff_eq] at h1
      have h2 : (upM B d r.1).testBit i=true:=by rw [← h1,Nat.testBit_or,hb,Bool.true_or]
      obtain ⟨n,hn,h3⟩:=upM_bit h2
      unfold reachT
      rw [hr]
      simp only
      rw [List.any_eq_true]
      refine ⟨n,hn,?_⟩
      rcases h3 with rfl | ⟨h4,h5⟩
      · simp
      · rw [reach_bit hB fuel n (by omega) (by omega) h5,Bool.or_true]
def lastW (T : List (List Nat × List Nat)) (B : List Nat) (l : List Bool) (ds : List Nat) (i : Nat) : Bool:=ds.all fun d => l.getD d true || (decide (d < T.length) && (B.getD d 0).testBit i)
def takeW (T : Bool × List (List Nat × List Nat)) (B : List Nat) (ds : List Nat) (l l' : List Bool) (i : Nat) : Bool:=T.1 && freeT T.2 l i && readyAt T.2 l i && closedT T.2 l && lastW T.2 B l ds i && (l.set i true == l')
theorem take_ofW {B : List Nat} (hT : rtab md ops=T) (hB : waitsOk T.2 B=true) (h : takeW T B ds l.toList l'.toList i=true) : takeB md ops ds l l' i=true:=by
  refine take_of hT ?_
  simp only [takeW,takeT,Bool.and_eq_true] at h ⊢
  obtain ⟨⟨⟨⟨⟨h1,h2⟩,h3⟩,h4⟩,h5⟩,h6⟩:=h
  refine ⟨⟨⟨⟨⟨h1,h2⟩,h3⟩,h4⟩,?_⟩,h6⟩
  unfold lastW at h5
  unfold lastT
  rw [List.all_eq_true] at h5 ⊢
  intro d hd
  have h7:=h5 d hd
  rw [Bool.or_eq_true,Bool.and_eq_true,decide_eq_true_eq] at h7
  rcases h7 with h7 | ⟨h8,h9⟩
  · rw [h7,Bool.true_or]
  · rw [reach_bit hB _ d h8 h8 h9,Bool.or_true]
theorem with_tabW {P : Program} {Q : Exit→Act→World→Prop} {S : World→Prop} {n : Nat} {a : Act} {w : World} {B : List Nat} (hT : rtab md ops=T) (hB : waitsOk T.2 B=true) (h : Aside0 (rtab md ops=T)→Aside0 (waitsOk T.2 B=true)→wpAnyLast P md ops Q S ds n l a w) : wpAnyLast P md ops Q S ds n l a w:=h ⟨hT⟩ ⟨hB⟩
end
def opsIn : Code→Nat→Option (Array Oper)
  | .region id ops _,k => if id == k then some ops else none
  | .seq a b,k => match opsIn a k with
    | some o => some o
    | none => opsIn b k
  | .cond _ a b,k => match opsIn a k with
    | some o => some o
    | none => opsIn b k
  | .block _ c,k => opsIn c k
  | .loop c,k => opsIn c k
  | .scope c,k => opsIn c k
  | .rangeFunc _ _ a b,k => match opsIn a k with
    | some o => some o
    | none => opsIn b k
  | _,_ => none
def opsOf (f : Func) (k : Nat) : Array Oper:=((f.body.bind fun c => opsIn c k)).getD #[]
end Go.Proofs.YtbelnopbggkdfaaW.PrintLast
end

section
namespace Go.Proofs.YtbelnopbggkdfaaW.PrintWords
open Go.RowKit
namespace Kd
def tag {α : Type} (f : Nat→Nat) (d : Kd α) : Kd (α × Nat) where
  sz:=d.sz
  E:=d.E
  K:=fun w x cs => d.K w x.1 cs
  M:=fun w base ok x cs => d.M w base (fun k => ok k∧f k=x.2) x.1 cs
  K_len:=fun h => d.K_len h
  K_one:=fun h => d.K_one h
  K_below:=fun hb h => d.K_below hb h
  K_of_M:=fun h => d.K_of_M h
  M_mono:=fun hok h => d.M_mono (fun k hk => ⟨hok k hk.1,hk.2⟩) h
  M_bound:=fun h => d.M_mono (fun _ hk => ⟨⟨hk.1.1,hk.2⟩,hk.1.2⟩) (d.M_bound h)
  M_move:=fun hm h => d.M_move (fun k hk => hm k hk.1) h
  M_lower:=fun hb h => d.M_lower hb h
def raw (sz : Nat) : Kd (List Value) where
  sz:=sz
  E:=[]
  K:=fun _ x cs => cs=x∧cs.length=sz∧∀ u ∈ cs,u.oneCell'=true
  M:=fun _ _ _ x cs => cs=x∧cs.length=sz∧∀ u ∈ cs,u.oneCell'=true
  K_len:=fun h => h.2.1
  K_one:=fun h => h.2.2
  K_below:=fun _ h => h
  K_of_M:=fun h => h
  M_mono:=fun _ h => h
  M_bound:=fun h => h
  M_move:=fun _ h => h
  M_lower:=fun _ h => h
def S {α : Type} (d : Kd α) (e : Nat) (w : World) (base : Nat) (ok : Nat→Prop) (v : Value) (xs : List α) : Prop:=∃ f,(tag f d).R e w base ok v xs.zipIdx
section
variable {α β : Type} {d : Kd α} {d' : Kd β} {e e' : Nat} {w w1 W : World} {base b : Nat} {ok ok' okv oku : Nat→Prop} {u v : Value} {xs : List α} {ys : List β}
theorem zip_at {xs : List α} {j : Nat} {p : α} (h : xs[j]?=some p) : xs.zipIdx[j]?=some (p,j):=by rw [List.getElem?_zipIdx,h,Nat.zero_add];rfl
theorem S_R (h : S d e w base ok v xs) : d.R e w base ok v xs:=by
  obtain ⟨f,h0,inner,ho,hr⟩:=h
  rw [List.length_zipIdx] at ho
  exact ⟨h0,inner,ho,by have:=hr.1;rw [List.length_zipIdx] at this;exact this,fun j p hj => d.M_mono (fun _ hk => hk.1) (hr.2 j (p,j) (zip_at hj))⟩
theorem R_tight (hE : d.E=[]) (h : d.R e w base ok v xs) : d.R e w base (fun k => some k=v.ownBlock) v xs:=by
  obtain ⟨h0,inner,ho,hr⟩:=h
  refine ⟨fun k hk => hk.symm,inner,ho,hr.imp_ (fun p c hp => d.M_mono (fun k hk => ?_) (d.M_bound hp))⟩
  obtain ⟨_,_,_,q,hq,_⟩:=hk
  rw [hE] at hq
  cases hq
theorem S_nil (d : Kd α) (e : Nat) (w : World) (base : Nat) (ok : Nat→Prop) : S d e w base ok (.slice none 0 0) []:=⟨fun _ => 0,R_nil _ _ _ _ _⟩
theorem S_mono (h : S d e w base ok v xs) (hok : ∀ k,ok k→ok' k) : S d e w base ok' v xs:=by
  obtain ⟨f,h⟩:=h
  exact ⟨f,R_mono h hok⟩
theorem S_bound (h : S d e w base ok v xs) : S d e w base (fun k => ok k∧base≤k∧k < w.heap.size∧∃ q,q ∈ e :: d.E∧∃ cells,w.heap[k]?=some (.cells cells q (0,0))) v xs:=by
  obtain ⟨f,h⟩:=h
  exact ⟨f,R_bound h⟩
theorem S_move (h : S d e w base ok v xs) (hm : ∀ k,ok k→w1.heap[k]?=w.heap[k]?) : S d e w1 base ok v xs:=by
  obtain ⟨f,h⟩:=h
  exact ⟨f,R_move h hm⟩
theorem S_lower {base' : Nat} (h : S d e w base ok v xs) (hb : base'≤base) : S d e w base' ok v xs:=by
  obtain ⟨f,h⟩:=h
  exact ⟨f,R_lower h hb⟩
theorem S_step (h : S d e w base ok v xs) (hm : ∀ k,ok k→k < w.heap.size→w1.heap[k]?=w.heap[k]?) : S d e w1 base ok v xs :=
  S_mono (S_move (S_bound h) (fun k hk => hm k hk.1 hk.2.2.1)) (fun _ hk => hk.1)
theorem S_below (h : S d e w base ok v xs) (hb : Below w.heap.size w w1) : S d e w1 base ok v xs:=S_step h (fun k _ hk => hb.block k hk)
theorem S_drewN (h : S d e w base ok v xs) (m : Nat) : S d e (w.drewN m) base ok v xs:=S_below h (pw_below_drewN (Below.refl _ _) m)
theorem S_far (h : S d e w base ok v xs) {p : Addr} (hok : ∀ k,ok k→k≠p.block) (u : Value) : S d e (w.setCell p u) base ok v xs:=S_step h (fun k ho _ => Below.heap_setCell w p u k (hok k ho))
theorem S_types (h : S d e w base ok v xs) {g t : Nat} {cells : Array Value} (hb : w.heap[g]?=some (.cells cells t (0,0))) (ht : ∀ q,q ∈ e :: d.E→q≠t) : S d e w base (fun k => ok k∧k≠g) v xs:=by
  obtain ⟨f,h⟩:=h
  exact ⟨f,R_types h hb ht⟩
theorem S_typed (h : S d e w base ok v xs) : ∀ k,v.ownBlock=some k→∃ cells,w.heap[k]?=some (.cells cells e (0,0)):=R_typed (S_R h)
theorem S_elder' (h : S d e W base ok u xs) (hbase : ∀ k,v.ownBlock=some k→W.heap.size≤k) (hb : Below W.heap.size W w1) : S d e w1 base (fun k => ok k∧some k≠v.ownBlock) u xs:=by
  obtain ⟨f,h⟩:=h
  exact ⟨f,R_elder' h hbase hb⟩
theorem S_after {v1 : Value} (h : S d e W base (fun k => ok k∧some k≠v.ownBlock) u xs) (hg : W.grownBy w1 v.ownBlock) (hat : v1.ownBlock=v.ownBlock∨∃ b,v1.ownBlock=some b∧W.heap.size≤b) : S d e w1 base (fun k => ok k∧some k≠v1.ownBlock) u xs:=by
  obtain ⟨f,h⟩:=h
  exact ⟨f,R_after h hg hat⟩
theorem S_apart_nil (h : S d e w base ok u xs) : S d e w base (fun k => ok k∧some k≠(Value.slice none 0 0).ownBlock) u xs:=S_mono h (fun k hk => ⟨hk,by simp [Value.ownBlock]⟩)
theorem R_tag {f f' : Nat→Nat} {zs : List (α × Nat)} (h : (tag f d).R e w base ok v zs) (hf : ∀ k,ok k→k < w.heap.size→f' k=f k) : (tag f' d).R e w base ok v zs:=by
  obtain ⟨h0,inner,ho,hr⟩:=R_bound h
  exact ⟨fun k hk => (h0 k hk).1,inner,ho,hr.1,fun j p hj => d.M_mono (fun k hk => ⟨⟨hk.1.1.1,hk.1.2⟩,(hf k hk.1.1.1 hk.1.1.2.2.1).trans hk.2⟩) (hr.2 j p hj)⟩
end
section
variable {α β : Type} {d : Kd α} {d' : Kd β} {e e' g : Nat} {w w1 W : World} {base b : Nat} {ok ok' okv oku : Nat→Prop} {u v : Value} {xs : List α} {ys : List β}
theorem S_ne (h : S d e w base ok v xs) {t : Nat} {cells : Array Value} (hb : w.heap[g]?=some (.cells cells t (0,0))) (ht : e≠t) : some g≠v.ownBlock:=R_ne (S_R h) hb ht
theorem S_away (h : S d e w base ok v xs) (hok : ∀ k,ok k→k≠g) : some g≠v.ownBlock:=R_away (S_R h) hok
theorem S_slice (h : S d e w base ok v xs) : ∃ A c,v=.slice A xs.length c:=R_slice (S_R h)
theorem S_reads' {A : Option Addr} {n c : Nat} (h : S d e w base ok (.slice A n c) xs) : n=xs.length∧n≤c∧d.C w A xs.length xs:=R_reads' (S_R h)
theorem S_elderB (h : S d e w base ok v xs) (a : Nat) (ha : w.heap.size≤a) : S d e w base (fun k => ok k∧k≠a) v xs:=S_mono (S_bound h) (fun k hk => ⟨hk.1,by have:=hk.2.2.1;omega⟩)
theorem zip_snoc (xs : List α) (p : α) : (xs ++ [p]).zipIdx=xs.zipIdx ++ [(p,xs.length)]:=by rw [List.zipIdx_append];simp
end
section
open Classical in
/-- The next element's blocks are okp: none is one of v's (okv). -/
theorem S_tag {α : Type} {d : Kd α} {e base : Nat} {okv : Nat→Prop} {w : World} {v : Value} {xs : List α} (h : S d e w base okv v xs) (m : Nat) (okp : Nat→Prop) (hap : ∀ k,okp k→¬ okv k) : ∃ f,(∀ k,okp k→f k=m)∧(tag f d).R e w base okv v xs.zipIdx:=by
  obtain ⟨f,h⟩:=h
  exact ⟨fun k => if okp k then m else f k,fun k hk => if_pos hk,R_tag h (fun k hk _ => if_neg (fun h2 => hap k h2 hk))⟩
variable {P : Program} {ops : Array Oper} {rest : List Oper} {o : Oper} {a : Act} {Q : Exit→Act→World→Prop} {Kc : Act→World→Prop} {α : Type}
theorem S_append (d : Kd α) {w0 W : World} (base : Nat) (hgd : o.guard=none) (s x : Operand) (t e : TypeId) (z : Value) (bytes : Nat)
    (ho : o.op=.call { callee:=.builtin .append,args:=#[s,x],argTypes:=#[t,t] })
    (ht : P.underlying t=some (.slice e)) (hinfo : (P.info? e).map (fun i => (i.zero,i.size,i.bytes))=some (some z,d.sz,bytes)) (hz : z.cells.size=d.sz) (hs0 : 0 < d.sz) (hb0 : 0 < bytes)
    (v : Value) (xs : List α) (p : α) (cs : List Value) (ok okp : Nat→Prop) (hs : a.eval s=v) (hx : a.eval x=.slice (some ⟨W.heap.size,0,none⟩) 1 1) (hp : d.M W base okp p cs) (hokp : ∀ k,okp k→ok k∧some k≠v.ownBlock) (hfresh : ∀ k,W.heap.size≤k→ok k)
    (HO : S d e W base (fun k => ok k∧¬ okp k) v xs) (HB : Below base w0 W) (hbase : base≤W.heap.size) (hl : (xs.length + 1) * bytes≤140737488355328)
    (h : ∀ v1 w1,S d e w1 base ok v1 (xs ++ [p])→Below base w0 w1→W.grownBy w1 v.ownBlock→(v1.ownBlock=v.ownBlock∨∃ b,v1.ownBlock=some b∧W.heap.size≤b)→wpList P ops Q rest (a.put o.dst v1) w1) :
    wpList P ops Q (o :: rest) a (W.alloc (.cells cs.toArray e)):=by
  obtain ⟨f,hf,hR⟩:=S_tag HO xs.length okp (fun _ hk h2 => h2.2 hk)
  refine R_append (tag f d) base hgd s x t e z bytes ho ht hinfo hz hs0 hb0 v xs.zipIdx (p,xs.length) cs ok okp hs hx (d.M_mono (fun k hk => ⟨hk,hf k hk⟩) hp) hokp hfresh (R_mono hR (fun _ hk => hk.1)) HB hbase (by rw [List.length_zipIdx];exact hl) ?_
  intro v1 w1 hr
  rw [← zip_snoc] at hr
  exact h v1 w1 ⟨f,hr⟩
end
section
variable {α β : Type} {d : Kd α} {e e' g n cap : Nat} {w w1 W : World} {base : Nat} {ok ok' oki okp : Nat→Prop} {u v : Value} {xs : List α} {i : Int} {c : List Value}
end
section
variable {P : Program} {ops : Array Oper} {rest : List Oper} {o : Oper} {a : Act} {Q : Exit→Act→World→Prop} {α : Type}
end
end Kd
end Go.Proofs.YtbelnopbggkdfaaW.PrintWords
end

section
namespace Go.Proofs.YtbelnopbggkdfaaW.PrintWords
open Go.RowKit
def Foot (P : World→Prop) (W : World) (ok : Nat→Prop) : Prop:=∀ W' : World,(∀ k,ok k→k < W.heap.size→W'.heap[k]?=W.heap[k]?)→P W'
theorem heap_lt {W W1 : World} {k : Nat} (h : W1.heap[k]?=W.heap[k]?) (hlt : k < W.heap.size) : k < W1.heap.size:=by
  rw [Array.getElem?_eq_getElem hlt] at h
  exact (Array.getElem?_eq_some_iff.1 h).1
namespace Foot
variable {P Q : World→Prop} {W W1 : World} {ok ok' : Nat→Prop}
theorem now (h : Foot P W ok) : P W:=h W (fun _ _ _ => rfl)
theorem mono (h : Foot P W ok) (hok : ∀ k,ok k→ok' k) : Foot P W ok':=fun W' hW => h W' (fun k hk hlt => hW k (hok k hk) hlt)
theorem bound (h : Foot P W ok) : Foot P W (fun k => ok k∧k < W.heap.size):=fun W' hW => h W' (fun k hk hlt => hW k ⟨hk,hlt⟩ hlt)
theorem step (h : Foot P W ok) (hm : ∀ k,ok k→k < W.heap.size→W1.heap[k]?=W.heap[k]?) : Foot P W1 ok:=fun W' hW => h W' (fun k hk hlt => (hW k hk (heap_lt (hm k hk hlt) hlt)).trans (hm k hk hlt))
theorem old (h : Foot P W ok) (hb : Below W.heap.size W W1) : Foot P W1 (fun k => ok k∧k < W.heap.size):=(h.bound).step (fun k _ hlt => hb.block k hlt)
end Foot
namespace Kd
def F {α : Type} (d : Kd α) (W : World) (ok : Nat→Prop) (A : Option Addr) (n : Nat) (xs : List α) : Prop:=Foot (fun W => d.C W A n xs) W ok
def FK {α : Type} (d : Kd α) (W : World) (ok : Nat→Prop) (x : α) (c : List Value) : Prop:=Foot (fun W => d.K W x c) W ok
section
variable {α β : Type} {d : Kd α} {e base n n' cc g N : Nat} {ok ok' okp S : Nat→Prop} {w w0 w1 W W1 : World} {A A' : Option Addr} {u v v1 : Value} {xs : List α} {xs' : List β} {d' : Kd β} {x : α} {c : List Value}
theorem F_now (h : F d W ok A n xs) : d.C W A n xs:=Foot.now h
theorem F_mono (h : F d W ok A n xs) (hok : ∀ k,ok k→ok' k) : F d W ok' A n xs:=Foot.mono h hok
theorem F_bound (h : F d W ok A n xs) : F d W (fun k => ok k∧k < W.heap.size) A n xs:=Foot.bound h
theorem F_step (h : F d W ok A n xs) (hm : ∀ k,ok k→k < W.heap.size→W1.heap[k]?=W.heap[k]?) : F d W1 ok A n xs:=Foot.step h hm
theorem F_below (h : F d W ok A n xs) (hb : Below W.heap.size W W1) : F d W1 ok A n xs:=F_step h (fun k _ hlt => hb.block k hlt)
theorem F_far (h : F d W ok A n xs) {p : Addr} (hok : ∀ k,ok k→k≠p.block) (u : Value) : F d (W.setCell p u) ok A n xs:=F_step h (fun k hk _ => Below.heap_setCell W p u k (hok k hk))
theorem F_nil (d : Kd α) (W : World) (ok : Nat→Prop) : F d W ok none ([] : List α).length []:=fun W' _ => C_nil d W'
theorem FK_now (h : FK d W ok x c) : d.K W x c:=Foot.now h
theorem FK_mono (h : FK d W ok x c) (hok : ∀ k,ok k→ok' k) : FK d W ok' x c:=Foot.mono h hok
theorem FK_bound (h : FK d W ok x c) : FK d W (fun k => ok k∧k < W.heap.size) x c:=Foot.bound h
theorem FK_step (h : FK d W ok x c) (hm : ∀ k,ok k→k < W.heap.size→W1.heap[k]?=W.heap[k]?) : FK d W1 ok x c:=Foot.step h hm
theorem FK_below (h : FK d W ok x c) (hb : Below W.heap.size W W1) : FK d W1 ok x c:=FK_step h (fun k _ hlt => hb.block k hlt)
theorem FK_of_M (h : d.M W base ok x c) : FK d W ok x c:=fun _ hW => d.K_of_M (M_step h hW)
theorem emptied (W : World) (g : Nat) : ∃ W' : World,(∀ k,k≠g→W'.heap[k]?=W.heap[k]?)∧∀ a : Addr,a.block=g→W'.cell? a=none:=by
  refine ⟨{ W with heap:=W.heap.setIfInBounds g (.cells #[] 0) },fun k hk => by simp [Ne.symm hk],fun a ha => ?_⟩
  subst ha
  by_cases hlt : a.block < W.heap.size
  · simp [World.cell?,hlt]
  · simp [World.cell?,hlt]
end
end Kd
end Go.Proofs.YtbelnopbggkdfaaW.PrintWords
end

section
namespace Go.Proofs.YtbelnopbggkdfaaW.PrintWords
open Go.RowKit
namespace Kd
def chunks (sz : Nat) (n : Nat) (inner : List Value) : List (List Value):=(List.range n).map fun j => (inner.drop (j * sz)).take sz
theorem chunks_length (sz n : Nat) (inner : List Value) : (chunks sz n inner).length=n:=by simp [chunks]
theorem chunks_at {sz n : Nat} {inner : List Value} {j : Nat} (hj : j < n) : (chunks sz n inner)[j]?=some ((inner.drop (j * sz)).take sz):=by simp [chunks,hj]
theorem chunks_get {sz n : Nat} {inner : List Value} {j : Nat} {c : List Value} (h : (chunks sz n inner)[j]?=some c) : c=(inner.drop (j * sz)).take sz:=by
  have hj : j < n:=by have:=(List.getElem?_eq_some_iff.1 h).1;rwa [chunks_length] at this
  rw [chunks_at hj] at h
  injection h with h
  exact h.symm
theorem reps_raw {α : Type} {Rr : α→List Value→Prop} {sz : Nat} {xs : List α} {inner : List Value} (h : Reps Rr sz xs inner) (hR : ∀ x c,Rr x c→c.length=sz∧∀ u ∈ c,u.oneCell'=true) : Reps (fun x cs => cs=x∧cs.length=sz∧∀ u ∈ cs,u.oneCell'=true) sz (chunks sz xs.length inner) inner:=by
  refine ⟨by rw [chunks_length];exact h.1,fun j p hj => ?_⟩
  have hjl : j < xs.length:=by have:=(List.getElem?_eq_some_iff.1 hj).1;rwa [chunks_length] at this
  have hp:=chunks_get hj
  exact ⟨hp.symm,hR _ _ (h.2 j _ (List.getElem?_eq_getElem hjl))⟩
section
variable {α : Type} {d : Kd α} {e base n cc g : Nat} {ok ok' okp S : Nat→Prop} {w w1 W W1 : World} {A : Option Addr} {u v v1 : Value} {xs : List α} {x : α} {c : List Value}
theorem F_get (h : F d W ok A n xs) (z : α) (i : Int) (h0 : 0≤i) (h1 : i < n) :
    ∃ ad c,A=some ad∧c.length=d.sz∧FK d W ok (xs.getD i.toNat z) c∧(∀ j u,c[j]?=some u→W.cell? (ad.add (i.toNat * d.sz + j))=some u)∧(0 < d.sz→ok ad.block):=by
  obtain ⟨ad,c,rfl,hcl,hK,hcc⟩:=C_get (F_now h) z i h0 h1
  have hin : 0 < d.sz→ok ad.block:=by
    intro hs
    by_cases hk : ok ad.block
    · exact hk
    · obtain ⟨W',h2,h3⟩:=emptied W ad.block
      obtain ⟨ad',c',he,hcl',_,hcc'⟩:=C_get (h W' (fun k hk' _ => h2 k (fun e => hk (e ▸ hk')))) z i h0 h1
      injection he with he
      subst he
      have h4:=hcc' 0 _ (List.getElem?_eq_getElem (by omega))
      rw [h3 _ (add_block _ _)] at h4
      cases h4
  refine ⟨ad,c,rfl,hcl,fun W' hW => ?_,hcc,hin⟩
  obtain ⟨ad',c',he,hcl',hK',hcc'⟩:=C_get (h W' hW) z i h0 h1
  injection he with he
  subst he
  have hc : c=c':=by
    apply List.ext_getElem?
    intro j
    by_cases hj : j < d.sz
    · have hb : W'.heap[ad.block]?=W.heap[ad.block]?:=by
        have h5:=hcc j _ (List.getElem?_eq_getElem (by omega))
        have h6:=World.block_lt_of_cell? W _ h5
        rw [add_block] at h6
        exact hW _ (hin (by omega)) h6
      have h5:=hcc j _ (List.getElem?_eq_getElem (by omega))
      have h6:=hcc' j _ (List.getElem?_eq_getElem (by omega))
      have h7 : W'.cell? (ad.add (i.toNat * d.sz + j))=W.cell? (ad.add (i.toNat * d.sz + j)):=by simp [World.cell?,add_block,hb]
      rw [h7,h5] at h6
      rw [List.getElem?_eq_getElem (by omega),List.getElem?_eq_getElem (by omega)]
      exact h6
    · rw [List.getElem?_eq_none (by omega),List.getElem?_eq_none (by omega)]
  rw [hc]
  exact hK'
theorem F_rows (h : F d W ok A n xs) : ReadsRow (fun x c => FK d W ok x c) d.sz W A n xs:=by
  obtain ⟨hl,hm,hn⟩:=F_now h
  refine ⟨hl,hm,fun hp => ?_⟩
  obtain ⟨ad,rfl,_⟩:=hn hp
  refine ⟨ad,rfl,fun j p hj => ?_⟩
  obtain ⟨hjl,hjp⟩:=List.getElem?_eq_some_iff.1 hj
  obtain ⟨ad',c,he,hcl,hK,hcc,_⟩:=F_get h p (j : Int) (by omega) (by omega)
  injection he with he
  subst he
  simp only [Int.toNat_natCast] at hK hcc
  rw [List.getD_eq_getElem?_getD,hj] at hK
  exact ⟨c,hcl,hK,hcc⟩
def N {α : Type} (d : Kd α) (e : Nat) (w : World) (base : Nat) (ok : Nat→Prop) (v : Value) (xs : List α) : Prop :=
  (∀ k,v.ownBlock=some k→ok k)∧∃ rows : List (List Value),rows.length=xs.length∧(raw d.sz).R e w base (fun k => some k=v.ownBlock) v rows∧∀ (j : Nat) (x : α) (c : List Value),xs[j]?=some x→rows[j]?=some c→FK d w (fun k => ok k∧some k≠v.ownBlock) x c
theorem raw_tight {sz : Nat} {rows : List (List Value)} (h : (raw sz).R e w base ok v rows) : (raw sz).R e w base (fun k => some k=v.ownBlock) v rows:=R_tight rfl h
theorem raw_any {sz : Nat} {rows : List (List Value)} (h : (raw sz).R e w base ok v rows) : (raw sz).R e w base (fun _ => True) v rows:=R_mono h (fun _ _ => trivial)
theorem R_N (h : d.R e w base ok v xs) : N d e w base ok v xs:=by
  obtain ⟨h0,inner,ho,hr⟩:=h
  refine ⟨h0,chunks d.sz xs.length inner,chunks_length _ _ _,⟨fun k hk => hk.symm,inner,by rw [chunks_length];exact ho,reps_raw hr (fun x c hp => ⟨d.K_len (d.K_of_M hp),d.K_one (d.K_of_M hp)⟩)⟩,fun j x c hx hc => ?_⟩
  rw [chunks_get hc]
  exact FK_of_M (hr.2 j x hx)
theorem S_N (h : Kd.S d e w base ok v xs) : N d e w base ok v xs:=R_N (S_R h)
theorem N_nil (d : Kd α) (e : Nat) (w : World) (base : Nat) (ok : Nat→Prop) : N d e w base ok (.slice none 0 0) []:=R_N (R_nil _ _ _ _ _)
theorem N_mono (h : N d e w base ok v xs) (hok : ∀ k,ok k→ok' k) : N d e w base ok' v xs:=by
  obtain ⟨h0,rows,hl,hR,hf⟩:=h
  exact ⟨fun k hk => hok k (h0 k hk),rows,hl,hR,fun j x c hx hc => FK_mono (hf j x c hx hc) (fun k hk => ⟨hok k hk.1,hk.2⟩)⟩
theorem N_lt (h : N d e w base ok v xs) : ∀ k,v.ownBlock=some k→k < w.heap.size:=by
  obtain ⟨_,rows,_,hR,_⟩:=h
  exact R_lt hR
theorem N_base (h : N d e w base ok v xs) : ∀ k,v.ownBlock=some k→base≤k:=by
  obtain ⟨_,rows,_,hR,_⟩:=h
  exact R_base hR
theorem N_bound (h : N d e w base ok v xs) : N d e w base (fun k => ok k∧k < w.heap.size) v xs:=by
  have hlt:=N_lt h
  obtain ⟨h0,rows,hl,hR,hf⟩:=h
  exact ⟨fun k hk => ⟨h0 k hk,hlt k hk⟩,rows,hl,hR,fun j x c hx hc => FK_mono (FK_bound (hf j x c hx hc)) (fun k hk => ⟨⟨hk.1.1,hk.2⟩,hk.1.2⟩)⟩
theorem N_lower {base' : Nat} (h : N d e w base ok v xs) (hb : base'≤base) : N d e w base' ok v xs:=by
  obtain ⟨h0,rows,hl,hR,hf⟩:=h
  exact ⟨h0,rows,hl,R_lower hR hb,hf⟩
theorem N_step (h : N d e w base ok v xs) (hm : ∀ k,ok k→k < w.heap.size→w1.heap[k]?=w.heap[k]?) : N d e w1 base ok v xs:=by
  obtain ⟨h0,rows,hl,hR,hf⟩:=h
  exact ⟨h0,rows,hl,R_step hR (fun k hk hlt => hm k (h0 k hk.symm) hlt),fun j x c hx hc => FK_step (hf j x c hx hc) (fun k hk hlt => hm k hk.1 hlt)⟩
theorem N_below (h : N d e w base ok v xs) (hb : Below w.heap.size w w1) : N d e w1 base ok v xs:=N_step h (fun k _ hk => hb.block k hk)
theorem N_alloc (h : N d e w base ok v xs) (o : Obj) : N d e (w.alloc o) base ok v xs:=N_below h (below_alloc (Below.refl _ _) o)
theorem N_drew (h : N d e w base ok v xs) : N d e w.drew base ok v xs:=N_below h (below_drew (Below.refl _ _))
theorem N_far (h : N d e w base ok v xs) {p : Addr} (hok : ∀ k,ok k→k≠p.block) (u : Value) : N d e (w.setCell p u) base ok v xs:=N_step h (fun k ho _ => Below.heap_setCell w p u k (hok k ho))
theorem N_slice (h : N d e w base ok v xs) : ∃ A c,v=.slice A xs.length c:=by
  obtain ⟨_,rows,hl,hR,_⟩:=h
  obtain ⟨A,c,he⟩:=R_slice hR
  exact ⟨A,c,by rw [he,hl]⟩
theorem N_form (h : N d e w base ok v xs) (hp : 0 < xs.length) : ∃ g cap,v=.slice (some ⟨g,0,none⟩) xs.length cap∧base≤g∧g < w.heap.size∧∃ cells,w.heap[g]?=some (.cells cells e (0,0)):=by
  obtain ⟨_,rows,hl,hR,_⟩:=h
  rw [← hl] at hp ⊢
  exact R_form hR hp
theorem N_reads' {n c : Nat} (h : N d e w base ok (.slice A n c) xs) : n=xs.length∧n≤c∧d.C w A xs.length xs:=by
  obtain ⟨_,rows,hl,hR,hf⟩:=h
  obtain ⟨hn,hc,hC⟩:=R_reads' hR
  refine ⟨by omega,hc,?_⟩
  rw [hl] at hC
  refine ⟨rfl,hC.2.1,fun hp => ?_⟩
  obtain ⟨ad,he,hcell⟩:=hC.2.2 hp
  refine ⟨ad,he,fun j p hj => ?_⟩
  have hjl : j < rows.length:=by have:=(List.getElem?_eq_some_iff.1 hj).1;omega
  obtain ⟨c',hcl,hK,hcc⟩:=hcell j _ (List.getElem?_eq_getElem hjl)
  have hk:=FK_now (hf j p _ hj (List.getElem?_eq_getElem hjl))
  refine ⟨c',hcl,?_,hcc⟩
  rw [show c'=rows[j] from hK.1]
  exact hk
theorem N_F {n : Nat} (h : N d e w base ok (.slice A n cc) xs) : F d w ok A n xs:=fun W' hW => by
  have h2:=N_reads' (N_step h hW)
  rw [h2.1]
  exact h2.2.2
theorem N_elem {n cap : Nat} (h : N d e W base ok (.slice (some ⟨g,0,none⟩) n cap) xs) (z : α) (i : Int) (h0 : 0≤i) (h1 : i < n) :
    ∃ c,c.length=d.sz∧FK d W (fun k => ok k∧k≠g) (xs.getD i.toNat z) c∧(∀ j u,c[j]?=some u→W.cell? ⟨g,i.toNat * d.sz + j,none⟩=some u)∧∀ j,W.frozen? ⟨g,i.toNat * d.sz + j,none⟩=false:=by
  obtain ⟨_,rows,hl,hR,hf⟩:=h
  have hn:=(R_reads' hR).1
  obtain ⟨c,hcl,hM,hcc,hfr⟩:=R_elem hR [] i h0 h1
  have hil : i.toNat < rows.length:=by omega
  have hil' : i.toNat < xs.length:=by omega
  have hc : c=rows[i.toNat]:=by
    have h2:=hM.1
    rwa [List.getD_eq_getElem?_getD,List.getElem?_eq_getElem hil] at h2
  refine ⟨c,hcl,?_,hcc,hfr⟩
  rw [List.getD_eq_getElem?_getD,List.getElem?_eq_getElem hil']
  exact FK_mono (hf _ _ _ (List.getElem?_eq_getElem hil') (by rw [hc];exact List.getElem?_eq_getElem hil)) (fun k hk => ⟨hk.1,fun he => hk.2 (by rw [he];simp [Value.ownBlock])⟩)
end
end Kd
end Go.Proofs.YtbelnopbggkdfaaW.PrintWords
end

section
namespace Go.Proofs.YtbelnopbggkdfaaW.PrintWords
theorem Reps.one {α : Type} {R : α→List Value→Prop} {ps : List α} {cs : List Value} {p : α} {v : Value} (hp : R p [v]) (h : Reps R 1 ps cs) : Reps R 1 (p :: ps) (v :: cs):=by
  refine ⟨by simp [h.1],fun j q hq => ?_⟩
  cases j with
  | zero =>
    simp only [List.getElem?_cons_zero,Option.some.injEq] at hq
    subst hq
    simpa using hp
  | succ j =>
    simp only [List.getElem?_cons_succ] at hq
    have h1:=h.2 j q hq
    simpa [Nat.mul_one] using h1
end Go.Proofs.YtbelnopbggkdfaaW.PrintWords
end

section
namespace Go.Proofs.YtbelnopbggkdfaaW.PrintLast
def up (b : Nat→Bool) (i : Nat) : Nat→Bool:=fun j => if j=i then true else b j
section
variable {P : Program} {ops : Array Oper} {Q : Exit→Act→World→Prop} {md : Region.Mode} {T : Bool × List (List Nat × List Nat)} {B : List Nat} {O : List Nat} {b : Nat→Bool} {i j n : Nat}
end
end Go.Proofs.YtbelnopbggkdfaaW.PrintLast
end

section
namespace Go.Proofs.YtbelnopbggkdfaaW.PrintWords
open Go.RowKit
section
variable {P : Program} {ops : Array Oper} {rest : List Oper} {o : Oper} {a : Act} {Q : Exit→Act→World→Prop} {W : World}
theorem gate_guard (hw : Region.wanted o (yielded ops a.tmps)=true) (h : wpList P ops Q ({ o with guard:=none } :: rest) a W) : wpList P ops Q (o :: rest) a W:=by
  have h1 : Region.wanted { o with guard:=none } (yielded ops a.tmps)=true:=rfl
  unfold wpList at h ⊢
  rw [if_pos h1] at h
  rw [if_pos hw]
  exact h
end
end Go.Proofs.YtbelnopbggkdfaaW.PrintWords
end

section
namespace Go.Proofs.YtbelnopbggkdfaaW.PrintWords
open Go.RowKit
namespace Kd
section
variable {α : Type} {d : Kd α} {e base n cap g : Nat} {ok ok' okp : Nat→Prop} {w w1 W : World} {v v1 : Value} {xs ys : List α}
theorem N_appended {rows news : List (List Value)} (h0 : ∀ k,v.ownBlock=some k→ok k) (hl : rows.length=xs.length) (hf : ∀ (j : Nat) (x : α) (c : List Value),xs[j]?=some x→rows[j]?=some c→FK d W (fun k => ok k∧some k≠v.ownBlock) x c)
    (hl2 : news.length=ys.length) (hf2 : ∀ (j : Nat) (x : α) (c : List Value),ys[j]?=some x→news[j]?=some c→FK d W okp x c) (hokp : ∀ k,okp k→ok k∧some k≠v.ownBlock) (hfresh : ∀ k,W.heap.size≤k→ok k)
    (hR : (raw d.sz).R e w1 base (fun _ => True) v1 (rows ++ news)) (hg : W.grownBy w1 v.ownBlock) (hat : v1.ownBlock=v.ownBlock∨∃ b,v1.ownBlock=some b∧W.heap.size≤b) : N d e w1 base ok v1 (xs ++ ys):=by
  have hne : ∀ k,some k≠v.ownBlock→k < W.heap.size→some k≠v1.ownBlock:=by
    intro k hk hlt
    rcases hat with hat | ⟨b,hb,hle⟩
    · rw [hat];exact hk
    · rw [hb]
      intro he
      injection he with he
      omega
  have step : ∀ {x : α} {c : List Value} {o : Nat→Prop},FK d W o x c→(∀ k,o k→ok k∧some k≠v.ownBlock)→FK d w1 (fun k => ok k∧some k≠v1.ownBlock) x c:=by
    intro x c o hq ho
    exact FK_mono (FK_step (FK_bound hq) (fun k hk hlt => hg.block k hlt (ho k hk.1).2)) (fun k hk => ⟨(ho k hk.1).1,hne k (ho k hk.1).2 hk.2⟩)
  refine ⟨fun k hk => ?_,rows ++ news,by rw [List.length_append,List.length_append,hl,hl2],raw_tight hR,fun j x c hx hc => ?_⟩
  · rcases hat with hat | ⟨b,hb,hle⟩
    · exact h0 k (hat ▸ hk)
    · rw [hb] at hk
      injection hk with hk
      exact hfresh k (by omega)
  · rcases Nat.lt_or_ge j xs.length with hlt|hge
    · rw [List.getElem?_append_left hlt] at hx
      rw [List.getElem?_append_left (by omega)] at hc
      exact step (hf j x c hx hc) (fun _ hk => hk)
    · rw [List.getElem?_append_right hge] at hx
      rw [List.getElem?_append_right (by omega),hl] at hc
      exact step (hf2 _ x c hx hc) hokp
theorem FK_raw {x : α} {c : List Value} (h : FK d W ok x c) : c=c∧c.length=d.sz∧∀ u ∈ c,u.oneCell'=true:=⟨rfl,d.K_len (FK_now h),d.K_one (FK_now h)⟩
theorem N_made {rows : List (List Value)} (hR : (raw d.sz).R e w1 base (fun k => k=W.heap.size) v1 rows) (hg : W.grownBy w1 none) (hat : ∃ b,v1.ownBlock=some b∧W.heap.size≤b) (hl : rows.length=xs.length) (hf : ∀ (j : Nat) (x : α) (c : List Value),xs[j]?=some x→rows[j]?=some c→FK d W okp x c)
    (hok : ∀ k,okp k→ok k) (hfresh : ok W.heap.size) : N d e w1 base ok v1 xs:=by
  obtain ⟨b,hb,hle⟩:=hat
  refine ⟨fun k hk => by rw [hR.1 k hk];exact hfresh,rows,hl,raw_tight hR,fun j x c hx hc => ?_⟩
  refine FK_mono (FK_step (FK_bound (hf j x c hx hc)) (fun k hk hlt => hg.block k hlt (by simp))) (fun k hk => ⟨hok k hk.1,fun he => ?_⟩)
  rw [hb] at he
  injection he with he
  have:=hk.2
  omega
theorem reads_raw {Rr : α→List Value→Prop} {sz m : Nat} {A : Option Addr} (h : ReadsRow Rr sz W A m ys) (hR : ∀ x c,Rr x c→c.length=sz∧∀ u ∈ c,u.oneCell'=true) :
    ∃ news : List (List Value),news.length=ys.length∧ReadsRow (fun x cs => cs=x∧cs.length=sz∧∀ u ∈ cs,u.oneCell'=true) sz W A m news∧∀ (j : Nat) (x : α) (c : List Value),ys[j]?=some x→news[j]?=some c→Rr x c:=by
  rcases Nat.eq_zero_or_pos m with h0|hp
  · have hy : ys=[]:=List.eq_nil_of_length_eq_zero (h.1.trans h0)
    subst hy
    exact ⟨[],rfl,⟨h0 ▸ rfl,h.2.1,fun hp => by omega⟩,fun j x c hx => by simp at hx⟩
  · obtain ⟨ad,rfl,_⟩:=h.2.2 hp
    obtain ⟨inner,hr,hc⟩:=ReadsRow.inner_ h
    refine ⟨chunks sz ys.length inner,chunks_length _ _ _,⟨by rw [chunks_length];exact h.1,h.2.1,fun _ => ⟨ad,rfl,fun j p hj => ?_⟩⟩,fun j x c hx hcc => ?_⟩
    · have hjl : j < ys.length:=by have:=(List.getElem?_eq_some_iff.1 hj).1;rwa [chunks_length] at this
      have hpe:=chunks_get hj
      have hq:=hR _ _ (hr.2 j _ (List.getElem?_eq_getElem hjl))
      rw [← hpe] at hq
      refine ⟨p,hq.1,⟨rfl,hq⟩,fun i u hu => ?_⟩
      have hu2 : inner[j * sz + i]?=some u:=by
        rw [hpe,List.getElem?_take] at hu
        split at hu
        · rw [List.getElem?_drop] at hu
          exact hu
        · cases hu
      exact hc _ u hu2
    · rw [chunks_get hcc]
      exact hr.2 j x hx
end
section
variable {P : Program} {ops : Array Oper} {rest : List Oper} {o : Oper} {a : Act} {Q : Exit→Act→World→Prop} {Kc : Act→World→Prop} {α : Type}
theorem N_append (d : Kd α) {w0 W : World} (base : Nat) (hgd : o.guard=none) (s x : Operand) (t e : TypeId) (z : Value) (bytes : Nat)
    (ho : o.op=.call { callee:=.builtin .append,args:=#[s,x],argTypes:=#[t,t] })
    (ht : P.underlying t=some (.slice e)) (hinfo : (P.info? e).map (fun i => (i.zero,i.size,i.bytes))=some (some z,d.sz,bytes)) (hz : z.cells.size=d.sz) (hs0 : 0 < d.sz) (hb0 : 0 < bytes)
    (v : Value) (xs : List α) (p : α) (cs : List Value) (ok okp : Nat→Prop) (hs : a.eval s=v) (hx : a.eval x=.slice (some ⟨W.heap.size,0,none⟩) 1 1) (hp : FK d W okp p cs) (hokp : ∀ k,okp k→ok k∧some k≠v.ownBlock) (hfresh : ∀ k,W.heap.size≤k→ok k)
    (HO : N d e W base ok v xs) (HB : Below base w0 W) (hbase : base≤W.heap.size) (hl : (xs.length + 1) * bytes≤140737488355328)
    (h : ∀ v1 w1,N d e w1 base ok v1 (xs ++ [p])→Below base w0 w1→W.grownBy w1 v.ownBlock→(v1.ownBlock=v.ownBlock∨∃ b,v1.ownBlock=some b∧W.heap.size≤b)→wpList P ops Q rest (a.put o.dst v1) w1) :
    wpList P ops Q (o :: rest) a (W.alloc (.cells cs.toArray e)):=by
  obtain ⟨h0,rows,hlr,hR,hf⟩:=HO
  refine R_append (raw d.sz) base hgd s x t e z bytes ho ht hinfo hz hs0 hb0 v rows cs cs (fun _ => True) (fun _ => False) hs hx (FK_raw hp) (fun _ hk => hk.elim) (fun _ _ => trivial) (raw_any hR) HB hbase (by rw [hlr];exact hl) ?_
  intro v1 w1 hr hb hg hat
  exact h v1 w1 (N_appended h0 hlr hf (ys:=[p]) (news:=[cs]) rfl (fun j y c hy hc => by
    rcases j with _|j
    · simp only [List.getElem?_cons_zero,Option.some.injEq] at hy hc
      rw [← hy,← hc];exact hp
    · simp at hy) hokp hfresh hr hg hat) hb hg hat
theorem N_append_rows_step (d : Kd α) {w0 W : World} (base : Nat) (hw : Region.wanted o (yielded ops a.tmps)=true) (s x : Operand) (t e : TypeId) (z : Value) (bytes : Nat)
    (ho : o.op=.call { callee:=.builtin .append,args:=#[s,x],argTypes:=#[t,t] })
    (ht : P.underlying t=some (.slice e)) (hinfo : (P.info? e).map (fun i => (i.zero,i.size,i.bytes))=some (some z,d.sz,bytes)) (hz : z.cells.size=d.sz) (hs0 : 0 < d.sz) (hb0 : 0 < bytes)
    (v : Value) (xs ys : List α) (A : Option Addr) (m c : Nat) (ok okp : Nat→Prop) (hs : a.eval s=v) (hx : a.eval x=.slice A m c)
    (HO : N d e W base ok v xs) (HR : F d W okp A m ys) (hokp : ∀ k,okp k→ok k∧some k≠v.ownBlock) (hfresh : ∀ k,W.heap.size≤k→ok k)
    (HB : Below base w0 W) (hbase : base≤W.heap.size) (hl : (xs.length + m) * bytes≤140737488355328)
    (h : ∀ v1 w1,N d e w1 base ok v1 (xs ++ ys)→Below base w0 w1→W.grownBy w1 v.ownBlock→(v1.ownBlock=v.ownBlock∨∃ b,v1.ownBlock=some b∧W.heap.size≤b)→Kc (a.put o.dst v1) w1) :
    if Region.wanted o (yielded ops a.tmps)=true then Oper.wp P o a W Kc Q else Kc (a.put o.dst undef) W:=by
  obtain ⟨h0,rows,hlr,hR,hf⟩:=HO
  obtain ⟨news,hnl,hnr,hnf⟩:=reads_raw (F_rows HR) (fun y c hk => ⟨d.K_len (FK_now hk),d.K_one (FK_now hk)⟩)
  refine R_append_rows_step (raw d.sz) base hw s x t e z bytes ho ht hinfo hz hs0 hb0 v rows news A m c (fun _ => True) (fun _ => False) hs hx (raw_any hR) hnr (fun _ _ hk => hk) (fun _ hk => hk.elim) (fun _ _ => trivial) HB hbase (by rw [hlr];exact hl) ?_
  intro v1 w1 hr hb hg hat
  exact h v1 w1 (N_appended h0 hlr hf hnl hnf hokp hfresh hr hg hat) hb hg hat
theorem N_lit_step (d : Kd α) {w0 W : World} (base e : Nat) (hw : Region.wanted o (yielded ops a.tmps)=true) {N' : Tmp} (_hd : o.dst=some N') {xs : List α} {inner : List Value} {ok okp : Nat→Prop}
    (hrun : (execOp a.eval o).run P W=.ok (.value (.slice (some ⟨W.heap.size,0,none⟩) xs.length xs.length)) (W.alloc (.cells inner.toArray e)))
    (hrep : Reps (FK d W okp) d.sz xs inner) (hok : ∀ k,okp k→ok k) (hfresh : ok W.heap.size) (HB : Below base w0 W) (hbase : base≤W.heap.size) (hm : xs.length≤9223372036854775807)
    (h : ∀ v1 w1,N d e w1 base ok v1 xs→Below base w0 w1→W.grownBy w1 none→(∃ b,v1.ownBlock=some b∧W.heap.size≤b)→Kc (a.put o.dst v1) w1) :
    if Region.wanted o (yielded ops a.tmps)=true then Oper.wp P o a W Kc Q else Kc (a.put o.dst undef) W:=by
  refine R_lit_step (raw d.sz) base e hw _hd (xs:=chunks d.sz xs.length inner) (inner:=inner) (ok:=fun k => k=W.heap.size) (okp:=fun _ => False) (by rw [chunks_length];exact hrun) (reps_raw hrep (fun y c hk => ⟨d.K_len (FK_now hk),d.K_one (FK_now hk)⟩)) (fun _ hk => hk.elim) rfl HB hbase (by rw [chunks_length];exact hm) ?_
  intro v1 w1 hr hb hg hat
  exact h v1 w1 (N_made hr hg hat (chunks_length _ _ _) (fun j y c hy hc => by rw [chunks_get hc];exact hrep.2 j y hy) hok hfresh) hb hg hat
end
end Kd
end Go.Proofs.YtbelnopbggkdfaaW.PrintWords
end

section
namespace Go.Proofs.YtbelnopbggkdfaaW.PrintMore
open Go.RowKit Go.Proofs.YtbelnopbggkdfaaW.PrintWords
namespace Kd
open Go.Proofs.YtbelnopbggkdfaaW.PrintWords.Kd
end Kd
namespace Kd
open Go.Proofs.YtbelnopbggkdfaaW.PrintWords.Kd
section
variable {α : Type} {d : Kd α} {e base g N : Nat} {ok : Nat→Prop} {W w1 : World} {u v : Value} {xs : List α}
end
end Kd
theorem max2_int (k k' : IntKind) (x y : Int) : Builtin.max2 (.int k x) (.int k' y)=pure (.int k (if x < y then y else x)):=by simp only [Builtin.max2,gt_iff_lt]
theorem min2_int (k k' : IntKind) (x y : Int) : Builtin.min2 (.int k x) (.int k' y)=pure (.int k (if y < x then y else x)):=by simp only [Builtin.min2]
theorem max_two (ats : Array TypeId) (ty : TypeId) (a b : Value) : Builtin.max_ ats ty #[a,b]=(Builtin.max2 a b >>= fun s => pure s):=by simp only [Builtin.max_,List.foldlM_cons,List.foldlM_nil]
theorem min_two (ats : Array TypeId) (ty : TypeId) (a b : Value) : Builtin.min_ ats ty #[a,b]=(Builtin.min2 a b >>= fun s => pure s):=by simp only [Builtin.min_,List.foldlM_cons,List.foldlM_nil]
theorem max_three (ats : Array TypeId) (ty : TypeId) (a b c : Value) : Builtin.max_ ats ty #[a,b,c]=(Builtin.max2 a b >>= fun s => Builtin.max2 s c >>= fun s => pure s):=by simp only [Builtin.max_,List.foldlM_cons,List.foldlM_nil]
theorem min_three (ats : Array TypeId) (ty : TypeId) (a b c : Value) : Builtin.min_ ats ty #[a,b,c]=(Builtin.min2 a b >>= fun s => Builtin.min2 s c >>= fun s => pure s):=by simp only [Builtin.min_,List.foldlM_cons,List.foldlM_nil]
theorem max_four (ats : Array TypeId) (ty : TypeId) (a b c d : Value) : Builtin.max_ ats ty #[a,b,c,d]=(Builtin.max2 a b >>= fun s => Builtin.max2 s c >>= fun s => Builtin.max2 s d >>= fun s => pure s):=by simp only [Builtin.max_,List.foldlM_cons,List.foldlM_nil]
theorem min_four (ats : Array TypeId) (ty : TypeId) (a b c d : Value) : Builtin.min_ ats ty #[a,b,c,d]=(Builtin.min2 a b >>= fun s => Builtin.min2 s c >>= fun s => Builtin.min2 s d >>= fun s => pure s):=by simp only [Builtin.min_,List.foldlM_cons,List.foldlM_nil]
end Go.Proofs.YtbelnopbggkdfaaW.PrintMore
namespace Go.Proofs.YtbelnopbggkdfaaW.PrintWords
open Go.RowKit
section
variable {P : Program} {ops : Array Oper} {rest : List Oper} {o : Oper} {a : Act} {Q : Exit→Act→World→Prop} {W : World}
theorem gate_callee {f : FuncId} {as_ : Array Operand} {ts : Array TypeId} (_ho : o.op=.call { callee:=.value (.func f),args:=as_,argTypes:=ts }) (h : wpList P ops Q (o :: rest) a W) : wpList P ops Q (o :: rest) a W:=h
theorem gate_builtin {b : Builtin} {xs : Array Operand} {ts : Array TypeId} (_ho : o.op=.call { callee:=.builtin b,args:=xs,argTypes:=ts }) (h : wpList P ops Q (o :: rest) a W) : wpList P ops Q (o :: rest) a W:=h
end
namespace Kd
section
variable {α : Type} {d : Kd α} {e base : Nat} {ok : Nat→Prop} {W w1 : World} {v : Value} {xs : List α}
end
section
variable {α : Type} {d : Kd α} {e base g n cap : Nat} {ok oki okp : Nat→Prop} {W : World} {xs : List α} {i : Int} {c : List Value}
end
section
variable {α : Type} {d : Kd α} {e base b b' g N : Nat} {ok ok1 : Nat→Prop} {W W2 w1 : World} {u v : Value} {xs ys : List α} {S : Nat→Prop}
end
end Kd
end Go.Proofs.YtbelnopbggkdfaaW.PrintWords
namespace Go.Proofs.YtbelnopbggkdfaaW.PrintWords
open Go.RowKit
namespace Kd
section
variable {α β : Type} {d : Kd α} {e base base' n m c g N' lo hi : Nat} {ok ok' S : Nat→Prop} {w W w1 : World} {A : Option Addr} {ad : Addr} {u v v1 : Value} {xs : List α}
theorem foot_int {k : IntKind} {l : List Int} (h : (Kd.int k).C w (some ad) n l) (i : Int) (h0 : 0≤i) (h1 : i < n) : w.cell? (ad.add i.toNat)=some (.int k (rd l i)):=by
  obtain ⟨ad',he,hc⟩:=at_int h i h0 h1
  injection he with he
  subst he
  exact hc
end
end Kd
end Go.Proofs.YtbelnopbggkdfaaW.PrintWords
end

section
namespace Go.Proofs.Ytbelnopbggkdfaa.Q
open Go.RowKit Go.Proofs.YtbelnopbggkdfaaW.PrintWords Go.Proofs.YtbelnopbggkdfaaW.PrintLast Go.Proofs.YtbelnopbggkdfaaW.PrintMore
attribute [local go_sem] max2_int min2_int max_two min_two max_three min_three max_four min_four   -- for this text's walks alone
set_option linter.unusedVariables false
set_option linter.unusedSimpArgs false
theorem info3 : (Try.prog.info? 3).map (fun i => (i.zero,i.size,i.bytes))=some (some (.int .i64 0),1,8):=by kernel_rfl
theorem info46 : (Try.prog.info? 46).map (fun i => (i.zero,i.size,i.bytes))=some (some (.agg #[(.int .i64 0),(.int .i64 0),(.slice none 0 0),(.int .i64 0),(.int .i64 0),(.int .i64 0)]),6,64):=by kernel_rfl
structure S46 where
 f0 : Int
 f1 : Int
 f2 : (List Int)
 f3 : Int
 f4 : Int
 f5 : Int
def z46 : S46:=⟨(0 : Int),(0 : Int),([] : List Int),(0 : Int),(0 : Int),(0 : Int)⟩
def k46 : Kd S46:=Kd.iso (Kd.pair (Kd.int .i64) (Kd.pair (Kd.int .i64) (Kd.pair (Kd.slice 3 (Kd.int .i64)) (Kd.pair (Kd.int .i64) (Kd.pair (Kd.int .i64) (Kd.int .i64)))))) (fun x : S46 => (x.f0,x.f1,x.f2,x.f3,x.f4,x.f5))
theorem k46_open {w : World} {x : S46} {cs : List Value} (h : k46.K w x cs) : ∃ A2 c2,cs=[.int .i64 x.f0,.int .i64 x.f1,.slice A2 x.f2.length c2,.int .i64 x.f3,.int .i64 x.f4,.int .i64 x.f5]∧x.f2.length≤c2∧(Kd.int .i64).C w A2 x.f2.length x.f2:=by
 obtain ⟨_,_,rfl,rfl,⟨_,_,rfl,rfl,⟨_,_,rfl,⟨A2,c2,rfl,l2,g2⟩,⟨_,_,rfl,rfl,⟨_,_,rfl,rfl,rfl⟩⟩⟩⟩⟩:=h
 exact ⟨A2,c2,rfl,l2,g2⟩
theorem k46_mk (w : World) (x : S46) {A2 : Option Addr} {c2 : Nat} (l2 : x.f2.length≤c2) (g2 : (Kd.int .i64).C w A2 x.f2.length x.f2) : k46.K w x [.int .i64 x.f0,.int .i64 x.f1,.slice A2 x.f2.length c2,.int .i64 x.f3,.int .i64 x.f4,.int .i64 x.f5]:=⟨[.int .i64 x.f0],[.int .i64 x.f1,.slice A2 x.f2.length c2,.int .i64 x.f3,.int .i64 x.f4,.int .i64 x.f5],rfl,rfl,⟨[.int .i64 x.f1],[.slice A2 x.f2.length c2,.int .i64 x.f3,.int .i64 x.f4,.int .i64 x.f5],rfl,rfl,⟨[.slice A2 x.f2.length c2],[.int .i64 x.f3,.int .i64 x.f4,.int .i64 x.f5],rfl,⟨A2,c2,rfl,l2,g2⟩,⟨[.int .i64 x.f3],[.int .i64 x.f4,.int .i64 x.f5],rfl,rfl,⟨[.int .i64 x.f4],[.int .i64 x.f5],rfl,rfl,rfl⟩⟩⟩⟩⟩
theorem k46_mkM (w : World) (base : Nat) (ok : Nat→Prop) (x : S46) {v2 : Value} (g2 : (Kd.int .i64).R 3 w base ok v2 x.f2) : k46.M w base ok x [.int .i64 x.f0,.int .i64 x.f1,v2,.int .i64 x.f3,.int .i64 x.f4,.int .i64 x.f5]:=⟨[.int .i64 x.f0],[.int .i64 x.f1,v2,.int .i64 x.f3,.int .i64 x.f4,.int .i64 x.f5],rfl,rfl,⟨[.int .i64 x.f1],[v2,.int .i64 x.f3,.int .i64 x.f4,.int .i64 x.f5],rfl,rfl,⟨[v2],[.int .i64 x.f3,.int .i64 x.f4,.int .i64 x.f5],rfl,⟨v2,rfl,g2⟩,⟨[.int .i64 x.f3],[.int .i64 x.f4,.int .i64 x.f5],rfl,rfl,⟨[.int .i64 x.f4],[.int .i64 x.f5],rfl,rfl,rfl⟩⟩⟩⟩⟩
def rd_T46 (xs : List S46) (i : Int) : S46:=xs.getD i.toNat z46
theorem at_T46 {w : World} {A : Option Addr} {n : Nat} {xs : List S46} (h : Kd.C k46 w A n xs) (i : Int) (h0 : 0≤i) (h1 : i < n) : ∃ ad A2 c2,A=some ad∧w.cell? (ad.add (i.toNat * 6))=some (.int .i64 (rd_T46 xs i).f0)∧w.cell? ⟨(ad.add (i.toNat * 6)).block,(ad.add (i.toNat * 6)).off + 1,none⟩=some (.int .i64 (rd_T46 xs i).f1)∧w.cell? ⟨(ad.add (i.toNat * 6)).block,(ad.add (i.toNat * 6)).off + 2,none⟩=some (.slice A2 (rd_T46 xs i).f2.length c2)∧w.cell? ⟨(ad.add (i.toNat * 6)).block,(ad.add (i.toNat * 6)).off + 3,none⟩=some (.int .i64 (rd_T46 xs i).f3)∧w.cell? ⟨(ad.add (i.toNat * 6)).block,(ad.add (i.toNat * 6)).off + 4,none⟩=some (.int .i64 (rd_T46 xs i).f4)∧w.cell? ⟨(ad.add (i.toNat * 6)).block,(ad.add (i.toNat * 6)).off + 5,none⟩=some (.int .i64 (rd_T46 xs i).f5)∧(rd_T46 xs i).f2.length≤c2∧(Kd.int .i64).C w A2 (rd_T46 xs i).f2.length (rd_T46 xs i).f2:=by
 obtain ⟨ad,c,e,_,hK,hc0⟩:=Kd.C_get h z46 i h0 h1
 have hc : ∀ j u,c[j]?=some u→w.cell? (ad.add (i.toNat * 6 + j))=some u:=hc0
 obtain ⟨A2,c2,rfl,l2,g2⟩:=k46_open hK
 exact ⟨ad,A2,c2,e,hc 0 _ rfl,by rw [← add_field _ _ 1 (by omega)];exact hc 1 _ rfl,by rw [← add_field _ _ 2 (by omega)];exact hc 2 _ rfl,by rw [← add_field _ _ 3 (by omega)];exact hc 3 _ rfl,by rw [← add_field _ _ 4 (by omega)];exact hc 4 _ rfl,by rw [← add_field _ _ 5 (by omega)];exact hc 5 _ rfl,l2,g2⟩
end Go.Proofs.Ytbelnopbggkdfaa.Q
end

section
namespace Go.Proofs.Ytbelnopbggkdfaa.Q
open Go.RowKit Go.Proofs.YtbelnopbggkdfaaW.PrintWords Go.Proofs.YtbelnopbggkdfaaW.PrintLast Go.Proofs.YtbelnopbggkdfaaW.PrintMore
def TypedI (w : World) (A : Option Addr) (n : Nat) : Prop:=0 < n→∃ g o D,A=some ⟨g,o,none⟩∧w.heap[g]?=some (.cells D 3 (0,0))
theorem TypedI.below {w w1 : World} {A : Option Addr} {n : Nat} (h : TypedI w A n) (hb : Below w.heap.size w w1) : TypedI w1 A n:=fun hn => by
  obtain ⟨g,o,D,e,hg⟩:=h hn
  exact ⟨g,o,D,e,blk_below hg hb⟩
def sliceW : Kd (List Int) :=
  { Kd.slice 3 (Kd.int .i64) with
    K:=fun w xs cs => ∃ A c,cs=[.slice A xs.length c]∧xs.length≤c∧(Kd.int .i64).C w A xs.length xs∧TypedI w A xs.length
    K_len:=by
      rintro w x cs ⟨A,c,rfl,_⟩
      rfl
    K_one:=by
      rintro w x cs ⟨A,c,rfl,_⟩ u hu
      rw [List.mem_singleton.1 hu]
      rfl
    K_below:=by
      rintro w w1 x cs hb ⟨A,c,rfl,hl,hr,ht⟩
      exact ⟨A,c,rfl,hl,Kd.C_below hr hb,ht.below hb⟩
    K_of_M:=by
      rintro w base ok x cs ⟨v,rfl,h⟩
      obtain ⟨A,c,rfl⟩:=Kd.R_slice h
      obtain ⟨_,hl,hC⟩:=Kd.R_reads' h
      refine ⟨A,c,rfl,hl,hC,fun hn => ?_⟩
      obtain ⟨g,cap,e,_,_,D,hg⟩:=Kd.R_form h hn
      injection e with e1 _ _
      exact ⟨g,0,D,e1,hg⟩ }
def k46w : Kd S46:=Kd.iso (Kd.pair (Kd.int .i64) (Kd.pair (Kd.int .i64) (Kd.pair sliceW (Kd.pair (Kd.int .i64) (Kd.pair (Kd.int .i64) (Kd.int .i64)))))) (fun x : S46 => (x.f0,x.f1,x.f2,x.f3,x.f4,x.f5))
theorem k46w_open {w : World} {x : S46} {cs : List Value} (h : k46w.K w x cs) : ∃ A2 c2,cs=[.int .i64 x.f0,.int .i64 x.f1,.slice A2 x.f2.length c2,.int .i64 x.f3,.int .i64 x.f4,.int .i64 x.f5]∧x.f2.length≤c2∧(Kd.int .i64).C w A2 x.f2.length x.f2∧TypedI w A2 x.f2.length:=by
  obtain ⟨_,_,rfl,rfl,⟨_,_,rfl,rfl,⟨_,_,rfl,⟨A2,c2,rfl,l2,g2⟩,⟨_,_,rfl,rfl,⟨_,_,rfl,rfl,rfl⟩⟩⟩⟩⟩:=h
  exact ⟨A2,c2,rfl,l2,g2⟩
theorem k46w_mk (w : World) (x : S46) {A2 : Option Addr} {c2 : Nat} (l2 : x.f2.length≤c2) (g2 : (Kd.int .i64).C w A2 x.f2.length x.f2∧TypedI w A2 x.f2.length) : k46w.K w x [.int .i64 x.f0,.int .i64 x.f1,.slice A2 x.f2.length c2,.int .i64 x.f3,.int .i64 x.f4,.int .i64 x.f5]:=⟨[.int .i64 x.f0],[.int .i64 x.f1,.slice A2 x.f2.length c2,.int .i64 x.f3,.int .i64 x.f4,.int .i64 x.f5],rfl,rfl,⟨[.int .i64 x.f1],[.slice A2 x.f2.length c2,.int .i64 x.f3,.int .i64 x.f4,.int .i64 x.f5],rfl,rfl,⟨[.slice A2 x.f2.length c2],[.int .i64 x.f3,.int .i64 x.f4,.int .i64 x.f5],rfl,⟨A2,c2,rfl,l2,g2⟩,⟨[.int .i64 x.f3],[.int .i64 x.f4,.int .i64 x.f5],rfl,rfl,⟨[.int .i64 x.f4],[.int .i64 x.f5],rfl,rfl,rfl⟩⟩⟩⟩⟩
theorem k46w_K {w : World} {x : S46} {cs : List Value} (h : k46w.K w x cs) : k46.K w x cs:=by
  obtain ⟨A2,c2,rfl,l2,g2,_⟩:=k46w_open h
  exact k46_mk w x l2 g2
theorem k46w_C {w : World} {A : Option Addr} {n : Nat} {xs : List S46} (h : Kd.C k46w w A n xs) : Kd.C k46 w A n xs:=by
  refine ⟨h.1,h.2.1,fun hn => ?_⟩
  obtain ⟨ad,e,hc⟩:=h.2.2 hn
  refine ⟨ad,e,fun j p hj => ?_⟩
  obtain ⟨c,h1,h2,h3⟩:=hc j p hj
  exact ⟨c,h1,k46w_K h2,h3⟩
theorem k46w_S {e base : Nat} {w : World} {ok : Nat→Prop} {v : Value} {xs : List S46} (h : Kd.S k46 e w base ok v xs) : Kd.S k46w e w base ok v xs:=h
end Go.Proofs.Ytbelnopbggkdfaa.Q
end

section
namespace Go.Proofs.Ytbelnopbggkdfaa
open Go.RowKit
theorem bcell {W w1 : World} (hb : Below W.heap.size W w1) : (∀ b o,b < W.heap.size→w1.cell? ⟨b,o,none⟩=W.cell? ⟨b,o,none⟩)∧(∀ b o,b < W.heap.size→w1.frozen? ⟨b,o,none⟩=W.frozen? ⟨b,o,none⟩) :=
  ⟨fun b o h => hb.cell (p:=⟨b,o,none⟩) h,fun b o h => hb.frozen (p:=⟨b,o,none⟩) h⟩
def Drawn (w w' : World) : Prop:=∃ n,w'=w.drewN n
theorem Drawn.refl (w : World) : Drawn w w:=⟨0,rfl⟩
theorem Drawn.drewN {w w' : World} {m : Nat} (h : Drawn w w') : Drawn w (w'.drewN m):=by
  obtain ⟨n,rfl⟩:=h
  exact ⟨n + m,by simp [World.drewN,Nat.add_assoc]⟩
theorem Drawn.cell {w w' : World} (h : Drawn w w') (a : Addr) : w'.cell? a=w.cell? a:=by
  obtain ⟨n,rfl⟩:=h
  rfl
theorem Drawn.below {w w' : World} (h : Drawn w w') : Below w.heap.size w w':=by
  obtain ⟨n,rfl⟩:=h
  exact below_drewN (Below.refl _ w) n
end Go.Proofs.Ytbelnopbggkdfaa
end

section
namespace Go.Proofs.Ytbelnopbggkdfaa.Q
open Go.RowKit Go.Proofs.YtbelnopbggkdfaaW.PrintWords Go.Proofs.YtbelnopbggkdfaaW.PrintLast Go.Proofs.YtbelnopbggkdfaaW.PrintMore
structure OpV where
  x0 : Int
  x1 : Int
  A : Option Addr
  n : Nat
  c : Nat
  x3 : Int
  x4 : Int
  x5 : Int
def OpV.cs (o : OpV) : List Value:=[.int .i64 o.x0,.int .i64 o.x1,.slice o.A o.n o.c,.int .i64 o.x3,.int .i64 o.x4,.int .i64 o.x5]
def putO (C : Array Value) (o : Nat) (v : OpV) : Array Value:=(((((C.setIfInBounds o (.int .i64 v.x0)).setIfInBounds (o + 1) (.int .i64 v.x1)).setIfInBounds (o + 2) (.slice v.A v.n v.c)).setIfInBounds (o + 3) (.int .i64 v.x3)).setIfInBounds (o + 4) (.int .i64 v.x4)).setIfInBounds (o + 5) (.int .i64 v.x5)
theorem putO_size (C : Array Value) (o : Nat) (v : OpV) : (putO C o v).size=C.size:=by simp [putO]
theorem putO_at {C : Array Value} {o : Nat} {v : OpV} (h : o + 6≤C.size) (k : Nat) : (putO C o v)[k]?=if o≤k∧k < o + 6 then v.cs[k - o]? else C[k]?:=by
  unfold putO
  simp only [Array.getElem?_setIfInBounds,Array.size_setIfInBounds]
  by_cases h1 : o≤k∧k < o + 6
  · rw [if_pos h1]
    obtain ⟨r,rfl⟩ : ∃ r,k=o + r:=⟨k - o,by omega⟩
    rw [Nat.add_sub_cancel_left]
    have hr : r < 6:=by omega
    rcases r with _|_|_|_|_|_|r
    · rw [if_neg (by omega),if_neg (by omega),if_neg (by omega),if_neg (by omega),if_neg (by omega),if_pos (by omega),if_pos (by omega)];rfl
    · rw [if_neg (by omega),if_neg (by omega),if_neg (by omega),if_neg (by omega),if_pos rfl,if_pos (by omega)];rfl
    · rw [if_neg (by omega),if_neg (by omega),if_neg (by omega),if_pos rfl,if_pos (by omega)];rfl
    · rw [if_neg (by omega),if_neg (by omega),if_pos rfl,if_pos (by omega)];rfl
    · rw [if_neg (by omega),if_pos rfl,if_pos (by omega)];rfl
    · rw [if_pos rfl,if_pos (by omega)];rfl
    · omega
  · rw [if_neg h1,if_neg (by omega),if_neg (by omega),if_neg (by omega),if_neg (by omega),if_neg (by omega),if_neg (by omega)]
structure RowO (V : World) (g : Nat) (os : List OpV) (W : World) : Prop where
  blk : ∃ C : Array Value,W.heap[g]?=some (.cells C 46 (0,0))∧os.length * 6≤C.size∧∀ (p : Nat) (o : OpV),os[p]?=some o→∀ r,r < 6→C[p * 6 + r]?=o.cs[r]?
  old : ∀ k,k < V.heap.size→k≠g→W.heap[k]?=V.heap[k]?
  size : V.heap.size≤W.heap.size
  keep : Below g V W
  bsz : ∀ C C' : Array Value,V.heap[g]?=some (.cells C 46 (0,0))→W.heap[g]?=some (.cells C' 46 (0,0))→C'.size=C.size
theorem RowO.cells {V W : World} {g : Nat} {os : List OpV} (h : RowO V g os W) {p : Nat} {o : OpV} (hp : os[p]?=some o) {r : Nat} (hr : r < 6) {u : Value} (hu : o.cs[r]?=some u) : W.cell? ⟨g,p * 6 + r,none⟩=some u∧W.frozen? ⟨g,p * 6 + r,none⟩=false:=by
  obtain ⟨C,h1,_,h3⟩:=h.blk
  exact ⟨by rw [blk_cell h1,h3 p o hp r hr,hu],blk_frozen h1 _⟩
theorem RowO.put {V W : World} {g : Nat} {os : List OpV} (h : RowO V g os W) {p : Nat} (hp : p < os.length) (v : OpV) :
    RowO V g (os.set p v) ((((((W.setCell ⟨g,p * 6,none⟩ (.int .i64 v.x0)).setCell ⟨g,p * 6 + 1,none⟩ (.int .i64 v.x1)).setCell ⟨g,p * 6 + 2,none⟩ (.slice v.A v.n v.c)).setCell ⟨g,p * 6 + 3,none⟩ (.int .i64 v.x3)).setCell ⟨g,p * 6 + 4,none⟩ (.int .i64 v.x4)).setCell ⟨g,p * 6 + 5,none⟩ (.int .i64 v.x5)):=by
  obtain ⟨C,h1,h2,h3⟩:=h.blk
  have hs : p * 6 + 6≤C.size:=by omega
  have hput : ((((((W.setCell ⟨g,p * 6,none⟩ (.int .i64 v.x0)).setCell ⟨g,p * 6 + 1,none⟩ (.int .i64 v.x1)).setCell ⟨g,p * 6 + 2,none⟩ (.slice v.A v.n v.c)).setCell ⟨g,p * 6 + 3,none⟩ (.int .i64 v.x3)).setCell ⟨g,p * 6 + 4,none⟩ (.int .i64 v.x4)).setCell ⟨g,p * 6 + 5,none⟩ (.int .i64 v.x5)).heap[g]?=some (.cells (putO C (p * 6) v) 46 (0,0)):=blk_put (blk_put (blk_put (blk_put (blk_put (blk_put h1 _ _ rfl) _ _ rfl) _ _ rfl) _ _ rfl) _ _ rfl) _ _ rfl
  refine ⟨⟨putO C (p * 6) v,hput,by rw [putO_size,List.length_set];exact h2,fun q o hq r hr => ?_⟩,fun k hkv hk => ?_,?_,?_,fun D D' hD hD' => ?_⟩
  · rw [putO_at hs]
    rw [List.getElem?_set] at hq
    by_cases e : p=q
    · subst e
      rw [if_pos rfl,if_pos hp] at hq
      obtain rfl:=Option.some.inj hq
      rw [if_pos (by omega),show p * 6 + r - p * 6=r by omega]
    · rw [if_neg e] at hq
      rw [if_neg (by omega)]
      exact h3 q o hq r hr
  · rw [Below.heap_setCell _ _ _ _ hk,Below.heap_setCell _ _ _ _ hk,Below.heap_setCell _ _ _ _ hk,Below.heap_setCell _ _ _ _ hk,Below.heap_setCell _ _ _ _ hk,Below.heap_setCell _ _ _ _ hk]
    exact h.old k hkv hk
  · simpa [World.setCell] using h.size
  · exact Below.setCell (Below.setCell (Below.setCell (Below.setCell (Below.setCell (Below.setCell h.keep (Nat.le_refl _) _) (Nat.le_refl _) _) (Nat.le_refl _) _) (Nat.le_refl _) _) (Nat.le_refl _) _) (Nat.le_refl _) _
  · have hz:=putO_size C (p * 6) v
    generalize putO C (p * 6) v=P at hput hz
    have h9:=hput.symm.trans hD'
    generalize ((((((W.setCell _ _).setCell _ _).setCell _ _).setCell _ _).setCell _ _).setCell _ _)=W9 at hput h9 hD'
    have h8 : Obj.cells P 46 (0,0)=Obj.cells D' 46 (0,0):=Option.some.inj h9
    injection h8 with e _ _
    rw [← e,hz]
    exact h.bsz D C hD h1
theorem RowO.drew {V W : World} {g : Nat} {os : List OpV} (h : RowO V g os W) : RowO V g os W.drew:=⟨h.blk,h.old,h.size,h.keep.drew,h.bsz⟩
theorem RowO.below {V W W' : World} {g : Nat} {os : List OpV} (h : RowO V g os W) (hb : Below W.heap.size W W') : RowO V g os W':=by
  obtain ⟨C,h1,h2,h3⟩:=h.blk
  refine ⟨⟨C,blk_below h1 hb,h2,h3⟩,fun k hk hne => (hb.block k (Nat.lt_of_lt_of_le hk h.size)).trans (h.old k hk hne),Nat.le_trans h.size hb.size,h.keep.trans (hb.mono (Nat.le_of_lt (blk_lt h1))),fun D D' hD hD' => ?_⟩
  rw [hb.block g (blk_lt h1)] at hD'
  exact h.bsz D D' hD hD'
def RevI (os : List OpV) (i : Nat) (os' : List OpV) : Prop:=os'.length=os.length∧∀ p,p < os.length→os'[p]?=if i≤p∧p + i < os.length then os[p]? else os[os.length - 1 - p]?
theorem RevI.step {os os' : List OpV} {i : Nat} {a b : OpV} (h : RevI os i os') (hi : i + i + 1 < os.length) (ha : os'[i]?=some a) (hb : os'[os.length - 1 - i]?=some b) : RevI os (i + 1) ((os'.set i b).set (os.length - 1 - i) a):=by
  refine ⟨by simpa using h.1,fun p hp => ?_⟩
  have h1:=h.2 i (by omega)
  rw [if_pos (by omega),ha] at h1
  have h2:=h.2 (os.length - 1 - i) (by omega)
  rw [if_pos (by omega),hb] at h2
  have hl:=h.1
  rw [List.getElem?_set,List.getElem?_set]
  by_cases e1 : os.length - 1 - i=p
  · subst e1
    rw [if_pos rfl,if_pos (by simp;omega),if_neg (by omega),h1]
    congr 1
    omega
  · rw [if_neg e1]
    by_cases e2 : i=p
    · subst e2
      rw [if_pos rfl,if_pos (by omega),if_neg (by omega),h2]
    · rw [if_neg e2,h.2 p hp]
      by_cases c : i≤p∧p + i < os.length
      · rw [if_pos c,if_pos (by omega)]
      · rw [if_neg c,if_neg (by omega)]
theorem RevI.done {os os' : List OpV} {i : Nat} (h : RevI os i os') (hi : os.length≤i + i + 1) : os'=os.reverse:=by
  refine List.ext_getElem? fun p => ?_
  by_cases hp : p < os.length
  · rw [h.2 p hp,List.getElem?_reverse hp]
    split
    · congr 1;omega
    · rfl
  · rw [List.getElem?_eq_none (by have:=h.1;omega),List.getElem?_eq_none (by simpa using hp)]
set_option maxHeartbeats 8000000 in
set_option maxRecDepth 1000000 in
theorem rev_any {W : World} {g : Nat} {os : List OpV} (c : Nat) (hl : os.length≤1000000) (h : RowO W g os W) :
    Calls Try.prog 44 #[.slice (some ⟨g,0,none⟩) os.length c] W fun e w' => e=.returned (.tuple #[])∧RowO W g os.reverse w':=by
  have hu46:=Try.underlying46
  have HS:=Aside0.mk h
  have hn : (os.length : Int)≤1000000:=by omega
  clear h hl
  go_enter Try.func44,Try.ntmps44
  go_wp2
  go_loopg [2,3] os.length (fun gk vi vj wr => ∃ (i : Nat) (os' : List OpV),vi=.int .i64 i∧vj=.int .i64 ((os.length : Int) - 1 - i)∧i≤os.length∧os.length - i≤gk∧Aside0 (RowO W g os' wr∧RevI os i os'))
  case atStart => exact ⟨0,os,rfl,by go_num,by omega,by omega,⟨HS.out,rfl,fun p hp => by rw [if_pos (by omega)]⟩⟩
  case round =>
    obtain ⟨i,os',rfl,rfl,him,hg1,HI⟩:=hrel
    by_cases hlt : i + i + 1 < os.length
    · obtain ⟨j,hj⟩ : ∃ j : Nat,j=os.length - 1 - i:=⟨_,rfl⟩
      have ej : (os.length : Int) - 1 - (i : Int)=(j : Int):=by omega
      have hl':=HI.out.2.1
      obtain ⟨a,ha⟩ : ∃ a,os'[i]?=some a:=⟨os'[i]'(by omega),List.getElem?_eq_getElem _⟩
      obtain ⟨b,hb⟩ : ∃ b,os'[j]?=some b:=⟨os'[j]'(by omega),List.getElem?_eq_getElem _⟩
      have hR:=HI.out.1
      obtain ⟨a0,a0f⟩:=hR.cells ha (r:=0) (by omega) rfl
      obtain ⟨a1,a1f⟩:=hR.cells ha (r:=1) (by omega) rfl
      obtain ⟨a2,a2f⟩:=hR.cells ha (r:=2) (by omega) rfl
      obtain ⟨a3,a3f⟩:=hR.cells ha (r:=3) (by omega) rfl
      obtain ⟨a4,a4f⟩:=hR.cells ha (r:=4) (by omega) rfl
      obtain ⟨a5,a5f⟩:=hR.cells ha (r:=5) (by omega) rfl
      obtain ⟨b0,b0f⟩:=hR.cells hb (r:=0) (by omega) rfl
      obtain ⟨b1,b1f⟩:=hR.cells hb (r:=1) (by omega) rfl
      obtain ⟨b2,b2f⟩:=hR.cells hb (r:=2) (by omega) rfl
      obtain ⟨b3,b3f⟩:=hR.cells hb (r:=3) (by omega) rfl
      obtain ⟨b4,b4f⟩:=hR.cells hb (r:=4) (by omega) rfl
      obtain ⟨b5,b5f⟩:=hR.cells hb (r:=5) (by omega) rfl
      have HST:=Aside0.mk (HI.out.2.step hlt ha (by rw [← hj];exact hb))
      rw [← hj] at HST
      have HSW:=Aside0.mk ((hR.put (p:=i) (by omega) b).put (p:=j) (by simp;omega) a)
      have hij : (i : Int) < (j : Int):=by omega
      have hjn : (j : Int) < (os.length : Int):=by omega
      rw [ej]
      clear hR ha hb hj
      simp only [Nat.add_zero] at a0 a0f b0 b0f
      go_wp2_with fail
      go_region
      all_goals go_wp2
      go_roundg (os.length - (i + 1))
      case measure => omega
      case rel => exact ⟨i + 1,_,by go_num,by first|(go_num;done)|(congr 1;omega),by omega,Nat.le_refl _,⟨HSW.out.drew,HST.out⟩⟩
    · have hlt2 : ¬ ((i : Int) < (os.length : Int) - 1 - (i : Int)):=by omega
      have HE:=Aside0.mk (HI.out.2.done (by omega))
      have HR:=Aside0.mk HI.out.1
      clear HI
      go_wp2
      go_end0
      exact ⟨rfl,by rw [← HE.out];exact HR.out⟩
end Go.Proofs.Ytbelnopbggkdfaa.Q
end

section
namespace Go.Proofs.Ytbelnopbggkdfaa.Q
open Go.RowKit Go.Proofs.YtbelnopbggkdfaaW.PrintWords Go.Proofs.YtbelnopbggkdfaaW.PrintLast Go.Proofs.YtbelnopbggkdfaaW.PrintMore
def ofV (x : S46) (A : Option Addr) (c : Nat) : OpV:=⟨x.f0,x.f1,A,x.f2.length,c,x.f3,x.f4,x.f5⟩
theorem N_rowO {W : World} {base g n cap : Nat} {ok : Nat→Prop} {s : List S46} (h : Kd.N k46w 46 W base ok (.slice (some ⟨g,0,none⟩) n cap) s) :
    n=s.length∧∃ os : List OpV,os.length=s.length∧RowO W g os W∧∀ (p : Nat) (x : S46) (o : OpV),s[p]?=some x→os[p]?=some o→(∃ A c,o=ofV x A c)∧Kd.FK k46w W (fun k => ok k∧k≠g) x o.cs:=by
  have hn:=(Kd.N_reads' h).1
  refine ⟨hn,?_⟩
  have h':=h
  obtain ⟨_,rows,hl,hR,_⟩:=h'
  obtain ⟨_,inner,hown,_⟩:=hR
  have key : ∀ p : Nat,p < s.length→∃ A c,(∀ j u,(ofV (rd_T46 s p) A c).cs[j]?=some u→W.cell? ⟨g,p * 6 + j,none⟩=some u)∧Kd.FK k46w W (fun k => ok k∧k≠g) (rd_T46 s p) (ofV (rd_T46 s p) A c).cs:=fun p hp => by
    obtain ⟨cs,hcl,hF,hcc,-⟩:=Kd.N_elem h z46 (p : Int) (by omega) (by omega)
    have hx : s.getD ((p : Int)).toNat z46=rd_T46 s p:=rfl
    rw [hx] at hF
    rw [Int.toNat_natCast] at hcc
    obtain ⟨A2,c2,rfl,_,_,_⟩:=k46w_open (Kd.FK_now hF)
    exact ⟨A2,c2,fun j u hu => hcc j u hu,hF⟩
  have key2 : ∀ p : Nat,∃ Ac : Option Addr × Nat,p < s.length→(∀ j u,(ofV (rd_T46 s p) Ac.1 Ac.2).cs[j]?=some u→W.cell? ⟨g,p * 6 + j,none⟩=some u)∧Kd.FK k46w W (fun k => ok k∧k≠g) (rd_T46 s p) (ofV (rd_T46 s p) Ac.1 Ac.2).cs:=fun p => by
    by_cases hp : p < s.length
    · obtain ⟨A,c,k1⟩:=key p hp
      exact ⟨(A,c),fun _ => k1⟩
    · exact ⟨(none,0),fun h => absurd h hp⟩
  let F : Nat→OpV:=fun p => ofV (rd_T46 s p) (key2 p).choose.1 (key2 p).choose.2
  have hFs : ∀ p,p < s.length→(∀ j u,(F p).cs[j]?=some u→W.cell? ⟨g,p * 6 + j,none⟩=some u)∧Kd.FK k46w W (fun k => ok k∧k≠g) (rd_T46 s p) (F p).cs:=fun p hp => (key2 p).choose_spec hp
  have hlen : ((List.range s.length).map F).length=s.length:=by simp
  refine ⟨(List.range s.length).map F,hlen,?_,fun p x o hx ho => ?_⟩
  · rcases hown with ⟨_,⟨e,_⟩ | ⟨g',cap',cur,e,_,hb,hnc,_,hsz,_⟩⟩
    · injection e with e1
      cases e1
    · injection e with e1 _ e3
      injection e1 with e1
      injection e1 with e1 _ _
      subst e1 e3
      refine ⟨⟨cur,hb,?_,fun p o hp r hr => ?_⟩,fun _ _ _ => rfl,Nat.le_refl _,Below.refl _ _,fun D D' h1 h2 => by rw [h1] at h2;injection h2 with h2;injection h2 with e _ _;rw [e]⟩
      · rw [hlen]

        have hsz' : cur.size=cap * 6:=hsz
        rw [hl] at hnc
        omega
      · have hps:=(List.getElem?_eq_some_iff.1 hp).1
        rw [hlen] at hps
        rw [List.getElem?_map,List.getElem?_range hps] at hp
        obtain rfl:=Option.some.inj hp
        obtain ⟨u,hu⟩ : ∃ u,(F p).cs[r]?=some u:=⟨_,List.getElem?_eq_getElem (show r < (F p).cs.length from hr)⟩
        have:=(hFs p hps).1 r u hu
        rw [blk_cell hb] at this
        rw [this,hu]
  · have hps:=(List.getElem?_eq_some_iff.1 hx).1
    rw [List.getElem?_map,List.getElem?_range hps] at ho
    obtain rfl:=Option.some.inj ho
    have hxx : rd_T46 s (p : Int)=x:=by
      simp [rd_T46,List.getD_eq_getElem?_getD,hx]
    have h2:=(hFs p hps).2
    refine ⟨⟨(key2 p).choose.1,(key2 p).choose.2,?_⟩,?_⟩
    · exact congrArg (fun y => ofV y (key2 p).choose.1 (key2 p).choose.2) hxx
    · rw [hxx] at h2
      exact h2
theorem FK_rowO {W W' : World} {g : Nat} {ok : Nat→Prop} {x : S46} {cs : List Value} (h : Kd.FK k46w W (fun k => ok k∧k≠g) x cs) (hs : W.heap.size≤W'.heap.size) (ho : ∀ k,k < W.heap.size→k≠g→W'.heap[k]?=W.heap[k]?) : Kd.FK k46w W' (fun k => ok k∧k≠g) x cs :=
  fun W2 hW => h W2 fun k hk hlt => (hW k hk (by omega)).trans (ho k hlt hk.2)
theorem rowO_N {W W' : World} {base g n cap : Nat} {ok : Nat→Prop} {s s' : List S46} {os' : List OpV} (h : Kd.N k46w 46 W base ok (.slice (some ⟨g,0,none⟩) n cap) s) (hR : RowO W g os' W') (hl : os'.length=s.length) (hl' : s'.length=s.length)
    (hF : ∀ (p : Nat) (x : S46) (o : OpV),s'[p]?=some x→os'[p]?=some o→Kd.FK k46w W' (fun k => ok k∧k≠g) x o.cs) : Kd.N k46w 46 W' base ok (.slice (some ⟨g,0,none⟩) n cap) s':=by
  have hn:=(Kd.N_reads' h).1
  obtain ⟨h0,rows,hrl,hRr,_⟩:=h
  obtain ⟨hr0,inner,hown,_⟩:=hRr
  obtain ⟨C',c1,c2,c3⟩:=hR.blk
  refine ⟨h0,os'.map OpV.cs,by rw [List.length_map];omega,⟨hr0,(C'.toList.take (n * 6)),?_,?_⟩,fun p x c hx hc => ?_⟩
  · rcases hown with ⟨hil,⟨e,_⟩ | ⟨g',cap',cur,e,hbase,hb,hnc,hcm,hcs,_⟩⟩
    · injection e with e1
      cases e1
    · injection e with e1 _ e3
      injection e1 with e1
      injection e1 with e1 _ _
      subst e1 e3
      have hcs' : cur.size=cap * 6:=hcs
      have hsz2:=hR.bsz cur C' hb c1
      have hln : (os'.map OpV.cs).length=n:=by rw [List.length_map];omega
      rw [hln]
      refine ⟨?_,.inr ⟨g,cap,C',rfl,hbase,c1,by omega,hcm,by show C'.size=cap * 6;omega,rfl⟩⟩
      rw [List.length_take,Array.length_toList]
      show min (n * 6) C'.size=n * 6
      rw [hrl] at hnc
      omega
  · have hC : n * 6≤C'.size:=by omega
    refine ⟨by rw [List.length_take,Array.length_toList,List.length_map];show min (n * 6) C'.size=os'.length * 6;omega,fun j v hv => ?_⟩
    rw [List.getElem?_map] at hv
    obtain ⟨o,ho,rfl⟩:=Option.map_eq_some_iff.1 hv
    have hj:=(List.getElem?_eq_some_iff.1 ho).1
    have e : ((C'.toList.take (n * 6)).drop (j * 6)).take 6=o.cs:=by
      refine List.ext_getElem? fun r => ?_
      by_cases hr : r < 6
      · rw [List.getElem?_take_of_lt hr,List.getElem?_drop,List.getElem?_take_of_lt (by omega),← c3 j o ho r hr,Array.getElem?_toList]
      · rw [List.getElem?_eq_none (by rw [List.length_take];omega),List.getElem?_eq_none (by show 6≤r;omega)]
    refine ⟨e,(congrArg List.length e).trans rfl,fun u hu0 => ?_⟩
    have hu : u ∈ o.cs:=by rw [← e];exact hu0
    unfold OpV.cs at hu
    simp only [List.mem_cons,List.not_mem_nil,or_false] at hu
    rcases hu with rfl|rfl|rfl|rfl|rfl|rfl <;> rfl
  · rw [List.getElem?_map] at hc
    obtain ⟨o,ho,rfl⟩:=Option.map_eq_some_iff.1 hc
    exact Kd.FK_mono (hF p x o hx ho) (fun k hk => ⟨hk.1,fun e => hk.2 (by injection e)⟩)
end Go.Proofs.Ytbelnopbggkdfaa.Q
end

section
namespace Go.Proofs.Ytbelnopbggkdfaa.Q
open Go.RowKit Go.Proofs.YtbelnopbggkdfaaW.PrintWords Go.Proofs.YtbelnopbggkdfaaW.PrintLast Go.Proofs.YtbelnopbggkdfaaW.PrintMore
theorem RowO.putc {V W : World} {g : Nat} {os : List OpV} (h : RowO V g os W) {p : Nat} {o v : OpV} (hp : os[p]?=some o) {r : Nat} (hr : r < 6) (u : Value) (hv : v.cs=o.cs.set r u) : RowO V g (os.set p v) (W.setCell ⟨g,p * 6 + r,none⟩ u):=by
  obtain ⟨C,h1,h2,h3⟩:=h.blk
  have hpl:=(List.getElem?_eq_some_iff.1 hp).1
  have hs : p * 6 + 6≤C.size:=by omega
  have hput : (W.setCell ⟨g,p * 6 + r,none⟩ u).heap[g]?=some (.cells (C.setIfInBounds (p * 6 + r) u) 46 (0,0)):=blk_put h1 _ _ rfl
  refine ⟨⟨_,hput,by rw [Array.size_setIfInBounds,List.length_set];exact h2,fun q o' hq r' hr' => ?_⟩,fun k hkv hk => ?_,?_,?_,fun D D' hD hD' => ?_⟩
  · rw [Array.getElem?_setIfInBounds]
    rw [List.getElem?_set] at hq
    by_cases e : p=q
    · subst e
      rw [if_pos rfl,if_pos hpl] at hq
      obtain rfl:=Option.some.inj hq
      rw [hv,List.getElem?_set]
      by_cases e2 : r=r'
      · subst e2
        rw [if_pos rfl,if_pos (by omega),if_pos rfl,if_pos (show r < o.cs.length from hr)]
      · rw [if_neg (by omega),if_neg e2]
        exact h3 p o hp r' hr'
    · rw [if_neg e] at hq
      rw [if_neg (by omega)]
      exact h3 q o' hq r' hr'
  · rw [Below.heap_setCell _ _ _ _ hk]
    exact h.old k hkv hk
  · simpa [World.setCell] using h.size
  · exact Below.setCell h.keep (Nat.le_refl _) _
  · have h9:=hput.symm.trans hD'
    have h8 : Obj.cells (C.setIfInBounds (p * 6 + r) u) 46 (0,0)=Obj.cells D' 46 (0,0):=Option.some.inj h9
    injection h8 with e _ _
    rw [← e,Array.size_setIfInBounds]
    exact h.bsz D C hD h1
def RowX (V : World) (g : Nat) (os : List OpV) (p : Nat) (o : OpV) (W : World) : Prop:=∃ z : Int,RowO V g (os.set p { o with x1:=z }) W
theorem RowX.of {V W : World} {g : Nat} {os : List OpV} (h : RowO V g os W) {p : Nat} {o : OpV} (hp : os[p]?=some o) : RowX V g os p o W:=by
  refine ⟨o.x1,?_⟩
  have hpl:=(List.getElem?_eq_some_iff.1 hp).1
  have e : os.set p { o with x1:=o.x1 }=os:=by
    refine List.ext_getElem? fun k => ?_
    rw [List.getElem?_set]
    by_cases e : p=k
    · subst e
      rw [if_pos rfl,if_pos hpl,hp]
    · rw [if_neg e]
  rw [e]
  exact h
theorem RowX.put {V W : World} {g : Nat} {os : List OpV} {p : Nat} {o : OpV} (h : RowX V g os p o W) (hp : p < os.length) (z : Int) : RowO V g (os.set p { o with x1:=z }) (W.setCell ⟨g,p * 6 + 1,none⟩ (.int .i64 z)):=by
  obtain ⟨y,h⟩:=h
  have:=h.putc (p:=p) (o:={ o with x1:=y }) (v:={ o with x1:=z }) (by rw [List.getElem?_set,if_pos rfl,if_pos hp]) (r:=1) (by omega) (.int .i64 z) rfl
  rwa [List.set_set] at this
theorem RowX.below {V W W' : World} {g : Nat} {os : List OpV} {p : Nat} {o : OpV} (h : RowX V g os p o W) (hb : Below W.heap.size W W') : RowX V g os p o W':=⟨h.choose,h.choose_spec.below hb⟩
def numAt (W : World) (a : Addr) : Int:=match W.cell? a with
  | some (.int _ z) => z
  | _ => 0
theorem RowX.cell {V W : World} {g : Nat} {os : List OpV} {p : Nat} {o : OpV} (h : RowX V g os p o W) (hp : p < os.length) : W.cell? ⟨g,p * 6 + 1,none⟩=some (.int .i64 (numAt W ⟨g,p * 6 + 1,none⟩))∧W.frozen? ⟨g,p * 6 + 1,none⟩=false:=by
  obtain ⟨y,h⟩:=h
  obtain ⟨h1,h2⟩:=h.cells (p:=p) (o:={ o with x1:=y }) (by rw [List.getElem?_set,if_pos rfl,if_pos hp]) (r:=1) (by omega) rfl
  refine ⟨?_,h2⟩
  unfold numAt
  rw [h1]
def mixO (f : OpV→OpV) (os : List OpV) (i : Nat) : List OpV:=(os.take i).map f ++ os.drop i
theorem mixO_zero (f : OpV→OpV) (os : List OpV) : mixO f os 0=os:=by simp [mixO]
theorem mixO_all (f : OpV→OpV) (os : List OpV) : mixO f os os.length=os.map f:=by simp [mixO]
theorem mixO_length (f : OpV→OpV) (os : List OpV) (i : Nat) : (mixO f os i).length=os.length:=by simp [mixO];omega
theorem mixO_at (f : OpV→OpV) (os : List OpV) (i : Nat) : (mixO f os i)[i]?=os[i]?:=by
  unfold mixO
  by_cases h : i≤os.length
  · rw [List.getElem?_append_right (by simp;omega),List.getElem?_drop]
    congr 1
    simp
    omega
  · rw [List.getElem?_eq_none (by simp;omega),List.getElem?_eq_none (by omega)]
theorem mixO_step {f : OpV→OpV} {os : List OpV} {i : Nat} {o : OpV} (h : os[i]?=some o) : (mixO f os i).set i (f o)=mixO f os (i + 1):=by
  obtain ⟨hi,rfl⟩:=List.getElem?_eq_some_iff.1 h
  unfold mixO
  rw [List.set_append_right _ _ (by simp;omega),List.take_succ_eq_append_getElem hi,List.map_append,List.append_assoc]
  congr 1
  rw [List.length_map,List.length_take,Nat.min_eq_left (by omega),Nat.sub_self,List.drop_eq_getElem_cons hi]
  rfl
theorem below_cell {w w' : World} (hb : Below w.heap.size w w') {a : Addr} {v : Value} (h : w.cell? a=some v) : w'.cell? a=some v:=by
  have hlt : a.block < w.heap.size:=by
    unfold World.cell? at h
    by_cases hh : a.block < w.heap.size
    · exact hh
    · have hn : w.heap[a.block]?=none:=Array.getElem?_eq_none (by omega)
      simp [hn] at h
  rw [hb.cell hlt]
  exact h
theorem cell_far {w : World} {g k : Nat} {o r : Nat} {u v : Value} (hk : k≠g) (h : w.cell? ⟨k,r,none⟩=some v) : (w.setCell ⟨g,o,none⟩ u).cell? ⟨k,r,none⟩=some v:=by
  rw [World.cell?_of_block (w:=w) (Below.heap_setCell _ _ _ _ hk)]
  exact h
theorem FK_same {W : World} {ok : Nat→Prop} {x x' : S46} {A : Option Addr} {c : Nat} (h : Kd.FK k46w W ok x (ofV x A c).cs) (e : x'.f2=x.f2) : Kd.FK k46w W ok x' (ofV x' A c).cs:=fun W2 hW => by
  obtain ⟨A2,c2,e2,l2,g2⟩:=k46w_open (h W2 hW)
  unfold OpV.cs ofV at e2
  injection e2 with _ e2
  injection e2 with _ e2
  injection e2 with e3 _
  injection e3 with e4 _ e5
  dsimp only at e4 e5
  subst e4 e5
  exact k46w_mk W2 x' (by rw [e];exact l2) (by rw [e];exact g2)
end Go.Proofs.Ytbelnopbggkdfaa.Q
end

section
namespace Go.Proofs.Ytbelnopbggkdfaa
open Go.RowKit
def IsL (w : World) (a : Option Addr) (zs : List Int) : Prop:=zs.length≤maxLen∧(zs=[]∨∃ b off,a=some ⟨b,off,none⟩∧∀ i,i < zs.length→w.cell? ⟨b,off + i,none⟩=some (.int .i64 (zs.getD i 0)))
theorem IsL.take {w : World} {a : Option Addr} {zs : List Int} (h : IsL w a zs) (n : Nat) : IsL w a (zs.take n):=by
  obtain ⟨h1,h2⟩:=h
  refine ⟨Nat.le_trans (List.length_take_le' n zs) h1,?_⟩
  rcases h2 with rfl | ⟨b,off,rfl,hc⟩
  · exact .inl (by simp)
  · refine .inr ⟨b,off,rfl,fun i hi => ?_⟩
    have hi' : i < zs.length:=by rw [List.length_take] at hi;omega
    rw [hc i hi']
    congr 2
    rw [List.length_take] at hi
    rw [List.getD_eq_getElem?_getD,List.getD_eq_getElem?_getD,List.getElem?_take,if_pos (by omega)]
def idxF (zs : List Int) (v : Int) : Int :=
  match zs.findIdx? (· == v) with
  | some i => (i : Nat)
  | none => -1
theorem idxF_hit {zs : List Int} {v : Int} {k : Nat} (hk : k < zs.length) (hv : zs.getD k 0=v) (hn : ∀ j,j < k→zs.getD j 0≠v) : idxF zs v=k:=by
  have : zs.findIdx? (· == v)=some k:=by
    rw [List.findIdx?_eq_some_iff_getElem]
    refine ⟨hk,?_,fun j hj => ?_⟩
    · rw [List.getD_eq_getElem?_getD,List.getElem?_eq_getElem hk] at hv
      simpa using hv
    · have:=hn j hj
      rw [List.getD_eq_getElem?_getD,List.getElem?_eq_getElem (by omega)] at this
      simpa using this
  unfold idxF;rw [this]
theorem idxF_miss {zs : List Int} {v : Int} (hn : ∀ j,j < zs.length→zs.getD j 0≠v) : idxF zs v=-1:=by
  have : zs.findIdx? (· == v)=none:=by
    rw [List.findIdx?_eq_none_iff]
    intro x hx
    obtain ⟨j,hj,rfl⟩:=List.mem_iff_getElem.1 hx
    have:=hn j hj
    rw [List.getD_eq_getElem?_getD,List.getElem?_eq_getElem hj] at this
    simpa using this
  unfold idxF;rw [this]
theorem idxF_ge {zs : List Int} {v : Int} : decide (0≤idxF zs v)=zs.contains v:=by
  rw [Bool.eq_iff_iff,decide_eq_true_iff,List.contains_iff_mem]
  unfold idxF
  constructor
  · intro h
    split at h
    · rename_i i hi
      obtain ⟨h1,h2,_⟩:=List.findIdx?_eq_some_iff_getElem.1 hi
      have : zs[i]=v:=by simpa using h2
      rw [← this];exact List.getElem_mem h1
    · omega
  · intro h
    split
    · omega
    · rename_i hn
      rw [List.findIdx?_eq_none_iff] at hn
      have:=hn v h
      simp at this
theorem index_any (a : Option Addr) (cap : Nat) (zs : List Int) (v : Int) (w : World) (h : IsL w a zs) :
    Calls Try.prog 101 #[.slice a zs.length cap,.int .i64 v] w fun e w' => e=.returned (.int .i64 (idxF zs v))∧w=w':=by
  obtain ⟨hm,h⟩:=h
  unfold maxLen at hm
  rcases h with rfl | ⟨b,off,rfl,hc⟩
  · have HI : Hid (idxF [] v=-1):=Lib.hid (idxF_miss fun j hj => by simp at hj)
    go_enter Try.func101,Try.ntmps101
    go_wp2
    go_loop [8] (fun i => i=.int .i64 0) (fun _ => 0)
    case atStart => rfl
    case round =>
      subst hrel
      go_wp2
      go_ret
      exact ⟨by rw [HI.out];rfl,rfl⟩
  · generalize hn : zs.length=n at hm
    have HC:=Lib.hid hc
    clear hc
    go_enter Try.func101,Try.ntmps101
    go_wp2
    go_loop [5,8] (fun _ i => ∃ k : Nat,k≤n∧i=.int .i64 k∧Hid (∀ j,j < k→zs.getD j 0≠v)) (fun _ i => n - (intOf i).toNat)
    case atStart => exact ⟨0,Nat.zero_le _,rfl,Lib.hid fun j hj => by omega⟩
    case round =>
      obtain ⟨k,hk,rfl,HN⟩:=hrel
      by_cases hlt : k < n
      · have hcell : w.cell? ⟨b,off + k,none⟩=some (.int .i64 (zs.getD k 0)):=HC.out k (by omega)
        obtain ⟨z,hz⟩ : ∃ z,zs.getD k 0=z:=⟨_,rfl⟩
        rw [hz] at hcell
        have HZ:=Lib.hid hz
        clear hz
        by_cases hv : z=v
        · have HI:=Lib.hid (idxF_hit (zs:=zs) (v:=v) (k:=k) (by omega) (HZ.out.trans hv) HN.out)
          subst hv
          clear HN HZ
          go_wp2
          go_ret
          exact ⟨by rw [HI.out];rfl,rfl⟩
        · have HN' : Hid (∀ j,j < k + 1→zs.getD j 0≠v):=Lib.hid fun j hj => by
            rcases Nat.lt_succ_iff_lt_or_eq.1 hj with h|h
            · exact HN.out j h
            · rw [h,HZ.out];exact hv
          have hv' : (v == z)=false:=by
            rw [beq_eq_false_iff_ne];exact Ne.symm hv
          clear hv HN HZ
          go_wp2
          go_round
          case rel => exact ⟨k + 1,by omega,by go_num,HN'⟩
          case measure => simp [intOf];omega
      · have HI : Hid (idxF zs v=-1):=Lib.hid (idxF_miss fun j hj => HN.out j (by omega))
        clear HN
        go_wp2
        go_ret
        exact ⟨by rw [HI.out];rfl,rfl⟩
theorem contains_any (a : Option Addr) (cap : Nat) (zs : List Int) (v : Int) (w : World) (h : IsL w a zs) :
    Calls Try.prog 98 #[.slice a zs.length cap,.int .i64 v] w fun e w' => e=.returned (.bool (zs.contains v))∧w=w':=by
  have H:=Lib.hid (idxF_ge (zs:=zs) (v:=v))
  go_enter Try.func98,Try.ntmps98
  go_wp2_with (go_at_call 101;refine (index_any _ _ _ _ _ h).mono ?_;rintro e w' ⟨rfl,rfl⟩)
  go_ret
  exact ⟨by rw [← H.out];rfl,rfl⟩
end Go.Proofs.Ytbelnopbggkdfaa
end

section
namespace Go.Proofs.Ytbelnopbggkdfaa
open Go.RowKit Go.Proofs.YtbelnopbggkdfaaW.PrintWords Go.Proofs.YtbelnopbggkdfaaW.PrintLast Go.Proofs.YtbelnopbggkdfaaW.PrintMore
def tabC : Array Value:=#[.string ⟨#[]⟩,.int .i64 0,.int .i64 0,.int .i64 0,.string ⟨#[105,100]⟩,.int .i64 1,.int .i64 0,.int .i64 1,.string ⟨#[120]⟩,.int .i64 1,.int .i64 0,.int .i64 2,.string ⟨#[121]⟩,.int .i64 1,.int .i64 0,.int .i64 3,.string ⟨#[122]⟩,.int .i64 1,.int .i64 0,.int .i64 4,.string ⟨#[115]⟩,.int .i64 1,.int .i64 0,.int .i64 6,.string ⟨#[115,100,103]⟩,.int .i64 1,.int .i64 0,.int .i64 5,.string ⟨#[115,120]⟩,.int .i64 1,.int .i64 0,.int .i64 8,.string ⟨#[115,120,100,103]⟩,.int .i64 1,.int .i64 0,.int .i64 7,.string ⟨#[115,121]⟩,.int .i64 1,.int .i64 0,.int .i64 10,.string ⟨#[115,121,100,103]⟩,.int .i64 1,.int .i64 0,.int .i64 9,.string ⟨#[99,120]⟩,.int .i64 2,.int .i64 1,.int .i64 11,.string ⟨#[99,121]⟩,.int .i64 2,.int .i64 1,.int .i64 12,.string ⟨#[99,122]⟩,.int .i64 2,.int .i64 0,.int .i64 13,.string ⟨#[115,119,97,112]⟩,.int .i64 2,.int .i64 0,.int .i64 14,.string ⟨#[105,115,119,97,112]⟩,.int .i64 2,.int .i64 0,.int .i64 16,.string ⟨#[105,115,119,97,112,100,103]⟩,.int .i64 2,.int .i64 0,.int .i64 15,.string ⟨#[104,104]⟩,.int .i64 2,.int .i64 0,.int .i64 17,.string ⟨#[99,99,120]⟩,.int .i64 3,.int .i64 2,.int .i64 18,.string ⟨#[99,99,122]⟩,.int .i64 3,.int .i64 0,.int .i64 19,.string ⟨#[99,115,119,97,112]⟩,.int .i64 3,.int .i64 1,.int .i64 20]
theorem blk_setCells {g : Nat} {t : TypeId} : ∀ (vs : List Value) (pre post : List Value) (w : World),w.heap[g]?=some (.cells (pre ++ post).toArray t (0,0))→vs.length=post.length→(w.setCells g pre.length vs).heap[g]?=some (.cells (pre ++ vs).toArray t (0,0))
  | [],pre,post,w,h,hl => by
    obtain rfl:=List.length_eq_zero_iff.1 hl.symm
    exact h
  | v :: vs,pre,post,w,h,hl => by
    obtain ⟨p,post',rfl⟩ : ∃ p post',post=p :: post':=by
      cases post with
      | nil => cases hl
      | cons p post' => exact ⟨p,post',rfl⟩
    have h1:=blk_put h pre.length v rfl
    rw [List.setIfInBounds_toArray,List.set_append_right _ _ (Nat.le_refl _),Nat.sub_self,List.set_cons_zero] at h1
    have h2:=blk_setCells (t:=t) vs (pre ++ [v]) post' (w.setCell ⟨g,pre.length,none⟩ v) (by simpa using h1) (by simpa using hl)
    simpa [World.setCells] using h2
theorem below_setCells {w : World} {g : Nat} (hg : w.heap.size≤g) : ∀ (vs : List Value) (o : Nat) (W : World),Below w.heap.size w W→Below w.heap.size w (W.setCells g o vs)
  | [],_,_,h => h
  | _ :: vs,o,_,h => below_setCells hg vs (o + 1) _ (below_set h hg)
set_option maxHeartbeats 4000000 in
set_option maxRecDepth 1000000 in
theorem table_any (w : World) : Calls Try.prog 91 #[] w fun e w' => e=.returned (.agg tabC)∧Below w.heap.size w w':=by
  go_enter Try.func91,Try.ntmps91
  have b0:=blk_new w (.cells Try.zeroCells101 101)
  have hz : Try.zeroCells101.size=84:=by kernel_rfl
  have ht : (w.alloc (.cells Try.zeroCells101 101)).there w.heap.size 0 84:=fun j hj => by
    rw [blk_cell b0,Nat.zero_add,Array.getElem?_eq_getElem (by omega)]
    exact ⟨rfl,blk_frozen b0 j⟩
  have hb:=below_alloc (Below.refl w.heap.size w) (.cells Try.zeroCells101 101)
  have BB:=Aside0.mk (below_setCells (Nat.le_refl _) tabC.toList 0 _ hb)
  have PP:=Aside0.mk (show ((w.alloc (.cells Try.zeroCells101 101)).setCells w.heap.size 0 tabC.toList).heap[w.heap.size]?=some (.cells tabC 101 (0,0)) by
    have:=blk_setCells (g:=w.heap.size) (t:=101) tabC.toList [] Try.zeroCells101.toList (w.alloc (.cells Try.zeroCells101 101)) (by simpa using b0) (by rw [Array.length_toList,Array.length_toList,hz];kernel_rfl)
    simpa using this)
  have TT:=Aside0.mk ht
  clear ht hb b0 hz
  go_wp2_with ((with_reducible refine gate_store (t:=101) (p:=0) (v:=.tmp 21) rfl ?_);refine wpList_store_mid rfl 101 (.tmp 0) (.tmp 21) rfl w.heap.size 0 tabC rfl ?_ TT.out (by kernel_rfl) (by kernel_rfl) ?_;(kernel_rfl);generalize World.setCells _ _ _ _=w2 at BB PP ⊢)
  refine bodyPost_ret (results_cell_row rfl _ _ w.heap.size 101 tabC (0,0) _ rfl PP.out Try.underlying101 rfl (by kernel_rfl)) rfl ?_
  exact ⟨rfl,BB.out⟩
end Go.Proofs.Ytbelnopbggkdfaa
end

section
namespace Go.Proofs.Ytbelnopbggkdfaa.Lift
open Go.RowKit Go.Proofs.YtbelnopbggkdfaaW.PrintWords Go.Proofs.YtbelnopbggkdfaaW.PrintLast Go.Proofs.YtbelnopbggkdfaaW.PrintMore
def pick {α : Type} (vals : List α) (out : α) (k : Int) : α:=if 1≤k∧k≤20 then vals.getD (k - 1).toNat out else out
def arityL : List Int:=[1,1,1,1,1,1,1,1,1,1,2,2,2,2,2,2,2,3,3,3]
def inverseL : List Int:=[1,2,3,4,6,5,8,7,10,9,11,12,13,14,16,15,17,18,19,20]
def arityF (k : Int) : Int:=pick arityL 0 k
def inverseF (k : Int) : Int:=pick inverseL 0 k
def isF (k : Int) : Bool:=pick (List.replicate 20 true) false k
theorem pick_out {α : Type} {vals : List α} {out : α} {k : Int} (h : k < 1∨20 < k) : pick vals out k=out:=if_neg (by omega)
def ofQ (a i : Int) (W : World) (e : Ending) (w' : World) : Prop:=∃ nm ct,e=.returned (.agg #[.string nm,.int .i64 a,ct,.int .i64 i])∧Below W.heap.size W w'
set_option maxHeartbeats 4000000 in
set_option maxRecDepth 1000000 in
theorem of_out {k : Int} (h : k < 1∨20 < k) (w : World) : Calls Try.prog 78 #[.int .i64 k] w (ofQ 0 0 w):=by
  have b0:=blk_new w (.cells #[.string ByteArray.empty,.int .i64 0,.int .i64 0,.int .i64 0] 88)
  have bb:=below_alloc (Below.refl w.heap.size w) (.cells #[.string ByteArray.empty,.int .i64 0,.int .i64 0,.int .i64 0] 88)
  have B0:=Aside0.mk b0
  have BB:=Aside0.mk bb
  clear b0 bb
  by_cases h1 : k < 1
  · have d1 : decide (k < 1)=true:=decide_eq_true h1
    clear h
    go_enter Try.func78,Try.ntmps78
    go_wp2
    refine bodyPost_ret (results_cell_row rfl _ _ w.heap.size 88 #[.string ByteArray.empty,.int .i64 0,.int .i64 0,.int .i64 0] (0,0) _ rfl B0.out Try.underlying88 rfl (by kernel_rfl)) rfl ?_
    exact ⟨_,_,rfl,BB.out⟩
  · have d1 : decide (k < 1)=false:=decide_eq_false h1
    have d2 : decide (20 < k)=true:=decide_eq_true (by omega)
    clear h
    go_enter Try.func78,Try.ntmps78
    go_wp2
    refine bodyPost_ret (results_cell_row rfl _ _ w.heap.size 88 #[.string ByteArray.empty,.int .i64 0,.int .i64 0,.int .i64 0] (0,0) _ rfl B0.out Try.underlying88 rfl (by kernel_rfl)) rfl ?_
    exact ⟨_,_,rfl,BB.out⟩
set_option maxHeartbeats 4000000 in
set_option maxRecDepth 1000000 in
theorem of_one {k a c i : Int} {nm : ByteArray} (h1 : decide (k < 1)=false) (h2 : decide (20 < k)=false) (IX : ∀ w2,Sem.run Try.prog (Instr.index 101 (Value.agg tabC) (Value.int .i64 k)) w2=.ok (.agg #[.string nm,.int .i64 a,.int .i64 c,.int .i64 i]) w2) (w : World) : Calls Try.prog 78 #[.int .i64 k] w (ofQ a i w):=by
  have b0:=blk_new w (.cells #[.string ByteArray.empty,.int .i64 0,.int .i64 0,.int .i64 0] 88)
  have bb:=below_alloc (Below.refl w.heap.size w) (.cells #[.string ByteArray.empty,.int .i64 0,.int .i64 0,.int .i64 0] 88)
  have B0:=Aside0.mk b0
  have BB:=Aside0.mk bb
  have GE:=Aside0.mk (Nat.le_refl w.heap.size)
  clear bb b0
  go_enter Try.func78,Try.ntmps78
  go_upto_region 3 with fail
  have y0 : (w.alloc (.cells #[.string ByteArray.empty,.int .i64 0,.int .i64 0,.int .i64 0] 88)).heap[w.heap.size]?=some (.cells #[.string ByteArray.empty,.int .i64 0,.int .i64 0,.int .i64 0] 88 (0,0)):=B0.out
  change Code.wp _ _ _ _ (w.alloc (.cells #[.string ByteArray.empty,.int .i64 0,.int .i64 0,.int .i64 0] 88))
  generalize w.alloc (.cells #[.string ByteArray.empty,.int .i64 0,.int .i64 0,.int .i64 0] 88)=w1 at y0 BB ⊢
  generalize hg : w.heap.size=g at y0 ⊢
  have GG:=Aside0.mk hg
  clear B0 hg
  go_wp2_with (go_at_call 91;(with_reducible refine (table_any _).mono ?_);rintro e w2 ⟨rfl,hb2⟩;have y1:=blk_below y0 hb2;have z0 : w2.cell? ⟨g,0,none⟩=some (.string ByteArray.empty):=(by rw [blk_cell y1];rfl);have z1 : w2.cell? ⟨g,1,none⟩=some (.int .i64 0):=(by rw [blk_cell y1];rfl);have z2 : w2.cell? ⟨g,2,none⟩=some (.int .i64 0):=(by rw [blk_cell y1];rfl);have z3 : w2.cell? ⟨g,3,none⟩=some (.int .i64 0):=(by rw [blk_cell y1];rfl);have u0:=blk_frozen y1 0;have u1:=blk_frozen y1 1;have u2:=blk_frozen y1 2;have u3:=blk_frozen y1 3;have Y1:=Aside0.mk y1;clear y1 y0)
  have ge : w.heap.size≤g:=Nat.le_of_eq GG.out
  refine bodyPost_ret (results_cell_row rfl _ _ g 88 #[.string nm,.int .i64 a,.int .i64 c,.int .i64 i] (0,0) _ rfl (blk_put (blk_put (blk_put (blk_put Y1.out 0 _ rfl) 1 _ rfl) 2 _ rfl) 3 _ rfl) Try.underlying88 rfl (by kernel_rfl)) rfl ?_
  exact ⟨_,_,rfl,below_set (below_set (below_set (below_set (below_step BB.out hb2) ge) ge) ge) ge⟩
theorem of_in : ∀ k : Nat,k < 20→∀ w,Calls Try.prog 78 #[.int .i64 ((k + 1 : Nat) : Int)] w (ofQ (arityL.getD k 0) (inverseL.getD k 0) w)
  | 0,_,w => of_one (c:=0) (nm:=⟨#[105,100]⟩) rfl rfl (fun _ => by kernel_rfl) w
  | 1,_,w => of_one (c:=0) (nm:=⟨#[120]⟩) rfl rfl (fun _ => by kernel_rfl) w
  | 2,_,w => of_one (c:=0) (nm:=⟨#[121]⟩) rfl rfl (fun _ => by kernel_rfl) w
  | 3,_,w => of_one (c:=0) (nm:=⟨#[122]⟩) rfl rfl (fun _ => by kernel_rfl) w
  | 4,_,w => of_one (c:=0) (nm:=⟨#[115]⟩) rfl rfl (fun _ => by kernel_rfl) w
  | 5,_,w => of_one (c:=0) (nm:=⟨#[115,100,103]⟩) rfl rfl (fun _ => by kernel_rfl) w
  | 6,_,w => of_one (c:=0) (nm:=⟨#[115,120]⟩) rfl rfl (fun _ => by kernel_rfl) w
  | 7,_,w => of_one (c:=0) (nm:=⟨#[115,120,100,103]⟩) rfl rfl (fun _ => by kernel_rfl) w
  | 8,_,w => of_one (c:=0) (nm:=⟨#[115,121]⟩) rfl rfl (fun _ => by kernel_rfl) w
  | 9,_,w => of_one (c:=0) (nm:=⟨#[115,121,100,103]⟩) rfl rfl (fun _ => by kernel_rfl) w
  | 10,_,w => of_one (c:=1) (nm:=⟨#[99,120]⟩) rfl rfl (fun _ => by kernel_rfl) w
  | 11,_,w => of_one (c:=1) (nm:=⟨#[99,121]⟩) rfl rfl (fun _ => by kernel_rfl) w
  | 12,_,w => of_one (c:=0) (nm:=⟨#[99,122]⟩) rfl rfl (fun _ => by kernel_rfl) w
  | 13,_,w => of_one (c:=0) (nm:=⟨#[115,119,97,112]⟩) rfl rfl (fun _ => by kernel_rfl) w
  | 14,_,w => of_one (c:=0) (nm:=⟨#[105,115,119,97,112]⟩) rfl rfl (fun _ => by kernel_rfl) w
  | 15,_,w => of_one (c:=0) (nm:=⟨#[105,115,119,97,112,100,103]⟩) rfl rfl (fun _ => by kernel_rfl) w
  | 16,_,w => of_one (c:=0) (nm:=⟨#[104,104]⟩) rfl rfl (fun _ => by kernel_rfl) w
  | 17,_,w => of_one (c:=2) (nm:=⟨#[99,99,120]⟩) rfl rfl (fun _ => by kernel_rfl) w
  | 18,_,w => of_one (c:=0) (nm:=⟨#[99,99,122]⟩) rfl rfl (fun _ => by kernel_rfl) w
  | 19,_,w => of_one (c:=1) (nm:=⟨#[99,115,119,97,112]⟩) rfl rfl (fun _ => by kernel_rfl) w
  | k + 20,h,_ => absurd h (by omega)
theorem of_any (k : Int) (w : World) : Calls Try.prog 78 #[.int .i64 k] w (ofQ (arityF k) (inverseF k) w):=by
  by_cases h : k < 1∨20 < k
  · rw [show arityF k=0 from pick_out h,show inverseF k=0 from pick_out h]
    exact of_out h w
  · obtain ⟨i,rfl⟩ : ∃ i : Nat,k=((i + 1 : Nat) : Int):=⟨(k - 1).toNat,by omega⟩
    have e1 : arityF ((i + 1 : Nat) : Int)=arityL.getD i 0:=by
      unfold arityF pick
      rw [if_pos (by omega),show (((i + 1 : Nat) : Int) - 1).toNat=i by omega]
    have e2 : inverseF ((i + 1 : Nat) : Int)=inverseL.getD i 0:=by
      unfold inverseF pick
      rw [if_pos (by omega),show (((i + 1 : Nat) : Int) - 1).toNat=i by omega]
    rw [e1,e2]
    exact of_in i (by omega) w
theorem row_field1 (nm : ByteArray) (a i : Int) (ct : Value) (w : World) : (Instr.field 88 (.agg #[.string nm,.int .i64 a,ct,.int .i64 i]) 1).run Try.prog w=.ok (.int .i64 a) w:=by kernel_rfl
theorem row_field3 (nm : ByteArray) (a i : Int) (ct : Value) (w : World) : (Instr.field 88 (.agg #[.string nm,.int .i64 a,ct,.int .i64 i]) 3).run Try.prog w=.ok (.int .i64 i) w:=by kernel_rfl
set_option maxRecDepth 100000 in
theorem arity_any (k : Int) (_ : (Lit.int .i64 k).wf=true) (w : World) : Calls Try.prog 100 #[.int .i64 k] w fun e w' => e=.returned (.int .i64 (arityF k))∧Below w.heap.size w w':=by
  have O:=Aside0.mk (of_any k w)
  generalize arityF k=a at O ⊢
  generalize inverseF k=i at O
  have fd:=row_field1
  go_enter Try.func100,Try.ntmps100
  go_wp2_with (go_at_call 78;(with_reducible refine O.out.mono ?_);rintro e w2 ⟨nm,ct,rfl,hb2⟩)
  go_ret
  exact ⟨rfl,hb2⟩
set_option maxRecDepth 100000 in
theorem inverse_any (k : Int) (_ : (Lit.int .i64 k).wf=true) (w : World) : Calls Try.prog 45 #[.int .i64 k] w fun e w' => e=.returned (.int .i64 (inverseF k))∧Below w.heap.size w w':=by
  have O:=Aside0.mk (of_any k w)
  generalize arityF k=a at O
  generalize inverseF k=i at O ⊢
  have fd:=row_field3
  go_enter Try.func45,Try.ntmps45
  go_wp2_with (go_at_call 78;(with_reducible refine O.out.mono ?_);rintro e w2 ⟨nm,ct,rfl,hb2⟩)
  go_ret
  exact ⟨rfl,hb2⟩
set_option maxRecDepth 100000 in
theorem is_any (k : Int) (_ : (Lit.int .i64 k).wf=true) (w : World) : Calls Try.prog 79 #[.int .i64 k] w fun e w' => e=.returned (.bool (isF k))∧Below w.heap.size w w':=by
  by_cases h1 : 1≤k
  · by_cases h2 : k≤20
    · have e : isF k=true:=by
        unfold isF pick
        rw [if_pos ⟨h1,h2⟩,List.getD_eq_getElem?_getD,List.getElem?_replicate,if_pos (by omega)]
        rfl
      rw [e]
      clear e
      go_enter Try.func79,Try.ntmps79
      go_wp2
      go_ret
      exact ⟨by simp,Below.refl _ _⟩
    · have e : isF k=false:=pick_out (by omega)
      rw [e]
      clear e
      go_enter Try.func79,Try.ntmps79
      go_wp2
      go_ret
      exact ⟨by simp,Below.refl _ _⟩
  · have e : isF k=false:=pick_out (by omega)
    rw [e]
    clear e
    go_enter Try.func79,Try.ntmps79
    go_wp2
    go_ret
    exact ⟨by simp,Below.refl _ _⟩
theorem arity_r (k : Int) : arityF k=if isF k=true then (if k≤10 then 1 else if k≤17 then 2 else 3) else 0:=by
  by_cases h : k < 1∨20 < k
  · rw [show arityF k=0 from pick_out h,show isF k=false from pick_out h];rfl
  · obtain ⟨i,rfl⟩ : ∃ i : Nat,k=((i + 1 : Nat) : Int):=⟨(k - 1).toNat,by omega⟩
    have hi : i < 20:=by omega
    exact (by decide : ∀ i,i < 20→arityF ((i + 1 : Nat) : Int)=if isF ((i + 1 : Nat) : Int)=true then (if ((i + 1 : Nat) : Int)≤10 then 1 else if ((i + 1 : Nat) : Int)≤17 then 2 else 3) else 0) i hi
set_option maxRecDepth 100000 in
theorem rarity_any (k : Int) (hk : (Lit.int .i64 k).wf=true) (w : World) : Calls Try.prog 53 #[.int .i64 k] w fun e w' => e=.returned (.int .i64 (arityF k))∧Below w.heap.size w w':=by
  have O:=Aside0.mk (is_any k hk w)
  rw [arity_r]
  generalize isF k=s at O ⊢
  cases s
  · rw [if_neg (by decide)]
    go_enter Try.func53,Try.ntmps53
    go_wp2_with (go_at_call 79;(with_reducible refine O.out.mono ?_);rintro e w2 ⟨rfl,hb2⟩)
    go_ret
    exact ⟨rfl,hb2⟩
  · rw [if_pos rfl]
    by_cases h1 : k≤10
    · rw [if_pos h1]
      go_enter Try.func53,Try.ntmps53
      go_wp2_with (go_at_call 79;(with_reducible refine O.out.mono ?_);rintro e w2 ⟨rfl,hb2⟩)
      go_ret
      exact ⟨rfl,hb2⟩
    · rw [if_neg h1]
      by_cases h2 : k≤17
      · rw [if_pos h2]
        go_enter Try.func53,Try.ntmps53
        go_wp2_with (go_at_call 79;(with_reducible refine O.out.mono ?_);rintro e w2 ⟨rfl,hb2⟩)
        go_ret
        exact ⟨rfl,hb2⟩
      · rw [if_neg h2]
        go_enter Try.func53,Try.ntmps53
        go_wp2_with (go_at_call 79;(with_reducible refine O.out.mono ?_);rintro e w2 ⟨rfl,hb2⟩)
        go_ret
        exact ⟨rfl,hb2⟩
end Go.Proofs.Ytbelnopbggkdfaa.Lift
end

section
namespace Go.Proofs.Ytbelnopbggkdfaa
open Go.RowKit Lift
theorem IsL.below {w w' : World} {a : Option Addr} {zs : List Int} (h : IsL w a zs) (hb : Below w.heap.size w w') : IsL w' a zs:=by
  obtain ⟨h1,h2⟩:=h
  refine ⟨h1,?_⟩
  rcases h2 with rfl | ⟨b,off,rfl,hc⟩
  · exact .inl rfl
  · refine .inr ⟨b,off,rfl,fun i hi => ?_⟩
    have:=hc i hi
    exact (hb.cell (World.block_lt_of_cell? w _ this)).trans this
def okAt (zs : List Int) (n : Int) (i : Nat) : Prop:=0≤zs.getD i 0∧zs.getD i 0 < n∧(zs.take i).contains (zs.getD i 0)=false
instance (zs : List Int) (n : Int) (i : Nat) : Decidable (okAt zs n i):=by unfold okAt;infer_instance
def allOk (zs : List Int) (n : Int) : Prop:=∀ i,i < zs.length→okAt zs n i
open Classical in
noncomputable def checkF (k : Int) (zs : List Int) (n : Int) : Int:=if arityF k=0 then 60 else if (zs.length : Int)≠arityF k then 61 else if allOk zs n then 0 else 61
theorem checkF_none {k : Int} {zs : List Int} {n : Int} (h : arityF k=0) : checkF k zs n=60:=by unfold checkF;rw [if_pos h]
theorem checkF_len {k : Int} {zs : List Int} {n : Int} (h : arityF k≠0) (h2 : (zs.length : Int)≠arityF k) : checkF k zs n=61:=by unfold checkF;rw [if_neg h,if_pos h2]
theorem checkF_bad {k : Int} {zs : List Int} {n : Int} (h : arityF k≠0) {i : Nat} (hi : i < zs.length) (h3 : ¬ okAt zs n i) : checkF k zs n=61:=by
  unfold checkF
  rw [if_neg h]
  split
  · rfl
  · rw [if_neg fun h' => h3 (h' i hi)]
theorem checkF_ok {k : Int} {zs : List Int} {n : Int} (h : arityF k≠0) (h2 : (zs.length : Int)=arityF k) (h3 : allOk zs n) : checkF k zs n=0:=by
  unfold checkF
  rw [if_neg h,if_neg (by simpa using h2),if_pos h3]
theorem behind {P : Program} {f : FuncId} {args : Array Value} {v : Value} (h : ∀ w : World,Calls P f args w fun e w' => e=.returned v∧Below w.heap.size w w') (w w1 : World) (hb : Below w.heap.size w w1) :
    Calls P f args w1 fun e w' => e=.returned v∧Below w.heap.size w w' :=
  (h w1).mono fun _ _ ⟨he,hb'⟩ => ⟨he,hb.trans (hb'.mono hb.size)⟩
theorem contains_at (a : Option Addr) (len cap : Nat) (zs : List Int) (v : Int) (w : World) (h : IsL w a zs) (hl : zs.length=len) :
    Calls Try.prog 98 #[.slice a len cap,.int .i64 v] w fun e w' => e=.returned (.bool (zs.contains v))∧w=w':=by
  subst hl;exact contains_any a cap zs v w h
set_option maxHeartbeats 1000000 in
theorem check_any (k : Int) (a : Option Addr) (len cap : Nat) (zs : List Int) (n : Int) (w : World) (hk : (Lit.int .i64 k).wf=true) (h : IsL w a zs) (hl : zs.length=len) (hcap : len≤cap) :
    Calls Try.prog 97 #[.int .i64 k,.slice a len cap,.int .i64 n] w fun e w' => e=.returned (.int .i64 (checkF k zs n))∧Below w.heap.size w w':=by
  have hm:=h.1
  rw [hl] at hm
  unfold maxLen at hm
  have ar:=behind (fun w => arity_any k hk w) w
  have hb1:=Below.refl w.heap.size w
  have c1:=fun h => checkF_none (k:=k) (zs:=zs) (n:=n) h
  have c2:=fun h h2 => checkF_len (k:=k) (zs:=zs) (n:=n) h h2
  have c3:=fun h i hi h3 => checkF_bad (k:=k) (zs:=zs) (n:=n) h (i:=i) hi h3
  have c4:=fun h h2 h3 => checkF_ok (k:=k) (zs:=zs) (n:=n) h h2 h3
  generalize checkF k zs n=R at c1 c2 c3 c4
  generalize arityF k=A at ar c1 c2 c3 c4
  rw [hl] at c2 c4
  by_cases ha : A=0
  · have HR:=Lib.hid (c1 ha)
    subst ha
    clear c1 c2 c3 c4
    go_enter Try.func97,Try.ntmps97
    go_wp2_with (go_at_call 100;refine (ar _ hb1).mono ?_;clear hb1;rintro e w1 ⟨rfl,hb1⟩)
    go_ret
    exact ⟨by rw [HR.out];rfl,hb1⟩
  have ha' : (A == 0)=false:=by simpa using ha
  by_cases h2 : (len : Int)=A
  case neg =>
    have HR:=Lib.hid (c2 ha h2)
    have h2' : ((len : Int) == A)=false:=by simpa using h2
    have h2'' : ((len : Int) != A)=true:=by simpa using h2
    clear c1 c2 c3 c4 ha h2
    go_enter Try.func97,Try.ntmps97
    go_wp2_with (first|(go_at_call 100;refine (ar _ hb1).mono ?_;clear hb1;rintro e w1 ⟨rfl,hb1⟩))
    go_ret
    exact ⟨by rw [HR.out];rfl,hb1⟩
  subst h2
  clear c1 c2
  have h2' : ((len : Int) != (len : Int))=false:=by simp
  have C3:=Lib.hid (c3 ha)
  have C4:=Lib.hid (c4 ha rfl)
  clear c3 c4 ha
  rcases h.2 with rfl|hne
  · simp only [List.length_nil] at hl
    subst hl
    simp at ha'
  have HC : Hid (∃ b off,a=some ⟨b,off,none⟩∧∀ i,i < zs.length→w.cell? ⟨b,off + i,none⟩=some (.int .i64 (zs.getD i 0))):=Lib.hid hne
  have HL:=Lib.hid h
  have Hl:=Lib.hid hl
  clear hne h hl
  go_enter Try.func97,Try.ntmps97
  go_wp2_with (go_at_call 100;refine (ar _ hb1).mono ?_;clear hb1;rintro e w1 ⟨rfl,hb1⟩)
  have HL1:=Lib.hid (HL.out.below hb1)
  obtain ⟨b,off,rfl,hc⟩:=HC.out
  have HC1 : Hid (∀ i,i < zs.length→w1.cell? ⟨b,off + i,none⟩=some (.int .i64 (zs.getD i 0))):=Lib.hid fun i hi => (hb1.cell (World.block_lt_of_cell? w _ (hc i hi))).trans (hc i hi)
  clear hc HC HL ar
  go_loop [7,8,19] (fun _ _ i => ∃ j : Nat,j≤len∧i=.int .i64 j∧Hid (∀ i,i < j→okAt zs n i)) (fun _ _ i => len - (intOf i).toNat)
  case atStart => exact ⟨0,Nat.zero_le _,rfl,Lib.hid fun j hj => by omega⟩
  case round =>
    obtain ⟨j,hj,rfl,HN⟩:=hrel
    by_cases hlt : j < len
    · have hcell:=HC1.out j (by have:=Hl.out;omega)
      obtain ⟨z,hz⟩ : ∃ z,zs.getD j 0=z:=⟨_,rfl⟩
      rw [hz] at hcell
      have HT : IsL w1 (some ⟨b,off,none⟩) (zs.take j):=HL1.out.take j
      have HTl : (zs.take j).length=j:=by rw [List.length_take,Hl.out];omega
      have con:=contains_at (some ⟨b,off,none⟩) j cap (zs.take j) z w1 HT HTl
      have hok : okAt zs n j↔0≤z∧z < n∧(zs.take j).contains z=false:=by unfold okAt;rw [hz]
      have hjz : j < zs.length:=by rw [Hl.out];exact hlt
      have HB : Hid (¬ okAt zs n j→R=61):=Lib.hid (C3.out j hjz)
      clear HT HTl hjz
      generalize (zs.take j).contains z=B at con hok
      have HK:=Lib.hid hok
      have HZ:=Lib.hid hz
      have CON:=Lib.hid con
      clear hok hz con
      by_cases z0 : z < 0
      · have HR : Hid (R=61):=Lib.hid (HB.out (by rw [HK.out];omega))
        clear HB HK C3 C4
        go_wp2
        go_ret
        exact ⟨by rw [HR.out];rfl,hb1⟩
      · by_cases zn : n≤z
        · have HR : Hid (R=61):=Lib.hid (HB.out (by rw [HK.out];omega))
          clear HB HK C3 C4
          go_wp2
          go_ret
          exact ⟨by rw [HR.out];rfl,hb1⟩
        · cases B with
          | true =>
            have HR : Hid (R=61):=Lib.hid (HB.out (by rw [HK.out];simp))
            clear HB HK C3 C4
            go_wp2_with (go_at_call 98;refine CON.out.mono ?_;rintro e w2 ⟨rfl,rfl⟩)
            go_ret
            exact ⟨by rw [HR.out];rfl,hb1⟩
          | false =>
            have HN' : Hid (∀ i,i < j + 1→okAt zs n i):=Lib.hid fun i hi => by
              rcases Nat.lt_succ_iff_lt_or_eq.1 hi with h|h
              · exact HN.out i h
              · rw [h,HK.out];exact ⟨by omega,by omega,rfl⟩
            clear HB HK HN
            go_wp2_with (go_at_call 98;refine CON.out.mono ?_;rintro e w2 ⟨rfl,rfl⟩)
            go_round
            case rel => exact ⟨j + 1,by omega,by go_num,HN'⟩
            case measure => simp [intOf];omega
    · have HR : Hid (R=0):=Lib.hid (C4.out fun i hi => HN.out i (by have:=Hl.out;omega))
      clear HN C3 C4
      go_wp2
      go_ret
      exact ⟨by rw [HR.out];rfl,hb1⟩
end Go.Proofs.Ytbelnopbggkdfaa
end

section
namespace Go.Proofs.Ytbelnopbggkdfaa
open Go.RowKit Lift
theorem pick_two {α β : Type} {vs : List α} {us : List β} {o : α} {p : β} (Q : α→β→Prop) (h : ∀ i,i < 20→Q (vs.getD i o) (us.getD i p)) (ho : Q o p) (k : Int) : Q (pick vs o k) (pick us p k):=by
  unfold pick
  by_cases hk : 1≤k∧k≤20
  · rw [if_pos hk,if_pos hk];exact h _ (by omega)
  · rw [if_neg hk,if_neg hk];exact ho
theorem is_arity (k : Int) : isF k=!(arityF k == 0) :=
  pick_two (fun a b => a=!(b == 0)) (by decide) (by decide) k
set_option maxHeartbeats 1000000 in
theorem rcheck_any (k : Int) (a : Option Addr) (len cap : Nat) (zs : List Int) (n : Int) (w : World) (hk : (Lit.int .i64 k).wf=true) (h : IsL w a zs) (hl : zs.length=len) :
    Calls Try.prog 92 #[.int .i64 k,.slice a len cap,.int .i64 n] w fun e w' => e=.returned (.int .i64 (checkF k zs n))∧Below w.heap.size w w':=by
  have hm:=h.1
  rw [hl] at hm
  unfold maxLen at hm
  have ar:=behind (fun w => rarity_any k hk w) w
  have is:=behind (fun w => is_any k hk w) w
  rw [is_arity] at is
  have hb1:=Below.refl w.heap.size w
  have c1:=fun h => checkF_none (k:=k) (zs:=zs) (n:=n) h
  have c2:=fun h h2 => checkF_len (k:=k) (zs:=zs) (n:=n) h h2
  have c3:=fun h i hi h3 => checkF_bad (k:=k) (zs:=zs) (n:=n) h (i:=i) hi h3
  have c4:=fun h h2 h3 => checkF_ok (k:=k) (zs:=zs) (n:=n) h h2 h3
  generalize checkF k zs n=R at c1 c2 c3 c4
  generalize arityF k=A at ar is c1 c2 c3 c4
  rw [hl] at c2 c4
  by_cases ha : A=0
  · have HR:=Lib.hid (c1 ha)
    subst ha
    clear c1 c2 c3 c4
    go_enter Try.func92,Try.ntmps92
    go_wp2_with (go_at_call 79;refine (is _ hb1).mono ?_;clear hb1;rintro e w1 ⟨rfl,hb1⟩)
    go_ret
    exact ⟨by rw [HR.out];rfl,hb1⟩
  have ha' : (A == 0)=false:=by simpa using ha
  by_cases h2 : (len : Int)=A
  case neg =>
    have HR:=Lib.hid (c2 ha h2)
    have h2'' : ((len : Int) != A)=true:=by simpa using h2
    clear c1 c2 c3 c4 ha h2
    go_enter Try.func92,Try.ntmps92
    go_wp2_with (first|(go_at_call 79;refine (is _ hb1).mono ?_;clear hb1;rintro e w1 ⟨rfl,hb1⟩)|(go_at_call 53;refine (ar _ hb1).mono ?_;clear hb1;rintro e w1 ⟨rfl,hb1⟩))
    go_ret
    exact ⟨by rw [HR.out];rfl,hb1⟩
  subst h2
  clear c1 c2
  have h2' : ((len : Int) != (len : Int))=false:=by simp
  have C3:=Lib.hid (c3 ha)
  have C4:=Lib.hid (c4 ha rfl)
  clear c3 c4 ha
  rcases h.2 with rfl|hne
  · simp only [List.length_nil] at hl
    subst hl
    simp at ha'
  have HC : Hid (∃ b off,a=some ⟨b,off,none⟩∧∀ i,i < zs.length→w.cell? ⟨b,off + i,none⟩=some (.int .i64 (zs.getD i 0))):=Lib.hid hne
  have Hl:=Lib.hid hl
  clear hne h hl
  go_enter Try.func92,Try.ntmps92
  go_wp2_with (first|(go_at_call 79;refine (is _ hb1).mono ?_;clear hb1;rintro e w1 ⟨rfl,hb1⟩)|(go_at_call 53;refine (ar _ hb1).mono ?_;clear hb1;rintro e w1 ⟨rfl,hb1⟩))
  obtain ⟨b,off,rfl,hc⟩:=HC.out
  have HC1 : Hid (∀ i,i < zs.length→w1.cell? ⟨b,off + i,none⟩=some (.int .i64 (zs.getD i 0))):=Lib.hid fun i hi => (hb1.cell (World.block_lt_of_cell? w _ (hc i hi))).trans (hc i hi)
  clear hc HC ar is
  go_loopw [7,8] (fun i _ wr => ∃ m : Nat,m≤len∧i=.int .i64 m∧Hid (∀ i,i < m→okAt zs n i)∧Drawn w1 wr) (fun i _ _ => len - (intOf i).toNat)
  case atStart => exact ⟨0,Nat.zero_le _,rfl,Lib.hid fun j hj => by omega,Drawn.refl _⟩
  case round =>
    obtain ⟨m,hm1,rfl,HN,hdr⟩:=hrel
    obtain ⟨wo,rfl⟩ : ∃ wo : World,wo=wr:=⟨_,rfl⟩
    have hbo : Below w.heap.size w wo:=hb1.trans (hdr.below.mono hb1.size)
    have HCo : Hid (∀ i,i < zs.length→wo.cell? ⟨b,off + i,none⟩=some (.int .i64 (zs.getD i 0))):=Lib.hid fun i hi => (hdr.cell _).trans (HC1.out i hi)
    by_cases hlt : m < len
    · have hmz : m < zs.length:=by rw [Hl.out];exact hlt
      obtain ⟨z,hz⟩ : ∃ z,zs.getD m 0=z:=⟨_,rfl⟩
      have hcell : wo.cell? ⟨b,off + m,none⟩=some (.int .i64 z):=by rw [HCo.out m hmz,hz]
      have hok : okAt zs n m↔0≤z∧z < n∧(zs.take m).contains z=false:=by unfold okAt;rw [hz]
      have HB : Hid (¬ okAt zs n m→R=61):=Lib.hid (C3.out m hmz)
      have HK:=Lib.hid hok
      have Hmz:=Lib.hid hmz
      have Hdr:=Lib.hid hdr
      clear hok hz hmz hdr
      by_cases z0 : z < 0
      · have HR : Hid (R=61):=Lib.hid (HB.out (by rw [HK.out];omega))
        clear HB HK C3 C4
        go_wp2
        go_ret
        exact ⟨by rw [HR.out];rfl,hbo⟩
      · by_cases zn : n≤z
        · have HR : Hid (R=61):=Lib.hid (HB.out (by rw [HK.out];omega))
          clear HB HK C3 C4
          go_wp2
          go_ret
          exact ⟨by rw [HR.out];rfl,hbo⟩
        · go_wp2
          go_loopw [8] (fun j wr => ∃ q : Nat,q≤m∧j=.int .i64 q∧Hid (∀ i,i < q→zs.getD i 0≠z)∧Drawn wo wr) (fun j _ => m - (intOf j).toNat)
          case atStart => exact ⟨0,Nat.zero_le _,rfl,Lib.hid fun j hj => by omega,Drawn.refl _⟩
          case round =>
            obtain ⟨q,hq,rfl,HQ,hdq⟩:=hrel
            obtain ⟨wi,rfl⟩ : ∃ wi : World,wi=wr:=⟨_,rfl⟩
            have hbi : Below w.heap.size w wi:=hbo.trans (hdq.below.mono hbo.size)
            have hci : wi.cell? ⟨b,off + m,none⟩=some (.int .i64 z):=(hdq.cell _).trans hcell
            by_cases hqm : q < m
            · obtain ⟨y,hy⟩ : ∃ y,zs.getD q 0=y:=⟨_,rfl⟩
              have hcq : wi.cell? ⟨b,off + q,none⟩=some (.int .i64 y):=by rw [hdq.cell,HCo.out q (by have:=Hmz.out;omega),hy]
              have Hy:=Lib.hid hy
              have Hdq:=Lib.hid hdq
              clear hy hdq
              by_cases e : z=y
              · have HR : Hid (R=61):=Lib.hid (HB.out (by
                  rw [HK.out]
                  rintro ⟨_,_,h⟩
                  have : z ∈ zs.take m:=by
                    rw [e,← Hy.out,List.getD_eq_getElem?_getD,List.getElem?_eq_getElem (by have:=Hmz.out;omega)]
                    rw [List.mem_take_iff_getElem]
                    exact ⟨q,by have:=Hmz.out;omega,rfl⟩
                  rw [← List.contains_iff_mem] at this
                  rw [this] at h;cases h))
                subst e
                clear HB HK C3 C4
                go_wp2
                go_quiet (fail)
                go_wp2
                go_ret
                exact ⟨by rw [HR.out];rfl,below_drewN hbi _⟩
              · have e' : (z == y)=false:=by simpa using e
                have HQ' : Hid (∀ i,i < q + 1→zs.getD i 0≠z):=Lib.hid fun i hi => by
                  rcases Nat.lt_succ_iff_lt_or_eq.1 hi with h|h
                  · exact HQ.out i h
                  · rw [h,Hy.out];exact Ne.symm e
                clear HQ e
                go_wp2
                go_quiet (fail)
                go_wp2
                go_roundw
                case rel => exact ⟨q + 1,by omega,by go_num,HQ',Drawn.drewN Hdq.out⟩
                case measure => simp [intOf];omega
            · have HN' : Hid (∀ i,i < m + 1→okAt zs n i):=Lib.hid fun i hi => by
                rcases Nat.lt_succ_iff_lt_or_eq.1 hi with h|h
                · exact HN.out i h
                · rw [h,HK.out]
                  refine ⟨by omega,by omega,?_⟩
                  cases hb : (zs.take m).contains z with
                  | false => rfl
                  | true =>
                    rw [List.contains_iff_mem,List.mem_take_iff_getElem] at hb
                    obtain ⟨i,hi,he⟩:=hb
                    have:=HQ.out i (by omega)
                    rw [List.getD_eq_getElem?_getD,List.getElem?_eq_getElem (by omega)] at this
                    exact absurd he this
              have Hdq:=Lib.hid hdq
              clear HQ HN HB HK hdq
              go_wp2
              go_roundw
              case rel => exact ⟨m + 1,by omega,by go_num,HN',(by
                obtain ⟨x,rfl⟩:=Hdr.out
                obtain ⟨y,rfl⟩:=Hdq.out
                exact Drawn.drewN (Drawn.drewN (Drawn.refl _)))⟩
              case measure => simp [intOf];omega
    · have HR : Hid (R=0):=Lib.hid (C4.out fun i hi => HN.out i (by have:=Hl.out;omega))
      clear HN C3 C4
      go_wp2
      go_ret
      exact ⟨by rw [HR.out];rfl,hbo⟩
end Go.Proofs.Ytbelnopbggkdfaa
end

section
namespace Go.Proofs.Ytbelnopbggkdfaa
open Go.RowKit Lift Go.Proofs.YtbelnopbggkdfaaW.PrintWords
def gateB (R f3 f4 f5 b : Int) : Bool:=R == 0 && (f3 == 0 && (f4 == -1 && f5 == 0 || decide (0≤f4) && (decide (f4 < b) && (f5 == 0 || f5 == 1))))
theorem ret_bool {a b : Bool} (h : a=b) : Ending.returned (.bool a)=.returned (.bool b):=by rw [h]
set_option maxHeartbeats 4000000 in
set_option maxRecDepth 100000 in
theorem may_gate (f1 : Int) (A : Option Addr) (len cap : Nat) (f3 f4 f5 q b R : Int) (w : World)
    (chk : ∀ wx,Below w.heap.size w wx→Calls Try.prog 97 #[.int .i64 f1,.slice A len cap,.int .i64 q] wx fun e w' => e=.returned (.int .i64 R)∧Below wx.heap.size wx w') :
    Calls Try.prog 89 #[.agg #[.int .i64 1,.int .i64 f1,.slice A len cap,.int .i64 f3,.int .i64 f4,.int .i64 f5],.int .i64 q,.int .i64 b] w fun e w' => e=.returned (.bool (gateB R f3 f4 f5 b))∧Below w.heap.size w w':=by
  have hu46:=Try.underlying46
  go_enter Try.func89,Try.ntmps89
  go_wp2_with (go_at_call 97;refine (chk _ ((Below.refl _ _).alloc (Nat.le_refl _) _)).mono ?_;clear chk;rintro e w1 ⟨rfl,hb1⟩;obtain ⟨hc,hf⟩:=bcell hb1)
  all_goals
    go_ret
    refine ⟨ret_bool ?_,((Below.refl _ _).alloc (Nat.le_refl _) _).trans (hb1.mono (by simp))⟩
    go_light
    first|(simp [gateB, *];done)|(simp [gateB, *];omega)
def restB (f0 f1 : Int) (len : Nat) (ok : Bool) (f3 f4 f5 b : Int) : Bool :=
  f1 == 0 && (f4 == -1 && (f5 == 0 && (!(len == 0) && (ok && (if f0=2 then len == 1 && (decide (0≤f3) && decide (f3 < b)) else if f0=3 then len == 1 && f3 == 0 else if f0=4 then f3 == 0 else false)))))
open Classical in
set_option maxHeartbeats 4000000 in
set_option maxRecDepth 100000 in
theorem may_rest (f0 f1 : Int) (A : Option Addr) (len cap : Nat) (zs : List Int) (f3 f4 f5 q b : Int) (w : World) (hk : f0≠1) (h : IsL w A zs) (hl : zs.length=len) (hcap : len≤cap) :
    Calls Try.prog 89 #[.agg #[.int .i64 f0,.int .i64 f1,.slice A len cap,.int .i64 f3,.int .i64 f4,.int .i64 f5],.int .i64 q,.int .i64 b] w fun e w' => e=.returned (.bool (restB f0 f1 len (decide (allOk zs q)) f3 f4 f5 b))∧Below w.heap.size w w':=by
  have hu46:=Try.underlying46
  have k1 : (f0 == 1)=false:=by simpa using hk
  have hm:=h.1
  rw [hl] at hm
  unfold maxLen at hm
  by_cases g : f1=0∧f4=-1∧f5=0∧len≠0
  · obtain ⟨rfl,rfl,rfl,hl0⟩:=g
    have hl1 : 0 < len:=by omega
    have hl2 : ((len : Int) == 0)=false:=by simpa using hl0
    have HR : Hid (restB f0 0 len (decide (allOk zs q)) f3 (-1) 0 b=(decide (allOk zs q) && (if f0=2 then len == 1 && (decide (0≤f3) && decide (f3 < b)) else if f0=3 then len == 1 && f3 == 0 else if f0=4 then f3 == 0 else false))):=Lib.hid (by simp [restB,hl0])
    generalize restB f0 0 len (decide (allOk zs q)) f3 (-1) 0 b=R at HR
    rcases h.2 with rfl|hne
    · simp at hl;omega
    obtain ⟨bk,off,rfl,hc⟩:=hne
    have HC:=Lib.hid hc
    have HL:=Lib.hid h
    have Hl:=Lib.hid hl
    clear hc h hl hl0
    go_enter Try.func89,Try.ntmps89
    go_wp2
    generalize hw1 : World.alloc _ _=w1
    have hb1 : Below w.heap.size w w1:=by rw [← hw1];exact (Below.refl _ _).alloc (Nat.le_refl _) _
    have HL1:=Lib.hid (HL.out.below hb1)
    have HC1 : Hid (∀ i,i < zs.length→w1.cell? ⟨bk,off + i,none⟩=some (.int .i64 (zs.getD i 0))):=Lib.hid fun i hi => (hb1.cell (World.block_lt_of_cell? w _ (HC.out i hi))).trans (HC.out i hi)
    have b0 : w1.cell? ⟨w.heap.size,0,none⟩=some (.int .i64 f0):=by rw [← hw1];exact (blk_cell (blk_new w _) 0).trans rfl
    have b2 : w1.cell? ⟨w.heap.size,2,none⟩=some (.slice (some ⟨bk,off,none⟩) len cap):=by rw [← hw1];exact (blk_cell (blk_new w _) 2).trans rfl
    have b3 : w1.cell? ⟨w.heap.size,3,none⟩=some (.int .i64 f3):=by rw [← hw1];exact (blk_cell (blk_new w _) 3).trans rfl
    clear hw1 HL HC
    go_loop [9,10,81] (fun _ _ i => ∃ j : Nat,j≤len∧i=.int .i64 j∧Hid (∀ i,i < j→okAt zs q i)) (fun _ _ i => len - (intOf i).toNat)
    case atStart => exact ⟨0,Nat.zero_le _,rfl,Lib.hid fun j hj => by omega⟩
    case round =>
      obtain ⟨j,hj,rfl,HN⟩:=hrel
      by_cases hlt : j < len
      · have hcell:=HC1.out j (by have:=Hl.out;omega)
        obtain ⟨z,hz⟩ : ∃ z,zs.getD j 0=z:=⟨_,rfl⟩
        rw [hz] at hcell
        have HT : IsL w1 (some ⟨bk,off,none⟩) (zs.take j):=HL1.out.take j
        have HTl : (zs.take j).length=j:=by rw [List.length_take,Hl.out];omega
        have con:=contains_at (some ⟨bk,off,none⟩) j cap (zs.take j) z w1 HT HTl
        have hok : okAt zs q j↔0≤z∧z < q∧(zs.take j).contains z=false:=by unfold okAt;rw [hz]
        have HB : Hid (¬ okAt zs q j→R=false):=Lib.hid fun hn => by
          rw [HR.out,decide_eq_false (p:=allOk zs q) (fun ha => hn (ha j (by rw [Hl.out];exact hlt)))];rfl
        clear HT HTl
        generalize (zs.take j).contains z=B at con hok
        have HK:=Lib.hid hok
        have HZ:=Lib.hid hz
        have CON:=Lib.hid con
        clear hok hz con
        by_cases z0 : z < 0
        · have HE : Hid (R=false):=Lib.hid (HB.out (by rw [HK.out];omega))
          clear HB HK HR b0 b3
          go_wp2
          go_ret
          exact ⟨by rw [HE.out];rfl,hb1⟩
        · by_cases zn : q≤z
          · have HE : Hid (R=false):=Lib.hid (HB.out (by rw [HK.out];omega))
            clear HB HK HR b0 b3
            go_wp2
            go_ret
            exact ⟨by rw [HE.out];rfl,hb1⟩
          · cases B with
            | true =>
              have HE : Hid (R=false):=Lib.hid (HB.out (by rw [HK.out];simp))
              clear HB HK HR b0 b3
              go_wp2_with (go_at_call 98;refine CON.out.mono ?_;rintro e w2 ⟨rfl,rfl⟩)
              go_ret
              exact ⟨by rw [HE.out];rfl,hb1⟩
            | false =>
              have HN' : Hid (∀ i,i < j + 1→okAt zs q i):=Lib.hid fun i hi => by
                rcases Nat.lt_succ_iff_lt_or_eq.1 hi with h|h
                · exact HN.out i h
                · rw [h,HK.out];exact ⟨by omega,by omega,rfl⟩
              clear HB HK HN HR b0 b3
              go_wp2_with (go_at_call 98;refine CON.out.mono ?_;rintro e w2 ⟨rfl,rfl⟩)
              go_round
              case rel => exact ⟨j + 1,by omega,by go_num,HN'⟩
              case measure => simp [intOf];omega
      · have HE : Hid (R=(if f0=2 then len == 1 && (decide (0≤f3) && decide (f3 < b)) else if f0=3 then len == 1 && f3 == 0 else if f0=4 then f3 == 0 else false)):=Lib.hid (by
          rw [HR.out,decide_eq_true (p:=allOk zs q) (fun i hi => HN.out i (by have:=Hl.out;omega))];rfl)
        clear HN HR HL1 HC1
        go_wp2
        all_goals
          go_ret
          refine ⟨ret_bool ?_,hb1⟩
          go_light
          rw [HE.out]
          clear HE hb1 hu46 hcap
          first|(simp_all;done)|(simp_all;omega)
  · go_enter Try.func89,Try.ntmps89
    go_wp2
    all_goals
      go_ret
      refine ⟨ret_bool ?_,(Below.refl _ _).alloc (Nat.le_refl _) _⟩
      go_light
      by_cases hz : len=0
      · simp [restB,hz]
      · clear hu46 h
        simp_all [restB]
end Go.Proofs.Ytbelnopbggkdfaa
end

section
namespace Go.Proofs.Ytbelnopbggkdfaa
open Go.RowKit Lift
def okB (zs : List Int) (n : Int) : Bool:=(List.range zs.length).all fun i => decide (0≤zs.getD i 0) && (decide (zs.getD i 0 < n) && !(zs.take i).contains (zs.getD i 0))
theorem okB_iff {zs : List Int} {n : Int} : okB zs n=true↔allOk zs n:=by
  unfold okB allOk okAt
  simp [List.all_eq_true]
theorem okB_bad {zs : List Int} {n : Int} {i : Nat} (hi : i < zs.length) (h : ¬ okAt zs n i) : okB zs n=false :=
  Bool.eq_false_iff.2 fun ha => h (okB_iff.1 ha i hi)
theorem okB_ok {zs : List Int} {n : Int} (h : allOk zs n) : okB zs n=true:=okB_iff.2 h
set_option maxHeartbeats 1000000 in
theorem unlike_any (a : Option Addr) (len cap : Nat) (zs : List Int) (n : Int) (w : World) (h : IsL w a zs) (hl : zs.length=len) :
    Calls Try.prog 93 #[.slice a len cap,.int .i64 n] w fun e w' => e=.returned (.bool (okB zs n))∧Below w.heap.size w w':=by
  have hm:=h.1
  rw [hl] at hm
  unfold maxLen at hm
  have hb1:=Below.refl w.heap.size w
  have c3:=fun i hi h3 => okB_bad (zs:=zs) (n:=n) (i:=i) hi h3
  have c4:=fun h3 => okB_ok (zs:=zs) (n:=n) h3
  generalize okB zs n=R at c3 c4
  rcases h.2 with rfl|hne
  · simp only [List.length_nil] at hl
    subst hl
    have HR : Hid (R=true):=Lib.hid (c4 fun i hi => by simp at hi)
    clear c3 c4
    go_enter Try.func93,Try.ntmps93
    go_wp2
    go_loop [5,6] (fun i _ => i=.int .i64 0) (fun _ _ => 0)
    case atStart => rfl
    case round =>
      subst hrel
      go_wp2
      go_ret
      exact ⟨by rw [HR.out];rfl,hb1⟩
  obtain ⟨b,off,rfl,hc⟩:=hne
  have C3:=Lib.hid c3
  have C4:=Lib.hid c4
  have Hl:=Lib.hid hl
  have HC1:=Lib.hid hc
  clear hc h hl c3 c4
  go_enter Try.func93,Try.ntmps93
  go_wp2
  go_loopw [5,6] (fun i _ wr => ∃ m : Nat,m≤len∧i=.int .i64 m∧Hid (∀ i,i < m→okAt zs n i)∧Drawn w wr) (fun i _ _ => len - (intOf i).toNat)
  case atStart => exact ⟨0,Nat.zero_le _,rfl,Lib.hid fun j hj => by omega,Drawn.refl _⟩
  case round =>
    obtain ⟨m,hm1,rfl,HN,hdr⟩:=hrel
    obtain ⟨wo,rfl⟩ : ∃ wo : World,wo=wr:=⟨_,rfl⟩
    have hbo : Below w.heap.size w wo:=hb1.trans (hdr.below.mono hb1.size)
    have HCo : Hid (∀ i,i < zs.length→wo.cell? ⟨b,off + i,none⟩=some (.int .i64 (zs.getD i 0))):=Lib.hid fun i hi => (hdr.cell _).trans (HC1.out i hi)
    by_cases hlt : m < len
    · have hmz : m < zs.length:=by rw [Hl.out];exact hlt
      obtain ⟨z,hz⟩ : ∃ z,zs.getD m 0=z:=⟨_,rfl⟩
      have hcell : wo.cell? ⟨b,off + m,none⟩=some (.int .i64 z):=by rw [HCo.out m hmz,hz]
      have hok : okAt zs n m↔0≤z∧z < n∧(zs.take m).contains z=false:=by unfold okAt;rw [hz]
      have HB : Hid (¬ okAt zs n m→R=false):=Lib.hid (C3.out m hmz)
      have HK:=Lib.hid hok
      have Hmz:=Lib.hid hmz
      have Hdr:=Lib.hid hdr
      clear hok hz hmz hdr
      by_cases z0 : z < 0
      · have HR : Hid (R=false):=Lib.hid (HB.out (by rw [HK.out];omega))
        clear HB HK C3 C4
        go_wp2
        go_ret
        exact ⟨by rw [HR.out];rfl,hbo⟩
      · by_cases zn : n≤z
        · have HR : Hid (R=false):=Lib.hid (HB.out (by rw [HK.out];omega))
          clear HB HK C3 C4
          go_wp2
          go_ret
          exact ⟨by rw [HR.out];rfl,hbo⟩
        · go_wp2
          go_loopw [6] (fun j wr => ∃ q : Nat,q≤m∧j=.int .i64 q∧Hid (∀ i,i < q→zs.getD i 0≠z)∧Drawn wo wr) (fun j _ => m - (intOf j).toNat)
          case atStart => exact ⟨0,Nat.zero_le _,rfl,Lib.hid fun j hj => by omega,Drawn.refl _⟩
          case round =>
            obtain ⟨q,hq,rfl,HQ,hdq⟩:=hrel
            obtain ⟨wi,rfl⟩ : ∃ wi : World,wi=wr:=⟨_,rfl⟩
            have hbi : Below w.heap.size w wi:=hbo.trans (hdq.below.mono hbo.size)
            have hci : wi.cell? ⟨b,off + m,none⟩=some (.int .i64 z):=(hdq.cell _).trans hcell
            by_cases hqm : q < m
            · obtain ⟨y,hy⟩ : ∃ y,zs.getD q 0=y:=⟨_,rfl⟩
              have hcq : wi.cell? ⟨b,off + q,none⟩=some (.int .i64 y):=by rw [hdq.cell,HCo.out q (by have:=Hmz.out;omega),hy]
              have Hy:=Lib.hid hy
              have Hdq:=Lib.hid hdq
              clear hy hdq
              by_cases e : z=y
              · have HR : Hid (R=false):=Lib.hid (HB.out (by
                  rw [HK.out]
                  rintro ⟨_,_,h⟩
                  have : z ∈ zs.take m:=by
                    rw [e,← Hy.out,List.getD_eq_getElem?_getD,List.getElem?_eq_getElem (by have:=Hmz.out;omega)]
                    rw [List.mem_take_iff_getElem]
                    exact ⟨q,by have:=Hmz.out;omega,rfl⟩
                  rw [← List.contains_iff_mem] at this
                  rw [this] at h;cases h))
                subst e
                clear HB HK C3 C4
                go_wp2
                go_quiet (fail)
                go_wp2
                go_ret
                exact ⟨by rw [HR.out];rfl,below_drewN hbi _⟩
              · have e' : (z == y)=false:=by simpa using e
                have HQ' : Hid (∀ i,i < q + 1→zs.getD i 0≠z):=Lib.hid fun i hi => by
                  rcases Nat.lt_succ_iff_lt_or_eq.1 hi with h|h
                  · exact HQ.out i h
                  · rw [h,Hy.out];exact Ne.symm e
                clear HQ e
                go_wp2
                go_quiet (fail)
                go_wp2
                go_roundw
                case rel => exact ⟨q + 1,by omega,by go_num,HQ',Drawn.drewN Hdq.out⟩
                case measure => simp [intOf];omega
            · have HN' : Hid (∀ i,i < m + 1→okAt zs n i):=Lib.hid fun i hi => by
                rcases Nat.lt_succ_iff_lt_or_eq.1 hi with h|h
                · exact HN.out i h
                · rw [h,HK.out]
                  refine ⟨by omega,by omega,?_⟩
                  cases hb : (zs.take m).contains z with
                  | false => rfl
                  | true =>
                    rw [List.contains_iff_mem,List.mem_take_iff_getElem] at hb
                    obtain ⟨i,hi,he⟩:=hb
                    have:=HQ.out i (by omega)
                    rw [List.getD_eq_getElem?_getD,List.getElem?_eq_getElem (by omega)] at this
                    exact absurd he this
              have Hdq:=Lib.hid hdq
              clear HQ HN HB HK hdq
              go_wp2
              go_roundw
              case rel => exact ⟨m + 1,by omega,by go_num,HN',(by
                obtain ⟨x,rfl⟩:=Hdr.out
                obtain ⟨y,rfl⟩:=Hdq.out
                exact Drawn.drewN (Drawn.drewN (Drawn.refl _)))⟩
              case measure => simp [intOf];omega
    · have HR : Hid (R=true):=Lib.hid (C4.out fun i hi => HN.out i (by have:=Hl.out;omega))
      clear HN C3 C4
      go_wp2
      go_ret
      exact ⟨by rw [HR.out];rfl,hbo⟩
end Go.Proofs.Ytbelnopbggkdfaa
end

section
namespace Go.Proofs.Ytbelnopbggkdfaa
open Go.RowKit Lift Go.Proofs.YtbelnopbggkdfaaW.PrintWords
set_option maxHeartbeats 4000000 in
set_option maxRecDepth 100000 in
theorem rop_gate (f1 : Int) (A : Option Addr) (len cap : Nat) (f3 f4 f5 q b R : Int) (w : World)
    (chk : ∀ wx,Below w.heap.size w wx→Calls Try.prog 92 #[.int .i64 f1,.slice A len cap,.int .i64 q] wx fun e w' => e=.returned (.int .i64 R)∧Below wx.heap.size wx w') :
    Calls Try.prog 81 #[.agg #[.int .i64 1,.int .i64 f1,.slice A len cap,.int .i64 f3,.int .i64 f4,.int .i64 f5],.int .i64 q,.int .i64 b] w fun e w' => e=.returned (.bool (gateB R f3 f4 f5 b))∧Below w.heap.size w w':=by
  have hu46:=Try.underlying46
  go_enter Try.func81,Try.ntmps81
  go_wp2_with (go_at_call 92;refine (chk _ ((Below.refl _ _).alloc (Nat.le_refl _) _)).mono ?_;clear chk;rintro e w1 ⟨rfl,hb1⟩;obtain ⟨hc,hf⟩:=bcell hb1)
  all_goals
    go_ret
    refine ⟨ret_bool ?_,((Below.refl _ _).alloc (Nat.le_refl _) _).trans (hb1.mono (by simp))⟩
    go_light
    first|(simp [gateB, *];done)|(simp [gateB, *];omega)
set_option maxHeartbeats 4000000 in
set_option maxRecDepth 100000 in
theorem rop_rest (f0 f1 : Int) (A : Option Addr) (len cap : Nat) (f3 f4 f5 q b : Int) (R : Bool) (w : World) (hk : f0≠1)
    (unl : ∀ wx,Below w.heap.size w wx→Calls Try.prog 93 #[.slice A len cap,.int .i64 q] wx fun e w' => e=.returned (.bool R)∧Below wx.heap.size wx w') :
    Calls Try.prog 81 #[.agg #[.int .i64 f0,.int .i64 f1,.slice A len cap,.int .i64 f3,.int .i64 f4,.int .i64 f5],.int .i64 q,.int .i64 b] w fun e w' => e=.returned (.bool (restB f0 f1 len R f3 f4 f5 b))∧Below w.heap.size w w':=by
  have hu46:=Try.underlying46
  have k1 : (f0 == 1)=false:=by simpa using hk
  by_cases g : f0=2∨f0=3∨f0=4
  · rcases g with rfl|rfl|rfl <;> cases R
    all_goals
      go_enter Try.func81,Try.ntmps81
      go_wp2_with (go_at_call 93;refine (unl _ ((Below.refl _ _).alloc (Nat.le_refl _) _)).mono ?_;clear unl;rintro e w1 ⟨rfl,hb1⟩;obtain ⟨hc,hf⟩:=bcell hb1)
      all_goals
        go_ret
        refine ⟨ret_bool ?_,by first|exact ((Below.refl _ _).alloc (Nat.le_refl _) _).trans (hb1.mono (by simp))|exact (Below.refl _ _).alloc (Nat.le_refl _) _⟩
        go_light
        clear hu46
        first|(simp_all [restB];done)|(simp_all [restB];omega)
  · have g2 : (f0 == 2)=false:=by simp;omega
    have g3 : (f0 == 3)=false:=by simp;omega
    have g4 : (f0 == 4)=false:=by simp;omega
    have HR : Hid (restB f0 f1 len R f3 f4 f5 b=false):=Lib.hid (by simp at g2 g3 g4;simp [restB,g2,g3,g4])
    clear g unl
    go_enter Try.func81,Try.ntmps81
    go_wp2
    all_goals
      go_ret
      exact ⟨by rw [HR.out];rfl,(Below.refl _ _).alloc (Nat.le_refl _) _⟩
end Go.Proofs.Ytbelnopbggkdfaa
end

section
namespace Go.Proofs.Ytbelnopbggkdfaa
open Go.RowKit Lift Go.Proofs.YtbelnopbggkdfaaW.PrintWords
def checkB (k : Int) (zs : List Int) (n : Int) : Int:=if arityF k=0 then 60 else if (zs.length : Int)≠arityF k then 61 else if okB zs n=true then 0 else 61
theorem checkB_eq (k : Int) (zs : List Int) (n : Int) : checkF k zs n=checkB k zs n:=by
  unfold checkF checkB
  by_cases h : allOk zs n
  · rw [if_pos h,if_pos (okB_iff.2 h)]
  · rw [if_neg h,if_neg (fun e => h (okB_iff.1 e))]
def mayC (f0 f1 : Int) (zs : List Int) (f3 f4 f5 q b : Int) : Bool:=if f0=1 then gateB (checkB f1 zs q) f3 f4 f5 b else restB f0 f1 zs.length (okB zs q) f3 f4 f5 b
theorem isL_of_C {w : World} {A : Option Addr} {xs : List Int} (h : Kd.C (Kd.int .i64) w A xs.length xs) : IsL w A xs:=by
  obtain ⟨_,hm,hc⟩:=Kd.reads_of_C (enc:=Value.int .i64) (d:=(0 : Int)) (h1:=fun _ => rfl) h
  refine ⟨hm,?_⟩
  by_cases h0 : xs=[]
  · exact .inl h0
  · have hpos : 0 < xs.length:=List.length_pos_iff.2 h0
    obtain ⟨⟨b,off,spot⟩,rfl,hcell⟩:=hc hpos
    have hspot : spot=none:=by simpa [Addr.add] using World.cell?_spot (hcell 0 hpos)
    subst hspot
    refine .inr ⟨b,off,rfl,fun i hi => ?_⟩
    have:=hcell i hi
    rw [← this]
    congr 1
    by_cases hi0 : i=0
    · subst hi0;simp [Addr.add]
    · simp [Addr.add,hi0]
theorem may_any (f0 f1 : Int) (A : Option Addr) (cap : Nat) (zs : List Int) (f3 f4 f5 q b : Int) (w : World) (hk : (Lit.int .i64 f1).wf=true) (h : IsL w A zs) (hcap : zs.length≤cap) :
    Calls Try.prog 89 #[.agg #[.int .i64 f0,.int .i64 f1,.slice A zs.length cap,.int .i64 f3,.int .i64 f4,.int .i64 f5],.int .i64 q,.int .i64 b] w fun e w' => e=.returned (.bool (mayC f0 f1 zs f3 f4 f5 q b))∧Below w.heap.size w w':=by
  unfold mayC
  by_cases h1 : f0=1
  · subst h1
    rw [if_pos rfl,← checkB_eq]
    exact may_gate f1 A zs.length cap f3 f4 f5 q b (checkF f1 zs q) w fun wx hb => check_any f1 A zs.length cap zs q wx hk (h.below hb) rfl hcap
  · rw [if_neg h1]
    classical
    have:=may_rest f0 f1 A zs.length cap zs f3 f4 f5 q b w h1 h rfl hcap
    rwa [show decide (allOk zs q)=okB zs q by rw [Bool.eq_iff_iff,okB_iff];simp] at this
theorem rop_any (f0 f1 : Int) (A : Option Addr) (cap : Nat) (zs : List Int) (f3 f4 f5 q b : Int) (w : World) (hk : (Lit.int .i64 f1).wf=true) (h : IsL w A zs) :
    Calls Try.prog 81 #[.agg #[.int .i64 f0,.int .i64 f1,.slice A zs.length cap,.int .i64 f3,.int .i64 f4,.int .i64 f5],.int .i64 q,.int .i64 b] w fun e w' => e=.returned (.bool (mayC f0 f1 zs f3 f4 f5 q b))∧Below w.heap.size w w':=by
  unfold mayC
  by_cases h1 : f0=1
  · subst h1
    rw [if_pos rfl,← checkB_eq]
    exact rop_gate f1 A zs.length cap f3 f4 f5 q b (checkF f1 zs q) w fun wx hb => rcheck_any f1 A zs.length cap zs q wx hk (h.below hb) rfl
  · rw [if_neg h1]
    exact rop_rest f0 f1 A zs.length cap f3 f4 f5 q b (okB zs q) w h1 fun wx hb => unlike_any A zs.length cap zs q wx (h.below hb) rfl
end Go.Proofs.Ytbelnopbggkdfaa
end

section
namespace Go.Proofs.Ytbelnopbggkdfaa.Q
open Go.RowKit Go.Proofs.YtbelnopbggkdfaaW.PrintWords Go.Proofs.YtbelnopbggkdfaaW.PrintLast Go.Proofs.YtbelnopbggkdfaaW.PrintMore
attribute [local go_sem] max2_int min2_int max_two min_two max_three min_three max_four min_four   -- for this text's walks alone
set_option linter.unusedVariables false
set_option linter.unusedSimpArgs false
def circuit_may.f (a0_0 : Int) (a0_1 : Int) (l0_2 : List Int) (a0_3 : Int) (a0_4 : Int) (a0_5 : Int) (a1 : Int) (a2 : Int) : Option (Bool):=if (Lit.int .i64 a0_1).wf=true then some (mayC a0_0 a0_1 l0_2 a0_3 a0_4 a0_5 a1 a2) else none
theorem circuit_may.calls (a0_0 : Int) (a0_1 : Int) (A0_2 : Option Addr) (c0_2 : Nat) (l0_2 : List Int) (a0_3 : Int) (a0_4 : Int) (a0_5 : Int) (a1 : Int) (a2 : Int) (r : Bool) (w : World) (hr0_2 : Kd.C (Kd.int .i64) w A0_2 l0_2.length l0_2) (hc0_2 : l0_2.length≤c0_2) (h : circuit_may.f a0_0 a0_1 l0_2 a0_3 a0_4 a0_5 a1 a2=some r) :
  Calls Try.prog 89 #[.agg #[.int .i64 a0_0,.int .i64 a0_1,.slice A0_2 l0_2.length c0_2,.int .i64 a0_3,.int .i64 a0_4,.int .i64 a0_5],.int .i64 a1,.int .i64 a2] w fun e w' => e=.returned (.bool r)∧Below w.heap.size w w':=by
 unfold circuit_may.f at h
 split at h
 ·rename_i hk
  obtain rfl:=Option.some.inj h
  exact may_any a0_0 a0_1 A0_2 c0_2 l0_2 a0_3 a0_4 a0_5 a1 a2 w hk (isL_of_C hr0_2) hc0_2
 ·cases h
end Go.Proofs.Ytbelnopbggkdfaa.Q
end

section
namespace Go.Proofs.Ytbelnopbggkdfaa.Q
open Go.RowKit Go.Proofs.YtbelnopbggkdfaaW.PrintWords Go.Proofs.YtbelnopbggkdfaaW.PrintLast Go.Proofs.YtbelnopbggkdfaaW.PrintMore
attribute [local go_sem] max2_int min2_int max_two min_two max_three min_three max_four min_four   -- for this text's walks alone
set_option linter.unusedVariables false
set_option linter.unusedSimpArgs false
mutual
def circuit_Check.j0 : Nat→Bool→Int→Int→List (S46)→Option (Int × Int)
 | 0,_,_,_,_ => none
 | k + 1,x29,x127000,x127001,x127002 => if x29=true then (some ((-1),80)) else (circuit_Check.l0 k x127002 (x127002.length : Int) 0 x127000 x127001 x127002)
def circuit_Check.l0 : Nat→List (S46)→Int→Int→Int→Int→List (S46)→Option (Int × Int)
 | 0,_,_,_,_,_,_ => none
 | k + 1,x31,x32,x33,x127000,x127001,x127002 => if x33 < x32 then (if 0≤x33 then (if x33 < (x31.length : Int) then ((circuit_may.f ((rd_T46 x31 x33).f0) ((rd_T46 x31 x33).f1) ((rd_T46 x31 x33).f2) ((rd_T46 x31 x33).f3) ((rd_T46 x31 x33).f4) ((rd_T46 x31 x33).f5) x127000 x127001).bind fun t129 => (if t129=true then (circuit_Check.l0 k x31 x32 (wrap64 (x33 + 1)) x127000 x127001 x127002) else (some (x33,80)))) else (none)) else (none)) else (some (0,0))
end
def circuit_Check.f (k : Nat) (a0_0 : Int) (a0_1 : Int) (l0_2 : List (S46)) : Option (Int × Int):=if a0_0 < 0 then (circuit_Check.j0 k true a0_0 a0_1 l0_2) else (if a0_0 > 64 then (circuit_Check.j0 k true a0_0 a0_1 l0_2) else (if a0_1 < 0 then (circuit_Check.j0 k true a0_0 a0_1 l0_2) else (if a0_1 > 64 then (circuit_Check.j0 k true a0_0 a0_1 l0_2) else (circuit_Check.j0 k (decide ((l0_2.length : Int) > 4096)) a0_0 a0_1 l0_2))))
set_option maxHeartbeats 8000000 in
set_option maxRecDepth 100000 in
theorem circuit_Check.calls (k : Nat) (a0_0 : Int) (a0_1 : Int) (A0_2 : Option Addr) (c0_2 : Nat) (l0_2 : List (S46)) (r1 : Int) (r2 : Int) (w : World) (hr0_2 : Kd.C k46 w A0_2 l0_2.length l0_2) (hc0_2 : l0_2.length≤c0_2) (h : circuit_Check.f k a0_0 a0_1 l0_2=some (r1,r2)) :
  Calls Try.prog 75 #[.agg #[.int .i64 a0_0,.int .i64 a0_1,.slice A0_2 l0_2.length c0_2]] w fun e w' => e=.returned (.tuple #[.int .i64 r1,.int .i64 r2])∧Below w.heap.size w w':=by
 have hu24:=Try.underlying24
 have hu46:=Try.underlying46
 have HR0_2:=Aside0.mk hr0_2
 have HC0_2:=Aside0.mk hc0_2
 clear hr0_2 hc0_2
 have HB:=Aside0.mk (Below.refl w.heap.size w)
 have H : (if a0_0 < 0 then (circuit_Check.j0 k true a0_0 a0_1 l0_2) else (if a0_0 > 64 then (circuit_Check.j0 k true a0_0 a0_1 l0_2) else (if a0_1 < 0 then (circuit_Check.j0 k true a0_0 a0_1 l0_2) else (if a0_1 > 64 then (circuit_Check.j0 k true a0_0 a0_1 l0_2) else (circuit_Check.j0 k (decide ((l0_2.length : Int) > 4096)) a0_0 a0_1 l0_2)))))=some (r1,r2):=h
 clear h
 have HC2:=Aside0.mk H
 clear H
 go_enter Try.func75,Try.ntmps75
 go_upto_region 1 with (first|((with_reducible refine gate_dst (N:=1) rfl ?_);(try (refine gate_guard (by rfl) ?_;dsimp only));refine box_event ?hg (N:=1) ?hd (cs:=#[.int .i64 a0_0,.int .i64 a0_1,.slice A0_2 l0_2.length c0_2]) (t:=24) ?hr ?_;(case hd => rfl);(case hg => rfl);(case hr => first|(go_simp;done)|(go_simp;rfl));intro gb126 hg w3 hbox hb;have n0_:=Aside0.mk (below_step (by repeat (first|(with_reducible first|exact HB.out|apply below_alloc|apply pw_below_drewN|apply below_drew1)|exact HB.out)) hb);have n1_:=Aside0.mk (hbox);have n2_:=Aside0.mk ((by rw [hg];exact (below_size (by repeat (first|(with_reducible first|exact HB.out|apply below_alloc|apply pw_below_drewN|apply below_drew1)|exact HB.out))) : w.heap.size≤gb126));have n3_:=Aside0.mk ((by rw [hg];exact (below_size (by repeat (first|(with_reducible first|exact HB.out|apply below_alloc|apply pw_below_drewN|apply below_drew1)|exact HB.out))) : w.heap.size≤gb126));clear HB;have HB:=n0_;have BK126:=n1_;have GW126:=n2_;have GE126:=n3_;clear n0_ n1_ n2_ n3_;clear hb hbox hg))
 (try simp only [Act.put,List.setIfInBounds_toArray,List.set_cons_zero,List.set_cons_succ])
 go_cut [29] (fun v29 wc => ∃ (kq : Nat) (x29_1 : Bool),v29=.bool x29_1∧Aside0 (circuit_Check.j0 kq x29_1 a0_0 a0_1 l0_2=some (r1,r2))∧Aside0 (kq≤k)∧Aside0 (wc.heap[gb126]?=some (.cells #[.int .i64 a0_0,.int .i64 a0_1,(.slice A0_2 l0_2.length c0_2)] 24 (0,0)))∧Aside0 (Below w.heap.size w wc))
 case first =>
  have H:=HC2.out
  clear HC2
  by_cases c4 : a0_0 < 0
  ·rw [if_pos c4] at H
   have c4b0 : decide (a0_0 < 0)=true:=decide_eq_true c4
   clear c4
   (first|rw [c4b0]|(simp only [i64_w,i32_w];rw [c4b0])|skip)
   have H':=Aside0.mk H
   clear H
   have hcz5_0 : w3.cell? ⟨gb126,0,none⟩=some (.int .i64 a0_0):=(blk_cell BK126.out 0).trans rfl
   have hcz5_1 : w3.cell? ⟨gb126,1,none⟩=some (.int .i64 a0_1):=(blk_cell BK126.out 1).trans rfl
   have hcz5_2 : w3.cell? ⟨gb126,2,none⟩=some (.slice A0_2 l0_2.length c0_2):=(blk_cell BK126.out 2).trans rfl
   have hfz5_0:=blk_frozen BK126.out 0
   have hfz5_1:=blk_frozen BK126.out 1
   have hfz5_2:=blk_frozen BK126.out 2
   go_wp2
   go_meet
   case rel => exact ⟨_,(true),(by first|rfl|(simp;done)|(simp [*];done)),H',⟨by first|omega|exact Nat.le_refl _⟩,⟨by (with_reducible repeat (first|refine blk_drewN ?_ _|refine blk_drew ?_|refine blk_alloc ?_ _));exact BK126.out⟩,⟨by repeat (first|(with_reducible first|exact HB.out|apply below_alloc|apply pw_below_drewN|apply below_drew1|refine below_set ?_ GE126.out)|exact HB.out)⟩⟩
  ·rw [if_neg c4] at H
   have c4b0 : decide (a0_0 < 0)=false:=decide_eq_false c4
   clear c4
   (first|rw [c4b0]|(simp only [i64_w,i32_w];rw [c4b0])|skip)
   by_cases c6 : a0_0 > 64
   ·rw [if_pos c6] at H
    have c6b0 : decide (64 < a0_0)=true:=decide_eq_true c6
    clear c6
    have H':=Aside0.mk H
    clear H
    have hcz7_0 : w3.cell? ⟨gb126,0,none⟩=some (.int .i64 a0_0):=(blk_cell BK126.out 0).trans rfl
    have hcz7_1 : w3.cell? ⟨gb126,1,none⟩=some (.int .i64 a0_1):=(blk_cell BK126.out 1).trans rfl
    have hcz7_2 : w3.cell? ⟨gb126,2,none⟩=some (.slice A0_2 l0_2.length c0_2):=(blk_cell BK126.out 2).trans rfl
    have hfz7_0:=blk_frozen BK126.out 0
    have hfz7_1:=blk_frozen BK126.out 1
    have hfz7_2:=blk_frozen BK126.out 2
    go_wp2
    go_meet
    case rel => exact ⟨_,(true),(by first|rfl|(simp;done)|(simp [*];done)),H',⟨by first|omega|exact Nat.le_refl _⟩,⟨by (with_reducible repeat (first|refine blk_drewN ?_ _|refine blk_drew ?_|refine blk_alloc ?_ _));exact BK126.out⟩,⟨by repeat (first|(with_reducible first|exact HB.out|apply below_alloc|apply pw_below_drewN|apply below_drew1|refine below_set ?_ GE126.out)|exact HB.out)⟩⟩
   ·rw [if_neg c6] at H
    have c6b0 : decide (64 < a0_0)=false:=decide_eq_false c6
    clear c6
    by_cases c8 : a0_1 < 0
    ·rw [if_pos c8] at H
     have c8b0 : decide (a0_1 < 0)=true:=decide_eq_true c8
     clear c8
     have H':=Aside0.mk H
     clear H
     have hcz9_0 : w3.cell? ⟨gb126,0,none⟩=some (.int .i64 a0_0):=(blk_cell BK126.out 0).trans rfl
     have hcz9_1 : w3.cell? ⟨gb126,1,none⟩=some (.int .i64 a0_1):=(blk_cell BK126.out 1).trans rfl
     have hcz9_2 : w3.cell? ⟨gb126,2,none⟩=some (.slice A0_2 l0_2.length c0_2):=(blk_cell BK126.out 2).trans rfl
     have hfz9_0:=blk_frozen BK126.out 0
     have hfz9_1:=blk_frozen BK126.out 1
     have hfz9_2:=blk_frozen BK126.out 2
     go_wp2
     go_meet
     case rel => exact ⟨_,(true),(by first|rfl|(simp;done)|(simp [*];done)),H',⟨by first|omega|exact Nat.le_refl _⟩,⟨by (with_reducible repeat (first|refine blk_drewN ?_ _|refine blk_drew ?_|refine blk_alloc ?_ _));exact BK126.out⟩,⟨by repeat (first|(with_reducible first|exact HB.out|apply below_alloc|apply pw_below_drewN|apply below_drew1|refine below_set ?_ GE126.out)|exact HB.out)⟩⟩
    ·rw [if_neg c8] at H
     have c8b0 : decide (a0_1 < 0)=false:=decide_eq_false c8
     clear c8
     by_cases c10 : a0_1 > 64
     ·rw [if_pos c10] at H
      have c10b0 : decide (64 < a0_1)=true:=decide_eq_true c10
      clear c10
      have H':=Aside0.mk H
      clear H
      have hcz11_0 : w3.cell? ⟨gb126,0,none⟩=some (.int .i64 a0_0):=(blk_cell BK126.out 0).trans rfl
      have hcz11_1 : w3.cell? ⟨gb126,1,none⟩=some (.int .i64 a0_1):=(blk_cell BK126.out 1).trans rfl
      have hcz11_2 : w3.cell? ⟨gb126,2,none⟩=some (.slice A0_2 l0_2.length c0_2):=(blk_cell BK126.out 2).trans rfl
      have hfz11_0:=blk_frozen BK126.out 0
      have hfz11_1:=blk_frozen BK126.out 1
      have hfz11_2:=blk_frozen BK126.out 2
      go_wp2
      go_meet
      case rel => exact ⟨_,(true),(by first|rfl|(simp;done)|(simp [*];done)),H',⟨by first|omega|exact Nat.le_refl _⟩,⟨by (with_reducible repeat (first|refine blk_drewN ?_ _|refine blk_drew ?_|refine blk_alloc ?_ _));exact BK126.out⟩,⟨by repeat (first|(with_reducible first|exact HB.out|apply below_alloc|apply pw_below_drewN|apply below_drew1|refine below_set ?_ GE126.out)|exact HB.out)⟩⟩
     ·rw [if_neg c10] at H
      have c10b0 : decide (64 < a0_1)=false:=decide_eq_false c10
      clear c10
      have H':=Aside0.mk H
      clear H
      have hcz12_0 : w3.cell? ⟨gb126,0,none⟩=some (.int .i64 a0_0):=(blk_cell BK126.out 0).trans rfl
      have hcz12_1 : w3.cell? ⟨gb126,1,none⟩=some (.int .i64 a0_1):=(blk_cell BK126.out 1).trans rfl
      have hcz12_2 : w3.cell? ⟨gb126,2,none⟩=some (.slice A0_2 l0_2.length c0_2):=(blk_cell BK126.out 2).trans rfl
      have hfz12_0:=blk_frozen BK126.out 0
      have hfz12_1:=blk_frozen BK126.out 1
      have hfz12_2:=blk_frozen BK126.out 2
      go_wp2
      go_meet
      case rel => exact ⟨_,(decide ((l0_2.length : Int) > 4096)),(by first|rfl|(simp;done)|(simp [*];done)),H',⟨by first|omega|exact Nat.le_refl _⟩,⟨by (with_reducible repeat (first|refine blk_drewN ?_ _|refine blk_drew ?_|refine blk_alloc ?_ _));exact BK126.out⟩,⟨by repeat (first|(with_reducible first|exact HB.out|apply below_alloc|apply pw_below_drewN|apply below_drew1|refine below_set ?_ GE126.out)|exact HB.out)⟩⟩
 case rest =>
  clear HC2
  try clear c1
  try clear p2
  try clear c4
  try clear c4b0
  try clear c6
  try clear c6b0
  try clear c7
  try clear c8
  try clear c8b0
  try clear c10
  try clear c10b0
  try clear hcz11_0
  try clear hcz11_1
  try clear hcz11_2
  try clear hcz12_0
  try clear hcz12_1
  try clear hcz12_2
  try clear hcz5_0
  try clear hcz5_1
  try clear hcz5_2
  try clear hcz7_0
  try clear hcz7_1
  try clear hcz7_2
  try clear hcz9_0
  try clear hcz9_1
  try clear hcz9_2
  try clear hfz11_0
  try clear hfz11_1
  try clear hfz11_2
  try clear hfz12_0
  try clear hfz12_1
  try clear hfz12_2
  try clear hfz5_0
  try clear hfz5_1
  try clear hfz5_2
  try clear hfz7_0
  try clear hfz7_1
  try clear hfz7_2
  try clear hfz9_0
  try clear hfz9_1
  try clear hfz9_2
  obtain ⟨kq,x29_1,rfl,HA,HJ1,BK126,HB⟩:=hcut
  cases kq with
  | zero => exact absurd HA.out (by simp [circuit_Check.j0])
  | succ kj1 =>
   have H:=HA.out
   clear HA
   simp only [circuit_Check.j0] at H
   by_cases c13 : x29_1=true
   ·subst c13
    have H1 : (some ((-1),80))=some (r1,r2):=by rw [if_pos rfl] at H;exact H
    clear H
    have H:=H1
    clear H1
    simp only [Option.some.injEq,Prod.mk.injEq] at H
    obtain ⟨rfl,rfl⟩:=H
    go_wp2
    go_ret2
    exact ⟨by first|rfl|(simp [errW_none,errW_some] <;> rfl)|(simp [*,errW_none,errW_some] <;> rfl),by repeat (first|(with_reducible first|exact HB.out|apply below_alloc|apply pw_below_drewN|apply below_drew1|refine below_set ?_ GE126.out)|exact HB.out)⟩
   ·replace c13:=Bool.eq_false_iff.mpr c13
    subst c13
    have H1 : (circuit_Check.l0 kj1 l0_2 (l0_2.length : Int) 0 a0_0 a0_1 l0_2)=some (r1,r2):=by rw [if_neg (show ¬ (false=true) by decide)] at H;exact H
    clear H
    have H:=H1
    clear H1
    have H':=Aside0.mk H
    clear H
    have hcz14_0 : wc.cell? ⟨gb126,0,none⟩=some (.int .i64 a0_0):=(blk_cell BK126.out 0).trans rfl
    have hcz14_1 : wc.cell? ⟨gb126,1,none⟩=some (.int .i64 a0_1):=(blk_cell BK126.out 1).trans rfl
    have hcz14_2 : wc.cell? ⟨gb126,2,none⟩=some (.slice A0_2 l0_2.length c0_2):=(blk_cell BK126.out 2).trans rfl
    have hfz14_0:=blk_frozen BK126.out 0
    have hfz14_1:=blk_frozen BK126.out 1
    have hfz14_2:=blk_frozen BK126.out 2
    go_wp2
    go_loopg [33] kj1 (fun kq v33 w' => ∃ (x33_2 : Int),v33=.int .i64 x33_2∧Aside0 (circuit_Check.l0 kq l0_2 (l0_2.length : Int) x33_2 a0_0 a0_1 l0_2=some (r1,r2))∧Aside0 (kq≤kj1)∧Aside0 (w'.heap[gb126]?=some (.cells #[.int .i64 a0_0,.int .i64 a0_1,(.slice A0_2 l0_2.length c0_2)] 24 (0,0)))∧Aside0 (Below w.heap.size w w'))
    case atStart => exact ⟨(0),(by first|rfl|(simp;done)|(simp [*];done)),H',⟨Nat.le_refl _⟩,⟨by (with_reducible repeat (first|refine blk_drewN ?_ _|refine blk_drew ?_|refine blk_alloc ?_ _));exact BK126.out⟩,⟨by repeat (first|(with_reducible first|exact HB.out|apply below_alloc|apply pw_below_drewN|apply below_drew1|refine below_set ?_ GE126.out)|exact HB.out)⟩⟩
    case round =>
     clear H'
     try clear c1
     try clear p2
     try clear c4
     try clear c4b0
     try clear c6
     try clear c6b0
     try clear c7
     try clear c8
     try clear c8b0
     try clear c10
     try clear c10b0
     try clear c13
     try clear hcz11_0
     try clear hcz11_1
     try clear hcz11_2
     try clear hcz12_0
     try clear hcz12_1
     try clear hcz12_2
     try clear hcz14_0
     try clear hcz14_1
     try clear hcz14_2
     try clear hcz5_0
     try clear hcz5_1
     try clear hcz5_2
     try clear hcz7_0
     try clear hcz7_1
     try clear hcz7_2
     try clear hcz9_0
     try clear hcz9_1
     try clear hcz9_2
     try clear hfz11_0
     try clear hfz11_1
     try clear hfz11_2
     try clear hfz12_0
     try clear hfz12_1
     try clear hfz12_2
     try clear hfz14_0
     try clear hfz14_1
     try clear hfz14_2
     try clear hfz5_0
     try clear hfz5_1
     try clear hfz5_2
     try clear hfz7_0
     try clear hfz7_1
     try clear hfz7_2
     try clear hfz9_0
     try clear hfz9_1
     try clear hfz9_2
     try clear p2
     obtain ⟨x33_2,rfl,HA,HK2,BK126,HB⟩:=hrel
     cases gk with
     | zero => exact absurd HA.out (by simp [circuit_Check.l0])
     | succ k2 =>
      have H:=HA.out
      clear HA
      simp only [circuit_Check.l0] at H
      by_cases c15 : x33_2 < (l0_2.length : Int)
      ·rw [if_pos c15] at H
       have c15b0 : decide (x33_2 < (l0_2.length : Int))=true:=decide_eq_true c15
       clear c15
       by_cases c16 : 0≤x33_2
       ·rw [if_pos c16] at H
        have c16b0 : decide (0≤x33_2)=true:=decide_eq_true c16
        clear c16
        by_cases c17 : x33_2 < (l0_2.length : Int)
        ·rw [if_pos c17] at H
         have c17b0 : decide (x33_2 < (l0_2.length : Int))=true:=decide_eq_true c17
         clear c17
         replace H:=Option.bind_eq_some_iff.mp H
         obtain ⟨t129,A180,H⟩:=H
         replace H : (if t129=true then (circuit_Check.l0 k2 l0_2 (l0_2.length : Int) (wrap64 (x33_2 + 1)) a0_0 a0_1 l0_2) else (some (x33_2,80)))=some (r1,r2):=H
         have A18:=Aside0.mk A180
         clear A180
         by_cases c19 : t129=true
         ·subst c19
          have H1 : (circuit_Check.l0 k2 l0_2 (l0_2.length : Int) (wrap64 (x33_2 + 1)) a0_0 a0_1 l0_2)=some (r1,r2):=by rw [if_pos rfl] at H;exact H
          clear H
          have H:=H1
          clear H1
          have H':=Aside0.mk H
          clear H
          have p127 : 0≤(x33_2 : Int):=of_decide_eq_true (by first|(with_reducible assumption)|assumption)
          have q127 : x33_2 < (l0_2.length : Int):=of_decide_eq_true (by first|(with_reducible assumption)|assumption)
          obtain ⟨ad127,A127_2,c127_2,e127,hx127_0,hx127_1,hx127_2,hx127_3,hx127_4,hx127_5,hl127_2,hi127_2⟩:=at_T46 HR0_2.out x33_2 p127 q127
          cases e127
          replace hx127_0:=(HB.out.cell (World.block_lt_of_cell? w _ hx127_0)).trans hx127_0
          replace hx127_1:=(HB.out.cell (World.block_lt_of_cell? w _ hx127_1)).trans hx127_1
          replace hx127_2:=(HB.out.cell (World.block_lt_of_cell? w _ hx127_2)).trans hx127_2
          replace hx127_3:=(HB.out.cell (World.block_lt_of_cell? w _ hx127_3)).trans hx127_3
          replace hx127_4:=(HB.out.cell (World.block_lt_of_cell? w _ hx127_4)).trans hx127_4
          replace hx127_5:=(HB.out.cell (World.block_lt_of_cell? w _ hx127_5)).trans hx127_5
          have HR127_2:=Aside0.mk hi127_2
          have HC127_2:=Aside0.mk hl127_2
          clear hi127_2 hl127_2
          replace p127:=eq_true p127
          replace q127:=eq_true q127
          go_wp2_with (first|((with_reducible refine gate_dst (N:=5) rfl ?_);(try (refine gate_guard (by rfl) ?_;dsimp only));refine box_event ?hg (N:=5) ?hd (cs:=#[.int .i64 0,.int .i64 0,.slice none 0 0,.int .i64 0,.int .i64 0,.int .i64 0]) (t:=46) ?hr ?_;(case hd => rfl);(case hg => rfl);(case hr => first|(go_simp;done)|(go_simp;rfl));intro gb128 hg w20 hbox hb;have n0_:=Aside0.mk (blk_below (g:=gb126) (o:=.cells #[.int .i64 a0_0,.int .i64 a0_1,.slice (some ad127) l0_2.length c0_2] 24 (0,0)) (by (with_reducible repeat (first|refine blk_drewN ?_ _|refine blk_drew ?_|refine blk_alloc ?_ _));exact BK126.out) hb);have n1_:=Aside0.mk (below_step (by repeat (first|(with_reducible first|exact HB.out|apply below_alloc|apply pw_below_drewN|apply below_drew1|refine below_set ?_ GE126.out)|exact HB.out)) hb);have n2_:=Aside0.mk (hbox);have n3_:=Aside0.mk ((by rw [hg];exact (below_size (by repeat (first|(with_reducible first|exact HB.out|apply below_alloc|apply pw_below_drewN|apply below_drew1|refine below_set ?_ GE126.out)|exact HB.out))) : w.heap.size≤gb128));have n4_:=Aside0.mk ((by rw [hg];exact (below_size (by repeat (first|(with_reducible first|exact HB.out|apply below_alloc|apply pw_below_drewN|apply below_drew1|refine below_set ?_ GE126.out)|exact HB.out))) : w.heap.size≤gb128));have n5_:=Aside0.mk ((by rw [hg];exact Nat.ne_of_lt (blk_lt (g:=gb126) (o:=.cells #[.int .i64 a0_0,.int .i64 a0_1,.slice (some ad127) l0_2.length c0_2] 24 (0,0)) (by (with_reducible repeat (first|refine blk_drewN ?_ _|refine blk_drew ?_|refine blk_alloc ?_ _));exact BK126.out)) : gb126≠gb128));have n6_:=Aside0.mk ((by rw [hg];exact Nat.ne_of_gt (blk_lt (g:=gb126) (o:=.cells #[.int .i64 a0_0,.int .i64 a0_1,.slice (some ad127) l0_2.length c0_2] 24 (0,0)) (by (with_reducible repeat (first|refine blk_drewN ?_ _|refine blk_drew ?_|refine blk_alloc ?_ _));exact BK126.out)) : gb128≠gb126));clear BK126;clear HB;have BK126:=n0_;have HB:=n1_;have BK128:=n2_;have GW128:=n3_;have GE128:=n4_;have NB126_128:=n5_;have NB128_126:=n6_;clear n0_ n1_ n2_ n3_ n4_ n5_ n6_;clear hb hbox hg;have hnb21:=NB128_126.out;have hnc21:=NB126_128.out;have hcz22_0 : w20.cell? ⟨gb128,0,none⟩=some (.int .i64 0):=(blk_cell BK128.out 0).trans rfl;have hcz22_1 : w20.cell? ⟨gb128,1,none⟩=some (.int .i64 0):=(blk_cell BK128.out 1).trans rfl;have hcz22_2 : w20.cell? ⟨gb128,2,none⟩=some (.slice none 0 0):=(blk_cell BK128.out 2).trans rfl;have hcz22_3 : w20.cell? ⟨gb128,3,none⟩=some (.int .i64 0):=(blk_cell BK128.out 3).trans rfl;have hcz22_4 : w20.cell? ⟨gb128,4,none⟩=some (.int .i64 0):=(blk_cell BK128.out 4).trans rfl;have hcz22_5 : w20.cell? ⟨gb128,5,none⟩=some (.int .i64 0):=(blk_cell BK128.out 5).trans rfl;have hfz22_0:=blk_frozen BK128.out 0;have hfz22_1:=blk_frozen BK128.out 1;have hfz22_2:=blk_frozen BK128.out 2;have hfz22_3:=blk_frozen BK128.out 3;have hfz22_4:=blk_frozen BK128.out 4;have hfz22_5:=blk_frozen BK128.out 5;have hcz23_0 : w20.cell? ⟨gb126,0,none⟩=some (.int .i64 a0_0):=(blk_cell BK126.out 0).trans rfl;have hcz23_1 : w20.cell? ⟨gb126,1,none⟩=some (.int .i64 a0_1):=(blk_cell BK126.out 1).trans rfl;have hcz23_2 : w20.cell? ⟨gb126,2,none⟩=some (.slice (some ad127) l0_2.length c0_2):=(blk_cell BK126.out 2).trans rfl;have hfz23_0:=blk_frozen BK126.out 0;have hfz23_1:=blk_frozen BK126.out 1;have hfz23_2:=blk_frozen BK126.out 2)|((with_reducible refine gate_callee (f:=89) rfl ?_);refine goesL_ (some 43) rfl rfl Try.func89 (by kernel_rfl) rfl #[.agg #[.int .i64 ((rd_T46 l0_2 x33_2).f0),.int .i64 ((rd_T46 l0_2 x33_2).f1),.slice A127_2 ((rd_T46 l0_2 x33_2).f2).length c127_2,.int .i64 ((rd_T46 l0_2 x33_2).f3),.int .i64 ((rd_T46 l0_2 x33_2).f4),.int .i64 ((rd_T46 l0_2 x33_2).f5)],.int .i64 a0_0,.int .i64 a0_1] rfl (by (try simp only [List.map_toArray,List.map_cons,List.map_nil]);first|done|rfl|(simp only [List.length_drop,List.length_take];rfl)) ?_;(with_reducible refine (circuit_may.calls ((rd_T46 l0_2 x33_2).f0) ((rd_T46 l0_2 x33_2).f1) _ _ ((rd_T46 l0_2 x33_2).f2) ((rd_T46 l0_2 x33_2).f3) ((rd_T46 l0_2 x33_2).f4) ((rd_T46 l0_2 x33_2).f5) a0_0 a0_1 true _ ?side1 ?side2 A18.out).mono ?_);(case side1 => exact Kd.C_below HR127_2.out (by repeat (first|(with_reducible first|exact HB.out|apply below_alloc|apply pw_below_drewN|apply below_drew1|refine below_set ?_ GE126.out|refine below_set ?_ GE128.out)|exact HB.out)));(case side2 => exact HC127_2.out);rintro e w24 ⟨rfl,hb⟩;refine ⟨_,rfl,?_⟩;have n0_:=Aside0.mk (blk_below (g:=gb126) (o:=.cells #[.int .i64 a0_0,.int .i64 a0_1,.slice (some ad127) l0_2.length c0_2] 24 (0,0)) (by (with_reducible repeat (first|refine blk_drewN ?_ _|refine blk_drew ?_|refine blk_alloc ?_ _));refine blk_far ?_ NB126_128.out _;(with_reducible repeat (first|refine blk_drewN ?_ _|refine blk_drew ?_|refine blk_alloc ?_ _));refine blk_far ?_ NB126_128.out _;(with_reducible repeat (first|refine blk_drewN ?_ _|refine blk_drew ?_|refine blk_alloc ?_ _));refine blk_far ?_ NB126_128.out _;(with_reducible repeat (first|refine blk_drewN ?_ _|refine blk_drew ?_|refine blk_alloc ?_ _));refine blk_far ?_ NB126_128.out _;(with_reducible repeat (first|refine blk_drewN ?_ _|refine blk_drew ?_|refine blk_alloc ?_ _));refine blk_far ?_ NB126_128.out _;(with_reducible repeat (first|refine blk_drewN ?_ _|refine blk_drew ?_|refine blk_alloc ?_ _));refine blk_far ?_ NB126_128.out _;(with_reducible repeat (first|refine blk_drewN ?_ _|refine blk_drew ?_|refine blk_alloc ?_ _));exact BK126.out) hb);have n1_:=Aside0.mk (blk_below (g:=gb128) (o:=.cells #[.int .i64 ((rd_T46 l0_2 x33_2).f0),.int .i64 ((rd_T46 l0_2 x33_2).f1),.slice A127_2 ((rd_T46 l0_2 x33_2).f2).length c127_2,.int .i64 ((rd_T46 l0_2 x33_2).f3),.int .i64 ((rd_T46 l0_2 x33_2).f4),.int .i64 ((rd_T46 l0_2 x33_2).f5)] 46 (0,0)) (by (with_reducible repeat (first|refine blk_drewN ?_ _|refine blk_drew ?_|refine blk_alloc ?_ _));refine blk_put (cs:=#[.int .i64 ((rd_T46 l0_2 x33_2).f0),.int .i64 ((rd_T46 l0_2 x33_2).f1),.slice A127_2 ((rd_T46 l0_2 x33_2).f2).length c127_2,.int .i64 ((rd_T46 l0_2 x33_2).f3),.int .i64 ((rd_T46 l0_2 x33_2).f4),.int .i64 0]) ?_ 5 _ rfl;(with_reducible repeat (first|refine blk_drewN ?_ _|refine blk_drew ?_|refine blk_alloc ?_ _));refine blk_put (cs:=#[.int .i64 ((rd_T46 l0_2 x33_2).f0),.int .i64 ((rd_T46 l0_2 x33_2).f1),.slice A127_2 ((rd_T46 l0_2 x33_2).f2).length c127_2,.int .i64 ((rd_T46 l0_2 x33_2).f3),.int .i64 0,.int .i64 0]) ?_ 4 _ rfl;(with_reducible repeat (first|refine blk_drewN ?_ _|refine blk_drew ?_|refine blk_alloc ?_ _));refine blk_put (cs:=#[.int .i64 ((rd_T46 l0_2 x33_2).f0),.int .i64 ((rd_T46 l0_2 x33_2).f1),.slice A127_2 ((rd_T46 l0_2 x33_2).f2).length c127_2,.int .i64 0,.int .i64 0,.int .i64 0]) ?_ 3 _ rfl;(with_reducible repeat (first|refine blk_drewN ?_ _|refine blk_drew ?_|refine blk_alloc ?_ _));refine blk_put (cs:=#[.int .i64 ((rd_T46 l0_2 x33_2).f0),.int .i64 ((rd_T46 l0_2 x33_2).f1),.slice none 0 0,.int .i64 0,.int .i64 0,.int .i64 0]) ?_ 2 _ rfl;(with_reducible repeat (first|refine blk_drewN ?_ _|refine blk_drew ?_|refine blk_alloc ?_ _));refine blk_put (cs:=#[.int .i64 ((rd_T46 l0_2 x33_2).f0),.int .i64 0,.slice none 0 0,.int .i64 0,.int .i64 0,.int .i64 0]) ?_ 1 _ rfl;(with_reducible repeat (first|refine blk_drewN ?_ _|refine blk_drew ?_|refine blk_alloc ?_ _));refine blk_put (cs:=#[.int .i64 0,.int .i64 0,.slice none 0 0,.int .i64 0,.int .i64 0,.int .i64 0]) ?_ 0 _ rfl;(with_reducible repeat (first|refine blk_drewN ?_ _|refine blk_drew ?_|refine blk_alloc ?_ _));exact BK128.out) hb);have n2_:=Aside0.mk (below_step (by repeat (first|(with_reducible first|exact HB.out|apply below_alloc|apply pw_below_drewN|apply below_drew1|refine below_set ?_ GE126.out|refine below_set ?_ GE128.out)|exact HB.out)) hb);clear BK126;clear BK128;clear HB;have BK126:=n0_;have BK128:=n1_;have HB:=n2_;clear n0_ n1_ n2_;(try clear hb);(try clear hb2);(try clear hk);(try clear hi)))
          go_roundg k2
          case measure => have:=HJ1.out;have:=HK2.out;omega
          case rel => exact ⟨(wrap64 (x33_2 + 1)),(by first|rfl|(simp;done)|(simp [*];done)),H',⟨by have:=HJ1.out;have:=HK2.out;omega⟩,⟨by (with_reducible repeat (first|refine blk_drewN ?_ _|refine blk_drew ?_|refine blk_alloc ?_ _));exact BK126.out⟩,⟨by repeat (first|(with_reducible first|exact HB.out|apply below_alloc|apply pw_below_drewN|apply below_drew1|refine below_set ?_ GE126.out|refine below_set ?_ GE128.out)|exact HB.out)⟩⟩
         ·replace c19:=Bool.eq_false_iff.mpr c19
          subst c19
          have H1 : (some (x33_2,80))=some (r1,r2):=by rw [if_neg (show ¬ (false=true) by decide)] at H;exact H
          clear H
          have H:=H1
          clear H1
          simp only [Option.some.injEq,Prod.mk.injEq] at H
          obtain ⟨rfl,rfl⟩:=H
          have p127 : 0≤(x33_2 : Int):=of_decide_eq_true (by first|(with_reducible assumption)|assumption)
          have q127 : x33_2 < (l0_2.length : Int):=of_decide_eq_true (by first|(with_reducible assumption)|assumption)
          obtain ⟨ad127,A127_2,c127_2,e127,hx127_0,hx127_1,hx127_2,hx127_3,hx127_4,hx127_5,hl127_2,hi127_2⟩:=at_T46 HR0_2.out x33_2 p127 q127
          cases e127
          replace hx127_0:=(HB.out.cell (World.block_lt_of_cell? w _ hx127_0)).trans hx127_0
          replace hx127_1:=(HB.out.cell (World.block_lt_of_cell? w _ hx127_1)).trans hx127_1
          replace hx127_2:=(HB.out.cell (World.block_lt_of_cell? w _ hx127_2)).trans hx127_2
          replace hx127_3:=(HB.out.cell (World.block_lt_of_cell? w _ hx127_3)).trans hx127_3
          replace hx127_4:=(HB.out.cell (World.block_lt_of_cell? w _ hx127_4)).trans hx127_4
          replace hx127_5:=(HB.out.cell (World.block_lt_of_cell? w _ hx127_5)).trans hx127_5
          have HR127_2:=Aside0.mk hi127_2
          have HC127_2:=Aside0.mk hl127_2
          clear hi127_2 hl127_2
          replace p127:=eq_true p127
          replace q127:=eq_true q127
          go_wp2_with (first|((with_reducible refine gate_dst (N:=5) rfl ?_);(try (refine gate_guard (by rfl) ?_;dsimp only));refine box_event ?hg (N:=5) ?hd (cs:=#[.int .i64 0,.int .i64 0,.slice none 0 0,.int .i64 0,.int .i64 0,.int .i64 0]) (t:=46) ?hr ?_;(case hd => rfl);(case hg => rfl);(case hr => first|(go_simp;done)|(go_simp;rfl));intro gb128 hg w25 hbox hb;have n0_:=Aside0.mk (blk_below (g:=gb126) (o:=.cells #[.int .i64 a0_0,.int .i64 a0_1,.slice (some ad127) l0_2.length c0_2] 24 (0,0)) (by (with_reducible repeat (first|refine blk_drewN ?_ _|refine blk_drew ?_|refine blk_alloc ?_ _));exact BK126.out) hb);have n1_:=Aside0.mk (below_step (by repeat (first|(with_reducible first|exact HB.out|apply below_alloc|apply pw_below_drewN|apply below_drew1|refine below_set ?_ GE126.out)|exact HB.out)) hb);have n2_:=Aside0.mk (hbox);have n3_:=Aside0.mk ((by rw [hg];exact (below_size (by repeat (first|(with_reducible first|exact HB.out|apply below_alloc|apply pw_below_drewN|apply below_drew1|refine below_set ?_ GE126.out)|exact HB.out))) : w.heap.size≤gb128));have n4_:=Aside0.mk ((by rw [hg];exact (below_size (by repeat (first|(with_reducible first|exact HB.out|apply below_alloc|apply pw_below_drewN|apply below_drew1|refine below_set ?_ GE126.out)|exact HB.out))) : w.heap.size≤gb128));have n5_:=Aside0.mk ((by rw [hg];exact Nat.ne_of_lt (blk_lt (g:=gb126) (o:=.cells #[.int .i64 a0_0,.int .i64 a0_1,.slice (some ad127) l0_2.length c0_2] 24 (0,0)) (by (with_reducible repeat (first|refine blk_drewN ?_ _|refine blk_drew ?_|refine blk_alloc ?_ _));exact BK126.out)) : gb126≠gb128));have n6_:=Aside0.mk ((by rw [hg];exact Nat.ne_of_gt (blk_lt (g:=gb126) (o:=.cells #[.int .i64 a0_0,.int .i64 a0_1,.slice (some ad127) l0_2.length c0_2] 24 (0,0)) (by (with_reducible repeat (first|refine blk_drewN ?_ _|refine blk_drew ?_|refine blk_alloc ?_ _));exact BK126.out)) : gb128≠gb126));clear BK126;clear HB;have BK126:=n0_;have HB:=n1_;have BK128:=n2_;have GW128:=n3_;have GE128:=n4_;have NB126_128:=n5_;have NB128_126:=n6_;clear n0_ n1_ n2_ n3_ n4_ n5_ n6_;clear hb hbox hg;have hnb26:=NB128_126.out;have hnc26:=NB126_128.out;have hcz27_0 : w25.cell? ⟨gb128,0,none⟩=some (.int .i64 0):=(blk_cell BK128.out 0).trans rfl;have hcz27_1 : w25.cell? ⟨gb128,1,none⟩=some (.int .i64 0):=(blk_cell BK128.out 1).trans rfl;have hcz27_2 : w25.cell? ⟨gb128,2,none⟩=some (.slice none 0 0):=(blk_cell BK128.out 2).trans rfl;have hcz27_3 : w25.cell? ⟨gb128,3,none⟩=some (.int .i64 0):=(blk_cell BK128.out 3).trans rfl;have hcz27_4 : w25.cell? ⟨gb128,4,none⟩=some (.int .i64 0):=(blk_cell BK128.out 4).trans rfl;have hcz27_5 : w25.cell? ⟨gb128,5,none⟩=some (.int .i64 0):=(blk_cell BK128.out 5).trans rfl;have hfz27_0:=blk_frozen BK128.out 0;have hfz27_1:=blk_frozen BK128.out 1;have hfz27_2:=blk_frozen BK128.out 2;have hfz27_3:=blk_frozen BK128.out 3;have hfz27_4:=blk_frozen BK128.out 4;have hfz27_5:=blk_frozen BK128.out 5;have hcz28_0 : w25.cell? ⟨gb126,0,none⟩=some (.int .i64 a0_0):=(blk_cell BK126.out 0).trans rfl;have hcz28_1 : w25.cell? ⟨gb126,1,none⟩=some (.int .i64 a0_1):=(blk_cell BK126.out 1).trans rfl;have hcz28_2 : w25.cell? ⟨gb126,2,none⟩=some (.slice (some ad127) l0_2.length c0_2):=(blk_cell BK126.out 2).trans rfl;have hfz28_0:=blk_frozen BK126.out 0;have hfz28_1:=blk_frozen BK126.out 1;have hfz28_2:=blk_frozen BK126.out 2)|((with_reducible refine gate_callee (f:=89) rfl ?_);refine goesL_ (some 43) rfl rfl Try.func89 (by kernel_rfl) rfl #[.agg #[.int .i64 ((rd_T46 l0_2 x33_2).f0),.int .i64 ((rd_T46 l0_2 x33_2).f1),.slice A127_2 ((rd_T46 l0_2 x33_2).f2).length c127_2,.int .i64 ((rd_T46 l0_2 x33_2).f3),.int .i64 ((rd_T46 l0_2 x33_2).f4),.int .i64 ((rd_T46 l0_2 x33_2).f5)],.int .i64 a0_0,.int .i64 a0_1] rfl (by (try simp only [List.map_toArray,List.map_cons,List.map_nil]);first|done|rfl|(simp only [List.length_drop,List.length_take];rfl)) ?_;(with_reducible refine (circuit_may.calls ((rd_T46 l0_2 x33_2).f0) ((rd_T46 l0_2 x33_2).f1) _ _ ((rd_T46 l0_2 x33_2).f2) ((rd_T46 l0_2 x33_2).f3) ((rd_T46 l0_2 x33_2).f4) ((rd_T46 l0_2 x33_2).f5) a0_0 a0_1 false _ ?side1 ?side2 A18.out).mono ?_);(case side1 => exact Kd.C_below HR127_2.out (by repeat (first|(with_reducible first|exact HB.out|apply below_alloc|apply pw_below_drewN|apply below_drew1|refine below_set ?_ GE126.out|refine below_set ?_ GE128.out)|exact HB.out)));(case side2 => exact HC127_2.out);rintro e w29 ⟨rfl,hb⟩;refine ⟨_,rfl,?_⟩;have n0_:=Aside0.mk (blk_below (g:=gb126) (o:=.cells #[.int .i64 a0_0,.int .i64 a0_1,.slice (some ad127) l0_2.length c0_2] 24 (0,0)) (by (with_reducible repeat (first|refine blk_drewN ?_ _|refine blk_drew ?_|refine blk_alloc ?_ _));refine blk_far ?_ NB126_128.out _;(with_reducible repeat (first|refine blk_drewN ?_ _|refine blk_drew ?_|refine blk_alloc ?_ _));refine blk_far ?_ NB126_128.out _;(with_reducible repeat (first|refine blk_drewN ?_ _|refine blk_drew ?_|refine blk_alloc ?_ _));refine blk_far ?_ NB126_128.out _;(with_reducible repeat (first|refine blk_drewN ?_ _|refine blk_drew ?_|refine blk_alloc ?_ _));refine blk_far ?_ NB126_128.out _;(with_reducible repeat (first|refine blk_drewN ?_ _|refine blk_drew ?_|refine blk_alloc ?_ _));refine blk_far ?_ NB126_128.out _;(with_reducible repeat (first|refine blk_drewN ?_ _|refine blk_drew ?_|refine blk_alloc ?_ _));refine blk_far ?_ NB126_128.out _;(with_reducible repeat (first|refine blk_drewN ?_ _|refine blk_drew ?_|refine blk_alloc ?_ _));exact BK126.out) hb);have n1_:=Aside0.mk (blk_below (g:=gb128) (o:=.cells #[.int .i64 ((rd_T46 l0_2 x33_2).f0),.int .i64 ((rd_T46 l0_2 x33_2).f1),.slice A127_2 ((rd_T46 l0_2 x33_2).f2).length c127_2,.int .i64 ((rd_T46 l0_2 x33_2).f3),.int .i64 ((rd_T46 l0_2 x33_2).f4),.int .i64 ((rd_T46 l0_2 x33_2).f5)] 46 (0,0)) (by (with_reducible repeat (first|refine blk_drewN ?_ _|refine blk_drew ?_|refine blk_alloc ?_ _));refine blk_put (cs:=#[.int .i64 ((rd_T46 l0_2 x33_2).f0),.int .i64 ((rd_T46 l0_2 x33_2).f1),.slice A127_2 ((rd_T46 l0_2 x33_2).f2).length c127_2,.int .i64 ((rd_T46 l0_2 x33_2).f3),.int .i64 ((rd_T46 l0_2 x33_2).f4),.int .i64 0]) ?_ 5 _ rfl;(with_reducible repeat (first|refine blk_drewN ?_ _|refine blk_drew ?_|refine blk_alloc ?_ _));refine blk_put (cs:=#[.int .i64 ((rd_T46 l0_2 x33_2).f0),.int .i64 ((rd_T46 l0_2 x33_2).f1),.slice A127_2 ((rd_T46 l0_2 x33_2).f2).length c127_2,.int .i64 ((rd_T46 l0_2 x33_2).f3),.int .i64 0,.int .i64 0]) ?_ 4 _ rfl;(with_reducible repeat (first|refine blk_drewN ?_ _|refine blk_drew ?_|refine blk_alloc ?_ _));refine blk_put (cs:=#[.int .i64 ((rd_T46 l0_2 x33_2).f0),.int .i64 ((rd_T46 l0_2 x33_2).f1),.slice A127_2 ((rd_T46 l0_2 x33_2).f2).length c127_2,.int .i64 0,.int .i64 0,.int .i64 0]) ?_ 3 _ rfl;(with_reducible repeat (first|refine blk_drewN ?_ _|refine blk_drew ?_|refine blk_alloc ?_ _));refine blk_put (cs:=#[.int .i64 ((rd_T46 l0_2 x33_2).f0),.int .i64 ((rd_T46 l0_2 x33_2).f1),.slice none 0 0,.int .i64 0,.int .i64 0,.int .i64 0]) ?_ 2 _ rfl;(with_reducible repeat (first|refine blk_drewN ?_ _|refine blk_drew ?_|refine blk_alloc ?_ _));refine blk_put (cs:=#[.int .i64 ((rd_T46 l0_2 x33_2).f0),.int .i64 0,.slice none 0 0,.int .i64 0,.int .i64 0,.int .i64 0]) ?_ 1 _ rfl;(with_reducible repeat (first|refine blk_drewN ?_ _|refine blk_drew ?_|refine blk_alloc ?_ _));refine blk_put (cs:=#[.int .i64 0,.int .i64 0,.slice none 0 0,.int .i64 0,.int .i64 0,.int .i64 0]) ?_ 0 _ rfl;(with_reducible repeat (first|refine blk_drewN ?_ _|refine blk_drew ?_|refine blk_alloc ?_ _));exact BK128.out) hb);have n2_:=Aside0.mk (below_step (by repeat (first|(with_reducible first|exact HB.out|apply below_alloc|apply pw_below_drewN|apply below_drew1|refine below_set ?_ GE126.out|refine below_set ?_ GE128.out)|exact HB.out)) hb);clear BK126;clear BK128;clear HB;have BK126:=n0_;have BK128:=n1_;have HB:=n2_;clear n0_ n1_ n2_;(try clear hb);(try clear hb2);(try clear hk);(try clear hi)))
          go_ret2
          exact ⟨by first|rfl|(simp [errW_none,errW_some] <;> rfl)|(simp [*,errW_none,errW_some] <;> rfl),by repeat (first|(with_reducible first|exact HB.out|apply below_alloc|apply pw_below_drewN|apply below_drew1|refine below_set ?_ GE126.out|refine below_set ?_ GE128.out)|exact HB.out)⟩
        ·rw [if_neg c17] at H
         exact absurd H (by simp)
       ·rw [if_neg c16] at H
        exact absurd H (by simp)
      ·rw [if_neg c15] at H
       have c15b0 : decide (x33_2 < (l0_2.length : Int))=false:=decide_eq_false c15
       clear c15
       simp only [Option.some.injEq,Prod.mk.injEq] at H
       obtain ⟨rfl,rfl⟩:=H
       go_wp2
       go_ret2
       exact ⟨by first|rfl|(simp [errW_none,errW_some] <;> rfl)|(simp [*,errW_none,errW_some] <;> rfl),by repeat (first|(with_reducible first|exact HB.out|apply below_alloc|apply pw_below_drewN|apply below_drew1|refine below_set ?_ GE126.out)|exact HB.out)⟩
end Go.Proofs.Ytbelnopbggkdfaa.Q
end

section
namespace Go.Proofs.Ytbelnopbggkdfaa.Q
open Go.RowKit Go.Proofs.YtbelnopbggkdfaaW.PrintWords Go.Proofs.YtbelnopbggkdfaaW.PrintLast Go.Proofs.YtbelnopbggkdfaaW.PrintMore
attribute [local go_sem] max2_int min2_int max_two min_two max_three min_three max_four min_four   -- for this text's walks alone
set_option linter.unusedVariables false
set_option linter.unusedSimpArgs false
def slices_Clone_int_int.f (l0 : List Int) : Option (List Int):=if l0.length < 17592186044416 then some l0 else none
set_option maxHeartbeats 1000000 in
set_option maxRecDepth 100000 in
theorem slices_Clone_int_int.calls (A0 : Option Addr) (c0 : Nat) (l0 : List Int) (r : List Int) (w : World) (hr0 : Kd.C (Kd.int .i64) w A0 l0.length l0) (hc0 : l0.length≤c0) (h : slices_Clone_int_int.f l0=some r) :
  Calls Try.prog 50 #[.slice A0 l0.length c0] w fun e w' => ∃ v0_ : Value,e=.returned (v0_)∧Kd.R (Kd.int .i64) 3 w' w.heap.size (fun _ => True) v0_ r∧Below w.heap.size w w':=by
 unfold slices_Clone_int_int.f at h
 split at h
 ·rename_i hlen
  have LM:=Aside0.mk hlen
  clear hlen
  obtain rfl:=Option.some.inj h
  clear h
  cases A0 with
  | none =>
   obtain rfl : l0=[]:=by
    cases l0 with
    | nil => rfl
    | cons x xs =>
     obtain ⟨ad,e,_⟩:=hr0.2.2 (by simp)
     cases e
   clear hr0 hc0 LM
   have he:=fun W : World => Lib.run_eql_slice_nil (P:=Try.prog) W 37 3 none 0 c0 0 0 Try.underlying37
   simp only [Option.isNone_none] at he
   go_enter Try.func50,Try.ntmps50
   go_wp2
   go_ret
   exact ⟨_,rfl,Kd.R_nil _ _ _ _ _,Below.refl _ _⟩
  | some ad =>
   have HR0:=Aside0.mk hr0
   clear hr0 hc0
   have he:=fun W : World => Lib.run_eql_slice_nil (P:=Try.prog) W 37 3 (some ad) l0.length c0 0 0 Try.underlying37
   simp only [Option.isNone_some] at he
   have HB:=Aside0.mk (Below.refl w.heap.size w)
   go_enter Try.func50,Try.ntmps50
   go_wp2_with (first
    | ((with_reducible refine gate_dst (N:=5) rfl ?_);refine Kd.R_lit (Kd.int .i64) _ 3 ?hg (N:=5) ?hd (xs:=([] : List Int)) (inner:=[]) (ok:=fun _ => True) (okp:=fun _ => True) ?hr ?hp (fun _ hk => hk) trivial (Below.refl _ _) (Nat.le_refl _) (by simp) ?_;(case hd => rfl);(case hg => rfl);(case hr => first|(go_simp;done)|(go_simp;rfl));(case hp => exact (Reps.none _ _));intro v5 w5 ho5 hb hg_ hnew_;clear hg_ hnew_;have HO5:=Aside0.mk (Kd.R_lower ho5 HB.out.size);have n0_:=Aside0.mk (below_step HB.out hb);clear HB;have HB:=n0_;clear n0_ hb ho5)
    | ((with_reducible refine gate_builtin (b:=.append) (xs:=#[.tmp 5,.tmp 6]) rfl ?_);at_builtin;refine Kd.R_append_rows (Kd.int .i64) (w0:=w) w.heap.size rfl (.tmp 5) (.tmp 6) 37 3 (.int .i64 0) 8 rfl Try.underlying37 info3 rfl (by decide) (by omega) v5 [] l0 _ _ _ (fun _ => True) (fun _ => False) rfl rfl HO5.out (Kd.C_below HR0.out HB.out) (fun _ _ h => h) (fun _ h => h.elim) (fun _ _ => trivial) HB.out HB.out.size (by have:=LM.out;simp;omega) ?_;intro v7 w7 ho hb hg hat;rw [List.nil_append] at ho;have HO7:=Aside0.mk ho;have n0_:=Aside0.mk hb;clear HB HO5;have HB:=n0_;clear n0_ ho hb hg hat))
   go_ret
   exact ⟨_,rfl,HO7.out,HB.out⟩
 ·cases h
end Go.Proofs.Ytbelnopbggkdfaa.Q
end

section
namespace Go.Proofs.Ytbelnopbggkdfaa.Q
open Go.RowKit Go.Proofs.YtbelnopbggkdfaaW.PrintWords Go.Proofs.YtbelnopbggkdfaaW.PrintLast Go.Proofs.YtbelnopbggkdfaaW.PrintMore
attribute [local go_sem] max2_int min2_int max_two min_two max_three min_three max_four min_four   -- for this text's walks alone
set_option linter.unusedVariables false
set_option linter.unusedSimpArgs false
def wireOk (ws : List Int) : Bool:=ws.all fun x => decide (0≤x) && decide (x < 128)
end Go.Proofs.Ytbelnopbggkdfaa.Q
end

section
namespace Go.Proofs.Ytbelnopbggkdfaa.Q
open Go.RowKit Go.Proofs.YtbelnopbggkdfaaW.PrintWords Go.Proofs.YtbelnopbggkdfaaW.PrintLast Go.Proofs.YtbelnopbggkdfaaW.PrintMore
attribute [local go_sem] max2_int min2_int max_two min_two max_three min_three max_four min_four   -- for this text's walks alone
set_option linter.unusedVariables false
set_option linter.unusedSimpArgs false
def phasorref08_Op.f (a0_0 : Int) (a0_1 : Int) (l0_2 : List Int) (a0_3 : Int) (a0_4 : Int) (a0_5 : Int) (a1 : Int) (a2 : Int) : Option (Bool):=if (Lit.int .i64 a0_1).wf=true then some (mayC a0_0 a0_1 l0_2 a0_3 a0_4 a0_5 a1 a2) else none
theorem phasorref08_Op.calls (a0_0 : Int) (a0_1 : Int) (A0_2 : Option Addr) (c0_2 : Nat) (l0_2 : List Int) (a0_3 : Int) (a0_4 : Int) (a0_5 : Int) (a1 : Int) (a2 : Int) (r : Bool) (w : World) (hr0_2 : Kd.C (Kd.int .i64) w A0_2 l0_2.length l0_2) (hc0_2 : l0_2.length≤c0_2) (h : phasorref08_Op.f a0_0 a0_1 l0_2 a0_3 a0_4 a0_5 a1 a2=some r) :
  Calls Try.prog 81 #[.agg #[.int .i64 a0_0,.int .i64 a0_1,.slice A0_2 l0_2.length c0_2,.int .i64 a0_3,.int .i64 a0_4,.int .i64 a0_5],.int .i64 a1,.int .i64 a2] w fun e w' => e=.returned (.bool r)∧Below w.heap.size w w':=by
 unfold phasorref08_Op.f at h
 split at h
 ·rename_i hk
  obtain rfl:=Option.some.inj h
  exact rop_any a0_0 a0_1 A0_2 c0_2 l0_2 a0_3 a0_4 a0_5 a1 a2 w hk (isL_of_C hr0_2)
 ·cases h
end Go.Proofs.Ytbelnopbggkdfaa.Q
end
