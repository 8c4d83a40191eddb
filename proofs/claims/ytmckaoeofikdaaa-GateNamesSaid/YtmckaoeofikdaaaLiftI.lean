/- The second machine is right, seventh part: calls, operations that may be left out. -/
import Derived.Test.YtmckaoeofikdaaaLiftH
namespace Go.Proofs.Ytmckaoeofikdaaa.Lift
open Go.RowKit

/-- What a call comes to. -/
def CallPost (ρ : Env) (H : Hp) (w : World) (N : Nat) (v : Value) (H' : Hp) (r : Value) (w' : World) : Prop :=
  ∃ ρ', r = ren3 ρ' v ∧ HRel ρ' H' w' N ∧ Agree H.length ρ ρ' ∧ Below N w w' ∧ H.length ≤ H'.length ∧ wf3 H'.length v = true

def endPost (R : Value → World → Prop) : Ending → World → Prop
  | .returned r, w' => R r w'
  | _, _ => False

def CallSound (P : Program) (call : FuncId → List Value → Hp → Option (Value × Hp)) : Prop :=
  ∀ g vs H v H', call g vs H = some (v, H') → ∀ ρ w N, HRel ρ H w N → (∀ u ∈ vs, wf3 H.length u = true) →
    Calls P g (vs.map (ren3 ρ)).toArray w (endPost (CallPost ρ H w N v H'))

/-! ### The same behind other rows -/
def over (n : Nat) (ρ ρ' : Env) : Env := fun j => if j < n then ρ j else ρ' (j - n)
theorem over_new (n : Nat) (ρ ρ' : Env) (j : Nat) : over n ρ ρ' (j + n) = ρ' j := by
  unfold over; rw [if_neg (by omega)]; congr 1; omega
theorem over_old {n : Nat} (ρ ρ' : Env) {j : Nat} (h : j < n) : over n ρ ρ' j = ρ j := by unfold over; rw [if_pos h]
theorem over_agree (n : Nat) (ρ ρ' : Env) : Agree n ρ (over n ρ ρ') := fun _ h => over_old ρ ρ' h

theorem renA_sh (n : Nat) (ρ ρ' : Env) (a : Addr) : renA (over n ρ ρ') (shA n a) = renA ρ' a := by
  simp only [renA, shA, over_new]
theorem ren0_sh (n : Nat) (ρ ρ' : Env) (v : Value) : ren0 (over n ρ ρ') (sh0 n v) = ren0 ρ' v := by
  cases v <;> try rfl
  case pointer a => cases a <;> first | rfl | (simp only [sh0, ren0, renA_sh])
theorem ren1_sh (n : Nat) (ρ ρ' : Env) (v : Value) : ren1 (over n ρ ρ') (sh1 n v) = ren1 ρ' v := by
  cases v <;> try rfl
  case pointer a => cases a <;> first | rfl | (simp only [sh1, ren1, renA_sh])
  case slice a l k =>
    cases a with
    | none => rfl
    | some a => simp only [sh1, ren1, renA_sh]; simp only [shA, over_new]
  case func f first cap =>
    simp only [sh1, ren1, Array.map_map]
    exact congrArg _ (map_congr_of _ _ _ (fun x _ => ren0_sh n ρ ρ' x))
theorem ren2_sh (n : Nat) (ρ ρ' : Env) (v : Value) : ren2 (over n ρ ρ') (sh2 n v) = ren2 ρ' v := by
  cases v <;> try rfl
  case pointer a => have := ren1_sh n ρ ρ' (.pointer a); cases a <;> exact this
  case slice a l k => have := ren1_sh n ρ ρ' (.slice a l k); cases a <;> exact this
  case func f first cap => exact ren1_sh n ρ ρ' (.func f first cap)
  case agg cs =>
    simp only [sh2, ren2, Array.map_map]
    exact congrArg _ (map_congr_of _ _ _ (fun x _ => ren1_sh n ρ ρ' x))
theorem ren3_sh (n : Nat) (ρ ρ' : Env) (v : Value) : ren3 (over n ρ ρ') (shV n v) = ren3 ρ' v := by
  cases v <;> try rfl
  case pointer a => have := ren1_sh n ρ ρ' (.pointer a); cases a <;> exact this
  case slice a l k => have := ren1_sh n ρ ρ' (.slice a l k); cases a <;> exact this
  case func f first cap => exact ren1_sh n ρ ρ' (.func f first cap)
  case agg cs => exact ren2_sh n ρ ρ' (.agg cs)
  case tuple cs =>
    simp only [shV, ren3, Array.map_map]
    exact congrArg _ (map_congr_of _ _ _ (fun x _ => ren2_sh n ρ ρ' x))

theorem wf0_sh {m : Nat} (n : Nat) {v : Value} (h : wf0 m v = true) : wf0 (n + m) (sh0 n v) = true := by
  cases v <;> try rfl
  case pointer a => cases a <;> first | rfl | (simp only [wf0, sh0, shA, decide_eq_true_eq] at h ⊢; omega)
theorem wf1_sh {m : Nat} (n : Nat) {v : Value} (h : wf1 m v = true) : wf1 (n + m) (sh1 n v) = true := by
  cases v <;> try rfl
  case pointer a => cases a <;> first | rfl | (simp only [wf1, sh1, shA, decide_eq_true_eq] at h ⊢; omega)
  case slice a l k => cases a <;> first | rfl | (simp only [wf1, sh1, shA, decide_eq_true_eq] at h ⊢; omega)
  case func f first cap =>
    simp only [wf1, sh1, Array.toList_map, List.all_map, List.all_eq_true, Function.comp] at h ⊢
    exact fun x hx => wf0_sh n (h x hx)
theorem wf2_sh {m : Nat} (n : Nat) {v : Value} (h : wf2 m v = true) : wf2 (n + m) (sh2 n v) = true := by
  cases v <;> try rfl
  case pointer a => have := wf1_sh n (v := .pointer a) h; cases a <;> exact this
  case slice a l k => have := wf1_sh n (v := .slice a l k) h; cases a <;> exact this
  case func f first cap => exact wf1_sh n (v := .func f first cap) h
  case agg cs =>
    simp only [wf2, sh2, Array.toList_map, List.all_map, List.all_eq_true, Function.comp] at h ⊢
    exact fun x hx => wf1_sh n (h x hx)
theorem wf3_sh {m : Nat} (n : Nat) {v : Value} (h : wf3 m v = true) : wf3 (n + m) (shV n v) = true := by
  cases v <;> try rfl
  case pointer a => have := wf1_sh n (v := .pointer a) h; cases a <;> exact this
  case slice a l k => have := wf1_sh n (v := .slice a l k) h; cases a <;> exact this
  case func f first cap => exact wf1_sh n (v := .func f first cap) h
  case agg cs => exact wf2_sh n (v := .agg cs) h
  case tuple cs =>
    simp only [wf3, shV, Array.toList_map, List.all_map, List.all_eq_true, Function.comp] at h ⊢
    exact fun x hx => wf2_sh n (h x hx)
theorem isCell_sh (n : Nat) (v : Value) : isCell (sh1 n v) = isCell v := by
  cases v <;> try rfl
  case pointer a => cases a <;> rfl
  case slice a l k => cases a <;> rfl

/-- What is below a number of blocks is as it was. -/
theorem HRel.below {ρ : Env} {H : Hp} {w w' : World} {N : Nat} (h : HRel ρ H w N) (hB : Below w.heap.size w w') : HRel ρ H w' N where
  own j b hj hl ho := by
    obtain ⟨h0, h1, h2, cur, h3, h4⟩ := h.own j b hj hl ho
    exact ⟨h0, h1, h2, cur, by rw [hB.block _ (Array.getElem?_eq_some_iff.1 h3).1]; exact h3, h4⟩
  ro j b hj hl ho := by
    obtain ⟨h1, h2⟩ := h.ro j b hj hl ho
    exact ⟨h1, fun i v hv => by rw [hB.cell (Nat.lt_of_lt_of_le h1 h.base)]; exact h2 i v hv⟩
  apart := h.apart
  base := Nat.le_trans h.base hB.size
  wf := h.wf
  cell := h.cell

theorem get_append {α : Type} {l r : List α} {j : Nat} {x : α} (h : (l ++ r)[j]? = some x) : (j < l.length ∧ l[j]? = some x) ∨ ∃ i, j = i + l.length ∧ r[i]? = some x := by
  by_cases hj : j < l.length
  · rw [List.getElem?_append_left hj] at h; exact .inl ⟨hj, h⟩
  · rw [List.getElem?_append_right (by omega)] at h
    exact .inr ⟨j - l.length, by omega, h⟩

/-- A call on a heap of its own: its rows behind the caller's. -/
theorem HRel.joined {ρ ρ' : Env} {H H' : Hp} {w w' : World} {N : Nat} (h : HRel ρ H w N) (hB : Below w.heap.size w w') (h' : HRel ρ' H' w' w.heap.size) (hown : H'.all (·.own) = true) :
    HRel (over H.length ρ ρ') (H ++ H'.map (shB H.length)) w' N := by
  have h1 := (h.below hB).agree (over_agree H.length ρ ρ')
  have blk : ∀ {i : Nat} {b : Blk}, (H'.map (shB H.length))[i]? = some b → ∃ c, H'[i]? = some c ∧ b = shB H.length c := by
    intro i b hi
    rw [List.getElem?_map] at hi
    cases hc : H'[i]? with
    | none => simp [hc] at hi
    | some c => simp only [hc, Option.map_some, Option.some.injEq] at hi; exact ⟨c, rfl, hi.symm⟩
  have cells : ∀ (c : Blk), (shB H.length c).cells.map (ren1 (over H.length ρ ρ')) = c.cells.map (ren1 ρ') := by
    intro c
    simp only [shB, List.map_map]
    exact List.map_congr_left fun v _ => ren1_sh H.length ρ ρ' v
  have ownOf : ∀ {i : Nat} {c : Blk}, H'[i]? = some c → c.own = true := fun hi => List.all_eq_true.1 hown _ (List.mem_of_getElem? hi)
  refine ⟨?_, ?_, ?_, h1.base, ?_, ?_⟩
  · intro j b hj hl ho
    rcases get_append hj with ⟨_, hj⟩ | ⟨i, rfl, hi⟩
    · exact h1.own j b hj hl ho
    · obtain ⟨c, hc, rfl⟩ := blk hi
      obtain ⟨g0, g1, g2, cur, g3, g4, g5⟩ := h'.own i c hc hl ho
      rw [over_new, cells]
      exact ⟨g0, Nat.le_trans h.base g1, g2, cur, g3, g4, by simpa [shB] using g5⟩
  · intro j b hj hl ho
    rcases get_append hj with ⟨_, hj⟩ | ⟨i, rfl, hi⟩
    · exact h1.ro j b hj hl ho
    · obtain ⟨c, hc, rfl⟩ := blk hi
      have := ownOf hc
      simp only [shB] at ho
      rw [this] at ho; cases ho
  · intro i j bi bj hi hj l1 l2 o1 o2 hne
    rcases get_append hi with ⟨hil, hi'⟩ | ⟨i', rfl, hi'⟩ <;> rcases get_append hj with ⟨hjl, hj'⟩ | ⟨j', rfl, hj'⟩
    · exact h1.apart i j bi bj hi' hj' l1 l2 o1 o2 hne
    · obtain ⟨c, hc, rfl⟩ := blk hj'
      rw [over_old ρ ρ' hil, over_new]
      obtain ⟨_, _, _, cur, g3, _⟩ := h.own i bi hi' l1 o1
      have := (Array.getElem?_eq_some_iff.1 g3).1
      have := (h'.own j' c hc l2 o2).2.1
      omega
    · obtain ⟨c, hc, rfl⟩ := blk hi'
      rw [over_old ρ ρ' hjl, over_new]
      obtain ⟨_, _, _, cur, g3, _⟩ := h.own j bj hj' l2 o2
      have := (Array.getElem?_eq_some_iff.1 g3).1
      have := (h'.own i' c hc l1 o1).2.1
      omega
    · obtain ⟨c, hc, rfl⟩ := blk hi'
      obtain ⟨d, hd, rfl⟩ := blk hj'
      rw [over_new, over_new]
      exact h'.apart i' j' c d hc hd l1 l2 o1 o2 (fun e => hne (by rw [e]))
  · intro j b hj v hv
    rw [List.length_append, List.length_map]
    rcases get_append hj with ⟨_, hj⟩ | ⟨i, rfl, hi⟩
    · exact wf1_mono (by omega) (h.wf j b hj v hv)
    · obtain ⟨c, hc, rfl⟩ := blk hi
      simp only [shB, List.mem_map] at hv
      obtain ⟨u, hu, rfl⟩ := hv
      exact wf1_sh _ (h'.wf i c hc u hu)
  · intro j b hj v hv
    rcases get_append hj with ⟨_, hj⟩ | ⟨i, rfl, hi⟩
    · exact h.cell j b hj v hv
    · obtain ⟨c, hc, rfl⟩ := blk hi
      simp only [shB, List.mem_map] at hv
      obtain ⟨u, hu, rfl⟩ := hv
      rw [isCell_sh]
      exact h'.cell i c hc u hu

theorem HRel.empty (ρ : Env) (w : World) : HRel ρ [] w w.heap.size := ⟨by simp, by simp, by simp, Nat.le_refl _, by simp, by simp⟩

theorem callS_spec {P : Program} {m : Mach} (hm : CallSound P m.call) : CallSound P (callS m) := by
  intro g vs H v H' hv ρ w N hH hvs
  unfold callS at hv
  split at hv
  · rename_i hno
    split at hv
    · rename_i u H1 hc
      have hvs' : ∀ u ∈ vs, no3 u = true := fun u hu => List.all_eq_true.1 hno u hu
      have hcall := hm g vs [] u H1 hc ρ w w.heap.size (HRel.empty ρ w) (fun x hx => wf3_no (hvs' x hx))
      refine Calls.mono hcall fun e w' he => ?_
      cases e with
      | returned r =>
        obtain ⟨ρ', rfl, h1, h2, h3, h4, h5⟩ := he
        split at hv
        · rename_i hnu
          simp only [Option.some.injEq, Prod.mk.injEq] at hv
          obtain ⟨rfl, rfl⟩ := hv
          exact ⟨ρ, by rw [ren3_no _ hnu, ren3_no _ hnu], hH.below h3, Agree.refl _ _, h3.mono hH.base, Nat.le_refl _, wf3_no hnu⟩
        · split at hv
          · rename_i hown
            rw [fSnoc_eq] at hv
            simp only [Option.some.injEq, Prod.mk.injEq] at hv
            obtain ⟨rfl, rfl⟩ := hv
            refine ⟨over H.length ρ ρ', (ren3_sh _ _ _ _).symm, hH.joined h3 h1 hown, over_agree _ _ _, h3.mono hH.base, by simp, ?_⟩
            rw [List.length_append, List.length_map]
            exact wf3_sh _ h5
          · cases hv
      | _ => exact he
    · cases hv
  · exact hm g vs H v H' hv ρ w N hH hvs

theorem ren3_ptr {u : Value} (ρ : Env) (h : isPtr u = true) : ren3 ρ u = ren0 ρ u := by
  cases u <;> first | (simp [isPtr] at h; done) | skip
  rename_i q
  cases q <;> rfl
theorem wf3_ptr {u : Value} {n : Nat} (h : isPtr u = true) : wf3 n u = wf0 n u := by
  cases u <;> first | (simp [isPtr] at h; done) | skip
  rename_i q
  cases q <;> rfl

/-! ### An operation, seen from its run -/
def Out (P : Program) (r : Result Next) (K : Value → World → Prop) : Prop :=
  match r with
  | .ok (.value v) w' => K v w'
  | .ok .skip w' => K undef w'
  | .ok (.enter f args) w' => Calls P f args w' (endPost K)
  | _ => False

theorem Out.upon {P : Program} {r : Result Next} {Kv : Value → World → Prop} (h : Out P r Kv) {o : Oper} {a : Act} {K : Act → World → Prop} {Q : Exit → Act → World → Prop} (hK : ∀ v w', Kv v w' → K (a.put o.dst v) w') :
    o.upon P a K Q r := by
  cases r with
  | ok n w' =>
    cases n <;> simp only [Out] at h <;> first | exact h.elim | skip
    · exact hK _ _ h
    · exact hK _ _ h
    · refine Calls.mono h fun e w'' he => ?_
      cases e with
      | returned v => exact hK _ _ he
      | _ => exact he.elim
  | halt x w' => exact h.elim

def StepPost (ρ : Env) (H : Hp) (w : World) (N : Nat) (v : Value) (H' : Hp) (r : Value) (w' : World) : Prop := CallPost ρ H w N v H' r w'

theorem OpRes.out {P : Program} {o : Oper} {a : Act} {ρ : Env} {H H' : Hp} {w : World} {N : Nat} {v : Value} (h : OpRes P o a ρ H w N v H') (hwf : wf3 H'.length v = true) :
    Out P ((execOp a.eval o).run P w) (CallPost ρ H w N v H') := by
  obtain ⟨ρ', w', nx, hrun, hnx, h1, h2, h3, h4⟩ := h
  rw [hrun]
  rcases hnx with rfl | ⟨rfl, rfl⟩
  · exact ⟨ρ', rfl, h1, h2, h3, h4, hwf⟩
  · exact ⟨ρ', (ren3_undef ρ').symm, h1, h2, h3, h4, hwf⟩

section step
variable {P : Program} {F : Fns} {m : Mach} (hm : CallSound P m.call) (hF : ∀ f fn, F f = some fn → P.funcs[f]? = some fn)
  {o : Oper} {a : Act} {ρ : Env} {l : Fr} {w : World} {v : Value} {H H' : Hp} {N : Nat} (h : FRel ρ l a) (hw : ∀ x ∈ o.op.operands.toList, ∀ v, evalL l x = some v → wf3 H.length v = true) (hH : HRel ρ H w N)
include h

theorem calleeOf_spec {f : Operand} {args : Array Operand} {g : FuncId} {vs : List Value} (hc : calleeOf l f args = some (g, vs)) :
    ∃ cap : Array Value, a.eval f = .func (.func g) #[] cap ∧ args.map a.eval ++ cap = (vs.map (ren3 ρ)).toArray := by
  unfold calleeOf at hc
  split at hc
  · rename_i g' first cap us hf hargs
    split at hc
    · rename_i hcc
      simp only [Bool.and_eq_true] at hcc
      simp only [Option.some.injEq, Prod.mk.injEq] at hc
      obtain ⟨rfl, rfl⟩ := hc
      have e1 : first = #[] := by simpa using hcc.1
      subst e1
      refine ⟨cap.map (ren0 ρ), evalL_spec h hf, ?_⟩
      apply Array.ext'
      simp only [Array.toList_append, Array.toList_map, List.map_append]
      rw [evalAll_spec h _ _ hargs]
      congr 1
      refine List.map_congr_left fun u hu => ?_
      exact (ren3_ptr ρ (List.all_eq_true.1 hcc.2 u hu)).symm
    · cases hc
  · cases hc

omit h in
theorem calleeOf_wf {n : Nat} {f : Operand} {args : Array Operand} (hw : ∀ x ∈ (#[f] ++ args).toList, ∀ v, evalL l x = some v → wf3 n v = true) {g : FuncId} {vs : List Value} (hc : calleeOf l f args = some (g, vs)) : ∀ u ∈ vs, wf3 n u = true := by
  have all : ∀ (xs : List Operand), (∀ x ∈ xs, ∀ v, evalL l x = some v → wf3 n v = true) → ∀ (us : List Value), evalAll l xs = some us → ∀ u ∈ us, wf3 n u = true := by
    intro xs
    induction xs with
    | nil => intro _ us h; simp [evalAll] at h; subst h; simp
    | cons x xs ih =>
      intro hw us h
      simp only [evalAll] at h
      split at h
      · rename_i y ys hy hys
        simp only [Option.some.injEq] at h
        subst h
        intro u hu
        rcases List.mem_cons.1 hu with rfl | hu
        · exact hw x (by simp) _ hy
        · exact ih (fun y hy => hw y (by simp [hy])) _ hys u hu
      · cases h
  unfold calleeOf at hc
  split at hc
  · rename_i g' first cap us hf hargs
    split at hc
    · rename_i hcc
      simp only [Bool.and_eq_true] at hcc
      simp only [Option.some.injEq, Prod.mk.injEq] at hc
      obtain ⟨rfl, rfl⟩ := hc
      intro u hu
      rcases List.mem_append.1 hu with hu | hu
      · exact all _ (fun x hx => hw x (by simp at hx; simp [hx])) _ hargs u hu
      · have h1 := hw f (by simp) _ hf
        have h2 : cap.toList.all (wf0 n) = true := h1
        rw [wf3_ptr (List.all_eq_true.1 hcc.2 u hu)]
        exact List.all_eq_true.1 h2 u hu
    · cases hc
  · cases hc

include hm hF hw hH in
theorem stepS_spec (hv : stepS P F m l H o = some (v, H')) : Out P ((execOp a.eval o).run P w) (CallPost ρ H w N v H') := by
  have plain : aOp P l H o = some (v, H') → Out P ((execOp a.eval o).run P w) (CallPost ρ H w N v H') := fun hv => (aOp_spec h hH hv).1.out (aOp_spec h hH hv).2
  unfold stepS at hv
  split at hv
  · rename_i g vs hc
    split at hv
    · rename_i hb
      unfold hasBody at hb
      split at hb
      · rename_i fn hfn
        simp only [Bool.and_eq_true, Bool.not_eq_true', beq_eq_false_iff_ne, ne_eq] at hb
        unfold aCallee at hc
        split at hc
        · rename_i f args argTypes ho
          obtain ⟨cap, he, hargs⟩ := calleeOf_spec h hc
          have hcall := callS_spec hm g vs H v H' hv ρ w N hH (calleeOf_wf (fun x hx => hw x (by rw [ho]; exact hx)) hc)
          have hrun : (execOp a.eval o).run P w = .ok (.enter g (vs.map (ren3 ρ)).toArray) w := by
            rw [← hargs]
            have hbody : ¬ fn.body = none := by
              intro hbb
              rw [hbb] at hb; simp at hb
            simp [execOp, ho, resolve, he, Deferred.ofValue, invoke, callFunc, hF _ _ hfn, hb.2, hbody]
          rw [hrun]
          exact hcall
        · cases hc
      · cases hb
    · exact plain hv
  · exact plain hv
end step

theorem yielded_spec {ρ : Env} {l : Fr} {a : Act} (h : FRel ρ l a) (ops : Array Oper) (j : Nat) : yielded ops a.tmps j = yieldedL ops l j := by
  unfold yielded yieldedL
  cases hd : (ops[j]?).bind (·.dst) with
  | none => rfl
  | some t =>
    have hs := h.slot t
    simp only [Option.bind_some]
    by_cases ht : t < a.tmps.size
    · have e : a.tmps[t]? = some (ren3 ρ (l.get t)) := by
        rw [← hs]; simp [Array.getD_eq_getD_getElem?, ht]
      rw [e]
      cases l.get t <;> try rfl
      case pointer q => cases q <;> rfl
      case slice q n c => cases q <;> rfl
    · have e : a.tmps[t]? = none := Array.getElem?_eq_none (Nat.le_of_not_lt ht)
      rw [e]
      have hu : ren3 ρ (l.get t) = undef := by rw [← hs]; simp [Array.getD_eq_getD_getElem?, e]
      cases hx : l.get t <;> first | rfl | skip
      rw [hx] at hu
      simp [ren3, ren2, ren1, undef] at hu

theorem wanted_spec {ρ : Env} {l : Fr} {a : Act} (h : FRel ρ l a) (ops : Array Oper) (o : Oper) : Region.wanted o (yielded ops a.tmps) = Region.wanted o (yieldedL ops l) := by
  have : yielded ops a.tmps = yieldedL ops l := funext fun j => yielded_spec h ops j
  rw [this]

end Go.Proofs.Ytmckaoeofikdaaa.Lift
