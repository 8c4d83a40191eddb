/- The second machine is right, seventh part: calls, operations that may be left out. -/
import Derived.Test.YtmckaoeofikdaaaLiftH
namespace Go.Proofs.Ytmckaoeofikdaaa.Lift
open Go.RowKit
variable [Known] [Syms]

/-- What a call comes to. -/
def CallPost (ρ : Env) (H : Hp) (w : World) (N : Nat) (v : Value) (H' : Hp) (r : Value) (w' : World) : Prop :=
  ∃ ρ', r = ren3 ρ' v ∧ HRel ρ' H' w' N ∧ Agree H.length ρ ρ' ∧ Below N w w' ∧ H.length ≤ H'.length ∧ wf3 H'.length v = true

def endPost (R : Value → World → Prop) : Ending → World → Prop
  | .returned r, w' => R r w'
  | _, _ => False

def CallSound (P : Program) (call : FuncId → List Value → Hp → Option (Value × Hp)) : Prop :=
  ∀ g vs H v H', call g vs H = some (v, H') → ∀ ρ w N, HRel ρ H w N → (∀ u ∈ vs, wf3 H.length u = true) →
    Calls P g (vs.map (ren3 ρ)).toArray w (endPost (CallPost ρ H w N v H'))

/-! ### The same with other numbers of rows -/
omit [Known] [Syms] in
theorem isCell_map (f : Nat → Nat) (v : Value) : isCell (map1 f v) = isCell v := by
  cases v <;> try rfl
  case pointer a => cases a <;> rfl
  case slice a l k => cases a <;> rfl

omit [Known] in
theorem map_two (v : Value) : (∃ cs, v = .agg cs) ∨ ((∀ ρ, ren2 ρ v = ren1 ρ v) ∧ (∀ n, wf2 n v = wf1 n v) ∧ (∀ ids, in2 ids v = in1 ids v) ∧ ∀ f, map2 f v = map1 f v ∧ (∀ ρ, ren2 ρ (map1 f v) = ren1 ρ (map1 f v)) ∧ ∀ n, wf2 n (map1 f v) = wf1 n (map1 f v)) := by
  cases v <;> first | exact .inl ⟨_, rfl⟩ | exact .inr ⟨fun _ => rfl, fun _ => rfl, fun _ => rfl, fun _ => ⟨rfl, fun _ => rfl, fun _ => rfl⟩⟩ | skip
  case pointer a => cases a <;> exact .inr ⟨fun _ => rfl, fun _ => rfl, fun _ => rfl, fun _ => ⟨rfl, fun _ => rfl, fun _ => rfl⟩⟩
  case slice a l k => cases a <;> exact .inr ⟨fun _ => rfl, fun _ => rfl, fun _ => rfl, fun _ => ⟨rfl, fun _ => rfl, fun _ => rfl⟩⟩
omit [Known] in
theorem map_three (v : Value) : (∃ cs, v = .tuple cs) ∨ ((∀ ρ, ren3 ρ v = ren2 ρ v) ∧ (∀ n, wf3 n v = wf2 n v) ∧ (∀ ids, inV ids v = in2 ids v) ∧ ∀ f, mapV f v = map2 f v ∧ (∀ ρ, ren3 ρ (map2 f v) = ren2 ρ (map2 f v)) ∧ ∀ n, wf3 n (map2 f v) = wf2 n (map2 f v)) := by
  cases v <;> first | exact .inl ⟨_, rfl⟩ | exact .inr ⟨fun _ => rfl, fun _ => rfl, fun _ => rfl, fun _ => ⟨rfl, fun _ => rfl, fun _ => rfl⟩⟩ | skip
  case pointer a => cases a <;> exact .inr ⟨fun _ => rfl, fun _ => rfl, fun _ => rfl, fun _ => ⟨rfl, fun _ => rfl, fun _ => rfl⟩⟩
  case slice a l k => cases a <;> exact .inr ⟨fun _ => rfl, fun _ => rfl, fun _ => rfl, fun _ => ⟨rfl, fun _ => rfl, fun _ => rfl⟩⟩

section total
variable {ρ1 ρ2 : Env} {f : Nat → Nat} (hf : ∀ j, ρ1 (f j) = ρ2 j)
include hf
omit [Known] [Syms] in
theorem renA_map (a : Addr) : renA ρ1 (mapA f a) = renA ρ2 a := by simp only [renA, mapA, hf]
omit [Known] [Syms] in
theorem ren0_map (v : Value) : ren0 ρ1 (map0 f v) = ren0 ρ2 v := by
  cases v <;> try rfl
  case pointer a => cases a <;> first | rfl | (simp only [map0, ren0, renA_map hf])
omit [Known] in
theorem ren1_map (v : Value) : ren1 ρ1 (map1 f v) = ren1 ρ2 v := by
  cases v <;> try rfl
  case chan r => cases r <;> rfl
  case pointer a => cases a <;> first | rfl | (simp only [map1, ren1, renA_map hf])
  case slice a l k =>
    cases a with
    | none => rfl
    | some a => simp only [map1, ren1, renA_map hf]; simp only [mapA, hf]
  case func g first cap =>
    simp only [map1, ren1, Array.map_map]
    exact congrArg _ (map_congr_of _ _ _ (fun x _ => ren0_map hf x))
omit [Known] in
theorem ren2_map (v : Value) : ren2 ρ1 (map2 f v) = ren2 ρ2 v := by
  rcases map_two v with ⟨cs, rfl⟩ | ⟨e1, _, _, e4⟩
  · simp only [map2, ren2, Array.map_map]
    exact congrArg _ (map_congr_of _ _ _ (fun x _ => ren1_map hf x))
  · rw [(e4 f).1, (e4 f).2.1, e1]; exact ren1_map hf v
omit [Known] in
theorem ren3_map (v : Value) : ren3 ρ1 (mapV f v) = ren3 ρ2 v := by
  rcases map_three v with ⟨cs, rfl⟩ | ⟨e1, _, _, e4⟩
  · simp only [mapV, ren3, Array.map_map]
    exact congrArg _ (map_congr_of _ _ _ (fun x _ => ren2_map hf x))
  · rw [(e4 f).1, (e4 f).2.1, e1]; exact ren2_map hf v
end total

section part
variable {ρ1 ρ2 : Env} {ids : List Nat} {f : Nat → Nat} (hf : ∀ j, has ids j = true → ρ1 (f j) = ρ2 j)
include hf
omit [Known] [Syms] in
theorem ren0_in {v : Value} (h : in0 ids v = true) : ren0 ρ1 (map0 f v) = ren0 ρ2 v := by
  cases v <;> try rfl
  case pointer a => cases a <;> first | rfl | (simp only [map0, ren0, renA, mapA, hf _ h])
omit [Known] in
theorem ren1_in {v : Value} (h : in1 ids v = true) : ren1 ρ1 (map1 f v) = ren1 ρ2 v := by
  cases v <;> try rfl
  case chan r => cases r <;> rfl
  case pointer a => cases a <;> first | rfl | (simp only [map1, ren1, renA, mapA, hf _ h])
  case slice a l k => cases a <;> first | rfl | (simp only [map1, ren1, renA, mapA, hf _ h])
  case func g first cap =>
    simp only [in1, List.all_eq_true] at h
    simp only [map1, ren1, Array.map_map]
    exact congrArg _ (map_congr_of _ _ _ (fun x hx => ren0_in hf (h x hx)))
omit [Known] in
theorem ren2_in {v : Value} (h : in2 ids v = true) : ren2 ρ1 (map2 f v) = ren2 ρ2 v := by
  rcases map_two v with ⟨cs, rfl⟩ | ⟨e1, _, e3, e4⟩
  · simp only [in2, List.all_eq_true] at h
    simp only [map2, ren2, Array.map_map]
    exact congrArg _ (map_congr_of _ _ _ (fun x hx => ren1_in hf (h x hx)))
  · rw [(e4 f).1, (e4 f).2.1, e1]; exact ren1_in hf (by rw [← e3]; exact h)
omit [Known] in
theorem ren3_in {v : Value} (h : inV ids v = true) : ren3 ρ1 (mapV f v) = ren3 ρ2 v := by
  rcases map_three v with ⟨cs, rfl⟩ | ⟨e1, _, e3, e4⟩
  · simp only [inV, List.all_eq_true] at h
    simp only [mapV, ren3, Array.map_map]
    exact congrArg _ (map_congr_of _ _ _ (fun x hx => ren2_in hf (h x hx)))
  · rw [(e4 f).1, (e4 f).2.1, e1]; exact ren2_in hf (by rw [← e3]; exact h)
end part

section wfmap
variable {n m : Nat} {f : Nat → Nat} (hf : ∀ j, j < n → f j < m)
include hf
omit [Known] [Syms] in
theorem wf0_map {v : Value} (h : wf0 n v = true) : wf0 m (map0 f v) = true := by
  cases v <;> try rfl
  case pointer a => cases a <;> first | rfl | (simp only [wf0, map0, mapA, decide_eq_true_eq] at h ⊢; exact hf _ h)
omit [Known] [Syms] in
theorem wf1_map {v : Value} (h : wf1 n v = true) : wf1 m (map1 f v) = true := by
  cases v <;> try rfl
  case pointer a => cases a <;> first | rfl | (simp only [wf1, map1, mapA, decide_eq_true_eq] at h ⊢; exact hf _ h)
  case slice a l k => cases a <;> first | rfl | (simp only [wf1, map1, mapA, decide_eq_true_eq] at h ⊢; exact hf _ h)
  case func g first cap =>
    simp only [wf1, map1, Array.toList_map, List.all_map, List.all_eq_true, Function.comp] at h ⊢
    exact fun x hx => wf0_map hf (h x hx)
omit [Known] in
theorem wf2_map {v : Value} (h : wf2 n v = true) : wf2 m (map2 f v) = true := by
  rcases map_two v with ⟨cs, rfl⟩ | ⟨_, e2, _, e4⟩
  · simp only [wf2, map2, Array.toList_map, List.all_map, List.all_eq_true, Function.comp] at h ⊢
    exact fun x hx => wf1_map hf (h x hx)
  · rw [(e4 f).1, (e4 f).2.2]; rw [e2] at h; exact wf1_map hf h
omit [Known] in
theorem wf3_map {v : Value} (h : wf3 n v = true) : wf3 m (mapV f v) = true := by
  rcases map_three v with ⟨cs, rfl⟩ | ⟨_, e2, _, e4⟩
  · simp only [wf3, mapV, Array.toList_map, List.all_map, List.all_eq_true, Function.comp] at h ⊢
    exact fun x hx => wf2_map hf (h x hx)
  · rw [(e4 f).1, (e4 f).2.2]; rw [e2] at h; exact wf2_map hf h
end wfmap

section wfin
variable {ids : List Nat} {m : Nat} {f : Nat → Nat} (hf : ∀ j, has ids j = true → f j < m)
include hf
omit [Known] [Syms] in
theorem wf0_in {v : Value} (h : in0 ids v = true) : wf0 m (map0 f v) = true := by
  cases v <;> try rfl
  case pointer a => cases a <;> first | rfl | (simp only [wf0, map0, mapA, decide_eq_true_eq]; exact hf _ h)
omit [Known] [Syms] in
theorem wf1_in {v : Value} (h : in1 ids v = true) : wf1 m (map1 f v) = true := by
  cases v <;> try rfl
  case pointer a => cases a <;> first | rfl | (simp only [wf1, map1, mapA, decide_eq_true_eq]; exact hf _ h)
  case slice a l k => cases a <;> first | rfl | (simp only [wf1, map1, mapA, decide_eq_true_eq]; exact hf _ h)
  case func g first cap =>
    simp only [in1, List.all_eq_true] at h
    simp only [wf1, map1, Array.toList_map, List.all_map, List.all_eq_true, Function.comp]
    exact fun x hx => wf0_in hf (h x hx)
omit [Known] in
theorem wf2_in {v : Value} (h : in2 ids v = true) : wf2 m (map2 f v) = true := by
  rcases map_two v with ⟨cs, rfl⟩ | ⟨_, _, e3, e4⟩
  · simp only [in2, List.all_eq_true] at h
    simp only [wf2, map2, Array.toList_map, List.all_map, List.all_eq_true, Function.comp]
    exact fun x hx => wf1_in hf (h x hx)
  · rw [(e4 f).1, (e4 f).2.2]; exact wf1_in hf (by rw [← e3]; exact h)
omit [Known] in
theorem wf3_in {v : Value} (h : inV ids v = true) : wf3 m (mapV f v) = true := by
  rcases map_three v with ⟨cs, rfl⟩ | ⟨_, _, e3, e4⟩
  · simp only [inV, List.all_eq_true] at h
    simp only [wf3, mapV, Array.toList_map, List.all_map, List.all_eq_true, Function.comp]
    exact fun x hx => wf2_in hf (h x hx)
  · rw [(e4 f).1, (e4 f).2.2]; exact wf2_in hf (by rw [← e3]; exact h)
end wfin

omit [Known] [Syms] in
theorem posOf_spec : ∀ {ids : List Nat} {i : Nat}, has ids i = true → posOf ids i < ids.length ∧ ids.getD (posOf ids i) 0 = i
  | [], i, h => by simp [has] at h
  | j :: r, i, h => by
    unfold posOf
    cases hc : Nat.beq i j with
    | true => exact ⟨by simp, by simpa using (Nat.eq_of_beq_eq_true hc).symm⟩
    | false =>
      have h' : has r i = true := by simpa [has, hc] using h
      obtain ⟨h1, h2⟩ := posOf_spec h'
      exact ⟨by simpa using h1, by simpa using h2⟩

/-- Behind the caller's rows, a call's own. -/
def over (k n : Nat) (ρ ρ' : Env) : Env := fun j => if j < n then ρ j else ρ' (k + (j - n))
omit [Known] [Syms] in
theorem over_agree (k n : Nat) (ρ ρ' : Env) : Agree n ρ (over k n ρ ρ') := fun _ h => by unfold over; rw [if_pos h]

omit [Known] in
/-- What is below a number of blocks is as it was. -/
theorem HRel.below {ρ : Env} {H : Hp} {w w' : World} {N : Nat} (h : HRel ρ H w N) (hB : Below w.heap.size w w') : HRel ρ H w' N where
  own j b hj hl ho := by
    obtain ⟨h0, h1, h2, cur, h3, h4⟩ := h.own j b hj hl ho
    exact ⟨h0, h1, h2, cur, by rw [hB.block _ (Array.getElem?_eq_some_iff.1 h3).1]; exact h3, h4⟩
  ro j b hj hl ho := by
    obtain ⟨h1, h2⟩ := h.ro j b hj hl ho
    exact ⟨h1, fun i v hv => by rw [hB.cell (Nat.lt_of_lt_of_le h1 h.base)]; exact h2 i v hv⟩
  apart := h.apart
  base := Nat.le_trans h.base hB.size
  wf := h.wf
  cell := h.cell

omit [Known] [Syms] in
theorem get_append {α : Type} {l r : List α} {j : Nat} {x : α} (h : (l ++ r)[j]? = some x) : (j < l.length ∧ l[j]? = some x) ∨ ∃ i, j = i + l.length ∧ r[i]? = some x := by
  by_cases hj : j < l.length
  · rw [List.getElem?_append_left hj] at h; exact .inl ⟨hj, h⟩
  · rw [List.getElem?_append_right (by omega)] at h
    exact .inr ⟨j - l.length, by omega, h⟩

omit [Known] in
/-- A call on a heap of its own: its rows behind the caller's. -/
theorem HRel.joined {ρ ρ' ρ'' : Env} {H H' : Hp} {w w' : World} {N k : Nat} {f : Nat → Nat} (h : HRel ρ H w N) (hB : Below w.heap.size w w') (h' : HRel ρ' H' w' w.heap.size) (hown : (H'.drop k).all (·.own) = true)
    (hA : Agree H.length ρ ρ'') (hf : ∀ j, ρ'' (f j) = ρ' j) (hfk : ∀ j, f (k + j) = H.length + j) (hlt : ∀ j, j < k → f j < H.length) (hk : k ≤ H'.length) :
    HRel ρ'' (H ++ (H'.drop k).map (mapB f)) w' N := by
  have h1 := (h.below hB).agree hA
  have blk : ∀ {i : Nat} {b : Blk}, ((H'.drop k).map (mapB f))[i]? = some b → ∃ c, H'[k + i]? = some c ∧ b = mapB f c := by
    intro i b hi
    rw [List.getElem?_map, List.getElem?_drop] at hi
    cases hc : H'[k + i]? with
    | none => simp [hc] at hi
    | some c => simp only [hc, Option.map_some, Option.some.injEq] at hi; exact ⟨c, rfl, hi.symm⟩
  have cells : ∀ (c : Blk), (mapB f c).cells.map (ren1 ρ'') = c.cells.map (ren1 ρ') := by
    intro c
    simp only [mapB, List.map_map]
    exact List.map_congr_left fun v _ => ren1_map hf v
  have ownOf : ∀ {i : Nat} {c : Blk}, H'[k + i]? = some c → c.own = true := fun {i c} hi => by
    rw [← List.getElem?_drop] at hi
    exact List.all_eq_true.1 hown _ (List.mem_of_getElem? hi)
  have pl : ∀ i, ρ'' (i + H.length) = ρ' (k + i) := fun i => by rw [← hf, hfk, Nat.add_comm]
  have wfj : ∀ j, j < H'.length → f j < H.length + (H'.length - k) := fun j hj => by
    rcases Nat.lt_or_ge j k with h2 | h2
    · have := hlt j h2; omega
    · obtain ⟨d, rfl⟩ : ∃ d, j = k + d := ⟨j - k, by omega⟩
      rw [hfk]; omega
  refine ⟨?_, ?_, ?_, h1.base, ?_, ?_⟩
  · intro j b hj hl ho
    rcases get_append hj with ⟨_, hj⟩ | ⟨i, rfl, hi⟩
    · exact h1.own j b hj hl ho
    · obtain ⟨c, hc, rfl⟩ := blk hi
      obtain ⟨g0, g1, g2, cur, g3, g4, g5⟩ := h'.own _ c hc hl ho
      rw [pl, cells]
      exact ⟨g0, Nat.le_trans h.base g1, g2, cur, g3, g4, by simpa [mapB] using g5⟩
  · intro j b hj hl ho
    rcases get_append hj with ⟨_, hj⟩ | ⟨i, rfl, hi⟩
    · exact h1.ro j b hj hl ho
    · obtain ⟨c, hc, rfl⟩ := blk hi
      have := ownOf hc
      simp only [mapB] at ho
      rw [this] at ho; cases ho
  · intro i j bi bj hi hj l1 l2 o1 o2 hne
    rcases get_append hi with ⟨hil, hi'⟩ | ⟨i', rfl, hi'⟩ <;> rcases get_append hj with ⟨hjl, hj'⟩ | ⟨j', rfl, hj'⟩
    · exact h1.apart i j bi bj hi' hj' l1 l2 o1 o2 hne
    · obtain ⟨c, hc, rfl⟩ := blk hj'
      rw [hA i hil, pl]
      obtain ⟨_, _, _, cur, g3, _⟩ := h.own i bi hi' l1 o1
      have := (Array.getElem?_eq_some_iff.1 g3).1
      have := (h'.own _ c hc l2 o2).2.1
      omega
    · obtain ⟨c, hc, rfl⟩ := blk hi'
      rw [hA j hjl, pl]
      obtain ⟨_, _, _, cur, g3, _⟩ := h.own j bj hj' l2 o2
      have := (Array.getElem?_eq_some_iff.1 g3).1
      have := (h'.own _ c hc l1 o1).2.1
      omega
    · obtain ⟨c, hc, rfl⟩ := blk hi'
      obtain ⟨d, hd, rfl⟩ := blk hj'
      rw [pl, pl]
      exact h'.apart _ _ c d hc hd l1 l2 o1 o2 (fun e => hne (by omega))
  · intro j b hj v hv
    rw [List.length_append, List.length_map, List.length_drop]
    rcases get_append hj with ⟨_, hj⟩ | ⟨i, rfl, hi⟩
    · exact wf1_mono (by omega) (h.wf j b hj v hv)
    · obtain ⟨c, hc, rfl⟩ := blk hi
      simp only [mapB, List.mem_map] at hv
      obtain ⟨u, hu, rfl⟩ := hv
      exact wf1_map wfj (h'.wf _ c hc u hu)
  · intro j b hj v hv
    rcases get_append hj with ⟨_, hj⟩ | ⟨i, rfl, hi⟩
    · exact h.cell j b hj v hv
    · obtain ⟨c, hc, rfl⟩ := blk hi
      simp only [mapB, List.mem_map] at hv
      obtain ⟨u, hu, rfl⟩ := hv
      rw [isCell_map]
      exact h'.cell _ c hc u hu

omit [Known] in
theorem HRel.empty (ρ : Env) (w : World) : HRel ρ [] w w.heap.size := ⟨by simp, by simp, by simp, Nat.le_refl _, by simp, by simp⟩

omit [Known] [Syms] in
theorem rowsAt_spec {H : Hp} {ids : List Nat} : ∀ {l : List Nat} {rs : Hp}, rowsAt H ids l = some rs → rs.length = l.length ∧ ∀ (j : Nat) (b' : Blk), rs[j]? = some b' →
    ∃ i b, l[j]? = some i ∧ H[i]? = some b ∧ b.live = true ∧ (∀ v ∈ b.cells, in1 ids v = true) ∧ b' = ⟨b.elem, b.cells.map (map1 (posOf ids)), b.sz, false, true⟩
  | [], rs, h => by simp [rowsAt] at h; subst h; exact ⟨rfl, fun j b' h => by simp at h⟩
  | i :: r, rs, h => by
    simp only [rowsAt] at h
    split at h
    · rename_i b hb
      cases hc : (b.live && b.cells.all (in1 ids)) with
      | false => rw [hc] at h; cases h
      | true =>
        rw [hc] at h
        simp only [cond_true] at h
        simp only [Bool.and_eq_true, List.all_eq_true] at hc
        cases hr : rowsAt H ids r with
        | none => rw [hr] at h; cases h
        | some rs' =>
          rw [hr] at h
          simp only [Option.map_some, Option.some.injEq] at h
          subst h
          obtain ⟨h1, h2⟩ := rowsAt_spec hr
          refine ⟨by simp [h1], fun j b' hj => ?_⟩
          cases j with
          | zero =>
            simp only [List.getElem?_cons_zero, Option.some.injEq] at hj
            exact ⟨i, b, rfl, hb, hc.1, hc.2, hj.symm⟩
          | succ j =>
            obtain ⟨i', c, k1, k2⟩ := h2 j b' (by simpa using hj)
            exact ⟨i', c, by simpa using k1, k2⟩
    · cases h

omit [Known] in
/-- Some rows, to be read alone. -/
theorem HRel.part {ρ : Env} {H Hs : Hp} {w : World} {N : Nat} {ids : List Nat} (h : HRel ρ H w N) (hr : rowsAt H ids ids = some Hs) : HRel (fun j => ρ (ids.getD j 0)) Hs w w.heap.size := by
  obtain ⟨hlen, hrow⟩ := rowsAt_spec hr
  have hpos : ∀ j, has ids j = true → ρ (ids.getD (posOf ids j) 0) = ρ j := fun j hj => by rw [(posOf_spec hj).2]
  refine ⟨?_, ?_, ?_, Nat.le_refl _, ?_, ?_⟩
  · intro j b hj _ ho
    obtain ⟨i, c, _, _, _, _, rfl⟩ := hrow j b hj
    cases ho
  · intro j b hj _ _
    obtain ⟨i, c, hi, hc, hl, hin, rfl⟩ := hrow j b hj
    have hg : ids.getD j 0 = i := by rw [List.getD_eq_getElem?_getD, hi]; rfl
    simp only [hg]
    constructor
    · cases ho : c.own with
      | true =>
        obtain ⟨_, _, _, cur, g3, _⟩ := h.own i c hc hl ho
        exact (Array.getElem?_eq_some_iff.1 g3).1
      | false => exact Nat.lt_of_lt_of_le (h.ro i c hc hl ho).1 h.base
    · intro t v hv
      rw [List.getElem?_map] at hv
      cases hu : c.cells[t]? with
      | none => rw [hu] at hv; cases hv
      | some u =>
        rw [hu] at hv
        simp only [Option.map_some, Option.some.injEq] at hv
        subst hv
        rw [ren1_in (ρ1 := fun j => ρ (ids.getD j 0)) (ρ2 := ρ) hpos (hin u (List.mem_of_getElem? hu))]
        exact h.cellAt hc hl hu
  · intro i j bi bj hi _ _ _ o1 _ _
    obtain ⟨_, c, _, _, _, _, rfl⟩ := hrow i bi hi
    cases o1
  · intro j b hj v hv
    obtain ⟨i, c, _, _, _, hin, rfl⟩ := hrow j b hj
    simp only [List.mem_map] at hv
    obtain ⟨u, hu, rfl⟩ := hv
    rw [hlen]
    exact wf1_in (fun j hj => (posOf_spec hj).1) (hin u hu)
  · intro j b hj v hv
    obtain ⟨i, c, _, hc, _, _, rfl⟩ := hrow j b hj
    simp only [List.mem_map] at hv
    obtain ⟨u, hu, rfl⟩ := hv
    rw [isCell_map]
    exact h.cell i c hc u hu

omit [Known] [Syms] in
theorem reach_spec {β : Type} {H : Hp} {r : β} (k : List Nat → Option β) : ∀ (fuel : Nat) (todo seen : List Nat), reach H fuel todo seen k = some r → ∃ ids, k ids = some r
  | 0, todo, seen, h => by cases h
  | fuel + 1, todo, seen, h => by
    cases todo with
    | nil => exact ⟨seen, h⟩
    | cons i rest =>
      replace h : (bif has seen i then reach H fuel rest seen k
        else match H[i]? with
          | some b => fSnoc seen [i] fun seen => reach H fuel (b.cells.foldr refs1 rest) seen k
          | none => none) = some r := h
      cases hc : has seen i with
      | true => rw [hc] at h; exact reach_spec k fuel _ _ h
      | false =>
        rw [hc] at h
        simp only [cond_false] at h
        split at h
        · rw [fSnoc_eq] at h; exact reach_spec k fuel _ _ h
        · cases h

omit [Known] in
theorem callR_spec {P : Program} {m : Mach} (hm : CallSound P m.call) : CallSound P (callR m) := by
  intro g vs H v H' hv ρ w N hH hvs
  unfold callR at hv
  obtain ⟨ids, hv⟩ := reach_spec _ _ _ _ hv
  cases hin : vs.all (inV ids) with
  | false => rw [hin] at hv; cases hv
  | true =>
    rw [hin] at hv
    simp only [cond_true] at hv
    split at hv
    · rename_i Hs hrows
      rw [fVals_eq, fBlks_eq] at hv
      split at hv
      · rename_i u H1 hc
        cases hown : (H1.drop ids.length).all (·.own) with
        | false => rw [hown] at hv; cases hv
        | true =>
          rw [hown] at hv
          simp only [cond_true, fNat_eq, fBlks_eq, fSnoc_eq, Option.some.injEq, Prod.mk.injEq] at hv
          obtain ⟨rfl, rfl⟩ := hv
          have hpart := hH.part hrows
          obtain ⟨hlen, hrow⟩ := rowsAt_spec hrows
          have hpos : ∀ j, has ids j = true → ρ (ids.getD (posOf ids j) 0) = ρ j := fun j hj => by rw [(posOf_spec hj).2]
          have hargs : (vs.map (mapV (posOf ids))).map (ren3 fun j => ρ (ids.getD j 0)) = vs.map (ren3 ρ) := by
            rw [List.map_map]
            exact List.map_congr_left fun x hx => ren3_in (ρ1 := fun j => ρ (ids.getD j 0)) (ρ2 := ρ) hpos (List.all_eq_true.1 hin x hx)
          have hcall := hm g _ Hs u H1 hc _ w w.heap.size hpart (fun x hx => by
            obtain ⟨y, hy, rfl⟩ := List.mem_map.1 hx
            rw [hlen]
            exact wf3_in (fun j hj => (posOf_spec hj).1) (List.all_eq_true.1 hin y hy))
          rw [hargs] at hcall
          refine hcall.mono fun e w' he => ?_
          cases e with
          | returned r =>
            obtain ⟨ρ', rfl, h1, h2, h3, h4, h5⟩ := he
            rw [hlen] at h2 h4
            have hidlt : ∀ j, j < ids.length → ids.getD j 0 < H.length := fun j hj => by
              have hj' : j < Hs.length := by rw [hlen]; exact hj
              obtain ⟨i, c, k1, k2, _⟩ := hrow j Hs[j] (List.getElem?_eq_getElem hj')
              rw [List.getD_eq_getElem?_getD, k1]
              exact lt_of_get k2
            have hb1 : ∀ j, j < ids.length → backOf ids ids.length H.length j = ids.getD j 0 := fun j hj => by
              unfold backOf
              have : Nat.blt j ids.length = true := by simp [Nat.blt]; omega
              rw [this]; rfl
            have hb2 : ∀ j, backOf ids ids.length H.length (ids.length + j) = H.length + j := fun j => by
              unfold backOf
              have : Nat.blt (ids.length + j) ids.length = false := by
                cases hbb : Nat.blt (ids.length + j) ids.length with
                | false => rfl
                | true => simp [Nat.blt] at hbb; omega
              rw [this]
              simp only [cond_false]
              omega
            have hf : ∀ j, over ids.length H.length ρ ρ' (backOf ids ids.length H.length j) = ρ' j := fun j => by
              rcases Nat.lt_or_ge j ids.length with hj | hj
              · rw [hb1 j hj]
                unfold over
                rw [if_pos (hidlt j hj)]
                exact (h2 j hj).symm
              · obtain ⟨d, rfl⟩ : ∃ d, j = ids.length + d := ⟨j - ids.length, by omega⟩
                rw [hb2]
                unfold over
                rw [if_neg (by omega)]
                congr 1; omega
            refine ⟨over ids.length H.length ρ ρ', (ren3_map hf u).symm, hH.joined h3 h1 hown (over_agree _ _ _ _) hf hb2 (fun j hj => by rw [hb1 j hj]; exact hidlt j hj) h4, over_agree _ _ _ _, h3.mono hH.base, by simp, ?_⟩
            rw [List.length_append, List.length_map, List.length_drop]
            refine wf3_map (fun j hj => ?_) h5
            rcases Nat.lt_or_ge j ids.length with hj2 | hj2
            · rw [hb1 j hj2]; have := hidlt j hj2; omega
            · obtain ⟨d, rfl⟩ : ∃ d, j = ids.length + d := ⟨j - ids.length, by omega⟩
              rw [hb2]; omega
          | _ => exact he
      · cases hv
    · cases hv

omit [Known] in
theorem callS_spec {P : Program} {m : Mach} (hm : CallSound P m.call) : CallSound P (callS m) := by
  intro g vs H v H' hv ρ w N hH hvs
  unfold callS at hv
  split at hv
  · rename_i hno
    split at hv
    · rename_i u H1 hc
      have hvs' : ∀ u ∈ vs, no3 u = true := fun u hu => List.all_eq_true.1 hno u hu
      have hcall := hm g vs [] u H1 hc ρ w w.heap.size (HRel.empty ρ w) (fun x hx => wf3_no (hvs' x hx))
      refine Calls.mono hcall fun e w' he => ?_
      cases e with
      | returned r =>
        obtain ⟨ρ', rfl, h1, h2, h3, h4, h5⟩ := he
        split at hv
        · rename_i hnu
          simp only [Option.some.injEq, Prod.mk.injEq] at hv
          obtain ⟨rfl, rfl⟩ := hv
          exact ⟨ρ, by rw [ren3_no _ hnu, ren3_no _ hnu], hH.below h3, Agree.refl _ _, h3.mono hH.base, Nat.le_refl _, wf3_no hnu⟩
        · split at hv
          · rename_i hown
            rw [fNat_eq, fBlks_eq, fSnoc_eq] at hv
            simp only [Option.some.injEq, Prod.mk.injEq] at hv
            obtain ⟨rfl, rfl⟩ := hv
            have hf : ∀ j, over 0 H.length ρ ρ' (H.length + j) = ρ' j := fun j => by
              unfold over
              rw [if_neg (by omega)]
              congr 1; omega
            have hj := hH.joined (k := 0) (f := fun i => H.length + i) h3 h1 (by simpa using hown) (over_agree 0 H.length ρ ρ') hf (fun j => by simp) (fun j hj => by omega) (Nat.zero_le _)
            rw [List.drop_zero] at hj
            refine ⟨over 0 H.length ρ ρ', (ren3_map hf u).symm, hj, over_agree _ _ _ _, h3.mono hH.base, by simp, ?_⟩
            rw [List.length_append, List.length_map]
            exact wf3_map (fun j hj => by omega) h5
          · cases hv
      | _ => exact he
    · cases hv
  · split at hv
    · rename_i r hr
      simp only [Option.some.injEq] at hv
      subst hv
      exact callR_spec hm g vs H v H' hr ρ w N hH hvs
    · exact hm g vs H v H' hv ρ w N hH hvs

omit [Known] in
theorem ren3_ptr {u : Value} (ρ : Env) (h : isPtr u = true) : ren3 ρ u = ren0 ρ u := by
  cases u <;> first | (simp [isPtr] at h; done) | skip
  rename_i q
  cases q <;> rfl
omit [Known] [Syms] in
theorem wf3_ptr {u : Value} {n : Nat} (h : isPtr u = true) : wf3 n u = wf0 n u := by
  cases u <;> first | (simp [isPtr] at h; done) | skip
  rename_i q
  cases q <;> rfl

/-! ### An operation, seen from its run -/
def Out (P : Program) (r : Result Next) (K : Value → World → Prop) : Prop :=
  match r with
  | .ok (.value v) w' => K v w'
  | .ok .skip w' => K undef w'
  | .ok (.enter f args) w' => Calls P f args w' (endPost K)
  | _ => False

omit [Known] [Syms] in
theorem Out.upon {P : Program} {r : Result Next} {Kv : Value → World → Prop} (h : Out P r Kv) {o : Oper} {a : Act} {K : Act → World → Prop} {Q : Exit → Act → World → Prop} (hK : ∀ v w', Kv v w' → K (a.put o.dst v) w') :
    o.upon P a K Q r := by
  cases r with
  | ok n w' =>
    cases n <;> simp only [Out] at h <;> first | exact h.elim | skip
    · exact hK _ _ h
    · exact hK _ _ h
    · refine Calls.mono h fun e w'' he => ?_
      cases e with
      | returned v => exact hK _ _ he
      | _ => exact he.elim
  | halt x w' => exact h.elim

def StepPost (ρ : Env) (H : Hp) (w : World) (N : Nat) (v : Value) (H' : Hp) (r : Value) (w' : World) : Prop := CallPost ρ H w N v H' r w'

omit [Known] in
theorem OpRes.out {P : Program} {o : Oper} {a : Act} {ρ : Env} {H H' : Hp} {w : World} {N : Nat} {v : Value} (h : OpRes P o a ρ H w N v H') (hwf : wf3 H'.length v = true) :
    Out P ((execOp a.eval o).run P w) (CallPost ρ H w N v H') := by
  obtain ⟨ρ', w', nx, hrun, hnx, h1, h2, h3, h4⟩ := h
  rw [hrun]
  rcases hnx with rfl | ⟨rfl, rfl⟩
  · exact ⟨ρ', rfl, h1, h2, h3, h4, hwf⟩
  · exact ⟨ρ', (ren3_undef ρ').symm, h1, h2, h3, h4, hwf⟩

section step
variable {P : Program} [KnownOk P] {F : Fns} {m : Mach} (hm : CallSound P m.call) (hF : ∀ f fn, F f = some fn → P.funcs[f]? = some fn)
  {o : Oper} {a : Act} {ρ : Env} {l : Fr} {w : World} {v : Value} {H H' : Hp} {N : Nat} (h : FRel ρ l a) (hw : ∀ x ∈ o.op.operands.toList, ∀ v, evalL l x = some v → wf3 H.length v = true) (hH : HRel ρ H w N)
include h

omit [Known] in
theorem calleeOf_spec {f : Operand} {args : Array Operand} {g : FuncId} {vs : List Value} (hc : calleeOf l f args = some (g, vs)) :
    ∃ cap : Array Value, a.eval f = .func (.func g) #[] cap ∧ args.map a.eval ++ cap = (vs.map (ren3 ρ)).toArray := by
  unfold calleeOf at hc
  split at hc
  · rename_i g' first cap us hf hargs
    split at hc
    · rename_i hcc
      simp only [Bool.and_eq_true] at hcc
      simp only [Option.some.injEq, Prod.mk.injEq] at hc
      obtain ⟨rfl, rfl⟩ := hc
      have e1 : first = #[] := by simpa using hcc.1
      subst e1
      refine ⟨cap.map (ren0 ρ), evalL_spec h hf, ?_⟩
      apply Array.ext'
      simp only [Array.toList_append, Array.toList_map, List.map_append]
      rw [evalAll_spec h _ _ hargs]
      congr 1
      refine List.map_congr_left fun u hu => ?_
      exact (ren3_ptr ρ (List.all_eq_true.1 hcc.2 u hu)).symm
    · cases hc
  · cases hc

omit h in
omit [Known] [Syms] in
theorem calleeOf_wf {n : Nat} {f : Operand} {args : Array Operand} (hw : ∀ x ∈ (#[f] ++ args).toList, ∀ v, evalL l x = some v → wf3 n v = true) {g : FuncId} {vs : List Value} (hc : calleeOf l f args = some (g, vs)) : ∀ u ∈ vs, wf3 n u = true := by
  have all : ∀ (xs : List Operand), (∀ x ∈ xs, ∀ v, evalL l x = some v → wf3 n v = true) → ∀ (us : List Value), evalAll l xs = some us → ∀ u ∈ us, wf3 n u = true := by
    intro xs
    induction xs with
    | nil => intro _ us h; simp [evalAll] at h; subst h; simp
    | cons x xs ih =>
      intro hw us h
      simp only [evalAll] at h
      split at h
      · rename_i y ys hy hys
        simp only [Option.some.injEq] at h
        subst h
        intro u hu
        rcases List.mem_cons.1 hu with rfl | hu
        · exact hw x (by simp) _ hy
        · exact ih (fun y hy => hw y (by simp [hy])) _ hys u hu
      · cases h
  unfold calleeOf at hc
  split at hc
  · rename_i g' first cap us hf hargs
    split at hc
    · rename_i hcc
      simp only [Bool.and_eq_true] at hcc
      simp only [Option.some.injEq, Prod.mk.injEq] at hc
      obtain ⟨rfl, rfl⟩ := hc
      intro u hu
      rcases List.mem_append.1 hu with hu | hu
      · exact all _ (fun x hx => hw x (by simp at hx; simp [hx])) _ hargs u hu
      · have h1 := hw f (by simp) _ hf
        have h2 : cap.toList.all (wf0 n) = true := h1
        rw [wf3_ptr (List.all_eq_true.1 hcc.2 u hu)]
        exact List.all_eq_true.1 h2 u hu
    · cases hc
  · cases hc

include hm hF hw hH in
theorem stepS_spec (hv0 : stepS P F m l H o = some (v, H')) : Out P ((execOp a.eval o).run P w) (CallPost ρ H w N v H') := by
  have plain : aOp P l H o = some (v, H') → Out P ((execOp a.eval o).run P w) (CallPost ρ H w N v H') := fun hv => (aOp_spec h hH hv).1.out (aOp_spec h hH hv).2
  have hv : stepC P F m l H o = some (v, H') ∨ aOp P l H o = some (v, H') := by
    unfold stepS at hv0
    rw [aOpQ_eq] at hv0
    cases hk : kCall o with
    | true => rw [hk] at hv0; exact .inl hv0
    | false => rw [hk] at hv0; exact .inr hv0
  rcases hv with hv | hv
  case inr => exact plain hv
  unfold stepC at hv
  simp only [aOpQ_eq] at hv
  split at hv
  · rename_i g vs hc
    split at hv
    · rename_i hb
      unfold hasBody at hb
      split at hb
      · rename_i fn hfn
        simp only [Bool.and_eq_true, Bool.not_eq_true', beq_eq_false_iff_ne, ne_eq] at hb
        unfold aCallee at hc
        split at hc
        · rename_i f args argTypes ho
          obtain ⟨cap, he, hargs⟩ := calleeOf_spec h hc
          have hcall := callS_spec hm g vs H v H' hv ρ w N hH (calleeOf_wf (fun x hx => hw x (by rw [ho]; exact hx)) hc)
          have hrun : (execOp a.eval o).run P w = .ok (.enter g (vs.map (ren3 ρ)).toArray) w := by
            rw [← hargs]
            have hbody : ¬ fn.body = none := by
              intro hbb
              rw [hbb] at hb; simp at hb
            simp [execOp, ho, resolve, he, Deferred.ofValue, invoke, callFunc, hF _ _ hfn, hb.2, hbody]
          rw [hrun]
          exact hcall
        · cases hc
      · cases hb
    · exact plain hv
  · exact plain hv
end step

omit [Syms] in
/-- A step, by whether it is wanted. -/
theorem stepW_eq {P : Program} {F : Fns} {m : Mach} {ops : Array Oper} {o : Oper} {l : Fr} {H : Hp} : stepW P F m ops o l H = bif Region.wanted o (yieldedL ops l) then stepS P F m l H o else some (undef, H) := by
  unfold stepW stepO
  cases hk : kFree o with
  | false => rfl
  | true =>
    have : Region.wanted o (yieldedL ops l) = true := by
      unfold kFree at hk
      simp only [Option.isNone_iff_eq_none] at hk
      simp [Region.wanted, hk]
    rw [this]
    unfold stepS
    cases kCall o <;> rfl

omit [Known] in
theorem yielded_spec {ρ : Env} {l : Fr} {a : Act} (h : FRel ρ l a) (ops : Array Oper) (j : Nat) : yielded ops a.tmps j = yieldedL ops l j := by
  unfold yielded yieldedL
  cases hd : (ops[j]?).bind (·.dst) with
  | none => rfl
  | some t =>
    have hs := h.slot t
    simp only [Option.bind_some]
    by_cases ht : t < a.tmps.size
    · have e : a.tmps[t]? = some (ren3 ρ (l.get t)) := by
        rw [← hs]; simp [Array.getD_eq_getD_getElem?, ht]
      rw [e]
      cases l.get t <;> try rfl
      case pointer q => cases q <;> rfl
      case slice q n c => cases q <;> rfl
      case chan r =>
        cases r with
        | none => rfl
        | some j =>
          show (match some (Syms.sym j) with
            | some (.bool b) => some b
            | _ => none) = none
          split
          · rename_i b hb; exact absurd (Option.some.inj hb) (Syms.notBool j b)
          · rfl
    · have e : a.tmps[t]? = none := Array.getElem?_eq_none (Nat.le_of_not_lt ht)
      rw [e]
      have hu : ren3 ρ (l.get t) = undef := by rw [← hs]; simp [Array.getD_eq_getD_getElem?, e]
      cases hx : l.get t <;> first | rfl | skip
      rw [hx] at hu
      simp [ren3, ren2, ren1, undef] at hu

omit [Known] in
theorem wanted_spec {ρ : Env} {l : Fr} {a : Act} (h : FRel ρ l a) (ops : Array Oper) (o : Oper) : Region.wanted o (yielded ops a.tmps) = Region.wanted o (yieldedL ops l) := by
  have : yielded ops a.tmps = yieldedL ops l := funext fun j => yielded_spec h ops j
  rw [this]

end Go.Proofs.Ytmckaoeofikdaaa.Lift
