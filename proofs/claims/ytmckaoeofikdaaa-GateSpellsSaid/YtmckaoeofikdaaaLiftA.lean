/- A second, simpler machine: values with block numbers of their own, a heap that is a list of rows; how its values and heaps stand for the model's. Plain definitions and lemmas, over any program. -/
import Derived.WalkKit
import Derived.WalkLawsBesides
import Derived.Deep.MidRow
namespace Go.Proofs.Ytmckaoeofikdaaa.Lift
open Go.RowKit

/-- Where a row of the second machine lies in the model's heap: a block, an offset, how many elements it has room for. -/
structure Pl where
  block : Nat
  off : Nat
  cap : Nat

abbrev Env := Nat → Pl

def isCell : Value → Bool
  | .agg _ | .tuple _ => false
  | _ => true

/-- What is known of operations on values that are not known: signs stand for them ('.chan (some j)'). -/
class Known where
  bin : BinOp → Value → Value → Option Value
  un : UnOp → Value → Option Value
  conv : TypeId → TypeId → Value → Option Value
  len : TypeId → Value → Option Value

/-- What the signs stand for. -/
class Syms where
  sym : Nat → Value
  cell : ∀ j, isCell (sym j) = true
  notBool : ∀ j b, sym j ≠ .bool b

variable [Syms]

def upd (ρ : Env) (n : Nat) (p : Pl) : Env := fun j => if j = n then p else ρ j
omit [Syms] in
theorem upd_same (ρ : Env) (n : Nat) (p : Pl) : upd ρ n p n = p := by simp [upd]
omit [Syms] in
theorem upd_lt (ρ : Env) (n : Nat) (p : Pl) {j : Nat} (h : j < n) : upd ρ n p j = ρ j := by
  unfold upd; rw [if_neg (by omega)]

def renA (ρ : Env) (a : Addr) : Addr := ⟨(ρ a.block).block, (ρ a.block).off + a.off, a.spot⟩

def ren0 (ρ : Env) : Value → Value
  | .pointer (some a) => .pointer (some (renA ρ a))
  | v => v

/-- One cell. A slice whose capacity is written 0 has the room of its row; one whose capacity is written k + 1 has k. -/
def ren1 (ρ : Env) : Value → Value
  | .pointer (some a) => .pointer (some (renA ρ a))
  | .slice (some a) len k => .slice (some (renA ρ a)) len (if k = 0 then (ρ a.block).cap else k - 1)
  | .func f first cap => .func f first (cap.map (ren0 ρ))
  | .chan (some j) => Syms.sym j
  | v => v

def ren2 (ρ : Env) : Value → Value
  | .agg cs => .agg (cs.map (ren1 ρ))
  | v => ren1 ρ v

def ren3 (ρ : Env) : Value → Value
  | .tuple vs => .tuple (vs.map (ren2 ρ))
  | v => ren2 ρ v

def isTup : Value → Bool
  | .tuple _ => true
  | _ => false

theorem ren2_cell {v : Value} (ρ : Env) (h : isCell v = true) : ren2 ρ v = ren1 ρ v := by cases v <;> simp_all [ren2, isCell]
theorem ren3_flat {v : Value} (ρ : Env) (h : isTup v = false) : ren3 ρ v = ren2 ρ v := by cases v <;> simp_all [ren3, isTup]
omit [Syms] in
theorem isTup_cell {v : Value} (h : isCell v = true) : isTup v = false := by cases v <;> simp_all [isTup, isCell]
theorem ren3_cell {v : Value} (ρ : Env) (h : isCell v = true) : ren3 ρ v = ren1 ρ v := by rw [ren3_flat ρ (isTup_cell h), ren2_cell ρ h]

theorem isCell_ren1 {v : Value} (ρ : Env) : isCell (ren1 ρ v) = isCell v := by
  cases v <;> try rfl
  case pointer a => cases a <;> rfl
  case slice a l k => cases a <;> rfl
  case chan r =>
    cases r with
    | none => rfl
    | some j => exact Syms.cell j
omit [Syms] in
theorem oneCell_of {v : Value} (h : isCell v = true) : v.oneCell' = true := by cases v <;> simp_all [isCell, Value.oneCell']
omit [Syms] in
theorem isCell_of {v : Value} (h : v.oneCell' = true) : isCell v = true := by cases v <;> simp_all [isCell, Value.oneCell']

/-! ### Values without addresses -/
def no1 : Value → Bool
  | .pointer (some _) | .slice (some _) _ _ | .map (some _) | .chan (some _) | .iface _ _ | .agg _ | .tuple _ => false
  | .func _ first cap => first.isEmpty && cap.isEmpty
  | _ => true
def no2 : Value → Bool
  | .agg cs => cs.toList.all no1
  | v => no1 v
def no3 : Value → Bool
  | .tuple vs => vs.toList.all no2
  | v => no2 v

omit [Syms] in
theorem map_id_of {α : Type} (f : α → α) (xs : Array α) (h : ∀ x ∈ xs.toList, f x = x) : xs.map f = xs := by
  apply Array.ext'
  rw [Array.toList_map]
  have e := List.map_congr_left (f := f) (g := id) (l := xs.toList) h
  rw [e, List.map_id]

theorem ren1_no {v : Value} (ρ : Env) (h : no1 v = true) : ren1 ρ v = v := by
  cases v <;> try rfl
  case pointer a => cases a <;> first | rfl | (simp [no1] at h)
  case slice a l k => cases a <;> first | rfl | (simp [no1] at h)
  case func f first cap =>
    simp only [no1, Bool.and_eq_true, Array.isEmpty_iff] at h
    obtain ⟨rfl, rfl⟩ := h
    simp [ren1]
  case chan r => cases r <;> first | rfl | (simp [no1] at h)

/-! ### Values whose blocks are below n -/
def wf0 (n : Nat) : Value → Bool
  | .pointer (some a) => decide (a.block < n)
  | _ => true
def wf1 (n : Nat) : Value → Bool
  | .pointer (some a) => decide (a.block < n)
  | .slice (some a) _ _ => decide (a.block < n)
  | .func _ _ cap => cap.toList.all (wf0 n)
  | _ => true
def wf2 (n : Nat) : Value → Bool
  | .agg cs => cs.toList.all (wf1 n)
  | v => wf1 n v
def wf3 (n : Nat) : Value → Bool
  | .tuple vs => vs.toList.all (wf2 n)
  | v => wf2 n v

theorem two_or (v : Value) : (∃ cs, v = .agg cs) ∨ ((∀ ρ, ren2 ρ v = ren1 ρ v) ∧ no2 v = no1 v ∧ ∀ n, wf2 n v = wf1 n v) := by
  cases v <;> first | exact .inl ⟨_, rfl⟩ | exact .inr ⟨fun _ => rfl, rfl, fun _ => rfl⟩
theorem three_or (v : Value) : (∃ cs, v = .tuple cs) ∨ ((∀ ρ, ren3 ρ v = ren2 ρ v) ∧ no3 v = no2 v ∧ ∀ n, wf3 n v = wf2 n v) := by
  cases v <;> first | exact .inl ⟨_, rfl⟩ | exact .inr ⟨fun _ => rfl, rfl, fun _ => rfl⟩

theorem ren2_no {v : Value} (ρ : Env) (h : no2 v = true) : ren2 ρ v = v := by
  rcases two_or v with ⟨cs, rfl⟩ | ⟨e1, e2, _⟩
  · simp only [no2, List.all_eq_true] at h
    simp only [ren2]
    rw [map_id_of _ _ (fun x hx => ren1_no ρ (h x hx))]
  · rw [e1]; exact ren1_no ρ (e2 ▸ h)
theorem ren3_no {v : Value} (ρ : Env) (h : no3 v = true) : ren3 ρ v = v := by
  rcases three_or v with ⟨cs, rfl⟩ | ⟨e1, e2, _⟩
  · simp only [no3, List.all_eq_true] at h
    simp only [ren3]
    rw [map_id_of _ _ (fun x hx => ren2_no ρ (h x hx))]
  · rw [e1]; exact ren2_no ρ (e2 ▸ h)

omit [Syms] in
theorem wf0_mono {n m : Nat} (hnm : n ≤ m) {v : Value} (h : wf0 n v = true) : wf0 m v = true := by
  cases v <;> try rfl
  case pointer a => cases a <;> first | rfl | (simp only [wf0, decide_eq_true_eq] at h ⊢; omega)
omit [Syms] in
theorem wf1_mono {n m : Nat} (hnm : n ≤ m) {v : Value} (h : wf1 n v = true) : wf1 m v = true := by
  cases v <;> try rfl
  case pointer a => cases a <;> first | rfl | (simp only [wf1, decide_eq_true_eq] at h ⊢; omega)
  case slice a l k => cases a <;> first | rfl | (simp only [wf1, decide_eq_true_eq] at h ⊢; omega)
  case func f first cap =>
    simp only [wf1, List.all_eq_true] at h ⊢
    exact fun x hx => wf0_mono hnm (h x hx)
theorem wf2_mono {n m : Nat} (hnm : n ≤ m) {v : Value} (h : wf2 n v = true) : wf2 m v = true := by
  rcases two_or v with ⟨cs, rfl⟩ | ⟨_, _, e⟩
  · simp only [wf2, List.all_eq_true] at h ⊢; exact fun x hx => wf1_mono hnm (h x hx)
  · rw [e] at h ⊢; exact wf1_mono hnm h
theorem wf3_mono {n m : Nat} (hnm : n ≤ m) {v : Value} (h : wf3 n v = true) : wf3 m v = true := by
  rcases three_or v with ⟨cs, rfl⟩ | ⟨_, _, e⟩
  · simp only [wf3, List.all_eq_true] at h ⊢; exact fun x hx => wf2_mono hnm (h x hx)
  · rw [e] at h ⊢; exact wf2_mono hnm h

def Agree (n : Nat) (ρ ρ' : Env) : Prop := ∀ j, j < n → ρ' j = ρ j
omit [Syms] in
theorem Agree.refl (n : Nat) (ρ : Env) : Agree n ρ ρ := fun _ _ => rfl
omit [Syms] in
theorem Agree.trans {n m : Nat} {a b c : Env} (h : Agree n a b) (k : Agree m b c) (hnm : n ≤ m) : Agree n a c := fun j hj => (k j (by omega)).trans (h j hj)
omit [Syms] in
theorem Agree.upd (ρ : Env) (n : Nat) (p : Pl) : Agree n ρ (upd ρ n p) := fun _ hj => upd_lt ρ n p hj
omit [Syms] in
theorem Agree.mono {n m : Nat} {a b : Env} (h : Agree n a b) (hm : m ≤ n) : Agree m a b := fun j hj => h j (by omega)

omit [Syms] in
theorem map_congr_of {α β : Type} (f g : α → β) (xs : Array α) (h : ∀ x ∈ xs.toList, f x = g x) : xs.map f = xs.map g := by
  apply Array.ext'
  rw [Array.toList_map, Array.toList_map]
  exact List.map_congr_left h

omit [Syms] in
theorem ren0_agree {n : Nat} {ρ ρ' : Env} (hA : Agree n ρ ρ') {v : Value} (h : wf0 n v = true) : ren0 ρ' v = ren0 ρ v := by
  cases v <;> try rfl
  case pointer a =>
    cases a with
    | none => rfl
    | some a => simp only [wf0, decide_eq_true_eq] at h; simp only [ren0, renA, hA _ h]
theorem ren1_agree {n : Nat} {ρ ρ' : Env} (hA : Agree n ρ ρ') {v : Value} (h : wf1 n v = true) : ren1 ρ' v = ren1 ρ v := by
  cases v <;> try rfl
  case chan r => cases r <;> rfl
  case pointer a =>
    cases a with
    | none => rfl
    | some a => simp only [wf1, decide_eq_true_eq] at h; simp only [ren1, renA, hA _ h]
  case slice a l k =>
    cases a with
    | none => rfl
    | some a => simp only [wf1, decide_eq_true_eq] at h; simp only [ren1, renA, hA _ h]
  case func f first cap =>
    simp only [wf1, List.all_eq_true] at h
    simp only [ren1]
    rw [map_congr_of _ _ _ (fun x hx => ren0_agree hA (h x hx))]
theorem ren2_agree {n : Nat} {ρ ρ' : Env} (hA : Agree n ρ ρ') {v : Value} (h : wf2 n v = true) : ren2 ρ' v = ren2 ρ v := by
  rcases two_or v with ⟨cs, rfl⟩ | ⟨e1, _, e⟩
  · simp only [wf2, List.all_eq_true] at h
    simp only [ren2]
    rw [map_congr_of _ _ _ (fun x hx => ren1_agree hA (h x hx))]
  · rw [e1, e1]; rw [e] at h; exact ren1_agree hA h
theorem ren3_agree {n : Nat} {ρ ρ' : Env} (hA : Agree n ρ ρ') {v : Value} (h : wf3 n v = true) : ren3 ρ' v = ren3 ρ v := by
  rcases three_or v with ⟨cs, rfl⟩ | ⟨e1, _, e⟩
  · simp only [wf3, List.all_eq_true] at h
    simp only [ren3]
    rw [map_congr_of _ _ _ (fun x hx => ren2_agree hA (h x hx))]
  · rw [e1, e1]; rw [e] at h; exact ren2_agree hA h

omit [Syms] in
theorem wf1_no {n : Nat} {v : Value} (h : no1 v = true) : wf1 n v = true := by
  cases v <;> try rfl
  case pointer a => cases a <;> first | rfl | (simp [no1] at h)
  case slice a l k => cases a <;> first | rfl | (simp [no1] at h)
  case func f first cap =>
    simp only [no1, Bool.and_eq_true, Array.isEmpty_iff] at h
    obtain ⟨rfl, rfl⟩ := h
    rfl
theorem wf2_no {n : Nat} {v : Value} (h : no2 v = true) : wf2 n v = true := by
  rcases two_or v with ⟨cs, rfl⟩ | ⟨_, e2, e⟩
  · simp only [no2, wf2, List.all_eq_true] at h ⊢; exact fun x hx => wf1_no (h x hx)
  · rw [e]; exact wf1_no (e2 ▸ h)
theorem wf3_no {n : Nat} {v : Value} (h : no3 v = true) : wf3 n v = true := by
  rcases three_or v with ⟨cs, rfl⟩ | ⟨_, e2, e⟩
  · simp only [no3, wf3, List.all_eq_true] at h ⊢; exact fun x hx => wf2_no (h x hx)
  · rw [e]; exact wf2_no (e2 ▸ h)

/-! ### The heap -/
structure Blk where
  elem : TypeId
  cells : List Value
  sz : Nat
  own : Bool
  live : Bool

abbrev Hp := List Blk

structure HRel (ρ : Env) (H : Hp) (w : World) (N : Nat) : Prop where
  own : ∀ (j : Nat) (b : Blk), H[j]? = some b → b.live = true → b.own = true → (ρ j).off = 0 ∧ N ≤ (ρ j).block ∧ (ρ j).cap ≤ maxLen ∧
    ∃ cur, w.heap[(ρ j).block]? = some (.cells cur b.elem (0, 0)) ∧ cur.size = (ρ j).cap * b.sz ∧ cur.toList.take b.cells.length = b.cells.map (ren1 ρ)
  ro : ∀ (j : Nat) (b : Blk), H[j]? = some b → b.live = true → b.own = false → (ρ j).block < N ∧ ∀ i v, b.cells[i]? = some v → w.cell? ⟨(ρ j).block, (ρ j).off + i, none⟩ = some (ren1 ρ v)
  apart : ∀ (i j : Nat) (bi bj : Blk), H[i]? = some bi → H[j]? = some bj → bi.live = true → bj.live = true → bi.own = true → bj.own = true → i ≠ j → (ρ i).block ≠ (ρ j).block
  base : N ≤ w.heap.size
  wf : ∀ (j : Nat) (b : Blk), H[j]? = some b → ∀ v ∈ b.cells, wf1 H.length v = true
  cell : ∀ (j : Nat) (b : Blk), H[j]? = some b → ∀ v ∈ b.cells, isCell v = true

theorem HRel.cellAt {ρ : Env} {H : Hp} {w : World} {N : Nat} (h : HRel ρ H w N) {j : Nat} {b : Blk} (hj : H[j]? = some b) (hl : b.live = true) {i : Nat} {v : Value} (hv : b.cells[i]? = some v) :
    w.cell? ⟨(ρ j).block, (ρ j).off + i, none⟩ = some (ren1 ρ v) := by
  cases ho : b.own with
  | false => exact (h.ro j b hj hl ho).2 i v hv
  | true =>
    obtain ⟨h0, _, _, cur, hb, hs, ht⟩ := h.own j b hj hl ho
    rw [cell_of_row w _ _ cur b.elem (0, 0) hb, h0, Nat.zero_add]
    have h1 : (cur.toList.take b.cells.length)[i]? = some (ren1 ρ v) := by rw [ht, List.getElem?_map, hv]; rfl
    rw [List.getElem?_take] at h1
    split at h1
    · simpa using h1
    · cases h1

omit [Syms] in
theorem lt_of_get {α : Type} {l : List α} {i : Nat} {x : α} (h : l[i]? = some x) : i < l.length := (List.getElem?_eq_some_iff.1 h).1

theorem map_ren1_agree {n : Nat} {ρ ρ' : Env} (hA : Agree n ρ ρ') {l : List Value} (h : ∀ v ∈ l, wf1 n v = true) : l.map (ren1 ρ') = l.map (ren1 ρ) :=
  List.map_congr_left fun v hv => ren1_agree hA (h v hv)

/-- Another environment that says the same of every row. -/
theorem HRel.agree {ρ ρ' : Env} {H : Hp} {w : World} {N : Nat} (h : HRel ρ H w N) (hA : Agree H.length ρ ρ') : HRel ρ' H w N where
  own j b hj hl ho := by
    rw [hA j (lt_of_get hj), map_ren1_agree hA (h.wf j b hj)]
    exact h.own j b hj hl ho
  ro j b hj hl ho := by
    rw [hA j (lt_of_get hj)]
    refine ⟨(h.ro j b hj hl ho).1, fun i v hv => ?_⟩
    rw [ren1_agree hA (h.wf j b hj v (List.mem_of_getElem? hv))]
    exact (h.ro j b hj hl ho).2 i v hv
  apart i j bi bj hi hj h1 h2 h3 h4 hne := by
    rw [hA i (lt_of_get hi), hA j (lt_of_get hj)]
    exact h.apart i j bi bj hi hj h1 h2 h3 h4 hne
  base := h.base
  wf := h.wf
  cell := h.cell

/-- A draw. -/
theorem HRel.drew {ρ : Env} {H : Hp} {w : World} {N : Nat} (h : HRel ρ H w N) : HRel ρ H w.drew N := ⟨h.own, h.ro, h.apart, h.base, h.wf, h.cell⟩

omit [Syms] in
theorem get_snoc {α : Type} {l : List α} {x y : α} {j : Nat} (h : (l ++ [x])[j]? = some y) : (l[j]? = some y ∧ j < l.length) ∨ (j = l.length ∧ y = x) := by
  by_cases hj : j < l.length
  · rw [List.getElem?_append_left hj] at h; exact .inl ⟨h, hj⟩
  · rw [List.getElem?_append_right (by omega)] at h
    have : j - l.length = 0 := by
      have := lt_of_get h; simp at this; omega
    rw [this] at h
    exact .inr ⟨by omega, by simpa using h.symm⟩

/-- A new row at the heap's end. -/
theorem HRel.alloc {ρ : Env} {H : Hp} {w : World} {N : Nat} (h : HRel ρ H w N) (e : TypeId) (cells : List Value) (sz cap : Nat) (cs : Array Value) (hcs : cs.toList.take cells.length = cells.map (ren1 ρ))
    (hsz : cs.size = cap * sz) (hcap : cap ≤ maxLen) (hwf : ∀ v ∈ cells, wf1 H.length v = true) (hcell : ∀ v ∈ cells, isCell v = true) :
    HRel (upd ρ H.length ⟨w.heap.size, 0, cap⟩) (H ++ [⟨e, cells, sz, true, true⟩]) (w.alloc (.cells cs e)) N := by
  have hA : Agree H.length ρ (upd ρ H.length ⟨w.heap.size, 0, cap⟩) := Agree.upd _ _ _
  have old : ∀ k, k < w.heap.size → (w.alloc (.cells cs e)).heap[k]? = w.heap[k]? := fun k hk => Below.heap_alloc w _ k hk
  have blt : ∀ (j : Nat) (b : Blk), H[j]? = some b → b.live = true → b.own = true → (ρ j).block < w.heap.size := fun j b hj hl ho => by
    obtain ⟨_, _, _, cur, hb, _⟩ := h.own j b hj hl ho
    exact (Array.getElem?_eq_some_iff.1 hb).1
  refine ⟨?_, ?_, ?_, ?_, ?_, ?_⟩
  · intro j b hj hl ho
    rcases get_snoc hj with ⟨hj, hlt⟩ | ⟨rfl, rfl⟩
    · rw [hA j hlt, map_ren1_agree hA (h.wf j b hj), old _ (blt j b hj hl ho)]
      exact h.own j b hj hl ho
    · rw [upd_same]
      refine ⟨rfl, h.base, hcap, cs, heap_alloc_new w _, hsz, ?_⟩
      rw [map_ren1_agree hA hwf]; exact hcs
  · intro j b hj hl ho
    rcases get_snoc hj with ⟨hj, hlt⟩ | ⟨rfl, rfl⟩
    · rw [hA j hlt]
      refine ⟨(h.ro j b hj hl ho).1, fun i v hv => ?_⟩
      rw [ren1_agree hA (h.wf j b hj v (List.mem_of_getElem? hv)), World.cell?_alloc_lt _ _ _ (show (ρ j).block < w.heap.size from Nat.lt_of_lt_of_le (h.ro j b hj hl ho).1 h.base)]
      exact (h.ro j b hj hl ho).2 i v hv
    · cases ho
  · intro i j bi bj hi hj h1 h2 h3 h4 hne
    rcases get_snoc hi with ⟨hi, hilt⟩ | ⟨rfl, rfl⟩ <;> rcases get_snoc hj with ⟨hj, hjlt⟩ | ⟨rfl, rfl⟩
    · rw [hA i hilt, hA j hjlt]; exact h.apart i j bi bj hi hj h1 h2 h3 h4 hne
    · rw [hA i hilt, upd_same]; have := blt i bi hi h1 h3; simp; omega
    · rw [hA j hjlt, upd_same]; have := blt j bj hj h2 h4; simp; omega
    · exact absurd rfl hne
  · have := h.base; simp; omega
  · intro j b hj v hv
    rw [List.length_append]
    rcases get_snoc hj with ⟨hj, hlt⟩ | ⟨rfl, rfl⟩
    · exact wf1_mono (by simp) (h.wf j b hj v hv)
    · exact wf1_mono (by simp) (hwf v hv)
  · intro j b hj v hv
    rcases get_snoc hj with ⟨hj, hlt⟩ | ⟨rfl, rfl⟩
    · exact h.cell j b hj v hv
    · exact hcell v hv

end Go.Proofs.Ytmckaoeofikdaaa.Lift
