/- Products of matrices: sums in whatever order. Plain Lean. -/
import Derived.Test.YtmckaoeofikdaaaCommE
namespace Go.Proofs.Ytmckaoeofikdaaa

theorem zadd_comm (a b : Zi) : zadd a b = zadd b a := by unfold zadd; ext <;> simp <;> omega
theorem zadd_assoc (a b c : Zi) : zadd (zadd a b) c = zadd a (zadd b c) := by unfold zadd; ext <;> simp <;> omega
theorem zadd_zero (a : Zi) : zadd a (0, 0) = a := by unfold zadd; simp
theorem zero_zadd (a : Zi) : zadd (0, 0) a = a := by unfold zadd; simp
theorem zmul_comm (a b : Zi) : zmul a b = zmul b a := by
  unfold zmul
  ext
  · simp [Int.mul_comm]
  · simp only
    rw [Int.mul_comm a.1 b.2, Int.mul_comm a.2 b.1, Int.add_comm]
theorem zmul_zero (a : Zi) : zmul a (0, 0) = (0, 0) := by unfold zmul; simp
theorem zero_zmul (a : Zi) : zmul (0, 0) a = (0, 0) := by unfold zmul; simp

/-- A sum over a list of indices. -/
def sumZ (l : List Nat) (f : Nat → Zi) : Zi := l.foldr (fun k s => zadd (f k) s) (0, 0)
theorem sumZ_perm {l m : List Nat} (h : l.Perm m) (f : Nat → Zi) : sumZ l f = sumZ m f := by
  induction h with
  | nil => rfl
  | cons x _ ih => unfold sumZ at *; simp only [List.foldr_cons]; rw [ih]
  | swap x y l =>
    unfold sumZ
    simp only [List.foldr_cons]
    rw [← zadd_assoc, zadd_comm (f y) (f x), zadd_assoc]
  | trans _ _ h1 h2 => rw [h1, h2]
theorem sumZ_map (l : List Nat) (r : Nat → Nat) (f : Nat → Zi) : sumZ (l.map r) f = sumZ l fun k => f (r k) := by
  unfold sumZ; rw [List.foldr_map]
theorem sumZ_congr {l : List Nat} {f g : Nat → Zi} (h : ∀ k ∈ l, f k = g k) : sumZ l f = sumZ l g := by
  induction l with
  | nil => rfl
  | cons x l ih =>
    unfold sumZ at *
    simp only [List.foldr_cons]
    rw [h x (List.mem_cons_self ..), ih fun k hk => h k (List.mem_cons_of_mem _ hk)]
theorem sumZ_append (l m : List Nat) (f : Nat → Zi) : sumZ (l ++ m) f = zadd (sumZ l f) (sumZ m f) := by
  induction l with
  | nil => rw [List.nil_append]; exact (zero_zadd _).symm
  | cons x l ih =>
    show zadd (f x) (sumZ (l ++ m) f) = zadd (zadd (f x) (sumZ l f)) _
    rw [ih, zadd_assoc]
theorem sumZ_zero {l : List Nat} {f : Nat → Zi} (h : ∀ k ∈ l, f k = (0, 0)) : sumZ l f = (0, 0) := by
  rw [sumZ_congr (g := fun _ => (0, 0)) h]
  clear h
  induction l with
  | nil => rfl
  | cons x l ih => show zadd (0, 0) (sumZ l _) = _; rw [ih]; rfl

/-- A place of a product is a sum over all indices. -/
theorem psum_sumZ (n : Nat) (A B : Nat → Zi) (k idx : Nat) : psum n A B k idx = sumZ (List.range k) fun q => zmul (A (n * (idx / n) + q)) (B (n * q + idx % n)) := by
  induction k with
  | zero => rfl
  | succ k ih =>
    rw [psum_succ, ih, List.range_succ, sumZ_append]
    congr 1
    show _ = zadd _ (0, 0)
    rw [zadd_zero]
theorem mulM_at (n : Nat) (A B : Nat → Zi) {r c : Nat} (hc : c < n) : mulM n A B (n * r + c) = sumZ (List.range n) fun q => zmul (A (n * r + q)) (B (n * q + c)) := by
  unfold mulM
  rw [psum_sumZ, idx_div hc, idx_mod hc]
/-- A sum of which one term alone is not nought. -/
theorem sumZ_one {n m : Nat} (hm : m < n) {f : Nat → Zi} (h : ∀ k, k < n → k ≠ m → f k = (0, 0)) : sumZ (List.range n) f = f m := by
  induction n with
  | zero => omega
  | succ n ih =>
    rw [List.range_succ, sumZ_append]
    have e : sumZ [n] f = f n := zadd_zero _
    rw [e]
    by_cases hmn : m = n
    · subst hmn
      rw [sumZ_zero fun k hk => h k (by have := List.mem_range.1 hk; omega) (by have := List.mem_range.1 hk; omega), zero_zadd]
    · rw [ih (by omega) (fun k hk hkm => h k (by omega) hkm), h n (by omega) (Ne.symm hmn), zadd_zero]

/-- Both orders are the same where each entry is. -/
theorem sameM_iff {n : Nat} {A B : Nat → Zi} : sameM n A B = true ↔ ∀ i, i < n → A i = B i := by
  unfold sameM
  rw [List.all_eq_true]
  constructor
  · intro h i hi
    simpa using h i (List.mem_range.2 hi)
  · intro h i hi
    simpa using h i (List.mem_range.1 hi)
theorem split_idx {n i : Nat} (h : i < n * n) : ∃ r c, r < n ∧ c < n ∧ i = n * r + c :=
  ⟨i / n, i % n, Nat.div_lt_of_lt_mul h, Nat.mod_lt _ (by rcases Nat.eq_zero_or_pos n with h0 | h0; subst h0; simp at h; exact h0), (Nat.div_add_mod i n).symm⟩

/-- Products carried along a reordering of the indices. -/
theorem mulM_turn {n : Nat} {A B A' B' : Nat → Zi} (p : Nat → Nat) (hp : ((List.range n).map p).Perm (List.range n)) (hpn : ∀ k, k < n → p k < n)
    (hA : ∀ r c, r < n → c < n → A' (n * p r + p c) = A (n * r + c)) (hB : ∀ r c, r < n → c < n → B' (n * p r + p c) = B (n * r + c)) {r c : Nat} (hr : r < n) (hc : c < n) :
    mulM n A' B' (n * p r + p c) = mulM n A B (n * r + c) := by
  rw [mulM_at n A' B' (hpn c hc), mulM_at n A B hc, ← sumZ_perm hp, sumZ_map]
  exact sumZ_congr fun k hk => by
    have hk' := List.mem_range.1 hk
    rw [hA r k hr hk', hB k c hk' hc]

/-! The pattern of equal qubits, and what the other order makes of it: finitely many cases. Plain Lean. -/
/-- Bits laid on other wires. -/
def scat (ps : List Nat) (r : Nat) : Nat → Nat
  | 0 => 0
  | k + 1 => scat ps r k + r / 2 ^ k % 2 * 2 ^ (ps.getD k 0)
def listsOf : Nat → List (List Int)
  | 0 => [[]]
  | k + 1 => (listsOf k).flatMap fun l => [0, 1, 2, 3, 4, 5].map fun x => l ++ [x]
def firsts (a : Nat) : List Int := (List.range a).map fun (i : Nat) => (i : Int)
/-- For a first row 0 .. a-1 and a second row o2: is the other order a relaying of the wires? -/
def turnOk (a b : Nat) (o2 : List Int) : Bool :=
  let V := pw (firsts a) o2 b
  let V' := pw (pw [] o2 b) (firsts a) a
  let n := V.length
  let ps := (List.range n).map fun i => posF V' (V.getD i 0)
  let oA := poN [] (firsts a) a
  let oB := poN (firsts a) o2 b
  let oB' := poN [] o2 b
  let oA' := poN (pw [] o2 b) (firsts a) a
  V'.length == n &&
  ((List.range (2 ^ n)).all fun r =>
    let r' := scat ps r n
    decide (r' < 2 ^ n) && idxT oA' r' a == idxT oA r a && idxT oB' r' b == idxT oB r b && restT oA' r' a == scat ps (restT oA r a) n && restT oB' r' b == scat ps (restT oB r b) n) &&
  ((List.range (2 ^ n)).map fun r => scat ps r n).isPerm (List.range (2 ^ n))
def goodRow (a : Nat) (o2 : List Int) : Bool := apartF o2 && (poN (firsts a) o2 o2.length).map (fun (i : Nat) => (i : Int)) == o2
theorem turn11 : ((listsOf 1).all fun o => !goodRow 1 o || turnOk 1 1 o) = true := by decide +kernel
theorem turn12 : ((listsOf 2).all fun o => !goodRow 1 o || turnOk 1 2 o) = true := by decide +kernel
theorem turn13 : ((listsOf 3).all fun o => !goodRow 1 o || turnOk 1 3 o) = true := by decide +kernel
theorem turn21 : ((listsOf 1).all fun o => !goodRow 2 o || turnOk 2 1 o) = true := by decide +kernel
theorem turn22 : ((listsOf 2).all fun o => !goodRow 2 o || turnOk 2 2 o) = true := by decide +kernel
theorem turn23 : ((listsOf 3).all fun o => !goodRow 2 o || turnOk 2 3 o) = true := by decide +kernel
theorem turn31 : ((listsOf 1).all fun o => !goodRow 3 o || turnOk 3 1 o) = true := by decide +kernel
theorem turn32 : ((listsOf 2).all fun o => !goodRow 3 o || turnOk 3 2 o) = true := by decide +kernel
theorem turn33 : ((listsOf 3).all fun o => !goodRow 3 o || turnOk 3 3 o) = true := by decide +kernel

/-! Wires do not feel a renaming of the qubits. Plain Lean. -/
/-- Unlike numbers of a list stay unlike under f. -/
def OneOn (l : List Int) (f : Int → Int) : Prop := ∀ x ∈ l, ∀ y ∈ l, f x = f y → x = y

theorem idxF_ren {ws : List Int} {q : Int} {f : Int → Int} (h : ∀ x ∈ ws, f x = f q → x = q) : idxF (ws.map f) (f q) = idxF ws q := by
  have : (ws.map f).findIdx? (· == f q) = ws.findIdx? (· == q) := by
    induction ws with
    | nil => rfl
    | cons x ws ih =>
      rw [List.map_cons, List.findIdx?_cons, List.findIdx?_cons, ih fun y hy => h y (List.mem_cons_of_mem _ hy)]
      have : (f x == f q) = (x == q) := by
        rw [Bool.eq_iff_iff]
        simp only [beq_iff_eq]
        exact ⟨h x (List.mem_cons_self ..), fun e => by rw [e]⟩
      rw [this]
  unfold idxF; rw [this]
theorem posF_ren {ws : List Int} {q : Int} {f : Int → Int} (h : ∀ x ∈ ws, f x = f q → x = q) : posF (ws.map f) (f q) = posF ws q := by
  unfold posF; rw [idxF_ren h, List.length_map]
theorem growF_ren {ws : List Int} {q : Int} {f : Int → Int} (h : ∀ x ∈ ws, f x = f q → x = q) : growF (ws.map f) (f q) = (growF ws q).map f := by
  unfold growF; rw [idxF_ren h]
  split
  · simp
  · rfl
theorem growF_mem {ws : List Int} {q x : Int} (h : x ∈ growF ws q) : x ∈ ws ∨ x = q := by
  unfold growF at h
  split at h
  · simpa using h
  · exact .inl h
theorem getD_mem {zs : List Int} {k : Nat} (h : k < zs.length) : zs.getD k 0 ∈ zs := by
  rw [List.getD_eq_getElem?_getD, List.getElem?_eq_getElem h]
  exact List.getElem_mem h
theorem pw_mem {ws zs : List Int} {k : Nat} (hk : k ≤ zs.length) {x : Int} (h : x ∈ pw ws zs k) : x ∈ ws ∨ x ∈ zs := by
  induction k with
  | zero => exact .inl h
  | succ k ih =>
    rcases growF_mem h with h | h
    · exact ih (by omega) h
    · rw [h]; exact .inr (getD_mem (by omega))
theorem getD_map {zs : List Int} {f : Int → Int} {k : Nat} (h : k < zs.length) : (zs.map f).getD k 0 = f (zs.getD k 0) := by
  simp [h]
theorem pw_ren {ws zs : List Int} {f : Int → Int} (h : OneOn (ws ++ zs) f) {k : Nat} (hk : k ≤ zs.length) : pw (ws.map f) (zs.map f) k = (pw ws zs k).map f := by
  induction k with
  | zero => rfl
  | succ k ih =>
    show growF _ _ = (growF _ _).map f
    rw [ih (by omega), getD_map (by omega)]
    refine growF_ren fun x hx e => h x ?_ _ ?_ e
    · exact List.mem_append.2 (pw_mem (by omega) hx)
    · exact List.mem_append.2 (.inr (getD_mem (by omega)))
theorem poN_ren {ws zs : List Int} {f : Int → Int} (h : OneOn (ws ++ zs) f) {k : Nat} (hk : k ≤ zs.length) : poN (ws.map f) (zs.map f) k = poN ws zs k := by
  induction k with
  | zero => rfl
  | succ k ih =>
    show poN _ _ k ++ [_] = poN _ _ k ++ [_]
    rw [ih (by omega), getD_map (by omega), pw_ren h (by omega)]
    rw [posF_ren fun x hx e => h x (List.mem_append.2 (pw_mem (by omega) hx)) _ (List.mem_append.2 (.inr (getD_mem (by omega)))) e]

/-! Places of qubits in a list of wires. Plain Lean. -/
theorem idxF_mem {ws : List Int} {q : Int} (h : q ∈ ws) : ∃ i, i < ws.length ∧ ws.getD i 0 = q ∧ idxF ws q = (i : Nat) := by
  unfold idxF
  split
  · rename_i i hi
    obtain ⟨h1, h2, _⟩ := List.findIdx?_eq_some_iff_getElem.1 hi
    exact ⟨i, h1, by rw [List.getD_eq_getElem?_getD, List.getElem?_eq_getElem h1]; simpa using h2, rfl⟩
  · rename_i hn
    rw [List.findIdx?_eq_none_iff] at hn
    have := hn q h
    simp at this
theorem idxF_not {ws : List Int} {q : Int} (h : ¬ q ∈ ws) : idxF ws q = -1 := idxF_miss fun j hj e => h (by rw [← e]; exact getD_mem hj)
theorem posF_mem {ws : List Int} {q : Int} (h : q ∈ ws) : posF ws q < ws.length ∧ ws.getD (posF ws q) 0 = q := by
  obtain ⟨i, h1, h2, h3⟩ := idxF_mem h
  have : posF ws q = i := by unfold posF; rw [h3, if_neg (by omega)]; simp
  rw [this]; exact ⟨h1, h2⟩
theorem posF_one {ws : List Int} {x y : Int} (hx : x ∈ ws) (hy : y ∈ ws) (h : posF ws x = posF ws y) : x = y := by
  rw [← (posF_mem hx).2, ← (posF_mem hy).2, h]
theorem growF_has {ws : List Int} {q : Int} : q ∈ growF ws q := by
  unfold growF
  split
  · simp
  · rename_i h
    by_cases hq : q ∈ ws
    · exact hq
    · rw [idxF_not hq] at h; omega
theorem growF_keeps {ws : List Int} {q x : Int} (h : x ∈ ws) : x ∈ growF ws q := by
  unfold growF
  split
  · exact List.mem_append.2 (.inl h)
  · exact h
theorem growF_of_mem {ws : List Int} {q : Int} (h : q ∈ ws) : growF ws q = ws := by
  obtain ⟨i, _, _, h3⟩ := idxF_mem h
  unfold growF; rw [h3, if_neg (by omega)]
theorem growF_new {ws : List Int} {q : Int} (h : ¬ q ∈ ws) : growF ws q = ws ++ [q] := by
  unfold growF; rw [idxF_not h, if_pos (by omega)]
/-- A place is the same in a longer list. -/
theorem posF_grow {ws : List Int} {q x : Int} (h : x ∈ ws) : posF (growF ws q) x = posF ws x := by
  by_cases hq : q ∈ ws
  · rw [growF_of_mem hq]
  · rw [growF_new hq]
    unfold posF idxF
    have : (ws ++ [q]).findIdx? (· == x) = ws.findIdx? (· == x) := by
      rw [List.findIdx?_append]
      cases e : ws.findIdx? (· == x) with
      | some i => rfl
      | none =>
        rw [List.findIdx?_eq_none_iff] at e
        have := e x h
        simp at this
    rw [this]
    cases e : ws.findIdx? (· == x) with
    | some i =>
      have hi : ¬ ((i : Nat) : Int) < 0 := by omega
      simp only [if_neg hi]
    | none =>
      rw [List.findIdx?_eq_none_iff] at e
      have := e x h
      simp at this
theorem posF_pos {ws : List Int} {q : Int} : posF ws q = posF (growF ws q) q := by
  by_cases hq : q ∈ ws
  · rw [growF_of_mem hq]
  · rw [growF_new hq]
    have h1 : posF ws q = ws.length := by unfold posF; rw [idxF_not hq, if_pos (by omega)]
    have h2 : idxF (ws ++ [q]) q = (ws.length : Nat) := idxF_hit (by simp) (by simp [List.getD_eq_getElem?_getD]) fun j hj e => hq (by
      rw [← e, List.getD_eq_getElem?_getD, List.getElem?_append_left hj, ← List.getD_eq_getElem?_getD]
      exact getD_mem hj)
    rw [h1]
    unfold posF
    rw [h2, if_neg (by omega)]; simp
theorem pw_has {ws zs : List Int} {k m : Nat} (hm : m < k) : zs.getD m 0 ∈ pw ws zs k := by
  induction k with
  | zero => omega
  | succ k ih =>
    by_cases e : m = k
    · subst e; exact growF_has
    · exact growF_keeps (ih (by omega))
theorem pw_keeps {ws zs : List Int} {k : Nat} {x : Int} (h : x ∈ ws) : x ∈ pw ws zs k := by
  induction k with
  | zero => exact h
  | succ k ih => exact growF_keeps ih
theorem posF_pw {ws zs : List Int} {k m : Nat} (hk : m ≤ k) {x : Int} (h : x ∈ pw ws zs m) : posF (pw ws zs k) x = posF (pw ws zs m) x := by
  induction k with
  | zero => have : m = 0 := by omega
            subst this; rfl
  | succ k ih =>
    by_cases e : m = k + 1
    · subst e; rfl
    · have hx : x ∈ pw ws zs k := by
        have hmk : m ≤ k := by omega
        clear ih
        induction k with
        | zero => have : m = 0 := by omega
                  subst this; exact h
        | succ k ih2 =>
          by_cases e2 : m = k + 1
          · subst e2; exact h
          · exact growF_keeps (ih2 (by omega) (by omega) (by omega))
      show posF (growF _ _) x = _
      rw [posF_grow hx]
      exact ih (by omega)

/-! Commute tells the same in both orders: from qubits to patterns. Plain Lean. -/
theorem apart_not {zs : List Int} (h : apartF zs = true) {i j : Nat} (hij : j < i) (hi : i < zs.length) : zs.getD j 0 ≠ zs.getD i 0 := fun e => by
  unfold apartF at h
  rw [List.all_eq_true] at h
  have := h i (List.mem_range.2 hi)
  simp only [decide_eq_true_eq] at this
  have h2 := this.2
  have hm : zs.getD i 0 ∈ zs.take i := by
    rw [List.mem_take_iff_getElem]
    refine ⟨j, by omega, ?_⟩
    rw [← e, List.getD_eq_getElem?_getD, List.getElem?_eq_getElem (by omega)]
    rfl
  rw [← List.contains_iff_mem] at hm
  rw [hm] at h2
  cases h2
theorem take_succ_getD {zs : List Int} {k : Nat} (h : k < zs.length) : zs.take (k + 1) = zs.take k ++ [zs.getD k 0] := by
  rw [List.take_add_one, List.getD_eq_getElem?_getD, List.getElem?_eq_getElem h]
  rfl
theorem pw_apart {zs : List Int} (h : apartF zs = true) {k : Nat} (hk : k ≤ zs.length) : pw [] zs k = zs.take k := by
  induction k with
  | zero => simp [pw]
  | succ k ih =>
    show growF _ _ = _
    rw [ih (by omega), take_succ_getD (by omega)]
    refine growF_new fun hm => ?_
    rw [List.mem_take_iff_getElem] at hm
    obtain ⟨j, hj, he⟩ := hm
    refine apart_not h (i := k) (j := j) (by omega) (by omega) ?_
    rw [List.getD_eq_getElem?_getD, List.getElem?_eq_getElem (by omega)]
    exact he
theorem pw_whole {zs : List Int} (h : apartF zs = true) : pw [] zs zs.length = zs := by
  rw [pw_apart h (Nat.le_refl _), List.take_length]
theorem posF_own {zs : List Int} (h : apartF zs = true) {i : Nat} (hi : i < zs.length) : posF zs (zs.getD i 0) = i := by
  have : idxF zs (zs.getD i 0) = (i : Nat) := idxF_hit hi rfl fun j hj => apart_not h hj hi
  unfold posF; rw [this, if_neg (by omega)]; simp

/-- Each qubit's place among all. -/
def placeOf (zs1 zs2 : List Int) : Int → Int := fun q => ((posF (pw zs1 zs2 zs2.length) q : Nat) : Int)
theorem placeOf_one (zs1 zs2 : List Int) : OneOn (zs1 ++ zs2) (placeOf zs1 zs2) := fun x hx y hy h => by
  have hm : ∀ z ∈ zs1 ++ zs2, z ∈ pw zs1 zs2 zs2.length := fun z hz => by
    rcases List.mem_append.1 hz with hz | hz
    · exact pw_keeps hz
    · obtain ⟨i, hi, rfl⟩ := List.mem_iff_getElem.1 hz
      have := pw_has (ws := zs1) (zs := zs2) (k := zs2.length) hi
      rw [List.getD_eq_getElem?_getD, List.getElem?_eq_getElem hi] at this
      exact this
  have : ((posF (pw zs1 zs2 zs2.length) x : Nat) : Int) = ((posF (pw zs1 zs2 zs2.length) y : Nat) : Int) := h
  exact posF_one (hm x hx) (hm y hy) (by omega)
theorem placeOf_first {zs1 zs2 : List Int} (h : apartF zs1 = true) : zs1.map (placeOf zs1 zs2) = firsts zs1.length := by
  refine List.ext_getElem (by simp [firsts]) fun i h1 h2 => ?_
  have hi : i < zs1.length := by simpa using h1
  rw [List.getElem_map]
  have e : zs1[i] = zs1.getD i 0 := by rw [List.getD_eq_getElem?_getD, List.getElem?_eq_getElem hi]; rfl
  rw [e]
  unfold placeOf
  rw [posF_pw (m := 0) (Nat.zero_le _) (show zs1.getD i 0 ∈ pw zs1 zs2 0 from getD_mem hi)]
  show ((posF zs1 (zs1.getD i 0) : Nat) : Int) = _
  rw [posF_own h hi]
  simp [firsts]
theorem poN_getD {ws zs : List Int} {k i : Nat} (hi : i < k) : (poN ws zs k).getD i 0 = posF (pw ws zs i) (zs.getD i 0) := by
  induction k with
  | zero => omega
  | succ k ih =>
    show (poN ws zs k ++ [_]).getD i 0 = _
    rw [List.getD_eq_getElem?_getD]
    by_cases e : i = k
    · subst e
      rw [List.getElem?_append_right (by rw [poN_len]; exact Nat.le_refl _), poN_len]
      simp
    · rw [List.getElem?_append_left (by rw [poN_len]; omega), ← List.getD_eq_getElem?_getD]
      exact ih (by omega)
theorem placeOf_second (zs1 zs2 : List Int) : zs2.map (placeOf zs1 zs2) = (poN zs1 zs2 zs2.length).map fun (i : Nat) => (i : Int) := by
  refine List.ext_getElem (by simp [poN_len]) fun i h1 h2 => ?_
  have hi : i < zs2.length := by simpa using h1
  rw [List.getElem_map, List.getElem_map]
  have e : zs2[i] = zs2.getD i 0 := by rw [List.getD_eq_getElem?_getD, List.getElem?_eq_getElem hi]; rfl
  have e2 : (poN zs1 zs2 zs2.length)[i]'(by rw [poN_len]; exact hi) = posF (pw zs1 zs2 i) (zs2.getD i 0) := by
    rw [← poN_getD hi, List.getD_eq_getElem?_getD, List.getElem?_eq_getElem (by rw [poN_len]; exact hi)]; rfl
  rw [e, e2]
  unfold placeOf
  rw [posF_pw (m := i + 1) (by omega) growF_has]
  show ((posF (growF _ _) _ : Nat) : Int) = _
  rw [← posF_pos]

/-! Commute tells the same in both orders. Plain Lean. -/
theorem listsOf_mem : ∀ (k : Nat) (l : List Int), l.length = k → (∀ x ∈ l, 0 ≤ x ∧ x < 6) → l ∈ listsOf k
  | 0, l, h, _ => by rw [List.length_eq_zero_iff.1 h]; exact List.mem_singleton.2 rfl
  | k + 1, l, h, hx => by
    rcases List.eq_nil_or_concat l with rfl | ⟨l', x, rfl⟩
    · simp at h
    · rw [List.concat_eq_append] at h hx ⊢
      have h1 := listsOf_mem k l' (by simpa using h) fun y hy => hx y (List.mem_append.2 (.inl hy))
      have h2 := hx x (by simp)
      show _ ∈ (listsOf k).flatMap _
      rw [List.mem_flatMap]
      refine ⟨l', h1, ?_⟩
      rw [List.mem_map]
      refine ⟨x, ?_, rfl⟩
      have : x = 0 ∨ x = 1 ∨ x = 2 ∨ x = 3 ∨ x = 4 ∨ x = 5 := by omega
      rcases this with rfl | rfl | rfl | rfl | rfl | rfl <;> simp
theorem apart_map {zs : List Int} {f : Int → Int} (h : apartF zs = true) (h1 : OneOn zs f) (h0 : ∀ x, 0 ≤ f x) : apartF (zs.map f) = true := by
  refine apartF_ok fun i hi => ?_
  rw [List.length_map] at hi
  refine ⟨by rw [getD_map hi]; exact h0 _, ?_⟩
  rw [getD_map hi]
  cases hb : ((zs.map f).take i).contains (f (zs.getD i 0)) with
  | false => rfl
  | true =>
    rw [List.contains_iff_mem, List.mem_take_iff_getElem] at hb
    obtain ⟨j, hj, he⟩ := hb
    rw [List.length_map] at hj
    rw [List.getElem_map] at he
    have := h1 _ (List.getElem_mem _) _ (getD_mem hi) he
    refine absurd ?_ (apart_not h (i := i) (j := j) (by omega) hi)
    rw [List.getD_eq_getElem?_getD, List.getElem?_eq_getElem (by omega)]
    exact this

theorem turn_all {a b : Nat} (ha : 0 < a) (ha3 : a ≤ 3) (hb : 0 < b) (hb3 : b ≤ 3) {o : List Int} (ho : o ∈ listsOf b) (hg : goodRow a o = true) : turnOk a b o = true := by
  have key : ((listsOf b).all fun o => !goodRow a o || turnOk a b o) = true := by
    have h1 : a = 1 ∨ a = 2 ∨ a = 3 := by omega
    have h2 : b = 1 ∨ b = 2 ∨ b = 3 := by omega
    rcases h1 with rfl | rfl | rfl <;> rcases h2 with rfl | rfl | rfl
    · exact turn11
    · exact turn12
    · exact turn13
    · exact turn21
    · exact turn22
    · exact turn23
    · exact turn31
    · exact turn32
    · exact turn33
  have := List.all_eq_true.1 key o ho
  rw [hg] at this
  simpa using this

theorem row_good {zs1 zs2 : List Int} (h1 : apartF zs1 = true) (h2 : apartF zs2 = true) (hb : zs1.length + zs2.length ≤ 6) :
    zs2.map (placeOf zs1 zs2) ∈ listsOf zs2.length ∧ goodRow zs1.length (zs2.map (placeOf zs1 zs2)) = true := by
  constructor
  · refine listsOf_mem _ _ (by simp) fun x hx => ?_
    rw [placeOf_second, List.mem_map] at hx
    obtain ⟨i, hi, rfl⟩ := hx
    obtain ⟨j, hj, rfl⟩ := List.mem_iff_getElem.1 hi
    have := poN_lt zs1 zs2 zs2.length 6 hb (by decide) j
    rw [List.getD_eq_getElem?_getD, List.getElem?_eq_getElem hj] at this
    simp only [Option.getD_some] at this
    omega
  · unfold goodRow
    have e1 : apartF (zs2.map (placeOf zs1 zs2)) = true := apart_map h2 (fun x hx y hy => placeOf_one zs1 zs2 x (List.mem_append.2 (.inr hx)) y (List.mem_append.2 (.inr hy))) (fun x => by unfold placeOf; omega)
    rw [e1, Bool.true_and, List.length_map, ← placeOf_first h1, poN_ren (placeOf_one zs1 zs2) (Nat.le_refl _), ← placeOf_second]
    simp
/-- The products of two matrices and of the same two laid otherwise. -/
theorem same_turn {n : Nat} {P Q P' Q' : Nat → Zi} (p : Nat → Nat) (hp : ((List.range n).map p).Perm (List.range n)) (hpn : ∀ k, k < n → p k < n)
    (hP : ∀ r c, r < n → c < n → P' (n * p r + p c) = P (n * r + c)) (hQ : ∀ r c, r < n → c < n → Q' (n * p r + p c) = Q (n * r + c)) :
    sameM (n * n) (mulM n P Q) (mulM n Q P) = sameM (n * n) (mulM n Q' P') (mulM n P' Q') := by
  have onto : ∀ k, k < n → ∃ j, j < n ∧ p j = k := fun k hk => by
    have := hp.symm.mem_iff.1 (List.mem_range.2 hk)
    obtain ⟨j, hj, e⟩ := List.mem_map.1 this
    exact ⟨j, List.mem_range.1 hj, e⟩
  rw [Bool.eq_iff_iff, sameM_iff, sameM_iff]
  constructor
  · intro h i hi
    obtain ⟨r', c', hr', hc', rfl⟩ := split_idx hi
    obtain ⟨r, hr, rfl⟩ := onto r' hr'
    obtain ⟨c, hc, rfl⟩ := onto c' hc'
    rw [mulM_turn p hp hpn hQ hP hr hc, mulM_turn p hp hpn hP hQ hr hc]
    exact (h _ (idx_lt hr hc)).symm
  · intro h i hi
    obtain ⟨r, c, hr, hc, rfl⟩ := split_idx hi
    rw [← mulM_turn p hp hpn hP hQ hr hc, ← mulM_turn p hp hpn hQ hP hr hc]
    exact (h _ (idx_lt (hpn r hr) (hpn c hc))).symm
theorem wide_turn {a n : Nat} {A : Nat → Zi} {o o' : List Nat} (p : Nat → Nat) (hpn : ∀ k, k < 2 ^ n → p k < 2 ^ n) (h1 : ∀ r, r < 2 ^ n → idxT o' (p r) a = idxT o r a) (h2 : ∀ r, r < 2 ^ n → restT o' (p r) a = p (restT o r a)) (hinj : ∀ x y, x < 2 ^ n → y < 2 ^ n → p x = p y → x = y)
    {r c : Nat} (hr : r < 2 ^ n) (hc : c < 2 ^ n) : wideM a n A o' (2 ^ n * p r + p c) = wideM a n A o (2 ^ n * r + c) := by
  unfold wideM
  rw [idx_div (hpn c hc), idx_mod (hpn c hc), idx_div hc, idx_mod hc, h1 r hr, h1 c hc, h2 r hr, h2 c hc]
  by_cases e : restT o r a = restT o c a
  · rw [if_pos e, if_pos (by rw [e])]
  · rw [if_neg e, if_neg fun h => e (hinj _ _ (Nat.lt_of_le_of_lt (restT_le _ _ _) hr) (Nat.lt_of_le_of_lt (restT_le _ _ _) hc) h)]
end Go.Proofs.Ytmckaoeofikdaaa
