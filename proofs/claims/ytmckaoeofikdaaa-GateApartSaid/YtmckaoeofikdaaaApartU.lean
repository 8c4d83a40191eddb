/- Commute tells the same in both orders: joined. Plain Lean. -/
import Derived.Test.YtmckaoeofikdaaaApartM
namespace Go.Proofs.Ytmckaoeofikdaaa
open Lift

theorem perm_inj {n : Nat} {p : Nat → Nat} (h : ((List.range n).map p).Perm (List.range n)) {x y : Nat} (hx : x < n) (hy : y < n) (e : p x = p y) : x = y := by
  have hnd : ((List.range n).map p).Nodup := h.nodup_iff.2 List.nodup_range
  have hpw := List.pairwise_iff_getElem.1 hnd
  rcases Nat.lt_trichotomy x y with hl | hl | hl
  · have := hpw x y (by simpa using hx) (by simpa using hy) hl
    simp only [List.getElem_map, List.getElem_range] at this
    exact absurd e this
  · exact hl
  · have := hpw y x (by simpa using hy) (by simpa using hx) hl
    simp only [List.getElem_map, List.getElem_range] at this
    exact absurd e.symm this

theorem commF_symm (k1 k2 : Int) {zs1 zs2 : List Int} (h1 : apartF zs1 = true) (h2 : apartF zs2 = true) (p1 : 0 < zs1.length) (q1 : zs1.length ≤ 3) (p2 : 0 < zs2.length) (q2 : zs2.length ≤ 3) :
    commF k1 k2 zs1 zs2 = commF k2 k1 zs2 zs1 := by
  obtain ⟨g1, g2⟩ := row_good h1 h2 (by omega)
  have ht := turn_all p1 q1 p2 q2 g1 g2
  unfold turnOk at ht
  have one := placeOf_one zs1 zs2
  have one' : OneOn (zs2 ++ zs1) (placeOf zs1 zs2) := fun x hx y hy => one x (by simpa [or_comm] using hx) y (by simpa [or_comm] using hy)
  have one1 : OneOn ([] ++ zs1) (placeOf zs1 zs2) := fun x hx y hy => one x (List.mem_append.2 (.inl hx)) y (List.mem_append.2 (.inl hy))
  have one2 : OneOn ([] ++ zs2) (placeOf zs1 zs2) := fun x hx y hy => one x (List.mem_append.2 (.inr hx)) y (List.mem_append.2 (.inr hy))
  have e1 : pw [] (zs2.map (placeOf zs1 zs2)) zs2.length = zs2.map (placeOf zs1 zs2) := by
    have := pw_ren one2 (Nat.le_refl zs2.length)
    rw [pw_whole h2] at this
    exact this
  have e2 : poN [] (zs2.map (placeOf zs1 zs2)) zs2.length = poN [] zs2 zs2.length := poN_ren (ws := []) one2 (Nat.le_refl _)
  have e3 : poN [] (zs1.map (placeOf zs1 zs2)) zs1.length = poN [] zs1 zs1.length := poN_ren (ws := []) one1 (Nat.le_refl _)
  rw [← placeOf_first (zs2 := zs2) h1] at ht
  simp only [e1, e2, e3, pw_ren one (Nat.le_refl _), pw_ren one' (Nat.le_refl _), poN_ren one (Nat.le_refl _), poN_ren one' (Nat.le_refl _), List.length_map, Bool.and_eq_true, beq_iff_eq, List.all_eq_true, List.mem_range, decide_eq_true_eq, List.isPerm_iff] at ht
  obtain ⟨⟨hn, hall⟩, hperm⟩ := ht
  unfold commF
  rw [pw_whole h1, pw_whole h2, hn]
  unfold commR
  generalize hV : (pw zs1 zs2 zs2.length).length = n at *
  generalize hps : (List.range n).map _ = ps at *
  refine same_turn (fun r => scat ps r n) hperm (fun k hk => (hall k hk).1.1.1.1) (fun r c hr hc => ?_) (fun r c hr hc => ?_)
  · exact wide_turn (fun r => scat ps r n) (fun k hk => (hall k hk).1.1.1.1) (fun r hr => (hall r hr).1.1.1.2) (fun r hr => (hall r hr).1.2) (fun x y hx hy e => perm_inj hperm hx hy e) hr hc
  · exact wide_turn (fun r => scat ps r n) (fun k hk => (hall k hk).1.1.1.1) (fun r hr => (hall r hr).1.1.2) (fun r hr => (hall r hr).2) (fun x y hx hy e => perm_inj hperm hx hy e) hr hc

/-! Diagonal gates commute; a gate commutes with itself and with its inverse. Plain Lean. -/
/-- Nought off the diagonal. -/
def Diag (n : Nat) (A : Nat → Zi) : Prop := ∀ r c, r < n → c < n → r ≠ c → A (n * r + c) = (0, 0)
theorem diag_comm {n : Nat} {P Q : Nat → Zi} (hP : Diag n P) (hQ : Diag n Q) : sameM (n * n) (mulM n P Q) (mulM n Q P) = true := by
  refine sameM_iff.2 fun i hi => ?_
  obtain ⟨r, c, hr, hc, rfl⟩ := split_idx hi
  rw [mulM_at n P Q hc, mulM_at n Q P hc]
  rw [sumZ_one hr fun k hk hkr => by rw [hP r k hr hk (Ne.symm hkr), zero_zmul]]
  rw [sumZ_one hr fun k hk hkr => by rw [hQ r k hr hk (Ne.symm hkr), zero_zmul]]
  by_cases e : r = c
  · subst e; exact zmul_comm _ _
  · rw [hQ r c hr hc e, hP r c hr hc e, zmul_zero, zmul_zero]

/-- An index is told by its bits on the wires and the rest. -/
def wholeOk (a b : Nat) (o2 : List Int) : Bool :=
  let n := (pw (firsts a) o2 b).length
  let oA := poN [] (firsts a) a
  let oB := poN (firsts a) o2 b
  (List.range (2 ^ n)).all fun r => r == restT oA r a + scat oA (idxT oA r a) a && r == restT oB r b + scat oB (idxT oB r b) b
theorem whole11 : ((listsOf 1).all fun o => !goodRow 1 o || wholeOk 1 1 o) = true := by decide +kernel
theorem whole12 : ((listsOf 2).all fun o => !goodRow 1 o || wholeOk 1 2 o) = true := by decide +kernel
theorem whole13 : ((listsOf 3).all fun o => !goodRow 1 o || wholeOk 1 3 o) = true := by decide +kernel
theorem whole21 : ((listsOf 1).all fun o => !goodRow 2 o || wholeOk 2 1 o) = true := by decide +kernel
theorem whole22 : ((listsOf 2).all fun o => !goodRow 2 o || wholeOk 2 2 o) = true := by decide +kernel
theorem whole23 : ((listsOf 3).all fun o => !goodRow 2 o || wholeOk 2 3 o) = true := by decide +kernel
theorem whole31 : ((listsOf 1).all fun o => !goodRow 3 o || wholeOk 3 1 o) = true := by decide +kernel
theorem whole32 : ((listsOf 2).all fun o => !goodRow 3 o || wholeOk 3 2 o) = true := by decide +kernel
theorem whole33 : ((listsOf 3).all fun o => !goodRow 3 o || wholeOk 3 3 o) = true := by decide +kernel
theorem whole_all {a b : Nat} (ha : 0 < a) (ha3 : a ≤ 3) (hb : 0 < b) (hb3 : b ≤ 3) {o : List Int} (ho : o ∈ listsOf b) (hg : goodRow a o = true) : wholeOk a b o = true := by
  have key : ((listsOf b).all fun o => !goodRow a o || wholeOk a b o) = true := by
    have h1 : a = 1 ∨ a = 2 ∨ a = 3 := by omega
    have h2 : b = 1 ∨ b = 2 ∨ b = 3 := by omega
    rcases h1 with rfl | rfl | rfl <;> rcases h2 with rfl | rfl | rfl
    · exact whole11
    · exact whole12
    · exact whole13
    · exact whole21
    · exact whole22
    · exact whole23
    · exact whole31
    · exact whole32
    · exact whole33
  have := List.all_eq_true.1 key o ho
  rw [hg] at this
  simpa using this
theorem whole_rows {zs1 zs2 : List Int} (h1 : apartF zs1 = true) (h2 : apartF zs2 = true) (p1 : 0 < zs1.length) (q1 : zs1.length ≤ 3) (p2 : 0 < zs2.length) (q2 : zs2.length ≤ 3) :
    ∀ r, r < 2 ^ (pw zs1 zs2 zs2.length).length → r = restT (poN [] zs1 zs1.length) r zs1.length + scat (poN [] zs1 zs1.length) (idxT (poN [] zs1 zs1.length) r zs1.length) zs1.length ∧
      r = restT (poN zs1 zs2 zs2.length) r zs2.length + scat (poN zs1 zs2 zs2.length) (idxT (poN zs1 zs2 zs2.length) r zs2.length) zs2.length := by
  obtain ⟨g1, g2⟩ := row_good h1 h2 (by omega)
  have ht := whole_all p1 q1 p2 q2 g1 g2
  unfold wholeOk at ht
  have one := placeOf_one zs1 zs2
  have one1 : OneOn ([] ++ zs1) (placeOf zs1 zs2) := fun x hx y hy => one x (List.mem_append.2 (.inl hx)) y (List.mem_append.2 (.inl hy))
  have e3 : poN [] (zs1.map (placeOf zs1 zs2)) zs1.length = poN [] zs1 zs1.length := poN_ren (ws := []) one1 (Nat.le_refl _)
  rw [← placeOf_first (zs2 := zs2) h1] at ht
  simp only [e3, pw_ren one (Nat.le_refl _), poN_ren one (Nat.le_refl _), List.length_map, Bool.and_eq_true, beq_iff_eq, List.all_eq_true, List.mem_range] at ht
  exact ht
theorem wide_diag {a n : Nat} {A : Nat → Zi} {o : List Nat} (hA : Diag (2 ^ a) A) (hw : ∀ r, r < 2 ^ n → r = restT o r a + scat o (idxT o r a) a) : Diag (2 ^ n) (wideM a n A o) := fun r c hr hc hne => by
  unfold wideM
  rw [idx_div hc, idx_mod hc]
  by_cases e : restT o r a = restT o c a
  · rw [if_pos e]
    refine hA _ _ (idxT_lt o r a) (idxT_lt o c a) fun h => hne ?_
    rw [hw r hr, hw c hc, e, h]
  · rw [if_neg e]

/-! The laws of commuting, for gates. Plain Lean. -/
theorem diag_kinds : ((List.range 20).all fun i => !diagonalL.getD i false || (List.range (sideF ((i : Int) + 1))).all fun r => (List.range (sideF ((i : Int) + 1))).all fun c => r == c || decide (matF ((i : Int) + 1) (sideF ((i : Int) + 1) * r + c) = (0, 0))) = true := by decide +kernel
theorem mat_diag {k : Int} (h : diagonalF k = true) : Diag (sideF k) (matF k) := fun r c hr hc hne => by
  by_cases hk : 1 ≤ k ∧ k ≤ 20
  · have h1 := List.all_eq_true.1 diag_kinds (k - 1).toNat (List.mem_range.2 (by omega))
    have e : (((k - 1).toNat : Nat) : Int) + 1 = k := by omega
    have h2 : diagonalL.getD (k - 1).toNat false = true := by
      unfold diagonalF pick at h
      rw [if_pos hk] at h
      exact h
    rw [h2, e] at h1
    simp only [Bool.not_true, Bool.false_or, List.all_eq_true, List.mem_range] at h1
    have := h1 r hr c hc
    simp only [Bool.or_eq_true, beq_iff_eq, decide_eq_true_eq] at this
    rcases this with h | h
    · exact absurd h hne
    · exact h
  · unfold diagonalF pick at h
    rw [if_neg hk] at h
    cases h

theorem commF_diag {k1 k2 : Int} {zs1 zs2 : List Int} (h1 : apartF zs1 = true) (h2 : apartF zs2 = true) (p1 : 0 < zs1.length) (q1 : zs1.length ≤ 3) (p2 : 0 < zs2.length) (q2 : zs2.length ≤ 3)
    (e1 : (zs1.length : Int) = arityF k1) (e2 : (zs2.length : Int) = arityF k2) (d1 : diagonalF k1 = true) (d2 : diagonalF k2 = true) : commF k1 k2 zs1 zs2 = true := by
  have hw := whole_rows h1 h2 p1 q1 p2 q2
  have m1 := mat_diag d1
  have m2 := mat_diag d2
  rw [← side_pow e1 p1] at m1
  rw [← side_pow e2 p2] at m2
  unfold commF commR
  rw [pw_whole h1]
  exact diag_comm (wide_diag m1 fun r hr => (hw r hr).1) (wide_diag m2 fun r hr => (hw r hr).2)

/-- A row behind itself: no new wires, the same places. -/
theorem pw_self {zs : List Int} {k : Nat} (hk : k ≤ zs.length) : pw zs zs k = zs := by
  induction k with
  | zero => rfl
  | succ k ih =>
    show growF _ _ = zs
    rw [ih (by omega)]
    exact growF_of_mem (getD_mem (by omega))
theorem poN_self {zs : List Int} (h : apartF zs = true) {k : Nat} (hk : k ≤ zs.length) : poN zs zs k = List.range k := by
  induction k with
  | zero => rfl
  | succ k ih =>
    show poN _ _ k ++ [_] = _
    rw [ih (by omega), pw_self (by omega), posF_own h (by omega), List.range_succ]
theorem poN_first {zs : List Int} (h : apartF zs = true) {k : Nat} (hk : k ≤ zs.length) : poN [] zs k = List.range k := by
  induction k with
  | zero => rfl
  | succ k ih =>
    show poN _ _ k ++ [_] = _
    rw [ih (by omega), pw_apart h (by omega), List.range_succ]
    congr 2
    have : ¬ zs.getD k 0 ∈ zs.take k := fun hm => by
      rw [List.mem_take_iff_getElem] at hm
      obtain ⟨j, hj, he⟩ := hm
      refine apart_not h (i := k) (j := j) (by omega) (by omega) ?_
      rw [List.getD_eq_getElem?_getD, List.getElem?_eq_getElem (by omega)]
      exact he
    unfold posF
    rw [idxF_not this, if_pos (by omega), List.length_take]
    omega
theorem commF_own {k : Int} {zs : List Int} (h : apartF zs = true) : commF k k zs zs = true := by
  unfold commF commR
  rw [pw_whole h, poN_self h (Nat.le_refl _), poN_first h (Nat.le_refl _)]
  exact sameM_iff.2 fun _ _ => rfl

theorem id_bits : ((List.range 4).all fun a => (List.range (2 ^ a)).all fun r => idxT (List.range a) r a == r && restT (List.range a) r a == 0) = true := by decide +kernel
theorem wide_id {a : Nat} (ha : a ≤ 3) {A : Nat → Zi} {r c : Nat} (hr : r < 2 ^ a) (hc : c < 2 ^ a) : wideM a a A (List.range a) (2 ^ a * r + c) = A (2 ^ a * r + c) := by
  have h := List.all_eq_true.1 id_bits a (List.mem_range.2 (by omega))
  simp only [List.all_eq_true, List.mem_range, Bool.and_eq_true, beq_iff_eq] at h
  unfold wideM
  rw [idx_div hc, idx_mod hc, (h r hr).1, (h r hr).2, (h c hc).1, (h c hc).2, if_pos rfl]
theorem inverse_kinds : ((List.range 20).all fun i => sideF (inverseF ((i : Int) + 1)) == sideF ((i : Int) + 1) && sameM (sideF ((i : Int) + 1) * sideF ((i : Int) + 1)) (mulM (sideF ((i : Int) + 1)) (matF ((i : Int) + 1)) (matF (inverseF ((i : Int) + 1)))) (mulM (sideF ((i : Int) + 1)) (matF (inverseF ((i : Int) + 1))) (matF ((i : Int) + 1)))) = true := by decide +kernel
theorem commF_inverse {k : Int} {zs : List Int} (h : apartF zs = true) (p : 0 < zs.length) (q : zs.length ≤ 3) (e : (zs.length : Int) = arityF k) : commF k (inverseF k) zs zs = true := by
  have hk : 1 ≤ k ∧ k ≤ 20 := isF_in (by rw [is_arity]; simp; omega)
  have h1 := List.all_eq_true.1 inverse_kinds (k - 1).toNat (List.mem_range.2 (by omega))
  have ek : (((k - 1).toNat : Nat) : Int) + 1 = k := by omega
  rw [ek] at h1
  simp only [Bool.and_eq_true, beq_iff_eq] at h1
  have h2 := sameM_iff.1 h1.2
  rw [← side_pow e p] at h2
  unfold commF commR
  rw [pw_whole h, poN_self h (Nat.le_refl _), poN_first h (Nat.le_refl _), pw_self (Nat.le_refl _)]
  refine sameM_iff.2 fun i hi => ?_
  obtain ⟨r, c, hr, hc, rfl⟩ := split_idx hi
  have h3 := h2 _ (idx_lt hr hc)
  rw [mulM_at _ _ _ hc, mulM_at _ _ _ hc] at h3 ⊢
  have e1 : ∀ A B : Nat → Zi, (sumZ (List.range (2 ^ zs.length)) fun q => zmul (wideM zs.length zs.length A (List.range zs.length) (2 ^ zs.length * r + q)) (wideM zs.length zs.length B (List.range zs.length) (2 ^ zs.length * q + c))) = sumZ (List.range (2 ^ zs.length)) fun q => zmul (A (2 ^ zs.length * r + q)) (B (2 ^ zs.length * q + c)) := fun A B =>
    sumZ_congr fun m hm => by
      have hm' := List.mem_range.1 hm
      rw [wide_id q hr hm', wide_id q hm' hc]
  rw [e1, e1]
  exact h3

/-! Gates on unlike qubits commute. Plain Lean. -/
def later (a b : Nat) : List Nat := (List.range b).map fun i => a + i
theorem far_bits : ((List.range 4).all fun a => (List.range 4).all fun b => (List.range (2 ^ (a + b))).all fun r =>
    restT (List.range a) r a == 2 ^ a * idxT (later a b) r b && restT (later a b) r b == idxT (List.range a) r a && r == idxT (List.range a) r a + 2 ^ a * idxT (later a b) r b &&
    idxT (later a b) r b == r / 2 ^ a && idxT (List.range a) r a == r % 2 ^ a) = true := by decide +kernel
theorem poN_far {zs1 zs2 : List Int} (h2 : apartF zs2 = true) (hd : ∀ x ∈ zs2, ¬ x ∈ zs1) {k : Nat} (hk : k ≤ zs2.length) : poN zs1 zs2 k = later zs1.length k ∧ pw zs1 zs2 k = zs1 ++ zs2.take k := by
  induction k with
  | zero => exact ⟨rfl, by simp [pw]⟩
  | succ k ih =>
    obtain ⟨i1, i2⟩ := ih (by omega)
    have hn : ¬ zs2.getD k 0 ∈ zs1 ++ zs2.take k := fun hm => by
      rcases List.mem_append.1 hm with hm | hm
      · exact hd _ (getD_mem (by omega)) hm
      · rw [List.mem_take_iff_getElem] at hm
        obtain ⟨j, hj, he⟩ := hm
        refine apart_not h2 (i := k) (j := j) (by omega) (by omega) ?_
        rw [List.getD_eq_getElem?_getD, List.getElem?_eq_getElem (by omega)]
        exact he
    constructor
    · show poN _ _ k ++ [_] = _
      rw [i1, i2]
      unfold later
      rw [List.range_succ, List.map_append]
      congr 2
      unfold posF
      rw [idxF_not hn, if_pos (by omega), List.length_append, List.length_take]
      show zs1.length + min k zs2.length = zs1.length + k
      omega
    · show growF _ _ = _
      rw [i2, growF_new hn, take_succ_getD (by omega), List.append_assoc]

theorem far_at {a b : Nat} (ha : a ≤ 3) (hb : b ≤ 3) {r : Nat} (hr : r < 2 ^ (a + b)) : restT (List.range a) r a = 2 ^ a * (r / 2 ^ a) ∧ restT (later a b) r b = r % 2 ^ a ∧ idxT (later a b) r b = r / 2 ^ a ∧ idxT (List.range a) r a = r % 2 ^ a := by
  have h := List.all_eq_true.1 (List.all_eq_true.1 far_bits a (List.mem_range.2 (by omega))) b (List.mem_range.2 (by omega))
  simp only [List.all_eq_true, List.mem_range, Bool.and_eq_true, beq_iff_eq] at h
  obtain ⟨⟨⟨⟨h1, h2⟩, _⟩, h4⟩, h5⟩ := h r hr
  exact ⟨by rw [h1, h4], by rw [h2, h5], h4, h5⟩
theorem far_comm {a b : Nat} (ha : a ≤ 3) (hb : b ≤ 3) (A B : Nat → Zi) : commR a b (a + b) A B (List.range a) (later a b) = true := by
  unfold commR
  refine sameM_iff.2 fun i hi => ?_
  obtain ⟨r, c, hr, hc, rfl⟩ := split_idx hi
  have hpos : 0 < 2 ^ a := Nat.two_pow_pos a
  have key : ∀ x y, x < 2 ^ (a + b) → y < 2 ^ (a + b) → x % 2 ^ a + 2 ^ a * (y / 2 ^ a) < 2 ^ (a + b) := fun x y hx hy => by
    have h1 : x % 2 ^ a < 2 ^ a := Nat.mod_lt _ hpos
    have h2 : y / 2 ^ a < 2 ^ b := Nat.div_lt_of_lt_mul (by rw [← Nat.pow_add]; exact hy)
    have h3 : 2 ^ a * (y / 2 ^ a) + 2 ^ a ≤ 2 ^ a * 2 ^ b := by rw [← Nat.mul_succ]; exact Nat.mul_le_mul_left _ h2
    rw [Nat.pow_add]; omega
  have md : ∀ x y, (x % 2 ^ a + 2 ^ a * (y / 2 ^ a)) % 2 ^ a = x % 2 ^ a := fun x y => by rw [Nat.add_mul_mod_self_left, Nat.mod_mod]
  have dv : ∀ x y, (x % 2 ^ a + 2 ^ a * (y / 2 ^ a)) / 2 ^ a = y / 2 ^ a := fun x y => by
    rw [Nat.add_mul_div_left _ _ hpos, Nat.div_eq_of_lt (Nat.mod_lt _ hpos), Nat.zero_add]
  have wa : ∀ x y, x < 2 ^ (a + b) → y < 2 ^ (a + b) → wideM a (a + b) A (List.range a) (2 ^ (a + b) * x + y) = if x / 2 ^ a = y / 2 ^ a then A (2 ^ a * (x % 2 ^ a) + y % 2 ^ a) else (0, 0) := fun x y hx hy => by
    unfold wideM
    rw [idx_div hy, idx_mod hy, (far_at ha hb hx).1, (far_at ha hb hy).1, (far_at ha hb hx).2.2.2, (far_at ha hb hy).2.2.2]
    by_cases e : x / 2 ^ a = y / 2 ^ a
    · rw [if_pos e, if_pos (by rw [e])]
    · rw [if_neg e, if_neg fun h => e (Nat.eq_of_mul_eq_mul_left hpos h)]
  have wb : ∀ x y, x < 2 ^ (a + b) → y < 2 ^ (a + b) → wideM b (a + b) B (later a b) (2 ^ (a + b) * x + y) = if x % 2 ^ a = y % 2 ^ a then B (2 ^ b * (x / 2 ^ a) + y / 2 ^ a) else (0, 0) := fun x y hx hy => by
    unfold wideM
    rw [idx_div hy, idx_mod hy, (far_at ha hb hx).2.1, (far_at ha hb hy).2.1, (far_at ha hb hx).2.2.1, (far_at ha hb hy).2.2.1]
  have ext : ∀ x y : Nat, x % 2 ^ a = y % 2 ^ a → x / 2 ^ a = y / 2 ^ a → x = y := fun x y h1 h2 => by
    rw [← Nat.div_add_mod x (2 ^ a), ← Nat.div_add_mod y (2 ^ a), h1, h2]
  rw [mulM_at _ _ _ hc, mulM_at _ _ _ hc]
  rw [sumZ_one (key c r hc hr) fun k hk hne => by
    rw [wa r k hr hk, wb k c hk hc]
    by_cases e1 : r / 2 ^ a = k / 2 ^ a
    · by_cases e2 : k % 2 ^ a = c % 2 ^ a
      · exact absurd (ext _ _ (by rw [md, e2]) (by rw [dv, e1])) hne
      · rw [if_neg e2, zmul_zero]
    · rw [if_neg e1, zero_zmul]]
  rw [sumZ_one (key r c hr hc) fun k hk hne => by
    rw [wb r k hr hk, wa k c hk hc]
    by_cases e1 : r % 2 ^ a = k % 2 ^ a
    · by_cases e2 : k / 2 ^ a = c / 2 ^ a
      · exact absurd (ext _ _ (by rw [md, e1]) (by rw [dv, e2])) hne
      · rw [if_neg e2, zmul_zero]
    · rw [if_neg e1, zero_zmul]]
  rw [wa r _ hr (key c r hc hr), wb _ c (key c r hc hr) hc, wb r _ hr (key r c hr hc), wa _ c (key r c hr hc) hc]
  simp only [md, dv, if_true]
  exact zmul_comm _ _
theorem commF_far {k1 k2 : Int} {zs1 zs2 : List Int} (h1 : apartF zs1 = true) (h2 : apartF zs2 = true) (q1 : zs1.length ≤ 3) (q2 : zs2.length ≤ 3) (hd : ∀ x ∈ zs2, ¬ x ∈ zs1) : commF k1 k2 zs1 zs2 = true := by
  obtain ⟨e1, e2⟩ := poN_far (zs1 := zs1) h2 hd (Nat.le_refl _)
  unfold commF
  rw [pw_whole h1, e1, e2, poN_first h1 (Nat.le_refl _), List.take_length, List.length_append]
  exact far_comm q1 q2 _ _

/-! What Commute tells, in both orders and of a gate with itself. Plain Lean. -/
/-- Commute refuses nothing. -/
def Fine (k1 : Int) (zs1 : List Int) (k2 : Int) (zs2 : List Int) : Prop :=
  arityF k1 ≠ 0 ∧ arityF k2 ≠ 0 ∧ (zs1.length : Int) = arityF k1 ∧ (zs2.length : Int) = arityF k2 ∧ apartF zs1 = true ∧ apartF zs2 = true
theorem Fine.symm {k1 k2 : Int} {zs1 zs2 : List Int} (h : Fine k1 zs1 k2 zs2) : Fine k2 zs2 k1 zs1 := ⟨h.2.1, h.1, h.2.2.2.1, h.2.2.1, h.2.2.2.2.2, h.2.2.2.2.1⟩
theorem commuteF_fine {k1 k2 : Int} {zs1 zs2 : List Int} (h : Fine k1 zs1 k2 zs2) : commuteF k1 zs1 k2 zs2 = (commF k1 k2 zs1 zs2, 0) := by
  obtain ⟨h1, h2, h3⟩ := h
  unfold commuteF
  rw [if_neg (by rintro (h | h); exact h1 h; exact h2 h), if_pos h3]
theorem commuteF_not {k1 k2 : Int} {zs1 zs2 : List Int} (h : ¬ Fine k1 zs1 k2 zs2) : commuteF k1 zs1 k2 zs2 = (false, 60) ∨ commuteF k1 zs1 k2 zs2 = (false, 61) := by
  unfold commuteF
  split
  · exact .inl rfl
  · rename_i hz
    split
    · rename_i h3
      exact absurd ⟨fun e => hz (.inl e), fun e => hz (.inr e), h3⟩ h
    · exact .inr rfl
theorem Fine.len {k1 k2 : Int} {zs1 zs2 : List Int} (h : Fine k1 zs1 k2 zs2) : 0 < zs1.length ∧ zs1.length ≤ 3 ∧ 0 < zs2.length ∧ zs2.length ≤ 3 := by
  obtain ⟨h1, h2, h3, h4, _⟩ := h
  refine ⟨by omega, ?_, by omega, ?_⟩
  · rcases arity_range k1 with e | e | e | e <;> omega
  · rcases arity_range k2 with e | e | e | e <;> omega
end Go.Proofs.Ytmckaoeofikdaaa
