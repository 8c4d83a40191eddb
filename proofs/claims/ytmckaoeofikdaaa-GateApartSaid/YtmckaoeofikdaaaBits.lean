/- Bits of small numbers; a gate's matrix on more wires. -/
import Derived.Test.YtmckaoeofikdaaaComp
namespace Go.Proofs.Ytmckaoeofikdaaa
open Go.RowKit Lift

def clr (t q : Nat) : Nat := t - t / 2 ^ q % 2 * 2 ^ q
def idxT (ws : List Nat) (r : Nat) : Nat → Nat
  | 0 => 0
  | k + 1 => idxT ws r k + r / 2 ^ (ws.getD k 0) % 2 * 2 ^ k
def restT (ws : List Nat) (r : Nat) : Nat → Nat
  | 0 => r
  | k + 1 => clr (restT ws r k) (ws.getD k 0)

theorem idxT_lt (ws : List Nat) (r k : Nat) : idxT ws r k < 2 ^ k := by
  induction k with
  | zero => exact Nat.one_pos
  | succ k ih =>
    have h : r / 2 ^ (ws.getD k 0) % 2 < 2 := Nat.mod_lt _ (by decide)
    have h2 : r / 2 ^ (ws.getD k 0) % 2 * 2 ^ k ≤ 2 ^ k := by
      have := Nat.mul_le_mul_right (2 ^ k) (show r / 2 ^ (ws.getD k 0) % 2 ≤ 1 by omega)
      omega
    show idxT ws r k + _ < 2 ^ (k + 1)
    rw [Nat.pow_succ]
    omega
theorem clr_le (t q : Nat) : clr t q ≤ t := Nat.sub_le _ _
theorem restT_le (ws : List Nat) (r k : Nat) : restT ws r k ≤ r := by
  induction k with
  | zero => exact Nat.le_refl _
  | succ k ih => exact Nat.le_trans (clr_le _ _) ih

theorem b_and (a : Nat) (h : a < 64) : bits .and .i64 (a : Int) 1 = ((a % 2 : Nat) : Int) :=
  (show ∀ a, a < 64 → bits .and .i64 ((a : Nat) : Int) 1 = ((a % 2 : Nat) : Int) by decide +kernel) a h
theorem b_or (x b i : Nat) (hx : x < 2 ^ i) (hb : b < 2) (hi : i < 6) : bits .or .i64 (x : Int) ((b * 2 ^ i : Nat) : Int) = ((x + b * 2 ^ i : Nat) : Int) :=
  (show ∀ i, i < 6 → ∀ b, b < 2 → ∀ x, x < 2 ^ i → bits .or .i64 ((x : Nat) : Int) ((b * 2 ^ i : Nat) : Int) = ((x + b * 2 ^ i : Nat) : Int) by decide +kernel) i hi b hb x hx
theorem b_clr (t q : Nat) (ht : t < 64) (hq : q < 6) : bits .andNot .i64 (t : Int) ((2 ^ q : Nat) : Int) = ((clr t q : Nat) : Int) :=
  (show ∀ q, q < 6 → ∀ t, t < 64 → bits .andNot .i64 ((t : Nat) : Int) ((2 ^ q : Nat) : Int) = ((clr t q : Nat) : Int) by decide +kernel) q hq t ht
theorem b_xor (r c : Nat) (hr : r < 64) (hc : c < 64) : bits .xor .i64 (r : Int) (c : Int) = ((r ^^^ c : Nat) : Int) :=
  (show ∀ r, r < 64 → ∀ c, c < 64 → bits .xor .i64 ((r : Nat) : Int) ((c : Nat) : Int) = ((r ^^^ c : Nat) : Int) by decide +kernel) r hr c hc
theorem clr_xor (r c q : Nat) (hr : r < 64) (hc : c < 64) (hq : q < 6) : clr (r ^^^ c) q = clr r q ^^^ clr c q :=
  (show ∀ q, q < 6 → ∀ r, r < 64 → ∀ c, c < 64 → clr (r ^^^ c) q = clr r q ^^^ clr c q by decide +kernel) q hq r hr c hc
theorem restT_xor (ws : List Nat) (hw : ∀ i, ws.getD i 0 < 6) (r c k : Nat) (hr : r < 64) (hc : c < 64) : restT ws (r ^^^ c) k = restT ws r k ^^^ restT ws c k := by
  induction k with
  | zero => rfl
  | succ k ih =>
    show clr _ _ = clr _ _ ^^^ clr _ _
    rw [ih]
    exact clr_xor _ _ _ (Nat.lt_of_le_of_lt (restT_le _ _ _) hr) (Nat.lt_of_le_of_lt (restT_le _ _ _) hc) (hw k)
theorem restT_same (ws : List Nat) (hw : ∀ i, ws.getD i 0 < 6) (r c k : Nat) (hr : r < 64) (hc : c < 64) : restT ws (r ^^^ c) k = 0 ↔ restT ws r k = restT ws c k := by
  rw [restT_xor ws hw r c k hr hc]
  constructor
  · intro h
    have := congrArg (· ^^^ restT ws c k) h
    simpa [Nat.xor_assoc] using this
  · intro h
    rw [h, Nat.xor_self]

/-- A gate's matrix on n wires: a of them are the gate's. -/
def wideM (a n : Nat) (A : Nat → Zi) (ws : List Nat) : Nat → Zi := fun idx =>
  if restT ws (idx / 2 ^ n) a = restT ws (idx % 2 ^ n) a then A (2 ^ a * idxT ws (idx / 2 ^ n) a + idxT ws (idx % 2 ^ n) a) else (0, 0)
theorem wideM_small {a n : Nat} {A : Nat → Zi} {ws : List Nat} {p : Nat} (h : ∀ i, Small (A i) p) (i : Nat) : Small (wideM a n A ws i) p := by
  unfold wideM
  split
  · exact h _
  · exact ⟨Nat.zero_le _, Nat.zero_le _⟩

/-! wide's function literal: bits of an index that lie on the wires, and the rest. -/
def HoldsN (w : World) (g : Nat) (ws : List Nat) : Prop := ∀ i, i < ws.length → w.cell? ⟨g, i, none⟩ = some (.int .i64 ((ws.getD i 0 : Nat) : Int))
theorem HoldsN.below {w w' : World} {g : Nat} {ws : List Nat} (h : HoldsN w g ws) (hb : Below w.heap.size w w') : HoldsN w' g ws := fun i hi => (hb.cell (World.block_lt_of_cell? w _ (h i hi))).trans (h i hi)
theorem HoldsN.drawn {w w' : World} {g : Nat} {ws : List Nat} (h : HoldsN w g ws) (hb : Drawn w w') : HoldsN w' g ws := fun i hi => (hb.cell _).trans (h i hi)

theorem f_and (r q : Nat) (hr : r < 64) : bits .and .i64 ((r : Int) / 2 ^ q) 1 = ((r / 2 ^ q % 2 : Nat) : Int) := by
  have := b_and (r / 2 ^ q) (Nat.lt_of_le_of_lt (Nat.div_le_self _ _) hr)
  rw [← this]
  simp
theorem f_shl (b k : Nat) (hb : b < 2) (hk : k < 6) : IntKind.i64.wrap ((b : Int) * 2 ^ k) = ((b * 2 ^ k : Nat) : Int) :=
  (show ∀ b, b < 2 → ∀ k, k < 6 → IntKind.i64.wrap (((b : Nat) : Int) * 2 ^ k) = ((b * 2 ^ k : Nat) : Int) by decide +kernel) b hb k hk
theorem f_one (q : Nat) (hq : q < 7) : IntKind.i64.wrap (2 ^ q) = ((2 ^ q : Nat) : Int) :=
  (show ∀ q, q < 7 → IntKind.i64.wrap (2 ^ q) = ((2 ^ q : Nat) : Int) by decide +kernel) q hq

set_option maxHeartbeats 1000000 in
set_option maxRecDepth 100000 in
theorem wires_any (bw g a cap r : Nat) (ws : List Nat) (ha : ws.length = a) (ha3 : a ≤ 3) (hw : ∀ i, ws.getD i 0 < 6) (hr : r < 64) (w : World) (h1 : w.cell? ⟨bw, 0, none⟩ = some (.slice (some ⟨g, 0, none⟩) a cap)) (h2 : HoldsN w g ws) :
    Calls Try.prog 102 #[.int .i64 r, .pointer (some ⟨bw, 0, none⟩)] w fun e w' => e = .returned (.tuple #[.int .i64 (idxT ws r a : Nat), .int .i64 (restT ws r a : Nat)]) ∧ Drawn w w' := by
  have H2 := Lib.hid h2
  have HW := Lib.hid hw
  have HL := Lib.hid ha
  clear h2 hw ha
  go_enter Try.func102, Try.ntmps102
  go_wp2
  go_loopw [3, 4, 5, 6, 10] (fun x t _ _ i wr => ∃ k : Nat, k ≤ a ∧ i = .int .i64 k ∧ x = .int .i64 (idxT ws r k : Nat) ∧ t = .int .i64 (restT ws r k : Nat) ∧ Drawn w wr) (fun _ _ _ _ i _ => a - (intOf i).toNat)
  case atStart => exact ⟨0, Nat.zero_le _, rfl, rfl, rfl, Drawn.refl _⟩
  case round =>
    obtain ⟨k, hk, rfl, rfl, rfl, hd⟩ := hrel
    obtain ⟨w1, rfl⟩ : ∃ w1 : World, w1 = wr := ⟨_, rfl⟩
    by_cases hlt : k < a
    · have c1 := (hd.cell _).trans (H2.out k (by rw [HL.out]; exact hlt))
      have hq := HW.out k
      have hx := idxT_lt ws r k
      have ht := restT_le ws r k
      have s1 : Hid (idxT ws r (k + 1) = idxT ws r k + r / 2 ^ (ws.getD k 0) % 2 * 2 ^ k) := Lib.hid rfl
      have s2 : Hid (restT ws r (k + 1) = clr (restT ws r k) (ws.getD k 0)) := Lib.hid rfl
      have Hd := Lib.hid hd
      clear hd
      generalize ws.getD k 0 = q at c1 hq s1 s2
      generalize idxT ws r k = x at hx s1 ⊢
      generalize restT ws r k = t at ht s2 ⊢
      have F1 := f_and r q hr
      have hb : r / 2 ^ q % 2 < 2 := Nat.mod_lt _ (by decide)
      generalize r / 2 ^ q % 2 = b at F1 hb s1
      have F2 := f_shl b k hb (by omega)
      have F3 := b_or x b k hx hb (by omega)
      generalize b * 2 ^ k = c at F2 F3 s1
      have F4 := f_one q (by omega)
      have F5 := b_clr t q (by omega) hq
      generalize 2 ^ q = m at F4 F5 F1
      generalize clr t q = u at F5 s2
      generalize x + c = y at F3 s1
      clear hx ht hb
      go_wp2
      go_roundw
      case rel => exact ⟨k + 1, by omega, by go_num, by rw [s1.out], by rw [s2.out], Hd.out⟩
      case measure => simp [intOf]; omega
    · have : k = a := by omega
      subst this
      go_wp2
      go_ret2
      exact ⟨rfl, hd⟩
end Go.Proofs.Ytmckaoeofikdaaa
