/- Times of the document. -/
import Derived.Test.YtmckaoeofikdaaaAlike
namespace Go.Proofs.Ytmckaoeofikdaaa
open Go.RowKit

theorem info51 : (Try.prog.info? 51).map (fun i => (i.zero, i.size, i.bytes)) = some (some (.agg #[.float .f64 0, .float .f64 0]), 2, 16) := by kernel_rfl
theorem info111 : (Try.prog.info? 111).map (fun i => (i.zero, i.size, i.bytes)) = some (some (.slice none 0 0), 1, 24) := by kernel_rfl

/-- A whole row. -/
def RowC (w : World) (q n s : Nat) (F : Nat → Zi) : Prop := ∀ j, j < n → ∃ x y, w.cell? ⟨q, j * 2, none⟩ = some (.float .f64 x) ∧ w.cell? ⟨q, j * 2 + 1, none⟩ = some (.float .f64 y) ∧ IsC x y s (F j)
theorem RowC.eq {w w' : World} {q n s : Nat} {F : Nat → Zi} (h : RowC w q n s F) (he : ∀ i v, w.cell? ⟨q, i, none⟩ = some v → w'.cell? ⟨q, i, none⟩ = some v) : RowC w' q n s F := fun j hj => by
  obtain ⟨x, y, h1, h2, h3⟩ := h j hj
  exact ⟨x, y, he _ _ h1, he _ _ h2, h3⟩

/-- At the head of the outer loop: r rows are there. -/
structure RT (w0 : World) (n s bt r : Nat) (F : Nat → Zi) (wx : World) : Prop where
  rows : ∀ i, i < r → ∃ q, wx.cell? ⟨bt, i, none⟩ = some (.slice (some ⟨q, 0, none⟩) n n) ∧ q ≠ bt ∧ q < wx.heap.size ∧ RowC wx q n s (fun j => F (n * i + j))
  rest : ∀ i, r ≤ i → i < n → ∃ v, wx.cell? ⟨bt, i, none⟩ = some v
  fr : ∀ i, i < n → wx.frozen? ⟨bt, i, none⟩ = false
  bt0 : w0.heap.size ≤ bt
  bt1 : bt < wx.heap.size
  bel : Below w0.heap.size w0 wx
/-- In row r: c entries are there. -/
structure RS (w0 : World) (n s bt rw r c : Nat) (F : Nat → Zi) (wx : World) : Prop where
  rows : ∀ i, i < r → ∃ q, wx.cell? ⟨bt, i, none⟩ = some (.slice (some ⟨q, 0, none⟩) n n) ∧ q ≠ bt ∧ q ≠ rw ∧ q < wx.heap.size ∧ RowC wx q n s (fun j => F (n * i + j))
  rest : ∀ i, r < i → i < n → ∃ v, wx.cell? ⟨bt, i, none⟩ = some v
  fr : ∀ i, i < n → wx.frozen? ⟨bt, i, none⟩ = false
  cur : wx.cell? ⟨bt, r, none⟩ = some (.slice (some ⟨rw, 0, none⟩) n n)
  done : RowC wx rw c s (fun j => F (n * r + j))
  todo : ∀ j, j < n → ∃ u v, wx.cell? ⟨rw, j * 2, none⟩ = some u ∧ wx.cell? ⟨rw, j * 2 + 1, none⟩ = some v
  fw : ∀ i, wx.frozen? ⟨rw, i, none⟩ = false
  ne : rw ≠ bt
  rw0 : w0.heap.size ≤ rw
  rw1 : rw < wx.heap.size
  bt0 : w0.heap.size ≤ bt
  bt1 : bt < wx.heap.size
  bel : Below w0.heap.size w0 wx

theorem madeZ (n i : Nat) (hi : i < n * 2) : (madeCells #[.float .f64 0, .float .f64 0] (n * 2))[i]? = some (.float .f64 0) := by
  have h2 : i % 2 < 2 := Nat.mod_lt _ (by decide)
  rcases Nat.mod_two_eq_zero_or_one i with h | h <;> simp [madeCells, hi, h]

theorem RT.row {w0 : World} {n s bt r : Nat} {F : Nat → Zi} {wx : World} (h : RT w0 n s bt r F wx) (hr : r < n) (ty : TypeId) :
    RS w0 n s bt wx.heap.size r 0 F ((wx.alloc (.cells (madeCells #[.float .f64 0, .float .f64 0] (n * 2)) ty)).setCell ⟨bt, r, none⟩ (.slice (some ⟨wx.heap.size, 0, none⟩) n n)) := by
  have hbt := h.bt1
  have oldc : ∀ {b i : Nat} {v : Value}, b < wx.heap.size → (b ≠ bt ∨ i ≠ r) → wx.cell? ⟨b, i, none⟩ = some v → ((wx.alloc (.cells (madeCells #[.float .f64 0, .float .f64 0] (n * 2)) ty)).setCell ⟨bt, r, none⟩ (.slice (some ⟨wx.heap.size, 0, none⟩) n n)).cell? ⟨b, i, none⟩ = some v := fun hb hne hv =>
    (cell_set_ne _ _ _ _ _ _ (by rcases hne with h | h; exact .inl (Ne.symm h); exact .inr (Ne.symm h))).trans (old_cell _ _ _ _ _ hb hv)
  have newc : ∀ {i : Nat}, i < n * 2 → ((wx.alloc (.cells (madeCells #[.float .f64 0, .float .f64 0] (n * 2)) ty)).setCell ⟨bt, r, none⟩ (.slice (some ⟨wx.heap.size, 0, none⟩) n n)).cell? ⟨wx.heap.size, i, none⟩ = some (.float .f64 0) := fun hi =>
    (cell_set_ne _ _ _ _ _ _ (.inl (by omega))).trans (new_cell _ _ _ _ _ _ rfl (madeZ n _ hi))
  obtain ⟨v0, hv0⟩ := h.rest r (Nat.le_refl _) hr
  refine ⟨fun i hi => ?_, fun i hi1 hi2 => ?_, fun i hi => ?_, ?_, fun j hj => absurd hj (Nat.not_lt_zero _), fun j hj => ⟨_, _, newc (by omega), newc (by omega)⟩, fun i => ?_, by omega, h.bel.size, by simp, h.bt0, by simp; omega, ?_⟩
  · obtain ⟨q, h1, h2, h3, h4⟩ := h.rows i hi
    refine ⟨q, oldc hbt (.inr (by omega)) h1, h2, by omega, by simp; omega, h4.eq fun i v hv => oldc h3 (.inl h2) hv⟩
  · obtain ⟨v, hv⟩ := h.rest i (by omega) hi2
    exact ⟨v, oldc hbt (.inr (by omega)) hv⟩
  · exact (World.frozen?_setCell _ _ _ _).trans (old_frozen _ _ _ _ _ hbt (h.fr i hi))
  · exact World.cell?_setCell_same _ _ _ (old_cell _ _ _ _ _ hbt hv0)
  · exact (World.frozen?_setCell _ _ _ _).trans (new_frozen _ _ _ _ _ rfl)
  · exact (h.bel.alloc h.bel.size _).setCell h.bt0 _

theorem RS.whole {w0 : World} {n s bt rw r : Nat} {F : Nat → Zi} {wx : World} (h : RS w0 n s bt rw r n F wx) : RT w0 n s bt (r + 1) F wx := by
  refine ⟨fun i hi => ?_, fun i hi1 hi2 => h.rest i (by omega) hi2, h.fr, h.bt0, h.bt1, h.bel⟩
  by_cases hir : i < r
  · obtain ⟨q, h1, h2, h3, h4, h5⟩ := h.rows i hir
    exact ⟨q, h1, h2, h4, h5⟩
  · have : i = r := by omega
    subst this
    exact ⟨rw, h.cur, h.ne, h.rw1, h.done⟩

/-- A world behind, old blocks as they were. -/
theorem RS.later {w0 : World} {n s bt rw r c : Nat} {F : Nat → Zi} {wx wy : World} (h : RS w0 n s bt rw r c F wx) (hb : Below wx.heap.size wx wy) : RS w0 n s bt rw r c F wy := by
  have oc : ∀ {b i : Nat} {v : Value}, wx.cell? ⟨b, i, none⟩ = some v → wy.cell? ⟨b, i, none⟩ = some v := fun hv => (hb.cell (World.block_lt_of_cell? wx _ hv)).trans hv
  have hsz := hb.size
  refine ⟨fun i hi => ?_, fun i h1 h2 => ?_, fun i hi => (hb.frozen h.bt1).trans (h.fr i hi), oc h.cur, h.done.eq fun i v hv => oc hv, fun j hj => ?_, fun i => (hb.frozen h.rw1).trans (h.fw i), h.ne, h.rw0, by have := h.rw1; omega, h.bt0, by have := h.bt1; omega, h.bel.trans (hb.mono h.bel.size)⟩
  · obtain ⟨q, h1, h2, h3, h4, h5⟩ := h.rows i hi
    exact ⟨q, oc h1, h2, h3, by omega, h5.eq fun i v hv => oc hv⟩
  · obtain ⟨v, hv⟩ := h.rest i h1 h2
    exact ⟨v, oc hv⟩
  · obtain ⟨u, v, h1, h2⟩ := h.todo j hj
    exact ⟨u, v, oc h1, oc h2⟩

/-- One entry more. -/
theorem RS.entry {w0 : World} {n s bt rw r c : Nat} {F : Nat → Zi} {wx : World} (h : RS w0 n s bt rw r c F wx) (hc : c < n) {x y : Nat} (hz : IsC x y s (F (n * r + c))) :
    RS w0 n s bt rw r (c + 1) F ((wx.setCell ⟨rw, c * 2, none⟩ (.float .f64 x)).setCell ⟨rw, c * 2 + 1, none⟩ (.float .f64 y)) := by
  have oc : ∀ {b i : Nat} {v : Value}, (rw ≠ b ∨ (c * 2 ≠ i ∧ c * 2 + 1 ≠ i)) → wx.cell? ⟨b, i, none⟩ = some v → ((wx.setCell ⟨rw, c * 2, none⟩ (.float .f64 x)).setCell ⟨rw, c * 2 + 1, none⟩ (.float .f64 y)).cell? ⟨b, i, none⟩ = some v := fun hne hv =>
    (cell_set_ne _ _ _ _ _ _ (by rcases hne with h | h; exact .inl h; exact .inr h.2)).trans ((cell_set_ne _ _ _ _ _ _ (by rcases hne with h | h; exact .inl h; exact .inr h.1)).trans hv)
  have fc : ∀ {a : Addr} {v : Bool}, wx.frozen? a = v → ((wx.setCell ⟨rw, c * 2, none⟩ (.float .f64 x)).setCell ⟨rw, c * 2 + 1, none⟩ (.float .f64 y)).frozen? a = v := fun hv => (World.frozen?_setCell _ _ _ _).trans ((World.frozen?_setCell _ _ _ _).trans hv)
  obtain ⟨u, v, t1, t2⟩ := h.todo c hc
  have n1 : ((wx.setCell ⟨rw, c * 2, none⟩ (.float .f64 x)).setCell ⟨rw, c * 2 + 1, none⟩ (.float .f64 y)).cell? ⟨rw, c * 2, none⟩ = some (.float .f64 x) :=
    (cell_set_ne _ _ _ _ _ _ (.inr (by omega))).trans (World.cell?_setCell_same _ _ _ t1)
  have n2 : ((wx.setCell ⟨rw, c * 2, none⟩ (.float .f64 x)).setCell ⟨rw, c * 2 + 1, none⟩ (.float .f64 y)).cell? ⟨rw, c * 2 + 1, none⟩ = some (.float .f64 y) :=
    World.cell?_setCell_same _ _ _ ((cell_set_ne _ _ _ _ _ _ (.inr (by omega))).trans t2)
  refine ⟨fun i hi => ?_, fun i h1 h2 => ?_, fun i hi => fc (h.fr i hi), oc (.inl h.ne) h.cur, fun j hj => ?_, fun j hj => ?_, fun i => fc (h.fw i), h.ne, h.rw0, by simp; exact h.rw1, h.bt0, by simp; exact h.bt1, (h.bel.setCell h.rw0 _).setCell h.rw0 _⟩
  · obtain ⟨q, h1, h2, h3, h4, h5⟩ := h.rows i hi
    exact ⟨q, oc (.inl h.ne) h1, h2, h3, by simp; exact h4, h5.eq fun i v hv => oc (.inl (Ne.symm h3)) hv⟩
  · obtain ⟨v, hv⟩ := h.rest i h1 h2
    exact ⟨v, oc (.inl h.ne) hv⟩
  · by_cases hjc : j = c
    · subst hjc; exact ⟨x, y, n1, n2, hz⟩
    · obtain ⟨a, b, h1, h2, h3⟩ := h.done j (by omega)
      exact ⟨a, b, oc (.inr (by omega)) h1, oc (.inr (by omega)) h2, h3⟩
  · by_cases hjc : j = c
    · subst hjc; exact ⟨_, _, n1, n2⟩
    · obtain ⟨a, b, h1, h2⟩ := h.todo j hj
      exact ⟨a, b, oc (.inr (by omega)) h1, oc (.inr (by omega)) h2⟩
theorem RT.start {w0 : World} {n s : Nat} {F : Nat → Zi} (ty : TypeId) : RT w0 n s w0.heap.size 0 F (w0.alloc (.cells (madeCells #[.slice none 0 0] n) ty)) :=
  ⟨fun i hi => absurd hi (Nat.not_lt_zero _), fun i _ hi => ⟨_, new_cell _ _ _ _ _ _ rfl (made_at _ _ _ hi)⟩, fun i hi => new_frozen _ _ _ _ _ rfl, Nat.le_refl _, by simp, (Below.refl _ _).alloc (Nat.le_refl _) _⟩
theorem RT.holds {w0 : World} {n s bt : Nat} {F : Nat → Zi} {wx : World} (h : RT w0 n s bt n F wx) : HoldsR wx bt n s F := fun i hi => by
  obtain ⟨q, h1, _, _, h2⟩ := h.rows i hi
  exact ⟨q, h1, fun j hj => h2 j hj⟩
@[go_sem] theorem run_store_float (P : Program) (w : World) (a : Addr) (m : Mode) (k : FloatKind) (x : Nat) : (store a (.float k x) m).run P w = stored P w a (.float k x) m := run_store P w a _ m rfl

theorem run_fl (op : BinOp) (h : op = .add ∨ op = .sub ∨ op = .mul) (t : TypeId) {x y r : Nat} (e : floatBits op .f64 x y = some r) (w : World) : (binOp op t (.float .f64 x) (.float .f64 y)).run Try.prog w = .ok (.float .f64 r) w := by
  rcases h with rfl | rfl | rfl <;> exact run_float_arith w _ t .f64 x y r e

/-- One product more, as the document reckons it. -/
theorem stepC {x y a1 a2 b1 b2 s t : Nat} {z A B : Zi} (hz : IsC x y (s + t) z) (hA : IsC a1 a2 s A) (hB : IsC b1 b2 t B) (hst : s + t ≤ 1074) {p q r : Nat} (sA : Small A p) (sB : Small B q) (sz : Small z r) (hb : r + 2 * (p * q) ≤ 2 ^ 50) :
    ∃ p1 s1 p2 s2 q1 u1 q2 u2, floatBits .mul .f64 a1 b1 = some p1 ∧ floatBits .add .f64 x p1 = some s1 ∧ floatBits .mul .f64 a2 b2 = some p2 ∧ floatBits .sub .f64 s1 p2 = some s2 ∧
      floatBits .mul .f64 a1 b2 = some q1 ∧ floatBits .add .f64 y q1 = some u1 ∧ floatBits .mul .f64 a2 b1 = some q2 ∧ floatBits .add .f64 u1 q2 = some u2 ∧ IsC s2 u2 (s + t) (zadd z (zmul A B)) := by
  have e : (2 : Nat) ^ 50 < 2 ^ 53 := by decide
  have m : ∀ {x y : Int}, x.natAbs ≤ p → y.natAbs ≤ q → (x * y).natAbs ≤ p * q := fun hx hy => by
    rw [Int.natAbs_mul]; exact Nat.mul_le_mul hx hy
  have m1 := m sA.1 sB.1
  have m2 := m sA.2 sB.2
  have m3 := m sA.1 sB.2
  have m4 := m sA.2 sB.1
  obtain ⟨z1, z2⟩ := sz
  obtain ⟨p1, h1, g1⟩ := Fp.mul_exact hA.1 hB.1 hst (by omega)
  obtain ⟨s1, h2, g2⟩ := Fp.add_exact hz.1 g1 (by omega)
  obtain ⟨p2, h3, g3⟩ := Fp.mul_exact hA.2 hB.2 hst (by omega)
  obtain ⟨s2, h4, g4⟩ := Fp.sub_exact g2 g3 (by omega)
  obtain ⟨q1, h5, g5⟩ := Fp.mul_exact hA.1 hB.2 hst (by omega)
  obtain ⟨u1, h6, g6⟩ := Fp.add_exact hz.2 g5 (by omega)
  obtain ⟨q2, h7, g7⟩ := Fp.mul_exact hA.2 hB.1 hst (by omega)
  obtain ⟨u2, h8, g8⟩ := Fp.add_exact g6 g7 (by omega)
  exact ⟨p1, s1, p2, s2, q1, u1, q2, u2, h1, h2, h3, h4, h5, h6, h7, h8, g4.cast (by show _ = z.1 + (A.1 * B.1 - A.2 * B.2); omega), g8.cast (by show _ = z.2 + (A.1 * B.2 + A.2 * B.1); omega)⟩
end Go.Proofs.Ytmckaoeofikdaaa
