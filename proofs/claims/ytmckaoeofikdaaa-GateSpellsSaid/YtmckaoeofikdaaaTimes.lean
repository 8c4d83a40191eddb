/- times of package gate. -/
import Derived.Test.YtmckaoeofikdaaaBase
import Derived.Test.YtmckaoeofikdaaaCx
import Derived.Lib.Hide
import Derived.Outline
import Derived.StillTailTactics
import Derived.RegionTactic
import Derived.Laws.MakeOwn
import Derived.Deep.LoopGhost
import Derived.BigRegion
import Derived.Deep.DeepCutAuto
import Derived.Deep.Light
namespace Go.Proofs.Ytmckaoeofikdaaa
open Go.RowKit

theorem info49 : (Try.prog.info? 49).map (fun i => (i.zero, i.size, i.bytes)) = some (some (.complex .f64 0 0), 1, 16) := by kernel_rfl

/-- Exact complex numbers that lie in memory. -/
def HoldsC (w : World) (b n s : Nat) (A : Nat → Zi) : Prop := ∀ i, i < n → ∃ x y, w.cell? ⟨b, i, none⟩ = some (.complex .f64 x y) ∧ IsC x y s (A i)

/-- What memory holds while the product is made. -/
structure TS (n ba bb ca cb s t : Nat) (A B : Nat → Zi) (B2 bm be : Nat) (E : Nat → Zi) (wx : World) : Prop where
  n2 : wx.cell? ⟨B2, 0, none⟩ = some (.int .i64 n)
  a2 : wx.cell? ⟨B2, 1, none⟩ = some (.slice (some ⟨ba, 0, none⟩) (n * n) ca)
  b3 : wx.cell? ⟨B2 + 1, 1, none⟩ = some (.slice (some ⟨bb, 0, none⟩) (n * n) cb)
  m0 : wx.cell? ⟨bm, 0, none⟩ = some (.int .i64 n)
  m1 : wx.cell? ⟨bm, 1, none⟩ = some (.slice (some ⟨be, 0, none⟩) (n * n) (n * n))
  c4 : wx.cell? ⟨B2 + 1 + 1, 0, none⟩ = some (.int .i64 0)
  c5 : wx.cell? ⟨B2 + 1 + 1, 1, none⟩ = some (.slice none 0 0)
  f4 : wx.frozen? ⟨B2 + 1 + 1, 0, none⟩ = false
  f5 : wx.frozen? ⟨B2 + 1 + 1, 1, none⟩ = false
  e : HoldsC wx be (n * n) (s + t) E
  ef : ∀ i, i < n * n → wx.frozen? ⟨be, i, none⟩ = false
  a : HoldsC wx ba (n * n) s A
  b : HoldsC wx bb (n * n) t B
  ne : be ≠ ba ∧ be ≠ bb ∧ be ≠ B2 ∧ be ≠ B2 + 1 ∧ be ≠ B2 + 1 + 1 ∧ be ≠ bm
  nm : bm ≠ B2 + 1 + 1

theorem TS.cong {n ba bb ca cb s t : Nat} {A B : Nat → Zi} {B2 bm be : Nat} {E E' : Nat → Zi} {wx : World} (h : TS n ba bb ca cb s t A B B2 bm be E wx) (he : ∀ i, i < n * n → E i = E' i) : TS n ba bb ca cb s t A B B2 bm be E' wx :=
  { h with e := fun i hi => by rw [← he i hi]; exact h.e i hi }

theorem cell_set_ne (w : World) (b i b' i' : Nat) (v : Value) (h : b ≠ b' ∨ i ≠ i') : (w.setCell ⟨b, i, none⟩ v).cell? ⟨b', i', none⟩ = w.cell? ⟨b', i', none⟩ :=
  World.cell?_setCell_other _ _ _ _ (by
    intro e
    simp only [Addr.mk.injEq, and_true] at e
    rcases h with h | h
    · exact h e.1
    · exact h e.2)

theorem TS.store {n ba bb ca cb s t : Nat} {A B : Nat → Zi} {B2 bm be : Nat} {E : Nat → Zi} {wx : World} (h : TS n ba bb ca cb s t A B B2 bm be E wx) {X x y : Nat} {z : Zi} (hX : X < n * n) (hz : IsC x y (s + t) z) :
    TS n ba bb ca cb s t A B B2 bm be (fun i => if i = X then z else E i) (wx.setCell ⟨be, X, none⟩ (.complex .f64 x y)).drew := by
  obtain ⟨q1, q2, q3, q4, q5, q6⟩ := h.ne
  have ce : ∀ {b i : Nat} {v : Value}, be ≠ b → wx.cell? ⟨b, i, none⟩ = some v → ((wx.setCell ⟨be, X, none⟩ (.complex .f64 x y)).drew).cell? ⟨b, i, none⟩ = some v := fun hb hv =>
    (cell_set_ne wx be X _ _ _ (.inl hb)).trans hv
  have fe : ∀ {a : Addr} {v : Bool}, wx.frozen? a = v → ((wx.setCell ⟨be, X, none⟩ (.complex .f64 x y)).drew).frozen? a = v := fun hv => (World.frozen?_setCell wx _ _ _).trans hv
  refine ⟨ce q3 h.n2, ce q3 h.a2, ce q4 h.b3, ce q6 h.m0, ce q6 h.m1, ce q5 h.c4, ce q5 h.c5, fe h.f4, fe h.f5, fun i hi => ?_, fun i hi => fe (h.ef i hi), fun i hi => ?_, fun i hi => ?_, h.ne, h.nm⟩
  · by_cases e : i = X
    · subst e
      obtain ⟨x0, y0, h0, _⟩ := h.e i hi
      refine ⟨x, y, World.cell?_setCell_same wx _ _ h0, ?_⟩
      simp only [if_true]
      exact hz
    · obtain ⟨x0, y0, h0, h1⟩ := h.e i hi
      refine ⟨x0, y0, (cell_set_ne wx be X be i _ (.inr (Ne.symm e))).trans h0, ?_⟩
      simp only [if_neg e]
      exact h1
  · obtain ⟨x0, y0, h0, h1⟩ := h.a i hi
    exact ⟨x0, y0, ce q1 h0, h1⟩
  · obtain ⟨x0, y0, h0, h1⟩ := h.b i hi
    exact ⟨x0, y0, ce q2 h0, h1⟩

theorem new_cell (w : World) (cs : Array Value) (ty : TypeId) (b i : Nat) (v : Value) (hb : b = w.heap.size) (hv : cs[i]? = some v) : (w.alloc (.cells cs ty)).cell? ⟨b, i, none⟩ = some v := by
  subst hb
  rw [cell_of_row _ _ _ cs ty (0, 0) (heap_alloc_new w _)]
  exact hv
theorem old_cell (w : World) (o : Obj) (b i : Nat) (v : Value) (hb : b < w.heap.size) (hv : w.cell? ⟨b, i, none⟩ = some v) : (w.alloc o).cell? ⟨b, i, none⟩ = some v :=
  (World.cell?_alloc_lt _ _ _ hb).trans hv
theorem new_frozen (w : World) (cs : Array Value) (ty : TypeId) (b i : Nat) (hb : b = w.heap.size) : (w.alloc (.cells cs ty)).frozen? ⟨b, i, none⟩ = false := by
  exact World.frozen?_alloc_at _ _ _ _ hb
theorem old_frozen (w : World) (o : Obj) (b i : Nat) (v : Bool) (hb : b < w.heap.size) (hv : w.frozen? ⟨b, i, none⟩ = v) : (w.alloc o).frozen? ⟨b, i, none⟩ = v :=
  (World.frozen?_alloc_past _ _ _ hb).trans hv
theorem made_at (z : Value) (n i : Nat) (hi : i < n) : (madeCells #[z] n)[i]? = some z := by
  simp [madeCells, hi, Nat.mod_one]
theorem isF_nought (s : Nat) (hs : s ≤ 1074) : Fp.IsF 0 s 0 := ⟨hs, false, 0, -1074, by decide +kernel, by decide, by simp [Fp.sgn]⟩
theorem HoldsC.below {w w' : World} {b n s : Nat} {A : Nat → Zi} (h : HoldsC w b n s A) (hb : Below w.heap.size w w') : HoldsC w' b n s A := fun i hi => by
  obtain ⟨x, y, h1, h2⟩ := h i hi
  exact ⟨x, y, (hb.cell (World.block_lt_of_cell? w _ h1)).trans h1, h2⟩

/-- The start: five new blocks, in either order. -/
def threeB (w : World) (n ba bb ca cb N2 : Nat) : World := ((w.alloc (.cells #[.int .i64 n, .slice (some ⟨ba, 0, none⟩) N2 ca] 45)).alloc (.cells #[.int .i64 n, .slice (some ⟨bb, 0, none⟩) N2 cb] 45)).alloc (.cells #[.int .i64 0, .slice none 0 0] 45)
def startA (w : World) (n ba bb ca cb N2 : Nat) : World := ((threeB w n ba bb ca cb N2).alloc (.cells (madeCells #[.complex .f64 0 0] N2) 49)).alloc (.cells #[.int .i64 n, .slice (some ⟨w.heap.size + 1 + 1 + 1, 0, none⟩) N2 N2] 45)
def startB (w : World) (n ba bb ca cb N2 : Nat) : World := ((threeB w n ba bb ca cb N2).alloc (.cells #[.int .i64 n, .slice (some ⟨w.heap.size + 1 + 1 + 1 + 1, 0, none⟩) N2 N2] 45)).alloc (.cells (madeCells #[.complex .f64 0 0] N2) 49)
theorem startA_below (w : World) (n ba bb ca cb N2 : Nat) : Below w.heap.size w (startA w n ba bb ca cb N2) :=
  (((((Below.refl _ _).alloc (Nat.le_refl _) _).alloc (by simp) _).alloc (by simp; omega) _).alloc (by simp; omega) _).alloc (by simp; omega) _
theorem startB_below (w : World) (n ba bb ca cb N2 : Nat) : Below w.heap.size w (startB w n ba bb ca cb N2) :=
  (((((Below.refl _ _).alloc (Nat.le_refl _) _).alloc (by simp) _).alloc (by simp; omega) _).alloc (by simp; omega) _).alloc (by simp; omega) _
theorem startA_TS {n ba bb ca cb s t : Nat} {A B : Nat → Zi} {w : World} (hA : HoldsC w ba (n * n) s A) (hB : HoldsC w bb (n * n) t B) (hba : ba < w.heap.size) (hbb : bb < w.heap.size) (hst : s + t ≤ 1074) :
    TS n ba bb ca cb s t A B w.heap.size (w.heap.size + 1 + 1 + 1 + 1) (w.heap.size + 1 + 1 + 1) (fun _ => (0, 0)) (startA w n ba bb ca cb (n * n)).drew := by
  have z0 : IsC 0 0 (s + t) (0, 0) := ⟨isF_nought _ hst, isF_nought _ hst⟩
  have hb := (startA_below w n ba bb ca cb (n * n)).drew
  refine ⟨?_, ?_, ?_, ?_, ?_, ?_, ?_, ?_, ?_, fun i hi => ⟨0, 0, ?_, z0⟩, fun i hi => ?_, hA.below hb, hB.below hb, ?_, ?_⟩
  all_goals first | (unfold startA threeB; simp [go_sem]; done) | (unfold startA threeB; simp [go_sem, made_at, hi]; done) | omega
theorem startB_TS {n ba bb ca cb s t : Nat} {A B : Nat → Zi} {w : World} (hA : HoldsC w ba (n * n) s A) (hB : HoldsC w bb (n * n) t B) (hba : ba < w.heap.size) (hbb : bb < w.heap.size) (hst : s + t ≤ 1074) :
    TS n ba bb ca cb s t A B w.heap.size (w.heap.size + 1 + 1 + 1) (w.heap.size + 1 + 1 + 1 + 1) (fun _ => (0, 0)) (startB w n ba bb ca cb (n * n)).drew := by
  have z0 : IsC 0 0 (s + t) (0, 0) := ⟨isF_nought _ hst, isF_nought _ hst⟩
  have hb := (startB_below w n ba bb ca cb (n * n)).drew
  refine ⟨?_, ?_, ?_, ?_, ?_, ?_, ?_, ?_, ?_, fun i hi => ⟨0, 0, ?_, z0⟩, fun i hi => ?_, hA.below hb, hB.below hb, ?_, ?_⟩
  all_goals first | (unfold startB threeB; simp [go_sem]; done) | (unfold startB threeB; simp [go_sem, made_at, hi]; done) | omega

/-- What a product answers. -/
def TimesPost (n s : Nat) (E : Nat → Zi) (w : World) (e : Ending) (w' : World) : Prop :=
  ∃ be, e = .returned (.agg #[.int .i64 n, .slice (some ⟨be, 0, none⟩) (n * n) (n * n)]) ∧ HoldsC w' be (n * n) s E ∧ w.heap.size ≤ be ∧ Below w.heap.size w w'

theorem wrap_small {a : Int} (h0 : 0 ≤ a) (h : a ≤ 9223372036854775807) : IntKind.i64.wrap a = a := by rw [IntKind.wrap_i64]; omega

set_option maxHeartbeats 4000000 in
set_option maxRecDepth 100000 in
theorem times_any (n : Nat) (hn : n ≤ 64) (ba bb ca cb s t p q : Nat) (A B : Nat → Zi) (w : World) (hA : HoldsC w ba (n * n) s A) (hB : HoldsC w bb (n * n) t B) (sA : ∀ i, i < n * n → Small (A i) p) (sB : ∀ i, i < n * n → Small (B i) q)
    (hpq : 64 * (2 * (p * q)) ≤ 2 ^ 49) (hst : s + t ≤ 1074) (hba : ba < w.heap.size) (hbb : bb < w.heap.size) :
    Calls Try.prog 73 #[.agg #[.int .i64 n, .slice (some ⟨ba, 0, none⟩) (n * n) ca], .agg #[.int .i64 n, .slice (some ⟨bb, 0, none⟩) (n * n) cb]] w (TimesPost n (s + t) (mulM n A B) w) := by
  obtain ⟨i0, hi, hz0, hz1, hz2⟩ := info_parts info49
  have hnn : n * n ≤ 4096 := Nat.mul_le_mul hn hn
  obtain ⟨N2, hN2⟩ : ∃ N2, n * n = N2 := ⟨_, rfl⟩
  rw [hN2] at hnn
  have HN2 := Lib.hid hN2
  have HA := Lib.hid hA
  have HB := Lib.hid hB
  have SA := Lib.hid sA
  have SB := Lib.hid sB
  have HPQ := Lib.hid hpq
  rw [hN2]
  clear hN2 hA hB sA sB hpq
  go_enter Try.func73, Try.ntmps73
  go_upto_region 1 with fail
  go_cut [5] (fun s5 wx => ∃ bm be : Nat, s5 = .pointer (some ⟨bm, 0, none⟩) ∧ TS n ba bb ca cb s t A B w.heap.size bm be (fun _ => (0, 0)) wx ∧ Below w.heap.size w wx ∧ w.heap.size ≤ be)
  case first =>
    have hmk := fun w => run_makeSlice (P := Try.prog) w 43 49 i0 (.complex .f64 0 0) Try.underlying43 hi hz0 .i64 .i64 (N2 : Int) (N2 : Int) (by omega) (Int.le_refl _) (by rw [hz1]; omega) (by rw [hz2]; omega) (by omega)
    go_region
    all_goals (go_wp2_with fail; go_meet)
    · have h1 := startA_TS (s := s) (t := t) (A := A) (B := B) (w := w) (n := n) (ca := ca) (cb := cb) HA.out HB.out hba hbb hst
      rw [HN2.out] at h1
      exact ⟨_, _, rfl, h1, (startA_below w n ba bb ca cb N2).drew, by omega⟩
    · have h1 := startB_TS (s := s) (t := t) (A := A) (B := B) (w := w) (n := n) (ca := ca) (cb := cb) HA.out HB.out hba hbb hst
      rw [HN2.out] at h1
      exact ⟨_, _, rfl, h1, (startB_below w n ba bb ca cb N2).drew, by omega⟩
  case rest =>
    obtain ⟨bm, be, rfl, hts, hbel, hbe⟩ := hcut
    have HT := Lib.hid hts
    have g2 := hts.n2
    clear hts hi hz0 hz1 hz2
    have HBE := Lib.hid hbe
    clear hbe
    go_wp2
    go_loopw [18] (fun i wr => ∃ m : Nat, m ≤ n ∧ i = .int .i64 m ∧ Hid (TS n ba bb ca cb s t A B w.heap.size bm be (part n A B (n * m) 0) wr) ∧ Hid (Below w.heap.size w wr)) (fun i _ => n - (intOf i).toNat)
    case atStart => exact ⟨0, Nat.zero_le _, rfl, Lib.hid (HT.out.cong fun i hi => (part_start n A B i).symm), Lib.hid hbel⟩
    case round =>
      obtain ⟨m, hm, rfl, HTm, HBm⟩ := hrel
      clear HT hbel
      obtain ⟨w1, rfl⟩ : ∃ w1 : World, w1 = wr := ⟨_, rfl⟩
      have g2 := HTm.out.n2
      by_cases hlt : m < n
      · go_wp2
        go_loopw [7, 8, 23] (fun _ _ j wr => ∃ r : Nat, r ≤ n ∧ j = .int .i64 r ∧ Hid (TS n ba bb ca cb s t A B w.heap.size bm be (part n A B (n * m + r) 0) wr) ∧ Hid (Below w.heap.size w wr)) (fun _ _ j _ => n - (intOf j).toNat)
        case atStart => exact ⟨0, Nat.zero_le _, rfl, HTm, HBm⟩
        case round =>
          obtain ⟨r, hr, rfl, HTr, HBr⟩ := hrel
          clear HTm HBm
          obtain ⟨w2, rfl⟩ : ∃ w2 : World, w2 = wr := ⟨_, rfl⟩
          have g2 := HTr.out.n2
          by_cases hrt : r < n
          · go_wp2
            go_loopw [8, 28] (fun _ k wr => ∃ q' : Nat, q' ≤ n ∧ k = .int .i64 q' ∧ Hid (TS n ba bb ca cb s t A B w.heap.size bm be (part n A B (n * m + r) q') wr) ∧ Hid (Below w.heap.size w wr)) (fun _ k _ => n - (intOf k).toNat)
            case atStart => exact ⟨0, Nat.zero_le _, rfl, HTr, HBr⟩
            case round =>
              obtain ⟨k, hk, rfl, HTk, HBk⟩ := hrel
              clear HTr HBr g2
              obtain ⟨w3, rfl⟩ : ∃ w3 : World, w3 = wr := ⟨_, rfl⟩
              have g2 := HTk.out.n2
              by_cases hkt : k < n
              · have X1 := idx_lt (n := n) hlt hrt
                have X2 := idx_lt (n := n) hlt hkt
                have X3 := idx_lt (n := n) hkt hrt
                obtain ⟨x0, y0, c0, z0⟩ := HTk.out.e _ X1
                obtain ⟨a1, a2, c1, z1⟩ := HTk.out.a _ X2
                obtain ⟨b1, b2, c2, z2⟩ := HTk.out.b _ X3
                have f0 := HTk.out.ef _ X1
                have sa := SA.out _ X2
                have sb := SB.out _ X3
                obtain ⟨r1, r2, hmul, hz⟩ := mulC z1 z2 hst sa sb (by have := HPQ.out; omega)
                have hsm : Small (zadd (part n A B (n * m + r) k (n * m + r)) (zmul (A (n * m + k)) (B (n * k + r)))) (2 ^ 50) :=
                  ((part_small SA.out SB.out (by omega) X1).add (sa.mul sb)).mono (by
                    have h1 := HPQ.out
                    have h2 : n * (2 * (p * q)) ≤ 64 * (2 * (p * q)) := Nat.mul_le_mul_right _ hn
                    omega)
                obtain ⟨v1, v2, hadd, hzz⟩ := addC z0 hz hsm
                have HT' : Hid (TS n ba bb ca cb s t A B w.heap.size bm be (part n A B (n * m + r) (k + 1)) (w3.setCell ⟨be, n * m + r, none⟩ (.complex .f64 v1 v2)).drew) := Lib.hid ((HTk.out.store X1 hzz).cong fun i _ => by
                  rw [part_step, idx_div hrt, idx_mod hrt])
                have HB' : Hid (Below w.heap.size w (w3.setCell ⟨be, n * m + r, none⟩ (.complex .f64 v1 v2)).drew) := Lib.hid (Below.drew (HBk.out.setCell HBE.out _))
                have rmul := fun t w => run_complex_mul (P := Try.prog) w t a1 a2 b1 b2 r1 r2 hmul
                have radd := fun t w => run_complex_sum (P := Try.prog) w .add (.inl rfl) t .f64 x0 y0 r1 r2 v1 v2 hadd
                have g3 := HTk.out.a2
                have g4 := HTk.out.b3
                have g5 := HTk.out.m1
                have hP : n * m ≤ 4096 := Nat.le_trans (Nat.mul_le_mul hn (Nat.le_of_lt hlt)) (by omega)
                have hQ : n * k ≤ 4096 := Nat.le_trans (Nat.mul_le_mul hn (Nat.le_of_lt hkt)) (by omega)
                have e1 : (n : Int) * (m : Int) = ((n * m : Nat) : Int) := by simp
                have e2 : (n : Int) * (k : Int) = ((n * k : Nat) : Int) := by simp
                rw [HN2.out] at g3 g4 g5 X1 X2 X3
                clear z0 z1 z2 sa sb hmul hz hsm hadd hzz HTk HBk
                obtain ⟨P, hP'⟩ : ∃ P, n * m = P := ⟨_, rfl⟩
                obtain ⟨Q, hQ'⟩ : ∃ Q, n * k = Q := ⟨_, rfl⟩
                rw [hP'] at e1 hP c0 c1 f0 HT' HB' X1 X2
                rw [hQ'] at e2 hQ c2 X3
                obtain ⟨U, hU⟩ : ∃ U, P + r = U := ⟨_, rfl⟩
                obtain ⟨V, hV⟩ : ∃ V, P + k = V := ⟨_, rfl⟩
                obtain ⟨Y, hY⟩ : ∃ Y, Q + r = Y := ⟨_, rfl⟩
                have w1' : IntKind.i64.wrap ((n : Int) * (m : Int)) = (P : Int) := by rw [e1]; exact wrap_small (by omega) (by omega)
                have w2' : IntKind.i64.wrap ((n : Int) * (k : Int)) = (Q : Int) := by rw [e2]; exact wrap_small (by omega) (by omega)
                have w3' : IntKind.i64.wrap ((P : Int) + (r : Int)) = (U : Int) := by rw [← hU]; exact (wrap_small (by omega) (by omega)).trans (by omega)
                have w4' : IntKind.i64.wrap ((P : Int) + (k : Int)) = (V : Int) := by rw [← hV]; exact (wrap_small (by omega) (by omega)).trans (by omega)
                have w5' : IntKind.i64.wrap ((Q : Int) + (r : Int)) = (Y : Int) := by rw [← hY]; exact (wrap_small (by omega) (by omega)).trans (by omega)
                rw [hU] at c0 f0 HT' HB' X1
                rw [hV] at c1 X2
                rw [hY] at c2 X3
                have y1 : 0 ≤ (U : Int) := by omega
                have y2 : 0 ≤ (V : Int) := by omega
                have y3 : 0 ≤ (Y : Int) := by omega
                have y4 : (U : Int) < (N2 : Int) := by omega
                have y5 : (V : Int) < (N2 : Int) := by omega
                have y6 : (Y : Int) < (N2 : Int) := by omega
                have HU : Hid (n * m + r = U) := Lib.hid (by rw [hP', hU])
                clear e1 e2 hP' hQ' hU hV hY hP hQ
                go_upto_region 11 with fail
                go_still_tail 33, (by kernel_rfl)
                change wpList _ _ _ _ _ w3.drew
                have c0' : w3.drew.cell? ⟨be, U, none⟩ = some (.complex .f64 x0 y0) := c0
                have f0' : w3.drew.frozen? ⟨be, U, none⟩ = false := f0
                have ed : (w3.setCell ⟨be, U, none⟩ (.complex .f64 v1 v2)).drew = w3.drew.setCell ⟨be, U, none⟩ (.complex .f64 v1 v2) := rfl
                rw [ed] at HT' HB'
                clear ed c0 c1 c2 f0 g2 g3 g4 g5
                generalize w3.drew = w4 at c0' f0' HT' HB' ⊢
                go_wp2
                go_roundw
                case rel => exact ⟨k + 1, by omega, by go_num, by rw [HU.out]; exact HT', HB'⟩
                case measure => simp [intOf]; omega
              · have hkn : k = n := by omega
                have HT2 : Hid (TS n ba bb ca cb s t A B w.heap.size bm be (part n A B (n * m + (r + 1)) 0) w3) := Lib.hid (HTk.out.cong fun i _ => by rw [hkn, part_next]; rfl)
                clear HTk hkn
                go_wp2
                go_roundw
                case rel => exact ⟨r + 1, by omega, by go_num, HT2, HBk⟩
                case measure => simp [intOf]; omega
          · have hrn : r = n := by omega
            have HT3 : Hid (TS n ba bb ca cb s t A B w.heap.size bm be (part n A B (n * (m + 1)) 0) w2) := Lib.hid (HTr.out.cong fun i _ => by rw [hrn, Nat.mul_succ])
            clear HTr hrn
            go_wp2
            go_roundw
            case rel => exact ⟨m + 1, by omega, by go_num, HT3, HBr⟩
            case measure => simp [intOf]; omega
      · have hmn : m = n := by omega
        have HT4 : Hid (TS n ba bb ca cb s t A B w.heap.size bm be (mulM n A B) w1) := Lib.hid (HTm.out.cong fun i hi => by rw [hmn, part_end n A B hi])
        have g3 := HT4.out.m0
        have g4 := HT4.out.m1
        have g5 := HT4.out.c4
        have g6 := HT4.out.c5
        have g7 := HT4.out.f4
        have g8 := HT4.out.f5
        rw [HN2.out] at g4
        clear HTm hmn
        go_wp2
        have hts := HT4.out
        obtain ⟨q1, q2, q3, q4, q5, q6⟩ := hts.ne
        have k1 : ((w1.setCell ⟨w.heap.size + 1 + 1, 0, none⟩ (.int .i64 n)).setCell ⟨w.heap.size + 1 + 1, 1, none⟩ (.slice (some ⟨be, 0, none⟩) N2 N2)).cell? ⟨w.heap.size + 1 + 1, 0, none⟩ = some (.int .i64 n) :=
          (cell_set_ne _ _ _ _ _ _ (.inr (by decide))).trans (World.cell?_setCell_same _ _ _ g5)
        have k2 : ((w1.setCell ⟨w.heap.size + 1 + 1, 0, none⟩ (.int .i64 n)).setCell ⟨w.heap.size + 1 + 1, 1, none⟩ (.slice (some ⟨be, 0, none⟩) N2 N2)).cell? ⟨w.heap.size + 1 + 1, 1, none⟩ = some (.slice (some ⟨be, 0, none⟩) N2 N2) :=
          World.cell?_setCell_same _ _ _ ((cell_set_ne _ _ _ _ _ _ (.inr (by decide))).trans g6)
        have k3 : HoldsC ((w1.setCell ⟨w.heap.size + 1 + 1, 0, none⟩ (.int .i64 n)).setCell ⟨w.heap.size + 1 + 1, 1, none⟩ (.slice (some ⟨be, 0, none⟩) N2 N2)) be (n * n) (s + t) (mulM n A B) := fun i hi => by
          obtain ⟨x, y, h1, h2⟩ := hts.e i hi
          exact ⟨x, y, (cell_set_ne _ _ _ _ _ _ (.inl (Ne.symm q5))).trans ((cell_set_ne _ _ _ _ _ _ (.inl (Ne.symm q5))).trans h1), h2⟩
        have k4 : Below w.heap.size w ((w1.setCell ⟨w.heap.size + 1 + 1, 0, none⟩ (.int .i64 n)).setCell ⟨w.heap.size + 1 + 1, 1, none⟩ (.slice (some ⟨be, 0, none⟩) N2 N2)) :=
          (HBm.out.setCell (by show w.heap.size ≤ w.heap.size + 1 + 1; omega) _).setCell (by show w.heap.size ≤ w.heap.size + 1 + 1; omega) _
        generalize (w1.setCell ⟨w.heap.size + 1 + 1, 0, none⟩ (.int .i64 n)).setCell ⟨w.heap.size + 1 + 1, 1, none⟩ (.slice (some ⟨be, 0, none⟩) N2 N2) = wf at k1 k2 k3 k4 ⊢
        refine bodyPost_ret (v := .agg #[.int .i64 n, .slice (some ⟨be, 0, none⟩) N2 N2]) ?_ rfl ⟨be, by rw [HN2.out], k3, HBE.out, k4⟩
        simp [results, Try.results73, go_sem, k1, k2]
end Go.Proofs.Ytmckaoeofikdaaa
