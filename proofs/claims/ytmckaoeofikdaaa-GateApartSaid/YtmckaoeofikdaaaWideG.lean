/- wide of package gate, walked. -/
import Derived.Test.YtmckaoeofikdaaaBits
namespace Go.Proofs.Ytmckaoeofikdaaa
open Go.RowKit Lift

/-- Whole up to a place, nought behind. -/
def upTo (k : Nat) (F : Nat → Zi) : Nat → Zi := fun i => if i < k then F i else (0, 0)
theorem upTo_zero (F : Nat → Zi) (i : Nat) : upTo 0 F i = (0, 0) := rfl
theorem upTo_all {k : Nat} (F : Nat → Zi) {i : Nat} (h : i < k) : upTo k F i = F i := if_pos h
theorem upTo_step (k : Nat) (F : Nat → Zi) (i : Nat) : upTo (k + 1) F i = if i = k then F k else upTo k F i := by
  unfold upTo
  by_cases h : i = k
  · subst h; simp
  · simp only [if_neg h]
    by_cases h2 : i < k
    · rw [if_pos h2, if_pos (by omega)]
    · rw [if_neg h2, if_neg (by omega)]
theorem upTo_skip (k : Nat) (F : Nat → Zi) (h : F k = (0, 0)) (i : Nat) : upTo (k + 1) F i = upTo k F i := by
  rw [upTo_step]
  by_cases e : i = k
  · subst e; rw [if_pos rfl, h]; unfold upTo; rw [if_neg (by omega)]
  · rw [if_neg e]

theorem Drawn.frozen {w w' : World} (h : Drawn w w') (a : Addr) : w'.frozen? a = w.frozen? a := by
  obtain ⟨n, rfl⟩ := h
  induction n with
  | zero => rfl
  | succ n ih => exact ih

structure WS (S N a : Nat) (bm cm g cg : Nat) (A : Nat → Zi) (ws : List Nat) (w0 : World) (Bm Bw Br be Bo : Nat) (E : Nat → Zi) (wx : World) : Prop where
  m0 : wx.cell? ⟨Bm, 0, none⟩ = some (.int .i64 S)
  m1 : wx.cell? ⟨Bm, 1, none⟩ = some (.slice (some ⟨bm, 0, none⟩) (S * S) cm)
  wr : wx.cell? ⟨Bw, 0, none⟩ = some (.slice (some ⟨g, 0, none⟩) a cg)
  o0 : wx.cell? ⟨Bo, 0, none⟩ = some (.int .i64 N)
  o1 : wx.cell? ⟨Bo, 1, none⟩ = some (.slice (some ⟨be, 0, none⟩) (N * N) (N * N))
  r0 : wx.cell? ⟨Br, 0, none⟩ = some (.int .i64 0)
  r1 : wx.cell? ⟨Br, 1, none⟩ = some (.slice none 0 0)
  f0 : wx.frozen? ⟨Br, 0, none⟩ = false
  f1 : wx.frozen? ⟨Br, 1, none⟩ = false
  e : HoldsC wx be (N * N) 1 E
  ef : ∀ i, wx.frozen? ⟨be, i, none⟩ = false
  hA : HoldsC wx bm (S * S) 1 A
  hg : HoldsN wx g ws
  ne : be ≠ bm ∧ be ≠ g ∧ be ≠ Bm ∧ be ≠ Bw ∧ be ≠ Bo ∧ be ≠ Br
  nr : Br ≠ be ∧ Br ≠ bm ∧ Br ≠ g ∧ Br ≠ Bo
  b0 : w0.heap.size ≤ be ∧ w0.heap.size ≤ Br
  bel : Below w0.heap.size w0 wx

variable {S N a bm cm g cg : Nat} {A : Nat → Zi} {ws : List Nat} {w0 : World} {Bm Bw Br be Bo : Nat} {E E' : Nat → Zi} {wx wy : World}

theorem WS.cong (h : WS S N a bm cm g cg A ws w0 Bm Bw Br be Bo E wx) (he : ∀ i, i < N * N → E i = E' i) : WS S N a bm cm g cg A ws w0 Bm Bw Br be Bo E' wx :=
  { h with e := fun i hi => by rw [← he i hi]; exact h.e i hi }
theorem WS.drawn (h : WS S N a bm cm g cg A ws w0 Bm Bw Br be Bo E wx) (hd : Drawn wx wy) : WS S N a bm cm g cg A ws w0 Bm Bw Br be Bo E wy := by
  obtain ⟨n, rfl⟩ := hd
  induction n with
  | zero => exact h
  | succ n ih => exact ⟨ih.m0, ih.m1, ih.wr, ih.o0, ih.o1, ih.r0, ih.r1, ih.f0, ih.f1, ih.e, ih.ef, ih.hA, ih.hg, ih.ne, ih.nr, ih.b0, ih.bel.drew⟩
theorem WS.store (h : WS S N a bm cm g cg A ws w0 Bm Bw Br be Bo E wx) {X x y : Nat} {z : Zi} (hX : X < N * N) (hz : IsC x y 1 z) :
    WS S N a bm cm g cg A ws w0 Bm Bw Br be Bo (fun i => if i = X then z else E i) (wx.setCell ⟨be, X, none⟩ (.complex .f64 x y)) := by
  obtain ⟨q1, q2, q3, q4, q5, q6⟩ := h.ne
  have ce : ∀ {b i : Nat} {v : Value}, be ≠ b → wx.cell? ⟨b, i, none⟩ = some v → (wx.setCell ⟨be, X, none⟩ (.complex .f64 x y)).cell? ⟨b, i, none⟩ = some v := fun hb hv =>
    (cell_set_ne wx be X _ _ _ (.inl hb)).trans hv
  have fe : ∀ {a : Addr} {v : Bool}, wx.frozen? a = v → (wx.setCell ⟨be, X, none⟩ (.complex .f64 x y)).frozen? a = v := fun hv => (World.frozen?_setCell wx _ _ _).trans hv
  refine ⟨ce q3 h.m0, ce q3 h.m1, ce q4 h.wr, ce q5 h.o0, ce q5 h.o1, ce q6 h.r0, ce q6 h.r1, fe h.f0, fe h.f1, fun i hi => ?_, fun i => fe (h.ef i), fun i hi => ?_, fun i hi => ce q2 (h.hg i hi), h.ne, h.nr, h.b0, h.bel.setCell h.b0.1 _⟩
  · by_cases e : i = X
    · subst e
      obtain ⟨x0, y0, h0, _⟩ := h.e i hi
      refine ⟨x, y, World.cell?_setCell_same wx _ _ h0, ?_⟩
      simp only [if_true]
      exact hz
    · obtain ⟨x0, y0, h0, h1⟩ := h.e i hi
      refine ⟨x0, y0, (cell_set_ne wx be X be i _ (.inr (Ne.symm e))).trans h0, ?_⟩
      simp only [if_neg e]
      exact h1
  · obtain ⟨x0, y0, h0, h1⟩ := h.hA i hi
    exact ⟨x0, y0, ce q1 h0, h1⟩

/-- The five blocks at the start. -/
def startW (w : World) (S S2 N N2 a bm cm g cg : Nat) : World :=
  ((((w.alloc (.cells #[.int .i64 S, .slice (some ⟨bm, 0, none⟩) S2 cm] 45)).alloc (.cells #[.slice (some ⟨g, 0, none⟩) a cg] 60)).alloc (.cells #[.int .i64 0, .slice none 0 0] 45)).alloc (.cells (madeCells #[.complex .f64 0 0] N2) 49)).alloc (.cells #[.int .i64 N, .slice (some ⟨w.heap.size + 1 + 1 + 1, 0, none⟩) N2 N2] 45)
theorem startW_below (w : World) (S S2 N N2 a bm cm g cg : Nat) : Below w.heap.size w (startW w S S2 N N2 a bm cm g cg) :=
  (((((Below.refl _ _).alloc (Nat.le_refl _) _).alloc (by simp) _).alloc (by simp; omega) _).alloc (by simp; omega) _).alloc (by simp; omega) _
theorem startW_WS {w : World} (hA : HoldsC w bm (S * S) 1 A) (hg : HoldsN w g ws) (hbm : bm < w.heap.size) (hgm : g < w.heap.size) :
    WS S N a bm cm g cg A ws w w.heap.size (w.heap.size + 1) (w.heap.size + 1 + 1) (w.heap.size + 1 + 1 + 1) (w.heap.size + 1 + 1 + 1 + 1) (fun _ => (0, 0)) (startW w S (S * S) N (N * N) a bm cm g cg) := by
  have z0 : IsC 0 0 1 (0, 0) := ⟨isF_nought _ (by decide), isF_nought _ (by decide)⟩
  have hb := startW_below w S (S * S) N (N * N) a bm cm g cg
  refine ⟨?_, ?_, ?_, ?_, ?_, ?_, ?_, ?_, ?_, fun i hi => ⟨0, 0, ?_, z0⟩, fun i => ?_, hA.below hb, hg.below hb, ?_, ?_, ?_, hb⟩
  all_goals first | (unfold startW; simp [go_sem]; done) | (unfold startW; simp [go_sem, made_at, hi]; done) | omega

set_option maxHeartbeats 4000000 in
set_option maxRecDepth 100000 in
theorem wide_any (n : Nat) (hn : n ≤ 6) (ha3 : a ≤ 3) (hS : 2 ^ a = S) (hN : 2 ^ n = N) (hl : ws.length = a) (hw : ∀ i, ws.getD i 0 < 6) (w : World) (hA : HoldsC w bm (S * S) 1 A) (hg : HoldsN w g ws) (hbm : bm < w.heap.size) (hgm : g < w.heap.size) :
    Calls Try.prog 81 #[.agg #[.int .i64 S, .slice (some ⟨bm, 0, none⟩) (S * S) cm], .slice (some ⟨g, 0, none⟩) a cg, .int .i64 n] w (TimesPost N 1 (wideM a n A ws) w) := by
  obtain ⟨i0, hi, hz0, hz1, hz2⟩ := info_parts info49
  have hN64 : N ≤ 64 := by rw [← hN]; exact Nat.pow_le_pow_right (by decide) hn
  have hS8 : S ≤ 8 := by rw [← hS]; exact Nat.pow_le_pow_right (by decide) ha3
  have hNN : N * N ≤ 4096 := Nat.mul_le_mul hN64 hN64
  have F1 := f_one n (by omega)
  rw [hN] at F1
  have F2 : IntKind.i64.wrap ((N : Int) * (N : Int)) = ((N * N : Nat) : Int) := by
    have e1 : (N : Int) * (N : Int) = ((N * N : Nat) : Int) := by simp
    rw [e1]; exact wrap_small (by omega) (by omega)
  obtain ⟨N2, hN2⟩ : ∃ N2, N * N = N2 := ⟨_, rfl⟩
  obtain ⟨S2, hS2⟩ : ∃ S2, S * S = S2 := ⟨_, rfl⟩
  rw [hN2] at hNN F2
  rw [hS2]
  have HN2 := Lib.hid hN2
  have HS2 := Lib.hid hS2
  have HN := Lib.hid hN
  have HS := Lib.hid hS
  have HA := Lib.hid hA
  have HG := Lib.hid hg
  have HL := Lib.hid hl
  have HW := Lib.hid hw
  clear hN2 hS2 hA hg hl hw hN hS
  have hmk := fun w => run_makeSlice (P := Try.prog) w 43 49 i0 (.complex .f64 0 0) Try.underlying43 hi hz0 .i64 .i64 (N2 : Int) (N2 : Int) (by omega) (Int.le_refl _) (by rw [hz1]; omega) (by rw [hz2]; omega) (by omega)
  go_enter Try.func81, Try.ntmps81
  go_upto_region 3 with fail
  change Code.wp _ _ _ _ (startW w S S2 N N2 a bm cm g cg)
  have ht := startW_WS (S := S) (N := N) (a := a) (cm := cm) (cg := cg) (w := w) HA.out HG.out hbm hgm
  rw [HN2.out, HS2.out] at ht
  have HT := Lib.hid ht
  clear hmk F1 F2 ht hi hz0 hz1 hz2 hbm hgm HA HG
  generalize startW w S S2 N N2 a bm cm g cg = wz at HT ⊢
  obtain ⟨Bm, hBm⟩ : ∃ x, w.heap.size = x := ⟨_, rfl⟩
  obtain ⟨Bw, hBw⟩ : ∃ x, w.heap.size + 1 = x := ⟨_, rfl⟩
  obtain ⟨Br, hBr⟩ : ∃ x, w.heap.size + 1 + 1 = x := ⟨_, rfl⟩
  obtain ⟨be, hbe⟩ : ∃ x, w.heap.size + 1 + 1 + 1 = x := ⟨_, rfl⟩
  obtain ⟨Bo, hBo⟩ : ∃ x, w.heap.size + 1 + 1 + 1 + 1 = x := ⟨_, rfl⟩
  rw [hBo, hbe, hBr, hBw, hBm] at HT ⊢
  clear hBo hbe hBr hBw hBm
  go_wp2
  go_loopw [26] (fun i wr => ∃ r : Nat, r ≤ N ∧ i = .int .i64 r ∧ Hid (WS S N a bm cm g cg A ws w Bm Bw Br be Bo (upTo (N * r) (wideM a n A ws)) wr)) (fun i _ => N - (intOf i).toNat)
  case atStart => exact ⟨0, Nat.zero_le _, rfl, Lib.hid (HT.out.cong fun i hi => by simp [upTo])⟩
  case round =>
    obtain ⟨r, hr, rfl, HR⟩ := hrel
    clear HT
    obtain ⟨w1, rfl⟩ : ∃ w1 : World, w1 = wr := ⟨_, rfl⟩
    by_cases hlt : r < N
    · go_wp2
      go_loopw [11, 12, 13, 14, 15, 30] (fun _ _ _ _ _ j wr => ∃ c : Nat, c ≤ N ∧ j = .int .i64 c ∧ Hid (WS S N a bm cm g cg A ws w Bm Bw Br be Bo (upTo (N * r + c) (wideM a n A ws)) wr)) (fun _ _ _ _ _ j _ => N - (intOf j).toNat)
      case atStart => exact ⟨0, Nat.zero_le _, rfl, HR⟩
      case round =>
        obtain ⟨c, hc, rfl, HC⟩ := hrel
        clear HR
        obtain ⟨w2, rfl⟩ : ∃ w2 : World, w2 = wr := ⟨_, rfl⟩
        by_cases hct : c < N
        · go_upto_region 11 with (go_at_call 102; refine (wires_any Bw g a cg r ws HL.out ha3 HW.out (by omega) _ HC.out.wr HC.out.hg).mono ?_; rintro e w3 ⟨rfl, hd3⟩)
          have H3 := Lib.hid (HC.out.drawn hd3)
          clear HC hd3
          go_upto_region 12 with (go_at_call 102; refine (wires_any Bw g a cg c ws HL.out ha3 HW.out (by omega) _ H3.out.wr H3.out.hg).mono ?_; rintro e w4 ⟨rfl, hd4⟩)
          have H4 := Lib.hid (H3.out.drawn hd4)
          clear H3 hd4
          have hX := idx_lt (n := N) hlt hct
          have hx1 : idxT ws r a < S := by rw [← HS.out]; exact idxT_lt ws r a
          have hx2 : idxT ws c a < S := by rw [← HS.out]; exact idxT_lt ws c a
          have hwm : wideM a n A ws (N * r + c) = if restT ws r a = restT ws c a then A (S * idxT ws r a + idxT ws c a) else (0, 0) := by
            unfold wideM; rw [HN.out, HS.out, idx_div hct, idx_mod hct]
          have HWM := Lib.hid hwm
          clear hwm
          generalize idxT ws r a = x1 at hx1 HWM ⊢
          generalize idxT ws c a = x2 at hx2 HWM ⊢
          generalize restT ws r a = t1 at HWM ⊢
          generalize restT ws c a = t2 at HWM ⊢
          by_cases he : t1 = t2
          · subst he
            have hY := idx_lt hx1 hx2
            obtain ⟨vx, vy, c0, zc⟩ := H4.out.hA _ hY
            obtain ⟨ox, oy, c1, _⟩ := H4.out.e _ hX
            have f0 := H4.out.ef (N * r + c)
            have HT' : Hid (WS S N a bm cm g cg A ws w Bm Bw Br be Bo (upTo (N * r + (c + 1)) (wideM a n A ws)) (w4.drew.setCell ⟨be, N * r + c, none⟩ (.complex .f64 vx vy))) := Lib.hid (((H4.out.drawn ⟨1, rfl⟩).store hX zc).cong fun i _ => by
              rw [show N * r + (c + 1) = (N * r + c) + 1 from rfl, upTo_step, HWM.out, if_pos rfl])
            have g1 := H4.out.o1
            have g2 := H4.out.m0
            have g3 := H4.out.m1
            rw [HN2.out] at g1 hX
            rw [HS2.out] at g3 hY
            have hP : N * r ≤ 4096 := Nat.le_trans (Nat.mul_le_mul hN64 (Nat.le_of_lt hlt)) (by omega)
            have hQ : S * x1 ≤ 64 := Nat.le_trans (Nat.mul_le_mul hS8 (Nat.le_of_lt hx1)) (by omega)
            have e1 : (N : Int) * (r : Int) = ((N * r : Nat) : Int) := by simp
            have e2 : (S : Int) * (x1 : Int) = ((S * x1 : Nat) : Int) := by simp
            clear zc H4 HWM
            obtain ⟨P, hP'⟩ : ∃ P, N * r = P := ⟨_, rfl⟩
            obtain ⟨Q, hQ'⟩ : ∃ Q, S * x1 = Q := ⟨_, rfl⟩
            rw [hP'] at e1 hP c1 f0 hX
            have HPr := Lib.hid hP'
            rw [hQ'] at e2 hQ c0 hY
            obtain ⟨U, hU⟩ : ∃ U, P + c = U := ⟨_, rfl⟩
            obtain ⟨V, hV⟩ : ∃ V, Q + x2 = V := ⟨_, rfl⟩
            have w1' : IntKind.i64.wrap ((N : Int) * (r : Int)) = (P : Int) := by rw [e1]; exact wrap_small (by omega) (by omega)
            have w2' : IntKind.i64.wrap ((S : Int) * (x1 : Int)) = (Q : Int) := by rw [e2]; exact wrap_small (by omega) (by omega)
            have w3' : IntKind.i64.wrap ((P : Int) + (c : Int)) = (U : Int) := by rw [← hU]; exact (wrap_small (by omega) (by omega)).trans (by omega)
            have w4' : IntKind.i64.wrap ((Q : Int) + (x2 : Int)) = (V : Int) := by rw [← hV]; exact (wrap_small (by omega) (by omega)).trans (by omega)
            rw [hU] at c1 f0 hX
            rw [hP', hU] at HT'
            rw [hV] at c0 hY
            have y1 : 0 ≤ (U : Int) := by omega
            have y2 : 0 ≤ (V : Int) := by omega
            have y3 : (U : Int) < (N2 : Int) := by omega
            have y4 : (V : Int) < (S2 : Int) := by omega
            clear e1 e2 hQ' hU hV hP hQ hP'
            go_upto_region 13 with fail
            go_still_tail 18, (by kernel_rfl)
            change wpList _ _ _ _ _ w4.drew
            have c1' : w4.drew.cell? ⟨be, U, none⟩ = some (.complex .f64 ox oy) := c1
            have f0' : w4.drew.frozen? ⟨be, U, none⟩ = false := f0
            clear c0 c1 f0 g1 g2 g3
            generalize w4.drew = w5 at c1' f0' HT' ⊢
            go_wp2
            go_roundw
            case rel => exact ⟨c + 1, by omega, by go_num, by rw [← HPr.out] at HT'; exact HT'⟩
            case measure => simp [intOf]; omega
          · have he' : ((t1 : Int) == (t2 : Int)) = false := by simp; omega
            have HT' : Hid (WS S N a bm cm g cg A ws w Bm Bw Br be Bo (upTo (N * r + (c + 1)) (wideM a n A ws)) w4) := Lib.hid (H4.out.cong fun i _ => by
              rw [show N * r + (c + 1) = (N * r + c) + 1 from rfl]
              exact (upTo_skip _ _ (by rw [HWM.out, if_neg he]) i).symm)
            clear H4 HWM he
            go_wp2
            go_roundw
            case rel => exact ⟨c + 1, by omega, by go_num, HT'⟩
            case measure => simp [intOf]; omega
        · have hcn : c = N := by omega
          have H3 : Hid (WS S N a bm cm g cg A ws w Bm Bw Br be Bo (upTo (N * (r + 1)) (wideM a n A ws)) w2) := Lib.hid (by rw [Nat.mul_succ, ← hcn]; rw [hcn]; have := HC.out; rw [hcn] at this; exact this)
          clear HC hcn
          go_wp2
          go_roundw
          case rel => exact ⟨r + 1, by omega, by go_num, H3⟩
          case measure => simp [intOf]; omega
    · have hrn : r = N := by omega
      have H4 : Hid (WS S N a bm cm g cg A ws w Bm Bw Br be Bo (wideM a n A ws) w1) := Lib.hid (HR.out.cong fun i hi => by rw [hrn]; exact upTo_all _ hi)
      have g3 := H4.out.o0
      have g4 := H4.out.o1
      have g5 := H4.out.r0
      have g6 := H4.out.r1
      have g7 := H4.out.f0
      have g8 := H4.out.f1
      rw [HN2.out] at g4
      clear HR hrn
      go_wp2
      have hts := H4.out
      obtain ⟨q1, q2, q3, q4⟩ := hts.nr
      have k1 : ((w1.setCell ⟨Br, 0, none⟩ (.int .i64 N)).setCell ⟨Br, 1, none⟩ (.slice (some ⟨be, 0, none⟩) N2 N2)).cell? ⟨Br, 0, none⟩ = some (.int .i64 N) :=
        (cell_set_ne _ _ _ _ _ _ (.inr (by decide))).trans (World.cell?_setCell_same _ _ _ g5)
      have k2 : ((w1.setCell ⟨Br, 0, none⟩ (.int .i64 N)).setCell ⟨Br, 1, none⟩ (.slice (some ⟨be, 0, none⟩) N2 N2)).cell? ⟨Br, 1, none⟩ = some (.slice (some ⟨be, 0, none⟩) N2 N2) :=
        World.cell?_setCell_same _ _ _ ((cell_set_ne _ _ _ _ _ _ (.inr (by decide))).trans g6)
      have k3 : HoldsC ((w1.setCell ⟨Br, 0, none⟩ (.int .i64 N)).setCell ⟨Br, 1, none⟩ (.slice (some ⟨be, 0, none⟩) N2 N2)) be (N * N) 1 (wideM a n A ws) := fun i hi => by
        obtain ⟨x, y, h1, h2⟩ := hts.e i hi
        exact ⟨x, y, (cell_set_ne _ _ _ _ _ _ (.inl q1)).trans ((cell_set_ne _ _ _ _ _ _ (.inl q1)).trans h1), h2⟩
      have k4 : Below w.heap.size w ((w1.setCell ⟨Br, 0, none⟩ (.int .i64 N)).setCell ⟨Br, 1, none⟩ (.slice (some ⟨be, 0, none⟩) N2 N2)) :=
        (hts.bel.setCell hts.b0.2 _).setCell hts.b0.2 _
      generalize (w1.setCell ⟨Br, 0, none⟩ (.int .i64 N)).setCell ⟨Br, 1, none⟩ (.slice (some ⟨be, 0, none⟩) N2 N2) = wf at k1 k2 k3 k4 ⊢
      refine bodyPost_ret (v := .agg #[.int .i64 N, .slice (some ⟨be, 0, none⟩) N2 N2]) ?_ rfl ⟨be, by rw [HN2.out], k3, hts.b0.1, k4⟩
      simp [results, Try.results81, go_sem, k1, k2]
end Go.Proofs.Ytmckaoeofikdaaa
