/- Wide of the document, walked. -/
import Derived.Test.YtmckaoeofikdaaaCommW
namespace Go.Proofs.Ytmckaoeofikdaaa
open Go.RowKit Lift

/-- In row r: c entries are there, the others are nought. -/
structure RZ (w0 : World) (n s bt rw r c : Nat) (F : Nat → Zi) (wx : World) : Prop where
  rs : RS w0 n s bt rw r c F wx
  z : ∀ j, c ≤ j → j < n → wx.cell? ⟨rw, j * 2, none⟩ = some (.float .f64 0) ∧ wx.cell? ⟨rw, j * 2 + 1, none⟩ = some (.float .f64 0)

theorem RZ.row {w0 : World} {n s bt r : Nat} {F : Nat → Zi} {wx : World} (h : RT w0 n s bt r F wx) (hr : r < n) (ty : TypeId) :
    RZ w0 n s bt wx.heap.size r 0 F ((wx.alloc (.cells (madeCells #[.float .f64 0, .float .f64 0] (n * 2)) ty)).setCell ⟨bt, r, none⟩ (.slice (some ⟨wx.heap.size, 0, none⟩) n n)) := by
  have hbt := h.bt1
  have newc : ∀ {i : Nat}, i < n * 2 → ((wx.alloc (.cells (madeCells #[.float .f64 0, .float .f64 0] (n * 2)) ty)).setCell ⟨bt, r, none⟩ (.slice (some ⟨wx.heap.size, 0, none⟩) n n)).cell? ⟨wx.heap.size, i, none⟩ = some (.float .f64 0) := fun hi =>
    (cell_set_ne _ _ _ _ _ _ (.inl (by omega))).trans (new_cell _ _ _ _ _ _ rfl (madeZ n _ hi))
  exact ⟨h.row hr ty, fun j _ hj => ⟨newc (by omega), newc (by omega)⟩⟩
theorem RZ.later {w0 : World} {n s bt rw r c : Nat} {F : Nat → Zi} {wx wy : World} (h : RZ w0 n s bt rw r c F wx) (hb : Below wx.heap.size wx wy) : RZ w0 n s bt rw r c F wy :=
  ⟨h.rs.later hb, fun j h1 h2 => ⟨(hb.cell (p := ⟨rw, j * 2, none⟩) h.rs.rw1).trans (h.z j h1 h2).1, (hb.cell (p := ⟨rw, j * 2 + 1, none⟩) h.rs.rw1).trans (h.z j h1 h2).2⟩⟩
theorem RZ.entry {w0 : World} {n s bt rw r c : Nat} {F : Nat → Zi} {wx : World} (h : RZ w0 n s bt rw r c F wx) (hc : c < n) {x y : Nat} (hz : IsC x y s (F (n * r + c))) :
    RZ w0 n s bt rw r (c + 1) F ((wx.setCell ⟨rw, c * 2, none⟩ (.float .f64 x)).setCell ⟨rw, c * 2 + 1, none⟩ (.float .f64 y)) :=
  ⟨h.rs.entry hc hz, fun j h1 h2 => ⟨(cell_set_ne _ _ _ _ _ _ (.inr (by omega))).trans ((cell_set_ne _ _ _ _ _ _ (.inr (by omega))).trans (h.z j (by omega) h2).1), (cell_set_ne _ _ _ _ _ _ (.inr (by omega))).trans ((cell_set_ne _ _ _ _ _ _ (.inr (by omega))).trans (h.z j (by omega) h2).2)⟩⟩
theorem RZ.skip {w0 : World} {n s bt rw r c : Nat} {F : Nat → Zi} {wx : World} (h : RZ w0 n s bt rw r c F wx) (hc : c < n) (hs : s ≤ 1074) (hF : F (n * r + c) = (0, 0)) : RZ w0 n s bt rw r (c + 1) F wx :=
  ⟨⟨h.rs.rows, h.rs.rest, h.rs.fr, h.rs.cur, fun j hj => by
      by_cases e : j = c
      · subst e
        refine ⟨0, 0, (h.z j (Nat.le_refl _) hc).1, (h.z j (Nat.le_refl _) hc).2, ?_⟩
        show IsC 0 0 s (F (n * r + j))
        rw [hF]
        exact ⟨isF_nought _ hs, isF_nought _ hs⟩
      · exact h.rs.done j (by omega), h.rs.todo, h.rs.fw, h.rs.ne, h.rs.rw0, h.rs.rw1, h.rs.bt0, h.rs.bt1, h.rs.bel⟩, fun j h1 h2 => h.z j (by omega) h2⟩

theorem u_wrap (q : Nat) (h : q < 64) : IntKind.u64.wrap (q : Int) = (q : Int) :=
  (show ∀ q, q < 64 → IntKind.u64.wrap ((q : Nat) : Int) = ((q : Nat) : Int) by decide +kernel) q h

set_option maxHeartbeats 4000000 in
set_option maxRecDepth 100000 in
theorem rwide_any (k : Int) (n a S N g cg : Nat) (A : Nat → Zi) (ws : List Nat) (hn : n ≤ 6) (ha3 : a ≤ 3) (hS : 2 ^ a = S) (hN : 2 ^ n = N) (hl : ws.length = a) (hw : ∀ i, ws.getD i 0 < 6) (w : World) (hg : HoldsN w g ws)
    (mk : ∀ w, Calls Try.prog 52 #[.int .i64 k] w (RMatPost S A w)) :
    Calls Try.prog 84 #[.int .i64 k, .slice (some ⟨g, 0, none⟩) a cg, .int .i64 n] w (RTimesPost N 1 (wideM a n A ws) w) := by
  obtain ⟨i0, hi, hz0, hz1, hz2⟩ := info_parts info111
  obtain ⟨i1, hj, hy0, hy1, hy2⟩ := info_parts info51
  have hN64 : N ≤ 64 := by rw [← hN]; exact Nat.pow_le_pow_right (by decide) hn
  have hS8 : S ≤ 8 := by rw [← hS]; exact Nat.pow_le_pow_right (by decide) ha3
  have hmk1 := fun w => run_makeSlice (P := Try.prog) w 69 111 i0 (.slice none 0 0) Try.underlying69 hi hz0 .i64 .i64 (N : Int) (N : Int) (by omega) (Int.le_refl _) (by rw [hz1]; omega) (by rw [hz2]; omega) (by omega)
  have hmk2 := fun w => run_makeSlice (P := Try.prog) w 111 51 i1 (.agg #[.float .f64 0, .float .f64 0]) Try.underlying111 hj hy0 .i64 .i64 (N : Int) (N : Int) (by omega) (Int.le_refl _) (by rw [hy1]; omega) (by rw [hy2]; omega) (by omega)
  have HMK2 := Lib.hid hmk2
  have F1 := f_one n (by omega)
  rw [hN] at F1
  have F0 := u_wrap n (by omega)
  have HN := Lib.hid hN
  have HS := Lib.hid hS
  have HG := Lib.hid hg
  have HL := Lib.hid hl
  have HW := Lib.hid hw
  clear hmk2 hg hl hw hN hS
  go_enter Try.func84, Try.ntmps84
  go_upto_region 2 with (go_at_call 52; refine (mk _).mono ?_; rintro e w1 ⟨bg, rfl, h10, h11, h12, h13⟩)
  have HA := Lib.hid h12
  have HG1 := Lib.hid (HG.out.below h13)
  have B1 := Lib.hid h13
  clear h10 h11 h12 h13 HG mk
  go_wp2
  go_loopw [11, 12, 13, 14, 15, 16] (fun i _ _ _ _ _ wr => ∃ r : Nat, r ≤ N ∧ i = .int .i64 r ∧ Hid (RT w1 N 1 w1.heap.size r (wideM a n A ws) wr)) (fun i _ _ _ _ _ _ => N - (intOf i).toNat)
  case atStart => exact ⟨0, Nat.zero_le _, rfl, Lib.hid (RT.start _)⟩
  case round =>
    obtain ⟨r, hr, rfl, HT⟩ := hrel
    clear hmk1 F1 F0
    obtain ⟨w2, rfl⟩ : ∃ w2 : World, w2 = wr := ⟨_, rfl⟩
    by_cases hlt : r < N
    · have hmk2 := HMK2.out
      obtain ⟨v0, g1⟩ := HT.out.rest r (Nat.le_refl _) hlt
      have g2 := HT.out.fr r hlt
      have g3 := HT.out.bt1
      have hrow := RZ.row HT.out hlt 51
      rw [World.setCell_alloc_past _ _ _ _ g3] at hrow
      go_wp2
      go_loopw [12, 13, 14, 15, 16] (fun c _ _ _ _ wr => ∃ c' : Nat, c' ≤ N ∧ c = .int .i64 c' ∧ Hid (RZ w1 N 1 w1.heap.size w2.heap.size r c' (wideM a n A ws) wr)) (fun c _ _ _ _ _ => N - (intOf c).toNat)
      case atStart => exact ⟨0, Nat.zero_le _, rfl, Lib.hid hrow⟩
      case round =>
        obtain ⟨c, hc, rfl, HR⟩ := hrel
        clear hmk2 g1 g2 g3 hrow HT
        obtain ⟨w3, rfl⟩ : ∃ w3 : World, w3 = wr := ⟨_, rfl⟩
        by_cases hct : c < N
        · have X1 := b_xor r c (by omega) (by omega)
          obtain ⟨d, hd⟩ : ∃ d, r ^^^ c = d := ⟨_, rfl⟩
          have hd64 : d < 64 := by rw [← hd]; exact Nat.xor_lt_two_pow (n := 6) (by omega) (by omega)
          rw [hd] at X1
          have HD := Lib.hid hd
          clear hd
          go_wp2
          clear X1
          go_loopw [13, 14, 15, 16] (fun x y t i wr => ∃ k : Nat, k ≤ a ∧ i = .int .i64 k ∧ x = .int .i64 (idxT ws r k : Nat) ∧ y = .int .i64 (idxT ws c k : Nat) ∧ t = .int .i64 (restT ws d k : Nat) ∧ w3 = wr) (fun _ _ _ i _ => a - (intOf i).toNat)
          case atStart => exact ⟨0, Nat.zero_le _, rfl, rfl, rfl, rfl, rfl⟩
          case round =>
            obtain ⟨k, hk, rfl, rfl, rfl, rfl, rfl⟩ := hrel
            by_cases hka : k < a
            · have hq := HW.out k
              have cg1 : w3.cell? ⟨g, k, none⟩ = some (.int .i64 ((ws.getD k 0 : Nat) : Int)) := ((HG1.out.below HR.out.rs.bel) k (by rw [HL.out]; exact hka))
              have hx := idxT_lt ws r k
              have hy := idxT_lt ws c k
              have ht := restT_le ws d k
              have s1 : Hid (idxT ws r (k + 1) = idxT ws r k + r / 2 ^ (ws.getD k 0) % 2 * 2 ^ k) := Lib.hid rfl
              have s2 : Hid (idxT ws c (k + 1) = idxT ws c k + c / 2 ^ (ws.getD k 0) % 2 * 2 ^ k) := Lib.hid rfl
              have s3 : Hid (restT ws d (k + 1) = clr (restT ws d k) (ws.getD k 0)) := Lib.hid rfl
              generalize ws.getD k 0 = q at cg1 hq s1 s2 s3
              generalize idxT ws r k = x at hx s1 ⊢
              generalize idxT ws c k = y at hy s2 ⊢
              generalize restT ws d k = t at ht s3 ⊢
              have U1 := u_wrap q (by omega)
              have U2 := u_wrap k (by omega)
              have A1 := f_and r q (by omega)
              have hb1 : r / 2 ^ q % 2 < 2 := Nat.mod_lt _ (by decide)
              generalize r / 2 ^ q % 2 = p1 at A1 hb1 s1
              have A2 := f_and c q (by omega)
              have hb2 : c / 2 ^ q % 2 < 2 := Nat.mod_lt _ (by decide)
              generalize c / 2 ^ q % 2 = p2 at A2 hb2 s2
              have A3 := f_shl p1 k hb1 (by omega)
              have A4 := f_shl p2 k hb2 (by omega)
              have A5 := b_or x p1 k hx hb1 (by omega)
              have A6 := b_or y p2 k hy hb2 (by omega)
              generalize p1 * 2 ^ k = e1 at A3 A5 s1
              generalize p2 * 2 ^ k = e2 at A4 A6 s2
              have A7 := f_one q (by omega)
              have A8 := b_clr t q (by omega) hq
              generalize 2 ^ q = m at A7 A8 A1 A2
              generalize clr t q = t' at A8 s3
              generalize x + e1 = x' at A5 s1
              generalize y + e2 = y' at A6 s2
              clear hx hy ht hb1 hb2
              go_wp2
              go_roundw
              case rel => exact ⟨k + 1, by omega, by go_num, by rw [s1.out], by rw [s2.out], by rw [s3.out], trivial⟩
              case measure => simp [intOf]; omega
            · have hka' : k = a := by omega
              subst hka'
              have hx1 : idxT ws r k < S := by rw [← HS.out]; exact idxT_lt ws r k
              have hx2 : idxT ws c k < S := by rw [← HS.out]; exact idxT_lt ws c k
              have hsame := restT_same ws HW.out r c k (by omega) (by omega)
              rw [HD.out] at hsame
              have hwm : wideM k n A ws (N * r + c) = if restT ws r k = restT ws c k then A (S * idxT ws r k + idxT ws c k) else (0, 0) := by
                unfold wideM; rw [HN.out, HS.out, idx_div hct, idx_mod hct]
              have hwm' : wideM k n A ws (N * r + c) = if restT ws d k = 0 then A (S * idxT ws r k + idxT ws c k) else (0, 0) := by
                rw [hwm]
                by_cases e : restT ws d k = 0
                · rw [if_pos e, if_pos (hsame.1 e)]
                · rw [if_neg e, if_neg (fun h => e (hsame.2 h))]
              have HWM := Lib.hid hwm'
              clear hwm hwm' hsame
              generalize idxT ws r k = x1 at hx1 HWM ⊢
              generalize idxT ws c k = x2 at hx2 HWM ⊢
              generalize restT ws d k = t at HWM ⊢
              by_cases he : t = 0
              · subst he
                obtain ⟨rg, g1, hrg⟩ := (HA.out.below HR.out.rs.bel) x1 hx1
                obtain ⟨vx, vy, g2, g3, zc⟩ := hrg x2 hx2
                have g4 := HR.out.rs.cur
                have HE : Hid (RZ w1 N 1 w1.heap.size w2.heap.size r (c + 1) (wideM k n A ws) ((w3.drew.setCell ⟨w2.heap.size, c * 2, none⟩ (.float .f64 vx)).setCell ⟨w2.heap.size, c * 2 + 1, none⟩ (.float .f64 vy))) := Lib.hid ((HR.out.later (Below.drew (Below.refl _ _))).entry hct (by rw [HWM.out, if_pos rfl]; exact zc))
                have G5 := Lib.hid (HR.out.later (Below.drew (Below.refl _ _)))
                clear hrg zc HWM HR
                go_upto_region 19 with fail
                go_still_tail 13, (by kernel_rfl)
                change wpList _ _ _ _ _ w3.drew
                generalize w3.drew = w4 at HE G5 ⊢
                clear g1 g2 g3 g4
                obtain ⟨u0, v0, g6, g7⟩ := G5.out.rs.todo c hct
                have g8 := G5.out.rs.fw (c * 2)
                have g9 := G5.out.rs.fw (c * 2 + 1)
                clear G5
                go_wp2
                go_roundw
                case rel => exact ⟨c + 1, by omega, by go_num, HE⟩
                case measure => simp [intOf]; omega
              · have he' : ((t : Int) == 0) = false := by simp; omega
                have HE : Hid (RZ w1 N 1 w1.heap.size w2.heap.size r (c + 1) (wideM k n A ws) w3) := Lib.hid (HR.out.skip hct (by decide) (by rw [HWM.out, if_neg he]))
                clear HWM HR he
                go_wp2
                go_roundw
                case rel => exact ⟨c + 1, by omega, by go_num, HE⟩
                case measure => simp [intOf]; omega
        · have hcn : c = N := by omega
          have HT' : Hid (RT w1 N 1 w1.heap.size (r + 1) (wideM a n A ws) w3) := Lib.hid (by have := HR.out.rs; rw [hcn] at this; exact this.whole)
          clear hcn
          go_wp2
          go_roundw
          case rel => exact ⟨r + 1, by omega, by go_num, HT'⟩
          case measure => simp [intOf]; omega
    · have hrn : r = N := by omega
      have hfin := HT.out
      rw [hrn] at hfin
      have g3 := hfin.bt1
      have HF := Lib.hid hfin
      clear hrn hfin
      go_wp2
      go_ret
      exact ⟨_, rfl, HF.out.holds, B1.out.size, g3, bchain B1.out HF.out.bel⟩

/-! find of the document, walked. -/
def FindPost (B : Nat) (aw : Option Addr) (nw cw : Nat) (W : List Int) (q : Int) (w : World) (e : Ending) (w' : World) : Prop :=
  ∃ aw' cw', e = .returned (.tuple #[.slice aw' (growF W q).length cw', .int .i64 (posF W q : Nat)]) ∧ w'.ownsRow B 3 1 (.slice aw' (growF W q).length cw') (growF W q).length ((growF W q).map (.int .i64)) ∧
    w.grownBy w' (Value.slice aw nw cw).ownBlock ∧ (∀ x, aw' = some x → (Value.slice aw nw cw).ownBlock = some x.block ∨ w.heap.size ≤ x.block) ∧ Below B w w'

set_option maxHeartbeats 4000000 in
set_option maxRecDepth 100000 in
theorem find_any (B : Nat) (aw : Option Addr) (nw cw : Nat) (W : List Int) (q : Int) (w : World) (hrow : w.ownsRow B 3 1 (.slice aw nw cw) nw (W.map (.int .i64))) (hB : B ≤ w.heap.size) (hn : nw ≤ 6) :
    Calls Try.prog 83 #[.slice aw nw cw, .int .i64 q] w (FindPost B aw nw cw W q w) := by
  obtain ⟨i0, hi, hz0, hz1, hz2⟩ := info_parts infoInt
  obtain ⟨hL, hl⟩ := owns_isL hrow (by simp only [maxLen]; omega)
  have HL := Lib.hid hL
  have Hl := Lib.hid hl
  have HR := Lib.hid hrow
  clear hrow hL hl
  go_enter Try.func83, Try.ntmps83
  go_wp2
  go_loopw [6] (fun i wr => ∃ k : Nat, k ≤ nw ∧ i = .int .i64 k ∧ Hid (∀ j, j < k → W.getD j 0 ≠ q) ∧ w = wr) (fun i _ => nw - (intOf i).toNat)
  case atStart => exact ⟨0, Nat.zero_le _, rfl, Lib.hid fun j hj => by omega, rfl⟩
  case round =>
    obtain ⟨k, hk, rfl, HN, rfl⟩ := hrel
    by_cases hlt : k < nw
    · rcases HL.out.2 with h0 | ⟨b, off, rfl, hc⟩
      · rw [h0] at Hl; have := Hl.out; simp at this; omega
      · have c1 := hc k (by rw [Hl.out]; exact hlt)
        obtain ⟨z, hz⟩ : ∃ z, W.getD k 0 = z := ⟨_, rfl⟩
        rw [hz] at c1
        clear hc
        have HZ := Lib.hid hz
        clear hz
        by_cases e : z = q
        · subst e
          have hix : idxF W z = k := idxF_hit (by rw [Hl.out]; exact hlt) HZ.out HN.out
          have e1 : posF W z = k := by unfold posF; rw [if_neg (by omega), hix]; simp
          have e2 : growF W z = W := by unfold growF; rw [if_neg (by omega)]
          clear hix
          go_wp2
          go_ret2
          refine ⟨some ⟨b, off, none⟩, cw, by rw [e1, e2, Hl.out]; rfl, by rw [e2, Hl.out]; exact HR.out, World.grownBy.refl _ _, fun x hx => .inl (by cases hx; rfl), Below.refl _ _⟩
        · have e' : (z == q) = false := by simpa using e
          have HN' : Hid (∀ j, j < k + 1 → W.getD j 0 ≠ q) := Lib.hid fun i hi => by
            rcases Nat.lt_succ_iff_lt_or_eq.1 hi with h | h
            · exact HN.out i h
            · rw [h, HZ.out]; exact e
          clear e HN
          go_wp2
          go_roundw
          case rel => exact ⟨k + 1, by omega, by go_num, HN', trivial⟩
          case measure => simp [intOf]; omega
    · have hix : idxF W q = -1 := idxF_miss fun j hj => HN.out j (by rw [Hl.out] at hj; omega)
      have e1 : posF W q = nw := by unfold posF; rw [if_pos (by omega), Hl.out]
      have e2 : growF W q = W ++ [q] := by unfold growF; rw [if_pos (by omega)]
      have E1 := Lib.hid e1
      have E2 := Lib.hid e2
      have hkn : k = nw := by omega
      subst hkn
      clear hix e1 e2 HN
      go_wp2_with (at_builtin; refine wpList_append_lies _ rfl _ _ 60 rfl B 3 i0 (.int .i64 0) 1 8 Try.underlying60 hi hz0 hz1 hz2 rfl (by decide) _ _ _ rfl (HR.out.alloc _) ⟨w.heap.size, 0, none⟩ 1 1 [.int .i64 q] rfl rfl ?c1 ?c2 (by decide) ?c3 ?c4 ?c5 _ rfl ?_)
      case c1 => exact cell_one_new _ _ _
      case c2 => intro u hu; simp only [List.mem_singleton] at hu; subst hu; rfl
      case c3 => simp only [maxLen]; omega
      case c4 => omega
      case c5 => simp; omega
      intro g1 cap1 w4 hown hgrow hat hlt4
      have HO := Lib.hid hown
      have HG := Lib.hid hgrow
      have HAT := Lib.hid hat
      clear hown hgrow hat
      go_wp2
      go_ret2
      have hgl : (growF W q).length = k + 1 := by rw [E2.out]; simp [Hl.out]
      refine ⟨some ⟨g1, 0, none⟩, cap1, by rw [hgl, E1.out]; rfl, ?_, ?_, ?_, ?_⟩
      · rw [hgl, E2.out, List.map_append]; exact HO.out
      · exact (World.grownBy_alloc w _ _).trans HG.out
      · intro x hx
        cases hx
        rcases HAT.out with h | h
        · exact .inl h
        · exact .inr (by show w.heap.size ≤ g1; omega)
      · exact ((Below.refl B w).alloc hB _).grown HG.out (by simp; omega) (fun j hj => (HR.out.lt j hj).1)
end Go.Proofs.Ytmckaoeofikdaaa
