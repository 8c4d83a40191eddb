/- A part of the proof: texts of this claim laid together by a program of its own; what the proof does not use is struck. -/
import Derived.Test.YtbelnopbggkdfaaZO4
import Derived.Deep.RegionWith
import Derived.StillTailTactics
import Derived.Deep.Upon
import Derived.Laws.EntriesVeiled
section
namespace Go.Proofs.Ytbelnopbggkdfaa
open Go.RowKit Go.Proofs.YtbelnopbggkdfaaW.PrintWords
variable {St : World → List Int → Prop} {gd n f : Nat} {cap : Array Value} {V : Int → Prop} {key : Int → Int}
/-- What the search between the parts has found. -/
theorem sym_cross {a m b mid s0 r0 s e : Nat} {d : List Int} (P : Pre key a m b d) (hc : (mid < m ∧ s0 + b = mid + m ∧ r0 = mid) ∨ (m ≤ mid ∧ s0 = a ∧ r0 = m)) (hmid : mid = (a + b) / 2) (_ : a < m) (_ : m < b)
    (h0 : s0 ≤ s) (h1 : s ≤ r0) (he : e + s = mid + m) (lo : ∀ q : Nat, s0 ≤ q → q < s → key (rd d q) ≤ key (rd d ((mid + m - 1 - q : Nat) : Int))) (hi : ∀ q : Nat, s ≤ q → q < r0 → key (rd d ((mid + m - 1 - q : Nat) : Int)) < key (rd d q)) :
    a ≤ s ∧ s ≤ m ∧ m ≤ e ∧ e ≤ b ∧ (∀ p q : Nat, a ≤ p → p < s → e ≤ q → q < b → ltK key (rd d p) (rd d q)) ∧ (∀ p q : Nat, s ≤ p → p < m → m ≤ q → q < e → ltK key (rd d q) (rd d p)) := by
  refine ⟨by omega, by omega, by omega, by omega, fun p q c1 c2 c3 c4 => ?_, fun p q c1 c2 c3 c4 => ?_⟩
  · have hs : s0 < s := by omega
    have h := lo (s - 1) (by omega) (by omega)
    rw [show mid + m - 1 - (s - 1) = e by omega] at h
    have k1 := P.keyl c1 (show p ≤ s - 1 by omega) (by omega)
    have k2 := P.keyr (show m ≤ e by omega) c3 c4
    exact ltK_of_le (by omega) (P.asc p q c1 (by omega) (by omega) c4)
  · have hs : s < r0 := by omega
    have h := hi s (Nat.le_refl _) hs
    rw [show mid + m - 1 - s = e - 1 by omega] at h
    have k1 := P.keyr c3 (show q ≤ e - 1 by omega) (by omega)
    have k2 := P.keyl (show a ≤ s by omega) c1 c2
    exact .inl (by omega)
/-- What a merge of a part asks and gives, wherever it stands. -/
def SymOk (St : World → List Int → Prop) (gd n f : Nat) (cap : Array Value) (V : Int → Prop) (key : Int → Int) (c a m b : Nat) : Prop :=
  ∀ {W : World} {d : List Int}, St W d → (∀ i : Nat, i < n → V (rd d i)) → Pre key a m b d →
    Calls Try.prog 95 #[.slice (some ⟨gd, 0, none⟩) n c, .int .i64 a, .int .i64 m, .int .i64 b, .func (.func f) #[] cap] W fun e w' =>
      e = .returned (.tuple #[]) ∧ ∃ d', St w' d' ∧ Mrg key a b d d'
set_option maxHeartbeats 8000000 in
set_option maxRecDepth 1000000 in
theorem sym_hi (E : SortEnv St gd n f cap V key) (c a m b mid : Nat) (hmid : mid = (a + b) / 2) (ham : a + 1 < m) (hmb : m + 1 < b) (hb : b ≤ n) (hsel : mid < m)
    (ih1 : ∀ s, a < s → s < mid → SymOk St gd n f cap V key c a s mid) (ih2 : ∀ s, mid < s → s < b → SymOk St gd n f cap V key c mid s b) : SymOk St gd n f cap V key c a m b := by
  intro W d hS hV P
  have h64 := E.n64
  have eg := E.eg
  have HROT := Aside0.mk (fun {W d} (hS : St W d) => rot_any E hS c)
  have HE := Aside0.mk E
  have HV := Aside0.mk hV
  have HP := Aside0.mk P
  have HS := Aside0.mk hS
  have H1 := Aside0.mk @ih1
  have H2 := Aside0.mk @ih2
  obtain ⟨nn, hnn⟩ : ∃ nn, nn = mid + m := ⟨_, rfl⟩
  obtain ⟨s0, hs0⟩ : ∃ s0, s0 = mid + m - b := ⟨_, rfl⟩
  have hn1 : ¬ (m : Int) - (a : Int) = 1 := by omega
  have hn1' : ((m : Int) - (a : Int) == 1) = false := beq_false_of_ne hn1
  have hn2 : ¬ (b : Int) - (m : Int) = 1 := by omega
  have hn2' : ((b : Int) - (m : Int) == 1) = false := beq_false_of_ne hn2
  have hn3 : (a : Int) ≤ (m : Int) := by omega
  have hn4 : (m : Int) ≤ (b : Int) := by omega
  have hn5 : (b : Int) ≤ (n : Int) := by omega
  have em : ((a : Int) + (b : Int)) / 2 = (mid : Int) := by omega
  have en : (mid : Int) + (m : Int) = (nn : Int) := by omega
  have ep : (nn : Int) - 1 = ((nn - 1 : Nat) : Int) := by omega
  have hsl : (mid : Int) < (m : Int) := by omega
  have es : (nn : Int) - (b : Int) = (s0 : Int) := by omega
  have b1 : s0 ≤ mid := by omega
  have b2 : mid ≤ m := by omega
  have b3 : a ≤ s0 := by omega
  have b4 : nn ≤ 2 * n := by omega
  have b5 : mid ≤ mid := by omega
  have b6 : mid < b := by omega
  have b7 : a < mid := by omega
  have HC := Aside0.mk (show (∀ q : Nat, s0 ≤ q → q < mid → m ≤ nn - 1 - q ∧ nn - 1 - q < b ∧ a ≤ q ∧ q < m) from fun q q1 q2 => by omega)
  have HX := Aside0.mk (fun s e h0 h1 he lo hi => sym_cross (s := s) (e := e) (r0 := mid) P (show (mid < m ∧ s0 + b = mid + m ∧ mid = mid) ∨ (m ≤ mid ∧ s0 = a ∧ mid = m) by omega) hmid (by omega) (by omega) h0 h1 he lo hi)
  rw [← hnn] at HX
  generalize hp : nn - 1 = p at ep HC HX
  have hpn : p < nn := by omega
  have hpb : p + 1 = nn := by omega
  have HP1 := Aside0.mk hpb
  have HNN := Aside0.mk hnn
  clear hpb hp hnn hs0 hmid hsel hS hV E P ih1 ih2
  go_enter Try.func95, Try.ntmps95
  go_wp2
  go_loopg [20, 21] (mid - s0) (fun g1 vi vj wr => ∃ (i j : Nat), vi = .int .i64 i ∧ vj = .int .i64 j ∧ s0 ≤ i ∧ i ≤ j ∧ j ≤ mid ∧ j - i ≤ g1 ∧ Aside0 (St wr d ∧ (∀ q : Nat, s0 ≤ q → q < i → key (rd d q) ≤ key (rd d ((p - q : Nat) : Int))) ∧ (∀ q : Nat, j ≤ q → q < mid → key (rd d ((p - q : Nat) : Int)) < key (rd d q))))
  case atStart => exact ⟨s0, mid, rfl, rfl, Nat.le_refl _, b1, Nat.le_refl _, Nat.le_refl _, ⟨HS.out, fun p h1 h2 => by omega, fun p h1 h2 => by omega⟩⟩
  case round =>
    obtain ⟨i, j, rfl, rfl, hmi, hij, hjb, hg1, HI⟩ := hrel
    by_cases hlt : i < j
    · have hltz : (i : Int) < (j : Int) := by omega
      obtain ⟨h, hh⟩ : ∃ h, h = (i + j) / 2 := ⟨_, rfl⟩
      have d1 : i ≤ h := by omega
      have d2 : h < j := by omega
      have e1 : ((i : Int) + (j : Int)) / 2 = (h : Int) := by omega
      clear hh
      have hS2 := HI.out.1
      have hC := HC.out h (by omega) (by omega)
      have e2 : (p : Int) - (h : Int) = ((p - h : Nat) : Int) := by omega
      obtain ⟨ch, fh⟩ := HE.out.rd hS2 h (by omega)
      obtain ⟨ca, fa⟩ := HE.out.rd hS2 (p - h) (by omega)
      have hc := fun q => HE.out.cmp (HE.out.dr hS2 q) _ _ (HV.out (p - h) (by omega)) (HV.out h (by omega))
      have HLO := Aside0.mk (show key (rd d h) ≤ key (rd d ((p - h : Nat) : Int)) → ∀ q : Nat, s0 ≤ q → q < h + 1 → key (rd d q) ≤ key (rd d ((p - q : Nat) : Int)) from fun hk q q1 q2 => by
        have hq := HC.out q q1 (by omega)
        have := HP.out.keyl hq.2.2.1 (show q ≤ h by omega) hC.2.2.2
        have := HP.out.keyr hC.1 (show p - h ≤ p - q by omega) hq.2.1
        omega)
      have HHI := Aside0.mk (show key (rd d ((p - h : Nat) : Int)) < key (rd d h) → ∀ q : Nat, h ≤ q → q < mid → key (rd d ((p - q : Nat) : Int)) < key (rd d q) from fun hk q q1 q2 => by
        have hq := HC.out q (by omega) q2
        have := HP.out.keyl hC.2.2.1 q1 hq.2.2.2
        have := HP.out.keyr hq.1 (show p - q ≤ p - h by omega) hC.2.1
        omega)
      have l1 : (h : Int) < (n : Int) := by omega
      have l2 : ((p - h : Nat) : Int) < (n : Int) := by omega
      have l3 : (h : Int) + 1 ≤ (n : Int) := by omega
      clear hS2 hC
      generalize rd d (h : Int) = xh at ch hc HLO HHI
      generalize rd d ((p - h : Nat) : Int) = xa at ca hc HLO HHI
      generalize p - h = ph at e2 ca fa l2
      by_cases hlv : key xa - key xh < 0
      · go_wp2_with fail
        go_quiet (first | (go_at_fn f; refine Calls.quiet_of (hc _)))
        go_wp2
        go_roundg (h - i)
        case measure => omega
        case rel => exact ⟨i, h, rfl, rfl, hmi, d1, by omega, Nat.le_refl _, ⟨HE.out.dr HI.out.1 _, HI.out.2.1, HHI.out (by omega)⟩⟩
      · have hlv2 : decide (key xa - key xh < 0) = false := decide_eq_false hlv
        go_wp2_with fail
        go_quiet (first | (go_at_fn f; refine Calls.quiet_of (hc _)))
        go_wp2
        go_roundg (j - (h + 1))
        case measure => omega
        case rel => exact ⟨h + 1, j, by go_num, rfl, by omega, by omega, hjb, Nat.le_refl _, ⟨HE.out.dr HI.out.1 _, HLO.out (by omega), HI.out.2.2⟩⟩
    · obtain rfl : i = j := by omega
      obtain ⟨e, he⟩ : ∃ e, e = nn - i := ⟨_, rfl⟩
      have hnn := HNN.out
      have e1 : (nn : Int) - (i : Int) = (e : Int) := by omega
      have hcr := HX.out i e hmi hjb (by omega) HI.out.2.1 HI.out.2.2
      obtain ⟨x1, x2, x3, x4, x5, x6⟩ := hcr
      obtain ⟨D1, hD1⟩ : ∃ D : World → Prop, ∀ w, D w ↔ ∃ d1, St w d1 ∧ Rot i m e d d1 := ⟨_, fun _ => Iff.rfl⟩
      obtain ⟨D2, hD2⟩ : ∃ D : World → Prop, ∀ w, D w ↔ ∃ d1 d2, St w d2 ∧ Rot i m e d d1 ∧ Mrg key a mid d1 d2 := ⟨_, fun _ => Iff.rfl⟩
      obtain ⟨D3, hD3⟩ : ∃ D : World → Prop, ∀ w, D w ↔ ∃ d', St w d' ∧ Mrg key a b d d' := ⟨_, fun _ => Iff.rfl⟩
      have hal := fun d1 (h : Rot i m e d d1) => h.halves (mid := mid) HP.out x1 x2 x3 x4 (by omega) x5 x6
      have vof : ∀ d1, (∀ p : Nat, p < a ∨ b ≤ p → rd d1 p = rd d p) → (∀ p : Nat, a ≤ p → p < b → ∃ q : Nat, a ≤ q ∧ q < b ∧ rd d1 p = rd d q) → ∀ i : Nat, i < n → V (rd d1 i) := fun d1 ho hm k hk => by
        by_cases hkk : k < a ∨ b ≤ k
        · rw [ho k hkk]; exact HV.out k hk
        · obtain ⟨q, q1, q2, q3⟩ := hm k (by omega) (by omega)
          rw [q3]; exact HV.out q (by omega)
      -- the turning
      have R1 := Aside0.mk (show i < m → m < e → Calls Try.prog 99 #[.slice (some ⟨gd, 0, none⟩) n c, .int .i64 i, .int .i64 m, .int .i64 e, .func (.func f) #[] cap] wr fun e w' => e = .returned (.tuple #[]) ∧ D1 w' from fun h1 h2 =>
        (HROT.out HI.out.1 i e m _ h1 h2 (by omega)).mono fun _ _ ⟨h1, d', h2, h3⟩ => ⟨h1, (hD1 _).2 ⟨d', h2, h3⟩⟩)
      have R1' := Aside0.mk (show ¬ (i < m ∧ m < e) → D1 wr from fun h => (hD1 _).2 ⟨d, HI.out.1, Rot.refl (by omega) x2 x3⟩)
      -- the left half
      have R2 := Aside0.mk (show a < i → i < mid → ∀ w, D1 w → Calls Try.prog 95 #[.slice (some ⟨gd, 0, none⟩) n c, .int .i64 a, .int .i64 i, .int .i64 mid, .func (.func f) #[] cap] w fun e w' => e = .returned (.tuple #[]) ∧ D2 w' from fun h1 h2 w hd => by
        obtain ⟨d1, hs1, hr1⟩ := (hD1 _).1 hd
        exact (H1.out i h1 h2 hs1 (vof d1 (fun p hp => hr1.out p (by omega)) (hr1.mem x1 x2 x3 x4)) (hal d1 hr1).1).mono fun _ _ ⟨h1, d2, h2, h3⟩ => ⟨h1, (hD2 _).2 ⟨d1, d2, h2, hr1, h3⟩⟩)
      have R2' := Aside0.mk (show ¬ (a < i ∧ i < mid) → ∀ w, D1 w → D2 w from fun h w hd => by
        obtain ⟨d1, hs1, hr1⟩ := (hD1 _).1 hd
        refine (hD2 _).2 ⟨d1, d1, hs1, hr1, Mrg.refl fun p q c1 c2 c3 => ?_⟩
        by_cases hi : i = a
        · exact (hal d1 hr1).1.sr p q (by omega) c2 c3
        · exact (hal d1 hr1).1.sl p q c1 c2 (by omega))
      -- the right half
      have fin : ∀ {d1 d2 d3 : List Int}, Rot i m e d d1 → Mrg key a mid d1 d2 → Mrg key mid b d2 d3 → Mrg key a b d d3 := fun {d1 d2 d3} hr1 h1 h2 =>
        h1.join (by omega) (by omega) hr1.perm (fun p hp => hr1.out p (by omega)) (hr1.mem x1 x2 x3 x4) (hal d1 hr1).2.2 h2
      have pre2 : ∀ {d1 d2 : List Int}, Rot i m e d d1 → Mrg key a mid d1 d2 → Pre key mid e b d2 := fun {d1 d2} hr1 h1 => by
        have h := (hal d1 hr1).2.1
        refine ⟨fun p q c1 c2 c3 => ?_, fun p q c1 c2 c3 => ?_, fun p q c1 c2 c3 c4 => ?_⟩ <;> rw [h1.out p (by omega), h1.out q (by omega)]
        · exact h.sl p q c1 c2 c3
        · exact h.sr p q c1 c2 c3
        · exact h.asc p q c1 c2 c3 c4
      have R3 := Aside0.mk (show mid < e → e < b → ∀ w, D2 w → Calls Try.prog 95 #[.slice (some ⟨gd, 0, none⟩) n c, .int .i64 mid, .int .i64 e, .int .i64 b, .func (.func f) #[] cap] w fun e w' => e = .returned (.tuple #[]) ∧ D3 w' from fun h1 h2 w hd => by
        obtain ⟨d1, d2, hs2, hr1, hm2⟩ := (hD2 _).1 hd
        refine (H2.out e h1 h2 hs2 (vof d2 (fun p hp => by rw [hm2.out p (by omega), hr1.out p (by omega)]) (fun p c1 c2 => ?_)) (pre2 hr1 hm2)).mono fun _ _ ⟨h1, d3, h2, h3⟩ => ⟨h1, (hD3 _).2 ⟨d3, h2, fin hr1 hm2 h3⟩⟩
        by_cases hpm : p < mid
        · obtain ⟨q, q1, q2, q3⟩ := hm2.mem p c1 hpm
          rw [q3]
          exact hr1.mem x1 x2 x3 x4 q q1 (by omega)
        · rw [hm2.out p (by omega)]
          exact hr1.mem x1 x2 x3 x4 p c1 c2)
      have R3' := Aside0.mk (show ¬ (mid < e ∧ e < b) → ∀ w, D2 w → D3 w from fun h w hd => by
        obtain ⟨d1, d2, hs2, hr1, hm2⟩ := (hD2 _).1 hd
        refine (hD3 _).2 ⟨d2, hs2, fin hr1 hm2 (Mrg.refl fun p q c1 c2 c3 => ?_)⟩
        by_cases hi : e = b
        · exact (pre2 hr1 hm2).sl p q c1 c2 (by omega)
        · exact (pre2 hr1 hm2).sr p q (by omega) c2 c3)
      have HEND := Aside0.mk (fun w => (hD3 w).1)
      clear fin pre2 hal vof hD1 hD2 hD3 x5 x6 hnn he HI HX HC HP HS HV HE H1 H2 HROT
      have g1 : (i < m ∧ (i : Int) < (m : Int)) ∧ (m < e ∧ (m : Int) < (e : Int)) ∨ (¬ i < m ∧ ¬ (i : Int) < (m : Int)) ∨ (i < m ∧ (i : Int) < (m : Int)) ∧ (¬ m < e ∧ ¬ (m : Int) < (e : Int)) := by omega
      have g2 : (a < i ∧ (a : Int) < (i : Int)) ∧ (i < mid ∧ (i : Int) < (mid : Int)) ∨ (¬ a < i ∧ ¬ (a : Int) < (i : Int)) ∨ (a < i ∧ (a : Int) < (i : Int)) ∧ (¬ i < mid ∧ ¬ (i : Int) < (mid : Int)) := by omega
      have g3 : (mid < e ∧ (mid : Int) < (e : Int)) ∧ (e < b ∧ (e : Int) < (b : Int)) ∨ (¬ mid < e ∧ ¬ (mid : Int) < (e : Int)) ∨ (mid < e ∧ (mid : Int) < (e : Int)) ∧ (¬ e < b ∧ ¬ (e : Int) < (b : Int)) := by omega
      rcases g1 with ⟨⟨p1, p2⟩, ⟨p3, p4⟩⟩ | ⟨p1, p2⟩ | ⟨⟨p1, p2⟩, ⟨p3, p4⟩⟩ <;> rcases g2 with ⟨⟨q1, q2⟩, ⟨q3, q4⟩⟩ | ⟨q1, q2⟩ | ⟨⟨q1, q2⟩, ⟨q3, q4⟩⟩ <;> rcases g3 with ⟨⟨r1, r2⟩, ⟨r3, r4⟩⟩ | ⟨r1, r2⟩ | ⟨⟨r1, r2⟩, ⟨r3, r4⟩⟩ <;> first | (exfalso; omega) | (
      go_wp2_with (first
        | (go_at_call 99; refine (R1.out p1 p3).mono ?_; rintro e' w2 ⟨rfl, k1⟩)
        | (go_at_call_of 95 (Value.int .i64 (a : Int)); refine (R2.out q1 q3 _ (by first | assumption | exact R1'.out (by omega))).mono ?_; rintro e' w2 ⟨rfl, k2⟩)
        | (go_at_call_of 95 (Value.int .i64 (e : Int)); refine (R3.out r1 r3 _ (by first | assumption | (refine R2'.out (by omega) _ ?_; first | assumption | exact R1'.out (by omega)))).mono ?_; rintro e' w2 ⟨rfl, k3⟩))
      go_end0
      refine ⟨rfl, HEND.out _ ?_⟩
      first | assumption | (refine R3'.out (by omega) _ ?_; first | assumption | (refine R2'.out (by omega) _ ?_; first | assumption | exact R1'.out (by omega))))
set_option maxHeartbeats 8000000 in
set_option maxRecDepth 1000000 in
theorem sym_lo (E : SortEnv St gd n f cap V key) (c a m b mid : Nat) (hmid : mid = (a + b) / 2) (ham : a + 1 < m) (hmb : m + 1 < b) (hb : b ≤ n) (hsel : m ≤ mid)
    (ih1 : ∀ s, a < s → s < mid → SymOk St gd n f cap V key c a s mid) (ih2 : ∀ s, mid < s → s < b → SymOk St gd n f cap V key c mid s b) : SymOk St gd n f cap V key c a m b := by
  intro W d hS hV P
  have h64 := E.n64
  have eg := E.eg
  have HROT := Aside0.mk (fun {W d} (hS : St W d) => rot_any E hS c)
  have HE := Aside0.mk E
  have HV := Aside0.mk hV
  have HP := Aside0.mk P
  have HS := Aside0.mk hS
  have H1 := Aside0.mk @ih1
  have H2 := Aside0.mk @ih2
  obtain ⟨nn, hnn⟩ : ∃ nn, nn = mid + m := ⟨_, rfl⟩
  have hn1 : ¬ (m : Int) - (a : Int) = 1 := by omega
  have hn1' : ((m : Int) - (a : Int) == 1) = false := beq_false_of_ne hn1
  have hn2 : ¬ (b : Int) - (m : Int) = 1 := by omega
  have hn2' : ((b : Int) - (m : Int) == 1) = false := beq_false_of_ne hn2
  have hn3 : (a : Int) ≤ (m : Int) := by omega
  have hn4 : (m : Int) ≤ (b : Int) := by omega
  have hn5 : (b : Int) ≤ (n : Int) := by omega
  have em : ((a : Int) + (b : Int)) / 2 = (mid : Int) := by omega
  have en : (mid : Int) + (m : Int) = (nn : Int) := by omega
  have ep : (nn : Int) - 1 = ((nn - 1 : Nat) : Int) := by omega
  have hsl : ¬ (mid : Int) < (m : Int) := by omega
  have b1 : a ≤ m := by omega
  have b2 : m ≤ m := by omega
  have b3 : a ≤ a := by omega
  have b4 : nn ≤ 2 * n := by omega
  have b5 : m ≤ mid := by omega
  have b6 : mid < b := by omega
  have b7 : a < mid := by omega
  have HC := Aside0.mk (show (∀ q : Nat, a ≤ q → q < m → m ≤ nn - 1 - q ∧ nn - 1 - q < b ∧ a ≤ q ∧ q < m) from fun q q1 q2 => by omega)
  have HX := Aside0.mk (fun s e h0 h1 he lo hi => sym_cross (s := s) (e := e) (r0 := m) P (show (mid < m ∧ a + b = mid + m ∧ m = mid) ∨ (m ≤ mid ∧ a = a ∧ m = m) by omega) hmid (by omega) (by omega) h0 h1 he lo hi)
  rw [← hnn] at HX
  generalize hp : nn - 1 = p at ep HC HX
  have hpn : p < nn := by omega
  have hpb : p + 1 = nn := by omega
  have HP1 := Aside0.mk hpb
  have HNN := Aside0.mk hnn
  clear hpb hp hnn  hmid hsel hS hV E P ih1 ih2
  go_enter Try.func95, Try.ntmps95
  go_wp2
  go_loopg [20, 21] (m - a) (fun g1 vi vj wr => ∃ (i j : Nat), vi = .int .i64 i ∧ vj = .int .i64 j ∧ a ≤ i ∧ i ≤ j ∧ j ≤ m ∧ j - i ≤ g1 ∧ Aside0 (St wr d ∧ (∀ q : Nat, a ≤ q → q < i → key (rd d q) ≤ key (rd d ((p - q : Nat) : Int))) ∧ (∀ q : Nat, j ≤ q → q < m → key (rd d ((p - q : Nat) : Int)) < key (rd d q))))
  case atStart => exact ⟨a, m, rfl, rfl, Nat.le_refl _, b1, Nat.le_refl _, Nat.le_refl _, ⟨HS.out, fun p h1 h2 => by omega, fun p h1 h2 => by omega⟩⟩
  case round =>
    obtain ⟨i, j, rfl, rfl, hmi, hij, hjb, hg1, HI⟩ := hrel
    by_cases hlt : i < j
    · have hltz : (i : Int) < (j : Int) := by omega
      obtain ⟨h, hh⟩ : ∃ h, h = (i + j) / 2 := ⟨_, rfl⟩
      have d1 : i ≤ h := by omega
      have d2 : h < j := by omega
      have e1 : ((i : Int) + (j : Int)) / 2 = (h : Int) := by omega
      clear hh
      have hS2 := HI.out.1
      have hC := HC.out h (by omega) (by omega)
      have e2 : (p : Int) - (h : Int) = ((p - h : Nat) : Int) := by omega
      obtain ⟨ch, fh⟩ := HE.out.rd hS2 h (by omega)
      obtain ⟨ca, fa⟩ := HE.out.rd hS2 (p - h) (by omega)
      have hc := fun q => HE.out.cmp (HE.out.dr hS2 q) _ _ (HV.out (p - h) (by omega)) (HV.out h (by omega))
      have HLO := Aside0.mk (show key (rd d h) ≤ key (rd d ((p - h : Nat) : Int)) → ∀ q : Nat, a ≤ q → q < h + 1 → key (rd d q) ≤ key (rd d ((p - q : Nat) : Int)) from fun hk q q1 q2 => by
        have hq := HC.out q q1 (by omega)
        have := HP.out.keyl hq.2.2.1 (show q ≤ h by omega) hC.2.2.2
        have := HP.out.keyr hC.1 (show p - h ≤ p - q by omega) hq.2.1
        omega)
      have HHI := Aside0.mk (show key (rd d ((p - h : Nat) : Int)) < key (rd d h) → ∀ q : Nat, h ≤ q → q < m → key (rd d ((p - q : Nat) : Int)) < key (rd d q) from fun hk q q1 q2 => by
        have hq := HC.out q (by omega) q2
        have := HP.out.keyl hC.2.2.1 q1 hq.2.2.2
        have := HP.out.keyr hq.1 (show p - q ≤ p - h by omega) hC.2.1
        omega)
      have l1 : (h : Int) < (n : Int) := by omega
      have l2 : ((p - h : Nat) : Int) < (n : Int) := by omega
      have l3 : (h : Int) + 1 ≤ (n : Int) := by omega
      clear hS2 hC
      generalize rd d (h : Int) = xh at ch hc HLO HHI
      generalize rd d ((p - h : Nat) : Int) = xa at ca hc HLO HHI
      generalize p - h = ph at e2 ca fa l2
      by_cases hlv : key xa - key xh < 0
      · go_wp2_with fail
        go_quiet (first | (go_at_fn f; refine Calls.quiet_of (hc _)))
        go_wp2
        go_roundg (h - i)
        case measure => omega
        case rel => exact ⟨i, h, rfl, rfl, hmi, d1, by omega, Nat.le_refl _, ⟨HE.out.dr HI.out.1 _, HI.out.2.1, HHI.out (by omega)⟩⟩
      · have hlv2 : decide (key xa - key xh < 0) = false := decide_eq_false hlv
        go_wp2_with fail
        go_quiet (first | (go_at_fn f; refine Calls.quiet_of (hc _)))
        go_wp2
        go_roundg (j - (h + 1))
        case measure => omega
        case rel => exact ⟨h + 1, j, by go_num, rfl, by omega, by omega, hjb, Nat.le_refl _, ⟨HE.out.dr HI.out.1 _, HLO.out (by omega), HI.out.2.2⟩⟩
    · obtain rfl : i = j := by omega
      obtain ⟨e, he⟩ : ∃ e, e = nn - i := ⟨_, rfl⟩
      have hnn := HNN.out
      have e1 : (nn : Int) - (i : Int) = (e : Int) := by omega
      have hcr := HX.out i e hmi hjb (by omega) HI.out.2.1 HI.out.2.2
      obtain ⟨x1, x2, x3, x4, x5, x6⟩ := hcr
      obtain ⟨D1, hD1⟩ : ∃ D : World → Prop, ∀ w, D w ↔ ∃ d1, St w d1 ∧ Rot i m e d d1 := ⟨_, fun _ => Iff.rfl⟩
      obtain ⟨D2, hD2⟩ : ∃ D : World → Prop, ∀ w, D w ↔ ∃ d1 d2, St w d2 ∧ Rot i m e d d1 ∧ Mrg key a mid d1 d2 := ⟨_, fun _ => Iff.rfl⟩
      obtain ⟨D3, hD3⟩ : ∃ D : World → Prop, ∀ w, D w ↔ ∃ d', St w d' ∧ Mrg key a b d d' := ⟨_, fun _ => Iff.rfl⟩
      have hal := fun d1 (h : Rot i m e d d1) => h.halves (mid := mid) HP.out x1 x2 x3 x4 (by omega) x5 x6
      have vof : ∀ d1, (∀ p : Nat, p < a ∨ b ≤ p → rd d1 p = rd d p) → (∀ p : Nat, a ≤ p → p < b → ∃ q : Nat, a ≤ q ∧ q < b ∧ rd d1 p = rd d q) → ∀ i : Nat, i < n → V (rd d1 i) := fun d1 ho hm k hk => by
        by_cases hkk : k < a ∨ b ≤ k
        · rw [ho k hkk]; exact HV.out k hk
        · obtain ⟨q, q1, q2, q3⟩ := hm k (by omega) (by omega)
          rw [q3]; exact HV.out q (by omega)
      -- the turning
      have R1 := Aside0.mk (show i < m → m < e → Calls Try.prog 99 #[.slice (some ⟨gd, 0, none⟩) n c, .int .i64 i, .int .i64 m, .int .i64 e, .func (.func f) #[] cap] wr fun e w' => e = .returned (.tuple #[]) ∧ D1 w' from fun h1 h2 =>
        (HROT.out HI.out.1 i e m _ h1 h2 (by omega)).mono fun _ _ ⟨h1, d', h2, h3⟩ => ⟨h1, (hD1 _).2 ⟨d', h2, h3⟩⟩)
      have R1' := Aside0.mk (show ¬ (i < m ∧ m < e) → D1 wr from fun h => (hD1 _).2 ⟨d, HI.out.1, Rot.refl (by omega) x2 x3⟩)
      -- the left half
      have R2 := Aside0.mk (show a < i → i < mid → ∀ w, D1 w → Calls Try.prog 95 #[.slice (some ⟨gd, 0, none⟩) n c, .int .i64 a, .int .i64 i, .int .i64 mid, .func (.func f) #[] cap] w fun e w' => e = .returned (.tuple #[]) ∧ D2 w' from fun h1 h2 w hd => by
        obtain ⟨d1, hs1, hr1⟩ := (hD1 _).1 hd
        exact (H1.out i h1 h2 hs1 (vof d1 (fun p hp => hr1.out p (by omega)) (hr1.mem x1 x2 x3 x4)) (hal d1 hr1).1).mono fun _ _ ⟨h1, d2, h2, h3⟩ => ⟨h1, (hD2 _).2 ⟨d1, d2, h2, hr1, h3⟩⟩)
      have R2' := Aside0.mk (show ¬ (a < i ∧ i < mid) → ∀ w, D1 w → D2 w from fun h w hd => by
        obtain ⟨d1, hs1, hr1⟩ := (hD1 _).1 hd
        refine (hD2 _).2 ⟨d1, d1, hs1, hr1, Mrg.refl fun p q c1 c2 c3 => ?_⟩
        by_cases hi : i = a
        · exact (hal d1 hr1).1.sr p q (by omega) c2 c3
        · exact (hal d1 hr1).1.sl p q c1 c2 (by omega))
      -- the right half
      have fin : ∀ {d1 d2 d3 : List Int}, Rot i m e d d1 → Mrg key a mid d1 d2 → Mrg key mid b d2 d3 → Mrg key a b d d3 := fun {d1 d2 d3} hr1 h1 h2 =>
        h1.join (by omega) (by omega) hr1.perm (fun p hp => hr1.out p (by omega)) (hr1.mem x1 x2 x3 x4) (hal d1 hr1).2.2 h2
      have pre2 : ∀ {d1 d2 : List Int}, Rot i m e d d1 → Mrg key a mid d1 d2 → Pre key mid e b d2 := fun {d1 d2} hr1 h1 => by
        have h := (hal d1 hr1).2.1
        refine ⟨fun p q c1 c2 c3 => ?_, fun p q c1 c2 c3 => ?_, fun p q c1 c2 c3 c4 => ?_⟩ <;> rw [h1.out p (by omega), h1.out q (by omega)]
        · exact h.sl p q c1 c2 c3
        · exact h.sr p q c1 c2 c3
        · exact h.asc p q c1 c2 c3 c4
      have R3 := Aside0.mk (show mid < e → e < b → ∀ w, D2 w → Calls Try.prog 95 #[.slice (some ⟨gd, 0, none⟩) n c, .int .i64 mid, .int .i64 e, .int .i64 b, .func (.func f) #[] cap] w fun e w' => e = .returned (.tuple #[]) ∧ D3 w' from fun h1 h2 w hd => by
        obtain ⟨d1, d2, hs2, hr1, hm2⟩ := (hD2 _).1 hd
        refine (H2.out e h1 h2 hs2 (vof d2 (fun p hp => by rw [hm2.out p (by omega), hr1.out p (by omega)]) (fun p c1 c2 => ?_)) (pre2 hr1 hm2)).mono fun _ _ ⟨h1, d3, h2, h3⟩ => ⟨h1, (hD3 _).2 ⟨d3, h2, fin hr1 hm2 h3⟩⟩
        by_cases hpm : p < mid
        · obtain ⟨q, q1, q2, q3⟩ := hm2.mem p c1 hpm
          rw [q3]
          exact hr1.mem x1 x2 x3 x4 q q1 (by omega)
        · rw [hm2.out p (by omega)]
          exact hr1.mem x1 x2 x3 x4 p c1 c2)
      have R3' := Aside0.mk (show ¬ (mid < e ∧ e < b) → ∀ w, D2 w → D3 w from fun h w hd => by
        obtain ⟨d1, d2, hs2, hr1, hm2⟩ := (hD2 _).1 hd
        refine (hD3 _).2 ⟨d2, hs2, fin hr1 hm2 (Mrg.refl fun p q c1 c2 c3 => ?_)⟩
        by_cases hi : e = b
        · exact (pre2 hr1 hm2).sl p q c1 c2 (by omega)
        · exact (pre2 hr1 hm2).sr p q (by omega) c2 c3)
      have HEND := Aside0.mk (fun w => (hD3 w).1)
      clear fin pre2 hal vof hD1 hD2 hD3 x5 x6 hnn he HI HX HC HP HS HV HE H1 H2 HROT
      have g1 : (i < m ∧ (i : Int) < (m : Int)) ∧ (m < e ∧ (m : Int) < (e : Int)) ∨ (¬ i < m ∧ ¬ (i : Int) < (m : Int)) ∨ (i < m ∧ (i : Int) < (m : Int)) ∧ (¬ m < e ∧ ¬ (m : Int) < (e : Int)) := by omega
      have g2 : (a < i ∧ (a : Int) < (i : Int)) ∧ (i < mid ∧ (i : Int) < (mid : Int)) ∨ (¬ a < i ∧ ¬ (a : Int) < (i : Int)) ∨ (a < i ∧ (a : Int) < (i : Int)) ∧ (¬ i < mid ∧ ¬ (i : Int) < (mid : Int)) := by omega
      have g3 : (mid < e ∧ (mid : Int) < (e : Int)) ∧ (e < b ∧ (e : Int) < (b : Int)) ∨ (¬ mid < e ∧ ¬ (mid : Int) < (e : Int)) ∨ (mid < e ∧ (mid : Int) < (e : Int)) ∧ (¬ e < b ∧ ¬ (e : Int) < (b : Int)) := by omega
      rcases g1 with ⟨⟨p1, p2⟩, ⟨p3, p4⟩⟩ | ⟨p1, p2⟩ | ⟨⟨p1, p2⟩, ⟨p3, p4⟩⟩ <;> rcases g2 with ⟨⟨q1, q2⟩, ⟨q3, q4⟩⟩ | ⟨q1, q2⟩ | ⟨⟨q1, q2⟩, ⟨q3, q4⟩⟩ <;> rcases g3 with ⟨⟨r1, r2⟩, ⟨r3, r4⟩⟩ | ⟨r1, r2⟩ | ⟨⟨r1, r2⟩, ⟨r3, r4⟩⟩ <;> first | (exfalso; omega) | (
      go_wp2_with (first
        | (go_at_call 99; refine (R1.out p1 p3).mono ?_; rintro e' w2 ⟨rfl, k1⟩)
        | (go_at_call_of 95 (Value.int .i64 (a : Int)); refine (R2.out q1 q3 _ (by first | assumption | exact R1'.out (by omega))).mono ?_; rintro e' w2 ⟨rfl, k2⟩)
        | (go_at_call_of 95 (Value.int .i64 (e : Int)); refine (R3.out r1 r3 _ (by first | assumption | (refine R2'.out (by omega) _ ?_; first | assumption | exact R1'.out (by omega)))).mono ?_; rintro e' w2 ⟨rfl, k3⟩))
      go_end0
      refine ⟨rfl, HEND.out _ ?_⟩
      first | assumption | (refine R3'.out (by omega) _ ?_; first | assumption | (refine R2'.out (by omega) _ ?_; first | assumption | exact R1'.out (by omega))))
theorem sym_any (E : SortEnv St gd n f cap V key) (c : Nat) : ∀ N a m b : Nat, b - a ≤ N → a < m → m < b → b ≤ n → SymOk St gd n f cap V key c a m b := by
  intro N
  induction N with
  | zero => intro a m b h1 h2 h3 _; omega
  | succ N ih =>
    intro a m b h1 h2 h3 h4
    by_cases c1 : m = a + 1
    · exact fun hS hV P => sym_one E hS c a m b c1 h3 h4 hV P
    · by_cases c2 : b = m + 1
      · exact fun hS hV P => sym_two E hS c a m b (by omega) c2 h4 hV P
      · by_cases c3 : (a + b) / 2 < m
        · exact sym_hi E c a m b _ rfl (by omega) (by omega) h4 c3 (fun s s1 s2 => ih _ _ _ (by omega) s1 s2 (by omega)) (fun s s1 s2 => ih _ _ _ (by omega) s1 s2 (by omega))
        · exact sym_lo E c a m b _ rfl (by omega) (by omega) h4 (by omega) (fun s s1 s2 => ih _ _ _ (by omega) s1 s2 (by omega)) (fun s s1 s2 => ih _ _ _ (by omega) s1 s2 (by omega))
end Go.Proofs.Ytbelnopbggkdfaa
end

section
namespace Go.Proofs.Ytbelnopbggkdfaa
open Go.RowKit Go.Proofs.YtbelnopbggkdfaaW.PrintWords
variable {St : World → List Int → Prop} {gd n f : Nat} {cap : Array Value} {V : Int → Prop} {key : Int → Int}
/-- u is where a block of size s begins. -/
def Ali (s u : Nat) : Prop := ∃ t, u = t * s
theorem Ali.zero (s : Nat) : Ali s 0 := ⟨0, by simp⟩
theorem Ali.next {s u : Nat} (h : Ali s u) : Ali s (u + s) := by
  obtain ⟨t, rfl⟩ := h
  exact ⟨t + 1, by rw [Nat.add_mul, Nat.one_mul]⟩
theorem Ali.half {s u : Nat} (h : Ali (2 * s) u) : Ali s u := by
  obtain ⟨t, rfl⟩ := h
  exact ⟨t * 2, by rw [Nat.mul_assoc]⟩
theorem Ali.sep {s u v : Nat} (hu : Ali s u) (hv : Ali s v) (h : u < v) : u + s ≤ v := by
  obtain ⟨t, rfl⟩ := hu
  obtain ⟨r, rfl⟩ := hv
  have : t < r := by
    rcases Nat.lt_or_ge t r with c | c
    · exact c
    · exact absurd (Nat.mul_le_mul_right s c) (by omega)
  calc t * s + s = (t + 1) * s := by rw [Nat.add_mul, Nat.one_mul]
    _ ≤ r * s := Nat.mul_le_mul_right s this
/-- The block at u (of size s, cut at n) is in order, and holds what the block of d held. -/
structure Blk (key : Int → Int) (n s u : Nat) (d dk : List Int) : Prop where
  srt : ∀ p q : Nat, u ≤ p → p < q → q < u + s → q < n → ltK key (rd dk p) (rd dk q)
  mem : ∀ p : Nat, u ≤ p → p < u + s → p < n → ∃ q : Nat, u ≤ q ∧ q < u + s ∧ q < n ∧ rd dk p = rd d q
theorem Blk.keep {s u : Nat} {d dk d' : List Int} (h : Blk key n s u d dk) (e : ∀ p : Nat, u ≤ p → p < u + s → p < n → rd d' p = rd dk p) : Blk key n s u d d' :=
  ⟨fun p q h1 h2 h3 h4 => by rw [e p h1 (by omega) (by omega), e q (by omega) h3 h4]; exact h.srt p q h1 h2 h3 h4, fun p h1 h2 h3 => by rw [e p h1 h2 h3]; exact h.mem p h1 h2 h3⟩
/-- All blocks of size s. -/
def Out (key : Int → Int) (n s : Nat) (d dk : List Int) : Prop := dk.Perm d ∧ ∀ u, Ali s u → Blk key n s u d dk
/-- The first loop: below a all blocks are in order, from a on nothing has moved. -/
structure Fst (key : Int → Int) (n s a : Nat) (d dk : List Int) : Prop where
  perm : dk.Perm d
  ali : Ali s a
  low : ∀ u, Ali s u → u < a → Blk key n s u d dk
  out : ∀ p : Nat, a ≤ p → rd dk p = rd d p
/-- The second loop: below a blocks of size 2 s, from a on blocks of size s. -/
structure Snd (key : Int → Int) (n s a : Nat) (d dk : List Int) : Prop where
  perm : dk.Perm d
  ali : Ali (2 * s) a
  low : ∀ u, Ali (2 * s) u → u < a → Blk key n (2 * s) u d dk
  hi : ∀ u, Ali s u → a ≤ u → Blk key n s u d dk
theorem Fst.step {s a b : Nat} {d dk d' : List Int} (h : Fst key n s a d dk) (hi : InsI key n a b dk d') (hbn : b ≤ n) (hb : b = a + s ∨ (b = n ∧ n ≤ a + s)) : Fst key n s (a + s) d d' := by
  refine ⟨hi.perm.trans h.perm, h.ali.next, fun u hu hlt => ?_, fun p hp => ?_⟩
  · by_cases c : u = a
    · subst c
      refine ⟨fun p q h1 h2 h3 h4 => hi.srt p q h1 h2 (by omega), fun p h1 h2 h3 => ?_⟩
      obtain ⟨q, q1, q2, q3⟩ := hi.mem p h1 (by omega)
      exact ⟨q, q1, by omega, by omega, by rw [q3, h.out q q1]⟩
    · have hua : u < a := by
        rcases Nat.lt_or_ge u a with c2 | c2
        · exact c2
        · have := h.ali.sep hu (by omega)
          omega
      have := hu.sep h.ali hua
      exact (h.low u hu hua).keep fun p h1 h2 _ => hi.out p (.inl (by omega))
  · rw [hi.out p (.inr (by omega)), h.out p (by omega)]
theorem Fst.fin {s a : Nat} {d dk : List Int} (h : Fst key n s a d dk) (hn : n ≤ a) : Out key n s d dk := by
  refine ⟨h.perm, fun u hu => ?_⟩
  by_cases c : u < a
  · exact h.low u hu c
  · exact ⟨fun p q h1 h2 h3 h4 => by omega, fun p h1 h2 h3 => by omega⟩
theorem Out.start {s : Nat} {d dk : List Int} (h : Out key n s d dk) : Snd key n s 0 d dk :=
  ⟨h.1, Ali.zero _, fun u _ hlt => by omega, fun u hu _ => h.2 u hu⟩
theorem Snd.pre {s a b : Nat} {d dk : List Int} (h : Snd key n s a d dk) (hasc : ∀ p q : Nat, p < q → q < n → rd d p < rd d q) (hb : b ≤ n) (hb2 : b ≤ a + 2 * s) (hb3 : a + s < b) : Pre key a (a + s) b dk := by
  have h1 := h.hi a h.ali.half (Nat.le_refl _)
  have h2 := h.hi (a + s) h.ali.half.next (by omega)
  refine ⟨fun p q c1 c2 c3 => ?_, fun p q c1 c2 c3 => h2.srt p q c1 c2 (by omega) (by omega), fun p q c1 c2 c3 c4 => ?_⟩
  · exact h1.srt p q c1 c2 c3 (by omega)
  · obtain ⟨p', p1, p2, p3, p4⟩ := h1.mem p c1 c2 (by omega)
    obtain ⟨q', q1, q2, q3, q4⟩ := h2.mem q c3 (by omega) (by omega)
    rw [p4, q4]
    exact hasc p' q' (by omega) q3
theorem Snd.step {s a b : Nat} {d dk d' : List Int} (hs : 0 < s) (h : Snd key n s a d dk) (hm : Mrg key a b dk d') (hbn : b ≤ n) (hb : b = a + 2 * s ∨ (b = n ∧ n ≤ a + 2 * s)) : Snd key n s (a + 2 * s) d d' := by
  have hn := h.ali.next
  refine ⟨hm.perm.trans h.perm, hn, fun u hu hlt => ?_, fun u hu hge => ?_⟩
  · by_cases c : u = a
    · subst c
      refine ⟨fun p q h1 h2 h3 h4 => hm.srt p q h1 h2 (by omega), fun p h1 h2 h3 => ?_⟩
      obtain ⟨q, q1, q2, q3⟩ := hm.mem p h1 (by omega)
      rw [q3]
      by_cases c2 : q < u + s
      · obtain ⟨r, r1, r2, r3, r4⟩ := (h.hi u h.ali.half (Nat.le_refl _)).mem q q1 c2 (by omega)
        exact ⟨r, r1, by omega, r3, r4⟩
      · obtain ⟨r, r1, r2, r3, r4⟩ := (h.hi (u + s) h.ali.half.next (by omega)).mem q (by omega) (by omega) (by omega)
        exact ⟨r, by omega, by omega, r3, r4⟩
    · have hua : u < a := by
        rcases Nat.lt_or_ge u a with c2 | c2
        · exact c2
        · have := h.ali.sep hu (by omega)
          omega
      have := hu.sep h.ali hua
      exact (h.low u hu hua).keep fun p h1 h2 _ => hm.out p (.inl (by omega))
  · exact (h.hi u hu (by omega)).keep fun p h1 h2 h3 => hm.out p (.inr (by omega))
theorem Snd.skip {s a : Nat} {d dk : List Int} (h : Snd key n s a d dk) (hn : n ≤ a + s) : Snd key n s (a + 2 * s) d dk := by
  have hn2 := h.ali.next
  refine ⟨h.perm, hn2, fun u hu hlt => ?_, fun u hu hge => h.hi u hu (by omega)⟩
  by_cases c : u = a
  · subst c
    have hb := h.hi u h.ali.half (Nat.le_refl _)
    refine ⟨fun p q h1 h2 h3 h4 => hb.srt p q h1 h2 (by omega) h4, fun p h1 h2 h3 => ?_⟩
    obtain ⟨r, r1, r2, r3, r4⟩ := hb.mem p h1 (by omega) h3
    exact ⟨r, r1, by omega, r3, r4⟩
  · have hua : u < a := by
      rcases Nat.lt_or_ge u a with c2 | c2
      · exact c2
      · have := h.ali.sep hu (by omega)
        omega
    exact h.low u hu hua
theorem Snd.fin {s a : Nat} {d dk : List Int} (h : Snd key n s a d dk) (hn : n ≤ a) : Out key n (2 * s) d dk := by
  refine ⟨h.perm, fun u hu => ?_⟩
  by_cases c : u < a
  · exact h.low u hu c
  · exact ⟨fun p q h1 h2 h3 h4 => by omega, fun p h1 h2 h3 => by omega⟩
theorem vperm {d dk : List Int} (hp : dk.Perm d) (hl : d.length = n) (hV : ∀ i : Nat, i < n → V (rd d i)) : ∀ i : Nat, i < n → V (rd dk i) := fun i hi => by
  have hl2 : dk.length = n := by rw [hp.length_eq, hl]
  have e1 : rd dk i = dk[i] := by simp [rd, List.getD_eq_getElem?_getD, List.getElem?_eq_getElem (show i < dk.length by omega)]
  have hm : rd dk i ∈ d := hp.mem_iff.1 (by rw [e1]; exact List.getElem_mem _)
  obtain ⟨j, hj, e⟩ := List.getElem_of_mem hm
  have h := hV j (by omega)
  have e2 : rd d j = d[j] := by simp [rd, List.getD_eq_getElem?_getD, List.getElem?_eq_getElem hj]
  rw [e2, e] at h
  exact h
set_option maxHeartbeats 8000000 in
set_option maxRecDepth 1000000 in
theorem stable_any (E : SortEnv St gd n f cap V key) {W : World} {d : List Int} (hS : St W d) (c : Nat) (hV : ∀ i : Nat, i < n → V (rd d i)) (hasc : ∀ p q : Nat, p < q → q < n → rd d p < rd d q) :
    Calls Try.prog 84 #[.slice (some ⟨gd, 0, none⟩) n c, .int .i64 n, .func (.func f) #[] cap] W fun e w' =>
      e = .returned (.tuple #[]) ∧ ∃ d', St w' d' ∧ ∃ s, n ≤ s ∧ Out key n s d d' := by
  have h64 := E.n64
  have HINS := Aside0.mk (fun {W d} (hS : St W d) => ins_any E hS c)
  have HSYM := Aside0.mk (sym_any E c)
  have HV := Aside0.mk hV
  have HA := Aside0.mk hasc
  have HS := Aside0.mk hS
  have HL := Aside0.mk (E.len hS)
  clear hS hV hasc E
  go_enter Try.func84, Try.ntmps84
  go_wp2
  go_loopg [7, 8] n (fun g1 va vb wr => ∃ (a : Nat) (dk : List Int), va = .int .i64 a ∧ vb = .int .i64 ((a : Int) + 20) ∧ a ≤ n ∧ n - a ≤ g1 ∧ Aside0 (St wr dk ∧ Fst key n 20 a d dk))
  case atStart => exact ⟨0, d, rfl, rfl, by omega, by omega, ⟨HS.out, List.Perm.refl _, Ali.zero _, fun u _ hlt => by omega, fun _ _ => rfl⟩⟩
  case round =>
    obtain ⟨a, dk, rfl, rfl, han, hg1, HI⟩ := hrel
    have vof := vperm HI.out.2.perm HL.out HV.out
    by_cases hlt : a + 20 ≤ n
    · have hltz : (a : Int) + 20 ≤ (n : Int) := by omega
      have hc := HINS.out HI.out.1 a (a + 20) (by omega) hlt vof (fun p q h1 h2 h3 => by rw [HI.out.2.out p h1, HI.out.2.out q (by omega)]; exact HA.out p q h2 h3)
      have HVO := Aside0.mk vof
      clear vof
      rw [show ((a + 20 : Nat) : Int) = (a : Int) + 20 by omega] at hc
      go_wp2_with (go_at_call 94; refine hc.mono ?_; rintro e w2 ⟨rfl, d2, hs2⟩; have HS2 := Aside0.mk hs2; clear hs2)
      go_roundg (n - (a + 20))
      case measure => omega
      case rel => exact ⟨a + 20, d2, by go_num, by go_num, hlt, Nat.le_refl _, ⟨HS2.out.1, HI.out.2.step HS2.out.2 hlt (.inl rfl)⟩⟩
    · have hltz : ¬ (a : Int) + 20 ≤ (n : Int) := by omega
      have hc := HINS.out HI.out.1 a n han (Nat.le_refl _) vof (fun p q h1 h2 h3 => by rw [HI.out.2.out p h1, HI.out.2.out q (by omega)]; exact HA.out p q h2 h3)
      have HVO := Aside0.mk vof
      clear vof
      go_wp2_with (go_at_call 94; refine hc.mono ?_; rintro e w2 ⟨rfl, d2, hs2⟩; have HS2 := Aside0.mk hs2; clear hs2)
      have HO := Aside0.mk (show Out key n 20 d d2 from (HI.out.2.step HS2.out.2 (Nat.le_refl _) (.inr ⟨rfl, by omega⟩)).fin (by omega))
      clear hc HI HVO
      go_loopg [6] n (fun g1 vs wr => ∃ (s : Nat) (dk : List Int), vs = .int .i64 s ∧ 0 < s ∧ s ≤ 2 * n + 20 ∧ n - s ≤ g1 ∧ Aside0 (St wr dk ∧ Out key n s d dk))
      case atStart => exact ⟨20, d2, rfl, by omega, by omega, by omega, ⟨HS2.out.1, HO.out⟩⟩
      case round =>
        obtain ⟨s, dk2, rfl, hs0, hs1, hg2, HI⟩ := hrel
        by_cases hlt2 : s < n
        · have hltz2 : (s : Int) < (n : Int) := by omega
          obtain ⟨s2, hs2⟩ : ∃ s2, s2 = 2 * s := ⟨_, rfl⟩
          have es : 2 * (s : Int) = (s2 : Int) := by omega
          have es2 : (s : Int) * 2 = (s2 : Int) := by omega
          have HS2E := Aside0.mk hs2
          have hsb : s < s2 := by omega
          have hsb2 : s2 ≤ 2 * n := by omega
          clear hs2
          go_wp2_with fail
          go_loopg [7, 8] n (fun g1 va vb wr => ∃ (a : Nat) (dk : List Int), va = .int .i64 a ∧ vb = .int .i64 ((a : Int) + s2) ∧ a ≤ n ∧ n - a ≤ g1 ∧ Aside0 (St wr dk ∧ Snd key n s a d dk))
          case atStart => exact ⟨0, dk2, rfl, by go_num, by omega, by omega, ⟨HI.out.1, HI.out.2.start⟩⟩
          case round =>
            obtain ⟨a, dk, rfl, rfl, han, hg3, HJ⟩ := hrel
            have vof := vperm HJ.out.2.perm HL.out HV.out
            have hs2 := HS2E.out
            obtain ⟨m, hm⟩ : ∃ m, m = a + s := ⟨_, rfl⟩
            have em : (a : Int) + (s : Int) = (m : Int) := by omega
            by_cases hlt3 : a + s2 ≤ n
            · have hltz3 : (a : Int) + (s2 : Int) ≤ (n : Int) := by omega
              have hc := HSYM.out n a (a + s) (a + s2) (by omega) (by omega) (by omega) hlt3 HJ.out.1 vof (HJ.out.2.pre HA.out hlt3 (by omega) (by omega))
              rw [show ((a + s2 : Nat) : Int) = (a : Int) + (s2 : Int) by omega, ← hm] at hc
              have HST := Aside0.mk (fun d' (h : Mrg key a (a + s2) dk d') => HJ.out.2.step hs0 h hlt3 (.inl (by omega)))
              rw [← hs2] at HST
              clear vof hm hs2
              go_wp2_with (go_at_call 95; refine hc.mono ?_; rintro e w2 ⟨rfl, d3, h3⟩; have H3 := Aside0.mk h3; clear h3)
              go_roundg (n - (a + s2))
              case measure => omega
              case rel => exact ⟨a + s2, d3, by go_num, by go_num, hlt3, Nat.le_refl _, ⟨H3.out.1, HST.out d3 H3.out.2⟩⟩
            · have hltz3 : ¬ (a : Int) + (s2 : Int) ≤ (n : Int) := by omega
              by_cases hmn : m < n
              · have hmz : (m : Int) < (n : Int) := by omega
                have hc := HSYM.out n a (a + s) n (by omega) (by omega) (by omega) (Nat.le_refl _) HJ.out.1 vof (HJ.out.2.pre HA.out (Nat.le_refl _) (by omega) (by omega))
                rw [← hm] at hc
                have HST := Aside0.mk (fun d' (h : Mrg key a n dk d') => (HJ.out.2.step hs0 h (Nat.le_refl _) (.inr (by omega))).fin (by omega))
                rw [← hs2] at HST
                clear vof hm hs2
                go_wp2_with (go_at_call 95; refine hc.mono ?_; rintro e w2 ⟨rfl, d3, h3⟩; have H3 := Aside0.mk h3; clear h3)
                go_roundg (n - s2)
                case measure => omega
                case rel => exact ⟨s2, d3, by go_num, by omega, by omega, Nat.le_refl _, ⟨H3.out.1, HST.out d3 H3.out.2⟩⟩
              · have hmz : ¬ (m : Int) < (n : Int) := by omega
                have HST := Aside0.mk ((HJ.out.2.skip (by omega)).fin (by omega))
                rw [← hs2] at HST
                clear vof hm hs2
                go_wp2
                go_roundg (n - s2)
                case measure => omega
                case rel => exact ⟨s2, dk, by go_num, by omega, by omega, Nat.le_refl _, ⟨HJ.out.1, HST.out⟩⟩
        · have hltz2 : ¬ (s : Int) < (n : Int) := by omega
          go_wp2
          go_end0
          exact ⟨rfl, dk2, HI.out.1, s, by omega, HI.out.2⟩
set_option maxHeartbeats 8000000 in
set_option maxRecDepth 1000000 in
/-- slices.SortStableFunc: the one ordered row of the numbers. -/
theorem sort_any (E : SortEnv St gd n f cap V key) {W : World} {d : List Int} (hS : St W d) (c : Nat) (hV : ∀ i : Nat, i < n → V (rd d i)) (hasc : ∀ p q : Nat, p < q → q < n → rd d p < rd d q) :
    Calls Try.prog 68 #[.slice (some ⟨gd, 0, none⟩) n c, .func (.func f) #[] cap] W fun e w' =>
      e = .returned (.tuple #[]) ∧ ∃ d', St w' d' ∧ d'.Perm d ∧ ∀ p q : Nat, p < q → q < n → ltK key (rd d' p) (rd d' q) := by
  have hc := stable_any E hS c hV hasc
  go_enter Try.func68, Try.ntmps68
  go_wp2_with (go_at_call 84; refine hc.mono ?_; rintro e w2 ⟨rfl, d3, h3⟩; have H3 := Aside0.mk h3; clear h3)
  go_end0
  obtain ⟨h1, s, hs, h2, h4⟩ := H3.out
  exact ⟨rfl, d3, h1, h2, fun p q c1 c2 => (h4 0 (Ali.zero _)).srt p q (by omega) c1 (by omega) c2⟩
end Go.Proofs.Ytbelnopbggkdfaa
end

section
namespace Go.Proofs.Ytbelnopbggkdfaa
open Go.RowKit Go.Proofs.YtbelnopbggkdfaaW.PrintWords
/-- The moment of an operation, doubled; one more for a measurement. -/
def mkey (k t : Int) : Int := if k = 4 then 2 * t + 1 else 2 * t
set_option maxHeartbeats 2000000 in
set_option maxRecDepth 100000 in
theorem key_any {W : World} {g1 g4 : Nat} (x : Int) {A B : Addr} {n c n2 c2 : Nat} {k t : Int} (h0 : 0 ≤ x) (h1 : x < n) (h2 : x < n2) (ht0 : 0 ≤ t) (ht : t ≤ 1152921504606846976)
    (c1 : W.cell? ⟨g1, 2, none⟩ = some (.slice (some A) n c)) (ck : W.cell? (A.add (x.toNat * 6)) = some (.int .i64 k)) (c4 : W.cell? ⟨g4, 0, none⟩ = some (.slice (some B) n2 c2)) (ct : W.cell? (B.add x.toNat) = some (.int .i64 t)) :
    Calls Try.prog 67 #[.int .i64 x, .pointer (some ⟨g1, 0, none⟩), .pointer (some ⟨g4, 0, none⟩)] W fun e w' => e = .returned (.int .i64 (mkey k t)) ∧ w' = W := by
  by_cases hk : k = 4
  · subst hk
    have e : mkey 4 t = 2 * t + 1 := rfl
    rw [e]
    go_enter Try.func67, Try.ntmps67
    go_wp2
    go_ret
    exact ⟨rfl, rfl⟩
  · have e : mkey k t = 2 * t := if_neg hk
    rw [e]
    go_enter Try.func67, Try.ntmps67
    go_wp2
    go_ret
    exact ⟨rfl, rfl⟩
set_option maxHeartbeats 2000000 in
set_option maxRecDepth 100000 in
theorem cmp_any {W : World} {g8 g : Nat} {cap : Array Value} (x y kx ky : Int) (b1 : 0 ≤ kx) (b2 : kx ≤ 4611686018427387904) (b3 : 0 ≤ ky) (b4 : ky ≤ 4611686018427387904)
    (eg : ∀ args w, (callFunc g args).run Try.prog w = .ok (.enter g args) w) (c8 : W.cell? ⟨g8, 0, none⟩ = some (.func (.func g) #[] cap))
    (hx : ∀ m, Calls Try.prog g (#[.int .i64 x] ++ cap) (W.drewN m) fun e w' => e = .returned (.int .i64 kx) ∧ w' = W.drewN m)
    (hy : ∀ m, Calls Try.prog g (#[.int .i64 y] ++ cap) (W.drewN m) fun e w' => e = .returned (.int .i64 ky) ∧ w' = W.drewN m) :
    Calls Try.prog 69 #[.int .i64 x, .int .i64 y, .pointer (some ⟨g8, 0, none⟩)] W fun e w' => e = .returned (.int .i64 (kx - ky)) ∧ ∃ m, w' = W.drewN m := by
  go_enter Try.func69, Try.ntmps69
  go_wp2_with fail
  go_quiet (first | with_reducible exact Calls.quiet_of_same (hx _) | with_reducible exact Calls.quiet_of_same (hy _))
  go_wp2
  go_ret
  exact ⟨rfl, nq, rfl⟩
end Go.Proofs.Ytbelnopbggkdfaa
end

section
namespace Go.Proofs.Ytbelnopbggkdfaa
open Go.RowKit Go.Proofs.YtbelnopbggkdfaaW.PrintWords
def insO (key : Int → Int) (x : Int) : List Int → List Int
  | [] => [x]
  | y :: ys => if key x < key y ∨ key x = key y ∧ x < y then x :: y :: ys else y :: insO key x ys
def sortO (key : Int → Int) : List Int → List Int
  | [] => []
  | x :: xs => insO key x (sortO key xs)
theorem insO_perm (key : Int → Int) (x : Int) : ∀ l, (insO key x l).Perm (x :: l)
  | [] => List.Perm.refl _
  | y :: ys => by
    unfold insO
    split
    · exact List.Perm.refl _
    · exact ((insO_perm key x ys).cons y).trans (List.Perm.swap x y ys)
theorem sortO_perm (key : Int → Int) : ∀ l, (sortO key l).Perm l
  | [] => List.Perm.refl _
  | x :: xs => (insO_perm key x _).trans ((sortO_perm key xs).cons x)
theorem insO_srt (key : Int → Int) (x : Int) : ∀ l, l.Pairwise (ltK key) → x ∉ l → (insO key x l).Pairwise (ltK key)
  | [], _, _ => by simp [insO]
  | y :: ys, h, hx => by
    have h' := List.pairwise_cons.1 h
    simp only [List.mem_cons, not_or] at hx
    unfold insO
    split
    · rename_i c
      refine List.pairwise_cons.2 ⟨fun z hz => ?_, h⟩
      rcases List.mem_cons.1 hz with rfl | hz
      · exact c
      · exact ltK_trans c (h'.1 z hz)
    · rename_i c
      refine List.pairwise_cons.2 ⟨fun z hz => ?_, insO_srt key x ys h'.2 hx.2⟩
      rcases List.mem_cons.1 ((insO_perm key x ys).mem_iff.1 hz) with rfl | hz
      · unfold ltK
        omega
      · exact h'.1 z hz
theorem sortO_srt (key : Int → Int) : ∀ l : List Int, l.Nodup → (sortO key l).Pairwise (ltK key)
  | [], _ => List.Pairwise.nil
  | x :: xs, h => by
    have h' := List.nodup_cons.1 h
    exact insO_srt key x _ (sortO_srt key xs h'.2) fun hm => h'.1 ((sortO_perm key xs).mem_iff.1 hm)
theorem ltK_asymm {key : Int → Int} {x y : Int} (h1 : ltK key x y) (h2 : ltK key y x) : False := by
  unfold ltK at *
  omega
theorem srt_unique {key : Int → Int} : ∀ {l m : List Int}, l.Perm m → l.Pairwise (ltK key) → m.Pairwise (ltK key) → l = m
  | [], m, hp, _, _ => (List.perm_nil.1 hp.symm).symm
  | x :: xs, [], hp, _, _ => List.perm_nil.1 hp
  | x :: xs, y :: ys, hp, h1, h2 => by
    have a1 := List.pairwise_cons.1 h1
    have a2 := List.pairwise_cons.1 h2
    have e : x = y := by
      have m1 := hp.mem_iff.1 (List.mem_cons_self (a := x) (l := xs))
      have m2 := hp.mem_iff.2 (List.mem_cons_self (a := y) (l := ys))
      rcases List.mem_cons.1 m1 with c | c
      · exact c
      · rcases List.mem_cons.1 m2 with c2 | c2
        · exact c2.symm
        · exact absurd (ltK_asymm (a1.1 y c2) (a2.1 x c)) id
    subst e
    rw [srt_unique (List.Perm.cons_inv hp) a1.2 a2.2]
theorem srt_of_rd {key : Int → Int} {l : List Int} {n : Nat} (hl : l.length = n) (h : ∀ p q : Nat, p < q → q < n → ltK key (rd l p) (rd l q)) : l.Pairwise (ltK key) := by
  rw [List.pairwise_iff_getElem]
  intro i j hi hj hij
  have := h i j hij (by omega)
  simpa [rd, List.getD_eq_getElem?_getD, List.getElem?_eq_getElem hi, List.getElem?_eq_getElem hj] using this
/-- What the sort leaves is the ordered list. -/
theorem sort_is {key : Int → Int} {l d : List Int} {n : Nat} (hp : l.Perm d) (hl : d.length = n) (hd : d.Nodup) (h : ∀ p q : Nat, p < q → q < n → ltK key (rd l p) (rd l q)) : l = sortO key d :=
  srt_unique (hp.trans (sortO_perm key d).symm) (srt_of_rd (by rw [hp.length_eq, hl]) h) (sortO_srt key d hd)
set_option maxHeartbeats 2000000 in
set_option maxRecDepth 100000 in
theorem ins_nil {W : World} (g : Value) : Calls Try.prog 94 #[.slice none 0 0, .int .i64 0, .int .i64 0, g] W fun e w' => e = .returned (.tuple #[]) ∧ w' = W := by
  go_enter Try.func94, Try.ntmps94
  go_wp2
  go_loopg [8] 1 (fun g1 vi wr => vi = .int .i64 1 ∧ wr = W)
  case atStart => exact ⟨by go_num, rfl⟩
  case round =>
    obtain ⟨rfl, rfl⟩ := hrel
    go_wp2
    go_end0
    exact ⟨rfl, rfl⟩
set_option maxHeartbeats 2000000 in
set_option maxRecDepth 100000 in
theorem stable_nil {W : World} (g : Value) : Calls Try.prog 84 #[.slice none 0 0, .int .i64 0, g] W fun e w' => e = .returned (.tuple #[]) ∧ w' = W := by
  go_enter Try.func84, Try.ntmps84
  go_wp2
  go_loopg [7, 8] 1 (fun g1 va vb wr => va = .int .i64 0 ∧ vb = .int .i64 20 ∧ wr = W)
  case atStart => exact ⟨rfl, rfl, rfl⟩
  case round =>
    obtain ⟨rfl, rfl, rfl⟩ := hrel
    go_wp2_with (go_at_call 94; refine (ins_nil g).mono ?_; rintro e w2 ⟨rfl, rfl⟩)
    go_loopg [6] 1 (fun g1 va wr => va = .int .i64 20 ∧ wr = w2)
    case atStart => exact ⟨rfl, rfl⟩
    case round =>
      obtain ⟨rfl, rfl⟩ := hrel
      go_wp2
      go_end0
      exact ⟨rfl, rfl⟩
set_option maxHeartbeats 2000000 in
set_option maxRecDepth 100000 in
theorem sort_nil {W : World} (g : Value) : Calls Try.prog 68 #[.slice none 0 0, g] W fun e w' => e = .returned (.tuple #[]) ∧ w' = W := by
  go_enter Try.func68, Try.ntmps68
  go_wp2_with (go_at_call 84; refine (stable_nil g).mono ?_; rintro e w2 ⟨rfl, rfl⟩)
  go_end0
  exact ⟨rfl, rfl⟩
end Go.Proofs.Ytbelnopbggkdfaa
end

section
namespace Go.Proofs.Ytbelnopbggkdfaa.Q
open Go.RowKit Go.Proofs.YtbelnopbggkdfaaW.PrintWords Go.Proofs.YtbelnopbggkdfaaW.PrintLast Go.Proofs.YtbelnopbggkdfaaW.PrintMore
structure SrtS (w : World) (N g1 g2 g4 g8 gd cap : Nat) (a0 a1 : Int) (A : Option Addr) (c : Nat) (l : List S46) (A4 : Option Addr) (c4 : Nat) (into : List Int) (W : World) (d : List Int) : Prop where
  hb : Below w.heap.size w W
  b1 : W.heap[g1]? = some (.cells #[.int .i64 a0, .int .i64 a1, .slice A l.length c] 24 (0, 0))
  b2 : W.heap[g2]? = some (.cells #[.int .i64 0, .int .i64 0, .slice none 0 0] 24 (0, 0))
  b4 : W.heap[g4]? = some (.cells #[.slice A4 into.length c4] 37 (0, 0))
  b8 : W.heap[g8]? = some (.cells #[.func (.func 67) #[] #[.pointer (some ⟨g1, 0, none⟩), .pointer (some ⟨g4, 0, none⟩)]] 79 (0, 0))
  hi : Kd.R (Kd.int .i64) 3 W w.heap.size (fun k => k < N) (.slice A4 into.length c4) into
  ho : Kd.R (Kd.int .i64) 3 W N (fun k => N ≤ k) (.slice (some ⟨gd, 0, none⟩) d.length cap) d
  l1 : d.length = into.length
  hN : w.heap.size ≤ N
variable {w : World} {N g1 g2 g4 g8 gd cap : Nat} {a0 a1 : Int} {A : Option Addr} {c : Nat} {l : List S46} {A4 : Option Addr} {c4 : Nat} {into : List Int} {W : World} {d : List Int}
theorem SrtS.ge (h : SrtS w N g1 g2 g4 g8 gd cap a0 a1 A c l A4 c4 into W d) : N ≤ gd := Kd.R_base h.ho gd rfl
theorem SrtS.drew (h : SrtS w N g1 g2 g4 g8 gd cap a0 a1 A c l A4 c4 into W d) (m : Nat) : SrtS w N g1 g2 g4 g8 gd cap a0 a1 A c l A4 c4 into (W.drewN m) d :=
  ⟨pw_below_drewN h.hb m, h.b1, h.b2, h.b4, h.b8, Kd.R_drewN h.hi m, Kd.R_drewN h.ho m, h.l1, h.hN⟩
theorem SrtS.ne {g t : Nat} {cs : Array Value} (h : SrtS w N g1 g2 g4 g8 gd cap a0 a1 A c l A4 c4 into W d) (hb : W.heap[g]? = some (.cells cs t (0, 0))) (ht : 3 ≠ t) : g ≠ gd := fun e => Kd.R_ne h.ho hb ht (by rw [e]; rfl)
theorem SrtS.put (h : SrtS w N g1 g2 g4 g8 gd cap a0 a1 A c l A4 c4 into W d) (i : Nat) (x : Int) : SrtS w N g1 g2 g4 g8 gd cap a0 a1 A c l A4 c4 into (W.setCell ⟨gd, i, none⟩ (.int .i64 x)) (d.set i x) := by
  have hg := h.ge
  have hN := h.hN
  refine ⟨below_set h.hb (by omega), blk_far h.b1 (h.ne h.b1 (by decide)) _, blk_far h.b2 (h.ne h.b2 (by decide)) _, blk_far h.b4 (h.ne h.b4 (by decide)) _, blk_far h.b8 (h.ne h.b8 (by decide)) _, Kd.R_far h.hi (fun k hk => by show k ≠ gd; omega) _, ?_, by rw [List.length_set]; exact h.l1, h.hN⟩
  have := (Kd.R_put h.ho (i : Int) x).1
  rw [Int.toNat_natCast] at this
  rw [List.length_set]
  exact this
/-- The key of the sort. -/
def skey (l : List S46) (into : List Int) (x : Int) : Int := mkey (rd_T46 l x).f0 (rd into x)
theorem SrtS.env (hl : l.length = into.length) (hn : (into.length : Int) ≤ 1152921504606846976) (hc : Kd.C k46 w A l.length l) (ht : ∀ x : Int, 0 ≤ x → x < into.length → 0 ≤ rd into x ∧ rd into x ≤ 1152921504606846976) :
    SortEnv (SrtS w N g1 g2 g4 g8 gd cap a0 a1 A c l A4 c4 into) gd into.length 69 #[.pointer (some ⟨g8, 0, none⟩)] (fun x => 0 ≤ x ∧ x < into.length) (skey l into) where
  len := fun h => h.l1
  n64 := hn
  eg := enters_of Try.func69 (by kernel_rfl) rfl
  rd := fun h i hi => by
    have := Kd.R_cell (0 : Int) h.ho (i : Int) (by omega) (by rw [h.l1]; omega)
    rw [Int.toNat_natCast] at this
    exact this
  wr := fun h i x hi => h.put i x
  dr := fun h m => h.drew m
  cmp := fun {W d} h x y hx hy => by
    have key : ∀ z : Int, 0 ≤ z ∧ z < into.length → ∀ m, Calls Try.prog 67 (#[.int .i64 z] ++ #[.pointer (some ⟨g1, 0, none⟩), .pointer (some ⟨g4, 0, none⟩)]) (W.drewN m) fun e w' => e = .returned (.int .i64 (skey l into z)) ∧ w' = W.drewN m := fun z hz m => by
      have h := h.drew m
      obtain ⟨ad, A2, c2, rfl, k0, _⟩ := at_T46 (Kd.C_below hc h.hb) z hz.1 (by omega)
      obtain ⟨A', c', e, _, hC⟩ := Kd.R_reads h.hi
      injection e with e1 _ e2
      subst e1 e2
      obtain ⟨_, _, hcells⟩ := Kd.reads_of_C (enc := Value.int .i64) (d := (0 : Int)) (h1 := fun _ => rfl) hC
      obtain ⟨ad4, rfl, hc4⟩ := hcells (by omega)
      have ct := hc4 z.toNat (by omega)
      exact key_any (n := l.length) (c := c) (n2 := into.length) (c2 := c4) z hz.1 (by omega) hz.2 (ht z hz.1 hz.2).1 (ht z hz.1 hz.2).2 (by rw [blk_cell h.b1]; rfl) k0 (by rw [blk_cell h.b4]; rfl) ct
    have kb : ∀ z : Int, 0 ≤ z ∧ z < into.length → 0 ≤ skey l into z ∧ skey l into z ≤ 4611686018427387904 := fun z hz => by
      have := ht z hz.1 hz.2
      unfold skey mkey
      split <;> omega
    exact cmp_any x y _ _ (kb x hx).1 (kb x hx).2 (kb y hy).1 (kb y hy).2 (enters_of Try.func67 (by kernel_rfl) rfl) (by rw [blk_cell h.b8]; rfl) (key x hx) (key y hy)
end Go.Proofs.Ytbelnopbggkdfaa.Q
end

section
namespace Go.Proofs.Ytbelnopbggkdfaa.Q
open Go.RowKit Go.Proofs.YtbelnopbggkdfaaW.PrintWords Go.Proofs.YtbelnopbggkdfaaW.PrintLast Go.Proofs.YtbelnopbggkdfaaW.PrintMore
attribute [local go_sem] max2_int min2_int max_two min_two max_three min_three max_four min_four   -- for this text's walks alone
set_option linter.unusedVariables false
set_option linter.unusedSimpArgs false
def circuit_Copy.l0 : Nat → List (S46) → Int → Int → Int → Int → List (S46) → Option (Int × Int × (List (S46)))
  | 0, _, _, _, _, _, _ => none
  | k + 1, x12, x13, x14, x115000, x115001, x115002 => if x14 < x13 then (if 0 ≤ x14 then (if x14 < (x12.length : Int) then ((slices_Clone_int_int.f ((rd_T46 x12 x14).f2)).bind fun t117 => (if x115002.length < 2199023255552 then (circuit_Copy.l0 k x12 x13 (wrap64 (x14 + 1)) x115000 x115001 (x115002 ++ [(⟨(rd_T46 x12 x14).f0, (rd_T46 x12 x14).f1, t117, (rd_T46 x12 x14).f3, (rd_T46 x12 x14).f4, (rd_T46 x12 x14).f5⟩ : S46)])) else (none))) else (none)) else (none)) else (some (x115000, x115001, x115002))
def circuit_Copy.f (k : Nat) (a0_0 : Int) (a0_1 : Int) (l0_2 : List (S46)) : Option (Int × Int × (List (S46))) := circuit_Copy.l0 k l0_2 (l0_2.length : Int) 0 a0_0 a0_1 ([] : List (S46))
set_option maxHeartbeats 8000000 in
set_option maxRecDepth 100000 in
theorem circuit_Copy.calls (k : Nat) (a0_0 : Int) (a0_1 : Int) (A0_2 : Option Addr) (c0_2 : Nat) (l0_2 : List (S46)) (r1 : Int) (r2 : Int) (r3 : List (S46)) (w : World) (hr0_2 : Kd.C k46 w A0_2 l0_2.length l0_2) (hc0_2 : l0_2.length ≤ c0_2) (h : circuit_Copy.f k a0_0 a0_1 l0_2 = some (r1, r2, r3)) :
    Calls Try.prog 54 #[.agg #[.int .i64 a0_0, .int .i64 a0_1, .slice A0_2 l0_2.length c0_2]] w fun e w' => ∃ v2_ : Value, e = .returned (.agg #[.int .i64 r1, .int .i64 r2, v2_]) ∧ Kd.S k46 46 w' w.heap.size (fun _ => True) v2_ r3 ∧ Below w.heap.size w w' := by
  have hu24 := Try.underlying24
  have hu46 := Try.underlying46
  have HR0_2 := Aside0.mk hr0_2
  have HC0_2 := Aside0.mk hc0_2
  clear hr0_2 hc0_2
  have HB := Aside0.mk (Below.refl w.heap.size w)
  have H : (circuit_Copy.l0 k l0_2 (l0_2.length : Int) 0 a0_0 a0_1 ([] : List (S46))) = some (r1, r2, r3) := h
  clear h
  have H' := Aside0.mk H
  clear H
  go_enter Try.func54, Try.ntmps54
  go_wp2_with (first | ((with_reducible refine gate_dst (N := 1) rfl ?_); refine box_event ?hg (N := 1) ?hd (cs := #[.int .i64 a0_0, .int .i64 a0_1, .slice A0_2 l0_2.length c0_2]) (t := 24) ?hr ?_; (case hd => rfl); (case hg => rfl); (case hr => first | (go_simp; done) | (go_simp; rfl)); intro gb112 hg w2 hbox hb; have n0_ := Aside0.mk (below_step (by repeat (first | (with_reducible first | exact HB.out | apply below_alloc | apply pw_below_drewN | apply below_drew1) | exact HB.out)) hb); have n1_ := Aside0.mk (hbox); have n2_ := Aside0.mk ((by rw [hg]; exact (below_size (by repeat (first | (with_reducible first | exact HB.out | apply below_alloc | apply pw_below_drewN | apply below_drew1) | exact HB.out))) : w.heap.size ≤ gb112)); have n3_ := Aside0.mk ((by rw [hg]; exact (below_size (by repeat (first | (with_reducible first | exact HB.out | apply below_alloc | apply pw_below_drewN | apply below_drew1) | exact HB.out))) : w.heap.size ≤ gb112)); clear HB; have HB := n0_; have BK112 := n1_; have GW112 := n2_; have GE112 := n3_; clear n0_ n1_ n2_ n3_; clear hb hbox hg) | ((with_reducible refine gate_dst (N := 2) rfl ?_); refine box_event ?hg (N := 2) ?hd (cs := #[.int .i64 0, .int .i64 0, .slice none 0 0]) (t := 24) ?hr ?_; (case hd => rfl); (case hg => rfl); (case hr => first | (go_simp; done) | (go_simp; rfl)); intro gb113 hg w3 hbox hb; have n0_ := Aside0.mk (blk_below (g := gb112) (o := .cells #[.int .i64 a0_0, .int .i64 a0_1, .slice A0_2 l0_2.length c0_2] 24 (0, 0)) (by (with_reducible repeat (first | refine blk_drewN ?_ _ | refine blk_drew ?_ | refine blk_alloc ?_ _)); exact BK112.out) hb); have n1_ := Aside0.mk (below_step (by repeat (first | (with_reducible first | exact HB.out | apply below_alloc | apply pw_below_drewN | apply below_drew1 | refine below_set ?_ GE112.out) | exact HB.out)) hb); have n2_ := Aside0.mk (hbox); have n3_ := Aside0.mk ((by rw [hg]; exact (below_size (by repeat (first | (with_reducible first | exact HB.out | apply below_alloc | apply pw_below_drewN | apply below_drew1 | refine below_set ?_ GE112.out) | exact HB.out))) : w.heap.size ≤ gb113)); have n4_ := Aside0.mk ((by rw [hg]; exact (below_size (by repeat (first | (with_reducible first | exact HB.out | apply below_alloc | apply pw_below_drewN | apply below_drew1 | refine below_set ?_ GE112.out) | exact HB.out))) : w.heap.size ≤ gb113)); have n5_ := Aside0.mk ((by rw [hg]; exact Nat.ne_of_lt (blk_lt (g := gb112) (o := .cells #[.int .i64 a0_0, .int .i64 a0_1, .slice A0_2 l0_2.length c0_2] 24 (0, 0)) (by (with_reducible repeat (first | refine blk_drewN ?_ _ | refine blk_drew ?_ | refine blk_alloc ?_ _)); exact BK112.out)) : gb112 ≠ gb113)); have n6_ := Aside0.mk ((by rw [hg]; exact Nat.ne_of_gt (blk_lt (g := gb112) (o := .cells #[.int .i64 a0_0, .int .i64 a0_1, .slice A0_2 l0_2.length c0_2] 24 (0, 0)) (by (with_reducible repeat (first | refine blk_drewN ?_ _ | refine blk_drew ?_ | refine blk_alloc ?_ _)); exact BK112.out)) : gb113 ≠ gb112)); clear BK112; clear HB; have BK112 := n0_; have HB := n1_; have BK113 := n2_; have GW113 := n3_; have GE113 := n4_; have NB112_113 := n5_; have NB113_112 := n6_; clear n0_ n1_ n2_ n3_ n4_ n5_ n6_; clear hb hbox hg; have hnb4 := NB112_113.out; have hnc4 := NB113_112.out; have hcz5_0 : w3.cell? ⟨gb112, 0, none⟩ = some (.int .i64 a0_0) := (blk_cell BK112.out 0).trans rfl; have hcz5_1 : w3.cell? ⟨gb112, 1, none⟩ = some (.int .i64 a0_1) := (blk_cell BK112.out 1).trans rfl; have hcz5_2 : w3.cell? ⟨gb112, 2, none⟩ = some (.slice A0_2 l0_2.length c0_2) := (blk_cell BK112.out 2).trans rfl; have hfz5_0 := blk_frozen BK112.out 0; have hfz5_1 := blk_frozen BK112.out 1; have hfz5_2 := blk_frozen BK112.out 2) | ((with_reducible refine gate_dst (N := 3) rfl ?_); refine box_event ?hg (N := 3) ?hd (cs := #[.int .i64 0, .int .i64 0, .slice none 0 0]) (t := 24) ?hr ?_; (case hd => rfl); (case hg => rfl); (case hr => first | (go_simp; done) | (go_simp; rfl)); intro gb114 hg w6 hbox hb; have n0_ := Aside0.mk (blk_below (g := gb112) (o := .cells #[.int .i64 a0_0, .int .i64 a0_1, .slice A0_2 l0_2.length c0_2] 24 (0, 0)) (by (with_reducible repeat (first | refine blk_drewN ?_ _ | refine blk_drew ?_ | refine blk_alloc ?_ _)); exact BK112.out) hb); have n1_ := Aside0.mk (blk_below (g := gb113) (o := .cells #[.int .i64 0, .int .i64 0, .slice none 0 0] 24 (0, 0)) (by (with_reducible repeat (first | refine blk_drewN ?_ _ | refine blk_drew ?_ | refine blk_alloc ?_ _)); exact BK113.out) hb); have n2_ := Aside0.mk (below_step (by repeat (first | (with_reducible first | exact HB.out | apply below_alloc | apply pw_below_drewN | apply below_drew1 | refine below_set ?_ GE112.out | refine below_set ?_ GE113.out) | exact HB.out)) hb); have n3_ := Aside0.mk (hbox); have n4_ := Aside0.mk ((by rw [hg]; exact (below_size (by repeat (first | (with_reducible first | exact HB.out | apply below_alloc | apply pw_below_drewN | apply below_drew1 | refine below_set ?_ GE112.out | refine below_set ?_ GE113.out) | exact HB.out))) : w.heap.size ≤ gb114)); have n5_ := Aside0.mk ((by rw [hg]; exact (below_size (by repeat (first | (with_reducible first | exact HB.out | apply below_alloc | apply pw_below_drewN | apply below_drew1 | refine below_set ?_ GE112.out | refine below_set ?_ GE113.out) | exact HB.out))) : w.heap.size ≤ gb114)); have n6_ := Aside0.mk ((by rw [hg]; exact Nat.ne_of_lt (blk_lt (g := gb112) (o := .cells #[.int .i64 a0_0, .int .i64 a0_1, .slice A0_2 l0_2.length c0_2] 24 (0, 0)) (by (with_reducible repeat (first | refine blk_drewN ?_ _ | refine blk_drew ?_ | refine blk_alloc ?_ _)); exact BK112.out)) : gb112 ≠ gb114)); have n7_ := Aside0.mk ((by rw [hg]; exact Nat.ne_of_gt (blk_lt (g := gb112) (o := .cells #[.int .i64 a0_0, .int .i64 a0_1, .slice A0_2 l0_2.length c0_2] 24 (0, 0)) (by (with_reducible repeat (first | refine blk_drewN ?_ _ | refine blk_drew ?_ | refine blk_alloc ?_ _)); exact BK112.out)) : gb114 ≠ gb112)); have n8_ := Aside0.mk ((by rw [hg]; exact Nat.ne_of_lt (blk_lt (g := gb113) (o := .cells #[.int .i64 0, .int .i64 0, .slice none 0 0] 24 (0, 0)) (by (with_reducible repeat (first | refine blk_drewN ?_ _ | refine blk_drew ?_ | refine blk_alloc ?_ _)); exact BK113.out)) : gb113 ≠ gb114)); have n9_ := Aside0.mk ((by rw [hg]; exact Nat.ne_of_gt (blk_lt (g := gb113) (o := .cells #[.int .i64 0, .int .i64 0, .slice none 0 0] 24 (0, 0)) (by (with_reducible repeat (first | refine blk_drewN ?_ _ | refine blk_drew ?_ | refine blk_alloc ?_ _)); exact BK113.out)) : gb114 ≠ gb113)); clear BK112; clear BK113; clear HB; have BK112 := n0_; have BK113 := n1_; have HB := n2_; have BK114 := n3_; have GW114 := n4_; have GE114 := n5_; have NB112_114 := n6_; have NB114_112 := n7_; have NB113_114 := n8_; have NB114_113 := n9_; clear n0_ n1_ n2_ n3_ n4_ n5_ n6_ n7_ n8_ n9_; clear hb hbox hg; have hnb7 := NB114_112.out; have hnc7 := NB112_114.out; have hnb8 := NB114_113.out; have hnc8 := NB113_114.out; have hcz9_0 : w6.cell? ⟨gb114, 0, none⟩ = some (.int .i64 0) := (blk_cell BK114.out 0).trans rfl; have hcz9_1 : w6.cell? ⟨gb114, 1, none⟩ = some (.int .i64 0) := (blk_cell BK114.out 1).trans rfl; have hcz9_2 : w6.cell? ⟨gb114, 2, none⟩ = some (.slice none 0 0) := (blk_cell BK114.out 2).trans rfl; have hfz9_0 := blk_frozen BK114.out 0; have hfz9_1 := blk_frozen BK114.out 1; have hfz9_2 := blk_frozen BK114.out 2; have hcz10_0 : w6.cell? ⟨gb112, 0, none⟩ = some (.int .i64 a0_0) := (blk_cell BK112.out 0).trans rfl; have hcz10_1 : w6.cell? ⟨gb112, 1, none⟩ = some (.int .i64 a0_1) := (blk_cell BK112.out 1).trans rfl; have hcz10_2 : w6.cell? ⟨gb112, 2, none⟩ = some (.slice A0_2 l0_2.length c0_2) := (blk_cell BK112.out 2).trans rfl; have hfz10_0 := blk_frozen BK112.out 0; have hfz10_1 := blk_frozen BK112.out 1; have hfz10_2 := blk_frozen BK112.out 2))
  go_loopg [14] k (fun kq v14 w' => ∃ (x14_1 : Int) (x115002_1 : List (S46)) (u115002 : Value), v14 = .int .i64 x14_1 ∧ Aside0 (circuit_Copy.l0 kq l0_2 (l0_2.length : Int) x14_1 a0_0 a0_1 x115002_1 = some (r1, r2, r3)) ∧ Aside0 (kq ≤ k) ∧ Aside0 (Kd.S k46 46 w' w.heap.size (fun _ => True) u115002 x115002_1) ∧ Aside0 (w'.heap[gb112]? = some (.cells #[.int .i64 a0_0, .int .i64 a0_1, (.slice A0_2 l0_2.length c0_2)] 24 (0, 0))) ∧ Aside0 (w'.heap[gb113]? = some (.cells #[.int .i64 0, .int .i64 0, (.slice none 0 0)] 24 (0, 0))) ∧ Aside0 (w'.heap[gb114]? = some (.cells #[.int .i64 a0_0, .int .i64 a0_1, u115002] 24 (0, 0))) ∧ Aside0 (Below w.heap.size w w'))
  case atStart => exact ⟨(0), (([] : List (S46))), (.slice none 0 0), (by first | rfl | (simp; done) | (simp [*]; done)), H', ⟨Nat.le_refl _⟩, ⟨by first | exact Kd.S_nil _ _ _ _ _ | exact Kd.N_nil _ _ _ _ _ | exact Kd.V_nil _ _ _ _ _ | exact Kd.Q_nil _ _ _ _ _ | exact Kd.R_nil _ _ _ _ _⟩, ⟨by (with_reducible repeat (first | refine blk_drewN ?_ _ | refine blk_drew ?_ | refine blk_alloc ?_ _)); refine blk_far ?_ NB112_114.out _; (with_reducible repeat (first | refine blk_drewN ?_ _ | refine blk_drew ?_ | refine blk_alloc ?_ _)); refine blk_far ?_ NB112_114.out _; (with_reducible repeat (first | refine blk_drewN ?_ _ | refine blk_drew ?_ | refine blk_alloc ?_ _)); refine blk_far ?_ NB112_114.out _; (with_reducible repeat (first | refine blk_drewN ?_ _ | refine blk_drew ?_ | refine blk_alloc ?_ _)); exact BK112.out⟩, ⟨by (with_reducible repeat (first | refine blk_drewN ?_ _ | refine blk_drew ?_ | refine blk_alloc ?_ _)); refine blk_far ?_ NB113_114.out _; (with_reducible repeat (first | refine blk_drewN ?_ _ | refine blk_drew ?_ | refine blk_alloc ?_ _)); refine blk_far ?_ NB113_114.out _; (with_reducible repeat (first | refine blk_drewN ?_ _ | refine blk_drew ?_ | refine blk_alloc ?_ _)); refine blk_far ?_ NB113_114.out _; (with_reducible repeat (first | refine blk_drewN ?_ _ | refine blk_drew ?_ | refine blk_alloc ?_ _)); exact BK113.out⟩, ⟨by (with_reducible repeat (first | refine blk_drewN ?_ _ | refine blk_drew ?_ | refine blk_alloc ?_ _)); refine blk_put (cs := #[.int .i64 a0_0, .int .i64 a0_1, .slice none 0 0]) ?_ 2 _ rfl; (with_reducible repeat (first | refine blk_drewN ?_ _ | refine blk_drew ?_ | refine blk_alloc ?_ _)); refine blk_put (cs := #[.int .i64 a0_0, .int .i64 0, .slice none 0 0]) ?_ 1 _ rfl; (with_reducible repeat (first | refine blk_drewN ?_ _ | refine blk_drew ?_ | refine blk_alloc ?_ _)); refine blk_put (cs := #[.int .i64 0, .int .i64 0, .slice none 0 0]) ?_ 0 _ rfl; (with_reducible repeat (first | refine blk_drewN ?_ _ | refine blk_drew ?_ | refine blk_alloc ?_ _)); exact BK114.out⟩, ⟨by repeat (first | (with_reducible first | exact HB.out | apply below_alloc | apply pw_below_drewN | apply below_drew1 | refine below_set ?_ GE112.out | refine below_set ?_ GE113.out | refine below_set ?_ GE114.out) | exact HB.out)⟩⟩
  case round =>
    clear H'
    try clear p2
    try clear c4
    try clear c5
    try clear c7
    try clear c8
    try clear hcz10_0
    try clear hcz10_1
    try clear hcz10_2
    try clear hcz5_0
    try clear hcz5_1
    try clear hcz5_2
    try clear hcz9_0
    try clear hcz9_1
    try clear hcz9_2
    try clear hfz10_0
    try clear hfz10_1
    try clear hfz10_2
    try clear hfz5_0
    try clear hfz5_1
    try clear hfz5_2
    try clear hfz9_0
    try clear hfz9_1
    try clear hfz9_2
    obtain ⟨x14_1, x115002_1, u115002, rfl, HA, HK1, HO_115002, BK112, BK113, BK114, HB⟩ := hrel
    cases gk with
    | zero => exact absurd HA.out (by simp [circuit_Copy.l0])
    | succ k1 =>
      have H := HA.out
      clear HA
      simp only [circuit_Copy.l0] at H
      by_cases c11 : x14_1 < (l0_2.length : Int)
      · rw [if_pos c11] at H
        have c11b0 : decide (x14_1 < (l0_2.length : Int)) = true := decide_eq_true c11
        clear c11
        by_cases c12 : 0 ≤ x14_1
        · rw [if_pos c12] at H
          have c12b0 : decide (0 ≤ x14_1) = true := decide_eq_true c12
          clear c12
          by_cases c13 : x14_1 < (l0_2.length : Int)
          · rw [if_pos c13] at H
            have c13b0 : decide (x14_1 < (l0_2.length : Int)) = true := decide_eq_true c13
            clear c13
            replace H := Option.bind_eq_some_iff.mp H
            obtain ⟨t117, A140, H⟩ := H
            replace H : (if x115002_1.length < 2199023255552 then (circuit_Copy.l0 k1 l0_2 (l0_2.length : Int) (wrap64 (x14_1 + 1)) a0_0 a0_1 (x115002_1 ++ [(⟨(rd_T46 l0_2 x14_1).f0, (rd_T46 l0_2 x14_1).f1, t117, (rd_T46 l0_2 x14_1).f3, (rd_T46 l0_2 x14_1).f4, (rd_T46 l0_2 x14_1).f5⟩ : S46)])) else (none)) = some (r1, r2, r3) := H
            have A14 := Aside0.mk A140
            clear A140
            by_cases c15 : x115002_1.length < 2199023255552
            · rw [if_pos c15] at H
              have LMc15 := Aside0.mk c15
              clear c15
              obtain ⟨y120, hy120⟩ : ∃ y_ : List (S46), y_ = (x115002_1 ++ [(⟨(rd_T46 l0_2 x14_1).f0, (rd_T46 l0_2 x14_1).f1, t117, (rd_T46 l0_2 x14_1).f3, (rd_T46 l0_2 x14_1).f4, (rd_T46 l0_2 x14_1).f5⟩ : S46)]) := ⟨_, rfl⟩
              replace H : (circuit_Copy.l0 k1 l0_2 (l0_2.length : Int) (wrap64 (x14_1 + 1)) a0_0 a0_1 y120) = some (r1, r2, r3) := by first | (rw [hy120]; with_reducible exact H) | (have H2_ := (Option.bind_some _ _).symm.trans H; rw [hy120]; with_reducible exact H2_) | (have H2_ := (Option.bind_some _ _).symm.trans H; with_reducible exact H2_) | with_reducible exact H | (rw [hy120]; exact H) | exact H
              have Ny120 := Aside0.mk hy120
              clear hy120
              have H' := Aside0.mk H
              clear H
              have p115 : 0 ≤ (x14_1 : Int) := of_decide_eq_true (by first | (with_reducible assumption) | assumption)
              have q115 : x14_1 < (l0_2.length : Int) := of_decide_eq_true (by first | (with_reducible assumption) | assumption)
              obtain ⟨ad115, A115_2, c115_2, e115, hx115_0, hx115_1, hx115_2, hx115_3, hx115_4, hx115_5, hl115_2, hi115_2⟩ := at_T46 HR0_2.out x14_1 p115 q115
              cases e115
              replace hx115_0 := (HB.out.cell (World.block_lt_of_cell? w _ hx115_0)).trans hx115_0
              replace hx115_1 := (HB.out.cell (World.block_lt_of_cell? w _ hx115_1)).trans hx115_1
              replace hx115_2 := (HB.out.cell (World.block_lt_of_cell? w _ hx115_2)).trans hx115_2
              replace hx115_3 := (HB.out.cell (World.block_lt_of_cell? w _ hx115_3)).trans hx115_3
              replace hx115_4 := (HB.out.cell (World.block_lt_of_cell? w _ hx115_4)).trans hx115_4
              replace hx115_5 := (HB.out.cell (World.block_lt_of_cell? w _ hx115_5)).trans hx115_5
              have HR115_2 := Aside0.mk hi115_2
              have HC115_2 := Aside0.mk hl115_2
              clear hi115_2 hl115_2
              replace p115 := eq_true p115
              replace q115 := eq_true q115
              go_wp2_with (first | ((with_reducible refine gate_dst (N := 5) rfl ?_); refine box_event ?hg (N := 5) ?hd (cs := #[.int .i64 0, .int .i64 0, .slice none 0 0, .int .i64 0, .int .i64 0, .int .i64 0]) (t := 46) ?hr ?_; (case hd => rfl); (case hg => rfl); (case hr => first | (go_simp; done) | (go_simp; rfl)); intro gb116 hg w16 hbox hb; have n0_ := Aside0.mk (Kd.S_below (Kd.S_elderB (by (with_reducible repeat (first | apply Kd.S_alloc | apply Kd.S_drewN | apply Kd.S_drew)); exact HO_115002.out) gb116 (Nat.le_of_eq hg.symm)) hb); have n1_ := Aside0.mk (blk_below (g := gb112) (o := .cells #[.int .i64 a0_0, .int .i64 a0_1, .slice (some ad115) l0_2.length c0_2] 24 (0, 0)) (by (with_reducible repeat (first | refine blk_drewN ?_ _ | refine blk_drew ?_ | refine blk_alloc ?_ _)); exact BK112.out) hb); have n2_ := Aside0.mk (blk_below (g := gb113) (o := .cells #[.int .i64 0, .int .i64 0, .slice none 0 0] 24 (0, 0)) (by (with_reducible repeat (first | refine blk_drewN ?_ _ | refine blk_drew ?_ | refine blk_alloc ?_ _)); exact BK113.out) hb); have n3_ := Aside0.mk (blk_below (g := gb114) (o := .cells #[.int .i64 a0_0, .int .i64 a0_1, u115002] 24 (0, 0)) (by (with_reducible repeat (first | refine blk_drewN ?_ _ | refine blk_drew ?_ | refine blk_alloc ?_ _)); exact BK114.out) hb); have n4_ := Aside0.mk (below_step (by repeat (first | (with_reducible first | exact HB.out | apply below_alloc | apply pw_below_drewN | apply below_drew1 | refine below_set ?_ GE112.out | refine below_set ?_ GE113.out | refine below_set ?_ GE114.out) | exact HB.out)) hb); have n5_ := Aside0.mk (hbox); have n6_ := Aside0.mk ((by rw [hg]; exact (below_size (by repeat (first | (with_reducible first | exact HB.out | apply below_alloc | apply pw_below_drewN | apply below_drew1 | refine below_set ?_ GE112.out | refine below_set ?_ GE113.out | refine below_set ?_ GE114.out) | exact HB.out))) : w.heap.size ≤ gb116)); have n7_ := Aside0.mk ((by rw [hg]; exact (below_size (by repeat (first | (with_reducible first | exact HB.out | apply below_alloc | apply pw_below_drewN | apply below_drew1 | refine below_set ?_ GE112.out | refine below_set ?_ GE113.out | refine below_set ?_ GE114.out) | exact HB.out))) : w.heap.size ≤ gb116)); have n8_ := Aside0.mk ((by rw [hg]; exact Nat.ne_of_lt (blk_lt (g := gb112) (o := .cells #[.int .i64 a0_0, .int .i64 a0_1, .slice (some ad115) l0_2.length c0_2] 24 (0, 0)) (by (with_reducible repeat (first | refine blk_drewN ?_ _ | refine blk_drew ?_ | refine blk_alloc ?_ _)); exact BK112.out)) : gb112 ≠ gb116)); have n9_ := Aside0.mk ((by rw [hg]; exact Nat.ne_of_gt (blk_lt (g := gb112) (o := .cells #[.int .i64 a0_0, .int .i64 a0_1, .slice (some ad115) l0_2.length c0_2] 24 (0, 0)) (by (with_reducible repeat (first | refine blk_drewN ?_ _ | refine blk_drew ?_ | refine blk_alloc ?_ _)); exact BK112.out)) : gb116 ≠ gb112)); have n10_ := Aside0.mk ((by rw [hg]; exact Nat.ne_of_lt (blk_lt (g := gb113) (o := .cells #[.int .i64 0, .int .i64 0, .slice none 0 0] 24 (0, 0)) (by (with_reducible repeat (first | refine blk_drewN ?_ _ | refine blk_drew ?_ | refine blk_alloc ?_ _)); exact BK113.out)) : gb113 ≠ gb116)); have n11_ := Aside0.mk ((by rw [hg]; exact Nat.ne_of_gt (blk_lt (g := gb113) (o := .cells #[.int .i64 0, .int .i64 0, .slice none 0 0] 24 (0, 0)) (by (with_reducible repeat (first | refine blk_drewN ?_ _ | refine blk_drew ?_ | refine blk_alloc ?_ _)); exact BK113.out)) : gb116 ≠ gb113)); have n12_ := Aside0.mk ((by rw [hg]; exact Nat.ne_of_lt (blk_lt (g := gb114) (o := .cells #[.int .i64 a0_0, .int .i64 a0_1, u115002] 24 (0, 0)) (by (with_reducible repeat (first | refine blk_drewN ?_ _ | refine blk_drew ?_ | refine blk_alloc ?_ _)); exact BK114.out)) : gb114 ≠ gb116)); have n13_ := Aside0.mk ((by rw [hg]; exact Nat.ne_of_gt (blk_lt (g := gb114) (o := .cells #[.int .i64 a0_0, .int .i64 a0_1, u115002] 24 (0, 0)) (by (with_reducible repeat (first | refine blk_drewN ?_ _ | refine blk_drew ?_ | refine blk_alloc ?_ _)); exact BK114.out)) : gb116 ≠ gb114)); clear HO_115002; clear BK112; clear BK113; clear BK114; clear HB; have HO_115002 := n0_; have BK112 := n1_; have BK113 := n2_; have BK114 := n3_; have HB := n4_; have BK116 := n5_; have GW116 := n6_; have GE116 := n7_; have NB112_116 := n8_; have NB116_112 := n9_; have NB113_116 := n10_; have NB116_113 := n11_; have NB114_116 := n12_; have NB116_114 := n13_; clear n0_ n1_ n2_ n3_ n4_ n5_ n6_ n7_ n8_ n9_ n10_ n11_ n12_ n13_; clear hb hbox hg; have hnb17 := NB116_112.out; have hnc17 := NB112_116.out; have hnb18 := NB116_113.out; have hnc18 := NB113_116.out; have hnb19 := NB116_114.out; have hnc19 := NB114_116.out; have hcz20_0 : w16.cell? ⟨gb116, 0, none⟩ = some (.int .i64 0) := (blk_cell BK116.out 0).trans rfl; have hcz20_1 : w16.cell? ⟨gb116, 1, none⟩ = some (.int .i64 0) := (blk_cell BK116.out 1).trans rfl; have hcz20_2 : w16.cell? ⟨gb116, 2, none⟩ = some (.slice none 0 0) := (blk_cell BK116.out 2).trans rfl; have hcz20_3 : w16.cell? ⟨gb116, 3, none⟩ = some (.int .i64 0) := (blk_cell BK116.out 3).trans rfl; have hcz20_4 : w16.cell? ⟨gb116, 4, none⟩ = some (.int .i64 0) := (blk_cell BK116.out 4).trans rfl; have hcz20_5 : w16.cell? ⟨gb116, 5, none⟩ = some (.int .i64 0) := (blk_cell BK116.out 5).trans rfl; have hfz20_0 := blk_frozen BK116.out 0; have hfz20_1 := blk_frozen BK116.out 1; have hfz20_2 := blk_frozen BK116.out 2; have hfz20_3 := blk_frozen BK116.out 3; have hfz20_4 := blk_frozen BK116.out 4; have hfz20_5 := blk_frozen BK116.out 5) | ((with_reducible refine gate_callee (f := 50) rfl ?_); refine goesL_ (some 20) rfl rfl Try.func50 (by kernel_rfl) rfl #[.slice A115_2 ((rd_T46 l0_2 x14_1).f2).length c115_2] rfl (by (try simp only [List.map_toArray, List.map_cons, List.map_nil]); first | done | rfl | (simp only [List.length_drop, List.length_take]; rfl)) ?_; (with_reducible refine (slices_Clone_int_int.calls _ _ ((rd_T46 l0_2 x14_1).f2) t117 _ ?side1 ?side2 A14.out).mono ?_); (case side1 => exact Kd.C_below HR115_2.out (by repeat (first | (with_reducible first | exact HB.out | apply below_alloc | apply pw_below_drewN | apply below_drew1 | refine below_set ?_ GE112.out | refine below_set ?_ GE113.out | refine below_set ?_ GE114.out | refine below_set ?_ GE116.out) | exact HB.out))); (case side2 => exact HC115_2.out); rintro e w21 ⟨v118, rfl, ho0, hb⟩; refine ⟨_, rfl, ?_⟩; have n0_ := Aside0.mk (Kd.S_elder' (by (with_reducible repeat (first | apply Kd.S_alloc | apply Kd.S_drewN | apply Kd.S_drew)); exact (Kd.S_mono (Kd.S_far (p := ⟨gb116, 5, none⟩) (Kd.S_far (p := ⟨gb116, 4, none⟩) (Kd.S_far (p := ⟨gb116, 3, none⟩) (Kd.S_far (p := ⟨gb116, 2, none⟩) (Kd.S_far (p := ⟨gb116, 1, none⟩) (Kd.S_far (p := ⟨gb116, 0, none⟩) (Kd.S_mono HO_115002.out (fun k_ hk => (⟨hk, hk.2⟩ : _ ∧ k_ ≠ gb116))) (fun _ hk => hk.2) (.int .i64 ((rd_T46 l0_2 x14_1).f0))) (fun _ hk => hk.2) (.int .i64 ((rd_T46 l0_2 x14_1).f1))) (fun _ hk => hk.2) (.slice A115_2 ((rd_T46 l0_2 x14_1).f2).length c115_2)) (fun _ hk => hk.2) (.int .i64 ((rd_T46 l0_2 x14_1).f3))) (fun _ hk => hk.2) (.int .i64 ((rd_T46 l0_2 x14_1).f4))) (fun _ hk => hk.2) (.int .i64 ((rd_T46 l0_2 x14_1).f5))) (fun _ h_ => h_.1))) (Kd.R_base ho0) hb); have n1_ := Aside0.mk (Kd.R_lower ho0 (below_size (by repeat (first | (with_reducible first | exact HB.out | apply below_alloc | apply pw_below_drewN | apply below_drew1 | refine below_set ?_ GE112.out | refine below_set ?_ GE113.out | refine below_set ?_ GE114.out | refine below_set ?_ GE116.out) | exact HB.out)))); have n2_ := Aside0.mk (blk_below (g := gb112) (o := .cells #[.int .i64 a0_0, .int .i64 a0_1, .slice (some ad115) l0_2.length c0_2] 24 (0, 0)) (by (with_reducible repeat (first | refine blk_drewN ?_ _ | refine blk_drew ?_ | refine blk_alloc ?_ _)); refine blk_far ?_ NB112_116.out _; (with_reducible repeat (first | refine blk_drewN ?_ _ | refine blk_drew ?_ | refine blk_alloc ?_ _)); refine blk_far ?_ NB112_116.out _; (with_reducible repeat (first | refine blk_drewN ?_ _ | refine blk_drew ?_ | refine blk_alloc ?_ _)); refine blk_far ?_ NB112_116.out _; (with_reducible repeat (first | refine blk_drewN ?_ _ | refine blk_drew ?_ | refine blk_alloc ?_ _)); refine blk_far ?_ NB112_116.out _; (with_reducible repeat (first | refine blk_drewN ?_ _ | refine blk_drew ?_ | refine blk_alloc ?_ _)); refine blk_far ?_ NB112_116.out _; (with_reducible repeat (first | refine blk_drewN ?_ _ | refine blk_drew ?_ | refine blk_alloc ?_ _)); refine blk_far ?_ NB112_116.out _; (with_reducible repeat (first | refine blk_drewN ?_ _ | refine blk_drew ?_ | refine blk_alloc ?_ _)); exact BK112.out) hb); have n3_ := Aside0.mk (blk_below (g := gb113) (o := .cells #[.int .i64 0, .int .i64 0, .slice none 0 0] 24 (0, 0)) (by (with_reducible repeat (first | refine blk_drewN ?_ _ | refine blk_drew ?_ | refine blk_alloc ?_ _)); refine blk_far ?_ NB113_116.out _; (with_reducible repeat (first | refine blk_drewN ?_ _ | refine blk_drew ?_ | refine blk_alloc ?_ _)); refine blk_far ?_ NB113_116.out _; (with_reducible repeat (first | refine blk_drewN ?_ _ | refine blk_drew ?_ | refine blk_alloc ?_ _)); refine blk_far ?_ NB113_116.out _; (with_reducible repeat (first | refine blk_drewN ?_ _ | refine blk_drew ?_ | refine blk_alloc ?_ _)); refine blk_far ?_ NB113_116.out _; (with_reducible repeat (first | refine blk_drewN ?_ _ | refine blk_drew ?_ | refine blk_alloc ?_ _)); refine blk_far ?_ NB113_116.out _; (with_reducible repeat (first | refine blk_drewN ?_ _ | refine blk_drew ?_ | refine blk_alloc ?_ _)); refine blk_far ?_ NB113_116.out _; (with_reducible repeat (first | refine blk_drewN ?_ _ | refine blk_drew ?_ | refine blk_alloc ?_ _)); exact BK113.out) hb); have n4_ := Aside0.mk (blk_below (g := gb114) (o := .cells #[.int .i64 a0_0, .int .i64 a0_1, u115002] 24 (0, 0)) (by (with_reducible repeat (first | refine blk_drewN ?_ _ | refine blk_drew ?_ | refine blk_alloc ?_ _)); refine blk_far ?_ NB114_116.out _; (with_reducible repeat (first | refine blk_drewN ?_ _ | refine blk_drew ?_ | refine blk_alloc ?_ _)); refine blk_far ?_ NB114_116.out _; (with_reducible repeat (first | refine blk_drewN ?_ _ | refine blk_drew ?_ | refine blk_alloc ?_ _)); refine blk_far ?_ NB114_116.out _; (with_reducible repeat (first | refine blk_drewN ?_ _ | refine blk_drew ?_ | refine blk_alloc ?_ _)); refine blk_far ?_ NB114_116.out _; (with_reducible repeat (first | refine blk_drewN ?_ _ | refine blk_drew ?_ | refine blk_alloc ?_ _)); refine blk_far ?_ NB114_116.out _; (with_reducible repeat (first | refine blk_drewN ?_ _ | refine blk_drew ?_ | refine blk_alloc ?_ _)); refine blk_far ?_ NB114_116.out _; (with_reducible repeat (first | refine blk_drewN ?_ _ | refine blk_drew ?_ | refine blk_alloc ?_ _)); exact BK114.out) hb); have n5_ := Aside0.mk (blk_below (g := gb116) (o := .cells #[.int .i64 ((rd_T46 l0_2 x14_1).f0), .int .i64 ((rd_T46 l0_2 x14_1).f1), .slice A115_2 ((rd_T46 l0_2 x14_1).f2).length c115_2, .int .i64 ((rd_T46 l0_2 x14_1).f3), .int .i64 ((rd_T46 l0_2 x14_1).f4), .int .i64 ((rd_T46 l0_2 x14_1).f5)] 46 (0, 0)) (by (with_reducible repeat (first | refine blk_drewN ?_ _ | refine blk_drew ?_ | refine blk_alloc ?_ _)); refine blk_put (cs := #[.int .i64 ((rd_T46 l0_2 x14_1).f0), .int .i64 ((rd_T46 l0_2 x14_1).f1), .slice A115_2 ((rd_T46 l0_2 x14_1).f2).length c115_2, .int .i64 ((rd_T46 l0_2 x14_1).f3), .int .i64 ((rd_T46 l0_2 x14_1).f4), .int .i64 0]) ?_ 5 _ rfl; (with_reducible repeat (first | refine blk_drewN ?_ _ | refine blk_drew ?_ | refine blk_alloc ?_ _)); refine blk_put (cs := #[.int .i64 ((rd_T46 l0_2 x14_1).f0), .int .i64 ((rd_T46 l0_2 x14_1).f1), .slice A115_2 ((rd_T46 l0_2 x14_1).f2).length c115_2, .int .i64 ((rd_T46 l0_2 x14_1).f3), .int .i64 0, .int .i64 0]) ?_ 4 _ rfl; (with_reducible repeat (first | refine blk_drewN ?_ _ | refine blk_drew ?_ | refine blk_alloc ?_ _)); refine blk_put (cs := #[.int .i64 ((rd_T46 l0_2 x14_1).f0), .int .i64 ((rd_T46 l0_2 x14_1).f1), .slice A115_2 ((rd_T46 l0_2 x14_1).f2).length c115_2, .int .i64 0, .int .i64 0, .int .i64 0]) ?_ 3 _ rfl; (with_reducible repeat (first | refine blk_drewN ?_ _ | refine blk_drew ?_ | refine blk_alloc ?_ _)); refine blk_put (cs := #[.int .i64 ((rd_T46 l0_2 x14_1).f0), .int .i64 ((rd_T46 l0_2 x14_1).f1), .slice none 0 0, .int .i64 0, .int .i64 0, .int .i64 0]) ?_ 2 _ rfl; (with_reducible repeat (first | refine blk_drewN ?_ _ | refine blk_drew ?_ | refine blk_alloc ?_ _)); refine blk_put (cs := #[.int .i64 ((rd_T46 l0_2 x14_1).f0), .int .i64 0, .slice none 0 0, .int .i64 0, .int .i64 0, .int .i64 0]) ?_ 1 _ rfl; (with_reducible repeat (first | refine blk_drewN ?_ _ | refine blk_drew ?_ | refine blk_alloc ?_ _)); refine blk_put (cs := #[.int .i64 0, .int .i64 0, .slice none 0 0, .int .i64 0, .int .i64 0, .int .i64 0]) ?_ 0 _ rfl; (with_reducible repeat (first | refine blk_drewN ?_ _ | refine blk_drew ?_ | refine blk_alloc ?_ _)); exact BK116.out) hb); have n6_ := Aside0.mk (below_step (by repeat (first | (with_reducible first | exact HB.out | apply below_alloc | apply pw_below_drewN | apply below_drew1 | refine below_set ?_ GE112.out | refine below_set ?_ GE113.out | refine below_set ?_ GE114.out | refine below_set ?_ GE116.out) | exact HB.out)) hb); clear HO_115002; clear BK112; clear BK113; clear BK114; clear BK116; clear HB; have HO_115002 := n0_; have HO119 := n1_; have BK112 := n2_; have BK113 := n3_; have BK114 := n4_; have BK116 := n5_; have HB := n6_; clear n0_ n1_ n2_ n3_ n4_ n5_ n6_; (try clear hb); (try clear hb2); (try clear hk); (try clear hi); (try clear ho0); obtain ⟨Ao22, co22, eo22⟩ := Kd.R_slice HO119.out; subst eo22; have hcz23_0 : w21.cell? ⟨gb116, 0, none⟩ = some (.int .i64 ((rd_T46 l0_2 x14_1).f0)) := (blk_cell BK116.out 0).trans rfl; have hcz23_1 : w21.cell? ⟨gb116, 1, none⟩ = some (.int .i64 ((rd_T46 l0_2 x14_1).f1)) := (blk_cell BK116.out 1).trans rfl; have hcz23_2 : w21.cell? ⟨gb116, 2, none⟩ = some (.slice A115_2 ((rd_T46 l0_2 x14_1).f2).length c115_2) := (blk_cell BK116.out 2).trans rfl; have hcz23_3 : w21.cell? ⟨gb116, 3, none⟩ = some (.int .i64 ((rd_T46 l0_2 x14_1).f3)) := (blk_cell BK116.out 3).trans rfl; have hcz23_4 : w21.cell? ⟨gb116, 4, none⟩ = some (.int .i64 ((rd_T46 l0_2 x14_1).f4)) := (blk_cell BK116.out 4).trans rfl; have hcz23_5 : w21.cell? ⟨gb116, 5, none⟩ = some (.int .i64 ((rd_T46 l0_2 x14_1).f5)) := (blk_cell BK116.out 5).trans rfl; have hfz23_0 := blk_frozen BK116.out 0; have hfz23_1 := blk_frozen BK116.out 1; have hfz23_2 := blk_frozen BK116.out 2; have hfz23_3 := blk_frozen BK116.out 3; have hfz23_4 := blk_frozen BK116.out 4; have hfz23_5 := blk_frozen BK116.out 5) | ((with_reducible refine gate_store (t := 37) (p := 21) rfl ?_); refine store_event (t := 37) (p := 21) (v := ?vo_w24) (w1 := (w21.setCell ⟨gb116, 2, none⟩ (.slice Ao22 t117.length co22))) ?hg ?ho ?hn ?hr ?_; (case ho => rfl); (case hg => rfl); (case hn => rfl); (case hr => first | (go_simp; done) | (go_simp; rfl)); intro w24 hw; have n0_ : Aside0 (Kd.S k46 46 w24 w.heap.size (fun k_ => some k_ ≠ (.slice Ao22 t117.length co22 : Value).ownBlock ∧ k_ ≠ gb116) u115002 x115002_1) := ⟨(by rw [hw]; exact (by (with_reducible repeat (first | apply Kd.S_alloc | apply Kd.S_drewN | apply Kd.S_drew)); exact Kd.S_mono (Kd.S_far (p := ⟨gb116, 2, none⟩) (Kd.S_mono HO_115002.out (fun k_ hk => (⟨hk, hk.1.2⟩ : _ ∧ k_ ≠ gb116))) (fun _ hk => hk.2) (.slice Ao22 t117.length co22)) (fun _ hk => ⟨hk.1.2, hk.1.1.2⟩)))⟩; have n1_ : Aside0 (Kd.R (Kd.int .i64) 3 w24 w.heap.size (fun _ => True) (.slice Ao22 t117.length co22) t117) := ⟨(by rw [hw]; exact (by (with_reducible repeat (first | apply Kd.R_alloc | apply Kd.R_drewN | apply Kd.R_drew)); exact Kd.R_mono (Kd.R_far (p := ⟨gb116, 2, none⟩) (Kd.R_types HO119.out BK116.out (by decide)) (fun _ hk => hk.2) (.slice Ao22 t117.length co22)) (fun _ hk => trivial)))⟩; have n2_ : Aside0 (w24.heap[gb112]? = some (.cells #[.int .i64 a0_0, .int .i64 a0_1, .slice (some ad115) l0_2.length c0_2] 24 (0, 0))) := ⟨(by rw [hw]; exact (by (with_reducible repeat (first | refine blk_drewN ?_ _ | refine blk_drew ?_ | refine blk_alloc ?_ _)); refine blk_far ?_ NB112_116.out _; (with_reducible repeat (first | refine blk_drewN ?_ _ | refine blk_drew ?_ | refine blk_alloc ?_ _)); exact BK112.out))⟩; have n3_ : Aside0 (w24.heap[gb113]? = some (.cells #[.int .i64 0, .int .i64 0, .slice none 0 0] 24 (0, 0))) := ⟨(by rw [hw]; exact (by (with_reducible repeat (first | refine blk_drewN ?_ _ | refine blk_drew ?_ | refine blk_alloc ?_ _)); refine blk_far ?_ NB113_116.out _; (with_reducible repeat (first | refine blk_drewN ?_ _ | refine blk_drew ?_ | refine blk_alloc ?_ _)); exact BK113.out))⟩; have n4_ : Aside0 (w24.heap[gb114]? = some (.cells #[.int .i64 a0_0, .int .i64 a0_1, u115002] 24 (0, 0))) := ⟨(by rw [hw]; exact (by (with_reducible repeat (first | refine blk_drewN ?_ _ | refine blk_drew ?_ | refine blk_alloc ?_ _)); refine blk_far ?_ NB114_116.out _; (with_reducible repeat (first | refine blk_drewN ?_ _ | refine blk_drew ?_ | refine blk_alloc ?_ _)); exact BK114.out))⟩; have n5_ : Aside0 (w24.heap[gb116]? = some (.cells #[.int .i64 ((rd_T46 l0_2 x14_1).f0), .int .i64 ((rd_T46 l0_2 x14_1).f1), .slice Ao22 t117.length co22, .int .i64 ((rd_T46 l0_2 x14_1).f3), .int .i64 ((rd_T46 l0_2 x14_1).f4), .int .i64 ((rd_T46 l0_2 x14_1).f5)] 46 (0, 0))) := ⟨(by rw [hw]; exact (by (with_reducible repeat (first | refine blk_drewN ?_ _ | refine blk_drew ?_ | refine blk_alloc ?_ _)); refine blk_put (cs := #[.int .i64 ((rd_T46 l0_2 x14_1).f0), .int .i64 ((rd_T46 l0_2 x14_1).f1), .slice A115_2 ((rd_T46 l0_2 x14_1).f2).length c115_2, .int .i64 ((rd_T46 l0_2 x14_1).f3), .int .i64 ((rd_T46 l0_2 x14_1).f4), .int .i64 ((rd_T46 l0_2 x14_1).f5)]) ?_ 2 _ rfl; (with_reducible repeat (first | refine blk_drewN ?_ _ | refine blk_drew ?_ | refine blk_alloc ?_ _)); exact BK116.out))⟩; have n6_ : Aside0 (Below w.heap.size w w24) := ⟨(by rw [hw]; exact (by repeat (first | (with_reducible first | exact HB.out | apply below_alloc | apply pw_below_drewN | apply below_drew1 | refine below_set ?_ GE112.out | refine below_set ?_ GE113.out | refine below_set ?_ GE114.out | refine below_set ?_ GE116.out) | exact HB.out)))⟩; clear hw; clear HO_115002; clear HO119; clear BK112; clear BK113; clear BK114; clear BK116; clear HB; have HO_115002 := n0_; have HO119 := n1_; have BK112 := n2_; have BK113 := n3_; have BK114 := n4_; have BK116 := n5_; have HB := n6_; clear n0_ n1_ n2_ n3_ n4_ n5_ n6_; have hnb25 := NB114_112.out; have hnc25 := NB112_114.out; have hnb26 := NB114_113.out; have hnc26 := NB113_114.out; have hcz27_0 : w24.cell? ⟨gb114, 0, none⟩ = some (.int .i64 a0_0) := (blk_cell BK114.out 0).trans rfl; have hcz27_1 : w24.cell? ⟨gb114, 1, none⟩ = some (.int .i64 a0_1) := (blk_cell BK114.out 1).trans rfl; have hcz27_2 : w24.cell? ⟨gb114, 2, none⟩ = some (u115002) := (blk_cell BK114.out 2).trans rfl; have hfz27_0 := blk_frozen BK114.out 0; have hfz27_1 := blk_frozen BK114.out 1; have hfz27_2 := blk_frozen BK114.out 2; have hcz28_0 : w24.cell? ⟨gb116, 0, none⟩ = some (.int .i64 ((rd_T46 l0_2 x14_1).f0)) := (blk_cell BK116.out 0).trans rfl; have hcz28_1 : w24.cell? ⟨gb116, 1, none⟩ = some (.int .i64 ((rd_T46 l0_2 x14_1).f1)) := (blk_cell BK116.out 1).trans rfl; have hcz28_2 : w24.cell? ⟨gb116, 2, none⟩ = some (.slice Ao22 t117.length co22) := (blk_cell BK116.out 2).trans rfl; have hcz28_3 : w24.cell? ⟨gb116, 3, none⟩ = some (.int .i64 ((rd_T46 l0_2 x14_1).f3)) := (blk_cell BK116.out 3).trans rfl; have hcz28_4 : w24.cell? ⟨gb116, 4, none⟩ = some (.int .i64 ((rd_T46 l0_2 x14_1).f4)) := (blk_cell BK116.out 4).trans rfl; have hcz28_5 : w24.cell? ⟨gb116, 5, none⟩ = some (.int .i64 ((rd_T46 l0_2 x14_1).f5)) := (blk_cell BK116.out 5).trans rfl; have hfz28_0 := blk_frozen BK116.out 0; have hfz28_1 := blk_frozen BK116.out 1; have hfz28_2 := blk_frozen BK116.out 2; have hfz28_3 := blk_frozen BK116.out 3; have hfz28_4 := blk_frozen BK116.out 4; have hfz28_5 := blk_frozen BK116.out 5) | ((with_reducible refine gate_builtin (b := .append) (xs := #[.tmp 23, .tmp 25]) rfl ?_); at_builtin; refine Kd.S_append k46 (w0 := w) w.heap.size rfl (.tmp 23) (.tmp 25) 22 46 (.agg #[(.int .i64 0), (.int .i64 0), (.slice none 0 0), (.int .i64 0), (.int .i64 0), (.int .i64 0)]) 64 rfl Try.underlying22 info46 rfl (by decide) (by omega) u115002 x115002_1 (⟨(rd_T46 l0_2 x14_1).f0, (rd_T46 l0_2 x14_1).f1, t117, (rd_T46 l0_2 x14_1).f3, (rd_T46 l0_2 x14_1).f4, (rd_T46 l0_2 x14_1).f5⟩ : S46) [.int .i64 ((rd_T46 l0_2 x14_1).f0), .int .i64 ((rd_T46 l0_2 x14_1).f1), .slice Ao22 t117.length co22, .int .i64 ((rd_T46 l0_2 x14_1).f3), .int .i64 ((rd_T46 l0_2 x14_1).f4), .int .i64 ((rd_T46 l0_2 x14_1).f5)] (fun k_ => k_ ≠ gb116) (fun k_ => some k_ = (.slice Ao22 t117.length co22 : Value).ownBlock) rfl rfl ?aP (fun k_ hk_ => ((Kd.R_mono (ok' := fun k_ => ((fun k_ => k_ ≠ gb116)) k_ ∧ some k_ ≠ (u115002 : Value).ownBlock) (Kd.R_types (Kd.R_apart' (HO119.out) (Kd.S_typed HO_115002.out) (by decide)) BK116.out (by decide)) (fun k_ hk => ⟨hk.2, hk.1.2⟩))).1 k_ hk_.symm) ?aF ?aO ?aB ?aS ?aL ?_; (case aP => exact k46_mkM _ _ _ (⟨(rd_T46 l0_2 x14_1).f0, (rd_T46 l0_2 x14_1).f1, t117, (rd_T46 l0_2 x14_1).f3, (rd_T46 l0_2 x14_1).f4, (rd_T46 l0_2 x14_1).f5⟩ : S46) (Kd.R_mono (Kd.R_tight rfl (Kd.R_mono (ok' := fun k_ => ((fun k_ => k_ ≠ gb116)) k_ ∧ some k_ ≠ (u115002 : Value).ownBlock) (Kd.R_types (Kd.R_apart' (HO119.out) (Kd.S_typed HO_115002.out) (by decide)) BK116.out (by decide)) (fun k_ hk => ⟨hk.2, hk.1.2⟩))) (fun _ h_ => h_))); (case aB => exact (by repeat (first | (with_reducible first | exact HB.out | apply below_alloc | apply pw_below_drewN | apply below_drew1 | refine below_set ?_ GE112.out | refine below_set ?_ GE113.out | refine below_set ?_ GE114.out | refine below_set ?_ GE116.out) | exact HB.out))); (case aF => exact (fun k_ hk => Kd.freshB (g := gb116) (o := .cells #[.int .i64 ((rd_T46 l0_2 x14_1).f0), .int .i64 ((rd_T46 l0_2 x14_1).f1), .slice Ao22 t117.length co22, .int .i64 ((rd_T46 l0_2 x14_1).f3), .int .i64 ((rd_T46 l0_2 x14_1).f4), .int .i64 ((rd_T46 l0_2 x14_1).f5)] 46 (0, 0)) (by (with_reducible repeat (first | refine blk_drewN ?_ _ | refine blk_drew ?_ | refine blk_alloc ?_ _)); exact BK116.out) k_ hk)); (case aO => exact (by (with_reducible repeat (first | apply Kd.S_alloc | apply Kd.S_drewN | apply Kd.S_drew)); exact Kd.S_mono HO_115002.out (fun k_ hk => ⟨hk.2, fun e_ => hk.1 e_⟩))); (case aS => exact (below_size (by repeat (first | (with_reducible first | exact HB.out | apply below_alloc | apply pw_below_drewN | apply below_drew1 | refine below_set ?_ GE112.out | refine below_set ?_ GE113.out | refine below_set ?_ GE114.out | refine below_set ?_ GE116.out) | exact HB.out)))); (case aL => have := LMc15.out; omega); intro v121 w29 ho hb hg hat; rw [← Ny120.out] at ho; have n0_ := Aside0.mk (blk_grown (g := gb112) (o := .cells #[.int .i64 a0_0, .int .i64 a0_1, .slice (some ad115) l0_2.length c0_2] 24 (0, 0)) (by (with_reducible repeat (first | refine blk_drewN ?_ _ | refine blk_drew ?_ | refine blk_alloc ?_ _)); exact BK112.out) hg (Kd.S_ne HO_115002.out BK112.out (by decide))); have n1_ := Aside0.mk (blk_grown (g := gb113) (o := .cells #[.int .i64 0, .int .i64 0, .slice none 0 0] 24 (0, 0)) (by (with_reducible repeat (first | refine blk_drewN ?_ _ | refine blk_drew ?_ | refine blk_alloc ?_ _)); exact BK113.out) hg (Kd.S_ne HO_115002.out BK113.out (by decide))); have n2_ := Aside0.mk (blk_grown (g := gb114) (o := .cells #[.int .i64 a0_0, .int .i64 a0_1, u115002] 24 (0, 0)) (by (with_reducible repeat (first | refine blk_drewN ?_ _ | refine blk_drew ?_ | refine blk_alloc ?_ _)); exact BK114.out) hg (Kd.S_ne HO_115002.out BK114.out (by decide))); have n3_ := Aside0.mk (blk_grown (g := gb116) (o := .cells #[.int .i64 ((rd_T46 l0_2 x14_1).f0), .int .i64 ((rd_T46 l0_2 x14_1).f1), .slice Ao22 t117.length co22, .int .i64 ((rd_T46 l0_2 x14_1).f3), .int .i64 ((rd_T46 l0_2 x14_1).f4), .int .i64 ((rd_T46 l0_2 x14_1).f5)] 46 (0, 0)) (by (with_reducible repeat (first | refine blk_drewN ?_ _ | refine blk_drew ?_ | refine blk_alloc ?_ _)); exact BK116.out) hg (Kd.S_away HO_115002.out (fun _ hk => hk.2))); have n4_ := Aside0.mk (hb); have n5_ := Aside0.mk (ho); clear BK112; clear BK113; clear BK114; clear BK116; clear HB; clear HO_115002; clear HO119; have BK112 := n0_; have BK113 := n1_; have BK114 := n2_; have BK116 := n3_; have HB := n4_; have HO122 := n5_; clear n0_ n1_ n2_ n3_ n4_ n5_; clear ho hb hg hat; obtain ⟨Ao30, co30, eo30⟩ := Kd.S_slice HO122.out; subst eo30; have hcz31_0 : w29.cell? ⟨gb114, 0, none⟩ = some (.int .i64 a0_0) := (blk_cell BK114.out 0).trans rfl; have hcz31_1 : w29.cell? ⟨gb114, 1, none⟩ = some (.int .i64 a0_1) := (blk_cell BK114.out 1).trans rfl; have hcz31_2 : w29.cell? ⟨gb114, 2, none⟩ = some (u115002) := (blk_cell BK114.out 2).trans rfl; have hfz31_0 := blk_frozen BK114.out 0; have hfz31_1 := blk_frozen BK114.out 1; have hfz31_2 := blk_frozen BK114.out 2))
              go_roundg k1
              case measure => have := HK1.out; omega
              case rel => exact ⟨(wrap64 (x14_1 + 1)), (y120), (.slice Ao30 y120.length co30), (by first | rfl | (simp; done) | (simp [*]; done)), H', ⟨by have := HK1.out; omega⟩, ⟨by (with_reducible repeat (first | apply Kd.S_alloc | apply Kd.S_drewN | apply Kd.S_drew)); exact Kd.S_mono (Kd.S_far (p := ⟨gb114, 2, none⟩) (Kd.S_types HO122.out BK114.out (by decide)) (fun _ hk => hk.2) (.slice Ao30 y120.length co30)) (fun _ hk => trivial)⟩, ⟨by (with_reducible repeat (first | refine blk_drewN ?_ _ | refine blk_drew ?_ | refine blk_alloc ?_ _)); refine blk_far ?_ NB112_114.out _; (with_reducible repeat (first | refine blk_drewN ?_ _ | refine blk_drew ?_ | refine blk_alloc ?_ _)); exact BK112.out⟩, ⟨by (with_reducible repeat (first | refine blk_drewN ?_ _ | refine blk_drew ?_ | refine blk_alloc ?_ _)); refine blk_far ?_ NB113_114.out _; (with_reducible repeat (first | refine blk_drewN ?_ _ | refine blk_drew ?_ | refine blk_alloc ?_ _)); exact BK113.out⟩, ⟨by (with_reducible repeat (first | refine blk_drewN ?_ _ | refine blk_drew ?_ | refine blk_alloc ?_ _)); refine blk_put (cs := #[.int .i64 a0_0, .int .i64 a0_1, u115002]) ?_ 2 _ rfl; (with_reducible repeat (first | refine blk_drewN ?_ _ | refine blk_drew ?_ | refine blk_alloc ?_ _)); exact BK114.out⟩, ⟨by repeat (first | (with_reducible first | exact HB.out | apply below_alloc | apply pw_below_drewN | apply below_drew1 | refine below_set ?_ GE112.out | refine below_set ?_ GE113.out | refine below_set ?_ GE114.out | refine below_set ?_ GE116.out) | exact HB.out)⟩⟩
            · rw [if_neg c15] at H
              exact absurd H (by simp)
          · rw [if_neg c13] at H
            exact absurd H (by simp)
        · rw [if_neg c12] at H
          exact absurd H (by simp)
      · rw [if_neg c11] at H
        have c11b0 : decide (x14_1 < (l0_2.length : Int)) = false := decide_eq_false c11
        clear c11
        simp only [Option.some.injEq, Prod.mk.injEq] at H
        obtain ⟨rfl, rfl, rfl⟩ := H
        have hnb32 := NB114_112.out
        have hnc32 := NB112_114.out
        have hnb33 := NB114_113.out
        have hnc33 := NB113_114.out
        have hcz34_0 : wr.cell? ⟨gb114, 0, none⟩ = some (.int .i64 a0_0) := (blk_cell BK114.out 0).trans rfl
        have hcz34_1 : wr.cell? ⟨gb114, 1, none⟩ = some (.int .i64 a0_1) := (blk_cell BK114.out 1).trans rfl
        have hcz34_2 : wr.cell? ⟨gb114, 2, none⟩ = some (u115002) := (blk_cell BK114.out 2).trans rfl
        have hfz34_0 := blk_frozen BK114.out 0
        have hfz34_1 := blk_frozen BK114.out 1
        have hfz34_2 := blk_frozen BK114.out 2
        have hnb35 := NB113_112.out
        have hnc35 := NB112_113.out
        have hcz36_0 : wr.cell? ⟨gb113, 0, none⟩ = some (.int .i64 0) := (blk_cell BK113.out 0).trans rfl
        have hcz36_1 : wr.cell? ⟨gb113, 1, none⟩ = some (.int .i64 0) := (blk_cell BK113.out 1).trans rfl
        have hcz36_2 : wr.cell? ⟨gb113, 2, none⟩ = some (.slice none 0 0) := (blk_cell BK113.out 2).trans rfl
        have hfz36_0 := blk_frozen BK113.out 0
        have hfz36_1 := blk_frozen BK113.out 1
        have hfz36_2 := blk_frozen BK113.out 2
        obtain ⟨Ao37, co37, eo37⟩ := Kd.S_slice HO_115002.out
        subst eo37
        go_wp2
        refine bodyPost_ret (results_cell_row rfl _ _ gb113 24 #[.int .i64 a0_0, .int .i64 a0_1, .slice Ao37 x115002_1.length co37] (0, 0) _ rfl (by (with_reducible repeat (first | refine blk_drewN ?_ _ | refine blk_drew ?_ | refine blk_alloc ?_ _)); refine blk_put (cs := #[.int .i64 a0_0, .int .i64 a0_1, .slice none 0 0]) ?_ 2 _ rfl; (with_reducible repeat (first | refine blk_drewN ?_ _ | refine blk_drew ?_ | refine blk_alloc ?_ _)); refine blk_put (cs := #[.int .i64 a0_0, .int .i64 0, .slice none 0 0]) ?_ 1 _ rfl; (with_reducible repeat (first | refine blk_drewN ?_ _ | refine blk_drew ?_ | refine blk_alloc ?_ _)); refine blk_put (cs := #[.int .i64 0, .int .i64 0, .slice none 0 0]) ?_ 0 _ rfl; (with_reducible repeat (first | refine blk_drewN ?_ _ | refine blk_drew ?_ | refine blk_alloc ?_ _)); exact BK113.out) Try.underlying24 rfl (by kernel_rfl)) rfl ?_
        exact ⟨_, by first | rfl | (simp [errW_none, errW_some] <;> rfl) | (simp [*, errW_none, errW_some] <;> rfl), by (with_reducible repeat (first | apply Kd.S_alloc | apply Kd.S_drewN | apply Kd.S_drew)); exact Kd.S_mono (Kd.S_far (p := ⟨gb113, 2, none⟩) (Kd.S_far (p := ⟨gb113, 1, none⟩) (Kd.S_far (p := ⟨gb113, 0, none⟩) (Kd.S_types HO_115002.out BK113.out (by decide)) (fun _ hk => hk.2) (.int .i64 a0_0)) (fun _ hk => hk.2) (.int .i64 a0_1)) (fun _ hk => hk.2) (.slice Ao37 x115002_1.length co37)) (fun _ hk => trivial), by repeat (first | (with_reducible first | exact HB.out | apply below_alloc | apply pw_below_drewN | apply below_drew1 | refine below_set ?_ GE112.out | refine below_set ?_ GE113.out | refine below_set ?_ GE114.out) | exact HB.out)⟩
end Go.Proofs.Ytbelnopbggkdfaa.Q
end

section
namespace Go.Proofs.Ytbelnopbggkdfaa.Q
open Go.RowKit Go.Proofs.YtbelnopbggkdfaaW.PrintWords Go.Proofs.YtbelnopbggkdfaaW.PrintLast Go.Proofs.YtbelnopbggkdfaaW.PrintMore
attribute [local go_sem] max2_int min2_int max_two min_two max_three min_three max_four min_four   -- for this text's walks alone
set_option linter.unusedVariables false
set_option linter.unusedSimpArgs false
def layers_only.l0 : Nat → List (S46) → List Int → Int → Int → Int → Int → List (S46) → Option (Int × Int × (List (S46)))
  | 0, _, _, _, _, _, _, _ => none
  | k + 1, x6, x11, x12, x13, x508000, x508001, x508002 => if x13 < x12 then (if 0 ≤ x13 then (if x13 < (x11.length : Int) then (if 0 ≤ (rd x11 x13) then (if (rd x11 x13) < (x508002.length : Int) then (if x6.length < 2199023255552 then (layers_only.l0 k (x6 ++ [(⟨(rd_T46 x508002 (rd x11 x13)).f0, (rd_T46 x508002 (rd x11 x13)).f1, (rd_T46 x508002 (rd x11 x13)).f2, (rd_T46 x508002 (rd x11 x13)).f3, (rd_T46 x508002 (rd x11 x13)).f4, (rd_T46 x508002 (rd x11 x13)).f5⟩ : S46)]) x11 x12 (wrap64 (x13 + 1)) x508000 x508001 x508002) else (none)) else (none)) else (none)) else (none)) else (none)) else (some (x508000, x508001, x6))
def layers_only.f (k : Nat) (a0_0 : Int) (a0_1 : Int) (l0_2 : List (S46)) (l1 : List Int) : Option (Int × Int × (List (S46))) := (circuit_Copy.f k a0_0 a0_1 l0_2).bind fun bt502 => (layers_only.l0 k ([] : List (S46)) l1 (l1.length : Int) 0 bt502.1 bt502.2.1 bt502.2.2)
set_option maxHeartbeats 8000000 in
set_option maxRecDepth 100000 in
theorem layers_only.calls (k : Nat) (a0_0 : Int) (a0_1 : Int) (A0_2 : Option Addr) (c0_2 : Nat) (l0_2 : List (S46)) (A1 : Option Addr) (c1 : Nat) (l1 : List Int) (r1 : Int) (r2 : Int) (r3 : List (S46)) (w : World) (hr0_2 : Kd.C k46 w A0_2 l0_2.length l0_2) (hc0_2 : l0_2.length ≤ c0_2) (hr1 : Kd.C (Kd.int .i64) w A1 l1.length l1) (hc1 : l1.length ≤ c1) (h : layers_only.f k a0_0 a0_1 l0_2 l1 = some (r1, r2, r3)) :
    Calls Try.prog 70 #[.agg #[.int .i64 a0_0, .int .i64 a0_1, .slice A0_2 l0_2.length c0_2], .slice A1 l1.length c1] w fun e w' => ∃ v2_ : Value, e = .returned (.agg #[.int .i64 r1, .int .i64 r2, v2_]) ∧ Kd.N k46 46 w' w.heap.size (fun k_ => (w.heap.size ≤ k_)) v2_ r3 ∧ Below w.heap.size w w' := by
  have hu24 := Try.underlying24
  have hu46 := Try.underlying46
  have HR0_2 := Aside0.mk hr0_2
  have HC0_2 := Aside0.mk hc0_2
  clear hr0_2 hc0_2
  have HR1 := Aside0.mk hr1
  have HC1 := Aside0.mk hc1
  clear hr1 hc1
  have HB := Aside0.mk (Below.refl w.heap.size w)
  have H : ((circuit_Copy.f k a0_0 a0_1 l0_2).bind fun bt502 => (layers_only.l0 k ([] : List (S46)) l1 (l1.length : Int) 0 bt502.1 bt502.2.1 bt502.2.2)) = some (r1, r2, r3) := h
  clear h
  replace H := Option.bind_eq_some_iff.mp H
  obtain ⟨⟨t502, t503, t504⟩, A30, H⟩ := H
  replace H : (layers_only.l0 k ([] : List (S46)) l1 (l1.length : Int) 0 t502 t503 t504) = some (r1, r2, r3) := H
  have A3 := Aside0.mk A30
  clear A30
  have H' := Aside0.mk H
  clear H
  go_enter Try.func70, Try.ntmps70
  go_wp2_with (first | ((with_reducible refine gate_dst (N := 2) rfl ?_); refine box_event ?hg (N := 2) ?hd (cs := #[.int .i64 a0_0, .int .i64 a0_1, .slice A0_2 l0_2.length c0_2]) (t := 24) ?hr ?_; (case hd => rfl); (case hg => rfl); (case hr => first | (go_simp; done) | (go_simp; rfl)); intro gb500 hg w4 hbox hb; have n0_ := Aside0.mk (below_step (by repeat (first | (with_reducible first | exact HB.out | apply below_alloc | apply pw_below_drewN | apply below_drew1) | exact HB.out)) hb); have n1_ := Aside0.mk (hbox); have n2_ := Aside0.mk ((by rw [hg]; exact (below_size (by repeat (first | (with_reducible first | exact HB.out | apply below_alloc | apply pw_below_drewN | apply below_drew1) | exact HB.out))) : w.heap.size ≤ gb500)); have n3_ := Aside0.mk ((by rw [hg]; exact (below_size (by repeat (first | (with_reducible first | exact HB.out | apply below_alloc | apply pw_below_drewN | apply below_drew1) | exact HB.out))) : w.heap.size ≤ gb500)); clear HB; have HB := n0_; have BK500 := n1_; have GW500 := n2_; have GE500 := n3_; clear n0_ n1_ n2_ n3_; clear hb hbox hg) | ((with_reducible refine gate_dst (N := 4) rfl ?_); refine box_event ?hg (N := 4) ?hd (cs := #[.int .i64 0, .int .i64 0, .slice none 0 0]) (t := 24) ?hr ?_; (case hd => rfl); (case hg => rfl); (case hr => first | (go_simp; done) | (go_simp; rfl)); intro gb501 hg w5 hbox hb; have n0_ := Aside0.mk (blk_below (g := gb500) (o := .cells #[.int .i64 a0_0, .int .i64 a0_1, .slice A0_2 l0_2.length c0_2] 24 (0, 0)) (by (with_reducible repeat (first | refine blk_drewN ?_ _ | refine blk_drew ?_ | refine blk_alloc ?_ _)); exact BK500.out) hb); have n1_ := Aside0.mk (below_step (by repeat (first | (with_reducible first | exact HB.out | apply below_alloc | apply pw_below_drewN | apply below_drew1 | refine below_set ?_ GE500.out) | exact HB.out)) hb); have n2_ := Aside0.mk (hbox); have n3_ := Aside0.mk ((by rw [hg]; exact (below_size (by repeat (first | (with_reducible first | exact HB.out | apply below_alloc | apply pw_below_drewN | apply below_drew1 | refine below_set ?_ GE500.out) | exact HB.out))) : w.heap.size ≤ gb501)); have n4_ := Aside0.mk ((by rw [hg]; exact (below_size (by repeat (first | (with_reducible first | exact HB.out | apply below_alloc | apply pw_below_drewN | apply below_drew1 | refine below_set ?_ GE500.out) | exact HB.out))) : w.heap.size ≤ gb501)); have n5_ := Aside0.mk ((by rw [hg]; exact Nat.ne_of_lt (blk_lt (g := gb500) (o := .cells #[.int .i64 a0_0, .int .i64 a0_1, .slice A0_2 l0_2.length c0_2] 24 (0, 0)) (by (with_reducible repeat (first | refine blk_drewN ?_ _ | refine blk_drew ?_ | refine blk_alloc ?_ _)); exact BK500.out)) : gb500 ≠ gb501)); have n6_ := Aside0.mk ((by rw [hg]; exact Nat.ne_of_gt (blk_lt (g := gb500) (o := .cells #[.int .i64 a0_0, .int .i64 a0_1, .slice A0_2 l0_2.length c0_2] 24 (0, 0)) (by (with_reducible repeat (first | refine blk_drewN ?_ _ | refine blk_drew ?_ | refine blk_alloc ?_ _)); exact BK500.out)) : gb501 ≠ gb500)); clear BK500; clear HB; have BK500 := n0_; have HB := n1_; have BK501 := n2_; have GW501 := n3_; have GE501 := n4_; have NB500_501 := n5_; have NB501_500 := n6_; clear n0_ n1_ n2_ n3_ n4_ n5_ n6_; clear hb hbox hg; have hnb6 := NB500_501.out; have hnc6 := NB501_500.out; have hcz7_0 : w5.cell? ⟨gb500, 0, none⟩ = some (.int .i64 a0_0) := (blk_cell BK500.out 0).trans rfl; have hcz7_1 : w5.cell? ⟨gb500, 1, none⟩ = some (.int .i64 a0_1) := (blk_cell BK500.out 1).trans rfl; have hcz7_2 : w5.cell? ⟨gb500, 2, none⟩ = some (.slice A0_2 l0_2.length c0_2) := (blk_cell BK500.out 2).trans rfl; have hfz7_0 := blk_frozen BK500.out 0; have hfz7_1 := blk_frozen BK500.out 1; have hfz7_2 := blk_frozen BK500.out 2) | ((with_reducible refine gate_callee (f := 54) rfl ?_); refine goesL_ (some 10) rfl rfl Try.func54 (by kernel_rfl) rfl #[.agg #[.int .i64 a0_0, .int .i64 a0_1, .slice A0_2 l0_2.length c0_2]] rfl (by (try simp only [List.map_toArray, List.map_cons, List.map_nil]); first | done | rfl | (simp only [List.length_drop, List.length_take]; rfl)) ?_; (with_reducible refine (circuit_Copy.calls k a0_0 a0_1 _ _ l0_2 t502 t503 t504 _ ?side1 ?side2 A3.out).mono ?_); (case side1 => repeat (first | exact (Kd.C_below HR0_2.out HB.out) | (with_reducible refine Kd.C_alloc ?_ _) | (with_reducible refine Kd.C_drewN ?_ _) | (with_reducible refine Kd.C_drew ?_))); (case side2 => exact HC0_2.out); rintro e w8 ⟨v505, rfl, ho0, hb⟩; refine ⟨_, rfl, ?_⟩; have n0_ := Aside0.mk (Kd.N_lower (Kd.N_mono (ok' := fun k_ => (w.heap.size ≤ k_) ∧ k_ ≠ gb500 ∧ k_ ≠ gb501) (Kd.S_N (Kd.S_bound ho0)) (fun k_ hk_ => ⟨(Nat.le_trans (below_size (by repeat (first | (with_reducible first | exact HB.out | apply below_alloc | apply pw_below_drewN | apply below_drew1 | refine below_set ?_ GE500.out | refine below_set ?_ GE501.out) | exact HB.out))) hk_.2.1), (Kd.freshB (g := gb500) (o := .cells #[.int .i64 a0_0, .int .i64 a0_1, .slice A0_2 l0_2.length c0_2] 24 (0, 0)) (by (with_reducible repeat (first | refine blk_drewN ?_ _ | refine blk_drew ?_ | refine blk_alloc ?_ _)); exact BK500.out) k_ hk_.2.1), (Kd.freshB (g := gb501) (o := .cells #[.int .i64 0, .int .i64 0, .slice none 0 0] 24 (0, 0)) (by (with_reducible repeat (first | refine blk_drewN ?_ _ | refine blk_drew ?_ | refine blk_alloc ?_ _)); exact BK501.out) k_ hk_.2.1)⟩)) (below_size (by repeat (first | (with_reducible first | exact HB.out | apply below_alloc | apply pw_below_drewN | apply below_drew1 | refine below_set ?_ GE500.out | refine below_set ?_ GE501.out) | exact HB.out)))); have n1_ := Aside0.mk (blk_below (g := gb500) (o := .cells #[.int .i64 a0_0, .int .i64 a0_1, .slice A0_2 l0_2.length c0_2] 24 (0, 0)) (by (with_reducible repeat (first | refine blk_drewN ?_ _ | refine blk_drew ?_ | refine blk_alloc ?_ _)); exact BK500.out) hb); have n2_ := Aside0.mk (blk_below (g := gb501) (o := .cells #[.int .i64 0, .int .i64 0, .slice none 0 0] 24 (0, 0)) (by (with_reducible repeat (first | refine blk_drewN ?_ _ | refine blk_drew ?_ | refine blk_alloc ?_ _)); exact BK501.out) hb); have n3_ := Aside0.mk (below_step (by repeat (first | (with_reducible first | exact HB.out | apply below_alloc | apply pw_below_drewN | apply below_drew1 | refine below_set ?_ GE500.out | refine below_set ?_ GE501.out) | exact HB.out)) hb); clear BK500; clear BK501; clear HB; have HO506 := n0_; have BK500 := n1_; have BK501 := n2_; have HB := n3_; clear n0_ n1_ n2_ n3_; (try clear hb); (try clear hb2); (try clear hk); (try clear hi); (try clear ho0)) | ((with_reducible refine gate_dst (N := 5) rfl ?_); refine box_event ?hg (N := 5) ?hd (cs := #[.int .i64 0, .int .i64 0, .slice none 0 0]) (t := 24) ?hr ?_; (case hd => rfl); (case hg => rfl); (case hr => first | (go_simp; done) | (go_simp; rfl)); intro gb507 hg w9 hbox hb; have n0_ := Aside0.mk (Kd.N_below (Kd.N_elderB (by (with_reducible repeat (first | apply Kd.N_alloc | apply Kd.N_drewN | apply Kd.N_drew)); exact HO506.out) gb507 (Nat.le_of_eq hg.symm)) hb); have n1_ := Aside0.mk (blk_below (g := gb500) (o := .cells #[.int .i64 a0_0, .int .i64 a0_1, .slice A0_2 l0_2.length c0_2] 24 (0, 0)) (by (with_reducible repeat (first | refine blk_drewN ?_ _ | refine blk_drew ?_ | refine blk_alloc ?_ _)); exact BK500.out) hb); have n2_ := Aside0.mk (blk_below (g := gb501) (o := .cells #[.int .i64 0, .int .i64 0, .slice none 0 0] 24 (0, 0)) (by (with_reducible repeat (first | refine blk_drewN ?_ _ | refine blk_drew ?_ | refine blk_alloc ?_ _)); exact BK501.out) hb); have n3_ := Aside0.mk (below_step (by repeat (first | (with_reducible first | exact HB.out | apply below_alloc | apply pw_below_drewN | apply below_drew1 | refine below_set ?_ GE500.out | refine below_set ?_ GE501.out) | exact HB.out)) hb); have n4_ := Aside0.mk (hbox); have n5_ := Aside0.mk ((by rw [hg]; exact (below_size (by repeat (first | (with_reducible first | exact HB.out | apply below_alloc | apply pw_below_drewN | apply below_drew1 | refine below_set ?_ GE500.out | refine below_set ?_ GE501.out) | exact HB.out))) : w.heap.size ≤ gb507)); have n6_ := Aside0.mk ((by rw [hg]; exact (below_size (by repeat (first | (with_reducible first | exact HB.out | apply below_alloc | apply pw_below_drewN | apply below_drew1 | refine below_set ?_ GE500.out | refine below_set ?_ GE501.out) | exact HB.out))) : w.heap.size ≤ gb507)); have n7_ := Aside0.mk ((by rw [hg]; exact Nat.ne_of_lt (blk_lt (g := gb500) (o := .cells #[.int .i64 a0_0, .int .i64 a0_1, .slice A0_2 l0_2.length c0_2] 24 (0, 0)) (by (with_reducible repeat (first | refine blk_drewN ?_ _ | refine blk_drew ?_ | refine blk_alloc ?_ _)); exact BK500.out)) : gb500 ≠ gb507)); have n8_ := Aside0.mk ((by rw [hg]; exact Nat.ne_of_gt (blk_lt (g := gb500) (o := .cells #[.int .i64 a0_0, .int .i64 a0_1, .slice A0_2 l0_2.length c0_2] 24 (0, 0)) (by (with_reducible repeat (first | refine blk_drewN ?_ _ | refine blk_drew ?_ | refine blk_alloc ?_ _)); exact BK500.out)) : gb507 ≠ gb500)); have n9_ := Aside0.mk ((by rw [hg]; exact Nat.ne_of_lt (blk_lt (g := gb501) (o := .cells #[.int .i64 0, .int .i64 0, .slice none 0 0] 24 (0, 0)) (by (with_reducible repeat (first | refine blk_drewN ?_ _ | refine blk_drew ?_ | refine blk_alloc ?_ _)); exact BK501.out)) : gb501 ≠ gb507)); have n10_ := Aside0.mk ((by rw [hg]; exact Nat.ne_of_gt (blk_lt (g := gb501) (o := .cells #[.int .i64 0, .int .i64 0, .slice none 0 0] 24 (0, 0)) (by (with_reducible repeat (first | refine blk_drewN ?_ _ | refine blk_drew ?_ | refine blk_alloc ?_ _)); exact BK501.out)) : gb507 ≠ gb501)); clear HO506; clear BK500; clear BK501; clear HB; have HO506 := n0_; have BK500 := n1_; have BK501 := n2_; have HB := n3_; have BK507 := n4_; have GW507 := n5_; have GE507 := n6_; have NB500_507 := n7_; have NB507_500 := n8_; have NB501_507 := n9_; have NB507_501 := n10_; clear n0_ n1_ n2_ n3_ n4_ n5_ n6_ n7_ n8_ n9_ n10_; clear hb hbox hg; have hnb10 := NB507_500.out; have hnc10 := NB500_507.out; have hnb11 := NB507_501.out; have hnc11 := NB501_507.out; have hcz12_0 : w9.cell? ⟨gb507, 0, none⟩ = some (.int .i64 0) := (blk_cell BK507.out 0).trans rfl; have hcz12_1 : w9.cell? ⟨gb507, 1, none⟩ = some (.int .i64 0) := (blk_cell BK507.out 1).trans rfl; have hcz12_2 : w9.cell? ⟨gb507, 2, none⟩ = some (.slice none 0 0) := (blk_cell BK507.out 2).trans rfl; have hfz12_0 := blk_frozen BK507.out 0; have hfz12_1 := blk_frozen BK507.out 1; have hfz12_2 := blk_frozen BK507.out 2; obtain ⟨Ao13, co13, eo13⟩ := Kd.N_slice HO506.out; subst eo13))
  go_loopg [6, 13] k (fun kq v6 v13 w' => ∃ (x6_1 : List (S46)) (x13_1 : Int), v13 = .int .i64 x13_1 ∧ Aside0 (layers_only.l0 kq x6_1 l1 (l1.length : Int) x13_1 t502 t503 t504 = some (r1, r2, r3)) ∧ Aside0 (kq ≤ k) ∧ Aside0 (Kd.N k46 46 w' w.heap.size (fun k_ => (w.heap.size ≤ k_) ∧ some k_ ≠ ((.slice Ao13 t504.length co13) : Value).ownBlock ∧ k_ ≠ gb500 ∧ k_ ≠ gb501 ∧ k_ ≠ gb507) v6 x6_1) ∧ Aside0 (Kd.N k46 46 w' w.heap.size (fun k_ => (w.heap.size ≤ k_) ∧ some k_ ≠ (v6 : Value).ownBlock ∧ k_ ≠ gb500 ∧ k_ ≠ gb501 ∧ k_ ≠ gb507) (.slice Ao13 t504.length co13) t504) ∧ Aside0 (w'.heap[gb500]? = some (.cells #[.int .i64 a0_0, .int .i64 a0_1, (.slice A0_2 l0_2.length c0_2)] 24 (0, 0))) ∧ Aside0 (w'.heap[gb501]? = some (.cells #[.int .i64 0, .int .i64 0, (.slice none 0 0)] 24 (0, 0))) ∧ Aside0 (w'.heap[gb507]? = some (.cells #[.int .i64 t502, .int .i64 t503, (.slice Ao13 t504.length co13)] 24 (0, 0))) ∧ Aside0 (Below w.heap.size w w'))
  case atStart => exact ⟨(([] : List (S46))), (0), (by first | rfl | (simp; done) | (simp [*]; done)), H', ⟨Nat.le_refl _⟩, ⟨by first | exact Kd.S_nil _ _ _ _ _ | exact Kd.N_nil _ _ _ _ _ | exact Kd.V_nil _ _ _ _ _ | exact Kd.Q_nil _ _ _ _ _ | exact Kd.R_nil _ _ _ _ _⟩, ⟨by (with_reducible repeat (first | apply Kd.N_alloc | apply Kd.N_drewN | apply Kd.N_drew)); exact Kd.N_mono (Kd.N_far (p := ⟨gb507, 2, none⟩) (Kd.N_far (p := ⟨gb507, 1, none⟩) (Kd.N_far (p := ⟨gb507, 0, none⟩) (Kd.N_mono HO506.out (fun k_ hk => (⟨hk, hk.2⟩ : _ ∧ k_ ≠ gb507))) (fun _ hk => hk.2) (.int .i64 t502)) (fun _ hk => hk.2) (.int .i64 t503)) (fun _ hk => hk.2) (.slice Ao13 t504.length co13)) (fun _ hk => ⟨hk.1.1.1, ⟨(by simp [Value.ownBlock]), ⟨hk.1.1.2.1, ⟨hk.1.1.2.2, hk.1.2⟩⟩⟩⟩)⟩, ⟨by (with_reducible repeat (first | refine blk_drewN ?_ _ | refine blk_drew ?_ | refine blk_alloc ?_ _)); refine blk_far ?_ NB500_507.out _; (with_reducible repeat (first | refine blk_drewN ?_ _ | refine blk_drew ?_ | refine blk_alloc ?_ _)); refine blk_far ?_ NB500_507.out _; (with_reducible repeat (first | refine blk_drewN ?_ _ | refine blk_drew ?_ | refine blk_alloc ?_ _)); refine blk_far ?_ NB500_507.out _; (with_reducible repeat (first | refine blk_drewN ?_ _ | refine blk_drew ?_ | refine blk_alloc ?_ _)); exact BK500.out⟩, ⟨by (with_reducible repeat (first | refine blk_drewN ?_ _ | refine blk_drew ?_ | refine blk_alloc ?_ _)); refine blk_far ?_ NB501_507.out _; (with_reducible repeat (first | refine blk_drewN ?_ _ | refine blk_drew ?_ | refine blk_alloc ?_ _)); refine blk_far ?_ NB501_507.out _; (with_reducible repeat (first | refine blk_drewN ?_ _ | refine blk_drew ?_ | refine blk_alloc ?_ _)); refine blk_far ?_ NB501_507.out _; (with_reducible repeat (first | refine blk_drewN ?_ _ | refine blk_drew ?_ | refine blk_alloc ?_ _)); exact BK501.out⟩, ⟨by (with_reducible repeat (first | refine blk_drewN ?_ _ | refine blk_drew ?_ | refine blk_alloc ?_ _)); refine blk_put (cs := #[.int .i64 t502, .int .i64 t503, .slice none 0 0]) ?_ 2 _ rfl; (with_reducible repeat (first | refine blk_drewN ?_ _ | refine blk_drew ?_ | refine blk_alloc ?_ _)); refine blk_put (cs := #[.int .i64 t502, .int .i64 0, .slice none 0 0]) ?_ 1 _ rfl; (with_reducible repeat (first | refine blk_drewN ?_ _ | refine blk_drew ?_ | refine blk_alloc ?_ _)); refine blk_put (cs := #[.int .i64 0, .int .i64 0, .slice none 0 0]) ?_ 0 _ rfl; (with_reducible repeat (first | refine blk_drewN ?_ _ | refine blk_drew ?_ | refine blk_alloc ?_ _)); exact BK507.out⟩, ⟨by repeat (first | (with_reducible first | exact HB.out | apply below_alloc | apply pw_below_drewN | apply below_drew1 | refine below_set ?_ GE500.out | refine below_set ?_ GE501.out | refine below_set ?_ GE507.out) | exact HB.out)⟩⟩
  case round =>
    clear H'
    try clear c1
    try clear p2
    try clear c5
    try clear c6
    try clear c7
    try clear c10
    try clear c11
    try clear hcz12_0
    try clear hcz12_1
    try clear hcz12_2
    try clear hcz7_0
    try clear hcz7_1
    try clear hcz7_2
    try clear hfz12_0
    try clear hfz12_1
    try clear hfz12_2
    try clear hfz7_0
    try clear hfz7_1
    try clear hfz7_2
    obtain ⟨x6_1, x13_1, rfl, HA, HK1, HO_6, HO_508002, BK500, BK501, BK507, HB⟩ := hrel
    cases gk with
    | zero => exact absurd HA.out (by simp [layers_only.l0])
    | succ k1 =>
      have H := HA.out
      clear HA
      simp only [layers_only.l0] at H
      by_cases c14 : x13_1 < (l1.length : Int)
      · rw [if_pos c14] at H
        have c14b0 : decide (x13_1 < (l1.length : Int)) = true := decide_eq_true c14
        clear c14
        by_cases c15 : 0 ≤ x13_1
        · rw [if_pos c15] at H
          have c15b0 : decide (0 ≤ x13_1) = true := decide_eq_true c15
          clear c15
          by_cases c16 : x13_1 < (l1.length : Int)
          · rw [if_pos c16] at H
            have c16b0 : decide (x13_1 < (l1.length : Int)) = true := decide_eq_true c16
            clear c16
            by_cases c17 : 0 ≤ (rd l1 x13_1)
            · rw [if_pos c17] at H
              have c17b0 : decide (0 ≤ (rd l1 x13_1)) = true := decide_eq_true c17
              clear c17
              by_cases c18 : (rd l1 x13_1) < (t504.length : Int)
              · rw [if_pos c18] at H
                have c18b0 : decide ((rd l1 x13_1) < (t504.length : Int)) = true := decide_eq_true c18
                clear c18
                by_cases c19 : x6_1.length < 2199023255552
                · rw [if_pos c19] at H
                  have LMc19 := Aside0.mk c19
                  clear c19
                  obtain ⟨y510, hy510⟩ : ∃ y_ : List (S46), y_ = (x6_1 ++ [(⟨(rd_T46 t504 (rd l1 x13_1)).f0, (rd_T46 t504 (rd l1 x13_1)).f1, (rd_T46 t504 (rd l1 x13_1)).f2, (rd_T46 t504 (rd l1 x13_1)).f3, (rd_T46 t504 (rd l1 x13_1)).f4, (rd_T46 t504 (rd l1 x13_1)).f5⟩ : S46)]) := ⟨_, rfl⟩
                  replace H : (layers_only.l0 k1 y510 l1 (l1.length : Int) (wrap64 (x13_1 + 1)) t502 t503 t504) = some (r1, r2, r3) := by first | (rw [hy510]; with_reducible exact H) | (have H2_ := (Option.bind_some _ _).symm.trans H; rw [hy510]; with_reducible exact H2_) | (have H2_ := (Option.bind_some _ _).symm.trans H; with_reducible exact H2_) | with_reducible exact H | (rw [hy510]; exact H) | exact H
                  have Ny510 := Aside0.mk hy510
                  clear hy510
                  have H' := Aside0.mk H
                  clear H
                  have p508 : 0 ≤ (x13_1 : Int) := of_decide_eq_true (by first | (with_reducible assumption) | assumption)
                  have q508 : x13_1 < (l1.length : Int) := of_decide_eq_true (by first | (with_reducible assumption) | assumption)
                  obtain ⟨ad508, e508, hx508_0⟩ := Kd.at_int HR1.out x13_1 p508 q508
                  cases e508
                  replace hx508_0 := (HB.out.cell (World.block_lt_of_cell? w _ hx508_0)).trans hx508_0
                  replace p508 := eq_true p508
                  replace q508 := eq_true q508
                  have hnb20 := NB507_500.out
                  have hnc20 := NB500_507.out
                  have hnb21 := NB507_501.out
                  have hnc21 := NB501_507.out
                  have hcz22_0 : wr.cell? ⟨gb507, 0, none⟩ = some (.int .i64 t502) := (blk_cell BK507.out 0).trans rfl
                  have hcz22_1 : wr.cell? ⟨gb507, 1, none⟩ = some (.int .i64 t503) := (blk_cell BK507.out 1).trans rfl
                  have hcz22_2 : wr.cell? ⟨gb507, 2, none⟩ = some (.slice Ao13 t504.length co13) := (blk_cell BK507.out 2).trans rfl
                  have hfz22_0 := blk_frozen BK507.out 0
                  have hfz22_1 := blk_frozen BK507.out 1
                  have hfz22_2 := blk_frozen BK507.out 2
                  have p509 : 0 ≤ ((rd l1 x13_1) : Int) := of_decide_eq_true (by first | (with_reducible assumption) | assumption)
                  have q509 : (rd l1 x13_1) < (t504.length : Int) := of_decide_eq_true (by first | (with_reducible assumption) | assumption)
                  obtain ⟨ad509, A509_2, c509_2, e509, hx509_0, hx509_1, hx509_2, hx509_3, hx509_4, hx509_5, hl509_2, hi509_2⟩ := at_T46 (Kd.N_reads' HO_508002.out).2.2 (rd l1 x13_1) p509 q509
                  cases e509
                  obtain ⟨ce509, hce509, hMe509, hcc509⟩ := Kd.N_get HO_508002.out z46 (rd l1 x13_1) p509 (by first | exact q509 | exact of_decide_eq_true (by first | (with_reducible assumption) | assumption) | (have e_ := (Kd.N_reads' HO_508002.out).1; omega))
                  obtain ⟨ua509_2, uc509_2, rfl, ul509_2, ge509_2⟩ := k46_openF hMe509
                  have hv509_2 := hcc509 2 _ rfl
                  rw [add_field _ _ 2 (by omega)] at hv509_2
                  replace hv509_2 := Option.some.inj (hv509_2.symm.trans hx509_2)
                  injection hv509_2 with hva_ hvn_ hvc_
                  rw [hva_] at ge509_2
                  rw [hvc_] at ul509_2
                  have HL509_2 := Aside0.mk (show Kd.V (Kd.int .i64) 3 _ w.heap.size _ _ ((rd_T46 t504 (rd l1 x13_1)).f2) from Kd.V_mk ul509_2 ge509_2)
                  clear hva_ hvn_ hvc_ ge509_2 ul509_2
                  clear hcc509 hce509
                  have HR509_2 := Aside0.mk hi509_2
                  have HC509_2 := Aside0.mk hl509_2
                  clear hi509_2 hl509_2
                  replace p509 := eq_true p509
                  replace q509 := eq_true q509
                  go_wp2_with (first | ((with_reducible refine gate_builtin (b := .append) (xs := #[.tmp 17, .tmp 23]) rfl ?_); at_builtin; refine Kd.N_append k46 (w0 := w) w.heap.size rfl (.tmp 17) (.tmp 23) 22 46 (.agg #[(.int .i64 0), (.int .i64 0), (.slice none 0 0), (.int .i64 0), (.int .i64 0), (.int .i64 0)]) 64 rfl Try.underlying22 info46 rfl (by decide) (by omega) u6 x6_1 (⟨(rd_T46 t504 (rd l1 x13_1)).f0, (rd_T46 t504 (rd l1 x13_1)).f1, (rd_T46 t504 (rd l1 x13_1)).f2, (rd_T46 t504 (rd l1 x13_1)).f3, (rd_T46 t504 (rd l1 x13_1)).f4, (rd_T46 t504 (rd l1 x13_1)).f5⟩ : S46) [.int .i64 ((rd_T46 t504 (rd l1 x13_1)).f0), .int .i64 ((rd_T46 t504 (rd l1 x13_1)).f1), .slice A509_2 ((rd_T46 t504 (rd l1 x13_1)).f2).length c509_2, .int .i64 ((rd_T46 t504 (rd l1 x13_1)).f3), .int .i64 ((rd_T46 t504 (rd l1 x13_1)).f4), .int .i64 ((rd_T46 t504 (rd l1 x13_1)).f5)] (fun k_ => (w.heap.size ≤ k_) ∧ some k_ ≠ (.slice (some ad509) t504.length co13 : Value).ownBlock ∧ k_ ≠ gb500 ∧ k_ ≠ gb501 ∧ k_ ≠ gb507) (fun k_ => ((fun k_ => (w.heap.size ≤ k_) ∧ some k_ ≠ (.slice (some ad509) t504.length co13 : Value).ownBlock ∧ k_ ≠ gb500 ∧ k_ ≠ gb501 ∧ k_ ≠ gb507)) k_ ∧ some k_ ≠ (u6 : Value).ownBlock) rfl rfl ?aP (fun _ hk => hk) ?aF ?aO ?aB ?aS ?aL ?_; (case aP => exact (k46_mkF _ _ (⟨(rd_T46 t504 (rd l1 x13_1)).f0, (rd_T46 t504 (rd l1 x13_1)).f1, (rd_T46 t504 (rd l1 x13_1)).f2, (rd_T46 t504 (rd l1 x13_1)).f3, (rd_T46 t504 (rd l1 x13_1)).f4, (rd_T46 t504 (rd l1 x13_1)).f5⟩ : S46) (Kd.V_reads' (Kd.V_mono (ok' := (fun k_ => ((fun k_ => (w.heap.size ≤ k_) ∧ some k_ ≠ (.slice (some ad509) t504.length co13 : Value).ownBlock ∧ k_ ≠ gb500 ∧ k_ ≠ gb501 ∧ k_ ≠ gb507)) k_ ∧ some k_ ≠ (u6 : Value).ownBlock)) (HL509_2.out) (fun k_ hk => ⟨⟨hk.1.1, ⟨hk.2, ⟨hk.1.2.2.1, ⟨hk.1.2.2.2.1, hk.1.2.2.2.2⟩⟩⟩⟩, hk.1.2.1⟩))).2.1 (Kd.V_F (Kd.V_mono (ok' := (fun k_ => ((fun k_ => (w.heap.size ≤ k_) ∧ some k_ ≠ (.slice (some ad509) t504.length co13 : Value).ownBlock ∧ k_ ≠ gb500 ∧ k_ ≠ gb501 ∧ k_ ≠ gb507)) k_ ∧ some k_ ≠ (u6 : Value).ownBlock)) (HL509_2.out) (fun k_ hk => ⟨⟨hk.1.1, ⟨hk.2, ⟨hk.1.2.2.1, ⟨hk.1.2.2.2.1, hk.1.2.2.2.2⟩⟩⟩⟩, hk.1.2.1⟩))))); (case aB => exact (by repeat (first | (with_reducible first | exact HB.out | apply below_alloc | apply pw_below_drewN | apply below_drew1 | refine below_set ?_ GE500.out | refine below_set ?_ GE501.out | refine below_set ?_ GE507.out) | exact HB.out))); (case aF => exact (fun k_ hk => ⟨(Nat.le_trans (below_size (by repeat (first | (with_reducible first | exact HB.out | apply below_alloc | apply pw_below_drewN | apply below_drew1 | refine below_set ?_ GE500.out | refine below_set ?_ GE501.out | refine below_set ?_ GE507.out) | exact HB.out))) hk), Kd.fresh' (Kd.N_lt (by (with_reducible repeat (first | apply Kd.N_alloc | apply Kd.N_drewN | apply Kd.N_drew)); exact HO_508002.out)) k_ hk, Kd.freshB (g := gb500) (o := .cells #[.int .i64 a0_0, .int .i64 a0_1, .slice A0_2 l0_2.length c0_2] 24 (0, 0)) (by (with_reducible repeat (first | refine blk_drewN ?_ _ | refine blk_drew ?_ | refine blk_alloc ?_ _)); exact BK500.out) k_ hk, Kd.freshB (g := gb501) (o := .cells #[.int .i64 0, .int .i64 0, .slice none 0 0] 24 (0, 0)) (by (with_reducible repeat (first | refine blk_drewN ?_ _ | refine blk_drew ?_ | refine blk_alloc ?_ _)); exact BK501.out) k_ hk, Kd.freshB (g := gb507) (o := .cells #[.int .i64 t502, .int .i64 t503, .slice (some ad509) t504.length co13] 24 (0, 0)) (by (with_reducible repeat (first | refine blk_drewN ?_ _ | refine blk_drew ?_ | refine blk_alloc ?_ _)); exact BK507.out) k_ hk⟩)); (case aO => exact (by (with_reducible repeat (first | apply Kd.N_alloc | apply Kd.N_drewN | apply Kd.N_drew)); exact HO_6.out)); (case aS => exact (below_size (by repeat (first | (with_reducible first | exact HB.out | apply below_alloc | apply pw_below_drewN | apply below_drew1 | refine below_set ?_ GE500.out | refine below_set ?_ GE501.out | refine below_set ?_ GE507.out) | exact HB.out)))); (case aL => have := LMc19.out; omega); intro v511 w23 ho hb hg hat; rw [← Ny510.out] at ho; have n0_ := Aside0.mk (Kd.N_afterv (ok := (fun k_ => (w.heap.size ≤ k_) ∧ k_ ≠ gb500 ∧ k_ ≠ gb501 ∧ k_ ≠ gb507)) (by (with_reducible repeat (first | apply Kd.N_alloc | apply Kd.N_drewN | apply Kd.N_drew)); exact Kd.N_mono HO_508002.out (fun _ hk => ⟨⟨hk.1, ⟨hk.2.2.1, ⟨hk.2.2.2.1, hk.2.2.2.2⟩⟩⟩, hk.2.1⟩)) hg hat); have n1_ := Aside0.mk (blk_grown (g := gb500) (o := .cells #[.int .i64 a0_0, .int .i64 a0_1, .slice A0_2 l0_2.length c0_2] 24 (0, 0)) (by (with_reducible repeat (first | refine blk_drewN ?_ _ | refine blk_drew ?_ | refine blk_alloc ?_ _)); exact BK500.out) hg (Kd.N_ne HO_6.out BK500.out (by decide))); have n2_ := Aside0.mk (blk_grown (g := gb501) (o := .cells #[.int .i64 0, .int .i64 0, .slice none 0 0] 24 (0, 0)) (by (with_reducible repeat (first | refine blk_drewN ?_ _ | refine blk_drew ?_ | refine blk_alloc ?_ _)); exact BK501.out) hg (Kd.N_ne HO_6.out BK501.out (by decide))); have n3_ := Aside0.mk (blk_grown (g := gb507) (o := .cells #[.int .i64 t502, .int .i64 t503, .slice (some ad509) t504.length co13] 24 (0, 0)) (by (with_reducible repeat (first | refine blk_drewN ?_ _ | refine blk_drew ?_ | refine blk_alloc ?_ _)); exact BK507.out) hg (Kd.N_ne HO_6.out BK507.out (by decide))); have n4_ := Aside0.mk (Kd.V_afterv (ok := (fun k_ => (w.heap.size ≤ k_) ∧ some k_ ≠ (.slice (some ad509) t504.length co13 : Value).ownBlock ∧ k_ ≠ gb500 ∧ k_ ≠ gb501 ∧ k_ ≠ gb507)) (by (with_reducible repeat (first | apply Kd.V_alloc | apply Kd.V_drewN | apply Kd.V_drew)); exact Kd.V_mono HL509_2.out (fun _ hk => ⟨⟨hk.1.1, ⟨hk.2, ⟨hk.1.2.2.1, ⟨hk.1.2.2.2.1, hk.1.2.2.2.2⟩⟩⟩⟩, hk.1.2.1⟩)) hg hat); have n5_ := Aside0.mk (hb); have n6_ := Aside0.mk (ho); clear HO_508002; clear BK500; clear BK501; clear BK507; clear HL509_2; clear HB; clear HO_6; have HO_508002 := n0_; have BK500 := n1_; have BK501 := n2_; have BK507 := n3_; have HL509_2 := n4_; have HB := n5_; have HO512 := n6_; clear n0_ n1_ n2_ n3_ n4_ n5_ n6_; clear ho hb hg hat))
                  go_roundg k1
                  case measure => have := HK1.out; omega
                  case rel => exact ⟨(y510), (wrap64 (x13_1 + 1)), (by first | rfl | (simp; done) | (simp [*]; done)), H', ⟨by have := HK1.out; omega⟩, ⟨by (with_reducible repeat (first | apply Kd.N_alloc | apply Kd.N_drewN | apply Kd.N_drew)); exact HO512.out⟩, ⟨by (with_reducible repeat (first | apply Kd.N_alloc | apply Kd.N_drewN | apply Kd.N_drew)); exact Kd.N_mono HO_508002.out (fun _ hk => ⟨hk.1.1, ⟨hk.2, ⟨hk.1.2.1, ⟨hk.1.2.2.1, hk.1.2.2.2⟩⟩⟩⟩)⟩, ⟨by (with_reducible repeat (first | refine blk_drewN ?_ _ | refine blk_drew ?_ | refine blk_alloc ?_ _)); exact BK500.out⟩, ⟨by (with_reducible repeat (first | refine blk_drewN ?_ _ | refine blk_drew ?_ | refine blk_alloc ?_ _)); exact BK501.out⟩, ⟨by (with_reducible repeat (first | refine blk_drewN ?_ _ | refine blk_drew ?_ | refine blk_alloc ?_ _)); exact BK507.out⟩, ⟨by repeat (first | (with_reducible first | exact HB.out | apply below_alloc | apply pw_below_drewN | apply below_drew1 | refine below_set ?_ GE500.out | refine below_set ?_ GE501.out | refine below_set ?_ GE507.out) | exact HB.out)⟩⟩
                · rw [if_neg c19] at H
                  exact absurd H (by simp)
              · rw [if_neg c18] at H
                exact absurd H (by simp)
            · rw [if_neg c17] at H
              exact absurd H (by simp)
          · rw [if_neg c16] at H
            exact absurd H (by simp)
        · rw [if_neg c15] at H
          exact absurd H (by simp)
      · rw [if_neg c14] at H
        have c14b0 : decide (x13_1 < (l1.length : Int)) = false := decide_eq_false c14
        clear c14
        simp only [Option.some.injEq, Prod.mk.injEq] at H
        obtain ⟨rfl, rfl, rfl⟩ := H
        obtain ⟨Ao24, co24, eo24⟩ := Kd.N_slice HO_6.out
        subst eo24
        have hnb25 := NB507_500.out
        have hnc25 := NB500_507.out
        have hnb26 := NB507_501.out
        have hnc26 := NB501_507.out
        have hcz27_0 : wr.cell? ⟨gb507, 0, none⟩ = some (.int .i64 t502) := (blk_cell BK507.out 0).trans rfl
        have hcz27_1 : wr.cell? ⟨gb507, 1, none⟩ = some (.int .i64 t503) := (blk_cell BK507.out 1).trans rfl
        have hcz27_2 : wr.cell? ⟨gb507, 2, none⟩ = some (.slice Ao13 t504.length co13) := (blk_cell BK507.out 2).trans rfl
        have hfz27_0 := blk_frozen BK507.out 0
        have hfz27_1 := blk_frozen BK507.out 1
        have hfz27_2 := blk_frozen BK507.out 2
        have hnb28 := NB501_500.out
        have hnc28 := NB500_501.out
        have hcz29_0 : wr.cell? ⟨gb501, 0, none⟩ = some (.int .i64 0) := (blk_cell BK501.out 0).trans rfl
        have hcz29_1 : wr.cell? ⟨gb501, 1, none⟩ = some (.int .i64 0) := (blk_cell BK501.out 1).trans rfl
        have hcz29_2 : wr.cell? ⟨gb501, 2, none⟩ = some (.slice none 0 0) := (blk_cell BK501.out 2).trans rfl
        have hfz29_0 := blk_frozen BK501.out 0
        have hfz29_1 := blk_frozen BK501.out 1
        have hfz29_2 := blk_frozen BK501.out 2
        go_wp2
        refine bodyPost_ret (results_cell_row rfl _ _ gb501 24 #[.int .i64 t502, .int .i64 t503, .slice Ao24 x6_1.length co24] (0, 0) _ rfl (by (with_reducible repeat (first | refine blk_drewN ?_ _ | refine blk_drew ?_ | refine blk_alloc ?_ _)); refine blk_put (cs := #[.int .i64 t502, .int .i64 t503, .slice none 0 0]) ?_ 2 _ rfl; (with_reducible repeat (first | refine blk_drewN ?_ _ | refine blk_drew ?_ | refine blk_alloc ?_ _)); refine blk_put (cs := #[.int .i64 t502, .int .i64 0, .slice none 0 0]) ?_ 1 _ rfl; (with_reducible repeat (first | refine blk_drewN ?_ _ | refine blk_drew ?_ | refine blk_alloc ?_ _)); refine blk_put (cs := #[.int .i64 0, .int .i64 0, .slice none 0 0]) ?_ 0 _ rfl; (with_reducible repeat (first | refine blk_drewN ?_ _ | refine blk_drew ?_ | refine blk_alloc ?_ _)); refine blk_far ?_ NB501_507.out _; (with_reducible repeat (first | refine blk_drewN ?_ _ | refine blk_drew ?_ | refine blk_alloc ?_ _)); exact BK501.out) Try.underlying24 rfl (by kernel_rfl)) rfl ?_
        exact ⟨_, by first | rfl | (simp [errW_none, errW_some] <;> rfl) | (simp [*, errW_none, errW_some] <;> rfl), by (with_reducible repeat (first | apply Kd.N_alloc | apply Kd.N_drewN | apply Kd.N_drew)); exact Kd.N_mono (Kd.N_far (p := ⟨gb501, 2, none⟩) (Kd.N_far (p := ⟨gb501, 1, none⟩) (Kd.N_far (p := ⟨gb501, 0, none⟩) (Kd.N_far (p := ⟨gb507, 2, none⟩) (Kd.N_mono (Kd.N_mono HO_6.out (fun k_ hk => (⟨hk, hk.2.2.2.2⟩ : _ ∧ k_ ≠ gb507))) (fun k_ hk => (⟨hk, hk.1.2.2.2.1⟩ : _ ∧ k_ ≠ gb501))) (fun _ hk => hk.1.2) (.slice Ao24 x6_1.length co24)) (fun _ hk => hk.2) (.int .i64 t502)) (fun _ hk => hk.2) (.int .i64 t503)) (fun _ hk => hk.2) (.slice Ao24 x6_1.length co24)) (fun _ hk => hk.1.1.1), by repeat (first | (with_reducible first | exact HB.out | apply below_alloc | apply pw_below_drewN | apply below_drew1 | refine below_set ?_ GE500.out | refine below_set ?_ GE501.out | refine below_set ?_ GE507.out) | exact HB.out)⟩
end Go.Proofs.Ytbelnopbggkdfaa.Q
end

section
namespace Go.Proofs.Ytbelnopbggkdfaa.Q
open Go.RowKit Go.Proofs.YtbelnopbggkdfaaW.PrintWords Go.Proofs.YtbelnopbggkdfaaW.PrintLast Go.Proofs.YtbelnopbggkdfaaW.PrintMore
def upTo (n : Nat) : List Int := (List.range n).map fun (i : Nat) => (i : Int)
def layers_Sorted.f (k : Nat) (a0 a1 : Int) (l : List S46) : Option (Int × Int × List S46 × Int) :=
  (layers_Early.f k a0 a1 l).bind fun t => if t.2 = 0 then
    (if l.length = t.1.length ∧ l.length < 2199023255552 ∧ (t.1.all fun x => decide (0 ≤ x ∧ x ≤ 1152921504606846976)) = true then (layers_only.f k a0 a1 l (sortO (skey l t.1) (upTo t.1.length))).bind fun r => some (r.1, r.2.1, r.2.2, 0) else none)
    else some (0, 0, [], t.2)
theorem upTo_len (n : Nat) : (upTo n).length = n := by simp [upTo]
theorem upTo_succ (n : Nat) : upTo (n + 1) = upTo n ++ [(n : Int)] := by simp [upTo, List.range_succ]
set_option maxHeartbeats 8000000 in
set_option maxRecDepth 1000000 in
theorem layers_Sorted.calls (k : Nat) (a0 a1 : Int) (A : Option Addr) (c : Nat) (l : List S46) (r1 r2 : Int) (r3 : List S46) (r4 : Int) (w : World) (hr : Kd.C k46 w A l.length l) (hc : l.length ≤ c) (h : layers_Sorted.f k a0 a1 l = some (r1, r2, r3, r4)) :
    Calls Try.prog 27 #[.agg #[.int .i64 a0, .int .i64 a1, .slice A l.length c]] w fun e w' => ∃ v, e = .returned (.tuple #[.agg #[.int .i64 r1, .int .i64 r2, v], .int .i64 r4]) ∧ Kd.N k46 46 w' w.heap.size (fun k_ => w.heap.size ≤ k_) v r3 ∧ Below w.heap.size w w' := by
  have hu24 := Try.underlying24
  have hu46 := Try.underlying46
  unfold layers_Sorted.f at h
  obtain ⟨⟨into, err⟩, ht, h2⟩ := Option.bind_eq_some_iff.1 h
  clear h
  have HD := Aside0.mk ht
  have HC := Aside0.mk hc
  have HR := Aside0.mk hr
  clear ht hr hc
  simp only at h2
  split at h2
  case isFalse =>
    rename_i hne
    simp only [Option.some.injEq, Prod.mk.injEq] at h2
    obtain ⟨rfl, rfl, rfl, rfl⟩ := h2
    have hne' : (err != 0) = true := by simpa using hne
    clear hne
    go_enter Try.func27, Try.ntmps27
    go_upto_region 2 with (go_at_call 21; (with_reducible refine (layers_Early.calls k a0 a1 _ _ l into err _ (Kd.C_alloc (Kd.C_alloc HR.out _) _) HC.out HD.out).mono ?_); rintro e w1 ⟨v, rfl, ho, hb1⟩; obtain ⟨Ai, ci, rfl⟩ := Kd.R_slice ho; have HO := Aside0.mk ho; clear ho)
    have b2 : ((w1.alloc (.cells #[.slice Ai into.length ci] 37))).heap[w.heap.size + 1]? = some (.cells #[.int .i64 0, .int .i64 0, .slice none 0 0] 24 (0, 0)) := by
      refine blk_alloc (blk_below ?_ hb1) _
      have := blk_new (w.alloc (.cells #[.int .i64 a0, .int .i64 a1, .slice A l.length c] 24)) (.cells #[.int .i64 0, .int .i64 0, .slice none 0 0] 24)
      simpa using this
    have hb : Below w.heap.size w (w1.alloc (.cells #[.slice Ai into.length ci] 37)) := below_alloc (below_step (below_alloc (below_alloc (Below.refl _ w) _) _) hb1) _
    obtain ⟨g2, hg2⟩ : ∃ g, g = w.heap.size + 1 := ⟨_, rfl⟩
    have ge : w.heap.size ≤ g2 := by omega
    rw [← hg2] at b2
    rw [← hg2]
    generalize w1.alloc (.cells #[.slice Ai into.length ci] 37) = W at b2 hb ⊢
    clear hg2 hb1
    have c0 : W.cell? ⟨g2, 0, none⟩ = some (.int .i64 0) := by rw [blk_cell b2]; rfl
    have c1 : W.cell? ⟨g2, 1, none⟩ = some (.int .i64 0) := by rw [blk_cell b2]; rfl
    have c2 : W.cell? ⟨g2, 2, none⟩ = some (.slice none 0 0) := by rw [blk_cell b2]; rfl
    have f0 : W.frozen? ⟨g2, 0, none⟩ = false := blk_frozen b2 0
    have f1 : W.frozen? ⟨g2, 1, none⟩ = false := blk_frozen b2 1
    have f2 : W.frozen? ⟨g2, 2, none⟩ = false := blk_frozen b2 2
    go_wp2
    (try simp only [Exit.inBlock, Exit.then])
    refine bodyPost_ret (results_ct rfl _ _ g2 24 #[.int .i64 0, .int .i64 0, .slice none 0 0] (0, 0) _ rfl (blk_put (cs := #[.int .i64 0, .int .i64 0, .slice none 0 0]) (blk_put (cs := #[.int .i64 0, .int .i64 0, .slice none 0 0]) (blk_put (cs := #[.int .i64 0, .int .i64 0, .slice none 0 0]) b2 0 _ rfl) 1 _ rfl) 2 _ rfl) Try.underlying24 rfl (by kernel_rfl)) rfl ?_
    exact ⟨_, rfl, Kd.N_nil _ _ _ _ _, below_set (below_set (below_set hb ge) ge) ge⟩
  rename_i he
  obtain rfl : err = 0 := he
  split at h2
  case isFalse => cases h2
  rename_i hcond
  obtain ⟨hll, hl41, hall⟩ := hcond
  obtain ⟨⟨q1, q2, q3⟩, hq, h3⟩ := Option.bind_eq_some_iff.1 h2
  simp only [Option.some.injEq, Prod.mk.injEq] at h3
  obtain ⟨rfl, rfl, rfl, rfl⟩ := h3
  have HQ := Aside0.mk hq
  have HA := Aside0.mk hall
  have HLL := Aside0.mk hll
  have HL41 := Aside0.mk hl41
  clear h2 hq hall hll hl41
  go_enter Try.func27, Try.ntmps27
  go_upto_region 2 with (go_at_call 21; (with_reducible refine (layers_Early.calls k a0 a1 _ _ l into 0 _ (Kd.C_alloc (Kd.C_alloc HR.out _) _) HC.out HD.out).mono ?_); rintro e w1 ⟨v, rfl, ho, hb1⟩; obtain ⟨Ai, ci, rfl⟩ := Kd.R_slice ho; have HO := Aside0.mk ho; clear ho)
  have b1 : ((w1.alloc (.cells #[.slice Ai into.length ci] 37))).heap[w.heap.size]? = some (.cells #[.int .i64 a0, .int .i64 a1, .slice A l.length c] 24 (0, 0)) :=
    blk_alloc (blk_below (blk_alloc (blk_new w (.cells #[.int .i64 a0, .int .i64 a1, .slice A l.length c] 24)) _) hb1) _
  have b2 : ((w1.alloc (.cells #[.slice Ai into.length ci] 37))).heap[w.heap.size + 1]? = some (.cells #[.int .i64 0, .int .i64 0, .slice none 0 0] 24 (0, 0)) := by
    refine blk_alloc (blk_below ?_ hb1) _
    have := blk_new (w.alloc (.cells #[.int .i64 a0, .int .i64 a1, .slice A l.length c] 24)) (.cells #[.int .i64 0, .int .i64 0, .slice none 0 0] 24)
    simpa using this
  have b4 := blk_new w1 (.cells #[.slice Ai into.length ci] 37)
  have hb := below_alloc (below_step (below_alloc (below_alloc (Below.refl _ w) (.cells #[.int .i64 a0, .int .i64 a1, .slice A l.length c] 24)) (.cells #[.int .i64 0, .int .i64 0, .slice none 0 0] 24)) hb1) (.cells #[.slice Ai into.length ci] 37)
  have hi : Kd.R (Kd.int .i64) 3 (w1.alloc (.cells #[.slice Ai into.length ci] 37)) w.heap.size (fun k => k < (w1.alloc (.cells #[.slice Ai into.length ci] 37)).heap.size) (.slice Ai into.length ci) into := by
    refine Kd.R_alloc (Kd.R_mono (Kd.R_bound (Kd.R_lower HO.out ?_)) (fun k hk => ?_)) _
    · simp; omega
    · have := hk.2.2.1
      simp
      omega
  obtain ⟨g1, hg1⟩ : ∃ g, g = w.heap.size := ⟨_, rfl⟩
  obtain ⟨g2, hg2⟩ : ∃ g, g = w.heap.size + 1 := ⟨_, rfl⟩
  obtain ⟨g4, hg4⟩ : ∃ g, g = w1.heap.size := ⟨_, rfl⟩
  rw [← hg1] at b1
  rw [← hg2] at b2
  rw [← hg4] at b4
  rw [← hg2, ← hg4]
  have n1 : w.heap.size ≤ g1 := by omega
  have n2 : w.heap.size ≤ g2 := by omega
  have n4 : w.heap.size ≤ g4 := by have := hb1.size; simp at this; omega
  rw [← hg1]
  clear hb1 HO HD
  generalize w1.alloc (.cells #[.slice Ai into.length ci] 37) = W0 at b1 b2 b4 hb hi ⊢
  have HB1 := Aside0.mk b1
  have HB2 := Aside0.mk b2
  have HB := Aside0.mk hb
  have HI := Aside0.mk hi
  have c4 : W0.cell? ⟨g4, 0, none⟩ = some (.slice Ai into.length ci) := by rw [blk_cell b4]; rfl
  have HB4 := Aside0.mk b4
  have hn64 : (into.length : Int) ≤ 9223372036854775807 := by have := HL41.out; have := HLL.out; omega
  clear b1 b2 b4 hb hi hg1 hg2 hg4
  generalize hn : into.length = n at *
  have HN := Aside0.mk hn
  clear hn
  go_wp2_with fail
  go_loopg [6, 20] n (fun g v6 v20 W => ∃ p : Nat, p ≤ n ∧ v20 = .int .i64 (p : Int) ∧ n - p ≤ g ∧ (p = 0 → v6 = .slice none 0 0) ∧ Aside0 (Kd.R (Kd.int .i64) 3 W W0.heap.size (fun k => W0.heap.size ≤ k) v6 (upTo p) ∧ Below W0.heap.size W0 W))
  case atStart => exact ⟨0, by omega, rfl, by omega, fun _ => rfl, ⟨Kd.R_nil _ _ _ _ _, Below.refl _ _⟩⟩
  case round =>
    obtain ⟨p, hp, rfl, hg, hz0, HP⟩ := hrel
    have HZ := Aside0.mk hz0
    clear hz0
    by_cases hlt : p < n
    · have hltz : (p : Int) < (n : Int) := by omega
      have hj8 : ((upTo p).length + 1) * 8 ≤ 140737488355328 := by rw [upTo_len]; have := HL41.out; have := HLL.out; have := HN.out; omega
      go_wp2_with ((with_reducible refine gate_builtin (b := .append) (xs := #[.tmp 23, .tmp 25]) rfl ?_); at_builtin; refine Kd.R_append (Kd.int .i64) (w0 := W0) W0.heap.size rfl (.tmp 23) (.tmp 25) 37 3 (.int .i64 0) 8 rfl Try.underlying37 info3 rfl (by decide) (by omega) u6 (upTo p) (p : Int) [.int .i64 (p : Int)] (fun k => W0.heap.size ≤ k) (fun _ => False) rfl rfl rfl (fun _ hk => hk.elim) (fun k hk => Nat.le_trans HP.out.2.size hk) HP.out.1 HP.out.2 HP.out.2.size hj8 ?_; intro v51 w51 ho hb hg' hat; have HP2 := Aside0.mk (And.intro ho hb); clear ho hb hg' hat)
      go_roundg (n - (p + 1))
      case measure => omega
      case rel => exact ⟨p + 1, by omega, by go_num, by omega, fun h => by omega, ⟨by rw [upTo_succ]; exact HP2.out.1, HP2.out.2⟩⟩
    · have hltz : ¬ (p : Int) < (n : Int) := by omega
      obtain rfl : p = n := by omega
      by_cases hz : p = 0
      · obtain rfl := HZ.out hz
        subst hz
        have hin : into = [] := List.eq_nil_of_length_eq_zero HN.out
        subst hin
        have hb2 := HP.out.2
        have e0 : upTo 0 = [] := rfl
        have b3 := blk_below HB2.out hb2
        have b1 := blk_below HB1.out hb2
        have hbb := below_step HB.out hb2
        have hcall := fun (w2 : World) (hw : Below w.heap.size w w2) => layers_only.calls k a0 a1 A c l none 0 [] _ _ _ w2 (Kd.C_below HR.out hw) HC.out (Kd.R_reads' (Kd.R_nil (Kd.int .i64) 3 w2 w2.heap.size (fun _ => True))).2.2 (Nat.le_refl _) HQ.out
        simp only [List.length_nil] at hcall
        have HCALL := Aside0.mk hcall
        clear hcall
        go_upto_region 11 with (fail)
        have b3 := blk_alloc b3 (.cells #[.func (.func 67) #[] #[.pointer (some ⟨g1, 0, none⟩), .pointer (some ⟨g4, 0, none⟩)]] 79)
        have b1 := blk_alloc b1 (.cells #[.func (.func 67) #[] #[.pointer (some ⟨g1, 0, none⟩), .pointer (some ⟨g4, 0, none⟩)]] 79)
        have hbb := below_alloc hbb (.cells #[.func (.func 67) #[] #[.pointer (some ⟨g1, 0, none⟩), .pointer (some ⟨g4, 0, none⟩)]] 79)
        generalize wr.alloc (.cells #[.func (.func 67) #[] #[.pointer (some ⟨g1, 0, none⟩), .pointer (some ⟨g4, 0, none⟩)]] 79) = w2 at b1 b3 hbb ⊢
        have k1 : w2.cell? ⟨g1, 0, none⟩ = some (.int .i64 a0) := by rw [blk_cell b1]; rfl
        have k2 : w2.cell? ⟨g1, 1, none⟩ = some (.int .i64 a1) := by rw [blk_cell b1]; rfl
        have k3 : w2.cell? ⟨g1, 2, none⟩ = some (.slice A l.length c) := by rw [blk_cell b1]; rfl
        have HB2' := Aside0.mk b3
        have HBB := Aside0.mk hbb
        clear b1 b3 hbb hb2
        go_wp2_with (first
          | (go_at_call 68; refine (sort_nil _).mono ?_; rintro e w4 ⟨rfl, rfl⟩)
          | (go_at_call 70; (with_reducible refine (HCALL.out _ HBB.out).mono ?_); rintro e w3 ⟨v2, rfl, ho3, hb3⟩; obtain ⟨Ao, co, rfl⟩ := Kd.N_slice ho3; have HO3 := Aside0.mk ho3; have HB3 := Aside0.mk hb3; have b3 := blk_below HB2'.out hb3; have m0 : w3.cell? ⟨g2, 0, none⟩ = some (.int .i64 0) := (by rw [blk_cell b3]; rfl); have m1 : w3.cell? ⟨g2, 1, none⟩ = some (.int .i64 0) := (by rw [blk_cell b3]; rfl); have m2 : w3.cell? ⟨g2, 2, none⟩ = some (.slice none 0 0) := (by rw [blk_cell b3]; rfl); have f0 : w3.frozen? ⟨g2, 0, none⟩ = false := blk_frozen b3 0; have f1 : w3.frozen? ⟨g2, 1, none⟩ = false := blk_frozen b3 1; have f2 : w3.frozen? ⟨g2, 2, none⟩ = false := blk_frozen b3 2; have B3 := Aside0.mk b3; clear ho3 hb3 b3))
        (try simp only [Exit.inBlock, Exit.then])
        refine bodyPost_ret (results_ct rfl _ _ g2 24 #[.int .i64 q1, .int .i64 q2, .slice Ao q3.length co] (0, 0) _ rfl (blk_put (cs := #[.int .i64 q1, .int .i64 q2, .slice none 0 0]) (blk_put (cs := #[.int .i64 q1, .int .i64 0, .slice none 0 0]) (blk_put (cs := #[.int .i64 0, .int .i64 0, .slice none 0 0]) B3.out 0 _ rfl) 1 _ rfl) 2 _ rfl) Try.underlying24 rfl (by kernel_rfl)) rfl ?_
        have hw2 := HBB.out.size
        have hg2 := blk_lt HB2'.out
        have far : ∀ k, w4.heap.size ≤ k → k ≠ g2 := fun k hk => by omega
        have hbl := below_step HBB.out HB3.out
        exact ⟨_, rfl, Kd.N_far (p := ⟨g2, 2, none⟩) (Kd.N_far (p := ⟨g2, 1, none⟩) (Kd.N_far (p := ⟨g2, 0, none⟩) (Kd.N_lower HO3.out hw2) far _) far _) far _ |> fun h => Kd.N_mono h (fun k hk => Nat.le_trans hw2 hk), below_set (below_set (below_set hbl n2) n2) n2⟩
      · have hHO := HP.out.1
        obtain ⟨gd, cap, rfl, hgd1, hgd2, _⟩ := Kd.R_form hHO (by rw [upTo_len]; omega)
        have HP1 := Aside0.mk hHO
        clear hHO
        rw [upTo_len]
        go_upto_region 11 with (fail)
        have hb2 := HP.out.2
        have hN := HN.out
        subst hN
        have hS : SrtS w W0.heap.size g1 g2 g4 wr.heap.size gd cap a0 a1 A c l Ai ci into (wr.alloc (.cells #[.func (.func 67) #[] #[.pointer (some ⟨g1, 0, none⟩), .pointer (some ⟨g4, 0, none⟩)]] 79)) (upTo into.length) :=
          ⟨below_alloc (below_step HB.out hb2) _, blk_alloc (blk_below HB1.out hb2) _, blk_alloc (blk_below HB2.out hb2) _, blk_alloc (blk_below HB4.out hb2) _, blk_new _ _, Kd.R_alloc (Kd.R_below HI.out hb2) _, Kd.R_alloc HP1.out _, upTo_len _, HB.out.size⟩
        have hall := HA.out
        have hE := SrtS.env (w := w) (N := W0.heap.size) (g1 := g1) (g2 := g2) (g4 := g4) (g8 := wr.heap.size) (gd := gd) (cap := cap) (a0 := a0) (a1 := a1) (A := A) (c := c) (l := l) (A4 := Ai) (c4 := ci) (into := into) HLL.out (by have := HLL.out; have := HL41.out; omega) HR.out (fun x h0 h1 => by
          have hm : rd into x ∈ into := by
            have hx : x.toNat < into.length := by omega
            simp only [rd, List.getD_eq_getElem?_getD, List.getElem?_eq_getElem hx, Option.getD_some]
            exact List.getElem_mem _
          simpa using List.all_eq_true.1 hall _ hm)
        have hup : ∀ i : Nat, i < into.length → rd (upTo into.length) i = i := fun i hi => by simp [rd, upTo, List.getD_eq_getElem?_getD, hi]
        have hsort := sort_any hE hS cap (fun i hi => by rw [hup i hi]; omega) (fun p q h1 h2 => by rw [hup p (by omega), hup q h2]; omega)
        clear hE hS hup hall
        have HSO := Aside0.mk hsort
        clear hsort
        go_upto_region 12 with (go_at_call 68; (with_reducible refine (HSO.out).mono ?_); rintro e w2 ⟨rfl, d2, hs2, hp2, ho2⟩; have HS2 := Aside0.mk hs2; have HD2 := Aside0.mk (And.intro hp2 ho2); clear hs2 hp2 ho2)
        have hd2 : d2 = sortO (skey l into) (upTo into.length) := sort_is HD2.out.1 (upTo_len _) (by
          unfold upTo
          exact List.Pairwise.map _ (fun a b (h : a ≠ b) => by omega) List.nodup_range) HD2.out.2
        subst hd2
        obtain ⟨hl1, hl2, hC⟩ := Kd.R_reads' HS2.out.ho
        have hlen : (sortO (skey l into) (upTo into.length)).length = into.length := HS2.out.l1
        have HCO := Aside0.mk hC
        have HLE := Aside0.mk hl2
        have HLEN := Aside0.mk hlen
        have k1 : w2.cell? ⟨g1, 0, none⟩ = some (.int .i64 a0) := by rw [blk_cell HS2.out.b1]; rfl
        have k2 : w2.cell? ⟨g1, 1, none⟩ = some (.int .i64 a1) := by rw [blk_cell HS2.out.b1]; rfl
        have k3 : w2.cell? ⟨g1, 2, none⟩ = some (.slice A l.length c) := by rw [blk_cell HS2.out.b1]; rfl
        have hcall := layers_only.calls k a0 a1 A c l (some ⟨gd, 0, none⟩) cap (sortO (skey l into) (upTo into.length)) _ _ _ w2 (Kd.C_below HR.out HS2.out.hb) HC.out HCO.out HLE.out HQ.out
        rw [hlen] at hcall
        have HCALL := Aside0.mk hcall
        clear hl1 hl2 hC hlen hcall
        go_wp2_with (go_at_call 70; (with_reducible refine (HCALL.out).mono ?_); rintro e w3 ⟨v2, rfl, ho3, hb3⟩; obtain ⟨Ao, co, rfl⟩ := Kd.N_slice ho3; have HO3 := Aside0.mk ho3; have HB3 := Aside0.mk hb3; have b3 := blk_below HS2.out.b2 hb3; have m0 : w3.cell? ⟨g2, 0, none⟩ = some (.int .i64 0) := (by rw [blk_cell b3]; rfl); have m1 : w3.cell? ⟨g2, 1, none⟩ = some (.int .i64 0) := (by rw [blk_cell b3]; rfl); have m2 : w3.cell? ⟨g2, 2, none⟩ = some (.slice none 0 0) := (by rw [blk_cell b3]; rfl); have f0 : w3.frozen? ⟨g2, 0, none⟩ = false := blk_frozen b3 0; have f1 : w3.frozen? ⟨g2, 1, none⟩ = false := blk_frozen b3 1; have f2 : w3.frozen? ⟨g2, 2, none⟩ = false := blk_frozen b3 2; have B3 := Aside0.mk b3; clear ho3 hb3 b3)
        (try simp only [Exit.inBlock, Exit.then])
        refine bodyPost_ret (results_ct rfl _ _ g2 24 #[.int .i64 q1, .int .i64 q2, .slice Ao q3.length co] (0, 0) _ rfl (blk_put (cs := #[.int .i64 q1, .int .i64 q2, .slice none 0 0]) (blk_put (cs := #[.int .i64 q1, .int .i64 0, .slice none 0 0]) (blk_put (cs := #[.int .i64 0, .int .i64 0, .slice none 0 0]) B3.out 0 _ rfl) 1 _ rfl) 2 _ rfl) Try.underlying24 rfl (by kernel_rfl)) rfl ?_
        have hw2 := HS2.out.hb.size
        have hg2 : g2 < w2.heap.size := blk_lt HS2.out.b2
        have far : ∀ k, w2.heap.size ≤ k → k ≠ g2 := fun k hk => by omega
        have hbl := below_step HS2.out.hb HB3.out
        exact ⟨_, rfl, Kd.N_far (p := ⟨g2, 2, none⟩) (Kd.N_far (p := ⟨g2, 1, none⟩) (Kd.N_far (p := ⟨g2, 0, none⟩) (Kd.N_lower HO3.out hw2) far _) far _) far _ |> fun h => Kd.N_mono h (fun k hk => Nat.le_trans hw2 hk), below_set (below_set (below_set hbl n2) n2) n2⟩
end Go.Proofs.Ytbelnopbggkdfaa.Q
end

section
namespace Go.Proofs.Ytbelnopbggkdfaa.Q
open Go.RowKit Go.Proofs.YtbelnopbggkdfaaW.PrintWords Go.Proofs.YtbelnopbggkdfaaW.PrintLast Go.Proofs.YtbelnopbggkdfaaW.PrintMore
theorem early_no {q b : Int} {l : List Opn} (hw : WfL l) (h : okc q b l = false) : Evt fun k => layers_Early.f k q b l = some ([], 80) :=
  (checked_is (q := q) (b := b) hw).mono fun k hk => by
    unfold layers_Early.f
    rw [hk, h]
    rfl
theorem Early_is {q b : Int} {l : List Opn} (hw : WfL l) (h : CircF q b l) : ∃ E, (Evt fun k => layers_Early.f k q b l = some (E, 0)) ∧ E.length = l.length ∧ (∀ x ∈ E, 0 ≤ x ∧ x ≤ l.length) ∧ EarlyP l.length (at_ l) (nth E) := by
  obtain ⟨r, h1, h2, h3, h4⟩ := early_is h
  refine ⟨r, (checked_is (q := q) (b := b) hw).mono fun k hk => ?_, h2, h3, h4⟩
  have hn := h.n
  unfold layers_Early.f layers_early.f
  rw [hk, h.okc, if_pos (show l.length < 2199023255552 by omega), h1]
  rfl
theorem maxTo_lub {l : List Int} (h0 : ∀ x ∈ l, 0 ≤ x) : ∀ c, c < l.length → Lub (fun x => ∃ i, i ≤ c ∧ x = nth l i) (maxTo l c)
  | 0, hc => by
    have e : maxTo l 0 = nth l 0 := rd_nth l 0
    rw [e]
    refine ⟨?_, ?_, .inr ⟨0, Nat.le_refl _, rfl⟩⟩
    · rintro x ⟨i, hi, rfl⟩
      obtain rfl : i = 0 := by omega
      exact Int.le_refl _
    · rw [nth_get hc]; exact h0 _ (List.getElem_mem _)
  | c + 1, hc => by
    have e : maxTo l (c + 1) = mx (maxTo l c) (nth l (c + 1)) := by
      show mx (maxTo l c) (rd l ((c : Int) + 1)) = _
      rw [show (c : Int) + 1 = ((c + 1 : Nat) : Int) by omega, rd_nth]
    rw [e]
    have h1 := maxTo_lub h0 c (by omega)
    have h2 : Lub (fun x => x = nth l (c + 1)) (nth l (c + 1)) := ⟨fun x hx => by omega, by rw [nth_get hc]; exact h0 _ (List.getElem_mem _), .inr rfl⟩
    refine (h1.or h2).congr fun x => ?_
    constructor
    · rintro (⟨i, hi, rfl⟩ | rfl)
      · exact ⟨i, by omega, rfl⟩
      · exact ⟨c + 1, by omega, rfl⟩
    · rintro ⟨i, hi, rfl⟩
      by_cases hic : i ≤ c
      · exact .inl ⟨i, hic, rfl⟩
      · obtain rfl : i = c + 1 := by omega
        exact .inr rfl
theorem depth_no {q b : Int} {l : List Opn} (hw : WfL l) (h : okc q b l = false) : Evt fun k => layers_Depth.f k q b l = some (0, 80) :=
  (early_no (q := q) (b := b) hw h).mono fun k hk => by
    unfold layers_Depth.f
    rw [hk]
    rfl
theorem Depth_is {q b : Int} {l : List Opn} {E : List Int} (hE : Evt fun k => layers_Early.f k q b l = some (E, 0)) (hl : E.length = l.length) (h0 : ∀ x ∈ E, 0 ≤ x ∧ x ≤ l.length) :
    ∃ D, (Evt fun k => layers_Depth.f k q b l = some (D, 0)) ∧ 0 ≤ D ∧ D ≤ l.length ∧ Lub (fun x => ∃ i, i < l.length ∧ x = nth E i) D := by
  by_cases hn : E = []
  · subst hn
    refine ⟨0, hE.mono fun k hk => ?_, Int.le_refl _, by omega, Lub.none ?_⟩
    · unfold layers_Depth.f
      rw [hk]
      rfl
    · rintro x ⟨i, hi, _⟩
      simp only [List.length_nil] at hl
      omega
  · have hp : 0 < E.length := List.length_pos_iff.2 hn
    have h1 := maxTo_lub (fun x hx => (h0 x hx).1) (E.length - 1) (by omega)
    refine ⟨maxTo E (E.length - 1), hE.mono fun k hk => ?_, h1.2.1, ?_, h1.congr fun x => ⟨fun ⟨i, a, c⟩ => ⟨i, by omega, c⟩, fun ⟨i, a, c⟩ => ⟨i, by omega, c⟩⟩⟩
    · unfold layers_Depth.f slices_Max_int_int.f
      rw [hk]
      simp only [Option.bind_some]
      rw [if_pos trivial, if_neg (by omega), if_neg (by omega)]
      rfl
    · rcases h1.2.2 with c | ⟨i, hi, c⟩
      · omega
      · rw [c, nth_get (by omega)]; exact (h0 _ (List.getElem_mem _)).2
theorem late_no {q b : Int} {l : List Opn} (hw : WfL l) (h : okc q b l = false) : Evt fun k => layers_Late.f k q b l = some ([], 80) :=
  (depth_no (q := q) (b := b) hw h).mono fun k hk => by
    unfold layers_Late.f
    rw [hk]
    rfl
theorem Late_is {q b D : Int} {l : List Opn} (h : CircF q b l) (hD : Evt fun k => layers_Depth.f k q b l = some (D, 0)) (h0 : 0 ≤ D) (h1 : D ≤ l.length) :
    ∃ B, (Evt fun k => layers_Late.f k q b l = some (B, 0)) ∧ B.length = l.length ∧ LateP l.length (at_ l) D (nth B) := by
  have hn := h.n
  obtain ⟨r, r1, r2, r3⟩ := late_is (d := D) h h0 (by omega)
  refine ⟨r.reverse, hD.mono fun k hk => ?_, by simp [r2], r3⟩
  unfold layers_Late.f
  rw [hk]
  simp only [Option.bind_some]
  rw [if_pos trivial, if_pos (by omega), r1]
  rfl
theorem early_le_late {n : Nat} {L : Nat → Opn} {E B : Nat → Int} {D : Int} (hE : EarlyP n L E) (hB : LateP n L D B) (hD : ∀ i, i < n → E i ≤ D) : ∀ j i, n - i = j → i < n → E i ≤ B i := by
  intro j
  induction j using Nat.strongRecOn with
  | _ j ih =>
    intro i hj hi
    rcases (hB i hi).2.2 with c | ⟨k, hk, hkn, ht, c⟩
    · rw [c]; exact hD i hi
    · have h1 := ih (n - k) (by omega) k rfl hkn
      have h2 := (hE k hkn).1 (E i) ⟨i, hk, by rw [tch_symm]; exact ht, rfl⟩
      omega
theorem clone_is {l : List Int} (h : l.length < 17592186044416) : slices_Clone_int_int.f l = some l := by unfold slices_Clone_int_int.f; rw [if_pos h]
theorem copy_l0 {q b : Int} {l : List Opn} (hf : ∀ o ∈ l, o.f2.length ≤ 64) (hn : l.length ≤ 1000000) :
    ∀ (d i : Nat), l.length - i = d → i ≤ l.length → Evt fun k => circuit_Copy.l0 k l (l.length : Int) (i : Int) q b (l.take i) = some (q, b, l)
  | 0, i, hd, hi => by
    refine (Evt.all (p := fun _ => True) fun _ => trivial).succ fun k _ => ?_
    unfold circuit_Copy.l0
    rw [if_neg (by omega), List.take_of_length_le (by omega)]
  | d + 1, i, hd, hi => by
    have hil : i < l.length := by omega
    refine (copy_l0 (q := q) (b := b) hf hn d (i + 1) (by omega) (by omega)).succ fun k hk => ?_
    have h2 := hf _ (List.getElem_mem hil)
    unfold circuit_Copy.l0
    rw [if_pos (by omega), if_pos (by omega), if_pos (by omega), rdT_nat hil, clone_is (by omega)]
    simp only [Option.bind_some]
    rw [if_pos (by rw [List.length_take]; omega), w64 (by omega) (by omega), show (i : Int) + 1 = ((i + 1 : Nat) : Int) by omega]
    have e : l.take i ++ [(⟨l[i].f0, l[i].f1, l[i].f2, l[i].f3, l[i].f4, l[i].f5⟩ : Opn)] = l.take (i + 1) := by
      rw [List.take_add_one, List.getElem?_eq_getElem hil]; rfl
    rw [e, hk]
theorem copy_is {q b : Int} {l : List Opn} (hf : ∀ o ∈ l, o.f2.length ≤ 64) (hn : l.length ≤ 1000000) : Evt fun k => circuit_Copy.f k q b l = some (q, b, l) :=
  (copy_l0 hf hn l.length 0 (by omega) (by omega)).mono fun k hk => by simpa [circuit_Copy.f] using hk
theorem only_l0 {q b : Int} {l : List Opn} {ord : List Int} (ho : ∀ x ∈ ord, 0 ≤ x ∧ x < (l.length : Int)) (hn : ord.length ≤ 1000000) :
    ∀ (d i : Nat), ord.length - i = d → i ≤ ord.length → Evt fun k => layers_only.l0 k ((ord.take i).map (rd_T46 l)) ord (ord.length : Int) (i : Int) q b l = some (q, b, ord.map (rd_T46 l))
  | 0, i, hd, hi => by
    refine (Evt.all (p := fun _ => True) fun _ => trivial).succ fun k _ => ?_
    unfold layers_only.l0
    rw [if_neg (by omega), List.take_of_length_le (by omega)]
  | d + 1, i, hd, hi => by
    have hil : i < ord.length := by omega
    refine (only_l0 (q := q) (b := b) ho hn d (i + 1) (by omega) (by omega)).succ fun k hk => ?_
    have h2 := ho _ (List.getElem_mem hil)
    unfold layers_only.l0
    rw [if_pos (by omega), if_pos (by omega), if_pos (by omega), rd_nat hil, if_pos h2.1, if_pos h2.2, if_pos (by rw [List.length_map, List.length_take]; omega), w64 (by omega) (by omega), show (i : Int) + 1 = ((i + 1 : Nat) : Int) by omega]
    have e : (ord.take i).map (rd_T46 l) ++ [(⟨(rd_T46 l ord[i]).f0, (rd_T46 l ord[i]).f1, (rd_T46 l ord[i]).f2, (rd_T46 l ord[i]).f3, (rd_T46 l ord[i]).f4, (rd_T46 l ord[i]).f5⟩ : Opn)] = (ord.take (i + 1)).map (rd_T46 l) := by
      rw [List.take_add_one, List.getElem?_eq_getElem hil, List.map_append]; rfl
    rw [e, hk]
theorem only_is {q b : Int} {l : List Opn} {ord : List Int} (hf : ∀ o ∈ l, o.f2.length ≤ 64) (hl : l.length ≤ 1000000) (ho : ∀ x ∈ ord, 0 ≤ x ∧ x < (l.length : Int)) (hn : ord.length ≤ 1000000) :
    Evt fun k => layers_only.f k q b l ord = some (q, b, ord.map (rd_T46 l)) :=
  ((copy_is (q := q) (b := b) hf hl).and (only_l0 (q := q) (b := b) ho hn ord.length 0 (by omega) (by omega))).mono fun k ⟨h1, h2⟩ => by
    unfold layers_only.f
    rw [h1]
    simpa using h2
theorem mem_upTo {n : Nat} {x : Int} : x ∈ upTo n ↔ 0 ≤ x ∧ x < n := by
  unfold upTo
  simp only [List.mem_map, List.mem_range]
  constructor
  · rintro ⟨i, hi, rfl⟩; omega
  · rintro ⟨h0, h1⟩; exact ⟨x.toNat, by omega, by omega⟩
theorem upTo_nodup (n : Nat) : (upTo n).Nodup := by
  unfold upTo
  exact List.Pairwise.map _ (fun a b hab => by show (a : Int) ≠ b; omega) List.nodup_range
theorem sortO_mem {key : Int → Int} {n : Nat} {x : Int} : x ∈ sortO key (upTo n) ↔ 0 ≤ x ∧ x < n := by
  rw [(sortO_perm key _).mem_iff, mem_upTo]
theorem sortO_len {key : Int → Int} {n : Nat} : (sortO key (upTo n)).length = n := by rw [(sortO_perm key _).length_eq, upTo_len]
theorem Sorted_is {q b : Int} {l : List Opn} {E : List Int} (h : CircF q b l) (hE : Evt fun k => layers_Early.f k q b l = some (E, 0)) (hl : E.length = l.length) (h0 : ∀ x ∈ E, 0 ≤ x ∧ x ≤ l.length) :
    Evt fun k => layers_Sorted.f k q b l = some (q, b, (sortO (skey l E) (upTo l.length)).map (rd_T46 l), 0) := by
  have hn := h.n
  refine (hE.and (only_is (q := q) (b := b) (l := l) (ord := sortO (skey l E) (upTo l.length)) (fun o ho => (h.op o ho).len) (by omega) (fun x hx => sortO_mem.1 hx) (by rw [sortO_len]; omega))).mono fun k ⟨h1, h2⟩ => ?_
  unfold layers_Sorted.f
  rw [h1]
  simp only [Option.bind_some]
  rw [if_pos trivial, if_pos ⟨hl.symm, by omega, by
    simp only [List.all_eq_true, decide_eq_true_eq]
    intro x hx
    have := h0 x hx
    omega⟩, hl, h2]
  rfl
theorem key_lt {n : Nat} {l : List Opn} {E : List Int} (hE : EarlyP n (at_ l) (nth E)) {i k : Nat} (hi : i < n) (hk : k < i) (ht : tch (at_ l i) (at_ l k) = true) : ltK (skey l E) (k : Int) (i : Int) := by
  have h1 := (hE i hi).1 (nth E k) ⟨k, hk, ht, rfl⟩
  have e : ∀ j : Nat, skey l E (j : Int) = mkey (at_ l j).f0 (nth E j) := fun j => by
    unfold skey
    rw [rd_nth]
    simp [rd_T46, at_]
  unfold ltK
  rw [e, e]
  unfold mkey
  unfold inc at h1
  by_cases c1 : (at_ l k).f0 = 4 <;> by_cases c2 : (at_ l i).f0 = 4 <;> simp only [c1, c2, if_true, if_false] at h1 ⊢ <;> omega
/-- Sorting keeps moments, and the depth. -/
theorem sorted_moments {n : Nat} {l : List Opn} {E ord : List Int} (hE : EarlyP n (at_ l) (nth E)) (hp : ord.Perm (upTo n)) (hs : ord.Pairwise (ltK (skey l E))) :
    EarlyP n (at_ (ord.map (rd_T46 l))) (fun j => nth E (nth ord j).toNat) := by
  have hol : ord.length = n := by rw [hp.length_eq, upTo_len]
  have hr : ∀ j, j < n → 0 ≤ nth ord j ∧ nth ord j < n := fun j hj => by
    rw [nth_get (by omega)]
    exact mem_upTo.1 (hp.mem_iff.1 (List.getElem_mem _))
  have hsur : ∀ k : Nat, k < n → ∃ j, j < n ∧ nth ord j = (k : Int) := fun k hk => by
    have hm : (k : Int) ∈ ord := hp.mem_iff.2 (mem_upTo.2 (by omega))
    obtain ⟨j, hj, e⟩ := List.getElem_of_mem hm
    exact ⟨j, by omega, by rw [nth_get hj]; exact e⟩
  have hat : ∀ j, j < n → at_ (ord.map (rd_T46 l)) j = at_ l (nth ord j).toNat := fun j hj => by
    rw [at_get (by simpa using (by omega : j < ord.length)), List.getElem_map, nth_get (by omega)]
    rfl
  have hlt : ∀ i j, i < j → j < n → ltK (skey l E) (nth ord i) (nth ord j) := fun i j hij hj => by
    rw [nth_get (by omega), nth_get (by omega)]
    exact (List.pairwise_iff_getElem.1 hs) i j (by omega) (by omega) hij
  intro j hj
  have hj2 := hr j hj
  have hEj := hE (nth ord j).toNat (by omega)
  rw [hat j hj]
  refine hEj.congr fun x => ?_
  constructor
  · rintro ⟨k, hk, ht, rfl⟩
    obtain ⟨k', hk', e⟩ := hsur k (by omega)
    have hky := key_lt hE (by omega) hk ht
    rw [show (((nth ord j).toNat : Nat) : Int) = nth ord j by omega, ← e] at hky
    have hkj : k' < j := by
      rcases Nat.lt_trichotomy k' j with c | c | c
      · exact c
      · subst c; omega
      · exact absurd (ltK_asymm hky (hlt j k' c hk')) id
    refine ⟨k', hkj, ?_, ?_⟩
    · rw [hat k' hk', e, Int.toNat_natCast]; exact ht
    · show nth E k = nth E (nth ord k').toNat
      rw [e, Int.toNat_natCast]
  · rintro ⟨k', hk', ht, rfl⟩
    have hkn : k' < n := by omega
    have hk2 := hr k' hkn
    rw [hat k' hkn] at ht
    refine ⟨(nth ord k').toNat, ?_, ht, rfl⟩
    have hlt' := hlt k' j hk' hj
    rcases Nat.lt_trichotomy (nth ord k').toNat (nth ord j).toNat with c | c | c
    · exact c
    · have e : nth ord k' = nth ord j := by omega
      rw [e] at hlt'
      exact absurd (ltK_asymm hlt' hlt') id
    · rw [tch_symm] at ht
      have hky := key_lt hE (by omega) c ht
      rw [show (((nth ord j).toNat : Nat) : Int) = nth ord j by omega, show (((nth ord k').toNat : Nat) : Int) = nth ord k' by omega] at hky
      exact absurd (ltK_asymm hky hlt') id
theorem sorted_ok {q b : Int} {l : List Opn} {ord : List Int} (h : CircF q b l) (hw : WfL l) (hp : ord.Perm (upTo l.length)) : CircF q b (ord.map (rd_T46 l)) ∧ WfL (ord.map (rd_T46 l)) := by
  have hm : ∀ o ∈ ord.map (rd_T46 l), o ∈ l := fun o ho => by
    obtain ⟨x, hx, rfl⟩ := List.mem_map.1 ho
    have := mem_upTo.1 (hp.mem_iff.1 hx)
    obtain ⟨i, rfl⟩ : ∃ i : Nat, x = i := ⟨x.toNat, by omega⟩
    rw [rdT_nat (by omega)]
    exact List.getElem_mem _
  exact ⟨⟨h.q0, h.q1, h.b0, h.b1, by rw [List.length_map, hp.length_eq, upTo_len]; exact h.n, fun o ho => h.op o (hm o ho), fun o ho => h.may o (hm o ho)⟩, fun o ho => hw o (hm o ho)⟩
/-- All that the law of the order asks. -/
theorem order_facts {q b : Int} {l : List Opn} (hw : WfL l) (h : CircF q b l) : ∃ (E B : List Int) (D : Int) (s : List Opn),
    (Evt fun k => layers_Early.f k q b l = some (E, 0)) ∧ (Evt fun k => layers_Late.f k q b l = some (B, 0)) ∧ (Evt fun k => layers_Depth.f k q b l = some (D, 0)) ∧ (Evt fun k => layers_Sorted.f k q b l = some (q, b, s, 0)) ∧ (Evt fun k => layers_Depth.f k q b s = some (D, 0)) ∧
    E.length = l.length ∧ B.length = l.length ∧
    (∀ i : Nat, i < l.length → nth E i ≤ nth B i ∧ nth B i ≤ D ∧ ((at_ l i).f0 ≠ 4 → 1 ≤ nth E i)) ∧
    (∀ i k : Nat, i < l.length → k < i → (at_ l i).f0 ≠ 4 → (at_ l k).f0 ≠ 4 → tch (at_ l i) (at_ l k) = true → nth E k < nth E i ∧ nth B k < nth B i) := by
  obtain ⟨E, e1, e2, e3, e4⟩ := Early_is hw h
  obtain ⟨D, d1, d2, d3, d4⟩ := Depth_is e1 e2 e3
  obtain ⟨B, b1, b2, b3⟩ := Late_is h d1 d2 d3
  have hs := Sorted_is h e1 e2 e3
  have hp := sortO_perm (skey l E) (upTo l.length)
  have hsm := sorted_moments (n := l.length) e4 hp (sortO_srt _ _ (upTo_nodup _))
  obtain ⟨hc, hws⟩ := sorted_ok h hw hp
  have hsl : ((sortO (skey l E) (upTo l.length)).map (rd_T46 l)).length = l.length := by rw [List.length_map, sortO_len]
  obtain ⟨E', f1, f2, f3, f4⟩ := Early_is hws hc
  obtain ⟨D', g1, g2, g3, g4⟩ := Depth_is f1 f2 f3
  rw [hsl] at f4 g4
  have hEE := f4.uniq hsm
  have hDD : D' = D := by
    refine g4.uniq (d4.congr fun x => ?_)
    constructor
    · rintro ⟨i, hi, rfl⟩
      have hm : (i : Int) ∈ sortO (skey l E) (upTo l.length) := sortO_mem.2 (by omega)
      obtain ⟨j, hj, e⟩ := List.getElem_of_mem hm
      rw [sortO_len] at hj
      refine ⟨j, hj, ?_⟩
      rw [hEE j hj, nth_get (l := sortO (skey l E) (upTo l.length)) (by rw [sortO_len]; exact hj), e, Int.toNat_natCast]
    · rintro ⟨j, hj, rfl⟩
      have hm := sortO_mem.1 (List.getElem_mem (l := sortO (skey l E) (upTo l.length)) (n := j) (by rw [sortO_len]; exact hj))
      rw [hEE j hj, nth_get (l := sortO (skey l E) (upTo l.length)) (by rw [sortO_len]; exact hj)]
      exact ⟨_, by omega, rfl⟩
  refine ⟨E, B, D, _, e1, b1, d1, hs, hDD ▸ g1, e2, b2, fun i hi => ?_, fun i k hi hk hi4 hk4 ht => ?_⟩
  · refine ⟨early_le_late e4 b3 (fun j hj => d4.1 _ ⟨j, hj, rfl⟩) _ i rfl hi, (b3 i hi).2.1, fun h4 => ?_⟩
    have := (e4 i hi).2.1
    unfold inc at this
    rw [if_neg h4] at this
    omega
  · have h1 := (e4 i hi).1 _ ⟨k, hk, ht, rfl⟩
    have h2 := (b3 k (by omega)).1 _ ⟨i, hk, hi, by rw [tch_symm]; exact ht, rfl⟩
    unfold inc at h1 h2
    rw [if_neg hi4] at h1 h2
    omega
end Go.Proofs.Ytbelnopbggkdfaa.Q
end

section
namespace Go.Proofs.Ytbelnopbggkdfaa
open Go.RowKit Go.Proofs.YtbelnopbggkdfaaW.PrintWords Go.Proofs.YtbelnopbggkdfaaW.PrintLast Q
set_option maxRecDepth 100000 in
/-- A gate of the statements: of whatever qubits. -/
theorem g_any (k : Int) (A : Option Addr) (n c : Nat) (w : World) : Calls Try.prog 59 #[.int .i64 k, .slice A n c] w fun e w' => e = .returned (.agg #[.int .i64 1, .int .i64 k, .slice A n c, .int .i64 0, .int .i64 (-1), .int .i64 0]) ∧ Below w.heap.size w w' := by
  have hu46 := Try.underlying46
  go_enter Try.func59, Try.ntmps59
  go_wp2
  refine bodyPost_ret (results_cell_row rfl _ _ w.heap.size 46 #[.int .i64 1, .int .i64 k, .slice A n c, .int .i64 0, .int .i64 (-1), .int .i64 0] (0, 0) _ rfl (by first | exact blk_new w _ | (simp; done)) Try.underlying46 rfl (by kernel_rfl)) rfl ?_
  exact ⟨rfl, by first | exact below_alloc (Below.refl _ _) _ | skip⟩
def exOps : List S46 := [⟨1, 2, [0], 0, -1, 0⟩, ⟨1, 11, [0, 1], 0, -1, 0⟩, ⟨1, 2, [2], 0, -1, 0⟩, ⟨4, 0, [1, 2], 0, -1, 0⟩, ⟨1, 2, [2], 0, -1, 0⟩]
/-- A row of whole numbers, known as a block from B on. -/
def RowC (B : Nat) (w : World) (v : Value) (l : List Int) : Prop := ∃ g, v = .slice (some ⟨g, 0, none⟩) l.length l.length ∧ B ≤ g ∧ w.heap[g]? = some (.cells (l.map (Value.int .i64)).toArray 3 (0, 0))
theorem RowC.below {B : Nat} {w w' : World} {v : Value} {l : List Int} (h : RowC B w v l) (hb : Below w.heap.size w w') : RowC B w' v l := by
  obtain ⟨g, h1, h2, h3⟩ := h
  exact ⟨g, h1, h2, blk_below h3 hb⟩
theorem rowC_reads {w : World} {y : Nat} {l : List Int} (h : w.heap[y]? = some (.cells (l.map (Value.int .i64)).toArray 3 (0, 0))) (hl : l.length ≤ 9223372036854775807) : Kd.C (Kd.int .i64) w (some ⟨y, 0, none⟩) l.length l :=
  Kd.C_of_reads (enc := Value.int .i64) (d := (0 : Int)) (h1 := fun _ => rfl) ⟨rfl, hl, fun _ => ⟨_, rfl, fun j hj => by
    rw [add_plain, blk_cell h]
    simp [List.getD_eq_getElem?_getD, List.getElem?_eq_getElem hj]⟩⟩
set_option linter.unusedVariables false
abbrev gAgg (k : Int) (v : Value) : Value := .agg #[.int .i64 1, .int .i64 k, v, .int .i64 0, .int .i64 (-1), .int .i64 0]
abbrev barAgg (v : Value) : Value := .agg #[.int .i64 4, .int .i64 0, v, .int .i64 0, .int .i64 (-1), .int .i64 0]
def exCells (v4 v6 v8 vb v11 : Value) : List Value :=
  [.int .i64 1, .int .i64 2, v4, .int .i64 0, .int .i64 (-1), .int .i64 0, .int .i64 1, .int .i64 11, v6, .int .i64 0, .int .i64 (-1), .int .i64 0, .int .i64 1, .int .i64 2, v8, .int .i64 0, .int .i64 (-1), .int .i64 0,
   .int .i64 4, .int .i64 0, vb, .int .i64 0, .int .i64 (-1), .int .i64 0, .int .i64 1, .int .i64 2, v11, .int .i64 0, .int .i64 (-1), .int .i64 0]
def exL (v4 v5 v6 v7 v8 v9 v10 v11 v12 v13 v14 : Value) : List (Nat × Tmp × Value) := [(0, 4, v4), (1, 5, v5), (2, 6, v6), (3, 7, v7), (4, 8, v8), (5, 9, v9), (6, 10, v10), (7, 11, v11), (8, 12, v12), (9, 13, v13), (10, 14, v14)]
/-- What is known while the region goes on. -/
structure ExF (W0 : World) (vb : Value) (b : Nat → Bool) (w : World) (v4 v5 v6 v7 v8 v9 v10 v11 v12 v13 v14 : Value) : Prop where
  hb : Below W0.heap.size W0 w
  h0 : b 0 = true → RowC W0.heap.size w v4 [0]
  h1 : b 1 = true → v5 = gAgg 2 v4
  h2 : b 2 = true → RowC W0.heap.size w v6 [0, 1]
  h3 : b 3 = true → v7 = gAgg 11 v6
  h4 : b 4 = true → RowC W0.heap.size w v8 [2]
  h5 : b 5 = true → v9 = gAgg 2 v8
  h6 : b 6 = true → v10 = barAgg vb
  h7 : b 7 = true → RowC W0.heap.size w v11 [2]
  h8 : b 8 = true → v12 = gAgg 2 v11
  h9 : b 9 = true → ∃ g, v13 = .slice (some ⟨g, 0, none⟩) 5 5 ∧ W0.heap.size ≤ g ∧ w.heap[g]? = some (.cells (exCells v4 v6 v8 vb v11).toArray 46 (0, 0))
  h10 : b 10 = true → v14 = .agg #[.int .i64 3, .int .i64 0, v13]
theorem ExF.below {W0 w w1 : World} {vb : Value} {b : Nat → Bool} {v4 v5 v6 v7 v8 v9 v10 v11 v12 v13 v14 : Value} (h : ExF W0 vb b w v4 v5 v6 v7 v8 v9 v10 v11 v12 v13 v14) (hb : Below w.heap.size w w1) : ExF W0 vb b w1 v4 v5 v6 v7 v8 v9 v10 v11 v12 v13 v14 :=
  ⟨below_step h.hb hb, fun e => (h.h0 e).below hb, h.h1, fun e => (h.h2 e).below hb, h.h3, fun e => (h.h4 e).below hb, h.h5, h.h6, fun e => (h.h7 e).below hb, h.h8, fun e => by
    obtain ⟨g, h1, h2, h3⟩ := h.h9 e
    exact ⟨g, h1, h2, blk_below h3 hb⟩, h.h10⟩
/-- What is told in the end. -/
def ExDone (W0 : World) (vb : Value) (g0 : Nat) (w : World) (v4 v5 v6 v7 v8 v9 v10 v11 v12 v13 v14 : Value) : Prop :=
  ∃ w1, ExF W0 vb (fun _ => true) w1 v4 v5 v6 v7 v8 v9 v10 v11 v12 v13 v14 ∧ w = ((w1.setCell ⟨g0, 0, none⟩ (.int .i64 3)).setCell ⟨g0, 1, none⟩ (.int .i64 0)).setCell ⟨g0, 2, none⟩ v13
def ExI (a0 : Act) (W0 : World) (vb : Value) (g0 : Nat) (b : Nat → Bool) (a : Act) (w : World) : Prop :=
  ∃ v4 v5 v6 v7 v8 v9 v10 v11 v12 v13 v14, a = putSel a0 b (exL v4 v5 v6 v7 v8 v9 v10 v11 v12 v13 v14) ∧ (b 11 = false → ExF W0 vb b w v4 v5 v6 v7 v8 v9 v10 v11 v12 v13 v14) ∧ (b 11 = true → ExDone W0 vb g0 w v4 v5 v6 v7 v8 v9 v10 v11 v12 v13 v14)
def exT : Bool × List (List Nat × List Nat) := (true, [([], []), ([0], [0]), ([], []), ([2, 1], [2]), ([], []), ([4, 3], [4]), ([], []), ([], []), ([7, 5], [7]), ([1, 3, 5, 6, 8], [1, 3, 5, 6, 8]), ([9], [9]), ([10, 8, 0, 1, 2, 3, 4, 5, 6, 7, 8, 9, 10], [10])])
def exB : List Nat := [0, 1, 0, 7, 0, 31, 0, 0, 191, 511, 1023, 2047]
theorem ex_tab : rtab .any (opsOf Try.f65 2) = exT := by kernel_rfl
theorem ex_bits : waitsOk exT.2 exB = true := by kernel_rfl
def exO : List Nat := [0, 1, 2, 3, 4, 5, 6, 7, 8, 9, 10, 11]
theorem ex_base : baseOk exT.2 exO = true := by kernel_rfl
theorem ex_not11 {b : Nat → Bool} {i : Nat} (h : ∀ d, (exO.contains d && (exB.getD d 0).testBit i) = true → b d = false) (hi : (2047 : Nat).testBit i = true) : b 11 = false := h 11 (by simp [exO, exB, hi])
theorem wanted_none {o : Oper} {b : Nat → Option Bool} (h : o.guard = none) : Region.wanted o b = true := by simp [Region.wanted, h]
theorem ex_op0 : ∃ oi, (opsOf Try.f65 2)[0]? = some oi ∧ oi.dst = some 4 ∧ oi.op = .buildSlice 37 1 #[(0, .const (.int .i64 0))] ∧ oi.guard = none := ⟨_, rfl, by kernel_rfl, by kernel_rfl, by kernel_rfl⟩
theorem ex_op1 : ∃ oi, (opsOf Try.f65 2)[1]? = some oi ∧ oi.dst = some 5 ∧ oi.op = .call { callee := .value (.func 59), args := #[.const (.int .i64 2), .tmp 4], argTypes := #[44, 37] } ∧ oi.guard = none := ⟨_, rfl, by kernel_rfl, by kernel_rfl, by kernel_rfl⟩
theorem ex_op2 : ∃ oi, (opsOf Try.f65 2)[2]? = some oi ∧ oi.dst = some 6 ∧ oi.op = .buildSlice 37 2 #[(0, .const (.int .i64 0)), (1, .const (.int .i64 1))] ∧ oi.guard = none := ⟨_, rfl, by kernel_rfl, by kernel_rfl, by kernel_rfl⟩
theorem ex_op3 : ∃ oi, (opsOf Try.f65 2)[3]? = some oi ∧ oi.dst = some 7 ∧ oi.op = .call { callee := .value (.func 59), args := #[.const (.int .i64 11), .tmp 6], argTypes := #[44, 37] } ∧ oi.guard = none := ⟨_, rfl, by kernel_rfl, by kernel_rfl, by kernel_rfl⟩
theorem ex_op4 : ∃ oi, (opsOf Try.f65 2)[4]? = some oi ∧ oi.dst = some 8 ∧ oi.op = .buildSlice 37 1 #[(0, .const (.int .i64 2))] ∧ oi.guard = none := ⟨_, rfl, by kernel_rfl, by kernel_rfl, by kernel_rfl⟩
theorem ex_op5 : ∃ oi, (opsOf Try.f65 2)[5]? = some oi ∧ oi.dst = some 9 ∧ oi.op = .call { callee := .value (.func 59), args := #[.const (.int .i64 2), .tmp 8], argTypes := #[44, 37] } ∧ oi.guard = none := ⟨_, rfl, by kernel_rfl, by kernel_rfl, by kernel_rfl⟩
theorem ex_op6 : ∃ oi, (opsOf Try.f65 2)[6]? = some oi ∧ oi.dst = some 10 ∧ oi.op = .load 46 (.tmp 1) ∧ oi.guard = none := ⟨_, rfl, by kernel_rfl, by kernel_rfl, by kernel_rfl⟩
theorem ex_op7 : ∃ oi, (opsOf Try.f65 2)[7]? = some oi ∧ oi.dst = some 11 ∧ oi.op = .buildSlice 37 1 #[(0, .const (.int .i64 2))] ∧ oi.guard = none := ⟨_, rfl, by kernel_rfl, by kernel_rfl, by kernel_rfl⟩
theorem ex_op8 : ∃ oi, (opsOf Try.f65 2)[8]? = some oi ∧ oi.dst = some 12 ∧ oi.op = .call { callee := .value (.func 59), args := #[.const (.int .i64 2), .tmp 11], argTypes := #[44, 37] } ∧ oi.guard = none := ⟨_, rfl, by kernel_rfl, by kernel_rfl, by kernel_rfl⟩
theorem ex_op9 : ∃ oi, (opsOf Try.f65 2)[9]? = some oi ∧ oi.dst = some 13 ∧ oi.op = .buildSlice 22 5 #[(0, .tmp 5), (1, .tmp 7), (2, .tmp 9), (3, .tmp 10), (4, .tmp 12)] ∧ oi.guard = none := ⟨_, rfl, by kernel_rfl, by kernel_rfl, by kernel_rfl⟩
theorem ex_op10 : ∃ oi, (opsOf Try.f65 2)[10]? = some oi ∧ oi.dst = some 14 ∧ oi.op = .build 24 #[(0, .const (.int .i64 3)), (2, .tmp 13)] ∧ oi.guard = none := ⟨_, rfl, by kernel_rfl, by kernel_rfl, by kernel_rfl⟩
theorem ex_op11 : ∃ oi, (opsOf Try.f65 2)[11]? = some oi ∧ oi.dst = none ∧ oi.op = .store 24 (.tmp 0) (.tmp 14) ∧ oi.guard = none := ⟨_, rfl, by kernel_rfl, by kernel_rfl, by kernel_rfl⟩
theorem ex_step0 {a0 : Act} {W0 : World} {vb : Value} {g0 gb gv : Nat} {Q : Exit → Act → World → Prop} (hs : a0.tmps.size = 15) (hs0 : a0.tmps[0]? = some (.pointer (some ⟨g0, 0, none⟩))) (hs1 : a0.tmps[1]? = some (.pointer (some ⟨gb, 0, none⟩))) (hg : W0.heap[gb]? = some (.cells #[.int .i64 4, .int .i64 0, vb, .int .i64 0, .int .i64 (-1), .int .i64 0] 46 (0, 0))) (hvb : vb = .slice (some ⟨gv, 0, none⟩) 2 2) :
    StepAt Try.prog (opsOf Try.f65 2) Q exB exO (ExI a0 W0 vb g0) 0 := by
  intro b a w hI hb hwait hnot
  have hb11 := ex_not11 hnot (by decide)
  obtain ⟨v4, v5, v6, v7, v8, v9, v10, v11, v12, v13, v14, rfl, hF, _⟩ := hI
  have hF := hF hb11
  obtain ⟨oi, hoi, hd, hop, hgd⟩ := ex_op0
  refine ⟨oi, hoi, fun K hK => ?_⟩
  refine event_step (v := (.slice (some ⟨w.heap.size, 0, none⟩) 1 1)) (w1 := (w.alloc (.cells #[.int .i64 0] 3))) (wanted_none hgd) ?_ ?_
  · unfold execOp; rw [hop]; go_simp
  · rw [hd, putSel_upk (L' := exL (.slice (some ⟨w.heap.size, 0, none⟩) 1 1) v5 v6 v7 v8 v9 v10 v11 v12 v13 v14) 0 hb rfl rfl rfl]
    refine hK _ _ ⟨(.slice (some ⟨w.heap.size, 0, none⟩) 1 1), v5, v6, v7, v8, v9, v10, v11, v12, v13, v14, rfl, fun _ => ?_, fun e => by rw [up_ne (by decide)] at e; rw [hb11] at e; cases e⟩
    have h := hF.below (below_alloc (Below.refl _ _) (.cells #[.int .i64 0] 3))
    exact ⟨h.hb, (fun _ => ⟨_, rfl, hF.hb.size, blk_new w _⟩), (fun e => by rw [up_ne (by decide), hnot 1 (by decide)] at e; cases e), (fun e => h.h2 (by rwa [up_ne (by decide)] at e)), (fun e => h.h3 (by rwa [up_ne (by decide)] at e)), (fun e => h.h4 (by rwa [up_ne (by decide)] at e)), (fun e => h.h5 (by rwa [up_ne (by decide)] at e)), (fun e => h.h6 (by rwa [up_ne (by decide)] at e)), (fun e => h.h7 (by rwa [up_ne (by decide)] at e)), (fun e => h.h8 (by rwa [up_ne (by decide)] at e)), (fun e => by rw [up_ne (by decide), hnot 9 (by decide)] at e; cases e), (fun e => h.h10 (by rwa [up_ne (by decide)] at e))⟩
theorem ex_step1 {a0 : Act} {W0 : World} {vb : Value} {g0 gb gv : Nat} {Q : Exit → Act → World → Prop} (hs : a0.tmps.size = 15) (hs0 : a0.tmps[0]? = some (.pointer (some ⟨g0, 0, none⟩))) (hs1 : a0.tmps[1]? = some (.pointer (some ⟨gb, 0, none⟩))) (hg : W0.heap[gb]? = some (.cells #[.int .i64 4, .int .i64 0, vb, .int .i64 0, .int .i64 (-1), .int .i64 0] 46 (0, 0))) (hvb : vb = .slice (some ⟨gv, 0, none⟩) 2 2) :
    StepAt Try.prog (opsOf Try.f65 2) Q exB exO (ExI a0 W0 vb g0) 1 := by
  intro b a w hI hb hwait hnot
  have hb11 := ex_not11 hnot (by decide)
  obtain ⟨v4, v5, v6, v7, v8, v9, v10, v11, v12, v13, v14, rfl, hF, _⟩ := hI
  have hF := hF hb11
  obtain ⟨oi, hoi, hd, hop, hgd⟩ := ex_op1
  have w0 : b 0 = true := hwait 0 (by decide)
  obtain ⟨y, z, _⟩ := hF.h0 w0
  refine ⟨oi, hoi, fun K hK => ?_⟩
  rw [hd]
  have tv := eval_of (putSel_on (a := a0) (b := b) (e := (0, 4, v4)) (L := exL v4 v5 v6 v7 v8 v9 v10 v11 v12 v13 v14) 0 rfl rfl w0 (by rw [hs]; rfl))
  have hfr := fun w => g_any 2 (some ⟨y, 0, none⟩) 1 1 w
  refine goes_ (N := some 5) Try.func59 (by kernel_rfl) rfl #[.int .i64 2, v4] (wanted_none hgd) hd hop (by simp only [List.map_toArray, List.map_cons, List.map_nil]; rw [tv]; rfl) ?_
  rw [show (v4 : Value) = .slice (some ⟨y, 0, none⟩) 1 1 from z]
  refine (hfr w).mono ?_
  rintro e w1 ⟨rfl, hbw⟩
  refine ⟨_, rfl, ?_⟩
  rw [← show (v4 : Value) = .slice (some ⟨y, 0, none⟩) 1 1 from z]
  rw [putSel_upk (L' := exL v4 (gAgg 2 v4) v6 v7 v8 v9 v10 v11 v12 v13 v14) 1 hb rfl rfl rfl]
  refine hK _ _ ⟨v4, (gAgg 2 v4), v6, v7, v8, v9, v10, v11, v12, v13, v14, rfl, fun _ => ?_, fun e => by rw [up_ne (by decide)] at e; rw [hb11] at e; cases e⟩
  have h := hF.below hbw
  exact ⟨h.hb, (fun e => h.h0 (by rwa [up_ne (by decide)] at e)), (fun _ => rfl), (fun e => h.h2 (by rwa [up_ne (by decide)] at e)), (fun e => h.h3 (by rwa [up_ne (by decide)] at e)), (fun e => h.h4 (by rwa [up_ne (by decide)] at e)), (fun e => h.h5 (by rwa [up_ne (by decide)] at e)), (fun e => h.h6 (by rwa [up_ne (by decide)] at e)), (fun e => h.h7 (by rwa [up_ne (by decide)] at e)), (fun e => h.h8 (by rwa [up_ne (by decide)] at e)), (fun e => h.h9 (by rwa [up_ne (by decide)] at e)), (fun e => h.h10 (by rwa [up_ne (by decide)] at e))⟩
theorem ex_step2 {a0 : Act} {W0 : World} {vb : Value} {g0 gb gv : Nat} {Q : Exit → Act → World → Prop} (hs : a0.tmps.size = 15) (hs0 : a0.tmps[0]? = some (.pointer (some ⟨g0, 0, none⟩))) (hs1 : a0.tmps[1]? = some (.pointer (some ⟨gb, 0, none⟩))) (hg : W0.heap[gb]? = some (.cells #[.int .i64 4, .int .i64 0, vb, .int .i64 0, .int .i64 (-1), .int .i64 0] 46 (0, 0))) (hvb : vb = .slice (some ⟨gv, 0, none⟩) 2 2) :
    StepAt Try.prog (opsOf Try.f65 2) Q exB exO (ExI a0 W0 vb g0) 2 := by
  intro b a w hI hb hwait hnot
  have hb11 := ex_not11 hnot (by decide)
  obtain ⟨v4, v5, v6, v7, v8, v9, v10, v11, v12, v13, v14, rfl, hF, _⟩ := hI
  have hF := hF hb11
  obtain ⟨oi, hoi, hd, hop, hgd⟩ := ex_op2
  refine ⟨oi, hoi, fun K hK => ?_⟩
  refine event_step (v := (.slice (some ⟨w.heap.size, 0, none⟩) 2 2)) (w1 := (w.alloc (.cells #[.int .i64 0, .int .i64 1] 3))) (wanted_none hgd) ?_ ?_
  · unfold execOp; rw [hop]; go_simp
  · rw [hd, putSel_upk (L' := exL v4 v5 (.slice (some ⟨w.heap.size, 0, none⟩) 2 2) v7 v8 v9 v10 v11 v12 v13 v14) 2 hb rfl rfl rfl]
    refine hK _ _ ⟨v4, v5, (.slice (some ⟨w.heap.size, 0, none⟩) 2 2), v7, v8, v9, v10, v11, v12, v13, v14, rfl, fun _ => ?_, fun e => by rw [up_ne (by decide)] at e; rw [hb11] at e; cases e⟩
    have h := hF.below (below_alloc (Below.refl _ _) (.cells #[.int .i64 0, .int .i64 1] 3))
    exact ⟨h.hb, (fun e => h.h0 (by rwa [up_ne (by decide)] at e)), (fun e => h.h1 (by rwa [up_ne (by decide)] at e)), (fun _ => ⟨_, rfl, hF.hb.size, blk_new w _⟩), (fun e => by rw [up_ne (by decide), hnot 3 (by decide)] at e; cases e), (fun e => h.h4 (by rwa [up_ne (by decide)] at e)), (fun e => h.h5 (by rwa [up_ne (by decide)] at e)), (fun e => h.h6 (by rwa [up_ne (by decide)] at e)), (fun e => h.h7 (by rwa [up_ne (by decide)] at e)), (fun e => h.h8 (by rwa [up_ne (by decide)] at e)), (fun e => by rw [up_ne (by decide), hnot 9 (by decide)] at e; cases e), (fun e => h.h10 (by rwa [up_ne (by decide)] at e))⟩
theorem ex_step3 {a0 : Act} {W0 : World} {vb : Value} {g0 gb gv : Nat} {Q : Exit → Act → World → Prop} (hs : a0.tmps.size = 15) (hs0 : a0.tmps[0]? = some (.pointer (some ⟨g0, 0, none⟩))) (hs1 : a0.tmps[1]? = some (.pointer (some ⟨gb, 0, none⟩))) (hg : W0.heap[gb]? = some (.cells #[.int .i64 4, .int .i64 0, vb, .int .i64 0, .int .i64 (-1), .int .i64 0] 46 (0, 0))) (hvb : vb = .slice (some ⟨gv, 0, none⟩) 2 2) :
    StepAt Try.prog (opsOf Try.f65 2) Q exB exO (ExI a0 W0 vb g0) 3 := by
  intro b a w hI hb hwait hnot
  have hb11 := ex_not11 hnot (by decide)
  obtain ⟨v4, v5, v6, v7, v8, v9, v10, v11, v12, v13, v14, rfl, hF, _⟩ := hI
  have hF := hF hb11
  obtain ⟨oi, hoi, hd, hop, hgd⟩ := ex_op3
  have w2 : b 2 = true := hwait 2 (by decide)
  obtain ⟨y, z, _⟩ := hF.h2 w2
  refine ⟨oi, hoi, fun K hK => ?_⟩
  rw [hd]
  have tv := eval_of (putSel_on (a := a0) (b := b) (e := (2, 6, v6)) (L := exL v4 v5 v6 v7 v8 v9 v10 v11 v12 v13 v14) 2 rfl rfl w2 (by rw [hs]; rfl))
  have hfr := fun w => g_any 11 (some ⟨y, 0, none⟩) 2 2 w
  refine goes_ (N := some 7) Try.func59 (by kernel_rfl) rfl #[.int .i64 11, v6] (wanted_none hgd) hd hop (by simp only [List.map_toArray, List.map_cons, List.map_nil]; rw [tv]; rfl) ?_
  rw [show (v6 : Value) = .slice (some ⟨y, 0, none⟩) 2 2 from z]
  refine (hfr w).mono ?_
  rintro e w1 ⟨rfl, hbw⟩
  refine ⟨_, rfl, ?_⟩
  rw [← show (v6 : Value) = .slice (some ⟨y, 0, none⟩) 2 2 from z]
  rw [putSel_upk (L' := exL v4 v5 v6 (gAgg 11 v6) v8 v9 v10 v11 v12 v13 v14) 3 hb rfl rfl rfl]
  refine hK _ _ ⟨v4, v5, v6, (gAgg 11 v6), v8, v9, v10, v11, v12, v13, v14, rfl, fun _ => ?_, fun e => by rw [up_ne (by decide)] at e; rw [hb11] at e; cases e⟩
  have h := hF.below hbw
  exact ⟨h.hb, (fun e => h.h0 (by rwa [up_ne (by decide)] at e)), (fun e => h.h1 (by rwa [up_ne (by decide)] at e)), (fun e => h.h2 (by rwa [up_ne (by decide)] at e)), (fun _ => rfl), (fun e => h.h4 (by rwa [up_ne (by decide)] at e)), (fun e => h.h5 (by rwa [up_ne (by decide)] at e)), (fun e => h.h6 (by rwa [up_ne (by decide)] at e)), (fun e => h.h7 (by rwa [up_ne (by decide)] at e)), (fun e => h.h8 (by rwa [up_ne (by decide)] at e)), (fun e => h.h9 (by rwa [up_ne (by decide)] at e)), (fun e => h.h10 (by rwa [up_ne (by decide)] at e))⟩
theorem ex_step4 {a0 : Act} {W0 : World} {vb : Value} {g0 gb gv : Nat} {Q : Exit → Act → World → Prop} (hs : a0.tmps.size = 15) (hs0 : a0.tmps[0]? = some (.pointer (some ⟨g0, 0, none⟩))) (hs1 : a0.tmps[1]? = some (.pointer (some ⟨gb, 0, none⟩))) (hg : W0.heap[gb]? = some (.cells #[.int .i64 4, .int .i64 0, vb, .int .i64 0, .int .i64 (-1), .int .i64 0] 46 (0, 0))) (hvb : vb = .slice (some ⟨gv, 0, none⟩) 2 2) :
    StepAt Try.prog (opsOf Try.f65 2) Q exB exO (ExI a0 W0 vb g0) 4 := by
  intro b a w hI hb hwait hnot
  have hb11 := ex_not11 hnot (by decide)
  obtain ⟨v4, v5, v6, v7, v8, v9, v10, v11, v12, v13, v14, rfl, hF, _⟩ := hI
  have hF := hF hb11
  obtain ⟨oi, hoi, hd, hop, hgd⟩ := ex_op4
  refine ⟨oi, hoi, fun K hK => ?_⟩
  refine event_step (v := (.slice (some ⟨w.heap.size, 0, none⟩) 1 1)) (w1 := (w.alloc (.cells #[.int .i64 2] 3))) (wanted_none hgd) ?_ ?_
  · unfold execOp; rw [hop]; go_simp
  · rw [hd, putSel_upk (L' := exL v4 v5 v6 v7 (.slice (some ⟨w.heap.size, 0, none⟩) 1 1) v9 v10 v11 v12 v13 v14) 4 hb rfl rfl rfl]
    refine hK _ _ ⟨v4, v5, v6, v7, (.slice (some ⟨w.heap.size, 0, none⟩) 1 1), v9, v10, v11, v12, v13, v14, rfl, fun _ => ?_, fun e => by rw [up_ne (by decide)] at e; rw [hb11] at e; cases e⟩
    have h := hF.below (below_alloc (Below.refl _ _) (.cells #[.int .i64 2] 3))
    exact ⟨h.hb, (fun e => h.h0 (by rwa [up_ne (by decide)] at e)), (fun e => h.h1 (by rwa [up_ne (by decide)] at e)), (fun e => h.h2 (by rwa [up_ne (by decide)] at e)), (fun e => h.h3 (by rwa [up_ne (by decide)] at e)), (fun _ => ⟨_, rfl, hF.hb.size, blk_new w _⟩), (fun e => by rw [up_ne (by decide), hnot 5 (by decide)] at e; cases e), (fun e => h.h6 (by rwa [up_ne (by decide)] at e)), (fun e => h.h7 (by rwa [up_ne (by decide)] at e)), (fun e => h.h8 (by rwa [up_ne (by decide)] at e)), (fun e => by rw [up_ne (by decide), hnot 9 (by decide)] at e; cases e), (fun e => h.h10 (by rwa [up_ne (by decide)] at e))⟩
theorem ex_step5 {a0 : Act} {W0 : World} {vb : Value} {g0 gb gv : Nat} {Q : Exit → Act → World → Prop} (hs : a0.tmps.size = 15) (hs0 : a0.tmps[0]? = some (.pointer (some ⟨g0, 0, none⟩))) (hs1 : a0.tmps[1]? = some (.pointer (some ⟨gb, 0, none⟩))) (hg : W0.heap[gb]? = some (.cells #[.int .i64 4, .int .i64 0, vb, .int .i64 0, .int .i64 (-1), .int .i64 0] 46 (0, 0))) (hvb : vb = .slice (some ⟨gv, 0, none⟩) 2 2) :
    StepAt Try.prog (opsOf Try.f65 2) Q exB exO (ExI a0 W0 vb g0) 5 := by
  intro b a w hI hb hwait hnot
  have hb11 := ex_not11 hnot (by decide)
  obtain ⟨v4, v5, v6, v7, v8, v9, v10, v11, v12, v13, v14, rfl, hF, _⟩ := hI
  have hF := hF hb11
  obtain ⟨oi, hoi, hd, hop, hgd⟩ := ex_op5
  have w4 : b 4 = true := hwait 4 (by decide)
  obtain ⟨y, z, _⟩ := hF.h4 w4
  refine ⟨oi, hoi, fun K hK => ?_⟩
  rw [hd]
  have tv := eval_of (putSel_on (a := a0) (b := b) (e := (4, 8, v8)) (L := exL v4 v5 v6 v7 v8 v9 v10 v11 v12 v13 v14) 4 rfl rfl w4 (by rw [hs]; rfl))
  have hfr := fun w => g_any 2 (some ⟨y, 0, none⟩) 1 1 w
  refine goes_ (N := some 9) Try.func59 (by kernel_rfl) rfl #[.int .i64 2, v8] (wanted_none hgd) hd hop (by simp only [List.map_toArray, List.map_cons, List.map_nil]; rw [tv]; rfl) ?_
  rw [show (v8 : Value) = .slice (some ⟨y, 0, none⟩) 1 1 from z]
  refine (hfr w).mono ?_
  rintro e w1 ⟨rfl, hbw⟩
  refine ⟨_, rfl, ?_⟩
  rw [← show (v8 : Value) = .slice (some ⟨y, 0, none⟩) 1 1 from z]
  rw [putSel_upk (L' := exL v4 v5 v6 v7 v8 (gAgg 2 v8) v10 v11 v12 v13 v14) 5 hb rfl rfl rfl]
  refine hK _ _ ⟨v4, v5, v6, v7, v8, (gAgg 2 v8), v10, v11, v12, v13, v14, rfl, fun _ => ?_, fun e => by rw [up_ne (by decide)] at e; rw [hb11] at e; cases e⟩
  have h := hF.below hbw
  exact ⟨h.hb, (fun e => h.h0 (by rwa [up_ne (by decide)] at e)), (fun e => h.h1 (by rwa [up_ne (by decide)] at e)), (fun e => h.h2 (by rwa [up_ne (by decide)] at e)), (fun e => h.h3 (by rwa [up_ne (by decide)] at e)), (fun e => h.h4 (by rwa [up_ne (by decide)] at e)), (fun _ => rfl), (fun e => h.h6 (by rwa [up_ne (by decide)] at e)), (fun e => h.h7 (by rwa [up_ne (by decide)] at e)), (fun e => h.h8 (by rwa [up_ne (by decide)] at e)), (fun e => h.h9 (by rwa [up_ne (by decide)] at e)), (fun e => h.h10 (by rwa [up_ne (by decide)] at e))⟩
theorem ex_step6 {a0 : Act} {W0 : World} {vb : Value} {g0 gb gv : Nat} {Q : Exit → Act → World → Prop} (hs : a0.tmps.size = 15) (hs0 : a0.tmps[0]? = some (.pointer (some ⟨g0, 0, none⟩))) (hs1 : a0.tmps[1]? = some (.pointer (some ⟨gb, 0, none⟩))) (hg : W0.heap[gb]? = some (.cells #[.int .i64 4, .int .i64 0, vb, .int .i64 0, .int .i64 (-1), .int .i64 0] 46 (0, 0))) (hvb : vb = .slice (some ⟨gv, 0, none⟩) 2 2) :
    StepAt Try.prog (opsOf Try.f65 2) Q exB exO (ExI a0 W0 vb g0) 6 := by
  intro b a w hI hb hwait hnot
  have hb11 := ex_not11 hnot (by decide)
  obtain ⟨v4, v5, v6, v7, v8, v9, v10, v11, v12, v13, v14, rfl, hF, _⟩ := hI
  have hF := hF hb11
  obtain ⟨oi, hoi, hd, hop, hgd⟩ := ex_op6
  refine ⟨oi, hoi, fun K hK => ?_⟩
  have tv := eval_of ((putSel_off (a := a0) (b := b) (t := 1) (L := exL v4 v5 v6 v7 v8 v9 v10 v11 v12 v13 v14) rfl).trans hs1)
  have hbl := blk_below hg hF.hb
  have c0 : w.cell? ⟨gb, 0, none⟩ = some (.int .i64 4) := (blk_cell hbl 0).trans rfl
  have c1 : w.cell? ⟨gb, 1, none⟩ = some (.int .i64 0) := (blk_cell hbl 1).trans rfl
  have c2 : w.cell? ⟨gb, 2, none⟩ = some vb := (blk_cell hbl 2).trans rfl
  have c3 : w.cell? ⟨gb, 3, none⟩ = some (.int .i64 0) := (blk_cell hbl 3).trans rfl
  have c4 : w.cell? ⟨gb, 4, none⟩ = some (.int .i64 (-1)) := (blk_cell hbl 4).trans rfl
  have c5 : w.cell? ⟨gb, 5, none⟩ = some (.int .i64 0) := (blk_cell hbl 5).trans rfl
  have hu46 := Try.underlying46
  refine event_step (v := (barAgg vb)) (w1 := w) (wanted_none hgd) ?_ ?_
  · unfold execOp; rw [hop]; simp only [tv]; go_simp
  · rw [hd, putSel_upk (L' := exL v4 v5 v6 v7 v8 v9 (barAgg vb) v11 v12 v13 v14) 6 hb rfl rfl rfl]
    refine hK _ _ ⟨v4, v5, v6, v7, v8, v9, (barAgg vb), v11, v12, v13, v14, rfl, fun _ => ?_, fun e => by rw [up_ne (by decide)] at e; rw [hb11] at e; cases e⟩
    have h := hF.below (Below.refl _ _)
    exact ⟨h.hb, (fun e => h.h0 (by rwa [up_ne (by decide)] at e)), (fun e => h.h1 (by rwa [up_ne (by decide)] at e)), (fun e => h.h2 (by rwa [up_ne (by decide)] at e)), (fun e => h.h3 (by rwa [up_ne (by decide)] at e)), (fun e => h.h4 (by rwa [up_ne (by decide)] at e)), (fun e => h.h5 (by rwa [up_ne (by decide)] at e)), (fun _ => rfl), (fun e => h.h7 (by rwa [up_ne (by decide)] at e)), (fun e => h.h8 (by rwa [up_ne (by decide)] at e)), (fun e => h.h9 (by rwa [up_ne (by decide)] at e)), (fun e => h.h10 (by rwa [up_ne (by decide)] at e))⟩
theorem ex_step7 {a0 : Act} {W0 : World} {vb : Value} {g0 gb gv : Nat} {Q : Exit → Act → World → Prop} (hs : a0.tmps.size = 15) (hs0 : a0.tmps[0]? = some (.pointer (some ⟨g0, 0, none⟩))) (hs1 : a0.tmps[1]? = some (.pointer (some ⟨gb, 0, none⟩))) (hg : W0.heap[gb]? = some (.cells #[.int .i64 4, .int .i64 0, vb, .int .i64 0, .int .i64 (-1), .int .i64 0] 46 (0, 0))) (hvb : vb = .slice (some ⟨gv, 0, none⟩) 2 2) :
    StepAt Try.prog (opsOf Try.f65 2) Q exB exO (ExI a0 W0 vb g0) 7 := by
  intro b a w hI hb hwait hnot
  have hb11 := ex_not11 hnot (by decide)
  obtain ⟨v4, v5, v6, v7, v8, v9, v10, v11, v12, v13, v14, rfl, hF, _⟩ := hI
  have hF := hF hb11
  obtain ⟨oi, hoi, hd, hop, hgd⟩ := ex_op7
  refine ⟨oi, hoi, fun K hK => ?_⟩
  refine event_step (v := (.slice (some ⟨w.heap.size, 0, none⟩) 1 1)) (w1 := (w.alloc (.cells #[.int .i64 2] 3))) (wanted_none hgd) ?_ ?_
  · unfold execOp; rw [hop]; go_simp
  · rw [hd, putSel_upk (L' := exL v4 v5 v6 v7 v8 v9 v10 (.slice (some ⟨w.heap.size, 0, none⟩) 1 1) v12 v13 v14) 7 hb rfl rfl rfl]
    refine hK _ _ ⟨v4, v5, v6, v7, v8, v9, v10, (.slice (some ⟨w.heap.size, 0, none⟩) 1 1), v12, v13, v14, rfl, fun _ => ?_, fun e => by rw [up_ne (by decide)] at e; rw [hb11] at e; cases e⟩
    have h := hF.below (below_alloc (Below.refl _ _) (.cells #[.int .i64 2] 3))
    exact ⟨h.hb, (fun e => h.h0 (by rwa [up_ne (by decide)] at e)), (fun e => h.h1 (by rwa [up_ne (by decide)] at e)), (fun e => h.h2 (by rwa [up_ne (by decide)] at e)), (fun e => h.h3 (by rwa [up_ne (by decide)] at e)), (fun e => h.h4 (by rwa [up_ne (by decide)] at e)), (fun e => h.h5 (by rwa [up_ne (by decide)] at e)), (fun e => h.h6 (by rwa [up_ne (by decide)] at e)), (fun _ => ⟨_, rfl, hF.hb.size, blk_new w _⟩), (fun e => by rw [up_ne (by decide), hnot 8 (by decide)] at e; cases e), (fun e => by rw [up_ne (by decide), hnot 9 (by decide)] at e; cases e), (fun e => h.h10 (by rwa [up_ne (by decide)] at e))⟩
theorem ex_step8 {a0 : Act} {W0 : World} {vb : Value} {g0 gb gv : Nat} {Q : Exit → Act → World → Prop} (hs : a0.tmps.size = 15) (hs0 : a0.tmps[0]? = some (.pointer (some ⟨g0, 0, none⟩))) (hs1 : a0.tmps[1]? = some (.pointer (some ⟨gb, 0, none⟩))) (hg : W0.heap[gb]? = some (.cells #[.int .i64 4, .int .i64 0, vb, .int .i64 0, .int .i64 (-1), .int .i64 0] 46 (0, 0))) (hvb : vb = .slice (some ⟨gv, 0, none⟩) 2 2) :
    StepAt Try.prog (opsOf Try.f65 2) Q exB exO (ExI a0 W0 vb g0) 8 := by
  intro b a w hI hb hwait hnot
  have hb11 := ex_not11 hnot (by decide)
  obtain ⟨v4, v5, v6, v7, v8, v9, v10, v11, v12, v13, v14, rfl, hF, _⟩ := hI
  have hF := hF hb11
  obtain ⟨oi, hoi, hd, hop, hgd⟩ := ex_op8
  have w7 : b 7 = true := hwait 7 (by decide)
  obtain ⟨y, z, _⟩ := hF.h7 w7
  refine ⟨oi, hoi, fun K hK => ?_⟩
  rw [hd]
  have tv := eval_of (putSel_on (a := a0) (b := b) (e := (7, 11, v11)) (L := exL v4 v5 v6 v7 v8 v9 v10 v11 v12 v13 v14) 7 rfl rfl w7 (by rw [hs]; rfl))
  have hfr := fun w => g_any 2 (some ⟨y, 0, none⟩) 1 1 w
  refine goes_ (N := some 12) Try.func59 (by kernel_rfl) rfl #[.int .i64 2, v11] (wanted_none hgd) hd hop (by simp only [List.map_toArray, List.map_cons, List.map_nil]; rw [tv]; rfl) ?_
  rw [show (v11 : Value) = .slice (some ⟨y, 0, none⟩) 1 1 from z]
  refine (hfr w).mono ?_
  rintro e w1 ⟨rfl, hbw⟩
  refine ⟨_, rfl, ?_⟩
  rw [← show (v11 : Value) = .slice (some ⟨y, 0, none⟩) 1 1 from z]
  rw [putSel_upk (L' := exL v4 v5 v6 v7 v8 v9 v10 v11 (gAgg 2 v11) v13 v14) 8 hb rfl rfl rfl]
  refine hK _ _ ⟨v4, v5, v6, v7, v8, v9, v10, v11, (gAgg 2 v11), v13, v14, rfl, fun _ => ?_, fun e => by rw [up_ne (by decide)] at e; rw [hb11] at e; cases e⟩
  have h := hF.below hbw
  exact ⟨h.hb, (fun e => h.h0 (by rwa [up_ne (by decide)] at e)), (fun e => h.h1 (by rwa [up_ne (by decide)] at e)), (fun e => h.h2 (by rwa [up_ne (by decide)] at e)), (fun e => h.h3 (by rwa [up_ne (by decide)] at e)), (fun e => h.h4 (by rwa [up_ne (by decide)] at e)), (fun e => h.h5 (by rwa [up_ne (by decide)] at e)), (fun e => h.h6 (by rwa [up_ne (by decide)] at e)), (fun e => h.h7 (by rwa [up_ne (by decide)] at e)), (fun _ => rfl), (fun e => h.h9 (by rwa [up_ne (by decide)] at e)), (fun e => h.h10 (by rwa [up_ne (by decide)] at e))⟩
theorem ex_step9 {a0 : Act} {W0 : World} {vb : Value} {g0 gb gv : Nat} {Q : Exit → Act → World → Prop} (hs : a0.tmps.size = 15) (hs0 : a0.tmps[0]? = some (.pointer (some ⟨g0, 0, none⟩))) (hs1 : a0.tmps[1]? = some (.pointer (some ⟨gb, 0, none⟩))) (hg : W0.heap[gb]? = some (.cells #[.int .i64 4, .int .i64 0, vb, .int .i64 0, .int .i64 (-1), .int .i64 0] 46 (0, 0))) (hvb : vb = .slice (some ⟨gv, 0, none⟩) 2 2) :
    StepAt Try.prog (opsOf Try.f65 2) Q exB exO (ExI a0 W0 vb g0) 9 := by
  intro b a w hI hb hwait hnot
  have hb11 := ex_not11 hnot (by decide)
  obtain ⟨v4, v5, v6, v7, v8, v9, v10, v11, v12, v13, v14, rfl, hF, _⟩ := hI
  have hF := hF hb11
  obtain ⟨oi, hoi, hd, hop, hgd⟩ := ex_op9
  have w0 : b 0 = true := hwait 0 (by decide)
  have w1 : b 1 = true := hwait 1 (by decide)
  have w2 : b 2 = true := hwait 2 (by decide)
  have w3 : b 3 = true := hwait 3 (by decide)
  have w4 : b 4 = true := hwait 4 (by decide)
  have w5 : b 5 = true := hwait 5 (by decide)
  have w6 : b 6 = true := hwait 6 (by decide)
  have w7 : b 7 = true := hwait 7 (by decide)
  have w8 : b 8 = true := hwait 8 (by decide)
  refine ⟨oi, hoi, fun K hK => ?_⟩
  refine event_step (v := (.slice (some ⟨w.heap.size, 0, none⟩) 5 5)) (w1 := (w.alloc (.cells (exCells v4 v6 v8 vb v11).toArray 46))) (wanted_none hgd) ?_ ?_
  · obtain ⟨y4, z4, _⟩ := hF.h0 w0
    obtain ⟨y6, z6, _⟩ := hF.h2 w2
    obtain ⟨y8, z8, _⟩ := hF.h4 w4
    obtain ⟨y11, z11, _⟩ := hF.h7 w7
    have t1 := eval_of (putSel_on (a := a0) (b := b) (e := (1, 5, v5)) (L := exL v4 v5 v6 v7 v8 v9 v10 v11 v12 v13 v14) 1 rfl rfl w1 (by rw [hs]; rfl))
    simp only at t1
    have t3 := eval_of (putSel_on (a := a0) (b := b) (e := (3, 7, v7)) (L := exL v4 v5 v6 v7 v8 v9 v10 v11 v12 v13 v14) 3 rfl rfl w3 (by rw [hs]; rfl))
    simp only at t3
    have t5 := eval_of (putSel_on (a := a0) (b := b) (e := (5, 9, v9)) (L := exL v4 v5 v6 v7 v8 v9 v10 v11 v12 v13 v14) 5 rfl rfl w5 (by rw [hs]; rfl))
    simp only at t5
    have t6 := eval_of (putSel_on (a := a0) (b := b) (e := (6, 10, v10)) (L := exL v4 v5 v6 v7 v8 v9 v10 v11 v12 v13 v14) 6 rfl rfl w6 (by rw [hs]; rfl))
    simp only at t6
    have t8 := eval_of (putSel_on (a := a0) (b := b) (e := (8, 12, v12)) (L := exL v4 v5 v6 v7 v8 v9 v10 v11 v12 v13 v14) 8 rfl rfl w8 (by rw [hs]; rfl))
    simp only at t8
    generalize (putSel a0 b (exL v4 v5 v6 v7 v8 v9 v10 v11 v12 v13 v14)).eval = ev at t1 t3 t5 t6 t8 ⊢
    rw [hF.h1 w1, z4] at t1
    rw [hF.h3 w3, z6] at t3
    rw [hF.h5 w5, z8] at t5
    rw [hF.h6 w6, hvb] at t6
    rw [hF.h8 w8, z11] at t8
    unfold execOp; rw [hop]; simp only [exCells, z4, z6, z8, z11, hvb]
    go_simp
  · rw [hd, putSel_upk (L' := exL v4 v5 v6 v7 v8 v9 v10 v11 v12 (.slice (some ⟨w.heap.size, 0, none⟩) 5 5) v14) 9 hb rfl rfl rfl]
    refine hK _ _ ⟨v4, v5, v6, v7, v8, v9, v10, v11, v12, (.slice (some ⟨w.heap.size, 0, none⟩) 5 5), v14, rfl, fun _ => ?_, fun e => by rw [up_ne (by decide)] at e; rw [hb11] at e; cases e⟩
    have h := hF.below (below_alloc (Below.refl _ _) (.cells (exCells v4 v6 v8 vb v11).toArray 46))
    exact ⟨h.hb, (fun e => h.h0 (by rwa [up_ne (by decide)] at e)), (fun e => h.h1 (by rwa [up_ne (by decide)] at e)), (fun e => h.h2 (by rwa [up_ne (by decide)] at e)), (fun e => h.h3 (by rwa [up_ne (by decide)] at e)), (fun e => h.h4 (by rwa [up_ne (by decide)] at e)), (fun e => h.h5 (by rwa [up_ne (by decide)] at e)), (fun e => h.h6 (by rwa [up_ne (by decide)] at e)), (fun e => h.h7 (by rwa [up_ne (by decide)] at e)), (fun e => h.h8 (by rwa [up_ne (by decide)] at e)), (fun _ => ⟨_, rfl, hF.hb.size, blk_new w _⟩), (fun e => by rw [up_ne (by decide), hnot 10 (by decide)] at e; cases e)⟩
theorem ex_step10 {a0 : Act} {W0 : World} {vb : Value} {g0 gb gv : Nat} {Q : Exit → Act → World → Prop} (hs : a0.tmps.size = 15) (hs0 : a0.tmps[0]? = some (.pointer (some ⟨g0, 0, none⟩))) (hs1 : a0.tmps[1]? = some (.pointer (some ⟨gb, 0, none⟩))) (hg : W0.heap[gb]? = some (.cells #[.int .i64 4, .int .i64 0, vb, .int .i64 0, .int .i64 (-1), .int .i64 0] 46 (0, 0))) (hvb : vb = .slice (some ⟨gv, 0, none⟩) 2 2) :
    StepAt Try.prog (opsOf Try.f65 2) Q exB exO (ExI a0 W0 vb g0) 10 := by
  intro b a w hI hb hwait hnot
  have hb11 := ex_not11 hnot (by decide)
  obtain ⟨v4, v5, v6, v7, v8, v9, v10, v11, v12, v13, v14, rfl, hF, _⟩ := hI
  have hF := hF hb11
  obtain ⟨oi, hoi, hd, hop, hgd⟩ := ex_op10
  have w9 : b 9 = true := hwait 9 (by decide)
  obtain ⟨g, z13, _⟩ := hF.h9 w9
  refine ⟨oi, hoi, fun K hK => ?_⟩
  have tv := eval_of (putSel_on (a := a0) (b := b) (e := (9, 13, v13)) (L := exL v4 v5 v6 v7 v8 v9 v10 v11 v12 v13 v14) 9 rfl rfl w9 (by rw [hs]; rfl))
  have hu24 := Try.underlying24
  refine event_step (v := (.agg #[.int .i64 3, .int .i64 0, v13])) (w1 := w) (wanted_none hgd) ?_ ?_
  · have tc : (putSel a0 b (exL v4 v5 v6 v7 v8 v9 v10 v11 v12 v13 v14)).eval (.const (.int .i64 3)) = .int .i64 3 := rfl
    simp only at tv
    rw [z13] at tv ⊢
    simp only [z13] at tc
    generalize (putSel a0 b _).eval = ev at tv tc ⊢
    unfold execOp; rw [hop]
    go_simp
  · rw [hd, putSel_upk (L' := exL v4 v5 v6 v7 v8 v9 v10 v11 v12 v13 (.agg #[.int .i64 3, .int .i64 0, v13])) 10 hb rfl rfl rfl]
    refine hK _ _ ⟨v4, v5, v6, v7, v8, v9, v10, v11, v12, v13, (.agg #[.int .i64 3, .int .i64 0, v13]), rfl, fun _ => ?_, fun e => by rw [up_ne (by decide)] at e; rw [hb11] at e; cases e⟩
    have h := hF.below (Below.refl _ _)
    exact ⟨h.hb, (fun e => h.h0 (by rwa [up_ne (by decide)] at e)), (fun e => h.h1 (by rwa [up_ne (by decide)] at e)), (fun e => h.h2 (by rwa [up_ne (by decide)] at e)), (fun e => h.h3 (by rwa [up_ne (by decide)] at e)), (fun e => h.h4 (by rwa [up_ne (by decide)] at e)), (fun e => h.h5 (by rwa [up_ne (by decide)] at e)), (fun e => h.h6 (by rwa [up_ne (by decide)] at e)), (fun e => h.h7 (by rwa [up_ne (by decide)] at e)), (fun e => h.h8 (by rwa [up_ne (by decide)] at e)), (fun e => h.h9 (by rwa [up_ne (by decide)] at e)), (fun _ => rfl)⟩
theorem ex_step11 {a0 : Act} {W0 : World} {vb : Value} {g0 : Nat} {Q : Exit → Act → World → Prop} (hs : a0.tmps.size = 15) (hs0 : a0.tmps[0]? = some (.pointer (some ⟨g0, 0, none⟩))) (hg0 : W0.heap[g0]? = some (.cells #[.int .i64 0, .int .i64 0, .slice none 0 0] 24 (0, 0))) :
    StepAt Try.prog (opsOf Try.f65 2) Q exB exO (ExI a0 W0 vb g0) 11 := by
  intro b a w hI hb hwait hnot
  obtain ⟨v4, v5, v6, v7, v8, v9, v10, v11, v12, v13, v14, rfl, hF, _⟩ := hI
  have hF := hF hb
  obtain ⟨oi, hoi, hd, hop, hgd⟩ := ex_op11
  have hw : ∀ j, j < 11 → b j = true := fun j hj => hwait j (by rcases j with _ | _ | _ | _ | _ | _ | _ | _ | _ | _ | _ | j <;> first | decide | omega)
  have w9 := hw 9 (by decide)
  have w10 := hw 10 (by decide)
  obtain ⟨g, z13, _⟩ := hF.h9 w9
  have t0 := eval_of ((putSel_off (a := a0) (b := b) (t := 0) (L := exL v4 v5 v6 v7 v8 v9 v10 v11 v12 v13 v14) rfl).trans hs0)
  have t10 := eval_of (putSel_on (a := a0) (b := b) (e := (10, 14, v14)) (L := exL v4 v5 v6 v7 v8 v9 v10 v11 v12 v13 v14) 10 rfl rfl w10 (by rw [hs]; rfl))
  simp only at t10
  refine ⟨oi, hoi, fun K hK => ?_⟩
  have hu24 := Try.underlying24
  have hbl := blk_below hg0 hF.hb
  have hrun : (execOp (putSel a0 b (exL v4 v5 v6 v7 v8 v9 v10 v11 v12 v13 v14)).eval oi).run Try.prog w = .ok .skip (((w.setCell ⟨g0, 0, none⟩ (.int .i64 3)).setCell ⟨g0, 1, none⟩ (.int .i64 0)).setCell ⟨g0, 2, none⟩ v13) := by
    generalize (putSel a0 b (exL v4 v5 v6 v7 v8 v9 v10 v11 v12 v13 v14)).eval = ev at t0 t10 ⊢
    rw [hF.h10 w10, z13] at t10
    rw [z13]
    have c0 : w.cell? ⟨g0, 0, none⟩ = some (.int .i64 0) := (blk_cell hbl 0).trans rfl
    have c1 : w.cell? ⟨g0, 1, none⟩ = some (.int .i64 0) := (blk_cell hbl 1).trans rfl
    have c2 : w.cell? ⟨g0, 2, none⟩ = some (.slice none 0 0) := (blk_cell hbl 2).trans rfl
    have f0 := blk_frozen hbl 0
    have f1 := blk_frozen hbl 1
    have f2 := blk_frozen hbl 2
    clear hbl
    unfold execOp; rw [hop]
    go_simp
  rw [if_pos (wanted_none hgd)]
  unfold Oper.wp
  rw [hrun]
  show K ((putSel a0 b (exL v4 v5 v6 v7 v8 v9 v10 v11 v12 v13 v14)).put oi.dst undef) _
  rw [hd, putSel_none (i := 11) rfl]
  refine hK _ _ ⟨v4, v5, v6, v7, v8, v9, v10, v11, v12, v13, v14, rfl, (fun e => by rw [up_self] at e; cases e), fun _ => ⟨w, ⟨hF.hb, fun _ => hF.h0 (hw 0 (by decide)), fun _ => hF.h1 (hw 1 (by decide)), fun _ => hF.h2 (hw 2 (by decide)), fun _ => hF.h3 (hw 3 (by decide)), fun _ => hF.h4 (hw 4 (by decide)), fun _ => hF.h5 (hw 5 (by decide)), fun _ => hF.h6 (hw 6 (by decide)), fun _ => hF.h7 (hw 7 (by decide)), fun _ => hF.h8 (hw 8 (by decide)), fun _ => hF.h9 (hw 9 (by decide)), fun _ => hF.h10 (hw 10 (by decide))⟩, rfl⟩⟩
set_option maxRecDepth 100000 in
set_option maxHeartbeats 2000000 in
theorem example_any (w : World) : Calls Try.prog 65 #[] w fun e w' => ∃ g : Nat, e = .returned (.agg #[.int .i64 3, .int .i64 0, .slice (some ⟨g, 0, none⟩) 5 5]) ∧ Kd.C k46 w' (some ⟨g, 0, none⟩) 5 exOps ∧ Below w.heap.size w w' := by
  have hu24 := Try.underlying24
  have hu46 := Try.underlying46
  go_enter Try.func65, Try.ntmps65
  go_upto_region 2 with (fail)
  have hfin : ∀ (W0 : World) (g0 gv gb : Nat), Below w.heap.size w W0 → w.heap.size ≤ g0 → g0 < W0.heap.size → W0.heap[g0]? = some (.cells #[.int .i64 0, .int .i64 0, .slice none 0 0] 24 (0, 0)) → W0.heap[gv]? = some (.cells #[.int .i64 1, .int .i64 2] 3 (0, 0)) → gv ≠ g0 →
      ∀ w1 v4 v5 v6 v7 v8 v9 v10 v11 v12 v13 v14, ExDone W0 (.slice (some ⟨gv, 0, none⟩) 2 2) g0 w1 v4 v5 v6 v7 v8 v9 v10 v11 v12 v13 v14 → ∃ g : Nat, v13 = .slice (some ⟨g, 0, none⟩) 5 5 ∧ w1.heap[g0]? = some (.cells #[.int .i64 3, .int .i64 0, v13] 24 (0, 0)) ∧ Kd.C k46 w1 (some ⟨g, 0, none⟩) 5 exOps ∧ Below w.heap.size w w1 := by
    rintro W0 g0 gv gb hB h0 h0' hz hv hne w1 v4 v5 v6 v7 v8 v9 v10 v11 v12 v13 v14 ⟨w2, hF, rfl⟩
    obtain ⟨g, rfl, hge, hgc⟩ := hF.h9 rfl
    obtain ⟨y4, rfl, z4, q4⟩ := hF.h0 rfl
    obtain ⟨y6, rfl, z6, q6⟩ := hF.h2 rfl
    obtain ⟨y8, rfl, z8, q8⟩ := hF.h4 rfl
    obtain ⟨y11, rfl, z11, q11⟩ := hF.h7 rfl
    have hz2 := blk_below hz hF.hb
    have hv2 := blk_below hv hF.hb
    have s : ∀ (x : Nat) (o : Array Value) (t : TypeId), x ≠ g0 → w2.heap[x]? = some (.cells o t (0, 0)) → (((w2.setCell ⟨g0, 0, none⟩ (.int .i64 3)).setCell ⟨g0, 1, none⟩ (.int .i64 0)).setCell ⟨g0, 2, none⟩ (.slice (some ⟨g, 0, none⟩) 5 5)).heap[x]? = some (.cells o t (0, 0)) := fun x o t hxn hq => blk_far (blk_far (blk_far hq hxn _) hxn _) hxn _
    have r4 := rowC_reads (l := [0]) (s _ _ _ (by omega) q4) (by decide)
    have r6 := rowC_reads (l := [0, 1]) (s _ _ _ (by omega) q6) (by decide)
    have r8 := rowC_reads (l := [2]) (s _ _ _ (by omega) q8) (by decide)
    have r11 := rowC_reads (l := [2]) (s _ _ _ (by omega) q11) (by decide)
    have rv := rowC_reads (l := [1, 2]) (s _ _ _ hne hv2) (by decide)
    have rg := s _ _ _ (by omega) hgc
    refine ⟨g, rfl, ?_, ?_, ?_⟩
    · exact blk_put (blk_put (blk_put hz2 0 _ rfl) 1 _ rfl) 2 _ rfl
    · generalize ((w2.setCell ⟨g0, 0, none⟩ (.int .i64 3)).setCell ⟨g0, 1, none⟩ (.int .i64 0)).setCell ⟨g0, 2, none⟩ (.slice (some ⟨g, 0, none⟩) 5 5) = wz at r4 r6 r8 r11 rv rg
      refine ⟨rfl, by decide, fun _ => ⟨_, rfl, fun j p hj => ?_⟩⟩
      have hc : ∀ (i : Nat) (u : Value), (exCells (.slice (some ⟨y4, 0, none⟩) 1 1) (.slice (some ⟨y6, 0, none⟩) 2 2) (.slice (some ⟨y8, 0, none⟩) 1 1) (.slice (some ⟨gv, 0, none⟩) 2 2) (.slice (some ⟨y11, 0, none⟩) 1 1))[i]? = some u → wz.cell? ((⟨g, 0, none⟩ : Addr).add i) = some u := fun i u hu => by
        rw [add_plain, blk_cell rg]; simpa using hu
      rcases j with _ | _ | _ | _ | _ | j
      · cases hj; exact ⟨_, rfl, k46_mk wz _ (Nat.le_refl _) r4, fun i u hu => hc (0 * 6 + i) u (by rcases i with _ | _ | _ | _ | _ | _ | i <;> first | exact hu | cases hu)⟩
      · cases hj; exact ⟨_, rfl, k46_mk wz _ (Nat.le_refl _) r6, fun i u hu => hc (1 * 6 + i) u (by rcases i with _ | _ | _ | _ | _ | _ | i <;> first | exact hu | cases hu)⟩
      · cases hj; exact ⟨_, rfl, k46_mk wz _ (Nat.le_refl _) r8, fun i u hu => hc (2 * 6 + i) u (by rcases i with _ | _ | _ | _ | _ | _ | i <;> first | exact hu | cases hu)⟩
      · cases hj; exact ⟨_, rfl, k46_mk wz _ (Nat.le_refl _) rv, fun i u hu => hc (3 * 6 + i) u (by rcases i with _ | _ | _ | _ | _ | _ | i <;> first | exact hu | cases hu)⟩
      · cases hj; exact ⟨_, rfl, k46_mk wz _ (Nat.le_refl _) r11, fun i u hu => hc (4 * 6 + i) u (by rcases i with _ | _ | _ | _ | _ | _ | i <;> first | exact hu | cases hu)⟩
      · cases hj
    · exact below_set (below_set (below_set (below_step hB hF.hb) h0) h0) h0
  have b1 := blk_alloc (blk_alloc (blk_new w (.cells #[.int .i64 0, .int .i64 0, .slice none 0 0] 24)) (.cells #[.int .i64 1, .int .i64 2] 3)) (.cells #[.int .i64 4, .int .i64 0, .slice (some ⟨w.heap.size + 1, 0, none⟩) 2 2, .int .i64 0, .int .i64 (-1), .int .i64 0] 46)
  have b2 := blk_alloc (blk_new (w.alloc (.cells #[.int .i64 0, .int .i64 0, .slice none 0 0] 24)) (.cells #[.int .i64 1, .int .i64 2] 3)) (.cells #[.int .i64 4, .int .i64 0, .slice (some ⟨w.heap.size + 1, 0, none⟩) 2 2, .int .i64 0, .int .i64 (-1), .int .i64 0] 46)
  have b3 := blk_new ((w.alloc (.cells #[.int .i64 0, .int .i64 0, .slice none 0 0] 24)).alloc (.cells #[.int .i64 1, .int .i64 2] 3)) (.cells #[.int .i64 4, .int .i64 0, .slice (some ⟨w.heap.size + 1, 0, none⟩) 2 2, .int .i64 0, .int .i64 (-1), .int .i64 0] 46)
  have hB := below_alloc (below_alloc (below_alloc (Below.refl _ w) (.cells #[.int .i64 0, .int .i64 0, .slice none 0 0] 24)) (.cells #[.int .i64 1, .int .i64 2] 3)) (.cells #[.int .i64 4, .int .i64 0, .slice (some ⟨w.heap.size + 1, 0, none⟩) 2 2, .int .i64 0, .int .i64 (-1), .int .i64 0] 46)
  simp only [World.size_alloc] at b2 b3
  generalize ((w.alloc _).alloc _).alloc _ = W0 at b1 b2 b3 hB ⊢
  refine start_ (n := 12) (S := fun _ => True) (ds := []) #[false, false, false, false, false, false, false, false, false, false, false, false] (by kernel_rfl) rfl rfl trivial (fun _ => ?_)
  have hsz : Try.ntmps65 = Try.ntmps65 := rfl
  refine inv_ (T := exT) (B := exB) exO (ExI _ W0.drew (.slice (some ⟨w.heap.size + 1, 0, none⟩) 2 2) w.heap.size) ex_tab ex_bits ex_base (by kernel_rfl) ⟨undef, undef, undef, undef, undef, undef, undef, undef, undef, undef, undef, rfl, fun _ => ?_, fun e => by cases e⟩ ?_ ?_
  · exact ⟨Below.refl _ _, fun e => by (cases e), fun e => by (cases e), fun e => by (cases e), fun e => by (cases e), fun e => by (cases e), fun e => by (cases e), fun e => by (cases e), fun e => by (cases e), fun e => by (cases e), fun e => by (cases e), fun e => by (cases e)⟩
  · refine steps_cons (ex_step0 rfl rfl rfl b3 rfl) (steps_cons (ex_step1 rfl rfl rfl b3 rfl) (steps_cons (ex_step2 rfl rfl rfl b3 rfl) (steps_cons (ex_step3 rfl rfl rfl b3 rfl) (steps_cons (ex_step4 rfl rfl rfl b3 rfl) (steps_cons (ex_step5 rfl rfl rfl b3 rfl) (steps_cons (ex_step6 rfl rfl rfl b3 rfl) (steps_cons (ex_step7 rfl rfl rfl b3 rfl) (steps_cons (ex_step8 rfl rfl rfl b3 rfl) (steps_cons (ex_step9 rfl rfl rfl b3 rfl) (steps_cons (ex_step10 rfl rfl rfl b3 rfl) (steps_cons (ex_step11 rfl rfl b1) steps_nil)))))))))))
  · rintro b a wf hall ⟨v4, v5, v6, v7, v8, v9, v10, v11, v12, v13, v14, rfl, _, hD⟩
    obtain ⟨g, rfl, hc, hC, hBf⟩ := hfin W0.drew w.heap.size (w.heap.size + 1) 0 (below_drew1 hB) (Nat.le_refl _) (blk_lt b1) b1 b2 (by omega) _ _ _ _ _ _ _ _ _ _ _ _ (hD (hall 11 (by decide)))
    have q0 := hall 0 (by decide)
    have q1 := hall 1 (by decide)
    have q2 := hall 2 (by decide)
    have q3 := hall 3 (by decide)
    have q4 := hall 4 (by decide)
    have q5 := hall 5 (by decide)
    have q6 := hall 6 (by decide)
    have q7 := hall 7 (by decide)
    have q8 := hall 8 (by decide)
    have q9 := hall 9 (by decide)
    have q10 := hall 10 (by decide)
    simp only [putSel, exL, q0, q1, q2, q3, q4, q5, q6, q7, q8, q9, q10, if_true, Act.put]
    clear q0 q1 q2 q3 q4 q5 q6 q7 q8 q9 q10 hall hD hfin
    go_wp2
    refine bodyPost_ret (results_cell_row rfl _ _ w.heap.size 24 #[.int .i64 3, .int .i64 0, .slice (some ⟨g, 0, none⟩) 5 5] (0, 0) _ rfl hc Try.underlying24 rfl (by kernel_rfl)) rfl ?_
    exact ⟨g, rfl, hC, hBf⟩
end Go.Proofs.Ytbelnopbggkdfaa
end

section
namespace Go.Proofs.Ytbelnopbggkdfaa.Q
open Go.RowKit Go.Proofs.YtbelnopbggkdfaaW.PrintWords Go.Proofs.YtbelnopbggkdfaaW.PrintLast Go.Proofs.YtbelnopbggkdfaaW.PrintMore
attribute [local go_sem] max2_int min2_int max_two min_two max_three min_three max_four min_four   -- for this text's walks alone
set_option linter.unusedVariables false
set_option linter.unusedSimpArgs false
def slices_Reverse_int_int.l0 : Nat → List Int → Int → Int → Option (List Int)
  | 0, _, _, _ => none
  | k + 1, x0, x2, x3 => if x2 < x3 then (if 0 ≤ x3 then (if x3 < (x0.length : Int) then (if 0 ≤ x2 then (if x2 < (x0.length : Int) then (slices_Reverse_int_int.l0 k ((x0.set (x2 : Int).toNat (rd x0 x3)).set (x3 : Int).toNat (rd x0 x2)) (wrap64 (x2 + 1)) (wrap64 (x3 - 1))) else (none)) else (none)) else (none)) else (none)) else (some x0)
def slices_Reverse_int_int.f (k : Nat) (l0 : List Int) : Option (List Int) := slices_Reverse_int_int.l0 k l0 0 (wrap64 ((l0.length : Int) - 1))
def slices_Reverse_int_int.T3 : Bool × List (List Nat × List Nat) := (true, [([], []), ([], []), ([], []), ([], []), ([], []), ([], []), ([4, 5], [4, 5]), ([6], [6]), ([], []), ([], []), ([8, 9], [8, 9]), ([10], [10]), ([0, 1, 0, 1, 4, 5, 6, 7, 11], [0, 1]), ([12, 7, 0, 1, 4, 5, 6, 7, 11], [7, 12]), ([2, 3, 0, 1, 2, 3, 4, 5, 6, 7, 8, 9, 10, 11, 12, 13], [2, 3]), ([14, 11, 13, 0, 1, 2, 3, 4, 5, 6, 7, 8, 9, 10, 11, 12, 13], [11, 14])])
def slices_Reverse_int_int.B3 : List Nat := [0, 0, 0, 0, 0, 0, 48, 112, 0, 0, 768, 1792, 4083, 8179, 16383, 32767]
theorem slices_Reverse_int_int.tab3 : rtab .any (opsOf Try.f87 3) = slices_Reverse_int_int.T3 := by kernel_rfl
theorem slices_Reverse_int_int.bits3 : waitsOk slices_Reverse_int_int.T3.2 slices_Reverse_int_int.B3 = true := by kernel_rfl
set_option maxHeartbeats 8000000 in
set_option maxRecDepth 100000 in
theorem slices_Reverse_int_int.calls (k : Nat) (P0_ : Nat → Prop) (u9000_ : Value) (l0 : List Int) (r : List Int) (w0 w : World) (hB : Below w0.heap.size w0 w) (ho0 : Kd.R (Kd.int .i64) 3 w w0.heap.size P0_ u9000_ l0) (h : slices_Reverse_int_int.f k l0 = some r) :
    Calls Try.prog 87 #[u9000_] w fun e w' => e = .returned (.tuple #[]) ∧ Kd.R (Kd.int .i64) 3 w' w0.heap.size (fun k_ => (P0_ k_ ∨ w.heap.size ≤ k_)) u9000_ r ∧ Below w0.heap.size w0 w' ∧ Kept w w' (fun k_ => P0_ k_) := by
  have HO0 := Aside0.mk (show Kd.R (Kd.int .i64) 3 w w0.heap.size (fun k_ => (P0_ k_ ∨ w.heap.size ≤ k_)) u9000_ l0 from Kd.R_mono ho0 (fun k_ hk => (.inl hk)))
  have HK := Aside0.mk (Kept.refl w (fun k_ => P0_ k_))
  have HW0 := Aside0.mk hB.size
  have HB := Aside0.mk hB
  clear hB
  have H : (slices_Reverse_int_int.l0 k l0 0 (wrap64 ((l0.length : Int) - 1))) = some r := h
  clear h
  have H' := Aside0.mk H
  clear H
  obtain ⟨Ao2, co2, eo2⟩ := Kd.R_slice HO0.out
  subst eo2
  go_enter Try.func87, Try.ntmps87
  go_wp2
  go_loopg [2, 3] k (fun kq v2 v3 w' => ∃ (x0_1 : List Int) (x2_1 : Int) (x3_1 : Int), v2 = .int .i64 x2_1 ∧ v3 = .int .i64 x3_1 ∧ Aside0 (slices_Reverse_int_int.l0 kq x0_1 x2_1 x3_1 = some r) ∧ Aside0 (kq ≤ k) ∧ Aside0 (Kd.R (Kd.int .i64) 3 w' w0.heap.size (fun k_ => (P0_ k_ ∨ w.heap.size ≤ k_)) (.slice Ao2 l0.length co2) x0_1) ∧ Aside0 (Kept w w' (fun k_ => P0_ k_)) ∧ Aside0 (Below w0.heap.size w0 w'))
  case atStart => exact ⟨(l0), (0), (wrap64 ((l0.length : Int) - 1)), (by first | rfl | (simp; done) | (simp [*]; done)), (by first | rfl | (simp; done) | (simp [*]; done)), H', ⟨Nat.le_refl _⟩, ⟨by (with_reducible repeat (first | apply Kd.R_alloc | apply Kd.R_drewN | apply Kd.R_drew)); exact HO0.out⟩, ⟨by repeat (first | (with_reducible first | exact HK.out | apply Kept.alloc | apply Kept.drewN | apply Kept.drew) | exact HK.out)⟩, ⟨by repeat (first | (with_reducible first | exact HB.out | apply below_alloc | apply pw_below_drewN | apply below_drew1) | exact HB.out)⟩⟩
  case round =>
    clear H'
    try clear p2
    obtain ⟨x0_1, x2_1, x3_1, rfl, rfl, HA, HK1, HO_0, HK, HB⟩ := hrel
    have hl0_1 := (Kd.R_reads' HO_0.out).1
    rw [hl0_1] at HO_0
    (try simp only [hl0_1])
    cases gk with
    | zero => exact absurd HA.out (by simp [slices_Reverse_int_int.l0])
    | succ k1 =>
      have H := HA.out
      clear HA
      simp only [slices_Reverse_int_int.l0] at H
      by_cases c3 : x2_1 < x3_1
      · rw [if_pos c3] at H
        have c3b0 : decide (x2_1 < x3_1) = true := decide_eq_true c3
        clear c3
        by_cases c4 : 0 ≤ x3_1
        · rw [if_pos c4] at H
          have c4b0 : decide (0 ≤ x3_1) = true := decide_eq_true c4
          clear c4
          by_cases c5 : x3_1 < (x0_1.length : Int)
          · rw [if_pos c5] at H
            have c5b0 : decide (x3_1 < (x0_1.length : Int)) = true := decide_eq_true c5
            clear c5
            by_cases c6 : 0 ≤ x2_1
            · rw [if_pos c6] at H
              have c6b0 : decide (0 ≤ x2_1) = true := decide_eq_true c6
              clear c6
              by_cases c7 : x2_1 < (x0_1.length : Int)
              · rw [if_pos c7] at H
                have c7b0 : decide (x2_1 < (x0_1.length : Int)) = true := decide_eq_true c7
                clear c7
                obtain ⟨y521, hy521⟩ : ∃ y_ : List Int, y_ = (x0_1.set (x2_1 : Int).toNat (rd x0_1 x3_1)) := ⟨_, rfl⟩
                replace H : (slices_Reverse_int_int.l0 k1 (y521.set (x3_1 : Int).toNat (rd x0_1 x2_1)) (wrap64 (x2_1 + 1)) (wrap64 (x3_1 - 1))) = some r := by first | (rw [hy521]; with_reducible exact H) | (have H2_ := (Option.bind_some _ _).symm.trans H; rw [hy521]; with_reducible exact H2_) | (have H2_ := (Option.bind_some _ _).symm.trans H; with_reducible exact H2_) | with_reducible exact H | (rw [hy521]; exact H) | exact H
                have Ny521 := Aside0.mk hy521
                clear hy521
                obtain ⟨y522, hy522⟩ : ∃ y_ : List Int, y_ = (y521.set (x3_1 : Int).toNat (rd x0_1 x2_1)) := ⟨_, rfl⟩
                replace H : (slices_Reverse_int_int.l0 k1 y522 (wrap64 (x2_1 + 1)) (wrap64 (x3_1 - 1))) = some r := by first | (rw [hy522]; with_reducible exact H) | (have H2_ := (Option.bind_some _ _).symm.trans H; rw [hy522]; with_reducible exact H2_) | (have H2_ := (Option.bind_some _ _).symm.trans H; with_reducible exact H2_) | with_reducible exact H | (rw [hy522]; exact H) | exact H
                have Ny522 := Aside0.mk hy522
                clear hy522
                have H' := Aside0.mk H
                clear H
                try go_wp2
                have n0_ := Aside0.mk (Kd.R_drew HO_0.out)
                have n1_ := Aside0.mk (Kept.drew HK.out)
                have n2_ := Aside0.mk (below_drew1 HB.out)
                clear HO_0
                clear HK
                clear HB
                have HO_0 := n0_
                have HK := n1_
                have HB := n2_
                clear n0_ n1_ n2_
                have p519 : 0 ≤ (x3_1 : Int) := of_decide_eq_true (by first | (with_reducible assumption) | assumption)
                have q519 : x3_1 < (x0_1.length : Int) := of_decide_eq_true (by first | (with_reducible assumption) | assumption)
                obtain ⟨ad519, e519, hx519_0⟩ := Kd.at_int (Kd.R_reads' HO_0.out).2.2 x3_1 p519 q519
                cases e519
                replace p519 := eq_true p519
                replace q519 := eq_true q519
                have p520 : 0 ≤ (x2_1 : Int) := of_decide_eq_true (by first | (with_reducible assumption) | assumption)
                have q520 : x2_1 < (x0_1.length : Int) := of_decide_eq_true (by first | (with_reducible assumption) | assumption)
                obtain ⟨ad520, e520, hx520_0⟩ := Kd.at_int (Kd.R_reads' HO_0.out).2.2 x2_1 p520 q520
                obtain rfl : ad519 = ad520 := (by injection e520)
                replace p520 := eq_true p520
                replace q520 := eq_true q520
                have p8 : 0 ≤ (x2_1 : Int) := of_decide_eq_true (by first | (with_reducible assumption) | assumption)
                have q8 : (x2_1 : Int) < ((x0_1.length : Int) : Int) := of_decide_eq_true (by first | (with_reducible assumption) | assumption)
                obtain ⟨go8, co8, eo8, gb8, gl8, cl8, HG8⟩ := Kd.R_form HO_0.out (by omega)
                (first | cases eo8 | (injection eo8 with ea_ en_ ec_; (first | subst ea_ | (injection ea_ with ea_; subst ea_)); subst ec_; clear en_))
                have GB8 := Aside0.mk gb8
                have GG8 := Aside0.mk HG8
                clear gb8 gl8 HG8
                have HMgo8 := Aside0.mk (show (P0_ go8 ∨ w.heap.size ≤ go8) from (HO_0.out.1 _ rfl))
                (first | simp only [add_plain] at hx519_0 | skip)
                (first | simp only [add_plain] at hx520_0 | skip)
                obtain ⟨hx8_0, hf8_0⟩ := Kd.R_celln 0 HO_0.out (x2_1 : Int) p8 q8
                replace p8 := eq_true p8
                replace q8 := eq_true q8
                have HP11 := Kd.R_putn HO_0.out (x2_1 : Int) (rd x0_1 x3_1)
                rw [← Ny521.out] at HP11
                have HQ11 := Aside0.mk HP11
                clear HP11
                have p9 : 0 ≤ (x3_1 : Int) := of_decide_eq_true (by first | (with_reducible assumption) | assumption)
                have q9 : (x3_1 : Int) < ((x0_1.length : Int) : Int) := of_decide_eq_true (by first | (with_reducible assumption) | assumption)
                obtain ⟨hx9_0, hf9_0⟩ := Kd.R_celln 0 HQ11.out (x3_1 : Int) p9 q9
                replace p9 := eq_true p9
                replace q9 := eq_true q9
                have HP12 := Kd.R_putn HQ11.out (x3_1 : Int) (rd x0_1 x2_1)
                rw [← Ny522.out] at HP12
                have HQ12 := Aside0.mk HP12
                clear HP12
                refine start_ (n := 16) (S := fun w' => w'.cell? ⟨go8, (x3_1).toNat, none⟩ = some (.int .i64 (rd x0_1 x3_1)) ∧ w'.cell? ⟨go8, (x2_1).toNat, none⟩ = some (.int .i64 (rd x0_1 x2_1))) (ds := [13, 15]) #[false, false, false, false, false, false, false, false, false, false, false, false, false, false, false, false] (by kernel_rfl) rfl rfl ⟨hx519_0, hx520_0⟩ (fun hHeld => ?_); refine with_tabW slices_Reverse_int_int.tab3 slices_Reverse_int_int.bits3 (fun HT_ HW_ => ?_)
                generalize wr.drew = w10 at HO_0 HK HB GG8 HQ11 HQ12 hf8_0 hf9_0 hx519_0 hx520_0 hx8_0 hx9_0 hHeld ⊢
                refine pure_ (i := 0) (N := some 14) (v := ?_) (a' := ?_) #[true, false, false, false, false, false, false, false, false, false, false, false, false, false, false, false] rfl rfl (any_of HT_.out (by kernel_rfl)) (fun _ _ _ h => h) (Or.inl ⟨by rfl, ?_⟩) ?_ ?_
                rotate_left
                · intro w'
                  go_simp
                  with_reducible rfl
                rotate_left
                · simp only [Act.put, List.setIfInBounds_toArray, List.set_cons_zero, List.set_cons_succ, i64_w, i32_w]
                  rfl
                refine pure_ (i := 1) (N := some 15) (v := ?_) (a' := ?_) #[true, true, false, false, false, false, false, false, false, false, false, false, false, false, false, false] rfl rfl (any_of HT_.out (by kernel_rfl)) (fun _ _ _ h => h) (Or.inl ⟨by rfl, ?_⟩) ?_ ?_
                rotate_left
                · intro w'
                  go_simp
                  with_reducible rfl
                rotate_left
                · simp only [Act.put, List.setIfInBounds_toArray, List.set_cons_zero, List.set_cons_succ, i64_w, i32_w]
                  rfl
                refine pure_ (i := 2) (N := some 16) (v := ?_) (a' := ?_) #[true, true, true, false, false, false, false, false, false, false, false, false, false, false, false, false] rfl rfl (any_of HT_.out (by kernel_rfl)) (fun _ _ _ h => h) (Or.inl ⟨by rfl, ?_⟩) ?_ ?_
                rotate_left
                · intro w'
                  go_simp
                  with_reducible rfl
                rotate_left
                · simp only [Act.put, List.setIfInBounds_toArray, List.set_cons_zero, List.set_cons_succ, i64_w, i32_w]
                  rfl
                refine pure_ (i := 3) (N := some 17) (v := ?_) (a' := ?_) #[true, true, true, true, false, false, false, false, false, false, false, false, false, false, false, false] rfl rfl (any_of HT_.out (by kernel_rfl)) (fun _ _ _ h => h) (Or.inl ⟨by rfl, ?_⟩) ?_ ?_
                rotate_left
                · intro w'
                  go_simp
                  with_reducible rfl
                rotate_left
                · simp only [Act.put, List.setIfInBounds_toArray, List.set_cons_zero, List.set_cons_succ, i64_w, i32_w]
                  rfl
                refine pure_ (i := 4) (N := some 18) (v := ?_) (a' := ?_) #[true, true, true, true, true, false, false, false, false, false, false, false, false, false, false, false] rfl rfl (any_of HT_.out (by kernel_rfl)) (fun _ _ _ h => h) (Or.inl ⟨by rfl, ?_⟩) ?_ ?_
                rotate_left
                · intro w'
                  go_simp
                  with_reducible rfl
                rotate_left
                · simp only [Act.put, List.setIfInBounds_toArray, List.set_cons_zero, List.set_cons_succ, i64_w, i32_w]
                  rfl
                refine pure_ (i := 5) (N := some 19) (v := ?_) (a' := ?_) #[true, true, true, true, true, true, false, false, false, false, false, false, false, false, false, false] rfl rfl (any_of HT_.out (by kernel_rfl)) (fun _ _ _ h => h) (Or.inl ⟨by rfl, ?_⟩) ?_ ?_
                rotate_left
                · intro w'
                  go_simp
                  with_reducible rfl
                rotate_left
                · simp only [Act.put, List.setIfInBounds_toArray, List.set_cons_zero, List.set_cons_succ, i64_w, i32_w]
                  rfl
                refine pure_ (i := 6) (N := some 20) (v := ?_) (a' := ?_) #[true, true, true, true, true, true, true, false, false, false, false, false, false, false, false, false] rfl rfl (any_of HT_.out (by kernel_rfl)) (fun _ _ _ h => h) (Or.inl ⟨by rfl, ?_⟩) ?_ ?_
                rotate_left
                · intro w'
                  go_simp
                  with_reducible rfl
                rotate_left
                · simp only [Act.put, List.setIfInBounds_toArray, List.set_cons_zero, List.set_cons_succ, i64_w, i32_w]
                  rfl
                refine pure_ (i := 8) (N := some 22) (v := ?_) (a' := ?_) #[true, true, true, true, true, true, true, false, true, false, false, false, false, false, false, false] rfl rfl (any_of HT_.out (by kernel_rfl)) (fun _ _ _ h => h) (Or.inl ⟨by rfl, ?_⟩) ?_ ?_
                rotate_left
                · intro w'
                  go_simp
                  with_reducible rfl
                rotate_left
                · simp only [Act.put, List.setIfInBounds_toArray, List.set_cons_zero, List.set_cons_succ, i64_w, i32_w]
                  rfl
                refine pure_ (i := 9) (N := some 23) (v := ?_) (a' := ?_) #[true, true, true, true, true, true, true, false, true, true, false, false, false, false, false, false] rfl rfl (any_of HT_.out (by kernel_rfl)) (fun _ _ _ h => h) (Or.inl ⟨by rfl, ?_⟩) ?_ ?_
                rotate_left
                · intro w'
                  go_simp
                  with_reducible rfl
                rotate_left
                · simp only [Act.put, List.setIfInBounds_toArray, List.set_cons_zero, List.set_cons_succ, i64_w, i32_w]
                  rfl
                refine pure_ (i := 10) (N := some 24) (v := ?_) (a' := ?_) #[true, true, true, true, true, true, true, false, true, true, true, false, false, false, false, false] rfl rfl (any_of HT_.out (by kernel_rfl)) (fun _ _ _ h => h) (Or.inl ⟨by rfl, ?_⟩) ?_ ?_
                rotate_left
                · intro w'
                  go_simp
                  with_reducible rfl
                rotate_left
                · simp only [Act.put, List.setIfInBounds_toArray, List.set_cons_zero, List.set_cons_succ, i64_w, i32_w]
                  rfl
                refine take_ (i := 7) (N := some 21) (v := ?_) (a' := ?_) #[true, true, true, true, true, true, true, true, true, true, true, false, false, false, false, false] rfl rfl (take_ofW HT_.out HW_.out (by kernel_rfl)) (fun _ _ _ h => h) (Or.inl ⟨by rfl, ?_⟩) hHeld ?_ ?_
                rotate_left
                · rintro w' ⟨s0, s1⟩
                  go_simp
                  with_reducible rfl
                rotate_left
                · simp only [Act.put, List.setIfInBounds_toArray, List.set_cons_zero, List.set_cons_succ, i64_w, i32_w]
                  rfl
                refine take_ (i := 11) (N := some 25) (v := ?_) (a' := ?_) #[true, true, true, true, true, true, true, true, true, true, true, true, false, false, false, false] rfl rfl (take_ofW HT_.out HW_.out (by kernel_rfl)) (fun _ _ _ h => h) (Or.inl ⟨by rfl, ?_⟩) hHeld ?_ ?_
                rotate_left
                · rintro w' ⟨s0, s1⟩
                  go_simp
                  with_reducible rfl
                rotate_left
                · simp only [Act.put, List.setIfInBounds_toArray, List.set_cons_zero, List.set_cons_succ, i64_w, i32_w]
                  rfl
                refine pure_ (i := 12) (N := some 26) (v := ?_) (a' := ?_) #[true, true, true, true, true, true, true, true, true, true, true, true, true, false, false, false] rfl rfl (any_of HT_.out (by kernel_rfl)) (fun _ _ _ h => h) (Or.inl ⟨by rfl, ?_⟩) ?_ ?_
                rotate_left
                · intro w'
                  go_simp
                  with_reducible rfl
                rotate_left
                · simp only [Act.put, List.setIfInBounds_toArray, List.set_cons_zero, List.set_cons_succ, i64_w, i32_w]
                  rfl
                refine last_ (i := 13) (N := none) #[true, true, true, true, true, true, true, true, true, true, true, true, true, true, false, false] rfl rfl (one_of HT_.out (by kernel_rfl)) (by decide) (fun K hK => ?_)
                refine skip_ (w1 := ?_) (by rfl) rfl ?_ ?_
                rotate_left
                · go_simp
                  rfl
                refine hK.out _ _ ?_
                clear hK K
                refine pure_ (i := 14) (N := some 27) (v := ?_) (a' := ?_) #[true, true, true, true, true, true, true, true, true, true, true, true, true, true, true, false] rfl rfl (any_of HT_.out (by kernel_rfl)) (fun _ _ _ h => h) (Or.inl ⟨by rfl, ?_⟩) ?_ ?_
                rotate_left
                · intro w'
                  go_simp
                  with_reducible rfl
                rotate_left
                · simp only [Act.put, List.setIfInBounds_toArray, List.set_cons_zero, List.set_cons_succ, i64_w, i32_w]
                  rfl
                refine last_ (i := 15) (N := none) #[true, true, true, true, true, true, true, true, true, true, true, true, true, true, true, true] rfl rfl (one_of HT_.out (by kernel_rfl)) (by decide) (fun K hK => ?_)
                refine skip_ (w1 := ?_) (by rfl) rfl ?_ ?_
                rotate_left
                · go_simp
                  rfl
                refine hK.out _ _ ?_
                clear hK K
                refine done_ (done_of HT_.out (by kernel_rfl)) ?_
                try go_wp2
                (try simp only [← hl0_1])
                go_roundg k1
                case measure => have := HK1.out; omega
                case rel => exact ⟨(y522), (wrap64 (x2_1 + 1)), (wrap64 (x3_1 - 1)), (by first | rfl | (simp; done) | (simp [*]; done)), (by first | rfl | (simp; done) | (simp [*]; done)), H', ⟨by have := HK1.out; omega⟩, ⟨by (try simp only [hl0_1]); (with_reducible repeat (first | apply Kd.R_alloc | apply Kd.R_drewN | apply Kd.R_drew)); exact HQ12.out⟩, ⟨by repeat (first | (with_reducible first | exact HK.out | apply Kept.alloc | apply Kept.drewN | apply Kept.drew | refine Kept.setCell ?_ HMgo8.out _ | refine Kept.setCell ?_ HMgo8.out _) | exact HK.out)⟩, ⟨by repeat (first | (with_reducible first | exact HB.out | apply below_alloc | apply pw_below_drewN | apply below_drew1 | refine below_set ?_ GB8.out | refine below_set ?_ GB8.out) | exact HB.out)⟩⟩
              · rw [if_neg c7] at H
                exact absurd H (by simp)
            · rw [if_neg c6] at H
              exact absurd H (by simp)
          · rw [if_neg c5] at H
            exact absurd H (by simp)
        · rw [if_neg c4] at H
          exact absurd H (by simp)
      · rw [if_neg c3] at H
        have c3b0 : decide (x2_1 < x3_1) = false := decide_eq_false c3
        clear c3
        obtain rfl := Option.some.inj H
        go_wp2
        first | go_end0 | ((try simp only [Exit.inBlock, Exit.then]); refine bodyPost_ret (results_none rfl _ _ _) rfl ?_)
        exact ⟨by first | rfl | (simp [errW_none, errW_some] <;> rfl) | (simp [*, errW_none, errW_some] <;> rfl), (by first | exact (by (with_reducible repeat (first | apply Kd.R_alloc | apply Kd.R_drewN | apply Kd.R_drew)); exact HO_0.out) | (simp only [hl0_1]; exact (by (with_reducible repeat (first | apply Kd.R_alloc | apply Kd.R_drewN | apply Kd.R_drew)); exact HO_0.out))), by repeat (first | (with_reducible first | exact HB.out | apply below_alloc | apply pw_below_drewN | apply below_drew1) | exact HB.out), by repeat (first | (with_reducible first | exact HK.out | apply Kept.alloc | apply Kept.drewN | apply Kept.drew) | exact HK.out)⟩
end Go.Proofs.Ytbelnopbggkdfaa.Q
end

section
namespace Go.Proofs.Ytbelnopbggkdfaa.Q
open Go.RowKit Go.Proofs.YtbelnopbggkdfaaW.PrintWords Go.Proofs.YtbelnopbggkdfaaW.PrintLast Go.Proofs.YtbelnopbggkdfaaW.PrintMore
attribute [local go_sem] max2_int min2_int max_two min_two max_three min_three max_four min_four   -- for this text's walks alone
set_option linter.unusedVariables false
set_option linter.unusedSimpArgs false
/-- The qubits, marked; none: one is out of range, or stands there twice. -/
def cone_mark (n : Int) : List Int → List Bool → Option (List Bool)
  | [], M => some M
  | q :: qs, M => if q < 0 ∨ n ≤ q ∨ rdOf false M q = true then none else cone_mark n qs (M.set q.toNat true)
def anyM (M : List Bool) (ws : List Int) : Bool := ws.any fun x => rdOf false M x
def setM (M : List Bool) (ws : List Int) : List Bool := ws.foldl (fun M x => M.set x.toNat true) M
def cone_go : List (Int × S46) → List Bool → Option (List Int)
  | [], _ => some []
  | o :: os, M => (layers_wires.f o.2.f0 o.2.f1 o.2.f2 o.2.f3 o.2.f4 o.2.f5).bind fun ws =>
    if wireOk ws = true then (if o.2.f0 = 4 ∨ anyM M ws = false then cone_go os M else (cone_go os (setM M ws)).bind fun r => some (o.1 :: r)) else none
def cone_list (back : Bool) (l : List S46) : List (Int × S46) :=
  (List.range l.length).map fun (i : Nat) => let j : Int := if back = true then (l.length : Int) - 1 - i else i; (j, rd_T46 l j)
def cone_end (k : Nat) (l : List S46) (back : Bool) (M : List Bool) : Option (List Int × Int) :=
  (cone_go (cone_list back l) M).bind fun r => if back = true then (slices_Reverse_int_int.f k r).bind fun r' => some (r', 0) else some (r, 0)
def cone_from (k : Nat) (n : Int) (l : List S46) (back : Bool) : Option (List Bool) → Option (List Int × Int)
  | none => some ([], 190)
  | some M => cone_end k l back M
def layers_cone.f (k : Nat) (a0_0 : Int) (a0_1 : Int) (l0_2 : List S46) (l1 : List Int) (a2 : Bool) : Option (List Int × Int) :=
  (layers_checked.f k a0_0 a0_1 l0_2).bind fun t => if t = 0 then (if a0_0 ≤ 128 ∧ l0_2.length < 2199023255552 then (cone_from k a0_0 l0_2 a2 (cone_mark a0_0 l1 (List.replicate 128 false))) else none) else some ([], t)
theorem setM_len (ws : List Int) : ∀ M : List Bool, (setM M ws).length = M.length := by
  induction ws with
  | nil => intro L; rfl
  | cons x xs ih => intro L; simp only [setM, List.foldl_cons] at ih ⊢; rw [ih]; simp
theorem setM_snoc (M : List Bool) (ws : List Int) (x : Int) : setM M (ws ++ [x]) = (setM M ws).set x.toNat true := by simp [setM]
/-- The rows that cone holds. -/
structure ConeS (w W : World) (g1 g3 : Nat) (cs : Array Value) (L : List Bool) (v : Value) (out : List Int) : Prop where
  hb : Below w.heap.size w W
  b1 : W.heap[g1]? = some (.cells cs 24 (0, 0))
  b3 : W.heap[g3]? = some (.cells (L.map Value.bool).toArray 94 (0, 0))
  ho : Kd.R (Kd.int .i64) 3 W w.heap.size (fun _ => True) v out
  n1 : w.heap.size ≤ g1
  n3 : w.heap.size ≤ g3
theorem ConeS.below {w W W' : World} {g1 g3 : Nat} {cs : Array Value} {L : List Bool} {v : Value} {out : List Int} (h : ConeS w W g1 g3 cs L v out) (hb : Below W.heap.size W W') : ConeS w W' g1 g3 cs L v out :=
  ⟨below_step h.hb hb, blk_below h.b1 hb, blk_below h.b3 hb, Kd.R_below h.ho hb, h.n1, h.n3⟩
theorem ConeS.ne {w W : World} {g1 g3 : Nat} {cs : Array Value} {L : List Bool} {v : Value} {out : List Int} (h : ConeS w W g1 g3 cs L v out) : g1 ≠ g3 := by
  rintro rfl
  have := h.b1.symm.trans h.b3
  injection this with h1
  injection h1 with _ h2
  exact absurd h2 (by decide)
theorem ConeS.put {w W : World} {g1 g3 : Nat} {cs : Array Value} {L : List Bool} {v : Value} {out : List Int} (h : ConeS w W g1 g3 cs L v out) (i : Nat) (x : Bool) : ConeS w (W.setCell ⟨g3, i, none⟩ (.bool x)) g1 g3 cs (L.set i x) v out :=
  ⟨below_set h.hb h.n3, blk_far h.b1 h.ne _, by rw [List.map_set]; simpa using blk_set h.b3 i (.bool x), Kd.R_set h.ho h.b3 (by decide) i _, h.n1, h.n3⟩
theorem ConeS.grown {w W W' : World} {g1 g3 : Nat} {cs : Array Value} {L : List Bool} {v v' : Value} {out out' : List Int} (h : ConeS w W g1 g3 cs L v out) (hg : W.grownBy W' v.ownBlock) (hb : Below w.heap.size w W') (ho : Kd.R (Kd.int .i64) 3 W' w.heap.size (fun _ => True) v' out') : ConeS w W' g1 g3 cs L v' out' :=
  ⟨hb, blk_grown h.b1 hg (Kd.R_ne h.ho h.b1 (by decide)), blk_grown h.b3 hg (Kd.R_ne h.ho h.b3 (by decide)), ho, h.n1, h.n3⟩
theorem ConeS.cell {w W : World} {g1 g3 : Nat} {cs : Array Value} {L : List Bool} {v : Value} {out : List Int} (h : ConeS w W g1 g3 cs L v out) (hL : L.length = 128) {x : Int} (h0 : 0 ≤ x) (h1 : x < 128) : W.cell? ⟨g3, x.toNat, none⟩ = some (.bool (rdOf false L x)) := by
  rw [blk_cell h.b3]
  simp [rdOf, List.getD_eq_getElem?_getD, List.getElem?_eq_getElem (show x.toNat < L.length by omega)]
theorem cone_at {a2 : Bool} {l : List S46} {p : Nat} (h : p < l.length) : ∃ h1, (cone_list a2 l)[p]'h1 = ((if a2 = true then (l.length : Int) - 1 - p else p), rd_T46 l (if a2 = true then (l.length : Int) - 1 - p else p)) := by
  refine ⟨by simpa [cone_list] using h, ?_⟩
  simp [cone_list]
/-- The function that asks for one wire's mark. -/
theorem cone_fn (g3 : Nat) (M : List Bool) (x : Int) (W : World) (h0 : 0 ≤ x) (h1 : x < 128) (hc : W.cell? ⟨g3, x.toNat, none⟩ = some (.bool (rdOf false M x))) :
    Calls Try.prog 86 #[.int .i64 x, .pointer (some ⟨g3, 0, none⟩)] W fun e w' => e = .returned (.bool (rdOf false M x)) ∧ W = w' := by
  go_enter Try.func86, Try.ntmps86
  go_wp2
  go_ret
  exact ⟨rfl, rfl⟩
def idxB (M : List Bool) (ws : List Int) : Int :=
  match ws.findIdx? (fun x => rdOf false M x) with
  | some i => i
  | none => -1
theorem idxB_hit {M : List Bool} {ws : List Int} {q : Nat} (hq : q < ws.length) (h : rdOf false M (rd ws q) = true) (hn : ∀ j, j < q → rdOf false M (rd ws j) = false) : idxB M ws = q := by
  have e : ∀ j (hj : j < ws.length), ws[j] = rd ws j := fun j hj => by simp [rd, List.getD_eq_getElem?_getD, List.getElem?_eq_getElem hj]
  unfold idxB
  rw [List.findIdx?_eq_some_iff_getElem.2 ⟨hq, by rw [e]; exact h, fun j hj => by rw [e j (by omega), hn j hj]; simp⟩]
theorem idxB_miss {M : List Bool} {ws : List Int} (hn : ∀ j, j < ws.length → rdOf false M (rd ws j) = false) : idxB M ws = -1 := by
  unfold idxB
  rw [List.findIdx?_eq_none_iff.2 fun x hx => by
    obtain ⟨j, hj, rfl⟩ := List.mem_iff_getElem.1 hx
    have := hn j hj
    simpa [rd, List.getD_eq_getElem?_getD, List.getElem?_eq_getElem hj] using this]
theorem idxB_any (M : List Bool) (ws : List Int) : decide (0 ≤ idxB M ws) = anyM M ws := by
  unfold idxB anyM
  cases h : ws.findIdx? (fun x => rdOf false M x) with
  | some i =>
    obtain ⟨hi, h1, _⟩ := List.findIdx?_eq_some_iff_getElem.1 h
    rw [List.any_eq_true.2 ⟨_, List.getElem_mem hi, h1⟩]
    simp
  | none =>
    have := List.findIdx?_eq_none_iff.1 h
    rw [List.any_eq_false.2 fun x hx => by simpa using this x hx]
    rfl
set_option maxHeartbeats 2000000 in
theorem cone_index (A : Option Addr) (c g3 : Nat) (M : List Bool) (ws : List Int) (W : World) (hw : wireOk ws = true) (h : Kd.C (Kd.int .i64) W A ws.length ws) (hc : ∀ x : Int, 0 ≤ x → x < 128 → W.cell? ⟨g3, x.toNat, none⟩ = some (.bool (rdOf false M x))) :
    Calls Try.prog 96 #[.slice A ws.length c, .func (.func 86) #[] #[.pointer (some ⟨g3, 0, none⟩)]] W fun e w' => e = .returned (.int .i64 (idxB M ws)) ∧ W = w' := by
  have HC := Aside0.mk hc
  have HI := Aside0.mk (Kd.reads_of_C (enc := Value.int .i64) (d := (0 : Int)) (h1 := fun _ => rfl) h)
  have HW := Aside0.mk hw
  have HH := Aside0.mk (fun q hq h hn => idxB_hit (M := M) (ws := ws) (q := q) hq h hn)
  have HM := Aside0.mk (fun hn => idxB_miss (M := M) (ws := ws) hn)
  have hl64 : (ws.length : Int) ≤ 9223372036854775807 := by have := h.2.1; omega
  generalize idxB M ws = R at HH HM ⊢
  clear h hc hw
  go_enter Try.func96, Try.ntmps96
  go_wp2
  go_loop [5, 8] (fun _ v8 => ∃ q : Nat, q ≤ ws.length ∧ v8 = .int .i64 q ∧ Aside0 (∀ j : Nat, j < q → rdOf false M (rd ws j) = false)) (fun _ i => ws.length - (intOf i).toNat)
  case atStart => exact ⟨0, Nat.zero_le _, rfl, ⟨fun j hj => by omega⟩⟩
  case round =>
    obtain ⟨q, hq, rfl, HN⟩ := hrel
    by_cases hqt : q < ws.length
    · obtain ⟨ad2, rfl, hcell0⟩ := HI.out.2.2 (by omega)
      have hcell := hcell0 q hqt
      rw [show ws.getD q 0 = rd ws q by simp [rd]] at hcell
      have hx : 0 ≤ rd ws q ∧ rd ws q < 128 := by
        have := List.all_eq_true.1 HW.out (ws[q]'hqt) (List.getElem_mem _)
        simp only [Bool.and_eq_true, decide_eq_true_eq] at this
        simpa [rd, List.getD_eq_getElem?_getD, List.getElem?_eq_getElem hqt] using this
      have HF := Aside0.mk (cone_fn g3 M (rd ws q) W hx.1 hx.2 (HC.out _ hx.1 hx.2))
      clear hcell0 hx
      obtain ⟨x, hxq⟩ : ∃ x, rd ws q = x := ⟨_, rfl⟩
      cases hb : rdOf false M (rd ws q) with
      | true =>
        have HE := Aside0.mk (HH.out q hqt hb HN.out)
        rw [hb] at HF
        rw [hxq] at hcell HF
        clear hb HN hxq
        go_wp2_with (go_at_call 86; refine HF.out.mono ?_; rintro e w1 ⟨rfl, rfl⟩)
        go_ret
        exact ⟨by rw [HE.out]; rfl, rfl⟩
      | false =>
        have HN2 : Aside0 (∀ j : Nat, j < q + 1 → rdOf false M (rd ws j) = false) := ⟨fun j hj => by
          rcases Nat.lt_succ_iff_lt_or_eq.1 hj with h | h
          · exact HN.out j h
          · rw [h]; exact hb⟩
        rw [hb] at HF
        rw [hxq] at hcell HF
        clear hb HN hxq
        go_wp2_with (go_at_call 86; refine HF.out.mono ?_; rintro e w1 ⟨rfl, rfl⟩)
        go_round
        case rel => exact ⟨q + 1, by omega, by go_num, HN2⟩
        case measure => simp [intOf]; omega
    · have HE := Aside0.mk (HM.out fun j hj => HN.out j (by omega))
      clear HN
      go_wp2
      go_ret
      exact ⟨by rw [HE.out]; rfl, rfl⟩
theorem cone_contains (A : Option Addr) (c g3 : Nat) (M : List Bool) (ws : List Int) (W : World) (hw : wireOk ws = true) (h : Kd.C (Kd.int .i64) W A ws.length ws) (hc : ∀ x : Int, 0 ≤ x → x < 128 → W.cell? ⟨g3, x.toNat, none⟩ = some (.bool (rdOf false M x))) :
    Calls Try.prog 85 #[.slice A ws.length c, .func (.func 86) #[] #[.pointer (some ⟨g3, 0, none⟩)]] W fun e w' => e = .returned (.bool (anyM M ws)) ∧ W = w' := by
  have H := Aside0.mk (idxB_any M ws)
  have HI := Aside0.mk (cone_index A c g3 M ws W hw h hc)
  clear hc h hw
  go_enter Try.func85, Try.ntmps85
  go_wp2_with (go_at_call 96; refine HI.out.mono ?_; rintro e w' ⟨rfl, rfl⟩)
  go_ret
  exact ⟨by rw [← H.out]; rfl, rfl⟩
set_option maxHeartbeats 8000000 in
set_option maxRecDepth 100000 in
theorem layers_cone.calls (k : Nat) (a0_0 : Int) (a0_1 : Int) (A0_2 : Option Addr) (c0_2 : Nat) (l0_2 : List S46) (A1 : Option Addr) (c1 : Nat) (l1 : List Int) (a2 : Bool) (r1 : List Int) (r2 : Int) (w : World) (hr0_2 : Kd.C k46 w A0_2 l0_2.length l0_2) (hc0_2 : l0_2.length ≤ c0_2) (hr1 : Kd.C (Kd.int .i64) w A1 l1.length l1) (hc1 : l1.length ≤ c1) (h : layers_cone.f k a0_0 a0_1 l0_2 l1 a2 = some (r1, r2)) :
    Calls Try.prog 72 #[.agg #[.int .i64 a0_0, .int .i64 a0_1, .slice A0_2 l0_2.length c0_2], .slice A1 l1.length c1, .bool a2] w fun e w' => ∃ v0_ : Value, e = .returned (.tuple #[v0_, .int .i64 r2]) ∧ Kd.R (Kd.int .i64) 3 w' w.heap.size (fun _ => True) v0_ r1 ∧ Below w.heap.size w w' := by
  have hu24 := Try.underlying24
  have hu46 := Try.underlying46
  unfold layers_cone.f at h
  obtain ⟨t, ht, h2⟩ := Option.bind_eq_some_iff.1 h
  clear h
  have HD := Aside0.mk ht
  have HC := Aside0.mk hc0_2
  have HR := Aside0.mk hr0_2
  have HQ := Aside0.mk hr1
  clear ht hr0_2 hc0_2 hr1
  split at h2
  case isFalse =>
    rename_i hne
    simp only [Option.some.injEq, Prod.mk.injEq] at h2
    obtain ⟨rfl, rfl⟩ := h2
    have hne' : (t != 0) = true := by simpa using hne
    clear hne
    go_enter Try.func72, Try.ntmps72
    go_wp2_with (go_at_call 60; (with_reducible refine (layers_checked.calls k a0_0 a0_1 _ _ l0_2 t _ (Kd.C_alloc HR.out _) HC.out HD.out).mono ?_); rintro e w1 ⟨rfl, hb1⟩)
    go_ret2
    exact ⟨_, rfl, Kd.R_nil _ _ _ _ _, below_step (below_alloc (Below.refl _ _) _) hb1⟩
  rename_i he
  obtain rfl : t = 0 := he
  split at h2
  case isFalse => cases h2
  rename_i hlen
  have LM := Aside0.mk hlen
  have H := Aside0.mk h2
  clear h2 hlen
  go_enter Try.func72, Try.ntmps72
  go_upto_region 4 with (go_at_call 60; (with_reducible refine (layers_checked.calls k a0_0 a0_1 _ _ l0_2 0 _ (Kd.C_alloc HR.out _) HC.out HD.out).mono ?_); rintro e w1 ⟨rfl, hb1⟩)
  have b1 := blk_below (blk_new w (.cells #[.int .i64 a0_0, .int .i64 a0_1, .slice A0_2 l0_2.length c0_2] 24)) hb1
  have hb := below_step (below_alloc (Below.refl _ w) (.cells #[.int .i64 a0_0, .int .i64 a0_1, .slice A0_2 l0_2.length c0_2] 24)) hb1
  clear hb1 HD
  obtain ⟨g1, hg1⟩ : ∃ g, g = w.heap.size := ⟨_, rfl⟩
  rw [← hg1] at b1
  have n1 : w.heap.size ≤ g1 := by omega
  rw [← hg1]
  clear hg1
  generalize hn : l0_2.length = n at *
  generalize hm : l1.length = m at *
  have hn64 : (n : Int) ≤ 2199023255552 := by have := LM.out.2; omega
  have ha : a0_0 ≤ 128 := LM.out.1
  have hm64 : (m : Int) ≤ 9223372036854775807 := by have := HQ.out.2.1; omega
  have HN := Aside0.mk hn
  have HM := Aside0.mk hm
  go_upto_region 5 with (fail)
  obtain ⟨g3, hg3⟩ : ∃ g, g = w1.heap.size := ⟨_, rfl⟩
  have hs : ConeS w (w1.alloc (.cells Try.zeroCells94 94)) g1 g3 #[.int .i64 a0_0, .int .i64 a0_1, .slice A0_2 n c0_2] (List.replicate 128 false) (.slice none 0 0) [] := by
    have n3 := hb.size
    subst hg3
    exact ⟨below_alloc hb _, blk_alloc b1 _, by
      have := blk_new w1 (.cells Try.zeroCells94 94)
      rw [this]
      rfl, Kd.R_nil _ _ _ _ _, n1, n3⟩
  rw [← hg3]
  generalize w1.alloc (.cells Try.zeroCells94 94) = W0 at hs ⊢
  have HS := Aside0.mk hs
  clear hs hg3 hb b1 n1 hn hm
  go_wp2
  go_loopw [11, 26] (fun _ v26 wr => ∃ (q : Nat) (L : List Bool), q ≤ m ∧ v26 = .int .i64 q ∧ Aside0 (cone_from k a0_0 l0_2 a2 (cone_mark a0_0 (l1.drop q) L) = some (r1, r2)) ∧ Aside0 (L.length = 128) ∧ Aside0 (ConeS w wr g1 g3 #[.int .i64 a0_0, .int .i64 a0_1, .slice A0_2 n c0_2] L (.slice none 0 0) [])) (fun _ i _ => m - (intOf i).toNat)
  case atStart => exact ⟨0, _, Nat.zero_le _, rfl, H, ⟨by simp⟩, HS⟩
  case round =>
    clear HS H
    obtain ⟨q, L, hq, rfl, H, HL, HS⟩ := hrel
    by_cases hqt : q < m
    · obtain ⟨adq, rfl, hcell0⟩ := (Kd.reads_of_C (enc := Value.int .i64) (d := (0 : Int)) (h1 := fun _ => rfl) HQ.out).2.2 (by omega)
      have hcell := hcell0 q hqt
      rw [show l1.getD q 0 = rd l1 q by simp [rd]] at hcell
      replace hcell := (HS.out.hb.cell (World.block_lt_of_cell? w _ hcell)).trans hcell
      have H2 := H.out
      have hlq : q < l1.length := by rw [HM.out]; exact hqt
      rw [List.drop_eq_getElem_cons hlq, show l1[q] = rd l1 q by simp [rd, List.getD_eq_getElem?_getD, List.getElem?_eq_getElem hlq]] at H2
      generalize rd l1 q = x at hcell H2
      simp only [cone_mark] at H2
      have f0c : wr.cell? ⟨g1, 0, none⟩ = some (.int .i64 a0_0) := (blk_cell HS.out.b1 0).trans rfl
      clear hcell0 hlq H
      by_cases hx0 : x < 0
      · rw [if_pos (.inl hx0)] at H2
        simp only [cone_from, Option.some.injEq, Prod.mk.injEq] at H2
        obtain ⟨rfl, rfl⟩ := H2
        go_wp2
        go_ret2
        exact ⟨_, rfl, Kd.R_nil _ _ _ _ _, HS.out.hb⟩
      · by_cases hx1 : a0_0 ≤ x
        · rw [if_pos (.inr (.inl hx1))] at H2
          simp only [cone_from, Option.some.injEq, Prod.mk.injEq] at H2
          obtain ⟨rfl, rfl⟩ := H2
          go_wp2
          go_ret2
          exact ⟨_, rfl, Kd.R_nil _ _ _ _ _, HS.out.hb⟩
        · have hx2 : 0 ≤ x := by omega
          have hx3 : x < a0_0 := by omega
          have hx4 : x < 128 := by omega
          have harr := HS.out.cell HL.out hx2 hx4
          have hfr : wr.frozen? ⟨g3, x.toNat, none⟩ = false := blk_frozen HS.out.b3 _
          cases hM : rdOf false L x with
          | true =>
            rw [if_pos (.inr (.inr hM))] at H2
            rw [hM] at harr
            clear hM
            simp only [cone_from, Option.some.injEq, Prod.mk.injEq] at H2
            obtain ⟨rfl, rfl⟩ := H2
            go_wp2
            go_ret2
            exact ⟨_, rfl, Kd.R_nil _ _ _ _ _, HS.out.hb⟩
          | false =>
            rw [if_neg (by rw [hM]; rintro (h | h | h); omega; omega; cases h)] at H2
            rw [hM] at harr
            clear hM
            have H3 := Aside0.mk H2
            clear H2
            go_wp2
            go_roundw
            case rel => exact ⟨q + 1, _, by omega, by go_num, H3, ⟨by simpa using HL.out⟩, ⟨HS.out.put x.toNat true⟩⟩
            case measure => simp [intOf]; omega
    · obtain rfl : q = m := by omega
      have H2 := H.out
      rw [List.drop_eq_nil_of_le (by rw [HM.out]; exact Nat.le_refl _)] at H2
      simp only [cone_mark, cone_from, cone_end] at H2
      obtain ⟨res, hres, H3⟩ := Option.bind_eq_some_iff.1 H2
      have HE := Aside0.mk H3
      have H := Aside0.mk hres
      have f2c : wr.cell? ⟨g1, 2, none⟩ = some (.slice A0_2 n c0_2) := (blk_cell HS.out.b1 2).trans rfl
      clear H2 H3 hres
      go_wp2
      clear f2c
      go_loopw [12, 13, 14, 15, 16, 18, 49] (fun v12 _ _ _ _ _ v49 wr => ∃ (p : Nat) (M : List Bool) (out rest : List Int), p ≤ n ∧ v49 = .int .i64 p ∧ Aside0 (cone_go ((cone_list a2 l0_2).drop p) M = some rest) ∧ Aside0 (out ++ rest = res) ∧ Aside0 (M.length = 128) ∧ Aside0 (out.length ≤ p) ∧ Aside0 (ConeS w wr g1 g3 #[.int .i64 a0_0, .int .i64 a0_1, .slice A0_2 n c0_2] M v12 out)) (fun _ _ _ _ _ _ i _ => n - (intOf i).toNat)
      case atStart => exact ⟨0, _, [], res, Nat.zero_le _, rfl, H, ⟨rfl⟩, HL, ⟨Nat.le_refl _⟩, HS⟩
      case round =>
        clear HS H HL
        obtain ⟨p, M, out, rest, hp, rfl, H, HO, HL, HJ, HS⟩ := hrel
        by_cases hlt : p < n
        · obtain ⟨hr1, hrv⟩ := cone_at (a2 := a2) (l := l0_2) (p := p) (by rw [HN.out]; exact hlt)
          have H2 := H.out
          rw [List.drop_eq_getElem_cons hr1, hrv, HN.out] at H2
          clear hrv H
          cases a2 with
          | true =>
            simp only [if_true] at H2
            obtain ⟨ad, A2, c2, rfl, x0, x1, x2, x3, x4, x5, hl2, hi2⟩ := at_T46 (by rw [HN.out]; exact HR.out : Kd.C k46 w A0_2 l0_2.length l0_2) ((n : Int) - 1 - p) (by omega) (by rw [HN.out]; omega)
            simp only [show ((n : Int) - 1 - p).toNat = n - 1 - p by omega] at x0 x1 x2 x3 x4 x5
            have hb := HS.out.hb
            replace x0 := (hb.cell (World.block_lt_of_cell? w _ x0)).trans x0
            replace x1 := (hb.cell (World.block_lt_of_cell? w _ x1)).trans x1
            replace x2 := (hb.cell (World.block_lt_of_cell? w _ x2)).trans x2
            replace x3 := (hb.cell (World.block_lt_of_cell? w _ x3)).trans x3
            replace x4 := (hb.cell (World.block_lt_of_cell? w _ x4)).trans x4
            replace x5 := (hb.cell (World.block_lt_of_cell? w _ x5)).trans x5
            generalize rd_T46 l0_2 ((n : Int) - 1 - p) = o at *
            simp only [cone_go] at H2
            obtain ⟨ws, hws, H3⟩ := Option.bind_eq_some_iff.1 H2
            clear H2
            split at H3
            case isFalse => cases H3
            rename_i hwo
            have HW := Aside0.mk hws
            have HWO := Aside0.mk hwo
            have HL2 := Aside0.mk hl2
            have HI2 := Aside0.mk hi2
            have H := Aside0.mk H3
            have f2d : wr.cell? ⟨g1, 2, none⟩ = some (.slice (some ad) n c0_2) := (blk_cell HS.out.b1 2).trans rfl
            have hi1 : (0 : Int) ≤ (n : Int) - 1 - p := by omega
            have hi3 : (n : Int) - 1 - p < (n : Int) := by omega
            clear hws hwo hl2 hi2 H3 hb hr1
            go_upto_region 20 with (fail)
            have hs1 := HS.out.below (below_alloc (Below.refl _ wr) (.cells #[.int .i64 o.f0, .int .i64 o.f1, .slice A2 o.f2.length c2, .int .i64 o.f3, .int .i64 o.f4, .int .i64 o.f5] 46))
            have b6 := blk_new wr (.cells #[.int .i64 o.f0, .int .i64 o.f1, .slice A2 o.f2.length c2, .int .i64 o.f3, .int .i64 o.f4, .int .i64 o.f5] 46)
            obtain ⟨g6, hg6⟩ : ∃ g, g = wr.heap.size := ⟨_, rfl⟩
            rw [← hg6] at b6
            rw [← hg6]
            generalize wr.alloc _ = W1 at hs1 b6 ⊢
            have HB6 := Aside0.mk b6
            have HS1 := Aside0.mk hs1
            clear x0 x1 x2 x3 x4 x5 hs1 b6 hg6 HS f2d
            have f0c : W1.cell? ⟨g6, 0, none⟩ = some (.int .i64 o.f0) := (blk_cell HB6.out 0).trans rfl
            have f1c : W1.cell? ⟨g6, 1, none⟩ = some (.int .i64 o.f1) := (blk_cell HB6.out 1).trans rfl
            have f2c : W1.cell? ⟨g6, 2, none⟩ = some (.slice A2 o.f2.length c2) := (blk_cell HB6.out 2).trans rfl
            have f3c : W1.cell? ⟨g6, 3, none⟩ = some (.int .i64 o.f3) := (blk_cell HB6.out 3).trans rfl
            have f4c : W1.cell? ⟨g6, 4, none⟩ = some (.int .i64 o.f4) := (blk_cell HB6.out 4).trans rfl
            have f5c : W1.cell? ⟨g6, 5, none⟩ = some (.int .i64 o.f5) := (blk_cell HB6.out 5).trans rfl
            go_upto_region 21 with (go_at_call 62; (with_reducible refine (layers_wires.calls o.f0 o.f1 _ _ o.f2 o.f3 o.f4 o.f5 ws _ (Kd.C_below HI2.out HS1.out.hb) HL2.out HW.out).mono ?_); clear f0c f1c f2c f3c f4c f5c; rintro e W2 ⟨v20, rfl, hv20, hb2⟩; obtain ⟨A20, c20, rfl, hl20, hi20⟩ := Kd.R_reads hv20)
            have HS2 := Aside0.mk (HS1.out.below hb2)
            have HV2 := Aside0.mk (Kd.R_lower hv20 HS1.out.hb.size)
            have f0c : W2.cell? ⟨g6, 0, none⟩ = some (.int .i64 o.f0) := (blk_cell (blk_below HB6.out hb2) 0).trans rfl
            clear hb2 hv20 hi20 HS1 HB6 hl20
            by_cases h4 : o.f0 = 4
            · have h4b : (o.f0 == 4) = true := by simpa using h4
              have H4 := H.out
              rw [if_pos (.inl h4)] at H4
              have H := Aside0.mk H4
              clear h4 H4
              go_wp2
              go_roundw
              case rel => exact ⟨p + 1, _, out, rest, by omega, by go_num, H, HO, HL, ⟨by have := HJ.out; omega⟩, HS2⟩
              case measure => simp [intOf]; omega
            · have h4b : (o.f0 == 4) = false := by simpa using h4
              cases hany : anyM M ws with
              | false =>
                have H4 := H.out
                rw [if_pos (.inr hany)] at H4
                have H := Aside0.mk H4
                clear h4 H4
                go_wp2_with (go_at_call 85; refine (cone_contains A20 c20 g3 M ws W2 HWO.out (Kd.R_reads' HV2.out).2.2 (fun x h0 h1 => HS2.out.cell HL.out h0 h1)).mono ?_; rw [hany]; rintro e w' ⟨rfl, rfl⟩; clear hany)
                go_roundw
                case rel => exact ⟨p + 1, _, out, rest, by omega, by go_num, H, HO, HL, ⟨by have := HJ.out; omega⟩, HS2⟩
                case measure => simp [intOf]; omega
              | true =>
                have H4 := H.out
                rw [if_neg (by rw [hany]; rintro (h | h); exact h4 h; cases h)] at H4
                obtain ⟨rest', hrest, H5⟩ := Option.bind_eq_some_iff.1 H4
                obtain rfl := Option.some.inj H5
                have H := Aside0.mk hrest
                clear h4 H4 H5 hrest
                go_wp2_with (go_at_call 85; refine (cone_contains A20 c20 g3 M ws W2 HWO.out (Kd.R_reads' HV2.out).2.2 (fun x h0 h1 => HS2.out.cell HL.out h0 h1)).mono ?_; rw [hany]; rintro e w' ⟨rfl, rfl⟩; clear hany)
                clear f0c h4b
                go_loopw [18, 78] (fun _ v78 wr => ∃ q : Nat, q ≤ ws.length ∧ v78 = .int .i64 q ∧ Aside0 (ConeS w wr g1 g3 #[.int .i64 a0_0, .int .i64 a0_1, .slice (some ad) n c0_2] (setM M (ws.take q)) u12 out) ∧ Aside0 (Kd.R (Kd.int .i64) 3 wr w.heap.size (fun _ => True) (.slice A20 ws.length c20) ws)) (fun _ i _ => ws.length - (intOf i).toNat)
                case atStart => exact ⟨0, Nat.zero_le _, rfl, HS2, HV2⟩
                case round =>
                  clear HS2 HV2
                  obtain ⟨q, hq, rfl, HS5, HV3⟩ := hrel
                  by_cases hqt : q < ws.length
                  · obtain ⟨ad2, e38, hcell0⟩ := (Kd.reads_of_C (enc := Value.int .i64) (d := (0 : Int)) (h1 := fun _ => rfl) (Kd.R_reads' HV3.out).2.2).2.2 (by omega)
                    cases e38
                    have hcell := hcell0 q hqt
                    rw [show ws.getD q 0 = rd ws q by simp [rd]] at hcell
                    have hx : 0 ≤ rd ws q ∧ rd ws q < 128 := by
                      have := List.all_eq_true.1 HWO.out (ws[q]'hqt) (List.getElem_mem _)
                      simp only [Bool.and_eq_true, decide_eq_true_eq] at this
                      simpa [rd, List.getD_eq_getElem?_getD, List.getElem?_eq_getElem hqt] using this
                    have hs := setM_snoc M (ws.take q) (rd ws q)
                    rw [← take_snoc_rd ws q hqt] at hs
                    generalize rd ws q = x at hcell hx hs
                    obtain ⟨hx0, hx1⟩ := hx
                    have harr := HS5.out.cell (by rw [setM_len]; exact HL.out) hx0 hx1
                    have hfr : wr.frozen? ⟨g3, x.toNat, none⟩ = false := blk_frozen HS5.out.b3 _
                    generalize rdOf false (setM M (ws.take q)) x = y at harr
                    have HSN := Aside0.mk hs
                    have hlw : (ws.length : Int) ≤ 9223372036854775807 := by have := (Kd.R_reads' HV3.out).2.2.2.1; omega
                    clear hcell0 hs
                    go_wp2
                    go_roundw
                    case rel => exact ⟨q + 1, by omega, by go_num, ⟨by rw [HSN.out]; exact HS5.out.put x.toNat true⟩, ⟨Kd.R_set HV3.out HS5.out.b3 (by decide) _ _⟩⟩
                    case measure => simp [intOf]; omega
                  · obtain rfl : q = ws.length := by omega
                    rw [List.take_length] at *
                    have hj8 : (out.length + 1) * 8 ≤ 140737488355328 := by have := HJ.out; omega
                    go_wp2_with ((with_reducible refine gate_builtin (b := .append) (xs := #[.tmp 85, .tmp 87]) rfl ?_); at_builtin; refine Kd.R_append (Kd.int .i64) (w0 := w) w.heap.size rfl (.tmp 85) (.tmp 87) 37 3 (.int .i64 0) 8 rfl Try.underlying37 info3 rfl (by decide) (by omega) u12 out ((n : Int) - 1 - p) [.int .i64 ((n : Int) - 1 - p)] (fun _ => True) (fun _ => False) rfl rfl rfl (fun _ hk => hk.elim) (fun _ _ => trivial) HS5.out.ho HS5.out.hb HS5.out.hb.size hj8 ?_; intro v51 w51 ho hb hg hat; have HS6 := Aside0.mk (HS5.out.grown hg hb ho); clear ho hb hg hat HS5 HV3)
                    go_roundw
                    case rel => exact ⟨p + 1, _, _, rest', by omega, by go_num, H, ⟨by rw [List.append_assoc]; exact HO.out⟩, ⟨by rw [setM_len]; exact HL.out⟩, ⟨by rw [List.length_append]; have := HJ.out; simp; omega⟩, HS6⟩
                    case measure => simp [intOf]; omega
          | false =>
            simp only [Bool.false_eq_true, if_false] at H2
            obtain ⟨ad, A2, c2, rfl, x0, x1, x2, x3, x4, x5, hl2, hi2⟩ := at_T46 (by rw [HN.out]; exact HR.out : Kd.C k46 w A0_2 l0_2.length l0_2) (p : Int) (by omega) (by rw [HN.out]; omega)
            simp only [Int.toNat_natCast] at x0 x1 x2 x3 x4 x5
            have hb := HS.out.hb
            replace x0 := (hb.cell (World.block_lt_of_cell? w _ x0)).trans x0
            replace x1 := (hb.cell (World.block_lt_of_cell? w _ x1)).trans x1
            replace x2 := (hb.cell (World.block_lt_of_cell? w _ x2)).trans x2
            replace x3 := (hb.cell (World.block_lt_of_cell? w _ x3)).trans x3
            replace x4 := (hb.cell (World.block_lt_of_cell? w _ x4)).trans x4
            replace x5 := (hb.cell (World.block_lt_of_cell? w _ x5)).trans x5
            generalize rd_T46 l0_2 (p : Int) = o at *
            simp only [cone_go] at H2
            obtain ⟨ws, hws, H3⟩ := Option.bind_eq_some_iff.1 H2
            clear H2
            split at H3
            case isFalse => cases H3
            rename_i hwo
            have HW := Aside0.mk hws
            have HWO := Aside0.mk hwo
            have HL2 := Aside0.mk hl2
            have HI2 := Aside0.mk hi2
            have H := Aside0.mk H3
            have f2d : wr.cell? ⟨g1, 2, none⟩ = some (.slice (some ad) n c0_2) := (blk_cell HS.out.b1 2).trans rfl
            have hi1 : (0 : Int) ≤ (p : Int) := by omega
            have hi3 : (p : Int) < (n : Int) := by omega
            clear hws hwo hl2 hi2 H3 hb hr1
            go_upto_region 20 with (fail)
            have hs1 := HS.out.below (below_alloc (Below.refl _ wr) (.cells #[.int .i64 o.f0, .int .i64 o.f1, .slice A2 o.f2.length c2, .int .i64 o.f3, .int .i64 o.f4, .int .i64 o.f5] 46))
            have b6 := blk_new wr (.cells #[.int .i64 o.f0, .int .i64 o.f1, .slice A2 o.f2.length c2, .int .i64 o.f3, .int .i64 o.f4, .int .i64 o.f5] 46)
            obtain ⟨g6, hg6⟩ : ∃ g, g = wr.heap.size := ⟨_, rfl⟩
            rw [← hg6] at b6
            rw [← hg6]
            generalize wr.alloc _ = W1 at hs1 b6 ⊢
            have HB6 := Aside0.mk b6
            have HS1 := Aside0.mk hs1
            clear x0 x1 x2 x3 x4 x5 hs1 b6 hg6 HS f2d
            have f0c : W1.cell? ⟨g6, 0, none⟩ = some (.int .i64 o.f0) := (blk_cell HB6.out 0).trans rfl
            have f1c : W1.cell? ⟨g6, 1, none⟩ = some (.int .i64 o.f1) := (blk_cell HB6.out 1).trans rfl
            have f2c : W1.cell? ⟨g6, 2, none⟩ = some (.slice A2 o.f2.length c2) := (blk_cell HB6.out 2).trans rfl
            have f3c : W1.cell? ⟨g6, 3, none⟩ = some (.int .i64 o.f3) := (blk_cell HB6.out 3).trans rfl
            have f4c : W1.cell? ⟨g6, 4, none⟩ = some (.int .i64 o.f4) := (blk_cell HB6.out 4).trans rfl
            have f5c : W1.cell? ⟨g6, 5, none⟩ = some (.int .i64 o.f5) := (blk_cell HB6.out 5).trans rfl
            go_upto_region 21 with (go_at_call 62; (with_reducible refine (layers_wires.calls o.f0 o.f1 _ _ o.f2 o.f3 o.f4 o.f5 ws _ (Kd.C_below HI2.out HS1.out.hb) HL2.out HW.out).mono ?_); clear f0c f1c f2c f3c f4c f5c; rintro e W2 ⟨v20, rfl, hv20, hb2⟩; obtain ⟨A20, c20, rfl, hl20, hi20⟩ := Kd.R_reads hv20)
            have HS2 := Aside0.mk (HS1.out.below hb2)
            have HV2 := Aside0.mk (Kd.R_lower hv20 HS1.out.hb.size)
            have f0c : W2.cell? ⟨g6, 0, none⟩ = some (.int .i64 o.f0) := (blk_cell (blk_below HB6.out hb2) 0).trans rfl
            clear hb2 hv20 hi20 HS1 HB6 hl20
            by_cases h4 : o.f0 = 4
            · have h4b : (o.f0 == 4) = true := by simpa using h4
              have H4 := H.out
              rw [if_pos (.inl h4)] at H4
              have H := Aside0.mk H4
              clear h4 H4
              go_wp2
              go_roundw
              case rel => exact ⟨p + 1, _, out, rest, by omega, by go_num, H, HO, HL, ⟨by have := HJ.out; omega⟩, HS2⟩
              case measure => simp [intOf]; omega
            · have h4b : (o.f0 == 4) = false := by simpa using h4
              cases hany : anyM M ws with
              | false =>
                have H4 := H.out
                rw [if_pos (.inr hany)] at H4
                have H := Aside0.mk H4
                clear h4 H4
                go_wp2_with (go_at_call 85; refine (cone_contains A20 c20 g3 M ws W2 HWO.out (Kd.R_reads' HV2.out).2.2 (fun x h0 h1 => HS2.out.cell HL.out h0 h1)).mono ?_; rw [hany]; rintro e w' ⟨rfl, rfl⟩; clear hany)
                go_roundw
                case rel => exact ⟨p + 1, _, out, rest, by omega, by go_num, H, HO, HL, ⟨by have := HJ.out; omega⟩, HS2⟩
                case measure => simp [intOf]; omega
              | true =>
                have H4 := H.out
                rw [if_neg (by rw [hany]; rintro (h | h); exact h4 h; cases h)] at H4
                obtain ⟨rest', hrest, H5⟩ := Option.bind_eq_some_iff.1 H4
                obtain rfl := Option.some.inj H5
                have H := Aside0.mk hrest
                clear h4 H4 H5 hrest
                go_wp2_with (go_at_call 85; refine (cone_contains A20 c20 g3 M ws W2 HWO.out (Kd.R_reads' HV2.out).2.2 (fun x h0 h1 => HS2.out.cell HL.out h0 h1)).mono ?_; rw [hany]; rintro e w' ⟨rfl, rfl⟩; clear hany)
                clear f0c h4b
                go_loopw [18, 78] (fun _ v78 wr => ∃ q : Nat, q ≤ ws.length ∧ v78 = .int .i64 q ∧ Aside0 (ConeS w wr g1 g3 #[.int .i64 a0_0, .int .i64 a0_1, .slice (some ad) n c0_2] (setM M (ws.take q)) u12 out) ∧ Aside0 (Kd.R (Kd.int .i64) 3 wr w.heap.size (fun _ => True) (.slice A20 ws.length c20) ws)) (fun _ i _ => ws.length - (intOf i).toNat)
                case atStart => exact ⟨0, Nat.zero_le _, rfl, HS2, HV2⟩
                case round =>
                  clear HS2 HV2
                  obtain ⟨q, hq, rfl, HS5, HV3⟩ := hrel
                  by_cases hqt : q < ws.length
                  · obtain ⟨ad2, e38, hcell0⟩ := (Kd.reads_of_C (enc := Value.int .i64) (d := (0 : Int)) (h1 := fun _ => rfl) (Kd.R_reads' HV3.out).2.2).2.2 (by omega)
                    cases e38
                    have hcell := hcell0 q hqt
                    rw [show ws.getD q 0 = rd ws q by simp [rd]] at hcell
                    have hx : 0 ≤ rd ws q ∧ rd ws q < 128 := by
                      have := List.all_eq_true.1 HWO.out (ws[q]'hqt) (List.getElem_mem _)
                      simp only [Bool.and_eq_true, decide_eq_true_eq] at this
                      simpa [rd, List.getD_eq_getElem?_getD, List.getElem?_eq_getElem hqt] using this
                    have hs := setM_snoc M (ws.take q) (rd ws q)
                    rw [← take_snoc_rd ws q hqt] at hs
                    generalize rd ws q = x at hcell hx hs
                    obtain ⟨hx0, hx1⟩ := hx
                    have harr := HS5.out.cell (by rw [setM_len]; exact HL.out) hx0 hx1
                    have hfr : wr.frozen? ⟨g3, x.toNat, none⟩ = false := blk_frozen HS5.out.b3 _
                    generalize rdOf false (setM M (ws.take q)) x = y at harr
                    have HSN := Aside0.mk hs
                    have hlw : (ws.length : Int) ≤ 9223372036854775807 := by have := (Kd.R_reads' HV3.out).2.2.2.1; omega
                    clear hcell0 hs
                    go_wp2
                    go_roundw
                    case rel => exact ⟨q + 1, by omega, by go_num, ⟨by rw [HSN.out]; exact HS5.out.put x.toNat true⟩, ⟨Kd.R_set HV3.out HS5.out.b3 (by decide) _ _⟩⟩
                    case measure => simp [intOf]; omega
                  · obtain rfl : q = ws.length := by omega
                    rw [List.take_length] at *
                    have hj8 : (out.length + 1) * 8 ≤ 140737488355328 := by have := HJ.out; omega
                    go_wp2_with ((with_reducible refine gate_builtin (b := .append) (xs := #[.tmp 85, .tmp 87]) rfl ?_); at_builtin; refine Kd.R_append (Kd.int .i64) (w0 := w) w.heap.size rfl (.tmp 85) (.tmp 87) 37 3 (.int .i64 0) 8 rfl Try.underlying37 info3 rfl (by decide) (by omega) u12 out (p : Int) [.int .i64 (p : Int)] (fun _ => True) (fun _ => False) rfl rfl rfl (fun _ hk => hk.elim) (fun _ _ => trivial) HS5.out.ho HS5.out.hb HS5.out.hb.size hj8 ?_; intro v51 w51 ho hb hg hat; have HS6 := Aside0.mk (HS5.out.grown hg hb ho); clear ho hb hg hat HS5 HV3)
                    go_roundw
                    case rel => exact ⟨p + 1, _, _, rest', by omega, by go_num, H, ⟨by rw [List.append_assoc]; exact HO.out⟩, ⟨by rw [setM_len]; exact HL.out⟩, ⟨by rw [List.length_append]; have := HJ.out; simp; omega⟩, HS6⟩
                    case measure => simp [intOf]; omega
        · obtain rfl : p = n := by omega
          have hr : out = res := by
            have h2 := H.out
            rw [List.drop_eq_nil_of_le (by simp [cone_list, HN.out])] at h2
            simp only [cone_go] at h2
            obtain rfl := Option.some.inj h2
            rw [← HO.out, List.append_nil]
          subst hr
          have HE2 := HE.out
          cases a2 with
          | true =>
            simp only [if_true] at HE2
            obtain ⟨rr, hrr, HE3⟩ := Option.bind_eq_some_iff.1 HE2
            simp only [Option.some.injEq, Prod.mk.injEq] at HE3
            obtain ⟨rfl, rfl⟩ := HE3
            have HRR := Aside0.mk hrr
            clear hrr HE2 HE
            go_wp2_with (go_at_call 87; (with_reducible refine (slices_Reverse_int_int.calls k (fun _ => True) _ _ rr w _ HS.out.hb HS.out.ho HRR.out).mono ?_); rintro e w9 ⟨rfl, hv9, hb9, _⟩)
            go_ret2
            exact ⟨_, rfl, Kd.R_mono hv9 (fun _ _ => trivial), hb9⟩
          | false =>
            simp only [Bool.false_eq_true, if_false, Option.some.injEq, Prod.mk.injEq] at HE2
            obtain ⟨rfl, rfl⟩ := HE2
            go_wp2
            go_ret2
            exact ⟨_, rfl, HS.out.ho, HS.out.hb⟩
end Go.Proofs.Ytbelnopbggkdfaa.Q
end

section
namespace Go.Proofs.Ytbelnopbggkdfaa.Q
open Go.RowKit Go.Proofs.YtbelnopbggkdfaaW.PrintWords Go.Proofs.YtbelnopbggkdfaaW.PrintLast Go.Proofs.YtbelnopbggkdfaaW.PrintMore
attribute [local go_sem] max2_int min2_int max_two min_two max_three min_three max_four min_four   -- for this text's walks alone
set_option linter.unusedVariables false
set_option linter.unusedSimpArgs false
def layers_Past.f (k : Nat) (a0_0 : Int) (a0_1 : Int) (l0_2 : List (S46)) (l1 : List Int) : Option (List Int × Int) := (layers_cone.f k a0_0 a0_1 l0_2 l1 true).bind fun bt524 => (some (bt524.1, bt524.2))
set_option maxHeartbeats 8000000 in
set_option maxRecDepth 100000 in
theorem layers_Past.calls (k : Nat) (a0_0 : Int) (a0_1 : Int) (A0_2 : Option Addr) (c0_2 : Nat) (l0_2 : List (S46)) (A1 : Option Addr) (c1 : Nat) (l1 : List Int) (r1 : List Int) (r2 : Int) (w : World) (hr0_2 : Kd.C k46 w A0_2 l0_2.length l0_2) (hc0_2 : l0_2.length ≤ c0_2) (hr1 : Kd.C (Kd.int .i64) w A1 l1.length l1) (hc1 : l1.length ≤ c1) (h : layers_Past.f k a0_0 a0_1 l0_2 l1 = some (r1, r2)) :
    Calls Try.prog 31 #[.agg #[.int .i64 a0_0, .int .i64 a0_1, .slice A0_2 l0_2.length c0_2], .slice A1 l1.length c1] w fun e w' => ∃ v0_ : Value, e = .returned (.tuple #[v0_, .int .i64 r2]) ∧ Kd.R (Kd.int .i64) 3 w' w.heap.size (fun _ => True) v0_ r1 ∧ Below w.heap.size w w' := by
  have hu24 := Try.underlying24
  have HR0_2 := Aside0.mk hr0_2
  have HC0_2 := Aside0.mk hc0_2
  clear hr0_2 hc0_2
  have HR1 := Aside0.mk hr1
  have HC1 := Aside0.mk hc1
  clear hr1 hc1
  have HB := Aside0.mk (Below.refl w.heap.size w)
  have H : ((layers_cone.f k a0_0 a0_1 l0_2 l1 true).bind fun bt524 => (some (bt524.1, bt524.2))) = some (r1, r2) := h
  clear h
  replace H := Option.bind_eq_some_iff.mp H
  obtain ⟨⟨t524, t527⟩, A30, H⟩ := H
  replace H : (some (t524, t527)) = some (r1, r2) := H
  have A3 := Aside0.mk A30
  clear A30
  simp only [Option.some.injEq, Prod.mk.injEq] at H
  obtain ⟨rfl, rfl⟩ := H
  go_enter Try.func31, Try.ntmps31
  go_wp2_with (first | ((with_reducible refine gate_dst (N := 2) rfl ?_); refine box_event ?hg (N := 2) ?hd (cs := #[.int .i64 a0_0, .int .i64 a0_1, .slice A0_2 l0_2.length c0_2]) (t := 24) ?hr ?_; (case hd => rfl); (case hg => rfl); (case hr => first | (go_simp; done) | (go_simp; rfl)); intro gb523 hg w4 hbox hb; have n0_ := Aside0.mk (below_step (by repeat (first | (with_reducible first | exact HB.out | apply below_alloc | apply pw_below_drewN | apply below_drew1) | exact HB.out)) hb); have n1_ := Aside0.mk (hbox); have n2_ := Aside0.mk ((by rw [hg]; exact (below_size (by repeat (first | (with_reducible first | exact HB.out | apply below_alloc | apply pw_below_drewN | apply below_drew1) | exact HB.out))) : w.heap.size ≤ gb523)); have n3_ := Aside0.mk ((by rw [hg]; exact (below_size (by repeat (first | (with_reducible first | exact HB.out | apply below_alloc | apply pw_below_drewN | apply below_drew1) | exact HB.out))) : w.heap.size ≤ gb523)); clear HB; have HB := n0_; have BK523 := n1_; have GW523 := n2_; have GE523 := n3_; clear n0_ n1_ n2_ n3_; clear hb hbox hg; have hcz5_0 : w4.cell? ⟨gb523, 0, none⟩ = some (.int .i64 a0_0) := (blk_cell BK523.out 0).trans rfl; have hcz5_1 : w4.cell? ⟨gb523, 1, none⟩ = some (.int .i64 a0_1) := (blk_cell BK523.out 1).trans rfl; have hcz5_2 : w4.cell? ⟨gb523, 2, none⟩ = some (.slice A0_2 l0_2.length c0_2) := (blk_cell BK523.out 2).trans rfl; have hfz5_0 := blk_frozen BK523.out 0; have hfz5_1 := blk_frozen BK523.out 1; have hfz5_2 := blk_frozen BK523.out 2) | ((with_reducible refine gate_callee (f := 72) rfl ?_); refine goesL_ (some 8) rfl rfl Try.func72 (by kernel_rfl) rfl #[.agg #[.int .i64 a0_0, .int .i64 a0_1, .slice A0_2 l0_2.length c0_2], .slice A1 l1.length c1, .bool true] rfl (by (try simp only [List.map_toArray, List.map_cons, List.map_nil]); first | done | rfl | (simp only [List.length_drop, List.length_take]; rfl)) ?_; (with_reducible refine (layers_cone.calls k a0_0 a0_1 _ _ l0_2 _ _ l1 true t524 t527 _ ?side1 ?side2 ?side3 ?side4 A3.out).mono ?_); (case side1 => repeat (first | exact (Kd.C_below HR0_2.out HB.out) | (with_reducible refine Kd.C_alloc ?_ _) | (with_reducible refine Kd.C_drewN ?_ _) | (with_reducible refine Kd.C_drew ?_))); (case side2 => exact HC0_2.out); (case side3 => repeat (first | exact (Kd.C_below HR1.out HB.out) | (with_reducible refine Kd.C_alloc ?_ _) | (with_reducible refine Kd.C_drewN ?_ _) | (with_reducible refine Kd.C_drew ?_))); (case side4 => exact HC1.out); rintro e w6 ⟨v525, rfl, ho0, hb⟩; refine ⟨_, rfl, ?_⟩; have n0_ := Aside0.mk (Kd.R_lower ho0 (below_size (by repeat (first | (with_reducible first | exact HB.out | apply below_alloc | apply pw_below_drewN | apply below_drew1 | refine below_set ?_ GE523.out) | exact HB.out)))); have n1_ := Aside0.mk (blk_below (g := gb523) (o := .cells #[.int .i64 a0_0, .int .i64 a0_1, .slice A0_2 l0_2.length c0_2] 24 (0, 0)) (by (with_reducible repeat (first | refine blk_drewN ?_ _ | refine blk_drew ?_ | refine blk_alloc ?_ _)); exact BK523.out) hb); have n2_ := Aside0.mk (below_step (by repeat (first | (with_reducible first | exact HB.out | apply below_alloc | apply pw_below_drewN | apply below_drew1 | refine below_set ?_ GE523.out) | exact HB.out)) hb); clear BK523; clear HB; have HO526 := n0_; have BK523 := n1_; have HB := n2_; clear n0_ n1_ n2_; (try clear hb); (try clear hb2); (try clear hk); (try clear hi); (try clear ho0)))
  go_ret2
  exact ⟨_, by first | rfl | (simp [errW_none, errW_some] <;> rfl) | (simp [*, errW_none, errW_some] <;> rfl), by (with_reducible repeat (first | apply Kd.R_alloc | apply Kd.R_drewN | apply Kd.R_drew)); exact HO526.out, by repeat (first | (with_reducible first | exact HB.out | apply below_alloc | apply pw_below_drewN | apply below_drew1 | refine below_set ?_ GE523.out) | exact HB.out)⟩
end Go.Proofs.Ytbelnopbggkdfaa.Q
end
