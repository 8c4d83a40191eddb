/- Commute: the refusals; both functions at whatever arguments. -/
import Derived.Test.YtmckaoeofikdaaaCommR
import Derived.Laws.AppendOwnNone
namespace Go.Proofs.Ytmckaoeofikdaaa
open Go.RowKit Lift

set_option maxHeartbeats 2000000 in
set_option maxRecDepth 100000 in
theorem commute_60 (k1 k2 : Int) (s1 s2 : Value) (w : World) (fa : Int → Int)
    (ra : ∀ k w, k = k1 ∨ k = k2 → Calls Try.prog 25 #[.int .i64 k] w fun e w' => e = .returned (.int .i64 (fa k)) ∧ Below w.heap.size w w')
    (h : (fa k1 == 0 || fa k2 == 0) = true) :
    Calls Try.prog 50 #[.int .i64 k1, s1, .int .i64 k2, s2] w fun e w' => e = .returned (.tuple #[.bool false, .int .i64 60]) ∧ Below w.heap.size w w' := by
  have hb1 := Below.refl w.heap.size w
  cases e1 : (fa k1 == 0) with
  | true =>
    clear h
    go_enter Try.func50, Try.ntmps50
    go_wp2_with (go_at_call 25; refine (ra _ _ (by first | exact .inl rfl | exact .inr rfl)).mono ?_; rintro e w1 ⟨rfl, hb2⟩; replace hb1 := bchain hb1 hb2; clear hb2)
    go_ret2
    exact ⟨rfl, hb1⟩
  | false =>
    have e2 : (fa k2 == 0) = true := by rw [e1] at h; simpa using h
    clear h
    go_enter Try.func50, Try.ntmps50
    go_wp2_with (go_at_call 25; refine (ra _ _ (by first | exact .inl rfl | exact .inr rfl)).mono ?_; rintro e w1 ⟨rfl, hb2⟩; replace hb1 := bchain hb1 hb2; clear hb2)
    go_ret2
    exact ⟨rfl, hb1⟩

set_option maxHeartbeats 2000000 in
set_option maxRecDepth 100000 in
theorem rcommute_60 (k1 k2 : Int) (s1 s2 : Value) (w : World) (fi : Int → Bool)
    (is : ∀ k w, k = k1 ∨ k = k2 → Calls Try.prog 66 #[.int .i64 k] w fun e w' => e = .returned (.bool (fi k)) ∧ Below w.heap.size w w')
    (h : (!fi k1 || !fi k2) = true) :
    Calls Try.prog 51 #[.int .i64 k1, s1, .int .i64 k2, s2] w fun e w' => e = .returned (.tuple #[.bool false, .int .i64 60]) ∧ Below w.heap.size w w' := by
  have hb1 := Below.refl w.heap.size w
  cases e1 : fi k1 with
  | false =>
    clear h
    go_enter Try.func51, Try.ntmps51
    go_wp2_with (go_at_call 66; refine (is _ _ (by first | exact .inl rfl | exact .inr rfl)).mono ?_; rintro e w1 ⟨rfl, hb2⟩; replace hb1 := bchain hb1 hb2; clear hb2)
    go_ret2
    exact ⟨rfl, hb1⟩
  | true =>
    have e2 : fi k2 = false := by rw [e1] at h; simpa using h
    clear h
    go_enter Try.func51, Try.ntmps51
    go_wp2_with (go_at_call 66; refine (is _ _ (by first | exact .inl rfl | exact .inr rfl)).mono ?_; rintro e w1 ⟨rfl, hb2⟩; replace hb1 := bchain hb1 hb2; clear hb2)
    go_ret2
    exact ⟨rfl, hb1⟩

set_option maxHeartbeats 4000000 in
set_option maxRecDepth 100000 in
theorem commute_61 (k1 k2 : Int) (a1 a2 : Option Addr) (l1 c1 l2 c2 : Nat) (w : World) (fa : Int → Int) (B1 B2 : Bool)
    (ra : ∀ k w, k = k1 ∨ k = k2 → Calls Try.prog 25 #[.int .i64 k] w fun e w' => e = .returned (.int .i64 (fa k)) ∧ Below w.heap.size w w')
    (h1 : (fa k1 == 0) = false) (h2 : (fa k2 == 0) = false)
    (ap1 : (l1 : Int) = fa k1 → ∀ wx, Below w.heap.size w wx → Calls Try.prog 78 #[.slice a1 l1 c1] wx fun e w' => e = .returned (.bool B1) ∧ wx = w')
    (ap2 : (l2 : Int) = fa k2 → ∀ wx, Below w.heap.size w wx → Calls Try.prog 78 #[.slice a2 l2 c2] wx fun e w' => e = .returned (.bool B2) ∧ wx = w')
    (h : ((l1 : Int) != fa k1 || (l2 : Int) != fa k2 || !B1 || !B2) = true) :
    Calls Try.prog 50 #[.int .i64 k1, .slice a1 l1 c1, .int .i64 k2, .slice a2 l2 c2] w fun e w' => e = .returned (.tuple #[.bool false, .int .i64 61]) ∧ Below w.heap.size w w' := by
  have hb1 := Below.refl w.heap.size w
  cases e1 : ((l1 : Int) != fa k1) with
  | true =>
    clear h ap1 ap2
    go_enter Try.func50, Try.ntmps50
    go_wp2_with (go_at_call 25; refine (ra _ _ (by first | exact .inl rfl | exact .inr rfl)).mono ?_; rintro e w1 ⟨rfl, hb2⟩; replace hb1 := bchain hb1 hb2; clear hb2)
    go_ret2
    exact ⟨rfl, hb1⟩
  | false =>
    have at1 := ap1 (by simpa using e1)
    cases e2 : ((l2 : Int) != fa k2) with
    | true =>
      clear h ap1 ap2
      go_enter Try.func50, Try.ntmps50
      go_wp2_with (go_at_call 25; refine (ra _ _ (by first | exact .inl rfl | exact .inr rfl)).mono ?_; rintro e w1 ⟨rfl, hb2⟩; replace hb1 := bchain hb1 hb2; clear hb2)
      go_ret2
      exact ⟨rfl, hb1⟩
    | false =>
      have at2 := ap2 (by simpa using e2)
      clear ap1 ap2
      cases B1 with
      | false =>
        clear h at2
        go_enter Try.func50, Try.ntmps50
        go_wp2_with (first | (go_at_call 25; refine (ra _ _ (by first | exact .inl rfl | exact .inr rfl)).mono ?_; rintro e w1 ⟨rfl, hb2⟩; replace hb1 := bchain hb1 hb2; clear hb2) | (go_at_call 78; with_reducible (refine (at1 _ hb1).mono ?_); rintro e w1 ⟨rfl, rfl⟩))
        go_ret2
        exact ⟨rfl, hb1⟩
      | true =>
        have hB2 : B2 = false := by rw [e1, e2] at h; simpa using h
        subst hB2
        clear h
        go_enter Try.func50, Try.ntmps50
        go_wp2_with (first | (go_at_call 25; refine (ra _ _ (by first | exact .inl rfl | exact .inr rfl)).mono ?_; rintro e w1 ⟨rfl, hb2⟩; replace hb1 := bchain hb1 hb2; clear hb2) | (go_at_call 78; with_reducible (refine (at1 _ hb1).mono ?_); rintro e w1 ⟨rfl, rfl⟩) | (go_at_call 78; with_reducible (refine (at2 _ hb1).mono ?_); rintro e w1 ⟨rfl, rfl⟩))
        go_ret2
        exact ⟨rfl, hb1⟩

set_option maxHeartbeats 4000000 in
set_option maxRecDepth 100000 in
theorem rcommute_61 (k1 k2 : Int) (a1 a2 : Option Addr) (l1 c1 l2 c2 : Nat) (w : World) (fa : Int → Int) (B1 B2 : Bool)
    (is : ∀ k w, k = k1 ∨ k = k2 → Calls Try.prog 66 #[.int .i64 k] w fun e w' => e = .returned (.bool true) ∧ Below w.heap.size w w')
    (ra : ∀ k w, k = k1 ∨ k = k2 → Calls Try.prog 26 #[.int .i64 k] w fun e w' => e = .returned (.int .i64 (fa k)) ∧ Below w.heap.size w w')
    (ap1 : (l1 : Int) = fa k1 → ∀ wx, Below w.heap.size w wx → Calls Try.prog 82 #[.slice a1 l1 c1] wx fun e w' => e = .returned (.bool B1) ∧ Drawn wx w')
    (ap2 : (l2 : Int) = fa k2 → ∀ wx, Below w.heap.size w wx → Calls Try.prog 82 #[.slice a2 l2 c2] wx fun e w' => e = .returned (.bool B2) ∧ Drawn wx w')
    (h : ((l1 : Int) != fa k1 || (l2 : Int) != fa k2 || !B1 || !B2) = true) :
    Calls Try.prog 51 #[.int .i64 k1, .slice a1 l1 c1, .int .i64 k2, .slice a2 l2 c2] w fun e w' => e = .returned (.tuple #[.bool false, .int .i64 61]) ∧ Below w.heap.size w w' := by
  have hb1 := Below.refl w.heap.size w
  cases e1 : ((l1 : Int) != fa k1) with
  | true =>
    clear h ap1 ap2
    go_enter Try.func51, Try.ntmps51
    go_wp2_with (first | (go_at_call 66; refine (is _ _ (by first | exact .inl rfl | exact .inr rfl)).mono ?_; rintro e w1 ⟨rfl, hb2⟩; replace hb1 := bchain hb1 hb2; clear hb2) | (go_at_call 26; refine (ra _ _ (by first | exact .inl rfl | exact .inr rfl)).mono ?_; rintro e w1 ⟨rfl, hb2⟩; replace hb1 := bchain hb1 hb2; clear hb2))
    go_ret2
    exact ⟨rfl, hb1⟩
  | false =>
    have at1 := ap1 (by simpa using e1)
    cases e2 : ((l2 : Int) != fa k2) with
    | true =>
      clear h ap1 ap2
      go_enter Try.func51, Try.ntmps51
      go_wp2_with (first | (go_at_call 66; refine (is _ _ (by first | exact .inl rfl | exact .inr rfl)).mono ?_; rintro e w1 ⟨rfl, hb2⟩; replace hb1 := bchain hb1 hb2; clear hb2) | (go_at_call 26; refine (ra _ _ (by first | exact .inl rfl | exact .inr rfl)).mono ?_; rintro e w1 ⟨rfl, hb2⟩; replace hb1 := bchain hb1 hb2; clear hb2))
      go_ret2
      exact ⟨rfl, hb1⟩
    | false =>
      have at2 := ap2 (by simpa using e2)
      clear ap1 ap2
      cases B1 with
      | false =>
        clear h at2
        go_enter Try.func51, Try.ntmps51
        go_wp2_with (first | (go_at_call 66; refine (is _ _ (by first | exact .inl rfl | exact .inr rfl)).mono ?_; rintro e w1 ⟨rfl, hb2⟩; replace hb1 := bchain hb1 hb2; clear hb2) | (go_at_call 26; refine (ra _ _ (by first | exact .inl rfl | exact .inr rfl)).mono ?_; rintro e w1 ⟨rfl, hb2⟩; replace hb1 := bchain hb1 hb2; clear hb2) | (go_at_call 82; with_reducible (refine (at1 _ hb1).mono ?_); rintro e w1 ⟨rfl, hd⟩; replace hb1 := bchain hb1 hd.below; clear hd))
        go_ret2
        exact ⟨rfl, hb1⟩
      | true =>
        have hB2 : B2 = false := by rw [e1, e2] at h; simpa using h
        subst hB2
        clear h
        go_enter Try.func51, Try.ntmps51
        go_wp2_with (first | (go_at_call 66; refine (is _ _ (by first | exact .inl rfl | exact .inr rfl)).mono ?_; rintro e w1 ⟨rfl, hb2⟩; replace hb1 := bchain hb1 hb2; clear hb2) | (go_at_call 26; refine (ra _ _ (by first | exact .inl rfl | exact .inr rfl)).mono ?_; rintro e w1 ⟨rfl, hb2⟩; replace hb1 := bchain hb1 hb2; clear hb2) | (go_at_call 82; with_reducible (refine (at1 _ hb1).mono ?_); rintro e w1 ⟨rfl, hd⟩; replace hb1 := bchain hb1 hd.below; clear hd) | (go_at_call 82; with_reducible (refine (at2 _ hb1).mono ?_); rintro e w1 ⟨rfl, hd⟩; replace hb1 := bchain hb1 hd.below; clear hd))
        go_ret2
        exact ⟨rfl, hb1⟩

/-! Commute at whatever arguments: one answer from both. -/
def commuteF (k1 : Int) (zs1 : List Int) (k2 : Int) (zs2 : List Int) : Bool × Int :=
  if arityF k1 = 0 ∨ arityF k2 = 0 then (false, 60)
  else if (zs1.length : Int) = arityF k1 ∧ (zs2.length : Int) = arityF k2 ∧ apartF zs1 = true ∧ apartF zs2 = true then (commF k1 k2 zs1 zs2, 0)
  else (false, 61)

theorem isL_cells {w : World} {a : Option Addr} {zs : List Int} (h : IsL w a zs) (hp : 0 < zs.length) : ∃ b off, a = some ⟨b, off, none⟩ ∧ ∀ i, i < zs.length → w.cell? ⟨b, off + i, none⟩ = some (.int .i64 (zs.getD i 0)) := by
  rcases h.2 with rfl | h
  · simp at hp
  · exact h
theorem apart_isL (a : Option Addr) (len cap : Nat) (zs : List Int) (w : World) (h : IsL w a zs) (hl : zs.length = len) (hp : 0 < len) (hcap : len ≤ cap) (wx : World) (hb : Below w.heap.size w wx) :
    Calls Try.prog 78 #[.slice a len cap] wx fun e w' => e = .returned (.bool (apartF zs)) ∧ wx = w' := by
  obtain ⟨b, off, rfl, hc⟩ := isL_cells h (by omega)
  exact apart_any b off len cap zs wx h.1 (fun i hi => (hb.cell (World.block_lt_of_cell? w _ (hc i hi))).trans (hc i hi)) hl hcap
theorem rapart_isL (a : Option Addr) (len cap : Nat) (zs : List Int) (w : World) (h : IsL w a zs) (hl : zs.length = len) (hp : 0 < len) (wx : World) (hb : Below w.heap.size w wx) :
    Calls Try.prog 82 #[.slice a len cap] wx fun e w' => e = .returned (.bool (apartF zs)) ∧ Drawn wx w' := by
  obtain ⟨b, off, rfl, hc⟩ := isL_cells h (by omega)
  exact rapart_any b off len cap zs wx h.1 (fun i hi => (hb.cell (World.block_lt_of_cell? w _ (hc i hi))).trans (hc i hi)) hl
theorem side_pow {k : Int} {l : Nat} (h : (l : Int) = arityF k) (hp : 0 < l) : 2 ^ l = sideF k := by
  rw [side_arity k, ← h, if_neg (by omega), Int.toNat_natCast]

theorem commute_any (k1 k2 : Int) (a1 a2 : Option Addr) (l1 c1 l2 c2 : Nat) (zs1 zs2 : List Int) (w : World) (hk1 : (Lit.int .i64 k1).wf = true) (hk2 : (Lit.int .i64 k2).wf = true)
    (h1 : IsL w a1 zs1) (h2 : IsL w a2 zs2) (hl1 : zs1.length = l1) (hl2 : zs2.length = l2) (hc1 : l1 ≤ c1) (hc2 : l2 ≤ c2) :
    Calls Try.prog 50 #[.int .i64 k1, .slice a1 l1 c1, .int .i64 k2, .slice a2 l2 c2] w fun e w' => e = .returned (.tuple #[.bool (commuteF k1 zs1 k2 zs2).1, .int .i64 (commuteF k1 zs1 k2 zs2).2]) ∧ Below w.heap.size w w' := by
  have hw : ∀ k, k = k1 ∨ k = k2 → (Lit.int .i64 k).wf = true := fun k h => by rcases h with rfl | rfl <;> assumption
  have ra := fun k w h => arity_any k (hw k h) w
  by_cases hz : arityF k1 = 0 ∨ arityF k2 = 0
  · have e : commuteF k1 zs1 k2 zs2 = (false, 60) := if_pos hz
    rw [e]
    refine commute_60 k1 k2 _ _ w arityF ra ?_
    rcases hz with hz | hz <;> simp [hz]
  have n1 : ¬ arityF k1 = 0 := fun h => hz (.inl h)
  have n2 : ¬ arityF k2 = 0 := fun h => hz (.inr h)
  by_cases hok : (zs1.length : Int) = arityF k1 ∧ (zs2.length : Int) = arityF k2 ∧ apartF zs1 = true ∧ apartF zs2 = true
  · have e : commuteF k1 zs1 k2 zs2 = (commF k1 k2 zs1 zs2, 0) := by unfold commuteF; rw [if_neg hz, if_pos hok]
    rw [e]
    obtain ⟨e1, e2, t1, t2⟩ := hok
    subst hl1
    subst hl2
    have p1 : 0 < zs1.length := by omega
    have p2 : 0 < zs2.length := by omega
    have q1 : zs1.length ≤ 3 := by rcases arity_range k1 with h | h | h | h <;> omega
    have q2 : zs2.length ≤ 3 := by rcases arity_range k2 with h | h | h | h <;> omega
    obtain ⟨b1, f1, rfl, z1⟩ := isL_cells h1 p1
    obtain ⟨b2, f2, rfl, z2⟩ := isL_cells h2 p2
    have r1 := isF_in (k := k1) (by rw [is_arity]; simpa using n1)
    have r2 := isF_in (k := k2) (by rw [is_arity]; simpa using n2)
    refine commute_main k1 k2 b1 f1 c1 b2 f2 c2 zs1.length zs2.length zs1 zs2 (sideF k1) (sideF k2) (matF k1) (matF k2) w rfl rfl p1 p2 q1 q2 hc1 hc2 (side_pow e1 p1) (side_pow e2 p2) z1 z2 t1 t2 (fun w => ?_) (fun w => ?_) (fun w => matrix_any k1 r1.1 r1.2 w) (fun w => matrix_any k2 r2.1 r2.2 w) (matF_small k1) (matF_small k2)
    · have := ra k1 w (.inl rfl); rw [← e1] at this; exact this
    · have := ra k2 w (.inr rfl); rw [← e2] at this; exact this
  · have e : commuteF k1 zs1 k2 zs2 = (false, 61) := by unfold commuteF; rw [if_neg hz, if_neg hok]
    rw [e]
    refine commute_61 k1 k2 a1 a2 l1 c1 l2 c2 w arityF (apartF zs1) (apartF zs2) ra (by simpa using n1) (by simpa using n2) (fun h wx hb => apart_isL a1 l1 c1 zs1 w h1 hl1 (by omega) hc1 wx hb) (fun h wx hb => apart_isL a2 l2 c2 zs2 w h2 hl2 (by omega) hc2 wx hb) ?_
    rw [hl1, hl2] at hok
    by_cases e1 : (l1 : Int) = arityF k1
    · by_cases e2 : (l2 : Int) = arityF k2
      · cases t1 : apartF zs1 with
        | false => simp
        | true =>
          cases t2 : apartF zs2 with
          | false => simp
          | true => exact absurd ⟨e1, e2, t1, t2⟩ hok
      · simp [e2]
    · simp [e1]

theorem rcommute_any (k1 k2 : Int) (a1 a2 : Option Addr) (l1 c1 l2 c2 : Nat) (zs1 zs2 : List Int) (w : World) (hk1 : (Lit.int .i64 k1).wf = true) (hk2 : (Lit.int .i64 k2).wf = true)
    (h1 : IsL w a1 zs1) (h2 : IsL w a2 zs2) (hl1 : zs1.length = l1) (hl2 : zs2.length = l2) :
    Calls Try.prog 51 #[.int .i64 k1, .slice a1 l1 c1, .int .i64 k2, .slice a2 l2 c2] w fun e w' => e = .returned (.tuple #[.bool (commuteF k1 zs1 k2 zs2).1, .int .i64 (commuteF k1 zs1 k2 zs2).2]) ∧ Below w.heap.size w w' := by
  have hw : ∀ k, k = k1 ∨ k = k2 → (Lit.int .i64 k).wf = true := fun k h => by rcases h with rfl | rfl <;> assumption
  have ra := fun k w h => rarity_any k (hw k h) w
  have is := fun k w h => is_any k (hw k h) w
  by_cases hz : arityF k1 = 0 ∨ arityF k2 = 0
  · have e : commuteF k1 zs1 k2 zs2 = (false, 60) := if_pos hz
    rw [e]
    refine rcommute_60 k1 k2 _ _ w isF is ?_
    rcases hz with hz | hz <;> simp [is_arity, hz]
  have n1 : ¬ arityF k1 = 0 := fun h => hz (.inl h)
  have n2 : ¬ arityF k2 = 0 := fun h => hz (.inr h)
  have f1' : isF k1 = true := by rw [is_arity]; simpa using n1
  have f2' : isF k2 = true := by rw [is_arity]; simpa using n2
  have is' : ∀ k w, k = k1 ∨ k = k2 → Calls Try.prog 66 #[.int .i64 k] w fun e w' => e = .returned (.bool true) ∧ Below w.heap.size w w' := fun k w h => by
    have := is k w h
    rw [show isF k = true by rcases h with rfl | rfl <;> assumption] at this
    exact this
  by_cases hok : (zs1.length : Int) = arityF k1 ∧ (zs2.length : Int) = arityF k2 ∧ apartF zs1 = true ∧ apartF zs2 = true
  · have e : commuteF k1 zs1 k2 zs2 = (commF k1 k2 zs1 zs2, 0) := by unfold commuteF; rw [if_neg hz, if_pos hok]
    rw [e]
    obtain ⟨e1, e2, t1, t2⟩ := hok
    subst hl1
    subst hl2
    have p1 : 0 < zs1.length := by omega
    have p2 : 0 < zs2.length := by omega
    have q1 : zs1.length ≤ 3 := by rcases arity_range k1 with h | h | h | h <;> omega
    have q2 : zs2.length ≤ 3 := by rcases arity_range k2 with h | h | h | h <;> omega
    obtain ⟨b1, f1, rfl, z1⟩ := isL_cells h1 p1
    obtain ⟨b2, f2, rfl, z2⟩ := isL_cells h2 p2
    have r1 := isF_in f1'
    have r2 := isF_in f2'
    refine rcommute_main k1 k2 b1 f1 c1 b2 f2 c2 zs1.length zs2.length zs1 zs2 (sideF k1) (sideF k2) (matF k1) (matF k2) w rfl rfl p1 p2 q1 q2 (side_pow e1 p1) (side_pow e2 p2) z1 z2 t1 t2 is' (fun w => ?_) (fun w => ?_) (fun w => rmatrix_any k1 r1.1 r1.2 w) (fun w => rmatrix_any k2 r2.1 r2.2 w) (matF_small k1) (matF_small k2)
    · have := ra k1 w (.inl rfl); rw [← e1] at this; exact this
    · have := ra k2 w (.inr rfl); rw [← e2] at this; exact this
  · have e : commuteF k1 zs1 k2 zs2 = (false, 61) := by unfold commuteF; rw [if_neg hz, if_neg hok]
    rw [e]
    refine rcommute_61 k1 k2 a1 a2 l1 c1 l2 c2 w arityF (apartF zs1) (apartF zs2) is' ra (fun h wx hb => rapart_isL a1 l1 c1 zs1 w h1 hl1 (by omega) wx hb) (fun h wx hb => rapart_isL a2 l2 c2 zs2 w h2 hl2 (by omega) wx hb) ?_
    rw [hl1, hl2] at hok
    by_cases e1 : (l1 : Int) = arityF k1
    · by_cases e2 : (l2 : Int) = arityF k2
      · cases t1 : apartF zs1 with
        | false => simp
        | true =>
          cases t2 : apartF zs2 with
          | false => simp
          | true => exact absurd ⟨e1, e2, t1, t2⟩ hok
      · simp [e2]
    · simp [e1]

/-! The law GateCommutes, walked. -/
theorem append_both {w : World} {ops : Array Oper} {rest : List Oper} {o : Oper} {a : Act} {Q : Exit → Act → World → Prop} (hgd : o.guard = none) (s x : Operand)
    (ho : o.op = .call { callee := .builtin .append, args := #[s, x], argTypes := #[60, 60] })
    (base : Nat) (v : Value) (n : Nat) (xs : List Value) (hs : a.eval s = v) (hown : w.ownsRow base 3 1 v n xs)
    (ad : Option Addr) (m c : Nat) (news : List Value) (hx : a.eval x = .slice ad m c) (hnone : ad = none → m = 0 ∧ c = 0) (hl : news.length = m) (hnews : ∀ y, ad = some y → ∀ j u, news[j]? = some u → w.cell? (y.add j) = some u) (h1 : ∀ u ∈ news, u.oneCell' = true)
    (hbytes : (n + m) * 8 ≤ 140737488355328) (hbase : base ≤ w.heap.size)
    (h : ∀ v' w', w'.ownsRow base 3 1 v' (n + m) (xs ++ news) → w.grownBy w' v.ownBlock → wpList Try.prog ops Q rest (a.put o.dst v') w') : wpList Try.prog ops Q (o :: rest) a w := by
  obtain ⟨i0, hi, hz0, hz1, hz2⟩ := info_parts infoInt
  cases ad with
  | none =>
    obtain ⟨rfl, rfl⟩ := hnone rfl
    have hn : news = [] := List.length_eq_zero_iff.1 hl
    subst hn
    refine wpList_append_own_none hgd s x _ ho base 3 i0 1 Try.underlying60 hi v n xs hs hown hx (h v w (by simpa using hown) (World.grownBy.refl _ _))
  | some y =>
    exact wpList_append_own w hgd s x _ ho base 3 i0 (.int .i64 0) 1 8 Try.underlying60 hi hz0 hz1 hz2 rfl (by decide) v n xs hs hown y m c news hx (by simpa using hl) (hnews y rfl) h1 (by simp only [maxLen]; omega) hbytes hbase fun v' w' g1 g2 _ => h v' w' g1 g2

theorem isL_news {w : World} {a : Option Addr} {zs : List Int} (h : IsL w a zs) : ∀ y, a = some y → ∀ j u, (zs.map (Value.int .i64))[j]? = some u → w.cell? (y.add j) = some u := fun y hy j u hu => by
  rw [List.getElem?_map] at hu
  have hj : j < zs.length := by
    rcases Nat.lt_or_ge j zs.length with h | h
    · exact h
    · rw [List.getElem?_eq_none h] at hu; cases hu
  obtain ⟨b, off, rfl, hc⟩ := isL_cells h (by omega)
  cases hy
  have hadd : (⟨b, off, none⟩ : Addr).add j = ⟨b, off + j, none⟩ := by unfold Addr.add; split <;> simp_all
  rw [hadd, hc j hj]
  rw [List.getElem?_eq_getElem hj] at hu
  rw [List.getD_eq_getElem?_getD, List.getElem?_eq_getElem hj]
  simpa using hu
theorem ints_one (zs : List Int) : ∀ u ∈ zs.map (Value.int .i64), u.oneCell' = true := fun u hu => by
  obtain ⟨z, _, rfl⟩ := List.mem_map.1 hu
  rfl

theorem owns_form {w : World} {B : Nat} {v : Value} {n : Nat} {xs : List Value} (h : w.ownsRow B 3 1 v n xs) : ∃ a c, v = .slice a n c ∧ n ≤ c := by
  rcases h.2 with ⟨rfl, rfl⟩ | ⟨g, cap, cur, rfl, _, _, hc, _⟩
  · exact ⟨none, 0, rfl, Nat.le_refl _⟩
  · exact ⟨_, _, rfl, hc⟩

set_option maxHeartbeats 4000000 in
set_option maxRecDepth 100000 in
theorem commutes_walk (k1 k2 : Int) (a1 a2 : Option Addr) (l1 c1 l2 c2 : Nat) (zs1 zs2 : List Int) (w : World) (hk1 : (Lit.int .i64 k1).wf = true) (hk2 : (Lit.int .i64 k2).wf = true)
    (h1 : IsL w a1 zs1) (h2 : IsL w a2 zs2) (hl1 : zs1.length = l1) (hl2 : zs2.length = l2) (n1 : a1 = none → l1 = 0 ∧ c1 = 0) (n2 : a2 = none → l2 = 0 ∧ c2 = 0) (g1 : l1 * 8 ≤ 140737488351232) (g2 : l2 * 8 ≤ 140737488351232) :
    Calls Try.prog 10 #[.int .i64 k1, .slice a1 l1 c1, .int .i64 k2, .slice a2 l2 c2] w fun e w' => e = .returned (.bool true) ∧ Below w.heap.size w w' := by
  have H1 := Lib.hid h1
  have H2 := Lib.hid h2
  have Hl1 := Lib.hid hl1
  have Hl2 := Lib.hid hl2
  clear h1 h2 hl1 hl2
  go_enter Try.func10, Try.ntmps10
  go_upto_region 1 with fail
  go_wp2_with (at_builtin; refine append_both rfl _ _ rfl w.heap.size _ 0 [] rfl (World.ownsRow_made w #[] 0 (Nat.le_refl _) (by decide) rfl) a1 l1 c1 (zs1.map (.int .i64)) rfl n1 ?e1 ?e2 (ints_one zs1) ?e3 ?e4 ?_)
  case e1 => simpa using Hl1.out
  case e2 => exact isL_news (H1.out.below ((Below.refl _ _).alloc (Nat.le_refl _) _))
  case e3 => omega
  case e4 => simp
  intro v1 w1 r1 r2
  have b1 : Below w.heap.size w w1 := ((Below.refl _ _).alloc (Nat.le_refl _) _).grown r2 (by simp) (fun k hk => by
    have : k = w.heap.size := by simpa [Value.ownBlock] using hk.symm
    omega)
  obtain ⟨x1, d1, rfl, hd1⟩ := owns_form r1
  have R1 := Lib.hid r1
  have B1 := Lib.hid b1
  clear r1 r2 b1
  go_upto_region 2 with fail
  go_wp2_with (at_builtin; refine append_both rfl _ _ rfl w1.heap.size _ 0 [] rfl (World.ownsRow_made w1 #[] 0 (Nat.le_refl _) (by decide) rfl) a2 l2 c2 (zs2.map (.int .i64)) rfl n2 ?e1 ?e2 (ints_one zs2) ?e3 ?e4 ?_)
  case e1 => simpa using Hl2.out
  case e2 => exact isL_news ((H2.out.below B1.out).below ((Below.refl _ _).alloc (Nat.le_refl _) _))
  case e3 => omega
  case e4 => simp
  intro v2 w2 r1 r2
  have b2 : Below w1.heap.size w1 w2 := ((Below.refl _ _).alloc (Nat.le_refl _) _).grown r2 (by simp) (fun k hk => by
    have : k = w1.heap.size := by simpa [Value.ownBlock] using hk.symm
    omega)
  obtain ⟨x2, d2, rfl, hd2⟩ := owns_form r1
  have hm1 : l1 ≤ maxLen := by simp only [maxLen]; omega
  have hm2 : l2 ≤ maxLen := by simp only [maxLen]; omega
  have X1 := Lib.hid ((owns_isL R1.out hm1).1.below b2)
  have X2 := Lib.hid (owns_isL r1 hm2).1
  have bb := bchain B1.out b2
  have Y1 := Lib.hid (H1.out.below bb)
  have Y2 := Lib.hid (H2.out.below bb)
  have BB := Lib.hid bb
  clear r1 r2 b2 bb B1 R1 H1 H2
  have cc := Lib.hid (commute_any k1 k2 x1 x2 l1 d1 l2 d2 zs1 zs2 w2 hk1 hk2 X1.out X2.out Hl1.out Hl2.out hd1 hd2)
  have rc := Lib.hid (fun wx (hb : Below w2.heap.size w2 wx) => rcommute_any k1 k2 a1 a2 l1 c1 l2 c2 zs1 zs2 wx hk1 hk2 (Y1.out.below hb) (Y2.out.below hb) Hl1.out Hl2.out)
  generalize commuteF k1 zs1 k2 zs2 = RR at cc rc
  obtain ⟨R, E⟩ := RR
  go_upto_region 4 with (go_at_call 50; refine cc.out.mono ?_; rintro e w3 ⟨rfl, hb3⟩)
  go_upto_region 5 with (go_at_call 51; refine (rc.out _ hb3).mono ?_; rintro e w4 ⟨rfl, hb4⟩)
  have hb24 := hb3.trans (hb4.mono hb3.size)
  have Z1 := Lib.hid (X1.out.below hb24)
  have Z2 := Lib.hid (Y1.out.below hb24)
  have BB4 := Lib.hid (bchain BB.out hb24)
  clear hb3 hb4 hb24 cc rc X1 X2 Y1 Y2 BB
  go_wp2
  go_loopw [15] (fun i wr => ∃ k : Nat, k ≤ l1 ∧ i = .int .i64 k ∧ Drawn w4 wr) (fun i _ => l1 - (intOf i).toNat)
  case atStart => exact ⟨0, Nat.zero_le _, rfl, Drawn.refl _⟩
  case round =>
    obtain ⟨k, hk, rfl, hd⟩ := hrel
    obtain ⟨w5, rfl⟩ : ∃ w5 : World, w5 = wr := ⟨_, rfl⟩
    have Hd := Lib.hid hd
    by_cases hlt : k < l1
    · obtain ⟨b, off, rfl, z1⟩ := isL_cells Z1.out (by rw [Hl1.out]; omega)
      obtain ⟨b', off', rfl, z2⟩ := isL_cells Z2.out (by rw [Hl1.out]; omega)
      have s1 := (hd.cell _).trans (z1 k (by rw [Hl1.out]; exact hlt))
      have s2 := (hd.cell _).trans (z2 k (by rw [Hl1.out]; exact hlt))
      generalize zs1.getD k 0 = z at s1 s2
      clear z1 z2 hd Z1 Z2 n1 n2
      have hne : ((z : Int) != z) = false := by simp
      go_wp2
      go_quiet (fail)
      go_wp2
      go_roundw
      case rel => exact ⟨k + 1, by omega, by go_num, Drawn.drewN Hd.out⟩
      case measure => simp [intOf]; omega
    · clear hd
      go_wp2_with (first | (go_at_call 19; refine (num_any _ _).mono ?_; rintro e w' ⟨rfl, rfl⟩) | (go_at_call 39; refine (alive_calls _).mono ?_; rintro e w6 ⟨rfl, hb6⟩))
      go_ret
      exact ⟨rfl, bchain (bchain BB4.out Hd.out.below) hb6⟩
theorem IsRow.none_len {w : World} {a : Option Addr} {len cap : Nat} {zs : List Int} (h : IsRow .i64 w a len cap zs) : a = none → len = 0 ∧ cap = 0 := fun ha => by
  rcases h with ⟨_, h1, h2, _⟩ | ⟨x, hx, _⟩
  · exact ⟨h1, h2⟩
  · rw [ha] at hx; cases hx
theorem commutes_row (k1 : Int) (a1 : Option Addr) (l1 c1 : Nat) (zs1 : List Int) (k2 : Int) (a2 : Option Addr) (l2 c2 : Nat) (zs2 : List Int) (w : World) (hk1 : (Lit.int .i64 k1).wf = true) (h1 : IsRow .i64 w a1 l1 c1 zs1) (g1 : l1 * 8 ≤ 140737488351232) (hk2 : (Lit.int .i64 k2).wf = true)
    (h2 : IsRow .i64 w a2 l2 c2 zs2) (g2 : l2 * 8 ≤ 140737488351232) :
    Calls Try.prog 10 #[.int .i64 k1, .slice a1 l1 c1, .int .i64 k2, .slice a2 l2 c2] w fun e w' => e = .returned (.bool true) ∧ Below w.heap.size w w' :=
  commutes_walk k1 k2 a1 a2 l1 c1 l2 c2 (zs1.take l1) (zs2.take l2) w hk1 hk2 h1.isL.1 h2.isL.1 h1.isL.2.1 h2.isL.2.1 h1.none_len h2.none_len g1 g2
end Go.Proofs.Ytmckaoeofikdaaa
