/- Check, of package gate and of the document. -/
import Derived.Test.YtmckaoeofikdaaaIdx
import Derived.Test.YtmckaoeofikdaaaKinds
namespace Go.Proofs.Ytmckaoeofikdaaa
open Go.RowKit Lift

theorem IsL.below {w w' : World} {a : Option Addr} {zs : List Int} (h : IsL w a zs) (hb : Below w.heap.size w w') : IsL w' a zs := by
  obtain ⟨h1, h2⟩ := h
  refine ⟨h1, ?_⟩
  rcases h2 with rfl | ⟨b, off, rfl, hc⟩
  · exact .inl rfl
  · refine .inr ⟨b, off, rfl, fun i hi => ?_⟩
    have := hc i hi
    exact (hb.cell (World.block_lt_of_cell? w _ this)).trans this

/-- A qubit that a gate may have there. -/
def okAt (zs : List Int) (n : Int) (i : Nat) : Prop := 0 ≤ zs.getD i 0 ∧ zs.getD i 0 < n ∧ (zs.take i).contains (zs.getD i 0) = false
instance (zs : List Int) (n : Int) (i : Nat) : Decidable (okAt zs n i) := by unfold okAt; infer_instance
def allOk (zs : List Int) (n : Int) : Prop := ∀ i, i < zs.length → okAt zs n i
open Classical in
noncomputable def checkF (k : Int) (zs : List Int) (n : Int) : Int := if arityF k = 0 then 60 else if (zs.length : Int) ≠ arityF k then 61 else if allOk zs n then 0 else 61
theorem checkF_none {k : Int} {zs : List Int} {n : Int} (h : arityF k = 0) : checkF k zs n = 60 := by unfold checkF; rw [if_pos h]
theorem checkF_len {k : Int} {zs : List Int} {n : Int} (h : arityF k ≠ 0) (h2 : (zs.length : Int) ≠ arityF k) : checkF k zs n = 61 := by unfold checkF; rw [if_neg h, if_pos h2]
theorem checkF_bad {k : Int} {zs : List Int} {n : Int} (h : arityF k ≠ 0) {i : Nat} (hi : i < zs.length) (h3 : ¬ okAt zs n i) : checkF k zs n = 61 := by
  unfold checkF
  rw [if_neg h]
  split
  · rfl
  · rw [if_neg fun h' => h3 (h' i hi)]
theorem checkF_ok {k : Int} {zs : List Int} {n : Int} (h : arityF k ≠ 0) (h2 : (zs.length : Int) = arityF k) (h3 : allOk zs n) : checkF k zs n = 0 := by
  unfold checkF
  rw [if_neg h, if_neg (by simpa using h2), if_pos h3]

theorem take_getD {zs : List Int} {i j : Nat} (h : j < i) : (zs.take i).getD j 0 = zs.getD j 0 := by
  rw [List.getD_eq_getElem?_getD, List.getD_eq_getElem?_getD, List.getElem?_take, if_pos h]

/-- A contract that makes memory, said of a world behind another. -/
theorem behind {P : Program} {f : FuncId} {args : Array Value} {v : Value} (h : ∀ w : World, Calls P f args w fun e w' => e = .returned v ∧ Below w.heap.size w w') (w w1 : World) (hb : Below w.heap.size w w1) :
    Calls P f args w1 fun e w' => e = .returned v ∧ Below w.heap.size w w' :=
  (h w1).mono fun _ _ ⟨he, hb'⟩ => ⟨he, hb.trans (hb'.mono hb.size)⟩

theorem contains_at (a : Option Addr) (len cap : Nat) (zs : List Int) (v : Int) (w : World) (h : IsL w a zs) (hl : zs.length = len) :
    Calls Try.prog 77 #[.slice a len cap, .int .i64 v] w fun e w' => e = .returned (.bool (zs.contains v)) ∧ w = w' := by
  subst hl; exact contains_any a cap zs v w h

set_option maxHeartbeats 1000000 in
theorem check_any (k : Int) (a : Option Addr) (len cap : Nat) (zs : List Int) (n : Int) (w : World) (hk : (Lit.int .i64 k).wf = true) (h : IsL w a zs) (hl : zs.length = len) (hcap : len ≤ cap) :
    Calls Try.prog 48 #[.int .i64 k, .slice a len cap, .int .i64 n] w fun e w' => e = .returned (.int .i64 (checkF k zs n)) ∧ Below w.heap.size w w' := by
  have hm := h.1
  rw [hl] at hm
  unfold maxLen at hm
  have ar := behind (fun w => arity_any k hk w) w
  have hb1 := Below.refl w.heap.size w
  have c1 := fun h => checkF_none (k := k) (zs := zs) (n := n) h
  have c2 := fun h h2 => checkF_len (k := k) (zs := zs) (n := n) h h2
  have c3 := fun h i hi h3 => checkF_bad (k := k) (zs := zs) (n := n) h (i := i) hi h3
  have c4 := fun h h2 h3 => checkF_ok (k := k) (zs := zs) (n := n) h h2 h3
  generalize checkF k zs n = R at c1 c2 c3 c4
  generalize arityF k = A at ar c1 c2 c3 c4
  rw [hl] at c2 c4
  by_cases ha : A = 0
  · have HR := Lib.hid (c1 ha)
    subst ha
    clear c1 c2 c3 c4
    go_enter Try.func48, Try.ntmps48
    go_wp2_with (go_at_call 25; refine (ar _ hb1).mono ?_; clear hb1; rintro e w1 ⟨rfl, hb1⟩)
    go_ret
    exact ⟨by rw [HR.out]; rfl, hb1⟩
  have ha' : (A == 0) = false := by simpa using ha
  by_cases h2 : (len : Int) = A
  case neg =>
    have HR := Lib.hid (c2 ha h2)
    have h2' : ((len : Int) == A) = false := by simpa using h2
    have h2'' : ((len : Int) != A) = true := by simpa using h2
    clear c1 c2 c3 c4 ha h2
    go_enter Try.func48, Try.ntmps48
    go_wp2_with (first | (go_at_call 25; refine (ar _ hb1).mono ?_; clear hb1; rintro e w1 ⟨rfl, hb1⟩))
    go_ret
    exact ⟨by rw [HR.out]; rfl, hb1⟩
  subst h2
  clear c1 c2
  have h2' : ((len : Int) != (len : Int)) = false := by simp
  have C3 := Lib.hid (c3 ha)
  have C4 := Lib.hid (c4 ha rfl)
  clear c3 c4 ha
  rcases h.2 with rfl | hne
  · simp only [List.length_nil] at hl
    subst hl
    simp at ha'
  have HC : Hid (∃ b off, a = some ⟨b, off, none⟩ ∧ ∀ i, i < zs.length → w.cell? ⟨b, off + i, none⟩ = some (.int .i64 (zs.getD i 0))) := Lib.hid hne
  have HL := Lib.hid h
  have Hl := Lib.hid hl
  clear hne h hl
  go_enter Try.func48, Try.ntmps48
  go_wp2_with (go_at_call 25; refine (ar _ hb1).mono ?_; clear hb1; rintro e w1 ⟨rfl, hb1⟩)
  have HL1 := Lib.hid (HL.out.below hb1)
  obtain ⟨b, off, rfl, hc⟩ := HC.out
  have HC1 : Hid (∀ i, i < zs.length → w1.cell? ⟨b, off + i, none⟩ = some (.int .i64 (zs.getD i 0))) := Lib.hid fun i hi => (hb1.cell (World.block_lt_of_cell? w _ (hc i hi))).trans (hc i hi)
  clear hc HC HL ar
  go_loop [7, 8, 19] (fun _ _ i => ∃ j : Nat, j ≤ len ∧ i = .int .i64 j ∧ Hid (∀ i, i < j → okAt zs n i)) (fun _ _ i => len - (intOf i).toNat)
  case atStart => exact ⟨0, Nat.zero_le _, rfl, Lib.hid fun j hj => by omega⟩
  case round =>
    obtain ⟨j, hj, rfl, HN⟩ := hrel
    by_cases hlt : j < len
    · have hcell := HC1.out j (by have := Hl.out; omega)
      obtain ⟨z, hz⟩ : ∃ z, zs.getD j 0 = z := ⟨_, rfl⟩
      rw [hz] at hcell
      have HT : IsL w1 (some ⟨b, off, none⟩) (zs.take j) := HL1.out.take j
      have HTl : (zs.take j).length = j := by rw [List.length_take, Hl.out]; omega
      have con := contains_at (some ⟨b, off, none⟩) j cap (zs.take j) z w1 HT HTl
      have hok : okAt zs n j ↔ 0 ≤ z ∧ z < n ∧ (zs.take j).contains z = false := by unfold okAt; rw [hz]
      have hjz : j < zs.length := by rw [Hl.out]; exact hlt
      have HB : Hid (¬ okAt zs n j → R = 61) := Lib.hid (C3.out j hjz)
      clear HT HTl hjz
      generalize (zs.take j).contains z = B at con hok
      have HK := Lib.hid hok
      have HZ := Lib.hid hz
      have CON := Lib.hid con
      clear hok hz con
      by_cases z0 : z < 0
      · have HR : Hid (R = 61) := Lib.hid (HB.out (by rw [HK.out]; omega))
        clear HB HK C3 C4
        go_wp2
        go_ret
        exact ⟨by rw [HR.out]; rfl, hb1⟩
      · by_cases zn : n ≤ z
        · have HR : Hid (R = 61) := Lib.hid (HB.out (by rw [HK.out]; omega))
          clear HB HK C3 C4
          go_wp2
          go_ret
          exact ⟨by rw [HR.out]; rfl, hb1⟩
        · cases B with
          | true =>
            have HR : Hid (R = 61) := Lib.hid (HB.out (by rw [HK.out]; simp))
            clear HB HK C3 C4
            go_wp2_with (go_at_call 77; refine CON.out.mono ?_; rintro e w2 ⟨rfl, rfl⟩)
            go_ret
            exact ⟨by rw [HR.out]; rfl, hb1⟩
          | false =>
            have HN' : Hid (∀ i, i < j + 1 → okAt zs n i) := Lib.hid fun i hi => by
              rcases Nat.lt_succ_iff_lt_or_eq.1 hi with h | h
              · exact HN.out i h
              · rw [h, HK.out]; exact ⟨by omega, by omega, rfl⟩
            clear HB HK HN
            go_wp2_with (go_at_call 77; refine CON.out.mono ?_; rintro e w2 ⟨rfl, rfl⟩)
            go_round
            case rel => exact ⟨j + 1, by omega, by go_num, HN'⟩
            case measure => simp [intOf]; omega
    · have HR : Hid (R = 0) := Lib.hid (C4.out fun i hi => HN.out i (by have := Hl.out; omega))
      clear HN C3 C4
      go_wp2
      go_ret
      exact ⟨by rw [HR.out]; rfl, hb1⟩
end Go.Proofs.Ytmckaoeofikdaaa
