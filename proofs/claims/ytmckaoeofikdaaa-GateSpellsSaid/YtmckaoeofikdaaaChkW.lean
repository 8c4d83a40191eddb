/- The law GateChecks, walked. -/
import Derived.Test.YtmckaoeofikdaaaChkR
namespace Go.Proofs.Ytmckaoeofikdaaa
open Go.RowKit Lift

theorem alive_calls (w : World) : Calls Try.prog 39 #[] w fun e w' => e = .returned (.bool true) ∧ Below w.heap.size w w' := by
  refine (@alive_good noS env0 w w.heap.size (HRel.empty env0 w)).mono fun e w' he => ?_
  cases e with
  | returned r =>
    obtain ⟨ρ', rfl, _, _, hB, _⟩ := he
    exact ⟨rfl, hB⟩
  | _ => exact he.elim

theorem num_any (x : Int) (w : World) : Calls Try.prog 19 #[.int .i64 x] w fun e w' => e = .returned (.int .i64 x) ∧ w = w' := by
  go_enter Try.func19, Try.ntmps19
  go_wp2
  go_ret
  exact ⟨rfl, rfl⟩

theorem checks_walk (k : Int) (a : Option Addr) (len cap : Nat) (zs : List Int) (n : Int) (w : World) (hk : (Lit.int .i64 k).wf = true) (h : IsL w a zs) (hl : zs.length = len) (hcap : len ≤ cap) :
    Calls Try.prog 9 #[.int .i64 k, .slice a len cap, .int .i64 n] w fun e w' => e = .returned (.bool true) ∧ Below w.heap.size w w' := by
  have c1 := check_any k a len cap zs n w hk h hl hcap
  have c2 := fun (w1 : World) (hb : Below w.heap.size w w1) => rcheck_any k a len cap zs n w1 hk (h.below hb) hl
  generalize checkF k zs n = R at c1 c2
  clear hl hcap
  go_enter Try.func9, Try.ntmps9
  go_wp2_with (first | (go_at_call 48; refine c1.mono ?_; rintro e w1 ⟨rfl, hb1⟩) | (go_at_call 49; refine (c2 _ hb1).mono ?_; rintro e w2 ⟨rfl, hb2⟩) | (go_at_call 19; refine (num_any _ _).mono ?_; rintro e w' ⟨rfl, rfl⟩) | (go_at_call 39; refine (alive_calls _).mono ?_; rintro e w3 ⟨rfl, hb3⟩))
  go_ret
  exact ⟨rfl, bchain hb1 (bchain hb2 hb3)⟩

/-- What the row's frame tells of a slice of ints. -/
def IsRow (k : IntKind) (w : World) (a : Option Addr) (len cap : Nat) (zs : List Int) : Prop :=
  (a = none ∧ len = 0 ∧ cap = 0 ∧ zs = []) ∨
  ∃ x, a = some x ∧ len ≤ cap ∧ cap ≤ maxLen ∧ zs.length = cap ∧ (∀ i, i < zs.length → w.cell? (x.add i) = some (.int k (zs.getD i 0))) ∧ ∀ n ∈ zs, (Lit.int k n).wf = true
theorem IsRow.isL {w : World} {a : Option Addr} {len cap : Nat} {zs : List Int} (h : IsRow .i64 w a len cap zs) : IsL w a (zs.take len) ∧ (zs.take len).length = len ∧ len ≤ cap := by
  rcases h with ⟨rfl, rfl, rfl, rfl⟩ | ⟨x, rfl, hl, hm, hz, hcell, _⟩
  · exact ⟨IsL.nil _ _, rfl, Nat.le_refl _⟩
  · refine ⟨⟨?_, ?_⟩, by rw [List.length_take]; omega, hl⟩
    · rw [List.length_take]; omega
    · by_cases h0 : zs = []
      · exact .inl (by rw [h0]; simp)
      · obtain ⟨b, off, spot⟩ := x
        have hpos : 0 < zs.length := List.length_pos_iff.2 h0
        have hc := hcell 0 hpos
        have hspot : spot = none := by simpa [Addr.add] using World.cell?_spot hc
        subst hspot
        refine .inr ⟨b, off, rfl, fun i hi => ?_⟩
        rw [List.length_take] at hi
        rw [take_getD (by omega)]
        have := hcell i (by omega)
        rw [← this]
        congr 1
        by_cases hi0 : i = 0
        · subst hi0; simp [Addr.add]
        · simp [Addr.add, hi0]

theorem checks_row (k : Int) (a : Option Addr) (len cap : Nat) (zs : List Int) (n : Int) (w : World) (hk : (Lit.int .i64 k).wf = true) (h : IsRow .i64 w a len cap zs) :
    Calls Try.prog 9 #[.int .i64 k, .slice a len cap, .int .i64 n] w fun e w' => e = .returned (.bool true) ∧ Below w.heap.size w w' := by
  obtain ⟨h1, h2, h3⟩ := h.isL
  exact checks_walk k a len cap (zs.take len) n w hk h1 h2 h3
end Go.Proofs.Ytmckaoeofikdaaa
