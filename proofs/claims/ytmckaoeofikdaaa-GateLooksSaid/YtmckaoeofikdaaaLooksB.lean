/- The law GateLooks, for every kind and every name. -/
import Derived.Test.YtmckaoeofikdaaaLooksA
namespace Go.Proofs.Ytmckaoeofikdaaa.Lift
open Go.RowKit
set_option maxRecDepth 100000

/-- 0: a kind with bounds; 2, 3: ints. -/
noncomputable def looksF (lo hi : Option Int) : Facts := ⟨fun i => !Nat.beq i 1, fun i => bif Nat.beq i 0 then lo else none, fun i => bif Nat.beq i 0 then hi else none, [], fun _ => [], []⟩
theorem wf_bd {k : Int} (hk : (Lit.int .i64 k).wf = true) : -9223372036854775808 ≤ k ∧ k ≤ 9223372036854775807 := by simpa [Lit.wf, IntKind.min, IntKind.max, IntKind.signed, IntKind.bits] using hk
theorem kindOf_bd (s : ByteArray) : (kindOf s : Int) ≤ 20 := by
  unfold kindOf
  split
  · rename_i i h
    obtain ⟨hi, _⟩ := List.findIdx?_eq_some_iff_getElem.1 h
    have : i < 20 := hi
    omega
  · decide
theorem errOf_bd (s : ByteArray) : 0 ≤ errOf s ∧ errOf s ≤ 60 := by
  unfold errOf
  split <;> decide
theorem looks_ok {k : Int} {s : ByteArray} (lo hi : Option Int) (hk : (Lit.int .i64 k).wf = true) (hl : ∀ l, lo = some l → l ≤ k) (hh : ∀ h, hi = some h → k ≤ h) : @KnownOk ((looksF lo hi).known ints) (symN k s) Try.prog := by
  have hw := wf_bd hk
  refine @facts_ok (looksF lo hi) ints (symN k s) (@FactsOk.mk (looksF lo hi) (symN k s) (fun i hi' => ?_) (fun i j h => by cases h) (fun i l h => by cases h) (fun i j h => by cases h)) ints_ok
  match i, hi' with
  | 0, _ => exact ⟨k, rfl, hw.1, hw.2, hl, hh⟩
  | 1, h => cases h
  | 2, _ =>
    have := kindOf_bd s
    exact ⟨kindOf s, rfl, by omega, by omega, fun l h => (by cases h), fun l h => (by cases h)⟩
  | 3, _ =>
    have := errOf_bd s
    exact ⟨errOf s, rfl, by omega, by omega, fun l h => (by cases h), fun l h => (by cases h)⟩
  | i + 4, _ => exact ⟨k, rfl, hw.1, hw.2, fun l h => (by cases h), fun l h => (by cases h)⟩
@[reducible] noncomputable def kIn : Known := (looksF none none).known ints
@[reducible] noncomputable def kLo : Known := (looksF none (some 0)).known ints
@[reducible] noncomputable def kHi : Known := (looksF (some 21) none).known ints
theorem looks_in : ((List.range 20).all fun i => yes ((@mach kIn Try.prog fns (tabO tabN) 4000).call 6 [.int .i64 ((i + 1 : Nat) : Int), .chan (some 1)] [])) = true := by kernel_rfl
theorem looks_lo : yes ((@mach kLo Try.prog fns (tabO tabN) 4000).call 6 [.chan (some 0), .chan (some 1)] []) = true := by kernel_rfl
theorem looks_hi : yes ((@mach kHi Try.prog fns (tabO tabN) 4000).call 6 [.chan (some 0), .chan (some 1)] []) = true := by kernel_rfl

theorem looks_walk (k : Int) (s : ByteArray) (w : World) (hk : (Lit.int .i64 k).wf = true) :
    Calls Try.prog 6 #[.int .i64 k, .string s] w fun e w' => e = .returned (.bool true) ∧ Below w.heap.size w w' := by
  by_cases h1 : k < 1
  · exact @sym_true kLo (symN k s) (looks_ok none (some 0) hk (fun l h => by cases h) (fun h e => by cases e; omega)) _ (tabN_sound k s) 4000 _ [.chan (some 0), .chan (some 1)] looks_lo rfl w
  · by_cases h2 : 20 < k
    · exact @sym_true kHi (symN k s) (looks_ok (some 21) none hk (fun l h => by cases h; omega) (fun h e => by cases e)) _ (tabN_sound k s) 4000 _ [.chan (some 0), .chan (some 1)] looks_hi rfl w
    · obtain ⟨m, rfl⟩ := Int.eq_ofNat_of_zero_le (show 0 ≤ k by omega)
      obtain ⟨i, rfl⟩ : ∃ i, m = i + 1 := ⟨m - 1, by omega⟩
      have := List.all_eq_true.1 looks_in i (List.mem_range.2 (by omega))
      exact @sym_true kIn (symN _ s) (looks_ok none none hk (fun l h => by cases h) (fun h e => by cases e)) _ (tabN_sound _ s) 4000 _ [.int .i64 ((i + 1 : Nat) : Int), .chan (some 1)] this rfl w
end Go.Proofs.Ytmckaoeofikdaaa.Lift
