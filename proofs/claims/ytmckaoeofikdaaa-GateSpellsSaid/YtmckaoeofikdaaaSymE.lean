/- What the second machine tells of a call over signs. -/
import Derived.Test.YtmckaoeofikdaaaSym
namespace Go.Proofs.Ytmckaoeofikdaaa.Lift
open Go.RowKit

theorem wf0_wf3 {v : Value} (h : wf3 0 v = true) (n : Nat) : wf3 n v = true := wf3_mono (Nat.zero_le n) h

theorem sym_call [Known] [Syms] [KnownOk Try.prog] {O : Orc} (hO : OrcSound Try.prog O) {n : Nat} {g : FuncId} {vs : List Value} {v : Value} {H' : Hp} (hv : (mach Try.prog fns O n).call g vs [] = some (v, H')) (hn : vs.all (wf3 0) = true) (w : World) :
    Calls Try.prog g (vs.map (ren3 env0)).toArray w (endPost (CallPost env0 [] w w.heap.size v H')) :=
  (mach_sound fns_ok mixed hO n).1 g vs [] v H' hv env0 w w.heap.size (HRel.empty env0 w) (fun u hu => List.all_eq_true.1 hn u hu)

theorem sym_true [Known] [Syms] [KnownOk Try.prog] {O : Orc} (hO : OrcSound Try.prog O) {n : Nat} {g : FuncId} {vs : List Value} (hv : yes ((mach Try.prog fns O n).call g vs []) = true) (hn : vs.all (wf3 0) = true) (w : World) :
    Calls Try.prog g (vs.map (ren3 env0)).toArray w fun e w' => e = .returned (.bool true) ∧ Below w.heap.size w w' := by
  unfold yes at hv
  split at hv
  · rename_i H' h
    refine (sym_call hO h hn w).mono fun e w' he => ?_
    cases e with
    | returned r =>
      obtain ⟨ρ', rfl, _, _, hB, _⟩ := he
      exact ⟨rfl, hB⟩
    | _ => exact he.elim
  · cases hv

/-- A plain value of a call over signs: told alone. -/
theorem sym_flat [Known] [Syms] [KnownOk Try.prog] {O : Orc} (hO : OrcSound Try.prog O) {n : Nat} {g : FuncId} {vs : List Value} {v : Value} (hv : ((mach Try.prog fns O n).call g vs []).map Prod.fst = some v) (hn : vs.all (wf3 0) = true) (hno : ∀ ρ, ren3 ρ v = ren3 env0 v) (w : World) :
    Calls Try.prog g (vs.map (ren3 env0)).toArray w fun e w' => e = .returned (ren3 env0 v) ∧ Below w.heap.size w w' := by
  cases hr : (mach Try.prog fns O n).call g vs [] with
  | none => rw [hr] at hv; cases hv
  | some r =>
    obtain ⟨u, H'⟩ := r
    rw [hr] at hv
    simp only [Option.map_some, Option.some.injEq] at hv
    subst hv
    refine (sym_call hO hr hn w).mono fun e w' he => ?_
    cases e with
    | returned r =>
      obtain ⟨ρ', rfl, _, _, hB, _⟩ := he
      exact ⟨by rw [hno], hB⟩
    | _ => exact he.elim

/-! ### One whole number, below 1 or above 20 -/
/-- The types whose values are plain ints. -/
def ints : List TypeId := [3, 27, 23]
theorem ints_ok : TypesOk ints = true := by kernel_rfl
@[reducible] def symI (f : Nat → Int) : Syms := ⟨fun j => .int .i64 (f j), fun _ => rfl, fun _ _ h => by cases h⟩
/-- Signs that stand for whole numbers with bounds. -/
def bounds (los his : List (Option Int)) : Facts := ⟨fun i => Nat.blt i los.length, fun i => los.getD i none, fun i => his.getD i none, [], fun _ => [], [], []⟩
theorem bounds_ok {los his : List (Option Int)} {f : Nat → Int} (hw : ∀ i, -9223372036854775808 ≤ f i ∧ f i ≤ 9223372036854775807) (hl : ∀ i l, los.getD i none = some l → l ≤ f i) (hh : ∀ i h, his.getD i none = some h → f i ≤ h) :
    @FactsOk (bounds los his) (symI f) :=
  @FactsOk.mk (bounds los his) (symI f) (fun i _ => ⟨f i, rfl, (hw i).1, (hw i).2, hl i, hh i⟩) (fun i j h => by cases h) (fun i s h => by cases h) (fun i j h => by cases h) (fun op i j k h => by cases h)
@[reducible] noncomputable def kLow : Known := (bounds [none] [some 0]).known ints
@[reducible] noncomputable def kHigh : Known := (bounds [some 21] [none]).known ints
theorem low_ok {k : Int} (hk : (Lit.int .i64 k).wf = true) (h : k < 1) : @KnownOk kLow (symI fun _ => k) Try.prog := by
  have hw : -9223372036854775808 ≤ k ∧ k ≤ 9223372036854775807 := by simpa [Lit.wf, IntKind.min, IntKind.max, IntKind.signed, IntKind.bits] using hk
  refine @facts_ok _ _ (symI fun _ => k) (bounds_ok (fun _ => hw) (fun i l h => ?_) (fun i u h => ?_)) ints_ok
  · match i, h with
    | 0, h => cases h
    | i + 1, h => cases h
  · match i, h with
    | 0, h => cases h; omega
    | i + 1, h => cases h
theorem high_ok {k : Int} (hk : (Lit.int .i64 k).wf = true) (h : 20 < k) : @KnownOk kHigh (symI fun _ => k) Try.prog := by
  have hw : -9223372036854775808 ≤ k ∧ k ≤ 9223372036854775807 := by simpa [Lit.wf, IntKind.min, IntKind.max, IntKind.signed, IntKind.bits] using hk
  refine @facts_ok _ _ (symI fun _ => k) (bounds_ok (fun _ => hw) (fun i l h => ?_) (fun i u h => ?_)) ints_ok
  · match i, h with
    | 0, h => cases h; omega
    | i + 1, h => cases h
  · match i, h with
    | 0, h => cases h
    | i + 1, h => cases h

/-- A law of one kind: twenty kinds told, and the others by a sign. -/
theorem law_of_kind {O : Orc} (hO : ∀ S : Syms, @OrcSound S Try.prog O) {g : FuncId} {n : Nat} (hin : ∀ k : Nat, 1 ≤ k → k ≤ 20 → yes ((mach Try.prog fns O n).call g [.int .i64 k] []) = true)
    (hlo : yes ((@mach kLow Try.prog fns O n).call g [.chan (some 0)] []) = true) (hhi : yes ((@mach kHigh Try.prog fns O n).call g [.chan (some 0)] []) = true) (k : Int) (hk : (Lit.int .i64 k).wf = true) (w : World) :
    Calls Try.prog g #[.int .i64 k] w fun e w' => e = .returned (.bool true) ∧ Below w.heap.size w w' := by
  by_cases h1 : k < 1
  · exact @sym_true kLow (symI fun _ => k) (low_ok hk h1) O (hO _) n g [.chan (some 0)] hlo rfl w
  · by_cases h2 : 20 < k
    · exact @sym_true kHigh (symI fun _ => k) (high_ok hk h2) O (hO _) n g [.chan (some 0)] hhi rfl w
    · obtain ⟨m, rfl⟩ := Int.eq_ofNat_of_zero_le (show 0 ≤ k by omega)
      exact eval_true (hO _) (hin m (by omega) (by omega)) rfl w
end Go.Proofs.Ytmckaoeofikdaaa.Lift
