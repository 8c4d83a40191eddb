/- The second machine over this seat's program: what it tells of a call that takes nothing but plain values, the model's call does. -/
import Derived.Test.YtmckaoeofikdaaaLiftL
import Derived.Test.YtmckaoeofikdaaaFns
namespace Go.Proofs.Ytmckaoeofikdaaa.Lift
open Go.RowKit

instance (priority := low) noK : Known := ⟨fun _ _ _ => none, fun _ _ => none, fun _ _ _ => none, fun _ _ => none⟩
instance (priority := low) noS : Syms := ⟨fun _ => .int .i64 0, fun _ => rfl, fun _ _ h => by cases h⟩
instance noK_ok [Syms] : @KnownOk noK _ Try.prog := ⟨fun h => (by cases h), fun h => (by cases h), fun h => (by cases h), fun h => (by cases h)⟩

theorem mixed : Try.prog.follows .mixedOrders = true := by kernel_rfl

noncomputable def noO : Orc := fun _ _ _ => none
theorem noO_sound [Syms] : OrcSound Try.prog noO := fun _ _ _ _ _ h => by cases h

/-- An environment for a call that has no rows yet. -/
def env0 : Env := fun _ => ⟨0, 0, 0⟩

theorem map_ren3_no [Syms] {vs : List Value} (ρ : Env) (h : ∀ u ∈ vs, no3 u = true) : vs.map (ren3 ρ) = vs := by
  rw [List.map_congr_left (f := ren3 ρ) (g := id) (fun u hu => ren3_no ρ (h u hu)), List.map_id]

theorem eval_call [Known] [Syms] [KnownOk Try.prog] {O : Orc} (hO : OrcSound Try.prog O) {n : Nat} {g : FuncId} {vs : List Value} {v : Value} {H' : Hp} (hv : (mach Try.prog fns O n).call g vs [] = some (v, H')) (hn : vs.all no3 = true) (w : World) :
    Calls Try.prog g vs.toArray w (endPost (CallPost env0 [] w w.heap.size v H')) := by
  have hno : ∀ u ∈ vs, no3 u = true := fun u hu => List.all_eq_true.1 hn u hu
  have := (mach_sound fns_ok mixed hO n).1 g vs [] v H' hv env0 w w.heap.size (HRel.empty env0 w) (fun u hu => wf3_no (hno u hu))
  rw [map_ren3_no env0 hno] at this
  exact this

/-- Does it answer true? -/
noncomputable def yes : Option (Value × Hp) → Bool
  | some (.bool true, _) => true
  | _ => false

theorem eval_true [Known] [Syms] [KnownOk Try.prog] {O : Orc} (hO : OrcSound Try.prog O) {n : Nat} {g : FuncId} {vs : List Value} (hv : yes ((mach Try.prog fns O n).call g vs []) = true) (hn : vs.all no3 = true) (w : World) :
    Calls Try.prog g vs.toArray w fun e w' => e = .returned (.bool true) ∧ Below w.heap.size w w' := by
  unfold yes at hv
  split at hv
  · rename_i H' h
    refine (eval_call hO h hn w).mono fun e w' he => ?_
    cases e with
    | returned r =>
      obtain ⟨ρ', rfl, _, _, hB, _⟩ := he
      exact ⟨rfl, hB⟩
    | _ => exact he.elim
  · cases hv

end Go.Proofs.Ytmckaoeofikdaaa.Lift
