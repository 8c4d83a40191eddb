/- Tables of what is already known of some calls, for the second machine. -/
import Derived.Test.YtmckaoeofikdaaaEval
namespace Go.Proofs.Ytmckaoeofikdaaa.Lift
open Go.RowKit

/-- What is known: of these arguments this comes, and these rows. -/
structure Ent where
  args : List Value
  val : Value
  rows : Hp

noncomputable def findE (vs : List Value) : List Ent → Option (Value × Hp)
  | [] => none
  | e :: r => bif eqL vs e.args then some (e.val, e.rows) else findE vs r
noncomputable def findF (g : FuncId) : List (FuncId × List Ent) → List Ent
  | [] => []
  | (f, es) :: r => bif Nat.beq g f then es else findF g r
noncomputable def tabO (T : List (FuncId × List Ent)) : Orc := fun g vs H =>
  match H with
  | [] => findE vs (findF g T)
  | _ => none

variable [Syms]
def Good (f : FuncId) (e : Ent) : Prop := ∀ ρ w N, HRel ρ [] w N → Calls Try.prog f (e.args.map (ren3 ρ)).toArray w (endPost (CallPost ρ [] w N e.val e.rows))
def AllGood (f : FuncId) : List Ent → Prop
  | [] => True
  | e :: r => Good f e ∧ AllGood f r
def TabGood : List (FuncId × List Ent) → Prop
  | [] => True
  | (f, es) :: r => AllGood f es ∧ TabGood r

theorem findE_good {f : FuncId} {vs : List Value} {v : Value} {H' : Hp} : ∀ {es : List Ent}, AllGood f es → findE vs es = some (v, H') → ∃ e, Good f e ∧ e.args = vs ∧ e.val = v ∧ e.rows = H'
  | [], _, h => by cases h
  | e :: r, hg, h => by
    simp only [findE] at h
    cases hc : eqL vs e.args with
    | true =>
      rw [hc] at h
      simp only [cond_true, Option.some.injEq, Prod.mk.injEq] at h
      exact ⟨e, hg.1, (eqL_spec hc).symm, h.1, h.2⟩
    | false =>
      rw [hc] at h
      exact findE_good hg.2 h

theorem findF_good {g : FuncId} : ∀ {T : List (FuncId × List Ent)}, TabGood T → AllGood g (findF g T)
  | [], _ => trivial
  | (f, es) :: r, hg => by
    simp only [findF]
    cases hc : Nat.beq g f with
    | true =>
      have e : g = f := Nat.eq_of_beq_eq_true hc
      simp only [cond_true]
      rw [e]; exact hg.1
    | false => exact findF_good hg.2

theorem tabO_sound {T : List (FuncId × List Ent)} (h : TabGood T) : OrcSound Try.prog (tabO T) := by
  intro g vs H v H' hv ρ w N hH hvs
  unfold tabO at hv
  split at hv
  · obtain ⟨e, he, rfl, rfl, rfl⟩ := findE_good (findF_good h) hv
    exact he ρ w N hH
  · cases hv

/-- Told by the second machine, rows and all. -/
theorem good_of [Known] [KnownOk Try.prog] {O : Orc} (hO : OrcSound Try.prog O) {n : Nat} {g : FuncId} {e : Ent} (hv : (mach Try.prog fns O n).call g e.args [] = some (e.val, e.rows)) (hn : e.args.all no3 = true) : Good g e := by
  intro ρ w N hH
  exact (mach_sound fns_ok mixed hO n).1 g e.args [] e.val e.rows hv ρ w N hH (fun u hu => wf3_no (List.all_eq_true.1 hn u hu))

/-- A plain value, told by the second machine: its rows forgotten. -/
theorem good_flat [Known] [KnownOk Try.prog] {O : Orc} (hO : OrcSound Try.prog O) {n : Nat} {g : FuncId} {vs : List Value} {v : Value} (hv : ((mach Try.prog fns O n).call g vs []).map Prod.fst = some v) (hn : vs.all no3 = true) (hno : no3 v = true) : Good g ⟨vs, v, []⟩ := by
  intro ρ w N hH
  cases hr : (mach Try.prog fns O n).call g vs [] with
  | none => rw [hr] at hv; cases hv
  | some r =>
    obtain ⟨u, H'⟩ := r
    rw [hr] at hv
    simp only [Option.map_some, Option.some.injEq] at hv
    subst hv
    refine ((mach_sound fns_ok mixed hO n).1 g vs [] u H' hr ρ w N hH (fun x hx => wf3_no (List.all_eq_true.1 hn x hx))).mono fun e w' he => ?_
    cases e with
    | returned r =>
      obtain ⟨ρ', rfl, h1, h2, h3, _, _⟩ := he
      exact ⟨ρ', rfl, ⟨by simp, by simp, by simp, h1.base, by simp, by simp⟩, h2, h3, Nat.le_refl _, wf3_no hno⟩
    | _ => exact he

end Go.Proofs.Ytmckaoeofikdaaa.Lift
