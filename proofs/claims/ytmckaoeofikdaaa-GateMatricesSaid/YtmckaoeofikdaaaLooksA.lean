/- The kinds of names: what the second machine tells of Of (of package gate, of the document), for every name. -/
import Derived.Test.YtmckaoeofikdaaaOrcD
import Derived.Test.YtmckaoeofikdaaaKinds
import Derived.Test.YtmckaoeofikdaaaSymE
namespace Go.Proofs.Ytmckaoeofikdaaa.Lift
open Go.RowKit
set_option maxRecDepth 100000

theorem good_same [Syms] {f : FuncId} {e e' : Ent} (h : Good f e) (ha : ∀ ρ, e.args.map (ren3 ρ) = e'.args.map (ren3 ρ)) (hv : ∀ ρ, ren3 ρ e.val = ren3 ρ e'.val) (hr : e.rows = e'.rows) (hw : wf3 e'.rows.length e'.val = true) : Good f e' := by
  intro ρ w N hH
  have := h ρ w N hH
  rw [ha ρ] at this
  refine this.mono fun x w' hx => ?_
  cases x with
  | returned r =>
    obtain ⟨ρ', h1, h2, h3, h4, h5, h6⟩ := hx
    rw [hr] at h2 h5
    exact ⟨ρ', by rw [h1, hv], h2, h3, h4, h5, hw⟩
  | _ => exact hx

theorem good_sym [Known] [Syms] [KnownOk Try.prog] {O : Orc} (hO : OrcSound Try.prog O) {n : Nat} {g : FuncId} {vs : List Value} {v : Value} (hv : ((mach Try.prog fns O n).call g vs []).map Prod.fst = some v) (hn : vs.all (wf3 0) = true) (hno : no3 v = true) : Good g ⟨vs, v, []⟩ := by
  intro ρ w N hH
  cases hr : (mach Try.prog fns O n).call g vs [] with
  | none => rw [hr] at hv; cases hv
  | some r =>
    obtain ⟨u, H'⟩ := r
    rw [hr] at hv
    simp only [Option.map_some, Option.some.injEq] at hv
    subst hv
    refine ((mach_sound fns_ok mixed hO n).1 g vs [] u H' hr ρ w N hH (fun x hx => List.all_eq_true.1 hn x hx)).mono fun e w' he => ?_
    cases e with
    | returned r =>
      obtain ⟨ρ', rfl, h1, h2, h3, _, _⟩ := he
      exact ⟨ρ', rfl, ⟨by simp, by simp, by simp, h1.base, by simp, by simp⟩, h2, h3, Nat.le_refl _, wf3_no hno⟩
    | _ => exact he

/-- All names, by their kinds. -/
def names : List (List UInt8) := [[105, 100], [120], [121], [122], [115], [115, 100, 103], [115, 120], [115, 120, 100, 103], [115, 121], [115, 121, 100, 103], [99, 120], [99, 121], [99, 122], [115, 119, 97, 112], [105, 115, 119, 97, 112], [105, 115, 119, 97, 112, 100, 103], [104, 104], [99, 99, 120], [99, 99, 122], [99, 115, 119, 97, 112]]
def nameAt (i : Nat) : Value := .string ⟨(names.getD i []).toArray⟩
noncomputable def ofV (i : Nat) : Option Value := some (.tuple #[.int .i64 ((i + 1 : Nat) : Int), .int .i64 0])
theorem of_all : ((List.range 20).map fun i => ((mach Try.prog fns (tabO tabD) 4000).call 17 [nameAt i] []).map Prod.fst) = (List.range 20).map ofV := by kernel_rfl
theorem rof_all : ((List.range 20).map fun i => ((mach Try.prog fns (tabO tabD) 4000).call 23 [nameAt i] []).map Prod.fst) = (List.range 20).map ofV := by kernel_rfl
/-- A sign for a string that is no name. -/
noncomputable def noName : Facts := ⟨fun _ => false, fun _ => none, fun _ => none, [], fun i => bif Nat.beq i 1 then names.map fun l => l.map UInt8.toNat else [], [], []⟩
@[reducible] noncomputable def kName : Known := noName.known ints
theorem of_other : ((@mach kName Try.prog fns (tabO tabD) 4000).call 17 [.chan (some 1)] []).map Prod.fst = some (.tuple #[.int .i64 0, .int .i64 60]) := by kernel_rfl
theorem rof_other : ((@mach kName Try.prog fns (tabO tabD) 4000).call 23 [.chan (some 1)] []).map Prod.fst = some (.tuple #[.int .i64 0, .int .i64 60]) := by kernel_rfl

/-! ### Every name -/
/-- The kind of a name, and the error. -/
def kindOf (s : ByteArray) : Nat := match names.findIdx? (· == s.data.toList) with
  | some i => i + 1
  | none => 0
def errOf (s : ByteArray) : Int := match names.findIdx? (· == s.data.toList) with
  | some _ => 0
  | none => 60
/-- 0: a kind; 1: a name; 2, 3: what Of answers. -/
@[reducible] def symN (k : Int) (s : ByteArray) : Syms := ⟨fun j => match j with
  | 1 => .string s
  | 2 => .int .i64 (kindOf s)
  | 3 => .int .i64 (errOf s)
  | _ => .int .i64 k, fun j => by split <;> rfl, fun j b h => by split at h <;> cases h⟩
theorem noName_strs {s : ByteArray} (h : names.findIdx? (· == s.data.toList) = none) {l : List Nat} (hl : l ∈ names.map fun l => l.map UInt8.toNat) : strL s ≠ l := by
  obtain ⟨m, hm, rfl⟩ := List.mem_map.1 hl
  intro e
  rw [List.findIdx?_eq_none_iff] at h
  have h1 := h m hm
  apply Bool.false_ne_true
  rw [← h1, beq_iff_eq]
  have inj : ∀ {a b : List UInt8}, a.map UInt8.toNat = b.map UInt8.toNat → a = b := by
    intro a
    induction a with
    | nil => intro b hb; cases b with
      | nil => rfl
      | cons x r => cases hb
    | cons y q ih => intro b hb; cases b with
      | nil => cases hb
      | cons x r =>
        simp only [List.map_cons, List.cons.injEq] at hb
        rw [ih hb.2, UInt8.toNat_inj.1 hb.1]
  exact (inj e).symm
theorem name_ok {k : Int} {s : ByteArray} (h : names.findIdx? (· == s.data.toList) = none) : @KnownOk kName (symN k s) Try.prog := by
  refine @facts_ok noName ints (symN k s) (@FactsOk.mk noName (symN k s) (fun i h => by cases h) (fun i j h => by cases h) (fun i l hl => ?_) (fun i j h => by cases h) (fun op i j k h => by cases h)) ints_ok
  have hl' : l ∈ bif Nat.beq i 1 then names.map fun l => l.map UInt8.toNat else [] := hl
  cases hi : Nat.beq i 1 with
  | true =>
    rw [hi] at hl'
    have := Nat.eq_of_beq_eq_true hi
    subst this
    exact ⟨s, rfl, noName_strs h hl'⟩
  | false => rw [hi] at hl'; cases hl'
noncomputable def ofE : Ent := ⟨[.chan (some 1)], .tuple #[.chan (some 2), .chan (some 3)], []⟩
theorem of_gen {g : FuncId} (hall : ((List.range 20).map fun i => ((mach Try.prog fns (tabO tabD) 4000).call g [nameAt i] []).map Prod.fst) = (List.range 20).map ofV)
    (hother : ((@mach kName Try.prog fns (tabO tabD) 4000).call g [.chan (some 1)] []).map Prod.fst = some (.tuple #[.int .i64 0, .int .i64 60])) (k : Int) (s : ByteArray) : @Good (symN k s) g ofE := by
  cases h : names.findIdx? (· == s.data.toList) with
  | none =>
    have e : @Good (symN k s) g ⟨[.chan (some 1)], .tuple #[.int .i64 0, .int .i64 60], []⟩ :=
      @good_sym kName (symN k s) (name_ok h) (tabO tabD) (@tabD_sound (symN k s)) 4000 _ _ _ hother rfl rfl
    refine @good_same (symN k s) _ _ _ e (fun ρ => rfl) (fun ρ => ?_) rfl rfl
    have e1 : kindOf s = 0 := by unfold kindOf; rw [h]
    have e2 : errOf s = 60 := by unfold errOf; rw [h]
    simp only [ren3, ren2, ren1, ofE, List.map_toArray, List.map_cons, List.map_nil]
    rw [show @Syms.sym (symN k s) 2 = .int .i64 (kindOf s : Nat) from rfl, show @Syms.sym (symN k s) 3 = .int .i64 (errOf s) from rfl, e1, e2]
    rfl
  | some i =>
    obtain ⟨hi, h1, _⟩ := List.findIdx?_eq_some_iff_getElem.1 h
    have hi' : i < 20 := hi
    have e1 : kindOf s = i + 1 := by unfold kindOf; rw [h]
    have e2 : errOf s = 0 := by unfold errOf; rw [h]
    have e3 : nameAt i = .string s := by
      unfold nameAt
      rw [List.getD_eq_getElem?_getD, List.getElem?_eq_getElem hi]
      simp only [beq_iff_eq] at h1
      simp only [Option.getD_some, h1]
    have e : @Good (symN k s) g ⟨[nameAt i], .tuple #[.int .i64 ((i + 1 : Nat) : Int), .int .i64 0], []⟩ :=
      @good_flat (symN k s) noK (@noK_ok (symN k s)) (tabO tabD) (@tabD_sound (symN k s)) 4000 _ _ _ (at_map hall i hi') (by rw [e3]; rfl) rfl
    refine @good_same (symN k s) _ _ _ e (fun ρ => ?_) (fun ρ => ?_) rfl rfl
    · rw [e3]; rfl
    · simp only [ren3, ren2, ren1, ofE, List.map_toArray, List.map_cons, List.map_nil]
      rw [show @Syms.sym (symN k s) 2 = .int .i64 (kindOf s : Nat) from rfl, show @Syms.sym (symN k s) 3 = .int .i64 (errOf s) from rfl, e1, e2]
noncomputable def tabN : List (FuncId × List Ent) := (17, [ofE]) :: (23, [ofE]) :: tabD
theorem tabN_sound (k : Int) (s : ByteArray) : @OrcSound (symN k s) Try.prog (tabO tabN) :=
  @tabO_sound (symN k s) _ ⟨⟨of_gen of_all of_other k s, trivial⟩, ⟨of_gen rof_all rof_other k s, trivial⟩, @tabD_good (symN k s)⟩
end Go.Proofs.Ytmckaoeofikdaaa.Lift
