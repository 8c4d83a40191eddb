/- Sums and products of the document's complex numbers: told at once, for a few numbers. -/
import Derived.Test.YtmckaoeofikdaaaSymE
namespace Go.Proofs.Ytmckaoeofikdaaa.Lift
open Go.RowKit
set_option maxRecDepth 100000

theorem fast_bits {op : BinOp} {a b r : Nat} (h : fastFloat op a b = some r) : floatBits op .f64 a b = some r := by
  unfold fastFloat at h
  split at h
  · exact tabOk_spec tabAdd_ok h
  · exact tabOk_spec tabSub_ok h
  · exact tabOk_spec tabMul_ok h
  · cases h

@[reducible] def symZ (l : List Nat) : Syms := ⟨fun j => .float .f64 (l.getD j 0), fun _ => rfl, fun _ _ h => by cases h⟩
def zFacts : Facts := ⟨fun _ => false, fun _ => none, fun _ => none, [], fun _ => [], [], [(.mul, 0, 2, 4), (.mul, 1, 3, 5), (.mul, 0, 3, 6), (.mul, 1, 2, 7), (.sub, 4, 5, 8), (.add, 6, 7, 9)]⟩
def zFactsA : Facts := ⟨fun _ => false, fun _ => none, fun _ => none, [], fun _ => [], [], [(.add, 0, 2, 8), (.add, 1, 3, 9)]⟩
@[reducible] noncomputable def kZ : Known := zFacts.known []
@[reducible] noncomputable def kZA : Known := zFactsA.known []
theorem mul_tok : ((@mach kZ Try.prog fns noO 100).call 42 [.agg #[.chan (some 0), .chan (some 1)], .agg #[.chan (some 2), .chan (some 3)]] []).map Prod.fst = some (.agg #[.chan (some 8), .chan (some 9)]) := by kernel_rfl
theorem add_tok : ((@mach kZA Try.prog fns noO 100).call 41 [.agg #[.chan (some 0), .chan (some 1)], .agg #[.chan (some 2), .chan (some 3)]] []).map Prod.fst = some (.agg #[.chan (some 8), .chan (some 9)]) := by kernel_rfl

theorem ren3_two [Syms] (ρ : Env) (u v : Value) : ren3 ρ (.agg #[u, v]) = .agg #[ren1 ρ u, ren1 ρ v] := by simp [ren3, ren2]

theorem mul_calls {a b c d p q r s x y : Nat} (h1 : floatBits .mul .f64 a c = some p) (h2 : floatBits .mul .f64 b d = some q) (h3 : floatBits .mul .f64 a d = some r) (h4 : floatBits .mul .f64 b c = some s) (h5 : floatBits .sub .f64 p q = some x) (h6 : floatBits .add .f64 r s = some y) (w : World) :
    Calls Try.prog 42 #[.agg #[.float .f64 a, .float .f64 b], .agg #[.float .f64 c, .float .f64 d]] w fun e w' => e = .returned (.agg #[.float .f64 x, .float .f64 y]) ∧ Below w.heap.size w w' := by
  have hk : @KnownOk kZ (symZ [a, b, c, d, p, q, r, s, x, y]) Try.prog := by
    refine @facts_ok zFacts [] (symZ [a, b, c, d, p, q, r, s, x, y]) (@FactsOk.mk zFacts (symZ _) (fun i h => by cases h) (fun i j h => by cases h) (fun i l h => by cases h) (fun i j h => by cases h) (fun op i j k h => ?_)) rfl
    simp only [zFacts, List.mem_cons, List.not_mem_nil, or_false, Prod.mk.injEq] at h
    rcases h with ⟨rfl, rfl, rfl, rfl⟩ | ⟨rfl, rfl, rfl, rfl⟩ | ⟨rfl, rfl, rfl, rfl⟩ | ⟨rfl, rfl, rfl, rfl⟩ | ⟨rfl, rfl, rfl, rfl⟩ | ⟨rfl, rfl, rfl, rfl⟩
    · exact ⟨a, c, p, rfl, rfl, h1, rfl⟩
    · exact ⟨b, d, q, rfl, rfl, h2, rfl⟩
    · exact ⟨a, d, r, rfl, rfl, h3, rfl⟩
    · exact ⟨b, c, s, rfl, rfl, h4, rfl⟩
    · exact ⟨p, q, x, rfl, rfl, h5, rfl⟩
    · exact ⟨r, s, y, rfl, rfl, h6, rfl⟩
  have := @sym_flat kZ (symZ [a, b, c, d, p, q, r, s, x, y]) hk noO (@noO_sound (symZ _)) 100 _ _ _ mul_tok rfl (fun ρ => by rw [@ren3_two (symZ _), @ren3_two (symZ _)]; rfl) w
  simp only [List.map_cons, List.map_nil, @ren3_two (symZ _)] at this
  exact this

theorem add_calls {a b c d x y : Nat} (h1 : floatBits .add .f64 a c = some x) (h2 : floatBits .add .f64 b d = some y) (w : World) :
    Calls Try.prog 41 #[.agg #[.float .f64 a, .float .f64 b], .agg #[.float .f64 c, .float .f64 d]] w fun e w' => e = .returned (.agg #[.float .f64 x, .float .f64 y]) ∧ Below w.heap.size w w' := by
  have hk : @KnownOk kZA (symZ [a, b, c, d, 0, 0, 0, 0, x, y]) Try.prog := by
    refine @facts_ok zFactsA [] (symZ [a, b, c, d, 0, 0, 0, 0, x, y]) (@FactsOk.mk zFactsA (symZ _) (fun i h => by cases h) (fun i j h => by cases h) (fun i l h => by cases h) (fun i j h => by cases h) (fun op i j k h => ?_)) rfl
    simp only [zFactsA, List.mem_cons, List.not_mem_nil, or_false, Prod.mk.injEq] at h
    rcases h with ⟨rfl, rfl, rfl, rfl⟩ | ⟨rfl, rfl, rfl, rfl⟩
    · exact ⟨a, c, x, rfl, rfl, h1, rfl⟩
    · exact ⟨b, d, y, rfl, rfl, h2, rfl⟩
  have := @sym_flat kZA (symZ [a, b, c, d, 0, 0, 0, 0, x, y]) hk noO (@noO_sound (symZ _)) 100 _ _ _ add_tok rfl (fun ρ => by rw [@ren3_two (symZ _), @ren3_two (symZ _)]; rfl) w
  simp only [List.map_cons, List.map_nil, @ren3_two (symZ _)] at this
  exact this

noncomputable def zMul (u v : List Value) : Option Value :=
  match u, v with
  | [.float .f64 a, .float .f64 b], [.float .f64 c, .float .f64 d] =>
    match find2 a c tabMul, find2 b d tabMul, find2 a d tabMul, find2 b c tabMul with
    | some p, some q, some r, some s =>
      match find2 p q tabSub, find2 r s tabAdd with
      | some x, some y => some (.agg #[.float .f64 x, .float .f64 y])
      | _, _ => none
    | _, _, _, _ => none
  | _, _ => none
noncomputable def zAdd (u v : List Value) : Option Value :=
  match u, v with
  | [.float .f64 a, .float .f64 b], [.float .f64 c, .float .f64 d] =>
    match find2 a c tabAdd, find2 b d tabAdd with
    | some x, some y => some (.agg #[.float .f64 x, .float .f64 y])
    | _, _ => none
  | _, _ => none
noncomputable def zFn (g : FuncId) (vs : List Value) : Option Value :=
  match vs with
  | [.agg u, .agg v] => bif Nat.beq g 42 then zMul u.toList v.toList else bif Nat.beq g 41 then zAdd u.toList v.toList else none
  | _ => none
/-- A table, and these two. -/
noncomputable def orcZ (T : List (FuncId × List Ent)) : Orc := fun g vs H =>
  match H with
  | [] =>
    match zFn g vs with
    | some v => some (v, [])
    | none => tabO T g vs []
  | _ => none

variable [Syms]
theorem zFn_spec {g : FuncId} {vs : List Value} {v : Value} (h : zFn g vs = some v) : (∀ w, Calls Try.prog g vs.toArray w fun e w' => e = .returned v ∧ Below w.heap.size w w') ∧ (∀ ρ, vs.map (ren3 ρ) = vs) ∧ (∀ ρ, ren3 ρ v = v) ∧ wf3 0 v = true := by
  unfold zFn at h
  split at h
  · rename_i u u'
    cases hm : Nat.beq g 42 with
    | true =>
      rw [hm] at h
      have e := Nat.eq_of_beq_eq_true hm
      subst e
      simp only [cond_true] at h
      unfold zMul at h
      split at h
      · rename_i a b c d hu hu'
        have eu : u = #[.float .f64 a, .float .f64 b] := by apply Array.ext'; simpa using hu
        have eu' : u' = #[.float .f64 c, .float .f64 d] := by apply Array.ext'; simpa using hu'
        subst eu eu'
        split at h
        · rename_i p q r s h1 h2 h3 h4
          split at h
          · rename_i x y h5 h6
            simp only [Option.some.injEq] at h
            subst h
            exact ⟨fun w => mul_calls (tabOk_spec tabMul_ok h1) (tabOk_spec tabMul_ok h2) (tabOk_spec tabMul_ok h3) (tabOk_spec tabMul_ok h4) (tabOk_spec tabSub_ok h5) (tabOk_spec tabAdd_ok h6) w, fun ρ => by simp only [List.map_cons, List.map_nil, ren3_two]; rfl, fun ρ => by rw [ren3_two]; rfl, rfl⟩
          · cases h
        · cases h
      · cases h
    | false =>
      rw [hm] at h
      simp only [cond_false] at h
      cases ha : Nat.beq g 41 with
      | true =>
        rw [ha] at h
        have e := Nat.eq_of_beq_eq_true ha
        subst e
        simp only [cond_true] at h
        unfold zAdd at h
        split at h
        · rename_i a b c d hu hu'
          have eu : u = #[.float .f64 a, .float .f64 b] := by apply Array.ext'; simpa using hu
          have eu' : u' = #[.float .f64 c, .float .f64 d] := by apply Array.ext'; simpa using hu'
          subst eu eu'
          split at h
          · rename_i x y h5 h6
            simp only [Option.some.injEq] at h
            subst h
            exact ⟨fun w => add_calls (tabOk_spec tabAdd_ok h5) (tabOk_spec tabAdd_ok h6) w, fun ρ => by simp only [List.map_cons, List.map_nil, ren3_two]; rfl, fun ρ => by rw [ren3_two]; rfl, rfl⟩
          · cases h
        · cases h
      | false => rw [ha] at h; cases h
  · cases h

theorem orcZ_sound {T : List (FuncId × List Ent)} (hT : TabGood T) : OrcSound Try.prog (orcZ T) := by
  intro g vs H v H' hv ρ w N hH hvs
  unfold orcZ at hv
  split at hv
  · split at hv
    · rename_i u hu
      simp only [Option.some.injEq, Prod.mk.injEq] at hv
      obtain ⟨rfl, rfl⟩ := hv
      obtain ⟨h1, h2, h3, h4⟩ := zFn_spec hu
      rw [h2 ρ]
      refine (h1 w).mono fun e w' he => ?_
      obtain ⟨rfl, hb⟩ := he
      have hbase := hH.base
      exact ⟨ρ, (h3 ρ).symm, ⟨by simp, by simp, by simp, Nat.le_trans hbase hb.size, by simp, by simp⟩, Agree.refl _ _, hb.mono hbase, Nat.le_refl _, h4⟩
    · exact tabO_sound hT g vs [] v H' hv ρ w N hH hvs
  · cases hv
end Go.Proofs.Ytmckaoeofikdaaa.Lift
