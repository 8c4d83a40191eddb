/- Moves, of package gate and of the document: the same, for every kind in the table and every index. -/
import Derived.Test.YtmckaoeofikdaaaOrcD
import Derived.Test.YtmckaoeofikdaaaKinds
import Derived.Test.YtmckaoeofikdaaaLooksA
namespace Go.Proofs.Ytmckaoeofikdaaa.Lift
open Go.RowKit
set_option maxRecDepth 100000

/-- What Moves tells, if it is three plain values: two small numbers, and a word. -/
noncomputable def mv3 (r : Option (Value × Hp)) : Option (Nat × Nat × Bool) :=
  match r with
  | some (.tuple t, _) =>
    match t.toList with
    | [.int .i64 (.ofNat x), .int .i64 (.ofNat p), .bool b] => bif Nat.ble x 7 && Nat.ble p 3 then some (x, p, b) else none
    | _ => none
  | _ => none
noncomputable def mvSame (a b : Option (Nat × Nat × Bool)) (u : Bool) : Bool :=
  match a, b with
  | some (x, p, c), some (y, q, d) => Nat.beq x y && Nat.beq p q && (c == u) && (d == u)
  | _, _ => false
def sides (k : Nat) : Nat := bif Nat.ble k 9 then 2 else bif Nat.ble k 16 then 4 else 8
def monoB (k : Nat) : Bool := monomialL.getD k false
noncomputable def mvIn (k i : Nat) : Bool := mvSame (mv3 ((mach Try.prog fns (tabO tabA) 2000).call 45 [.int .i64 ((k + 1 : Nat) : Int), .int .i64 (i : Nat)] [])) (mv3 ((mach Try.prog fns (tabO tabA) 2000).call 54 [.int .i64 ((k + 1 : Nat) : Int), .int .i64 (i : Nat)] [])) (monoB k)
theorem mv_in : ((List.range 20).all fun k => (List.range (sides k)).all fun i => mvIn k i) = true := by kernel_rfl
/-- The sign 1: below 0; not below the side. -/
@[reducible] noncomputable def kNeg : Known := (bounds [none, none] [none, some (-1)]).known ints
@[reducible] noncomputable def kBig (n : Nat) : Known := (bounds [none, some (n : Nat)] [none, none]).known ints
noncomputable def mvNeg (k : Nat) : Bool := mvSame (mv3 ((@mach kNeg Try.prog fns (tabO tabA) 2000).call 45 [.int .i64 ((k + 1 : Nat) : Int), .chan (some 1)] [])) (mv3 ((@mach kNeg Try.prog fns (tabO tabA) 2000).call 54 [.int .i64 ((k + 1 : Nat) : Int), .chan (some 1)] [])) false
noncomputable def mvBig (k : Nat) : Bool := mvSame (mv3 ((@mach (kBig (sides k)) Try.prog fns (tabO tabA) 2000).call 45 [.int .i64 ((k + 1 : Nat) : Int), .chan (some 1)] [])) (mv3 ((@mach (kBig (sides k)) Try.prog fns (tabO tabA) 2000).call 54 [.int .i64 ((k + 1 : Nat) : Int), .chan (some 1)] [])) false
theorem mv_neg : ((List.range 20).all mvNeg) = true := by kernel_rfl
theorem mv_big : ((List.range 20).all mvBig) = true := by kernel_rfl

theorem mv3_some {r : Option (Value × Hp)} {x p : Nat} {b : Bool} (h : mv3 r = some (x, p, b)) : r.map Prod.fst = some (.tuple #[.int .i64 x, .int .i64 p, .bool b]) ∧ x ≤ 7 ∧ p ≤ 3 := by
  unfold mv3 at h
  split at h
  · rename_i t H
    split at h
    · rename_i x' p' b' ht
      have et : t = #[.int .i64 x', .int .i64 p', .bool b'] := by apply Array.ext'; simpa using ht
      cases hc : (Nat.ble x' 7 && Nat.ble p' 3) with
      | false => rw [hc] at h; cases h
      | true =>
        rw [hc] at h
        simp only [cond_true, Option.some.injEq, Prod.mk.injEq] at h
        obtain ⟨rfl, rfl, rfl⟩ := h
        simp only [Bool.and_eq_true] at hc
        exact ⟨by rw [et]; rfl, Nat.le_of_ble_eq_true hc.1, Nat.le_of_ble_eq_true hc.2⟩
    · cases h
  · cases h
theorem mvSame_spec {r s : Option (Value × Hp)} {u : Bool} (h : mvSame (mv3 r) (mv3 s) u = true) : ∃ x p : Nat, x ≤ 7 ∧ p ≤ 3 ∧ r.map Prod.fst = some (.tuple #[.int .i64 x, .int .i64 p, .bool u]) ∧ s.map Prod.fst = some (.tuple #[.int .i64 x, .int .i64 p, .bool u]) := by
  unfold mvSame at h
  split at h
  · rename_i x p c y q d h1 h2
    simp only [Bool.and_eq_true, Nat.beq_eq, beq_iff_eq] at h
    obtain ⟨⟨⟨rfl, rfl⟩, rfl⟩, rfl⟩ := h
    obtain ⟨e1, b1, b2⟩ := mv3_some h1
    obtain ⟨e2, _, _⟩ := mv3_some h2
    exact ⟨x, p, b1, b2, e1, e2⟩
  · cases h

/-- 0, 1: a kind, an index; 2, 3: what Moves answers. -/
@[reducible] def symM (i : Int) (x p : Nat) : Syms := ⟨fun j => match j with
  | 1 => .int .i64 i
  | 2 => .int .i64 x
  | _ => .int .i64 p, fun j => by split <;> rfl, fun j b h => by split at h <;> cases h⟩
noncomputable def movE (k : Nat) (b : Bool) : Ent := ⟨[.int .i64 ((k + 1 : Nat) : Int), .chan (some 1)], .tuple #[.chan (some 2), .chan (some 3), .bool b], []⟩

theorem mov_of {i : Int} {x p k : Nat} {b : Bool} {g : FuncId} {a : Value} (ha : ∀ ρ, @ren3 (symM i x p) ρ a = .int .i64 i)
    (h : @Good (symM i x p) g ⟨[.int .i64 ((k + 1 : Nat) : Int), a], .tuple #[.int .i64 x, .int .i64 p, .bool b], []⟩) : @Good (symM i x p) g (movE k b) := by
  refine @good_same (symM i x p) _ _ _ h (fun ρ => ?_) (fun ρ => ?_) rfl rfl
  · simp only [List.map_cons, List.map_nil, ha, movE]; rfl
  · simp only [ren3, ren2, ren1, movE, List.map_toArray, List.map_cons, List.map_nil]
    rfl

/-- Every index: what both answer. -/
theorem moves_both (k : Nat) (hk : k < 20) (i : Int) (hi : (Lit.int .i64 i).wf = true) : ∃ (x p : Nat) (b : Bool), x ≤ 7 ∧ p ≤ 3 ∧ (b = true → monoB k = true) ∧ @Good (symM i x p) 45 (movE k b) ∧ @Good (symM i x p) 54 (movE k b) := by
  have hw : -9223372036854775808 ≤ i ∧ i ≤ 9223372036854775807 := by simpa [Lit.wf, IntKind.min, IntKind.max, IntKind.signed, IntKind.bits] using hi
  have bd : ∀ x p : Nat, x ≤ 7 → p ≤ 3 → ∀ los his : List (Option Int), (∀ l, los.getD 1 none = some l → l ≤ i) → (∀ h, his.getD 1 none = some h → i ≤ h) → (∀ j, j ≠ 1 → los.getD j none = none ∧ his.getD j none = none) → @KnownOk ((bounds los his).known ints) (symM i x p) Try.prog := by
    intro x p hx hp los his hl hh hn
    refine @facts_ok (bounds los his) ints (symM i x p) (@FactsOk.mk (bounds los his) (symM i x p) (fun j _ => ?_) (fun i j h => by cases h) (fun i l h => by cases h) (fun i j h => by cases h) (fun op i j k h => by cases h)) ints_ok
    by_cases hj : j = 1
    · subst hj; exact ⟨i, rfl, hw.1, hw.2, hl, hh⟩
    · obtain ⟨h1, h2⟩ := hn j hj
      have key : ∀ y : Nat, y ≤ 7 → -9223372036854775808 ≤ (y : Int) ∧ (y : Int) ≤ 9223372036854775807 ∧ (∀ l, (bounds los his).lo j = some l → l ≤ (y : Int)) ∧ ∀ h, (bounds los his).hi j = some h → (y : Int) ≤ h := fun y hy =>
        ⟨by omega, by omega, fun l h => (by rw [show (bounds los his).lo j = none from h1] at h; cases h), fun l h => (by rw [show (bounds los his).hi j = none from h2] at h; cases h)⟩
      match j, hj with
      | 0, _ => exact ⟨p, rfl, key p (by omega)⟩
      | 1, h => exact absurd rfl h
      | 2, _ => exact ⟨x, rfl, key x hx⟩
      | j + 3, _ => exact ⟨p, rfl, key p (by omega)⟩
  by_cases h0 : i < 0
  · have h := List.all_eq_true.1 mv_neg k (List.mem_range.2 hk)
    obtain ⟨x, p, hx, hp, e1, e2⟩ := mvSame_spec h
    have hK := bd x p hx hp [none, none] [none, some (-1)] (fun l h => by cases h) (fun h e => by cases e; omega) (fun j hj => by
      match j, hj with
      | 0, _ => exact ⟨rfl, rfl⟩
      | 1, h => exact absurd rfl h
      | j + 2, _ => exact ⟨rfl, rfl⟩)
    exact ⟨x, p, false, hx, hp, fun h => (by cases h), mov_of (fun _ => rfl) (@good_sym kNeg (symM i x p) hK (tabO tabA) (@tabA_sound (symM i x p)) 2000 _ _ _ e1 rfl rfl), mov_of (fun _ => rfl) (@good_sym kNeg (symM i x p) hK (tabO tabA) (@tabA_sound (symM i x p)) 2000 _ _ _ e2 rfl rfl)⟩
  · by_cases h1 : (sides k : Int) ≤ i
    · have h := List.all_eq_true.1 mv_big k (List.mem_range.2 hk)
      obtain ⟨x, p, hx, hp, e1, e2⟩ := mvSame_spec h
      have hK := bd x p hx hp [none, some (sides k : Nat)] [none, none] (fun l h => by cases h; exact h1) (fun h e => by cases e) (fun j hj => by
        match j, hj with
        | 0, _ => exact ⟨rfl, rfl⟩
        | 1, h => exact absurd rfl h
        | j + 2, _ => exact ⟨rfl, rfl⟩)
      exact ⟨x, p, false, hx, hp, fun h => (by cases h), mov_of (fun _ => rfl) (@good_sym (kBig (sides k)) (symM i x p) hK (tabO tabA) (@tabA_sound (symM i x p)) 2000 _ _ _ e1 rfl rfl), mov_of (fun _ => rfl) (@good_sym (kBig (sides k)) (symM i x p) hK (tabO tabA) (@tabA_sound (symM i x p)) 2000 _ _ _ e2 rfl rfl)⟩
    · obtain ⟨m, rfl⟩ := Int.eq_ofNat_of_zero_le (show 0 ≤ i by omega)
      have h := List.all_eq_true.1 (List.all_eq_true.1 mv_in k (List.mem_range.2 hk)) m (List.mem_range.2 (by omega))
      obtain ⟨x, p, hx, hp, e1, e2⟩ := mvSame_spec h
      exact ⟨x, p, monoB k, hx, hp, id, mov_of (fun _ => rfl) (@good_sym noK (symM m x p) (@noK_ok (symM m x p)) (tabO tabA) (@tabA_sound (symM m x p)) 2000 _ _ _ e1 rfl rfl), mov_of (fun _ => rfl) (@good_sym noK (symM m x p) (@noK_ok (symM m x p)) (tabO tabA) (@tabA_sound (symM m x p)) 2000 _ _ _ e2 rfl rfl)⟩
end Go.Proofs.Ytmckaoeofikdaaa.Lift
