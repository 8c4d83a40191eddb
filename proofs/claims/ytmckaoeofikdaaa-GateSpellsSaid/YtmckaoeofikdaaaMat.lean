/- The matrices of package gate, as pairs of whole numbers (twice the entries). -/
import Derived.Test.YtmckaoeofikdaaaCEq
import Derived.Test.YtmckaoeofikdaaaOrcD
import Derived.Test.YtmckaoeofikdaaaChk
namespace Go.Proofs.Ytmckaoeofikdaaa
open Go.RowKit Lift
set_option maxRecDepth 100000

def matL : List (List Zi) := [[(2, 0), (0, 0), (0, 0), (2, 0)],
  [(0, 0), (2, 0), (2, 0), (0, 0)],
  [(0, 0), (0, -2), (0, 2), (0, 0)],
  [(2, 0), (0, 0), (0, 0), (-2, 0)],
  [(2, 0), (0, 0), (0, 0), (0, 2)],
  [(2, 0), (0, 0), (0, 0), (0, -2)],
  [(1, 1), (1, -1), (1, -1), (1, 1)],
  [(1, -1), (1, 1), (1, 1), (1, -1)],
  [(1, 1), (-1, -1), (1, 1), (1, 1)],
  [(1, -1), (1, -1), (-1, 1), (1, -1)],
  [(2, 0), (0, 0), (0, 0), (0, 0), (0, 0), (0, 0), (0, 0), (2, 0), (0, 0), (0, 0), (2, 0), (0, 0), (0, 0), (2, 0), (0, 0), (0, 0)],
  [(2, 0), (0, 0), (0, 0), (0, 0), (0, 0), (0, 0), (0, 0), (0, -2), (0, 0), (0, 0), (2, 0), (0, 0), (0, 0), (0, 2), (0, 0), (0, 0)],
  [(2, 0), (0, 0), (0, 0), (0, 0), (0, 0), (2, 0), (0, 0), (0, 0), (0, 0), (0, 0), (2, 0), (0, 0), (0, 0), (0, 0), (0, 0), (-2, 0)],
  [(2, 0), (0, 0), (0, 0), (0, 0), (0, 0), (0, 0), (2, 0), (0, 0), (0, 0), (2, 0), (0, 0), (0, 0), (0, 0), (0, 0), (0, 0), (2, 0)],
  [(2, 0), (0, 0), (0, 0), (0, 0), (0, 0), (0, 0), (0, 2), (0, 0), (0, 0), (0, 2), (0, 0), (0, 0), (0, 0), (0, 0), (0, 0), (2, 0)],
  [(2, 0), (0, 0), (0, 0), (0, 0), (0, 0), (0, 0), (0, -2), (0, 0), (0, 0), (0, -2), (0, 0), (0, 0), (0, 0), (0, 0), (0, 0), (2, 0)],
  [(1, 0), (1, 0), (1, 0), (1, 0), (1, 0), (-1, 0), (1, 0), (-1, 0), (1, 0), (1, 0), (-1, 0), (-1, 0), (1, 0), (-1, 0), (-1, 0), (1, 0)],
  [(2, 0), (0, 0), (0, 0), (0, 0), (0, 0), (0, 0), (0, 0), (0, 0), (0, 0), (2, 0), (0, 0), (0, 0), (0, 0), (0, 0), (0, 0), (0, 0), (0, 0), (0, 0), (2, 0), (0, 0), (0, 0), (0, 0), (0, 0), (0, 0), (0, 0), (0, 0), (0, 0), (0, 0), (0, 0), (0, 0), (0, 0), (2, 0), (0, 0), (0, 0), (0, 0), (0, 0), (2, 0), (0, 0), (0, 0), (0, 0), (0, 0), (0, 0), (0, 0), (0, 0), (0, 0), (2, 0), (0, 0), (0, 0), (0, 0), (0, 0), (0, 0), (0, 0), (0, 0), (0, 0), (2, 0), (0, 0), (0, 0), (0, 0), (0, 0), (2, 0), (0, 0), (0, 0), (0, 0), (0, 0)],
  [(2, 0), (0, 0), (0, 0), (0, 0), (0, 0), (0, 0), (0, 0), (0, 0), (0, 0), (2, 0), (0, 0), (0, 0), (0, 0), (0, 0), (0, 0), (0, 0), (0, 0), (0, 0), (2, 0), (0, 0), (0, 0), (0, 0), (0, 0), (0, 0), (0, 0), (0, 0), (0, 0), (2, 0), (0, 0), (0, 0), (0, 0), (0, 0), (0, 0), (0, 0), (0, 0), (0, 0), (2, 0), (0, 0), (0, 0), (0, 0), (0, 0), (0, 0), (0, 0), (0, 0), (0, 0), (2, 0), (0, 0), (0, 0), (0, 0), (0, 0), (0, 0), (0, 0), (0, 0), (0, 0), (2, 0), (0, 0), (0, 0), (0, 0), (0, 0), (0, 0), (0, 0), (0, 0), (0, 0), (-2, 0)],
  [(2, 0), (0, 0), (0, 0), (0, 0), (0, 0), (0, 0), (0, 0), (0, 0), (0, 0), (2, 0), (0, 0), (0, 0), (0, 0), (0, 0), (0, 0), (0, 0), (0, 0), (0, 0), (2, 0), (0, 0), (0, 0), (0, 0), (0, 0), (0, 0), (0, 0), (0, 0), (0, 0), (0, 0), (0, 0), (2, 0), (0, 0), (0, 0), (0, 0), (0, 0), (0, 0), (0, 0), (2, 0), (0, 0), (0, 0), (0, 0), (0, 0), (0, 0), (0, 0), (2, 0), (0, 0), (0, 0), (0, 0), (0, 0), (0, 0), (0, 0), (0, 0), (0, 0), (0, 0), (0, 0), (2, 0), (0, 0), (0, 0), (0, 0), (0, 0), (0, 0), (0, 0), (0, 0), (0, 0), (2, 0)]]

/-- Twice the number that a word is. -/
def zOf (x : Nat) : Option Int :=
  if x = 0 then some 0 else if x = 9223372036854775808 then some 0 else if x = 4607182418800017408 then some 2 else if x = 13830554455654793216 then some (-2) else if x = 4602678819172646912 then some 1 else if x = 13826050856027422720 then some (-1) else none
theorem read_f (x : Nat) (neg : Bool) (m : Nat) (p : Int) (n : Int) (h : Ieee.double.read x = .number neg m p) (hp : -1074 ≤ p) (hv : Fp.sgn neg m * (2 ^ (p + 1074).toNat : Nat) = n * (2 ^ (1074 - 1) : Nat)) : Fp.IsF x 1 n := ⟨by decide, neg, m, p, h, hp, hv⟩
theorem zOf_ok {x : Nat} {n : Int} (h : zOf x = some n) : Fp.IsF x 1 n := by
  unfold zOf at h
  split at h
  · rename_i e; cases h; subst e; exact read_f 0 false 0 (-1074) 0 (by decide +kernel) (by decide) (by decide +kernel)
  split at h
  · rename_i e; cases h; subst e; exact read_f _ true 0 (-1074) 0 (by decide +kernel) (by decide) (by decide +kernel)
  split at h
  · rename_i e; cases h; subst e; exact read_f _ false (2 ^ 52) (-52) 2 (by decide +kernel) (by decide) (by decide +kernel)
  split at h
  · rename_i e; cases h; subst e; exact read_f _ true (2 ^ 52) (-52) (-2) (by decide +kernel) (by decide) (by decide +kernel)
  split at h
  · rename_i e; cases h; subst e; exact read_f _ false (2 ^ 52) (-53) 1 (by decide +kernel) (by decide) (by decide +kernel)
  split at h
  · rename_i e; cases h; subst e; exact read_f _ true (2 ^ 52) (-53) (-1) (by decide +kernel) (by decide) (by decide +kernel)
  · cases h
def cz (v : Value) : Option Zi :=
  match v with
  | .complex .f64 a b =>
    match zOf a, zOf b with
    | some x, some y => some (x, y)
    | _, _ => none
  | _ => none
theorem cz_ok {v : Value} {z : Zi} (h : cz v = some z) : ∃ x y, v = .complex .f64 x y ∧ IsC x y 1 z := by
  unfold cz at h
  split at h
  · rename_i a b
    split at h
    · rename_i x y h1 h2
      cases h
      exact ⟨a, b, rfl, zOf_ok h1, zOf_ok h2⟩
    · cases h
  · cases h

/-- The side of a kind's matrix, its entries. -/
def sideF (k : Int) : Nat := pick [2, 2, 2, 2, 2, 2, 2, 2, 2, 2, 4, 4, 4, 4, 4, 4, 4, 8, 8, 8] 0 k
def matF (k : Int) : Nat → Zi := fun i => (pick matL [] k).getD i (0, 0)

/-- What Matrix answers of a kind. -/
def MatPost (n : Nat) (A : Nat → Zi) (w : World) (e : Ending) (w' : World) : Prop :=
  ∃ b, e = .returned (.tuple #[.agg #[.int .i64 n, .slice (some ⟨b, 0, none⟩) (n * n) (n * n)], .int .i64 0]) ∧ w.heap.size ≤ b ∧ b < w'.heap.size ∧ HoldsC w' b (n * n) 1 A ∧ Below w.heap.size w w'

/-- The row of an entry. -/
def entOk (e : Ent) (k : Int) (n : Nat) (l : List Zi) : Prop :=
  ∃ (j : Nat) (cells : List Value), e.rows[j]? = some ⟨49, cells, 1, true, true⟩ ∧ e.args = [.int .i64 k] ∧ e.val = .tuple #[.agg #[.int .i64 (n : Nat), .slice (some ⟨j, 0, none⟩) (n * n) (n * n + 1)], .int .i64 0] ∧ cells.map cz = l.map some ∧ l.length = n * n

theorem mat_of {e : Ent} {k : Int} {n : Nat} {l : List Zi} (he : entOk e k n l) (hg : @Lift.Good noS 40 e) (w : World) : Calls Try.prog 40 #[.int .i64 k] w (MatPost n (fun i => l.getD i (0, 0)) w) := by
  obtain ⟨j, cells, h1, ha, hv, hc, hl⟩ := he
  have h := hg env0 w w.heap.size (HRel.empty env0 w)
  rw [ha] at h
  refine h.mono fun x w' hx => ?_
  cases x with
  | returned r =>
    obtain ⟨ρ', rfl, hH, _, hB, _, _⟩ := hx
    obtain ⟨hoff, hbl, _, cur, hcur, _⟩ := hH.own j _ h1 rfl rfl
    refine ⟨(ρ' j).block, ?_, hbl, (Array.getElem?_eq_some_iff.1 hcur).1, fun i hi => ?_, hB⟩
    · rw [hv]
      simp [ren3, ren2, ren1, renA, hoff]
    · have hlen : cells.length = l.length := by have := congrArg List.length hc; simpa using this
      have hi' : i < cells.length := by rw [hlen, hl]; exact hi
      have h2 := hH.cellAt h1 rfl (i := i) (v := cells[i]) (by simp [hi'])
      rw [hoff, Nat.zero_add] at h2
      have h3 : (cells.map cz)[i]? = (l.map some)[i]? := by rw [hc]
      rw [List.getElem?_map, List.getElem?_map, List.getElem?_eq_getElem hi', List.getElem?_eq_getElem (by omega)] at h3
      simp only [Option.map_some, Option.some.injEq] at h3
      obtain ⟨x, y, h4, h5⟩ := cz_ok h3
      rw [h4] at h2
      refine ⟨x, y, h2, ?_⟩
      show IsC x y 1 (l.getD i (0, 0))
      rw [List.getD_eq_getElem?_getD, List.getElem?_eq_getElem (by omega)]
      exact h5
  | _ => exact hx.elim

theorem ent1 : entOk matB1 1 2 (matL.getD 0 []) := ⟨1, _, rfl, rfl, rfl, by decide +kernel, by decide +kernel⟩
theorem ent2 : entOk matB2 2 2 (matL.getD 1 []) := ⟨1, _, rfl, rfl, rfl, by decide +kernel, by decide +kernel⟩
theorem ent3 : entOk matB3 3 2 (matL.getD 2 []) := ⟨1, _, rfl, rfl, rfl, by decide +kernel, by decide +kernel⟩
theorem ent4 : entOk matB4 4 2 (matL.getD 3 []) := ⟨1, _, rfl, rfl, rfl, by decide +kernel, by decide +kernel⟩
theorem ent5 : entOk matB5 5 2 (matL.getD 4 []) := ⟨1, _, rfl, rfl, rfl, by decide +kernel, by decide +kernel⟩
theorem ent6 : entOk matB6 6 2 (matL.getD 5 []) := ⟨1, _, rfl, rfl, rfl, by decide +kernel, by decide +kernel⟩
theorem ent7 : entOk matB7 7 2 (matL.getD 6 []) := ⟨1, _, rfl, rfl, rfl, by decide +kernel, by decide +kernel⟩
theorem ent8 : entOk matB8 8 2 (matL.getD 7 []) := ⟨1, _, rfl, rfl, rfl, by decide +kernel, by decide +kernel⟩
theorem ent9 : entOk matB9 9 2 (matL.getD 8 []) := ⟨1, _, rfl, rfl, rfl, by decide +kernel, by decide +kernel⟩
theorem ent10 : entOk matB10 10 2 (matL.getD 9 []) := ⟨1, _, rfl, rfl, rfl, by decide +kernel, by decide +kernel⟩
theorem ent11 : entOk matB11 11 4 (matL.getD 10 []) := ⟨1, _, rfl, rfl, rfl, by decide +kernel, by decide +kernel⟩
theorem ent12 : entOk matB12 12 4 (matL.getD 11 []) := ⟨1, _, rfl, rfl, rfl, by decide +kernel, by decide +kernel⟩
theorem ent13 : entOk matB13 13 4 (matL.getD 12 []) := ⟨1, _, rfl, rfl, rfl, by decide +kernel, by decide +kernel⟩
theorem ent14 : entOk matB14 14 4 (matL.getD 13 []) := ⟨1, _, rfl, rfl, rfl, by decide +kernel, by decide +kernel⟩
theorem ent15 : entOk matB15 15 4 (matL.getD 14 []) := ⟨1, _, rfl, rfl, rfl, by decide +kernel, by decide +kernel⟩
theorem ent16 : entOk matB16 16 4 (matL.getD 15 []) := ⟨1, _, rfl, rfl, rfl, by decide +kernel, by decide +kernel⟩
theorem ent17 : entOk matB17 17 4 (matL.getD 16 []) := ⟨1, _, rfl, rfl, rfl, by decide +kernel, by decide +kernel⟩
theorem ent18 : entOk matB18 18 8 (matL.getD 17 []) := ⟨1, _, rfl, rfl, rfl, by decide +kernel, by decide +kernel⟩
theorem ent19 : entOk matB19 19 8 (matL.getD 18 []) := ⟨1, _, rfl, rfl, rfl, by decide +kernel, by decide +kernel⟩
theorem ent20 : entOk matB20 20 8 (matL.getD 19 []) := ⟨1, _, rfl, rfl, rfl, by decide +kernel, by decide +kernel⟩

theorem matrix_any (k : Int) (h1 : 1 ≤ k) (h2 : k ≤ 20) (w : World) : Calls Try.prog 40 #[.int .i64 k] w (MatPost (sideF k) (matF k) w) := by
  have h : k = 1 ∨ k = 2 ∨ k = 3 ∨ k = 4 ∨ k = 5 ∨ k = 6 ∨ k = 7 ∨ k = 8 ∨ k = 9 ∨ k = 10 ∨ k = 11 ∨ k = 12 ∨ k = 13 ∨ k = 14 ∨ k = 15 ∨ k = 16 ∨ k = 17 ∨ k = 18 ∨ k = 19 ∨ k = 20 := by omega
  rcases h with rfl | rfl | rfl | rfl | rfl | rfl | rfl | rfl | rfl | rfl | rfl | rfl | rfl | rfl | rfl | rfl | rfl | rfl | rfl | rfl
  · exact mat_of ent1 (@matB1_good noS) w
  · exact mat_of ent2 (@matB2_good noS) w
  · exact mat_of ent3 (@matB3_good noS) w
  · exact mat_of ent4 (@matB4_good noS) w
  · exact mat_of ent5 (@matB5_good noS) w
  · exact mat_of ent6 (@matB6_good noS) w
  · exact mat_of ent7 (@matB7_good noS) w
  · exact mat_of ent8 (@matB8_good noS) w
  · exact mat_of ent9 (@matB9_good noS) w
  · exact mat_of ent10 (@matB10_good noS) w
  · exact mat_of ent11 (@matB11_good noS) w
  · exact mat_of ent12 (@matB12_good noS) w
  · exact mat_of ent13 (@matB13_good noS) w
  · exact mat_of ent14 (@matB14_good noS) w
  · exact mat_of ent15 (@matB15_good noS) w
  · exact mat_of ent16 (@matB16_good noS) w
  · exact mat_of ent17 (@matB17_good noS) w
  · exact mat_of ent18 (@matB18_good noS) w
  · exact mat_of ent19 (@matB19_good noS) w
  · exact mat_of ent20 (@matB20_good noS) w

theorem matrix_none (k : Int) (hk : (Lit.int .i64 k).wf = true) (h : k < 1 ∨ 20 < k) (w : World) : Calls Try.prog 40 #[.int .i64 k] w fun e w' => e = .returned (.tuple #[.agg #[.int .i64 0, .slice none 0 0], .int .i64 60]) ∧ Below w.heap.size w w' :=
  kind_none rfl (by kernel_rfl) (by kernel_rfl) k hk h w
theorem all_small : (matL.all fun l => l.all fun z => decide (z.1.natAbs ≤ 2) && decide (z.2.natAbs ≤ 2)) = true := by decide +kernel
theorem matF_small (k : Int) (i : Nat) : Small (matF k i) 2 := by
  have z0 : Small ((0, 0) : Zi) 2 := ⟨by decide, by decide⟩
  have key : ∀ l ∈ matL, Small (l.getD i (0, 0)) 2 := fun l hl => by
    rw [List.getD_eq_getElem?_getD]
    cases h : l[i]? with
    | none => exact z0
    | some z =>
      have := List.all_eq_true.1 (List.all_eq_true.1 all_small l hl) z (List.mem_of_getElem? h)
      simp only [Bool.and_eq_true, decide_eq_true_eq] at this
      exact this
  unfold matF pick
  split
  · rw [List.getD_eq_getElem?_getD (l := matL)]
    cases h : matL[(k - 1).toNat]? with
    | none => exact z0
    | some l => exact key l (List.mem_of_getElem? h)
  · exact z0
end Go.Proofs.Ytmckaoeofikdaaa
