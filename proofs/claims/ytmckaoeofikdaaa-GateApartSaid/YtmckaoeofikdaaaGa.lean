import Derived.Test.YtmckaoeofikdaaaBase
namespace Go.Proofs.Ytmckaoeofikdaaa
open Go.RowKit

def kindsTo (k : Nat) : List Int := (List.range k).map (fun (i : Nat) => (i : Int) + 1)
theorem kindsTo_succ (k : Nat) : kindsTo (k + 1) = kindsTo k ++ [(k : Int) + 1] := by simp [kindsTo, List.range_succ]
theorem kindsTo_len (k : Nat) : (kindsTo k).length = k := by simp [kindsTo]

set_option maxHeartbeats 400000 in
set_option maxRecDepth 100000 in
theorem kinds_any (w : World) : Calls Try.prog 15 #[] w fun e w' => ∃ v, e = .returned v ∧ w'.ownsRow w.heap.size 27 1 v 20 ((kindsTo 20).map (.int .i64)) ∧ Below w.heap.size w w' := by
  obtain ⟨i0, hi, hz0, hz1, hz2⟩ := info_parts info27
  go_enter Try.func15, Try.ntmps15
  go_wp2
  go_loopw [1, 2] (fun v i wr => ∃ k : Nat, k ≤ 20 ∧ i = .int .i64 ((k : Int) + 1) ∧ wr.ownsRow w.heap.size 27 1 v k ((kindsTo k).map (.int .i64)) ∧ Below w.heap.size w wr) (fun _ i _ => 21 - (intOf i).toNat)
  case atStart => exact ⟨0, by omega, rfl, World.ownsRow_nil _ _ _ _, Below.refl _ _⟩
  case round =>
    obtain ⟨k, hk, rfl, hown, hb⟩ := hrel
    have hsz := hb.size
    by_cases hlt : k < 20
    · go_wp2_with (at_builtin; refine wpList_append_own _ rfl _ _ 25 rfl w.heap.size 27 i0 (.int .i64 0) 1 8 Try.underlying25 hi hz0 hz1 hz2 rfl (by decide) _ _ _ rfl (hown.alloc _) ⟨wr.heap.size, 0, none⟩ 1 1 [.int .i64 ((k : Int) + 1)] rfl rfl ?c1 ?c2 ?c3 ?c4 ?c5 ?_)
      case c1 => exact cell_one_new _ _ _
      case c2 => intro u hu; simp only [List.mem_singleton] at hu; subst hu; rfl
      case c3 => unfold maxLen; omega
      case c4 => omega
      case c5 => simp; omega
      intro v' w1 hown' hgrow _
      have hb1 : Below w.heap.size w w1 := (hb.alloc hsz _).grown hgrow (by simp; omega) (fun j hj => (hown.lt j hj).1)
      rw [← List.map_singleton, ← List.map_append, ← kindsTo_succ] at hown'
      clear hown hgrow hb
      go_wp2
      go_roundw
      case rel => exact ⟨k + 1, by omega, by go_num, hown', hb1⟩
      case measure => simp [intOf]; omega
    · have e : k = 20 := by omega
      subst e
      go_wp2
      go_ret
      exact ⟨_, rfl, hown, hb⟩

end Go.Proofs.Ytmckaoeofikdaaa
