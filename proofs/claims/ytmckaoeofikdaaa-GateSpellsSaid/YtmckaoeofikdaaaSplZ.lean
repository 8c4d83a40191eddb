/- gate.Word's function that asks whether a matrix is found already; slices.IndexFunc and ContainsFunc with it. -/
import Derived.Test.YtmckaoeofikdaaaSplC
import Derived.Test.YtmckaoeofikdaaaWLast
import Derived.Test.YtmckaoeofikdaaaWMore
import Derived.Test.YtmckaoeofikdaaaChkW
namespace Go.Proofs.Ytmckaoeofikdaaa.Lift
open Go.Proofs.Ytmckaoeofikdaaa.Spl
open Go.RowKit

/-- Place j of the row of what is found: a matrix in a block, a word's kinds. -/
structure Plc (W : World) (g j : Nat) (e ce : Nat) (aw : Option Addr) (cw : Nat) : Prop where
  c0 : W.cell? ⟨g, j * 3, none⟩ = some (.int .i64 2)
  c1 : W.cell? ⟨g, j * 3 + 1, none⟩ = some (.slice (some ⟨e, 0, none⟩) 4 ce)
  c2 : W.cell? ⟨g, j * 3 + 2, none⟩ = some (.slice aw (word j).length cw)
  h : HoldsC W e 4 1 (toZ (at_ j))
  lt : e < W.heap.size
set_option maxHeartbeats 4000000 in
set_option maxRecDepth 1000000 in
theorem wordfn_any (e ce bp ep cp : Nat) (a : Option Addr) (n c : Nat) (A B : Nat → Zi) (W : World) (hA : HoldsC W e 4 1 A) (hB : HoldsC W ep 4 1 B) (hp : W.cell? ⟨bp, 1, none⟩ = some (.slice (some ⟨ep, 0, none⟩) 4 cp)) (hb : bp < W.heap.size) :
    Calls Try.prog 89 #[.agg #[.int .i64 2, .slice (some ⟨e, 0, none⟩) 4 ce, .slice a n c], .pointer (some ⟨bp, 0, none⟩)] W fun r w' => r = .returned (.bool (sameM 4 A B)) ∧ Below W.heap.size W w' := by
  have HA := Lib.hid (HoldsC.below hA ((Below.refl W.heap.size W).alloc (Nat.le_refl _) (.cells #[.int .i64 2, .slice (some ⟨e, 0, none⟩) 4 ce, .slice a n c] 115)))
  have HB := Lib.hid (HoldsC.below hB ((Below.refl W.heap.size W).alloc (Nat.le_refl _) (.cells #[.int .i64 2, .slice (some ⟨e, 0, none⟩) 4 ce, .slice a n c] 115)))
  clear hA hB
  go_enter Try.func89, Try.ntmps89
  go_wp2_with (go_at_call 74; (with_reducible refine (cequal_any 4 1 e ep ce cp (by decide) A B _ HA.out HB.out).mono ?_); rintro r w1 ⟨rfl, hd⟩)
  go_ret
  exact ⟨rfl, ((Below.refl W.heap.size W).alloc (Nat.le_refl _) _).trans (hd.below.mono (by simp))⟩
/-- The place of the first matrix that is the one asked for; -1: none. -/
def idxW (j0 n : Nat) : Int := if j0 < n then j0 else -1
set_option maxHeartbeats 4000000 in
set_option maxRecDepth 1000000 in
theorem wordidx_any (g cap n bp ep cp j0 : Nat) (hn : n ≤ 96) (hj0 : j0 < 96) (W : World) (hP : ∀ j, j < n → ∃ e ce aw cw, Plc W g j e ce aw cw) (hB : HoldsC W ep 4 1 (toZ (at_ j0))) (hp : W.cell? ⟨bp, 1, none⟩ = some (.slice (some ⟨ep, 0, none⟩) 4 cp)) (hb : bp < W.heap.size) :
    Calls Try.prog 104 #[.slice (some ⟨g, 0, none⟩) n cap, .func (.func 89) #[] #[.pointer (some ⟨bp, 0, none⟩)]] W fun r w' => r = .returned (.int .i64 (idxW j0 n)) ∧ Below W.heap.size W w' := by
  have HP := Lib.hid hP
  have HB := Lib.hid hB
  have HPB := Lib.hid hp
  have HBB := Lib.hid hb
  have HN := Lib.hid hn
  have HJ := Lib.hid hj0
  clear hP hB hp hb hn hj0
  go_enter Try.func104, Try.ntmps104
  go_wp2
  have H0 := Lib.hid (Below.refl W.heap.size W)
  go_loopg [8] n (fun gk v8 wr => ∃ q : Nat, q ≤ n ∧ n - q ≤ gk ∧ v8 = .int .i64 (q : Int) ∧ Hid (∀ j, j < q → j ≠ j0) ∧ Hid (Below W.heap.size W wr))
  case atStart => exact ⟨0, by omega, by omega, by go_num, Lib.hid (fun j hj => by omega), H0⟩
  case round =>
    obtain ⟨q, hq0, hq1, rfl, HQ, HW⟩ := hrel
    have hn96 := HN.out
    by_cases hlt : q < n
    · obtain ⟨e, ce, aw, cw, hP⟩ := HP.out q hlt
      have a0 : wr.cell? ⟨g, q * 3, none⟩ = some (.int .i64 2) := (HW.out.cell (World.block_lt_of_cell? _ _ hP.c0)).trans hP.c0
      have a1 : wr.cell? ⟨g, q * 3 + 1, none⟩ = some (.slice (some ⟨e, 0, none⟩) 4 ce) := (HW.out.cell (World.block_lt_of_cell? _ _ hP.c1)).trans hP.c1
      have a2 : wr.cell? ⟨g, q * 3 + 2, none⟩ = some (.slice aw (word q).length cw) := (HW.out.cell (World.block_lt_of_cell? _ _ hP.c2)).trans hP.c2
      have hbp : wr.cell? ⟨bp, 1, none⟩ = some (.slice (some ⟨ep, 0, none⟩) 4 cp) := (HW.out.cell HBB.out).trans HPB.out
      have HF := Lib.hid (wordfn_any e ce bp ep cp aw (word q).length cw (toZ (at_ q)) (toZ (at_ j0)) wr (HoldsC.below hP.h HW.out) (HoldsC.below HB.out HW.out) hbp (Nat.lt_of_lt_of_le HBB.out HW.out.size))
      have hs : sameM 4 (toZ (at_ q)) (toZ (at_ j0)) = decide (q = j0) := by
        have h := at_same ⟨q, by omega⟩ ⟨j0, HJ.out⟩
        simp only [Fin.mk.injEq] at h
        exact h
      rw [hs] at HF
      clear hs hbp hP
      by_cases hj : q = j0
      · have HR := Lib.hid (show idxW j0 n = (q : Int) by unfold idxW; rw [if_pos (by omega)]; omega)
        rw [decide_eq_true hj] at HF
        clear hj
        go_wp2_with (go_at_call 89; (with_reducible refine HF.out.mono ?_); rintro r w1 ⟨rfl, hb1⟩)
        go_ret
        exact ⟨by rw [HR.out]; rfl, HW.out.trans (hb1.mono HW.out.size)⟩
      · have HQ2 := Lib.hid (show ∀ j, j < q + 1 → j ≠ j0 from fun j hj1 e => by
          rcases Nat.lt_succ_iff_lt_or_eq.1 hj1 with h | h
          · exact HQ.out j h e
          · exact hj (h.symm.trans e))
        rw [decide_eq_false hj] at HF
        clear hj
        go_wp2_with (go_at_call 89; (with_reducible refine HF.out.mono ?_); rintro r w1 ⟨rfl, hb1⟩; have HW1 := Lib.hid (HW.out.trans (hb1.mono HW.out.size)); clear hb1)
        go_roundg (n - (q + 1))
        case measure => omega
        case rel => exact ⟨q + 1, by omega, by omega, by go_num, HQ2, HW1⟩
    · have HR := Lib.hid (show idxW j0 n = -1 by unfold idxW; rw [if_neg (fun h => HQ.out j0 (by omega) rfl)])
      go_wp2
      go_ret
      exact ⟨by rw [HR.out]; rfl, HW.out⟩
set_option maxHeartbeats 4000000 in
set_option maxRecDepth 1000000 in
theorem wordhas_any (g cap n bp ep cp j0 : Nat) (hn : n ≤ 96) (hj0 : j0 < 96) (W : World) (hP : ∀ j, j < n → ∃ e ce aw cw, Plc W g j e ce aw cw) (hB : HoldsC W ep 4 1 (toZ (at_ j0))) (hp : W.cell? ⟨bp, 1, none⟩ = some (.slice (some ⟨ep, 0, none⟩) 4 cp)) (hb : bp < W.heap.size) :
    Calls Try.prog 88 #[.slice (some ⟨g, 0, none⟩) n cap, .func (.func 89) #[] #[.pointer (some ⟨bp, 0, none⟩)]] W fun r w' => r = .returned (.bool (decide (j0 < n))) ∧ Below W.heap.size W w' := by
  have HI := Lib.hid (wordidx_any g cap n bp ep cp j0 hn hj0 W hP hB hp hb)
  have HD := Lib.hid (show decide ((0 : Int) ≤ idxW j0 n) = decide (j0 < n) by
    unfold idxW
    by_cases h : j0 < n
    · rw [if_pos h, decide_eq_true h, decide_eq_true (by omega)]
    · rw [if_neg h, decide_eq_false h]; rfl)
  clear hP hB hp hb hn hj0
  go_enter Try.func88, Try.ntmps88
  go_wp2_with (go_at_call 104; (with_reducible refine HI.out.mono ?_); rintro r w1 ⟨rfl, hb1⟩)
  go_ret
  exact ⟨by rw [← HD.out]; rfl, hb1⟩
end Go.Proofs.Ytmckaoeofikdaaa.Lift

/-! The law's own product of two matrices of two rows; slices.Clip. -/
namespace Go.Proofs.Ytmckaoeofikdaaa.Lift
open Go.Proofs.Ytmckaoeofikdaaa.Spl
open Go.RowKit

set_option maxHeartbeats 4000000 in
set_option maxRecDepth 1000000 in
theorem clip_any (a : Addr) (n c : Nat) (W : World) (hn : n ≤ c) :
    Calls Try.prog 90 #[.slice (some a) n c] W fun r w' => r = .returned (.slice (some a) n n) ∧ Below W.heap.size W w' := by
  have h1 : (n : Int) ≤ (c : Int) := by omega
  go_enter Try.func90, Try.ntmps90
  go_wp2
  go_ret
  exact ⟨rfl, Below.refl _ _⟩
set_option maxHeartbeats 4000000 in
set_option maxRecDepth 1000000 in
theorem clip_nil (W : World) :
    Calls Try.prog 90 #[.slice none 0 0] W fun r w' => r = .returned (.slice none 0 0) ∧ Below W.heap.size W w' := by
  go_enter Try.func90, Try.ntmps90
  go_wp2
  go_ret
  exact ⟨rfl, Below.refl _ _⟩
end Go.Proofs.Ytmckaoeofikdaaa.Lift

/-! The law's own product of two matrices of two rows. -/
namespace Go.Proofs.Ytmckaoeofikdaaa.Lift
open Go.Proofs.Ytmckaoeofikdaaa.Spl
open Go.RowKit Go.Proofs.YtmckaoeofikdaaaW.PrintWords Go.Proofs.YtmckaoeofikdaaaW.PrintLast Go.Proofs.YtmckaoeofikdaaaW.PrintMore

theorem mulM_two (A B : Nat → Zi) : mulM 2 A B 0 = zadd (zmul (A 0) (B 0)) (zmul (A 1) (B 2)) ∧ mulM 2 A B 1 = zadd (zmul (A 0) (B 1)) (zmul (A 1) (B 3)) ∧ mulM 2 A B 2 = zadd (zmul (A 2) (B 0)) (zmul (A 3) (B 2)) ∧ mulM 2 A B 3 = zadd (zmul (A 2) (B 1)) (zmul (A 3) (B 3)) := by
  have z : ∀ x : Zi, zadd (0, 0) x = x := fun x => by simp [zadd]
  unfold mulM
  refine ⟨?_, ?_, ?_, ?_⟩ <;> (rw [psum_succ, psum_succ, psum_zero, z])
set_option maxHeartbeats 8000000 in
set_option maxRecDepth 1000000 in
theorem ltimes_any (ba bb ca cb : Nat) (A B : Nat → Zi) (W : World) (hA : HoldsC W ba 4 1 A) (hB : HoldsC W bb 4 1 B) (sA : ∀ i, i < 4 → Small (A i) 2) (sB : ∀ i, i < 4 → Small (B i) 2) :
    Calls Try.prog 55 #[.slice (some ⟨ba, 0, none⟩) 4 ca, .slice (some ⟨bb, 0, none⟩) 4 cb] W fun r w' => ∃ be, r = .returned (.slice (some ⟨be, 0, none⟩) 4 4) ∧ HoldsC w' be 4 2 (mulM 2 A B) ∧ W.heap.size ≤ be ∧ Below W.heap.size W w' := by
  obtain ⟨x0, y0, a0, i0⟩ := hA 0 (by omega)
  obtain ⟨x1, y1, a1, i1⟩ := hA 1 (by omega)
  obtain ⟨x2, y2, a2, i2⟩ := hA 2 (by omega)
  obtain ⟨x3, y3, a3, i3⟩ := hA 3 (by omega)
  obtain ⟨u0, v0, b0, j0⟩ := hB 0 (by omega)
  obtain ⟨u1, v1, b1, j1⟩ := hB 1 (by omega)
  obtain ⟨u2, v2, b2, j2⟩ := hB 2 (by omega)
  obtain ⟨u3, v3, b3, j3⟩ := hB 3 (by omega)
  obtain ⟨m0, n0, p0, z0⟩ := mulC i0 j0 (by omega) (sA 0 (by omega)) (sB 0 (by omega)) (by decide)
  obtain ⟨m1, n1, p1, z1⟩ := mulC i1 j2 (by omega) (sA 1 (by omega)) (sB 2 (by omega)) (by decide)
  obtain ⟨m2, n2, p2, z2⟩ := mulC i0 j1 (by omega) (sA 0 (by omega)) (sB 1 (by omega)) (by decide)
  obtain ⟨m3, n3, p3, z3⟩ := mulC i1 j3 (by omega) (sA 1 (by omega)) (sB 3 (by omega)) (by decide)
  obtain ⟨m4, n4, p4, z4⟩ := mulC i2 j0 (by omega) (sA 2 (by omega)) (sB 0 (by omega)) (by decide)
  obtain ⟨m5, n5, p5, z5⟩ := mulC i3 j2 (by omega) (sA 3 (by omega)) (sB 2 (by omega)) (by decide)
  obtain ⟨m6, n6, p6, z6⟩ := mulC i2 j1 (by omega) (sA 2 (by omega)) (sB 1 (by omega)) (by decide)
  obtain ⟨m7, n7, p7, z7⟩ := mulC i3 j3 (by omega) (sA 3 (by omega)) (sB 3 (by omega)) (by decide)
  have sm : ∀ {a b c d : Nat}, a < 4 → b < 4 → c < 4 → d < 4 → Small (zadd (zmul (A a) (B b)) (zmul (A c) (B d))) (2 ^ 50) := fun ha hb hc hd =>
    Small.mono (Small.add (Small.mul (sA _ ha) (sB _ hb)) (Small.mul (sA _ hc) (sB _ hd))) (by decide)
  obtain ⟨s0, t0, q0, r0⟩ := addC z0 z1 (sm (by omega) (by omega) (by omega) (by omega))
  obtain ⟨s1, t1, q1, r1⟩ := addC z2 z3 (sm (by omega) (by omega) (by omega) (by omega))
  obtain ⟨s2, t2, q2, r2⟩ := addC z4 z5 (sm (by omega) (by omega) (by omega) (by omega))
  obtain ⟨s3, t3, q3, r3⟩ := addC z6 z7 (sm (by omega) (by omega) (by omega) (by omega))
  have rm0 := fun t w => run_complex_mul (P := Try.prog) w t x0 y0 u0 v0 m0 n0 p0
  have rm1 := fun t w => run_complex_mul (P := Try.prog) w t x1 y1 u2 v2 m1 n1 p1
  have rm2 := fun t w => run_complex_mul (P := Try.prog) w t x0 y0 u1 v1 m2 n2 p2
  have rm3 := fun t w => run_complex_mul (P := Try.prog) w t x1 y1 u3 v3 m3 n3 p3
  have rm4 := fun t w => run_complex_mul (P := Try.prog) w t x2 y2 u0 v0 m4 n4 p4
  have rm5 := fun t w => run_complex_mul (P := Try.prog) w t x3 y3 u2 v2 m5 n5 p5
  have rm6 := fun t w => run_complex_mul (P := Try.prog) w t x2 y2 u1 v1 m6 n6 p6
  have rm7 := fun t w => run_complex_mul (P := Try.prog) w t x3 y3 u3 v3 m7 n7 p7
  have ra0 := fun t w => run_complex_sum (P := Try.prog) w .add (.inl rfl) t .f64 m0 n0 m1 n1 s0 t0 q0
  have ra1 := fun t w => run_complex_sum (P := Try.prog) w .add (.inl rfl) t .f64 m2 n2 m3 n3 s1 t1 q1
  have ra2 := fun t w => run_complex_sum (P := Try.prog) w .add (.inl rfl) t .f64 m4 n4 m5 n5 s2 t2 q2
  have ra3 := fun t w => run_complex_sum (P := Try.prog) w .add (.inl rfl) t .f64 m6 n6 m7 n7 s3 t3 q3
  have R0 := Lib.hid r0
  have R1 := Lib.hid r1
  have R2 := Lib.hid r2
  have R3 := Lib.hid r3
  clear p0 p1 p2 p3 p4 p5 p6 p7 q0 q1 q2 q3 r0 r1 r2 r3
  have HD := Lib.hid ((Below.refl W.heap.size W).drew)
  go_enter Try.func55, Try.ntmps55
  go_upto_region 1 with fail
  clear hA hB sA sB sm i0 i1 i2 i3 j0 j1 j2 j3 z0 z1 z2 z3 z4 z5 z6 z7
  refine start_ (n := 62) (S := fun w' => w'.cell? ⟨ba, 0, none⟩ = some (.complex .f64 x0 y0) ∧ w'.cell? ⟨ba, 1, none⟩ = some (.complex .f64 x1 y1) ∧ w'.cell? ⟨ba, 2, none⟩ = some (.complex .f64 x2 y2) ∧ w'.cell? ⟨ba, 3, none⟩ = some (.complex .f64 x3 y3) ∧ w'.cell? ⟨bb, 0, none⟩ = some (.complex .f64 u0 v0) ∧ w'.cell? ⟨bb, 1, none⟩ = some (.complex .f64 u1 v1) ∧ w'.cell? ⟨bb, 2, none⟩ = some (.complex .f64 u2 v2) ∧ w'.cell? ⟨bb, 3, none⟩ = some (.complex .f64 u3 v3)) (ds := [60, 61]) #[false, false, false, false, false, false, false, false, false, false, false, false, false, false, false, false, false, false, false, false, false, false, false, false, false, false, false, false, false, false, false, false, false, false, false, false, false, false, false, false, false, false, false, false, false, false, false, false, false, false, false, false, false, false, false, false, false, false, false, false, false, false] (by kernel_rfl) rfl rfl ⟨a0, a1, a2, a3, b0, b1, b2, b3⟩ (fun hHeld => ?_)
  generalize W.drew = wd at HD hHeld ⊢
  refine pure_ (i := 0) (N := some 5) (v := ?_) (a' := ?_) #[true, false, false, false, false, false, false, false, false, false, false, false, false, false, false, false, false, false, false, false, false, false, false, false, false, false, false, false, false, false, false, false, false, false, false, false, false, false, false, false, false, false, false, false, false, false, false, false, false, false, false, false, false, false, false, false, false, false, false, false, false, false] rfl rfl (by kernel_rfl) (fun _ _ _ h => h) (Or.inl ⟨by rfl, ?_⟩) ?_ ?_
  rotate_left
  · intro w'
    go_simp
    with_reducible rfl
  rotate_left
  · simp only [Act.put, List.setIfInBounds_toArray, List.set_cons_zero, List.set_cons_succ]
    rfl
  refine pure_ (i := 1) (N := some 6) (v := ?_) (a' := ?_) #[true, true, false, false, false, false, false, false, false, false, false, false, false, false, false, false, false, false, false, false, false, false, false, false, false, false, false, false, false, false, false, false, false, false, false, false, false, false, false, false, false, false, false, false, false, false, false, false, false, false, false, false, false, false, false, false, false, false, false, false, false, false] rfl rfl (by kernel_rfl) (fun _ _ _ h => h) (Or.inl ⟨by rfl, ?_⟩) ?_ ?_
  rotate_left
  · intro w'
    go_simp
    with_reducible rfl
  rotate_left
  · simp only [Act.put, List.setIfInBounds_toArray, List.set_cons_zero, List.set_cons_succ]
    rfl
  refine pure_ (i := 3) (N := some 8) (v := ?_) (a' := ?_) #[true, true, false, true, false, false, false, false, false, false, false, false, false, false, false, false, false, false, false, false, false, false, false, false, false, false, false, false, false, false, false, false, false, false, false, false, false, false, false, false, false, false, false, false, false, false, false, false, false, false, false, false, false, false, false, false, false, false, false, false, false, false] rfl rfl (by kernel_rfl) (fun _ _ _ h => h) (Or.inl ⟨by rfl, ?_⟩) ?_ ?_
  rotate_left
  · intro w'
    go_simp
    with_reducible rfl
  rotate_left
  · simp only [Act.put, List.setIfInBounds_toArray, List.set_cons_zero, List.set_cons_succ]
    rfl
  refine pure_ (i := 4) (N := some 9) (v := ?_) (a' := ?_) #[true, true, false, true, true, false, false, false, false, false, false, false, false, false, false, false, false, false, false, false, false, false, false, false, false, false, false, false, false, false, false, false, false, false, false, false, false, false, false, false, false, false, false, false, false, false, false, false, false, false, false, false, false, false, false, false, false, false, false, false, false, false] rfl rfl (by kernel_rfl) (fun _ _ _ h => h) (Or.inl ⟨by rfl, ?_⟩) ?_ ?_
  rotate_left
  · intro w'
    go_simp
    with_reducible rfl
  rotate_left
  · simp only [Act.put, List.setIfInBounds_toArray, List.set_cons_zero, List.set_cons_succ]
    rfl
  refine pure_ (i := 7) (N := some 12) (v := ?_) (a' := ?_) #[true, true, false, true, true, false, false, true, false, false, false, false, false, false, false, false, false, false, false, false, false, false, false, false, false, false, false, false, false, false, false, false, false, false, false, false, false, false, false, false, false, false, false, false, false, false, false, false, false, false, false, false, false, false, false, false, false, false, false, false, false, false] rfl rfl (by kernel_rfl) (fun _ _ _ h => h) (Or.inl ⟨by rfl, ?_⟩) ?_ ?_
  rotate_left
  · intro w'
    go_simp
    with_reducible rfl
  rotate_left
  · simp only [Act.put, List.setIfInBounds_toArray, List.set_cons_zero, List.set_cons_succ]
    rfl
  refine pure_ (i := 8) (N := some 13) (v := ?_) (a' := ?_) #[true, true, false, true, true, false, false, true, true, false, false, false, false, false, false, false, false, false, false, false, false, false, false, false, false, false, false, false, false, false, false, false, false, false, false, false, false, false, false, false, false, false, false, false, false, false, false, false, false, false, false, false, false, false, false, false, false, false, false, false, false, false] rfl rfl (by kernel_rfl) (fun _ _ _ h => h) (Or.inl ⟨by rfl, ?_⟩) ?_ ?_
  rotate_left
  · intro w'
    go_simp
    with_reducible rfl
  rotate_left
  · simp only [Act.put, List.setIfInBounds_toArray, List.set_cons_zero, List.set_cons_succ]
    rfl
  refine pure_ (i := 10) (N := some 15) (v := ?_) (a' := ?_) #[true, true, false, true, true, false, false, true, true, false, true, false, false, false, false, false, false, false, false, false, false, false, false, false, false, false, false, false, false, false, false, false, false, false, false, false, false, false, false, false, false, false, false, false, false, false, false, false, false, false, false, false, false, false, false, false, false, false, false, false, false, false] rfl rfl (by kernel_rfl) (fun _ _ _ h => h) (Or.inl ⟨by rfl, ?_⟩) ?_ ?_
  rotate_left
  · intro w'
    go_simp
    with_reducible rfl
  rotate_left
  · simp only [Act.put, List.setIfInBounds_toArray, List.set_cons_zero, List.set_cons_succ]
    rfl
  refine pure_ (i := 11) (N := some 16) (v := ?_) (a' := ?_) #[true, true, false, true, true, false, false, true, true, false, true, true, false, false, false, false, false, false, false, false, false, false, false, false, false, false, false, false, false, false, false, false, false, false, false, false, false, false, false, false, false, false, false, false, false, false, false, false, false, false, false, false, false, false, false, false, false, false, false, false, false, false] rfl rfl (by kernel_rfl) (fun _ _ _ h => h) (Or.inl ⟨by rfl, ?_⟩) ?_ ?_
  rotate_left
  · intro w'
    go_simp
    with_reducible rfl
  rotate_left
  · simp only [Act.put, List.setIfInBounds_toArray, List.set_cons_zero, List.set_cons_succ]
    rfl
  refine pure_ (i := 15) (N := some 20) (v := ?_) (a' := ?_) #[true, true, false, true, true, false, false, true, true, false, true, true, false, false, false, true, false, false, false, false, false, false, false, false, false, false, false, false, false, false, false, false, false, false, false, false, false, false, false, false, false, false, false, false, false, false, false, false, false, false, false, false, false, false, false, false, false, false, false, false, false, false] rfl rfl (by kernel_rfl) (fun _ _ _ h => h) (Or.inl ⟨by rfl, ?_⟩) ?_ ?_
  rotate_left
  · intro w'
    go_simp
    with_reducible rfl
  rotate_left
  · simp only [Act.put, List.setIfInBounds_toArray, List.set_cons_zero, List.set_cons_succ]
    rfl
  refine pure_ (i := 16) (N := some 21) (v := ?_) (a' := ?_) #[true, true, false, true, true, false, false, true, true, false, true, true, false, false, false, true, true, false, false, false, false, false, false, false, false, false, false, false, false, false, false, false, false, false, false, false, false, false, false, false, false, false, false, false, false, false, false, false, false, false, false, false, false, false, false, false, false, false, false, false, false, false] rfl rfl (by kernel_rfl) (fun _ _ _ h => h) (Or.inl ⟨by rfl, ?_⟩) ?_ ?_
  rotate_left
  · intro w'
    go_simp
    with_reducible rfl
  rotate_left
  · simp only [Act.put, List.setIfInBounds_toArray, List.set_cons_zero, List.set_cons_succ]
    rfl
  refine pure_ (i := 18) (N := some 23) (v := ?_) (a' := ?_) #[true, true, false, true, true, false, false, true, true, false, true, true, false, false, false, true, true, false, true, false, false, false, false, false, false, false, false, false, false, false, false, false, false, false, false, false, false, false, false, false, false, false, false, false, false, false, false, false, false, false, false, false, false, false, false, false, false, false, false, false, false, false] rfl rfl (by kernel_rfl) (fun _ _ _ h => h) (Or.inl ⟨by rfl, ?_⟩) ?_ ?_
  rotate_left
  · intro w'
    go_simp
    with_reducible rfl
  rotate_left
  · simp only [Act.put, List.setIfInBounds_toArray, List.set_cons_zero, List.set_cons_succ]
    rfl
  refine pure_ (i := 19) (N := some 24) (v := ?_) (a' := ?_) #[true, true, false, true, true, false, false, true, true, false, true, true, false, false, false, true, true, false, true, true, false, false, false, false, false, false, false, false, false, false, false, false, false, false, false, false, false, false, false, false, false, false, false, false, false, false, false, false, false, false, false, false, false, false, false, false, false, false, false, false, false, false] rfl rfl (by kernel_rfl) (fun _ _ _ h => h) (Or.inl ⟨by rfl, ?_⟩) ?_ ?_
  rotate_left
  · intro w'
    go_simp
    with_reducible rfl
  rotate_left
  · simp only [Act.put, List.setIfInBounds_toArray, List.set_cons_zero, List.set_cons_succ]
    rfl
  refine pure_ (i := 22) (N := some 27) (v := ?_) (a' := ?_) #[true, true, false, true, true, false, false, true, true, false, true, true, false, false, false, true, true, false, true, true, false, false, true, false, false, false, false, false, false, false, false, false, false, false, false, false, false, false, false, false, false, false, false, false, false, false, false, false, false, false, false, false, false, false, false, false, false, false, false, false, false, false] rfl rfl (by kernel_rfl) (fun _ _ _ h => h) (Or.inl ⟨by rfl, ?_⟩) ?_ ?_
  rotate_left
  · intro w'
    go_simp
    with_reducible rfl
  rotate_left
  · simp only [Act.put, List.setIfInBounds_toArray, List.set_cons_zero, List.set_cons_succ]
    rfl
  refine pure_ (i := 23) (N := some 28) (v := ?_) (a' := ?_) #[true, true, false, true, true, false, false, true, true, false, true, true, false, false, false, true, true, false, true, true, false, false, true, true, false, false, false, false, false, false, false, false, false, false, false, false, false, false, false, false, false, false, false, false, false, false, false, false, false, false, false, false, false, false, false, false, false, false, false, false, false, false] rfl rfl (by kernel_rfl) (fun _ _ _ h => h) (Or.inl ⟨by rfl, ?_⟩) ?_ ?_
  rotate_left
  · intro w'
    go_simp
    with_reducible rfl
  rotate_left
  · simp only [Act.put, List.setIfInBounds_toArray, List.set_cons_zero, List.set_cons_succ]
    rfl
  refine pure_ (i := 25) (N := some 30) (v := ?_) (a' := ?_) #[true, true, false, true, true, false, false, true, true, false, true, true, false, false, false, true, true, false, true, true, false, false, true, true, false, true, false, false, false, false, false, false, false, false, false, false, false, false, false, false, false, false, false, false, false, false, false, false, false, false, false, false, false, false, false, false, false, false, false, false, false, false] rfl rfl (by kernel_rfl) (fun _ _ _ h => h) (Or.inl ⟨by rfl, ?_⟩) ?_ ?_
  rotate_left
  · intro w'
    go_simp
    with_reducible rfl
  rotate_left
  · simp only [Act.put, List.setIfInBounds_toArray, List.set_cons_zero, List.set_cons_succ]
    rfl
  refine pure_ (i := 26) (N := some 31) (v := ?_) (a' := ?_) #[true, true, false, true, true, false, false, true, true, false, true, true, false, false, false, true, true, false, true, true, false, false, true, true, false, true, true, false, false, false, false, false, false, false, false, false, false, false, false, false, false, false, false, false, false, false, false, false, false, false, false, false, false, false, false, false, false, false, false, false, false, false] rfl rfl (by kernel_rfl) (fun _ _ _ h => h) (Or.inl ⟨by rfl, ?_⟩) ?_ ?_
  rotate_left
  · intro w'
    go_simp
    with_reducible rfl
  rotate_left
  · simp only [Act.put, List.setIfInBounds_toArray, List.set_cons_zero, List.set_cons_succ]
    rfl
  refine pure_ (i := 30) (N := some 35) (v := ?_) (a' := ?_) #[true, true, false, true, true, false, false, true, true, false, true, true, false, false, false, true, true, false, true, true, false, false, true, true, false, true, true, false, false, false, true, false, false, false, false, false, false, false, false, false, false, false, false, false, false, false, false, false, false, false, false, false, false, false, false, false, false, false, false, false, false, false] rfl rfl (by kernel_rfl) (fun _ _ _ h => h) (Or.inl ⟨by rfl, ?_⟩) ?_ ?_
  rotate_left
  · intro w'
    go_simp
    with_reducible rfl
  rotate_left
  · simp only [Act.put, List.setIfInBounds_toArray, List.set_cons_zero, List.set_cons_succ]
    rfl
  refine pure_ (i := 31) (N := some 36) (v := ?_) (a' := ?_) #[true, true, false, true, true, false, false, true, true, false, true, true, false, false, false, true, true, false, true, true, false, false, true, true, false, true, true, false, false, false, true, true, false, false, false, false, false, false, false, false, false, false, false, false, false, false, false, false, false, false, false, false, false, false, false, false, false, false, false, false, false, false] rfl rfl (by kernel_rfl) (fun _ _ _ h => h) (Or.inl ⟨by rfl, ?_⟩) ?_ ?_
  rotate_left
  · intro w'
    go_simp
    with_reducible rfl
  rotate_left
  · simp only [Act.put, List.setIfInBounds_toArray, List.set_cons_zero, List.set_cons_succ]
    rfl
  refine pure_ (i := 33) (N := some 38) (v := ?_) (a' := ?_) #[true, true, false, true, true, false, false, true, true, false, true, true, false, false, false, true, true, false, true, true, false, false, true, true, false, true, true, false, false, false, true, true, false, true, false, false, false, false, false, false, false, false, false, false, false, false, false, false, false, false, false, false, false, false, false, false, false, false, false, false, false, false] rfl rfl (by kernel_rfl) (fun _ _ _ h => h) (Or.inl ⟨by rfl, ?_⟩) ?_ ?_
  rotate_left
  · intro w'
    go_simp
    with_reducible rfl
  rotate_left
  · simp only [Act.put, List.setIfInBounds_toArray, List.set_cons_zero, List.set_cons_succ]
    rfl
  refine pure_ (i := 34) (N := some 39) (v := ?_) (a' := ?_) #[true, true, false, true, true, false, false, true, true, false, true, true, false, false, false, true, true, false, true, true, false, false, true, true, false, true, true, false, false, false, true, true, false, true, true, false, false, false, false, false, false, false, false, false, false, false, false, false, false, false, false, false, false, false, false, false, false, false, false, false, false, false] rfl rfl (by kernel_rfl) (fun _ _ _ h => h) (Or.inl ⟨by rfl, ?_⟩) ?_ ?_
  rotate_left
  · intro w'
    go_simp
    with_reducible rfl
  rotate_left
  · simp only [Act.put, List.setIfInBounds_toArray, List.set_cons_zero, List.set_cons_succ]
    rfl
  refine pure_ (i := 37) (N := some 42) (v := ?_) (a' := ?_) #[true, true, false, true, true, false, false, true, true, false, true, true, false, false, false, true, true, false, true, true, false, false, true, true, false, true, true, false, false, false, true, true, false, true, true, false, false, true, false, false, false, false, false, false, false, false, false, false, false, false, false, false, false, false, false, false, false, false, false, false, false, false] rfl rfl (by kernel_rfl) (fun _ _ _ h => h) (Or.inl ⟨by rfl, ?_⟩) ?_ ?_
  rotate_left
  · intro w'
    go_simp
    with_reducible rfl
  rotate_left
  · simp only [Act.put, List.setIfInBounds_toArray, List.set_cons_zero, List.set_cons_succ]
    rfl
  refine pure_ (i := 38) (N := some 43) (v := ?_) (a' := ?_) #[true, true, false, true, true, false, false, true, true, false, true, true, false, false, false, true, true, false, true, true, false, false, true, true, false, true, true, false, false, false, true, true, false, true, true, false, false, true, true, false, false, false, false, false, false, false, false, false, false, false, false, false, false, false, false, false, false, false, false, false, false, false] rfl rfl (by kernel_rfl) (fun _ _ _ h => h) (Or.inl ⟨by rfl, ?_⟩) ?_ ?_
  rotate_left
  · intro w'
    go_simp
    with_reducible rfl
  rotate_left
  · simp only [Act.put, List.setIfInBounds_toArray, List.set_cons_zero, List.set_cons_succ]
    rfl
  refine pure_ (i := 40) (N := some 45) (v := ?_) (a' := ?_) #[true, true, false, true, true, false, false, true, true, false, true, true, false, false, false, true, true, false, true, true, false, false, true, true, false, true, true, false, false, false, true, true, false, true, true, false, false, true, true, false, true, false, false, false, false, false, false, false, false, false, false, false, false, false, false, false, false, false, false, false, false, false] rfl rfl (by kernel_rfl) (fun _ _ _ h => h) (Or.inl ⟨by rfl, ?_⟩) ?_ ?_
  rotate_left
  · intro w'
    go_simp
    with_reducible rfl
  rotate_left
  · simp only [Act.put, List.setIfInBounds_toArray, List.set_cons_zero, List.set_cons_succ]
    rfl
  refine pure_ (i := 41) (N := some 46) (v := ?_) (a' := ?_) #[true, true, false, true, true, false, false, true, true, false, true, true, false, false, false, true, true, false, true, true, false, false, true, true, false, true, true, false, false, false, true, true, false, true, true, false, false, true, true, false, true, true, false, false, false, false, false, false, false, false, false, false, false, false, false, false, false, false, false, false, false, false] rfl rfl (by kernel_rfl) (fun _ _ _ h => h) (Or.inl ⟨by rfl, ?_⟩) ?_ ?_
  rotate_left
  · intro w'
    go_simp
    with_reducible rfl
  rotate_left
  · simp only [Act.put, List.setIfInBounds_toArray, List.set_cons_zero, List.set_cons_succ]
    rfl
  refine pure_ (i := 45) (N := some 50) (v := ?_) (a' := ?_) #[true, true, false, true, true, false, false, true, true, false, true, true, false, false, false, true, true, false, true, true, false, false, true, true, false, true, true, false, false, false, true, true, false, true, true, false, false, true, true, false, true, true, false, false, false, true, false, false, false, false, false, false, false, false, false, false, false, false, false, false, false, false] rfl rfl (by kernel_rfl) (fun _ _ _ h => h) (Or.inl ⟨by rfl, ?_⟩) ?_ ?_
  rotate_left
  · intro w'
    go_simp
    with_reducible rfl
  rotate_left
  · simp only [Act.put, List.setIfInBounds_toArray, List.set_cons_zero, List.set_cons_succ]
    rfl
  refine pure_ (i := 46) (N := some 51) (v := ?_) (a' := ?_) #[true, true, false, true, true, false, false, true, true, false, true, true, false, false, false, true, true, false, true, true, false, false, true, true, false, true, true, false, false, false, true, true, false, true, true, false, false, true, true, false, true, true, false, false, false, true, true, false, false, false, false, false, false, false, false, false, false, false, false, false, false, false] rfl rfl (by kernel_rfl) (fun _ _ _ h => h) (Or.inl ⟨by rfl, ?_⟩) ?_ ?_
  rotate_left
  · intro w'
    go_simp
    with_reducible rfl
  rotate_left
  · simp only [Act.put, List.setIfInBounds_toArray, List.set_cons_zero, List.set_cons_succ]
    rfl
  refine pure_ (i := 48) (N := some 53) (v := ?_) (a' := ?_) #[true, true, false, true, true, false, false, true, true, false, true, true, false, false, false, true, true, false, true, true, false, false, true, true, false, true, true, false, false, false, true, true, false, true, true, false, false, true, true, false, true, true, false, false, false, true, true, false, true, false, false, false, false, false, false, false, false, false, false, false, false, false] rfl rfl (by kernel_rfl) (fun _ _ _ h => h) (Or.inl ⟨by rfl, ?_⟩) ?_ ?_
  rotate_left
  · intro w'
    go_simp
    with_reducible rfl
  rotate_left
  · simp only [Act.put, List.setIfInBounds_toArray, List.set_cons_zero, List.set_cons_succ]
    rfl
  refine pure_ (i := 49) (N := some 54) (v := ?_) (a' := ?_) #[true, true, false, true, true, false, false, true, true, false, true, true, false, false, false, true, true, false, true, true, false, false, true, true, false, true, true, false, false, false, true, true, false, true, true, false, false, true, true, false, true, true, false, false, false, true, true, false, true, true, false, false, false, false, false, false, false, false, false, false, false, false] rfl rfl (by kernel_rfl) (fun _ _ _ h => h) (Or.inl ⟨by rfl, ?_⟩) ?_ ?_
  rotate_left
  · intro w'
    go_simp
    with_reducible rfl
  rotate_left
  · simp only [Act.put, List.setIfInBounds_toArray, List.set_cons_zero, List.set_cons_succ]
    rfl
  refine pure_ (i := 52) (N := some 57) (v := ?_) (a' := ?_) #[true, true, false, true, true, false, false, true, true, false, true, true, false, false, false, true, true, false, true, true, false, false, true, true, false, true, true, false, false, false, true, true, false, true, true, false, false, true, true, false, true, true, false, false, false, true, true, false, true, true, false, false, true, false, false, false, false, false, false, false, false, false] rfl rfl (by kernel_rfl) (fun _ _ _ h => h) (Or.inl ⟨by rfl, ?_⟩) ?_ ?_
  rotate_left
  · intro w'
    go_simp
    with_reducible rfl
  rotate_left
  · simp only [Act.put, List.setIfInBounds_toArray, List.set_cons_zero, List.set_cons_succ]
    rfl
  refine pure_ (i := 53) (N := some 58) (v := ?_) (a' := ?_) #[true, true, false, true, true, false, false, true, true, false, true, true, false, false, false, true, true, false, true, true, false, false, true, true, false, true, true, false, false, false, true, true, false, true, true, false, false, true, true, false, true, true, false, false, false, true, true, false, true, true, false, false, true, true, false, false, false, false, false, false, false, false] rfl rfl (by kernel_rfl) (fun _ _ _ h => h) (Or.inl ⟨by rfl, ?_⟩) ?_ ?_
  rotate_left
  · intro w'
    go_simp
    with_reducible rfl
  rotate_left
  · simp only [Act.put, List.setIfInBounds_toArray, List.set_cons_zero, List.set_cons_succ]
    rfl
  refine pure_ (i := 55) (N := some 60) (v := ?_) (a' := ?_) #[true, true, false, true, true, false, false, true, true, false, true, true, false, false, false, true, true, false, true, true, false, false, true, true, false, true, true, false, false, false, true, true, false, true, true, false, false, true, true, false, true, true, false, false, false, true, true, false, true, true, false, false, true, true, false, true, false, false, false, false, false, false] rfl rfl (by kernel_rfl) (fun _ _ _ h => h) (Or.inl ⟨by rfl, ?_⟩) ?_ ?_
  rotate_left
  · intro w'
    go_simp
    with_reducible rfl
  rotate_left
  · simp only [Act.put, List.setIfInBounds_toArray, List.set_cons_zero, List.set_cons_succ]
    rfl
  refine pure_ (i := 56) (N := some 61) (v := ?_) (a' := ?_) #[true, true, false, true, true, false, false, true, true, false, true, true, false, false, false, true, true, false, true, true, false, false, true, true, false, true, true, false, false, false, true, true, false, true, true, false, false, true, true, false, true, true, false, false, false, true, true, false, true, true, false, false, true, true, false, true, true, false, false, false, false, false] rfl rfl (by kernel_rfl) (fun _ _ _ h => h) (Or.inl ⟨by rfl, ?_⟩) ?_ ?_
  rotate_left
  · intro w'
    go_simp
    with_reducible rfl
  rotate_left
  · simp only [Act.put, List.setIfInBounds_toArray, List.set_cons_zero, List.set_cons_succ]
    rfl
  refine take_ (i := 2) (N := some 7) (v := ?_) (a' := ?_) #[true, true, true, true, true, false, false, true, true, false, true, true, false, false, false, true, true, false, true, true, false, false, true, true, false, true, true, false, false, false, true, true, false, true, true, false, false, true, true, false, true, true, false, false, false, true, true, false, true, true, false, false, true, true, false, true, true, false, false, false, false, false] rfl rfl (by kernel_rfl) (fun _ _ _ h => h) (Or.inl ⟨by rfl, ?_⟩) hHeld ?_ ?_
  rotate_left
  · rintro w' ⟨s0, s1, s2, s3, s4, s5, s6, s7⟩
    go_simp
    with_reducible rfl
  rotate_left
  · simp only [Act.put, List.setIfInBounds_toArray, List.set_cons_zero, List.set_cons_succ]
    rfl
  refine take_ (i := 5) (N := some 10) (v := ?_) (a' := ?_) #[true, true, true, true, true, true, false, true, true, false, true, true, false, false, false, true, true, false, true, true, false, false, true, true, false, true, true, false, false, false, true, true, false, true, true, false, false, true, true, false, true, true, false, false, false, true, true, false, true, true, false, false, true, true, false, true, true, false, false, false, false, false] rfl rfl (by kernel_rfl) (fun _ _ _ h => h) (Or.inl ⟨by rfl, ?_⟩) hHeld ?_ ?_
  rotate_left
  · rintro w' ⟨s0, s1, s2, s3, s4, s5, s6, s7⟩
    go_simp
    with_reducible rfl
  rotate_left
  · simp only [Act.put, List.setIfInBounds_toArray, List.set_cons_zero, List.set_cons_succ]
    rfl
  refine pure_ (i := 6) (N := some 11) (v := ?_) (a' := ?_) #[true, true, true, true, true, true, true, true, true, false, true, true, false, false, false, true, true, false, true, true, false, false, true, true, false, true, true, false, false, false, true, true, false, true, true, false, false, true, true, false, true, true, false, false, false, true, true, false, true, true, false, false, true, true, false, true, true, false, false, false, false, false] rfl rfl (by kernel_rfl) (fun _ _ _ h => h) (Or.inl ⟨by rfl, ?_⟩) ?_ ?_
  rotate_left
  · intro w'
    go_simp
    with_reducible rfl
  rotate_left
  · simp only [Act.put, List.setIfInBounds_toArray, List.set_cons_zero, List.set_cons_succ]
    rfl
  refine take_ (i := 9) (N := some 14) (v := ?_) (a' := ?_) #[true, true, true, true, true, true, true, true, true, true, true, true, false, false, false, true, true, false, true, true, false, false, true, true, false, true, true, false, false, false, true, true, false, true, true, false, false, true, true, false, true, true, false, false, false, true, true, false, true, true, false, false, true, true, false, true, true, false, false, false, false, false] rfl rfl (by kernel_rfl) (fun _ _ _ h => h) (Or.inl ⟨by rfl, ?_⟩) hHeld ?_ ?_
  rotate_left
  · rintro w' ⟨s0, s1, s2, s3, s4, s5, s6, s7⟩
    go_simp
    with_reducible rfl
  rotate_left
  · simp only [Act.put, List.setIfInBounds_toArray, List.set_cons_zero, List.set_cons_succ]
    rfl
  refine take_ (i := 12) (N := some 17) (v := ?_) (a' := ?_) #[true, true, true, true, true, true, true, true, true, true, true, true, true, false, false, true, true, false, true, true, false, false, true, true, false, true, true, false, false, false, true, true, false, true, true, false, false, true, true, false, true, true, false, false, false, true, true, false, true, true, false, false, true, true, false, true, true, false, false, false, false, false] rfl rfl (by kernel_rfl) (fun _ _ _ h => h) (Or.inl ⟨by rfl, ?_⟩) hHeld ?_ ?_
  rotate_left
  · rintro w' ⟨s0, s1, s2, s3, s4, s5, s6, s7⟩
    go_simp
    with_reducible rfl
  rotate_left
  · simp only [Act.put, List.setIfInBounds_toArray, List.set_cons_zero, List.set_cons_succ]
    rfl
  refine pure_ (i := 13) (N := some 18) (v := ?_) (a' := ?_) #[true, true, true, true, true, true, true, true, true, true, true, true, true, true, false, true, true, false, true, true, false, false, true, true, false, true, true, false, false, false, true, true, false, true, true, false, false, true, true, false, true, true, false, false, false, true, true, false, true, true, false, false, true, true, false, true, true, false, false, false, false, false] rfl rfl (by kernel_rfl) (fun _ _ _ h => h) (Or.inl ⟨by rfl, ?_⟩) ?_ ?_
  rotate_left
  · intro w'
    go_simp
    with_reducible rfl
  rotate_left
  · simp only [Act.put, List.setIfInBounds_toArray, List.set_cons_zero, List.set_cons_succ]
    rfl
  refine pure_ (i := 14) (N := some 19) (v := ?_) (a' := ?_) #[true, true, true, true, true, true, true, true, true, true, true, true, true, true, true, true, true, false, true, true, false, false, true, true, false, true, true, false, false, false, true, true, false, true, true, false, false, true, true, false, true, true, false, false, false, true, true, false, true, true, false, false, true, true, false, true, true, false, false, false, false, false] rfl rfl (by kernel_rfl) (fun _ _ _ h => h) (Or.inl ⟨by rfl, ?_⟩) ?_ ?_
  rotate_left
  · intro w'
    go_simp
    with_reducible rfl
  rotate_left
  · simp only [Act.put, List.setIfInBounds_toArray, List.set_cons_zero, List.set_cons_succ]
    rfl
  refine take_ (i := 17) (N := some 22) (v := ?_) (a' := ?_) #[true, true, true, true, true, true, true, true, true, true, true, true, true, true, true, true, true, true, true, true, false, false, true, true, false, true, true, false, false, false, true, true, false, true, true, false, false, true, true, false, true, true, false, false, false, true, true, false, true, true, false, false, true, true, false, true, true, false, false, false, false, false] rfl rfl (by kernel_rfl) (fun _ _ _ h => h) (Or.inl ⟨by rfl, ?_⟩) hHeld ?_ ?_
  rotate_left
  · rintro w' ⟨s0, s1, s2, s3, s4, s5, s6, s7⟩
    go_simp
    with_reducible rfl
  rotate_left
  · simp only [Act.put, List.setIfInBounds_toArray, List.set_cons_zero, List.set_cons_succ]
    rfl
  refine take_ (i := 20) (N := some 25) (v := ?_) (a' := ?_) #[true, true, true, true, true, true, true, true, true, true, true, true, true, true, true, true, true, true, true, true, true, false, true, true, false, true, true, false, false, false, true, true, false, true, true, false, false, true, true, false, true, true, false, false, false, true, true, false, true, true, false, false, true, true, false, true, true, false, false, false, false, false] rfl rfl (by kernel_rfl) (fun _ _ _ h => h) (Or.inl ⟨by rfl, ?_⟩) hHeld ?_ ?_
  rotate_left
  · rintro w' ⟨s0, s1, s2, s3, s4, s5, s6, s7⟩
    go_simp
    with_reducible rfl
  rotate_left
  · simp only [Act.put, List.setIfInBounds_toArray, List.set_cons_zero, List.set_cons_succ]
    rfl
  refine pure_ (i := 21) (N := some 26) (v := ?_) (a' := ?_) #[true, true, true, true, true, true, true, true, true, true, true, true, true, true, true, true, true, true, true, true, true, true, true, true, false, true, true, false, false, false, true, true, false, true, true, false, false, true, true, false, true, true, false, false, false, true, true, false, true, true, false, false, true, true, false, true, true, false, false, false, false, false] rfl rfl (by kernel_rfl) (fun _ _ _ h => h) (Or.inl ⟨by rfl, ?_⟩) ?_ ?_
  rotate_left
  · intro w'
    go_simp
    with_reducible rfl
  rotate_left
  · simp only [Act.put, List.setIfInBounds_toArray, List.set_cons_zero, List.set_cons_succ]
    rfl
  refine take_ (i := 24) (N := some 29) (v := ?_) (a' := ?_) #[true, true, true, true, true, true, true, true, true, true, true, true, true, true, true, true, true, true, true, true, true, true, true, true, true, true, true, false, false, false, true, true, false, true, true, false, false, true, true, false, true, true, false, false, false, true, true, false, true, true, false, false, true, true, false, true, true, false, false, false, false, false] rfl rfl (by kernel_rfl) (fun _ _ _ h => h) (Or.inl ⟨by rfl, ?_⟩) hHeld ?_ ?_
  rotate_left
  · rintro w' ⟨s0, s1, s2, s3, s4, s5, s6, s7⟩
    go_simp
    with_reducible rfl
  rotate_left
  · simp only [Act.put, List.setIfInBounds_toArray, List.set_cons_zero, List.set_cons_succ]
    rfl
  refine take_ (i := 27) (N := some 32) (v := ?_) (a' := ?_) #[true, true, true, true, true, true, true, true, true, true, true, true, true, true, true, true, true, true, true, true, true, true, true, true, true, true, true, true, false, false, true, true, false, true, true, false, false, true, true, false, true, true, false, false, false, true, true, false, true, true, false, false, true, true, false, true, true, false, false, false, false, false] rfl rfl (by kernel_rfl) (fun _ _ _ h => h) (Or.inl ⟨by rfl, ?_⟩) hHeld ?_ ?_
  rotate_left
  · rintro w' ⟨s0, s1, s2, s3, s4, s5, s6, s7⟩
    go_simp
    with_reducible rfl
  rotate_left
  · simp only [Act.put, List.setIfInBounds_toArray, List.set_cons_zero, List.set_cons_succ]
    rfl
  refine pure_ (i := 28) (N := some 33) (v := ?_) (a' := ?_) #[true, true, true, true, true, true, true, true, true, true, true, true, true, true, true, true, true, true, true, true, true, true, true, true, true, true, true, true, true, false, true, true, false, true, true, false, false, true, true, false, true, true, false, false, false, true, true, false, true, true, false, false, true, true, false, true, true, false, false, false, false, false] rfl rfl (by kernel_rfl) (fun _ _ _ h => h) (Or.inl ⟨by rfl, ?_⟩) ?_ ?_
  rotate_left
  · intro w'
    go_simp
    with_reducible rfl
  rotate_left
  · simp only [Act.put, List.setIfInBounds_toArray, List.set_cons_zero, List.set_cons_succ]
    rfl
  refine pure_ (i := 29) (N := some 34) (v := ?_) (a' := ?_) #[true, true, true, true, true, true, true, true, true, true, true, true, true, true, true, true, true, true, true, true, true, true, true, true, true, true, true, true, true, true, true, true, false, true, true, false, false, true, true, false, true, true, false, false, false, true, true, false, true, true, false, false, true, true, false, true, true, false, false, false, false, false] rfl rfl (by kernel_rfl) (fun _ _ _ h => h) (Or.inl ⟨by rfl, ?_⟩) ?_ ?_
  rotate_left
  · intro w'
    go_simp
    with_reducible rfl
  rotate_left
  · simp only [Act.put, List.setIfInBounds_toArray, List.set_cons_zero, List.set_cons_succ]
    rfl
  refine take_ (i := 32) (N := some 37) (v := ?_) (a' := ?_) #[true, true, true, true, true, true, true, true, true, true, true, true, true, true, true, true, true, true, true, true, true, true, true, true, true, true, true, true, true, true, true, true, true, true, true, false, false, true, true, false, true, true, false, false, false, true, true, false, true, true, false, false, true, true, false, true, true, false, false, false, false, false] rfl rfl (by kernel_rfl) (fun _ _ _ h => h) (Or.inl ⟨by rfl, ?_⟩) hHeld ?_ ?_
  rotate_left
  · rintro w' ⟨s0, s1, s2, s3, s4, s5, s6, s7⟩
    go_simp
    with_reducible rfl
  rotate_left
  · simp only [Act.put, List.setIfInBounds_toArray, List.set_cons_zero, List.set_cons_succ]
    rfl
  refine take_ (i := 35) (N := some 40) (v := ?_) (a' := ?_) #[true, true, true, true, true, true, true, true, true, true, true, true, true, true, true, true, true, true, true, true, true, true, true, true, true, true, true, true, true, true, true, true, true, true, true, true, false, true, true, false, true, true, false, false, false, true, true, false, true, true, false, false, true, true, false, true, true, false, false, false, false, false] rfl rfl (by kernel_rfl) (fun _ _ _ h => h) (Or.inl ⟨by rfl, ?_⟩) hHeld ?_ ?_
  rotate_left
  · rintro w' ⟨s0, s1, s2, s3, s4, s5, s6, s7⟩
    go_simp
    with_reducible rfl
  rotate_left
  · simp only [Act.put, List.setIfInBounds_toArray, List.set_cons_zero, List.set_cons_succ]
    rfl
  refine pure_ (i := 36) (N := some 41) (v := ?_) (a' := ?_) #[true, true, true, true, true, true, true, true, true, true, true, true, true, true, true, true, true, true, true, true, true, true, true, true, true, true, true, true, true, true, true, true, true, true, true, true, true, true, true, false, true, true, false, false, false, true, true, false, true, true, false, false, true, true, false, true, true, false, false, false, false, false] rfl rfl (by kernel_rfl) (fun _ _ _ h => h) (Or.inl ⟨by rfl, ?_⟩) ?_ ?_
  rotate_left
  · intro w'
    go_simp
    with_reducible rfl
  rotate_left
  · simp only [Act.put, List.setIfInBounds_toArray, List.set_cons_zero, List.set_cons_succ]
    rfl
  refine take_ (i := 39) (N := some 44) (v := ?_) (a' := ?_) #[true, true, true, true, true, true, true, true, true, true, true, true, true, true, true, true, true, true, true, true, true, true, true, true, true, true, true, true, true, true, true, true, true, true, true, true, true, true, true, true, true, true, false, false, false, true, true, false, true, true, false, false, true, true, false, true, true, false, false, false, false, false] rfl rfl (by kernel_rfl) (fun _ _ _ h => h) (Or.inl ⟨by rfl, ?_⟩) hHeld ?_ ?_
  rotate_left
  · rintro w' ⟨s0, s1, s2, s3, s4, s5, s6, s7⟩
    go_simp
    with_reducible rfl
  rotate_left
  · simp only [Act.put, List.setIfInBounds_toArray, List.set_cons_zero, List.set_cons_succ]
    rfl
  refine take_ (i := 42) (N := some 47) (v := ?_) (a' := ?_) #[true, true, true, true, true, true, true, true, true, true, true, true, true, true, true, true, true, true, true, true, true, true, true, true, true, true, true, true, true, true, true, true, true, true, true, true, true, true, true, true, true, true, true, false, false, true, true, false, true, true, false, false, true, true, false, true, true, false, false, false, false, false] rfl rfl (by kernel_rfl) (fun _ _ _ h => h) (Or.inl ⟨by rfl, ?_⟩) hHeld ?_ ?_
  rotate_left
  · rintro w' ⟨s0, s1, s2, s3, s4, s5, s6, s7⟩
    go_simp
    with_reducible rfl
  rotate_left
  · simp only [Act.put, List.setIfInBounds_toArray, List.set_cons_zero, List.set_cons_succ]
    rfl
  refine pure_ (i := 43) (N := some 48) (v := ?_) (a' := ?_) #[true, true, true, true, true, true, true, true, true, true, true, true, true, true, true, true, true, true, true, true, true, true, true, true, true, true, true, true, true, true, true, true, true, true, true, true, true, true, true, true, true, true, true, true, false, true, true, false, true, true, false, false, true, true, false, true, true, false, false, false, false, false] rfl rfl (by kernel_rfl) (fun _ _ _ h => h) (Or.inl ⟨by rfl, ?_⟩) ?_ ?_
  rotate_left
  · intro w'
    go_simp
    with_reducible rfl
  rotate_left
  · simp only [Act.put, List.setIfInBounds_toArray, List.set_cons_zero, List.set_cons_succ]
    rfl
  refine pure_ (i := 44) (N := some 49) (v := ?_) (a' := ?_) #[true, true, true, true, true, true, true, true, true, true, true, true, true, true, true, true, true, true, true, true, true, true, true, true, true, true, true, true, true, true, true, true, true, true, true, true, true, true, true, true, true, true, true, true, true, true, true, false, true, true, false, false, true, true, false, true, true, false, false, false, false, false] rfl rfl (by kernel_rfl) (fun _ _ _ h => h) (Or.inl ⟨by rfl, ?_⟩) ?_ ?_
  rotate_left
  · intro w'
    go_simp
    with_reducible rfl
  rotate_left
  · simp only [Act.put, List.setIfInBounds_toArray, List.set_cons_zero, List.set_cons_succ]
    rfl
  refine take_ (i := 47) (N := some 52) (v := ?_) (a' := ?_) #[true, true, true, true, true, true, true, true, true, true, true, true, true, true, true, true, true, true, true, true, true, true, true, true, true, true, true, true, true, true, true, true, true, true, true, true, true, true, true, true, true, true, true, true, true, true, true, true, true, true, false, false, true, true, false, true, true, false, false, false, false, false] rfl rfl (by kernel_rfl) (fun _ _ _ h => h) (Or.inl ⟨by rfl, ?_⟩) hHeld ?_ ?_
  rotate_left
  · rintro w' ⟨s0, s1, s2, s3, s4, s5, s6, s7⟩
    go_simp
    with_reducible rfl
  rotate_left
  · simp only [Act.put, List.setIfInBounds_toArray, List.set_cons_zero, List.set_cons_succ]
    rfl
  refine take_ (i := 50) (N := some 55) (v := ?_) (a' := ?_) #[true, true, true, true, true, true, true, true, true, true, true, true, true, true, true, true, true, true, true, true, true, true, true, true, true, true, true, true, true, true, true, true, true, true, true, true, true, true, true, true, true, true, true, true, true, true, true, true, true, true, true, false, true, true, false, true, true, false, false, false, false, false] rfl rfl (by kernel_rfl) (fun _ _ _ h => h) (Or.inl ⟨by rfl, ?_⟩) hHeld ?_ ?_
  rotate_left
  · rintro w' ⟨s0, s1, s2, s3, s4, s5, s6, s7⟩
    go_simp
    with_reducible rfl
  rotate_left
  · simp only [Act.put, List.setIfInBounds_toArray, List.set_cons_zero, List.set_cons_succ]
    rfl
  refine pure_ (i := 51) (N := some 56) (v := ?_) (a' := ?_) #[true, true, true, true, true, true, true, true, true, true, true, true, true, true, true, true, true, true, true, true, true, true, true, true, true, true, true, true, true, true, true, true, true, true, true, true, true, true, true, true, true, true, true, true, true, true, true, true, true, true, true, true, true, true, false, true, true, false, false, false, false, false] rfl rfl (by kernel_rfl) (fun _ _ _ h => h) (Or.inl ⟨by rfl, ?_⟩) ?_ ?_
  rotate_left
  · intro w'
    go_simp
    with_reducible rfl
  rotate_left
  · simp only [Act.put, List.setIfInBounds_toArray, List.set_cons_zero, List.set_cons_succ]
    rfl
  refine take_ (i := 54) (N := some 59) (v := ?_) (a' := ?_) #[true, true, true, true, true, true, true, true, true, true, true, true, true, true, true, true, true, true, true, true, true, true, true, true, true, true, true, true, true, true, true, true, true, true, true, true, true, true, true, true, true, true, true, true, true, true, true, true, true, true, true, true, true, true, true, true, true, false, false, false, false, false] rfl rfl (by kernel_rfl) (fun _ _ _ h => h) (Or.inl ⟨by rfl, ?_⟩) hHeld ?_ ?_
  rotate_left
  · rintro w' ⟨s0, s1, s2, s3, s4, s5, s6, s7⟩
    go_simp
    with_reducible rfl
  rotate_left
  · simp only [Act.put, List.setIfInBounds_toArray, List.set_cons_zero, List.set_cons_succ]
    rfl
  refine take_ (i := 57) (N := some 62) (v := ?_) (a' := ?_) #[true, true, true, true, true, true, true, true, true, true, true, true, true, true, true, true, true, true, true, true, true, true, true, true, true, true, true, true, true, true, true, true, true, true, true, true, true, true, true, true, true, true, true, true, true, true, true, true, true, true, true, true, true, true, true, true, true, true, false, false, false, false] rfl rfl (by kernel_rfl) (fun _ _ _ h => h) (Or.inl ⟨by rfl, ?_⟩) hHeld ?_ ?_
  rotate_left
  · rintro w' ⟨s0, s1, s2, s3, s4, s5, s6, s7⟩
    go_simp
    with_reducible rfl
  rotate_left
  · simp only [Act.put, List.setIfInBounds_toArray, List.set_cons_zero, List.set_cons_succ]
    rfl
  refine pure_ (i := 58) (N := some 63) (v := ?_) (a' := ?_) #[true, true, true, true, true, true, true, true, true, true, true, true, true, true, true, true, true, true, true, true, true, true, true, true, true, true, true, true, true, true, true, true, true, true, true, true, true, true, true, true, true, true, true, true, true, true, true, true, true, true, true, true, true, true, true, true, true, true, true, false, false, false] rfl rfl (by kernel_rfl) (fun _ _ _ h => h) (Or.inl ⟨by rfl, ?_⟩) ?_ ?_
  rotate_left
  · intro w'
    go_simp
    with_reducible rfl
  rotate_left
  · simp only [Act.put, List.setIfInBounds_toArray, List.set_cons_zero, List.set_cons_succ]
    rfl
  refine pure_ (i := 59) (N := some 64) (v := ?_) (a' := ?_) #[true, true, true, true, true, true, true, true, true, true, true, true, true, true, true, true, true, true, true, true, true, true, true, true, true, true, true, true, true, true, true, true, true, true, true, true, true, true, true, true, true, true, true, true, true, true, true, true, true, true, true, true, true, true, true, true, true, true, true, true, false, false] rfl rfl (by kernel_rfl) (fun _ _ _ h => h) (Or.inl ⟨by rfl, ?_⟩) ?_ ?_
  rotate_left
  · intro w'
    go_simp
    with_reducible rfl
  rotate_left
  · simp only [Act.put, List.setIfInBounds_toArray, List.set_cons_zero, List.set_cons_succ]
    rfl
  refine last_ (i := 60) (N := some 65) #[true, true, true, true, true, true, true, true, true, true, true, true, true, true, true, true, true, true, true, true, true, true, true, true, true, true, true, true, true, true, true, true, true, true, true, true, true, true, true, true, true, true, true, true, true, true, true, true, true, true, true, true, true, true, true, true, true, true, true, true, true, false] rfl rfl (by kernel_rfl) (by decide) (fun K hK => ?_)
  refine value_ (w1 := ?_) (v := ?_) (by rfl) rfl ?_ ?_
  rotate_left 2
  · go_simp
    constructor
    · rfl
    · rfl
  refine hK.out _ _ ?_
  clear hK K
  refine norm_ (a' := ?_) ?_ ?_
  rotate_left
  · show Act.put _ (some 65) _ = _
    simp only [Act.put, List.setIfInBounds_toArray, List.set_cons_zero, List.set_cons_succ]
    rfl
  refine pure_ (i := 61) (N := some 4) (v := ?_) (a' := ?_) #[true, true, true, true, true, true, true, true, true, true, true, true, true, true, true, true, true, true, true, true, true, true, true, true, true, true, true, true, true, true, true, true, true, true, true, true, true, true, true, true, true, true, true, true, true, true, true, true, true, true, true, true, true, true, true, true, true, true, true, true, true, true] rfl rfl (by kernel_rfl) (fun _ _ _ h => h) (Or.inl ⟨by rfl, ?_⟩) ?_ ?_
  rotate_left
  · intro w'
    go_simp
    with_reducible rfl
  rotate_left
  · simp only [Act.put, List.setIfInBounds_toArray, List.set_cons_zero, List.set_cons_succ]
    rfl
  refine done_ (by kernel_rfl) ?_
  clear rm0 rm1 rm2 rm3 rm4 rm5 rm6 rm7 ra0 ra1 ra2 ra3 hHeld
  go_wp2
  go_ret
  obtain ⟨e0, e1, e2, e3⟩ := mulM_two A B
  refine ⟨wd.heap.size, rfl, fun i hi => ?_, HD.out.size, HD.out.trans ((Below.refl wd.heap.size wd).alloc (Nat.le_refl _) _ |>.mono HD.out.size)⟩
  have hc : ∀ (j : Nat) (v : Value), (#[Value.complex FloatKind.f64 s0 t0, Value.complex FloatKind.f64 s1 t1, Value.complex FloatKind.f64 s2 t2, Value.complex FloatKind.f64 s3 t3] : Array Value)[j]? = some v → (wd.alloc (Obj.cells #[Value.complex FloatKind.f64 s0 t0, Value.complex FloatKind.f64 s1 t1, Value.complex FloatKind.f64 s2 t2, Value.complex FloatKind.f64 s3 t3] 49)).cell? ⟨wd.heap.size, j, none⟩ = some v := fun j v h => new_cell wd _ _ _ j v rfl h
  rcases (by omega : i = 0 ∨ i = 1 ∨ i = 2 ∨ i = 3) with rfl | rfl | rfl | rfl
  · exact ⟨s0, t0, hc 0 _ rfl, by rw [e0]; exact R0.out⟩
  · exact ⟨s1, t1, hc 1 _ rfl, by rw [e1]; exact R1.out⟩
  · exact ⟨s2, t2, hc 2 _ rfl, by rw [e2]; exact R2.out⟩
  · exact ⟨s3, t3, hc 3 _ rfl, by rw [e3]; exact R3.out⟩
end Go.Proofs.Ytmckaoeofikdaaa.Lift

/-! What gate.Word has found, as it lies in memory; a kind appended to a clipped word. -/
namespace Go.Proofs.Ytmckaoeofikdaaa.Lift
open Go.Proofs.Ytmckaoeofikdaaa.Spl
open Go.RowKit Go.Proofs.YtmckaoeofikdaaaW.PrintWords Go.Proofs.YtmckaoeofikdaaaW.PrintLast Go.Proofs.YtmckaoeofikdaaaW.PrintMore

/-- A word in memory. -/
def WIn (W : World) (v : Value) (l : List Nat) : Prop := (v = .slice none 0 0 ∧ l = []) ∨ ∃ b c, v = .slice (some ⟨b, 0, none⟩) l.length c ∧ l ≠ [] ∧ l.length ≤ c ∧ ∀ (p k : Nat), l[p]? = some k → W.cell? ⟨b, p, none⟩ = some (.int .i64 (k : Int))
theorem WIn.below {W W1 : World} {v : Value} {l : List Nat} (h : WIn W v l) (hb : Below W.heap.size W W1) : WIn W1 v l := by
  rcases h with h | ⟨b, c, h1, h2, h3, h4⟩
  · exact .inl h
  · exact .inr ⟨b, c, h1, h2, h3, fun p k hk => (hb.cell (World.block_lt_of_cell? W _ (h4 p k hk))).trans (h4 p k hk)⟩
theorem WIn.val {W : World} {v : Value} {l : List Nat} (h : WIn W v l) : ∃ A c, v = .slice A l.length c := by
  rcases h with ⟨h, h1⟩ | ⟨b, c, h1, _⟩
  · exact ⟨none, 0, by rw [h, h1]; rfl⟩
  · exact ⟨_, c, h1⟩
/-- Place j of what is found. -/
def kW : Kd Nat where
  sz := 3
  E := []
  K := fun W j cs => ∃ e ce v, cs = [.int .i64 2, .slice (some ⟨e, 0, none⟩) 4 ce, v] ∧ HoldsC W e 4 1 (toZ (at_ j)) ∧ WIn W v (word j)
  M := fun _ _ _ _ _ => False
  K_len := fun ⟨_, _, _, h, _⟩ => by rw [h]; rfl
  K_one := fun ⟨e, ce, v, h, _, hw⟩ u hu => by
    obtain ⟨A, c, rfl⟩ := hw.val
    rw [h] at hu
    simp only [List.mem_cons, List.not_mem_nil, or_false] at hu
    rcases hu with rfl | rfl | rfl <;> rfl
  K_below := fun hb ⟨e, ce, v, h, hh, hw⟩ => ⟨e, ce, v, h, hh.below hb, hw.below hb⟩
  K_of_M := fun h => h.elim
  M_mono := fun _ h => h.elim
  M_bound := fun h => h.elim
  M_move := fun _ h => h.elim
  M_lower := fun _ h => h.elim
theorem kW_FK {W : World} {ok : Nat → Prop} {j e ce : Nat} {v : Value} (hh : HoldsC W e 4 1 (toZ (at_ j))) (hw : WIn W v (word j)) (he : ok e) (hv : ∀ k, v.ownBlock = some k → ok k) :
    Kd.FK kW W ok j [.int .i64 2, .slice (some ⟨e, 0, none⟩) 4 ce, v] := fun W' hW => by
  have cell : ∀ {b p : Nat} {u : Value}, ok b → W.cell? ⟨b, p, none⟩ = some u → W'.cell? ⟨b, p, none⟩ = some u := fun hb hc =>
    (World.cell?_of_block (hW _ hb (World.block_lt_of_cell? W _ hc))).trans hc
  refine ⟨e, ce, v, rfl, fun i hi => ?_, ?_⟩
  · obtain ⟨x, y, h1, h2⟩ := hh i hi
    exact ⟨x, y, cell he h1, h2⟩
  · rcases hw with hw | ⟨b, c, h1, h2, h3, h4⟩
    · exact .inl hw
    · refine .inr ⟨b, c, h1, h2, h3, fun p k hk => cell (hv b (by rw [h1]; rfl)) (h4 p k hk)⟩
/-- Places in sight. -/
theorem kW_plc {W : World} {base : Nat} {ok : Nat → Prop} {g n cap : Nat} {xs : List Nat} (h : Kd.N kW 115 W base ok (.slice (some ⟨g, 0, none⟩) n cap) xs) (j : Nat) (hj : j < n) :
    ∃ e ce v, W.cell? ⟨g, j * 3, none⟩ = some (.int .i64 2) ∧ W.cell? ⟨g, j * 3 + 1, none⟩ = some (.slice (some ⟨e, 0, none⟩) 4 ce) ∧ W.cell? ⟨g, j * 3 + 2, none⟩ = some v ∧ HoldsC W e 4 1 (toZ (at_ (xs.getD j 0))) ∧ WIn W v (word (xs.getD j 0)) := by
  obtain ⟨c, _, hK, hc, _⟩ := Kd.N_elem h 0 (j : Int) (by omega) (by omega)
  obtain ⟨e, ce, v, rfl, hh, hw⟩ := Kd.FK_now hK
  simp only [Int.toNat_natCast] at hc hh hw
  exact ⟨e, ce, v, hc 0 _ rfl, hc 1 _ rfl, hc 2 _ rfl, hh, hw⟩
/-- A word with nothing behind it. -/
def Clipped (v : Value) (l : List Nat) : Value := match v with
  | .slice (some a) _ _ => .slice (some a) l.length l.length
  | v => v
theorem clip_word {W : World} {v : Value} {l : List Nat} (h : WIn W v l) : Calls Try.prog 90 #[v] W fun r w' => r = .returned (Clipped v l) ∧ Below W.heap.size W w' := by
  rcases h with ⟨rfl, rfl⟩ | ⟨b, c, rfl, h2, h3, h4⟩
  · exact clip_nil W
  · exact clip_any _ _ _ W h3
/-- append(Clip(word), kind). -/
theorem run_wapp {W1 : World} {v : Value} {l : List Nat} (h : WIn W1 v l) (hl : l.length < 1000) (k gk : Nat) (ty : TypeId) (hk : W1.heap[gk]? = some (.cells #[.int .i64 (k : Int)] 27 (0, 0))) :
    ∃ b c W2, (Builtin.append_ #[25, 25] ty #[Clipped v l, .slice (some ⟨gk, 0, none⟩) 1 1]).run Try.prog W1 = .ok (.slice (some ⟨b, 0, none⟩) (l.length + 1) c) W2 ∧ WIn W2 (.slice (some ⟨b, 0, none⟩) (l.length + 1) c) (l ++ [k]) ∧ W1.heap.size ≤ b ∧ Below W1.heap.size W1 W2 := by
  have hnew : ∀ j u, [Value.int .i64 (k : Int)][j]? = some u → W1.cell? ((⟨gk, 0, none⟩ : Addr).add j) = some u := World.news_of_block hk
  obtain ⟨i0, hi, hz0, hz1, hz2⟩ := info_parts (show (Try.prog.info? 27).map (fun i => (i.zero, i.size, i.bytes)) = some (some (.int .i64 0), 1, 8) by kernel_rfl)
  have hb2 : ∀ o, Below W1.heap.size W1 (W1.drew.alloc o) := fun o => (Below.refl W1.heap.size W1).drew.alloc (Nat.le_refl _) o
  rcases h with ⟨rfl, rfl⟩ | ⟨b, c, rfl, h2, h3, h4⟩
  · have hr := run_append_nil (P := Try.prog) W1 25 ty 27 i0 _ Try.underlying25 hi hz0 ⟨gk, 0, none⟩ 1 1 [.int .i64 (k : Int)] (by rw [hz1]; rfl) hnew (by omega) (by omega) (by rw [hz2]; omega)
    have hcap := grownCap_ge W1 1 0 27
    refine ⟨_, _, _, hr, .inr ⟨_, _, rfl, by simp, hcap, fun p q hq => ?_⟩, Nat.le_refl _, hb2 _⟩
    rw [show W1.heap.size = W1.drew.heap.size from rfl]
    refine new_cell W1.drew _ _ _ p _ rfl ?_
    have hp : p = 0 := by
      have := (List.getElem?_eq_some_iff.1 hq).1
      simp at this; exact this
    subst hp
    simp only [List.nil_append, List.getElem?_cons_zero, Option.some.injEq] at hq
    subst hq
    rw [Array.getElem?_append_left (by simp)]
    rfl
  · have hold : ∀ j u, (l.map fun q => Value.int .i64 ((q : Nat) : Int))[j]? = some u → W1.cell? ((⟨b, 0, none⟩ : Addr).add j) = some u := fun j u hu => by
      rw [List.getElem?_map] at hu
      cases hq : l[j]? with
      | none => rw [hq] at hu; cases hu
      | some q =>
        rw [hq] at hu
        have e := Option.some.inj hu
        rw [show (⟨b, 0, none⟩ : Addr).add j = ⟨b, j, none⟩ by rw [add_at, Nat.zero_add]]
        rw [← e]
        exact h4 j q hq
    have hr := run_append_grow (P := Try.prog) W1 25 ty 27 i0 _ Try.underlying25 hi hz0 ⟨b, 0, none⟩ l.length l.length _ (by rw [hz1, List.length_map]; omega) hold ⟨gk, 0, none⟩ 1 1 [.int .i64 (k : Int)] (by rw [hz1]; rfl) hnew (by omega) (by omega) (growslice_fits (by omega) (by rw [hz2]; omega))
    have hcap := grownCap_ge W1 (l.length + 1) l.length 27
    refine ⟨_, _, _, hr, .inr ⟨_, _, by rw [List.length_append]; rfl, by simp, by rw [List.length_append]; exact hcap, fun p q hq => ?_⟩, Nat.le_refl _, hb2 _⟩
    rw [show W1.heap.size = W1.drew.heap.size from rfl]
    refine new_cell W1.drew _ _ _ p _ rfl ?_
    have hp := (List.getElem?_eq_some_iff.1 hq).1
    have hm : (((l ++ [k]).map fun q => Value.int .i64 ((q : Nat) : Int)).toArray ++ Builtin.zeroCells (Value.int .i64 0).cells (grownCap W1 (l.length + 1) l.length 27 - (l.length + 1)))[p]? = some (.int .i64 (q : Int)) := by
      rw [Array.getElem?_append_left (by simpa using hp)]
      simp only [List.getElem?_toArray, List.getElem?_map, hq, Option.map_some]
    simpa using hm
/-- The same as an arm. -/
theorem wapp_arm {ops : Array Oper} {o : Oper} {a : Act} {Q : Exit → Act → World → Prop} {Kc : Act → World → Prop} {W1 : World} {v : Value} {l : List Nat} (hw : Region.wanted o (yielded ops a.tmps) = true) (s x : Operand)
    (ho : o.op = .call { callee := .builtin .append, args := #[s, x], argTypes := #[25, 25] }) (h : WIn W1 v l) (hl : l.length < 1000) (k gk : Nat) (hk : W1.heap[gk]? = some (.cells #[.int .i64 (k : Int)] 27 (0, 0))) (hs : a.eval s = Clipped v l) (hx : a.eval x = .slice (some ⟨gk, 0, none⟩) 1 1)
    (hn : ∀ b c W2, WIn W2 (.slice (some ⟨b, 0, none⟩) (l.length + 1) c) (l ++ [k]) → W1.heap.size ≤ b → Below W1.heap.size W1 W2 → Kc (a.put o.dst (.slice (some ⟨b, 0, none⟩) (l.length + 1) c)) W2) :
    if Region.wanted o (yielded ops a.tmps) = true then Oper.wp Try.prog o a W1 Kc Q else Kc (a.put o.dst undef) W1 := by
  rw [if_pos hw]
  obtain ⟨b, c, W2, hr, h1, h2, h3⟩ := run_wapp h hl k gk o.type hk
  unfold Oper.wp execOp
  simp only [ho, resolve, invoke, builtin, Sem.run_bind, Sem.run_pure, Result.andThen_ok, List.map_toArray, List.map_cons, List.map_nil, hs, hx, hr]
  exact hn b c W2 h1 h2 h3
end Go.Proofs.Ytmckaoeofikdaaa.Lift

/-! gate.Word's search: what memory holds while it goes on. -/
namespace Go.Proofs.Ytmckaoeofikdaaa.Lift
open Go.Proofs.Ytmckaoeofikdaaa.Spl
open Go.RowKit Go.Proofs.YtmckaoeofikdaaaW.PrintWords Go.Proofs.YtmckaoeofikdaaaW.PrintLast Go.Proofs.YtmckaoeofikdaaaW.PrintMore

/-- While gate.Word searches: B its own box of the matrix; v the row of what is found. -/
structure WSt (W : World) (B e0 c0 jj n : Nat) (v : Value) (wr : World) : Prop where
  b : Below W.heap.size W wr
  eB : B = W.heap.size
  lt : B + 1 ≤ wr.heap.size
  box : wr.heap[B]? = some (.cells #[.int .i64 2, .slice (some ⟨e0, 0, none⟩) 4 c0] 45 (0, 0))
  m : HoldsC W e0 4 1 (toZ (at_ jj))
  n : Kd.N kW 115 wr (B + 1) (fun k => B + 1 ≤ k) v (List.range n)
section
variable {W wr w1 : World} {B e0 c0 jj n : Nat} {v : Value}
theorem WSt.next (h : WSt W B e0 c0 jj n v wr) (hb : Below wr.heap.size wr w1) : WSt W B e0 c0 jj n v w1 :=
  ⟨h.b.trans (hb.mono h.b.size), h.eB, Nat.le_trans h.lt hb.size, (hb.block B h.lt).trans h.box, h.m, Kd.N_below h.n hb⟩
theorem WSt.drew (h : WSt W B e0 c0 jj n v wr) : WSt W B e0 c0 jj n v wr.drew := h.next ((Below.refl _ _).drew)
theorem WSt.grow {w0 : World} {v1 : Value} (h : WSt W B e0 c0 jj n v w0) (hb : Below (B + 1) w0 w1) (hn : Kd.N kW 115 w1 (B + 1) (fun k => B + 1 ≤ k) v1 (List.range (n + 1))) : WSt W B e0 c0 jj (n + 1) v1 w1 :=
  ⟨h.b.trans (hb.mono (by have := h.eB; omega)), h.eB, Nat.le_trans h.lt hb.size, (hb.block B (by omega)).trans h.box, h.m, hn⟩
theorem WSt.hm (h : WSt W B e0 c0 jj n v wr) : HoldsC wr e0 4 1 (toZ (at_ jj)) := h.m.below h.b
theorem WSt.k0 (h : WSt W B e0 c0 jj n v wr) : wr.cell? ⟨B, 0, none⟩ = some (.int .i64 2) := by rw [cell_of_row _ _ _ _ _ _ h.box]; rfl
theorem WSt.k1 (h : WSt W B e0 c0 jj n v wr) : wr.cell? ⟨B, 1, none⟩ = some (.slice (some ⟨e0, 0, none⟩) 4 c0) := by rw [cell_of_row _ _ _ _ _ _ h.box]; rfl
theorem WSt.form (h : WSt W B e0 c0 jj n v wr) (hn : 0 < n) : ∃ g cap m, v = .slice (some ⟨g, 0, none⟩) m cap ∧ m = n ∧ B + 1 ≤ g ∧ g < wr.heap.size := by
  obtain ⟨g, cap, h1, h2, h3, _⟩ := Kd.N_form h.n (by simpa using hn)
  exact ⟨g, cap, _, h1, by simp, h2, h3⟩
theorem WSt.place {g m cap : Nat} (h : WSt W B e0 c0 jj n (.slice (some ⟨g, 0, none⟩) m cap) wr) (hm : m = n) (j : Nat) (hj : j < m) :
    ∃ e ce A c, wr.cell? ⟨g, j * 3, none⟩ = some (.int .i64 2) ∧ wr.cell? ⟨g, j * 3 + 1, none⟩ = some (.slice (some ⟨e, 0, none⟩) 4 ce) ∧ wr.cell? ⟨g, j * 3 + 2, none⟩ = some (.slice A (word j).length c) ∧ HoldsC wr e 4 1 (toZ (at_ j)) ∧ WIn wr (.slice A (word j).length c) (word j) ∧ e < wr.heap.size := by
  obtain ⟨e, ce, v, h1, h2, h3, h4, h5⟩ := kW_plc h.n j hj
  rw [List.getD_eq_getElem?_getD, List.getElem?_range (by omega), Option.getD_some] at h4 h5
  obtain ⟨A, c, rfl⟩ := h5.val
  obtain ⟨x, y, h6, _⟩ := h4 0 (by omega)
  exact ⟨e, ce, A, c, h1, h2, h3, h4, h5, World.block_lt_of_cell? _ _ h6⟩
theorem WSt.plcs {g m cap : Nat} (h : WSt W B e0 c0 jj n (.slice (some ⟨g, 0, none⟩) m cap) wr) (hm : m = n) : ∀ j, j < m → ∃ e ce aw cw, Plc wr g j e ce aw cw := fun j hj => by
  obtain ⟨e, ce, A, c, h1, h2, h3, h4, _, h6⟩ := h.place hm j hj
  exact ⟨e, ce, A, c, ⟨h1, h2, h3, h4, h6⟩⟩
end
theorem one_ok : ∀ i : Fin 4, (0 : Fin 4) ≤ i ∧ ([(2, 0), (0, 0), (0, 0), (2, 0)] : List Zi).getD i (0, 0) = toZ (at_ 0) i := by decide +kernel
theorem HoldsC.one {w : World} {e : Nat} (h : w.heap[e]? = some (.cells #[Value.complex FloatKind.f64 4607182418800017408 0, Value.complex FloatKind.f64 0 0, Value.complex FloatKind.f64 0 0, Value.complex FloatKind.f64 4607182418800017408 0] 49 (0, 0))) : HoldsC w e 4 1 (toZ (at_ 0)) := fun i hi => by
  have z : Fp.IsF 0 1 0 := isF_nought _ (by omega)
  have o : Fp.IsF 4607182418800017408 1 2 := ⟨by omega, false, 2 ^ 52, -52, by decide +kernel, by decide, by decide +kernel⟩
  rw [← (one_ok ⟨i, hi⟩).2]
  have hc : ∀ (j : Nat) (u : Value), (#[Value.complex FloatKind.f64 4607182418800017408 0, Value.complex FloatKind.f64 0 0, Value.complex FloatKind.f64 0 0, Value.complex FloatKind.f64 4607182418800017408 0] : Array Value)[j]? = some u → w.cell? ⟨e, j, none⟩ = some u := fun j u hu => by rw [cell_of_row _ _ _ _ _ _ h]; exact hu
  rcases (by omega : i = 0 ∨ i = 1 ∨ i = 2 ∨ i = 3) with rfl | rfl | rfl | rfl
  · exact ⟨_, _, hc 0 _ rfl, o, z⟩
  · exact ⟨_, _, hc 1 _ rfl, z, z⟩
  · exact ⟨_, _, hc 2 _ rfl, z, z⟩
  · exact ⟨_, _, hc 3 _ rfl, o, z⟩
/-- The start: one place. -/
def wstart (W : World) (e0 c0 : Nat) : World := ((W.alloc (.cells #[.int .i64 2, .slice (some ⟨e0, 0, none⟩) 4 c0] 45)).alloc (.cells #[Value.complex FloatKind.f64 4607182418800017408 0, Value.complex FloatKind.f64 0 0, Value.complex FloatKind.f64 0 0, Value.complex FloatKind.f64 4607182418800017408 0] 49)).alloc
  (.cells #[.int .i64 2, .slice (some ⟨W.heap.size + 1, 0, none⟩) 4 4, .slice none 0 0] 115)
theorem WSt.start {W : World} {e0 c0 jj : Nat} (hM : HoldsC W e0 4 1 (toZ (at_ jj))) : WSt W W.heap.size e0 c0 jj 1 (.slice (some ⟨W.heap.size + 1 + 1, 0, none⟩) 1 1) (wstart W e0 c0) := by
  have hb : Below W.heap.size W (wstart W e0 c0) := (((Below.refl _ _).alloc (Nat.le_refl _) _).alloc (by simp) _).alloc (by simp; omega) _
  have hl : (wstart W e0 c0).heap[W.heap.size + 1 + 1]? = some (.cells #[.int .i64 2, .slice (some ⟨W.heap.size + 1, 0, none⟩) 4 4, .slice none 0 0] 115 (0, 0)) := by
    have := heap_alloc_new ((W.alloc (.cells #[.int .i64 2, .slice (some ⟨e0, 0, none⟩) 4 c0] 45)).alloc (.cells #[Value.complex FloatKind.f64 4607182418800017408 0, Value.complex FloatKind.f64 0 0, Value.complex FloatKind.f64 0 0, Value.complex FloatKind.f64 4607182418800017408 0] 49)) (.cells #[.int .i64 2, .slice (some ⟨W.heap.size + 1, 0, none⟩) 4 4, .slice none 0 0] 115)
    simpa [wstart] using this
  have he : (wstart W e0 c0).heap[W.heap.size + 1]? = some (.cells #[Value.complex FloatKind.f64 4607182418800017408 0, Value.complex FloatKind.f64 0 0, Value.complex FloatKind.f64 0 0, Value.complex FloatKind.f64 4607182418800017408 0] 49 (0, 0)) := by
    unfold wstart
    rw [heap_alloc_old _ _ (by simp)]
    have := heap_alloc_new (W.alloc (.cells #[.int .i64 2, .slice (some ⟨e0, 0, none⟩) 4 c0] 45)) (.cells #[Value.complex FloatKind.f64 4607182418800017408 0, Value.complex FloatKind.f64 0 0, Value.complex FloatKind.f64 0 0, Value.complex FloatKind.f64 4607182418800017408 0] 49)
    simpa using this
  have hx : (wstart W e0 c0).heap[W.heap.size]? = some (.cells #[.int .i64 2, .slice (some ⟨e0, 0, none⟩) 4 c0] 45 (0, 0)) := by
    unfold wstart
    rw [heap_alloc_old _ _ (by simp; omega), heap_alloc_old _ _ (by simp)]
    exact heap_alloc_new W _
  refine ⟨hb, rfl, by simp [wstart], hx, hM, fun k hk => by simp [Value.ownBlock] at hk; omega, [[.int .i64 2, .slice (some ⟨W.heap.size + 1, 0, none⟩) 4 4, .slice none 0 0]], rfl, ⟨fun k hk => hk.symm, [.int .i64 2, .slice (some ⟨W.heap.size + 1, 0, none⟩) 4 4, .slice none 0 0], ⟨rfl, .inr ⟨_, 1, _, rfl, by omega, hl, Nat.le_refl _, by decide, rfl, rfl⟩⟩, ?_⟩, fun j x c hx hc => ?_⟩
  · exact Reps.snoc (Reps.none _ _) ⟨rfl, rfl, fun u hu => by
      simp only [List.mem_cons, List.not_mem_nil, or_false] at hu
      rcases hu with rfl | rfl | rfl <;> rfl⟩ rfl
  · have hj : j = 0 := by
      have := (List.getElem?_eq_some_iff.1 hc).1
      simp at this; exact this
    subst hj
    simp only [List.getElem?_cons_zero, Option.some.injEq] at hc
    have hx0 : x = 0 := by
      have : (List.range 1)[0]? = some 0 := rfl
      rw [this] at hx
      exact (Option.some.inj hx).symm
    subst hx0
    rw [← hc]
    refine kW_FK (HoldsC.one he) (.inl ⟨rfl, word_zero⟩) ⟨by omega, fun e => ?_⟩ (fun k hk => by simp [Value.ownBlock] at hk)
    simp [Value.ownBlock] at e
end Go.Proofs.Ytmckaoeofikdaaa.Lift

/-! gate.Word of a matrix that it finds. -/
namespace Go.Proofs.Ytmckaoeofikdaaa.Lift
open Go.Proofs.Ytmckaoeofikdaaa.Spl
open Go.RowKit Go.Proofs.YtmckaoeofikdaaaW.PrintWords Go.Proofs.YtmckaoeofikdaaaW.PrintLast Go.Proofs.YtmckaoeofikdaaaW.PrintMore

theorem cnt_le : ∀ i : Fin 96, ∀ k : Fin 11, cnt i k ≤ 96 := by decide +kernel
theorem cnt_gt : ∀ i : Fin 96, ∀ k : Fin 11, i.val < cnt i k := by decide +kernel
theorem word_len : ∀ i : Fin 96, (word i).length < 1000 := by decide +kernel
theorem WSt.cast {W : World} {B e0 c0 jj n n' : Nat} {v : Value} {wr : World} (h : WSt W B e0 c0 jj n v wr) (e : n = n') : WSt W B e0 c0 jj n' v wr := e ▸ h
theorem info_reached : (Try.prog.info? 115).map (fun i => (i.zero, i.size, i.bytes)) = some (some (.agg #[.int .i64 0, .slice none 0 0, .slice none 0 0]), 3, 56) := by kernel_rfl
theorem zero_reached : (Value.agg #[.int .i64 0, .slice none 0 0, .slice none 0 0]).cells.size = 3 := by simp [Value.cells]
theorem side_two : ∀ k : Fin 10, sideF ((k.val + 1 : Nat) : Int) = 2 := by decide +kernel
theorem matrix_two {k : Nat} (hk : k < 10) (w : World) : Calls Try.prog 40 #[.int .i64 ((k : Int) + 1)] w fun r w' => ∃ b, r = .returned (.tuple #[.agg #[.int .i64 2, .slice (some ⟨b, 0, none⟩) 4 4], .int .i64 0]) ∧ HoldsC w' b 4 1 (matF ((k + 1 : Nat) : Int)) ∧ w.heap.size ≤ b ∧ b < w'.heap.size ∧ Below w.heap.size w w' := by
  have h := matrix_any ((k + 1 : Nat) : Int) (by omega) (by omega) w
  have hs := side_two ⟨k, hk⟩
  simp only at hs
  rw [hs] at h
  refine h.mono fun r w' ⟨b, h1, h2, h3, h4, h5⟩ => ⟨b, h1, h4, h2, h3, h5⟩
theorem times_two {i k : Nat} (hi : i < 96) (hk : k < 10) (ba bb ca cb : Nat) (w : World) (hA : HoldsC w ba 4 1 (matF ((k + 1 : Nat) : Int))) (hB : HoldsC w bb 4 1 (toZ (at_ i))) :
    Calls Try.prog 73 #[.agg #[.int .i64 2, .slice (some ⟨ba, 0, none⟩) 4 ca], .agg #[.int .i64 2, .slice (some ⟨bb, 0, none⟩) 4 cb]] w fun e w' => ∃ be, e = .returned (.agg #[.int .i64 2, .slice (some ⟨be, 0, none⟩) 4 4]) ∧ HoldsC w' be 4 1 (toZ (at_ (to_ i (k + 1)))) ∧ w.heap.size ≤ be ∧ Below w.heap.size w w' := by
  obtain ⟨_, _, h1, _⟩ := hA 0 (by omega)
  obtain ⟨_, _, h2, _⟩ := hB 0 (by omega)
  exact times_tab hi hk ba bb ca cb w hA hB (World.block_lt_of_cell? _ _ h1) (World.block_lt_of_cell? _ _ h2)
theorem below_cell2 {w w' : World} (hb : Below w.heap.size w w') {a : Addr} {v : Value} (h : w.cell? a = some v) : w'.cell? a = some v := (hb.cell (World.block_lt_of_cell? _ _ h)).trans h
/-- Behind the product, its box made. -/
structure T13 (w : World) (t be g9 : Nat) (w' : World) : Prop where
  b : Below w.heap.size w w'
  h : HoldsC w' be 4 1 (toZ (at_ t))
  box : w'.heap[g9]? = some (.cells #[.int .i64 0, .slice none 0 0] 45 (0, 0))
  ge : w.heap.size ≤ g9
  gb : w.heap.size ≤ be
theorem T13.a {w wd w3 : World} {t be : Nat} (hd : Below w.heap.size w wd) (h : HoldsC w3 be 4 1 (toZ (at_ t))) (gb : wd.heap.size ≤ be) (hb : Below wd.heap.size wd w3) : T13 w t be w3.heap.size (w3.alloc (.cells #[.int .i64 0, .slice none 0 0] 45)) :=
  have h3 := (Below.refl w3.heap.size w3).alloc (Nat.le_refl _) (.cells #[.int .i64 0, .slice none 0 0] 45)
  ⟨(hd.trans (hb.mono hd.size)).trans (h3.mono (Nat.le_trans hd.size hb.size)), h.below h3, heap_alloc_new _ _, Nat.le_trans hd.size hb.size, Nat.le_trans hd.size gb⟩
theorem T13.b' {w wd w3 : World} {t be : Nat} (hd : Below w.heap.size w wd) (h : HoldsC w3 be 4 1 (toZ (at_ t))) (gb : (wd.alloc (.cells #[.int .i64 0, .slice none 0 0] 45)).heap.size ≤ be) (hb : Below (wd.alloc (.cells #[.int .i64 0, .slice none 0 0] 45)).heap.size (wd.alloc (.cells #[.int .i64 0, .slice none 0 0] 45)) w3) : T13 w t be wd.heap.size w3 :=
  have h3 := (Below.refl wd.heap.size wd).alloc (Nat.le_refl _) (.cells #[.int .i64 0, .slice none 0 0] 45)
  ⟨(hd.trans (h3.mono hd.size)).trans (hb.mono (Nat.le_trans hd.size h3.size)), h, (hb.block _ (by simp)).trans (heap_alloc_new _ _), hd.size, Nat.le_trans (Nat.le_trans hd.size h3.size) gb⟩
theorem T13.ne {w w' : World} {t be g9 : Nat} (h : T13 w t be g9 w') : be ≠ g9 := fun e => by
  obtain ⟨x, y, h1, _⟩ := h.h 0 (by omega)
  rw [e, cell_of_row _ _ _ _ _ _ h.box] at h1
  cases h1
/-- .. and the product put into it. -/
structure T14 (w : World) (t be g9 : Nat) (w' : World) : Prop where
  b : Below w.heap.size w w'
  h : HoldsC w' be 4 1 (toZ (at_ t))
  c0 : w'.cell? ⟨g9, 0, none⟩ = some (.int .i64 2)
  c1 : w'.cell? ⟨g9, 1, none⟩ = some (.slice (some ⟨be, 0, none⟩) 4 4)
  lt : g9 < w'.heap.size
  gb : w.heap.size ≤ be
theorem T13.store {w w' : World} {t be g9 : Nat} (h : T13 w t be g9 w') : T14 w t be g9 ((w'.setCell ⟨g9, 0, none⟩ (.int .i64 2)).setCell ⟨g9, 1, none⟩ (.slice (some ⟨be, 0, none⟩) 4 4)) := by
  have y1 := blk_put h.box 0 (.int .i64 2) rfl
  have y2 := blk_put y1 1 (.slice (some ⟨be, 0, none⟩) 4 4) rfl
  have hne := h.ne
  refine ⟨(h.b.setCell h.ge _).setCell h.ge _, fun i hi => ?_, ?_, ?_, ?_, h.gb⟩
  · obtain ⟨x, y, h1, h2⟩ := h.h i hi
    exact ⟨x, y, ((cell_set_ne _ _ _ _ _ _ (.inl (Ne.symm hne))).trans (cell_set_ne _ _ _ _ _ _ (.inl (Ne.symm hne)))).trans h1, h2⟩
  · rw [cell_of_row _ _ _ _ _ _ y2]; rfl
  · rw [cell_of_row _ _ _ _ _ _ y2]; rfl
  · exact blk_lt y2
set_option maxHeartbeats 4000000 in
set_option maxRecDepth 1000000 in
theorem word_any (e0 c0 jj : Nat) (hj : jj < 96) (W : World) (hM : HoldsC W e0 4 1 (toZ (at_ jj))) :
    Calls Try.prog 56 #[.agg #[.int .i64 2, .slice (some ⟨e0, 0, none⟩) 4 c0]] W fun r w' => ∃ v, r = .returned (.tuple #[v, .int .i64 0]) ∧ WIn w' v (word jj) ∧ Below W.heap.size W w' := by
  have HJ := Aside0.mk hj
  have H0 := Aside0.mk (WSt.start (c0 := c0) hM)
  clear hM hj
  go_enter Try.func56, Try.ntmps56
  go_upto_region 5 with fail
  unfold wstart at H0
  generalize ((W.alloc _).alloc _).alloc _ = w0 at H0 ⊢
  obtain ⟨B, hB⟩ : ∃ B, B = W.heap.size := ⟨_, rfl⟩
  rw [← hB] at H0 ⊢
  have HB := Aside0.mk hB
  clear hB
  go_loopg [4, 5] (jj + 1) (fun gk v4 v5 wr => ∃ i, i ≤ jj ∧ jj + 1 - i ≤ gk ∧ v5 = .int .i64 (i : Int) ∧ Aside0 (WSt W B e0 c0 jj (cnt i 0) v4 wr))
  case atStart => exact ⟨0, by omega, by omega, by go_num, H0⟩
  case round =>
    obtain ⟨i, hi0, hi1, rfl, HI⟩ := hrel
    have hjj := HJ.out
    have HR : Aside0 (i < cnt i 0 ∧ cnt i 10 = cnt (i + 1) 0) := Aside0.mk (Spl.round ⟨i, by omega⟩)
    obtain ⟨g, cap, m, rfl, hm, hg, hgl⟩ := HI.out.form (Nat.lt_of_le_of_lt (Nat.zero_le _) HR.out.1)
    have hlt : i < m := by rw [hm]; exact HR.out.1
    have hm96 : m ≤ 96 := by rw [hm]; exact cnt_le ⟨i, by omega⟩ ⟨0, by omega⟩
    obtain ⟨ei, cei, A, cA, p0, p1, p2, ph, pw, pl⟩ := HI.out.place hm i hlt
    have HMM := Aside0.mk hm
    have PH := Aside0.mk ph
    have PW := Aside0.mk pw
    have PL := Aside0.mk pl
    clear hm ph pw pl hjj
    go_upto_region 7 with fail
    have q1 := HI.out.k1
    have HS := Aside0.mk (show sameM 4 (toZ (at_ i)) (toZ (at_ jj)) = decide (i = jj) by
      have h := at_same ⟨i, by have := HJ.out; omega⟩ ⟨jj, HJ.out⟩
      simp only [Fin.mk.injEq] at h
      exact h)
    have HE := Aside0.mk (fun w' (hb : Below wr.heap.size wr w') => cequal_any 4 1 ei e0 cei c0 (by decide) _ _ w' (PH.out.below hb) (HI.out.hm.below hb))
    rw [HS.out] at HE
    clear HS
    have HD := Aside0.mk (Below.refl wr.heap.size wr).drew
    refine start_ (n := 9) (S := fun w' => w'.cell? ⟨g, i * 3 + 1, none⟩ = some (.slice (some ⟨ei, 0, none⟩) 4 cei) ∧ w'.cell? ⟨B, 1, none⟩ = some (.slice (some ⟨e0, 0, none⟩) 4 c0)) (ds := [8]) #[false, false, false, false, false, false, false, false, false] (by kernel_rfl) rfl rfl ⟨p1, q1⟩ (fun hHeld => ?_)
    generalize wr.drew = wd at HD hHeld ⊢
    refine pure_ (i := 0) (N := some 29) (v := ?_) (a' := ?_) #[true, false, false, false, false, false, false, false, false] rfl rfl (by kernel_rfl) (fun _ _ _ h => h) (Or.inl ⟨by rfl, ?_⟩) ?_ ?_
    rotate_left
    · intro w'
      go_simp
      with_reducible rfl
    rotate_left
    · simp only [Act.put, List.setIfInBounds_toArray, List.set_cons_zero, List.set_cons_succ]
      rfl
    refine pure_ (i := 1) (N := some 30) (v := ?_) (a' := ?_) #[true, true, false, false, false, false, false, false, false] rfl rfl (by kernel_rfl) (fun _ _ _ h => h) (Or.inl ⟨by rfl, ?_⟩) ?_ ?_
    rotate_left
    · intro w'
      go_simp
      with_reducible rfl
    rotate_left
    · simp only [Act.put, List.setIfInBounds_toArray, List.set_cons_zero, List.set_cons_succ]
      rfl
    refine pure_ (i := 2) (N := some 31) (v := ?_) (a' := ?_) #[true, true, true, false, false, false, false, false, false] rfl rfl (by kernel_rfl) (fun _ _ _ h => h) (Or.inl ⟨by rfl, ?_⟩) ?_ ?_
    rotate_left
    · intro w'
      go_simp
      with_reducible rfl
    rotate_left
    · simp only [Act.put, List.setIfInBounds_toArray, List.set_cons_zero, List.set_cons_succ]
      rfl
    refine pure_ (i := 3) (N := some 32) (v := ?_) (a' := ?_) #[true, true, true, true, false, false, false, false, false] rfl rfl (by kernel_rfl) (fun _ _ _ h => h) (Or.inl ⟨by rfl, ?_⟩) ?_ ?_
    rotate_left
    · intro w'
      go_simp
      with_reducible rfl
    rotate_left
    · simp only [Act.put, List.setIfInBounds_toArray, List.set_cons_zero, List.set_cons_succ]
      rfl
    refine pure_ (i := 4) (N := some 33) (v := ?_) (a' := ?_) #[true, true, true, true, true, false, false, false, false] rfl rfl (by kernel_rfl) (fun _ _ _ h => h) (Or.inl ⟨by rfl, ?_⟩) ?_ ?_
    rotate_left
    · intro w'
      go_simp
      with_reducible rfl
    rotate_left
    · simp only [Act.put, List.setIfInBounds_toArray, List.set_cons_zero, List.set_cons_succ]
      rfl
    refine pure_ (i := 6) (N := some 35) (v := ?_) (a' := ?_) #[true, true, true, true, true, false, true, false, false] rfl rfl (by kernel_rfl) (fun _ _ _ h => h) (Or.inl ⟨by rfl, ?_⟩) ?_ ?_
    rotate_left
    · intro w'
      go_simp
      with_reducible rfl
    rotate_left
    · simp only [Act.put, List.setIfInBounds_toArray, List.set_cons_zero, List.set_cons_succ]
      rfl
    refine take_ (i := 5) (N := some 34) (v := ?_) (a' := ?_) #[true, true, true, true, true, true, true, false, false] rfl rfl (by kernel_rfl) (fun _ _ _ h => h) (Or.inl ⟨by rfl, ?_⟩) hHeld ?_ ?_
    rotate_left
    · rintro w' ⟨s0, s1⟩
      go_simp
      with_reducible rfl
    rotate_left
    · simp only [Act.put, List.setIfInBounds_toArray, List.set_cons_zero, List.set_cons_succ]
      rfl
    refine take_ (i := 7) (N := some 36) (v := ?_) (a' := ?_) #[true, true, true, true, true, true, true, true, false] rfl rfl (by kernel_rfl) (fun _ _ _ h => h) (Or.inl ⟨by rfl, ?_⟩) hHeld ?_ ?_
    rotate_left
    · rintro w' ⟨s0, s1⟩
      go_simp
      with_reducible rfl
    rotate_left
    · simp only [Act.put, List.setIfInBounds_toArray, List.set_cons_zero, List.set_cons_succ]
      rfl
    refine last_ (i := 8) (N := some 37) #[true, true, true, true, true, true, true, true, true] rfl rfl (by kernel_rfl) (by decide) (fun K hK => ?_)
    refine goes_ Try.func74 (by kernel_rfl) rfl #[.slice (some ⟨ei, 0, none⟩) 4 cei, .slice (some ⟨e0, 0, none⟩) 4 c0] (by rfl) rfl rfl (by simp only [List.map_toArray, List.map_cons, List.map_nil]; rfl) ?_
    with_reducible refine (HE.out wd HD.out).mono ?_
    rintro e w3 ⟨rfl, hd⟩
    refine ⟨_, rfl, ?_⟩
    refine hK.out _ _ ?_
    clear hK K
    refine norm_ (a' := ?_) ?_ ?_
    rotate_left
    · show Act.put _ (some 37) _ = _
      simp only [Act.put, List.setIfInBounds_toArray, List.set_cons_zero, List.set_cons_succ]
      rfl
    refine done_ (by kernel_rfl) ?_
    have HB3 := Aside0.mk (HD.out.trans (hd.below.mono HD.out.size))
    clear hd hHeld HD HE p0 p1 q1
    by_cases hij : i = jj
    · subst hij
      rw [decide_eq_true rfl]
      have r2 : w3.cell? ⟨g, i * 3 + 2, none⟩ = some (.slice A (word i).length cA) := (HB3.out.cell hgl).trans p2
      clear p2
      go_wp2
      go_ret2
      exact ⟨_, rfl, PW.out.below HB3.out, (HI.out.next HB3.out).b⟩
    · rw [decide_eq_false hij]
      have HIJ := Aside0.mk hij
      replace HI := Aside0.mk (HI.out.next HB3.out)
      clear hij p2 hg hgl PH PW PL HB3
      go_upto_region 10 with fail
      go_loopg [4, 6] 10 (fun gk4 v4 v6 wq => ∃ k, k ≤ 10 ∧ 10 - k ≤ gk4 ∧ v6 = .int .i64 ((k : Int) + 1) ∧ Aside0 (WSt W B e0 c0 jj (cnt i k) v4 wq))
      case atStart => exact ⟨0, by omega, by omega, by go_num, HI⟩
      case round =>
        clear HI HMM hlt hm96
        obtain ⟨k, hk0, hk1, rfl, HI⟩ := hrel
        by_cases hk : k < 10
        · have hi96 : i < 96 := Nat.lt_of_le_of_lt hi0 HJ.out
          have hgt := cnt_gt ⟨i, hi96⟩ ⟨k, by omega⟩
          simp only at hgt
          obtain ⟨g, cap, m, rfl, hm, hg, hgl⟩ := HI.out.form (Nat.lt_of_le_of_lt (Nat.zero_le _) hgt)
          have hlt : i < m := by rw [hm]; exact hgt
          have hm96 : m ≤ 96 := by rw [hm]; exact cnt_le ⟨i, hi96⟩ ⟨k, by omega⟩
          obtain ⟨ei, cei, A, cA, p0, p1, p2, ph, pw, pl⟩ := HI.out.place hm i hlt
          have HMM := Aside0.mk hm
          have PH := Aside0.mk ph
          have PW := Aside0.mk pw
          have PL := Aside0.mk pl
          have HG := Aside0.mk hgl
          have HLEN : Aside0 ((word i).length < 1000) := Aside0.mk (word_len ⟨i, hi96⟩)
          have HMAT := Aside0.mk (fun w => matrix_two hk w)
          clear hm ph pw pl hgt hgl
          go_upto_region 13 with (go_at_call 40; (with_reducible refine (HMAT.out _).mono ?_); rintro r w1 ⟨b1, rfl, hh1, hb1, hl1, hbel1⟩; have HH1 := Aside0.mk hh1; have HL1 := Aside0.mk hl1; have HB1 := Aside0.mk hbel1; have HBB := Aside0.mk hb1; have r0 := (HB1.out.cell HG.out).trans p0; have r1 := (HB1.out.cell HG.out).trans p1; have r2 := (HB1.out.cell HG.out).trans p2; clear hh1 hl1 hbel1 hb1 p0 p1 p2)
          obtain ⟨g7, hg7⟩ : ∃ g7, g7 = w1.heap.size := ⟨_, rfl⟩
          obtain ⟨w2, hw2⟩ : ∃ w2, w2 = w1.alloc (Obj.cells #[Value.int .i64 2, Value.slice (some ⟨b1, 0, none⟩) 4 4] 45) := ⟨_, rfl⟩
          have hb2 : Below w1.heap.size w1 w2 := by rw [hw2]; exact (Below.refl _ _).alloc (Nat.le_refl _) _
          have n0 : w2.cell? ⟨g7, 0, none⟩ = some (.int .i64 2) := by rw [hw2]; exact new_cell w1 _ _ g7 0 _ hg7 rfl
          have n1 : w2.cell? ⟨g7, 1, none⟩ = some (.slice (some ⟨b1, 0, none⟩) 4 4) := by rw [hw2]; exact new_cell w1 _ _ g7 1 _ hg7 rfl
          have x0 := (hb2.cell (Nat.lt_of_lt_of_le HG.out HB1.out.size)).trans r0
          have x1 := (hb2.cell (Nat.lt_of_lt_of_le HG.out HB1.out.size)).trans r1
          have x2 := (hb2.cell (Nat.lt_of_lt_of_le HG.out HB1.out.size)).trans r2
          rw [← hg7, ← hw2]
          have HB2 := Aside0.mk (HB1.out.trans (hb2.mono HB1.out.size))
          have HH2 := Aside0.mk (HH1.out.below hb2)
          have PH2 := Aside0.mk (PH.out.below HB2.out)
          have PW2 := Aside0.mk (PW.out.below HB2.out)
          have HG2 := Aside0.mk (Nat.lt_of_lt_of_le HG.out HB2.out.size)
          replace HI := Aside0.mk (HI.out.next HB2.out)
          have HT := Aside0.mk (fun w' (hb : Below w2.heap.size w2 w') => times_two hi96 hk b1 ei 4 cei w' (HH2.out.below hb) (PH2.out.below hb))
          clear hg7 hw2 hb2 r0 r1 r2 HB1 HH1 HL1 HBB PH PW PL HG HB2
          have HD := Aside0.mk (Below.refl w2.heap.size w2).drew
          refine start_ (n := 9) (S := fun w' => w'.cell? ⟨g7, 0, none⟩ = some (.int .i64 2) ∧ w'.cell? ⟨g7, 1, none⟩ = some (.slice (some ⟨b1, 0, none⟩) 4 4) ∧ w'.cell? ⟨g, i * 3, none⟩ = some (.int .i64 2) ∧ w'.cell? ⟨g, i * 3 + 1, none⟩ = some (.slice (some ⟨ei, 0, none⟩) 4 cei)) (ds := [8]) #[false, false, false, false, false, false, false, false, false] (by kernel_rfl) rfl rfl ⟨n0, n1, x0, x1⟩ (fun hHeld => ?_)
          obtain ⟨wd, hwd⟩ : ∃ wd, wd = w2.drew := ⟨_, rfl⟩
          rw [← hwd] at HD hHeld ⊢
          clear hwd
          obtain ⟨m0, m1, y0, y1⟩ := hHeld
          have hHeld : wd.cell? ⟨g7, 0, none⟩ = some (.int .i64 2) ∧ wd.cell? ⟨g7, 1, none⟩ = some (.slice (some ⟨b1, 0, none⟩) 4 4) ∧ wd.cell? ⟨g, i * 3, none⟩ = some (.int .i64 2) ∧ wd.cell? ⟨g, i * 3 + 1, none⟩ = some (.slice (some ⟨ei, 0, none⟩) 4 cei) := ⟨m0, m1, y0, y1⟩
          refine pure_ (i := 1) (N := some 53) (v := ?_) (a' := ?_) #[false, true, false, false, false, false, false, false, false] rfl rfl (by kernel_rfl) (fun _ _ _ h => h) (Or.inl ⟨by rfl, ?_⟩) ?_ ?_
          rotate_left
          · intro w'
            go_simp
            with_reducible rfl
          rotate_left
          · simp only [Act.put, List.setIfInBounds_toArray, List.set_cons_zero, List.set_cons_succ]
            rfl
          refine pure_ (i := 2) (N := some 54) (v := ?_) (a' := ?_) #[false, true, true, false, false, false, false, false, false] rfl rfl (by kernel_rfl) (fun _ _ _ h => h) (Or.inl ⟨by rfl, ?_⟩) ?_ ?_
          rotate_left
          · intro w'
            go_simp
            with_reducible rfl
          rotate_left
          · simp only [Act.put, List.setIfInBounds_toArray, List.set_cons_zero, List.set_cons_succ]
            rfl
          refine pure_ (i := 3) (N := some 55) (v := ?_) (a' := ?_) #[false, true, true, true, false, false, false, false, false] rfl rfl (by kernel_rfl) (fun _ _ _ h => h) (Or.inl ⟨by rfl, ?_⟩) ?_ ?_
          rotate_left
          · intro w'
            go_simp
            with_reducible rfl
          rotate_left
          · simp only [Act.put, List.setIfInBounds_toArray, List.set_cons_zero, List.set_cons_succ]
            rfl
          refine pure_ (i := 4) (N := some 56) (v := ?_) (a' := ?_) #[false, true, true, true, true, false, false, false, false] rfl rfl (by kernel_rfl) (fun _ _ _ h => h) (Or.inl ⟨by rfl, ?_⟩) ?_ ?_
          rotate_left
          · intro w'
            go_simp
            with_reducible rfl
          rotate_left
          · simp only [Act.put, List.setIfInBounds_toArray, List.set_cons_zero, List.set_cons_succ]
            rfl
          refine take_ (i := 0) (N := some 52) (v := ?_) (a' := ?_) #[true, true, true, true, true, false, false, false, false] rfl rfl (by kernel_rfl) (fun _ _ _ h => h) (Or.inl ⟨by rfl, ?_⟩) hHeld ?_ ?_
          rotate_left
          · rintro w' ⟨s0, s1, s2, s3⟩
            go_simp
            with_reducible rfl
          rotate_left
          · simp only [Act.put, List.setIfInBounds_toArray, List.set_cons_zero, List.set_cons_succ]
            rfl
          refine take_ (i := 5) (N := some 57) (v := ?_) (a' := ?_) #[true, true, true, true, true, true, false, false, false] rfl rfl (by kernel_rfl) (fun _ _ _ h => h) (Or.inl ⟨by rfl, ?_⟩) hHeld ?_ ?_
          rotate_left
          · rintro w' ⟨s0, s1, s2, s3⟩
            go_simp
            with_reducible rfl
          rotate_left
          · simp only [Act.put, List.setIfInBounds_toArray, List.set_cons_zero, List.set_cons_succ]
            rfl
          refine join_ (σ := Nat × Nat) 1 #[true, true, true, true, true, true, true, true, false] (fun s => [(58, .agg #[.int .i64 2, .slice (some ⟨s.1, 0, none⟩) 4 4]), (9, .pointer (some ⟨s.2, 0, none⟩))]) (fun s w' => (w'.cell? ⟨g7, 0, none⟩ = some (.int .i64 2) ∧ w'.cell? ⟨g7, 1, none⟩ = some (.slice (some ⟨b1, 0, none⟩) 4 4) ∧ w'.cell? ⟨g, i * 3, none⟩ = some (.int .i64 2) ∧ w'.cell? ⟨g, i * 3 + 1, none⟩ = some (.slice (some ⟨ei, 0, none⟩) 4 cei)) ∧ T13 w2 (to_ i (k + 1)) s.1 s.2 w') ?_ ?_
          rotate_left
          · intro hCont
            refine two_ (i := 6) (j := 7) (Ni := some 58) (Nj := some 9) #[true, true, true, true, true, true, true, false, false] #[true, true, true, true, true, true, false, true, false] rfl rfl rfl rfl (by kernel_rfl) (by decide) (by decide) (fun K hK => ?_) (fun K hK => ?_)
            · skip
              refine goes_ Try.func73 (by kernel_rfl) rfl #[.agg #[.int .i64 2, .slice (some ⟨b1, 0, none⟩) 4 4], .agg #[.int .i64 2, .slice (some ⟨ei, 0, none⟩) 4 cei]] (by rfl) rfl rfl (by simp only [List.map_toArray, List.map_cons, List.map_nil]; rfl) ?_
              with_reducible refine (HT.out wd HD.out).mono ?_
              rintro e w3 ⟨be, rfl, hh, hge, hb3⟩
              refine ⟨_, rfl, ?_⟩
              have h3 : w3.cell? ⟨g7, 0, none⟩ = some (.int .i64 2) ∧ w3.cell? ⟨g7, 1, none⟩ = some (.slice (some ⟨b1, 0, none⟩) 4 4) ∧ w3.cell? ⟨g, i * 3, none⟩ = some (.int .i64 2) ∧ w3.cell? ⟨g, i * 3 + 1, none⟩ = some (.slice (some ⟨ei, 0, none⟩) 4 cei) := ⟨below_cell2 hb3 m0, below_cell2 hb3 m1, below_cell2 hb3 y0, below_cell2 hb3 y1⟩
              obtain ⟨z0, z1, z2, z3⟩ := h3
              refine hK.out _ _ ⟨z0, z1, z2, z3⟩ (fun hHeld => ?_)
              clear hK K
              refine norm_ (a' := ?_) ?_ ?_
              rotate_left
              · show Act.put _ (some 58) _ = _
                simp only [Act.put, List.setIfInBounds_toArray, List.set_cons_zero, List.set_cons_succ]
                rfl
              refine one_ (i := 7) (N := some 9) #[true, true, true, true, true, true, true, true, false] rfl rfl (by kernel_rfl) (by decide) (fun K hK => ?_)
              refine value_ (w1 := ?_) (v := ?_) (by rfl) rfl ?_ ?_
              rotate_left 2
              · go_simp
                constructor
                · rfl
                · rfl
              refine hK.out _ _ ⟨below_cell2 ((Below.refl w3.heap.size w3).alloc (Nat.le_refl _) (.cells #[.int .i64 0, .slice none 0 0] 45)) z0, below_cell2 ((Below.refl w3.heap.size w3).alloc (Nat.le_refl _) (.cells #[.int .i64 0, .slice none 0 0] 45)) z1, below_cell2 ((Below.refl w3.heap.size w3).alloc (Nat.le_refl _) (.cells #[.int .i64 0, .slice none 0 0] 45)) z2, below_cell2 ((Below.refl w3.heap.size w3).alloc (Nat.le_refl _) (.cells #[.int .i64 0, .slice none 0 0] 45)) z3⟩ (fun hHeld => ?_)
              clear hK K
              refine norm_ (a' := ?_) ?_ ?_
              rotate_left
              · show Act.put _ (some 9) _ = _
                simp only [Act.put, List.setIfInBounds_toArray, List.set_cons_zero, List.set_cons_succ]
                rfl
              exact norm_ (by simp only [putAll, Act.put, List.setIfInBounds_toArray, List.set_cons_zero, List.set_cons_succ]) (hCont (be, w3.heap.size) _ ⟨⟨below_cell2 ((Below.refl w3.heap.size w3).alloc (Nat.le_refl _) (.cells #[.int .i64 0, .slice none 0 0] 45)) z0, below_cell2 ((Below.refl w3.heap.size w3).alloc (Nat.le_refl _) (.cells #[.int .i64 0, .slice none 0 0] 45)) z1, below_cell2 ((Below.refl w3.heap.size w3).alloc (Nat.le_refl _) (.cells #[.int .i64 0, .slice none 0 0] 45)) z2, below_cell2 ((Below.refl w3.heap.size w3).alloc (Nat.le_refl _) (.cells #[.int .i64 0, .slice none 0 0] 45)) z3⟩, T13.a HD.out hh hge hb3⟩)
            · skip
              refine value_ (w1 := ?_) (v := ?_) (by rfl) rfl ?_ ?_
              rotate_left 2
              · go_simp
                constructor
                · rfl
                · rfl
              refine hK.out _ _ ⟨below_cell2 ((Below.refl wd.heap.size wd).alloc (Nat.le_refl _) (.cells #[.int .i64 0, .slice none 0 0] 45)) m0, below_cell2 ((Below.refl wd.heap.size wd).alloc (Nat.le_refl _) (.cells #[.int .i64 0, .slice none 0 0] 45)) m1, below_cell2 ((Below.refl wd.heap.size wd).alloc (Nat.le_refl _) (.cells #[.int .i64 0, .slice none 0 0] 45)) y0, below_cell2 ((Below.refl wd.heap.size wd).alloc (Nat.le_refl _) (.cells #[.int .i64 0, .slice none 0 0] 45)) y1⟩ (fun hHeld => ?_)
              clear hK K
              refine norm_ (a' := ?_) ?_ ?_
              rotate_left
              · show Act.put _ (some 9) _ = _
                simp only [Act.put, List.setIfInBounds_toArray, List.set_cons_zero, List.set_cons_succ]
                rfl
              refine one_ (i := 6) (N := some 58) #[true, true, true, true, true, true, true, true, false] rfl rfl (by kernel_rfl) (by decide) (fun K hK => ?_)
              refine goes_ Try.func73 (by kernel_rfl) rfl #[.agg #[.int .i64 2, .slice (some ⟨b1, 0, none⟩) 4 4], .agg #[.int .i64 2, .slice (some ⟨ei, 0, none⟩) 4 cei]] (by rfl) rfl rfl (by simp only [List.map_toArray, List.map_cons, List.map_nil]; rfl) ?_
              with_reducible refine (HT.out (wd.alloc (.cells #[.int .i64 0, .slice none 0 0] 45)) (HD.out.trans (((Below.refl wd.heap.size wd).alloc (Nat.le_refl _) (.cells #[.int .i64 0, .slice none 0 0] 45)).mono HD.out.size))).mono ?_
              rintro e w3 ⟨be, rfl, hh, hge, hb3⟩
              refine ⟨_, rfl, ?_⟩
              have h3 : w3.cell? ⟨g7, 0, none⟩ = some (.int .i64 2) ∧ w3.cell? ⟨g7, 1, none⟩ = some (.slice (some ⟨b1, 0, none⟩) 4 4) ∧ w3.cell? ⟨g, i * 3, none⟩ = some (.int .i64 2) ∧ w3.cell? ⟨g, i * 3 + 1, none⟩ = some (.slice (some ⟨ei, 0, none⟩) 4 cei) := ⟨below_cell2 hb3 (below_cell2 ((Below.refl wd.heap.size wd).alloc (Nat.le_refl _) (.cells #[.int .i64 0, .slice none 0 0] 45)) m0), below_cell2 hb3 (below_cell2 ((Below.refl wd.heap.size wd).alloc (Nat.le_refl _) (.cells #[.int .i64 0, .slice none 0 0] 45)) m1), below_cell2 hb3 (below_cell2 ((Below.refl wd.heap.size wd).alloc (Nat.le_refl _) (.cells #[.int .i64 0, .slice none 0 0] 45)) y0), below_cell2 hb3 (below_cell2 ((Below.refl wd.heap.size wd).alloc (Nat.le_refl _) (.cells #[.int .i64 0, .slice none 0 0] 45)) y1)⟩
              obtain ⟨z0, z1, z2, z3⟩ := h3
              refine hK.out _ _ ⟨z0, z1, z2, z3⟩ (fun hHeld => ?_)
              clear hK K
              refine norm_ (a' := ?_) ?_ ?_
              rotate_left
              · show Act.put _ (some 58) _ = _
                simp only [Act.put, List.setIfInBounds_toArray, List.set_cons_zero, List.set_cons_succ]
                rfl
              exact norm_ (by simp only [putAll, Act.put, List.setIfInBounds_toArray, List.set_cons_zero, List.set_cons_succ]) (hCont (be, wd.heap.size) _ ⟨⟨z0, z1, z2, z3⟩, T13.b' HD.out hh hge hb3⟩)
          rintro ⟨be, g9⟩ w4 ⟨hHeld, hF⟩
          dsimp only at hF ⊢
          have HF := Aside0.mk hF
          have c90 : w4.cell? ⟨g9, 0, none⟩ = some (.int .i64 0) := by rw [blk_cell hF.box]; rfl
          have c91 : w4.cell? ⟨g9, 1, none⟩ = some (.slice none 0 0) := by rw [blk_cell hF.box]; rfl
          have f90 := blk_frozen hF.box 0
          have f91 := blk_frozen hF.box 1
          clear hF
          refine norm_ (a' := ?_) ?_ ?_
          rotate_left
          · simp only [putAll, Act.put, List.setIfInBounds_toArray, List.set_cons_zero, List.set_cons_succ]
            rfl
          refine last_ (i := 8) (N := none) #[true, true, true, true, true, true, true, true, true] rfl rfl (by kernel_rfl) (by decide) (fun K hK => ?_)
          refine skip_ (w1 := ?_) (by rfl) rfl ?_ ?_
          rotate_left
          · go_simp
            rfl
          refine hK.out _ _ ?_
          clear hK K
          refine done_ (by kernel_rfl) ?_
          have HF5 := Aside0.mk HF.out.store
          clear c90 c91 f90 f91 HF hHeld n0 n1 x0 x1 m0 m1 y0 y1 HD HT HH2 PH2
          generalize (World.setCell (World.setCell _ _ _) _ _) = w5 at HF5 ⊢
          replace HI := Aside0.mk (HI.out.next HF5.out.b)
          have x5 := below_cell2 HF5.out.b x2
          have d0 := HF5.out.c0
          have d1 := HF5.out.c1
          have PW5 := Aside0.mk (PW2.out.below HF5.out.b)
          have HG5 := Aside0.mk (Nat.lt_of_lt_of_le HG2.out HF5.out.b.size)
          have HTT : Aside0 (to_ i (k + 1) < 96 ∧ to_ i (k + 1) ≤ cnt i k ∧ (to_ i (k + 1) = cnt i k → word (cnt i k) = word i ++ [k + 1]) ∧ cnt i (k + 1) = max (cnt i k) (to_ i (k + 1) + 1)) := Aside0.mk ⟨to_lt ⟨i, hi96⟩ ⟨k, hk⟩, (found ⟨i, hi96⟩ ⟨k, hk⟩).1, (found ⟨i, hi96⟩ ⟨k, hk⟩).2, rfl⟩
          obtain ⟨t, ht⟩ : ∃ t, t = to_ i (k + 1) := ⟨_, rfl⟩
          rw [← ht] at HF5 HTT
          clear ht x2 PW2
          have HC := Aside0.mk (wordhas_any g cap m g9 be 4 t hm96 HTT.out.1 w5 (HI.out.plcs HMM.out) HF5.out.h d1 HF5.out.lt)
          by_cases htm : t < m
          · rw [decide_eq_true htm] at HC
            have HN := Aside0.mk (show WSt W B e0 c0 jj (cnt i (k + 1)) (.slice (some ⟨g, 0, none⟩) m cap) w5 by
              have e : cnt i (k + 1) = cnt i k := by
                rw [HTT.out.2.2.2]
                have := HMM.out
                omega
              rw [e]; exact HI.out)
            clear htm
            go_wp2_with (go_at_call 88; (with_reducible refine HC.out.mono ?_); rintro r w6 ⟨rfl, hb6⟩; have HN6 := Aside0.mk (HN.out.next hb6); clear hb6)
            go_roundg (10 - (k + 1))
            case measure => omega
            case rel => exact ⟨k + 1, by omega, by omega, by go_num, HN6⟩
          · rw [decide_eq_false htm] at HC
            have HTE : Aside0 (t = cnt i k) := Aside0.mk (by have := HTT.out.2.1; have := HMM.out; omega)
            clear htm
            go_upto_region 15 with (go_at_call 88; (with_reducible refine HC.out.mono ?_); rintro r w6 ⟨rfl, hb6⟩; have HI6 := Aside0.mk (HI.out.next hb6); have PW6 := Aside0.mk (PW5.out.below hb6); have H6 := Aside0.mk (HF5.out.h.below hb6); have x6 := below_cell2 hb6 x5; have e0' := below_cell2 hb6 d0; have e1' := below_cell2 hb6 d1; have HG6 := Aside0.mk (Nat.le_trans HF5.out.b.size hb6.size); clear hb6)
            have HD := Aside0.mk (Below.refl w6.heap.size w6).drew
            clear x5 d0 d1 HC PW5 HI HG5
            have HGB := Aside0.mk HF5.out.gb
            clear HF5
            refine start_ (n := 15) (S := fun w' => w'.cell? ⟨g9, 0, none⟩ = some (.int .i64 2) ∧ w'.cell? ⟨g9, 1, none⟩ = some (.slice (some ⟨be, 0, none⟩) 4 4) ∧ w'.cell? ⟨g, i * 3 + 2, none⟩ = some (.slice A (word i).length cA)) (ds := [12, 13]) #[false, false, false, false, false, false, false, false, false, false, false, false, false, false, false] (by kernel_rfl) rfl rfl ⟨e0', e1', x6⟩ (fun hHeld => ?_)
            obtain ⟨wd, hwd⟩ : ∃ wd, wd = w6.drew := ⟨_, rfl⟩
            rw [← hwd] at HD hHeld ⊢
            clear hwd
            obtain ⟨m0, m1, m2⟩ := hHeld
            have hHeld : wd.cell? ⟨g9, 0, none⟩ = some (.int .i64 2) ∧ wd.cell? ⟨g9, 1, none⟩ = some (.slice (some ⟨be, 0, none⟩) 4 4) ∧ wd.cell? ⟨g, i * 3 + 2, none⟩ = some (.slice A (word i).length cA) := ⟨m0, m1, m2⟩
            refine pure_ (i := 0) (N := some 63) (v := ?_) (a' := ?_) #[true, false, false, false, false, false, false, false, false, false, false, false, false, false, false] rfl rfl (by kernel_rfl) (fun _ _ _ h => h) (Or.inl ⟨by rfl, ?_⟩) ?_ ?_
            rotate_left
            · intro w'
              go_simp
              with_reducible rfl
            rotate_left
            · simp only [Act.put, List.setIfInBounds_toArray, List.set_cons_zero, List.set_cons_succ]
              rfl
            refine pure_ (i := 2) (N := some 65) (v := ?_) (a' := ?_) #[true, false, true, false, false, false, false, false, false, false, false, false, false, false, false] rfl rfl (by kernel_rfl) (fun _ _ _ h => h) (Or.inl ⟨by rfl, ?_⟩) ?_ ?_
            rotate_left
            · intro w'
              go_simp
              with_reducible rfl
            rotate_left
            · simp only [Act.put, List.setIfInBounds_toArray, List.set_cons_zero, List.set_cons_succ]
              rfl
            refine pure_ (i := 3) (N := some 66) (v := ?_) (a' := ?_) #[true, false, true, true, false, false, false, false, false, false, false, false, false, false, false] rfl rfl (by kernel_rfl) (fun _ _ _ h => h) (Or.inl ⟨by rfl, ?_⟩) ?_ ?_
            rotate_left
            · intro w'
              go_simp
              with_reducible rfl
            rotate_left
            · simp only [Act.put, List.setIfInBounds_toArray, List.set_cons_zero, List.set_cons_succ]
              rfl
            refine pure_ (i := 4) (N := some 67) (v := ?_) (a' := ?_) #[true, false, true, true, true, false, false, false, false, false, false, false, false, false, false] rfl rfl (by kernel_rfl) (fun _ _ _ h => h) (Or.inl ⟨by rfl, ?_⟩) ?_ ?_
            rotate_left
            · intro w'
              go_simp
              with_reducible rfl
            rotate_left
            · simp only [Act.put, List.setIfInBounds_toArray, List.set_cons_zero, List.set_cons_succ]
              rfl
            refine pure_ (i := 5) (N := some 68) (v := ?_) (a' := ?_) #[true, false, true, true, true, true, false, false, false, false, false, false, false, false, false] rfl rfl (by kernel_rfl) (fun _ _ _ h => h) (Or.inl ⟨by rfl, ?_⟩) ?_ ?_
            rotate_left
            · intro w'
              go_simp
              with_reducible rfl
            rotate_left
            · simp only [Act.put, List.setIfInBounds_toArray, List.set_cons_zero, List.set_cons_succ]
              rfl
            refine pure_ (i := 8) (N := some 71) (v := ?_) (a' := ?_) #[true, false, true, true, true, true, false, false, true, false, false, false, false, false, false] rfl rfl (by kernel_rfl) (fun _ _ _ h => h) (Or.inl ⟨by rfl, ?_⟩) ?_ ?_
            rotate_left
            · intro w'
              go_simp
              with_reducible rfl
            rotate_left
            · simp only [Act.put, List.setIfInBounds_toArray, List.set_cons_zero, List.set_cons_succ]
              rfl
            refine take_ (i := 1) (N := some 64) (v := ?_) (a' := ?_) #[true, true, true, true, true, true, false, false, true, false, false, false, false, false, false] rfl rfl (by kernel_rfl) (fun _ _ _ h => h) (Or.inl ⟨by rfl, ?_⟩) hHeld ?_ ?_
            rotate_left
            · rintro w' ⟨s0, s1, s2⟩
              go_simp
              with_reducible rfl
            rotate_left
            · simp only [Act.put, List.setIfInBounds_toArray, List.set_cons_zero, List.set_cons_succ]
              rfl
            refine take_ (i := 6) (N := some 69) (v := ?_) (a' := ?_) #[true, true, true, true, true, true, true, false, true, false, false, false, false, false, false] rfl rfl (by kernel_rfl) (fun _ _ _ h => h) (Or.inl ⟨by rfl, ?_⟩) hHeld ?_ ?_
            rotate_left
            · rintro w' ⟨s0, s1, s2⟩
              go_simp
              with_reducible rfl
            rotate_left
            · simp only [Act.put, List.setIfInBounds_toArray, List.set_cons_zero, List.set_cons_succ]
              rfl
            refine join_ (σ := Nat) 5 #[true, true, true, true, true, true, true, true, true, true, false, false, false, false, false] (fun s => [(70, Clipped (.slice A (word i).length cA) (word i)), (72, .slice (some ⟨s, 0, none⟩) 1 1)]) (fun s w' => (w'.cell? ⟨g9, 0, none⟩ = some (.int .i64 2) ∧ w'.cell? ⟨g9, 1, none⟩ = some (.slice (some ⟨be, 0, none⟩) 4 4) ∧ w'.cell? ⟨g, i * 3 + 2, none⟩ = some (.slice A (word i).length cA)) ∧ Below wd.heap.size wd w' ∧ w'.heap[s]? = some (.cells #[.int .i64 ((k : Int) + 1)] 27 (0, 0))) ?_ ?_
            rotate_left
            · intro hCont
              refine two_ (i := 7) (j := 9) (Ni := some 70) (Nj := some 72) #[true, true, true, true, true, true, true, true, true, false, false, false, false, false, false] #[true, true, true, true, true, true, true, false, true, true, false, false, false, false, false] rfl rfl rfl rfl (by kernel_rfl) (by decide) (by decide) (fun K hK => ?_) (fun K hK => ?_)
              · skip
                refine goes_ Try.func90 (by kernel_rfl) rfl #[.slice A (word i).length cA] (by rfl) rfl rfl (by simp only [List.map_toArray, List.map_cons, List.map_nil]; rfl) ?_
                with_reducible refine (clip_word (PW6.out.below HD.out)).mono ?_
                rintro e w8 ⟨rfl, hb8⟩
                refine ⟨_, rfl, ?_⟩
                have h3 : w8.cell? ⟨g9, 0, none⟩ = some (.int .i64 2) ∧ w8.cell? ⟨g9, 1, none⟩ = some (.slice (some ⟨be, 0, none⟩) 4 4) ∧ w8.cell? ⟨g, i * 3 + 2, none⟩ = some (.slice A (word i).length cA) := ⟨below_cell2 hb8 m0, below_cell2 hb8 m1, below_cell2 hb8 m2⟩
                obtain ⟨z0, z1, z2⟩ := h3
                refine hK.out _ _ ⟨z0, z1, z2⟩ (fun hHeld => ?_)
                clear hK K
                refine norm_ (a' := ?_) ?_ ?_
                rotate_left
                · show Act.put _ (some 70) _ = _
                  simp only [Act.put, List.setIfInBounds_toArray, List.set_cons_zero, List.set_cons_succ]
                  rfl
                refine one_ (i := 9) (N := some 72) #[true, true, true, true, true, true, true, true, true, true, false, false, false, false, false] rfl rfl (by kernel_rfl) (by decide) (fun K hK => ?_)
                refine value_ (w1 := ?_) (v := ?_) (by rfl) rfl ?_ ?_
                rotate_left 2
                · go_simp
                  constructor
                  · rfl
                  · rfl
                refine hK.out _ _ ⟨below_cell2 ((Below.refl w8.heap.size w8).alloc (Nat.le_refl _) (.cells #[.int .i64 ((k : Int) + 1)] 27)) z0, below_cell2 ((Below.refl w8.heap.size w8).alloc (Nat.le_refl _) (.cells #[.int .i64 ((k : Int) + 1)] 27)) z1, below_cell2 ((Below.refl w8.heap.size w8).alloc (Nat.le_refl _) (.cells #[.int .i64 ((k : Int) + 1)] 27)) z2⟩ (fun hHeld => ?_)
                clear hK K
                refine norm_ (a' := ?_) ?_ ?_
                rotate_left
                · show Act.put _ (some 72) _ = _
                  simp only [Act.put, List.setIfInBounds_toArray, List.set_cons_zero, List.set_cons_succ]
                  rfl
                exact norm_ (by simp only [putAll, Act.put, List.setIfInBounds_toArray, List.set_cons_zero, List.set_cons_succ]) (hCont w8.heap.size _ ⟨⟨below_cell2 ((Below.refl w8.heap.size w8).alloc (Nat.le_refl _) (.cells #[.int .i64 ((k : Int) + 1)] 27)) z0, below_cell2 ((Below.refl w8.heap.size w8).alloc (Nat.le_refl _) (.cells #[.int .i64 ((k : Int) + 1)] 27)) z1, below_cell2 ((Below.refl w8.heap.size w8).alloc (Nat.le_refl _) (.cells #[.int .i64 ((k : Int) + 1)] 27)) z2⟩, hb8.trans (((Below.refl w8.heap.size w8).alloc (Nat.le_refl _) (.cells #[.int .i64 ((k : Int) + 1)] 27)).mono hb8.size), heap_alloc_new _ _⟩)
              · skip
                refine value_ (w1 := ?_) (v := ?_) (by rfl) rfl ?_ ?_
                rotate_left 2
                · go_simp
                  constructor
                  · rfl
                  · rfl
                refine hK.out _ _ ⟨below_cell2 ((Below.refl wd.heap.size wd).alloc (Nat.le_refl _) (.cells #[.int .i64 ((k : Int) + 1)] 27)) m0, below_cell2 ((Below.refl wd.heap.size wd).alloc (Nat.le_refl _) (.cells #[.int .i64 ((k : Int) + 1)] 27)) m1, below_cell2 ((Below.refl wd.heap.size wd).alloc (Nat.le_refl _) (.cells #[.int .i64 ((k : Int) + 1)] 27)) m2⟩ (fun hHeld => ?_)
                clear hK K
                refine norm_ (a' := ?_) ?_ ?_
                rotate_left
                · show Act.put _ (some 72) _ = _
                  simp only [Act.put, List.setIfInBounds_toArray, List.set_cons_zero, List.set_cons_succ]
                  rfl
                refine one_ (i := 7) (N := some 70) #[true, true, true, true, true, true, true, true, true, true, false, false, false, false, false] rfl rfl (by kernel_rfl) (by decide) (fun K hK => ?_)
                refine goes_ Try.func90 (by kernel_rfl) rfl #[.slice A (word i).length cA] (by rfl) rfl rfl (by simp only [List.map_toArray, List.map_cons, List.map_nil]; rfl) ?_
                with_reducible refine (clip_word (PW6.out.below (HD.out.trans (((Below.refl wd.heap.size wd).alloc (Nat.le_refl _) (.cells #[.int .i64 ((k : Int) + 1)] 27)).mono HD.out.size)))).mono ?_
                rintro e w8 ⟨rfl, hb8⟩
                refine ⟨_, rfl, ?_⟩
                have h3 : w8.cell? ⟨g9, 0, none⟩ = some (.int .i64 2) ∧ w8.cell? ⟨g9, 1, none⟩ = some (.slice (some ⟨be, 0, none⟩) 4 4) ∧ w8.cell? ⟨g, i * 3 + 2, none⟩ = some (.slice A (word i).length cA) := ⟨below_cell2 hb8 (below_cell2 ((Below.refl wd.heap.size wd).alloc (Nat.le_refl _) (.cells #[.int .i64 ((k : Int) + 1)] 27)) m0), below_cell2 hb8 (below_cell2 ((Below.refl wd.heap.size wd).alloc (Nat.le_refl _) (.cells #[.int .i64 ((k : Int) + 1)] 27)) m1), below_cell2 hb8 (below_cell2 ((Below.refl wd.heap.size wd).alloc (Nat.le_refl _) (.cells #[.int .i64 ((k : Int) + 1)] 27)) m2)⟩
                obtain ⟨z0, z1, z2⟩ := h3
                refine hK.out _ _ ⟨z0, z1, z2⟩ (fun hHeld => ?_)
                clear hK K
                refine norm_ (a' := ?_) ?_ ?_
                rotate_left
                · show Act.put _ (some 70) _ = _
                  simp only [Act.put, List.setIfInBounds_toArray, List.set_cons_zero, List.set_cons_succ]
                  rfl
                exact norm_ (by simp only [putAll, Act.put, List.setIfInBounds_toArray, List.set_cons_zero, List.set_cons_succ]) (hCont wd.heap.size _ ⟨⟨z0, z1, z2⟩, ((Below.refl wd.heap.size wd).alloc (Nat.le_refl _) (.cells #[.int .i64 ((k : Int) + 1)] 27)).trans (hb8.mono ((Below.refl wd.heap.size wd).alloc (Nat.le_refl _) (.cells #[.int .i64 ((k : Int) + 1)] 27)).size), (hb8.block _ (by simp)).trans (heap_alloc_new _ _)⟩)
            rintro gk w9 ⟨hHeld, hb9, hk9⟩
            have HK9 := Aside0.mk (show w9.heap[gk]? = some (.cells #[.int .i64 (((k + 1 : Nat)) : Int)] 27 (0, 0)) from hk9)
            have HB9 := Aside0.mk (HD.out.trans (hb9.mono HD.out.size))
            obtain ⟨z0, z1, z2⟩ := hHeld
            have hHeld : w9.cell? ⟨g9, 0, none⟩ = some (.int .i64 2) ∧ w9.cell? ⟨g9, 1, none⟩ = some (.slice (some ⟨be, 0, none⟩) 4 4) ∧ w9.cell? ⟨g, i * 3 + 2, none⟩ = some (.slice A (word i).length cA) := ⟨z0, z1, z2⟩
            clear hb9 hk9
            refine norm_ (a' := ?_) ?_ ?_
            rotate_left
            · simp only [putAll, Act.put, List.setIfInBounds_toArray, List.set_cons_zero, List.set_cons_succ]
              rfl
            refine one_ (i := 10) (N := some 73) #[true, true, true, true, true, true, true, true, true, true, true, false, false, false, false] rfl rfl (by kernel_rfl) (by decide) (fun K hK => ?_)
            refine wapp_arm (by rfl) (.tmp 70) (.tmp 72) rfl (PW6.out.below HB9.out) HLEN.out (k + 1) gk HK9.out rfl rfl ?_
            intro b c w10 hw10 hge10 hb10
            have HW10 := Aside0.mk hw10
            have HB10 := Aside0.mk (HB9.out.trans (hb10.mono HB9.out.size))
            have HGE := Aside0.mk (Nat.le_trans HB9.out.size hge10)
            have HI10 := Aside0.mk (HI6.out.next HB10.out)
            have HFK := Aside0.mk (show Kd.FK kW w10 (fun q => w2.heap.size ≤ q) (cnt i k) [.int .i64 2, .slice (some ⟨be, 0, none⟩) 4 4, .slice (some ⟨b, 0, none⟩) ((word i).length + 1) c] from kW_FK (HTE.out ▸ H6.out.below HB10.out) (by rw [HTT.out.2.2.1 HTE.out]; exact HW10.out) HGB.out (fun q hq => by simp only [Value.ownBlock, Option.some.injEq] at hq; have := HGE.out; have := HG6.out; omega))
            refine hK.out _ _ ⟨below_cell2 hb10 z0, below_cell2 hb10 z1, below_cell2 hb10 z2⟩ (fun hHeld => ?_)
            clear hK K
            refine norm_ (a' := ?_) ?_ ?_
            rotate_left
            · show Act.put _ (some 73) _ = _
              simp only [Act.put, List.setIfInBounds_toArray, List.set_cons_zero, List.set_cons_succ]
              rfl
            refine pure_ (i := 11) (N := some 74) (v := ?_) (a' := ?_) #[true, true, true, true, true, true, true, true, true, true, true, true, false, false, false] rfl rfl (by kernel_rfl) (fun _ _ _ h => h) (Or.inl ⟨by rfl, ?_⟩) ?_ ?_
            rotate_left
            · intro w'
              go_simp
              with_reducible rfl
            rotate_left
            · simp only [Act.put, List.setIfInBounds_toArray, List.set_cons_zero, List.set_cons_succ]
              rfl
            refine last_ (i := 12) (N := some 75) #[true, true, true, true, true, true, true, true, true, true, true, true, true, false, false] rfl rfl (by kernel_rfl) (by decide) (fun K hK => ?_)
            refine value_ (w1 := ?_) (v := ?_) (by rfl) rfl ?_ ?_
            rotate_left 2
            · go_simp
              constructor
              · rfl
              · rfl
            refine hK.out _ _ ?_
            clear hK K
            refine norm_ (a' := ?_) ?_ ?_
            rotate_left
            · show Act.put _ (some 75) _ = _
              simp only [Act.put, List.setIfInBounds_toArray, List.set_cons_zero, List.set_cons_succ]
              rfl
            refine last_ (i := 13) (N := some 76) #[true, true, true, true, true, true, true, true, true, true, true, true, true, true, false] rfl rfl (by kernel_rfl) (by decide) (fun K hK => ?_)
            refine Kd.N_append_step kW (w0 := w10) (B + 1) (by rfl) (.tmp 63) (.tmp 75) 116 115 (.agg #[.int .i64 0, .slice none 0 0, .slice none 0 0]) 56 rfl Try.underlying116 info_reached zero_reached (by decide) (by omega) (.slice (some ⟨g, 0, none⟩) m cap) (List.range (cnt i k)) (cnt i k) [.int .i64 2, .slice (some ⟨be, 0, none⟩) 4 4, .slice (some ⟨b, 0, none⟩) ((word i).length + 1) c] (fun q => B + 1 ≤ q) (fun q => w2.heap.size ≤ q) rfl rfl HFK.out (fun q hq => ⟨by have := HG2.out; omega, fun e => by simp [Value.ownBlock] at e; have := HG2.out; omega⟩) (fun q hq => Nat.le_trans HI10.out.lt hq) HI10.out.n (Below.refl _ _) HI10.out.lt (by rw [List.length_range]; have := HMM.out; omega) ?_
            intro v1 w11 hn11 hb11 _ _
            rw [← List.range_succ] at hn11
            have HI11 := Aside0.mk (HI10.out.grow hb11 hn11)
            obtain ⟨A1, m1, c1, hv1⟩ : ∃ A n c, v1 = .slice A n c := (Kd.N_slice hn11).elim fun A h => h.elim fun c e => ⟨A, _, c, e⟩
            subst hv1
            clear hn11 hb11
            refine hK.out _ _ ?_
            clear hK K
            refine norm_ (a' := ?_) ?_ ?_
            rotate_left
            · show Act.put _ (some 76) _ = _
              simp only [Act.put, List.setIfInBounds_toArray, List.set_cons_zero, List.set_cons_succ]
              rfl
            refine pure_ (i := 14) (N := some 4) (v := ?_) (a' := ?_) #[true, true, true, true, true, true, true, true, true, true, true, true, true, true, true] rfl rfl (by kernel_rfl) (fun _ _ _ h => h) (Or.inl ⟨by rfl, ?_⟩) ?_ ?_
            rotate_left
            · intro w'
              go_simp
              with_reducible rfl
            rotate_left
            · simp only [Act.put, List.setIfInBounds_toArray, List.set_cons_zero, List.set_cons_succ]
              rfl
            refine done_ (by kernel_rfl) ?_
            have HN := Aside0.mk (show WSt W B e0 c0 jj (cnt i (k + 1)) (.slice A1 m1 c1) w11 by
              have e : cnt i (k + 1) = cnt i k + 1 := by
                rw [HTT.out.2.2.2]
                have := HTE.out
                omega
              rw [e]; exact HI11.out)
            clear HI11 hHeld
            go_wp2
            go_roundg (10 - (k + 1))
            case measure => omega
            case rel => exact ⟨k + 1, by omega, by omega, by go_num, HN⟩
        · obtain rfl : k = 10 := by omega
          have HN := Aside0.mk (HI.out.cast HR.out.2)
          clear HI
          go_wp2
          go_roundg (jj + 1 - (i + 1))
          case measure => omega
          case rel =>
            have hjj := HJ.out
            have hne := HIJ.out
            have e : wrap64 ((i : Int) + 1) = ((i + 1 : Nat) : Int) := by unfold wrap64; omega
            exact ⟨i + 1, by omega, by omega, by first | (rw [e]; done) | exact congrArg (Value.int .i64) e, HN⟩
end Go.Proofs.Ytmckaoeofikdaaa.Lift

/-! The law GateSpells, walked. -/
namespace Go.Proofs.Ytmckaoeofikdaaa.Lift
open Go.Proofs.Ytmckaoeofikdaaa.Spl
open Go.RowKit Go.Proofs.YtmckaoeofikdaaaW.PrintWords Go.Proofs.YtmckaoeofikdaaaW.PrintLast Go.Proofs.YtmckaoeofikdaaaW.PrintMore

theorem ltimes_two {i k : Nat} (hi : i < 96) (hk : k < 10) (ba bb ca cb : Nat) (w : World) (hA : HoldsC w ba 4 1 (matF ((k + 1 : Nat) : Int))) (hB : HoldsC w bb 4 1 (toZ (at_ i))) :
    Calls Try.prog 55 #[.slice (some ⟨ba, 0, none⟩) 4 ca, .slice (some ⟨bb, 0, none⟩) 4 cb] w fun e w' => ∃ be, e = .returned (.slice (some ⟨be, 0, none⟩) 4 4) ∧ HoldsC w' be 4 1 (toZ (at_ (to_ i (k + 1)))) ∧ Below w.heap.size w w' := by
  have hA' : HoldsC w ba 4 1 (toZ (gen (k + 1))) := fun j hj => by
    have h := gen_mat ⟨k, hk⟩ ⟨j, hj⟩
    simp only at h
    rw [← h]
    exact hA j hj
  have sA : ∀ j, j < 4 → Small (toZ (gen (k + 1)) j) 2 := fun j hj => by
    have h := gen_mat ⟨k, hk⟩ ⟨j, hj⟩
    simp only at h
    rw [← h]
    exact matF_small _ _
  have sB : ∀ j, j < 4 → Small (toZ (at_ i) j) 2 := fun j hj => at_small ⟨i, hi⟩ ⟨j, hj⟩
  refine (ltimes_any ba bb ca cb _ _ w hA' hB sA sB).mono fun e w' ⟨be, he, hH, _, h2⟩ => ?_
  exact ⟨be, he, HoldsC.half hH (fun j hj => gen_mul ⟨i, hi⟩ ⟨k, hk⟩ ⟨j, hj⟩), h2⟩
theorem side_more : ∀ k : Fin 10, sideF ((k.val + 11 : Nat) : Int) = 4 ∨ sideF ((k.val + 11 : Nat) : Int) = 8 := by decide +kernel
/-- A kind that is none of the ten. -/
theorem matrix_else {z : Int} (hz : (Lit.int .i64 z).wf = true) (h : ¬ (1 ≤ z ∧ z ≤ 10)) :
    (∃ s : Nat, (s = 4 ∨ s = 8) ∧ ∀ w, Calls Try.prog 40 #[.int .i64 z] w fun r w' => ∃ b, r = .returned (.tuple #[.agg #[.int .i64 (s : Int), .slice (some ⟨b, 0, none⟩) (s * s) (s * s)], .int .i64 0]) ∧ Below w.heap.size w w') ∨
    (∀ w, Calls Try.prog 40 #[.int .i64 z] w fun e w' => e = .returned (.tuple #[.agg #[.int .i64 0, .slice none 0 0], .int .i64 60]) ∧ Below w.heap.size w w') := by
  by_cases h1 : 1 ≤ z ∧ z ≤ 20
  · left
    obtain ⟨k, hk, rfl⟩ : ∃ k : Nat, k < 10 ∧ z = ((k + 11 : Nat) : Int) := ⟨(z - 11).toNat, by omega, by omega⟩
    refine ⟨sideF ((k + 11 : Nat) : Int), side_more ⟨k, hk⟩, fun w => (matrix_any _ (by omega) (by omega) w).mono fun r w' ⟨b, h1, _, _, _, h5⟩ => ⟨b, h1, h5⟩⟩
  · right
    exact fun w => matrix_none z hz (by omega) w
theorem lead_snoc (l : List Int) (z : Int) : lead (l ++ [z]) = Spl.step (lead l) z := by unfold lead; rw [List.foldl_append]; rfl
theorem count_snoc (l : List Int) (z : Int) : count (l ++ [z]) = count l + if 1 ≤ z ∧ z ≤ 10 then 1 else 0 := by
  unfold count
  rw [List.filter_append, List.length_append]
  by_cases h : 1 ≤ z ∧ z ≤ 10
  · rw [if_pos h, List.filter_cons_of_pos (by simpa using h)]; rfl
  · rw [if_neg h, List.filter_cons_of_neg (by simpa using h)]; rfl
theorem count_le (l : List Int) : count l ≤ l.length := List.length_filter_le _ _
theorem take_one {l : List Int} {i : Nat} (h : i < l.length) : l.take (i + 1) = l.take i ++ [l.getD i 0] := by
  rw [List.take_add_one, List.getD_eq_getElem?_getD, List.getElem?_eq_getElem h]; rfl
/-- append([]complex128{}, p...). -/
theorem run_capp {W : World} {b c g : Nat} {A : Nat → Zi} (h : HoldsC W b 4 1 A) (ty : TypeId) :
    ∃ e c' W2, (Builtin.append_ #[43, 43] ty #[.slice (some ⟨g, 0, none⟩) 0 0, .slice (some ⟨b, 0, none⟩) 4 c]).run Try.prog W = .ok (.slice (some ⟨e, 0, none⟩) 4 c') W2 ∧ HoldsC W2 e 4 1 A ∧ Below W.heap.size W W2 := by
  obtain ⟨x0, y0, a0, i0⟩ := h 0 (by omega)
  obtain ⟨x1, y1, a1, i1⟩ := h 1 (by omega)
  obtain ⟨x2, y2, a2, i2⟩ := h 2 (by omega)
  obtain ⟨x3, y3, a3, i3⟩ := h 3 (by omega)
  obtain ⟨t0, hi, hz0, hz1, hz2⟩ := info_parts info49
  have hnew : ∀ j u, [Value.complex .f64 x0 y0, Value.complex .f64 x1 y1, Value.complex .f64 x2 y2, Value.complex .f64 x3 y3][j]? = some u → W.cell? ((⟨b, 0, none⟩ : Addr).add j) = some u := fun j u hu => by
    rw [add_at, Nat.zero_add]
    have hj := (List.getElem?_eq_some_iff.1 hu).1
    simp only [List.length_cons, List.length_nil] at hj
    rcases (by omega : j = 0 ∨ j = 1 ∨ j = 2 ∨ j = 3) with rfl | rfl | rfl | rfl
    · cases hu; exact a0
    · cases hu; exact a1
    · cases hu; exact a2
    · cases hu; exact a3
  have hr := run_append_grow (P := Try.prog) W 43 ty 49 t0 _ Try.underlying43 hi hz0 ⟨g, 0, none⟩ 0 0 [] (by rw [hz1]; rfl) (fun j u hu => by simp at hu) ⟨b, 0, none⟩ 4 c _ (by rw [hz1]; rfl) hnew (by omega) (by omega) (growslice_fits (by omega) (by rw [hz2]; omega))
  refine ⟨_, _, _, hr, ?_, (Below.refl W.heap.size W).drew.alloc (Nat.le_refl _) _⟩
  have hc : ∀ (j : Nat) (u : Value), [Value.complex .f64 x0 y0, Value.complex .f64 x1 y1, Value.complex .f64 x2 y2, Value.complex .f64 x3 y3][j]? = some u → (W.drew.alloc (.cells (([] : List Value).toArray ++ [Value.complex .f64 x0 y0, Value.complex .f64 x1 y1, Value.complex .f64 x2 y2, Value.complex .f64 x3 y3].toArray ++ Builtin.zeroCells (Value.complex .f64 0 0).cells (grownCap W (0 + 4) 0 49 - (0 + 4))) 49)).cell? ⟨W.heap.size, j, none⟩ = some u := fun j u hu => by
    rw [show W.heap.size = W.drew.heap.size from rfl]
    refine new_cell W.drew _ _ _ j _ rfl ?_
    have hj := (List.getElem?_eq_some_iff.1 hu).1
    rw [Array.getElem?_append_left (by simpa using hj)]
    simpa using hu
  intro i hi
  rcases (by omega : i = 0 ∨ i = 1 ∨ i = 2 ∨ i = 3) with rfl | rfl | rfl | rfl
  · exact ⟨_, _, hc 0 _ rfl, i0⟩
  · exact ⟨_, _, hc 1 _ rfl, i1⟩
  · exact ⟨_, _, hc 2 _ rfl, i2⟩
  · exact ⟨_, _, hc 3 _ rfl, i3⟩
theorem wpList_capp {ops : Array Oper} {rest : List Oper} {o : Oper} {a : Act} {Q : Exit → Act → World → Prop} {W : World} (hgd : o.guard = none) (s x : Operand)
    (ho : o.op = .call { callee := .builtin .append, args := #[s, x], argTypes := #[43, 43] }) (g b c : Nat) (A : Nat → Zi) (h : HoldsC W b 4 1 A) (hs : a.eval s = .slice (some ⟨g, 0, none⟩) 0 0) (hx : a.eval x = .slice (some ⟨b, 0, none⟩) 4 c)
    (hn : ∀ e c' W2, HoldsC W2 e 4 1 A → Below W.heap.size W W2 → wpList Try.prog ops Q rest (a.put o.dst (.slice (some ⟨e, 0, none⟩) 4 c')) W2) : wpList Try.prog ops Q (o :: rest) a W := by
  refine wpList_plain hgd fun K hK => ?_
  obtain ⟨e, c', W2, hr, h1, h2⟩ := run_capp (g := g) (c := c) h o.type
  unfold Oper.wp execOp
  simp only [ho, resolve, invoke, builtin, Sem.run_bind, Sem.run_pure, Result.andThen_ok, List.map_toArray, List.map_cons, List.map_nil, hs, hx, hr]
  exact hK _ _ (hn e c' W2 h1 h2)
theorem isL_at {w : World} {a : Option Addr} {zs : List Int} (h : IsL w a zs) (hp : 0 < zs.length) : ∃ b off, a = some ⟨b, off, none⟩ ∧ ∀ i, i < zs.length → w.cell? ⟨b, off + i, none⟩ = some (.int .i64 (zs.getD i 0)) := by
  rcases h.2 with rfl | h
  · simp at hp
  · exact h
theorem word_kinds {j i : Nat} (hj : j < 96) (hi : i < (word j).length) : ∃ k, k < 10 ∧ (word j)[i]? = some (k + 1) := by
  have h := (word_to ⟨j, hj⟩).2
  simp only at h
  have h2 := List.all_eq_true.1 h _ (List.getElem_mem hi)
  simp only [decide_eq_true_eq] at h2
  exact ⟨(word j)[i] - 1, by omega, by rw [List.getElem?_eq_getElem hi]; congr 1; omega⟩
theorem foldl_lt : ∀ (l : List Nat) (j : Nat), j < 96 → (∀ k ∈ l, 1 ≤ k ∧ k ≤ 10) → l.foldl to_ j < 96
  | [], _, h, _ => h
  | k :: l, j, h, hk => by
    have h1 := hk k (List.mem_cons_self ..)
    have h2 := to_lt ⟨j, h⟩ ⟨k - 1, by omega⟩
    simp only at h2
    rw [show k - 1 + 1 = k by omega] at h2
    exact foldl_lt l _ h2 (fun q hq => hk q (List.mem_cons_of_mem _ hq))
theorem word_lt {j : Nat} (hj : j < 96) (i : Nat) : ((word j).take i).foldl to_ 0 < 96 := by
  have h := (word_to ⟨j, hj⟩).2
  simp only at h
  refine foldl_lt _ 0 (by omega) fun k hk => ?_
  have h2 := List.all_eq_true.1 h _ (List.mem_of_mem_take hk)
  simpa using h2
theorem word_snoc {j i k : Nat} (h : (word j)[i]? = some k) : ((word j).take (i + 1)).foldl to_ 0 = to_ (((word j).take i).foldl to_ 0) k := by
  rw [List.take_add_one, h, List.foldl_append]; rfl
theorem word_end {j : Nat} (hj : j < 96) : ((word j).take (word j).length).foldl to_ 0 = j := by
  rw [List.take_length]; exact (word_to ⟨j, hj⟩).1
end Go.Proofs.Ytmckaoeofikdaaa.Lift

/-! The law GateSpells, walked. -/
namespace Go.Proofs.Ytmckaoeofikdaaa.Lift
open Go.Proofs.Ytmckaoeofikdaaa.Spl
open Go.RowKit Go.Proofs.YtmckaoeofikdaaaW.PrintWords Go.Proofs.YtmckaoeofikdaaaW.PrintLast Go.Proofs.YtmckaoeofikdaaaW.PrintMore

set_option maxHeartbeats 4000000 in
set_option maxRecDepth 1000000 in
theorem spells_any (a : Option Addr) (n c : Nat) (zs : List Int) (w : World) (hL : IsL w a zs) (hn : zs.length = n) (hwf : ∀ z ∈ zs, (Lit.int .i64 z).wf = true) :
    Calls Try.prog 13 #[.slice a n c] w fun e w' => e = .returned (.bool true) ∧ Below w.heap.size w w' := by
  have hmax : n ≤ maxLen := by rw [← hn]; exact hL.1
  simp only [maxLen] at hmax
  have HL := Aside0.mk hL
  have HN := Aside0.mk hn
  have HW := Aside0.mk hwf
  clear hL hn hwf
  go_enter Try.func13, Try.ntmps13
  go_upto_region 2 with fail
  have hb0 : Below w.heap.size w (w.alloc (.cells #[Value.complex FloatKind.f64 4607182418800017408 0, Value.complex FloatKind.f64 0 0, Value.complex FloatKind.f64 0 0, Value.complex FloatKind.f64 4607182418800017408 0] 49)) := (Below.refl _ _).alloc (Nat.le_refl _) _
  have hh0 := HoldsC.one (heap_alloc_new w (.cells #[Value.complex FloatKind.f64 4607182418800017408 0, Value.complex FloatKind.f64 0 0, Value.complex FloatKind.f64 0 0, Value.complex FloatKind.f64 4607182418800017408 0] 49))
  generalize (w.alloc (.cells #[Value.complex FloatKind.f64 4607182418800017408 0, Value.complex FloatKind.f64 0 0, Value.complex FloatKind.f64 0 0, Value.complex FloatKind.f64 4607182418800017408 0] 49)) = w0 at hb0 hh0 ⊢
  have H0 := Aside0.mk hb0
  have HH0 := Aside0.mk hh0
  clear hb0 hh0
  go_upto_region 4 with fail
  go_loopg [3, 4, 5] n (fun gk v3 v4 v5 wr => ∃ i m e c, i ≤ n ∧ n - i ≤ gk ∧ m ≤ i ∧ v5 = .int .i64 (i : Int) ∧ v4 = .int .i64 (m : Int) ∧ v3 = .slice (some ⟨e, 0, none⟩) 4 c ∧ Aside0 (m = count (zs.take i)) ∧ Aside0 (HoldsC wr e 4 1 (toZ (at_ (lead (zs.take i))))) ∧ Aside0 (Below w.heap.size w wr))
  case atStart => exact ⟨0, 0, _, 4, by omega, by omega, by omega, rfl, rfl, rfl, Aside0.mk rfl, HH0, H0⟩
  case round =>
    obtain ⟨i, m, e, cc, hi0, hi1, hm0, rfl, rfl, rfl, HM, HE, HB⟩ := hrel
    by_cases hlt : i < n
    · have hnn := HN.out
      obtain ⟨b, off, rfl, hcell⟩ := isL_at (HL.out.below HB.out) (by omega)
      have hc := hcell i (by omega)
      have HSN : Aside0 (zs.take (i + 1) = zs.take i ++ [zs.getD i 0]) := Aside0.mk (take_one (by omega))
      have hzw : (Lit.int .i64 (zs.getD i 0)).wf = true := HW.out _ (by rw [List.getD_eq_getElem?_getD, List.getElem?_eq_getElem (by omega)]; exact List.getElem_mem _)
      have HLD := Aside0.mk (lead_ok (zs.take i)).1
      clear hcell hnn
      generalize zs.getD i 0 = z at hc HSN hzw
      by_cases hz : 1 ≤ z ∧ z ≤ 10
      · obtain ⟨k, hk, rfl⟩ : ∃ k : Nat, k < 10 ∧ z = (k : Int) + 1 := ⟨(z - 1).toNat, by omega, by omega⟩
        have HK := Aside0.mk hk
        have HMAT := Aside0.mk (fun w => matrix_two hk w)
        have H1 := Aside0.mk (show count (zs.take (i + 1)) = m + 1 by rw [HSN.out, count_snoc, HM.out, if_pos hz])
        have H2 := Aside0.mk (show lead (zs.take (i + 1)) = to_ (lead (zs.take i)) (k + 1) by
          rw [HSN.out, lead_snoc]
          unfold Spl.step
          rw [if_pos hz]
          congr 1)
        clear hz hzw HM HSN hk
        go_upto_region 7 with (go_at_call 40; (with_reducible refine (HMAT.out _).mono ?_); rintro r w1 ⟨b1, rfl, hh1, _, hl1, hbel1⟩; have HH1 := Aside0.mk hh1; have HB1 := Aside0.mk hbel1; clear hh1 hl1 hbel1)
        clear hc
        obtain ⟨g6, hg6⟩ : ∃ g6, g6 = w1.heap.size := ⟨_, rfl⟩
        obtain ⟨w2, hw2⟩ : ∃ w2, w2 = w1.alloc (Obj.cells #[Value.int .i64 2, Value.slice (some ⟨b1, 0, none⟩) 4 4] 45) := ⟨_, rfl⟩
        have hb2 : Below w1.heap.size w1 w2 := by rw [hw2]; exact (Below.refl _ _).alloc (Nat.le_refl _) _
        have n0 : w2.cell? ⟨g6, 0, none⟩ = some (Value.int .i64 2) := by rw [hw2]; exact new_cell w1 _ _ g6 0 _ hg6 rfl
        have n1 : w2.cell? ⟨g6, 1, none⟩ = some (Value.slice (some ⟨b1, 0, none⟩) 4 4) := by rw [hw2]; exact new_cell w1 _ _ g6 1 _ hg6 rfl
        rw [← hg6, ← hw2]
        have HB2 := Aside0.mk (hb2.mono (Nat.le_refl _))
        clear hg6 hw2 hb2
        have HBA := Aside0.mk (HB1.out.trans (HB2.out.mono HB1.out.size))
        have HT := Aside0.mk (ltimes_two HLD.out HK.out b1 e 4 cc w2 (HH1.out.below HB2.out) (HE.out.below HBA.out))
        go_wp2_with (first | (go_at_call 19; refine (num_any _ _).mono ?_; rintro e' w' ⟨rfl, rfl⟩) | (go_at_call 55; (with_reducible refine HT.out.mono ?_); rintro r w3 ⟨be, rfl, hh3, hb3⟩; have HH3 := Aside0.mk hh3; have HB3 := Aside0.mk hb3; clear hh3 hb3))
        have HE3 := Aside0.mk (show HoldsC w3 be 4 1 (toZ (at_ (lead (zs.take (i + 1))))) by rw [H2.out]; exact HH3.out)
        have HM3 := Aside0.mk H1.out.symm
        have HBC := Aside0.mk (HBA.out.trans (HB3.out.mono HBA.out.size))
        have HB4 := Aside0.mk (HB.out.trans (HBC.out.mono HB.out.size))
        clear HBA HT HH3 HB3 H1 H2 HE HB HB1 HB2 HH1
        go_roundg (n - (i + 1))
        case measure => omega
        case rel => exact ⟨i + 1, m + 1, be, 4, by omega, by omega, by omega, by go_num, by go_num, rfl, HM3, HE3, HB4⟩
      · have H1 := Aside0.mk (show m = count (zs.take (i + 1)) by rw [HSN.out, count_snoc, HM.out, if_neg hz]; rfl)
        have H2 := Aside0.mk (show lead (zs.take (i + 1)) = lead (zs.take i) by
          rw [HSN.out, lead_snoc]
          unfold Spl.step
          rw [if_neg hz])
        have hels := matrix_else hzw hz
        clear hz hzw HM HSN
        rcases hels with ⟨s, rfl | rfl, hM⟩ | hM
        · have HMAT := Aside0.mk hM
          clear hM
          go_upto_region 7 with (go_at_call 40; (with_reducible refine (HMAT.out _).mono ?_); rintro r w1 ⟨b1, rfl, hbel1⟩; have HB1 := Aside0.mk hbel1; clear hbel1)
          clear hc
          obtain ⟨g6, hg6⟩ : ∃ g6, g6 = w1.heap.size := ⟨_, rfl⟩
          obtain ⟨w2, hw2⟩ : ∃ w2, w2 = w1.alloc (Obj.cells #[Value.int .i64 4, Value.slice (some ⟨b1, 0, none⟩) 16 16] 45) := ⟨_, rfl⟩
          have hb2 : Below w1.heap.size w1 w2 := by rw [hw2]; exact (Below.refl _ _).alloc (Nat.le_refl _) _
          have n0 : w2.cell? ⟨g6, 0, none⟩ = some (Value.int .i64 4) := by rw [hw2]; exact new_cell w1 _ _ g6 0 _ hg6 rfl
          have n1 : w2.cell? ⟨g6, 1, none⟩ = some (Value.slice (some ⟨b1, 0, none⟩) 16 16) := by rw [hw2]; exact new_cell w1 _ _ g6 1 _ hg6 rfl
          rw [← hg6, ← hw2]
          have HB2 := Aside0.mk (hb2.mono (Nat.le_refl _))
          clear hg6 hw2 hb2
          have HBA := Aside0.mk (HB1.out.trans (HB2.out.mono HB1.out.size))
          have HE3 := Aside0.mk (show HoldsC w2 e 4 1 (toZ (at_ (lead (zs.take (i + 1))))) by rw [H2.out]; exact HE.out.below HBA.out)
          have HB4 := Aside0.mk (HB.out.trans (HBA.out.mono HB.out.size))
          clear HBA H2 HE HB HB1 HB2
          go_wp2_with (go_at_call 19; refine (num_any _ _).mono ?_; rintro e' w' ⟨rfl, rfl⟩)
          go_roundg (n - (i + 1))
          case measure => omega
          case rel => exact ⟨i + 1, m, e, cc, by omega, by omega, by omega, by go_num, rfl, rfl, H1, HE3, HB4⟩
        · have HMAT := Aside0.mk hM
          clear hM
          go_upto_region 7 with (go_at_call 40; (with_reducible refine (HMAT.out _).mono ?_); rintro r w1 ⟨b1, rfl, hbel1⟩; have HB1 := Aside0.mk hbel1; clear hbel1)
          clear hc
          obtain ⟨g6, hg6⟩ : ∃ g6, g6 = w1.heap.size := ⟨_, rfl⟩
          obtain ⟨w2, hw2⟩ : ∃ w2, w2 = w1.alloc (Obj.cells #[Value.int .i64 8, Value.slice (some ⟨b1, 0, none⟩) 64 64] 45) := ⟨_, rfl⟩
          have hb2 : Below w1.heap.size w1 w2 := by rw [hw2]; exact (Below.refl _ _).alloc (Nat.le_refl _) _
          have n0 : w2.cell? ⟨g6, 0, none⟩ = some (Value.int .i64 8) := by rw [hw2]; exact new_cell w1 _ _ g6 0 _ hg6 rfl
          have n1 : w2.cell? ⟨g6, 1, none⟩ = some (Value.slice (some ⟨b1, 0, none⟩) 64 64) := by rw [hw2]; exact new_cell w1 _ _ g6 1 _ hg6 rfl
          rw [← hg6, ← hw2]
          have HB2 := Aside0.mk (hb2.mono (Nat.le_refl _))
          clear hg6 hw2 hb2
          have HBA := Aside0.mk (HB1.out.trans (HB2.out.mono HB1.out.size))
          have HE3 := Aside0.mk (show HoldsC w2 e 4 1 (toZ (at_ (lead (zs.take (i + 1))))) by rw [H2.out]; exact HE.out.below HBA.out)
          have HB4 := Aside0.mk (HB.out.trans (HBA.out.mono HB.out.size))
          clear HBA H2 HE HB HB1 HB2
          go_wp2_with (go_at_call 19; refine (num_any _ _).mono ?_; rintro e' w' ⟨rfl, rfl⟩)
          go_roundg (n - (i + 1))
          case measure => omega
          case rel => exact ⟨i + 1, m, e, cc, by omega, by omega, by omega, by go_num, rfl, rfl, H1, HE3, HB4⟩
        · have HMAT := Aside0.mk hM
          clear hM
          go_upto_region 7 with (go_at_call 40; (with_reducible refine (HMAT.out _).mono ?_); rintro r w1 ⟨rfl, hbel1⟩; have HB1 := Aside0.mk hbel1; clear hbel1)
          clear hc
          obtain ⟨g6, hg6⟩ : ∃ g6, g6 = w1.heap.size := ⟨_, rfl⟩
          obtain ⟨w2, hw2⟩ : ∃ w2, w2 = w1.alloc (Obj.cells #[Value.int .i64 0, Value.slice none 0 0] 45) := ⟨_, rfl⟩
          have hb2 : Below w1.heap.size w1 w2 := by rw [hw2]; exact (Below.refl _ _).alloc (Nat.le_refl _) _
          have n0 : w2.cell? ⟨g6, 0, none⟩ = some (Value.int .i64 0) := by rw [hw2]; exact new_cell w1 _ _ g6 0 _ hg6 rfl
          have n1 : w2.cell? ⟨g6, 1, none⟩ = some (Value.slice none 0 0) := by rw [hw2]; exact new_cell w1 _ _ g6 1 _ hg6 rfl
          rw [← hg6, ← hw2]
          have HB2 := Aside0.mk (hb2.mono (Nat.le_refl _))
          clear hg6 hw2 hb2
          have HBA := Aside0.mk (HB1.out.trans (HB2.out.mono HB1.out.size))
          have HE3 := Aside0.mk (show HoldsC w2 e 4 1 (toZ (at_ (lead (zs.take (i + 1))))) by rw [H2.out]; exact HE.out.below HBA.out)
          have HB4 := Aside0.mk (HB.out.trans (HBA.out.mono HB.out.size))
          clear HBA H2 HE HB HB1 HB2
          go_wp2_with (go_at_call 19; refine (num_any _ _).mono ?_; rintro e' w' ⟨rfl, rfl⟩)
          go_roundg (n - (i + 1))
          case measure => omega
          case rel => exact ⟨i + 1, m, e, cc, by omega, by omega, by omega, by go_num, rfl, rfl, H1, HE3, HB4⟩
    · have HTK : Aside0 (zs.take i = zs) := Aside0.mk (List.take_of_length_le (by have := HN.out; omega))
      rw [HTK.out] at HM HE
      have hok := lead_ok zs
      rw [← HM.out] at hok
      generalize lead zs = j at hok HE
      have hgt : decide (m < (word j).length) = false := decide_eq_false (Nat.not_lt.2 hok.2)
      have hwl : (word j).length < 1000 := word_len ⟨j, hok.1⟩
      have HJ := Aside0.mk hok.1
      clear hok HTK HM H0 HH0
      go_upto_region 10 with fail
      have hba : Below wr.heap.size wr (wr.alloc (.cells #[] 49)) := (Below.refl _ _).alloc (Nat.le_refl _) _
      have HBA := Aside0.mk hba
      clear hba
      go_wp2_with (at_builtin; refine wpList_capp rfl _ _ rfl wr.heap.size e cc _ (HE.out.below HBA.out) rfl rfl ?_)
      intro e1 c1 w1 hh1 hb1
      have HH1 := Aside0.mk hh1
      have HB1 := Aside0.mk (HBA.out.trans (hb1.mono (Nat.le_succ _)))
      clear hh1 hb1 HBA
      go_upto_region 11 with (go_at_call 56; (with_reducible refine (word_any e1 c1 j HJ.out _ HH1.out).mono ?_); rintro r w4 ⟨v, rfl, hv, hb4⟩; have HV0 := Aside0.mk hv; have HB4 := Aside0.mk (HB1.out.trans (hb4.mono HB1.out.size)); clear hv hb4)
      obtain ⟨A, cw, rfl⟩ := HV0.out.val
      clear HB1 HH1
      go_upto_region 14 with (go_at_call 19; refine (num_any _ _).mono ?_; rintro e' w' ⟨rfl, rfl⟩)
      have hb5 : Below w4.heap.size w4 (w4.alloc (.cells #[Value.complex FloatKind.f64 4607182418800017408 0, Value.complex FloatKind.f64 0 0, Value.complex FloatKind.f64 0 0, Value.complex FloatKind.f64 4607182418800017408 0] 49)) := (Below.refl _ _).alloc (Nat.le_refl _) _
      have hh5 := HoldsC.one (heap_alloc_new w4 (.cells #[Value.complex FloatKind.f64 4607182418800017408 0, Value.complex FloatKind.f64 0 0, Value.complex FloatKind.f64 0 0, Value.complex FloatKind.f64 4607182418800017408 0] 49))
      generalize (w4.alloc (.cells #[Value.complex FloatKind.f64 4607182418800017408 0, Value.complex FloatKind.f64 0 0, Value.complex FloatKind.f64 0 0, Value.complex FloatKind.f64 4607182418800017408 0] 49)) = w5 at hb5 hh5 ⊢
      have HV := Aside0.mk (HV0.out.below hb5)
      have HH5 := Aside0.mk hh5
      have HB5 := Aside0.mk (HB4.out.trans (hb5.mono HB4.out.size))
      clear hb5 hh5 HV0 HB4
      go_upto_region 15 with fail
      go_loopg [10, 11] (word j).length (fun gk v10 v11 wq => ∃ i e c, i ≤ (word j).length ∧ (word j).length - i ≤ gk ∧ v11 = .int .i64 (i : Int) ∧ v10 = .slice (some ⟨e, 0, none⟩) 4 c ∧ Aside0 (HoldsC wq e 4 1 (toZ (at_ (((word j).take i).foldl to_ 0)))) ∧ Aside0 (Below w5.heap.size w5 wq))
      case atStart => exact ⟨0, _, 4, by omega, by omega, by go_num, rfl, HH5, Aside0.mk (Below.refl _ _)⟩
      case round =>
        obtain ⟨i2, e2, cc2, hi0', hi1', rfl, rfl, HE2, HB6⟩ := hrel
        by_cases hlt2 : i2 < (word j).length
        · obtain ⟨k, hk, hkw⟩ := word_kinds HJ.out hlt2
          rcases HV.out with ⟨_, h0⟩ | ⟨b, cb, hA, _, _, hcell⟩
          · exact absurd hlt2 (by rw [h0]; simp)
          · injection hA with hA1 hA2 hA3
            subst hA1
            have hc : wr.cell? ⟨b, i2, none⟩ = some (.int .i64 ((k : Int) + 1)) := below_cell2 HB6.out (hcell i2 (k + 1) hkw)
            have HK := Aside0.mk hk
            have HMAT := Aside0.mk (fun w => matrix_two hk w)
            have H2 := Aside0.mk (word_snoc hkw)
            have HLD := Aside0.mk (word_lt HJ.out i2)
            clear hcell hk hkw hA2 hA3
            go_upto_region 18 with (go_at_call 40; (with_reducible refine (HMAT.out _).mono ?_); rintro r w1 ⟨b1, rfl, hh1, _, hl1, hbel1⟩; have HH1 := Aside0.mk hh1; have HB1 := Aside0.mk hbel1; clear hh1 hl1 hbel1)
            clear hc
            obtain ⟨g6, hg6⟩ : ∃ g6, g6 = w1.heap.size := ⟨_, rfl⟩
            obtain ⟨w2, hw2⟩ : ∃ w2, w2 = w1.alloc (Obj.cells #[Value.int .i64 2, Value.slice (some ⟨b1, 0, none⟩) 4 4] 45) := ⟨_, rfl⟩
            have hb2 : Below w1.heap.size w1 w2 := by rw [hw2]; exact (Below.refl _ _).alloc (Nat.le_refl _) _
            have n0 : w2.cell? ⟨g6, 0, none⟩ = some (Value.int .i64 2) := by rw [hw2]; exact new_cell w1 _ _ g6 0 _ hg6 rfl
            have n1 : w2.cell? ⟨g6, 1, none⟩ = some (Value.slice (some ⟨b1, 0, none⟩) 4 4) := by rw [hw2]; exact new_cell w1 _ _ g6 1 _ hg6 rfl
            rw [← hg6, ← hw2]
            have HB2 := Aside0.mk (hb2.mono (Nat.le_refl _))
            clear hg6 hw2 hb2
            have HBA := Aside0.mk (HB1.out.trans (HB2.out.mono HB1.out.size))
            have HT := Aside0.mk (ltimes_two HLD.out HK.out b1 e2 4 cc2 w2 (HH1.out.below HB2.out) (HE2.out.below HBA.out))
            go_wp2_with (first | (go_at_call 19; refine (num_any _ _).mono ?_; rintro e' w' ⟨rfl, rfl⟩) | (go_at_call 55; (with_reducible refine HT.out.mono ?_); rintro r w3 ⟨be, rfl, hh3, hb3⟩; have HH3 := Aside0.mk hh3; have HB3 := Aside0.mk hb3; clear hh3 hb3))
            have HE3 := Aside0.mk (show HoldsC w3 be 4 1 (toZ (at_ (((word j).take (i2 + 1)).foldl to_ 0))) by rw [H2.out]; exact HH3.out)
            have HBC := Aside0.mk (HBA.out.trans (HB3.out.mono HBA.out.size))
            have HB7 := Aside0.mk (HB6.out.trans (HBC.out.mono HB6.out.size))
            clear HBA HT HH3 HB3 H2 HE2 HB6 HB1 HB2 HH1
            go_roundg ((word j).length - (i2 + 1))
            case measure => omega
            case rel => exact ⟨i2 + 1, be, 4, by omega, by omega, by go_num, rfl, HE3, HB7⟩
        · have HE2' := Aside0.mk (show HoldsC wr e2 4 1 (toZ (at_ j)) by
            have h := HE2.out
            rw [show i2 = (word j).length by omega, word_end HJ.out] at h
            exact h)
          have HB7 := Aside0.mk (HB5.out.trans (HB6.out.mono HB5.out.size))
          have HP := Aside0.mk (HE.out.below HB7.out)
          have HB8 := Aside0.mk (HB.out.trans (HB7.out.mono HB.out.size))
          clear HB7 HE HE2 HB5 HB6 HB HV HH5
          go_upto_region 22 with fail
          obtain ⟨w7, hw7⟩ : ∃ w7, w7 = wr := ⟨_, rfl⟩
          rw [← hw7] at HE2' HP HB8 ⊢
          clear hw7
          go_loopg [14] 4 (fun gk v14 wr => ∃ q, q ≤ 4 ∧ 4 - q ≤ gk ∧ v14 = .int .i64 ((q : Nat) : Int) ∧ Aside0 (Below w7.heap.size w7 wr))
          case atStart => exact ⟨0, by omega, by omega, by go_num, Aside0.mk (Below.refl _ _)⟩
          case round =>
            obtain ⟨q, hq0, hq1, rfl, HB9⟩ := hrel
            by_cases hlt3 : q < 4
            · obtain ⟨x, y, h1, z1⟩ := (HP.out.below HB9.out) q hlt3
              obtain ⟨x', y', h2, z2⟩ := (HE2'.out.below HB9.out) q hlt3
              have hne := fun t w => run_cneq (P := Try.prog) z1 z2 t w
              rw [decide_eq_false (by simp)] at hne
              clear z1 z2
              go_wp2
              go_quiet (fail)
              go_wp2
              have HB10 := Aside0.mk (pw_below_drewN HB9.out nq)
              go_roundg (4 - (q + 1))
              case measure => omega
              case rel => exact ⟨q + 1, by omega, by omega, by go_num, HB10⟩
            · have HB10 := Aside0.mk (HB8.out.trans (HB9.out.mono HB8.out.size))
              clear HP HE2' HB8 HB9
              go_wp2_with (go_at_call 39; refine (alive_calls _).mono ?_; rintro r w8 ⟨rfl, hb1⟩)
              go_ret
              exact ⟨rfl, HB10.out.trans (hb1.mono HB10.out.size)⟩
theorem spells_row (a : Option Addr) (n c : Nat) (zs : List Int) (w : World) (h : IsRow .i64 w a n c zs) :
    Calls Try.prog 13 #[.slice a n c] w fun e w' => e = .returned (.bool true) ∧ Below w.heap.size w w' := by
  have hwf : ∀ z ∈ zs, (Lit.int .i64 z).wf = true := by
    rcases h with ⟨_, _, _, rfl⟩ | ⟨_, _, _, _, _, _, hw⟩
    · intro z hz; simp at hz
    · exact hw
  obtain ⟨h1, h2, _⟩ := h.isL
  exact spells_any a n c _ w h1 h2 fun z hz => hwf z (List.mem_of_mem_take hz)
end Go.Proofs.Ytmckaoeofikdaaa.Lift
