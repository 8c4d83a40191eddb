/- What the second machine tells of the table of package gate: the row of each kind. -/
import Derived.Test.YtmckaoeofikdaaaTab
namespace Go.Proofs.Ytmckaoeofikdaaa.Lift
set_option maxRecDepth 100000
variable [Syms]
noncomputable def rowOf1 : Ent := ⟨[.int .i64 1], .agg #[.string ⟨#[105, 100]⟩, .int .i64 1, .int .i64 0, .int .i64 1], []⟩
theorem rowOf1_good : Good 57 rowOf1 := good_flat noO_sound (n := 2000) (v := rowOf1.val) (by kernel_rfl) (by kernel_rfl) (by kernel_rfl)
noncomputable def rowOf2 : Ent := ⟨[.int .i64 2], .agg #[.string ⟨#[120]⟩, .int .i64 1, .int .i64 0, .int .i64 2], []⟩
theorem rowOf2_good : Good 57 rowOf2 := good_flat noO_sound (n := 2000) (v := rowOf2.val) (by kernel_rfl) (by kernel_rfl) (by kernel_rfl)
noncomputable def rowOf3 : Ent := ⟨[.int .i64 3], .agg #[.string ⟨#[121]⟩, .int .i64 1, .int .i64 0, .int .i64 3], []⟩
theorem rowOf3_good : Good 57 rowOf3 := good_flat noO_sound (n := 2000) (v := rowOf3.val) (by kernel_rfl) (by kernel_rfl) (by kernel_rfl)
noncomputable def rowOf4 : Ent := ⟨[.int .i64 4], .agg #[.string ⟨#[122]⟩, .int .i64 1, .int .i64 0, .int .i64 4], []⟩
theorem rowOf4_good : Good 57 rowOf4 := good_flat noO_sound (n := 2000) (v := rowOf4.val) (by kernel_rfl) (by kernel_rfl) (by kernel_rfl)
noncomputable def rowOf5 : Ent := ⟨[.int .i64 5], .agg #[.string ⟨#[115]⟩, .int .i64 1, .int .i64 0, .int .i64 6], []⟩
theorem rowOf5_good : Good 57 rowOf5 := good_flat noO_sound (n := 2000) (v := rowOf5.val) (by kernel_rfl) (by kernel_rfl) (by kernel_rfl)
noncomputable def rowOf6 : Ent := ⟨[.int .i64 6], .agg #[.string ⟨#[115, 100, 103]⟩, .int .i64 1, .int .i64 0, .int .i64 5], []⟩
theorem rowOf6_good : Good 57 rowOf6 := good_flat noO_sound (n := 2000) (v := rowOf6.val) (by kernel_rfl) (by kernel_rfl) (by kernel_rfl)
noncomputable def rowOf7 : Ent := ⟨[.int .i64 7], .agg #[.string ⟨#[115, 120]⟩, .int .i64 1, .int .i64 0, .int .i64 8], []⟩
theorem rowOf7_good : Good 57 rowOf7 := good_flat noO_sound (n := 2000) (v := rowOf7.val) (by kernel_rfl) (by kernel_rfl) (by kernel_rfl)
noncomputable def rowOf8 : Ent := ⟨[.int .i64 8], .agg #[.string ⟨#[115, 120, 100, 103]⟩, .int .i64 1, .int .i64 0, .int .i64 7], []⟩
theorem rowOf8_good : Good 57 rowOf8 := good_flat noO_sound (n := 2000) (v := rowOf8.val) (by kernel_rfl) (by kernel_rfl) (by kernel_rfl)
noncomputable def rowOf9 : Ent := ⟨[.int .i64 9], .agg #[.string ⟨#[115, 121]⟩, .int .i64 1, .int .i64 0, .int .i64 10], []⟩
theorem rowOf9_good : Good 57 rowOf9 := good_flat noO_sound (n := 2000) (v := rowOf9.val) (by kernel_rfl) (by kernel_rfl) (by kernel_rfl)
noncomputable def rowOf10 : Ent := ⟨[.int .i64 10], .agg #[.string ⟨#[115, 121, 100, 103]⟩, .int .i64 1, .int .i64 0, .int .i64 9], []⟩
theorem rowOf10_good : Good 57 rowOf10 := good_flat noO_sound (n := 2000) (v := rowOf10.val) (by kernel_rfl) (by kernel_rfl) (by kernel_rfl)
noncomputable def rowOf11 : Ent := ⟨[.int .i64 11], .agg #[.string ⟨#[99, 120]⟩, .int .i64 2, .int .i64 1, .int .i64 11], []⟩
theorem rowOf11_good : Good 57 rowOf11 := good_flat noO_sound (n := 2000) (v := rowOf11.val) (by kernel_rfl) (by kernel_rfl) (by kernel_rfl)
noncomputable def rowOf12 : Ent := ⟨[.int .i64 12], .agg #[.string ⟨#[99, 121]⟩, .int .i64 2, .int .i64 1, .int .i64 12], []⟩
theorem rowOf12_good : Good 57 rowOf12 := good_flat noO_sound (n := 2000) (v := rowOf12.val) (by kernel_rfl) (by kernel_rfl) (by kernel_rfl)
noncomputable def rowOf13 : Ent := ⟨[.int .i64 13], .agg #[.string ⟨#[99, 122]⟩, .int .i64 2, .int .i64 0, .int .i64 13], []⟩
theorem rowOf13_good : Good 57 rowOf13 := good_flat noO_sound (n := 2000) (v := rowOf13.val) (by kernel_rfl) (by kernel_rfl) (by kernel_rfl)
noncomputable def rowOf14 : Ent := ⟨[.int .i64 14], .agg #[.string ⟨#[115, 119, 97, 112]⟩, .int .i64 2, .int .i64 0, .int .i64 14], []⟩
theorem rowOf14_good : Good 57 rowOf14 := good_flat noO_sound (n := 2000) (v := rowOf14.val) (by kernel_rfl) (by kernel_rfl) (by kernel_rfl)
noncomputable def rowOf15 : Ent := ⟨[.int .i64 15], .agg #[.string ⟨#[105, 115, 119, 97, 112]⟩, .int .i64 2, .int .i64 0, .int .i64 16], []⟩
theorem rowOf15_good : Good 57 rowOf15 := good_flat noO_sound (n := 2000) (v := rowOf15.val) (by kernel_rfl) (by kernel_rfl) (by kernel_rfl)
noncomputable def rowOf16 : Ent := ⟨[.int .i64 16], .agg #[.string ⟨#[105, 115, 119, 97, 112, 100, 103]⟩, .int .i64 2, .int .i64 0, .int .i64 15], []⟩
theorem rowOf16_good : Good 57 rowOf16 := good_flat noO_sound (n := 2000) (v := rowOf16.val) (by kernel_rfl) (by kernel_rfl) (by kernel_rfl)
noncomputable def rowOf17 : Ent := ⟨[.int .i64 17], .agg #[.string ⟨#[104, 104]⟩, .int .i64 2, .int .i64 0, .int .i64 17], []⟩
theorem rowOf17_good : Good 57 rowOf17 := good_flat noO_sound (n := 2000) (v := rowOf17.val) (by kernel_rfl) (by kernel_rfl) (by kernel_rfl)
noncomputable def rowOf18 : Ent := ⟨[.int .i64 18], .agg #[.string ⟨#[99, 99, 120]⟩, .int .i64 3, .int .i64 2, .int .i64 18], []⟩
theorem rowOf18_good : Good 57 rowOf18 := good_flat noO_sound (n := 2000) (v := rowOf18.val) (by kernel_rfl) (by kernel_rfl) (by kernel_rfl)
noncomputable def rowOf19 : Ent := ⟨[.int .i64 19], .agg #[.string ⟨#[99, 99, 122]⟩, .int .i64 3, .int .i64 0, .int .i64 19], []⟩
theorem rowOf19_good : Good 57 rowOf19 := good_flat noO_sound (n := 2000) (v := rowOf19.val) (by kernel_rfl) (by kernel_rfl) (by kernel_rfl)
noncomputable def rowOf20 : Ent := ⟨[.int .i64 20], .agg #[.string ⟨#[99, 115, 119, 97, 112]⟩, .int .i64 3, .int .i64 1, .int .i64 20], []⟩
theorem rowOf20_good : Good 57 rowOf20 := good_flat noO_sound (n := 2000) (v := rowOf20.val) (by kernel_rfl) (by kernel_rfl) (by kernel_rfl)
noncomputable def tabA : List (FuncId × List Ent) := [(57, [rowOf1, rowOf2, rowOf3, rowOf4, rowOf5, rowOf6, rowOf7, rowOf8, rowOf9, rowOf10, rowOf11, rowOf12, rowOf13, rowOf14, rowOf15, rowOf16, rowOf17, rowOf18, rowOf19, rowOf20])]
theorem tabA_good : TabGood tabA := ⟨⟨rowOf1_good, rowOf2_good, rowOf3_good, rowOf4_good, rowOf5_good, rowOf6_good, rowOf7_good, rowOf8_good, rowOf9_good, rowOf10_good, rowOf11_good, rowOf12_good, rowOf13_good, rowOf14_good, rowOf15_good, rowOf16_good, rowOf17_good, rowOf18_good, rowOf19_good, rowOf20_good, trivial⟩, trivial⟩
theorem tabA_sound : OrcSound Try.prog (tabO tabA) := tabO_sound tabA_good
end Go.Proofs.Ytmckaoeofikdaaa.Lift
