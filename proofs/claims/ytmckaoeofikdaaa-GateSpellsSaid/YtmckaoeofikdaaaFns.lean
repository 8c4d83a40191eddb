/- The program's functions, as a table for the second machine. -/
import Derived.Test.YtmckaoeofikdaaaRows
import Derived.Test.YtmckaoeofikdaaaLiftB
namespace Go.Proofs.Ytmckaoeofikdaaa.Lift
noncomputable def fnList : List Func := [Try.f3, Try.f4, Try.f5, Try.f6, Try.f7, Try.f8, Try.f9, Try.f10, Try.f11, Try.f12, Try.f13, Try.f14, Try.f15, Try.f16, Try.f17, Try.f18, Try.f19, Try.f20, Try.f21, Try.f22, Try.f23, Try.f24, Try.f25, Try.f26, Try.f27, Try.f28, Try.f29, Try.f30, Try.f31, Try.f32, Try.f33, Try.f34, Try.f35, Try.f36, Try.f37, Try.f38, Try.f39, Try.f40, Try.f41, Try.f42, Try.f43, Try.f44, Try.f45, Try.f46, Try.f47, Try.f48, Try.f49, Try.f50, Try.f51, Try.f52, Try.f53, Try.f54, Try.f55, Try.f56, Try.f57, Try.f58, Try.f59, Try.f60, Try.f61, Try.f62, Try.f63, Try.f64, Try.f65, Try.f66, Try.f67, Try.f68, Try.f69, Try.f70, Try.f71, Try.f72, Try.f73, Try.f74, Try.f75, Try.f76, Try.f77, Try.f78, Try.f79, Try.f80, Try.f81, Try.f82, Try.f83, Try.f84, Try.f85, Try.f86, Try.f87, Try.f88, Try.f89, Try.f90, Try.f91, Try.f92, Try.f93, Try.f94, Try.f95, Try.f96, Try.f97, Try.f98, Try.f99, Try.f100, Try.f101, Try.f102, Try.f103, Try.f104, Try.f105, Try.f106, Try.f107, Try.f108, Try.f109, Try.f110, Try.f111, Try.f112, Try.f113]
noncomputable def fns : Fns := fun f => if f < 3 then none else fnList[f - 3]?
theorem fns_list : fnList.map some = (List.range 111).map (fun j => Try.prog.funcs[3 + j]?) := by kernel_rfl
theorem fns_ok (f : FuncId) (fn : Func) (h : fns f = some fn) : Try.prog.funcs[f]? = some fn := by
  unfold fns at h
  by_cases h3 : f < 3
  · rw [if_pos h3] at h; cases h
  · rw [if_neg h3] at h
    have h1 : (fnList.map some)[f - 3]? = some (some fn) := by rw [List.getElem?_map, h]; rfl
    rw [fns_list, List.getElem?_map] at h1
    have hlt : f - 3 < 111 := by
      by_cases hl : f - 3 < 111
      · exact hl
      · rw [List.getElem?_eq_none (by simpa using hl)] at h1; cases h1
    rw [List.getElem?_range hlt] at h1
    have h2 : Try.prog.funcs[3 + (f - 3)]? = some fn := by simpa using h1
    have e : 3 + (f - 3) = f := by simp only [FuncId] at *; omega
    rw [e] at h2; exact h2
end Go.Proofs.Ytmckaoeofikdaaa.Lift
