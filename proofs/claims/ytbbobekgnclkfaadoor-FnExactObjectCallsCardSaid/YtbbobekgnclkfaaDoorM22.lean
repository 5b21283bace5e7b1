/-
  What data a machine is.
-/
import Derived.Test.YtbbobekgnclkfaaDoorM21
import Derived.Test.YtbbobekgnclkfaaDoorL7
import Derived.WalkKit
import Derived.ProofKit
namespace Go.Proofs.YtbbobekgnclkfaaDoor
open Go Go.Aw
set_option maxRecDepth 100000

theorem u3 : Tryd.prog.underlying 3 = some (.int .i64) := by kernel_rfl
theorem conf_int5 {vs : List PV} (h : ConfS Tryd.prog [3, 3, 3, 3, 3] vs) : ∃ m : Mins, vs = m.cs := by
  obtain ⟨a, r, rfl, h1, h⟩ := confS_cons h
  obtain ⟨b, r, rfl, h2, h⟩ := confS_cons h
  obtain ⟨c, r, rfl, h3, h⟩ := confS_cons h
  obtain ⟨d, r, rfl, h4, h⟩ := confS_cons h
  obtain ⟨e, r, rfl, h5, h⟩ := confS_cons h
  cases confS_nil h
  obtain ⟨n1, rfl, _⟩ := conf_int h1 u3
  obtain ⟨n2, rfl, _⟩ := conf_int h2 u3
  obtain ⟨n3, rfl, _⟩ := conf_int h3 u3
  obtain ⟨n4, rfl, _⟩ := conf_int h4 u3
  obtain ⟨n5, rfl, _⟩ := conf_int h5 u3
  exact ⟨⟨n1, n2, n3, n4, n5⟩, rfl⟩
theorem conf_mins {vs : List PV} (h : Conf Tryd.prog 164 vs) : ∃ m : Mins, vs = m.cs :=
  conf_int5 (conf_st h (by kernel_rfl))
theorem conf_mfn {vs : List PV} (h : Conf Tryd.prog 101 vs) : ∃ f : Mfn, vs = f.cs := by
  have h := conf_st (ts := [3, 3, 99]) h (by kernel_rfl)
  obtain ⟨a, r, rfl, h1, h⟩ := confS_cons h
  obtain ⟨b, r, rfl, h2, h⟩ := confS_cons h
  obtain ⟨c, r, rfl, h3, h⟩ := confS_cons h
  cases confS_nil h
  obtain ⟨n1, rfl, _⟩ := conf_int h1 u3
  obtain ⟨n2, rfl, _⟩ := conf_int h2 u3
  obtain ⟨es, rfl, h4⟩ := conf_sl h3 (e := 164) (by kernel_rfl)
  obtain ⟨ms, rfl⟩ := list_of Mins.cs fun x hx => conf_mins (h4 x hx)
  rw [show Tryd.prog.cellsOf 164 = 5 by kernel_rfl]
  exact ⟨⟨n1, n2, ms⟩, rfl⟩
theorem conf_mach {vs : List PV} (h : Conf Tryd.prog 24 vs) : ∃ fs : List Mfn, vs = [fnsL fs] := by
  have h := conf_st (ts := [22]) h (by kernel_rfl)
  obtain ⟨a, r, rfl, h1, h⟩ := confS_cons h
  cases confS_nil h
  obtain ⟨es, rfl, h4⟩ := conf_sl h1 (e := 101) (by kernel_rfl)
  obtain ⟨fs, rfl⟩ := list_of Mfn.cs fun x hx => conf_mfn (h4 x hx)
  rw [show Tryd.prog.cellsOf 101 = 3 by kernel_rfl]
  exact ⟨fs, rfl⟩

theorem bulk_ins : ∀ l : List Mins, pbulkLL (l.map Mins.cs) = 5 * l.length
  | [] => by simp [pbulkLL]
  | m :: r => by simp only [List.map_cons, pbulkLL, bulk_ins r, Mins.cs, pbulkL, pbulk, List.length_cons]; omega
theorem bulk_fns : ∀ l : List Mfn, 3 * szF l ≤ pbulkLL (l.map Mfn.cs)
  | [] => by simp [szF]
  | m :: r => by
    have := bulk_fns r
    simp only [szF, List.map_cons, pbulkLL, Mfn.cs, pbulkL, pbulk, List.length_cons, List.sum_cons, bulk_ins] at this ⊢
    omega
theorem bulk_mach (fs : List Mfn) : 3 * szF fs ≤ pbulkL [fnsL fs] := by
  have := bulk_fns fs
  simp only [fnsL, pbulkL, pbulk]; omega
end Go.Proofs.YtbbobekgnclkfaaDoor
