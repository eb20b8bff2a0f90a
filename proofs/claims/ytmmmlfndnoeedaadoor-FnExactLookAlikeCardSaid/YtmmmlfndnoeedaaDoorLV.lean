/- A world in which unicode/utf8's two tables, and one variable of the program's own, lie as the program lays them. -/
import Derived.Test.YtmmmlfndnoeedaaDoorLW
import Derived.Test.YtmmmlfndnoeedaaDoorEV
namespace Go.Proofs.YtmmmlfndnoeedaaDoor
open Go.RowKit Go.Eng
set_option maxRecDepth 100000
noncomputable def laidWorldV (os : Os) : World :=
  let w0 := laidWorld os
  let h1 := w0.heap.modify 2 fun
    | .cells _ t frozen => .cells #[.slice (some ⟨w0.heap.size, 0, none⟩) 7 7] t frozen
    | o => o
  { w0 with heap := h1.push (.cells #[.int .i64 48, .int .i64 592, .int .i64 848, .int .i64 1104, .int .i64 1360, .int .i64 1616, .int .i64 10016] 2 (0, 0)) }
theorem laid_metV (os : Os) (args : Array Value) : laidMet Tryd.prog [("unicode/utf8.acceptRanges", Rows.laid_unicode_utf8_acceptRanges), ("loop.example/g00044/impl.digitRows", Rows.laid_loop_example_g00044_impl_digitRows), ("unicode/utf8.first", Rows.laid_unicode_utf8_first)] ((laidWorldV os).forCall (fun _ _ => 0) ⟨#[], args, []⟩).memory :=
  (LaidIn.of_run (l := [("unicode/utf8.acceptRanges", Rows.laid_unicode_utf8_acceptRanges), ("loop.example/g00044/impl.digitRows", Rows.laid_loop_example_g00044_impl_digitRows), ("unicode/utf8.first", Rows.laid_unicode_utf8_first)]) [0, 1, 2, (laidWorld os).heap.size] 8 (by kernel_rfl) (by kernel_rfl) (by kernel_rfl) (by kernel_rfl)).met
theorem tabs_metV {W : World} (hL : laidMet Tryd.prog [("unicode/utf8.acceptRanges", Rows.laid_unicode_utf8_acceptRanges), ("loop.example/g00044/impl.digitRows", Rows.laid_loop_example_g00044_impl_digitRows), ("unicode/utf8.first", Rows.laid_unicode_utf8_first)] W) : Lib.Utf8Tabs 0 1 W :=
  tabs_of (first_same ▸ Lib.laidMet.reads hL (.tail _ (.tail _ (.head _)))) (acc_same ▸ Lib.laidMet.reads hL (.head _))
theorem var_met {W : World} (hL : laidMet Tryd.prog [("unicode/utf8.acceptRanges", Rows.laid_unicode_utf8_acceptRanges), ("loop.example/g00044/impl.digitRows", Rows.laid_loop_example_g00044_impl_digitRows), ("unicode/utf8.first", Rows.laid_unicode_utf8_first)] W) : ∃ v, VarRow 2 (.one (.int .i64)) ([48, 592, 848, 1104, 1360, 1616, 10016] : List Int) v W := by
  obtain ⟨g, t, cs, fuel, p, h1, h2, h3, h4⟩ := Lib.laidMet.reads hL (.tail _ (.head _))
  obtain rfl : g = 2 := Option.some.inj (h1.symm.trans (show Tryd.prog.globalNamed "loop.example/g00044/impl.digitRows" = some 2 by kernel_rfl))
  obtain rfl : t = 45 := Option.some.inj (h2.symm.trans (show (Tryd.prog.globals[2]?).map (·.type) = some 45 by kernel_rfl))
  have h5 : ∃ ty fz, W.heap[2]? = some (.cells cs ty fz) := by
    unfold World.var? at h3
    rw [h1] at h3
    simp only [Option.bind_some] at h3
    split at h3
    · rename_i c ty fz hb
      obtain rfl : c = cs := by simpa using h3
      exact ⟨ty, fz, hb⟩
    · simp at h3
  obtain ⟨ty, fz, h5⟩ := h5
  exact VarRow.of_trod (k := .i64) Tryd.underlying45 Tryd.underlying2 (by kernel_rfl) h5 rfl h4
#print axioms laid_metV
#print axioms var_met
end Go.Proofs.YtmmmlfndnoeedaaDoor
