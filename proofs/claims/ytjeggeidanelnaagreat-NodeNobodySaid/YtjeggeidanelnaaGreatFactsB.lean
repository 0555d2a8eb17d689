/- The program's types are laid out; and other closed facts of its tables. -/
import Derived.Test.YtjeggeidanelnaaGreatRows
import Derived.Test.YtjeggeidanelnaaGreatAEMf
namespace Go.Proofs.YtjeggeidanelnaaGreat
open Go.AE
set_option maxRecDepth 100000

theorem ntypes : Tryz.prog.types.size = 627 := by kernel_rfl
theorem fine0 : rangeAll (rowFine Tryz.prog) 156 0 = true := by kernel_rfl
theorem fine1 : rangeAll (rowFine Tryz.prog) 156 156 = true := by kernel_rfl
theorem fine2 : rangeAll (rowFine Tryz.prog) 156 312 = true := by kernel_rfl
theorem fine3 : rangeAll (rowFine Tryz.prog) 159 468 = true := by kernel_rfl
theorem laidOut : laidOutB Tryz.prog = true := laid_of ntypes (range_all (a := 156) (b := 156) (c := 156) (d := 159) (by decide) fine0 fine1 fine2 fine3) (by kernel_rfl) (by kernel_rfl)
theorem j3 : mapsRowed Tryz.prog = true := by kernel_rfl
theorem j23 : (Rows.nodeNobodyRow.plainKeys == Tryz.prog.plainKeys) = true := by kernel_rfl
end Go.Proofs.YtjeggeidanelnaaGreat
