/- The program's types are laid out; and other closed facts of its tables. -/
import Derived.Test.YtiidbfjcneaakaaGreatRRows
import Derived.Test.YtiidbfjcneaakaaGreatRAEMf
namespace Go.Proofs.YtiidbfjcneaakaaGreatR
open Go.AE
set_option maxRecDepth 100000

theorem ntypes : Tryz.prog.types.size = 716 := by kernel_rfl
theorem fine0 : rangeAll (rowFine Tryz.prog) 179 0 = true := by kernel_rfl
theorem fine1 : rangeAll (rowFine Tryz.prog) 179 179 = true := by kernel_rfl
theorem fine2 : rangeAll (rowFine Tryz.prog) 179 358 = true := by kernel_rfl
theorem fine3 : rangeAll (rowFine Tryz.prog) 179 537 = true := by kernel_rfl
theorem laidOut : laidOutB Tryz.prog = true := laid_of ntypes (range_all (a := 179) (b := 179) (c := 179) (d := 179) (by decide) fine0 fine1 fine2 fine3) (by kernel_rfl) (by kernel_rfl)
theorem j3 : mapsRowed Tryz.prog = true := by kernel_rfl
theorem j23 : (Rows.calmNobodyRow.plainKeys == Tryz.prog.plainKeys) = true := by kernel_rfl
end Go.Proofs.YtiidbfjcneaakaaGreatR
