/- The program's types are laid out; and other closed facts of its tables. -/
import Derived.Test.YtiidbfjcneaakaaGreatRDoorRows
import Derived.Test.YtiidbfjcneaakaaGreatRDoorAEMf
namespace Go.Proofs.YtiidbfjcneaakaaGreatRDoor
open Go.AE
set_option maxRecDepth 100000

theorem ntypes : Tryz.prog.types.size = 677 := by kernel_rfl
theorem fine0 : rangeAll (rowFine Tryz.prog) 169 0 = true := by kernel_rfl
theorem fine1 : rangeAll (rowFine Tryz.prog) 169 169 = true := by kernel_rfl
theorem fine2 : rangeAll (rowFine Tryz.prog) 169 338 = true := by kernel_rfl
theorem fine3 : rangeAll (rowFine Tryz.prog) 170 507 = true := by kernel_rfl
theorem laidOut : laidOutB Tryz.prog = true := laid_of ntypes (range_all (a := 169) (b := 169) (c := 169) (d := 170) (by decide) fine0 fine1 fine2 fine3) (by kernel_rfl) (by kernel_rfl)
theorem j3 : mapsRowed Tryz.prog = true := by kernel_rfl
theorem j23 : (Rows.watchNobodyRow.plainKeys == Tryz.prog.plainKeys) = true := by kernel_rfl
end Go.Proofs.YtiidbfjcneaakaaGreatRDoor
