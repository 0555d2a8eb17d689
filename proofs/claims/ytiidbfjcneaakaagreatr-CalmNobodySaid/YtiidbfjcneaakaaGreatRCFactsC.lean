/- The closed facts of the row of CalmNobody. -/
import Derived.Test.YtiidbfjcneaakaaGreatRCFactsA
import Derived.Test.YtiidbfjcneaakaaGreatRCFactsB
namespace Go.Proofs.YtiidbfjcneaakaaGreatR
open Go.AE
set_option maxRecDepth 100000

theorem j1 : Rows.calmNobodyRow.wf (OpenSpec.ofChange Rows.calmNobodySpec) = true := by kernel_rfl
theorem j4 : Tryz.f4.params.all (Tryz.prog.readableRec ·) = true := by kernel_rfl
theorem j5 : namedTie Tryz.prog Rows.calmNobodyRow.named Rows.calmNobodySpec.vars = true := by kernel_rfl
theorem j6 : (Rows.calmNobodyRow.stops == []) = true := by kernel_rfl
theorem j7 : (Tryz.prog.stops == []) = true := by kernel_rfl
theorem j8 : (Rows.calmNobodyRow.knobs == []) = true := by kernel_rfl
theorem j9 : (Tryz.prog.stopKnobs == []) = true := by kernel_rfl
theorem j14 : (Rows.calmNobodyRow.maps == (Tryz.f4.params.toList ++ Rows.calmNobodySpec.plain.varTypes Tryz.prog).any (Tryz.prog.mapsRec ·)) = true := by kernel_rfl
theorem j15 : (Rows.calmNobodyRow.ifaces == (Tryz.f4.params.toList ++ Rows.calmNobodySpec.plain.varTypes Tryz.prog).any (Tryz.prog.ifacesRec ·)) = true := by kernel_rfl
theorem j16 : (Rows.calmNobodyRow.mapsOut == Tryz.prog.mapsAmong Tryz.f4.resultTypes.toList) = true := by kernel_rfl
theorem j17 : (Rows.calmNobodyRow.loops == (Tryz.f4.params.toList ++ Rows.calmNobodySpec.plain.varTypes Tryz.prog).any (Tryz.prog.loopsFrom ·)) = true := by kernel_rfl
theorem j18 : (Rows.calmNobodyRow.wideKeys == (Tryz.f4.params.toList ++ Rows.calmNobodySpec.plain.varTypes Tryz.prog ++ Tryz.f4.resultTypes.toList).any (Tryz.prog.wideKeysFrom ·)) = true := by kernel_rfl
theorem j19 : Rows.calmNobodySpec.vars.all (Tryz.prog.varReadable ·) = true := by kernel_rfl
theorem j20 : Tryz.f4.resultTypes.all (fun t => Tryz.prog.readableRec t && decide (t < Tryz.prog.types.size)) = true := by kernel_rfl
theorem j21 : (Rows.calmNobodyRow.ifacesOut == Tryz.f4.resultTypes.toList.any (Tryz.prog.ifacesRec ·)) = true := by kernel_rfl
theorem j22 : (Rows.calmNobodyRow.loopsOut == Tryz.f4.resultTypes.toList.any (Tryz.prog.loopsFrom ·)) = true := by kernel_rfl
theorem j24 : Rows.calmNobodyRow.shortTexts.isNone = true := by kernel_rfl
theorem j25 : Tryz.prog.stopsHeard = true := by kernel_rfl
theorem j26 : Tryz.prog.mayEnter = true := by kernel_rfl
theorem j27 : (Rows.calmNobodyRow.lifted == Tryz.prog.liftsFinal) = true := by kernel_rfl
theorem j28 : (Tryz.prog.make == some Rows.calmNobodyRow.make) = true := by kernel_rfl
theorem j29 : (Rows.calmNobodyRow.kinds == (if Rows.calmNobodyRow.domain.isEmpty then [] else Tryz.f4.params.toList.map fun t => match Tryz.prog.underlying t with | some (.int k) => some k | _ => none)) = true := by kernel_rfl
theorem j30 : (Rows.calmNobodyRow.pinned == Rows.calmNobodyRow.pinnedBy) = true := by kernel_rfl
theorem j31 : (Rows.calmNobodyRow.veiled == (Tryz.f4.params.toList ++ Rows.calmNobodySpec.plain.varTypes Tryz.prog ++ Tryz.f4.resultTypes.toList).any (Tryz.prog.veiledRec ·)) = true := by kernel_rfl
theorem j32 : Rows.calmNobodyRow.veiledFits Tryz.prog Tryz.f4.params.toList (Tryz.f4.params.toList ++ Rows.calmNobodySpec.plain.varTypes Tryz.prog ++ Tryz.f4.resultTypes.toList) = true := by kernel_rfl
theorem closedFacts : joinedFacts Tryz.prog 4 Tryz.f4 Rows.calmNobodySpec Rows.calmNobodyRow = true := by
  unfold joinedFacts
  simp only [Bool.and_eq_true]
  exact ⟨⟨⟨⟨⟨⟨⟨⟨⟨⟨⟨⟨⟨⟨⟨⟨⟨⟨⟨⟨⟨⟨⟨⟨⟨⟨⟨⟨⟨⟨⟨j1, laidOut⟩, j3⟩, j4⟩, j5⟩, j6⟩, j7⟩, j8⟩, j9⟩, j10⟩, j11⟩, j12⟩, j13⟩, j14⟩, j15⟩, j16⟩, j17⟩, j18⟩, j19⟩, j20⟩, j21⟩, j22⟩, j23⟩, j24⟩, j25⟩, j26⟩, j27⟩, j28⟩, j29⟩, j30⟩, j31⟩, j32⟩
theorem namedFact : Tryz.prog.funcNamed Rows.calmNobodyRow.func = some 4 := by kernel_rfl
end Go.Proofs.YtiidbfjcneaakaaGreatR
