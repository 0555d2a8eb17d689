/- WatchNobody: the tied card. -/
import Derived.Test.YtiidbfjcneaakaaGreatRDoorWatchNobody
import Derived.Test.YtiidbfjcneaakaaGreatRDoorTie
import Derived.Test.YtiidbfjcneaakaaGreatRDoorCards
namespace Go.Proofs.YtiidbfjcneaakaaGreatRDoor
open Go
set_option maxRecDepth 100000

/-- no text that the call can come to starts a goroutine -/
theorem goes3 : Tryz.prog.goes 3 = false := by
  unfold Program.goes
  rw [clos_ok, unf]
  kernel_rfl
theorem goesBy_of {c : OpenClaim} {P : Program} {f : Nat} (hs : c.start = .entering) (hn : P.funcNamed c.func = some f) (hg : P.goes f = false) : false = c.goesBy P := by
  unfold OpenClaim.goesBy Program.goesAt Program.goesFrom
  rw [hs, hn]
  simp [hg]
theorem goesNot : false = Rows.watchNobodyRow.goesBy Tryz.prog := goesBy_of rfl namedFact goes3

theorem watchNobody_card : Rows.WatchNobodyCardSaid :=
  Claim7.holds_tied_plain_at .later [] [.data, .data, .data] true (true, "6ee158cd9ea85bab1a5287610d811534a03a564f131600e12e3ce850446db045") false
    watchNobody_holds (fun _ h => by cases h) (by kernel_rfl) (fun _ h => by cases h) watchNobody_row_tie rfl ⟨rfl, rfl⟩ (by kernel_rfl) rfl
    (fun f fn hf hfn => by
      obtain rfl : f = 3 := Option.some.inj (namedFact.symm.trans hf) |>.symm
      obtain rfl : fn = Tryz.f3 := (Option.some.inj (Tryz.func3.symm.trans hfn)).symm
      exact ⟨by kernel_rfl, fun j t ht => by
        rw [Tryz.params3] at ht
        have hm : t ∈ [33] := by simpa using Array.mem_of_getElem? ht
        have hall : ([33].all fun u => !Tryz.prog.wantsStandIn u) = true := by kernel_rfl
        exact (show Tryz.prog.wantsStandIn t = false by simpa using List.all_eq_true.1 hall t hm)⟩)
    goesNot
end Go.Proofs.YtiidbfjcneaakaaGreatRDoor
