/-
  DERIVED. GIVEN WITH THE SEED: THE CARDS: each row of YtiidbfjcneaakaaGreatRDoorRows.lean that lists a variable, with what it lists TIED to the program's text (the seventh form; the later family's looks); each row that meets fmt, with fmt's text TOLD by the authors' own Lean function (tested against real Go, not proved from fmt's source: count such statements apart). THE CARD IS WHAT COUNTS. Prove the row's statement (the work); the ties are given (YtiidbfjcneaakaaGreatRDoorTie.lean); close each card by the builder's one call (the guide's Derived/Test/ToyasCard.lean, 'card_holds'). Laid BY PROGRAM, IN A SANDBOX (cutbox-door.mjs). By AI agents, Wed Nov 11 2026. No macro, syntax, notation, axiom, sorry.
-/
import Derived.Test.YtiidbfjcneaakaaGreatRDoorRows
import GoSem.ClaimSeven
namespace Go.Proofs.YtiidbfjcneaakaaGreatRDoor
namespace Rows

/-- THE TIED CARD OF 'windroselaw38.WatchNobody'. -/
def watchNobodyCard : Claim7 := { stood := { row := watchNobodyRow, standIns := [], harness := (true, "6ee158cd9ea85bab1a5287610d811534a03a564f131600e12e3ce850446db045"), looks := false }, kinds := [], alts := [], laidByText := true, laidKinds := [.data, .data, .data], laidTests := true, laidLooks := .later }
def WatchNobodyCardSaid : Prop := Claim7.holds Tryz.pinned (.plain (OpenSpec.ofChange watchNobodySpec)) watchNobodyCard

/-- THE SECOND FORM's CARD OF 'windroselaw38.WatchNobody'. -/
def watchNobodyUptoCard : Claim7 := { stood := { row := watchNobodyUptoRow, standIns := [], harness := (true, "6ee158cd9ea85bab1a5287610d811534a03a564f131600e12e3ce850446db045"), looks := false }, kinds := [], alts := [], laidByText := true, laidKinds := [.data, .data, .data], laidTests := true, laidLooks := .later }
def WatchNobodyUptoCardSaid : Prop := Claim7.holds Tryz.pinned (.plain (OpenSpec.upto watchNobodySpec)) watchNobodyUptoCard
end Rows
end Go.Proofs.YtiidbfjcneaakaaGreatRDoor
