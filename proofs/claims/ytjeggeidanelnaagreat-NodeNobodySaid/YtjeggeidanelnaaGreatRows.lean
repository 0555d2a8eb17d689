/-
  No cell of these rows narrows 'for every input' (looked for: loops, veiled, ifaces, maps, wideKeys, modest, calm, conditions, laid).
  DERIVED. THE GIVEN ROWS OF THIS SEAT. 2 by the template 'for every input the law returns true; each argument reads behind the call as it read before'; 0 by the template 'total and deterministic' (their statements: YtjeggeidanelnaaGreatTotals.lean).
  GIVEN WITH THE SEED: the statements are not yours to turn. If you find one false, say at which input.
  Laid BY PROGRAM, IN A SANDBOX (cutbox-rows.mjs): the forced cells as the released guide's own fill.sh prints them over the translation dac8e1c2e909379b… (all of the seat's roots in one cut). By AI agents, Wed Nov 11 2026. No macro, syntax, notation, axiom, sorry.
-/
import Derived.Test.YtjeggeidanelnaaGreatChecked
import GoSem.Claim
import GoSem.ClaimJoined
import GoSem.ClaimMapViews
import Derived.JoinedTies
import Derived.KernelRfl
namespace Go.Proofs.YtjeggeidanelnaaGreat
/- THE CELL 'sum', in the pinned program and in every row, IS THE sha256 OF THE DUMP (.gsa) THAT YtjeggeidanelnaaGreatProg.lean LOADS. Nothing in Lean hashes anything: it is a label: what it is worth is what the hold of that sum in a sandbox is worth. -/
noncomputable def Tryz.pinned : Pinned := { name := "ytjeggeidanelnaagreat", sum := "dac8e1c2e909379b12f60e81dda04a4e6321b45dd4dfbd4fa4ac6439d2163028", checked := Tryz.checked }
namespace Rows
def none {H : Type} : Left H := { results := [], args := [] }

/-- 'windroselaw32.NodeKept': WHATEVER THE INPUT: true; the input reads as it did. -/
def nodeKeptSpec : ChangeSpec := { name := "nodeKept", fn := fun _ => fun
  | [d1, d2] => { results := [.lit (.bool true)], args := [d1, d2] }
  | _ => none }
def nodeKeptRow : OpenClaim := { program := "ytjeggeidanelnaagreat", sum := "dac8e1c2e909379b12f60e81dda04a4e6321b45dd4dfbd4fa4ac6439d2163028", func := "windrose/windroselaw32.NodeKept", spec := "nodeKept", inPlace := ["slices.overlaps[windrose/api.Node]", "slices.overlaps[windrose/api.Temp]", "slices.overlaps[windrose/api.Choice]"], unfollowed := true, recurses := true, apart := false }
def NodeKeptSaid : Prop := nodeKeptRow.holds Tryz.pinned (OpenSpec.ofChange nodeKeptSpec)

/-- ITS FALSE NEIGHBOUR: 'it returns false'. Refute it at one input. -/
def nodeKeptWrong : ChangeSpec := { name := "nodeKept", fn := fun _ => fun
  | [d1, d2] => { results := [.lit (.bool false)], args := [d1, d2] }
  | _ => none }
def NodeKeptWrongFalsely : Prop := nodeKeptRow.holds Tryz.pinned (OpenSpec.ofChange nodeKeptWrong)

/-- 'windroselaw32.NodeNobody': WHATEVER THE INPUT: true; the input reads as it did. -/
def nodeNobodySpec : ChangeSpec := { name := "nodeNobody", fn := fun _ => fun
  | [d] => { results := [.lit (.bool true)], args := [d] }
  | _ => none }
def nodeNobodyRow : OpenClaim := { program := "ytjeggeidanelnaagreat", sum := "dac8e1c2e909379b12f60e81dda04a4e6321b45dd4dfbd4fa4ac6439d2163028", func := "windrose/windroselaw32.NodeNobody", spec := "nodeNobody", inPlace := ["slices.overlaps[windrose/api.Choice]", "internal/bytealg.IndexByteString", "internal/bytealg.IndexString", "internal/bytealg.abigen_runtime_cmpstring", "internal/abi.NoEscape", "slices.overlaps[windrose/api.Line]", "slices.overlaps[windrose/api.Sample]", "slices.overlaps[windrose/api.Done]", "slices.overlaps[windrose/api.Node]", "slices.overlaps[windrose/api.Temp]"], unfollowed := true, recurses := true, named := ["internal/bytealg.MaxLen"], apart := false }
def NodeNobodySaid : Prop := nodeNobodyRow.holds Tryz.pinned (OpenSpec.ofChange nodeNobodySpec)

/-- ITS FALSE NEIGHBOUR: 'it returns false'. Refute it at one input. -/
def nodeNobodyWrong : ChangeSpec := { name := "nodeNobody", fn := fun _ => fun
  | [d] => { results := [.lit (.bool false)], args := [d] }
  | _ => none }
def NodeNobodyWrongFalsely : Prop := nodeNobodyRow.holds Tryz.pinned (OpenSpec.ofChange nodeNobodyWrong)

/- THE SECOND FORM. 'bulk': how many values and letters a reading holds, each counted each time it is reached (what is shared counts as often as it is met; a slice's spare places count too). A statement '..UptoSaid' is the law's where the arguments, and the package variables that the reading takes, are together of bulk at most 1048576: NARROWER than '..Said'. Prove '..Said' where nothing that the law and all that it calls make is longer than what came in: it says more and counts as full. Else prove '..UptoSaid'. A law counts once. -/
mutual
def uptoBulk {H : Type} : DataW H → Nat
  | .lit (.string bytes) => bytes.length + 1
  | .lit _ => 1
  | .nil => 1
  | .ptr d => uptoBulk d + 1
  | .slice elems spare => uptoBulkAll elems + uptoBulkAll spare + 1
  | .agg parts => uptoBulkAll parts + 1
  | .iface _ d => uptoBulk d + 1
  | .map entries => uptoBulkEntries entries + 1
  | .held _ => 1
def uptoBulkAll {H : Type} : List (DataW H) → Nat
  | [] => 0
  | d :: r => uptoBulk d + uptoBulkAll r
def uptoBulkEntries {H : Type} : List (Lit × DataW H) → Nat
  | [] => 0
  | x :: r => uptoBulkEntry x + uptoBulkEntries r
def uptoBulkEntry {H : Type} : Lit × DataW H → Nat
  | (.string bytes, d) => bytes.length + uptoBulk d + 1
  | (_, d) => uptoBulk d + 1
 end
def uptoSmall : (H : Type) → List (DataW H) → Bool := fun _ ds => decide (uptoBulkAll ds ≤ 1048576)
def OpenSpec.upto (s : _root_.Go.ChangeSpec) : _root_.Go.OpenSpec := { _root_.Go.OpenSpec.ofChange s with cond := some uptoSmall }

/-- 'windroselaw32.NodeKept', WHERE WHAT IT READS IS OF BULK AT MOST 1048576: true; the input reads as it did. -/
def nodeKeptUptoRow : OpenClaim := { program := "ytjeggeidanelnaagreat", sum := "dac8e1c2e909379b12f60e81dda04a4e6321b45dd4dfbd4fa4ac6439d2163028", func := "windrose/windroselaw32.NodeKept", spec := "nodeKept", inPlace := ["slices.overlaps[windrose/api.Node]", "slices.overlaps[windrose/api.Temp]", "slices.overlaps[windrose/api.Choice]"], unfollowed := true, recurses := true, apart := false, narrowed := true }
def NodeKeptUptoSaid : Prop := nodeKeptUptoRow.holds Tryz.pinned (OpenSpec.upto nodeKeptSpec)

/-- 'windroselaw32.NodeNobody', WHERE WHAT IT READS IS OF BULK AT MOST 1048576: true; the input reads as it did. -/
def nodeNobodyUptoRow : OpenClaim := { program := "ytjeggeidanelnaagreat", sum := "dac8e1c2e909379b12f60e81dda04a4e6321b45dd4dfbd4fa4ac6439d2163028", func := "windrose/windroselaw32.NodeNobody", spec := "nodeNobody", inPlace := ["slices.overlaps[windrose/api.Choice]", "internal/bytealg.IndexByteString", "internal/bytealg.IndexString", "internal/bytealg.abigen_runtime_cmpstring", "internal/abi.NoEscape", "slices.overlaps[windrose/api.Line]", "slices.overlaps[windrose/api.Sample]", "slices.overlaps[windrose/api.Done]", "slices.overlaps[windrose/api.Node]", "slices.overlaps[windrose/api.Temp]"], unfollowed := true, recurses := true, named := ["internal/bytealg.MaxLen"], apart := false, narrowed := true }
def NodeNobodyUptoSaid : Prop := nodeNobodyUptoRow.holds Tryz.pinned (OpenSpec.upto nodeNobodySpec)

end Rows
end Go.Proofs.YtjeggeidanelnaaGreat
