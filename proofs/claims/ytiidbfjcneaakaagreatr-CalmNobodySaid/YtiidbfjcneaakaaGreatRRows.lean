/-
  No cell of these rows narrows 'for every input' (looked for: loops, veiled, ifaces, maps, wideKeys, modest, calm, conditions, laid).
  DERIVED. THE GIVEN ROWS OF THIS SEAT. 2 by the template 'for every input the law returns true; each argument reads behind the call as it read before'; 0 by the template 'total and deterministic' (their statements: YtiidbfjcneaakaaGreatRTotals.lean).
  GIVEN WITH THE SEED: the statements are not yours to turn. If you find one false, say at which input.
  Laid BY PROGRAM, IN A SANDBOX (cutbox-rows.mjs): the forced cells as the released guide's own fill.sh prints them over the translation 4cd96ab264ad4801… (all of the seat's roots in one cut). By AI agents, Wed Nov 11 2026. No macro, syntax, notation, axiom, sorry.
-/
import Derived.Test.YtiidbfjcneaakaaGreatRChecked
import GoSem.Claim
import GoSem.ClaimJoined
import GoSem.ClaimMapViews
import Derived.JoinedTies
import Derived.KernelRfl
namespace Go.Proofs.YtiidbfjcneaakaaGreatR
/- THE CELL 'sum', in the pinned program and in every row, IS THE sha256 OF THE DUMP (.gsa) THAT YtiidbfjcneaakaaGreatRProg.lean LOADS. Nothing in Lean hashes anything: it is a label: what it is worth is what the hold of that sum in a sandbox is worth. -/
noncomputable def Tryz.pinned : Pinned := { name := "ytiidbfjcneaakaagreatr", sum := "4cd96ab264ad4801fb0eb1767faadfd7f748e6ab689dfd3c776560fcfce092a6", checked := Tryz.checked }
namespace Rows
def none {H : Type} : Left H := { results := [], args := [] }

/-- 'windroselaw37.WorldNobody': WHATEVER THE INPUT: true; the input reads as it did. -/
def worldNobodySpec : ChangeSpec := { name := "worldNobody", fn := fun _ => fun
  | [d] => { results := [.lit (.bool true)], args := [d] }
  | _ => none }
def worldNobodyRow : OpenClaim := { program := "ytiidbfjcneaakaagreatr", sum := "4cd96ab264ad4801fb0eb1767faadfd7f748e6ab689dfd3c776560fcfce092a6", func := "windrose/windroselaw37.WorldNobody", spec := "worldNobody", inPlace := ["slices.overlaps[windrose/api.Node]", "slices.overlaps[windrose/api.Temp]", "slices.overlaps[windrose/api.Choice]", "internal/bytealg.IndexByteString", "internal/bytealg.IndexString", "internal/bytealg.abigen_runtime_cmpstring", "internal/abi.NoEscape", "slices.overlaps[windrose/api.Line]", "slices.overlaps[windrose/api.Sample]", "slices.overlaps[windrose/api.Done]"], unfollowed := true, recurses := true, named := ["internal/bytealg.MaxLen"], apart := false }
def WorldNobodySaid : Prop := worldNobodyRow.holds Tryz.pinned (OpenSpec.ofChange worldNobodySpec)

/-- ITS FALSE NEIGHBOUR: 'it returns false'. Refute it at one input. -/
def worldNobodyWrong : ChangeSpec := { name := "worldNobody", fn := fun _ => fun
  | [d] => { results := [.lit (.bool false)], args := [d] }
  | _ => none }
def WorldNobodyWrongFalsely : Prop := worldNobodyRow.holds Tryz.pinned (OpenSpec.ofChange worldNobodyWrong)

/-- 'windroselaw39.CalmNobody': WHATEVER THE INPUT: true; the input reads as it did. -/
def calmNobodySpec : ChangeSpec := { name := "calmNobody", fn := fun _ => fun
  | [d] => { results := [.lit (.bool true)], args := [d] }
  | _ => none }
def calmNobodyRow : OpenClaim := { program := "ytiidbfjcneaakaagreatr", sum := "4cd96ab264ad4801fb0eb1767faadfd7f748e6ab689dfd3c776560fcfce092a6", func := "windrose/windroselaw39.CalmNobody", spec := "calmNobody", inPlace := ["slices.overlaps[windrose/api.Node]", "slices.overlaps[windrose/api.Temp]", "slices.overlaps[windrose/api.Choice]", "internal/bytealg.IndexByteString", "internal/bytealg.IndexString", "internal/bytealg.abigen_runtime_cmpstring", "internal/abi.NoEscape", "slices.overlaps[windrose/api.Line]", "slices.overlaps[windrose/api.Sample]", "slices.overlaps[windrose/api.Done]"], unfollowed := true, recurses := true, named := ["internal/bytealg.MaxLen"], apart := false }
def CalmNobodySaid : Prop := calmNobodyRow.holds Tryz.pinned (OpenSpec.ofChange calmNobodySpec)

/-- ITS FALSE NEIGHBOUR: 'it returns false'. Refute it at one input. -/
def calmNobodyWrong : ChangeSpec := { name := "calmNobody", fn := fun _ => fun
  | [d] => { results := [.lit (.bool false)], args := [d] }
  | _ => none }
def CalmNobodyWrongFalsely : Prop := calmNobodyRow.holds Tryz.pinned (OpenSpec.ofChange calmNobodyWrong)

/- THE SECOND FORM. 'bulk': how many values and letters a reading holds, each counted each time it is reached (what is shared counts as often as it is met; a slice's spare places count too). A statement '..UptoSaid' is the law's where the arguments, and the package variables that the reading takes, are together of bulk at most 1048576: NARROWER than '..Said'. Prove '..Said' where nothing that the law and all that it calls make is longer than what came in: it says more and counts as full. Else prove '..UptoSaid'. A law counts once. -/
mutual
def uptoBulk {H : Type} : DataW H → Nat
  | .lit (.string bytes) => bytes.length + 1
  | .lit _ => 1
  | .nil => 1
  | .ptr d => uptoBulk d + 1
  | .slice elems spare => uptoBulkAll elems + uptoBulkAll spare + 1
  | .agg parts => uptoBulkAll parts + 1
  | .iface _ d => uptoBulk d + 1
  | .map entries => uptoBulkEntries entries + 1
  | .held _ => 1
def uptoBulkAll {H : Type} : List (DataW H) → Nat
  | [] => 0
  | d :: r => uptoBulk d + uptoBulkAll r
def uptoBulkEntries {H : Type} : List (Lit × DataW H) → Nat
  | [] => 0
  | x :: r => uptoBulkEntry x + uptoBulkEntries r
def uptoBulkEntry {H : Type} : Lit × DataW H → Nat
  | (.string bytes, d) => bytes.length + uptoBulk d + 1
  | (_, d) => uptoBulk d + 1
 end
def uptoSmall : (H : Type) → List (DataW H) → Bool := fun _ ds => decide (uptoBulkAll ds ≤ 1048576)
def OpenSpec.upto (s : _root_.Go.ChangeSpec) : _root_.Go.OpenSpec := { _root_.Go.OpenSpec.ofChange s with cond := some uptoSmall }

/-- 'windroselaw37.WorldNobody', WHERE WHAT IT READS IS OF BULK AT MOST 1048576: true; the input reads as it did. -/
def worldNobodyUptoRow : OpenClaim := { program := "ytiidbfjcneaakaagreatr", sum := "4cd96ab264ad4801fb0eb1767faadfd7f748e6ab689dfd3c776560fcfce092a6", func := "windrose/windroselaw37.WorldNobody", spec := "worldNobody", inPlace := ["slices.overlaps[windrose/api.Node]", "slices.overlaps[windrose/api.Temp]", "slices.overlaps[windrose/api.Choice]", "internal/bytealg.IndexByteString", "internal/bytealg.IndexString", "internal/bytealg.abigen_runtime_cmpstring", "internal/abi.NoEscape", "slices.overlaps[windrose/api.Line]", "slices.overlaps[windrose/api.Sample]", "slices.overlaps[windrose/api.Done]"], unfollowed := true, recurses := true, named := ["internal/bytealg.MaxLen"], apart := false, narrowed := true }
def WorldNobodyUptoSaid : Prop := worldNobodyUptoRow.holds Tryz.pinned (OpenSpec.upto worldNobodySpec)

/-- 'windroselaw39.CalmNobody', WHERE WHAT IT READS IS OF BULK AT MOST 1048576: true; the input reads as it did. -/
def calmNobodyUptoRow : OpenClaim := { program := "ytiidbfjcneaakaagreatr", sum := "4cd96ab264ad4801fb0eb1767faadfd7f748e6ab689dfd3c776560fcfce092a6", func := "windrose/windroselaw39.CalmNobody", spec := "calmNobody", inPlace := ["slices.overlaps[windrose/api.Node]", "slices.overlaps[windrose/api.Temp]", "slices.overlaps[windrose/api.Choice]", "internal/bytealg.IndexByteString", "internal/bytealg.IndexString", "internal/bytealg.abigen_runtime_cmpstring", "internal/abi.NoEscape", "slices.overlaps[windrose/api.Line]", "slices.overlaps[windrose/api.Sample]", "slices.overlaps[windrose/api.Done]"], unfollowed := true, recurses := true, named := ["internal/bytealg.MaxLen"], apart := false, narrowed := true }
def CalmNobodyUptoSaid : Prop := calmNobodyUptoRow.holds Tryz.pinned (OpenSpec.upto calmNobodySpec)

end Rows
end Go.Proofs.YtiidbfjcneaakaaGreatR
