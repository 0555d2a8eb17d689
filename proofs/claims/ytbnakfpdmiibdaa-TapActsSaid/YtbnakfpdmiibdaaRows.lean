/-
  No cell of these rows narrows 'for every input' (looked for: loops, veiled, ifaces, maps, wideKeys, modest, calm, conditions, laid).
  DERIVED. THE GIVEN ROWS OF THIS SEAT. 4 by the template 'for every input the law returns true; each argument reads behind the call as it read before'; 0 by the template 'total and deterministic' (their statements: YtbnakfpdmiibdaaTotals.lean).
  GIVEN WITH THE SEED: the statements are not yours to turn. If you find one false, say at which input.
  Laid BY PROGRAM, IN A SANDBOX (cutbox-rows.mjs): the forced cells as the released guide's own fill.sh prints them over the translation eae018296ad1757e… (all of the seat's roots in one cut). By AI agents, Wed Nov 11 2026. No macro, syntax, notation, axiom, sorry.
-/
import Derived.Test.YtbnakfpdmiibdaaChecked
import GoSem.Claim
import GoSem.ClaimJoined
import GoSem.ClaimMapViews
import Derived.JoinedTies
import Derived.KernelRfl
namespace Go.Proofs.Ytbnakfpdmiibdaa
/- THE CELL 'sum', in the pinned program and in every row, IS THE sha256 OF THE DUMP (.gsa) THAT YtbnakfpdmiibdaaProg.lean LOADS. Nothing in Lean hashes anything: it is a label: what it is worth is what the hold of that sum in a sandbox is worth. -/
noncomputable def Try.pinned : Pinned := { name := "ytbnakfpdmiibdaa", sum := "eae018296ad1757e52e9697353a3d3fb97bc72c8d76004245e2d1fd7098a873f", checked := Try.checked }
namespace Rows
def none {H : Type} : Left H := { results := [], args := [] }

/-- 'windroselaw15.TapFair': WHATEVER THE INPUT: true; the input reads as it did. -/
def tapFairSpec : ChangeSpec := { name := "tapFair", fn := fun _ => fun
  | [d1, d2] => { results := [.lit (.bool true)], args := [d1, d2] }
  | _ => none }
def tapFairRow : OpenClaim := { program := "ytbnakfpdmiibdaa", sum := "eae018296ad1757e52e9697353a3d3fb97bc72c8d76004245e2d1fd7098a873f", func := "windrose/windroselaw15.TapFair", spec := "tapFair", apart := false }
def TapFairSaid : Prop := tapFairRow.holds Try.pinned (OpenSpec.ofChange tapFairSpec)

/-- ITS FALSE NEIGHBOUR: 'it returns false'. Refute it at one input. -/
def tapFairWrong : ChangeSpec := { name := "tapFair", fn := fun _ => fun
  | [d1, d2] => { results := [.lit (.bool false)], args := [d1, d2] }
  | _ => none }
def TapFairWrongFalsely : Prop := tapFairRow.holds Try.pinned (OpenSpec.ofChange tapFairWrong)

/-- 'windroselaw15.TapSpreads': WHATEVER THE INPUT: true; the input reads as it did. -/
def tapSpreadsSpec : ChangeSpec := { name := "tapSpreads", fn := fun _ => fun
  | [d1, d2, d3] => { results := [.lit (.bool true)], args := [d1, d2, d3] }
  | _ => none }
def tapSpreadsRow : OpenClaim := { program := "ytbnakfpdmiibdaa", sum := "eae018296ad1757e52e9697353a3d3fb97bc72c8d76004245e2d1fd7098a873f", func := "windrose/windroselaw15.TapSpreads", spec := "tapSpreads", apart := false }
def TapSpreadsSaid : Prop := tapSpreadsRow.holds Try.pinned (OpenSpec.ofChange tapSpreadsSpec)

/-- ITS FALSE NEIGHBOUR: 'it returns false'. Refute it at one input. -/
def tapSpreadsWrong : ChangeSpec := { name := "tapSpreads", fn := fun _ => fun
  | [d1, d2, d3] => { results := [.lit (.bool false)], args := [d1, d2, d3] }
  | _ => none }
def TapSpreadsWrongFalsely : Prop := tapSpreadsRow.holds Try.pinned (OpenSpec.ofChange tapSpreadsWrong)

/-- 'windroselaw15.TapActs': WHATEVER THE INPUT: true; the input reads as it did. -/
def tapActsSpec : ChangeSpec := { name := "tapActs", fn := fun _ => fun
  | [d1, d2, d3] => { results := [.lit (.bool true)], args := [d1, d2, d3] }
  | _ => none }
def tapActsRow : OpenClaim := { program := "ytbnakfpdmiibdaa", sum := "eae018296ad1757e52e9697353a3d3fb97bc72c8d76004245e2d1fd7098a873f", func := "windrose/windroselaw15.TapActs", spec := "tapActs", apart := false }
def TapActsSaid : Prop := tapActsRow.holds Try.pinned (OpenSpec.ofChange tapActsSpec)

/-- ITS FALSE NEIGHBOUR: 'it returns false'. Refute it at one input. -/
def tapActsWrong : ChangeSpec := { name := "tapActs", fn := fun _ => fun
  | [d1, d2, d3] => { results := [.lit (.bool false)], args := [d1, d2, d3] }
  | _ => none }
def TapActsWrongFalsely : Prop := tapActsRow.holds Try.pinned (OpenSpec.ofChange tapActsWrong)

/-- 'windroselaw15.TapNobody': WHATEVER THE INPUT: true; the input reads as it did. -/
def tapNobodySpec : ChangeSpec := { name := "tapNobody", fn := fun _ => fun
  | [d] => { results := [.lit (.bool true)], args := [d] }
  | _ => none }
def tapNobodyRow : OpenClaim := { program := "ytbnakfpdmiibdaa", sum := "eae018296ad1757e52e9697353a3d3fb97bc72c8d76004245e2d1fd7098a873f", func := "windrose/windroselaw15.TapNobody", spec := "tapNobody", apart := false }
def TapNobodySaid : Prop := tapNobodyRow.holds Try.pinned (OpenSpec.ofChange tapNobodySpec)

/-- ITS FALSE NEIGHBOUR: 'it returns false'. Refute it at one input. -/
def tapNobodyWrong : ChangeSpec := { name := "tapNobody", fn := fun _ => fun
  | [d] => { results := [.lit (.bool false)], args := [d] }
  | _ => none }
def TapNobodyWrongFalsely : Prop := tapNobodyRow.holds Try.pinned (OpenSpec.ofChange tapNobodyWrong)

/- THE SECOND FORM. 'bulk': how many values and letters a reading holds, each counted each time it is reached (what is shared counts as often as it is met; a slice's spare places count too). A statement '..UptoSaid' is the law's where the arguments, and the package variables that the reading takes, are together of bulk at most 1048576: NARROWER than '..Said'. Prove '..Said' where nothing that the law and all that it calls make is longer than what came in: it says more and counts as full. Else prove '..UptoSaid'. A law counts once. -/
mutual
def uptoBulk {H : Type} : DataW H → Nat
  | .lit (.string bytes) => bytes.length + 1
  | .lit _ => 1
  | .nil => 1
  | .ptr d => uptoBulk d + 1
  | .slice elems spare => uptoBulkAll elems + uptoBulkAll spare + 1
  | .agg parts => uptoBulkAll parts + 1
  | .iface _ d => uptoBulk d + 1
  | .map entries => uptoBulkEntries entries + 1
  | .held _ => 1
def uptoBulkAll {H : Type} : List (DataW H) → Nat
  | [] => 0
  | d :: r => uptoBulk d + uptoBulkAll r
def uptoBulkEntries {H : Type} : List (Lit × DataW H) → Nat
  | [] => 0
  | x :: r => uptoBulkEntry x + uptoBulkEntries r
def uptoBulkEntry {H : Type} : Lit × DataW H → Nat
  | (.string bytes, d) => bytes.length + uptoBulk d + 1
  | (_, d) => uptoBulk d + 1
 end
def uptoSmall : (H : Type) → List (DataW H) → Bool := fun _ ds => decide (uptoBulkAll ds ≤ 1048576)
def OpenSpec.upto (s : _root_.Go.ChangeSpec) : _root_.Go.OpenSpec := { _root_.Go.OpenSpec.ofChange s with cond := some uptoSmall }

/-- 'windroselaw15.TapFair', WHERE WHAT IT READS IS OF BULK AT MOST 1048576: true; the input reads as it did. -/
def tapFairUptoRow : OpenClaim := { program := "ytbnakfpdmiibdaa", sum := "eae018296ad1757e52e9697353a3d3fb97bc72c8d76004245e2d1fd7098a873f", func := "windrose/windroselaw15.TapFair", spec := "tapFair", apart := false, narrowed := true }
def TapFairUptoSaid : Prop := tapFairUptoRow.holds Try.pinned (OpenSpec.upto tapFairSpec)

/-- 'windroselaw15.TapSpreads', WHERE WHAT IT READS IS OF BULK AT MOST 1048576: true; the input reads as it did. -/
def tapSpreadsUptoRow : OpenClaim := { program := "ytbnakfpdmiibdaa", sum := "eae018296ad1757e52e9697353a3d3fb97bc72c8d76004245e2d1fd7098a873f", func := "windrose/windroselaw15.TapSpreads", spec := "tapSpreads", apart := false, narrowed := true }
def TapSpreadsUptoSaid : Prop := tapSpreadsUptoRow.holds Try.pinned (OpenSpec.upto tapSpreadsSpec)

/-- 'windroselaw15.TapActs', WHERE WHAT IT READS IS OF BULK AT MOST 1048576: true; the input reads as it did. -/
def tapActsUptoRow : OpenClaim := { program := "ytbnakfpdmiibdaa", sum := "eae018296ad1757e52e9697353a3d3fb97bc72c8d76004245e2d1fd7098a873f", func := "windrose/windroselaw15.TapActs", spec := "tapActs", apart := false, narrowed := true }
def TapActsUptoSaid : Prop := tapActsUptoRow.holds Try.pinned (OpenSpec.upto tapActsSpec)

/-- 'windroselaw15.TapNobody', WHERE WHAT IT READS IS OF BULK AT MOST 1048576: true; the input reads as it did. -/
def tapNobodyUptoRow : OpenClaim := { program := "ytbnakfpdmiibdaa", sum := "eae018296ad1757e52e9697353a3d3fb97bc72c8d76004245e2d1fd7098a873f", func := "windrose/windroselaw15.TapNobody", spec := "tapNobody", apart := false, narrowed := true }
def TapNobodyUptoSaid : Prop := tapNobodyUptoRow.holds Try.pinned (OpenSpec.upto tapNobodySpec)

end Rows
end Go.Proofs.Ytbnakfpdmiibdaa
