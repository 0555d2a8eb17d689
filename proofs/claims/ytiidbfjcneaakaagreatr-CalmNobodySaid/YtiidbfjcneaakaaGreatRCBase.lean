/- CalmNobody: the number's remainder by five, as a fact for the evaluator. -/
import Derived.Test.YtiidbfjcneaakaaGreatRCFactsC
namespace Go.Proofs.YtiidbfjcneaakaaGreatR
open Go.ChangeShapes Go.WideShapes Go.ChangeAt Go.RowKit Go.AE
set_option maxRecDepth 100000
/-- the remainder by five is r -/
noncomputable def factRem (r : Int) : Nat → BinOp → IntKind → Int → Option AV := fun _ op k n => match op with
  | .rem => (match k with | .i64 => (match n with | .ofNat a => Bool.rec (motive := fun _ => Option AV) .none (some (.int .i64 r)) (Nat.beq a 5) | .negSucc _ => .none) | _ => .none)
  | _ => .none
noncomputable def envCalm (m r : Int) : Env :=
  { P := Tryz.prog, ty := T.ofList Tryz.prog.types.toList, fn := T.ofList (mapL fiOf Tryz.prog.funcs.toList), symv := fun _ => .int .i64 m, fact := factRem r, draws := true, quiets := true }
theorem zszLaw : zszOk Tryz.prog.types.toList = true := by kernel_rfl
theorem mixedLaw : Tryz.prog.follows .mixedOrders = true := by kernel_rfl
theorem rem5 {m r : Int} {P : Program} (h : m.tmod 5 = r) (t : TypeId) (w : World) : (binOp .rem t (.int .i64 m) (.int .i64 5)).run P w = .ok (.int .i64 r) w := by
  simp [binOp, Op.intDiv, h]
theorem tabCalm {m r : Int} (h : m.tmod 5 = r) : TabOk (envCalm m r) := tabOk_of rfl rfl rfl zszLaw mixedLaw fun i op k n x hx => by
  refine ⟨.i64, m, rfl, ?_⟩
  change factRem r i op k n = some x at hx
  unfold factRem at hx
  split at hx
  · split at hx
    · split at hx
      · rename_i a
        have hx : Bool.rec (motive := fun _ => Option AV) .none (some (.int .i64 r)) (Nat.beq a 5) = some x := hx
        cases ha : Nat.beq a 5 with
        | false => rw [ha] at hx; cases hx
        | true =>
          rw [ha] at hx; cases hx
          have := Nat.eq_of_beq_eq_true ha; subst this
          exact ⟨.int .i64 r, fun φ => by simp [VR], fun t w => rem5 h t w⟩
      · cases hx
    · cases hx
  · cases hx
end Go.Proofs.YtiidbfjcneaakaaGreatR
