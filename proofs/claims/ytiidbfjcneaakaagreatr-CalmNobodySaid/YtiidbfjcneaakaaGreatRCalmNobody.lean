/- CalmNobody answers true whatever its argument is: no condition. -/
import Derived.Test.YtiidbfjcneaakaaGreatRCRunN4
import Derived.Test.YtiidbfjcneaakaaGreatRCRunN3
import Derived.Test.YtiidbfjcneaakaaGreatRCRunN2
import Derived.Test.YtiidbfjcneaakaaGreatRCRunN1
import Derived.Test.YtiidbfjcneaakaaGreatRCRunP0
import Derived.Test.YtiidbfjcneaakaaGreatRCRunP1
import Derived.Test.YtiidbfjcneaakaaGreatRCRunP2
import Derived.Test.YtiidbfjcneaakaaGreatRCRunP3
import Derived.Test.YtiidbfjcneaakaaGreatRCRunP4
namespace Go.Proofs.YtiidbfjcneaakaaGreatR
open Go.ChangeShapes Go.WideShapes Go.ChangeAt Go.RowKit Go.AE
set_option maxRecDepth 100000

theorem own : ownKnob Tryz.prog.godebug = none := by kernel_rfl
theorem walk (m : Int) (W : World) : Calls Tryz.prog 4 #[.int .i64 m] W fun e W' => e = .returned (.bool true) ∧ Below W.heap.size W W' := by
  have key : ∀ r : Int, m.tmod 5 = r → isOk (law (envCalm m r) 4000 4 [.sym 0]) = true → Calls Tryz.prog 4 #[.int .i64 m] W fun e W' => e = .returned (.bool true) ∧ Below W.heap.size W W' := fun r h hr =>
    law_calls (E := envCalm m r) (tabCalm h) (ev_all (tabCalm h) 4000) hr (fun φ => by simp [VRL, VR, envCalm]) W
  have h1 : -5 < m.tmod 5 := by have := Int.lt_tmod_of_pos m (show (0 : Int) < 5 by omega); omega
  have h2 : m.tmod 5 < 5 := Int.tmod_lt_of_pos m (by omega)
  have h3 : m.tmod 5 = -4 ∨ m.tmod 5 = -3 ∨ m.tmod 5 = -2 ∨ m.tmod 5 = -1 ∨ m.tmod 5 = 0 ∨ m.tmod 5 = 1 ∨ m.tmod 5 = 2 ∨ m.tmod 5 = 3 ∨ m.tmod 5 = 4 := by omega
  rcases h3 with h | h | h | h | h | h | h | h | h
  · exact key _ h (runN4 m)
  · exact key _ h (runN3 m)
  · exact key _ h (runN2 m)
  · exact key _ h (runN1 m)
  · exact key _ h (runP0 m)
  · exact key _ h (runP1 m)
  · exact key _ h (runP2 m)
  · exact key _ h (runP3 m)
  · exact key _ h (runP4 m)

theorem reads : ∀ t ∈ Tryz.f4.params.toList, Tryz.prog.readableRec t = true ∧ t < Tryz.prog.types.size := by
  rw [Tryz.params4]
  intro t ht
  simp at ht; subst ht
  exact ⟨by kernel_rfl, of_decide_eq_true (by kernel_rfl)⟩

theorem lifted (os : Os) (started : os.Started) (H : Type) (enc : TypeId × Value → H) :
    ReturnsInHanded {} Tryz.checked os 4 .any (Rows.calmNobodySpec.pre6 enc Tryz.prog Tryz.f4 Rows.calmNobodyRow.domain false) (Rows.calmNobodySpec.post enc Tryz.prog Tryz.f4 false true false false) := by
  refine returnsInHanded_of_change (C := Tryz.checked) own started (by kernel_rfl) Tryz.func4
    (ChangeSpec.witness6 (enc := enc) (C := Tryz.checked) false ⟨#[], #[.int .i64 0], []⟩ 8 (by kernel_rfl) (by kernel_rfl) (by kernel_rfl) (by kernel_rfl)) ?_
  intro W base args ds gs before hval0 hW _ _
  have hval : ∀ (j : Nat) t v, Tryz.f4.params[j]? = some t → args[j]? = some v → Value.okWide Tryz.prog W .any base t v := hval0
  have hW1 := hW
  obtain ⟨p, q, hA0, hV, rfl, hfz, hnd⟩ := hW1
  have hA : DataW.TrodAll enc Tryz.prog W 0 (fun _ => true) true Tryz.f4.params.toList args.toList ds p := hA0
  rw [Tryz.params4] at hA hval
  obtain ⟨v0, vs0, d0, ds0, p0, q0, hargs, rfl, rfl, h0, r0⟩ := trodAll_cons hA
  obtain ⟨rfl, rfl, rfl⟩ := trodAll_nil r0
  obtain rfl : args = #[v0] := by cases args; simp_all
  obtain ⟨a0, rfl, rfl, rfl, w0⟩ := open_int Tryz.underlying3 (hval 0 3 v0 rfl rfl) h0
  exact contract_of_law hW rfl rfl laidOut reads (by kernel_rfl) Tryz.underlying4 (walk a0 W)

theorem calmNobody_holds : Rows.CalmNobodySaid :=
  OpenClaim.holds_of_wide 4 Tryz.f4 rfl rfl rfl rfl rfl rfl rfl ⟨rfl, rfl, rfl, rfl, rfl⟩ rfl rfl rfl rfl rfl namedFact Tryz.func4 closedFacts
    (of_decide_eq_true (by kernel_rfl)) (by unfold Func.isWrapper; first | (rw [if_pos (by decide +kernel)]; kernel_rfl) | (rw [if_neg (by decide +kernel)]; exact ⟨rfl, rfl⟩))
    (fun os started H enc _ => lifted os started H enc)
end Go.Proofs.YtiidbfjcneaakaaGreatR
