/- WorldNobody answers true whatever its argument is, and leaves it as it was: no condition. -/
import Derived.Test.YtiidbfjcneaakaaGreatRWFactsC
namespace Go.Proofs.YtiidbfjcneaakaaGreatR
open Go.ChangeShapes Go.WideShapes Go.ChangeAt Go.RowKit Go.AE
set_option maxRecDepth 100000

theorem own : ownKnob Tryz.prog.godebug = none := by kernel_rfl
noncomputable def envLaw : Env := envOf Tryz.prog
theorem zszLaw : zszOk Tryz.prog.types.toList = true := by kernel_rfl
theorem mixedLaw : Tryz.prog.follows .mixedOrders = true := by kernel_rfl
theorem tabLaw : TabOk envLaw := tabOk_of rfl rfl rfl zszLaw mixedLaw fun _ _ _ _ _ h => by cases h
theorem rawLaw : rawOk Tryz.prog 33 23 = true := by kernel_rfl
theorem runs (f : Nat → Value) : isOk (law envLaw 4000 3 [.agg (rawL f 23 0)]) = true := by kernel_rfl

theorem walk {w : World} {base : Nat} {v : Value} (h : Value.okWide Tryz.prog w .any base 33 v) (W : World) : Calls Tryz.prog 3 #[v] W fun e W' => e = .returned (.bool true) ∧ Below W.heap.size W W' := by
  obtain ⟨f, hf⟩ := raw_agg2 (E := envLaw) rawLaw h
  exact law_calls (E := envLaw) tabLaw (ev_all tabLaw 4000) (runs f) (fun φ => VRL_cons (hf φ) VRL_nil) W

theorem reads : ∀ t ∈ Tryz.f3.params.toList, Tryz.prog.readableRec t = true ∧ t < Tryz.prog.types.size := by
  rw [Tryz.params3]
  intro t ht
  simp at ht; subst ht
  exact ⟨by kernel_rfl, of_decide_eq_true (by kernel_rfl)⟩

noncomputable def zeroArg : Value := ((Tryz.prog.info? 33).bind (·.zero)).getD undef

theorem lifted (os : Os) (started : os.Started) (H : Type) (enc : TypeId × Value → H) :
    ReturnsInHanded {} Tryz.checked os 3 .any (Rows.worldNobodySpec.pre6 enc Tryz.prog Tryz.f3 Rows.worldNobodyRow.domain false) (Rows.worldNobodySpec.post enc Tryz.prog Tryz.f3 false true false false) := by
  refine returnsInHanded_of_change (C := Tryz.checked) own started (by kernel_rfl) Tryz.func3
    (ChangeSpec.witness6 (enc := enc) (C := Tryz.checked) false ⟨#[], #[zeroArg], []⟩ 8 (by kernel_rfl) (by kernel_rfl) (by kernel_rfl) (by kernel_rfl)) ?_
  intro W base args ds gs before hval0 hW _ _
  have hval : ∀ (j : Nat) t v, Tryz.f3.params[j]? = some t → args[j]? = some v → Value.okWide Tryz.prog W .any base t v := hval0
  have hW1 := hW
  obtain ⟨p, q, hA0, hV, rfl, hfz, hnd⟩ := hW1
  have hA : DataW.TrodAll enc Tryz.prog W 0 (fun _ => true) true Tryz.f3.params.toList args.toList ds p := hA0
  rw [Tryz.params3] at hA hval
  obtain ⟨v0, vs0, d0, ds0, p0, q0, hargs, rfl, rfl, h0, r0⟩ := trodAll_cons hA
  obtain ⟨rfl, rfl, rfl⟩ := trodAll_nil r0
  obtain rfl : args = #[v0] := by cases args; simp_all
  exact contract_of_law hW rfl rfl laidOut reads (by kernel_rfl) Tryz.underlying4 (walk (hval 0 33 v0 rfl rfl) W)

theorem worldNobody_holds : Rows.WorldNobodySaid :=
  OpenClaim.holds_of_wide 3 Tryz.f3 rfl rfl rfl rfl rfl rfl rfl ⟨rfl, rfl, rfl, rfl, rfl⟩ rfl rfl rfl rfl rfl namedFact Tryz.func3 closedFacts
    (of_decide_eq_true (by kernel_rfl)) (by unfold Func.isWrapper; first | (rw [if_pos (by decide +kernel)]; kernel_rfl) | (rw [if_neg (by decide +kernel)]; exact ⟨rfl, rfl⟩))
    (fun os started H enc _ => lifted os started H enc)
end Go.Proofs.YtiidbfjcneaakaaGreatR
