/- WatchNobody answers true whatever its argument is, and leaves it as it was; strings.Join by its contract. -/
import Derived.Test.YtiidbfjcneaakaaGreatRDoorFactsC
import Derived.Test.YtiidbfjcneaakaaGreatRDoorJoin
import Derived.Test.YtiidbfjcneaakaaGreatRDoorAEMg
import Derived.LaidMore
import Derived.LaidHandle
namespace Go.Proofs.YtiidbfjcneaakaaGreatRDoor
open Go Go.ChangeShapes Go.WideShapes Go.ChangeAt Go.RowKit Go.AE
set_option maxRecDepth 100000

theorem own : ownKnob Tryz.prog.godebug = none := by kernel_rfl
noncomputable def extLaw : Nat → Option (List AV → Hs → (AV → Out) → Out) := fun f => Bool.rec (motive := fun _ => Option (List AV → Hs → (AV → Out) → Out)) none (some joinX) (Nat.beq f 56)
noncomputable def envLaw : Env := { envOf Tryz.prog with ext := extLaw }
theorem zszLaw : zszOk Tryz.prog.types.toList = true := by kernel_rfl
theorem mixedLaw : Tryz.prog.follows .mixedOrders = true := by kernel_rfl
theorem joinHas : Tryz.f56.body.isNone = false ∧ (Tryz.f56.name == "runtime.NumGoroutine") = false := ⟨by kernel_rfl, by kernel_rfl⟩
theorem joinLaw : ExtOk envLaw 56 joinX :=
  joinX_ok ⟨Tryz.f56, Tryz.func56, joinHas.1, joinHas.2⟩
    (fun bk o c xs sep w hcells hbk hN hcap hlen => Tryz.strings_Join bk o c xs sep w hcells hbk hN hcap hlen)
theorem extLaw_is {f : Nat} {x : List AV → Hs → (AV → Out) → Out} (h : extLaw f = some x) : f = 56 ∧ x = joinX := by
  unfold extLaw at h
  cases hb : Nat.beq f 56 with
  | false => rw [hb] at h; cases h
  | true => rw [hb] at h; injection h with h; exact ⟨Nat.eq_of_beq_eq_true hb, h.symm⟩
theorem tabLaw : TabOk envLaw := tabOk_of rfl rfl rfl zszLaw mixedLaw (fun _ _ _ _ _ h => by cases h) fun f x h => by
  obtain ⟨rfl, rfl⟩ := extLaw_is h
  exact joinLaw
theorem rawLaw : rawOk Tryz.prog 33 23 = true := by kernel_rfl
theorem runs (f : Nat → Value) : isOk (law envLaw 4000 3 [.agg (rawL f 23 0)]) = true := by kernel_rfl

theorem walk {w : World} {base : Nat} {v : Value} (h : Value.okWide Tryz.prog w .any base 33 v) (W : World) : Calls Tryz.prog 3 #[v] W fun e W' => e = .returned (.bool true) ∧ Below W.heap.size W W' := by
  obtain ⟨f, hf⟩ := raw_agg2 (E := envLaw) rawLaw h
  exact law_calls (E := envLaw) tabLaw (ev_all tabLaw 4000) (runs f) (fun φ => VRL_cons (hf φ) VRL_nil) W

theorem reads : ∀ t ∈ Tryz.f3.params.toList, Tryz.prog.readableRec t = true ∧ t < Tryz.prog.types.size := by
  rw [Tryz.params3]
  intro t ht
  simp at ht; subst ht
  exact ⟨by kernel_rfl, of_decide_eq_true (by kernel_rfl)⟩

noncomputable def zeroArg : Value := ((Tryz.prog.info? 33).bind (·.zero)).getD undef

/-- the door's own heap meets the row's condition -/
theorem door_met (os : Os) (args : Array Value) : laidMetH Tryz.prog Rows.watchNobodyRow.laid ((World.doorLaid Tryz.prog 24 os).forCall (fun _ _ => 0) ⟨#[], args, []⟩).memory :=
  laidMetH_of_parts3 (fuel := 8) (laidMet_of_run' 8 (by kernel_rfl) (by kernel_rfl)) (by kernel_rfl) (by kernel_rfl)

theorem lifted (os : Os) (started : os.Started) (H : Type) (enc : TypeId × Value → H) :
    ReturnsInHanded {} Tryz.checked os 3 .any (fun w args => (Rows.watchNobodySpec.pre enc Tryz.prog Tryz.f3 [] false w args ∧ laidMetH Tryz.prog Rows.watchNobodyRow.laid w) ∧ sizedMet enc Tryz.prog Tryz.f3 (OpenSpec.ofChange Rows.watchNobodySpec) false w args)
      (Rows.watchNobodySpec.post enc Tryz.prog Tryz.f3 false true false false) := by
  refine returnsInHanded_of_change_and (C := Tryz.checked) (X := fun w _ => laidMetH Tryz.prog Rows.watchNobodyRow.laid w) (fun _ _ _ hh h => h.of_heap hh) own started (by kernel_rfl) Tryz.func3
    (ChangeSpec.witness_shaped (enc := enc) (C := Tryz.checked) (os := os) (X := fun w _ => laidMetH Tryz.prog Rows.watchNobodyRow.laid w) false (World.doorLaid Tryz.prog 24 os) #[zeroArg] 8 rfl (World.shaped_of_RefB (by kernel_rfl) (by kernel_rfl)) (by kernel_rfl) (by kernel_rfl) (by kernel_rfl) (door_met os _)) ?_
  intro W base args ds gs before hval0 hW _ _ _ _
  have hval : ∀ (j : Nat) t v, Tryz.f3.params[j]? = some t → args[j]? = some v → Value.okWide Tryz.prog W .any base t v := hval0
  have hW1 := hW
  obtain ⟨p, q, hA0, hV, rfl, hfz, hnd⟩ := hW1
  have hA : DataW.TrodAll enc Tryz.prog W 0 (fun _ => true) true Tryz.f3.params.toList args.toList ds p := hA0
  rw [Tryz.params3] at hA hval
  obtain ⟨v0, vs0, d0, ds0, p0, q0, hargs, rfl, rfl, h0, r0⟩ := trodAll_cons hA
  obtain ⟨rfl, rfl, rfl⟩ := trodAll_nil r0
  obtain rfl : args = #[v0] := by cases args; simp_all
  exact contract_of_law hW rfl rfl laidOut reads (by kernel_rfl) Tryz.underlying4 (walk (hval 0 33 v0 rfl rfl) W)

theorem watchNobody_holds : Rows.WatchNobodySaid :=
  OpenClaim.holds_of_wide 3 Tryz.f3 rfl rfl rfl rfl rfl rfl rfl ⟨rfl, rfl, rfl, rfl, rfl⟩ rfl rfl rfl rfl rfl namedFact Tryz.func3 closedFacts
    (of_decide_eq_true (by kernel_rfl)) (by unfold Func.isWrapper; first | (rw [if_pos (by decide +kernel)]; kernel_rfl) | (rw [if_neg (by decide +kernel)]; exact ⟨rfl, rfl⟩))
    (fun os started H enc _ => lifted os started H enc)

end Go.Proofs.YtiidbfjcneaakaaGreatRDoor
