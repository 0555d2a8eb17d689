/- TapNobody answers true whatever the act is, and leaves its argument as it was: no condition. -/
import Derived.Test.YtbnakfpdmiibdaaRows
import Derived.Test.YtbnakfpdmiibdaaAEFin
namespace Go.Proofs.Ytbnakfpdmiibdaa
open Go.ChangeShapes Go.WideShapes Go.ChangeAt Go.RowKit Go.AE

theorem own : ownKnob Try.prog.godebug = none := by kernel_rfl
theorem laidOut : laidOutB Try.prog = true := by kernel_rfl

/-- the pipe's number is below nought -/
noncomputable def factNeg : Nat → BinOp → IntKind → Int → Option AV := fun _ op k n => match op with
  | .lss => (match k with | .i64 => (match n with | .ofNat a => Bool.rec (motive := fun _ => Option AV) .none (some (.bool true)) (Nat.beq a 0) | .negSucc _ => .none) | _ => .none)
  | _ => .none
/-- it is not -/
noncomputable def factPos : Nat → BinOp → IntKind → Int → Option AV := fun _ op k n => match op with
  | .lss => (match k with | .i64 => (match n with | .ofNat a => Bool.rec (motive := fun _ => Option AV) .none (some (.bool false)) (Nat.beq a 0) | .negSucc _ => .none) | _ => .none)
  | .geq => (match k with | .i64 => (match n with | .ofNat a => Bool.rec (motive := fun _ => Option AV) .none (some (.bool true)) (Nat.beq a 0) | .negSucc _ => .none) | _ => .none)
  | _ => .none
noncomputable def envTap (m : Int) (f : Nat → BinOp → IntKind → Int → Option AV) : Env :=
  { P := Try.prog, ty := T.ofList Try.prog.types.toList, fn := T.ofList (mapL fiOf Try.prog.funcs.toList), symv := fun _ => .int .i64 m, fact := f, draws := true, quiets := false }

theorem zszTap : zszOk Try.prog.types.toList = true := by kernel_rfl
theorem mixedTap : Try.prog.follows .mixedOrders = true := by kernel_rfl

theorem lawNeg (m : Int) (v : Value) (x : Value) : isOk (law (envTap m factNeg) 400 6 [.agg [.raw v, .sym 0, .raw x]]) = true := by kernel_rfl
theorem lawPos (m : Int) (v : Value) (x : Value) : isOk (law (envTap m factPos) 400 6 [.agg [.raw v, .sym 0, .raw x]]) = true := by kernel_rfl

theorem lss0 {m : Int} {P : Program} (b : Bool) (hm : decide (m < 0) = b) (t : TypeId) (w : World) : (binOp .lss t (.int .i64 m) (.int .i64 0)).run P w = .ok (.bool b) w := by
  subst hm; rfl
theorem geq0 {m : Int} {P : Program} (b : Bool) (hm : decide (m ≥ 0) = b) (t : TypeId) (w : World) : (binOp .geq t (.int .i64 m) (.int .i64 0)).run P w = .ok (.bool b) w := by
  subst hm; rfl
theorem tabNeg {m : Int} (hm : m < 0) : TabOk (envTap m factNeg) := tabOk_of rfl rfl rfl zszTap mixedTap fun i op k n r h => by
  refine ⟨.i64, m, rfl, ?_⟩
  change factNeg i op k n = some r at h
  unfold factNeg at h
  split at h
  · split at h
    · split at h
      · rename_i a
        have h : Bool.rec (motive := fun _ => Option AV) .none (some (.bool true)) (Nat.beq a 0) = some r := h
        cases ha : Nat.beq a 0 with
        | false => rw [ha] at h; cases h
        | true =>
          rw [ha] at h; cases h
          have := Nat.eq_of_beq_eq_true ha; subst this
          exact ⟨.bool true, fun φ => by simp [VR], fun t w => lss0 true (by simp [hm]) t w⟩
      · cases h
    · cases h
  · cases h
theorem tabPos {m : Int} (hm : ¬ m < 0) : TabOk (envTap m factPos) := tabOk_of rfl rfl rfl zszTap mixedTap fun i op k n r h => by
  refine ⟨.i64, m, rfl, ?_⟩
  change factPos i op k n = some r at h
  unfold factPos at h
  split at h
  · split at h
    · split at h
      · rename_i a
        have h : Bool.rec (motive := fun _ => Option AV) .none (some (.bool false)) (Nat.beq a 0) = some r := h
        cases ha : Nat.beq a 0 with
        | false => rw [ha] at h; cases h
        | true =>
          rw [ha] at h; cases h
          have := Nat.eq_of_beq_eq_true ha; subst this
          exact ⟨.bool false, fun φ => by simp [VR], fun t w => lss0 false (by simp [hm]) t w⟩
      · cases h
    · cases h
  · split at h
    · split at h
      · rename_i a
        have h : Bool.rec (motive := fun _ => Option AV) .none (some (.bool true)) (Nat.beq a 0) = some r := h
        cases ha : Nat.beq a 0 with
        | false => rw [ha] at h; cases h
        | true =>
          rw [ha] at h; cases h
          have := Nat.eq_of_beq_eq_true ha; subst this
          exact ⟨.bool true, fun φ => by simp [VR], fun t w => geq0 true (by simp only [decide_eq_true_eq]; omega) t w⟩
      · cases h
    · cases h
  · cases h

theorem walk (a b x : Int) (W : World) : Calls Try.prog 6 #[.agg #[.int .i64 a, .int .i64 b, .int .i64 x]] W fun e W' => e = .returned (.bool true) ∧ Below W.heap.size W W' := by
  by_cases hb : b < 0
  · exact law_calls (E := envTap b factNeg) (tabNeg hb) (ev_loud (tabNeg hb) rfl 400) (lawNeg b (.int .i64 a) (.int .i64 x)) (fun φ => by simp [VRL, VR, envTap, one]) W
  · exact law_calls (E := envTap b factPos) (tabPos hb) (ev_loud (tabPos hb) rfl 400) (lawPos b (.int .i64 a) (.int .i64 x)) (fun φ => by simp [VRL, VR, envTap, one]) W

theorem reads : ∀ t ∈ Try.f6.params.toList, Try.prog.readableRec t = true ∧ t < Try.prog.types.size := by
  rw [Try.params6]
  intro t ht
  simp at ht; subst ht
  exact ⟨by kernel_rfl, of_decide_eq_true (by kernel_rfl)⟩

/-- three integers -/
theorem open3 {w : World} {base : Nat} {v : Value} (h : Value.okWide Try.prog w .any base 42 v) : ∃ a b x : Int, v = .agg #[.int .i64 a, .int .i64 b, .int .i64 x] := by
  unfold Value.okWide at h
  rw [show Try.prog.underlying 42 = _ from Try.underlying42] at h
  obtain ⟨arr, rfl, hsz, ts, hts, _, hall⟩ := h
  have hsz : arr.size = 3 := hsz.trans (by kernel_rfl)
  have hc : Try.prog.cellTypes Try.prog.depth 42 = some [3, 3, 3] := by kernel_rfl
  rw [hc] at hts; cases hts
  have cell : ∀ i, i < 3 → ∃ n : Int, arr[i]? = some (.int .i64 n) := fun i hi => by
    have hx : arr[i]? = some (arr[i]'(by omega)) := by simp [show i < arr.size by omega]
    obtain ⟨u, hu, hk⟩ := hall i _ hx
    have hu : u = 3 := by
      match i, hi, hu with
      | 0, _, hu => simpa using hu.symm
      | 1, _, hu => simpa using hu.symm
      | 2, _, hu => simpa using hu.symm
    subst hu
    rw [hx]
    generalize arr[i]'(by omega) = v at hk
    unfold Cell.okWide at hk
    rw [show Try.prog.underlying 3 = some (.int .i64) from Try.underlying3] at hk
    cases v <;> simp [Cell.ok, show Try.prog.underlying 3 = some (.int .i64) from Try.underlying3] at hk
    obtain ⟨rfl, _⟩ := hk
    exact ⟨_, rfl⟩
  obtain ⟨a, ha⟩ := cell 0 (by omega)
  obtain ⟨b, hb⟩ := cell 1 (by omega)
  obtain ⟨x, hx⟩ := cell 2 (by omega)
  refine ⟨a, b, x, ?_⟩
  congr 1
  apply Array.ext
  · simp [hsz]
  · intro i h1 h2
    have : i < 3 := by simpa [hsz] using h1
    match i, this with
    | 0, _ => simpa [h1] using ha
    | 1, _ => simpa [h1] using hb
    | 2, _ => simpa [h1] using hx

set_option maxRecDepth 100000 in
theorem lifted (os : Os) (started : os.Started) (H : Type) (enc : TypeId × Value → H) :
    ReturnsInHanded {} Try.checked os 6 .any (Rows.tapNobodySpec.pre6 enc Try.prog Try.f6 Rows.tapNobodyRow.domain false) (Rows.tapNobodySpec.post enc Try.prog Try.f6 false true false false) := by
  refine returnsInHanded_of_change (C := Try.checked) own started (by kernel_rfl) Try.func6
    (ChangeSpec.witness6 (enc := enc) (C := Try.checked) false ⟨#[], #[.agg #[.int .i64 0, .int .i64 0, .int .i64 0]], []⟩ 8 (by kernel_rfl) (by kernel_rfl) (by kernel_rfl) (by kernel_rfl)) ?_
  intro W base args ds gs before hval0 hW _ _
  have hval : ∀ (j : Nat) t v, Try.f6.params[j]? = some t → args[j]? = some v → Value.okWide Try.prog W .any base t v := hval0
  have hW1 := hW
  obtain ⟨p, q, hA0, hV, rfl, hfz, hnd⟩ := hW1
  have hA : DataW.TrodAll enc Try.prog W 0 (fun _ => true) true Try.f6.params.toList args.toList ds p := hA0
  rw [Try.params6] at hA hval
  obtain ⟨v0, vs0, d0, ds0, p0, q0, hargs, rfl, rfl, h0, r0⟩ := trodAll_cons hA
  obtain ⟨rfl, rfl, rfl⟩ := trodAll_nil r0
  obtain rfl : args = #[v0] := by cases args; simp_all
  obtain ⟨a, b, x, rfl⟩ := open3 (hval 0 42 v0 rfl rfl)
  exact contract_of_law hW rfl rfl laidOut reads (by kernel_rfl) Try.underlying4 (walk a b x W)

theorem tapNobody_holds : Rows.TapNobodySaid :=
  OpenClaim.holds_of_wide 6 Try.f6 rfl rfl rfl rfl rfl rfl rfl ⟨rfl, rfl, rfl, rfl, rfl⟩ rfl rfl rfl rfl rfl (by kernel_rfl) Try.func6 (by kernel_rfl)
    (of_decide_eq_true (by kernel_rfl)) (by unfold Func.isWrapper; first | (rw [if_pos (by decide +kernel)]; kernel_rfl) | (rw [if_neg (by decide +kernel)]; exact ⟨rfl, rfl⟩))
    (fun os started H enc _ => lifted os started H enc)
end Go.Proofs.Ytbnakfpdmiibdaa
