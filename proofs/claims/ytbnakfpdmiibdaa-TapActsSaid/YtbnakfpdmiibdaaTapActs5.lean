/- TapActs answers true whatever its three arguments are, and leaves them as they were: no condition. -/
import Derived.Test.YtbnakfpdmiibdaaTapActs4
import Derived.Deep.Slices
import Derived.Deep.Fields
import Derived.ChangeSame
namespace Go.Proofs.Ytbnakfpdmiibdaa
open Go.Conc Go.RowKit Go.AE
set_option maxRecDepth 100000
/-- no such tap -/
theorem new_bad (p r : Int) (W : World) (h : p < 1 ∨ 8 < p ∨ r < 1 ∨ 64 < r) : Calls Try.prog 7 #[.int .i64 p, .int .i64 r] W fun e W' => e = .returned (.tuple #[.pointer none, .int .i64 1]) ∧ W' = W := by
  by_cases h1 : p < 1
  · have d1 : decide (p < 1) = true := by simpa using h1
    clear h h1
    go_enter Try.func7, Try.ntmps7
    go_wp2_with fail
    go_ret2
    exact ⟨rfl, rfl⟩
  · have d1 : decide (p < 1) = false := by simpa using h1
    by_cases h2 : 8 < p
    · clear h
      go_enter Try.func7, Try.ntmps7
      go_wp2_with fail
      go_ret2
      exact ⟨rfl, rfl⟩
    · by_cases h3 : r < 1
      · have d3 : decide (r < 1) = true := by simpa using h3
        clear h
        go_enter Try.func7, Try.ntmps7
        go_wp2_with fail
        go_ret2
        exact ⟨rfl, rfl⟩
      · have h4 : 64 < r := by omega
        have d3 : decide (r < 1) = false := by simpa using h3
        clear h
        go_enter Try.func7, Try.ntmps7
        go_wp2_with fail
        go_ret2
        exact ⟨rfl, rfl⟩
theorem acts_bad (p r : Int) (ad : Option Addr) (len cap : Nat) (w : World) (h : p < 1 ∨ 8 < p ∨ r < 1 ∨ 64 < r) :
    Calls Try.prog 5 #[.int .i64 p, .int .i64 r, .slice ad len cap] w fun e w' => e = .returned (.bool true) ∧ Below w.heap.size w w' := by
  have hnew := Lib.hid (new_bad p r w h)
  have haw := Lib.hid (awake_calls w)
  by_cases h1 : p < 1
  · have d1 : decide (p < 1) = true := by simpa using h1
    clear h h1
    go_enter Try.func5, Try.ntmps5
    go_wp2_with fail
    refine hnew.out.mono ?_
    rintro e w1 ⟨rfl, rfl⟩
    go_wp2_with fail
    refine haw.out.mono ?_
    rintro e w2 ⟨rfl, hb2⟩
    have HB3 := Lib.hid hb2
    clear hb2
    go_wp2
    go_ret
    exact ⟨rfl, HB3.out⟩
  · have d1 : decide (p < 1) = false := by simpa using h1
    by_cases h2 : 8 < p
    · clear h
      go_enter Try.func5, Try.ntmps5
      go_wp2_with fail
      refine hnew.out.mono ?_
      rintro e w1 ⟨rfl, rfl⟩
      go_wp2_with fail
      refine haw.out.mono ?_
      rintro e w2 ⟨rfl, hb2⟩
      have HB3 := Lib.hid hb2
      clear hb2
      go_wp2
      go_ret
      exact ⟨rfl, HB3.out⟩
    · by_cases h3 : r < 1
      · have d3 : decide (r < 1) = true := by simpa using h3
        clear h
        go_enter Try.func5, Try.ntmps5
        go_wp2_with fail
        refine hnew.out.mono ?_
        rintro e w1 ⟨rfl, rfl⟩
        go_wp2_with fail
        refine haw.out.mono ?_
        rintro e w2 ⟨rfl, hb2⟩
        have HB3 := Lib.hid hb2
        clear hb2
        go_wp2
        go_ret
        exact ⟨rfl, HB3.out⟩
      · have h4 : 64 < r := by omega
        have d3 : decide (r < 1) = false := by simpa using h3
        clear h
        go_enter Try.func5, Try.ntmps5
        go_wp2_with fail
        refine hnew.out.mono ?_
        rintro e w1 ⟨rfl, rfl⟩
        go_wp2_with fail
        refine haw.out.mono ?_
        rintro e w2 ⟨rfl, hb2⟩
        have HB3 := Lib.hid hb2
        clear hb2
        go_wp2
        go_ret
        exact ⟨rfl, HB3.out⟩

section
open Go.ChangeShapes Go.WideShapes Go.ChangeAt Go.Deep
/-- an act's cells -/
theorem act_cells {H : Type} {enc : TypeId × Value → H} {w : World} {base : Nat} {spare : Nat → Bool} {held : Bool} {fuel : Nat} {cs : List Value} {x : DataW H × List MemPlace}
    (hl : cs.length = 3) (h : DataW.trod enc Try.prog w base spare held fuel 42 cs = some x) : ∃ a b c : Int, cs = [.int .i64 a, .int .i64 b, .int .i64 c] := by
  obtain ⟨xs, n, _, _, _, hxl, hf⟩ := DataW.trod_struct Try.underlying42 h
  match cs, hl with
  | [u0, u1, u2], _ =>
    have hc3 : Try.prog.cellsOf 3 = 1 := by kernel_rfl
    have h0 : DataW.trod enc Try.prog w base spare held n 3 (([u0, u1, u2].drop 0).take (Try.prog.cellsOf 3)) = xs[0]? := hf 0 _ rfl
    have h1 : DataW.trod enc Try.prog w base spare held n 3 (([u0, u1, u2].drop 1).take (Try.prog.cellsOf 3)) = xs[1]? := hf 1 _ rfl
    have h2 : DataW.trod enc Try.prog w base spare held n 3 (([u0, u1, u2].drop 2).take (Try.prog.cellsOf 3)) = xs[2]? := hf 2 _ rfl
    rw [hc3] at h0 h1 h2
    simp only [List.drop_zero, List.drop_succ_cons, List.take_succ_cons, List.take_zero] at h0 h1 h2
    have hxl3 : xs.length = 3 := hxl
    have hx0 : xs[0]? = some (xs[0]'(by omega)) := List.getElem?_eq_getElem (by omega)
    have hx1 : xs[1]? = some (xs[1]'(by omega)) := List.getElem?_eq_getElem (by omega)
    have hx2 : xs[2]? = some (xs[2]'(by omega)) := List.getElem?_eq_getElem (by omega)
    rw [hx0] at h0
    rw [hx1] at h1
    rw [hx2] at h2
    obtain ⟨a, ha, _, _⟩ := DataW.trod_int Try.underlying3 h0
    obtain ⟨b, hb, _, _⟩ := DataW.trod_int Try.underlying3 h1
    obtain ⟨c, hc, _, _⟩ := DataW.trod_int Try.underlying3 h2
    simp only [List.cons.injEq, and_true] at ha hb hc
    exact ⟨a, b, c, by rw [ha, hb, hc]⟩
theorem own : ownKnob Try.prog.godebug = none := by kernel_rfl
theorem laidOut : laidOutB Try.prog = true := by kernel_rfl
theorem cells42 : Try.prog.cellsOf 42 = 3 := by kernel_rfl
theorem reads5 : ∀ t ∈ Try.f5.params.toList, Try.prog.readableRec t = true ∧ t < Try.prog.types.size := by
  rw [Try.params5]
  intro t ht
  simp at ht; rcases ht with rfl | rfl
  · exact ⟨by kernel_rfl, of_decide_eq_true (by kernel_rfl)⟩
  · exact ⟨by kernel_rfl, of_decide_eq_true (by kernel_rfl)⟩
/-- any arguments -/
theorem acts_any (p r : Int) (ad : Option Addr) (lb off len cap : Nat) (zd zp zn : Nat → Int) (hlen : len ≤ maxLen) (had : 0 < len → ad = some ⟨lb, off, none⟩) (w : World)
    (hcell : ∀ i, i < len → w.cell? ⟨lb, off + i * 3, none⟩ = some (.int .i64 (zd i)) ∧ w.cell? ⟨lb, off + i * 3 + 1, none⟩ = some (.int .i64 (zp i)) ∧ w.cell? ⟨lb, off + i * 3 + 2, none⟩ = some (.int .i64 (zn i))) :
    Calls Try.prog 5 #[.int .i64 p, .int .i64 r, .slice ad len cap] w fun e w' => e = .returned (.bool true) ∧ Below w.heap.size w w' := by
  by_cases h : p < 1 ∨ 8 < p ∨ r < 1 ∨ 64 < r
  · exact acts_bad p r ad len cap w h
  · obtain ⟨k, rfl⟩ : ∃ k : Nat, p = k := ⟨p.toNat, by omega⟩
    obtain ⟨room, rfl⟩ : ∃ k : Nat, r = k := ⟨r.toNat, by omega⟩
    exact acts_walk k room (by omega) (by omega) (by omega) (by omega) ad lb off len cap zd zp zn hlen had w hcell

theorem lifted (os : Os) (started : os.Started) (H : Type) (enc : TypeId × Value → H) :
    ReturnsInHanded {} Try.checked os 5 .any (Rows.tapActsSpec.pre6 enc Try.prog Try.f5 Rows.tapActsRow.domain false) (Rows.tapActsSpec.post enc Try.prog Try.f5 false true false false) := by
  refine returnsInHanded_of_change (C := Try.checked) own started (by kernel_rfl) Try.func5
    (ChangeSpec.witness6 (enc := enc) (C := Try.checked) false ⟨#[], #[.int .i64 0, .int .i64 0, .slice none 0 0], []⟩ 8 (by kernel_rfl) (by kernel_rfl) (by kernel_rfl) (by kernel_rfl)) ?_
  intro W base args ds gs before hval0 hW _ _
  have hval : ∀ (j : Nat) t v, Try.f5.params[j]? = some t → args[j]? = some v → Value.okWide Try.prog W .any base t v := hval0
  have hW1 := hW
  obtain ⟨p, q, hA0, hV, rfl, hfz, hnd⟩ := hW1
  have hA : DataW.TrodAll enc Try.prog W 0 (fun _ => true) true Try.f5.params.toList args.toList ds p := hA0
  rw [Try.params5] at hA hval
  obtain ⟨v0, vs0, d0, ds0, p0, q0, hargs, rfl, rfl, h0, r0⟩ := trodAll_cons hA
  obtain ⟨v1, vs1, d1, ds1, p1, q1, rfl, rfl, rfl, h1, r1⟩ := trodAll_cons r0
  obtain ⟨v2, vs2, d2, ds2, p2, q2, rfl, rfl, rfl, h2, r2⟩ := trodAll_cons r1
  obtain ⟨rfl, rfl, rfl⟩ := trodAll_nil r2
  obtain rfl : args = #[v0, v1, v2] := by cases args; simp_all
  obtain ⟨a0, rfl, rfl, rfl, w0⟩ := open_int Try.underlying3 (hval 0 3 v0 rfl rfl) h0
  obtain ⟨a1, rfl, rfl, rfl, w1⟩ := open_int Try.underlying3 (hval 1 3 v1 rfl rfl) h1
  obtain ⟨sa, len, cap, rfl⟩ := okWide_slice Try.underlying37 (hval 2 37 v2 rfl rfl)
  obtain ⟨fuel, hf⟩ := h2
  have hc : (Value.slice sa len cap).cells.toList = [Value.slice sa len cap] := rfl
  rw [hc] at hf
  rcases open_slice Try.underlying37 hf with ⟨hcs, _⟩ | ⟨a, len', cap', m, n, D, Pl, hcs, _, hle, hmax, hm, _, hel⟩
  · cases hcs
    exact contract_of_law hW rfl rfl laidOut reads5 (by kernel_rfl) Try.underlying4
      (acts_any a0 a1 none 0 0 0 0 (fun _ => 0) (fun _ => 0) (fun _ => 0) (by omega) (fun h => absurd h (by omega)) W (fun i h => absurd h (by omega)))
  · cases hcs
    have hmm : m = cap := by rw [hm]; rfl
    have hact : ∀ i, i < len → ∃ x y z : Int, W.cell? (a.add (i * 3)) = some (.int .i64 x) ∧ W.cell? (a.add (i * 3 + 1)) = some (.int .i64 y) ∧ W.cell? (a.add (i * 3 + 2)) = some (.int .i64 z) := fun i hi => by
      obtain ⟨cs', hcs', ht'⟩ := hel i (by omega)
      rw [cells42] at hcs'
      obtain ⟨_, hl3, hat⟩ := World.cells?_some hcs'
      obtain ⟨x, y, z, rfl⟩ := act_cells hl3 ht'
      have z0 := hat 0 (by omega)
      have z1 := hat 1 (by omega)
      have z2 := hat 2 (by omega)
      rw [Go.Deep.add_add] at z0 z1 z2
      exact ⟨x, y, z, z0, z1, z2⟩
    have hplain : 0 < len → a = ⟨a.block, a.off, none⟩ := by
      intro h
      obtain ⟨x, _, _, h2, _⟩ := hact 0 (by omega)
      unfold World.cell? at h2
      cases a with
      | mk b o sp =>
        cases sp with
        | none => rfl
        | some s =>
          have e : ((⟨b, o, some s⟩ : Addr).add (0 * 3)).spot.isSome = true := by unfold Addr.add; split <;> simp_all
          revert h2
          split
          · rw [if_pos e]; intro h2; cases h2
          · intro h2; cases h2
    have hadd : ∀ j, (⟨a.block, a.off, none⟩ : Addr).add j = ⟨a.block, a.off + j, none⟩ := fun j => by
      unfold Addr.add; split
      · next h0 => subst h0; rfl
      · rfl
    exact contract_of_law hW rfl rfl laidOut reads5 (by kernel_rfl) Try.underlying4
      (acts_any a0 a1 (some a) a.block a.off len cap (fun i => if h : i < len then (hact i h).choose else 0) (fun i => if h : i < len then (hact i h).choose_spec.choose else 0) (fun i => if h : i < len then (hact i h).choose_spec.choose_spec.choose else 0)
        (by omega) (fun h => congrArg some (hplain h)) W (fun i h => by
        simp only [dif_pos h]
        have h3 := (hact i h).choose_spec.choose_spec.choose_spec
        generalize (hact i h).choose_spec.choose_spec.choose = z at *
        generalize (hact i h).choose_spec.choose = y at *
        generalize (hact i h).choose = x at *
        rw [hplain (by omega), hadd, hadd, hadd] at h3
        rw [Nat.add_assoc, Nat.add_assoc]
        exact h3))

theorem tapActs_holds : Rows.TapActsSaid :=
  OpenClaim.holds_of_wide 5 Try.f5 rfl rfl rfl rfl rfl rfl rfl ⟨rfl, rfl, rfl, rfl, rfl⟩ rfl rfl rfl rfl rfl (by kernel_rfl) Try.func5 (by kernel_rfl)
    (of_decide_eq_true (by kernel_rfl)) (by unfold Func.isWrapper; first | (rw [if_pos (by decide +kernel)]; kernel_rfl) | (rw [if_neg (by decide +kernel)]; exact ⟨rfl, rfl⟩))
    (fun os started H enc _ => lifted os started H enc)
end
end Go.Proofs.Ytbnakfpdmiibdaa
