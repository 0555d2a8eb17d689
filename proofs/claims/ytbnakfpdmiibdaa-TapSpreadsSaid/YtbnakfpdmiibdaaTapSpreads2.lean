/- TapSpreads answers true whatever its three arguments are, and leaves them as they were: no condition. -/
import Derived.Test.YtbnakfpdmiibdaaTapSpreads
import Derived.WalkKit
namespace Go.Proofs.Ytbnakfpdmiibdaa
open Go.Conc Go.RowKit Go.AE
set_option maxRecDepth 100000

theorem below_drewN {B : Nat} {a w : World} (h : Below B a w) (n : Nat) : Below B a (w.drewN n) := h.trans ⟨rfl, rfl, rfl, Nat.le_refl _, fun _ _ => rfl⟩

/-- a number is spread, where there is room -/
theorem spread_one {B0 : Nat} {w : World} {b pb k cp room : Nat} {cb : Nat → Nat} {bufs : Nat → Array Value} {turn : Int} {q ρ : Nat} {n : Int} {W : World} (h : TapAt B0 w b pb k cp room cb bufs turn) (hk : k ≤ 8) (hr : room ≤ 64)
    (he : Even k room (fun j => (bufs j).size) q ρ) (hb : Below B0 W w) :
    Calls Try.prog 12 #[.pointer (some ⟨b, 0, none⟩), .int .i64 n] w fun e w' => e = .returned (.tuple #[.int .i64 ρ, .int .i64 0]) ∧
      TapAt B0 w' b pb k cp room cb (fun j => if j = ρ then (bufs ρ).push (.int .i64 n) else bufs j) turn ∧ Below B0 W w' := by
  refine (spread_walk b pb k cp room cb bufs n w h.pipes hk hr h.ch h.chan).mono ?_
  have hp := he.pick k (Nat.le_refl _)
  rw [if_neg (by have := he.1; omega)] at hp
  rintro e w' (⟨q1, h1, _, _⟩ | ⟨q1, l, s, r, h1, h2, rfl, rfl⟩)
  · rw [hp] at h1; cases h1
  · rw [hp] at h1; cases h1
    exact ⟨rfl, (h.drewN q1).set he.1 h2 _, below_setChan (below_drewN hb q1) (h.base.2 _ he.1) _ _ _ _ _ _⟩
/-- and where there is none -/
theorem spread_none {B0 : Nat} {w : World} {b pb k cp room : Nat} {cb : Nat → Nat} {bufs : Nat → Array Value} {turn : Int} {n : Int} {W : World} (h : TapAt B0 w b pb k cp room cb bufs turn) (hk : k ≤ 8) (hr : room ≤ 64)
    (he : ∀ j, j < k → (bufs j).size = room) (hb : Below B0 W w) :
    Calls Try.prog 12 #[.pointer (some ⟨b, 0, none⟩), .int .i64 n] w fun e w' => e = .returned (.tuple #[.int .i64 (-1), .int .i64 6]) ∧ TapAt B0 w' b pb k cp room cb bufs turn ∧ Below B0 W w' := by
  refine (spread_walk b pb k cp room cb bufs n w h.pipes hk hr h.ch h.chan).mono ?_
  have hp := full_pick (len := fun j => (bufs j).size) he k (Nat.le_refl _)
  rintro e w' (⟨q1, h1, rfl, rfl⟩ | ⟨q1, l, s, r, h1, h2, _, _⟩)
  · exact ⟨rfl, h.drewN q1, below_drewN hb q1⟩
  · rw [hp] at h1; cases h1

set_option maxHeartbeats 400000 in
theorem spreads_walk (a b n : Nat) (ha : a < 256) (hb : b < 256) (hn : n < 256) (w : World) :
    Calls Try.prog 4 #[.int .u8 a, .int .u8 b, .int .u8 n] w fun e w' => e = .returned (.bool true) ∧ Below w.heap.size w w' := by
  go_enter Try.func4, Try.ntmps4
  go_wp2_with fail
  have e1 : (1 + (a : Int) % 8) = ((1 + a % 8 : Nat) : Int) := by omega
  have e2 : (1 + (b : Int) % 64) = ((1 + b % 64 : Nat) : Int) := by omega
  rw [e1, e2]
  have k1 : 1 ≤ 1 + a % 8 := by omega
  have k2 : 1 + a % 8 ≤ 8 := by omega
  have r1 : 1 ≤ 1 + b % 64 := by omega
  have r2 : 1 + b % 64 ≤ 64 := by omega
  generalize 1 + a % 8 = k at *
  generalize 1 + b % 64 = room at *
  refine (new_calls k1 k2 r1 r2 w).mono ?_
  rintro e w1 ⟨tb, pb, cp, cb, rfl, ht, hbl⟩
  go_wp2
  go_loopw [11] (fun i wr => ∃ (m : Nat) (bufs : Nat → Array Value), m ≤ n ∧ i = .int .i64 m ∧ TapAt w.heap.size wr tb pb k cp room cb bufs 0 ∧ Sz k room m (fun j => (bufs j).size) ∧ Below w.heap.size w wr) (fun i _ => n - (intOf i).toNat)
  case atStart => exact ⟨0, fun _ => #[], Nat.zero_le _, rfl, ht, .inl ⟨0, 0, by omega, by omega, by omega, fun j hj => by simp⟩, hbl⟩
  case round =>
    obtain ⟨m, bufs, hm, rfl, hta, hsz, hbw⟩ := hrel
    by_cases hlt : m < n
    · have d0 : decide ((m : Int) < (n : Int)) = true := by simpa using hlt
      rcases hsz with ⟨q, ρ, hmq, hev⟩ | ⟨hge, hfull⟩
      · have hs := spread_one (n := (m : Int)) hta k2 r2 hev hbw
        obtain ⟨hlt2, hmod⟩ := hev.lt hmq
        have HM : Hid (m = k * q + ρ) := hmq
        have HE : Hid (Even k room (fun j => (bufs j).size) q ρ) := hev
        have HL : Hid (m < k * room) := hlt2
        have d1 : decide ((m : Int) < ((k : Int) * (room : Int))) = true := by simp only [decide_eq_true_eq]; exact_mod_cast hlt2
        have hrem : (m : Int) % (k : Int) = (ρ : Int) := by exact_mod_cast hmod
        have hmul : IntKind.i64.wrap ((k : Int) * (room : Int)) = (k : Int) * (room : Int) := by
          have : k * room ≤ 8 * 64 := Nat.mul_le_mul k2 r2
          have h2 : (0 : Int) ≤ (k : Int) * (room : Int) := by exact_mod_cast Nat.zero_le _
          have h3 : (k : Int) * (room : Int) ≤ 512 := by exact_mod_cast this
          rw [IntKind.wrap_i64]; omega
        clear hta hbw hmq hev hlt2 hmod
        go_wp2_with fail
        refine hs.mono ?_
        rintro e w2 ⟨rfl, hta2, hbw2⟩
        have HT : Hid _ := hta2
        have HB : Hid _ := hbw2
        clear hta2 hbw2 hs
        go_wp2
        refine ⟨⟨m + 1, _, by omega, by go_num, HT.out, ?_, HB.out⟩, by simp [intOf]; omega⟩
        have := Sz.next HM.out HE.out
        refine cast (congrArg (Sz k room (m + 1)) ?_) this
        funext j
        by_cases ej : j = ρ
        · simp [ej]
        · simp [ej]
      · have hs := spread_none (n := (m : Int)) hta k2 r2 hfull hbw
        have HF : Hid (∀ j, j < k → (bufs j).size = room) := hfull
        have HG : Hid (k * room ≤ m) := hge
        have d1 : decide ((m : Int) < ((k : Int) * (room : Int))) = false := by
          simp only [decide_eq_false_iff_not, Int.not_lt]; exact_mod_cast hge
        have hmul : IntKind.i64.wrap ((k : Int) * (room : Int)) = (k : Int) * (room : Int) := by
          have : k * room ≤ 8 * 64 := Nat.mul_le_mul k2 r2
          have h2 : (0 : Int) ≤ (k : Int) * (room : Int) := by exact_mod_cast Nat.zero_le _
          have h3 : (k : Int) * (room : Int) ≤ 512 := by exact_mod_cast this
          rw [IntKind.wrap_i64]; omega
        clear hta hbw hfull hge
        go_wp2_with fail
        refine hs.mono ?_
        rintro e w2 ⟨rfl, hta2, hbw2⟩
        have HT : Hid _ := hta2
        have HB : Hid _ := hbw2
        clear hta2 hbw2 hs
        go_wp2
        refine ⟨⟨m + 1, bufs, by omega, by go_num, HT.out, .inr ⟨?_, HF.out⟩, HB.out⟩, by simp [intOf]; omega⟩
        exact Nat.le_trans HG.out (Nat.le_succ m)
    · obtain rfl : m = n := by omega
      clear hta hsz
      have HB : Hid _ := hbw
      clear hbw
      go_wp2_with fail
      refine (awake_calls wr).mono ?_
      rintro e w2 ⟨rfl, hb2⟩
      go_wp2
      go_ret
      exact ⟨rfl, HB.out.trans (hb2.mono HB.out.size)⟩

section
open Go.ChangeShapes Go.WideShapes Go.ChangeAt
theorem own : ownKnob Try.prog.godebug = none := by kernel_rfl
theorem laidOut : laidOutB Try.prog = true := by kernel_rfl
theorem reads4 : ∀ t ∈ Try.f4.params.toList, Try.prog.readableRec t = true ∧ t < Try.prog.types.size := by
  rw [Try.params4]
  intro t ht
  simp at ht; subst ht
  exact ⟨by kernel_rfl, of_decide_eq_true (by kernel_rfl)⟩
theorem u8_nat {a : Int} (h : (Lit.int .u8 a).wf = true) : ∃ n : Nat, a = n ∧ n < 256 := by
  have hx : 0 ≤ a ∧ a ≤ 255 := by simpa [Lit.wf, IntKind.min, IntKind.max, IntKind.signed, IntKind.bits] using h
  exact ⟨a.toNat, by omega, by omega⟩

theorem lifted (os : Os) (started : os.Started) (H : Type) (enc : TypeId × Value → H) :
    ReturnsInHanded {} Try.checked os 4 .any (Rows.tapSpreadsSpec.pre6 enc Try.prog Try.f4 Rows.tapSpreadsRow.domain false) (Rows.tapSpreadsSpec.post enc Try.prog Try.f4 false true false false) := by
  refine returnsInHanded_of_change (C := Try.checked) own started (by kernel_rfl) Try.func4
    (ChangeSpec.witness6 (enc := enc) (C := Try.checked) false ⟨#[], #[.int .u8 0, .int .u8 0, .int .u8 0], []⟩ 8 (by kernel_rfl) (by kernel_rfl) (by kernel_rfl) (by kernel_rfl)) ?_
  intro W base args ds gs before hval0 hW _ _
  have hval : ∀ (j : Nat) t v, Try.f4.params[j]? = some t → args[j]? = some v → Value.okWide Try.prog W .any base t v := hval0
  have hW1 := hW
  obtain ⟨p, q, hA0, hV, rfl, hfz, hnd⟩ := hW1
  have hA : DataW.TrodAll enc Try.prog W 0 (fun _ => true) true Try.f4.params.toList args.toList ds p := hA0
  rw [Try.params4] at hA hval
  obtain ⟨v0, vs0, d0, ds0, p0, q0, hargs, rfl, rfl, h0, r0⟩ := trodAll_cons hA
  obtain ⟨v1, vs1, d1, ds1, p1, q1, rfl, rfl, rfl, h1, r1⟩ := trodAll_cons r0
  obtain ⟨v2, vs2, d2, ds2, p2, q2, rfl, rfl, rfl, h2, r2⟩ := trodAll_cons r1
  obtain ⟨rfl, rfl, rfl⟩ := trodAll_nil r2
  obtain rfl : args = #[v0, v1, v2] := by cases args; simp_all
  obtain ⟨a0, rfl, rfl, rfl, w0⟩ := open_int Try.underlying5 (hval 0 5 v0 rfl rfl) h0
  obtain ⟨a1, rfl, rfl, rfl, w1⟩ := open_int Try.underlying5 (hval 1 5 v1 rfl rfl) h1
  obtain ⟨a2, rfl, rfl, rfl, w2⟩ := open_int Try.underlying5 (hval 2 5 v2 rfl rfl) h2
  obtain ⟨n0, rfl, l0⟩ := u8_nat w0
  obtain ⟨n1, rfl, l1⟩ := u8_nat w1
  obtain ⟨n2, rfl, l2⟩ := u8_nat w2
  exact contract_of_law hW rfl rfl laidOut reads4 (by kernel_rfl) Try.underlying4 (spreads_walk n0 n1 n2 l0 l1 l2 W)

theorem tapSpreads_holds : Rows.TapSpreadsSaid :=
  OpenClaim.holds_of_wide 4 Try.f4 rfl rfl rfl rfl rfl rfl rfl ⟨rfl, rfl, rfl, rfl, rfl⟩ rfl rfl rfl rfl rfl (by kernel_rfl) Try.func4 (by kernel_rfl)
    (of_decide_eq_true (by kernel_rfl)) (by unfold Func.isWrapper; first | (rw [if_pos (by decide +kernel)]; kernel_rfl) | (rw [if_neg (by decide +kernel)]; exact ⟨rfl, rfl⟩))
    (fun os started H enc _ => lifted os started H enc)
end
end Go.Proofs.Ytbnakfpdmiibdaa
