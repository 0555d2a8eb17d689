/- TapFair: the walk of the row; every argument answers true, and the caller's worlds are left as they were. -/
import Derived.Test.YtbnakfpdmiibdaaTapFair2
import Derived.OwnWalk
import Derived.WalkKit
import Derived.ChangeSlices
namespace Go.Proofs.Ytbnakfpdmiibdaa
open Go.Conc Go.RowKit Go.AE
set_option maxRecDepth 100000
theorem made_zero (k : Nat) : (madeCells (Value.int .i64 0).cells (k * 1)).toList = wl (fun _ => 0) k := by
  apply List.ext_getElem
  · simp [madeCells, wl]
  · intro i h1 h2
    simp [madeCells, wl, Value.cells, Nat.mod_one]
theorem wl_get (f : Nat → Nat) {k m : Nat} (h : m < k) : (wl f k)[m]? = some (.int .i64 (f m)) := by
  unfold wl; rw [List.getElem?_map, List.getElem?_range h]; rfl
theorem wl_set (f : Nat → Nat) {k m : Nat} (v : Nat) : (wl f k).set m (.int .i64 v) = wl (fun j => if j = m then v else f j) k := by
  apply List.ext_getElem
  · simp [wl]
  · intro i h1 h2
    simp only [List.getElem_set, wl, List.getElem_map, List.getElem_range]
    by_cases e : m = i
    · subst e; simp
    · have : ¬ i = m := fun h => e h.symm
      simp [e, this]
theorem lens_get (bufs : Nat → Array Value) {k m : Nat} (h : m < k) : (lens bufs k)[m]? = some (.int .i64 (bufs m).size) := by
  unfold lens; rw [List.getElem?_map, List.getElem?_range h]; rfl
/-- one's waiting time is laid down -/
theorem Sc.store {W w : World} {B1 tb pb k cp : Nat} {cb : Nat → Nat} {bufs : Nat → Array Value} {turn wb wcap : Nat} {f : Nat → Nat} (h : Sc W w B1 tb pb k cp cb bufs turn wb wcap f) (m v : Nat) :
    Sc W (w.setCell ⟨wb, m, none⟩ (.int .i64 v)) B1 tb pb k cp cb bufs turn wb wcap (fun j => if j = m then v else f j) := by
  have hwb := (h.row.lt wb rfl).1
  obtain ⟨r1, r2⟩ := h.row.stored m (.int .i64 v)
  rw [wl_set] at r1
  refine ⟨h.tap.keep h.lt fun x hx => Below.heap_setCell _ _ _ _ (by show x ≠ wb; omega), h.lt, r1, h.below.setCell (by show W.heap.size ≤ wb; have := h.b1.1; omega) _, ⟨h.b1.1, by simpa [World.setCell] using h.b1.2⟩, h.k8, h.turn⟩
set_option maxHeartbeats 400000 in
theorem fair_walk (a : Nat) (ha : a < 256) (ad : Option Addr) (lb off len cap : Nat) (zs : Nat → Nat) (hz : ∀ i, zs i < 256) (hlen : len ≤ maxLen) (had : 0 < len → ad = some ⟨lb, off, none⟩) (w : World)
    (hcell : ∀ i, i < len → w.cell? ⟨lb, off + i, none⟩ = some (.int .u8 (zs i))) :
    Calls Try.prog 3 #[.int .u8 a, .slice ad len cap] w fun e w' => e = .returned (.bool true) ∧ Below w.heap.size w w' := by
  obtain ⟨i0, hi, hz0, hz1, hz2⟩ := info_parts Try.info3
  have HC : Hid (∀ i, i < len → w.cell? ⟨lb, off + i, none⟩ = some (.int .u8 (zs i))) := hcell
  have HZ : Hid (∀ i, zs i < 256) := hz
  clear hcell hz
  go_enter Try.func3, Try.ntmps3
  go_wp2_with fail
  have e1 : (1 + (a : Int) % 8) = ((1 + a % 8 : Nat) : Int) := by omega
  rw [e1]
  have k1 : 1 ≤ 1 + a % 8 := by omega
  have k2 : 1 + a % 8 ≤ 8 := by omega
  generalize 1 + a % 8 = k at *
  refine (new_calls (r := 64) k1 k2 (by omega) (by omega) w).mono ?_
  rintro e w1 ⟨tb, pb, cp, cb, rfl, ht, hbl⟩
  have HT : Hid _ := ht
  have HB : Hid _ := hbl
  clear ht hbl
  go_wp2_with (at_make; refine wpList_make_full _ rfl _ _ 27 rfl w1.heap.size 3 i0 (.int .i64 0) 1 Try.underlying27 hi hz0 hz1 .i64 .i64 _ _ k rfl rfl rfl rfl (by rw [hz2]; omega) (by unfold maxLen; omega) (Nat.le_refl _) ?_; intro w0 hown0 hgrow0)
  rw [made_zero] at hown0
  have HS : Sc w w0 w1.heap.size tb pb k cp cb (fun _ => #[]) 0 w1.heap.size k (fun _ => 0) := by
    have ht := HT.out
    have hb1 : Below w1.heap.size w1 w0 := (Below.refl _ _).grown hgrow0 (Nat.le_refl _) (fun k h => by cases h)
    have hlt : tb < w1.heap.size ∧ pb < w1.heap.size ∧ ∀ j, j < k → cb j < w1.heap.size := ⟨cell_lt ht.pipes, cell_lt (ht.ch 0 (by omega)), fun j hj => by
      obtain ⟨s, r, q⟩ := ht.chan j hj
      exact (Array.getElem?_eq_some_iff.1 q).1⟩
    exact ⟨ht.keep hlt fun x hx => hb1.block x hx, hlt, hown0, HB.out.trans (hb1.mono HB.out.size), ⟨HB.out.size, hb1.size⟩, ⟨k1, k2⟩, by omega⟩
  have HS2 : Hid _ := HS
  clear HS hown0 hgrow0
  go_wp2_with fail
  go_loopw [9] (fun i wr => ∃ (m : Nat) (bufs : Nat → Array Value) (turn : Nat) (f : Nat → Nat), m ≤ len ∧ m ≤ 200 ∧ i = .int .i64 m ∧ Hid (Sc w wr w1.heap.size tb pb k cp cb bufs turn w1.heap.size k f) ∧ Hid (Fair k turn f)) (fun i _ => 200 - (intOf i).toNat)
  case atStart => exact ⟨0, _, 0, _, Nat.zero_le _, Nat.zero_le _, rfl, HS2.out, fun j hj => by have := Nat.mod_lt (j + k - 0) (show 0 < k by omega); omega⟩
  case round =>
    obtain ⟨m, bufs, turn, f, hm, hm2, rfl, hsc, hfair⟩ := hrel
    clear HS2
    by_cases hlt : m < len
    · by_cases hlt2 : m < 200
      · obtain rfl := had (by omega)
        have hx : wr.cell? ⟨lb, off + m, none⟩ = some (.int .u8 (zs m)) := (hsc.out.below.cell (cell_lt (HC.out m hlt))).trans (HC.out m hlt)
        have hzm := HZ.out m
        generalize zs m = x at *
        by_cases hev : x % 2 = 0
        · have hev2 : (x : Int) % 2 = 0 := by omega
          have e3 : (x : Int) / 2 % (k : Int) = ((x / 2 % k : Nat) : Int) := by push_cast; rfl
          have hpk : x / 2 % k < k := Nat.mod_lt _ (by omega)
          have hk0 : ((k : Int) == 0) = false := by simp; omega
          have hput := put_fair hsc.out hpk (m : Int)
          generalize x / 2 % k = p at *
          clear hsc
          go_wp2_with fail
          refine hput.mono ?_
          rintro e w2 ⟨x2, bufs', rfl, hs2⟩
          have H2 : Hid _ := hs2
          clear hs2 hput
          go_wp2
          refine ⟨⟨m + 1, bufs', turn, f, by omega, by omega, by go_num, H2, hfair⟩, by simp [intOf]; omega⟩
        · have hev2 : ¬ (x : Int) % 2 = 0 := by omega
          have hcount := counts_fair hsc.out
          clear hsc
          go_wp2_with fail
          refine hcount.mono ?_
          rintro e w2 ⟨g, gcap, CB, rfl, hs2, hrow, hwbCB, hB1CB⟩
          have hnext := next_fair hs2 hfair.out
          have HR : Hid _ := hrow
          have HBC : Hid (w1.heap.size < CB ∧ w1.heap.size ≤ CB) := ⟨hwbCB, hB1CB⟩
          clear hs2 hrow hwbCB hB1CB hcount
          go_wp2_with fail
          refine hnext.mono ?_
          rintro e w3 ⟨p, fc, v0, turn', bufs', rfl, hs3, hfair3, hlt3, hfc, hkeep⟩
          have HR3 : Hid _ := hkeep CB g gcap _ HBC.out.2 HR.out
          have HS3 : Hid _ := hs3
          have HF3 : Hid _ := hfair3
          have HL3 : Hid _ := hlt3
          have HC3 : Hid _ := hfc
          clear hs3 hfair3 hlt3 hfc hkeep HR hnext hfair
          go_wp2_with fail
          go_loopw [14] (fun i wr => ∃ j : Nat, j ≤ k ∧ i = .int .i64 j ∧ Hid (Sc w wr w1.heap.size tb pb k cp cb bufs' turn' w1.heap.size k (fun y => if y < j then waits (fun j => (bufs j).size) p f y else f y)) ∧ Hid (wr.ownsRow CB 3 1 (.slice (some ⟨g, 0, none⟩) k gcap) k (lens bufs k))) (fun i _ => k - (intOf i).toNat)
          case atStart => exact ⟨0, Nat.zero_le _, rfl, by simpa using HS3, HR3⟩
          case round =>
            obtain ⟨j, hj, rfl, hsj, hrj⟩ := hrel
            clear HS3 HR3
            by_cases hjk : j < k
            · have n0 := (hrj.out.cellAt j (by omega)).trans (lens_get bufs hjk)
              have w0c := (hsj.out.row.cellAt j (by omega)).trans (wl_get _ hjk)
              simp only [Nat.lt_irrefl, if_false] at w0c
              have fz := hsj.out.row.frozenAt j
              have hV := HL3.out j hjk
              have hsto := fun v : Nat => hsj.out.store j v
              have hrow2 := fun v : Nat => ownsRow_setCell_below hrj.out (a := ⟨w1.heap.size, j, none⟩) HBC.out.1 (.int .i64 v)
              have hgw : g ≠ w1.heap.size := fun e => by
                have h1 := (hrj.out.lt g rfl).1
                have h2 := HBC.out.1
                omega
              have n0s : ∀ v, (wr.setCell ⟨w1.heap.size, j, none⟩ v).cell? ⟨g, j, none⟩ = some (.int .i64 (bufs j).size) := fun v =>
                (World.cell?_setCell_other _ _ _ _ (by intro e; injection e with e _; exact hgw e.symm)).trans n0
              have hmix : (fun y => if y = j then waits (fun j => (bufs j).size) p f j else if y < j then waits (fun j => (bufs j).size) p f y else f y) = fun y => if y < j + 1 then waits (fun j => (bufs j).size) p f y else f y := by
                funext y
                by_cases e1 : y = j
                · subst e1; simp
                · by_cases e2 : y < j
                  · simp [e1, e2, show y < j + 1 by omega]
                  · simp [e1, e2, show ¬ y < j + 1 by omega]
              have HST := hsto (waits (fun j => (bufs j).size) p f j)
              rw [hmix] at HST
              have HRO := hrow2 (waits (fun j => (bufs j).size) p f j)
              clear hsto hrow2 hmix hsj hrj
              by_cases c1 : 0 < (bufs j).size
              · have d1 : decide (((bufs j).size : Int) > 0) = true := decide_eq_true (by omega)
                obtain rfl : fc = 0 := HC3.out.resolve_right fun h => by have := h j hjk; omega
                by_cases c2 : (j : Int) = p
                · have hw : waits (fun j => (bufs j).size) p f j = 0 := by unfold waits; rw [if_neg fun h => h.2 c2]
                  rw [hw] at HST HRO hV
                  subst c2
                  have HST2 : Hid _ := HST
                  have HRO2 : Hid _ := HRO
                  clear HST HRO HL3 HC3
                  go_wp2
                  go_roundw
                  case rel =>
                    exact ⟨j + 1, by omega, by go_num, HST2, HRO2⟩
                  case measure => simp [intOf]; omega
                · have hw : waits (fun j => (bufs j).size) p f j = f j + 1 := by unfold waits; rw [if_pos ⟨c1, c2⟩]
                  rw [hw] at HST HRO hV
                  have HST2 : Hid _ := HST
                  have HRO2 : Hid _ := HRO
                  clear HST HRO HL3 HC3
                  go_wp2
                  go_roundw
                  case rel =>
                    exact ⟨j + 1, by omega, by go_num, HST2, HRO2⟩
                  case measure => simp [intOf]; omega
              · have d1 : decide (((bufs j).size : Int) > 0) = false := decide_eq_false (by omega)
                have hw : waits (fun j => (bufs j).size) p f j = 0 := by unfold waits; rw [if_neg fun h => c1 h.1]
                rw [hw] at HST HRO hV
                have HST2 : Hid _ := HST
                have HRO2 : Hid _ := HRO
                clear HST HRO HL3 HC3
                go_wp2
                exact ⟨⟨j + 1, by omega, by go_num, HST2, HRO2⟩, by simp [intOf]; omega⟩
            · obtain rfl : j = k := by omega
              clear HL3 HC3
              go_wp2
              refine ⟨⟨m + 1, bufs', turn', _, by omega, by omega, by go_num, hsj, ?_⟩, by simp [intOf]; omega⟩
              intro y hy
              have := HF3.out y hy
              simpa [hy] using this
      · clear hfair
        have H2 := hsc.out.below
        have HB2 : Hid _ := H2
        clear hsc H2
        have d2 : decide ((m : Int) < 200) = false := by simp; omega
        go_wp2_with fail
        refine (awake_calls wr).mono ?_
        rintro e w2 ⟨rfl, hb2⟩
        have HB3 : Hid _ := hb2
        clear hb2
        go_wp2
        go_ret
        exact ⟨rfl, HB2.out.trans (HB3.out.mono HB2.out.size)⟩
    · clear hfair
      have H2 := hsc.out.below
      have HB2 : Hid _ := H2
      clear hsc H2
      go_wp2_with fail
      refine (awake_calls wr).mono ?_
      rintro e w2 ⟨rfl, hb2⟩
      have HB3 : Hid _ := hb2
      clear hb2
      go_wp2
      go_ret
      exact ⟨rfl, HB2.out.trans (HB3.out.mono HB2.out.size)⟩

section
open Go.ChangeShapes Go.WideShapes Go.ChangeAt
theorem own : ownKnob Try.prog.godebug = none := by kernel_rfl
theorem laidOut : laidOutB Try.prog = true := by kernel_rfl
theorem cells5 : Try.prog.cellsOf 5 = 1 := by kernel_rfl
theorem reads3 : ∀ t ∈ Try.f3.params.toList, Try.prog.readableRec t = true ∧ t < Try.prog.types.size := by
  rw [Try.params3]
  intro t ht
  simp at ht; rcases ht with rfl | rfl
  · exact ⟨by kernel_rfl, of_decide_eq_true (by kernel_rfl)⟩
  · exact ⟨by kernel_rfl, of_decide_eq_true (by kernel_rfl)⟩
theorem u8_nat {a : Int} (h : (Lit.int .u8 a).wf = true) : ∃ n : Nat, a = n ∧ n < 256 := by
  have hx : 0 ≤ a ∧ a ≤ 255 := by simpa [Lit.wf, IntKind.min, IntKind.max, IntKind.signed, IntKind.bits] using h
  exact ⟨a.toNat, by omega, by omega⟩
theorem u8s_nat (zs : List Int) (h : ∀ n ∈ zs, (Lit.int .u8 n).wf = true) (i : Nat) : ∃ n : Nat, zs.getD i 0 = n ∧ n < 256 := by
  by_cases hi : i < zs.length
  · have e : zs.getD i 0 = zs[i] := by simp [List.getD, hi]
    exact u8_nat (by rw [e]; exact h _ (List.getElem_mem hi))
  · exact ⟨0, by simp [List.getD, List.getElem?_eq_none (Nat.le_of_not_lt hi)], by omega⟩

theorem lifted (os : Os) (started : os.Started) (H : Type) (enc : TypeId × Value → H) :
    ReturnsInHanded {} Try.checked os 3 .any (Rows.tapFairSpec.pre6 enc Try.prog Try.f3 Rows.tapFairRow.domain false) (Rows.tapFairSpec.post enc Try.prog Try.f3 false true false false) := by
  refine returnsInHanded_of_change (C := Try.checked) own started (by kernel_rfl) Try.func3
    (ChangeSpec.witness6 (enc := enc) (C := Try.checked) false ⟨#[], #[.int .u8 0, .slice none 0 0], []⟩ 8 (by kernel_rfl) (by kernel_rfl) (by kernel_rfl) (by kernel_rfl)) ?_
  intro W base args ds gs before hval0 hW _ _
  have hval : ∀ (j : Nat) t v, Try.f3.params[j]? = some t → args[j]? = some v → Value.okWide Try.prog W .any base t v := hval0
  have hW1 := hW
  obtain ⟨p, q, hA0, hV, rfl, hfz, hnd⟩ := hW1
  have hA : DataW.TrodAll enc Try.prog W 0 (fun _ => true) true Try.f3.params.toList args.toList ds p := hA0
  rw [Try.params3] at hA hval
  obtain ⟨v0, vs0, d0, ds0, p0, q0, hargs, rfl, rfl, h0, r0⟩ := trodAll_cons hA
  obtain ⟨v1, vs1, d1, ds1, p1, q1, rfl, rfl, rfl, h1, r1⟩ := trodAll_cons r0
  obtain ⟨rfl, rfl, rfl⟩ := trodAll_nil r1
  obtain rfl : args = #[v0, v1] := by cases args; simp_all
  obtain ⟨a0, rfl, rfl, rfl, w0⟩ := open_int Try.underlying5 (hval 0 5 v0 rfl rfl) h0
  obtain ⟨n0, rfl, l0⟩ := u8_nat w0
  obtain ⟨sa, len, cap, rfl⟩ := okWide_slice Try.underlying22 (hval 1 22 v1 rfl rfl)
  obtain ⟨fuel, hf⟩ := h1
  have hc : (Value.slice sa len cap).cells.toList = [Value.slice sa len cap] := rfl
  rw [hc] at hf
  rcases open_ints Try.underlying22 Try.underlying5 cells5 hf with ⟨hcs, hx⟩ | ⟨a, len', cap', zs, hcs, hb, hle, hmax, hzl, hx, hcell, hwf⟩
  · cases hcs
    exact contract_of_law hW rfl rfl laidOut reads3 (by kernel_rfl) Try.underlying4
      (fair_walk n0 l0 none 0 0 0 0 (fun _ => 0) (fun _ => by omega) (by omega) (fun h => absurd h (by omega)) W (fun i h => absurd h (by omega)))
  · cases hcs
    have hll : len ≤ zs.length := by
      rw [hzl]; split <;> omega
    have hnat := u8s_nat zs hwf
    have hplain : 0 < len → a = ⟨a.block, a.off, none⟩ := by
      intro h
      have h2 := hcell 0 (by omega)
      unfold World.cell? at h2
      cases a with
      | mk b o sp =>
        cases sp with
        | none => rfl
        | some s =>
          have e : ((⟨b, o, some s⟩ : Addr).add 0).spot.isSome = true := by unfold Addr.add; split <;> simp_all
          revert h2
          split
          · rw [if_pos e]; intro h2; cases h2
          · intro h2; cases h2
    exact contract_of_law hW rfl rfl laidOut reads3 (by kernel_rfl) Try.underlying4
      (fair_walk n0 l0 (some a) a.block a.off len cap (fun i => (hnat i).choose) (fun i => (hnat i).choose_spec.2) (by omega) (fun h => congrArg some (hplain h)) W (fun i h => by
        have h2 := hcell i (by omega)
        rw [hplain (by omega), (hnat i).choose_spec.1] at h2
        have e : (⟨a.block, a.off, none⟩ : Addr).add i = ⟨a.block, a.off + i, none⟩ := by
          unfold Addr.add; split
          · next h0 => subst h0; rfl
          · rfl
        rw [e] at h2
        exact h2))

theorem tapFair_holds : Rows.TapFairSaid :=
  OpenClaim.holds_of_wide 3 Try.f3 rfl rfl rfl rfl rfl rfl rfl ⟨rfl, rfl, rfl, rfl, rfl⟩ rfl rfl rfl rfl rfl (by kernel_rfl) Try.func3 (by kernel_rfl)
    (of_decide_eq_true (by kernel_rfl)) (by unfold Func.isWrapper; first | (rw [if_pos (by decide +kernel)]; kernel_rfl) | (rw [if_neg (by decide +kernel)]; exact ⟨rfl, rfl⟩))
    (fun os started H enc _ => lifted os started H enc)
end
end Go.Proofs.Ytbnakfpdmiibdaa
