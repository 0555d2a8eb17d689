/- tap.Counts. -/
import Derived.Test.YtbnakfpdmiibdaaTapWalk2
import Derived.OwnWalk
namespace Go.Proofs.Ytbnakfpdmiibdaa
open Go.Conc Go.RowKit
set_option maxRecDepth 100000
theorem Try.info3 : (Try.prog.info? 3).map (fun i => (i.zero, i.size, i.bytes)) = some (some (.int .i64 0), 1, 8) := by kernel_rfl
/-- how many are in each pipe -/
def lens (bufs : Nat → Array Value) (k : Nat) : List Value := (List.range k).map fun j => .int .i64 (bufs j).size
theorem lens_succ (bufs : Nat → Array Value) (m : Nat) : lens bufs (m + 1) = lens bufs m ++ [.int .i64 (bufs m).size] := by
  unfold lens; rw [List.range_succ, List.map_append]; rfl
theorem cell_lt {w : World} {a : Addr} {v : Value} (h : w.cell? a = some v) : a.block < w.heap.size := by
  unfold World.cell? at h
  apply Nat.lt_of_not_le
  intro hle
  rw [Array.getElem?_eq_none hle] at h
  cases h
set_option maxHeartbeats 400000 in
theorem counts_walk (B b pb k cp room : Nat) (cb : Nat → Nat) (bufs : Nat → Array Value) (w : World) (h0 : w.cell? ⟨b, 0, none⟩ = some (.slice (some ⟨pb, 0, none⟩) k cp)) (hk : k ≤ 8) (hB : B ≤ w.heap.size)
    (hch : ∀ j, j < k → w.cell? ⟨pb, j, none⟩ = some (.chan (some (cb j)))) (hc : ∀ j, j < k → ∃ s r, w.heap[cb j]? = some (.chan room (bufs j) false s r false)) :
    Calls Try.prog 9 #[.pointer (some ⟨b, 0, none⟩)] w fun e w' => ∃ v, e = .returned v ∧ w'.ownsRow w.heap.size 3 1 v k (lens bufs k) ∧ Below w.heap.size w w' := by
  have hcount := count_ok b _ k cp w h0
  obtain ⟨i0, hi, hz0, hz1, hz2⟩ := info_parts Try.info3
  go_enter Try.func9, Try.ntmps9
  go_wp2_with (go_at_call 19; refine hcount.mono ?_; rintro e w' ⟨rfl, rfl⟩)
  go_loopw [3, 7] (fun v i wr => ∃ m : Nat, m ≤ k ∧ i = .int .i64 m ∧ wr.ownsRow w'.heap.size 3 1 v m (lens bufs m) ∧ Below w'.heap.size w' wr) (fun _ i _ => k - (intOf i).toNat)
  case atStart => exact ⟨0, Nat.zero_le _, rfl, by first | exact ownsRow_nil _ _ _ | simp [lens, World.ownsRow], Below.refl _ _⟩
  case round =>
    obtain ⟨m, hm, rfl, hown, hbl⟩ := hrel
    by_cases hlt : m < k
    · obtain ⟨s, r, hcm⟩ := hc m hlt
      have g0 : wr.cell? ⟨b, 0, none⟩ = some (.slice (some ⟨pb, 0, none⟩) k cp) := (hbl.cell (cell_lt h0)).trans h0
      have gm : wr.cell? ⟨pb, m, none⟩ = some (.chan (some (cb m))) := (hbl.cell (cell_lt (hch m hlt))).trans (hch m hlt)
      have hln : (Builtin.len_ #[55] 3 #[.chan (some (cb m))]).run Try.prog wr = .ok (.int .i64 (bufs m).size) wr := len_chan ((hbl.block _ (Array.getElem?_eq_some_iff.1 hcm).1).trans hcm)
      have hsz := hbl.size
      clear hch hc hcm h0 hcount
      go_wp2_with (first
        | (at_builtin; refine wpList_append_own _ rfl _ _ 27 rfl w'.heap.size 3 i0 (.int .i64 0) 1 8 Try.underlying27 hi hz0 hz1 hz2 rfl (by decide) _ _ _ rfl (hown.alloc _) ⟨wr.heap.size, 0, none⟩ 1 1 [.int .i64 (bufs m).size] rfl rfl ?c1 ?c2 ?c3 ?c4 ?c5 ?_))
      case c1 =>
        intro j u hj
        match j, hj with
        | 0, hj => simp at hj; subst hj; simp [Addr.add]
      case c2 => intro u hu; simp at hu; subst hu; rfl
      case c3 => unfold maxLen; omega
      case c4 => omega
      case c5 => simp; omega
      · intro v' w1 hown' hgrow _
        have hb1 : Below w'.heap.size w' w1 := by
          refine (hbl.alloc hsz _).grown hgrow (by simp; omega) fun x hx => ?_
          exact (hown.lt x hx).1
        have HO : Hid (w1.ownsRow w'.heap.size 3 1 v' (m + 1) (lens bufs m ++ [.int .i64 (bufs m).size])) := hown'
        have HB : Hid _ := hb1
        clear hown' hgrow hown hbl hb1 hln
        go_wp2
        go_roundw
        case rel => exact ⟨m + 1, by omega, by go_num, by have := HO.out; rw [lens_succ]; exact this, HB.out⟩
        case measure => simp [intOf]; omega
    · obtain rfl : m = k := by omega
      clear hch hc hcount
      have HO : Hid _ := hown
      have HB : Hid _ := hbl
      clear hown hbl
      go_wp2
      go_ret
      exact ⟨_, rfl, HO.out, HB.out⟩
end Go.Proofs.Ytbnakfpdmiibdaa
