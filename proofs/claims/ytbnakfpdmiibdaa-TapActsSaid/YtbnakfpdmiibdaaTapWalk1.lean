import Derived.Test.YtbnakfpdmiibdaaTapWalk0
import Derived.WalkKit
import Derived.WalkSpells
import Derived.Deep.QuietTactic
import Derived.BigQuiet
import Derived.ChangeAlike
import Derived.LoopTactic
namespace Go.Proofs.Ytbnakfpdmiibdaa
open Go.Conc Go.RowKit
theorem count_ok (b : Nat) (a : Option Addr) (k cp : Nat) (w : World) (h : w.cell? ⟨b, 0, none⟩ = some (.slice a k cp)) :
    Calls Try.prog 19 #[.pointer (some ⟨b, 0, none⟩)] w fun e w' => e = .returned (.int .i64 k) ∧ w' = w := by
  go_enter Try.func19, Try.ntmps19
  go_wp2
  all_goals go_ret
  all_goals exact ⟨rfl, rfl⟩
theorem put_room (b pb c k cp cap s r p : Nat) (tm : Bool) (buf : Array Value) (n : Int) (w : World) (h0 : w.cell? ⟨b, 0, none⟩ = some (.slice (some ⟨pb, 0, none⟩) k cp))
    (hpk : p < k) (hk : k ≤ 8) (hch : w.cell? ⟨pb, p, none⟩ = some (.chan (some c))) (hc : w.heap[c]? = some (.chan cap buf false s r tm)) (hroom : buf.size < cap) :
    Calls Try.prog 8 #[.pointer (some ⟨b, 0, none⟩), .int .i64 p, .int .i64 n] w fun e w' => e = .returned (.int .i64 0) ∧ w' = w.setChan c cap (buf.push (.int .i64 n)) false (s + 1) r tm := by
  have hsend := send_room c cap s r tm buf n w hc hroom
  have hcount := count_ok b _ k cp w h0
  have d1 : decide ((p : Int) < 0) = false := by simp
  have d2 : decide ((p : Int) ≥ k) = false := by simp; omega
  clear hc hroom
  go_enter Try.func8, Try.ntmps8
  go_wp2_with (first | (go_at_call 20; refine hsend.mono ?_; rintro e w' ⟨rfl, rfl⟩) | (go_at_call 19; refine hcount.mono ?_; rintro e w' ⟨rfl, rfl⟩))
  all_goals go_ret
  all_goals exact ⟨rfl, rfl⟩

theorem len_chan {c cap s r : Nat} {buf : Array Value} {w : World} (h : w.heap[c]? = some (.chan cap buf false s r false)) : (Builtin.len_ #[55] 3 #[.chan (some c)]).run Try.prog w = .ok (.int .i64 buf.size) w := by
  simp [Builtin.len_, run_underlying Try.underlying55, getObj, Sem.run, h, goInt]
theorem cap_chan {c cap s r : Nat} {buf : Array Value} {w : World} (h : w.heap[c]? = some (.chan cap buf false s r false)) : (Builtin.cap_ #[55] 3 #[.chan (some c)]).run Try.prog w = .ok (.int .i64 cap) w := by
  simp [Builtin.cap_, run_underlying Try.underlying55, getObj, Sem.run, h, goInt]
/-- which pipe has least, of the first i that are not full -/
def pick (room : Nat) (len : Nat → Nat) : Nat → Option Nat
  | 0 => none
  | i + 1 => match pick room len i with
    | none => if len i < room then some i else none
    | some l => if len i < room ∧ len i < len l then some i else some l
def pickI (x : Option Nat) : Int := match x with | none => -1 | some l => l

theorem pick_lt {room : Nat} {len : Nat → Nat} : ∀ {m l : Nat}, pick room len m = some l → l < m ∧ len l < room
  | 0, l, h => by cases h
  | m + 1, l, h => by
    simp only [pick] at h
    cases hp : pick room len m with
    | none =>
      rw [hp] at h
      simp only at h
      split at h
      · cases h; exact ⟨by omega, by assumption⟩
      · cases h
    | some l' =>
      rw [hp] at h
      simp only at h
      have ih := pick_lt hp
      split at h
      · cases h; rename_i hh; exact ⟨by omega, hh.1⟩
      · cases h; exact ⟨by omega, ih.2⟩

set_option maxHeartbeats 4000000 in
theorem spread_walk (b pb k cp room : Nat) (cb : Nat → Nat) (bufs : Nat → Array Value) (n : Int) (w : World) (h0 : w.cell? ⟨b, 0, none⟩ = some (.slice (some ⟨pb, 0, none⟩) k cp)) (hk : k ≤ 8) (hr : room ≤ 64)
    (hch : ∀ j, j < k → w.cell? ⟨pb, j, none⟩ = some (.chan (some (cb j)))) (hc : ∀ j, j < k → ∃ s r, w.heap[cb j]? = some (.chan room (bufs j) false s r false)) :
    Calls Try.prog 12 #[.pointer (some ⟨b, 0, none⟩), .int .i64 n] w fun e w' =>
      (∃ q, pick room (fun j => (bufs j).size) k = none ∧ e = .returned (.tuple #[.int .i64 (-1), .int .i64 6]) ∧ w' = w.drewN q) ∨
      (∃ q l s r, pick room (fun j => (bufs j).size) k = some l ∧ w.heap[cb l]? = some (.chan room (bufs l) false s r false) ∧ e = .returned (.tuple #[.int .i64 l, .int .i64 0]) ∧
        w' = (w.drewN q).setChan (cb l) room ((bufs l).push (.int .i64 n)) false (s + 1) r false) := by
  have hcount := count_ok b _ k cp w h0
  go_enter Try.func12, Try.ntmps12
  go_wp2_with (go_at_call 19; refine hcount.mono ?_; rintro e w' ⟨rfl, rfl⟩)
  go_loopw [6, 11] (fun l i wr => ∃ m q : Nat, m ≤ k ∧ i = .int .i64 m ∧ l = .int .i64 (pickI (pick room (fun j => (bufs j).size) m)) ∧ wr = w'.drewN q) (fun _ i _ => k - (intOf i).toNat)
  case atStart => exact ⟨0, 0, Nat.zero_le _, rfl, rfl, rfl⟩
  case round =>
    obtain ⟨m, q, hm, rfl, rfl, rfl⟩ := hrel
    by_cases hlt : m < k
    · obtain ⟨s, r, hcm⟩ := hc m hlt
      have hchm := hch m hlt
      go_wp2
      have hln : ∀ N, (Builtin.len_ #[55] 3 #[.chan (some (cb m))]).run Try.prog (w'.drewN N) = .ok (.int .i64 (bufs m).size) (w'.drewN N) := fun N => len_chan (w := w'.drewN N) hcm
      have hcp : ∀ N, (Builtin.cap_ #[55] 3 #[.chan (some (cb m))]).run Try.prog (w'.drewN N) = .ok (.int .i64 room) (w'.drewN N) := fun N => cap_chan (w := w'.drewN N) hcm
      by_cases hfull : (bufs m).size < room
      · have d1 : decide (((bufs m).size : Int) < (room : Int)) = true := by simpa using hfull
        cases hp : pick room (fun j => (bufs j).size) m with
        | none =>
          have hp1 : pick room (fun j => (bufs j).size) (m + 1) = some m := by simp only [pick, hp]; rw [if_pos hfull]
          simp only [pickI]
          go_quiet (fail)
          go_wp2
          go_roundw
          case rel => exact ⟨m + 1, _, by omega, by go_num, by rw [hp1]; rfl, rfl⟩
          case measure => simp [intOf]; omega
        | some l =>
          obtain ⟨hlm, hlr⟩ := pick_lt hp
          obtain ⟨s2, r2, hcl⟩ := hc l (by omega)
          have hchl := hch l (by omega)
          have d3 : decide ((l : Int) < 0) = false := by simp
          have hln2 : ∀ N, (Builtin.len_ #[55] 3 #[.chan (some (cb l))]).run Try.prog (w'.drewN N) = .ok (.int .i64 (bufs l).size) (w'.drewN N) := fun N => len_chan (w := w'.drewN N) hcl
          have hl0 : (0 : Int) ≤ (l : Int) := by omega
          have hl1 : (l : Int) < (k : Int) := by omega
          have hl2 : l < k := by omega
          simp only [pickI]
          by_cases hless : (bufs m).size < (bufs l).size
          · have d2 : decide (((bufs m).size : Int) < ((bufs l).size : Int)) = true := by simpa using hless
            have hp1 : pick room (fun j => (bufs j).size) (m + 1) = some m := by simp only [pick, hp]; rw [if_pos ⟨hfull, hless⟩]
            go_quiet (fail)
            go_wp2
            go_roundw
            case rel => exact ⟨m + 1, _, by omega, by go_num, by rw [hp1]; rfl, rfl⟩
            case measure => simp [intOf]; omega
          · have d2 : decide (((bufs m).size : Int) < ((bufs l).size : Int)) = false := by simpa using hless
            have hp1 : pick room (fun j => (bufs j).size) (m + 1) = some l := by simp only [pick, hp]; rw [if_neg fun h => hless h.2]
            go_quiet (fail)
            go_wp2
            go_roundw
            case rel => exact ⟨m + 1, _, by omega, by go_num, by rw [hp1]; rfl, rfl⟩
            case measure => simp [intOf]; omega
      · have d1 : decide (((bufs m).size : Int) < (room : Int)) = false := by simpa using hfull
        have hp1 : pick room (fun j => (bufs j).size) (m + 1) = pick room (fun j => (bufs j).size) m := by
          simp only [pick]
          cases pick room (fun j => (bufs j).size) m with
          | none => simp only; rw [if_neg hfull]
          | some l => simp only; rw [if_neg fun h => hfull h.1]
        go_quiet (fail)
        go_wp2
        go_roundw
        case rel => exact ⟨m + 1, _, by omega, by go_num, by rw [hp1], rfl⟩
        case measure => simp [intOf]; omega
    · obtain rfl : m = k := by omega
      cases hp : pick room (fun j => (bufs j).size) m with
      | none =>
        simp only [pickI]
        go_wp2
        go_ret2
        exact .inl ⟨q, by rw [hp], rfl, rfl⟩
      | some l =>
        obtain ⟨hlm, hlr⟩ := pick_lt hp
        obtain ⟨s, r, hcl⟩ := hc l hlm
        have hput := put_room b pb (cb l) m cp room s r l false (bufs l) n (w'.drewN q) h0 hlm hk (hch l hlm) hcl hlr
        have d3 : decide ((l : Int) < 0) = false := by simp
        simp only [pickI]
        go_wp2_with (go_at_call 8; refine hput.mono ?_; rintro e w' ⟨rfl, rfl⟩)
        go_ret2
        exact .inr ⟨q, l, s, r, hp, hcl, rfl, rfl⟩
end Go.Proofs.Ytbnakfpdmiibdaa
