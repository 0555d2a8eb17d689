/- tap.Next. -/
import Derived.Test.YtbnakfpdmiibdaaTapWalk1
import Derived.WalkMore
namespace Go.Proofs.Ytbnakfpdmiibdaa
open Go.Conc Go.RowKit
set_option maxRecDepth 100000

theorem cell_setChan0 {w : World} {c cap s r : Nat} {buf buf' : Array Value} {cl tm : Bool} {s' r' : Nat} {a : Addr} {v : Value} (hc : w.heap[c]? = some (.chan cap buf cl s r tm)) (h : w.cell? a = some v) : (w.setChan c cap buf' cl s' r' tm).cell? a = some v := by
  have hne : a.block ≠ c := fun e => by
    unfold World.cell? at h
    rw [e, hc] at h
    cases h
  unfold World.cell? at h ⊢
  have : (w.setChan c cap buf' cl s' r' tm).heap[a.block]? = w.heap[a.block]? := by
    simp only [World.setChan]; rw [Array.getElem?_setIfInBounds_ne (fun e => hne e.symm)]
  rw [this]; exact h
theorem frozen_setChan0 {w : World} {c cap s r : Nat} {buf buf' : Array Value} {cl tm : Bool} {s' r' : Nat} {a : Addr} {v : Value} (hc : w.heap[c]? = some (.chan cap buf cl s r tm)) (h : w.cell? a = some v) : (w.setChan c cap buf' cl s' r' tm).frozen? a = w.frozen? a := by
  have hne : a.block ≠ c := fun e => by
    unfold World.cell? at h
    rw [e, hc] at h
    cases h
  unfold World.frozen?
  have : (w.setChan c cap buf' cl s' r' tm).heap[a.block]? = w.heap[a.block]? := by
    simp only [World.setChan]; rw [Array.getElem?_setIfInBounds_ne (fun e => hne e.symm)]
  rw [this]

/-- a number is drawn: the first i pipes behind the turn are empty, the next is not -/
theorem next_some (b pb k cp room turn i : Nat) (cb : Nat → Nat) (bufs : Nat → Array Value) (w : World) (h0 : w.cell? ⟨b, 0, none⟩ = some (.slice (some ⟨pb, 0, none⟩) k cp)) (h1 : w.cell? ⟨b, 1, none⟩ = some (.int .i64 turn)) (hf : w.frozen? ⟨b, 1, none⟩ = false)
    (hk : k ≤ 8) (ht : turn < k) (hi : i < k)
    (hch : ∀ j, j < k → w.cell? ⟨pb, j, none⟩ = some (.chan (some (cb j)))) (hc : ∀ j, j < k → ∃ s r, w.heap[cb j]? = some (.chan room (bufs j) false s r false))
    (hemp : ∀ j, j < i → bufs ((turn + j) % k) = #[]) (hne : 0 < (bufs ((turn + i) % k)).size) :
    Calls Try.prog 10 #[.pointer (some ⟨b, 0, none⟩)] w fun e w' => ∃ s r, w.heap[cb ((turn + i) % k)]? = some (.chan room (bufs ((turn + i) % k)) false s r false) ∧
      e = .returned (.tuple #[.int .i64 ((turn + i) % k : Nat), (bufs ((turn + i) % k)).getD 0 undef, .int .i64 0]) ∧
      w' = (w.setChan (cb ((turn + i) % k)) room ((bufs ((turn + i) % k)).extract 1 (bufs ((turn + i) % k)).size) false s (r + 1) false).setCell ⟨b, 1, none⟩ (.int .i64 (((turn + i) % k + 1) % k : Nat)) := by
  have hcount := count_ok b _ k cp w h0
  go_enter Try.func10, Try.ntmps10
  go_wp2
  go_step3
  go_wp2_with (go_at_call 19; refine hcount.mono ?_; rintro e w' ⟨rfl, rfl⟩)
  go_step3
  go_wp2
  go_loop [13] (fun x => ∃ m : Nat, m ≤ i ∧ x = .int .i64 m) (fun x => k - (intOf x).toNat)
  case atStart => exact ⟨0, Nat.zero_le _, rfl⟩
  case round =>
    obtain ⟨m, hm, rfl⟩ := hrel
    have hmk : m < k := by omega
    have hP : ((turn : Int) + (m : Int)) % (k : Int) = (((turn + m) % k : Nat) : Int) := by push_cast; rfl
    have hPk : (turn + m) % k < k := Nat.mod_lt _ (by omega)
    have hchP := hch _ hPk
    obtain ⟨s, r, hcP⟩ := hc _ hPk
    have hk0 : ((k : Int) == 0) = false := by simp; omega
    by_cases hlt : m < i
    · have hz := hemp m hlt
      rw [hz] at hcP
      have hrc := recv_none (cb ((turn + m) % k)) room s r false w' hcP
      generalize (turn + m) % k = P at *
      clear hcP hne hemp hc hch
      go_wp2_with (go_at_call 21; refine hrc.mono ?_; rintro e w1 ⟨rfl, rfl⟩)
      go_round
      case rel => exact ⟨m + 1, by omega, by go_num⟩
      case measure => simp [intOf]; omega
    · obtain rfl : m = i := by omega
      have hrc := recv_some (cb ((turn + m) % k)) room s r false (bufs ((turn + m) % k)) _ w' hcP hne rfl
      have HC : Hid (w'.heap[cb ((turn + m) % k)]? = some (.chan room (bufs ((turn + m) % k)) false s r false)) := hcP
      have hst : ((((turn + m) % k : Nat) : Int) + 1) % (k : Int) = ((((turn + m) % k + 1) % k : Nat) : Int) := by push_cast; rfl
      have hcell := cell_setChan0 (buf' := (bufs ((turn + m) % k)).extract 1 (bufs ((turn + m) % k)).size) (s' := s) (r' := r + 1) hcP h1
      have hfz := (frozen_setChan0 (buf' := (bufs ((turn + m) % k)).extract 1 (bufs ((turn + m) % k)).size) (s' := s) (r' := r + 1) hcP h1).trans hf
      have HQ : Hid (∃ s2 r2, w'.heap[cb ((turn + m) % k)]? = some (.chan room (bufs ((turn + m) % k)) false s2 r2 false) ∧ w'.setChan (cb ((turn + m) % k)) room ((bufs ((turn + m) % k)).extract 1 (bufs ((turn + m) % k)).size) false s (r + 1) false =
        w'.setChan (cb ((turn + m) % k)) room ((bufs ((turn + m) % k)).extract 1 (bufs ((turn + m) % k)).size) false s2 (r2 + 1) false) := ⟨s, r, hcP, rfl⟩
      clear HC hcP
      generalize hW1 : w'.setChan (cb ((turn + m) % k)) room ((bufs ((turn + m) % k)).extract 1 (bufs ((turn + m) % k)).size) false s (r + 1) false = W1 at *
      clear hW1
      generalize hv0 : (bufs ((turn + m) % k)).getD 0 undef = v0 at *
      generalize hN : ((turn + m) % k + 1) % k = Nx at *
      clear hne hemp hc hch
      generalize hPe : (turn + m) % k = P at *
      have HP : Hid ((turn + m) % k = P) := hPe
      have HV : Hid ((bufs P).getD 0 undef = v0) := hv0
      have HN : Hid ((P + 1) % k = Nx) := hN
      clear hPe hv0 hN
      go_wp2_with (go_at_call 21; refine hrc.mono ?_; rintro e w1 ⟨rfl, rfl⟩)
      rw [Exit.noGoto_ret]
      go_ret3
      rw [HP.out]
      obtain ⟨s2, r2, q1, q2⟩ := HQ.out
      refine ⟨s2, r2, q1, ?_, ?_⟩
      · rw [HV.out]; rfl
      · rw [HN.out, q2]

/-- nothing is drawn: all pipes are empty -/
theorem next_none (b pb k cp room turn : Nat) (cb : Nat → Nat) (bufs : Nat → Array Value) (w : World) (h0 : w.cell? ⟨b, 0, none⟩ = some (.slice (some ⟨pb, 0, none⟩) k cp)) (h1 : w.cell? ⟨b, 1, none⟩ = some (.int .i64 turn))
    (hk : k ≤ 8) (ht : turn < k)
    (hch : ∀ j, j < k → w.cell? ⟨pb, j, none⟩ = some (.chan (some (cb j)))) (hc : ∀ j, j < k → ∃ s r, w.heap[cb j]? = some (.chan room (bufs j) false s r false))
    (hemp : ∀ j, j < k → bufs j = #[]) :
    Calls Try.prog 10 #[.pointer (some ⟨b, 0, none⟩)] w fun e w' => e = .returned (.tuple #[.int .i64 (-1), .int .i64 0, .int .i64 5]) ∧ w' = w := by
  have hcount := count_ok b _ k cp w h0
  go_enter Try.func10, Try.ntmps10
  go_wp2
  go_step3
  go_wp2_with (go_at_call 19; refine hcount.mono ?_; rintro e w' ⟨rfl, rfl⟩)
  go_step3
  go_wp2
  go_loop [13] (fun x => ∃ m : Nat, m ≤ k ∧ x = .int .i64 m) (fun x => k - (intOf x).toNat)
  case atStart => exact ⟨0, Nat.zero_le _, rfl⟩
  case round =>
    obtain ⟨m, hm, rfl⟩ := hrel
    by_cases hmk : m < k
    · have hP : ((turn : Int) + (m : Int)) % (k : Int) = (((turn + m) % k : Nat) : Int) := by push_cast; rfl
      have hPk : (turn + m) % k < k := Nat.mod_lt _ (by omega)
      have hchP := hch _ hPk
      obtain ⟨s, r, hcP⟩ := hc _ hPk
      have hk0 : ((k : Int) == 0) = false := by simp; omega
      have hz := hemp _ hPk
      rw [hz] at hcP
      have hrc := recv_none (cb ((turn + m) % k)) room s r false w' hcP
      generalize (turn + m) % k = P at *
      clear hcP hemp hc hch
      go_wp2_with (go_at_call 21; refine hrc.mono ?_; rintro e w1 ⟨rfl, rfl⟩)
      go_round
      case rel => exact ⟨m + 1, by omega, by go_num⟩
      case measure => simp [intOf]; omega
    · obtain rfl : m = k := by omega
      clear hemp hc hch
      go_wp2
      go_ret3
      exact ⟨rfl, rfl⟩
end Go.Proofs.Ytbnakfpdmiibdaa
