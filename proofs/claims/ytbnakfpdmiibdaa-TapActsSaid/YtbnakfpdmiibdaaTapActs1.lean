/- TapActs: the program's Put and Take, and the comparison of numbers. -/
import Derived.Test.YtbnakfpdmiibdaaTapWalk2
import Derived.Test.YtbnakfpdmiibdaaTapWalk3
import Derived.Lib.Hide
namespace Go.Proofs.Ytbnakfpdmiibdaa
open Go.Conc Go.RowKit
set_option maxRecDepth 100000
theorem put_bad (b : Nat) (pa : Option Addr) (k cp : Nat) (p n : Int) (w : World) (h0 : w.cell? ⟨b, 0, none⟩ = some (.slice pa k cp)) (hk : k ≤ 8) (hbad : p < 0 ∨ (k : Int) ≤ p) :
    Calls Try.prog 8 #[.pointer (some ⟨b, 0, none⟩), .int .i64 p, .int .i64 n] w fun e w' => e = .returned (.int .i64 1) ∧ w' = w := by
  have hcount := count_ok b _ k cp w h0
  by_cases h1 : p < 0
  · go_enter Try.func8, Try.ntmps8
    go_wp2_with (go_at_call 19; refine hcount.mono ?_; rintro e w' ⟨rfl, rfl⟩)
    all_goals go_ret
    all_goals exact ⟨rfl, rfl⟩
  · have h2 : p ≥ k := by omega
    have d1 : decide (p < 0) = false := by simpa using h1
    go_enter Try.func8, Try.ntmps8
    go_wp2_with (go_at_call 19; refine hcount.mono ?_; rintro e w' ⟨rfl, rfl⟩)
    all_goals go_ret
    all_goals exact ⟨rfl, rfl⟩
theorem put_full6 (b pb c k cp cap s r p : Nat) (tm : Bool) (buf : Array Value) (n : Int) (w : World) (h0 : w.cell? ⟨b, 0, none⟩ = some (.slice (some ⟨pb, 0, none⟩) k cp))
    (hpk : p < k) (hk : k ≤ 8) (hch : w.cell? ⟨pb, p, none⟩ = some (.chan (some c))) (hc : w.heap[c]? = some (.chan cap buf false s r tm)) (hfull : cap ≤ buf.size) :
    Calls Try.prog 8 #[.pointer (some ⟨b, 0, none⟩), .int .i64 p, .int .i64 n] w fun e w' => e = .returned (.int .i64 6) ∧ w' = w := by
  have hsend := send_full c cap s r tm buf n w hc hfull
  have hcount := count_ok b _ k cp w h0
  have d1 : decide ((p : Int) < 0) = false := by simp
  have d2 : decide ((p : Int) ≥ k) = false := by simp; omega
  clear hc hfull
  go_enter Try.func8, Try.ntmps8
  go_wp2_with (first | (go_at_call 20; refine hsend.mono ?_; rintro e w' ⟨rfl, rfl⟩) | (go_at_call 19; refine hcount.mono ?_; rintro e w' ⟨rfl, rfl⟩))
  all_goals go_ret
  all_goals exact ⟨rfl, rfl⟩
theorem take_bad (b : Nat) (pa : Option Addr) (k cp : Nat) (p : Int) (w : World) (h0 : w.cell? ⟨b, 0, none⟩ = some (.slice pa k cp)) (hk : k ≤ 8) (hbad : p < 0 ∨ (k : Int) ≤ p) :
    Calls Try.prog 14 #[.pointer (some ⟨b, 0, none⟩), .int .i64 p] w fun e w' => e = .returned (.tuple #[.int .i64 0, .int .i64 1]) ∧ w' = w := by
  have hcount := count_ok b _ k cp w h0
  by_cases h1 : p < 0
  · go_enter Try.func14, Try.ntmps14
    go_wp2_with (go_at_call 19; refine hcount.mono ?_; rintro e w' ⟨rfl, rfl⟩)
    all_goals go_ret2
    all_goals exact ⟨rfl, rfl⟩
  · have h2 : p ≥ k := by omega
    have d1 : decide (p < 0) = false := by simpa using h1
    go_enter Try.func14, Try.ntmps14
    go_wp2_with (go_at_call 19; refine hcount.mono ?_; rintro e w' ⟨rfl, rfl⟩)
    all_goals go_ret2
    all_goals exact ⟨rfl, rfl⟩
theorem take_none (b pb c k cp cap s r p : Nat) (tm : Bool) (w : World) (h0 : w.cell? ⟨b, 0, none⟩ = some (.slice (some ⟨pb, 0, none⟩) k cp))
    (hpk : p < k) (hk : k ≤ 8) (hch : w.cell? ⟨pb, p, none⟩ = some (.chan (some c))) (hc : w.heap[c]? = some (.chan cap #[] false s r tm)) :
    Calls Try.prog 14 #[.pointer (some ⟨b, 0, none⟩), .int .i64 p] w fun e w' => e = .returned (.tuple #[.int .i64 0, .int .i64 5]) ∧ w' = w := by
  have hrec := recv_none c cap s r tm w hc
  have hcount := count_ok b _ k cp w h0
  have d1 : decide ((p : Int) < 0) = false := by simp
  have d2 : decide ((p : Int) ≥ k) = false := by simp; omega
  have p0 : (0 : Int) ≤ (p : Int) := by omega
  have p1 : (p : Int) < (k : Int) := by omega
  clear hc
  go_enter Try.func14, Try.ntmps14
  go_wp2_with (first | (go_at_call 21; refine hrec.mono ?_; rintro e w' ⟨rfl, rfl⟩) | (go_at_call 19; refine hcount.mono ?_; rintro e w' ⟨rfl, rfl⟩))
  all_goals go_ret2
  all_goals exact ⟨rfl, rfl⟩
theorem take_some (b pb c k cp cap s r p : Nat) (tm : Bool) (buf : Array Value) (v : Value) (w : World) (h0 : w.cell? ⟨b, 0, none⟩ = some (.slice (some ⟨pb, 0, none⟩) k cp))
    (hpk : p < k) (hk : k ≤ 8) (hch : w.cell? ⟨pb, p, none⟩ = some (.chan (some c))) (hc : w.heap[c]? = some (.chan cap buf false s r tm)) (hsome : 0 < buf.size) (hv : buf.getD 0 undef = v) :
    Calls Try.prog 14 #[.pointer (some ⟨b, 0, none⟩), .int .i64 p] w fun e w' => e = .returned (.tuple #[v, .int .i64 0]) ∧ w' = w.setChan c cap (buf.extract 1 buf.size) false s (r + 1) tm := by
  have hrec := recv_some c cap s r tm buf v w hc hsome hv
  have hcount := count_ok b _ k cp w h0
  have d1 : decide ((p : Int) < 0) = false := by simp
  have d2 : decide ((p : Int) ≥ k) = false := by simp; omega
  have p0 : (0 : Int) ≤ (p : Int) := by omega
  have p1 : (p : Int) < (k : Int) := by omega
  clear hc hsome hv
  generalize w.setChan c cap (buf.extract 1 buf.size) false s (r + 1) tm = w1 at *
  go_enter Try.func14, Try.ntmps14
  go_wp2_with (first | (go_at_call 21; refine hrec.mono ?_; rintro e w' ⟨rfl, rfl⟩) | (go_at_call 19; refine hcount.mono ?_; rintro e w' ⟨rfl, rfl⟩))
  all_goals go_ret2
  all_goals exact ⟨rfl, rfl⟩
set_option maxHeartbeats 400000 in
/-- the same numbers -/
theorem ints_same (x y : Option Addr) (bx ox by' oy n cx cy : Nat) (f : Nat → Int) (w : World) (hn : n ≤ 8) (hx : 0 < n → x = some ⟨bx, ox, none⟩) (hy : 0 < n → y = some ⟨by', oy, none⟩)
    (hcx : ∀ j, j < n → w.cell? ⟨bx, ox + j, none⟩ = some (.int .i64 (f j))) (hcy : ∀ j, j < n → w.cell? ⟨by', oy + j, none⟩ = some (.int .i64 (f j))) :
    Calls Try.prog 18 #[.slice x n cx, .slice y n cy] w fun e w' => e = .returned (.bool true) ∧ Below w.heap.size w w' := by
  have HX : Hid _ := hcx
  have HY : Hid _ := hcy
  clear hcx hcy
  go_enter Try.func18, Try.ntmps18
  go_wp2
  go_loopw [5] (fun i wr => ∃ m q : Nat, m ≤ n ∧ i = .int .i64 m ∧ wr = w.drewN q) (fun i _ => n - (intOf i).toNat)
  case atStart => exact ⟨0, 0, Nat.zero_le _, rfl, rfl⟩
  case round =>
    obtain ⟨m, q, hm, rfl, rfl⟩ := hrel
    by_cases hlt : m < n
    · obtain rfl := hx (by omega)
      obtain rfl := hy (by omega)
      have m0 : (0 : Int) ≤ (m : Int) := by omega
      have m1 : (m : Int) < (n : Int) := by omega
      have a0 := HX.out m hlt
      have a1 := HY.out m hlt
      go_wp2
      go_quiet (fail)
      go_wp2
      go_roundw
      case rel => exact ⟨m + 1, _, by omega, by go_num, rfl⟩
      case measure => simp [intOf]; omega
    · obtain rfl : m = n := by omega
      go_wp2
      go_ret
      exact ⟨rfl, (Below.refl _ _).trans ⟨rfl, rfl, rfl, Nat.le_refl _, fun _ _ => rfl⟩⟩
end Go.Proofs.Ytbnakfpdmiibdaa
