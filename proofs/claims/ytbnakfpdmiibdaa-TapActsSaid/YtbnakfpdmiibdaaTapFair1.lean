/- The theorem of turns: the reckoning, and what stays in memory. -/
import Derived.Test.YtbnakfpdmiibdaaTapSpreads
import Derived.Test.YtbnakfpdmiibdaaTapWalk2
import Derived.Test.YtbnakfpdmiibdaaTapWalk3
namespace Go.Proofs.Ytbnakfpdmiibdaa
open Go.Conc Go.RowKit
set_option maxRecDepth 100000

/-- how long each has waited, against how far it stands from the turn -/
def Fair (k turn : Nat) (f : Nat → Nat) : Prop := ∀ j, j < k → f j + (j + k - turn) % k ≤ k - 1
/-- behind a draw from pipe p -/
def waits (len : Nat → Nat) (p : Int) (f : Nat → Nat) : Nat → Nat := fun j => if 0 < len j ∧ (j : Int) ≠ p then f j + 1 else 0

theorem dist_eq {k turn j : Nat} (ht : turn < k) (hj : j < k) : (j + k - turn) % k = if turn ≤ j then j - turn else j + k - turn := by
  by_cases h : turn ≤ j
  · rw [if_pos h, show j + k - turn = (j - turn) + k by omega, Nat.add_mod_right]
    exact Nat.mod_eq_of_lt (by omega)
  · rw [if_neg h]
    exact Nat.mod_eq_of_lt (by omega)
theorem mod_eq {k turn i : Nat} (ht : turn < k) (hi : i < k) : (turn + i) % k = if turn + i < k then turn + i else turn + i - k := by
  by_cases h : turn + i < k
  · rw [if_pos h]; exact Nat.mod_eq_of_lt h
  · rw [if_neg h, show turn + i = (turn + i - k) + k by omega, Nat.add_mod_right]
    rw [show turn + i - k + k - k = turn + i - k by omega]
    exact Nat.mod_eq_of_lt (by omega)
theorem succ_mod {k p : Nat} (hp : p < k) : (p + 1) % k = if p + 1 < k then p + 1 else 0 := by
  by_cases h : p + 1 < k
  · rw [if_pos h]; exact Nat.mod_eq_of_lt h
  · rw [if_neg h, show p + 1 = k by omega, Nat.mod_self]
theorem Fair.some {k turn i : Nat} {f : Nat → Nat} {len : Nat → Nat} (h : Fair k turn f) (ht : turn < k) (hi : i < k) (hemp : ∀ j, j < i → len ((turn + j) % k) = 0) :
    Fair k (((turn + i) % k + 1) % k) (waits len ((turn + i) % k : Nat) f) ∧ ∀ j, j < k → waits len ((turn + i) % k : Nat) f j < k := by
  have hp : (turn + i) % k < k := Nat.mod_lt _ (by omega)
  have ht' : ((turn + i) % k + 1) % k < k := Nat.mod_lt _ (by omega)
  have key : ∀ j, j < k → waits len ((turn + i) % k : Nat) f j + (j + k - ((turn + i) % k + 1) % k) % k ≤ k - 1 := by
    intro j hj
    have hd : (j + k - ((turn + i) % k + 1) % k) % k < k := Nat.mod_lt _ (by omega)
    unfold waits
    split
    · rename_i hc
      have hf := h j hj
      have hne : j ≠ (turn + i) % k := fun e => hc.2 (by rw [← e])
      -- it stands behind the drawn one
      have hfar : i < (j + k - turn) % k := by
        apply Nat.lt_of_not_le
        intro hle
        have hD := dist_eq ht hj
        by_cases e : (j + k - turn) % k = i
        · apply hne
          have hm := mod_eq ht hi
          split at hD <;> split at hm <;> omega
        · have hlt : (j + k - turn) % k < i := by omega
          have hz := hemp _ hlt
          have hm := mod_eq ht (show (j + k - turn) % k < k by omega)
          have : (turn + (j + k - turn) % k) % k = j := by split at hD <;> split at hm <;> omega
          rw [this] at hz
          omega
      have hD := dist_eq ht hj
      have hD' := dist_eq ht' hj
      have hm := mod_eq ht hi
      have hs := succ_mod hp
      generalize (turn + i) % k = P at *
      generalize (P + 1) % k = P' at *
      generalize (j + k - turn) % k = D at *
      generalize (j + k - P') % k = D' at *
      split at hD <;> split at hD' <;> split at hm <;> split at hs <;> omega
    · omega
  exact ⟨key, fun j hj => by have := key j hj; omega⟩
theorem Fair.none {k turn : Nat} {f : Nat → Nat} {len : Nat → Nat} {p : Int} (ht : turn < k) (hemp : ∀ j, j < k → len j = 0) : Fair k turn (waits len p f) ∧ ∀ j, j < k → waits len p f j = 0 := by
  have key : ∀ j, j < k → waits len p f j = 0 := fun j hj => by
    unfold waits
    rw [if_neg fun h => by rw [hemp j hj] at h; omega]
  refine ⟨fun j hj => ?_, key⟩
  rw [key j hj]
  have := Nat.mod_lt (j + k - turn) (show 0 < k by omega)
  omega
end Go.Proofs.Ytbnakfpdmiibdaa
