/- TapSpreads answers true whatever its three arguments are: no condition. -/
import Derived.Test.YtbnakfpdmiibdaaTapNew2
import Derived.ProofKit
namespace Go.Proofs.Ytbnakfpdmiibdaa
open Go.Conc Go.RowKit Go.ChangeShapes Go.WideShapes Go.ChangeAt Go.AE
set_option maxRecDepth 100000

/-! ### the tap behind a number that came in -/
theorem cell_setChan {w : World} {c cap s r : Nat} {buf buf' : Array Value} {cl tm : Bool} {s' r' : Nat} {a : Addr} {v : Value} (hc : w.heap[c]? = some (.chan cap buf cl s r tm)) (h : w.cell? a = some v) : (w.setChan c cap buf' cl s' r' tm).cell? a = some v := by
  have hne : a.block ≠ c := fun e => by
    unfold World.cell? at h
    rw [e, hc] at h
    cases h
  unfold World.cell? at h ⊢
  have : (w.setChan c cap buf' cl s' r' tm).heap[a.block]? = w.heap[a.block]? := by
    simp only [World.setChan]; rw [Array.getElem?_setIfInBounds_ne (fun e => hne e.symm)]
  rw [this]; exact h
theorem frozen_setChan {w : World} {c cap s r : Nat} {buf buf' : Array Value} {cl tm : Bool} {s' r' : Nat} {a : Addr} {v : Value} (hc : w.heap[c]? = some (.chan cap buf cl s r tm)) (h : w.cell? a = some v) : (w.setChan c cap buf' cl s' r' tm).frozen? a = w.frozen? a := by
  have hne : a.block ≠ c := fun e => by
    unfold World.cell? at h
    rw [e, hc] at h
    cases h
  unfold World.frozen?
  have : (w.setChan c cap buf' cl s' r' tm).heap[a.block]? = w.heap[a.block]? := by
    simp only [World.setChan]; rw [Array.getElem?_setIfInBounds_ne (fun e => hne e.symm)]
  rw [this]

theorem TapAt.drewN {B0 : Nat} {w : World} {b pb k cp room : Nat} {cb : Nat → Nat} {bufs : Nat → Array Value} {turn : Int} (h : TapAt B0 w b pb k cp room cb bufs turn) (q : Nat) : TapAt B0 (w.drewN q) b pb k cp room cb bufs turn :=
  ⟨h.pipes, h.turnc, h.free, h.ch, h.chan, h.inj, h.base⟩
/-- a channel of the tap is turned -/
theorem TapAt.set {B0 : Nat} {w : World} {b pb k cp room : Nat} {cb : Nat → Nat} {bufs : Nat → Array Value} {turn : Int} (h : TapAt B0 w b pb k cp room cb bufs turn) {l s r s' r' : Nat} (hl : l < k) (hc : w.heap[cb l]? = some (.chan room (bufs l) false s r false)) (buf : Array Value) :
    TapAt B0 (w.setChan (cb l) room buf false s' r' false) b pb k cp room cb (fun j => if j = l then buf else bufs j) turn := by
  have hlt := (Array.getElem?_eq_some_iff.1 hc).1
  refine ⟨cell_setChan hc h.pipes, cell_setChan hc h.turnc, (frozen_setChan hc h.turnc).trans h.free, fun j hj => cell_setChan hc (h.ch j hj), fun j hj => ?_, h.inj, h.base⟩
  by_cases e : j = l
  · subst e
    exact ⟨s', r', by simp [World.setChan, hlt]⟩
  · obtain ⟨s1, r1, hj1⟩ := h.chan j hj
    refine ⟨s1, r1, ?_⟩
    have : cb l ≠ cb j := fun he => e (h.inj j l hj hl he.symm)
    simp only [World.setChan, if_neg e]
    rw [Array.getElem?_setIfInBounds_ne this]; exact hj1

/-! ### how numbers that are spread stand -/
/-- q everywhere, and one more in the first ρ pipes -/
def Even (k room : Nat) (len : Nat → Nat) (q ρ : Nat) : Prop := ρ < k ∧ q < room ∧ ∀ j, j < k → len j = if j < ρ then q + 1 else q
theorem Even.pick {k room : Nat} {len : Nat → Nat} {q ρ : Nat} (h : Even k room len q ρ) : ∀ m, m ≤ k → pick room len m = if m ≤ ρ then (if 0 < m ∧ q + 1 < room then some 0 else none) else some ρ
  | 0, _ => by simp [Ytbnakfpdmiibdaa.pick]
  | m + 1, hm => by
    obtain ⟨h1, h2, h3⟩ := h
    have ih := Even.pick ⟨h1, h2, h3⟩ m (by omega)
    have hl := h3 m (by omega)
    have h0 := h3 0 (by omega)
    have hr := h3 ρ h1
    rw [if_neg (by omega)] at hr
    simp only [Ytbnakfpdmiibdaa.pick]
    by_cases c1 : m + 1 ≤ ρ
    · rw [if_pos (show m < ρ by omega)] at hl
      rw [if_pos (show 0 < ρ by omega)] at h0
      rw [if_pos (show m ≤ ρ by omega)] at ih
      rw [if_pos c1]
      by_cases c2 : q + 1 < room
      · rw [if_pos (show 0 < m + 1 ∧ q + 1 < room from ⟨by omega, c2⟩)]
        by_cases c3 : 0 < m
        · rw [if_pos ⟨c3, c2⟩] at ih
          rw [ih]
          show (if len m < room ∧ len m < len 0 then some m else some 0) = some 0
          rw [if_neg (by rw [hl, h0]; omega)]
        · obtain rfl : m = 0 := by omega
          rw [if_neg (by omega)] at ih
          rw [ih]
          show (if len 0 < room then some 0 else none) = some 0
          rw [if_pos (by rw [hl]; exact c2)]
      · rw [if_neg (show ¬ (0 < m + 1 ∧ q + 1 < room) from fun h => c2 h.2)]
        rw [if_neg (fun h => c2 h.2)] at ih
        rw [ih]
        show (if len m < room then some m else none) = none
        rw [if_neg (by rw [hl]; exact c2)]
    · rw [if_neg c1]
      by_cases c2 : m ≤ ρ
      · obtain rfl : m = ρ := by omega
        rw [if_pos c2] at ih
        by_cases c3 : 0 < m ∧ q + 1 < room
        · rw [if_pos c3.1] at h0
          rw [if_pos c3] at ih
          rw [ih]
          show (if len m < room ∧ len m < len 0 then some m else some 0) = some m
          rw [if_pos (by rw [hr, h0]; omega)]
        · rw [if_neg c3] at ih
          rw [ih]
          show (if len m < room then some m else none) = some m
          rw [if_pos (by rw [hr]; exact h2)]
      · rw [if_neg c2] at ih
        rw [ih]
        rw [if_neg (by omega)] at hl
        show (if len m < room ∧ len m < len ρ then some m else some ρ) = some ρ
        rw [if_neg (by rw [hl, hr]; omega)]
theorem full_pick {k room : Nat} {len : Nat → Nat} (h : ∀ j, j < k → len j = room) : ∀ m, m ≤ k → pick room len m = none
  | 0, _ => rfl
  | m + 1, hm => by
    simp only [Ytbnakfpdmiibdaa.pick, full_pick h m (by omega)]
    rw [if_neg (by rw [h m (by omega)]; omega)]
/-- behind m numbers -/
def Sz (k room m : Nat) (len : Nat → Nat) : Prop := (∃ q ρ, m = k * q + ρ ∧ Even k room len q ρ) ∨ (k * room ≤ m ∧ ∀ j, j < k → len j = room)
theorem Sz.next {k room m : Nat} {len : Nat → Nat} {q ρ : Nat} (hm : m = k * q + ρ) (h : Even k room len q ρ) : Sz k room (m + 1) (fun j => if j = ρ then len ρ + 1 else len j) := by
  obtain ⟨h1, h2, h3⟩ := h
  by_cases c : ρ + 1 < k
  · refine .inl ⟨q, ρ + 1, by omega, c, h2, fun j hj => ?_⟩
    have a := h3 j hj
    have b := h3 ρ h1
    rw [if_neg (by omega)] at b
    by_cases e : j = ρ
    · subst e; simp only [if_pos]; rw [b, if_pos (by omega)]
    · simp only [if_neg e]; rw [a]
      by_cases e2 : j < ρ
      · rw [if_pos e2, if_pos (by omega)]
      · rw [if_neg e2, if_neg (by omega)]
  · have hk : k = ρ + 1 := by omega
    have all : ∀ j, j < k → (if j = ρ then len ρ + 1 else len j) = q + 1 := fun j hj => by
      have a := h3 j hj
      have b := h3 ρ h1
      rw [if_neg (by omega)] at b
      by_cases e : j = ρ
      · rw [if_pos e, b]
      · rw [if_neg e, a, if_pos (by omega)]
    have hmm : m + 1 = k * (q + 1) := by rw [Nat.mul_add, Nat.mul_one]; omega
    by_cases c2 : q + 1 < room
    · exact .inl ⟨q + 1, 0, by omega, by omega, c2, fun j hj => by rw [if_neg (by omega)]; exact all j hj⟩
    · have : q + 1 = room := by omega
      exact .inr ⟨by rw [← this, hmm]; exact Nat.le_refl _, fun j hj => by rw [← this]; exact all j hj⟩
theorem Even.lt {k room m : Nat} {len : Nat → Nat} {q ρ : Nat} (hm : m = k * q + ρ) (h : Even k room len q ρ) : m < k * room ∧ m % k = ρ := by
  obtain ⟨h1, h2, _⟩ := h
  refine ⟨?_, by rw [hm, Nat.mul_add_mod]; exact Nat.mod_eq_of_lt h1⟩
  have : k * (q + 1) ≤ k * room := Nat.mul_le_mul_left k h2
  rw [Nat.mul_add, Nat.mul_one] at this
  omega

theorem awake_calls (W : World) : Calls Try.prog 11 #[] W fun e W' => e = .returned (.bool true) ∧ Below W.heap.size W W' :=
  law_calls (E := envTapN) (args := []) tabTapN (ev_all tabTapN 400) (by kernel_rfl) (fun _ => VRL_nil) W
end Go.Proofs.Ytbnakfpdmiibdaa
