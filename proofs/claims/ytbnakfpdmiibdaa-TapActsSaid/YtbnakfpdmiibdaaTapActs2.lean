/- TapActs: the program's tap and the reference's, side by side; what each act does to the program's. -/
import Derived.Test.YtbnakfpdmiibdaaTapFair1
import Derived.Test.YtbnakfpdmiibdaaTapFair2
import Derived.Test.YtbnakfpdmiibdaaTapActs1
import Derived.Test.YtbnakfpdmiibdaaTapRef6
namespace Go.Proofs.Ytbnakfpdmiibdaa
open Go.Conc Go.RowKit
set_option maxRecDepth 100000
/-- what the program's channels hold -/
def arr (ls : Nat → List Int) (j : Nat) : Array Value := (vals (ls j)).toArray
theorem arr_size (ls : Nat → List Int) (j : Nat) : (arr ls j).size = (ls j).length := by simp [arr, vals]
theorem arr_upd (ls : Nat → List Int) (p : Nat) (l : List Int) : (fun j => if j = p then (vals l).toArray else arr ls j) = arr (upd ls p l) := by
  funext j; unfold arr upd; split <;> rfl
theorem arr_push (l : List Int) (n : Int) : (vals l).toArray.push (.int .i64 n) = (vals (l ++ [n])).toArray := by simp [vals]
theorem arr_tail (x : Int) (l : List Int) : (vals (x :: l)).toArray.extract 1 (vals (x :: l)).toArray.size = (vals l).toArray := by
  apply Array.ext'
  simp [vals, List.take_of_length_le]
theorem arr_head (x : Int) (l : List Int) : (vals (x :: l)).toArray.getD 0 undef = .int .i64 x := by simp [vals]

/-! ### Next -/
def firstI (k turn : Nat) (ls : Nat → List Int) : Nat → Nat → Option Nat
  | 0, _ => none
  | n + 1, i => match ls ((turn + i) % k) with
    | [] => firstI k turn ls n (i + 1)
    | _ :: _ => some i
theorem firstI_some {k turn : Nat} {ls : Nat → List Int} : ∀ {n i r : Nat}, firstI k turn ls n i = some r → i ≤ r ∧ r < i + n ∧ (∃ x l, ls ((turn + r) % k) = x :: l) ∧ ∀ j, i ≤ j → j < r → ls ((turn + j) % k) = []
  | 0, _, _, h => by cases h
  | n + 1, i, r, h => by
    unfold firstI at h
    split at h
    · rename_i he
      obtain ⟨h1, h2, h3, h4⟩ := firstI_some h
      refine ⟨by omega, by omega, h3, fun j hj1 hj2 => ?_⟩
      by_cases e : j = i
      · subst e; exact he
      · exact h4 j (by omega) hj2
    · rename_i x l he
      injection h with h
      subst h
      exact ⟨Nat.le_refl _, by omega, ⟨x, l, he⟩, fun j h1 h2 => by omega⟩
theorem firstI_none {k turn : Nat} {ls : Nat → List Int} : ∀ {n i : Nat}, firstI k turn ls n i = none → ∀ j, i ≤ j → j < i + n → ls ((turn + j) % k) = []
  | 0, i, _, j, h1, h2 => by omega
  | n + 1, i, h, j, h1, h2 => by
    unfold firstI at h
    split at h
    · rename_i he
      by_cases e : j = i
      · subst e; exact he
      · exact firstI_none h j (by omega) (by omega)
    · cases h
theorem firstI_all {k turn : Nat} {ls : Nat → List Int} (ht : turn < k) (h : firstI k turn ls k 0 = none) (j : Nat) (hj : j < k) : ls j = [] := by
  have h1 := firstI_none h ((j + k - turn) % k) (Nat.zero_le _) (by have := Nat.mod_lt (j + k - turn) (show 0 < k by omega); omega)
  have hD := dist_eq ht hj
  have hm := mod_eq ht (show (j + k - turn) % k < k from Nat.mod_lt _ (by omega))
  have : (turn + (j + k - turn) % k) % k = j := by
    rw [hm]
    generalize (j + k - turn) % k = D at *
    split at hD <;> split <;> omega
  rwa [this] at h1
structure NextR where
  ls : Nat → List Int
  turn : Nat
  p : Int
  x : Int
  e : Int
/-- what Next does -/
def nextL (k turn : Nat) (ls : Nat → List Int) : NextR := match firstI k turn ls k 0 with
  | none => ⟨ls, turn, -1, 0, 5⟩
  | some i => match ls ((turn + i) % k) with
    | [] => ⟨ls, turn, -1, 0, 5⟩
    | x :: l => ⟨upd ls ((turn + i) % k) l, ((turn + i) % k + 1) % k, ((turn + i) % k : Nat), x, 0⟩
/-! ### Spread -/
theorem pick_min {room : Nat} {len : Nat → Nat} : ∀ {m l : Nat}, pick room len m = some l → (∀ j, j < m → len j < room → len l ≤ len j) ∧ ∀ j, j < l → len j < room → len l < len j
  | 0, l, h => by cases h
  | m + 1, l, h => by
    simp only [pick] at h
    cases hp : pick room len m with
    | none =>
      rw [hp] at h
      simp only at h
      have hno := pick_no hp
      split at h
      · injection h with h
        subst h
        refine ⟨fun j hj hr => ?_, fun j hj hr => absurd hr (hno j hj)⟩
        by_cases e : j = m
        · subst e; exact Nat.le_refl _
        · exact absurd hr (hno j (by omega))
      · cases h
    | some l' =>
      rw [hp] at h
      simp only at h
      obtain ⟨i1, i2⟩ := pick_min hp
      have i3 := pick_lt hp
      split at h
      · rename_i hc
        injection h with h
        subst h
        refine ⟨fun j hj hr => ?_, fun j hj hr => ?_⟩
        · by_cases e : j = m
          · subst e; exact Nat.le_refl _
          · have := i1 j (by omega) hr; omega
        · have := i1 j hj hr; omega
      · rename_i hc
        injection h with h
        subst h
        refine ⟨fun j hj hr => ?_, i2⟩
        by_cases e : j = m
        · subst e
          apply Nat.le_of_not_lt
          intro hlt
          exact hc ⟨hr, hlt⟩
        · exact i1 j (by omega) hr
where pick_no {room : Nat} {len : Nat → Nat} : ∀ {m : Nat}, pick room len m = none → ∀ j, j < m → ¬ len j < room
  | 0, _, j, hj => by omega
  | m + 1, h, j, hj => by
    simp only [pick] at h
    cases hp : pick room len m with
    | none =>
      rw [hp] at h
      simp only at h
      split at h
      · cases h
      · rename_i hc
        by_cases e : j = m
        · subst e; exact hc
        · exact pick_no hp j (by omega)
    | some l' =>
      rw [hp] at h
      simp only at h
      split at h <;> cases h
/-- what Spread does -/
def spreadL (k room : Nat) (ls : Nat → List Int) (n : Int) : (Nat → List Int) × Int × Int := match pick room (fun j => (ls j).length) k with
  | none => (ls, -1, 6)
  | some l => (upd ls l (ls l ++ [n]), (l : Int), 0)

/-! ### where the law stands -/
def Mine (B1 wv : Nat) : Nat → Prop := fun o => B1 ≤ o ∧ o ≠ wv
structure St (W w : World) (B1 tb pb k cp room : Nat) (cb : Nat → Nat) (wv : Nat) (lt : Nat → List Int) (turn : Nat) (rb rcp : Nat) (lr : Nat → List Int) (rturn : Nat) : Prop where
  tap : TapAt W.heap.size w tb pb k cp room cb (arr lt) turn
  low : tb < B1 ∧ pb < B1 ∧ ∀ j, j < k → cb j < B1
  below : Below W.heap.size W w
  b1 : W.heap.size ≤ B1 ∧ B1 ≤ wv ∧ wv < w.heap.size
  k8 : 1 ≤ k ∧ k ≤ 8
  rooms : 1 ≤ room ∧ room ≤ 64
  turnk : turn < k
  rturnk : rturn < k
  lens : ∀ j, j < k → (lt j).length ≤ room
  rlens : ∀ j, j < k → (lr j).length ≤ room
  ref : RefAt (Mine B1 wv) w rb k lr
  var : w.heap[wv]? = some (.cells #[.slice (some ⟨rb, 0, none⟩) k rcp, .int .i64 room, .int .i64 rturn] 40 (0, 0))

section
variable {W w : World} {B1 tb pb k cp room : Nat} {cb : Nat → Nat} {wv : Nat} {lt : Nat → List Int} {turn : Nat} {rb rcp : Nat} {lr : Nat → List Int} {rturn : Nat}
theorem St.pbtb (h : St W w B1 tb pb k cp room cb wv lt turn rb rcp lr rturn) : pb ≠ tb := fun e => by
  have h1 := h.tap.ch 0 (by have := h.k8.1; omega)
  rw [e, h.tap.pipes] at h1
  cases h1
/-- a channel is turned -/
theorem St.set (h : St W w B1 tb pb k cp room cb wv lt turn rb rcp lr rturn) {p s r s' r' : Nat} (hp : p < k) (hc : w.heap[cb p]? = some (.chan room (arr lt p) false s r false)) (l : List Int) (hl : l.length ≤ room) :
    St W (w.setChan (cb p) room (vals l).toArray false s' r' false) B1 tb pb k cp room cb wv (upd lt p l) turn rb rcp lr rturn := by
  have hcp := h.low.2.2 p hp
  have hb := h.b1
  refine ⟨?_, h.low, below_setChan h.below (h.tap.base.2 p hp) _ _ _ _ _ _, ⟨hb.1, hb.2.1, by rw [size_setChan]; exact hb.2.2⟩, h.k8, h.rooms, h.turnk, h.rturnk, fun j hj => ?_, h.rlens, h.ref.keep (by rw [size_setChan]; exact Nat.le_refl _) fun o ho _ => ?_, ?_⟩
  · have h1 := h.tap.set (s' := s') (r' := r') hp hc (vals l).toArray
    rwa [arr_upd] at h1
  · unfold upd; split
    · exact hl
    · exact h.lens j hj
  · simp only [World.setChan]
    rw [Array.getElem?_setIfInBounds_ne (by have := ho.1; omega)]
  · simp only [World.setChan]
    rw [Array.getElem?_setIfInBounds_ne (by omega)]; exact h.var
theorem St.turned (h : St W w B1 tb pb k cp room cb wv lt turn rb rcp lr rturn) {t : Nat} (ht : t < k) : St W (w.setCell ⟨tb, 1, none⟩ (.int .i64 t)) B1 tb pb k cp room cb wv lt t rb rcp lr rturn := by
  have hb := h.b1
  have htb := h.low.1
  refine ⟨h.tap.turned h.pbtb _, h.low, h.below.setCell h.tap.base.1 _, ⟨hb.1, hb.2.1, by simpa [World.setCell] using hb.2.2⟩, h.k8, h.rooms, ht, h.rturnk, h.lens, h.rlens, h.ref.keep (by simp [World.setCell]) fun o ho _ => ?_, ?_⟩
  · exact Below.heap_setCell _ _ _ _ (by have := ho.1; show o ≠ tb; omega)
  · rw [Below.heap_setCell _ _ _ _ (by show wv ≠ tb; omega)]; exact h.var
theorem St.drewN (h : St W w B1 tb pb k cp room cb wv lt turn rb rcp lr rturn) (q : Nat) : St W (w.drewN q) B1 tb pb k cp room cb wv lt turn rb rcp lr rturn :=
  ⟨h.tap.drewN q, h.low, below_drewN2 h.below q, h.b1, h.k8, h.rooms, h.turnk, h.rturnk, h.lens, h.rlens, h.ref.keep (Nat.le_refl _) fun _ _ _ => rfl, h.var⟩
theorem St.later (h : St W w B1 tb pb k cp room cb wv lt turn rb rcp lr rturn) {w' : World} (hb : Below w.heap.size w w') : St W w' B1 tb pb k cp room cb wv lt turn rb rcp lr rturn :=
  ⟨h.tap.keep h.low fun x hx => hb.block x (by have := h.b1; omega), h.low, h.below.trans (hb.mono h.below.size), ⟨h.b1.1, h.b1.2.1, Nat.lt_of_lt_of_le h.b1.2.2 hb.size⟩, h.k8, h.rooms, h.turnk, h.rturnk, h.lens, h.rlens, h.ref.below hb, (hb.block _ h.b1.2.2).trans h.var⟩
theorem St.mineNew (h : St W w B1 tb pb k cp room cb wv lt turn rb rcp lr rturn) : ∀ o, w.heap.size ≤ o → Mine B1 wv o := fun o ho => ⟨by have := h.b1; omega, by have := h.b1; omega⟩

theorem put_st (h : St W w B1 tb pb k cp room cb wv lt turn rb rcp lr rturn) (p n : Int) :
    Calls Try.prog 8 #[.pointer (some ⟨tb, 0, none⟩), .int .i64 p, .int .i64 n] w fun e w' => e = .returned (.int .i64 (putL k room lt p n).2) ∧ St W w' B1 tb pb k cp room cb wv (putL k room lt p n).1 turn rb rcp lr rturn := by
  by_cases hbad : p < 0 ∨ (k : Int) ≤ p
  · rw [putL_bad hbad]
    refine (put_bad tb _ k cp p n w h.tap.pipes h.k8.2 hbad).mono ?_
    rintro e w' ⟨rfl, rfl⟩
    exact ⟨rfl, h⟩
  · obtain ⟨q, rfl⟩ : ∃ q : Nat, p = q := ⟨p.toNat, by omega⟩
    have hq : q < k := by omega
    obtain ⟨s, r, hc⟩ := h.tap.chan q hq
    have hlq := h.lens q hq
    by_cases hfull : (lt q).length = room
    · rw [putL_full hq hfull]
      refine (put_full6 tb pb (cb q) k cp room s r q false _ n w h.tap.pipes hq h.k8.2 (h.tap.ch q hq) hc (by rw [arr_size]; omega)).mono ?_
      rintro e w' ⟨rfl, rfl⟩
      exact ⟨rfl, h⟩
    · rw [putL_room hq hfull]
      refine (put_room tb pb (cb q) k cp room s r q false _ n w h.tap.pipes hq h.k8.2 (h.tap.ch q hq) hc (by rw [arr_size]; omega)).mono ?_
      rintro e w' ⟨rfl, rfl⟩
      refine ⟨rfl, ?_⟩
      rw [show (arr lt q).push (.int .i64 n) = (vals (lt q ++ [n])).toArray from arr_push _ _]
      exact h.set hq hc _ (by simp; omega)
theorem take_st (h : St W w B1 tb pb k cp room cb wv lt turn rb rcp lr rturn) (p : Int) :
    Calls Try.prog 14 #[.pointer (some ⟨tb, 0, none⟩), .int .i64 p] w fun e w' => e = .returned (.tuple #[.int .i64 (takeL k lt p).2.1, .int .i64 (takeL k lt p).2.2]) ∧ St W w' B1 tb pb k cp room cb wv (takeL k lt p).1 turn rb rcp lr rturn := by
  by_cases hbad : p < 0 ∨ (k : Int) ≤ p
  · rw [takeL_bad hbad]
    refine (take_bad tb _ k cp p w h.tap.pipes h.k8.2 hbad).mono ?_
    rintro e w' ⟨rfl, rfl⟩
    exact ⟨rfl, h⟩
  · obtain ⟨q, rfl⟩ : ∃ q : Nat, p = q := ⟨p.toNat, by omega⟩
    have hq : q < k := by omega
    obtain ⟨s, r, hc⟩ := h.tap.chan q hq
    have hlq := h.lens q hq
    cases hx : lt q with
    | nil =>
      rw [takeL_nil hq hx]
      have e0 : arr lt q = #[] := by simp [arr, hx, vals]
      rw [e0] at hc
      refine (take_none tb pb (cb q) k cp room s r q false w h.tap.pipes hq h.k8.2 (h.tap.ch q hq) hc).mono ?_
      rintro e w' ⟨rfl, rfl⟩
      exact ⟨rfl, h⟩
    | cons x l =>
      rw [takeL_cons hq hx]
      have e0 : arr lt q = (vals (x :: l)).toArray := by simp [arr, hx]
      refine (take_some tb pb (cb q) k cp room s r q false _ (.int .i64 x) w h.tap.pipes hq h.k8.2 (h.tap.ch q hq) hc (by rw [arr_size, hx]; simp) (by rw [e0]; exact arr_head x l)).mono ?_
      rintro e w' ⟨rfl, rfl⟩
      refine ⟨rfl, ?_⟩
      rw [show (arr lt q).extract 1 (arr lt q).size = (vals l).toArray by rw [e0]; exact arr_tail x l]
      exact h.set hq hc _ (by rw [hx] at hlq; simp at hlq; omega)
theorem next_st (h : St W w B1 tb pb k cp room cb wv lt turn rb rcp lr rturn) :
    Calls Try.prog 10 #[.pointer (some ⟨tb, 0, none⟩)] w fun e w' => e = .returned (.tuple #[.int .i64 (nextL k turn lt).p, .int .i64 (nextL k turn lt).x, .int .i64 (nextL k turn lt).e]) ∧
      St W w' B1 tb pb k cp room cb wv (nextL k turn lt).ls (nextL k turn lt).turn rb rcp lr rturn := by
  cases hf : firstI k turn lt k 0 with
  | none =>
    have e0 : nextL k turn lt = ⟨lt, turn, -1, 0, 5⟩ := by unfold nextL; rw [hf]
    rw [e0]
    refine (next_none tb pb k cp room turn cb (arr lt) w h.tap.pipes h.tap.turnc h.k8.2 h.turnk h.tap.ch h.tap.chan fun j hj => by simp [arr, firstI_all h.turnk hf j hj, vals]).mono ?_
    rintro e w' ⟨rfl, rfl⟩
    exact ⟨rfl, h⟩
  | some i =>
    obtain ⟨_, h2, ⟨x, l, hx⟩, h4⟩ := firstI_some hf
    have hi : i < k := by omega
    have e0 : nextL k turn lt = ⟨upd lt ((turn + i) % k) l, ((turn + i) % k + 1) % k, ((turn + i) % k : Nat), x, 0⟩ := by unfold nextL; rw [hf]; simp only [hx]
    rw [e0]
    have hP : (turn + i) % k < k := Nat.mod_lt _ (by omega)
    have e1 : arr lt ((turn + i) % k) = (vals (x :: l)).toArray := by simp [arr, hx]
    have hlq := h.lens _ hP
    refine (next_some tb pb k cp room turn i cb (arr lt) w h.tap.pipes h.tap.turnc h.tap.free h.k8.2 h.turnk hi h.tap.ch h.tap.chan (fun j hj => by simp [arr, h4 j (Nat.zero_le _) hj, vals]) (by rw [arr_size, hx]; simp)).mono ?_
    rintro e w' ⟨s, r, hc, rfl, rfl⟩
    refine ⟨by rw [e1, arr_head], ?_⟩
    rw [show (arr lt ((turn + i) % k)).extract 1 (arr lt ((turn + i) % k)).size = (vals l).toArray by rw [e1]; exact arr_tail x l]
    exact (h.set hP hc _ (by rw [hx] at hlq; simp at hlq; omega)).turned (Nat.mod_lt _ (by omega))
theorem spread_st (h : St W w B1 tb pb k cp room cb wv lt turn rb rcp lr rturn) (n : Int) :
    Calls Try.prog 12 #[.pointer (some ⟨tb, 0, none⟩), .int .i64 n] w fun e w' => e = .returned (.tuple #[.int .i64 (spreadL k room lt n).2.1, .int .i64 (spreadL k room lt n).2.2]) ∧
      St W w' B1 tb pb k cp room cb wv (spreadL k room lt n).1 turn rb rcp lr rturn := by
  have e0 : (fun j => (arr lt j).size) = fun j => (lt j).length := funext fun j => arr_size lt j
  refine (spread_walk tb pb k cp room cb (arr lt) n w h.tap.pipes h.k8.2 h.rooms.2 h.tap.ch h.tap.chan).mono ?_
  rintro e w' (⟨q, hp, rfl, rfl⟩ | ⟨q, l, s, r, hp, hc, rfl, rfl⟩)
  · rw [e0] at hp
    have e1 : spreadL k room lt n = (lt, -1, 6) := by unfold spreadL; rw [hp]
    rw [e1]
    exact ⟨rfl, h.drewN q⟩
  · rw [e0] at hp
    have e1 : spreadL k room lt n = (upd lt l (lt l ++ [n]), (l : Int), 0) := by unfold spreadL; rw [hp]
    rw [e1]
    refine ⟨rfl, ?_⟩
    obtain ⟨hl1, hl2⟩ := pick_lt hp
    rw [show (arr lt l).push (.int .i64 n) = (vals (lt l ++ [n])).toArray from arr_push _ _]
    exact (h.drewN q).set (s := s) (r := r) hl1 hc _ (by simp; omega)
end
end Go.Proofs.Ytbnakfpdmiibdaa
