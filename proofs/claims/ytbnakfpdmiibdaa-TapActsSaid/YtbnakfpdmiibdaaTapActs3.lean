/- TapActs: what each act does to the reference's tap. -/
import Derived.Test.YtbnakfpdmiibdaaTapActs2
namespace Go.Proofs.Ytbnakfpdmiibdaa
open Go.Conc Go.RowKit
set_option maxRecDepth 100000
section
variable {W w : World} {B1 tb pb k cp room : Nat} {cb : Nat → Nat} {wv : Nat} {lt : Nat → List Int} {turn : Nat} {rb rcp : Nat} {lr : Nat → List Int} {rturn : Nat}
/-- the reference's tap is stored anew -/
theorem St.stored (h : St W w B1 tb pb k cp room cb wv lt turn rb rcp lr rturn) {w' : World} (hb : Below w.heap.size w w') {g cap rt : Nat} {ls : Nat → List Int} (hr : RefAt (Mine B1 wv) w' g k ls) (hl : ∀ j, j < k → (ls j).length ≤ room) (hrt : rt < k) :
    St W (((w'.setCell ⟨wv, 0, none⟩ (.slice (some ⟨g, 0, none⟩) k cap)).setCell ⟨wv, 1, none⟩ (.int .i64 room)).setCell ⟨wv, 2, none⟩ (.int .i64 rt)) B1 tb pb k cp room cb wv lt turn g cap ls rt := by
  have h2 := h.later hb
  have hb1 := h2.b1
  have far : ∀ o, o ≠ wv → (((w'.setCell ⟨wv, 0, none⟩ (.slice (some ⟨g, 0, none⟩) k cap)).setCell ⟨wv, 1, none⟩ (.int .i64 room)).setCell ⟨wv, 2, none⟩ (.int .i64 rt)).heap[o]? = w'.heap[o]? := fun o ho => by
    rw [Below.heap_setCell _ _ _ _ ho, Below.heap_setCell _ _ _ _ ho, Below.heap_setCell _ _ _ _ ho]
  have hw : W.heap.size ≤ wv := by omega
  refine ⟨h2.tap.keep h.low fun x hx => far x (by omega), h.low, ((h2.below.setCell (p := ⟨wv, 0, none⟩) hw _).setCell (p := ⟨wv, 1, none⟩) hw _).setCell (p := ⟨wv, 2, none⟩) hw _, ⟨hb1.1, hb1.2.1, by simpa [World.setCell] using hb1.2.2⟩, h.k8, h.rooms, h.turnk, hrt, h.lens, hl,
    hr.keep (by simp [World.setCell]) fun o ho _ => far o ho.2, put3 h2.var _ _ _⟩
theorem refput_st (h : St W w B1 tb pb k cp room cb wv lt turn rb rcp lr rturn) (p n : Int) :
    Calls Try.prog 13 #[.agg #[.slice (some ⟨rb, 0, none⟩) k rcp, .int .i64 room, .int .i64 rturn], .int .i64 p, .int .i64 n] w fun e w' =>
      ∃ g cap, e = .returned (.tuple #[.agg #[.slice (some ⟨g, 0, none⟩) k cap, .int .i64 room, .int .i64 rturn], .int .i64 (putL k room lr p n).2]) ∧ RefAt (Mine B1 wv) w' g k (putL k room lr p n).1 ∧ Below w.heap.size w w' :=
  refput_any h.ref h.mineNew h.k8.2 h.rooms.2 h.rlens
theorem reftake_st (h : St W w B1 tb pb k cp room cb wv lt turn rb rcp lr rturn) (p : Int) :
    Calls Try.prog 15 #[.agg #[.slice (some ⟨rb, 0, none⟩) k rcp, .int .i64 room, .int .i64 rturn], .int .i64 p] w fun e w' =>
      ∃ g cap, e = .returned (.tuple #[.agg #[.slice (some ⟨g, 0, none⟩) k cap, .int .i64 room, .int .i64 rturn], .int .i64 (takeL k lr p).2.1, .int .i64 (takeL k lr p).2.2]) ∧ RefAt (Mine B1 wv) w' g k (takeL k lr p).1 ∧ Below w.heap.size w w' :=
  reftake_any h.ref h.mineNew h.k8.2
theorem refnext_st (h : St W w B1 tb pb k cp room cb wv lt turn rb rcp lr rturn) :
    Calls Try.prog 16 #[.agg #[.slice (some ⟨rb, 0, none⟩) k rcp, .int .i64 room, .int .i64 rturn]] w fun e w' =>
      ∃ g cap, e = .returned (.tuple #[.agg #[.slice (some ⟨g, 0, none⟩) k cap, .int .i64 room, .int .i64 (nextL k rturn lr).turn], .int .i64 (nextL k rturn lr).p, .int .i64 (nextL k rturn lr).x, .int .i64 (nextL k rturn lr).e]) ∧
        RefAt (Mine B1 wv) w' g k (nextL k rturn lr).ls ∧ Below w.heap.size w w' := by
  cases hf : firstI k rturn lr k 0 with
  | none =>
    have e0 : nextL k rturn lr = ⟨lr, rturn, -1, 0, 5⟩ := by unfold nextL; rw [hf]
    rw [e0]
    refine (refnext_none (cp := rcp) (room := room) h.ref h.k8.2 h.rturnk (firstI_all h.rturnk hf)).mono ?_
    rintro e w' ⟨rfl, hb⟩
    exact ⟨rb, rcp, rfl, h.ref.below hb, hb⟩
  | some i =>
    obtain ⟨_, h2, ⟨x, l, hx⟩, h4⟩ := firstI_some hf
    have hi : i < k := by omega
    have e0 : nextL k rturn lr = ⟨upd lr ((rturn + i) % k) l, ((rturn + i) % k + 1) % k, ((rturn + i) % k : Nat), x, 0⟩ := by unfold nextL; rw [hf]; simp only [hx]
    rw [e0]
    exact refnext_some h.ref h.mineNew h.k8.2 h.rturnk hi (fun j hj => h4 j (Nat.zero_le _) hj) hx
theorem refspread_st (h : St W w B1 tb pb k cp room cb wv lt turn rb rcp lr rturn) (n : Int) :
    Calls Try.prog 17 #[.agg #[.slice (some ⟨rb, 0, none⟩) k rcp, .int .i64 room, .int .i64 rturn], .int .i64 n] w fun e w' =>
      ∃ g cap, e = .returned (.tuple #[.agg #[.slice (some ⟨g, 0, none⟩) k cap, .int .i64 room, .int .i64 rturn], .int .i64 (spreadL k room lr n).2.1, .int .i64 (spreadL k room lr n).2.2]) ∧
        RefAt (Mine B1 wv) w' g k (spreadL k room lr n).1 ∧ Below w.heap.size w w' := by
  cases hp : pick room (fun j => (lr j).length) k with
  | none =>
    have e0 : spreadL k room lr n = (lr, -1, 6) := by unfold spreadL; rw [hp]
    rw [e0]
    refine (refspread_none (cp := rcp) (turn := rturn) (n := n) h.ref h.k8.2 h.rooms.2 fun j hj => Nat.le_of_not_lt (pick_min.pick_no hp j hj)).mono ?_
    rintro e w' ⟨rfl, hb⟩
    exact ⟨rb, rcp, rfl, h.ref.below hb, hb⟩
  | some l =>
    have e0 : spreadL k room lr n = (upd lr l (lr l ++ [n]), (l : Int), 0) := by unfold spreadL; rw [hp]
    rw [e0]
    obtain ⟨hl1, hl2⟩ := pick_lt hp
    obtain ⟨m1, m2⟩ := pick_min hp
    refine refspread_some h.ref h.mineNew h.k8.2 h.rooms.2 hl1 hl2 h.rlens (fun j hj => ?_) (fun j hj => ?_)
    · by_cases hr : (lr j).length < room
      · exact m1 j hj hr
      · omega
    · by_cases hr : (lr j).length < room
      · exact m2 j hj hr
      · omega
/-- the cells that the law reads of its own -/
theorem St.cells (h : St W w B1 tb pb k cp room cb wv lt turn rb rcp lr rturn) : w.cell? ⟨wv, 0, none⟩ = some (.slice (some ⟨rb, 0, none⟩) k rcp) ∧ w.cell? ⟨wv, 1, none⟩ = some (.int .i64 room) ∧ w.cell? ⟨wv, 2, none⟩ = some (.int .i64 rturn) ∧ ∀ j, w.frozen? ⟨wv, j, none⟩ = false :=
  ⟨by simp [World.cell?, h.var], by simp [World.cell?, h.var], by simp [World.cell?, h.var], fun j => frozen_of_row w _ j _ _ h.var⟩
/-- how long the reference's lists are -/
def rlen (ls : Nat → List Int) (k : Nat) : List Value := (List.range k).map fun j => .int .i64 (ls j).length
theorem rlen_succ (ls : Nat → List Int) (m : Nat) : rlen ls (m + 1) = rlen ls m ++ [.int .i64 (ls m).length] := by
  unfold rlen; rw [List.range_succ, List.map_append]; rfl
theorem rlen_arr (ls : Nat → List Int) (k : Nat) : lens (arr ls) k = rlen ls k := by
  unfold lens rlen
  congr 1
  funext j
  rw [arr_size]
theorem rlen_get (ls : Nat → List Int) {k m : Nat} (h : m < k) : (rlen ls k)[m]? = some (.int .i64 (ls m).length) := by
  unfold rlen; rw [List.getElem?_map, List.getElem?_range h]; rfl
/-- Counts -/
theorem counts_st (h : St W w B1 tb pb k cp room cb wv lt turn rb rcp lr rturn) :
    Calls Try.prog 9 #[.pointer (some ⟨tb, 0, none⟩)] w fun e w' => ∃ g gcap, e = .returned (.slice (some ⟨g, 0, none⟩) k gcap) ∧ w'.ownsRow w.heap.size 3 1 (.slice (some ⟨g, 0, none⟩) k gcap) k (rlen lt k) ∧ Below w.heap.size w w' := by
  refine (counts_walk 0 tb pb k cp room cb (arr lt) w h.tap.pipes h.k8.2 (Nat.zero_le _) h.tap.ch h.tap.chan).mono ?_
  rintro e w' ⟨v, rfl, hown, hb⟩
  have hv : ∃ g gcap, v = .slice (some ⟨g, 0, none⟩) k gcap := by
    obtain ⟨_, ⟨_, h2⟩ | ⟨g, cap, _, h3, _⟩⟩ := hown
    · have := h.k8.1; omega
    · exact ⟨g, cap, h3⟩
  obtain ⟨g, gcap, rfl⟩ := hv
  rw [rlen_arr] at hown
  exact ⟨g, gcap, rfl, hown, hb⟩
end
end Go.Proofs.Ytbnakfpdmiibdaa
