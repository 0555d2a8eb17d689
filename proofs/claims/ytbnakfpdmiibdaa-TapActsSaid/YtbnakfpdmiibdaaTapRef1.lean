/- TapActs, the reference: `with`. -/
import Derived.Test.YtbnakfpdmiibdaaRows
import Derived.Laws.Rows
import Derived.WalkKit
import Derived.WalkSpells
import Derived.WalkMore
import Derived.Deep.QuietTactic
import Derived.BigQuiet
import Derived.OwnWalk
import Derived.Laws.AppendOwnNone
import Derived.Below
import Derived.Deep.Onto
import Derived.Lib.SmallJoins
import Derived.Conc.LoneSelect
namespace Go.Proofs.Ytbnakfpdmiibdaa
open Go.Conc Go.RowKit
set_option maxRecDepth 100000
theorem Try.info27 : (Try.prog.info? 27).map (fun i => (i.zero, i.size, i.bytes)) = some (some (.slice none 0 0), 1, 24) := by kernel_rfl
theorem cell_ltA {w : World} {a : Addr} {v : Value} (h : w.cell? a = some v) : a.block < w.heap.size := by
  unfold World.cell? at h
  apply Nat.lt_of_not_le
  intro hle
  rw [Array.getElem?_eq_none hle] at h
  cases h
theorem ownsRow_belowA {w w' : World} {base e size n : Nat} {v : Value} {xs : List Value} (h : w.ownsRow base e size v n xs) (hb : Below w.heap.size w w') : w'.ownsRow base e size v n xs := by
  obtain ⟨h1, h2 | ⟨g, cap, cur, h3, h4, h5, h6⟩⟩ := h
  · exact ⟨h1, .inl h2⟩
  · exact ⟨h1, .inr ⟨g, cap, cur, h3, h4, (hb.block g (Array.getElem?_eq_some_iff.1 h5).1).trans h5, h6⟩⟩

theorem put3 {w : World} {b : Nat} {t : TypeId} {x0 x1 x2 : Value} (h : w.heap[b]? = some (.cells #[x0, x1, x2] t (0, 0))) (a0 a1 a2 : Value) :
    (((w.setCell ⟨b, 0, none⟩ a0).setCell ⟨b, 1, none⟩ a1).setCell ⟨b, 2, none⟩ a2).heap[b]? = some (.cells #[a0, a1, a2] t (0, 0)) :=
  heap_setCell_same _ _ 2 _ t _ (heap_setCell_same _ _ 1 _ t _ (heap_setCell_same _ _ 0 _ t _ h))
theorem info40 : (Try.prog.info? 40).map (·.size) = some 3 := by kernel_rfl
/-- a tap of which a pipe is another one: its own row -/
theorem with_walk (rb k cp p : Nat) (vs : List Value) (room turn : Int) (la : Option Addr) (ll lc : Nat) (w : World) (hk : k ≤ 8) (hp : p < k) (hvs : vs.length = k)
    (hch : ∀ j u, vs[j]? = some u → w.cell? ⟨rb, j, none⟩ = some u) (h1 : ∀ u ∈ vs, u.oneCell' = true) :
    Calls Try.prog 22 #[.agg #[.slice (some ⟨rb, 0, none⟩) k cp, .int .i64 room, .int .i64 turn], .int .i64 p, .slice la ll lc] w fun e w' =>
      ∃ g cap, e = .returned (.agg #[.slice (some ⟨g, 0, none⟩) k cap, .int .i64 room, .int .i64 turn]) ∧ w'.ownsRow w.heap.size 27 1 (.slice (some ⟨g, 0, none⟩) k cap) k (vs.set p (.slice la ll lc)) ∧ Below w.heap.size w w' := by
  obtain ⟨i0, hi, hz0, hz1, hz2⟩ := info_parts Try.info27
  have hown0 : (((w.alloc (Obj.cells #[.slice (some ⟨rb, 0, none⟩) k cp, .int .i64 room, .int .i64 turn] 40)).alloc (Obj.cells #[.slice none 0 0, .int .i64 0, .int .i64 0] 40)).alloc (Obj.cells #[] 27)).ownsRow (w.heap.size + 2) 27 1 (.slice (some ⟨w.heap.size + 1 + 1, 0, none⟩) 0 0) 0 [] := by
    have h := World.ownsRow_made (base := w.heap.size + 2) (e := 27) (size := 1) ((w.alloc (Obj.cells #[.slice (some ⟨rb, 0, none⟩) k cp, .int .i64 room, .int .i64 turn] 40)).alloc (Obj.cells #[.slice none 0 0, .int .i64 0, .int .i64 0] 40)) #[] 0 (by simp) (by unfold maxLen; omega) (by simp)
    simpa using h
  have hcell : ∀ j u, vs[j]? = some u → (((w.alloc (Obj.cells #[.slice (some ⟨rb, 0, none⟩) k cp, .int .i64 room, .int .i64 turn] 40)).alloc (Obj.cells #[.slice none 0 0, .int .i64 0, .int .i64 0] 40)).alloc (Obj.cells #[] 27)).cell? ((⟨rb, 0, none⟩ : Addr).add j) = some u := by
    intro j u hj
    have h0 := hch j u hj
    have hlt := cell_ltA h0
    have e : (⟨rb, 0, none⟩ : Addr).add j = ⟨rb, j, none⟩ := by
      unfold Addr.add; split
      · next h => subst h; rfl
      · simp
    rw [e]
    have hb : Below w.heap.size w (((w.alloc (Obj.cells #[.slice (some ⟨rb, 0, none⟩) k cp, .int .i64 room, .int .i64 turn] 40)).alloc (Obj.cells #[.slice none 0 0, .int .i64 0, .int .i64 0] 40)).alloc (Obj.cells #[] 27)) :=
      (((Below.refl _ _).alloc (Nat.le_refl _) _).alloc (by simp) _).alloc (by simp; omega) _
    exact (hb.cell hlt).trans h0
  have hvk : vs.length = k * 1 := by omega
  clear hch
  go_enter Try.func22, Try.ntmps22
  go_wp2_with (at_builtin; go_loud (refine wpList_append_own _ rfl _ _ 38 rfl (w.heap.size + 2) 27 i0 (.slice none 0 0) 1 24 Try.underlying38 hi hz0 hz1 hz2 rfl (by decide) _ 0 [] rfl hown0 ⟨rb, 0, none⟩ k cp vs rfl hvk hcell h1 (by unfold maxLen; omega) (by omega) (by simp) ?_))
  intro v' w1 hown hgrow _
  obtain ⟨g, cap, rfl⟩ := Go.Joins.ownsRow_form hown (by omega)
  obtain ⟨hg1, hg2⟩ := hown.lt g rfl
  have q1 : w1.heap[w.heap.size]? = some (.cells #[.slice (some ⟨rb, 0, none⟩) k cp, .int .i64 room, .int .i64 turn] 40 (0, 0)) := by
    rw [hgrow.block w.heap.size (by simp <;> omega) (by simp [Value.ownBlock] <;> omega), Below.heap_alloc _ _ _ (by simp <;> omega), Below.heap_alloc _ _ _ (by simp <;> omega)]
    exact heap_alloc_new w _
  have q2 : w1.heap[w.heap.size + 1]? = some (.cells #[.slice none 0 0, .int .i64 0, .int .i64 0] 40 (0, 0)) := by
    rw [hgrow.block (w.heap.size + 1) (by simp <;> omega) (by simp [Value.ownBlock] <;> omega), Below.heap_alloc _ _ _ (by simp <;> omega)]
    have := heap_alloc_new (w.alloc (Obj.cells #[.slice (some ⟨rb, 0, none⟩) k cp, .int .i64 room, .int .i64 turn] 40)) (Obj.cells #[.slice none 0 0, .int .i64 0, .int .i64 0] 40)
    simpa using this
  have hB : Below w.heap.size w w1 := ((((Below.refl _ _).alloc (Nat.le_refl _) _).alloc (by simp) _).alloc (by simp; omega) _).grown hgrow (by simp; omega) (fun x hx => by simp [Value.ownBlock] at hx; omega)
  have c1 : w1.cell? ⟨g, p, none⟩ = some vs[p] := by rw [hown.cellAt p (by omega)]; exact List.getElem?_eq_getElem (by omega)
  have c2 := hown.frozenAt p
  have d1 : g ≠ w.heap.size := by omega
  have d2 : g ≠ w.heap.size + 1 := by omega
  have e0 : w1.cell? ⟨w.heap.size, 0, none⟩ = some (.slice (some ⟨rb, 0, none⟩) k cp) := by simp [World.cell?, q1]
  have e1 : w1.cell? ⟨w.heap.size, 1, none⟩ = some (.int .i64 room) := by simp [World.cell?, q1]
  have e2 : w1.cell? ⟨w.heap.size, 2, none⟩ = some (.int .i64 turn) := by simp [World.cell?, q1]
  have e3 : w1.cell? ⟨w.heap.size + 1, 0, none⟩ = some (.slice none 0 0) := by simp [World.cell?, q2]
  have e4 : w1.cell? ⟨w.heap.size + 1, 1, none⟩ = some (.int .i64 0) := by simp [World.cell?, q2]
  have e5 : w1.cell? ⟨w.heap.size + 1, 2, none⟩ = some (.int .i64 0) := by simp [World.cell?, q2]
  have f0 : ∀ j, w1.frozen? ⟨w.heap.size, j, none⟩ = false := fun j => frozen_of_row w1 _ j _ _ q1
  have f1 : ∀ j, w1.frozen? ⟨w.heap.size + 1, j, none⟩ = false := fun j => frozen_of_row w1 _ j _ _ q2
  have HQ : Hid (w1.heap[w.heap.size + 1]? = some (.cells #[.slice none 0 0, .int .i64 0, .int .i64 0] 40 (0, 0))) := q2
  clear q1 q2
  have hst := (hown.stored p (.slice la ll lc)).1
  have HS : Hid (World.ownsRow _ _ _ _ _ _ _) := hst
  generalize vs[p] = x0 at c1
  have HB : Hid _ := hB
  clear hst hB hown hgrow hcell hown0 h1 hi hz0 hz1 hz2
  go_wp2_with fail
  refine bodyPost_ret (results_cell_row rfl _ _ (w.heap.size + 1) 40 #[.slice (some ⟨g, 0, none⟩) k cap, .int .i64 room, .int .i64 turn] (0, 0) _ rfl ?_ Try.underlying40 rfl info40) rfl ⟨g, cap, rfl, ?_, ?_⟩
  · refine put3 (x0 := .slice none 0 0) (x1 := .int .i64 0) (x2 := .int .i64 0) ?_ _ _ _
    rw [Below.heap_setCell _ _ _ _ (by show w.heap.size + 1 ≠ w.heap.size; omega), Below.heap_setCell _ _ _ _ (by show w.heap.size + 1 ≠ g; omega)]
    exact HQ.out
  · have h := HS.out
    have h := ownsRow_setCell_below h (a := ⟨w.heap.size, 0, none⟩) (by show w.heap.size < _; omega) (.slice (some ⟨g, 0, none⟩) k cap)
    have h := ownsRow_setCell_below h (a := ⟨w.heap.size + 1, 0, none⟩) (by show w.heap.size + 1 < _; omega) (.slice (some ⟨g, 0, none⟩) k cap)
    have h := ownsRow_setCell_below h (a := ⟨w.heap.size + 1, 1, none⟩) (by show w.heap.size + 1 < _; omega) (.int .i64 room)
    have h := ownsRow_setCell_below h (a := ⟨w.heap.size + 1, 2, none⟩) (by show w.heap.size + 1 < _; omega) (.int .i64 turn)
    exact Go.Joins.ownsRow_le h (by omega)
  · exact ((((HB.out.setCell (p := ⟨g, p, none⟩) (by show w.heap.size ≤ g; omega) _).setCell (p := ⟨w.heap.size, 0, none⟩) (Nat.le_refl _) _).setCell (p := ⟨w.heap.size + 1, 0, none⟩) (by show w.heap.size ≤ w.heap.size + 1; omega) _).setCell (p := ⟨w.heap.size + 1, 1, none⟩) (by show w.heap.size ≤ w.heap.size + 1; omega) _).setCell (p := ⟨w.heap.size + 1, 2, none⟩) (by show w.heap.size ≤ w.heap.size + 1; omega) _
end Go.Proofs.Ytbnakfpdmiibdaa
