/- TapActs, the reference: Take. -/
import Derived.Test.YtbnakfpdmiibdaaTapRef2
namespace Go.Proofs.Ytbnakfpdmiibdaa
open Go.Conc Go.RowKit
set_option maxRecDepth 100000
theorem reftake_bad (rb k cp : Nat) (room turn p : Int) (w : World) (hbad : p < 0 ∨ (k : Int) ≤ p) :
    Calls Try.prog 15 #[.agg #[.slice (some ⟨rb, 0, none⟩) k cp, .int .i64 room, .int .i64 turn], .int .i64 p] w fun e w' =>
      e = .returned (.tuple #[.agg #[.slice (some ⟨rb, 0, none⟩) k cp, .int .i64 room, .int .i64 turn], .int .i64 0, .int .i64 1]) ∧ Below w.heap.size w w' := by
  go_enter Try.func15, Try.ntmps15
  by_cases h1 : p < 0
  · go_wp2_with fail
    exact bodyPost_ret (res_cell3 rfl _ _ _ 40 _ (0, 0) _ rfl (alloc2_at _ _ _) Try.underlying40 rfl info40) rfl ⟨rfl, below_alloc2 _ _ _⟩
  · have h2 : p ≥ k := by omega
    go_wp2_with fail
    exact bodyPost_ret (res_cell3 rfl _ _ _ 40 _ (0, 0) _ rfl (alloc2_at _ _ _) Try.underlying40 rfl info40) rfl ⟨rfl, below_alloc2 _ _ _⟩
theorem reftake_none (rb k cp p : Nat) (room turn : Int) (sa : Option Addr) (sc : Nat) (w : World) (hp : p < k) (hc : w.cell? ⟨rb, p, none⟩ = some (.slice sa 0 sc)) :
    Calls Try.prog 15 #[.agg #[.slice (some ⟨rb, 0, none⟩) k cp, .int .i64 room, .int .i64 turn], .int .i64 p] w fun e w' =>
      e = .returned (.tuple #[.agg #[.slice (some ⟨rb, 0, none⟩) k cp, .int .i64 room, .int .i64 turn], .int .i64 0, .int .i64 5]) ∧ Below w.heap.size w w' := by
  have hl := cell_ltA hc
  go_enter Try.func15, Try.ntmps15
  have d1 : decide ((p : Int) < 0) = false := by simp
  have d2 : decide ((p : Int) ≥ k) = false := by simp; omega
  go_wp2_with fail
  have c0 := (below_alloc2 w (Obj.cells #[.slice (some ⟨rb, 0, none⟩) k cp, .int .i64 room, .int .i64 turn] 40) (Obj.cells #[.slice none 0 0, .int .i64 0, .int .i64 0] 40)).cell (p := ⟨rb, p, none⟩) hl
  rw [hc] at c0
  exact bodyPost_ret (res_cell3 rfl _ _ _ 40 _ (0, 0) _ rfl (alloc2_at _ _ _) Try.underlying40 rfl info40) rfl ⟨rfl, below_alloc2 _ _ _⟩
theorem keepS5 {n0 : Nat} {wB y : World} {a0 a1 a2 a3 a4 : Addr} {v0 v1 v2 v3 v4 : Value} (h0 : Cs wB a0 a1 a2 a3 v0 v1 v2 v3) (h4 : wB.cell? a4 = some v4) (l0 : a0.block < n0 + 1 ∧ a1.block < n0 + 1 ∧ a2.block < n0 + 1 ∧ a3.block < n0 + 1) (l4 : a4.block < n0 + 1) (h : Rg n0 wB y) :
    Rg n0 wB y ∧ y.cell? a0 = some v0 ∧ y.cell? a1 = some v1 ∧ y.cell? a2 = some v2 ∧ y.cell? a3 = some v3 ∧ y.cell? a4 = some v4 :=
  ⟨h, h.cell h0.1 l0.1, h.cell h0.2.1 l0.2.1, h.cell h0.2.2.1 l0.2.2.1, h.cell h0.2.2.2 l0.2.2.2, h.cell h4 l4⟩
set_option maxHeartbeats 4000000 in
theorem reftake_some (rb k cp p : Nat) (room turn : Int) (sb off n sc : Nat) (x : Int) (vs : List Value) (w : World) (hk : k ≤ 8) (hp : p < k) (hvs : vs.length = k)
    (hch : ∀ j u, vs[j]? = some u → w.cell? ⟨rb, j, none⟩ = some u) (h1 : ∀ u ∈ vs, u.oneCell' = true) (hc : w.cell? ⟨rb, p, none⟩ = some (.slice (some ⟨sb, off, none⟩) n sc)) (hx : w.cell? ⟨sb, off, none⟩ = some (.int .i64 x)) (hn : 0 < n) (hsc : n ≤ sc) :
    Calls Try.prog 15 #[.agg #[.slice (some ⟨rb, 0, none⟩) k cp, .int .i64 room, .int .i64 turn], .int .i64 p] w fun e w' =>
      ∃ g cap sb' off' sc', e = .returned (.tuple #[.agg #[.slice (some ⟨g, 0, none⟩) k cap, .int .i64 room, .int .i64 turn], .int .i64 x, .int .i64 0]) ∧ w'.ownsRow w.heap.size 27 1 (.slice (some ⟨g, 0, none⟩) k cap) k (vs.set p (.slice (some ⟨sb', off', none⟩) (n - 1) sc')) ∧
        (sb' = sb ∧ (1 < n → off' = off + 1)) ∧ n - 1 ≤ sc' ∧ Below w.heap.size w w' := by
  have hl := cell_ltA hc
  have hl4 := cell_ltA hx
  have HCH : Hid (∀ j u, vs[j]? = some u → w.cell? ⟨rb, j, none⟩ = some u) := hch
  clear hch
  go_enter Try.func15, Try.ntmps15
  have d1 : decide ((p : Int) < 0) = false := by simp
  have d2 : decide ((p : Int) ≥ k) = false := by simp; omega
  have d3 : ((n : Int) == 0) = false := by simp; omega
  have d4 : (1 : Int) ≤ (n : Int) := by omega
  have d5 : (0 : Int) < (n : Int) := by omega
  have c0 := (below_alloc2 w (Obj.cells #[.slice (some ⟨rb, 0, none⟩) k cp, .int .i64 room, .int .i64 turn] 40) (Obj.cells #[.slice none 0 0, .int .i64 0, .int .i64 0] 40)).cell (p := ⟨rb, p, none⟩) hl
  rw [hc] at c0
  go_wp2_with fail
  have c4 := (below_alloc2 w (Obj.cells #[.slice (some ⟨rb, 0, none⟩) k cp, .int .i64 room, .int .i64 turn] 40) (Obj.cells #[.slice none 0 0, .int .i64 0, .int .i64 0] 40)).cell (p := ⟨sb, off, none⟩) hl4
  rw [hx] at c4
  have q0 : ((w.alloc (Obj.cells #[.slice (some ⟨rb, 0, none⟩) k cp, .int .i64 room, .int .i64 turn] 40)).alloc (Obj.cells #[.slice none 0 0, .int .i64 0, .int .i64 0] 40)).heap[w.heap.size]? = some (Obj.cells #[.slice (some ⟨rb, 0, none⟩) k cp, .int .i64 room, .int .i64 turn] 40) := by
    rw [Below.heap_alloc _ _ _ (by simp)]; exact heap_alloc_new _ _
  have q1 := alloc2_at w (Obj.cells #[.slice (some ⟨rb, 0, none⟩) k cp, .int .i64 room, .int .i64 turn] 40) (Obj.cells #[.slice none 0 0, .int .i64 0, .int .i64 0] 40)
  have hB := below_alloc2 w (Obj.cells #[.slice (some ⟨rb, 0, none⟩) k cp, .int .i64 room, .int .i64 turn] 40) (Obj.cells #[.slice none 0 0, .int .i64 0, .int .i64 0] 40)
  have hs : ((w.alloc (Obj.cells #[.slice (some ⟨rb, 0, none⟩) k cp, .int .i64 room, .int .i64 turn] 40)).alloc (Obj.cells #[.slice none 0 0, .int .i64 0, .int .i64 0] 40)).heap.size = w.heap.size + 2 := by simp
  generalize ((w.alloc (Obj.cells #[.slice (some ⟨rb, 0, none⟩) k cp, .int .i64 room, .int .i64 turn] 40)).alloc (Obj.cells #[.slice none 0 0, .int .i64 0, .int .i64 0] 40)) = wB at *
  have e0 : wB.cell? ⟨w.heap.size, 0, none⟩ = some (.slice (some ⟨rb, 0, none⟩) k cp) := by simp [World.cell?, q0]
  have e1 : wB.cell? ⟨w.heap.size, 1, none⟩ = some (.int .i64 room) := by simp [World.cell?, q0]
  have e2 : wB.cell? ⟨w.heap.size, 2, none⟩ = some (.int .i64 turn) := by simp [World.cell?, q0]
  have HQ : Hid (wB.heap[w.heap.size + 1]? = _) := q1
  have HB : Hid (Below w.heap.size w wB) := hB
  have HS : Hid (wB.heap.size = w.heap.size + 2) := hs
  have H0 : Cs wB ⟨w.heap.size, 0, none⟩ ⟨w.heap.size, 1, none⟩ ⟨w.heap.size, 2, none⟩ ⟨rb, p, none⟩ (.slice (some ⟨rb, 0, none⟩) k cp) (.int .i64 room) (.int .i64 turn) (.slice (some ⟨sb, off, none⟩) n sc) := ⟨e0, e1, e2, c0⟩
  have L0 : w.heap.size < w.heap.size + 1 ∧ w.heap.size < w.heap.size + 1 ∧ w.heap.size < w.heap.size + 1 ∧ rb < w.heap.size + 1 := ⟨by omega, by omega, by omega, by omega⟩
  have L4 : sb < w.heap.size + 1 := by omega
  have hS := keepS5 H0 c4 L0 L4 (n0 := w.heap.size) (y := wB) ⟨Below.refl _ _, Nat.le_of_eq HS.out.symm, _, _, _, HQ.out⟩
  clear e0 e1 e2 c0 q0 q1 hB hs hc hx
  have C4 : Hid _ := c4
  clear c4
  have p0 : (0 : Int) ≤ (p : Int) := by omega
  have p1 : (p : Int) < (k : Int) := by omega
  by_cases hsc1 : sc = 1
  · go_region_held3 (fun w' => Rg w.heap.size wB w' ∧ w'.cell? ⟨w.heap.size, 0, none⟩ = some (.slice (some ⟨rb, 0, none⟩) k cp) ∧ w'.cell? ⟨w.heap.size, 1, none⟩ = some (.int .i64 room) ∧ w'.cell? ⟨w.heap.size, 2, none⟩ = some (.int .i64 turn) ∧ w'.cell? ⟨rb, p, none⟩ = some (.slice (some ⟨sb, off, none⟩) n sc) ∧ w'.cell? ⟨sb, off, none⟩ = some (.int .i64 x))
      (first | exact keepS5 H0 C4.out L0 L4 (Rg.drew (rgOf (by assumption))) | exact keepS5 H0 C4.out L0 L4 (Rg.alloc (rgOf (by assumption)) _) | exact keepS5 H0 C4.out L0 L4 (Rg.called (rgOf (by assumption)) hb3) | exact keepS5 H0 C4.out L0 L4 (Rg.put (rgOf (by assumption)) _ _ _))
      (first
        | (go_at_call 22; refine (with_walk rb k cp p vs room turn _ _ _ _ hk hp hvs (fun j u hj => ((HB.out.trans ((rgOf (by assumption)).1.mono (by omega))).cell (cell_ltA (HCH.out j u hj))).trans (HCH.out j u hj)) h1).mono ?_; rintro e w3 ⟨g3, cap3, rfl, hown3, hb3⟩; have HR3 : Hid (Rg w.heap.size wB w3) := Rg.called (rgOf (by assumption)) hb3; obtain ⟨s0, s1, s2, f0, f1, f2, f3⟩ := HR3.out.spots)
        | fail)
    have hlow := hown3.lt _ rfl
    have HR : Hid (Rg _ _ _) := rgOf (by assumption)
    have r3 : Hid (World.ownsRow _ _ _ _ _ _ _) := own_put3 (Go.Joins.ownsRow_le hown3 (show w.heap.size + 2 ≤ wB.heap.size by have := HS.out; omega)) (show w.heap.size + 1 < w.heap.size + 2 by omega) (.slice (some ⟨g3, 0, none⟩) k cap3) (.int .i64 room) (.int .i64 turn)
    clear hown3 hb3 f0 f1 f2 f3 hS H0 L0 hlow h1
    go_wp2_with fail
    obtain ⟨c0, c1, c2, q3⟩ := HR3.out.2.2
    refine bodyPost_ret (res_cell3 rfl _ _ _ 40 _ (0, 0) _ rfl (put3 q3 _ _ _) Try.underlying40 rfl info40) rfl ⟨g3, cap3, sb, _, _, rfl, Go.Joins.ownsRow_le r3.out (by omega), ⟨rfl, fun h => by first | omega | exact rfl⟩, by omega, HB.out.trans (HR.out.1.mono (by omega))⟩
  · go_region_held3 (fun w' => Rg w.heap.size wB w' ∧ w'.cell? ⟨w.heap.size, 0, none⟩ = some (.slice (some ⟨rb, 0, none⟩) k cp) ∧ w'.cell? ⟨w.heap.size, 1, none⟩ = some (.int .i64 room) ∧ w'.cell? ⟨w.heap.size, 2, none⟩ = some (.int .i64 turn) ∧ w'.cell? ⟨rb, p, none⟩ = some (.slice (some ⟨sb, off, none⟩) n sc) ∧ w'.cell? ⟨sb, off, none⟩ = some (.int .i64 x))
      (first | exact keepS5 H0 C4.out L0 L4 (Rg.drew (rgOf (by assumption))) | exact keepS5 H0 C4.out L0 L4 (Rg.alloc (rgOf (by assumption)) _) | exact keepS5 H0 C4.out L0 L4 (Rg.called (rgOf (by assumption)) hb3) | exact keepS5 H0 C4.out L0 L4 (Rg.put (rgOf (by assumption)) _ _ _))
      (first
        | (go_at_call 22; refine (with_walk rb k cp p vs room turn _ _ _ _ hk hp hvs (fun j u hj => ((HB.out.trans ((rgOf (by assumption)).1.mono (by omega))).cell (cell_ltA (HCH.out j u hj))).trans (HCH.out j u hj)) h1).mono ?_; rintro e w3 ⟨g3, cap3, rfl, hown3, hb3⟩; have HR3 : Hid (Rg w.heap.size wB w3) := Rg.called (rgOf (by assumption)) hb3; obtain ⟨s0, s1, s2, f0, f1, f2, f3⟩ := HR3.out.spots)
        | fail)
    have hlow := hown3.lt _ rfl
    have HR : Hid (Rg _ _ _) := rgOf (by assumption)
    have r3 : Hid (World.ownsRow _ _ _ _ _ _ _) := own_put3 (Go.Joins.ownsRow_le hown3 (show w.heap.size + 2 ≤ wB.heap.size by have := HS.out; omega)) (show w.heap.size + 1 < w.heap.size + 2 by omega) (.slice (some ⟨g3, 0, none⟩) k cap3) (.int .i64 room) (.int .i64 turn)
    clear hown3 hb3 f0 f1 f2 f3 hS H0 L0 hlow h1
    go_wp2_with fail
    obtain ⟨c0, c1, c2, q3⟩ := HR3.out.2.2
    refine bodyPost_ret (res_cell3 rfl _ _ _ 40 _ (0, 0) _ rfl (put3 q3 _ _ _) Try.underlying40 rfl info40) rfl ⟨g3, cap3, sb, _, _, rfl, Go.Joins.ownsRow_le r3.out (by omega), ⟨rfl, fun h => by first | omega | exact rfl⟩, by omega, HB.out.trans (HR.out.1.mono (by omega))⟩
end Go.Proofs.Ytbnakfpdmiibdaa
