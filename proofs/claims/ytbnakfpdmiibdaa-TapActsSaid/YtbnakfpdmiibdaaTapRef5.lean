/- TapActs, the reference: Next. -/
import Derived.Test.YtbnakfpdmiibdaaTapRef4
import Derived.LoopTactic
import Derived.Lib.Hide
namespace Go.Proofs.Ytbnakfpdmiibdaa
open Go.Conc Go.RowKit
set_option maxRecDepth 100000
theorem mod_step {k turn m : Nat} (ht : turn < k) (hm : m + 1 < k) : (turn + (m + 1)) % k = if (turn + m) % k + 1 = k then 0 else (turn + m) % k + 1 := by
  have key : ∀ i, i < k → (turn + i) % k = if turn + i < k then turn + i else turn + i - k := fun i hi => by
    by_cases h : turn + i < k
    · rw [if_pos h]; exact Nat.mod_eq_of_lt h
    · rw [if_neg h, show turn + i = (turn + i - k) + k by omega, Nat.add_mod_right, show turn + i - k + k - k = turn + i - k by omega]
      exact Nat.mod_eq_of_lt (by omega)
  have h1 := key m (by omega)
  have h2 := key (m + 1) hm
  rw [h1, h2]
  split <;> split <;> split <;> omega
theorem succ_modA {k p : Nat} (hp : p < k) : (p + 1) % k = if p + 1 = k then 0 else p + 1 := by
  by_cases h : p + 1 = k
  · rw [if_pos h, h, Nat.mod_self]
  · rw [if_neg h]; exact Nat.mod_eq_of_lt (by omega)
/-- apart from two blocks that are about to be made -/
theorem RefAt.apart {X : Nat → Prop} {w : World} {rb k : Nat} {ls : Nat → List Int} (h : RefAt X w rb k ls) : RefAt (fun o => X o ∧ o ≠ w.heap.size ∧ o ≠ w.heap.size + 1) w rb k ls :=
  h.tight.mono fun o ho => ⟨ho.1, by have := ho.2; omega, by have := ho.2; omega⟩
theorem RefAt.put3 {X : Nat → Prop} {w : World} {n0 g k : Nat} {ls : Nat → List Int} (h : RefAt (fun o => X o ∧ o ≠ n0 ∧ o ≠ n0 + 1) w g k ls) (a0 a1 a2 : Value) :
    RefAt X (((w.setCell ⟨n0 + 1, 0, none⟩ a0).setCell ⟨n0 + 1, 1, none⟩ a1).setCell ⟨n0 + 1, 2, none⟩ a2) g k ls := by
  refine (h.keep (w' := ((w.setCell ⟨n0 + 1, 0, none⟩ a0).setCell ⟨n0 + 1, 1, none⟩ a1).setCell ⟨n0 + 1, 2, none⟩ a2) (by simp [World.setCell]) fun o ho _ => ?_).mono fun o ho => ho.1
  rw [Below.heap_setCell _ _ _ _ ho.2.2, Below.heap_setCell _ _ _ _ ho.2.2, Below.heap_setCell _ _ _ _ ho.2.2]
theorem below_put3 {B n0 : Nat} {w w' : World} (h : Below B w w') (hn : B ≤ n0 + 1) (a0 a1 a2 : Value) : Below B w (((w'.setCell ⟨n0 + 1, 0, none⟩ a0).setCell ⟨n0 + 1, 1, none⟩ a1).setCell ⟨n0 + 1, 2, none⟩ a2) :=
  ((h.setCell (p := ⟨n0 + 1, 0, none⟩) hn _).setCell (p := ⟨n0 + 1, 1, none⟩) hn _).setCell (p := ⟨n0 + 1, 2, none⟩) hn _
theorem RefAt.alloc {X : Nat → Prop} {w : World} {g k : Nat} {ls : Nat → List Int} (h : RefAt X w g k ls) (o : Obj) : RefAt X (w.alloc o) g k ls :=
  h.below ((Below.refl _ _).alloc (Nat.le_refl _) _)
set_option maxHeartbeats 1000000 in
theorem refnext_some {X : Nat → Prop} {rb k cp turn i : Nat} {room : Int} {ls : Nat → List Int} {x : Int} {l : List Int} {w : World} (h : RefAt X w rb k ls) (hX : ∀ o, w.heap.size ≤ o → X o) (hk : k ≤ 8) (ht : turn < k) (hi : i < k)
    (hemp : ∀ j, j < i → ls ((turn + j) % k) = []) (hx : ls ((turn + i) % k) = x :: l) :
    Calls Try.prog 16 #[.agg #[.slice (some ⟨rb, 0, none⟩) k cp, .int .i64 room, .int .i64 turn]] w fun e w' =>
      ∃ g cap, e = .returned (.tuple #[.agg #[.slice (some ⟨g, 0, none⟩) k cap, .int .i64 room, .int .i64 (((turn + i) % k + 1) % k : Nat)], .int .i64 ((turn + i) % k : Nat), .int .i64 x, .int .i64 0]) ∧
        RefAt X w' g k (upd ls ((turn + i) % k) l) ∧ Below w.heap.size w w' := by
  have h2 := (RefAt.apart h).below (below_alloc2 w (Obj.cells #[.slice (some ⟨rb, 0, none⟩) k cp, .int .i64 room, .int .i64 turn] 40) (Obj.cells #[.slice none 0 0, .int .i64 0, .int .i64 0] 40))
  have H2 := Lib.hid h2
  have HX : Hid _ := hx
  have HE : Hid _ := hemp
  have ht0 : turn % k = turn := Nat.mod_eq_of_lt ht
  have HT : Hid _ := ht0
  have HXX : Hid _ := hX
  clear h h2 hx hemp ht0 hX
  go_enter Try.func16, Try.ntmps16
  go_wp2_with fail
  have q0 : ((w.alloc (Obj.cells #[.slice (some ⟨rb, 0, none⟩) k cp, .int .i64 room, .int .i64 turn] 40)).alloc (Obj.cells #[.slice none 0 0, .int .i64 0, .int .i64 0] 40)).heap[w.heap.size]? = some (Obj.cells #[.slice (some ⟨rb, 0, none⟩) k cp, .int .i64 room, .int .i64 turn] 40) := by
    rw [Below.heap_alloc _ _ _ (by simp)]; exact heap_alloc_new _ _
  have q1 := alloc2_at w (Obj.cells #[.slice (some ⟨rb, 0, none⟩) k cp, .int .i64 room, .int .i64 turn] 40) (Obj.cells #[.slice none 0 0, .int .i64 0, .int .i64 0] 40)
  have hB := below_alloc2 w (Obj.cells #[.slice (some ⟨rb, 0, none⟩) k cp, .int .i64 room, .int .i64 turn] 40) (Obj.cells #[.slice none 0 0, .int .i64 0, .int .i64 0] 40)
  have hs : ((w.alloc (Obj.cells #[.slice (some ⟨rb, 0, none⟩) k cp, .int .i64 room, .int .i64 turn] 40)).alloc (Obj.cells #[.slice none 0 0, .int .i64 0, .int .i64 0] 40)).heap.size = w.heap.size + 2 := by simp
  generalize ((w.alloc (Obj.cells #[.slice (some ⟨rb, 0, none⟩) k cp, .int .i64 room, .int .i64 turn] 40)).alloc (Obj.cells #[.slice none 0 0, .int .i64 0, .int .i64 0] 40)) = wB at *
  have e0 : wB.cell? ⟨w.heap.size, 0, none⟩ = some (.slice (some ⟨rb, 0, none⟩) k cp) := by simp [World.cell?, q0]
  have e1 : wB.cell? ⟨w.heap.size, 1, none⟩ = some (.int .i64 room) := by simp [World.cell?, q0]
  have e2 : wB.cell? ⟨w.heap.size, 2, none⟩ = some (.int .i64 turn) := by simp [World.cell?, q0]
  have Q0 : Hid _ := q0
  have Q1 : Hid _ := q1
  have HB : Hid _ := hB
  have HS : Hid _ := hs
  clear q0 q1 hB hs
  go_loop [6, 7] (fun p i' => ∃ m : Nat, m ≤ i ∧ p = .int .i64 ((turn + m) % k : Nat) ∧ i' = .int .i64 m) (fun _ i' => k - (intOf i').toNat)
  case atStart => exact ⟨0, Nat.zero_le _, by rw [Nat.add_zero, HT.out], rfl⟩
  case round =>
    obtain ⟨m, hm, rfl, rfl⟩ := hrel
    have hmk : m < k := by omega
    have hPk : (turn + m) % k < k := Nat.mod_lt _ (by omega)
    obtain ⟨hrb, vs, h1, h2, h3, h4⟩ := H2.out
    obtain ⟨a, c, q1, q2, q3⟩ := h4 _ hPk
    have c0 := h2 _ _ q1
    clear q1 q2 q3 h1 h2 h3 h4 vs hrb
    have hp0 : (0 : Int) ≤ (((turn + m) % k : Nat) : Int) := by omega
    have hp1 : (((turn + m) % k : Nat) : Int) < (k : Int) := by omega
    by_cases hlt : m < i
    · rw [HE.out m hlt] at c0
      have hnx := mod_step (m := m) ht (by omega)
      have HN : Hid _ := hnx
      clear hnx
      generalize (turn + m) % k = P at *
      by_cases hl : P + 1 = k
      · have hl2 : ((P : Int) + 1 == (k : Int)) = true := by simp; omega
        go_wp2_with fail
        go_round
        case rel => exact ⟨m + 1, by omega, by rw [HN.out, if_pos hl]; rfl, by go_num⟩
        case measure => simp [intOf]; omega
      · have hl2 : ((P : Int) + 1 == (k : Int)) = false := by simp; omega
        go_wp2_with fail
        go_round
        case rel => exact ⟨m + 1, by omega, by rw [HN.out, if_neg hl]; go_num, by go_num⟩
        case measure => simp [intOf]; omega
    · obtain rfl : m = i := by omega
      have hcall := fun t => reftake_any (cp := cp) (room := room) (turn := t) (p := (((turn + m) % k : Nat) : Int)) H2.out (fun o ho => ⟨HXX.out o (by have := HS.out; omega), by have := HS.out; omega, by have := HS.out; omega⟩) hk
      rw [takeL_cons hPk HX.out] at hcall
      have HC : Hid _ := hcall
      rw [HX.out] at c0
      have hlen : 0 < ((x :: l).length) := by simp
      have HN : Hid _ := succ_modA hPk
      clear hcall HX HE
      generalize (x :: l).length = L at *
      generalize hU : upd ls ((turn + m) % k) l = ls' at *
      have HU : Hid _ := hU
      clear hU
      generalize hNx : ((turn + m) % k + 1) % k = nx at *
      have HNX : Hid _ := hNx
      clear hNx
      generalize hPe : (turn + m) % k = P at *
      have HP : Hid _ := hPe
      clear hPe
      go_wp2_with fail
      refine (HC.out _).mono ?_
      rintro e w3 ⟨g3, cap3, rfl, href, hb⟩
      have s3 : wB.heap.size ≤ w3.heap.size := hb.size
      have f0 : w3.cell? ⟨w.heap.size, 0, none⟩ = some (.slice (some ⟨rb, 0, none⟩) k cp) := (hb.cell (by have := HS.out; simp; omega)).trans e0
      have HR := Lib.hid href
      have HB3 : Hid _ := hb
      have S3 : Hid _ := s3
      have z1 : w.heap.size + 1 < w3.heap.size := by have := HS.out; omega
      have z0 : w.heap.size < w3.heap.size := by omega
      have q3 : w3.heap[w.heap.size + 1]? = some (.cells #[.slice none 0 0, .int .i64 0, .int .i64 0] 40 (0, 0)) := (hb.block _ (by have := HS.out; omega)).trans Q1.out
      have r0 : w3.cell? ⟨w.heap.size + 1, 0, none⟩ = some (.slice none 0 0) := by simp [World.cell?, q3]
      have r1 : w3.cell? ⟨w.heap.size + 1, 1, none⟩ = some (.int .i64 0) := by simp [World.cell?, q3]
      have r2 : w3.cell? ⟨w.heap.size + 1, 2, none⟩ = some (.int .i64 0) := by simp [World.cell?, q3]
      have fr : ∀ j, w3.frozen? ⟨w.heap.size + 1, j, none⟩ = false := fun j => frozen_of_row w3 _ j _ _ q3
      have Q3 : Hid _ := q3
      clear q3
      clear href hb s3 e0 e1 e2 c0
      by_cases hl : P + 1 = k
      · have hl2 : ((P : Int) + 1 == (k : Int)) = true := by simp; omega
        have hn0 : nx = 0 := by rw [HN.out, if_pos hl]
        subst hn0
        go_wp2_with fail
        refine bodyPost_ret (res_cell4 rfl _ _ (w.heap.size + 1) 40 #[.slice (some ⟨g3, 0, none⟩) k cap3, .int .i64 room, .int .i64 0] (0, 0) _ rfl ?_ Try.underlying40 rfl info40) rfl ⟨g3, cap3, (by rw [HP.out, HNX.out]; rfl), ?_, ?_⟩
        · rw [Below.heap_alloc _ _ _ (by simp; omega)]
          exact put3 Q3.out _ _ _
        · rw [HP.out, HU.out]
          exact (HR.out.put3 _ _ _).alloc _
        · exact (below_put3 (HB.out.trans (HB3.out.mono (by have := HS.out; omega))) (by omega) _ _ _).alloc (by simp; omega) _
      · have hl2 : ((P : Int) + 1 == (k : Int)) = false := by simp; omega
        have hn0 : nx = P + 1 := by rw [HN.out, if_neg hl]
        subst hn0
        go_wp2_with fail
        refine bodyPost_ret (res_cell4 rfl _ _ (w.heap.size + 1) 40 #[.slice (some ⟨g3, 0, none⟩) k cap3, .int .i64 room, .int .i64 ((P : Int) + 1)] (0, 0) _ rfl ?_ Try.underlying40 rfl info40) rfl ⟨g3, cap3, (by rw [HP.out, HNX.out]; rfl), ?_, ?_⟩
        · rw [Below.heap_alloc _ _ _ (by simp; omega)]
          exact put3 Q3.out _ _ _
        · rw [HP.out, HU.out]
          exact (HR.out.put3 _ _ _).alloc _
        · exact (below_put3 (HB.out.trans (HB3.out.mono (by have := HS.out; omega))) (by omega) _ _ _).alloc (by simp; omega) _
set_option maxHeartbeats 1000000 in
theorem refnext_none {X : Nat → Prop} {rb k cp turn : Nat} {room : Int} {ls : Nat → List Int} {w : World} (h : RefAt X w rb k ls) (hk : k ≤ 8) (ht : turn < k)
    (hemp : ∀ j, j < k → ls j = []) :
    Calls Try.prog 16 #[.agg #[.slice (some ⟨rb, 0, none⟩) k cp, .int .i64 room, .int .i64 turn]] w fun e w' =>
      e = .returned (.tuple #[.agg #[.slice (some ⟨rb, 0, none⟩) k cp, .int .i64 room, .int .i64 turn], .int .i64 (-1), .int .i64 0, .int .i64 5]) ∧ Below w.heap.size w w' := by
  have h2 := (RefAt.apart h).below (below_alloc2 w (Obj.cells #[.slice (some ⟨rb, 0, none⟩) k cp, .int .i64 room, .int .i64 turn] 40) (Obj.cells #[.slice none 0 0, .int .i64 0, .int .i64 0] 40))
  have H2 := Lib.hid h2
  have HE : Hid _ := hemp
  have ht0 : turn % k = turn := Nat.mod_eq_of_lt ht
  have HT : Hid _ := ht0
  clear h h2 hemp ht0
  go_enter Try.func16, Try.ntmps16
  go_wp2_with fail
  have q0 : ((w.alloc (Obj.cells #[.slice (some ⟨rb, 0, none⟩) k cp, .int .i64 room, .int .i64 turn] 40)).alloc (Obj.cells #[.slice none 0 0, .int .i64 0, .int .i64 0] 40)).heap[w.heap.size]? = some (Obj.cells #[.slice (some ⟨rb, 0, none⟩) k cp, .int .i64 room, .int .i64 turn] 40) := by
    rw [Below.heap_alloc _ _ _ (by simp)]; exact heap_alloc_new _ _
  have q1 := alloc2_at w (Obj.cells #[.slice (some ⟨rb, 0, none⟩) k cp, .int .i64 room, .int .i64 turn] 40) (Obj.cells #[.slice none 0 0, .int .i64 0, .int .i64 0] 40)
  have hB := below_alloc2 w (Obj.cells #[.slice (some ⟨rb, 0, none⟩) k cp, .int .i64 room, .int .i64 turn] 40) (Obj.cells #[.slice none 0 0, .int .i64 0, .int .i64 0] 40)
  generalize ((w.alloc (Obj.cells #[.slice (some ⟨rb, 0, none⟩) k cp, .int .i64 room, .int .i64 turn] 40)).alloc (Obj.cells #[.slice none 0 0, .int .i64 0, .int .i64 0] 40)) = wB at *
  have e0 : wB.cell? ⟨w.heap.size, 0, none⟩ = some (.slice (some ⟨rb, 0, none⟩) k cp) := by simp [World.cell?, q0]
  have e1 : wB.cell? ⟨w.heap.size, 1, none⟩ = some (.int .i64 room) := by simp [World.cell?, q0]
  have e2 : wB.cell? ⟨w.heap.size, 2, none⟩ = some (.int .i64 turn) := by simp [World.cell?, q0]
  have r0 : wB.cell? ⟨w.heap.size + 1, 0, none⟩ = some (.slice none 0 0) := by simp [World.cell?, q1]
  have r1 : wB.cell? ⟨w.heap.size + 1, 1, none⟩ = some (.int .i64 0) := by simp [World.cell?, q1]
  have r2 : wB.cell? ⟨w.heap.size + 1, 2, none⟩ = some (.int .i64 0) := by simp [World.cell?, q1]
  have fr : ∀ j, wB.frozen? ⟨w.heap.size + 1, j, none⟩ = false := fun j => frozen_of_row wB _ j _ _ q1
  have Q1 : Hid _ := q1
  have HB : Hid _ := hB
  clear q0 q1 hB
  go_loop [6, 7] (fun p i' => ∃ m : Nat, m ≤ k ∧ p = .int .i64 ((turn + m) % k : Nat) ∧ i' = .int .i64 m) (fun _ i' => k - (intOf i').toNat)
  case atStart => exact ⟨0, Nat.zero_le _, by rw [Nat.add_zero, HT.out], rfl⟩
  case round =>
    obtain ⟨m, hm, rfl, rfl⟩ := hrel
    have hPk : (turn + m) % k < k := Nat.mod_lt _ (by omega)
    have hp0 : (0 : Int) ≤ (((turn + m) % k : Nat) : Int) := by omega
    have hp1 : (((turn + m) % k : Nat) : Int) < (k : Int) := by omega
    by_cases hlt : m < k
    · obtain ⟨hrb, vs, h1, h2, h3, h4⟩ := H2.out
      obtain ⟨a, c, q1, q2, q3⟩ := h4 _ hPk
      have c0 := h2 _ _ q1
      clear q1 q2 q3 h1 h2 h3 h4 vs hrb
      rw [HE.out _ hPk] at c0
      have hN : (turn + (m + 1)) % k = if (turn + m) % k + 1 = k then 0 else (turn + m) % k + 1 := by
        rw [← Nat.add_assoc, ← succ_modA hPk]; simp
      have HN : Hid _ := hN
      clear hN
      clear r0 r1 r2 fr
      generalize (turn + m) % k = P at *
      by_cases hl : P + 1 = k
      · have hl2 : ((P : Int) + 1 == (k : Int)) = true := by simp; omega
        go_wp2_with fail
        go_round
        case rel => exact ⟨m + 1, by omega, by rw [HN.out, if_pos hl]; rfl, by go_num⟩
        case measure => simp [intOf]; omega
      · have hl2 : ((P : Int) + 1 == (k : Int)) = false := by simp; omega
        go_wp2_with fail
        go_round
        case rel => exact ⟨m + 1, by omega, by rw [HN.out, if_neg hl]; go_num, by go_num⟩
        case measure => simp [intOf]; omega
    · obtain rfl : m = k := by omega
      clear hp0 hp1
      go_wp2_with fail
      refine bodyPost_ret (res_cell4 rfl _ _ (w.heap.size + 1) 40 #[.slice (some ⟨rb, 0, none⟩) m cp, .int .i64 room, .int .i64 turn] (0, 0) _ rfl (put3 Q1.out _ _ _) Try.underlying40 rfl info40) rfl ⟨rfl, below_put3 HB.out (by omega) _ _ _⟩
end Go.Proofs.Ytbnakfpdmiibdaa
