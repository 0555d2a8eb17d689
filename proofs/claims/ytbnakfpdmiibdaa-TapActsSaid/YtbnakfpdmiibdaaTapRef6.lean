/- TapActs, the reference: Spread. -/
import Derived.Test.YtbnakfpdmiibdaaTapRef5
namespace Go.Proofs.Ytbnakfpdmiibdaa
open Go.Conc Go.RowKit
set_option maxRecDepth 100000
set_option maxHeartbeats 1000000 in
theorem refspread_some {X : Nat → Prop} {rb k cp p room : Nat} {turn n : Int} {ls : Nat → List Int} {w : World} (h : RefAt X w rb k ls) (hX : ∀ o, w.heap.size ≤ o → X o) (hk : k ≤ 8) (hr : room ≤ 64) (hp : p < k) (hroom : (ls p).length < room)
    (hall : ∀ j, j < k → (ls j).length ≤ room) (hmin : ∀ j, j < k → (ls p).length ≤ (ls j).length) (hfirst : ∀ j, j < p → (ls p).length < (ls j).length) :
    Calls Try.prog 17 #[.agg #[.slice (some ⟨rb, 0, none⟩) k cp, .int .i64 room, .int .i64 turn], .int .i64 n] w fun e w' =>
      ∃ g cap, e = .returned (.tuple #[.agg #[.slice (some ⟨g, 0, none⟩) k cap, .int .i64 room, .int .i64 turn], .int .i64 p, .int .i64 0]) ∧
        RefAt X w' g k (upd ls p (ls p ++ [n])) ∧ Below w.heap.size w w' := by
  have h2 := (RefAt.apart h).below (below_alloc2 w (Obj.cells #[.slice (some ⟨rb, 0, none⟩) k cp, .int .i64 room, .int .i64 turn] 40) (Obj.cells #[.slice none 0 0, .int .i64 0, .int .i64 0] 40))
  have H2 := Lib.hid h2
  have HA : Hid _ := hall
  have HM : Hid _ := hmin
  have HF : Hid _ := hfirst
  have HXX : Hid _ := hX
  generalize hL : ls p = L at *
  have HL : Hid _ := hL
  clear h h2 hX hall hmin hfirst hL
  go_enter Try.func17, Try.ntmps17
  go_wp2_with fail
  have q0 : ((w.alloc (Obj.cells #[.slice (some ⟨rb, 0, none⟩) k cp, .int .i64 room, .int .i64 turn] 40)).alloc (Obj.cells #[.slice none 0 0, .int .i64 0, .int .i64 0] 40)).heap[w.heap.size]? = some (Obj.cells #[.slice (some ⟨rb, 0, none⟩) k cp, .int .i64 room, .int .i64 turn] 40) := by
    rw [Below.heap_alloc _ _ _ (by simp)]; exact heap_alloc_new _ _
  have q1 := alloc2_at w (Obj.cells #[.slice (some ⟨rb, 0, none⟩) k cp, .int .i64 room, .int .i64 turn] 40) (Obj.cells #[.slice none 0 0, .int .i64 0, .int .i64 0] 40)
  have hB := below_alloc2 w (Obj.cells #[.slice (some ⟨rb, 0, none⟩) k cp, .int .i64 room, .int .i64 turn] 40) (Obj.cells #[.slice none 0 0, .int .i64 0, .int .i64 0] 40)
  have hs : ((w.alloc (Obj.cells #[.slice (some ⟨rb, 0, none⟩) k cp, .int .i64 room, .int .i64 turn] 40)).alloc (Obj.cells #[.slice none 0 0, .int .i64 0, .int .i64 0] 40)).heap.size = w.heap.size + 2 := by simp
  generalize ((w.alloc (Obj.cells #[.slice (some ⟨rb, 0, none⟩) k cp, .int .i64 room, .int .i64 turn] 40)).alloc (Obj.cells #[.slice none 0 0, .int .i64 0, .int .i64 0] 40)) = wB at *
  have e0 : wB.cell? ⟨w.heap.size, 0, none⟩ = some (.slice (some ⟨rb, 0, none⟩) k cp) := by simp [World.cell?, q0]
  have e1 : wB.cell? ⟨w.heap.size, 1, none⟩ = some (.int .i64 room) := by simp [World.cell?, q0]
  have e2 : wB.cell? ⟨w.heap.size, 2, none⟩ = some (.int .i64 turn) := by simp [World.cell?, q0]
  have Q1 : Hid _ := q1
  have HB : Hid _ := hB
  have HS : Hid _ := hs
  clear q0 q1 hB hs
  have round : ∀ m, m < k → ∃ a c, wB.cell? ⟨rb, m, none⟩ = some (.slice a (ls m).length c) := fun m hm => by
    obtain ⟨hrb, vs, h1, h2, h3, h4⟩ := H2.out
    obtain ⟨a, c, q1, q2, q3⟩ := h4 _ hm
    exact ⟨a, c, h2 _ _ q1⟩
  have RD : Hid _ := round
  clear round
  go_loop [7] (fun i => ∃ v : Nat, v ≤ L.length ∧ i = .int .i64 v) (fun i => room - (intOf i).toNat)
  case atStart => exact ⟨0, Nat.zero_le _, rfl⟩
  case round =>
    obtain ⟨v, hv, rfl⟩ := hrel
    have hvr : v < room := by omega
    go_wp2_with fail
    go_loop [8] (fun i => ∃ m : Nat, m ≤ k ∧ (v = L.length → m ≤ p) ∧ i = .int .i64 m) (fun i => k - (intOf i).toNat)
    case atStart => exact ⟨0, Nat.zero_le _, fun _ => Nat.zero_le _, rfl⟩
    case round =>
      obtain ⟨m, hm, hmp, rfl⟩ := hrel
      by_cases hmk : m < k
      · obtain ⟨a, c, c0⟩ := RD.out m hmk
        have hmin := HM.out m hmk
        have m0 : (0 : Int) ≤ (m : Int) := by omega
        have m1 : (m : Int) < (k : Int) := by omega
        have hor := HA.out m hmk
        by_cases heq : v = L.length ∧ m = p
        · obtain ⟨h1, h2⟩ := heq
          subst h2
          subst h1
          have hcall := refput_any (cp := cp) (room := room) (turn := turn) (p := (m : Int)) (n := n) H2.out (fun o ho => ⟨HXX.out o (by have := HS.out; omega), by have := HS.out; omega, by have := HS.out; omega⟩) hk hr HA.out
          rw [putL_room hmk (by rw [HL.out]; omega), HL.out] at hcall
          rw [HL.out] at c0
          have HC := Lib.hid hcall
          clear hcall hmin hor
          have hl2 : ((L.length : Int) == (L.length : Int)) = true := by simp
          generalize hU : upd ls m (L ++ [n]) = ls' at *
          have HU : Hid _ := hU
          clear hU
          go_wp2_with fail
          refine (HC.out).mono ?_
          rintro e w3 ⟨g3, cap3, rfl, href, hb⟩
          have s3 : wB.heap.size ≤ w3.heap.size := hb.size
          have HR := Lib.hid href
          have HB3 : Hid _ := hb
          have z1 : w.heap.size + 1 < w3.heap.size := by have := HS.out; omega
          have q3 : w3.heap[w.heap.size + 1]? = some (.cells #[.slice none 0 0, .int .i64 0, .int .i64 0] 40 (0, 0)) := (hb.block _ (by have := HS.out; omega)).trans Q1.out
          have r0 : w3.cell? ⟨w.heap.size + 1, 0, none⟩ = some (.slice none 0 0) := by simp [World.cell?, q3]
          have r1 : w3.cell? ⟨w.heap.size + 1, 1, none⟩ = some (.int .i64 0) := by simp [World.cell?, q3]
          have r2 : w3.cell? ⟨w.heap.size + 1, 2, none⟩ = some (.int .i64 0) := by simp [World.cell?, q3]
          have fr : ∀ j, w3.frozen? ⟨w.heap.size + 1, j, none⟩ = false := fun j => frozen_of_row w3 _ j _ _ q3
          have Q3 : Hid _ := q3
          clear href hb s3 e0 e1 e2 c0 q3
          go_wp2_with fail
          refine bodyPost_ret (res_cell3 rfl _ _ (w.heap.size + 1) 40 #[.slice (some ⟨g3, 0, none⟩) k cap3, .int .i64 room, .int .i64 turn] (0, 0) _ rfl ?_ Try.underlying40 rfl info40) rfl ⟨g3, cap3, rfl, ?_, ?_⟩
          · rw [Below.heap_alloc _ _ _ (by simp; omega)]
            exact put3 Q3.out _ _ _
          · rw [HU.out]
            exact (HR.out.put3 _ _ _).alloc _
          · exact (below_put3 (HB.out.trans (HB3.out.mono (by have := HS.out; omega))) (by omega) _ _ _).alloc (by simp; omega) _
        · have hne : (ls m).length ≠ v := fun e => by
            by_cases h1 : v = L.length
            · have := hmp h1
              have := HF.out m (by omega)
              omega
            · omega
          generalize (ls m).length = lm at *
          have hl2 : ((lm : Int) == (v : Int)) = false := by simp; omega
          clear hmin hor
          have HN : Hid _ := hne
          clear hne
          go_wp2_with fail
          go_round
          case rel => exact ⟨m + 1, by omega, fun h => by omega, by go_num⟩
          case measure => simp [intOf]; omega
      · obtain rfl : m = k := by omega
        go_wp2_with fail
        go_round
        case rel => exact ⟨v + 1, by omega, by go_num⟩
        case measure => simp [intOf]; omega
set_option maxHeartbeats 1000000 in
theorem refspread_none {X : Nat → Prop} {rb k cp room : Nat} {turn n : Int} {ls : Nat → List Int} {w : World} (h : RefAt X w rb k ls) (hk : k ≤ 8) (hr : room ≤ 64)
    (hall : ∀ j, j < k → room ≤ (ls j).length) :
    Calls Try.prog 17 #[.agg #[.slice (some ⟨rb, 0, none⟩) k cp, .int .i64 room, .int .i64 turn], .int .i64 n] w fun e w' =>
      e = .returned (.tuple #[.agg #[.slice (some ⟨rb, 0, none⟩) k cp, .int .i64 room, .int .i64 turn], .int .i64 (-1), .int .i64 6]) ∧ Below w.heap.size w w' := by
  have h2 := (RefAt.apart h).below (below_alloc2 w (Obj.cells #[.slice (some ⟨rb, 0, none⟩) k cp, .int .i64 room, .int .i64 turn] 40) (Obj.cells #[.slice none 0 0, .int .i64 0, .int .i64 0] 40))
  have H2 := Lib.hid h2
  have HA : Hid _ := hall
  clear h h2 hall
  go_enter Try.func17, Try.ntmps17
  go_wp2_with fail
  have q0 : ((w.alloc (Obj.cells #[.slice (some ⟨rb, 0, none⟩) k cp, .int .i64 room, .int .i64 turn] 40)).alloc (Obj.cells #[.slice none 0 0, .int .i64 0, .int .i64 0] 40)).heap[w.heap.size]? = some (Obj.cells #[.slice (some ⟨rb, 0, none⟩) k cp, .int .i64 room, .int .i64 turn] 40) := by
    rw [Below.heap_alloc _ _ _ (by simp)]; exact heap_alloc_new _ _
  have q1 := alloc2_at w (Obj.cells #[.slice (some ⟨rb, 0, none⟩) k cp, .int .i64 room, .int .i64 turn] 40) (Obj.cells #[.slice none 0 0, .int .i64 0, .int .i64 0] 40)
  have hB := below_alloc2 w (Obj.cells #[.slice (some ⟨rb, 0, none⟩) k cp, .int .i64 room, .int .i64 turn] 40) (Obj.cells #[.slice none 0 0, .int .i64 0, .int .i64 0] 40)
  generalize ((w.alloc (Obj.cells #[.slice (some ⟨rb, 0, none⟩) k cp, .int .i64 room, .int .i64 turn] 40)).alloc (Obj.cells #[.slice none 0 0, .int .i64 0, .int .i64 0] 40)) = wB at *
  have e0 : wB.cell? ⟨w.heap.size, 0, none⟩ = some (.slice (some ⟨rb, 0, none⟩) k cp) := by simp [World.cell?, q0]
  have e1 : wB.cell? ⟨w.heap.size, 1, none⟩ = some (.int .i64 room) := by simp [World.cell?, q0]
  have e2 : wB.cell? ⟨w.heap.size, 2, none⟩ = some (.int .i64 turn) := by simp [World.cell?, q0]
  have r0 : wB.cell? ⟨w.heap.size + 1, 0, none⟩ = some (.slice none 0 0) := by simp [World.cell?, q1]
  have r1 : wB.cell? ⟨w.heap.size + 1, 1, none⟩ = some (.int .i64 0) := by simp [World.cell?, q1]
  have r2 : wB.cell? ⟨w.heap.size + 1, 2, none⟩ = some (.int .i64 0) := by simp [World.cell?, q1]
  have fr : ∀ j, wB.frozen? ⟨w.heap.size + 1, j, none⟩ = false := fun j => frozen_of_row wB _ j _ _ q1
  have Q1 : Hid _ := q1
  have HB : Hid _ := hB
  clear q0 q1 hB
  have round : ∀ m, m < k → ∃ a c, wB.cell? ⟨rb, m, none⟩ = some (.slice a (ls m).length c) := fun m hm => by
    obtain ⟨hrb, vs, h1, h2, h3, h4⟩ := H2.out
    obtain ⟨a, c, q1, q2, q3⟩ := h4 _ hm
    exact ⟨a, c, h2 _ _ q1⟩
  have RD : Hid _ := round
  clear round
  go_loop [7] (fun i => ∃ v : Nat, v ≤ room ∧ i = .int .i64 v) (fun i => room - (intOf i).toNat)
  case atStart => exact ⟨0, Nat.zero_le _, rfl⟩
  case round =>
    obtain ⟨v, hv, rfl⟩ := hrel
    by_cases hvr : v < room
    · go_wp2_with fail
      go_loop [8] (fun i => ∃ m : Nat, m ≤ k ∧ i = .int .i64 m) (fun i => k - (intOf i).toNat)
      case atStart => exact ⟨0, Nat.zero_le _, rfl⟩
      case round =>
        obtain ⟨m, hm, rfl⟩ := hrel
        by_cases hmk : m < k
        · obtain ⟨a, c, c0⟩ := RD.out m hmk
          have m0 : (0 : Int) ≤ (m : Int) := by omega
          have m1 : (m : Int) < (k : Int) := by omega
          have hor := HA.out m hmk
          generalize (ls m).length = lm at *
          have hl2 : ((lm : Int) == (v : Int)) = false := by simp; omega
          clear hor
          go_wp2_with fail
          go_round
          case rel => exact ⟨m + 1, by omega, by go_num⟩
          case measure => simp [intOf]; omega
        · obtain rfl : m = k := by omega
          go_wp2_with fail
          go_round
          case rel => exact ⟨v + 1, by omega, by go_num⟩
          case measure => simp [intOf]; omega
    · obtain rfl : v = room := by omega
      go_wp2_with fail
      refine bodyPost_ret (res_cell3 rfl _ _ (w.heap.size + 1) 40 #[.slice (some ⟨rb, 0, none⟩) k cp, .int .i64 v, .int .i64 turn] (0, 0) _ rfl (put3 Q1.out _ _ _) Try.underlying40 rfl info40) rfl ⟨rfl, below_put3 HB.out (by omega) _ _ _⟩
end Go.Proofs.Ytbnakfpdmiibdaa
