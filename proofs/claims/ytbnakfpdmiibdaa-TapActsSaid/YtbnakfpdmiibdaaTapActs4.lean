/- TapActs: the walk of the row. -/
import Derived.Test.YtbnakfpdmiibdaaTapActs3
import Derived.OwnWalk
import Derived.WalkKit
import Derived.ChangeSlices
import Derived.StillTailTactics
import Derived.Deep.DeepCutAuto
import Derived.Deep.CutBlock
import Derived.Deep.LoopGhost
import Derived.Deep.RegionLaw
namespace Go.Proofs.Ytbnakfpdmiibdaa
open Go.Conc Go.RowKit Go.AE
set_option maxRecDepth 100000
theorem st_start {W w1 w0 : World} {tb pb k cp room : Nat} {cb : Nat → Nat} (hk : 1 ≤ k ∧ k ≤ 8) (hr : 1 ≤ room ∧ room ≤ 64) (ht : TapAt W.heap.size w1 tb pb k cp room cb (fun _ => #[]) 0) (hb : Below W.heap.size W w1)
    (hown : w0.ownsRow w1.heap.size 27 1 (.slice (some ⟨w1.heap.size, 0, none⟩) k k) k (madeCells (Value.slice none 0 0).cells (k * 1)).toList) (hb1 : Below w1.heap.size w1 w0) :
    St W (w0.alloc (.cells #[.slice (some ⟨w1.heap.size, 0, none⟩) k k, .int .i64 room, .int .i64 0] 40)) w1.heap.size tb pb k cp room cb w0.heap.size (fun _ => []) 0 w1.heap.size k (fun _ => []) 0 := by
  have hlt : tb < w1.heap.size ∧ pb < w1.heap.size ∧ ∀ j, j < k → cb j < w1.heap.size := ⟨cell_lt ht.pipes, cell_lt (ht.ch 0 (by omega)), fun j hj => by
    obtain ⟨s, r, q⟩ := ht.chan j hj
    exact (Array.getElem?_eq_some_iff.1 q).1⟩
  have hg := hown.lt _ rfl
  have h1 := hb.size
  have h2 := hb1.size
  have hba : Below w1.heap.size w1 (w0.alloc (.cells #[.slice (some ⟨w1.heap.size, 0, none⟩) k k, .int .i64 room, .int .i64 0] 40)) := hb1.alloc h2 _
  have hvs : (madeCells (Value.slice none 0 0).cells (k * 1)).toList = List.replicate k (.slice none 0 0) := by
    apply List.ext_getElem
    · simp [madeCells]
    · intro i h1 h2
      simp [madeCells, Value.cells, Nat.mod_one]
  rw [hvs] at hown
  refine ⟨?_, hlt, hb.trans (hba.mono h1), ⟨h1, h2, by simp⟩, hk, hr, by omega, by omega, fun _ _ => by simp, fun _ _ => by simp, ?_, heap_alloc_new _ _⟩
  · have := ht.keep hlt fun x hx => hba.block x hx
    exact this
  · refine RefAt.alloc ⟨⟨⟨Nat.le_refl _, by omega⟩, hg.2⟩, List.replicate k (.slice none 0 0), by simp, fun j u hj => ?_, fun u hu => ?_, fun j hj => ?_⟩ _
    · have hjk : j < k := by
        have := (List.getElem?_eq_some_iff.1 hj).1
        simpa using this
      exact (hown.cellAt j (by omega)).trans hj
    · rw [List.eq_of_mem_replicate hu]; rfl
    · exact ⟨none, 0, by simp [hj], Nat.le_refl _, fun u hu => by simp [vals] at hu, .inl ⟨rfl, rfl⟩⟩
theorem St.drew {W w : World} {B1 tb pb k cp room : Nat} {cb : Nat → Nat} {wv : Nat} {lt : Nat → List Int} {turn : Nat} {rb rcp : Nat} {lr : Nat → List Int} {rturn : Nat} (h : St W w B1 tb pb k cp room cb wv lt turn rb rcp lr rturn) : St W w.drew B1 tb pb k cp room cb wv lt turn rb rcp lr rturn := h.drewN 1
set_option maxHeartbeats 1000000 in
theorem acts_walk (k room : Nat) (hk1 : 1 ≤ k) (hk2 : k ≤ 8) (hr1 : 1 ≤ room) (hr2 : room ≤ 64) (ad : Option Addr) (lb off len cap : Nat) (zd zp zn : Nat → Int) (hlen : len ≤ maxLen) (had : 0 < len → ad = some ⟨lb, off, none⟩) (w : World)
    (hcell : ∀ i, i < len → w.cell? ⟨lb, off + i * 3, none⟩ = some (.int .i64 (zd i)) ∧ w.cell? ⟨lb, off + i * 3 + 1, none⟩ = some (.int .i64 (zp i)) ∧ w.cell? ⟨lb, off + i * 3 + 2, none⟩ = some (.int .i64 (zn i))) :
    Calls Try.prog 5 #[.int .i64 k, .int .i64 room, .slice ad len cap] w fun e w' => e = .returned (.bool true) ∧ Below w.heap.size w w' := by
  obtain ⟨i0, hi, hz0, hz1, hz2⟩ := info_parts Try.info3
  obtain ⟨i1, ki, kz0, kz1, kz2⟩ := info_parts Try.info27
  have HC := Lib.hid hcell
  clear hcell
  go_enter Try.func5, Try.ntmps5
  go_wp2_with fail
  refine (new_calls (r := room) hk1 hk2 hr1 hr2 w).mono ?_
  rintro e w1 ⟨tb, pb, cp, cb, rfl, ht, hbl⟩
  have HT := Lib.hid ht
  have HB := Lib.hid hbl
  clear ht hbl
  go_wp2_with (at_make; refine wpList_make_full _ rfl _ _ 38 rfl w1.heap.size 27 i1 (.slice none 0 0) 1 Try.underlying38 ki kz0 kz1 .i64 .i64 _ _ k rfl rfl rfl rfl (by rw [kz2]; omega) (by unfold maxLen; omega) (Nat.le_refl _) ?_; intro w0 hown0 hgrow0)
  have hst := st_start ⟨hk1, hk2⟩ ⟨hr1, hr2⟩ HT.out HB.out hown0 ((Below.refl _ _).grown hgrow0 (Nat.le_refl _) (fun k h => by cases h))
  have HS0 := Lib.hid hst
  clear hown0 hgrow0 hst HT HB ki kz0 kz1 kz2 i1
  go_wp2_with fail
  go_loopg [10] 100 (fun gk i wr => ∃ (m : Nat) (ls : Nat → List Int) (turn rb rcp : Nat), m ≤ len ∧ m + gk = 100 ∧ i = .int .i64 m ∧ Hid (St w wr w1.heap.size tb pb k cp room cb w0.heap.size ls turn rb rcp ls turn))
  case atStart => exact ⟨0, _, 0, _, _, Nat.zero_le _, rfl, rfl, HS0⟩
  case round =>
    obtain ⟨m, ls, turn, rb, rcp, hm, hm2, rfl, HS⟩ := hrel
    clear HS0
    by_cases hlt : m < len
    · by_cases hlt2 : m < 100
      · obtain rfl := had (by omega)
        have hbw := HS.out.below
        obtain ⟨d0, d1, d2⟩ := HC.out m hlt
        have c0 := (hbw.cell (cell_lt d0)).trans d0
        have c1 := (hbw.cell (cell_lt d1)).trans d1
        have c2 := (hbw.cell (cell_lt d2)).trans d2
        have hD : Hid (w.cell? ⟨lb, off + m * 3 + 1, none⟩ = some (.int .i64 (zp m)) ∧ w.cell? ⟨lb, off + m * 3 + 2, none⟩ = some (.int .i64 (zn m))) := Lib.hid ⟨d1, d2⟩
        clear d0 d1 d2 hbw
        generalize zd m = d at *
        generalize zp m = p at *
        generalize zn m = n at *
        have m0 : (0 : Int) ≤ (m : Int) := by omega
        have m1 : (m : Int) < (len : Int) := by omega
        go_upto_block 2 with fail
        go_cut [11, 12, 13, 14, 15, 16] (fun a b c d x y wx => ∃ (A C E : Int) (ls' : Nat → List Int) (turn' rb' rcp' : Nat), a = .int .i64 A ∧ b = .int .i64 A ∧ c = .int .i64 C ∧ d = .int .i64 C ∧ x = .int .i64 E ∧ y = .int .i64 E ∧ Hid (St w wx w1.heap.size tb pb k cp room cb w0.heap.size ls' turn' rb' rcp' ls' turn'))
        case first =>
          by_cases hd0 : d = 0
          · subst hd0
            go_wp2_with fail
            have hput := put_st HS.out.drew p n
            have hsd := HS.out.drew
            have HSD := Lib.hid hsd
            clear hsd
            go_still_tail 11, (by kernel_rfl)
            change wpList _ _ _ _ _ wr.drew
            replace c1 : wr.drew.cell? ⟨lb, off + m * 3 + 1, none⟩ = some (.int .i64 p) := c1
            replace c2 : wr.drew.cell? ⟨lb, off + m * 3 + 2, none⟩ = some (.int .i64 n) := c2
            clear HS c0
            generalize wr.drew = w2 at *
            go_wp2_with fail
            refine hput.mono ?_
            rintro e w3 ⟨rfl, hs3⟩
            have HS3 := Lib.hid hs3
            clear hs3 hput HSD c1 c2
            go_wp2_with fail
            have c1 := (HS3.out.below.cell (cell_lt hD.out.1)).trans hD.out.1
            have c2 := (HS3.out.below.cell (cell_lt hD.out.2)).trans hD.out.2
            obtain ⟨v0, v1, v2, fz⟩ := HS3.out.cells
            have hput := refput_st HS3.out.drew p n
            have HPP := Lib.hid hput
            have hsd := HS3.out.drew
            have HSD := Lib.hid hsd
            clear hsd HS3 fz hput
            go_region_law ((go_simp; go_at_call 13; refine HPP.out.mono ?_; rintro e w5 ⟨g, gc, rfl, href, hb⟩; have hs6 := Lib.hid (HSD.out.stored hb (cap := gc) href HSD.out.lens HSD.out.turnk); obtain ⟨x0, x1, x2, fz⟩ := (HSD.out.later hb).cells; clear href hb))
            all_goals (go_wp2_with fail; go_meet; exact ⟨_, _, _, _, _, _, _, rfl, rfl, rfl, rfl, rfl, rfl, hs6⟩)
          · by_cases hd1 : d = 1
            · subst hd1
              go_wp2_with fail
              refine (take_st HS.out p).mono ?_
              rintro e w3 ⟨rfl, hs3⟩
              have HS3 := Lib.hid hs3
              clear hs3 HS c0 c1 c2
              go_wp2_with fail
              have c1 := (HS3.out.below.cell (cell_lt hD.out.1)).trans hD.out.1
              obtain ⟨v0, v1, v2, fz⟩ := HS3.out.cells
              have hput := reftake_st HS3.out.drew p
              have HPP := Lib.hid hput
              have hsd := HS3.out.drew
              have HSD := Lib.hid hsd
              clear hsd HS3 fz hput
              go_region_law ((go_simp; go_at_call 15; refine HPP.out.mono ?_; rintro e w5 ⟨g, gc, rfl, href, hb⟩; have hs6 := Lib.hid (HSD.out.stored hb (cap := gc) href HSD.out.lens HSD.out.turnk); obtain ⟨x0, x1, x2, fz⟩ := (HSD.out.later hb).cells; clear href hb))
              all_goals (go_wp2_with fail; go_meet; exact ⟨_, _, _, _, _, _, _, rfl, rfl, rfl, rfl, rfl, rfl, hs6⟩)
            · by_cases hd2 : d = 2
              · subst hd2
                go_wp2_with fail
                refine (next_st HS.out).mono ?_
                rintro e w3 ⟨rfl, hs3⟩
                have HS3 := Lib.hid hs3
                clear hs3 HS c0 c1 c2
                obtain ⟨v0, v1, v2, fz⟩ := HS3.out.cells
                go_wp2_with fail
                refine (refnext_st HS3.out).mono ?_
                rintro e w5 ⟨g, gc, rfl, href, hb⟩
                have hs6 := Lib.hid (HS3.out.stored hb (cap := gc) href HS3.out.lens HS3.out.turnk)
                obtain ⟨x0, x1, x2, fz⟩ := (HS3.out.later hb).cells
                clear href hb HS3 v0 v1 v2
                go_wp2_with fail
                go_meet
                exact ⟨_, _, _, _, _, _, _, rfl, rfl, rfl, rfl, rfl, rfl, hs6⟩
              · go_wp2_with fail
                refine (spread_st HS.out n).mono ?_
                rintro e w3 ⟨rfl, hs3⟩
                have HS3 := Lib.hid hs3
                clear hs3 HS c0 c1 c2
                go_wp2_with fail
                have c2 := (HS3.out.below.cell (cell_lt hD.out.2)).trans hD.out.2
                obtain ⟨v0, v1, v2, fz⟩ := HS3.out.cells
                have hput := refspread_st HS3.out.drew n
                have HPP := Lib.hid hput
                have hsd := HS3.out.drew
                have HSD := Lib.hid hsd
                clear hsd HS3 fz hput
                go_region_law ((go_simp; go_at_call 17; refine HPP.out.mono ?_; rintro e w5 ⟨g, gc, rfl, href, hb⟩; have hs6 := Lib.hid (HSD.out.stored hb (cap := gc) href HSD.out.lens HSD.out.turnk); obtain ⟨x0, x1, x2, fz⟩ := (HSD.out.later hb).cells; clear href hb))
                all_goals (go_wp2_with fail; go_meet; exact ⟨_, _, _, _, _, _, _, rfl, rfl, rfl, rfl, rfl, rfl, hs6⟩)
        case rest =>
          obtain ⟨A, C, E, ls', turn', rb', rcp', rfl, rfl, rfl, rfl, rfl, rfl, HS6⟩ := hcut
          clear HS c0 c1 c2
          go_wp2_with fail
          have hown0 : (wc.alloc (Obj.cells #[] 3)).ownsRow wc.heap.size 3 1 (.slice (some ⟨wc.heap.size, 0, none⟩) 0 0) 0 (rlen ls' 0) := own_fresh (heap_alloc_new _ _) (Nat.le_refl _)
          have HO := Lib.hid hown0
          clear hown0
          go_loopw [17, 18] (fun v i wr2 => ∃ (j : Nat) (vv : Value), j ≤ k ∧ i = .int .i64 j ∧ vv = v ∧ Hid (wr2.ownsRow wc.heap.size 3 1 vv j (rlen ls' j)) ∧ Hid (Below wc.heap.size wc wr2)) (fun _ i _ => k - (intOf i).toNat)
          case atStart => exact ⟨0, _, Nat.zero_le _, rfl, rfl, HO, Lib.hid ((Below.refl _ _).alloc (Nat.le_refl _) _)⟩
          case round =>
            obtain ⟨j, vv, hj, rfl, rfl, hown, hbl⟩ := hrel
            clear HO
            have h6 := HS6.out.later hbl.out
            obtain ⟨v0, _, _, _⟩ := h6.cells
            have hsb := hbl.out.size
            by_cases hjk : j < k
            · obtain ⟨_, vs, _, q2, _, q4⟩ := h6.ref
              obtain ⟨a, c, q5, _, _⟩ := q4 j hjk
              have q6 := Lib.hid (q2 _ _ q5)
              clear h6 q2 q4 q5
              have ho := hown.out
              have q6 := q6.out
              have j0 : (0 : Int) ≤ (j : Int) := by omega
              have j1 : (j : Int) < (k : Int) := by omega
              clear hown
              generalize hlj : (ls' j).length = lj at *
              have HL := Lib.hid hlj
              clear hlj
              go_wp2_with (at_builtin; refine wpList_append_own _ rfl _ _ 27 rfl wc.heap.size 3 i0 (.int .i64 0) 1 8 Try.underlying27 hi hz0 hz1 hz2 rfl (by decide) _ _ _ rfl (ho.alloc _) ⟨wr.heap.size, 0, none⟩ 1 1 [.int .i64 lj] rfl rfl ?c1 ?c2 ?c3 ?c4 ?c5 ?_)
              case c1 =>
                intro j u hj
                match j, hj with
                | 0, hj => simp at hj; subst hj; simp [Addr.add]
              case c2 => intro u hu; simp at hu; subst hu; rfl
              case c3 => unfold maxLen; omega
              case c4 => omega
              case c5 => simp; omega
              · intro v' wn hown' hgrow _
                have hb1 : Below wc.heap.size wc wn := (hbl.out.alloc hsb _).grown hgrow (by simp; omega) fun x hx => (ho.lt x hx).1
                have HO' := Lib.hid hown'
                have HB' := Lib.hid hb1
                clear hown' hgrow ho hb1 q6 v0
                go_wp2_with fail
                go_roundw
                case rel => exact ⟨j + 1, _, by omega, by go_num, rfl, by rw [rlen_succ, HL.out]; exact HO', HB'⟩
                case measure => simp [intOf]; omega
            · obtain rfl : j = k := by omega
              have hform : ∃ g2 c2, vv = .slice (some ⟨g2, 0, none⟩) j c2 := by
                obtain ⟨_, ⟨_, h2⟩ | ⟨g, cap, _, h3, _⟩⟩ := hown.out
                · omega
                · exact ⟨g, cap, h3⟩
              obtain ⟨g2, c2, rfl⟩ := hform
              have hcnt := counts_st h6
              have H6 := Lib.hid h6
              have hg2 := (hown.out.lt g2 rfl).2
              have HCN := Lib.hid hcnt
              clear h6 v0 hcnt
              go_wp2_with fail
              refine HCN.out.mono ?_
              rintro e w7 ⟨g7, gc7, rfl, hrow7, hb7⟩
              have hown7 := ownsRow_below hown.out hb7
              have hints := ints_same (some ⟨g7, 0, none⟩) (some ⟨g2, 0, none⟩) g7 0 g2 0 j gc7 c2 (fun y => ((ls' y).length : Int)) w7 (by omega) (fun _ => rfl) (fun _ => rfl)
                (fun y hy => by rw [Nat.zero_add]; exact (hrow7.cellAt y (by omega)).trans (rlen_get ls' hy)) (fun y hy => by rw [Nat.zero_add]; exact (hown7.cellAt y (by omega)).trans (rlen_get ls' hy))
              have HI := Lib.hid hints
              have H7 := Lib.hid (H6.out.later hb7)
              clear hrow7 hb7 hown7 hints
              go_wp2_with fail
              refine HI.out.mono ?_
              rintro e w8 ⟨rfl, hb8⟩
              have H8 := Lib.hid (H7.out.later hb8)
              clear hb8
              go_wp2_with fail
              go_roundg (gk - 1)
              case measure => omega
              case rel => exact ⟨m + 1, ls', turn', rb', rcp', by omega, by omega, by go_num, H8⟩
      · have H2 := HS.out.below
        have HB2 := Lib.hid H2
        clear HS H2
        have d2 : decide ((m : Int) < 100) = false := by simp; omega
        go_wp2_with fail
        refine (awake_calls wr).mono ?_
        rintro e w2 ⟨rfl, hb2⟩
        have HB3 := Lib.hid hb2
        clear hb2
        go_wp2
        go_ret
        exact ⟨rfl, HB2.out.trans (HB3.out.mono HB2.out.size)⟩
    · have H2 := HS.out.below
      have HB2 := Lib.hid H2
      clear HS H2
      go_wp2_with fail
      refine (awake_calls wr).mono ?_
      rintro e w2 ⟨rfl, hb2⟩
      have HB3 := Lib.hid hb2
      clear hb2
      go_wp2
      go_ret
      exact ⟨rfl, HB2.out.trans (HB3.out.mono HB2.out.size)⟩
end Go.Proofs.Ytbnakfpdmiibdaa
