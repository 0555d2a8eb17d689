/- The theorem of turns: the calls, by what they leave. -/
import Derived.Test.YtbnakfpdmiibdaaTapFair1
namespace Go.Proofs.Ytbnakfpdmiibdaa
open Go.Conc Go.RowKit
set_option maxRecDepth 100000

theorem below_drewN2 {B : Nat} {a w : World} (h : Below B a w) (n : Nat) : Below B a (w.drewN n) := h.trans ⟨rfl, rfl, rfl, Nat.le_refl _, fun _ _ => rfl⟩
theorem ownsRow_below {w w' : World} {base e size n : Nat} {v : Value} {xs : List Value} (h : w.ownsRow base e size v n xs) (hb : Below w.heap.size w w') : w'.ownsRow base e size v n xs := by
  obtain ⟨h1, h2 | ⟨g, cap, cur, h3, h4, h5, h6⟩⟩ := h
  · exact ⟨h1, .inl h2⟩
  · exact ⟨h1, .inr ⟨g, cap, cur, h3, h4, (hb.block g (Array.getElem?_eq_some_iff.1 h5).1).trans h5, h6⟩⟩
theorem ownsRow_setChan {w : World} {base e size n : Nat} {v : Value} {xs : List Value} (h : w.ownsRow base e size v n xs) {c : Nat} (hc : c < base) (cap : Nat) (buf : Array Value) (cl : Bool) (s r : Nat) (tm : Bool) : (w.setChan c cap buf cl s r tm).ownsRow base e size v n xs := by
  obtain ⟨h1, h2 | ⟨g, cap', cur, h3, h4, h5, h6⟩⟩ := h
  · exact ⟨h1, .inl h2⟩
  · refine ⟨h1, .inr ⟨g, cap', cur, h3, h4, ?_, h6⟩⟩
    simp only [World.setChan]
    rw [Array.getElem?_setIfInBounds_ne (by omega)]; exact h5
theorem TapAt.keep {B0 B1 : Nat} {w w' : World} {b pb k cp room : Nat} {cb : Nat → Nat} {bufs : Nat → Array Value} {turn : Int} (h : TapAt B0 w b pb k cp room cb bufs turn) (lt : b < B1 ∧ pb < B1 ∧ ∀ j, j < k → cb j < B1) (hb : ∀ x, x < B1 → w'.heap[x]? = w.heap[x]?) :
    TapAt B0 w' b pb k cp room cb bufs turn := by
  have cell : ∀ a : Addr, a.block < B1 → w'.cell? a = w.cell? a := fun a ha => by unfold World.cell?; rw [hb _ ha]
  have frz : ∀ a : Addr, a.block < B1 → w'.frozen? a = w.frozen? a := fun a ha => by unfold World.frozen?; rw [hb _ ha]
  exact ⟨(cell _ lt.1).trans h.pipes, (cell _ lt.1).trans h.turnc, (frz _ lt.1).trans h.free, fun j hj => (cell _ lt.2.1).trans (h.ch j hj), fun j hj => by
    obtain ⟨s, r, q⟩ := h.chan j hj
    exact ⟨s, r, (hb _ (lt.2.2 j hj)).trans q⟩, h.inj, h.base⟩
theorem TapAt.turned {B0 : Nat} {w : World} {b pb k cp room : Nat} {cb : Nat → Nat} {bufs : Nat → Array Value} {turn : Int} (h : TapAt B0 w b pb k cp room cb bufs turn) (hpb : pb ≠ b) (t : Int) : TapAt B0 (w.setCell ⟨b, 1, none⟩ (.int .i64 t)) b pb k cp room cb bufs t := by
  have hcb : ∀ j, j < k → cb j ≠ b := fun j hj e => by
    obtain ⟨s, r, q⟩ := h.chan j hj
    have h0 := h.pipes
    unfold World.cell? at h0
    rw [e] at q
    rw [q] at h0; cases h0
  refine ⟨?_, ?_, ?_, fun j hj => ?_, fun j hj => ?_, h.inj, h.base⟩
  · rw [World.cell?_setCell_other _ _ _ _ (by intro e; injection e with _ e; cases e)]
    exact h.pipes
  · exact World.cell?_setCell_same' _ _ _ (by rw [h.turnc]; rfl)
  · simpa using h.free
  · rw [World.cell?_setCell_other _ _ _ _ (by intro e; injection e with e _; exact hpb e.symm)]
    exact h.ch j hj
  · obtain ⟨s, r, q⟩ := h.chan j hj
    refine ⟨s, r, ?_⟩
    rw [Below.heap_setCell _ _ _ _ (hcb j hj)]; exact q

def wl (f : Nat → Nat) (k : Nat) : List Value := (List.range k).map fun j => .int .i64 (f j)
/-- where the law stands -/
structure Sc (W w : World) (B1 tb pb k cp : Nat) (cb : Nat → Nat) (bufs : Nat → Array Value) (turn : Nat) (wb wcap : Nat) (f : Nat → Nat) : Prop where
  tap : TapAt W.heap.size w tb pb k cp 64 cb bufs turn
  lt : tb < B1 ∧ pb < B1 ∧ ∀ j, j < k → cb j < B1
  row : w.ownsRow B1 3 1 (.slice (some ⟨wb, 0, none⟩) k wcap) k (wl f k)
  below : Below W.heap.size W w
  b1 : W.heap.size ≤ B1 ∧ B1 ≤ w.heap.size
  k8 : 1 ≤ k ∧ k ≤ 8
  turn : turn < k

section
variable {W w : World} {B1 tb pb k cp : Nat} {cb : Nat → Nat} {bufs : Nat → Array Value} {turn wb wcap : Nat} {f : Nat → Nat}
theorem Sc.set (h : Sc W w B1 tb pb k cp cb bufs turn wb wcap f) {l s r s' r' : Nat} (hl : l < k) (hc : w.heap[cb l]? = some (.chan 64 (bufs l) false s r false)) (buf : Array Value) :
    Sc W (w.setChan (cb l) 64 buf false s' r' false) B1 tb pb k cp cb (fun j => if j = l then buf else bufs j) turn wb wcap f :=
  ⟨h.tap.set hl hc buf, h.lt, ownsRow_setChan h.row (h.lt.2.2 l hl) _ _ _ _ _ _, below_setChan h.below (h.tap.base.2 l hl) _ _ _ _ _ _, ⟨h.b1.1, by rw [size_setChan]; exact h.b1.2⟩, h.k8, h.turn⟩
theorem put_full (b pb c k cp cap s r p : Nat) (tm : Bool) (buf : Array Value) (n : Int) (w : World) (h0 : w.cell? ⟨b, 0, none⟩ = some (.slice (some ⟨pb, 0, none⟩) k cp))
    (hpk : p < k) (hch : w.cell? ⟨pb, p, none⟩ = some (.chan (some c))) (hc : w.heap[c]? = some (.chan cap buf false s r tm)) (hfull : cap ≤ buf.size) :
    Calls Try.prog 8 #[.pointer (some ⟨b, 0, none⟩), .int .i64 p, .int .i64 n] w fun e w' => (∃ x, e = .returned x) ∧ w' = w := by
  have hsend := send_full c cap s r tm buf n w hc hfull
  have hcount := count_ok b _ k cp w h0
  have d1 : decide ((p : Int) < 0) = false := by simp
  have d2 : decide ((p : Int) ≥ k) = false := by simp; omega
  clear hc hfull
  go_enter Try.func8, Try.ntmps8
  go_wp2_with (first | (go_at_call 20; refine hsend.mono ?_; rintro e w' ⟨rfl, rfl⟩) | (go_at_call 19; refine hcount.mono ?_; rintro e w' ⟨rfl, rfl⟩))
  all_goals go_ret
  all_goals exact ⟨⟨_, rfl⟩, rfl⟩
theorem put_fair (h : Sc W w B1 tb pb k cp cb bufs turn wb wcap f) {p : Nat} (hp : p < k) (n : Int) :
    Calls Try.prog 8 #[.pointer (some ⟨tb, 0, none⟩), .int .i64 p, .int .i64 n] w fun e w' => ∃ x bufs', e = .returned x ∧ Sc W w' B1 tb pb k cp cb bufs' turn wb wcap f := by
  obtain ⟨s, r, hc⟩ := h.tap.chan p hp
  by_cases hr : (bufs p).size < 64
  · refine (put_room tb pb (cb p) k cp 64 s r p false (bufs p) n w h.tap.pipes hp h.k8.2 (h.tap.ch p hp) hc hr).mono ?_
    rintro e w' ⟨rfl, rfl⟩
    exact ⟨_, _, rfl, h.set hp hc _⟩
  · refine (put_full tb pb (cb p) k cp 64 s r p false (bufs p) n w h.tap.pipes hp (h.tap.ch p hp) hc (by omega)).mono ?_
    rintro e w' ⟨⟨x, rfl⟩, rfl⟩
    exact ⟨x, bufs, rfl, h⟩
theorem Sc.later (h : Sc W w B1 tb pb k cp cb bufs turn wb wcap f) {w' : World} (hb : Below w.heap.size w w') : Sc W w' B1 tb pb k cp cb bufs turn wb wcap f :=
  ⟨h.tap.keep h.lt fun x hx => hb.block x (by have := h.b1.2; omega), h.lt, ownsRow_below h.row hb, h.below.trans (hb.mono h.below.size), ⟨h.b1.1, Nat.le_trans h.b1.2 hb.size⟩, h.k8, h.turn⟩
theorem counts_fair (h : Sc W w B1 tb pb k cp cb bufs turn wb wcap f) :
    Calls Try.prog 9 #[.pointer (some ⟨tb, 0, none⟩)] w fun e w' => ∃ g gcap CB, e = .returned (.slice (some ⟨g, 0, none⟩) k gcap) ∧ Sc W w' B1 tb pb k cp cb bufs turn wb wcap f ∧ w'.ownsRow CB 3 1 (.slice (some ⟨g, 0, none⟩) k gcap) k (lens bufs k) ∧ wb < CB ∧ B1 ≤ CB := by
  refine (counts_walk 0 tb pb k cp 64 cb bufs w h.tap.pipes h.k8.2 (Nat.zero_le _) h.tap.ch h.tap.chan).mono ?_
  rintro e w' ⟨v, rfl, hown, hb⟩
  have hv : ∃ g gcap, v = .slice (some ⟨g, 0, none⟩) k gcap := by
    obtain ⟨_, ⟨_, h2⟩ | ⟨g, cap, _, h3, _⟩⟩ := hown
    · have := h.k8.1; omega
    · exact ⟨g, cap, h3⟩
  obtain ⟨g, gcap, rfl⟩ := hv
  exact ⟨g, gcap, w.heap.size, rfl, h.later hb, hown, ((h.row.lt wb rfl).2), h.b1.2⟩
theorem next_fair (h : Sc W w B1 tb pb k cp cb bufs turn wb wcap f) (hf : Fair k turn f) :
    Calls Try.prog 10 #[.pointer (some ⟨tb, 0, none⟩)] w fun e w' => ∃ (p fc : Int) (v0 : Value) (turn' : Nat) (bufs' : Nat → Array Value), e = .returned (.tuple #[.int .i64 p, v0, .int .i64 fc]) ∧
      Sc W w' B1 tb pb k cp cb bufs' turn' wb wcap f ∧ Fair k turn' (waits (fun j => (bufs j).size) p f) ∧ (∀ j, j < k → waits (fun j => (bufs j).size) p f j < k) ∧ (fc = 0 ∨ ∀ j, j < k → (bufs j).size = 0) ∧
      ∀ CB g gcap xs, B1 ≤ CB → w.ownsRow CB 3 1 (.slice (some ⟨g, 0, none⟩) k gcap) k xs → w'.ownsRow CB 3 1 (.slice (some ⟨g, 0, none⟩) k gcap) k xs := by
  have hpb : pb ≠ tb := fun e => by
    have h1 := h.tap.ch 0 (by have := h.k8.1; omega)
    rw [e, h.tap.pipes] at h1
    cases h1
  by_cases hall : ∀ j, j < k → (bufs j).size = 0
  · have hemp : ∀ j, j < k → bufs j = #[] := fun j hj => Array.eq_empty_of_size_eq_zero (hall j hj)
    refine (next_none tb pb k cp 64 turn cb bufs w h.tap.pipes h.tap.turnc h.k8.2 h.turn h.tap.ch h.tap.chan hemp).mono ?_
    rintro e w' ⟨rfl, rfl⟩
    obtain ⟨q1, q2⟩ := Fair.none (f := f) (len := fun j => (bufs j).size) (p := -1) h.turn hall
    exact ⟨-1, 5, _, turn, bufs, rfl, h, q1, fun j hj => by rw [q2 j hj]; have := h.k8.1; omega, .inr hall, fun _ _ _ _ _ hr => hr⟩
  · -- the first that holds something, counted from the turn
    have hex : ∃ i, i < k ∧ (bufs ((turn + i) % k)).size ≠ 0 ∧ ∀ j, j < i → (bufs ((turn + j) % k)).size = 0 := by
      have hsome : ∃ i, i < k ∧ (bufs ((turn + i) % k)).size ≠ 0 := by
        apply Classical.byContradiction
        intro hno
        apply hall
        intro j hj
        apply Classical.byContradiction
        intro hne
        refine hno ⟨(j + k - turn) % k, Nat.mod_lt _ (by omega), ?_⟩
        have hD := dist_eq h.turn hj
        have hm := mod_eq h.turn (show (j + k - turn) % k < k from Nat.mod_lt _ (by omega))
        have ht := h.turn
        have : (turn + (j + k - turn) % k) % k = j := by
          rw [hm]
          generalize (j + k - turn) % k = D at *
          split at hD <;> split <;> omega
        rw [this]; exact hne
      obtain ⟨i, hi, hn⟩ := hsome
      induction i using Nat.strongRecOn with
      | ind i ih =>
        by_cases hz : ∀ j, j < i → (bufs ((turn + j) % k)).size = 0
        · exact ⟨i, hi, hn, hz⟩
        · obtain ⟨j, hj⟩ := Classical.not_forall.1 hz
          obtain ⟨hj1, hj2⟩ := Classical.not_imp.1 hj
          exact ih j hj1 (by omega) hj2
    obtain ⟨i, hi, hn, hz⟩ := hex
    have hP : (turn + i) % k < k := Nat.mod_lt _ (by omega)
    refine (next_some tb pb k cp 64 turn i cb bufs w h.tap.pipes h.tap.turnc h.tap.free h.k8.2 h.turn hi h.tap.ch h.tap.chan (fun j hj => Array.eq_empty_of_size_eq_zero (hz j hj)) (by omega)).mono ?_
    rintro e w' ⟨s, r, hc, rfl, rfl⟩
    obtain ⟨q1, q2⟩ := Fair.some (len := fun j => (bufs j).size) hf h.turn hi hz
    have h2 := h.set (s' := s) (r' := r + 1) hP hc ((bufs ((turn + i) % k)).extract 1 (bufs ((turn + i) % k)).size)
    refine ⟨_, 0, _, ((turn + i) % k + 1) % k, _, rfl, ⟨h2.tap.turned hpb _, h2.lt, ownsRow_setCell_below h2.row h2.lt.1 _, h2.below.setCell h2.tap.base.1 _, ⟨h2.b1.1, by simpa [World.setCell] using h2.b1.2⟩, h2.k8, Nat.mod_lt _ (by omega)⟩, q1, q2, .inl rfl, fun CB g gcap xs hCB hr => ?_⟩
    exact ownsRow_setCell_below (ownsRow_setChan hr (by have := h.lt.2.2 _ hP; omega) _ _ _ _ _ _) (by have := h.lt.1; show tb < CB; omega) _
end
end Go.Proofs.Ytbnakfpdmiibdaa
