/- TapActs, the reference: its state in memory; Put and Take upon it. -/
import Derived.Test.YtbnakfpdmiibdaaTapRef3
namespace Go.Proofs.Ytbnakfpdmiibdaa
open Go.Conc Go.RowKit
set_option maxRecDepth 100000
/-- numbers, as values -/
def vals (l : List Int) : List Value := l.map fun x => .int .i64 x
theorem vals_length (l : List Int) : (vals l).length = l.length := by simp [vals]
theorem vals_one (l : List Int) : ∀ u ∈ vals l, u.oneCell' = true := fun u hu => by
  simp [vals] at hu; obtain ⟨x, _, rfl⟩ := hu; rfl
theorem vals_snoc (l : List Int) (n : Int) : vals (l ++ [n]) = vals l ++ [.int .i64 n] := by simp [vals]
/-- one list is another one -/
def upd (ls : Nat → List Int) (p : Nat) (l : List Int) : Nat → List Int := fun j => if j = p then l else ls j
/-- where a slice of numbers lies: in a block of X -/
def SlX (X : Nat → Prop) (w : World) (v : Value) (xs : List Value) : Prop :=
  (∀ u ∈ xs, u.oneCell' = true) ∧ ((v = .slice none 0 0 ∧ xs = []) ∨ ∃ b off cap, v = .slice (some ⟨b, off, none⟩) xs.length cap ∧ ∀ j u, xs[j]? = some u → X b ∧ w.cell? ⟨b, off + j, none⟩ = some u)
theorem SlX.at0 {X : Nat → Prop} {w : World} {v : Value} {xs : List Value} (h : SlX X w v xs) : SlAt 0 w v xs := by
  obtain ⟨h1, h2 | ⟨b, off, cap, h2, h3⟩⟩ := h
  · exact ⟨h1, .inl h2⟩
  · exact ⟨h1, .inr ⟨b, off, cap, h2, Nat.zero_le _, fun j u hj => (h3 j u hj).2⟩⟩
theorem SlX.tight {X : Nat → Prop} {w : World} {v : Value} {xs : List Value} (h : SlX X w v xs) : SlX (fun o => X o ∧ o < w.heap.size) w v xs := by
  obtain ⟨h1, h2 | ⟨b, off, cap, h2, h3⟩⟩ := h
  · exact ⟨h1, .inl h2⟩
  · exact ⟨h1, .inr ⟨b, off, cap, h2, fun j u hj => ⟨⟨(h3 j u hj).1, cell_ltA (h3 j u hj).2⟩, (h3 j u hj).2⟩⟩⟩
theorem SlX.mono {X Y : Nat → Prop} {w : World} {v : Value} {xs : List Value} (h : SlX X w v xs) (hXY : ∀ o, X o → Y o) : SlX Y w v xs := by
  obtain ⟨h1, h2 | ⟨b, off, cap, h2, h3⟩⟩ := h
  · exact ⟨h1, .inl h2⟩
  · exact ⟨h1, .inr ⟨b, off, cap, h2, fun j u hj => ⟨hXY _ (h3 j u hj).1, (h3 j u hj).2⟩⟩⟩
theorem SlX.keep {X : Nat → Prop} {w w' : World} {v : Value} {xs : List Value} (h : SlX X w v xs) (hb : ∀ o, X o → o < w.heap.size → w'.heap[o]? = w.heap[o]?) : SlX X w' v xs := by
  obtain ⟨h1, h2 | ⟨b, off, cap, h2, h3⟩⟩ := h
  · exact ⟨h1, .inl h2⟩
  · refine ⟨h1, .inr ⟨b, off, cap, h2, fun j u hu => ?_⟩⟩
    obtain ⟨h4, h5⟩ := h3 j u hu
    exact ⟨h4, (World.cell?_of_block (w := w) (hb b h4 (cell_ltA h5))).trans h5⟩
/-- the reference's tap in memory: in blocks of X -/
def RefAt (X : Nat → Prop) (w : World) (rb k : Nat) (ls : Nat → List Int) : Prop :=
  (X rb ∧ rb < w.heap.size) ∧ ∃ vs : List Value, vs.length = k ∧ (∀ j u, vs[j]? = some u → w.cell? ⟨rb, j, none⟩ = some u) ∧ (∀ u ∈ vs, u.oneCell' = true) ∧
    ∀ j, j < k → ∃ a c, vs[j]? = some (.slice a (ls j).length c) ∧ (ls j).length ≤ c ∧ SlX X w (.slice a (ls j).length c) (vals (ls j))
theorem RefAt.tight {X : Nat → Prop} {w : World} {rb k : Nat} {ls : Nat → List Int} (h : RefAt X w rb k ls) : RefAt (fun o => X o ∧ o < w.heap.size) w rb k ls := by
  obtain ⟨hr, vs, h1, h2, h3, h4⟩ := h
  refine ⟨⟨hr, hr.2⟩, vs, h1, h2, h3, fun j hj => ?_⟩
  obtain ⟨a, c, q1, q2, q3⟩ := h4 j hj
  exact ⟨a, c, q1, q2, q3.tight⟩
theorem RefAt.mono {X Y : Nat → Prop} {w : World} {rb k : Nat} {ls : Nat → List Int} (h : RefAt X w rb k ls) (hXY : ∀ o, X o → Y o) : RefAt Y w rb k ls := by
  obtain ⟨hr, vs, h1, h2, h3, h4⟩ := h
  refine ⟨⟨hXY _ hr.1, hr.2⟩, vs, h1, h2, h3, fun j hj => ?_⟩
  obtain ⟨a, c, q1, q2, q3⟩ := h4 j hj
  exact ⟨a, c, q1, q2, q3.mono hXY⟩
theorem RefAt.keep {X : Nat → Prop} {w w' : World} {rb k : Nat} {ls : Nat → List Int} (h : RefAt X w rb k ls) (hs : w.heap.size ≤ w'.heap.size) (hb : ∀ o, X o → o < w.heap.size → w'.heap[o]? = w.heap[o]?) : RefAt X w' rb k ls := by
  obtain ⟨hr, vs, h1, h2, h3, h4⟩ := h
  refine ⟨⟨hr.1, by omega⟩, vs, h1, fun j u hj => ?_, h3, fun j hj => ?_⟩
  · exact (World.cell?_of_block (w := w) (hb rb hr.1 hr.2)).trans (h2 j u hj)
  · obtain ⟨a, c, q1, q2, q3⟩ := h4 j hj
    exact ⟨a, c, q1, q2, q3.keep hb⟩
theorem RefAt.below {X : Nat → Prop} {w w' : World} {rb k : Nat} {ls : Nat → List Int} (h : RefAt X w rb k ls) (hb : Below w.heap.size w w') : RefAt X w' rb k ls :=
  h.keep hb.size fun o _ ho => hb.block o ho
/-- a new row in which one slice is another one -/
theorem RefAt.with {X : Nat → Prop} {w w' : World} {k : Nat} {ls : Nat → List Int} (hX : ∀ o, w.heap.size ≤ o → X o) (hb : Below w.heap.size w w') {vs : List Value} (h1 : vs.length = k)
    (h4 : ∀ j, j < k → ∃ a c, vs[j]? = some (.slice a (ls j).length c) ∧ (ls j).length ≤ c ∧ SlX X w (.slice a (ls j).length c) (vals (ls j)))
    {g cap p : Nat} (hp : p < k) {a : Option Addr} {c : Nat} {l : List Int} (hc : l.length ≤ c)
    (hown : w'.ownsRow w.heap.size 27 1 (.slice (some ⟨g, 0, none⟩) k cap) k (vs.set p (.slice a l.length c))) (hsl : SlX X w' (.slice a l.length c) (vals l)) : RefAt X w' g k (upd ls p l) := by
  have hg := hown.lt g rfl
  refine ⟨⟨hX _ hg.1, hg.2⟩, vs.set p (.slice a l.length c), by simpa using h1, fun j u hj => ?_, fun u hu => ?_, fun j hj => ?_⟩
  · have hjk : j < k := by
      have := (List.getElem?_eq_some_iff.1 hj).1
      simpa [h1] using this
    exact (hown.cellAt j (by omega)).trans hj
  · rcases List.mem_or_eq_of_mem_set hu with hm | rfl
    · obtain ⟨j, hj, rfl⟩ := List.getElem_of_mem hm
      obtain ⟨a', c', q1, _⟩ := h4 j (by omega)
      rw [List.getElem?_eq_getElem hj] at q1
      injection q1 with q1
      rw [q1]; rfl
    · rfl
  · by_cases e : j = p
    · subst e
      refine ⟨a, c, ?_, ?_, ?_⟩
      · rw [List.getElem?_set_self (by omega)]; simp [upd]
      · simpa [upd] using hc
      · simpa [upd] using hsl
    · obtain ⟨a', c', q1, q2, q3⟩ := h4 j hj
      refine ⟨a', c', ?_, ?_, ?_⟩
      · rw [List.getElem?_set_ne (fun h => e h.symm)]; simpa [upd, e] using q1
      · simpa [upd, e] using q2
      · simpa [upd, e] using q3.keep fun o _ ho => hb.block o ho
theorem SlX.ofOwn {X : Nat → Prop} {w : World} {g n cap base : Nat} {l : List Int} (h : w.ownsRow base 3 1 (.slice (some ⟨g, 0, none⟩) n cap) n (vals l)) (hn : l.length = n) (hX : ∀ o, base ≤ o → X o) : SlX X w (.slice (some ⟨g, 0, none⟩) l.length cap) (vals l) := by
  refine ⟨vals_one l, .inr ⟨g, 0, cap, by rw [vals_length], fun j u hj => ⟨hX _ (h.lt g rfl).1, ?_⟩⟩⟩
  have hjk : j < n := by
    have := (List.getElem?_eq_some_iff.1 hj).1
    rw [vals_length] at this; omega
  rw [Nat.zero_add]
  exact (h.cellAt j (by omega)).trans hj
theorem own_cap {w : World} {base e n cap g : Nat} {xs : List Value} (h : w.ownsRow base e 1 (.slice (some ⟨g, 0, none⟩) n cap) n xs) : n ≤ cap := by
  obtain ⟨h1, ⟨h2, _⟩ | ⟨g', cap', cur, h3, h4, h5, h6, h7, h8⟩⟩ := h
  · cases h2
  · injection h3 with _ _ h3; omega

/-- what Put does -/
def putL (k room : Nat) (ls : Nat → List Int) (p n : Int) : (Nat → List Int) × Int :=
  if p < 0 ∨ (k : Int) ≤ p then (ls, 1) else if (ls p.toNat).length = room then (ls, 6) else (upd ls p.toNat (ls p.toNat ++ [n]), 0)
/-- what Take does -/
def takeL (k : Nat) (ls : Nat → List Int) (p : Int) : (Nat → List Int) × Int × Int :=
  if p < 0 ∨ (k : Int) ≤ p then (ls, 0, 1) else match ls p.toNat with | [] => (ls, 0, 5) | x :: l => (upd ls p.toNat l, x, 0)

theorem takeL_cons {k p : Nat} {ls : Nat → List Int} {x : Int} {l : List Int} (hp : p < k) (h : ls p = x :: l) : takeL k ls (p : Int) = (upd ls p l, x, 0) := by
  unfold takeL; rw [if_neg (by omega)]; simp only [Int.toNat_natCast, h]
theorem takeL_nil {k p : Nat} {ls : Nat → List Int} (hp : p < k) (h : ls p = []) : takeL k ls (p : Int) = (ls, 0, 5) := by
  unfold takeL; rw [if_neg (by omega)]; simp only [Int.toNat_natCast, h]
theorem takeL_bad {k : Nat} {p : Int} {ls : Nat → List Int} (h : p < 0 ∨ (k : Int) ≤ p) : takeL k ls p = (ls, 0, 1) := by
  unfold takeL; rw [if_pos h]
theorem putL_bad {k room : Nat} {p n : Int} {ls : Nat → List Int} (h : p < 0 ∨ (k : Int) ≤ p) : putL k room ls p n = (ls, 1) := by
  unfold putL; rw [if_pos h]
theorem putL_full {k room p : Nat} {n : Int} {ls : Nat → List Int} (hp : p < k) (h : (ls p).length = room) : putL k room ls p n = (ls, 6) := by
  unfold putL; rw [if_neg (by omega)]; simp only [Int.toNat_natCast, h, if_true]
theorem putL_room {k room p : Nat} {n : Int} {ls : Nat → List Int} (hp : p < k) (h : (ls p).length ≠ room) : putL k room ls p n = (upd ls p (ls p ++ [n]), 0) := by
  unfold putL; rw [if_neg (by omega)]; simp only [Int.toNat_natCast, if_neg h]
theorem refput_any {X : Nat → Prop} {rb k cp room : Nat} {ls : Nat → List Int} {turn p n : Int} {w : World} (h : RefAt X w rb k ls) (hX : ∀ o, w.heap.size ≤ o → X o) (hk : k ≤ 8) (hr : room ≤ 64) (hl : ∀ j, j < k → (ls j).length ≤ room) :
    Calls Try.prog 13 #[.agg #[.slice (some ⟨rb, 0, none⟩) k cp, .int .i64 room, .int .i64 turn], .int .i64 p, .int .i64 n] w fun e w' =>
      ∃ g cap, e = .returned (.tuple #[.agg #[.slice (some ⟨g, 0, none⟩) k cap, .int .i64 room, .int .i64 turn], .int .i64 (putL k room ls p n).2]) ∧ RefAt X w' g k (putL k room ls p n).1 ∧ Below w.heap.size w w' := by
  by_cases hbad : p < 0 ∨ (k : Int) ≤ p
  · have e0 : putL k room ls p n = (ls, 1) := by unfold putL; rw [if_pos hbad]
    rw [e0]
    refine (refput_bad rb k cp room turn p n w hbad).mono ?_
    rintro e w' ⟨rfl, hb⟩
    exact ⟨rb, cp, rfl, h.below hb, hb⟩
  · obtain ⟨q, rfl⟩ : ∃ q : Nat, p = q := ⟨p.toNat, by omega⟩
    have hq : q < k := by omega
    have hh := h
    obtain ⟨hrb, vs, h1, h2, h3, h4⟩ := hh
    obtain ⟨a, c, q1, q2, q3⟩ := h4 q hq
    by_cases hfull : (ls q).length = room
    · have e0 : putL k room ls q n = (ls, 6) := by unfold putL; rw [if_neg hbad, if_pos (by simpa using hfull)]
      rw [e0]
      refine (refput_full rb k cp room q turn n a c w hq (by rw [← hfull]; exact h2 q _ q1)).mono ?_
      rintro e w' ⟨rfl, hb⟩
      exact ⟨rb, cp, rfl, h.below hb, hb⟩
    · have e0 : putL k room ls q n = (upd ls q (ls q ++ [n]), 0) := by unfold putL; rw [if_neg hbad, if_neg (by simpa using hfull)]; simp
      rw [e0]
      have hlq := hl q hq
      refine (refput_room rb k cp room q turn n a c (vals (ls q)) vs w hk hq h1 h2 h3 (by rw [vals_length]; exact h2 q _ q1) (by rw [vals_length]; exact q3.at0) (by rw [vals_length]; omega) hr).mono ?_
      rintro e w' ⟨g, cap, g2, cap2, rfl, ho1, ho2, hb⟩
      rw [vals_length] at ho1 ho2
      rw [← vals_snoc] at ho2
      have hlen : (ls q ++ [n]).length = (ls q).length + 1 := by simp
      have hsl := SlX.ofOwn (X := X) ho2 hlen hX
      refine ⟨g, cap, rfl, RefAt.with (vs := vs) (a := some ⟨g2, 0, none⟩) (c := cap2) (cap := cap) hX hb h1 h4 hq ?_ ?_ hsl, hb⟩
      · rw [hlen]; exact own_cap ho2
      · rw [hlen]; exact ho1
theorem reftake_any {X : Nat → Prop} {rb k cp : Nat} {ls : Nat → List Int} {room turn p : Int} {w : World} (h : RefAt X w rb k ls) (hX : ∀ o, w.heap.size ≤ o → X o) (hk : k ≤ 8) :
    Calls Try.prog 15 #[.agg #[.slice (some ⟨rb, 0, none⟩) k cp, .int .i64 room, .int .i64 turn], .int .i64 p] w fun e w' =>
      ∃ g cap, e = .returned (.tuple #[.agg #[.slice (some ⟨g, 0, none⟩) k cap, .int .i64 room, .int .i64 turn], .int .i64 (takeL k ls p).2.1, .int .i64 (takeL k ls p).2.2]) ∧ RefAt X w' g k (takeL k ls p).1 ∧ Below w.heap.size w w' := by
  by_cases hbad : p < 0 ∨ (k : Int) ≤ p
  · have e0 : takeL k ls p = (ls, 0, 1) := by unfold takeL; rw [if_pos hbad]
    rw [e0]
    refine (reftake_bad rb k cp room turn p w hbad).mono ?_
    rintro e w' ⟨rfl, hb⟩
    exact ⟨rb, cp, rfl, h.below hb, hb⟩
  · obtain ⟨q, rfl⟩ : ∃ q : Nat, p = q := ⟨p.toNat, by omega⟩
    have hq : q < k := by omega
    have hh := h
    obtain ⟨hrb, vs, h1, h2, h3, h4⟩ := hh
    obtain ⟨a, c, q1, q2, q3⟩ := h4 q hq
    cases hx : ls q with
    | nil =>
      have e0 : takeL k ls q = (ls, 0, 5) := by unfold takeL; rw [if_neg hbad]; simp [hx]
      rw [e0]
      refine (reftake_none rb k cp q room turn a c w hq (by have := h2 q _ q1; rwa [hx] at this)).mono ?_
      rintro e w' ⟨rfl, hb⟩
      exact ⟨rb, cp, rfl, h.below hb, hb⟩
    | cons x l =>
      have e0 : takeL k ls q = (upd ls q l, x, 0) := by unfold takeL; rw [if_neg hbad]; simp [hx]
      rw [e0]
      rw [hx] at q1 q2 q3
      obtain ⟨z1, ⟨_, z2⟩ | ⟨sb, off, c', z2, z4⟩⟩ := q3
      · cases z2
      · injection z2 with z2 z5 z6
        subst z2; subst z6
        have hx0 : w.cell? ⟨sb, off, none⟩ = some (.int .i64 x) := by simpa using (z4 0 (.int .i64 x) (by simp [vals])).2
        refine (reftake_some rb k cp q room turn sb off (l.length + 1) c x vs w hk hq h1 h2 h3 (by simpa using h2 q _ q1) hx0 (by omega) (by simpa using q2)).mono ?_
        rintro e w' ⟨g, cap, sb', off', sc', rfl, ho, ⟨rfl, hoff⟩, hcap, hb⟩
        refine ⟨g, cap, rfl, RefAt.with (vs := vs) (a := some ⟨sb', off', none⟩) (c := sc') hX hb h1 h4 hq hcap ho ⟨vals_one l, .inr ⟨sb', off', sc', by rw [vals_length], fun j u hj => ?_⟩⟩, hb⟩
        have hjl : j < l.length := by
          have := (List.getElem?_eq_some_iff.1 hj).1
          rwa [vals_length] at this
        rw [hoff (by omega)]
        obtain ⟨z3, h5⟩ := z4 (j + 1) u (by simpa [vals] using hj)
        have h6 : (⟨sb', off + 1 + j, none⟩ : Addr) = ⟨sb', off + (j + 1), none⟩ := by rw [show off + 1 + j = off + (j + 1) by omega]
        rw [h6]
        exact ⟨z3, (World.cell?_of_block (w := w) (hb.block _ (cell_ltA h5))).trans h5⟩
end Go.Proofs.Ytbnakfpdmiibdaa
