import Derived.Test.YtbnakfpdmiibdaaAEScope
namespace Go.AE

/-! ### states that are overwritten, in any order -/
section
variable {α β : Type}
open Classical in
/-- what stands where the events of S alone have come up -/
noncomputable def Pick (seq : Nat → α → β) (W : Nat → α → Prop) (S : Nat → Prop) : Nat → α → β
  | 0, x => seq 0 x
  | k + 1, x => if S k ∧ W k x then seq (k + 1) x else Pick seq W S k x
variable {seq : Nat → α → β} {W : Nat → α → Prop} {S S' : Nat → Prop} {n i : Nat} {x : α}
theorem Pick.skip (k : Nat) (h : ¬ (S k ∧ W k x)) : Pick seq W S (k + 1) x = Pick seq W S k x := by simp only [Pick]; rw [if_neg h]
theorem Pick.take (k : Nat) (h : S k ∧ W k x) : Pick seq W S (k + 1) x = seq (k + 1) x := by simp only [Pick]; rw [if_pos h]
theorem Pick.all (hseq : ∀ k, k < n → ¬ W k x → seq (k + 1) x = seq k x) : ∀ k, k ≤ n → (∀ j, j < k → W j x → S j) → Pick seq W S k x = seq k x
  | 0, _, _ => rfl
  | k + 1, hk, h => by
    by_cases hw : W k x
    · exact Pick.take k ⟨h k (by omega) hw, hw⟩
    · rw [Pick.skip k (fun q => hw q.2), hseq k (by omega) hw]
      exact Pick.all hseq k (by omega) fun j hj => h j (by omega)
theorem Pick.still {i : Nat} : ∀ m, i ≤ m → (∀ j, i ≤ j → j < m → W j x → ¬ S j) → Pick seq W S m x = Pick seq W S i x
  | 0, hi, _ => by obtain rfl : i = 0 := by omega
                   rfl
  | m + 1, hi, h => by
    by_cases he : i = m + 1
    · subst he; rfl
    · rw [Pick.skip m (fun q => h m (by omega) (by omega) q.2 q.1)]
      exact Pick.still m (by omega) fun j h1 h2 => h j h1 (by omega)
theorem Pick.at (hseq : ∀ k, k < n → ¬ W k x → seq (k + 1) x = seq k x) (hi : i ≤ n) (h1 : ∀ j, j < i → W j x → S j) (h2 : ∀ j, i ≤ j → j < n → W j x → ¬ S j) : Pick seq W S n x = seq i x := by
  rw [Pick.still n hi h2]
  exact Pick.all hseq i hi h1
theorem Pick.congr : ∀ m, (∀ j, j < m → W j x → (S j ↔ S' j)) → Pick seq W S m x = Pick seq W S' m x
  | 0, _ => rfl
  | m + 1, h => by
    have ih := Pick.congr m fun j hj => h j (by omega)
    by_cases hq : S m ∧ W m x
    · rw [Pick.take m hq, Pick.take m ⟨(h m (by omega) hq.2).1 hq.1, hq.2⟩]
    · rw [Pick.skip m hq, Pick.skip m (fun q => hq ⟨(h m (by omega) q.2).2 q.1, q.2⟩), ih]
/-- one more -/
theorem Pick.more (hi : i < n) (hS : ∀ j, S' j ↔ S j ∨ j = i) (hw : W i x) (h2 : ∀ j, i < j → j < n → W j x → ¬ S j) : Pick seq W S' n x = seq (i + 1) x := by
  rw [Pick.still (i := i + 1) n (by omega) fun j h1 hj hwj hs => (hS j).1 hs |>.elim (h2 j (by omega) hj hwj) fun e => by omega]
  exact Pick.take i ⟨(hS i).2 (.inr rfl), hw⟩
theorem Pick.same (hS : ∀ j, S' j ↔ S j ∨ j = i) (hw : ¬ W i x) : Pick seq W S' n x = Pick seq W S n x :=
  Pick.congr n fun j _ hwj => by
    rw [hS j]
    exact ⟨fun h => h.elim id fun e => absurd (e ▸ hwj) hw, .inl⟩
end

/-! ### the heap as a function -/
section
variable {E : Env} {φ φ' φ₁ : Loc} {c c' : Nat} {w w' : World}
structure HRf (E : Env) (φ : Loc) (G : Nat → Option AObj) (w : World) : Prop where
  obj : ∀ b o, G b = some o → OR E φ w b o
  inj : ∀ b b' B N N', G b ≠ none → G b' ≠ none → φ b = some (B, N) → φ b' = some (B, N') → b = b'
theorem HR.fn {t : T AObj} (h : HR E φ t w) : HRf E φ t.get w := ⟨h.obj, h.inj⟩
theorem HRf.tree {t : T AObj} (h : HRf E φ t.get w) : HR E φ t w := ⟨h.obj, h.inj⟩
theorem HRf.sub {G : Nat → Option AObj} {t : T AObj} (h : HRf E φ G w) (hs : ∀ b o, t.get b = some o → G b = some o) : HR E φ t w :=
  ⟨fun b o g => h.obj b o (hs b o g), fun b b' B N N' h1 h2 e1 e2 => by
    have ne : ∀ b, t.get b ≠ none → G b ≠ none := fun b hb => by
      cases e : t.get b with
      | none => exact absurd e hb
      | some o => rw [hs b o e]; simp
    exact h.inj b b' B N N' (ne b h1) (ne b' h2) e1 e2⟩
theorem HRf.loc {G : Nat → Option AObj} (h : HRf E φ G w) {b : Nat} (hb : G b ≠ none) : ∃ B N, φ b = some (B, N) ∧ B < w.heap.size := by
  cases e : G b with
  | none => exact absurd e hb
  | some o => exact (h.obj b o e).loc

/-- φ, but for the numbers from c up to c', which are φ₁'s -/
noncomputable def Loc.join (φ φ₁ : Loc) (c c' : Nat) : Loc := fun b => if c ≤ b ∧ b < c' then φ₁ b else φ b
theorem Loc.join_in {b : Nat} (h : c ≤ b ∧ b < c') : (φ.join φ₁ c c') b = φ₁ b := if_pos h
theorem Loc.join_out {b : Nat} (h : ¬ (c ≤ b ∧ b < c')) : (φ.join φ₁ c c') b = φ b := if_neg h

/-- what an event turns -/
def Wr (c c' : Nat) (lg : List Nat) (y : Nat) : Prop := (y ∈ lg ∧ y < c) ∨ (c ≤ y ∧ y < c')

/-- the run of an event at a part of the heap, laid into the whole -/
theorem merge {G G' : Nat → Option AObj} {τ τ' : T AObj} {lg : List Nat} (hg : HRf E φ G w) (hτ : ∀ y o, τ.get y = some o → G y = some o) (hdom : ∀ y, τ.get y ≠ none → y < c)
    (s : Sim E (φ.cut c) ⟨τ, c, []⟩ c w φ₁ ⟨τ', c, lg⟩ c' w') (hfree : ∀ b, c ≤ b → b < c' → φ b = none)
    (h1 : ∀ y, Wr c c' lg y → G' y = τ'.get y) (h0 : ∀ y, ¬ Wr c c' lg y → G' y = G y) :
    HRf E (φ.join φ₁ c c') G' w' ∧ φ.le (φ.join φ₁ c c') ∧ φ₁.le (φ.join φ₁ c c') ∧ (∀ B, B < w.heap.size → (∀ y N, y ∈ lg → y < c → τ.get y ≠ none → φ y ≠ some (B, N)) → w'.heap[B]? = w.heap[B]?) := by
  have hle : φ.le (φ.join φ₁ c c') := fun b x h => by
    by_cases hb : c ≤ b ∧ b < c'
    · rw [hfree b hb.1 hb.2] at h; cases h
    · rw [Loc.join_out hb]; exact h
  have hle1 : φ₁.le (φ.join φ₁ c c') := fun b x h => by
    by_cases hb : c ≤ b ∧ b < c'
    · rw [Loc.join_in hb]; exact h
    · rw [Loc.join_out hb]
      rw [s.ext b (by omega)] at h
      exact Loc.cut_le φ c b x h
  have hcut : ∀ y x, φ.cut c y = some x → y < c ∧ φ y = some x := fun y x h => by
    unfold Loc.cut at h
    split at h
    · exact ⟨by assumption, h⟩
    · cases h
  have frame : ∀ B, B < w.heap.size → (∀ y N, y ∈ lg → y < c → τ.get y ≠ none → φ y ≠ some (B, N)) → w'.heap[B]? = w.heap[B]? := fun B hB hn => by
    refine s.fr B hB ?_
    rintro ⟨y, N, hy, e, hx⟩
    obtain ⟨hlt, e⟩ := hcut _ _ e
    exact hn y N (hx.elim (fun h => absurd h (by show ¬ c ≤ y; omega)) id) hlt hy e
  have some_of : ∀ y, τ.get y ≠ none → G y ≠ none := fun y hy => by
    cases e : τ.get y with
    | none => exact absurd e hy
    | some o => rw [hτ y o e]; simp
  -- a block that is not turned keeps its place
  have old : ∀ y o, ¬ Wr c c' lg y → G y = some o → OR E (φ.join φ₁ c c') w' y o := fun y o hw hy => by
    have ho := hg.obj y o hy
    refine ho.keep hle fun B N e => ?_
    have hB : B < w.heap.size := by
      obtain ⟨B', N', e', hb⟩ := ho.loc
      rw [e] at e'; cases e'; exact hb
    refine frame B hB fun z M hz hzc hzt e2 => ?_
    have := hg.inj y z B N M (by rw [hy]; simp) (some_of z hzt) e e2
    subst this
    exact hw (.inl ⟨hz, hzc⟩)
  refine ⟨⟨fun y o hy => ?_, fun y z B N M hy hz e1 e2 => ?_⟩, hle, hle1, frame⟩
  · by_cases hw : Wr c c' lg y
    · rw [h1 y hw] at hy
      exact (s.hr.obj y o hy).keep hle1 fun B N _ => rfl
    · rw [h0 y hw] at hy
      exact old y o hw hy
  · -- where a turned block stands
    have at1 : ∀ y B N, Wr c c' lg y → G' y ≠ none → (φ.join φ₁ c c') y = some (B, N) → τ'.get y ≠ none ∧ φ₁ y = some (B, N) := fun y B N hw hy e => by
      rw [h1 y hw] at hy
      refine ⟨hy, ?_⟩
      obtain ⟨B', N', e', _⟩ := s.hr.loc hy
      rw [hle1 _ _ e'] at e
      rw [e', e]
    have mixed : ∀ y z B N M, Wr c c' lg y → ¬ Wr c c' lg z → G' y ≠ none → G' z ≠ none → (φ.join φ₁ c c') y = some (B, N) → (φ.join φ₁ c c') z = some (B, M) → False := fun y z B N M hwy hwz hy hz e1 e2 => by
      obtain ⟨hy1, e1'⟩ := at1 y B N hwy hy e1
      rw [h0 z hwz] at hz
      have e2' : φ z = some (B, M) := by
        rw [Loc.join_out (fun h => hwz (.inr h))] at e2; exact e2
      obtain ⟨_, _, e3, hB⟩ := hg.loc hz
      rw [e2'] at e3; cases e3
      have viaG : ∀ x K, x ∈ lg → x < c → τ.get x ≠ none → φ x = some (B, K) → False := fun x K hx hxc hxt e => by
        have := hg.inj x z B K M (some_of x hxt) hz e e2'
        subst this
        exact hwz (.inl ⟨hx, hxc⟩)
      rcases hwy with ⟨hl, hc⟩ | ⟨hc1, hc2⟩
      · rcases s.dom y hy1 with hd | hd
        · have e4 : φ.cut c y = some (B, N) := by rw [← s.ext y (.inl hc)]; exact e1'
          exact viaG y N hl hc hd (hcut _ _ e4).2
        · omega
      · rcases s.new y B N hc1 hc2 e1' hy1 with hn | ⟨x, K, hx, e, hxl⟩
        · omega
        · obtain ⟨hxc, e⟩ := hcut _ _ e
          exact viaG x K (hxl.elim (fun h => absurd h (by show ¬ c ≤ x; omega)) id) hxc hx e
    by_cases hwy : Wr c c' lg y
    · by_cases hwz : Wr c c' lg z
      · obtain ⟨hy1, e1'⟩ := at1 y B N hwy hy e1
        obtain ⟨hz1, e2'⟩ := at1 z B M hwz hz e2
        exact s.hr.inj y z B N M hy1 hz1 e1' e2'
      · exact (mixed y z B N M hwy hwz hy hz e1 e2).elim
    · by_cases hwz : Wr c c' lg z
      · exact (mixed z y B M N hwz hwy hz hy e2 e1).elim
      · rw [h0 y hwy] at hy
        rw [h0 z hwz] at hz
        rw [Loc.join_out (fun h => hwy (.inr h))] at e1
        rw [Loc.join_out (fun h => hwz (.inr h))] at e2
        exact hg.inj y z B N M hy hz e1 e2
end
end Go.AE
