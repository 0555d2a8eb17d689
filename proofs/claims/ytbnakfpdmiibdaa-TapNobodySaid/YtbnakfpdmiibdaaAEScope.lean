import Derived.Test.YtbnakfpdmiibdaaAECongr
namespace Go.AE
def Loc.cut (φ : Loc) (c : Nat) : Loc := fun b => if b < c then φ b else none
theorem Loc.cut_le (φ : Loc) (c : Nat) : (φ.cut c).le φ := fun b x h => by
  unfold Loc.cut at h
  split at h
  · exact h
  · cases h
theorem Loc.cut_lt {φ : Loc} {c b : Nat} (h : b < c) : φ.cut c b = φ b := if_pos h
theorem fresh_lt {ψ : Loc} {c c' b : Nat} {x : Nat × Nat} (f : Fresh ψ c c') (h : ψ b = some x) : b < c := by
  apply Nat.lt_of_not_le
  intro hb
  rw [f b hb rfl] at h; cases h
theorem fresh_cut (φ : Loc) (c c' : Nat) : Fresh (φ.cut c) c c' := fun b hb _ => if_neg (by omega)

section
variable {E : Env} {φ ψ : Loc} {c c' : Nat}
mutual
/-- a value that speaks of blocks below c alone -/
theorem VR.scope (f : Fresh ψ c c') : ∀ (a : AV) (u v : Value), VR E φ a u → VR E ψ a v → VR E (φ.cut c) a u
  | .int _ _, _, _, g, _ => g
  | .bool _, _, _, g, _ => g
  | .str _, _, _, g, _ => g
  | .raw _, _, _, g, _ => g
  | .sym _, _, _, g, _ => g
  | .any, _, _, _, _ => trivial
  | .nilp, _, _, g, _ => g
  | .ptr _ _, _, _, ⟨B, N, e, g⟩, ⟨_, _, e', _⟩ => ⟨B, N, (Loc.cut_lt (fresh_lt f e')).trans e, g⟩
  | .nils, _, _, g, _ => g
  | .sl _ _ _ _ _ _, _, _, ⟨B, N, a, cap', e, g⟩, ⟨_, _, _, _, e', _⟩ => ⟨B, N, a, cap', (Loc.cut_lt (fresh_lt f e')).trans e, g⟩
  | .nilm, _, _, g, _ => g
  | .map _, _, _, ⟨B, N, e, g⟩, ⟨_, _, e', _⟩ => ⟨B, N, (Loc.cut_lt (fresh_lt f e')).trans e, g⟩
  | .nilc, _, _, g, _ => g
  | .chan _, _, _, ⟨B, N, e, g⟩, ⟨_, _, e', _⟩ => ⟨B, N, (Loc.cut_lt (fresh_lt f e')).trans e, g⟩
  | .fn fn first cap, _, _, ⟨g, first', cap', e, hf, h1, h2⟩, ⟨g2, first2, cap2, _, hf2, q1, q2⟩ => ⟨g, first', cap', e, by
      cases fn with
      | yield l => obtain ⟨B, N, e, hg⟩ := hf; obtain ⟨_, _, e', _⟩ := hf2; exact ⟨B, N, (Loc.cut_lt (fresh_lt f e')).trans e, hg⟩
      | _ => exact hf, VRL.scope f first _ _ h1 q1, VRL.scope f cap _ _ h2 q2⟩
  | .nilf, _, _, g, _ => g
  | .ifc _ a, _, _, ⟨u, e, g⟩, ⟨u', _, g'⟩ => ⟨u, e, VR.scope f a u u' g g'⟩
  | .nili, _, _, g, _ => g
  | .agg l, _, _, ⟨arr, e, g, ho⟩, ⟨_, _, g', _⟩ => ⟨arr, e, VRL.scope f l _ _ g g', ho⟩
  | .tup l, _, _, ⟨arr, e, g⟩, ⟨_, _, g'⟩ => ⟨arr, e, VRL.scope f l _ _ g g'⟩
theorem VRL.scope (f : Fresh ψ c c') : ∀ (l : List AV) (m n : List Value), VRL E φ l m → VRL E ψ l n → VRL E (φ.cut c) l m
  | [], _, _, g, _ => g
  | a :: l, _, _, ⟨v, m, e, g, gl⟩, ⟨v', n, _, g', gl'⟩ => ⟨v, m, e, VR.scope f a v v' g g', VRL.scope f l m n gl gl'⟩
end
theorem EntsR.scope (f : Fresh ψ c c') : ∀ (l : List Ent) (m n : List MapEntry), EntsR E φ l m → EntsR E ψ l n → EntsR E (φ.cut c) l m
  | [], _, _, g, _ => g
  | _ :: l, _, _, ⟨x, r, e, ⟨h1, h2, h3⟩, g⟩, ⟨x', r', _, ⟨q1, q2, _⟩, g'⟩ => ⟨x, r, e, ⟨VR.scope f _ _ _ h1 q1, VR.scope f _ _ _ h2 q2, h3⟩, EntsR.scope f l r r' g g'⟩
theorem RowR.scope (f : Fresh ψ c c') {n sz : Nat} {pat : List AV} {t : T (List AV)} {C D : Array Value} (h : RowR E φ n sz pat t C) (h' : RowR E ψ n sz pat t D) : RowR E (φ.cut c) n sz pat t C :=
  ⟨h.1, h.2.1, h.2.2.1, fun k hk => by
    obtain ⟨a, v, h1, h2, h3, h4⟩ := h.2.2.2 k hk
    obtain ⟨a', v', q1, _, q3, _⟩ := h'.2.2.2 k hk
    rw [h1] at q1; cases q1
    exact ⟨a, v, h1, h2, VR.scope f _ _ _ h3 q3, h4⟩⟩
theorem TR.scope (f : Fresh ψ c c') {ts : Tm} {tmps tmps' : Array Value} (h : TR E φ ts tmps) (h' : TR E ψ ts tmps') : TR E (φ.cut c) ts tmps := fun i => VR.scope f _ _ _ (h i) (h' i)
theorem OR.scope (f : Fresh ψ c c') {w w' : World} {b : Nat} {o : AObj} (h : OR E φ w b o) (h' : OR E ψ w' b o) : OR E (φ.cut c) w b o := by
  cases o with
  | row =>
    obtain ⟨B, C, e, fr, h1, h2, h3, h4⟩ := h
    obtain ⟨_, D, _, _, q1, _, _, q4⟩ := h'
    exact ⟨B, C, e, fr, (Loc.cut_lt (fresh_lt f q1)).trans h1, h2, h3, h4.scope f q4⟩
  | map =>
    obtain ⟨B, N, x, h1, h2, h3⟩ := h
    obtain ⟨_, _, y, q1, _, q3⟩ := h'
    exact ⟨B, N, x, (Loc.cut_lt (fresh_lt f q1)).trans h1, h2, EntsR.scope f _ _ _ h3 q3⟩
  | chan =>
    obtain ⟨B, N, x, s, r, h1, h2, h3⟩ := h
    obtain ⟨_, _, y, _, _, q1, _, q3⟩ := h'
    exact ⟨B, N, x, s, r, (Loc.cut_lt (fresh_lt f q1)).trans h1, h2, VRL.scope f _ _ _ h3 q3⟩
  | loop =>
    obtain ⟨B, N, st, pd, fn, tmps, df, h1, h2, h3, h4, h5⟩ := h
    obtain ⟨_, _, _, _, _, tmps', _, q1, _, _, q4, _⟩ := h'
    exact ⟨B, N, st, pd, fn, tmps, df, (Loc.cut_lt (fresh_lt f q1)).trans h1, h2, h3, h4.scope f q4, h5⟩
  | miter =>
    obtain ⟨B, N, M, K, sn, h1, h0, h2, h3⟩ := h
    obtain ⟨_, _, _, _, _, q1, q0, _⟩ := h'
    exact ⟨B, N, M, K, sn, (Loc.cut_lt (fresh_lt f q1)).trans h1, (Loc.cut_lt (fresh_lt f q0)).trans h0, h2, h3⟩
  | mitq =>
    obtain ⟨B, N, M, K, s, sn, h1, h0, h2, h3⟩ := h
    obtain ⟨_, _, _, _, _, _, q1, q0, _⟩ := h'
    exact ⟨B, N, M, K, s, sn, (Loc.cut_lt (fresh_lt f q1)).trans h1, (Loc.cut_lt (fresh_lt f q0)).trans h0, h2, h3⟩
  | siter =>
    obtain ⟨B, N, x, h1, h2, h3⟩ := h
    obtain ⟨_, _, _, q1, _⟩ := h'
    exact ⟨B, N, x, (Loc.cut_lt (fresh_lt f q1)).trans h1, h2, h3⟩
end
end Go.AE
