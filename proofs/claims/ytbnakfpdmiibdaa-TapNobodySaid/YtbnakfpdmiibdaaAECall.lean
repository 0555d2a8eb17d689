import Derived.Test.YtbnakfpdmiibdaaAESelect
namespace Go.AE
section
variable {E : Env} {φ φ' φ₁ : Loc} {h h' h₁ : Hs} {c c' c₁ : Nat} {w w' w₁ w₂ : World}

/-- real block B is not spoken of -/
def Unk (φ : Loc) (t : T AObj) (B : Nat) : Prop := ∀ b N, t.get b ≠ none → φ b ≠ some (B, N)

theorem HR.aside {t : T AObj} (g : HR E φ t w) {B : Nat} (hu : Unk φ t B) (tu : Turned w w' B) : HR E φ t w' :=
  ⟨fun b o hb => (g.obj b o hb).keep (fun _ _ h => h) fun B' N e => tu.old B' fun hBB => by subst hBB; exact hu b N (by rw [hb]; simp) e, g.inj⟩

/-- what is not spoken of stays, and stays so -/
theorem Sim.unknown (s : Sim E φ h c w φ' h' c' w') (g : HR E φ h.t w) (f : Fresh φ c c') {B : Nat} (hB : B < w.heap.size) (hu : Unk φ h.t B) : w'.heap[B]? = w.heap[B]? ∧ Unk φ' h'.t B := by
  have hn : ∀ lg, ¬ Exm φ h.t h.fl lg B := fun lg ⟨b, N, h1, h2, _⟩ => hu b N h1 h2
  refine ⟨s.fr B hB (hn _), fun b N hb e => ?_⟩
  rcases s.dom b hb with hd | ⟨hl, hr⟩
  · obtain ⟨B', N', e', _⟩ := g.loc hd
    have : b < c ∨ c' ≤ b := by
      by_cases h1 : b < c
      · exact .inl h1
      · by_cases h2 : c' ≤ b
        · exact .inr h2
        · have := f b (by omega) (by omega); rw [this] at e'; cases e'
    rw [s.ext b this] at e
    exact hu b N hd e
  · rcases s.new b B N hl hr e hb with h1 | h1
    · omega
    · exact hn _ h1

/-- a block is no longer spoken of -/
theorem Sim.forget (g : HR E φ h.t w) (l : Nat) : Sim E φ h c w φ (h.putD l none) c w := by
  have hs : ∀ b o, (h.putD l none).t.get b = some o → h.t.get b = some o := fun b o hb => by
    simp only [Hs.putD, get_set] at hb
    split at hb
    · cases hb
    · exact hb
  refine ⟨g.sub hs, fun _ _ => rfl, Nat.le_refl _, fun b hb => .inl ?_, fun b B N h1 h2 => by omega, fun _ _ _ => rfl, Same.refl _, rfl, fun b hb => (logW_iff _ _ _ _).2 (.inl hb), fun x h1 _ h3 => by
    simp only [Hs.putD, get_set]; rw [if_neg (fun e => h3 ((logW_iff _ _ _ _).2 (.inr ⟨e.symm, by omega⟩)))]⟩
  cases e : (h.putD l none).t.get b with
  | none => exact absurd e hb
  | some o => rw [hs b o e]; simp
theorem unk_forget (g : HR E φ h.t w) {l B N : Nat} (hl : h.t.get l ≠ none) (hB : φ l = some (B, N)) : Unk φ (h.putD l none).t B := by
  intro b N' hb e
  simp only [Hs.putD, get_set] at hb
  split at hb
  · exact absurd rfl hb
  · rename_i hne; exact hne (g.inj l b B N N' hl hb hB e)
theorem exm_forget {l B N : Nat} (hl : h.t.get l ≠ none) (hB : φ l = some (B, N)) {lg : List Nat} (hlg : ∀ b ∈ (h.putD l none).lg, b ∈ lg) : Exm φ h.t h.fl lg B := by
  refine ⟨l, N, hl, hB, ?_⟩
  by_cases hf : h.fl ≤ l
  · exact .inl hf
  · exact .inr (hlg l ((logW_iff _ _ _ _).2 (.inr ⟨rfl, by omega⟩)))

/-- a block that may be written, and is not spoken of, is written -/
theorem Sim.aside (s : Sim E φ h c w φ₁ h₁ c₁ w₁) {B : Nat} (hx : Exm φ h.t h.fl h₁.lg B) (hu : Unk φ₁ h₁.t B) (tu : Turned w₁ w₂ B) : Sim E φ h c w φ₁ h₁ c₁ w₂ :=
  ⟨s.hr.aside hu tu, s.ext, s.cle, s.dom, s.new, fun B' hB' hn => by
      rw [tu.old B' (fun e => by subst e; exact hn hx)]; exact s.fr B' hB' hn,
    ⟨tu.tape.trans s.same.tape, tu.os.trans s.same.os, tu.output.trans s.same.output, by rw [tu.size]; exact s.same.size⟩, s.fl, s.lg, s.keep⟩

/-- it is spoken of again -/
theorem Sim.readd (s : Sim E φ h c w φ₁ h₁ c₁ w₁) {l B N : Nat} {o : AObj} (hl : h.t.get l ≠ none) (hB : φ₁ l = some (B, N)) (hx : Exm φ h.t h.fl h₁.lg B) (hu : Unk φ₁ h₁.t B) (tu : Turned w₁ w₂ B) (ho : OR E φ₁ w₂ l o) :
    Sim E φ h c w φ₁ (h₁.putD l (some o)) c₁ w₂ := by
  have s2 := s.aside hx hu tu
  have hlg : ∀ b ∈ h₁.lg, b ∈ (h₁.putD l (some o)).lg := fun b hb => (logW_iff _ _ _ _).2 (.inl hb)
  refine ⟨⟨fun b o' hb => ?_, fun b b' B₁ N₁ N₂ h1 h2 e1 e2 => ?_⟩, s2.ext, s2.cle, fun b hb => ?_, fun b B' N' hl' hr e hb => ?_, fun B' hB' hn => s2.fr B' hB' fun hx => hn (hx.mono hlg), s2.same, s2.fl, fun b hb => hlg b (s2.lg b hb), fun x h1 h2 h3 => ?_⟩
  · simp only [Hs.putD, get_set] at hb
    split at hb
    · rename_i e; subst e; cases hb; exact ho
    · exact s2.hr.obj b o' hb
  · simp only [Hs.putD, get_set] at h1 h2
    by_cases e : l = b
    · by_cases e' : l = b'
      · omega
      · subst e; rw [if_neg e'] at h2
        rw [hB] at e1; cases e1
        exact absurd e2 (hu b' N₂ h2)
    · rw [if_neg e] at h1
      by_cases e' : l = b'
      · subst e'
        rw [hB] at e2; cases e2
        exact absurd e1 (hu b N₁ h1)
      · rw [if_neg e'] at h2
        exact s2.hr.inj b b' B₁ N₁ N₂ h1 h2 e1 e2
  · simp only [Hs.putD, get_set] at hb
    split at hb
    · rename_i e; subst e; exact .inl hl
    · exact s2.dom b hb
  · simp only [Hs.putD, get_set] at hb
    by_cases e' : l = b
    · subst e'
      rw [hB] at e; cases e
      exact .inr (hx.mono hlg)
    · rw [if_neg e'] at hb
      exact (s2.new b B' N' hl' hr e hb).imp id fun h => h.mono hlg
  · have hne : ¬ l = x := fun e => h3 ((logW_iff _ _ _ _).2 (.inr ⟨e.symm, by rw [s2.fl]; omega⟩))
    simp only [Hs.putD, get_set]
    rw [if_neg hne]
    exact s2.keep x h1 h2 fun h => h3 (hlg x h)
end
end Go.AE
