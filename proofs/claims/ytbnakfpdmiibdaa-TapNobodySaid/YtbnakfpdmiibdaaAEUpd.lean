import Derived.Test.YtbnakfpdmiibdaaAEStep
import Derived.Laws.Sem
namespace Go.AE

/-! ### the evaluator's updates, without continuations -/
noncomputable def Hs.putD (h : Hs) (b : Nat) (o : Option AObj) : Hs := ⟨h.t.set b o, h.fl, logW b h.fl h.lg⟩
noncomputable def Hs.newD (h : Hs) (c : Nat) (o : AObj) : Hs := ⟨h.t.set c (some o), h.fl, h.lg⟩
theorem put_eq (h : Hs) (b : Nat) (o : Option AObj) (K : Hs → Out) : h.put b o K = K (h.putD b o) := by
  unfold Hs.put Hs.putD; rw [ins_eq, forceL_eq]
theorem new_eq (h : Hs) (c : Nat) (o : AObj) (K : Hs → Nat → Out) : h.new c o K = K (h.newD c o) (c + 1) := by
  unfold Hs.new Hs.newD; rw [ins_eq]

theorem logW_iff (b fl : Nat) (lg : List Nat) (x : Nat) : x ∈ logW b fl lg ↔ x ∈ lg ∨ (x = b ∧ b < fl) := by
  unfold logW
  cases h : Nat.blt b fl with
  | false =>
    have : ¬ b < fl := by intro hb; rw [← Nat.blt_eq] at hb; rw [hb] at h; cases h
    show x ∈ lg ↔ _
    constructor
    · exact Or.inl
    · rintro (h | ⟨_, h⟩)
      · exact h
      · exact absurd h this
  | true =>
    have hb : b < fl := Nat.blt_eq.mp h
    cases hm : memN b lg with
    | true =>
      show x ∈ lg ↔ _
      constructor
      · exact Or.inl
      · rintro (h | ⟨rfl, _⟩)
        · exact h
        · exact (memN_iff _ _).1 hm
    | false =>
      show x ∈ b :: lg ↔ _
      rw [List.mem_cons]
      constructor
      · rintro (rfl | h)
        · exact .inr ⟨rfl, hb⟩
        · exact .inl h
      · rintro (h | ⟨rfl, _⟩)
        · exact .inr h
        · exact .inl rfl

/-- the world has one block more -/
structure Grown (w w' : World) : Prop where
  size : w'.heap.size = w.heap.size + 1
  old : ∀ B, B < w.heap.size → w'.heap[B]? = w.heap[B]?
  tape : w'.tape = w.tape
  os : w'.os = w.os
  output : w'.output = w.output

def Loc.add (φ : Loc) (c : Nat) (x : Nat × Nat) : Loc := fun b => if b = c then some x else φ b
theorem Loc.add_same (φ : Loc) (c : Nat) (x : Nat × Nat) : φ.add c x c = some x := if_pos rfl
theorem Loc.add_ne (φ : Loc) {c b : Nat} (x : Nat × Nat) (h : b ≠ c) : φ.add c x b = φ b := if_neg h
theorem Loc.le_add (φ : Loc) {c : Nat} (x : Nat × Nat) (h : φ c = none) : φ.le (φ.add c x) := by
  intro b y e
  have : b ≠ c := by rintro rfl; rw [h] at e; cases e
  rw [Loc.add_ne _ _ this]; exact e

theorem Sim.made {E : Env} {φ : Loc} {h : Hs} {c : Nat} {w w' : World} {o : AObj} {N : Nat} (g : HR E φ h.t w) (f : φ c = none) (gr : Grown w w')
    (ho : OR E (φ.add c (w.heap.size, N)) w' c o) : Sim E φ h c w (φ.add c (w.heap.size, N)) (h.newD c o) (c + 1) w' := by
  have hle := Loc.le_add φ (w.heap.size, N) f
  have hc : h.t.get c = none := by
    cases e : h.t.get c with
    | none => rfl
    | some o => obtain ⟨B, N, e2, _⟩ := (g.obj c o e).loc; rw [f] at e2; cases e2
  refine ⟨⟨fun b o' hb => ?_, fun b b' B N N' h1 h2 e1 e2 => ?_⟩, fun b hb => ?_, by omega, fun b hb => ?_, fun b B N hl hr e _ => ?_, fun B hB _ => gr.old B hB, ⟨gr.tape, gr.os, gr.output, by rw [gr.size]; omega⟩, rfl, fun b hb => hb, fun b _ h2 _ => by simp only [Hs.newD, get_set]; rw [if_neg (by omega)]⟩
  · simp only [Hs.newD, get_set] at hb
    split at hb
    · rename_i e; subst e; cases hb; exact ho
    · exact (g.obj b o' hb).keep hle fun B N e => gr.old B (by
        obtain ⟨B', N', e', hlt⟩ := (g.obj b o' hb).loc; rw [e] at e'; cases e'; exact hlt)
  · simp only [Hs.newD, get_set] at h1 h2
    have lt : ∀ x, x ≠ c → h.t.get x ≠ none → ∀ B N, φ x = some (B, N) → B < w.heap.size := fun x _ hx B N e => by
      obtain ⟨B', N', e', hlt⟩ := g.loc hx; rw [e] at e'; cases e'; exact hlt
    by_cases hb : b = c
    · by_cases hb' : b' = c
      · omega
      · subst hb
        rw [Loc.add_same] at e1; cases e1
        rw [Loc.add_ne _ _ hb'] at e2
        rw [if_neg (fun h => hb' h.symm)] at h2
        have := lt b' hb' h2 _ _ e2
        omega
    · rw [Loc.add_ne _ _ hb] at e1
      rw [if_neg (fun h => hb h.symm)] at h1
      by_cases hb' : b' = c
      · subst hb'
        rw [Loc.add_same] at e2; cases e2
        have := lt b hb h1 _ _ e1
        omega
      · rw [Loc.add_ne _ _ hb'] at e2
        rw [if_neg (fun h => hb' h.symm)] at h2
        exact g.inj b b' B N N' h1 h2 e1 e2
  · exact Loc.add_ne _ _ (by omega)
  · simp only [Hs.newD, get_set] at hb
    split at hb
    · exact .inr (by omega)
    · exact .inl hb
  · have : b = c := by omega
    subst this
    rw [Loc.add_same] at e; cases e
    exact .inl (Nat.le_refl _)

/-- one block is another one -/
structure Turned (w w' : World) (B : Nat) : Prop where
  size : w'.heap.size = w.heap.size
  old : ∀ B', B' ≠ B → w'.heap[B']? = w.heap[B']?
  tape : w'.tape = w.tape
  os : w'.os = w.os
  output : w'.output = w.output

theorem Sim.put {E : Env} {φ : Loc} {h : Hs} {c b B N : Nat} {w w' : World} {o : AObj} (g : HR E φ h.t w) (hb : h.t.get b ≠ none) (hB : φ b = some (B, N)) (tu : Turned w w' B)
    (ho : OR E φ w' b o) : Sim E φ h c w φ (h.putD b (some o)) c w' := by
  have other : ∀ x, x ≠ b → h.t.get x ≠ none → ∀ B' N', φ x = some (B', N') → B' ≠ B := fun x hx hg B' N' e hBB => by
    subst hBB; exact hx (g.inj x b _ _ _ hg hb e hB)
  refine ⟨⟨fun x o' hx => ?_, fun x x' B₁ N₁ N₂ h1 h2 e1 e2 => ?_⟩, fun _ _ => rfl, Nat.le_refl _, fun x hx => ?_, fun x B N hl hr => by omega, fun B' hB' hn => tu.old B' fun e => ?_, ⟨tu.tape, tu.os, tu.output, by rw [tu.size]; omega⟩, rfl, fun x hx => ?_, fun x h1 _ h3 => by
    simp only [Hs.putD, get_set]; rw [if_neg (fun e => h3 ((logW_iff _ _ _ _).2 (.inr ⟨e.symm, by omega⟩)))]⟩
  · simp only [Hs.putD, get_set] at hx
    split at hx
    · rename_i e; subst e; cases hx; exact ho
    · rename_i e
      exact (g.obj x o' hx).keep (fun _ _ h => h) fun B' N' e' => tu.old B' (other x (fun h => e h.symm) (by rw [hx]; simp) B' N' e')
  · have hd : ∀ x, (h.putD b (some o)).t.get x ≠ none → h.t.get x ≠ none := fun x hx => by
      simp only [Hs.putD, get_set] at hx
      split at hx
      · rename_i e; subst e; exact hb
      · exact hx
    exact g.inj x x' B₁ N₁ N₂ (hd x h1) (hd x' h2) e1 e2
  · left
    simp only [Hs.putD, get_set] at hx
    split at hx
    · rename_i e; subst e; exact hb
    · exact hx
  · subst e
    refine hn ⟨b, N, hb, hB, ?_⟩
    by_cases hf : h.fl ≤ b
    · exact .inl hf
    · exact .inr ((logW_iff _ _ _ _).2 (.inr ⟨rfl, by omega⟩))
  · exact (logW_iff _ _ _ _).2 (.inl hx)

/-- nothing that the evaluator knows turns -/
theorem Sim.idle {E : Env} {φ : Loc} {h : Hs} {c : Nat} {w w' : World} (g : HR E φ h.t w) (ho : ∀ B, B < w.heap.size → w'.heap[B]? = w.heap[B]?) (hs : Same w w') : Sim E φ h c w φ h c w' :=
  ⟨⟨fun b o hb => (g.obj b o hb).keep (fun _ _ h => h) fun B N e => ho B (by
      obtain ⟨B', N', e', hlt⟩ := (g.obj b o hb).loc; rw [e] at e'; cases e'; exact hlt), g.inj⟩,
    fun _ _ => rfl, Nat.le_refl _, fun _ hb => .inl hb, fun _ _ _ h1 h2 => by omega, fun B hB _ => ho B hB, hs, rfl, fun _ hb => hb, fun _ _ _ _ => rfl⟩

/-- a block is no longer spoken of; what it led to is new memory, or that block grown -/
theorem Sim.grow {E : Env} {φ : Loc} {h : Hs} {c b B N : Nat} {w w' : World} {o : AObj} {x : Nat × Nat} (g : HR E φ h.t w) (f : φ c = none) (hb : h.t.get b ≠ none) (hB : φ b = some (B, N))
    (hx : x.1 = B ∨ x.1 = w.heap.size) (old : ∀ B', B' < w.heap.size → B' ≠ B → w'.heap[B']? = w.heap[B']?) (keep : x.1 = w.heap.size → w'.heap[B]? = w.heap[B]?) (hs : Same w w')
    (ho : OR E (φ.add c x) w' c o) : Sim E φ h c w (φ.add c x) ((h.putD b none).newD c o) (c + 1) w' := by
  have hle := Loc.le_add φ x f
  have hcn : c ≠ b := by rintro rfl; rw [f] at hB; cases hB
  have bound : ∀ y, h.t.get y ≠ none → ∀ B' N', φ y = some (B', N') → B' < w.heap.size := fun y hy B' N' e => by
    obtain ⟨B'', N'', e', hlt⟩ := g.loc hy; rw [e] at e'; cases e'; exact hlt
  have other : ∀ y, y ≠ b → h.t.get y ≠ none → ∀ B' N', φ y = some (B', N') → B' ≠ B := fun y hy hg B' N' e hBB => by
    subst hBB; exact hy (g.inj y b _ _ _ hg hb e hB)
  have hget : ∀ y, ((h.putD b none).newD c o).t.get y = if c = y then some o else if b = y then none else h.t.get y := fun y => by
    simp only [Hs.newD, Hs.putD, get_set]
  have hc : h.t.get c = none := by
    cases e : h.t.get c with
    | none => rfl
    | some o => obtain ⟨B, N, e2, _⟩ := (g.obj c o e).loc; rw [f] at e2; cases e2
  refine ⟨⟨fun y o' hy => ?_, fun y y' B₁ N₁ N₂ h1 h2 e1 e2 => ?_⟩, fun y hy => Loc.add_ne _ _ (by omega), by omega, fun y hy => ?_, fun y B' N' hl hr e _ => ?_, fun B' hB' hn => ?_, hs, rfl, fun y hy => ?_, fun y h1 h2 h3 => by
    rw [hget, if_neg (by omega), if_neg (fun e => h3 ((logW_iff _ _ _ _).2 (.inr ⟨e.symm, by omega⟩)))]⟩
  · rw [hget] at hy
    split at hy
    · rename_i e; subst e; cases hy; exact ho
    · split at hy
      · cases hy
      · rename_i e1 e2
        exact (g.obj y o' hy).keep hle fun B' N' e => old B' (bound y (by rw [hy]; simp) B' N' e) (other y (fun h => e2 h.symm) (by rw [hy]; simp) B' N' e)
  · have hd : ∀ y, y ≠ c → ((h.putD b none).newD c o).t.get y ≠ none → y ≠ b ∧ h.t.get y ≠ none := fun y hyc hy => by
      rw [hget, if_neg (fun e => hyc e.symm)] at hy
      split at hy
      · exact absurd rfl hy
      · rename_i e; exact ⟨fun h => e h.symm, hy⟩
    have clash : ∀ y, y ≠ c → ((h.putD b none).newD c o).t.get y ≠ none → ∀ B' N', φ y = some (B', N') → x.1 ≠ B' := fun y hyc hy B' N' e he => by
      obtain ⟨h1, h2⟩ := hd y hyc hy
      rcases hx with h3 | h3
      · exact other y h1 h2 B' N' e (by omega)
      · have := bound y h2 B' N' e; omega
    by_cases hyc : y = c
    · by_cases hyc' : y' = c
      · omega
      · subst hyc
        rw [Loc.add_same] at e1
        rw [Loc.add_ne _ _ hyc'] at e2
        cases x with
        | mk x1 x2 => cases e1; exact absurd rfl (clash y' hyc' h2 _ _ e2)
    · rw [Loc.add_ne _ _ hyc] at e1
      by_cases hyc' : y' = c
      · subst hyc'
        rw [Loc.add_same] at e2
        cases x with
        | mk x1 x2 => cases e2; exact absurd rfl (clash y hyc h1 _ _ e1)
      · rw [Loc.add_ne _ _ hyc'] at e2
        exact g.inj y y' B₁ N₁ N₂ (hd y hyc h1).2 (hd y' hyc' h2).2 e1 e2
  · rw [hget] at hy
    split at hy
    · exact .inr (by omega)
    · split at hy
      · exact absurd rfl hy
      · exact .inl hy
  · have : y = c := by omega
    subst this
    rw [Loc.add_same] at e
    cases x with
    | mk x1 x2 =>
      cases e
      rcases hx with h3 | h3
      · right
        refine ⟨b, N, hb, by simp at h3; rw [h3]; exact hB, ?_⟩
        by_cases hf : h.fl ≤ b
        · exact .inl hf
        · exact .inr ((logW_iff _ _ _ _).2 (.inr ⟨rfl, by omega⟩))
      · left; simp at h3; omega
  · by_cases e : B' = B
    · subst e
      rcases hx with h3 | h3
      · refine absurd ⟨b, N, hb, hB, ?_⟩ hn
        by_cases hf : h.fl ≤ b
        · exact .inl hf
        · exact .inr ((logW_iff _ _ _ _).2 (.inr ⟨rfl, by omega⟩))
      · exact keep h3
    · exact old B' hB' e
  · exact (logW_iff _ _ _ _).2 (.inl hy)
end Go.AE
