import Derived.Test.YtbnakfpdmiibdaaAEDraw2
namespace Go.AE
section
variable {E : Env} {ops : Array Oper} {N : Nat} {p : Plan} {φ₀ φ : Loc} {w₀ w : World} {df : List Deferred} {a : Act}

/-- what is listed -/
def Ls (listed : Array Bool) (j : Nat) : Prop := listed.getD j false = true
def left (n : Nat) (listed : Array Bool) : List Nat := (List.range n).filter fun j => !listed.getD j false

theorem filter_lt {q r : Nat → Bool} {i : Nat} : ∀ {l : List Nat}, (∀ x ∈ l, r x = true → q x = true) → i ∈ l → q i = true → r i = false → (l.filter r).length < (l.filter q).length
  | [], _, hi, _, _ => by cases hi
  | x :: l, h, hi, hq, hr => by
    have le : (l.filter r).length ≤ (l.filter q).length := by
      have h' : ∀ x ∈ l, r x = true → q x = true := fun x hx => h x (List.mem_cons_of_mem _ hx)
      clear h hi
      induction l with
      | nil => exact Nat.le_refl _
      | cons y l ih =>
        have := ih fun x hx => h' x (List.mem_cons_of_mem _ hx)
        have hy := h' y (List.mem_cons_self ..)
        cases hry : r y <;> cases hqy : q y <;> simp_all
        omega
    by_cases e : x = i
    · subst e
      rw [List.filter_cons_of_neg (by simp [hr]), List.filter_cons_of_pos (by simpa using hq)]
      simp only [List.length_cons]; omega
    · have hi : i ∈ l := (List.mem_cons.1 hi).resolve_left fun h => e h.symm
      have ih := filter_lt (fun y hy => h y (List.mem_cons_of_mem _ hy)) hi hq hr
      have hx := h x (List.mem_cons_self ..)
      cases hrx : r x <;> cases hqx : q x <;> simp_all
      omega

theorem left_nil {n : Nat} {listed : Array Bool} (h : left n listed = []) : ∀ i, i < n → Ls listed i := fun i hi => by
  have := List.filter_eq_nil_iff.1 h i (List.mem_range.2 hi)
  unfold Ls
  cases hb : listed.getD i false
  · simp only [hb] at this; exact absurd rfl this
  · rfl

theorem Ls_set {listed : Array Bool} {i j : Nat} (hi : i < listed.size) : Ls (listed.setIfInBounds i true) j ↔ Ls listed j ∨ j = i := by
  unfold Ls
  by_cases e : i = j
  · subst e
    simp [Array.getD, hi]
  · rw [getD_set_ne false e]
    exact ⟨.inl, fun h => h.resolve_right fun h => e h.symm⟩

theorem Plan.Inv.sched (ok : p.Ok E ops N ops.size) (hop : ∀ i, i < ops.size → ops[i]? = some (p.op i))
    (P1 : ∀ i, i < ops.size → ∀ j, p.pre i j → ∃ e ∈ (p.op i).after, Region.binds .any e = true ∧ (j = e.on ∨ (e.on < i ∧ p.pre e.on j)))
    (P2 : ∀ i, i < ops.size → ∀ e ∈ (p.op i).after, Region.binds .any e = true → e.on < i) (b : Frame) (k : List Item) (cs : List Frame) :
    ∀ (fuel t : Nat) (listed : Array Bool) (φ : Loc) (w : World) (a : Act), listed.size = ops.size → (left ops.size listed).length ≤ fuel → p.Inv E N ops.size φ₀ w₀ df (Ls listed) φ w a →
      (∀ j, j < ops.size → Ls listed j → ∀ k, k < ops.size → p.pre j k → Ls listed k) →
      ∃ S φ' w' a', (∀ i, i < ops.size → S i) ∧ p.Inv E N ops.size φ₀ w₀ df S φ' w' a' ∧
        Steps E.P (lone (fat b a (.inRegion ops (Region.linearise.go .any ops fuel t listed []) :: k)) cs w) (lone (fat b a' k) cs w')
  | 0, t, listed, φ, w, a, hs, hl, inv, _ => by
    have : left ops.size listed = [] := List.eq_nil_of_length_eq_zero (by omega)
    exact ⟨Ls listed, φ, w, a, left_nil this, inv, fat_region_end⟩
  | fuel + 1, t, listed, φ, w, a, hs, hl, inv, hclo => by
    simp only [Region.linearise.go]
    change ∃ S φ' w' a', _ ∧ _ ∧ Steps E.P (lone (fat b a (.inRegion ops (match (Region.ready .any ops listed)[t % (Region.ready .any ops listed).length]? with
      | some i => Region.linearise.go .any ops fuel (t / (Region.ready .any ops listed).length) (listed.setIfInBounds i true) [i]
      | none => [].reverse) :: k)) cs w) _
    cases hi : (Region.ready .any ops listed)[t % (Region.ready .any ops listed).length]? with
    | none =>
      have hnil : Region.ready .any ops listed = [] := by
        cases hr : Region.ready .any ops listed with
        | nil => rfl
        | cons x xs =>
          rw [hr] at hi
          have hlt : t % (x :: xs).length < (x :: xs).length := Nat.mod_lt _ (by simp)
          simp at hi
          simp at hlt
          omega
      refine ⟨Ls listed, φ, w, a, ?_, inv, by simpa using fat_region_end⟩
      intro i
      induction i using Nat.strongRecOn with
      | ind i ih =>
        intro hlt
        apply Classical.byContradiction
        intro hn
        have : i ∈ Region.ready .any ops listed := by
          rw [mem_ready]
          refine ⟨?_, p.op i, hop i hlt, fun e he hb => ih e.on (P2 i hlt e he hb) (by have := P2 i hlt e he hb; omega)⟩
          unfold Ls at hn
          rw [Array.getD_eq_getD_getElem?] at hn ⊢
          rw [Array.getElem?_eq_getElem (by omega)] at hn ⊢
          simpa using hn
        rw [hnil] at this; cases this
    | some i =>
      simp only []
      rw [linearise_go_acc, List.reverse_singleton, List.singleton_append]
      obtain ⟨hun, o, ho, hed⟩ := mem_ready.1 (List.mem_of_getElem? hi)
      have hlt : i < ops.size := (Array.getElem?_eq_some_iff.1 ho).1
      rw [hop i hlt] at ho; cases ho
      have hSi : ¬ Ls listed i := by
        unfold Ls
        rw [Array.getD_eq_getD_getElem?] at hun ⊢
        rw [Array.getElem?_eq_getElem (by omega)] at hun ⊢
        simpa using hun
      have hpre : ∀ j, j < ops.size → p.pre i j → Ls listed j := fun j hj hp => by
        obtain ⟨e, he, hb, h | ⟨h1, h2⟩⟩ := P1 i hlt j hp
        · subst h; exact hed e he hb
        · exact hclo e.on (by omega) (hed e he hb) j hj h2
      have hset : ∀ j, Ls (listed.setIfInBounds i true) j ↔ Ls listed j ∨ j = i := fun j => Ls_set (by omega)
      obtain ⟨φ₁, w₁, a₁, inv₁, st₁⟩ := inv.step ok hlt hSi hpre hclo hset b k cs (Region.linearise.go .any ops fuel (t / (Region.ready .any ops listed).length) (listed.setIfInBounds i true) [])
      have hlen : (left ops.size (listed.setIfInBounds i true)).length < (left ops.size listed).length := by
        refine filter_lt (i := i) (fun x _ hx => ?_) (List.mem_range.2 hlt) ?_ ?_
        · cases hb : listed.getD x false
          · rfl
          · have : Ls (listed.setIfInBounds i true) x := (hset x).2 (.inl hb)
            unfold Ls at this
            rw [this] at hx; exact hx
        · cases hb : listed.getD i false
          · rfl
          · exact absurd hb hSi
        · have : Ls (listed.setIfInBounds i true) i := (hset i).2 (.inr rfl)
          unfold Ls at this
          rw [this]; rfl
      obtain ⟨S, φ', w', a', h1, h2, h3⟩ := Plan.Inv.sched ok hop P1 P2 b k cs fuel (t / (Region.ready .any ops listed).length) (listed.setIfInBounds i true) φ₁ w₁ a₁ (by simpa using hs) (by omega) inv₁ (fun j hj hs' m hm hp => by
        rw [hset] at hs' ⊢
        rcases hs' with h | h
        · exact .inl (hclo j hj h m hm hp)
        · subst h; exact .inl (hpre m hm hp))
      exact ⟨S, φ', w', a', h1, h2, st₁.trans h3⟩
end
end Go.AE
