import Derived.Test.YtbnakfpdmiibdaaAEDraw5
namespace Go.AE
/-- the sequence may have come here -/
def SeqOk (E : Env) (N : Nat) (z : St) : Prop := ∃ (φ : Loc) (w : World) (a : Act), a.tmps.size = N ∧ TR E φ z.ts a.tmps ∧ HR E φ z.h.t w ∧ Fresh φ z.c 0
structure Facts (z : St) (x : Ev) (z' : St) : Prop where
  cle : z.c ≤ z'.c
  τH : ∀ y o, x.τ.get y = some o → z.h.t.get y = some o
  h1 : ∀ y, Wr z.c z'.c x.lg y → z'.h.t.get y = x.τ'.get y
  h0 : ∀ y, ¬ Wr z.c z'.c x.lg y → z'.h.t.get y = z.h.t.get y

section
variable {E : Env} {φ φ' φ₀ : Loc} {h h' h₁ h₀ h1 : Hs} {c c' c₁ c₀ b m i : Nat} {w w' : World} {ts ts' ts1 : Tm} {e ex : Ex} {rs : List Rc} {o : Oper} {a : Act} {ops : Array Oper} {N : Nat} {z z' : St} {x : Ev}

theorem appLog_iff (l m : List Nat) (y : Nat) : y ∈ appLog l m ↔ y ∈ l ∨ y ∈ m := by
  induction l with
  | nil => exact ⟨.inr, fun h => h.elim (fun h => by cases h) id⟩
  | cons a l ih =>
    show y ∈ Bool.rec (motive := fun _ => List Nat) (a :: appLog l m) (appLog l m) (memN a m) ↔ _
    cases hb : memN a m with
    | false => show y ∈ a :: appLog l m ↔ _; rw [List.mem_cons, ih, List.mem_cons, or_assoc]
    | true =>
      show y ∈ appLog l m ↔ _
      rw [ih, List.mem_cons]
      have := (memN_iff a m).1 hb
      exact ⟨fun h => h.elim (fun h => .inl (.inr h)) .inr, fun h => h.elim (fun h => h.elim (fun h => .inr (h ▸ this)) .inl) .inr⟩
theorem logAll_iff (acc : List Nat) (fl : Nat) (lg : List Nat) (y : Nat) : y ∈ logAll acc fl lg ↔ y ∈ lg ∨ (y ∈ acc ∧ y < fl) := by
  induction acc with
  | nil => exact ⟨.inl, fun h => h.elim id (fun h => by cases h.1)⟩
  | cons a l ih =>
    show y ∈ logW a fl (logAll l fl lg) ↔ _
    rw [logW_iff, ih, List.mem_cons]
    constructor
    · rintro ((h | h) | ⟨rfl, h⟩)
      · exact .inl h
      · exact .inr ⟨.inr h.1, h.2⟩
      · exact .inr ⟨.inl rfl, h⟩
    · rintro (h | ⟨h | h, h2⟩)
      · exact .inl (.inl h)
      · exact .inr ⟨h, h ▸ h2⟩
      · exact .inl (.inr ⟨h, h2⟩)

theorem Kind.rsMono (k : Kind i m z x z') : ∀ r ∈ z.rs, r ∈ z'.rs := fun r hr => by
  cases k with
  | none hτ hτ' hlg hrs hac hh hc => rw [hrs]; exact hr
  | al ob hτ hτ' hlg hrs hac hh hc => rw [hrs]; exact List.mem_cons_of_mem _ hr
  | rd b ob hb hτ hτ' hlg hrs hac hh hc hok => rw [hrs]; exact List.mem_cons_of_mem _ hr
  | wr b ob ob' hb hτ hτ' hlg hrs hac hh hc hok => rw [hrs]; exact List.mem_cons_of_mem _ hr
  | cx hne hτ1 hτ2 ht1 ht2 hfl hlg hrs hac hok => rw [hrs]; exact List.mem_cons_of_mem _ hr
theorem Kind.fl (k : Kind i m z x z') : z'.h.fl = z.h.fl := by
  cases k with
  | none hτ hτ' hlg hrs hac hh hc => rw [hh]
  | al ob hτ hτ' hlg hrs hac hh hc => rw [hh]; rfl
  | rd b ob hb hτ hτ' hlg hrs hac hh hc hok => rw [hh]
  | wr b ob ob' hb hτ hτ' hlg hrs hac hh hc hok => rw [hh]; rfl
  | cx hne hτ1 hτ2 ht1 ht2 hfl hlg hrs hac hok => exact hfl
theorem Kind.logMono (k : Kind i m z x z') (y : Nat) (hy : y ∈ z.h.lg ∨ y ∈ z.acc) : y ∈ z'.h.lg ∨ y ∈ z'.acc := by
  cases k with
  | none hτ hτ' hlg hrs hac hh hc => rw [hh, hac]; exact hy
  | al ob hτ hτ' hlg hrs hac hh hc => rw [hh, hac]; exact hy
  | rd b ob hb hτ hτ' hlg hrs hac hh hc hok => rw [hh, hac]; exact hy
  | wr b ob ob' hb hτ hτ' hlg hrs hac hh hc hok => rw [hh, hac]; exact hy.imp (fun h => (logW_iff ..).2 (.inl h)) id
  | cx hne hτ1 hτ2 ht1 ht2 hfl hlg hrs hac hok => rw [hlg, hac]; exact hy.imp id fun h => (appLog_iff ..).2 (.inr h)
theorem Kind.logNew (k : Kind i m z x z') (y : Nat) (hy : y ∈ x.lg) (hf : y < z.h.fl) : y ∈ z'.h.lg ∨ y ∈ z'.acc := by
  cases k with
  | none hτ hτ' hlg hrs hac hh hc => rw [hlg] at hy; cases hy
  | al ob hτ hτ' hlg hrs hac hh hc => rw [hlg] at hy; cases hy
  | rd b ob hb hτ hτ' hlg hrs hac hh hc hok => rw [hlg] at hy; cases hy
  | wr b ob ob' hb hτ hτ' hlg hrs hac hh hc hok =>
    rw [hlg, logW_iff] at hy
    rcases hy with hy | ⟨rfl, _⟩
    · cases hy
    · rw [hh]; exact .inl ((logW_iff ..).2 (.inr ⟨rfl, hf⟩))
  | cx hne hτ1 hτ2 ht1 ht2 hfl hlg hrs hac hok => rw [hac]; exact .inr ((appLog_iff ..).2 (.inl hy))

theorem allOk_mem {f : Rk → Bool} {m : Nat} : ∀ {rs : List Rc}, allOk f m rs = true → ∀ r ∈ rs, Nat.testBit m r.i = false → f r.k = true
  | [], _, r, hr, _ => by cases hr
  | q :: rs, hok, r, hr, hb => by
    have hok : (Bool.rec (motive := fun _ => Bool) (Bool.rec (motive := fun _ => Bool) false (allOk f m rs) (f q.k)) (allOk f m rs) (Nat.testBit m q.i)) = true := hok
    rcases List.mem_cons.1 hr with hr | hr
    · subst hr
      rw [hb] at hok
      cases hf : f r.k with
      | true => rfl
      | false => rw [hf] at hok; cases hok
    · refine allOk_mem ?_ r hr hb
      cases hb2 : Nat.testBit m q.i with
      | true => rw [hb2] at hok; exact hok
      | false =>
        rw [hb2] at hok
        cases hc2 : f q.k with
        | true => rw [hc2] at hok; exact hok
        | false => rw [hc2] at hok; cases hok
theorem SeqOk.dom (q : SeqOk E N z) {y : Nat} (hy : z.h.t.get y ≠ none) : y < z.c := by
  obtain ⟨φ, w, a, _, _, hh, hf⟩ := q
  obtain ⟨B, M, e, _⟩ := hh.loc hy
  exact fresh_lt hf e
theorem seq_step (q : SeqOk E N z) (f : StepF E ops N i m z x z') (hd : ∀ o ∈ ops.toList, dstOk N o = true) : SeqOk E N z' ∧ Facts z x z' := by
  have hdom := fun y hy => q.dom (y := y) hy
  obtain ⟨φ, w, a, hN, ht, hh, hf⟩ := q
  obtain ⟨o, ho, hts, hk, hrun⟩ := f
  have τH : ∀ y ob, x.τ.get y = some ob → z.h.t.get y = some ob := fun y ob hy => by
    cases hk with
    | none hτ hτ' hlg hrs hac hh hc => rw [hτ, get_e] at hy; cases hy
    | al ob hτ hτ' hlg hrs hac hh hc => rw [hτ, get_e] at hy; cases hy
    | rd b ob hb hτ hτ' hlg hrs hac hh hc hok =>
      rw [hτ, get_single] at hy
      split at hy
      · rename_i e; subst e; rw [hb]; exact hy
      · cases hy
    | wr b ob ob' hb hτ hτ' hlg hrs hac hh hc hok =>
      rw [hτ, get_single] at hy
      split at hy
      · rename_i e; subst e; rw [hb]; exact hy
      · cases hy
    | cx hne hτ1 hτ2 ht1 ht2 hfl hlg hrs hac hok =>
      by_cases hi : Hid m z.rs y
      · rw [hτ2 y hi] at hy; cases hy
      · rw [← hτ1 y hi]; exact hy
  obtain ⟨φ₁, w', u, s, hu, _⟩ := hrun φ a hN (fun t _ => ht t) φ w (Frame.enter E.P 0 #[] .normal) [] [] [] (fun _ _ h => h) (hh.sub τH) hf
  have cle := s.cle
  have facts : Facts z x z' := by
    refine ⟨cle, τH, fun y hy => ?_, fun y hy => ?_⟩
    · cases hk with
      | none hτ hτ' hlg hrs hac hh hc =>
        rw [hlg, hc] at hy
        rcases hy with ⟨h, _⟩ | ⟨h1, h2⟩
        · cases h
        · omega
      | al ob hτ hτ' hlg hrs hac hh hc =>
        rw [hlg, hc] at hy
        rcases hy with ⟨h, _⟩ | ⟨h1, h2⟩
        · cases h
        · obtain rfl : y = z.c := by omega
          rw [hh, hτ', get_single, if_pos rfl]
          exact get_set_same ..
      | rd b ob hb hτ hτ' hlg hrs hac hh hc hok =>
        rw [hlg, hc] at hy
        rcases hy with ⟨h, _⟩ | ⟨h1, h2⟩
        · cases h
        · omega
      | wr b ob ob' hb hτ hτ' hlg hrs hac hh hc hok =>
        rw [hlg, hc] at hy
        rcases hy with ⟨h, _⟩ | ⟨h1, h2⟩
        · rw [logW_iff] at h
          rcases h with h | ⟨rfl, _⟩
          · cases h
          · rw [hh, hτ', get_set_same]
            exact get_set_same ..
        · omega
      | cx hne hτ1 hτ2 ht1 ht2 hfl hlg hrs hac hok =>
        refine ht2 y fun hi => ?_
        obtain ⟨j, hj, hb⟩ := hi
        have hyl : y ∉ x.lg := by
          have := allOk_mem hok _ hj hb
          have this : bnot (memN y x.lg) = true := this
          cases hm : memN y x.lg with
          | true => rw [hm] at this; cases this
          | false => exact memN_false hm
        rcases hy with ⟨h, _⟩ | ⟨h1, h2⟩
        · exact hyl h
        · have := hdom y (hne y ⟨j, hj, hb⟩); omega
    · cases hk with
      | none hτ hτ' hlg hrs hac hh hc => rw [hh]
      | al ob hτ hτ' hlg hrs hac hh hc =>
        rw [hh]
        exact get_set_ne _ _ fun e => hy (.inr (by rw [hc]; omega))
      | rd b ob hb hτ hτ' hlg hrs hac hh hc hok => rw [hh]
      | wr b ob ob' hb hτ hτ' hlg hrs hac hh hc hok =>
        rw [hh]
        have hbc := hdom b (by rw [hb]; simp)
        exact get_set_ne _ _ fun e => hy (.inl (by rw [hlg, logW_iff]; subst e; exact ⟨.inr ⟨rfl, hbc⟩, hbc⟩))
      | cx hne hτ1 hτ2 ht1 ht2 hfl hlg hrs hac hok =>
        by_cases hi : Hid m z.rs y
        · exact ht1 y hi
        · rw [ht2 y hi]
          by_cases hyc : y < z.c
          · rw [s.keep y hyc hyc (fun h => hy (.inl ⟨h, hyc⟩))]
            exact hτ1 y hi
          · have hyc' : ¬ y < z'.c := fun h => hy (.inr ⟨by omega, h⟩)
            have e1 : z.h.t.get y = none := Classical.byContradiction fun h => hyc (hdom y h)
            rw [e1]
            refine Classical.byContradiction fun h => ?_
            rcases s.dom y h with h | h
            · have h : x.τ.get y ≠ none := h
              rw [hτ1 y hi] at h
              exact h e1
            · omega
  refine ⟨?_, facts⟩
  have hcut : φ.cut z.c = φ := funext fun b => by
    by_cases hb : b < z.c
    · exact Loc.cut_lt hb
    · rw [hf b (by omega) rfl]; exact if_neg hb
  obtain ⟨m1, m2, m3, _⟩ := merge (G' := z'.h.t.get) hh.fn τH (fun y hy => hdom y fun h => by
    cases e : x.τ.get y with
    | none => exact hy e
    | some ob => rw [τH y ob e] at h; cases h) (by rw [hcut]; exact s) (fun b hb _ => hf b hb rfl) facts.h1 facts.h0
  have hdo := hd o (by rw [← Array.getElem?_toList] at ho; exact List.mem_of_getElem? ho)
  obtain ⟨p1, p2, p3⟩ := (ht.mono m2).putD (df := a.defers) (o := o) (by rw [hN]; exact hdo) (VR.mono m3 _ _ hu)
  refine ⟨_, w', a.put o.dst u, p2.trans hN, ?_, m1.tree, fun b hb _ => ?_⟩
  · rw [hts]; exact p1
  · rw [Loc.join_out (by omega)]; exact hf b (by omega) rfl
end
end Go.AE
