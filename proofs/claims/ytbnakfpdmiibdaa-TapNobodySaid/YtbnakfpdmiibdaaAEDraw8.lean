import Derived.Test.YtbnakfpdmiibdaaAEDraw7
namespace Go.AE
section
variable {E : Env} {φ φ' φ₀ : Loc} {h h' h₁ h₀ h1 : Hs} {c c' c₁ c₀ b m i : Nat} {w w' : World} {ts ts' ts1 : Tm} {e ex : Ex} {rs : List Rc} {o : Oper} {a : Act} {ops : Array Oper} {N : Nat} {z z' : St} {x : Ev}

/-! ### operations apart -/
theorem outOf_ok {d : Option Tmp} {l : List Nat} (h : outOf d l = true) : ∀ t, d = some t → t ∉ l := fun t ht => by
  subst ht
  have h : bnot (memN t l) = true := h
  cases hm : memN t l with
  | true => rw [hm] at h; cases h
  | false => exact memN_false hm
theorem neDst_ok {x y : Option Tmp} (h : neDst x y = true) : ∀ t, x = some t → y ≠ some t := fun t ht hy => by
  subst ht; subst hy
  have h : bnot (Nat.beq t t) = true := h
  rw [Nat.beq_refl] at h; cases h
theorem and3 {a b : Bool} (h : (Bool.rec (motive := fun _ => Bool) false a b) = true) : b = true ∧ a = true := by
  cases b with
  | false => cases h
  | true => exact ⟨rfl, h⟩
theorem apartA_ok {all : List Oper} {y : Oper} {m : Nat} : ∀ {l : List Oper} {i : Nat}, apartA all y m l i = true → ∀ (k : Nat) (x : Oper), l[k]? = some x → Nat.testBit m (i + k) = false →
    (∀ t, x.dst = some t → y.dst ≠ some t) ∧ (∀ t, x.dst = some t → t ∉ looksA all y) ∧ (∀ t, y.dst = some t → t ∉ looksA all x)
  | [], _, _, k, x, hk, _ => by simp at hk
  | q :: l, i, h, k, x, hk, hb => by
    have h : (Bool.rec (motive := fun _ => Bool) (Bool.rec (motive := fun _ => Bool) false (Bool.rec (motive := fun _ => Bool) false (Bool.rec (motive := fun _ => Bool) false (apartA all y m l (i + 1)) (outOf y.dst (looksA all q))) (outOf q.dst (looksA all y))) (neDst q.dst y.dst)) (apartA all y m l (i + 1)) (Nat.testBit m i)) = true := h
    cases k with
    | zero =>
      simp at hk; subst hk
      rw [show Nat.testBit m i = false from hb] at h
      obtain ⟨h1, h⟩ := and3 h
      obtain ⟨h2, h⟩ := and3 h
      obtain ⟨h3, h⟩ := and3 h
      exact ⟨neDst_ok h1, outOf_ok h2, outOf_ok h3⟩
    | succ k =>
      simp at hk
      refine apartA_ok (i := i + 1) ?_ k x hk (by rw [show i + 1 + k = i + (k + 1) by omega]; exact hb)
      cases hb2 : Nat.testBit m i with
      | true => rw [hb2] at h; exact h
      | false =>
        rw [hb2] at h
        obtain ⟨_, h⟩ := and3 h
        obtain ⟨_, h⟩ := and3 h
        exact (and3 h).2
theorem apartAll_ok {all : List Oper} : ∀ {l : List Oper} {ms : List Nat} {acc : List Oper}, apartAll all l ms acc = true → ∀ (k : Nat) (y : Oper) (m : Nat), l[k]? = some y → ms[k]? = some m → apartA all y m (acc ++ l.take k) 0 = true
  | [], _, _, _, k, y, m, hk, _ => by simp at hk
  | q :: l, [], _, h, _, _, _, _, _ => by cases h
  | q :: l, m :: ms, acc, h, k, y, m', hk, hm => by
    have h : (Bool.rec (motive := fun _ => Bool) (Bool.rec (motive := fun _ => Bool) false (apartAll all l ms (appL acc [q])) (apartA all q m acc 0)) false (isSelect q.op)) = true := h
    cases hs : isSelect q.op with
    | true => rw [hs] at h; cases h
    | false =>
      rw [hs] at h
      obtain ⟨h1, h2⟩ := and3 h
      cases k with
      | zero => simp at hk hm; subst hk; subst hm; simpa using h1
      | succ k =>
        simp at hk hm
        rw [appL_eq] at h2
        have := apartAll_ok h2 k y m' hk hm
        simpa using this

/-! ### what an event turns, and what it stands on -/
theorem HR.draw {t : T AObj} (hh : HR E φ t w) : HR E φ t { w with drawn := w.drawn + 1 } := ⟨fun b o hb => (hh.obj b o hb).keep (fun _ _ h => h) fun _ _ _ => rfl, hh.inj⟩
theorem Sim.draw {w0 : World} (s : Sim E φ h c { w0 with drawn := w0.drawn + 1 } φ' h' c' w') : Sim E φ h c w0 φ' h' c' w' :=
  ⟨s.hr, s.ext, s.cle, s.dom, s.new, s.fr, ⟨s.same.tape, s.same.os, s.same.output, s.same.size⟩, s.fl, s.lg, s.keep⟩

theorem memN_not {b : Nat} {l : List Nat} (h : bnot (memN b l) = true) : b ∉ l := by
  cases hm : memN b l with
  | true => rw [hm] at h; cases h
  | false => exact memN_false hm
theorem beq_not {a b : Nat} (h : bnot (Nat.beq a b) = true) : a ≠ b := fun e => by
  subst e; rw [Nat.beq_refl] at h; cases h
theorem notIn_ok {b lo hi : Nat} (h : notIn b lo hi = true) : ¬ (lo ≤ b ∧ b < hi) := fun ⟨h1, h2⟩ => by
  unfold notIn at h
  rw [Nat.blt_eq.mpr h2, Nat.ble_eq.mpr h1] at h
  cases h

/-- two that may stand in either order -/
theorem conf_of {mj mi : Nat} {zj zj' zi zi' : St} {xj xi : Ev} {j i : Nat} (kj : Kind j mj zj xj zj') (ki : Kind i mi zi xi zi') (hb : Nat.testBit mi j = false) (hrs : ∀ r ∈ zj'.rs, r ∈ zi.rs)
    (hcj : zj.c ≤ zj'.c) (hji : zj'.c ≤ zi.c) (hdj : ∀ y, xj.τ.get y ≠ none → y < zj.c) (y : Nat) :
    let Wj := Wr zj.c zj'.c xj.lg y
    let Wi := Wr zi.c zi'.c xi.lg y
    let Ij := xj.τ.get y ≠ none ∨ (y ∈ xj.lg ∧ y < zj.c)
    let Ii := xi.τ.get y ≠ none ∨ (y ∈ xi.lg ∧ y < zi.c)
    (Wi → ¬ Ij) ∧ (Wj → ¬ Ii) ∧ (Wi → ¬ Wj) := by
  intro Wj Wi Ij Ii
  have one : ∀ {b ob : _} , (single b ob).get y ≠ none → y = b := fun h => by
    rw [get_single] at h
    split at h
    · rename_i e; exact e.symm
    · exact absurd rfl h
  have lgw : ∀ {b c : Nat}, y ∈ logW b c [] → y = b := fun h => by
    rw [logW_iff] at h
    rcases h with h | h
    · cases h
    · exact h.1
  have Ijc : Ij → y < zj.c := fun h => h.elim (hdj y) And.right
  have Wjc : Wj → y < zj'.c := fun h => h.elim (fun h => by omega) And.right
  cases ki with
  | none hτ hτ' hlg hrs2 hac hh hc =>
    have nW : ¬ Wi := fun h => h.elim (fun h => by rw [hlg] at h; cases h.1) fun h => by omega
    have nI : ¬ Ii := fun h => h.elim (fun h => by rw [hτ, get_e] at h; exact h rfl) fun h => by rw [hlg] at h; cases h.1
    exact ⟨fun h => absurd h nW, fun _ => nI, fun h => absurd h nW⟩
  | al ob hτ hτ' hlg hrs2 hac hh hc =>
    have nI : ¬ Ii := fun h => h.elim (fun h => by rw [hτ, get_e] at h; exact h rfl) fun h => by rw [hlg] at h; cases h.1
    have W : Wi → zi.c ≤ y := fun h => h.elim (fun h => by rw [hlg] at h; cases h.1) And.left
    exact ⟨fun h hI => by have := W h; have := Ijc hI; omega, fun _ => nI, fun h hW => by have := W h; have := Wjc hW; omega⟩
  | rd b ob hbk hτ hτ' hlg hrs2 hac hh hc hok =>
    have nW : ¬ Wi := fun h => h.elim (fun h => by rw [hlg] at h; cases h.1) fun h => by omega
    have I : Ii → y = b := fun h => h.elim (fun h => by rw [hτ] at h; exact one h) fun h => by rw [hlg] at h; cases h.1
    refine ⟨fun h => absurd h nW, fun hW hI => ?_, fun h => absurd h nW⟩
    have hyb := I hI
    subst hyb
    cases kj with
    | none hτ2 hτ2' hlg2 hrs3 hac2 hh2 hc2 => exact hW.elim (fun h => by rw [hlg2] at h; cases h.1) fun h => by omega
    | al ob2 hτ2 hτ2' hlg2 hrs3 hac2 hh2 hc2 =>
      have := beq_not (allOk_mem hok ⟨j, .al zj.c⟩ (hrs _ (by rw [hrs3]; exact List.mem_cons_self ..)) hb)
      exact hW.elim (fun h => by rw [hlg2] at h; cases h.1) fun h => by omega
    | rd b2 ob2 hbk2 hτ2 hτ2' hlg2 hrs3 hac2 hh2 hc2 hok2 => exact hW.elim (fun h => by rw [hlg2] at h; cases h.1) fun h => by omega
    | wr b2 ob2 ob2' hbk2 hτ2 hτ2' hlg2 hrs3 hac2 hh2 hc2 hok2 =>
      have := beq_not (allOk_mem hok ⟨j, .wr b2⟩ (hrs _ (by rw [hrs3]; exact List.mem_cons_self ..)) hb)
      exact hW.elim (fun h => by rw [hlg2] at h; exact this (lgw h.1)) fun h => by omega
    | cx hne2 hτ21 hτ22 ht21 ht22 hfl2 hlg2 hrs3 hac2 hok2 =>
      have := allOk_mem hok ⟨j, .cx xj.lg zj.c zj'.c⟩ (hrs _ (by rw [hrs3]; exact List.mem_cons_self ..)) hb
      obtain ⟨q1, q2⟩ := and3 this
      exact hW.elim (fun h => memN_not q1 h.1) fun h => notIn_ok q2 h
  | wr b ob ob' hbk hτ hτ' hlg hrs2 hac hh hc hok =>
    have W : Wi → y = b := fun h => h.elim (fun h => by rw [hlg] at h; exact lgw h.1) fun h => by omega
    have I : Ii → y = b := fun h => h.elim (fun h => by rw [hτ] at h; exact one h) fun h => by rw [hlg] at h; exact lgw h.1
    have key : y = b → ¬ Ij ∧ ¬ Wj := fun hyb => by
      subst hyb
      cases kj with
      | none hτ2 hτ2' hlg2 hrs3 hac2 hh2 hc2 =>
        exact ⟨fun h => h.elim (fun h => by rw [hτ2, get_e] at h; exact h rfl) fun h => (by rw [hlg2] at h; cases h.1), fun hW => hW.elim (fun h => by rw [hlg2] at h; cases h.1) fun h => by omega⟩
      | al ob2 hτ2 hτ2' hlg2 hrs3 hac2 hh2 hc2 =>
        have := beq_not (allOk_mem hok ⟨j, .al zj.c⟩ (hrs _ (by rw [hrs3]; exact List.mem_cons_self ..)) hb)
        exact ⟨fun h => h.elim (fun h => by rw [hτ2, get_e] at h; exact h rfl) fun h => (by rw [hlg2] at h; cases h.1), fun hW => hW.elim (fun h => by rw [hlg2] at h; cases h.1) fun h => by omega⟩
      | rd b2 ob2 hbk2 hτ2 hτ2' hlg2 hrs3 hac2 hh2 hc2 hok2 =>
        have := beq_not (allOk_mem hok ⟨j, .rd b2⟩ (hrs _ (by rw [hrs3]; exact List.mem_cons_self ..)) hb)
        exact ⟨fun h => h.elim (fun h => by rw [hτ2] at h; exact this (one h)) fun h => (by rw [hlg2] at h; cases h.1), fun hW => hW.elim (fun h => by rw [hlg2] at h; cases h.1) fun h => by omega⟩
      | wr b2 ob2 ob2' hbk2 hτ2 hτ2' hlg2 hrs3 hac2 hh2 hc2 hok2 =>
        have := beq_not (allOk_mem hok ⟨j, .wr b2⟩ (hrs _ (by rw [hrs3]; exact List.mem_cons_self ..)) hb)
        exact ⟨fun h => h.elim (fun h => by rw [hτ2] at h; exact this (one h)) fun h => by rw [hlg2] at h; exact this (lgw h.1), fun hW => hW.elim (fun h => by rw [hlg2] at h; exact this (lgw h.1)) fun h => by omega⟩
      | cx hne2 hτ21 hτ22 ht21 ht22 hfl2 hlg2 hrs3 hac2 hok2 =>
        have := allOk_mem hok ⟨j, .cx xj.lg zj.c zj'.c⟩ (hrs _ (by rw [hrs3]; exact List.mem_cons_self ..)) hb
        cases this
    exact ⟨fun h => (key (W h)).1, fun hW hI => (key (I hI)).2 hW, fun h => (key (W h)).2⟩
  | cx hne hτ1 hτ2 ht1 ht2 hfl hlg hrs2 hac hok =>
    cases kj with
    | none hτ3 hτ3' hlg2 hrs3 hac2 hh2 hc2 =>
      have nW : ¬ Wj := fun h => h.elim (fun h => by rw [hlg2] at h; cases h.1) fun h => by omega
      have nI : ¬ Ij := fun h => h.elim (fun h => by rw [hτ3, get_e] at h; exact h rfl) fun h => by rw [hlg2] at h; cases h.1
      exact ⟨fun _ => nI, fun h => absurd h nW, fun _ => nW⟩
    | al ob2 hτ3 hτ3' hlg2 hrs3 hac2 hh2 hc2 =>
      have hm := hrs _ (by rw [hrs3]; exact List.mem_cons_self ..)
      have hn := memN_not (allOk_mem hok ⟨j, .al zj.c⟩ hm hb)
      have hW : Wj → y = zj.c := fun h => h.elim (fun h => by rw [hlg2] at h; cases h.1) fun h => by omega
      have nI : ¬ Ij := fun h => h.elim (fun h => by rw [hτ3, get_e] at h; exact h rfl) fun h => by rw [hlg2] at h; cases h.1
      refine ⟨fun _ => nI, fun h hI => ?_, fun h h2 => ?_⟩
      · have := hW h; subst this
        exact hI.elim (fun h => h (hτ2 _ ⟨j, hm, hb⟩)) fun h => hn h.1
      · have := hW h2; subst this
        exact h.elim (fun h => hn h.1) fun h => by omega
    | rd b2 ob2 hbk2 hτ3 hτ3' hlg2 hrs3 hac2 hh2 hc2 hok2 =>
      have hn := memN_not (allOk_mem hok ⟨j, .rd b2⟩ (hrs _ (by rw [hrs3]; exact List.mem_cons_self ..)) hb)
      have nW : ¬ Wj := fun h => h.elim (fun h => by rw [hlg2] at h; cases h.1) fun h => by omega
      refine ⟨fun h hI => ?_, fun h => absurd h nW, fun _ => nW⟩
      have hyc := Ijc hI
      have hy : y = b2 := hI.elim (fun h => by rw [hτ3] at h; exact one h) fun h => by rw [hlg2] at h; cases h.1
      subst hy
      exact h.elim (fun h => hn h.1) fun h => by omega
    | wr b2 ob2 ob2' hbk2 hτ3 hτ3' hlg2 hrs3 hac2 hh2 hc2 hok2 =>
      have := allOk_mem hok ⟨j, .wr b2⟩ (hrs _ (by rw [hrs3]; exact List.mem_cons_self ..)) hb
      cases this
    | cx hne2 hτ21 hτ22 ht21 ht22 hfl2 hlg2 hrs3 hac2 hok2 =>
      have := allOk_mem hok ⟨j, .cx xj.lg zj.c zj'.c⟩ (hrs _ (by rw [hrs3]; exact List.mem_cons_self ..)) hb
      cases this
end
end Go.AE
