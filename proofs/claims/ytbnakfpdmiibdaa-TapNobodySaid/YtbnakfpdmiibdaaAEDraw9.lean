import Derived.Test.YtbnakfpdmiibdaaAEDraw8
namespace Go.AE
section
variable {E : Env} {φ φ' φ₀ : Loc} {h h' h₁ h₀ h1 : Hs} {c c' c₁ c₀ b m i : Nat} {w w' : World} {ts ts' ts1 : Tm} {e ex : Ex} {rs : List Rc} {o : Oper} {a : Act} {ops : Array Oper} {N : Nat} {z z' : St} {x : Ev}

theorem chain_rs {Z : Nat → St} {X : Nat → Ev} {M : Nat → Nat} {n : Nat} (hk : ∀ k, k < n → Kind k (M k) (Z k) (X k) (Z (k + 1))) : ∀ j i, j ≤ i → i ≤ n → ∀ r ∈ (Z j).rs, r ∈ (Z i).rs
  | j, 0, h, _, r, hr => by obtain rfl : j = 0 := by omega
                            exact hr
  | j, i + 1, h, hi, r, hr => by
    by_cases e : j = i + 1
    · subst e; exact hr
    · exact (hk i (by omega)).rsMono r (chain_rs hk j i (by omega) (by omega) r hr)
theorem chain_fl {Z : Nat → St} {X : Nat → Ev} {M : Nat → Nat} {n : Nat} (hk : ∀ k, k < n → Kind k (M k) (Z k) (X k) (Z (k + 1))) : ∀ i, i ≤ n → (Z i).h.fl = (Z 0).h.fl
  | 0, _ => rfl
  | i + 1, hi => (hk i (by omega)).fl.trans (chain_fl hk i (by omega))
theorem chain_log {Z : Nat → St} {X : Nat → Ev} {M : Nat → Nat} {n : Nat} (hk : ∀ k, k < n → Kind k (M k) (Z k) (X k) (Z (k + 1))) (y : Nat) : ∀ j i, j ≤ i → i ≤ n → (y ∈ (Z j).h.lg ∨ y ∈ (Z j).acc) → (y ∈ (Z i).h.lg ∨ y ∈ (Z i).acc)
  | j, 0, h, _, hy => by obtain rfl : j = 0 := by omega
                         exact hy
  | j, i + 1, h, hi, hy => by
    by_cases e : j = i + 1
    · subst e; exact hy
    · exact (hk i (by omega)).logMono y (chain_log hk y j i (by omega) (by omega) hy)

theorem draw_ok (T : TabOk E) {self : Self} (S : SelfOk E self) : DrawOk E self := by
  intro ops ts h c e ts' h' c' g id φ w n b a k cs hnw ht hok hr hh hf hm
  unfold evDraw at g
  obtain ⟨_, g⟩ := guardB_ok g
  obtain ⟨hap, g⟩ := guardB_ok g
  have hd : ∀ o ∈ ops.toList, dstOk a.tmps.size o = true := (allL_iff _ _).1 hok
  have q0 : SeqOk E a.tmps.size ⟨[], [], ts, ⟨h.t, c, []⟩, c⟩ := ⟨φ, w, a, rfl, ht, hh, hf⟩
  obtain ⟨Z, X, hZ0, hq, hfin, hst⟩ := evOpsD_ok T S hd ops.toList 0 (preds ops.toList []) ⟨[], [], ts, ⟨h.t, c, []⟩, c⟩ (by simp) q0 g
  have hlen : 0 + ops.toList.length = ops.size := by simp
  rw [hlen] at hfin
  simp only [forceL_eq] at hfin
  injection hfin with he hts hhs hcs
  obtain ⟨r, hr1, hr2, hr3⟩ := preds_ok ops.toList []
  rw [List.nil_append] at hr1
  -- the operations, one by one
  have hop : ∀ i, i < ops.size → ops[i]? = some ((ops[i]?).getD default) := fun i hi => by rw [Array.getElem?_eq_getElem hi]; rfl
  have each : ∀ i, i < ops.size → r[i]?.getD 0 < 2 ^ i ∧ StepF E ops a.tmps.size i (r[i]?.getD 0) (Z i) (X i) (Z (i + 1)) ∧ Facts (Z i) (X i) (Z (i + 1)) := fun i hi => by
    obtain ⟨m, h1, h2, h3, h4⟩ := hst i (Nat.zero_le _) (by rw [hlen]; exact hi)
    rw [Nat.sub_zero, hr1] at h1
    rw [h1]; exact ⟨h2, h3, h4⟩
  have kinds : ∀ i, i < ops.size → Kind i (r[i]?.getD 0) (Z i) (X i) (Z (i + 1)) := fun i hi => by
    obtain ⟨_, ⟨o, _, _, hk, _⟩, _⟩ := each i hi; exact hk
  have hq : ∀ i, i ≤ ops.size → SeqOk E a.tmps.size (Z i) := fun i hi => hq i (Nat.zero_le _) (by rw [hlen]; exact hi)
  have hr4 : ∀ i, i < ops.size → r[i]?.getD 0 = predsGo ((ops[i]?).getD default).after.toList (r.take i) := fun i hi => by
    have := hr3 i ((ops[i]?).getD default) (by rw [Array.getElem?_toList]; exact hop i hi)
    rw [this]; simp
  let p : Plan := { op := fun i => (ops[i]?).getD default, TS := fun i => (Z i).ts, H := fun i => (Z i).h.t, C := fun i => (Z i).c, v := fun i => (X i).v, τ := fun i => (X i).τ, τ' := fun i => (X i).τ', lg := fun i => (X i).lg, pre := fun i j => Nat.testBit (r[i]?.getD 0) j = true }
  have ok : p.Ok E ops a.tmps.size ops.size := by
    have hC : ∀ i, i < ops.size → p.C i ≤ p.C (i + 1) := fun i hi => (each i hi).2.2.cle
    have dstep : ∀ i, i < ops.size → ∀ t, evalT (p.TS (i + 1)) t = if (p.op i).dst = some t then p.v i else evalT (p.TS i) t := fun i hi t => by
      obtain ⟨_, ⟨o, ho, hts, _, _⟩, _⟩ := each i hi
      have hoi : p.op i = o := by show (ops[i]?).getD default = o; rw [ho]; rfl
      show evalT (Z (i + 1)).ts t = if (p.op i).dst = some t then (X i).v else evalT (Z i).ts t
      rw [hts, hoi]
      unfold putT
      cases hdo : o.dst with
      | none => rw [if_neg (by simp)]
      | some d =>
        show evalT ((Z i).ts.set d (some (X i).v)) t = _
        rw [evalT_set]
        by_cases hdt : d = t
        · subst hdt; rw [if_pos rfl, if_pos rfl]
        · rw [if_neg hdt, if_neg (by simpa using hdt)]
    refine ⟨hC, fun i hi => (each i hi).2.2.τH, fun i hi y hy => (hq i hi).dom hy, fun i hi => (each i hi).2.2.h1, fun i hi => (each i hi).2.2.h0, fun i hi t hw => (dstep i hi t).trans (if_pos hw), fun i hi t hw => (dstep i hi t).trans (if_neg hw),
      fun j i hji hi hp y => ?_, fun j i hji hi hp t => ?_, fun i hi => hd _ (List.mem_of_getElem? (i := i) (by rw [Array.getElem?_toList]; exact hop i hi)), fun i hi => ?_, fun i hi t => ?_, fun i hi y o hy => ?_⟩
    · have hb : Nat.testBit (r[i]?.getD 0) j = false := by
        cases hx : Nat.testBit (r[i]?.getD 0) j with
        | true => exact absurd hx hp
        | false => rfl
      have hcji : (Z (j + 1)).c ≤ (Z i).c := Plan.C_le hC (j + 1) i (by omega) (by omega)
      exact conf_of (kinds j (by omega)) (kinds i hi) hb (chain_rs kinds (j + 1) i (by omega) (by omega)) (hC j (by omega)) hcji (fun y hy => (hq j (by omega)).dom fun h => by
        cases ex : (X j).τ.get y with
        | none => exact hy ex
        | some ob => rw [(each j (by omega)).2.2.τH y ob ex] at h; cases h) y
    · have hb : Nat.testBit (r[i]?.getD 0) j = false := by
        cases hx : Nat.testBit (r[i]?.getD 0) j with
        | true => exact absurd hx hp
        | false => rfl
      have hmi : (preds ops.toList [])[i]? = some (r[i]?.getD 0) := by
        rw [hr1]
        rw [List.getElem?_eq_getElem (by rw [hr2]; simpa using hi)]; rfl
      have h1 := apartAll_ok hap i (p.op i) _ (by rw [Array.getElem?_toList]; exact hop i hi) hmi
      rw [List.nil_append] at h1
      obtain ⟨q1, q2, q3⟩ := apartA_ok h1 j (p.op j) (by rw [List.getElem?_take_of_lt hji, Array.getElem?_toList]; exact hop j (by omega)) (by rw [Nat.zero_add]; exact hb)
      exact ⟨fun hw => q2 t hw, fun hw => q3 t hw, fun hw hw2 => q1 t hw2 hw⟩
    · obtain ⟨_, ⟨o, ho, _, _, hrun⟩, _⟩ := each i hi
      have hoi : p.op i = o := by show (ops[i]?).getD default = o; rw [ho]; rfl
      intro φ a hN hl
      rw [hoi] at hl ⊢
      exact hrun φ a hN hl
    · obtain ⟨ψ, w2, a2, _, ht2, _, hf2⟩ := hq i (by omega)
      exact ⟨ψ, _, hf2, ht2 t⟩
    · obtain ⟨ψ, w2, a2, _, _, hh2, hf2⟩ := hq i (by omega)
      exact ⟨ψ, w2, hf2, hh2.obj y o hy⟩
  have P1 : ∀ i, i < ops.size → ∀ j, p.pre i j → ∃ e ∈ (p.op i).after, Region.binds .any e = true ∧ (j = e.on ∨ (e.on < i ∧ p.pre e.on j)) := fun i hi j hp => by
    have hp : Nat.testBit (r[i]?.getD 0) j = true := hp
    rw [hr4 i hi, predsGo_bit] at hp
    obtain ⟨ed, h1, h2, h3⟩ := hp
    refine ⟨ed, Array.mem_def.2 h1, h2, h3.imp (fun h => h) fun ⟨m, hm, hb⟩ => ?_⟩
    rw [List.getElem?_take] at hm
    split at hm
    · rename_i hlt
      exact ⟨hlt, by show Nat.testBit (r[ed.on]?.getD 0) j = true; rw [hm]; exact hb⟩
    · cases hm
  have P2 : ∀ i, i < ops.size → ∀ e ∈ (p.op i).after, Region.binds .any e = true → e.on < i := fun i hi ed hed hb => by
    have : Nat.testBit (r[i]?.getD 0) ed.on = true := by
      rw [hr4 i hi, predsGo_bit]
      exact ⟨ed, Array.mem_def.1 hed, hb, .inl rfl⟩
    apply Nat.lt_of_not_le
    intro hle
    rw [Nat.testBit_lt_two_pow (Nat.lt_of_lt_of_le (each i hi).1 (Nat.pow_le_pow_right (by omega) hle))] at this
    cases this
  have e0 : p.H 0 = h.t := by show (Z 0).h.t = _; rw [hZ0]
  have c0 : p.C 0 = c := by show (Z 0).c = _; rw [hZ0]
  have t0 : p.TS 0 = ts := by show (Z 0).ts = _; rw [hZ0]
  have hff : Fresh φ (p.C 0) 0 := by rw [c0]; exact hf
  have inv0 := Plan.Inv.start (w₀ := { w with drawn := w.drawn + 1 }) (S := Ls (Array.replicate ops.size false)) ok rfl (by rw [t0]; exact ht) (by rw [e0]; exact hh.draw) hff (fun i hl => by
    unfold Ls at hl
    rw [Array.getD_eq_getD_getElem?, Array.getElem?_replicate] at hl
    split at hl <;> cases hl)
  obtain ⟨Sd, φ', w', a', hall, inv, hsteps⟩ := inv0.sched ok hop P1 P2 b k cs ops.size (w.tape w.drawn (.order b.fn id)) (Array.replicate ops.size false) _ _ _ (by simp) (by
    have := List.length_filter_le (fun j => !(Array.replicate ops.size false).getD j false) (List.range ops.size)
    rw [List.length_range] at this; exact this) (fun j _ hl => by
    unfold Ls at hl
    rw [Array.getD_eq_getD_getElem?, Array.getElem?_replicate] at hl
    split at hl <;> cases hl)
  obtain ⟨hsim, htr⟩ := inv.done ok hall hff (fl := h.fl) (lg := h.lg) (lg' := logAll (appLog (Z ops.size).h.lg (Z ops.size).acc) h.fl h.lg) (fun x hx => (logAll_iff ..).2 (.inl hx)) (fun j hj y hy hyc hyf => (logAll_iff ..).2 (.inr ⟨(appLog_iff ..).2 (chain_log kinds y (j + 1) ops.size (by omega) (Nat.le_refl _) ((kinds j hj).logNew y hy (by
      rw [chain_fl kinds j (by omega), hZ0]
      show y < c
      rw [← c0]; exact hyc))), hyf⟩)) (by rw [e0]; exact hh.draw)
  subst he; subst hts; subst hhs; subst hcs
  have hs2 : Sim E φ h c w φ' ⟨(Z ops.size).h.t, h.fl, logAll (appLog (Z ops.size).h.lg (Z ops.size).acc) h.fl h.lg⟩ (Z ops.size).c w' := by
    rw [e0, c0] at hsim
    exact Sim.draw hsim
  refine ⟨φ', w', a', hs2, htr, inv.size, ?_, ?_⟩
  · rw [inv.defers]; exact hm.sim hh hf hs2
  · refine Steps.trans (fat_region_draw (id := id)) ?_
    have hsch : Region.schedule (E.P.follows .mixedOrders) ops (w.tape w.drawn (.order b.fn id)) = Region.linearise.go .any ops ops.size (w.tape w.drawn (.order b.fn id)) (Array.replicate ops.size false) [] := by
      simp only [Region.schedule, T.mixed, Bool.true_or, if_true]
      rfl
    rw [hsch]
    exact hsteps
end
end Go.AE
