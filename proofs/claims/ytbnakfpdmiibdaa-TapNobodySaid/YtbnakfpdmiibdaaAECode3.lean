import Derived.Test.YtbnakfpdmiibdaaAECode2
namespace Go.AE
section
variable {E : Env} {φ φ' φ₁ : Loc} {h h' h₁ h₀ : Hs} {c c' c₁ c₀ : Nat} {w w' w₁ w₂ : World} {ts ts' : Tm} {e : Ex}

/-- a block that is new, and not spoken of, is written -/
theorem Sim.asideNew (s : Sim E φ h c w φ₁ h₁ c₁ w₁) {B : Nat} (hx : w.heap.size ≤ B) (hu : Unk φ₁ h₁.t B) (tu : Turned w₁ w₂ B) : Sim E φ h c w φ₁ h₁ c₁ w₂ :=
  ⟨s.hr.aside hu tu, s.ext, s.cle, s.dom, s.new, fun B' hB' hn => by
      rw [tu.old B' (fun e => by omega)]; exact s.fr B' hB' hn,
    ⟨tu.tape.trans s.same.tape, tu.os.trans s.same.os, tu.output.trans s.same.output, by rw [tu.size]; exact s.same.size⟩, s.fl, s.lg, s.keep⟩
theorem HR.unk (g : HR E φ h.t w) {B : Nat} (hB : w.heap.size ≤ B) : Unk φ h.t B := fun b N hb e => by
  obtain ⟨B', N', e', hlt⟩ := g.loc hb
  rw [e] at e'; cases e'; omega

theorem rangeEnd_ok {l : Nat} (g : rangeEnd l ts h c = .ok e ts' h₀ c₀) : ∃ ts0 ps as bd p, h.t.get l = some (.loop ts0 ps as bd p) ∧ ts' = ts ∧ h₀ = h.putD l none ∧ c₀ = c ∧
    ((p = 0 ∧ e = .normal) ∨ (p = 1 ∧ e = .ret) ∨ ∃ i, p = i + 2 ∧ e = .exit i) := by
  unfold rangeEnd at g
  split at g
  · rename_i ts0 ps as bd p hl
    rw [put_eq] at g
    cases p with
    | zero => cases g; exact ⟨_, _, _, _, _, hl, rfl, rfl, rfl, .inl ⟨rfl, rfl⟩⟩
    | succ q =>
      cases q with
      | zero => cases g; exact ⟨_, _, _, _, _, hl, rfl, rfl, rfl, .inr (.inl ⟨rfl, rfl⟩)⟩
      | succ i => cases g; exact ⟨_, _, _, _, _, hl, rfl, rfl, rfl, .inr (.inr ⟨i, rfl, rfl⟩)⟩
  · cases g

theorem marks_inj : ∀ (l m : List Nat), l.map mark = m.map mark → l = m
  | [], [], _ => rfl
  | [], _ :: _, h => by simp at h
  | _ :: _, [], h => by simp at h
  | x :: l, y :: m, h => by
    simp only [List.map_cons, List.cons.injEq] at h
    have h1 : x = y := by
      have := h.1
      unfold mark at this
      injection this with h1 _
      injection h1
    rw [h1, marks_inj l m h.2]

theorem range_run (T : TabOk E) {self : Self} (S : SelfOk E self) {f : Operand} {ps : Array Tmp} {as bd : Code} (g : cdRange f ps as bd E self ts h c = .ok e ts' h' c') : CodeRun E (.rangeFunc f ps as bd) ts h c e ts' h' c' := by
  unfold cdRange at g
  obtain ⟨hnr, g⟩ := guardB_ok g
  have hnr : noRange as = true ∧ noRange bd = true := by simpa using hnr
  rw [new_eq] at g
  obtain ⟨v, h₁, c₁, g, hrun⟩ := callV_ok T S g
  obtain ⟨ts0, ps0, as0, bd0, p, hlo, rfl, rfl, rfl, hp⟩ := rangeEnd_ok g
  intro φ w n b a k cs hnw ht hok hr hh hf hm
  have hr : b.roundOf = none := hr.elim id fun h => by simp [noRange] at h
  have hok' : (∀ x ∈ ps.toList, x < a.tmps.size) ∧ codeOk a.tmps.size as = true ∧ codeOk a.tmps.size bd = true := by
    have h1 : (allL (fun p => Nat.blt p a.tmps.size) ps.toList = true ∧ codeOk a.tmps.size as = true) ∧ codeOk a.tmps.size bd = true := by simpa [codeOk, and_assoc] using hok
    refine ⟨fun x hx => ?_, h1.1.2, h1.2⟩
    exact Nat.blt_eq.mp ((allL_iff _ _).1 h1.1.1 x hx)
  have hfc : φ c = none := hf c (Nat.le_refl _) rfl
  -- the two blocks
  let w0 : World := { w with heap := w.heap.push (.deferred (some [])) }
  have gr0 : Grown w w0 := grown_push w (.deferred (some [])) w.drawn
  have sI : Sim E φ h c w φ h c w0 := Sim.idle hh (fun B hB => gr0.old B hB) ⟨gr0.tape, gr0.os, gr0.output, by rw [gr0.size]; omega⟩
  let lp : Loop := { state := .ready, pending := none, fn := b.fn, tmps := a.tmps, params := ps, assign := as, body := bd, defers := w.heap.size }
  let w1 : World := { w0 with heap := w0.heap.push (.loop lp) }
  have gr1 : Grown w0 w1 := grown_push w0 (.loop lp) w0.drawn
  have hw1 : w1.heap[w0.heap.size]? = some (.loop lp) := push_last w0 (.loop lp) w0.drawn
  have hle1 := Loc.le_add φ (w0.heap.size, 0) hfc
  have sM : Sim E φ h c w0 (φ.add c (w0.heap.size, 0)) (h.newD c (.loop ts' ps.toList as bd 0)) (c + 1) w1 :=
    Sim.made sI.hr hfc gr1 ⟨w0.heap.size, 0, .ready, none, b.fn, a.tmps, w.heap.size, Loc.add_same .., hw1, ⟨rfl, rfl⟩, ht.mono hle1, hok'.2.1, hok'.2.2, hnr.1, hnr.2, hok'.1⟩
  have hent : (Instr.enterLoop b.fn a.tmps ps as bd none).run E.P w = .ok (w0.heap.size, [mark w.heap.size]) w1 := by
    unfold Instr.enterLoop
    simp only [Sem.run_bind, run_newObj, Result.andThen_ok, Sem.run_pure]
    rfl
  have hfresh1 : Fresh (φ.add c (w0.heap.size, 0)) (c + 1) c' := hf.mid (c₁ := c + 1) (Sim.trans hh (show Fresh φ c (c + 1) from hf) sI sM)
  obtain ⟨φ2, w2, u, s2, hv, hen⟩ := hrun (φ.add c (w0.heap.size, 0)) w1 (a.eval f) #[.func (.yield w0.heap.size) #[] #[]] (fat b ⟨a.tmps, mark w.heap.size :: a.defers⟩ (.inRangeFunc w0.heap.size :: k)) cs
    (VR.mono hle1 _ _ (eval_VR ht f)) (VRL_cons ⟨.yield w0.heap.size, #[], #[], rfl, ⟨_, _, Loc.add_same .., rfl⟩, VRL_nil, VRL_nil⟩ VRL_nil) sM.hr hfresh1
  have hle2 := s2.le hfresh1
  have hc2 : φ2 c = some (w0.heap.size, 0) := hle2 _ _ (Loc.add_same ..)
  obtain ⟨B, N, st, pd, fn, tmps, df, hB, hw2, hpend, _⟩ := s2.hr.obj c _ hlo
  rw [hc2] at hB; cases hB
  have hst : st ≠ .busy := by
    match p, hpend with
    | 0, h => rw [h.1]; exact fun h => by cases h
    | 1, h => rw [h.1]; exact fun h => by cases h
    | i + 2, h => rw [h.1]; exact fun h => by cases h
  have hcn : h₁.t.get c ≠ none := by rw [hlo]; simp
  have sF := Sim.forget (c := c') s2.hr c
  have uF := unk_forget s2.hr hcn hc2
  have sA : Sim E φ h c w0 φ2 (h₁.putD c none) c' w2 := Sim.trans sI.hr hf sM (Sim.trans sM.hr hfresh1 s2 sF)
  have sAll := Sim.trans hh hf sI sA
  have tu := turned_loop w2 w0.heap.size (.loop { state := .exhausted, pending := pd, fn, tmps, params := ps0.toArray, assign := as0, body := bd0, defers := df })
  have hl1 : w0.heap.size = w.heap.size + 1 := gr0.size
  have sEnd := sAll.asideNew (by omega) uF tu
  have hlt0 : w.heap.size < w0.heap.size := by omega
  obtain ⟨k1, k2⟩ := sA.unknown sI.hr hf hlt0 (fun b N hb e => hh.unk (Nat.le_refl _) b N hb e)
  have hm2 := hm.sim hh hf sAll
  refine ⟨φ2, _, ⟨a.tmps, mark w.heap.size :: a.defers⟩, sEnd, ht.mono (sAll.le hf), rfl, ?_, ?_⟩
  · obtain ⟨rs, h1, h2, h3⟩ := hm2
    obtain ⟨rs', h1', h2', h3'⟩ := hm
    have : rs = rs' := marks_inj _ _ (h1.symm.trans h1')
    subst this
    refine ⟨w.heap.size :: rs, by rw [h1]; rfl, List.nodup_cons.2 ⟨fun hm => ?_, h2⟩, fun r hr => ?_⟩
    · have := (Array.getElem?_eq_some_iff.1 (h3' _ hm).2.1).1; omega
    · rcases List.mem_cons.1 hr with rfl | hr
      · refine ⟨hnw, ?_, k2⟩
        rw [tu.old _ (by omega), k1]
        exact push_last w _ w.drawn
      · obtain ⟨q1, q2, q3⟩ := h3 r hr
        refine ⟨q1, ?_, q3⟩
        have := (Array.getElem?_eq_some_iff.1 (h3' _ hr).2.1).1
        rw [tu.old _ (by omega)]; exact q2
  · have st1 := steps_range (P := E.P) (k := k) hr hent fun caller hcal => by rw [hcal]; exact hen
    have st2 := fat_endRange (P := E.P) (b := b) (a := ⟨a.tmps, mark w.heap.size :: a.defers⟩) (k := k) (cs := cs) hw2 hst
    have st := st1.trans st2
    rcases hp with ⟨rfl, rfl⟩ | ⟨rfl, rfl⟩ | ⟨i, rfl, rfl⟩
    · have : pd = none := hpend.2
      subst this; exact st
    · have : pd = some .ret := hpend.2
      subst this; exact ⟨k, st⟩
    · have : pd = some (.exit i) := hpend.2
      subst this; exact ⟨k, st, rfl⟩

/-- one statement -/
theorem step_ok (T : TabOk E) {self : Self} (S : SelfOk E self) (hD : DrawOk E self) (hQ : QuietOk E self) : SelfOk E (fun code ts h c => step code E self ts h c) := by
  intro code ts h c e ts' h' c' g
  have g : step code E self ts h c = .ok e ts' h' c' := g
  cases code with
  | skip =>
    have g : Out.ok .normal ts h c = .ok e ts' h' c' := g
    cases g
    exact fun φ w n b a k cs _ ht _ _ hh _ hm => ⟨φ, w, a, Sim.refl hh, ht, rfl, hm, fat_skip⟩
  | label l =>
    have g : Out.ok .normal ts h c = .ok e ts' h' c' := g
    cases g
    exact fun φ w n b a k cs _ ht _ _ hh _ hm => ⟨φ, w, a, Sim.refl hh, ht, rfl, hm, fat_label⟩
  | seq a b => exact seq_run S g
  | cond x a b => exact cond_run S g
  | block id a => exact block_run S g
  | loop a =>
    have g : loopO E self a ts h c (rlOf a) = .ok e ts' h' c' := g
    cases hr : rlOf a with
    | none => rw [hr] at g; exact loop_run S g
    | some r =>
      rw [hr] at g
      have g : loopR E self a ts h c r = .ok e ts' h' c' := g
      cases hit : evalT ts r.it <;> simp only [loopR, hit] at g <;> try (cases g; done)
      rename_i b off
      cases hb : h.t.get b with
      | none => simp only [hb] at g; cases g
      | some ob =>
        cases ob <;> simp only [hb] at g <;> try (cases g; done)
        rename_i mb since seen stepped cur
        obtain ⟨es, clock, hmb, b1, b2, g2⟩ := leftOf_ok g
        have g3 : Bool.rec (motive := fun _ => Out) (seqK self (.loop a) (self a ts h c)) (quietLoop E self a r b mb since seen ts h c (unseen seen es) clock) (Nat.blt 1 (lenL (unseen seen es))) = .ok e ts' h' c' := g2
        cases hlen : Nat.blt 1 (lenL (unseen seen es)) with
        | false => rw [hlen] at g3; exact loop_run S g3
        | true =>
          rw [hlen] at g3
          refine hQ a r b mb since seen stepped cur off [] 0 ts h c e ts' h' c' hr hit hb ?_
          have : leftOf mb since seen stepped h (fun l cl => quietLoop E self a r b mb since seen ts h c l cl) = quietLoop E self a r b mb since seen ts h c (unseen seen es) clock := by
            unfold leftOf at g ⊢
            rw [hmb] at g ⊢
            obtain ⟨q1, g⟩ := guardB_ok g
            obtain ⟨q2, g⟩ := guardB_ok g
            show guardB _ _ (guardB _ _ _) = _
            rw [q1, q2]; rfl
          rw [this]; exact g3
  | scope a => exact scope_run S g
  | exit id =>
    have g : Out.ok (.exit id) ts h c = .ok e ts' h' c' := g
    cases g
    exact fun φ w n b a k cs _ ht _ _ hh _ hm => ⟨φ, w, a, Sim.refl hh, ht, rfl, hm, k, Steps.refl .., rfl⟩
  | ret =>
    have g : Out.ok .ret ts h c = .ok e ts' h' c' := g
    cases g
    exact fun φ w n b a k cs _ ht _ _ hh _ hm => ⟨φ, w, a, Sim.refl hh, ht, rfl, hm, k, Steps.refl ..⟩
  | region id ops draw =>
    cases draw with
    | false => exact region_run T S g
    | true => exact hD ops ts h c e ts' h' c' g id
  | rangeFunc f ps as bd => exact range_run T S g
  | goto l => cases g
  | refuse w => cases g
end
end Go.AE
