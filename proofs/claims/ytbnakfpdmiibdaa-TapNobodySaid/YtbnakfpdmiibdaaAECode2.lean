import Derived.Test.YtbnakfpdmiibdaaAECode
namespace Go.AE
section
variable {E : Env} {φ φ' φ₁ : Loc} {h h' h₁ h₀ : Hs} {c c' c₁ c₀ : Nat} {w w' w₁ w₂ : World} {ts ts' : Tm} {e : Ex}

theorem boolOf_ok {v : AV} {K : Bool → Hs → Out} (g : boolOf v h K = .ok e ts' h₀ c₀) : ∃ b, v = .bool b ∧ K b h = .ok e ts' h₀ c₀ := by
  cases v <;> try (cases g; done)
  rename_i b
  have g : forceB b (fun b => K b h) = .ok e ts' h₀ c₀ := g
  rw [forceB_eq] at g
  exact ⟨b, rfl, g⟩
theorem cond_run {self : Self} (S : SelfOk E self) {x : Operand} {a b : Code} (g : cdCond x a b E self ts h c = .ok e ts' h' c') : CodeRun E (.cond x a b) ts h c e ts' h' c' := by
  obtain ⟨t, hx, g⟩ := boolOf_ok (show boolOf (evalO x ts) h (condK self a b ts c) = .ok e ts' h' c' from g)
  intro φ w n bf act k cs hnw ht hok hr hh hf hm
  have hv := eval_VR ht x
  rw [hx] at hv; simp only [VR] at hv
  have hok' : codeOk act.tmps.size a = true ∧ codeOk act.tmps.size b = true := by simpa [codeOk] using hok
  have hstep := fat_cond (P := E.P) (b := bf) (a := act) (k := k) (cs := cs) (w := w) (x := a) (y := b) hv
  cases t with
  | true =>
    obtain ⟨φ₁, w₁, a₁, q1, q2, q3, q4, q5⟩ := S _ _ _ _ _ _ _ _ (show self a ts h c = .ok e ts' h' c' from g) φ w n bf act k cs hnw ht hok'.1 (hr.imp id fun h => by
      have h : noRange a = true ∧ noRange b = true := by simpa [noRange] using h
      exact h.1) hh hf hm
    exact ⟨φ₁, w₁, a₁, q1, q2, q3, q4, Arr.pre hstep q5⟩
  | false =>
    obtain ⟨φ₁, w₁, a₁, q1, q2, q3, q4, q5⟩ := S _ _ _ _ _ _ _ _ (show self b ts h c = .ok e ts' h' c' from g) φ w n bf act k cs hnw ht hok'.2 (hr.imp id fun h => by
      have h : noRange a = true ∧ noRange b = true := by simpa [noRange] using h
      exact h.2) hh hf hm
    exact ⟨φ₁, w₁, a₁, q1, q2, q3, q4, Arr.pre hstep q5⟩
theorem scope_run {self : Self} (S : SelfOk E self) {a : Code} (g : self a ts h c = .ok e ts' h' c') : CodeRun E (.scope a) ts h c e ts' h' c' := by
  intro φ w n bf act k cs hnw ht hok hr hh hf hm
  obtain ⟨φ₁, w₁, a₁, q1, q2, q3, q4, q5⟩ := S _ _ _ _ _ _ _ _ g φ w n bf act (.inScope a :: k) cs hnw ht (by simpa [codeOk] using hok) (hr.imp id fun h => by simpa [noRange] using h) hh hf hm
  refine ⟨φ₁, w₁, a₁, q1, q2, q3, q4, ?_⟩
  cases e with
  | normal => exact Steps.trans fat_scope (Steps.trans q5 fat_inScope)
  | exit i => obtain ⟨k2, q5, q6⟩ := q5; exact ⟨k2, fat_scope.trans q5, q6.trans (by simp [exitTo])⟩
  | ret => obtain ⟨k2, q5⟩ := q5; exact ⟨k2, fat_scope.trans q5⟩
theorem region_run (T : TabOk E) {self : Self} (S : SelfOk E self) {id : Nat} {ops : Array Oper} (g : evOps E self ops.toList ops.toList ts h c = .ok e ts' h' c') : CodeRun E (.region id ops false) ts h c e ts' h' c' := by
  intro φ w n bf act k cs hnw ht hok hr hh hf hm
  have hok' : ∀ o ∈ ops.toList, dstOk act.tmps.size o = true := (allL_iff _ _).1 hok
  obtain ⟨rfl, φ₁, w₁, a₁, q1, q2, q3, q4, q5⟩ := evOps_ok T S n bf k cs ops.toList 0 ts h c e ts' h' c' φ w act rfl g hnw ht hok' hh hf hm
  refine ⟨φ₁, w₁, a₁, q1, q2, q3, q4, Steps.trans fat_region ?_⟩
  rw [List.range_eq_range']
  simpa using q5

/-! ### range over a function -/
theorem fat_endRange {P : Program} {b : Frame} {a : Act} {k : List Item} {cs : List Frame} {B : Nat} {r : Loop} (hw : w.heap[B]? = some (.loop r)) (hs : r.state ≠ .busy) :
    Steps P (lone (fat b a (.endRangeFunc B :: k)) cs w) (lone (fat b a ((r.pending.map Item.code).toList ++ k)) cs { w with heap := w.heap.setIfInBounds B (.loop { r with state := .exhausted }) }) := by
  refine .one (step_lone_go ?_)
  have h1 : (Instr.endLoop B).run P w = .ok r.pending { w with heap := w.heap.setIfInBounds B (.loop { r with state := .exhausted }) } := by
    unfold Instr.endLoop
    have hb : (r.state == .busy) = false := by cases hst : r.state <;> first | rfl | exact absurd hst hs
    simp only [Sem.run_bind, run_getLoop' hw, Result.andThen_ok, hb, Bool.false_eq_true, if_false, run_setLoop _ hw, Sem.run_pure]
  simp only [stepG, stepG.exec, fat]
  simp [h1]

theorem apply_enter {P : Program} {b : Frame} {a : Act} {k : List Item} {cs : List Frame} {l : Nat} {s : Sem Next} {f : FuncId} {args : Array Value} (h : s.run P w = .ok (.enter f args) w') :
    (stepG.apply P true (fat b a (.inRangeFunc l :: k)) cs none s w).bare = .go { frame := Frame.enter P f args .normal, callers := fat b a (.inRangeFunc l :: k) :: cs, status := .running, dying := none } w' := by
  simp [stepG.apply, h, fat]
theorem apply_round {P : Program} {b : Frame} {a : Act} {k : List Item} {cs : List Frame} {l l' : Nat} {s : Sem Next} {f : FuncId} {tmps : Array Value} {as bd : Code} (h : s.run P w = .ok (.round l' f tmps as bd) w') :
    (stepG.apply P true (fat b a (.inRangeFunc l :: k)) cs none s w).bare = .go { frame := Frame.round l' f tmps as bd .normal, callers := fat b a (.inRangeFunc l :: k) :: cs, status := .running, dying := none } w' := by
  simp [stepG.apply, h]
theorem steps_range {P : Program} {b : Frame} {a : Act} {k : List Item} {cs : List Frame} {f : Operand} {ps : Array Tmp} {as bd : Code} {u : Value} {w1 w2 : World} {r l : Nat} (hr : b.roundOf = none)
    (hent : (Instr.enterLoop b.fn a.tmps ps as bd none).run P w = .ok (l, [mark r]) w1)
    (hen : ∀ caller, caller = fat b ⟨a.tmps, mark r :: a.defers⟩ (.inRangeFunc l :: k) → Enters P (do let d ← Deferred.ofValue (a.eval f) #[.func (.yield l) #[] #[]]; invoke d.target d.args) w1 caller cs u w2) :
    Steps P (lone (fat b a (.code (.rangeFunc f ps as bd) :: k)) cs w) (lone (fat b ⟨a.tmps, mark r :: a.defers⟩ (.endRangeFunc l :: k)) cs w2) := by
  obtain ⟨nx, hrun, hst⟩ := hen _ rfl
  have hev : (fat b ⟨a.tmps, mark r :: a.defers⟩ (.inRangeFunc l :: k)).eval f = a.eval f := by rw [fat_eval]; cases f <;> rfl
  have hfin : (fat b ⟨a.tmps, mark r :: a.defers⟩ (.inRangeFunc l :: k)).finish u = fat b ⟨a.tmps, mark r :: a.defers⟩ (.endRangeFunc l :: k) := rfl
  rw [hfin] at hst
  have hsem : (do let d ← resolve (fat b ⟨a.tmps, mark r :: a.defers⟩ (.inRangeFunc l :: k)).eval { callee := .value f, args := #[.const (.func (.yield l) #[] #[])], argTypes := #[] } 0; invoke d.target d.args : Sem Next).run P w1 = .ok nx w1 := by
    have : resolve (fat b ⟨a.tmps, mark r :: a.defers⟩ (.inRangeFunc l :: k)).eval { callee := .value f, args := #[.const (.func (.yield l) #[] #[])], argTypes := #[] } 0 = Deferred.ofValue (a.eval f) #[.func (.yield l) #[] #[]] := by
      unfold resolve
      simp [hev, fat_eval]
      rfl
    rw [this]; exact hrun
  have hres : ∀ fr', (stepG.apply P true (fat b ⟨a.tmps, mark r :: a.defers⟩ (.inRangeFunc l :: k)) cs none (do let d ← resolve (fat b ⟨a.tmps, mark r :: a.defers⟩ (.inRangeFunc l :: k)).eval { callee := .value f, args := #[.const (.func (.yield l) #[] #[])], argTypes := #[] } 0; invoke d.target d.args) w1).bare = fr' →
      (stepG P true { frame := fat b a (.code (.rangeFunc f ps as bd) :: k), callers := cs, status := .running, dying := none } w).bare = fr' := by
    intro fr' h
    simp only [stepG, stepG.exec, fat, hr] at h ⊢
    simp [hent]
    exact h
  rcases hst with ⟨g', args, rfl, hst⟩ | ⟨l', g', tmps, as', bd', rfl, hst⟩
  · exact .head (step_lone_go (hres _ (apply_enter hsem))) hst
  · exact .head (step_lone_go (hres _ (apply_round hsem))) hst
end
end Go.AE
