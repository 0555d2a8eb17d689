import Derived.Test.YtbnakfpdmiibdaaAEExec
namespace Go.AE
section
variable {E : Env} {φ φ' φ₁ : Loc} {h h' h₁ h₀ : Hs} {c c' c₁ c₀ : Nat} {w w' w₁ w₂ : World} {ts ts' : Tm} {e : Ex}

/-- a region that draws its order -/
def DrawOk (E : Env) (self : Self) : Prop := ∀ (ops : Array Oper) (ts : Tm) (h : Hs) (c : Nat) (e : Ex) (ts' : Tm) (h' : Hs) (c' : Nat), evDraw E self ops.toList ts h c = .ok e ts' h' c' →
  ∀ (id : Nat), CodeRun E (.region id ops true) ts h c e ts' h' c'
/-- a loop over a map, of which more than one entry is left -/
def QuietOk (E : Env) (self : Self) : Prop := ∀ (a : Code) (r : Rl) (b mb since : Nat) (seen : List Nat) (stepped : Nat) (cur : Option Nat) (o : Nat) (left : List Ent) (clock : Nat) (ts : Tm) (h : Hs) (c : Nat) (e : Ex) (ts' : Tm) (h' : Hs) (c' : Nat),
  rlOf a = some r → evalT ts r.it = .ptr b o → h.t.get b = some (.miter mb since seen stepped cur) → leftOf mb since seen stepped h (fun l cl => quietLoop E self a r b mb since seen ts h c l cl) = .ok e ts' h' c' → CodeRun E (.loop a) ts h c e ts' h' c'

theorem CodeRun.go {code x : Code} (h1 : codeOk = codeOk) (hc : ∀ n, codeOk n code = true → codeOk n x = true) (hn : noRange code = true → noRange x = true)
    (hs : ∀ {b : Frame} {a : Act} {k : List Item} {cs : List Frame} {w : World}, Steps E.P (lone (fat b a (.code code :: k)) cs w) (lone (fat b a (.code x :: k)) cs w)) (r : CodeRun E x ts h c e ts' h' c') : CodeRun E code ts h c e ts' h' c' := by
  intro φ w n b a k cs hnw ht hok hr hh hf hm
  obtain ⟨φ', w', a', q1, q2, q3, q4, q5⟩ := r φ w n b a k cs hnw ht (hc _ hok) (hr.imp id hn) hh hf hm
  refine ⟨φ', w', a', q1, q2, q3, q4, ?_⟩
  cases e with
  | normal => exact hs.trans q5
  | exit id => obtain ⟨k2, q5, q6⟩ := q5; exact ⟨k2, hs.trans q5, q6⟩
  | ret => obtain ⟨k2, q5⟩ := q5; exact ⟨k2, hs.trans q5⟩

/-- a code ahead of what is still to be done -/
theorem CodeRun.ahead {x : Code} {todo : List Item} {P : Frame → Act → List Item → Prop} {b : Frame} {a : Act} {k : List Item} {cs : List Frame} {m : Machine} {e1 : Ex} {ts1 : Tm}
    (hs : Steps E.P m (lone (fat b a (.code x :: todo)) cs w)) {a' : Act} (ha : Arr E.P (lone (fat b a (.code x :: todo)) cs w) b a' todo cs w' e1) : Arr E.P m b a' todo cs w' e1 := by
  cases e1 with
  | normal => exact hs.trans ha
  | exit id => obtain ⟨k2, q5, q6⟩ := ha; exact ⟨k2, hs.trans q5, q6⟩
  | ret => obtain ⟨k2, q5⟩ := ha; exact ⟨k2, hs.trans q5⟩
theorem Arr.pre {P : Program} {m m1 : Machine} {b : Frame} {a' : Act} {k : List Item} {cs : List Frame} {e1 : Ex} (hs : Steps P m m1) (ha : Arr P m1 b a' k cs w' e1) : Arr P m b a' k cs w' e1 := by
  cases e1 with
  | normal => exact hs.trans ha
  | exit id => obtain ⟨k2, q5, q6⟩ := ha; exact ⟨k2, hs.trans q5, q6⟩
  | ret => obtain ⟨k2, q5⟩ := ha; exact ⟨k2, hs.trans q5⟩
/-- a jump passes an item that it does not stop at -/
theorem Arr.out {P : Program} {m : Machine} {b : Frame} {a' : Act} {k : List Item} {x : Item} {cs : List Frame} {e1 : Ex} (hx : ∀ id, exitTo id (x :: k) = exitTo id k) (hn : e1 ≠ .normal) (ha : Arr P m b a' (x :: k) cs w' e1) : Arr P m b a' k cs w' e1 := by
  cases e1 with
  | normal => exact absurd rfl hn
  | exit id => obtain ⟨k2, q5, q6⟩ := ha; exact ⟨k2, q5, q6.trans (hx id)⟩
  | ret => exact ha

/-- one code behind another -/
theorem run_two {a b : Code} {ts1 : Tm} {e1 : Ex} {x : Item} (hx : ∀ k id, exitTo id (x :: k) = exitTo id k) {code : Code}
    (hs : ∀ {P : Program} {bf : Frame} {act : Act} {k : List Item} {cs : List Frame} {w : World}, Steps P (lone (fat bf act (.code code :: k)) cs w) (lone (fat bf act (.code a :: x :: k)) cs w))
    (hb : ∀ {P : Program} {bf : Frame} {act : Act} {k : List Item} {cs : List Frame} {w : World}, Steps P (lone (fat bf act (x :: k)) cs w) (lone (fat bf act (.code b :: k)) cs w))
    (ca : ∀ n, codeOk n code = true → codeOk n a = true ∧ codeOk n b = true) (na : noRange code = true → noRange a = true ∧ noRange b = true)
    (r1 : CodeRun E a ts h c e1 ts1 h₁ c₁) (r2 : e1 = .normal → CodeRun E b ts1 h₁ c₁ e ts' h' c') (r3 : e1 ≠ .normal → e = e1 ∧ ts' = ts1 ∧ h' = h₁ ∧ c' = c₁) : CodeRun E code ts h c e ts' h' c' := by
  intro φ w n bf act k cs hnw ht hok hr hh hf hm
  obtain ⟨φ₁, w₁, a₁, q1, q2, q3, q4, q5⟩ := r1 φ w n bf act (x :: k) cs hnw ht (ca _ hok).1 (hr.imp id fun h => (na h).1) hh hf hm
  by_cases he : e1 = .normal
  · subst he
    obtain ⟨φ₂, w₂, a₂, p1, p2, p3, p4, p5⟩ := r2 rfl φ₁ w₁ n bf a₁ k cs (Nat.le_trans hnw q1.same.size) q2 (by rw [q3]; exact (ca _ hok).2) (hr.imp id fun h => (na h).2) q1.hr (hf.mid q1) q4
    exact ⟨φ₂, w₂, a₂, Sim.trans hh hf q1 p1, p2, p3.trans q3, p4, Arr.pre (hs.trans (Steps.trans q5 hb)) p5⟩
  · obtain ⟨rfl, rfl, rfl, rfl⟩ := r3 he
    exact ⟨φ₁, w₁, a₁, q1, q2, q3, q4, Arr.out (hx k) he (Arr.pre hs q5)⟩

theorem seqK_ok {self : Self} {b : Code} {o : Out} (g : seqK self b o = .ok e ts' h₀ c₀) : ∃ e1 ts1 h1 c1, o = .ok e1 ts1 h1 c1 ∧ (e1 = .normal → self b ts1 h1 c1 = .ok e ts' h₀ c₀) ∧ (e1 ≠ .normal → e = e1 ∧ ts' = ts1 ∧ h₀ = h1 ∧ c₀ = c1) := by
  cases o with
  | bad n => cases g
  | ok e1 ts1 h1 c1 =>
    refine ⟨e1, ts1, h1, c1, rfl, fun he => ?_, fun he => ?_⟩
    · subst he; exact g
    · cases e1 with
      | normal => exact absurd rfl he
      | exit i => cases g; exact ⟨rfl, rfl, rfl, rfl⟩
      | ret => cases g; exact ⟨rfl, rfl, rfl, rfl⟩

theorem seq_run {self : Self} (S : SelfOk E self) {a b : Code} (g : cdSeq a b E self ts h c = .ok e ts' h' c') : CodeRun E (.seq a b) ts h c e ts' h' c' := by
  obtain ⟨e1, ts1, h1, c1, ho, g1, g2⟩ := seqK_ok (show seqK self b (self a ts h c) = .ok e ts' h' c' from g)
  refine run_two (x := .code b) (fun k id => by simp [exitTo]) fat_seq (Steps.refl ..) (fun n hn => ?_) (fun hn => ?_) (S _ _ _ _ _ _ _ _ ho) (fun he => S _ _ _ _ _ _ _ _ (g1 he)) g2
  · simpa [codeOk] using hn
  · simpa [noRange] using hn
theorem steps_tail {P : Program} {m m1 m' : Machine} (h : Steps P m m') (hne : m ≠ m') (hs : Go.step P m = .next m1) : Steps P m1 m' := by
  obtain ⟨n, hn⟩ := h
  cases n with
  | zero => simp only [runN] at hn; cases hn; exact absurd rfl hne
  | succ n => simp only [runN, hs] at hn; exact ⟨n, hn⟩
theorem step_fat_loop {P : Program} {b : Frame} {a : Act} {k : List Item} {cs : List Frame} {c : Code} : Go.step P (lone (fat b a (.code (.loop c) :: k)) cs w) = .next (lone (fat b a (.code c :: .inLoop c :: k)) cs w) :=
  step_lone_go (by simp [stepG, stepG.exec, fat])
theorem lone_todo {b b' : Frame} {a a' : Act} {t t' : List Item} {cs cs' : List Frame} (h : lone (fat b a t) cs w = lone (fat b' a' t') cs' w') : t = t' := by
  simp only [lone, fat] at h
  injection h with h1 h2 h3
  simp at h2
  exact h2.1.2.2.1
/-- a loop, one round at a time -/
theorem loop_run {self : Self} (S : SelfOk E self) {a : Code} (g : seqK self (.loop a) (self a ts h c) = .ok e ts' h' c') : CodeRun E (.loop a) ts h c e ts' h' c' := by
  obtain ⟨e1, ts1, h1, c1, ho, g1, g2⟩ := seqK_ok g
  intro φ w n bf act k cs hnw ht hok hr hh hf hm
  obtain ⟨φ₁, w₁, a₁, q1, q2, q3, q4, q5⟩ := S _ _ _ _ _ _ _ _ ho φ w n bf act (.inLoop a :: k) cs hnw ht (by simpa [codeOk] using hok) (hr.imp id fun h => by simpa [noRange] using h) hh hf hm
  by_cases he : e1 = .normal
  · subst he
    obtain ⟨φ₂, w₂, a₂, p1, p2, p3, p4, p5⟩ := S _ _ _ _ _ _ _ _ (g1 rfl) φ₁ w₁ n bf a₁ k cs (Nat.le_trans hnw q1.same.size) q2 (by rw [q3]; exact hok) hr q1.hr (hf.mid q1) q4
    refine ⟨φ₂, w₂, a₂, Sim.trans hh hf q1 p1, p2, p3.trans q3, p4, ?_⟩
    have q5 : Steps E.P (lone (fat bf act (.code a :: .inLoop a :: k)) cs w) (lone (fat bf a₁ (.inLoop a :: k)) cs w₁) := q5
    refine Arr.pre (fat_loop.trans (q5.trans fat_inLoop)) ?_
    cases e with
    | normal => exact steps_tail p5 (fun hm => by have := congrArg List.length (lone_todo hm); simp at this) step_fat_loop
    | exit id => obtain ⟨k2, p5, p6⟩ := p5; exact ⟨k2, steps_tail p5 (fun hm => by have := lone_todo hm; simp at this) step_fat_loop, p6⟩
    | ret => obtain ⟨k2, p5⟩ := p5; exact ⟨k2, steps_tail p5 (fun hm => by have := lone_todo hm; simp at this) step_fat_loop⟩
  · obtain ⟨rfl, rfl, rfl, rfl⟩ := g2 he
    exact ⟨φ₁, w₁, a₁, q1, q2, q3, q4, Arr.out (fun id => by simp [exitTo]) he (Arr.pre fat_loop q5)⟩

theorem block_run {self : Self} (S : SelfOk E self) {id : Nat} {a : Code} (g : cdBlock id a E self ts h c = .ok e ts' h' c') : CodeRun E (.block id a) ts h c e ts' h' c' := by
  have g : blockK id (self a ts h c) = .ok e ts' h' c' := g
  intro φ w n bf act k cs hnw ht hok hr hh hf hm
  cases ho : self a ts h c with
  | bad n => rw [ho] at g; cases g
  | ok e1 ts1 h1 c1 =>
    rw [ho] at g
    have key : (e1 = .normal ∧ e = .normal ∨ e1 = .exit id ∧ e = .normal ∨ (∃ i, e1 = .exit i ∧ i ≠ id ∧ e = .exit i) ∨ e1 = .ret ∧ e = .ret) ∧ ts1 = ts' ∧ h1 = h' ∧ c1 = c' := by
      cases e1 with
      | normal => cases g; exact ⟨.inl ⟨rfl, rfl⟩, rfl, rfl, rfl⟩
      | ret => cases g; exact ⟨.inr (.inr (.inr ⟨rfl, rfl⟩)), rfl, rfl, rfl⟩
      | exit i =>
        have g : Bool.rec (motive := fun _ => Out) (.ok (.exit i) ts1 h1 c1) (.ok .normal ts1 h1 c1) (Nat.beq i id) = .ok e ts' h' c' := g
        cases hb : Nat.beq i id with
        | true =>
          rw [hb] at g; cases g
          have hb := Nat.eq_of_beq_eq_true hb
          subst hb
          exact ⟨.inr (.inl ⟨rfl, rfl⟩), rfl, rfl, rfl⟩
        | false =>
          rw [hb] at g; cases g
          exact ⟨.inr (.inr (.inl ⟨i, rfl, (fun h => by rw [h, Nat.beq_refl] at hb; cases hb), rfl⟩)), rfl, rfl, rfl⟩
    obtain ⟨key, rfl, rfl, rfl⟩ := key
    obtain ⟨φ₁, w₁, a₁, q1, q2, q3, q4, q5⟩ := S _ _ _ _ _ _ _ _ ho φ w n bf act (.inBlock id :: k) cs hnw ht (by simpa [codeOk] using hok) (hr.imp _root_.id fun h => by simpa [noRange] using h) hh hf hm
    refine ⟨φ₁, w₁, a₁, q1, q2, q3, q4, ?_⟩
    rcases key with ⟨rfl, rfl⟩ | ⟨rfl, rfl⟩ | ⟨i, rfl, hne, rfl⟩ | ⟨rfl, rfl⟩
    · exact Steps.trans fat_block (Steps.trans q5 fat_inBlock)
    · obtain ⟨k2, q5, q6⟩ := q5
      exact Steps.trans fat_block (Steps.trans q5 (fat_exit (by rw [q6]; simp [exitTo])))
    · obtain ⟨k2, q5, q6⟩ := q5
      refine ⟨k2, fat_block.trans q5, q6.trans ?_⟩
      have : ¬ (id == i) = true := by simpa using fun h => hne h.symm
      simp [exitTo, this]
    · obtain ⟨k2, q5⟩ := q5
      exact ⟨k2, fat_block.trans q5⟩
end
end Go.AE
