import Derived.Test.YtbnakfpdmiibdaaAECall3
namespace Go.AE
section
variable {E : Env} {φ φ' φ₁ : Loc} {h h' h₁ h₀ : Hs} {c c' c₁ c₀ : Nat} {w w' w₁ w₂ : World} {ts ts' : Tm} {e : Ex}

/-- what a call leads to -/
def Enters (P : Program) (s : Sem Next) (w : World) (caller : Frame) (cs : List Frame) (u : Value) (w' : World) : Prop :=
  ∃ nx, s.run P w = .ok nx w ∧ ((∃ f args, nx = .enter f args ∧ Steps P (lone (Frame.enter P f args .normal) (caller :: cs) w) (lone (caller.finish u) cs w')) ∨
    ∃ l f tmps as bd, nx = .round l f tmps as bd ∧ Steps P (lone (Frame.round l f tmps as bd .normal) (caller :: cs) w) (lone (caller.finish u) cs w'))

def ValRun (E : Env) (fv : AV) (args : List AV) (h : Hs) (c : Nat) (v : AV) (h' : Hs) (c' : Nat) : Prop :=
  ∀ (φ : Loc) (w : World) (fvv : Value) (vs : Array Value) (caller : Frame) (cs : List Frame), VR E φ fv fvv → VRL E φ args vs.toList → HR E φ h.t w → Fresh φ c c' →
    ∃ φ' w' u, Sim E φ h c w φ' h' c' w' ∧ VR E φ' v u ∧ Enters E.P (do let d ← Deferred.ofValue fvv vs; invoke d.target d.args) w caller cs u w'

/-! ### rounds -/
theorem run_getLoop' {P : Program} {B : Nat} {r : Loop} (hw : w.heap[B]? = some (.loop r)) : (Instr.getLoop B).run P w = .ok r w := by
  simp [Instr.getLoop, getObj, Sem.run, Sem.run_bind, hw]
theorem run_setLoop {P : Program} {B : Nat} {r : Loop} (x : Obj) (hw : w.heap[B]? = some (.loop r)) : (setObj B x).run P w = .ok () { w with heap := w.heap.setIfInBounds B x } := by simp [setObj, Sem.run, hw]

theorem fat_beginRound {P : Program} {b : Frame} {a : Act} {k : List Item} {cs : List Frame} {B : Nat} {r : Loop} (hr : b.roundOf = some B) (hw : w.heap[B]? = some (.loop r)) (hs : r.state = .ready) :
    Steps P (lone (fat b a (.beginRound :: k)) cs w) (lone (fat b a k) cs { w with heap := w.heap.setIfInBounds B (.loop { r with state := .busy }) }) := by
  refine .one (step_lone_go ?_)
  have h1 : (Instr.beginRound B).run P w = .ok () { w with heap := w.heap.setIfInBounds B (.loop { r with state := .busy }) } := by
    unfold Instr.beginRound
    simp only [Sem.run_bind, run_getLoop' hw, Result.andThen_ok, run_setLoop _ hw, hs, Sem.run_pure]
  have h2 : (b.roundOf.elim (stuck "beginRound: no round") Instr.beginRound).run P w = .ok () { w with heap := w.heap.setIfInBounds B (.loop { r with state := .busy }) } := by
    rw [hr]; exact h1
  simp only [stepG, stepG.exec, fat]
  simp [stepG.apply, h2, Frame.finish]

theorem fat_leave {P : Program} {b : Frame} {a : Act} {todo : List Item} {caller : Frame} {cs : List Frame} {B : Nat} {r : Loop} {jump : Option Code} (hr : b.roundOf = some B) (hk : b.kind = .normal) (hw : w.heap[B]? = some (.loop r))
    (ht : (todo = [] ∧ jump = none) ∨ (∃ k, todo = .code .ret :: k ∧ jump = some .ret) ∨ ∃ id k, todo = .code (.exit id) :: k ∧ exitTo id k = none ∧ jump = some (.exit id)) :
    Steps P (lone (fat b a todo) (caller :: cs) w) (lone (caller.finish (.bool jump.isNone)) cs { w with heap := w.heap.setIfInBounds B (.loop { r with state := if jump.isNone then .ready else .done, pending := jump }) }) := by
  refine .one (step_lone_go ?_)
  have h1 : (Instr.endRound B jump).run P w = .ok (.bool jump.isNone) { w with heap := w.heap.setIfInBounds B (.loop { r with state := if jump.isNone then .ready else .done, pending := jump }) } := by
    unfold Instr.endRound
    simp only [Sem.run_bind, run_getLoop' hw, Result.andThen_ok, run_setLoop _ hw, Sem.run_pure]
  rcases ht with ⟨rfl, rfl⟩ | ⟨k, rfl, rfl⟩ | ⟨id, k, rfl, hex, rfl⟩
  · simp only [stepG, stepG.exec, fat, hr]
    simp [h1, doReturn, hk]
  · simp only [stepG, stepG.exec, fat, hr]
    simp [h1, doReturn, hk]
  · simp only [stepG, stepG.exec, fat, hr, hex, Option.elim_none]
    simp [h1, doReturn, hk]

noncomputable def setsT : List Nat → List AV → Tm → Tm
  | p :: l, x :: a, t => setsT l a (t.set p (some x))
  | _, _, t => t
theorem setAll_ok : ∀ (l : List Nat) (a : List AV) (t : Tm) (K : Tm → Out), setAll l a t K = .ok e ts' h₀ c₀ → l.length = a.length ∧ K (setsT l a t) = .ok e ts' h₀ c₀
  | [], [], t, K, g => ⟨rfl, g⟩
  | [], _ :: _, t, K, g => by cases g
  | _ :: _, [], t, K, g => by cases g
  | p :: l, x :: a, t, K, g => by
    have g : t.ins p (some x) (fun t => setAll l a t K) = .ok e ts' h₀ c₀ := g
    rw [ins_eq] at g
    obtain ⟨h1, h2⟩ := setAll_ok l a _ K g
    exact ⟨by simp [h1], h2⟩
theorem setsT_TR : ∀ (l : List Nat) (a : List AV) (vs : List Value) (t : Tm) (tmps : Array Value), l.length = a.length → VRL E φ a vs → TR E φ t tmps → (∀ x ∈ l, x < tmps.size) →
    TR E φ (setsT l a t) ((l.zip vs).foldl (fun tmps p => tmps.setIfInBounds p.1 p.2) tmps) ∧ ((l.zip vs).foldl (fun tmps p => tmps.setIfInBounds p.1 p.2) tmps).size = tmps.size
  | [], [], vs, t, tmps, _, hv, ht, _ => ⟨by simpa [setsT] using ht, by simp⟩
  | p :: l, x :: a, vs, t, tmps, hl, hv, ht, hp => by
    simp only [VRL] at hv
    obtain ⟨v, m, rfl, hv, hm⟩ := hv
    have hp0 := hp p (List.mem_cons_self ..)
    obtain ⟨h1, h2⟩ := setsT_TR l a m (t.set p (some x)) (tmps.setIfInBounds p v) (by simpa using hl) hm (ht.put hp0 hv) (fun y hy => by simp; exact hp y (List.mem_cons_of_mem _ hy))
    exact ⟨h1, by simpa using h2⟩

theorem turned_loop (w : World) (B : Nat) (x : Obj) : Turned w { w with heap := w.heap.setIfInBounds B x } B := turned_set w B x

theorem callY_ok (T : TabOk E) {self : Self} (S : SelfOk E self) {l : Nat} {args : List AV} {K : Kv} (g : callY self l args h c K = .ok e ts' h₀ c₀) :
    ∃ v h₁ c₁, K v h₁ c₁ = .ok e ts' h₀ c₀ ∧ ∀ (φ : Loc) (w : World) (B N : Nat) (vs : Array Value) (caller : Frame) (cs : List Frame), φ l = some (B, N) → VRL E φ args vs.toList → HR E φ h.t w → Fresh φ c c₁ →
      ∃ φ' w' u, Sim E φ h c w φ' h₁ c₁ w' ∧ VR E φ' v u ∧ Enters E.P (Instr.yield B vs) w caller cs u w' := by
  unfold callY at g
  split at g
  · rename_i ts0 params assign body p hl
    obtain ⟨hp, g⟩ := guardB_ok g
    have hp := isZ_ok hp
    subst hp
    rw [put_eq] at g
    obtain ⟨hlen, g⟩ := setAll_ok _ _ _ _ g
    cases ho : self assign (setsT params args ts0) (h.putD l none) c with
    | bad n => rw [ho] at g; cases g
    | ok ex ts1 h1 c1 =>
      rw [ho] at g
      have hrun1 := S _ _ _ _ _ _ _ _ ho
      have hex : ex = .normal ∧ pendK l ts0 params assign body K (self body ts1 h1 c1) = .ok e ts' h₀ c₀ := by
        cases ex <;> first | exact ⟨rfl, g⟩ | cases g
      obtain ⟨rfl, g2⟩ := hex
      cases ho2 : self body ts1 h1 c1 with
      | bad n => rw [ho2] at g2; cases g2
      | ok ex2 ts2 h2 c2 =>
        rw [ho2] at g2
        have hrun2 := S _ _ _ _ _ _ _ _ ho2
        -- how the round ends
        have hend : ∃ pend v, K v (h2.putD l (some (.loop ts0 params assign body pend))) c2 = .ok e ts' h₀ c₀ ∧ ∃ jump : Option Code, v = .bool jump.isNone ∧
            PendR pend (if jump.isNone then .ready else .done) jump ∧ ((ex2 = .normal ∧ jump = none) ∨ (ex2 = .ret ∧ jump = some .ret) ∨ ∃ i, ex2 = .exit i ∧ jump = some (.exit i)) := by
          cases ex2 with
          | normal =>
            have g : h2.put l (some (.loop ts0 params assign body 0)) (fun h => K (.bool true) h c2) = .ok e ts' h₀ c₀ := g2
            rw [put_eq] at g
            exact ⟨0, _, g, none, rfl, ⟨rfl, rfl⟩, .inl ⟨rfl, rfl⟩⟩
          | exit i =>
            have g : h2.put l (some (.loop ts0 params assign body (i + 2))) (fun h => K (.bool false) h c2) = .ok e ts' h₀ c₀ := g2
            rw [put_eq] at g
            exact ⟨i + 2, _, g, some (.exit i), rfl, ⟨rfl, rfl⟩, .inr (.inr ⟨i, rfl, rfl⟩)⟩
          | ret =>
            have g : h2.put l (some (.loop ts0 params assign body 1)) (fun h => K (.bool false) h c2) = .ok e ts' h₀ c₀ := g2
            rw [put_eq] at g
            exact ⟨1, _, g, some .ret, rfl, ⟨rfl, rfl⟩, .inr (.inl ⟨rfl, rfl⟩)⟩
        obtain ⟨pend, v, g, jump, rfl, hpend, hj⟩ := hend
        refine ⟨_, _, _, g, fun φ w B N vs caller cs hB hv hh hf => ?_⟩
        have hln : h.t.get l ≠ none := by rw [hl]; simp
        obtain ⟨B', N', st, pd, fn, tmps, df, hB', hw, ⟨rfl, rfl⟩, htr, ok1, ok2, nr1, nr2, hps⟩ := hh.obj l _ hl
        rw [hB] at hB'; cases hB'
        have hBlt := (Array.getElem?_eq_some_iff.1 hw).1
        -- the frame of the round
        obtain ⟨htr', hsz'⟩ := setsT_TR params args vs.toList ts0 tmps hlen hv htr hps
        generalize htm : (params.zip vs.toList).foldl (fun tmps p => tmps.setIfInBounds p.1 p.2) tmps = tmps' at htr' hsz'
        have s0 : Sim E φ h c w φ (h.putD l none) c w := Sim.forget hh l
        have u0 := unk_forget hh hln hB
        have f1 : Fresh φ c c1 := fun b h1 h2 => hf b h1 (by omega)
        obtain ⟨φ1, w1, a1, s1, htr1, hsz1, ⟨rs1, hds1, hnd1, hmk1⟩, harr1⟩ := hrun1 φ w w.heap.size (Frame.round B fn tmps' assign body .normal) ⟨tmps', []⟩ [.beginRound, .code body] (caller :: cs) (Nat.le_refl _) htr' (by rw [hsz']; exact ok1) (.inr nr1) s0.hr f1 ⟨[], rfl, List.nodup_nil, fun r hr => by cases hr⟩
        obtain ⟨k1, u1⟩ := s1.unknown s0.hr f1 hBlt u0
        have hw1 := k1.trans hw
        have hstart : fat (Frame.round B fn tmps' assign body .normal) ⟨tmps', []⟩ (.code assign :: [.beginRound, .code body]) = Frame.round B fn tmps' assign body .normal := rfl
        rw [hstart] at harr1
        -- the round begins
        have hbeg := fat_beginRound (P := E.P) (b := Frame.round B fn tmps' assign body .normal) (a := a1) (k := [.code body]) (cs := caller :: cs) rfl hw1 rfl
        have s01 := Sim.trans hh f1 s0 s1
        have hx1 : Exm φ h.t h.fl h1.lg B := exm_forget hln hB fun b hb => s1.lg b hb
        have tu1 := turned_loop w1 B (.loop { state := .busy, pending := none, fn, tmps, params := params.toArray, assign, body, defers := df })
        have s02 := s01.aside hx1 u1 tu1
        have f2 : Fresh φ1 c1 c2 := fun b h1 h2 => by rw [s1.ext b (.inr h1)]; exact hf b (Nat.le_trans s1.cle h1) h2
        have hw2 := set_same (w := w1) (.loop { state := .busy, pending := none, fn, tmps, params := params.toArray, assign, body, defers := df }) hw1
        have hw2lt := (Array.getElem?_eq_some_iff.1 hw2).1
        obtain ⟨φ2, w3, a2, s3, htr3, hsz3, _, harr2⟩ := hrun2 φ1 _ w.heap.size (Frame.round B fn tmps' assign body .normal) a1 [] (caller :: cs) s02.same.size htr1 (by rw [hsz1]; simpa [hsz'] using ok2) (.inr nr2) s02.hr f2
          ⟨rs1, hds1, hnd1, fun r hr => ⟨(hmk1 r hr).1, by rw [tu1.old r (fun e => by have := (hmk1 r hr).1; omega)]; exact (hmk1 r hr).2.1, (hmk1 r hr).2.2⟩⟩
        obtain ⟨k3, u3⟩ := s3.unknown s02.hr f2 hw2lt u1
        have hw3 := k3.trans hw2
        have s03 := Sim.trans hh hf s02 s3
        have hout : l < c ∨ c2 ≤ l := by
          by_cases h1 : l < c
          · exact .inl h1
          · by_cases h2 : c2 ≤ l
            · exact .inr h2
            · have := hf l (by omega) (by omega); rw [this] at hB; cases hB
        have hB2 : φ2 l = some (B, N) := by rw [s03.ext l hout]; exact hB
        have hle2 := s03.le hf
        have hx3 : Exm φ h.t h.fl h2.lg B := hx1.mono s3.lg
        have tu3 := turned_loop w3 B (.loop { state := if jump.isNone then .ready else .done, pending := jump, fn, tmps, params := params.toArray, assign, body, defers := df })
        have s04 := s03.readd (o := .loop ts0 params assign body pend) hln hB2 hx3 u3 tu3
          ⟨B, N, _, _, fn, tmps, df, hB2, set_same _ hw3, hpend, htr.mono hle2, ok1, ok2, nr1, nr2, hps⟩
        refine ⟨φ2, _, .bool jump.isNone, s04, rfl, ?_⟩
        have hyield : (Instr.yield B vs).run E.P w = .ok (.round B fn tmps' assign body) w := by
          unfold Instr.yield
          have hsz : ¬ (vs.size ≠ params.toArray.size) := by
            have := hv.length
            simp at this ⊢; omega
          simp only [Sem.run_bind, run_getLoop' hw, Result.andThen_ok, hsz, if_false, Sem.run_pure]
          congr 2
          rw [← htm, ← Array.foldl_toList, Array.toList_zip]
        refine ⟨_, hyield, .inr ⟨B, fn, tmps', assign, body, rfl, ?_⟩⟩
        have harr1 : Steps E.P (lone (Frame.round B fn tmps' assign body .normal) (caller :: cs) w) (lone (fat (Frame.round B fn tmps' assign body .normal) a1 [.beginRound, .code body]) (caller :: cs) w1) := harr1
        refine harr1.trans (hbeg.trans ?_)
        have leave := fun (todo : List Item) ht => fat_leave (P := E.P) (b := Frame.round B fn tmps' assign body .normal) (a := a2) (todo := todo) (caller := caller) (cs := cs) (jump := jump) rfl rfl hw3 ht
        rcases hj with ⟨rfl, rfl⟩ | ⟨rfl, rfl⟩ | ⟨i, rfl, rfl⟩
        · exact Steps.trans harr2 (leave [] (.inl ⟨rfl, rfl⟩))
        · obtain ⟨k2, harr2⟩ := harr2
          exact Steps.trans harr2 (leave _ (.inr (.inl ⟨k2, rfl, rfl⟩)))
        · obtain ⟨k2, harr2, hex⟩ := harr2
          exact Steps.trans harr2 (leave _ (.inr (.inr ⟨i, k2, rfl, by rw [hex]; rfl, rfl⟩)))
  · cases g
end
end Go.AE
