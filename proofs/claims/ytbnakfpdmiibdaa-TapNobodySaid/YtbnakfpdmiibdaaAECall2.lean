import Derived.Test.YtbnakfpdmiibdaaAECall
namespace Go.AE
section
variable {E : Env} {φ φ' φ₁ : Loc} {h h' h₁ h₀ : Hs} {c c' c₁ c₀ : Nat} {w w' w₁ w₂ : World} {ts ts' : Tm} {e : Ex}

/-! ### results -/
def rvSem (tmps : Array Value) (r : ResultVar) : Sem Value := match r with | .tmp t => pure (tmps.getD t undef) | .cell a t => do loadVar t (← asAddr (tmps.getD a undef))
theorem resVar_ok (T : TabOk E) {r : ResultVar} {K : AV → Out} (g : resVar E r ts h K = .ok e ts' h₀ c₀) :
    ∃ v, K v = .ok e ts' h₀ c₀ ∧ ∀ (φ : Loc) (w : World) (tmps : Array Value), TR E φ ts tmps → HR E φ h.t w →
      ∃ u, VR E φ v u ∧ (rvSem tmps r).run E.P w = .ok u w := by
  cases r with
  | tmp t => exact ⟨_, g, fun φ w tmps ht _ => ⟨_, ht t, rfl⟩⟩
  | cell a ty =>
    have g : ptrOf (evalT ts a) (fun b o => E.und ty (loadD E ty b o fun cmd => match cmd with | .rd b f => f K (h.t.get b) | _ => .bad 178)) = .ok e ts' h₀ c₀ := g
    obtain ⟨b, off, ha, g⟩ := ptrOf_ok g
    obtain ⟨d, hd, g⟩ := und_ok T g
    obtain ⟨f, g, hf⟩ := loadD_ok T hd g
    obtain ⟨ao, v, hx, g, hr⟩ := hf _ _ _ _ _ _ g
    refine ⟨v, g, fun φ w tmps ht hh => ?_⟩
    have hta := ht a
    rw [ha] at hta
    obtain ⟨B, N, hB, hta⟩ := hta
    obtain ⟨u, hu, hrun⟩ := hr φ w B N hB (hh.obj b ao hx)
    refine ⟨u, hu, ?_⟩
    unfold rvSem
    simp only [Sem.run_bind, hta, asAddr, Sem.run_pure, Result.andThen_ok, hrun]

theorem resultsOf_ok (T : TabOk E) : ∀ (rs : List ResultVar) (K : List AV → Out), resultsOf E ts h rs K = .ok e ts' h₀ c₀ →
    ∃ l, K l = .ok e ts' h₀ c₀ ∧ ∀ (φ : Loc) (w : World) (tmps : Array Value), TR E φ ts tmps → HR E φ h.t w →
      ∃ us, VRL E φ l us ∧ (rs.mapM (rvSem tmps)).run E.P w = .ok us w
  | [], K, g => ⟨[], g, fun φ w tmps _ _ => ⟨[], VRL_nil, rfl⟩⟩
  | r :: rs, K, g => by
    have g : resVar E r ts h (fun v => forceV v fun v => resultsOf E ts h rs fun l => K (v :: l)) = .ok e ts' h₀ c₀ := g
    obtain ⟨v, g, hv⟩ := resVar_ok T g
    rw [forceV_eq] at g
    obtain ⟨l, g, hl⟩ := resultsOf_ok T rs _ g
    refine ⟨v :: l, g, fun φ w tmps ht hh => ?_⟩
    obtain ⟨u, hu, hr⟩ := hv φ w tmps ht hh
    obtain ⟨us, hus, hrs⟩ := hl φ w tmps ht hh
    refine ⟨u :: us, VRL_cons hu hus, ?_⟩
    rw [List.mapM_cons]
    simp only [Sem.run_bind, hr, Result.andThen_ok, hrs, Sem.run_pure]

theorem tupOf_ok {l : List AV} {us : List Value} (hl : VRL E φ l us) : VR E φ (tupOf l) (if hs : us.toArray.size = 1 then us.toArray[0] else .tuple us.toArray) := by
  have hlen := hl.length
  cases l with
  | nil =>
    simp only [VRL] at hl; subst hl
    exact ⟨#[], rfl, VRL_nil⟩
  | cons a l =>
    cases l with
    | nil =>
      obtain ⟨v, rfl, hv⟩ := hl.one
      exact hv
    | cons b l =>
      have : ¬ us.toArray.size = 1 := by simp at hlen ⊢; omega
      rw [dif_neg this]
      exact ⟨us.toArray, rfl, hl⟩

theorem run_results {fn : Func} {tmps : Array Value} {us : List Value}
    (hr : (fn.results.toList.mapM (rvSem tmps)).run E.P w = .ok us w) :
    (results fn tmps).run E.P w = .ok (if hs : us.toArray.size = 1 then us.toArray[0] else .tuple us.toArray) w := by
  have e0 : results fn tmps = (do let vs ← fn.results.mapM (rvSem tmps); pure (if h : vs.size = 1 then vs[0] else .tuple vs)) := by
    unfold results
    congr 2
  rw [e0, Array.mapM_eq_mapM_toList]
  simp only [Sem.run_bind, map_eq_pure_bind, hr, Result.andThen_ok, Sem.run_pure]

/-! ### the marks are taken -/
def World.take (w : World) (r : Nat) : World := { w with heap := w.heap.setIfInBounds r (.deferred none) }
def World.takes (w : World) (rs : List Nat) : World := rs.foldl World.take w
theorem takes_old (rs : List Nat) : ∀ (w : World) (B : Nat), B ∉ rs → (World.takes w rs).heap[B]? = w.heap[B]? := by
  induction rs with
  | nil => intro w B _; rfl
  | cons r rs ih =>
    intro w B hB
    show (World.takes (World.take w r) rs).heap[B]? = _
    rw [ih _ _ (fun h => hB (List.mem_cons_of_mem _ h))]
    simp only [World.take, Array.getElem?_setIfInBounds]
    rw [if_neg (fun h => hB (by rw [← h]; exact List.mem_cons_self ..))]
theorem takes_same (rs : List Nat) : ∀ (w : World), (World.takes w rs).tape = w.tape ∧ (World.takes w rs).os = w.os ∧ (World.takes w rs).output = w.output ∧ (World.takes w rs).heap.size = w.heap.size := by
  induction rs with
  | nil => intro w; exact ⟨rfl, rfl, rfl, rfl⟩
  | cons r rs ih => intro w; obtain ⟨h1, h2, h3, h4⟩ := ih (World.take w r); exact ⟨h1, h2, h3, by rw [show World.takes w (r :: rs) = World.takes (World.take w r) rs from rfl, h4]; simp [World.take]⟩

theorem steps_unwind {P : Program} {caller : Frame} {cs : List Frame} {fn : Func} {v : Value} : ∀ (rs : List Nat) (fr : Frame) (w : World), fr.defers = rs.map mark → fr.mode = .returning → fr.kind = .normal → P.funcs[fr.fn]? = some fn →
    rs.Nodup → (∀ r ∈ rs, w.heap[r]? = some (.deferred (some []))) → (results fn fr.tmps).run P (World.takes w rs) = .ok v (World.takes w rs) →
    Steps P (lone fr (caller :: cs) w) (lone (caller.finish v) cs (World.takes w rs))
  | [], fr, w, hd, hm, hk, hf, _, _, hr => by
    have hd : fr.defers = [] := hd
    refine .one (step_lone_go ?_)
    have hr : (results fn fr.tmps).run P w = .ok v w := hr
    simp [stepG, hm, unwind, hd, hf, hr, doReturn, hk]
    rfl
  | r :: rs, fr, w, hd, hm, hk, hf, hnd, hw, hr => by
    have hd : fr.defers = mark r :: rs.map mark := hd
    have h0 := hw r (List.mem_cons_self ..)
    have hrun : (Instr.takeDeferred r).run P w = .ok [] (World.take w r) := by simp [Instr.takeDeferred, getObj, setObj, Sem.run, h0, World.take, Sem.run_bind]
    refine Steps.head (m₁ := lone { fr with defers := rs.map mark } (caller :: cs) (World.take w r)) (step_lone_go ?_) ?_
    · simp [stepG, hm, unwind, hd, mark, hrun]
    · refine steps_unwind rs _ _ rfl hm hk hf (List.nodup_cons.1 hnd).2 (fun x hx => ?_) hr
      have hne : r ≠ x := fun h => (List.nodup_cons.1 hnd).1 (by rw [h]; exact hx)
      simp only [World.take, Array.getElem?_setIfInBounds, if_neg hne]
      exact hw x (List.mem_cons_of_mem _ hx)

/-- and the evaluator sees nothing of it -/
theorem Sim.takes (s : Sim E φ h c w φ' h' c' w') {rs : List Nat} (hr : ∀ r ∈ rs, w.heap.size ≤ r ∧ Unk φ' h'.t r) : Sim E φ h c w φ' h' c' (World.takes w' rs) := by
  obtain ⟨t1, t2, t3, t4⟩ := takes_same rs w'
  refine ⟨⟨fun b o hb => (s.hr.obj b o hb).keep (fun _ _ h => h) fun B N e => takes_old rs w' B fun hm => (hr B hm).2 b N (by rw [hb]; simp) e, s.hr.inj⟩, s.ext, s.cle, s.dom, s.new, fun B hB hn => ?_,
    ⟨t1.trans s.same.tape, t2.trans s.same.os, t3.trans s.same.output, by rw [t4]; exact s.same.size⟩, s.fl, s.lg, s.keep⟩
  rw [takes_old rs w' B fun hm => by have := (hr B hm).1; omega]
  exact s.fr B hB hn
end
end Go.AE
