import Derived.Test.YtbnakfpdmiibdaaAECode3
import Derived.Below
namespace Go.AE
section
variable {E : Env} {φ φ' φ₁ : Loc} {h h' h₁ h₀ : Hs} {c c' c₁ c₀ : Nat} {w w' w₁ w₂ : World} {ts ts' : Tm} {e : Ex}

/-! ### the evaluator is right at every depth -/
theorem drawOk_off {self : Self} (hE : E.draws = false) : DrawOk E self := by
  intro ops ts h c e ts' h' c' g
  unfold evDraw at g
  rw [hE] at g
  cases g
theorem quietOk_off {self : Self} (hE : E.quiets = false) : QuietOk E self := by
  intro a r b mb since seen stepped cur o left clock ts h c e ts' h' c' _ _ _ g
  exfalso
  unfold leftOf at g
  split at g
  · obtain ⟨_, g⟩ := guardB_ok g
    obtain ⟨_, g⟩ := guardB_ok g
    unfold quietLoop at g
    rw [hE] at g
    cases g
  · cases g
theorem ev_ok (T : TabOk E) (hD : ∀ self, SelfOk E self → DrawOk E self) (hQ : ∀ self, SelfOk E self → QuietOk E self) : ∀ n, SelfOk E (ev E n) := by
  intro n
  induction n with
  | zero => intro code ts h c e ts' h' c' g; cases g
  | succ n ih => exact step_ok T ih (hD _ ih) (hQ _ ih)

/-! ### the tables -/
noncomputable def zszOk (l : List TypeInfo) : Bool := allL (fun i => match i.zero with | some z => Nat.beq z.cells.size i.size | none => true) l
theorem tabOk_of {P : Program} (hE : E.P = P) (hty : E.ty = T.ofList P.types.toList) (hfn : E.fn = T.ofList (mapL fiOf P.funcs.toList)) (hz : zszOk P.types.toList = true)
    (hm : P.follows .mixedOrders = true)
    (hf : ∀ i op k n r, E.fact i op k n = some r → ∃ k' m, E.symv i = .int k' m ∧ ∃ u, (∀ φ, VR E φ r u) ∧ ∀ t w, (binOp op t (.int k' m) (.int k n)).run E.P w = .ok u w) : TabOk E := by
  refine ⟨fun t i h => ?_, fun f fi h => ?_, fun t i z h g => ?_, by rw [hE]; exact hm, hf⟩
  · rw [hty, get_ofList, Array.getElem?_toList] at h
    rw [hE]
    show (if t < P.types.size then P.types[t]? else _) = _
    rw [if_pos (Array.getElem?_eq_some_iff.1 h).1]; exact h
  · rw [hfn, get_ofList, mapL_eq, List.getElem?_map, Array.getElem?_toList] at h
    rw [hE]
    cases hx : P.funcs[f]? with
    | none => rw [hx] at h; cases h
    | some fn => rw [hx] at h; simp at h; exact ⟨fn, rfl, h⟩
  · rw [hty, get_ofList] at h
    unfold zszOk at hz
    rw [allL_iff] at hz
    have := hz i (List.mem_of_getElem? h)
    rw [g] at this
    exact Nat.eq_of_beq_eq_true this

/-! ### a call, up to where its frame leaves -/
theorem steps_leave {P : Program} {cs : List Frame} {fn : Func} {v : Value} : ∀ (rs : List Nat) (fr : Frame) (w : World), fr.defers = rs.map mark → fr.mode = .returning → fr.kind = .normal → P.funcs[fr.fn]? = some fn →
    rs.Nodup → (∀ r ∈ rs, w.heap[r]? = some (.deferred (some []))) → (results fn fr.tmps).run P (World.takes w rs) = .ok v (World.takes w rs) →
    ∃ fr', Steps P (lone fr cs w) (lone fr' cs (World.takes w rs)) ∧ fr'.fn = fr.fn ∧ fr'.leaving P (World.takes w rs) (.returned v)
  | [], fr, w, hd, hm, hk, hf, _, _, hr => ⟨fr, Steps.refl .., rfl, hm, hd, hk, fn, hf, hr⟩
  | r :: rs, fr, w, hd, hm, hk, hf, hnd, hw, hr => by
    have hd : fr.defers = mark r :: rs.map mark := hd
    have h0 := hw r (List.mem_cons_self ..)
    have hrun : (Instr.takeDeferred r).run P w = .ok [] (World.take w r) := by simp [Instr.takeDeferred, getObj, setObj, Sem.run, h0, World.take, Sem.run_bind]
    obtain ⟨fr', h1, h2, h3⟩ := steps_leave (cs := cs) rs { fr with defers := rs.map mark } (World.take w r) rfl hm hk hf (List.nodup_cons.1 hnd).2 (fun x hx => by
      have hne : r ≠ x := fun h => (List.nodup_cons.1 hnd).1 (by rw [h]; exact hx)
      simp only [World.take, Array.getElem?_setIfInBounds, if_neg hne]
      exact hw x (List.mem_cons_of_mem _ hx)) hr
    refine ⟨fr', Steps.head (m₁ := lone { fr with defers := rs.map mark } cs (World.take w r)) (step_lone_go ?_) h1, h2, h3⟩
    simp [stepG, hm, unwind, hd, mark, hrun]

theorem callF_leave (T : TabOk E) {self : Self} (S : SelfOk E self) {f : Nat} {args : List AV} {K : Kv} (g : callF E self f args h c K = .ok e ts' h₀ c₀) :
    ∃ v h₁ c₁, K v h₁ c₁ = .ok e ts' h₀ c₀ ∧ ∀ (φ : Loc) (w : World) (vs : Array Value) (cs : List Frame), VRL E φ args vs.toList → HR E φ h.t w → Fresh φ c c₁ →
      ∃ φ' w' u fr, Sim E φ h c w φ' h₁ c₁ w' ∧ VR E φ' v u ∧ Steps E.P (lone (Frame.enter E.P f vs .normal) cs w) (lone fr cs w') ∧ fr.fn = f ∧ fr.leaving E.P w' (.returned u) := by
  unfold callF callB at g
  split at g
  · rename_i fi hfi
    obtain ⟨fn, hfn, hof⟩ := T.fn f fi hfi
    obtain ⟨code, hb, e1, e2, e3, hok, hname⟩ := fiOf_ok hof
    obtain ⟨hn, g⟩ := guardB_ok g
    have hn : lenL args ≤ fi.n := Nat.le_of_ble_eq_true hn
    rw [lenL_eq, e1] at hn
    rw [fill_eq] at g
    cases ho : self fi.code (AE.T.lay args .e 0) h c with
    | bad n => rw [ho] at g; cases g
    | ok ex ts1 h1 c1 =>
      rw [ho] at g
      have hrun := S _ _ _ _ _ _ _ _ ho
      have hex : (ex = .normal ∨ ex = .ret) ∧ resultsOf E ts1 h1 fi.rs (fun l => K (tupOf l) h1 c1) = .ok e ts' h₀ c₀ := by
        cases ex with
        | normal => exact ⟨.inl rfl, g⟩
        | exit i => cases g
        | ret => exact ⟨.inr rfl, g⟩
      obtain ⟨hex, g⟩ := hex
      obtain ⟨l, g, hl⟩ := resultsOf_ok T _ _ g
      refine ⟨_, _, _, g, fun φ w vs cs hv hh hf => ?_⟩
      have hlen : vs.size = args.length := by simpa using hv.length
      have hframe : Frame.enter E.P f vs .normal = fat (Frame.enter E.P f vs .normal) ⟨vs ++ Array.replicate (fn.ntmps - vs.size) undef, []⟩ [.code code] := by
        unfold Frame.enter fat
        simp [hfn, hb]
      have hsz : (vs ++ Array.replicate (fn.ntmps - vs.size) undef).size = fn.ntmps := by simp; omega
      obtain ⟨φ', w1, a1, hsim, htr, _, ⟨rs, hds, hnd, hmk⟩, harr⟩ := hrun φ w w.heap.size (Frame.enter E.P f vs .normal) ⟨vs ++ Array.replicate (fn.ntmps - vs.size) undef, []⟩ [] cs (Nat.le_refl _)
        (TR.args hv _) (by rw [e3]; simpa only [hsz] using hok) (.inl rfl) hh hf ⟨[], rfl, List.nodup_nil, fun r hr => by cases hr⟩
      rw [e3, ← hframe] at harr
      have hsim2 := hsim.takes (rs := rs) fun r hr => ⟨(hmk r hr).1, (hmk r hr).2.2⟩
      obtain ⟨us, hus, hmap⟩ := hl φ' (World.takes w1 rs) a1.tmps htr hsim2.hr
      rw [e2] at hmap
      have hret : ∃ todo, Steps E.P (lone (Frame.enter E.P f vs .normal) cs w) (lone { fat (Frame.enter E.P f vs .normal) a1 todo with mode := .returning } cs w1) := by
        rcases hex with rfl | rfl
        · exact ⟨[], harr.trans (fat_end rfl)⟩
        · obtain ⟨k2, harr⟩ := harr
          exact ⟨_, harr.trans (fat_ret rfl)⟩
      obtain ⟨todo, hret⟩ := hret
      obtain ⟨fr', g1, g2, g3⟩ := steps_leave (P := E.P) (cs := cs) rs { fat (Frame.enter E.P f vs .normal) a1 todo with mode := .returning } w1 hds rfl rfl hfn hnd (fun r hr => (hmk r hr).2.1) (run_results hmap)
      exact ⟨φ', World.takes w1 rs, _, fr', hsim2, tupOf_ok hus, hret.trans g1, g2, g3⟩
  · cases g

/-! ### a law's call -/
noncomputable def yes (v : AV) (h : Hs) (c : Nat) : Out := match v with | .bool b => guardB b 290 (.ok .normal .e h c) | _ => .bad 291
/-- does the law answer true? -/
noncomputable def law (E : Env) (n f : Nat) (args : List AV) : Out := callF E (ev E n) f args ⟨.e, 0, []⟩ 0 yes
def isOk (o : Out) : Bool := match o with | .ok _ _ _ _ => true | .bad _ => false

theorem law_calls (T : TabOk E) {n f : Nat} (S : SelfOk E (ev E n)) {args : List AV} (g : isOk (law E n f args) = true) {vs : Array Value} (hv : ∀ φ, VRL E φ args vs.toList) (W : World) :
    Calls E.P f vs W fun e W' => e = .returned (.bool true) ∧ Go.RowKit.Below W.heap.size W W' := by
  intro cs
  unfold isOk at g
  split at g
  · rename_i e ts h c ho
    obtain ⟨v, h1, c1, hk, hrun⟩ := callF_leave T S ho
    have hvt : v = .bool true := by
      unfold yes at hk
      split at hk
      · obtain ⟨hb, _⟩ := guardB_ok hk
        rw [hb]
      · cases hk
    subst hvt
    obtain ⟨φ', w', u, fr, hs, hr, hst, hfn, hlv⟩ := hrun (fun _ => none) W vs cs (hv _) ⟨fun b o hb => by simp [get_e] at hb, fun b b' B N N' hb => by simp [get_e] at hb⟩ (fun _ _ _ => rfl)
    have hu : u = .bool true := by simpa [VR] using hr
    subst hu
    refine ⟨.returned (.bool true), w', fr, ⟨rfl, hs.same.os, hs.same.tape, hs.same.output, hs.same.size, fun k hk => hs.fr k hk ?_⟩, hst, hfn, hlv⟩
    rintro ⟨b, N, hb, _⟩
    simp [get_e] at hb
  · cases g
end
end Go.AE
