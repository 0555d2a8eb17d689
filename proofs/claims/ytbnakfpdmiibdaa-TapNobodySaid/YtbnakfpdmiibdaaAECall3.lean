import Derived.Test.YtbnakfpdmiibdaaAECall2
namespace Go.AE
section
variable {E : Env} {φ φ' φ₁ : Loc} {h h' h₁ h₀ : Hs} {c c' c₁ c₀ : Nat} {w w' w₁ w₂ : World} {ts ts' : Tm} {e : Ex}

def CallRun (E : Env) (f : Nat) (args : List AV) (h : Hs) (c : Nat) (v : AV) (h' : Hs) (c' : Nat) : Prop :=
  ∀ (φ : Loc) (w : World) (vs : Array Value) (caller : Frame) (cs : List Frame), VRL E φ args vs.toList → HR E φ h.t w → Fresh φ c c' →
    ∃ φ' w' u, Sim E φ h c w φ' h' c' w' ∧ VR E φ' v u ∧ Steps E.P (lone (Frame.enter E.P f vs .normal) (caller :: cs) w) (lone (caller.finish u) cs w')

theorem fiOf_ok {fn : Func} {fi : Fi} (h : fiOf fn = some fi) : ∃ code, fn.body = some code ∧ fi.n = fn.ntmps ∧ fi.rs = fn.results.toList ∧ fi.code = code ∧ codeOk fn.ntmps code = true ∧ fn.name ≠ "runtime.NumGoroutine" := by
  unfold fiOf at h
  split at h
  · cases h
  · rename_i code hb
    have h : (Bool.rec (motive := fun _ => Option Fi) none (some ⟨fn.ntmps, fn.results.toList, code⟩) (codeOk fn.ntmps code && (fn.name != "runtime.NumGoroutine"))) = some fi := h
    cases hc : (codeOk fn.ntmps code && (fn.name != "runtime.NumGoroutine")) with
    | false => rw [hc] at h; cases h
    | true =>
      rw [hc] at h
      cases h
      rw [Bool.and_eq_true] at hc
      exact ⟨code, hb, rfl, rfl, rfl, hc.1, by simpa using hc.2⟩

theorem TR.args {args : List AV} {vs : Array Value} (hv : VRL E φ args vs.toList) (n : Nat) : TR E φ (T.lay args .e 0) (vs ++ Array.replicate n undef) := by
  intro i
  unfold evalT
  rw [get_lay]
  have hlen : vs.size = args.length := by simpa using hv.length
  by_cases hi : i < args.length
  · rw [if_pos ⟨Nat.zero_le _, by omega⟩, Nat.sub_zero, List.getElem?_eq_getElem hi]
    obtain ⟨u, hu, hr⟩ := hv.get (List.getElem?_eq_getElem hi)
    have : (vs ++ Array.replicate n undef).getD i undef = u := by
      rw [Array.getD_eq_getD_getElem?, Array.getElem?_append_left (by omega)]
      rw [Array.getElem?_toList] at hu
      rw [hu]; rfl
    rw [this]; exact hr
  · rw [if_neg (by omega), get_e]
    have : (vs ++ Array.replicate n undef).getD i undef = undef := by
      rw [Array.getD_eq_getD_getElem?, Array.getElem?_append_right (by omega), Array.getElem?_replicate]
      split <;> rfl
    rw [this]
    exact undef_VR ..

theorem callF_ok (T : TabOk E) {self : Self} (S : SelfOk E self) {f : Nat} {args : List AV} {K : Kv} (g : callF E self f args h c K = .ok e ts' h₀ c₀) :
    ∃ v h₁ c₁, K v h₁ c₁ = .ok e ts' h₀ c₀ ∧ CallRun E f args h c v h₁ c₁ ∧ ∃ fn, E.P.funcs[f]? = some fn ∧ fn.body.isNone = false ∧ (fn.name == "runtime.NumGoroutine") = false := by
  unfold callF callB at g
  split at g
  · rename_i fi hfi
    obtain ⟨fn, hfn, hof⟩ := T.fn f fi hfi
    obtain ⟨code, hb, e1, e2, e3, hok, hname⟩ := fiOf_ok hof
    obtain ⟨hn, g⟩ := guardB_ok g
    have hn : lenL args ≤ fi.n := Nat.le_of_ble_eq_true hn
    rw [lenL_eq, e1] at hn
    rw [fill_eq] at g
    cases ho : self fi.code (AE.T.lay args .e 0) h c with
    | bad n => rw [ho] at g; cases g
    | ok ex ts1 h1 c1 =>
      rw [ho] at g
      have hrun := S _ _ _ _ _ _ _ _ ho
      have hex : (ex = .normal ∨ ex = .ret) ∧ resultsOf E ts1 h1 fi.rs (fun l => K (tupOf l) h1 c1) = .ok e ts' h₀ c₀ := by
        cases ex with
        | normal => exact ⟨.inl rfl, g⟩
        | exit i => cases g
        | ret => exact ⟨.inr rfl, g⟩
      obtain ⟨hex, g⟩ := hex
      obtain ⟨l, g, hl⟩ := resultsOf_ok T _ _ g
      refine ⟨_, _, _, g, fun φ w vs caller cs hv hh hf => ?_, fn, hfn, by rw [hb]; rfl, by simpa using hname⟩
      have hlen : vs.size = args.length := by simpa using hv.length
      have hframe : Frame.enter E.P f vs .normal = fat (Frame.enter E.P f vs .normal) ⟨vs ++ Array.replicate (fn.ntmps - vs.size) undef, []⟩ [.code code] := by
        unfold Frame.enter fat
        simp [hfn, hb]
      have hsz : (vs ++ Array.replicate (fn.ntmps - vs.size) undef).size = fn.ntmps := by simp; omega
      obtain ⟨φ', w1, a1, hsim, htr, _, ⟨rs, hds, hnd, hmk⟩, harr⟩ := hrun φ w w.heap.size (Frame.enter E.P f vs .normal) ⟨vs ++ Array.replicate (fn.ntmps - vs.size) undef, []⟩ [] (caller :: cs) (Nat.le_refl _)
        (TR.args hv _) (by rw [e3]; simpa only [hsz] using hok) (.inl rfl) hh hf ⟨[], rfl, List.nodup_nil, fun r hr => by cases hr⟩
      rw [e3, ← hframe] at harr
      have hsim2 := hsim.takes (rs := rs) fun r hr => ⟨(hmk r hr).1, (hmk r hr).2.2⟩
      obtain ⟨us, hus, hmap⟩ := hl φ' (World.takes w1 rs) a1.tmps htr hsim2.hr
      rw [e2] at hmap
      refine ⟨φ', World.takes w1 rs, _, hsim2, tupOf_ok hus, ?_⟩
      -- the frame returns
      have hret : ∃ todo, Steps E.P (lone (Frame.enter E.P f vs .normal) (caller :: cs) w) (lone { fat (Frame.enter E.P f vs .normal) a1 todo with mode := .returning } (caller :: cs) w1) := by
        rcases hex with rfl | rfl
        · exact ⟨[], harr.trans (fat_end rfl)⟩
        · obtain ⟨k2, harr⟩ := harr
          exact ⟨_, harr.trans (fat_ret rfl)⟩
      obtain ⟨todo, hret⟩ := hret
      exact hret.trans (steps_unwind rs _ w1 hds rfl rfl hfn hnd (fun r hr => (hmk r hr).2.1) (run_results hmap))
  · cases g
end
end Go.AE
