import Derived.Test.YtbnakfpdmiibdaaAECall4
namespace Go.AE
section
variable {E : Env} {φ φ' φ₁ : Loc} {h h' h₁ h₀ : Hs} {c c' c₁ c₀ : Nat} {w w' w₁ w₂ : World} {ts ts' : Tm} {e : Ex}

theorem callV_ok (T : TabOk E) {self : Self} (S : SelfOk E self) {fv : AV} {args : List AV} {K : Kv} (g : callV E self fv args h c K = .ok e ts' h₀ c₀) :
    ∃ v h₁ c₁, K v h₁ c₁ = .ok e ts' h₀ c₀ ∧ ValRun E fv args h c v h₁ c₁ := by
  unfold callV at g
  split at g
  · rename_i f first cap
    unfold callFn at g
    split at g
    · rename_i f
      obtain ⟨v, h₁, c₁, g, hrun, fn, hfn, hb, hname⟩ := callF_ok T S g
      refine ⟨v, h₁, c₁, g, fun φ w fvv vs caller cs hfv hvs hh hf => ?_⟩
      obtain ⟨gg, first', cap', rfl, hg, h1, h2⟩ := hfv
      have hg : gg = .func f := hg
      subst hg
      have hargs : VRL E φ (appL first (appL args cap)) (first' ++ vs ++ cap').toList := by
        rw [appL_eq, appL_eq, Array.toList_append, Array.toList_append, List.append_assoc]
        exact h1.append (hvs.append h2)
      obtain ⟨φ', w', u, hs, hv, hst⟩ := hrun φ w (first' ++ vs ++ cap') caller cs hargs hh hf
      refine ⟨φ', w', u, hs, hv, .enter f (first' ++ vs ++ cap'), ?_, .inl ⟨f, _, rfl, hst⟩⟩
      simp only [Deferred.ofValue, Sem.run_bind, Sem.run_pure, Result.andThen_ok, invoke, callFunc, run_program, hfn, hname, hb, Bool.false_eq_true, if_false]
    · rename_i l
      cases first with
      | cons _ _ => cases g
      | nil =>
        have g : callY self l args h c K = .ok e ts' h₀ c₀ := g
        obtain ⟨v, h₁, c₁, g, hrun⟩ := callY_ok T S g
        refine ⟨v, h₁, c₁, g, fun φ w fvv vs caller cs hfv hvs hh hf => ?_⟩
        obtain ⟨gg, first', cap', rfl, ⟨B, N, hB, rfl⟩, h1, h2⟩ := hfv
        simp only [VRL] at h1
        have h1 : first' = #[] := Array.ext' h1
        subst h1
        obtain ⟨φ', w', u, hs, hv, nx, hnx, hst⟩ := hrun φ w B N vs caller cs hB hvs hh hf
        refine ⟨φ', w', u, hs, hv, nx, ?_, hst⟩
        simp only [Deferred.ofValue, Sem.run_bind, Sem.run_pure, Result.andThen_ok, invoke, Array.empty_append, hnx]
    · cases g
  · cases g

theorem ok_callV (T : TabOk E) {φ : Loc} {o : Oper} {a : Act} {K : Kc} (ht : TR E φ ts a.tmps) {cl : Call} {f : Operand} (ho : o.op = .call cl) (hc : cl.callee = .value f) (g : cCallV f cl.args.toList E ts K = .ok e ts' h c) : Good E φ o a K e ts' h c := by
  have he : execOp a.eval o = (do let d ← Deferred.ofValue (a.eval f) (cl.args.map a.eval); invoke d.target d.args) := by
    unfold execOp; rw [ho]
    simp only [resolve, hc]
  have hnd : ∀ c, o.op ≠ .defer c := fun c h => by rw [ho] at h; cases h
  refine ⟨_, g, fun self S h c K' e ts' h' c' g2 => ?_⟩
  replace g2 : callV E self (evalO f ts) (evalL ts cl.args.toList) h c K' = .ok e ts' h' c' := g2
  obtain ⟨v, h₁, c₁, g2, hrun⟩ := callV_ok T S g2
  refine ⟨v, h₁, c₁, g2, fun φ' w b k cs ops i rest hle hop hwant hh hf => ?_⟩
  obtain ⟨φ'', w', u, hs, hv, nx, hnx, hst⟩ := hrun φ' w _ (cl.args.map a.eval) (fat b a (.inRegion ops (i :: rest) :: k)) cs (VR.mono hle _ _ (eval_VR ht f)) (VRL.mono hle _ _ (evalL_VRL ht cl.args)) hh hf
  refine ⟨φ'', w', u, hs, hv, ?_⟩
  rw [← put_finish hop]
  have hr : (execOp a.eval o).run E.P w = .ok nx w := by rw [he]; exact hnx
  rcases hst with ⟨g', args, rfl, hst⟩ | ⟨l, g', tmps, as, bd, rfl, hst⟩
  · exact (fat_op_enter hop hwant hnd hr).trans hst
  · exact (fat_op_round hop hwant hnd hr).trans hst

/-- every operation that the evaluator knows -/
theorem cmd_ok (T : TabOk E) {φ : Loc} {o : Oper} {a : Act} {K : Kc} (ht : TR E φ ts a.tmps) (g : cmdOf o.op E ts K = .ok e ts' h c) : Good E φ o a K e ts' h c := by
  cases ho : o.op <;> rw [ho] at g <;> try (cases g; done)
  case move x => exact ok_move ht (.inl ho) g
  case assign x => exact ok_move ht (.inr ho) g
  case pick => exact ok_pick ht ho g
  case alloc => exact ok_alloc (ts := ts) T ho g
  case box => exact ok_box T ht ho g
  case build => exact ok_build T ht ho g
  case buildSlice => exact ok_buildSlice T ht ho g
  case load => exact ok_load T ht ho g
  case store => exact ok_store T ht ho g
  case nilCheck => exact ok_nilCheck ht ho g
  case binOp => exact ok_bin T ht ho g
  case unOp => exact ok_un ht ho g
  case convert => exact ok_conv T ht ho g
  case makeInterface => exact ok_iface T ht ho g
  case makeFunc => exact ok_func ht ho g
  case makeMap => exact ok_makeMap (ts := ts) ho g
  case makeChan => exact ok_makeChan T ht ho g
  case makeSlice => exact ok_makeSlice T ht ho g
  case slice => exact ok_slice T ht ho g
  case fieldAddr => exact ok_fieldAddr T ht ho g
  case field => exact ok_field T ht ho g
  case indexAddr => exact ok_indexAddr T ht ho g
  case index => exact ok_index T ht ho g
  case lookup => exact ok_lookup T ht ho g
  case mapUpdate => exact ok_mapUpdate T ht ho g
  case extract => exact ok_extract ht ho g
  case range => exact ok_range T ht ho g
  case next => exact ok_next T ht ho g
  case entry => exact ok_entry T ht ho g
  case select => exact ok_select T ht ho g
  case call cl =>
    have g : cCall cl E ts K = .ok e ts' h c := g
    unfold cCall at g
    cases hcl : cl.callee with
    | value f => rw [hcl] at g; exact ok_callV T ht ho hcl g
    | invoke _ _ => rw [hcl] at g; cases g
    | builtin b =>
      rw [hcl] at g
      have g : cBuiltin b cl.args.toList cl.argTypes.toList E ts K = .ok e ts' h c := g
      cases b <;> try (cases g; done)
      case len => exact ok_len T ht ho hcl g
      case cap => exact ok_cap T ht ho hcl g
      case append => exact ok_append T ht ho hcl g
      case copy => exact ok_copy T ht ho hcl g
      case delete => exact ok_delete T ht ho hcl g
      case min => exact ok_minmax ht (mx := false) ho hcl g
      case max => exact ok_minmax ht (mx := true) ho hcl g
      case clear => exact ok_clear T ht ho hcl g
end
end Go.AE
