import Derived.Test.YtbnakfpdmiibdaaAEIter
namespace Go.AE
section
variable {E : Env} {φ : Loc} {o : Oper} {a : Act} {ts : Tm} {K : Kc} {e : Ex} {ts' : Tm} {h h₀ : Hs} {c c₀ : Nat}

theorem turned_setN (w : World) (B : Nat) (x : Obj) (n : Nat) : Turned w { w with heap := w.heap.setIfInBounds B x, drawn := n } B :=
  ⟨by simp, fun B' hB => by simp [Array.getElem?_setIfInBounds, hB.symm], rfl, rfl, rfl⟩
theorem set_sameN {w : World} {B : Nat} {y : Obj} (x : Obj) (n : Nat) (h : w.heap[B]? = some y) : ({ w with heap := w.heap.setIfInBounds B x, drawn := n } : World).heap[B]? = some x := by
  have := (Array.getElem?_eq_some_iff.1 h).1
  simp [this]

theorem nextM_ok {b mb since : Nat} {seen : List Nat} {K : Kv} {l : List Ent} {clock : Nat} (g : nextM b mb since seen h c K l clock = .ok e ts' h₀ c₀) :
    (l = [] ∧ K (.tup [.bool false]) h c = .ok e ts' h₀ c₀) ∨ ∃ en, l = [en] ∧ K (.tup [.bool true, en.k, en.v]) (h.putD b (some (.miter mb since (en.born :: seen) clock (some en.born)))) c = .ok e ts' h₀ c₀ := by
  cases l with
  | nil => exact .inl ⟨rfl, g⟩
  | cons en l =>
    cases l with
    | nil =>
      right
      have g : h.put b (some (.miter mb since (en.born :: seen) clock (some en.born))) (fun h => K (.tup [.bool true, en.k, en.v]) h c) = .ok e ts' h₀ c₀ := g
      rw [put_eq] at g
      exact ⟨en, rfl, g⟩
    | cons _ _ => cases g

theorem ok_next (T : TabOk E) (ht : TR E φ ts a.tmps) {x : Operand} {isS : Bool} (ho : o.op = .next x isS) (g : cNext x isS E ts K = .ok e ts' h c) : Good E φ o a K e ts' h c := by
  have he : execOp a.eval o = (do pure (Next.value (← Instr.next (a.eval x) isS o.type))) := by unfold execOp; rw [ho]
  have hnd : ∀ c, o.op ≠ .defer c := fun c h => by rw [ho] at h; cases h
  have hx := eval_VR ht x
  unfold cNext at g
  obtain ⟨b, off, hxe, g⟩ := ptrOf_ok g
  rw [hxe] at hx
  obtain ⟨B, N, hB, hx⟩ := hx
  obtain ⟨hz, g⟩ := guardB_ok g
  have hz := isZ_ok hz
  subst hz
  refine ⟨_, g, fun self _ h c K' e ts' h' c' g2 => ?_⟩
  replace g2 : nextV b isS h c K' = .ok e ts' h' c' := g2
  unfold nextV at g2
  split at g2
  · rename_i mb since seen stepped cur hb
    have hbn : h.t.get b ≠ none := by rw [hb]; simp
    cases isS with
    | true => cases g2
    | false =>
      have g2 : leftOf mb since seen stepped h (nextM b mb since seen h c K') = .ok e ts' h' c' := g2
      obtain ⟨es, clock, hmb, b1, b2, g2⟩ := leftOf_ok g2
      -- what the world's step does
      have step : ∀ (φ' : Loc) (w : World), φ.le φ' → HR E φ' h.t w → ∃ (M Km : Nat) (sn : Array Nat) (ents : Array MapEntry), φ' b = some (B, N) ∧ φ' mb = some (M, Km) ∧ w.heap[B]? = some (.mapIter (some M) since sn stepped) ∧
          (∀ x, x ∈ sn.toList ↔ x ∈ seen) ∧ EntsR E φ' (unseen seen es) (ents.toList.filter fun e => !sn.contains e.born) ∧
          ((ents.toList.filter (fun e => !sn.contains e.born) = [] ∧ (Instr.next (.pointer (some ⟨B, 0, none⟩)) false o.type).run E.P w = .ok (.tuple #[.bool false]) w) ∨
            ∃ x n, x ∈ ents.toList.filter (fun e => !sn.contains e.born) ∧
              (Instr.next (.pointer (some ⟨B, 0, none⟩)) false o.type).run E.P w = .ok (.tuple #[.bool true, x.key, x.val]) { w with heap := w.heap.setIfInBounds B (.mapIter (some M) since (sn.push x.born) clock), drawn := n }) := by
        intro φ' w hle hh
        obtain ⟨B', N', M, Km, sn, hB', hM, hw, hsn, _⟩ := hh.obj b _ hb
        rw [hle _ _ hB] at hB'; cases hB'
        obtain ⟨M', Km', ents, hM', hwm, hents⟩ := hh.obj mb _ hmb
        rw [hM] at hM'; cases hM'
        refine ⟨M, Km, sn, ents, hle _ _ hB, hM, hw, hsn, unseen_ok hsn es _ hents, ?_⟩
        refine run_next_map hw hwm (fun x hx => ?_) (fun x hx => ?_)
        · obtain ⟨en, hen, hr⟩ := EntsR.mem es _ hents x hx
          rw [hr.2.2]; exact b1 en hen
        · obtain ⟨en, hen, hr⟩ := EntsR.mem es _ hents x hx
          rw [hr.2.2]; exact b2 en hen
      rcases nextM_ok g2 with ⟨hl, g2⟩ | ⟨en, hl, g2⟩
      · refine ⟨_, _, _, g2, CxRun.of_runs hnd fun φ' w hle hh _ => ?_⟩
        obtain ⟨M, Km, sn, ents, hB', hM, hw, hsn, hun, hst⟩ := step φ' w hle hh
        rw [hl] at hun
        have hnil : ents.toList.filter (fun e => !sn.contains e.born) = [] := hun
        rcases hst with ⟨_, hrun⟩ | ⟨x, n, hxm, _⟩
        · exact ⟨φ', w, _, Sim.refl hh, ⟨#[.bool false], rfl, VRL_cons rfl VRL_nil⟩, .inl (by rw [he, hx]; simp only [Sem.run_bind, hrun, Result.andThen_ok, Sem.run_pure])⟩
        · rw [hnil] at hxm; cases hxm
      · refine ⟨_, _, _, g2, CxRun.of_runs hnd fun φ' w hle hh _ => ?_⟩
        obtain ⟨M, Km, sn, ents, hB', hM, hw, hsn, hun, hst⟩ := step φ' w hle hh
        rw [hl] at hun
        obtain ⟨y, r, hfl, hy, hr⟩ := hun
        have hr : r = [] := hr
        subst hr
        rcases hst with ⟨hnil, _⟩ | ⟨x, n, hxm, hrun⟩
        · rw [hnil] at hfl; cases hfl
        · rw [hfl] at hxm
          have : x = y := by simpa using hxm
          subst this
          refine ⟨φ', _, _, Sim.put hh hbn hB' (turned_setN w B (.mapIter (some M) since (sn.push x.born) clock) n) ⟨B, N, M, Km, _, hB', hM, set_sameN _ n hw, fun z => ?_, fun s hs => ?_⟩,
            ⟨#[.bool true, x.key, x.val], rfl, VRL_cons rfl (VRL_cons hy.1 (VRL_cons hy.2.1 VRL_nil))⟩, .inl (by rw [he, hx]; simp only [Sem.run_bind, hrun, Result.andThen_ok, Sem.run_pure])⟩
          · rw [Array.toList_push, List.mem_append, List.mem_singleton, List.mem_cons, hsn, hy.2.2]
            exact Or.comm
          · cases hs; simp [hy.2.2]
  · rename_i s p hb
    have hbn : h.t.get b ≠ none := by rw [hb]; simp
    cases isS with
    | false => cases g2
    | true =>
      have g2 : nextS b p h c K' s = .ok e ts' h' c' := g2
      cases s with
      | nil =>
        have g2 : K' (.tup [.bool false]) h c = .ok e ts' h' c' := g2
        refine ⟨_, _, _, g2, CxRun.of_runs hnd fun φ' w hle hh _ => ?_⟩
        obtain ⟨B', N', whole, hB', hw, hdrop, hpos⟩ := hh.obj b _ hb
        rw [hle _ _ hB] at hB'; cases hB'
        refine ⟨φ', w, _, Sim.refl hh, ⟨#[.bool false], rfl, VRL_cons rfl VRL_nil⟩, .inl ?_⟩
        have hge : ¬ p < whole.size := by
          have := List.drop_eq_nil_iff.1 hdrop
          simp at this
          have h2 : whole.size = whole.data.size := rfl
          omega
        have hg : (getObj B).run E.P w = .ok (.stringIter whole p) w := by simp [getObj, Sem.run, hw]
        rw [he, hx]
        unfold Instr.next
        simp only [Sem.run_bind, hg, Result.andThen_ok, hge, if_false, Sem.run_pure]
      | cons y s =>
        have g2 : guardB (Nat.blt y.toNat 128) 127 (h.put b (some (.siter s (Nat.succ p))) fun h => K' (.tup [.bool true, .int .i64 (.ofNat p), .int .i32 (.ofNat y.toNat)]) h c) = .ok e ts' h' c' := g2
        obtain ⟨hy, g2⟩ := guardB_ok g2
        have hy := Nat.blt_eq.mp hy
        rw [put_eq] at g2
        refine ⟨_, _, _, g2, CxRun.of_runs hnd fun φ' w hle hh _ => ?_⟩
        obtain ⟨B', N', whole, hB', hw, hdrop, hpos⟩ := hh.obj b _ hb
        rw [hle _ _ hB] at hB'; cases hB'
        have hsz : whole.size = whole.data.toList.length := by rw [Array.length_toList]; rfl
        have hlt : p < whole.size := by
          rw [hsz]
          apply Nat.lt_of_not_le
          intro hh2
          rw [List.drop_eq_nil_of_le hh2] at hdrop; cases hdrop
        have hget : whole[p]'hlt = y ∧ whole.data.toList.drop (p + 1) = s := by
          rw [List.drop_eq_getElem_cons (by omega)] at hdrop
          obtain ⟨e1, e2⟩ := List.cons.inj hdrop
          exact ⟨e1, e2⟩
        have hg : (getObj B).run E.P w = .ok (.stringIter whole p) w := by simp [getObj, Sem.run, hw]
        have hs : (setObj B (.stringIter whole (p + 1))).run E.P w = .ok () { w with heap := w.heap.setIfInBounds B (.stringIter whole (p + 1)) } := by simp [setObj, Sem.run, hw]
        have hdec := decode_ascii whole p hlt (by rw [hget.1]; exact hy)
        rw [hget.1] at hdec
        refine ⟨φ', _, .tuple #[.bool true, .int .i64 p, .int .i32 y.toNat], Sim.put hh hbn (hle _ _ hB) (turned_setN w B (.stringIter whole (p + 1)) w.drawn) ⟨B, N, whole, hle _ _ hB, set_sameN _ _ hw, hget.2, hlt⟩,
          ⟨_, rfl, VRL_cons rfl (VRL_cons rfl (VRL_cons rfl VRL_nil))⟩, .inl ?_⟩
        rw [he, hx]
        unfold Instr.next
        simp only [Sem.run_bind, hg, Result.andThen_ok, hlt, if_true, hdec, hs, Sem.run_pure]
        rfl
  · cases g2

theorem findBorn_ok {φ : Loc} {s : Nat} : ∀ (es : List Ent) (m : List MapEntry) (en : Ent), EntsR E φ es m → findBorn s es = some en → ∃ x, m.find? (·.born == s) = some x ∧ EntR E φ en x
  | [], m, en, hm, hf => by cases hf
  | p :: es, m, en, hm, hf => by
    simp only [EntsR] at hm
    obtain ⟨x, r, rfl, hx, hm⟩ := hm
    have hf' : Bool.rec (motive := fun _ => Option Ent) (findBorn s es) (some p) (Nat.beq p.born s) = some en := hf
    cases hb : Nat.beq p.born s with
    | true =>
      rw [hb] at hf'; cases hf'
      have hb := Nat.eq_of_beq_eq_true hb
      exact ⟨x, by rw [List.find?_cons_of_pos (by rw [hx.2.2, hb]; simp)], hx⟩
    | false =>
      rw [hb] at hf'
      have hne : ¬ p.born = s := fun h2 => by subst h2; rw [Nat.beq_refl] at hb; cases hb
      obtain ⟨y, h1, h2⟩ := findBorn_ok es r en hm hf'
      exact ⟨y, by rw [List.find?_cons_of_neg (by rw [hx.2.2]; simpa using hne)]; exact h1, h2⟩

theorem ok_entry (T : TabOk E) (ht : TR E φ ts a.tmps) {x : Operand} (ho : o.op = .entry x) (g : cEntry x E ts K = .ok e ts' h c) : Good E φ o a K e ts' h c := by
  have he : execOp a.eval o = (do pure (Next.value (← Instr.entry (a.eval x)))) := by unfold execOp; rw [ho]
  have hnd : ∀ c, o.op ≠ .defer c := fun c h => by rw [ho] at h; cases h
  have hx := eval_VR ht x
  unfold cEntry at g
  obtain ⟨b, off, hxe, g⟩ := ptrOf_ok g
  rw [hxe] at hx
  obtain ⟨B, N, hB, hx⟩ := hx
  obtain ⟨hz, g⟩ := guardB_ok g
  have hz := isZ_ok hz
  subst hz
  refine ⟨_, g, fun self _ h c K' e ts' h' c' g2 => ?_⟩
  replace g2 : entV b h c K' = .ok e ts' h' c' := g2
  have main : ∀ (mb stepped s : Nat), entM mb stepped s h c K' = .ok e ts' h' c' → (∀ (φ' : Loc) (w : World), φ.le φ' → HR E φ' h.t w → ∃ M Km since sn, φ' mb = some (M, Km) ∧ w.heap[B]? = some (.mapIter (some M) since sn stepped) ∧ sn.back? = some s) →
      ∃ v h₁ c₁, K' v h₁ c₁ = .ok e ts' h' c' ∧ CxRun E φ o a h c v h₁ c₁ := by
    intro mb stepped s g2 hit
    unfold entM at g2
    split at g2
    · rename_i es clock hmb
      obtain ⟨hcl, g2⟩ := guardB_ok g2
      have hcl : clock = stepped := Nat.eq_of_beq_eq_true hcl
      unfold entE at g2
      split at g2
      · rename_i en hfb
        refine ⟨_, _, _, g2, CxRun.of_runs hnd fun φ' w hle hh _ => ?_⟩
        obtain ⟨M, Km, since, sn, hM, hw, hback⟩ := hit φ' w hle hh
        obtain ⟨M', Km', ents, hM', hwm, hents⟩ := hh.obj mb _ hmb
        rw [hM] at hM'; cases hM'
        obtain ⟨y, hf, hy⟩ := findBorn_ok es _ _ hents hfb
        refine ⟨φ', w, _, Sim.refl hh, ⟨#[y.key, y.val], rfl, VRL_cons hy.1 (VRL_cons hy.2.1 VRL_nil)⟩, .inl ?_⟩
        have hg : (getObj B).run E.P w = .ok (.mapIter (some M) since sn stepped) w := by simp [getObj, Sem.run, hw]
        have hf' : ents.find? (·.born == s) = some y := by rw [← Array.find?_toList]; exact hf
        have hne : ¬ (clock != stepped) = true := by simp [hcl]
        rw [he, hx]
        unfold Instr.entry
        simp only [Sem.run_bind, hg, Result.andThen_ok, hback, run_getMap hwm, hne, if_false, hf', Sem.run_pure, Bool.false_eq_true]
      · cases g2
    · cases g2
  unfold entV at g2
  split at g2
  · rename_i mb since seen stepped cur hb
    split at g2
    · rename_i s
      refine main mb stepped s g2 fun φ' w hle hh => ?_
      obtain ⟨B', N', M, Km, sn, hB', hM, hw, hsn, hcur⟩ := hh.obj b _ hb
      rw [hle _ _ hB] at hB'; cases hB'
      exact ⟨M, Km, _, sn, hM, hw, hcur s rfl⟩
    · cases g2
  · rename_i mb stepped s hb
    refine main mb stepped s g2 fun φ' w hle hh => ?_
    obtain ⟨B', N', M, Km, since, sn, hB', hM, hw, hback⟩ := hh.obj b _ hb
    rw [hle _ _ hB] at hB'; cases hB'
    exact ⟨M, Km, _, sn, hM, hw, hback⟩
  · cases g2
end
end Go.AE
