import Derived.Test.YtbnakfpdmiibdaaAEApp3
namespace Go.AE
section
variable {E : Env} {φ : Loc} {o : Oper} {a : Act} {ts : Tm} {K : Kc} {e : Ex} {ts' : Tm} {h : Hs} {c : Nat} {cl : Call}

theorem add_zero_addr (ad : Addr) : ad.add 0 = ad := by simp [Addr.add]

theorem ok_copy (T : TabOk E) (ht : TR E φ ts a.tmps) (ho : o.op = .call cl) (hb : cl.callee = .builtin .copy) (g : cCopy cl.args.toList cl.argTypes.toList E ts K = .ok e ts' h c) : Good E φ o a K e ts' h c := by
  obtain ⟨cs, he⟩ := ex_builtin (a := a) ho hb
  have hnd : ∀ c, o.op ≠ .defer c := fun c h => by rw [ho] at h; cases h
  unfold cCopy at g
  obtain ⟨t, hty, g⟩ := argTy_ok g
  obtain ⟨d, hax, hx, g⟩ := arg_ok ht g
  obtain ⟨x, hay, hy, g⟩ := arg_ok ht g
  obtain ⟨D, hd, g⟩ := und_ok T g
  obtain ⟨el, i, rfl, hi, h0, g⟩ := elemK_ok T g
  have hr : execOp a.eval o = (do pure (Next.value (← Builtin.copy_ cl.argTypes o.type (cl.args.map a.eval)))) := he
  refine ⟨_, g, fun self _ h c K' e ts' h' c' g2 => ?_⟩
  unfold copyX at g2
  obtain ⟨dl, g2, hdl⟩ := lenV_ok g2
  obtain ⟨xl, g2, hxl⟩ := lenV_ok g2
  rw [forceN_eq] at g2
  unfold copyD at g2
  obtain ⟨L, g2, hLn, hsrc⟩ := srcE_ok (E := E) g2
  have run : ∀ {φ' : Loc} {w w' : World} {us : List Value} {base : Option Addr} {cap : Nat}, φ.le φ' → a.eval d = .slice base dl cap → (Builtin.firstCells i.size (Nat.min xl dl) (a.eval x)).run E.P w = .ok us.toArray w →
      (match base with | some ad => (storeCells ad us 0).run E.P w = .ok () w' | none => w' = w) → Runs E.P o a w (goInt (Nat.min xl dl)) w' := by
    intro φ' w w' us base cap hle hdv hfc hst
    left
    rw [hr]
    unfold Builtin.copy_
    simp only [hty, hax, hay, hdv, Sem.run_bind, run_und hd, Result.andThen_ok, hxl E φ' _ (VR.mono hle _ _ hy) E.P w, run_size hi, hfc, Sem.run_pure]
    cases base with
    | none => subst hst; rfl
    | some ad =>
      have hst' : (storeCells ad us 0).run E.P w = .ok () w' := hst
      simp only [hst', Sem.run_bind, Result.andThen_ok, Sem.run_pure]
  split at g2
  · rename_i b off len cap s ex hde
    rw [hde] at hx
    obtain ⟨B, N, ad, cap', hB, hdv, hlc, hcc, hex, had, hN, _⟩ := hx
    have hdl2 := hdl E φ _ (by rw [hde]; exact ⟨B, N, ad, cap', hB, rfl, hlc, hcc, hex, had, hN, by assumption⟩) E.P default
    have hdl3 : dl = len := by simp only [Builtin.lenOf, Sem.run_pure] at hdl2; cases hdl2; rfl
    subst hdl3
    obtain ⟨hs, g3⟩ := guardB_ok g2
    have hs : s = i.size := Nat.eq_of_beq_eq_true hs
    obtain ⟨h', g3, hst⟩ := stE_ok g3
    refine ⟨_, _, _, g3, CxRun.of_runs hnd fun φ' w hle hh _ => ?_⟩
    obtain ⟨q1, us, q3, q4, q5⟩ := hsrc φ' w _ h0 hh (VR.mono hle _ _ hy)
    have hB' := hle _ _ hB
    have hus : us.length = Nat.min xl dl * i.size := by rw [q3.length, flat_length L q1, hLn]
    obtain ⟨w', hrun, hsim⟩ := StOk.at_slice (off := off) (k := 0) (cap' := cap') (hst E φ' us h0 q1 q3 q4) hB' had (fun hc0 => by
      have h1 : Nat.min xl dl = 0 := by have : Nat.min xl dl ≤ dl := Nat.min_le_right ..; omega
      rw [h1, Nat.zero_mul] at hus
      exact List.length_eq_zero_iff.1 hus) hh c
    rw [add_zero_addr] at hrun
    exact ⟨φ', w', _, hsim, rfl, run hle hdv (q5 w.drawn) hrun⟩
  · rename_i hde
    rw [hde] at hx; simp only [VR] at hx
    have hdl2 := hdl E φ _ (by rw [hde]; rfl) E.P default
    have hdl3 : dl = 0 := by simp only [Builtin.lenOf, Sem.run_pure] at hdl2; cases hdl2; rfl
    subst hdl3
    refine ⟨_, _, _, g2, CxRun.of_runs hnd fun φ' w hle hh _ => ?_⟩
    obtain ⟨q1, us, q3, q4, q5⟩ := hsrc φ' w _ h0 hh (VR.mono hle _ _ hy)
    exact ⟨φ', w, _, Sim.refl hh, rfl, run hle hx (q5 w.drawn) rfl⟩
  · cases g2

theorem ok_clear (T : TabOk E) (ht : TR E φ ts a.tmps) (ho : o.op = .call cl) (hb : cl.callee = .builtin .clear) (g : cClear cl.args.toList cl.argTypes.toList E ts K = .ok e ts' h c) : Good E φ o a K e ts' h c := by
  obtain ⟨cs, he⟩ := ex_builtin (a := a) ho hb
  have hnd : ∀ c, o.op ≠ .defer c := fun c h => by rw [ho] at h; cases h
  unfold cClear at g
  obtain ⟨t, hty, g⟩ := argTy_ok g
  obtain ⟨x, hax, hx, g⟩ := arg_ok ht g
  obtain ⟨D, hd, g⟩ := und_ok T g
  have hr : execOp a.eval o = (do pure (Next.value (← Builtin.clear_ cl.argTypes o.type (cl.args.map a.eval)))) := he
  unfold clearD at g
  split at g
  · rename_i el
    obtain ⟨i, z, hi, hz, g⟩ := zero_ok T g
    obtain ⟨zl, g, hzl⟩ := cellsK_ok g
    obtain ⟨i', hi', g⟩ := size_ok T g
    rw [hi] at hi'; cases hi'
    obtain ⟨hzn, g⟩ := guardB_ok g
    have hzn : lenL zl = i.size := Nat.eq_of_beq_eq_true hzn
    rw [lenL_eq] at hzn
    split at g
    · rename_i hxe
      rw [hxe] at hx; simp only [VR] at hx
      refine good_val (u := .tuple #[]) g ⟨#[], rfl, VRL_nil⟩ hr (fun w => ?_)
      unfold Builtin.clear_
      simp only [hty, hax, hx, Sem.run_bind, run_und hd, Result.andThen_ok, Sem.run_pure]
    · rename_i b off n cap s ex hxe
      rw [hxe] at hx
      obtain ⟨B, N, ad, cap', hB, hxv, hlc, hcc, hex, had, hN, hs0⟩ := hx
      obtain ⟨hs, g⟩ := guardB_ok g
      have hs : s = i.size := Nat.eq_of_beq_eq_true hs
      refine ⟨_, g, fun self _ h c K' e ts' h' c' g2 => ?_⟩
      obtain ⟨h', g2, hst⟩ := stE_ok g2
      refine ⟨_, _, _, g2, CxRun.of_runs hnd fun φ' w hle hh _ => ?_⟩
      obtain ⟨r1, r2⟩ := hzl E φ' z (ofValue_VR E φ' z)
      obtain ⟨q1, q2, q3, q4⟩ := zeros_VRL r1 r2 hzn n
      have hB' := hle _ _ hB
      have hus : (List.replicate n z.cells.toList).flatten.length = n * i.size := by rw [q3.length, flat_length _ q1, q2]
      obtain ⟨w', hrun, hsim⟩ := StOk.at_slice (off := off) (k := 0) (cap' := cap') (hst E φ' _ (by omega) q1 q3 q4) hB' had (fun hc0 => by
        have h1 : n = 0 := by omega
        rw [h1, Nat.zero_mul] at hus
        rw [h1]; rfl) hh c
      rw [add_zero_addr] at hrun
      refine ⟨φ', w', .tuple #[], hsim, ⟨#[], rfl, VRL_nil⟩, .inl ?_⟩
      rw [hr]
      unfold Builtin.clear_
      by_cases hn : n = 0
      · subst hn
        have : w' = w := by
          simp only [List.replicate_zero, List.flatten_nil, storeCells, Sem.run_pure] at hrun
          cases hrun; rfl
        subst this
        simp only [hty, hax, hxv, Sem.run_bind, run_und hd, Result.andThen_ok, Sem.run_pure]
      · have hz2 := zeroCells_eq z.cells n
        cases n with
        | zero => exact absurd rfl hn
        | succ n => simp only [hty, hax, hxv, Sem.run_bind, run_und hd, Result.andThen_ok, Sem.run_pure, run_zero hi hz, hz2, hrun]
    · cases g
  · cases g

/-! ### maps that turn -/
theorem run_setMap {P : Program} {w : World} {B : Nat} {ents : Array MapEntry} {n : Nat} (x : Obj) (h : w.heap[B]? = some (.map ents n)) : (setObj B x).run P w = .ok () { w with heap := w.heap.setIfInBounds B x } := by simp [setObj, Sem.run, h]
theorem turned_set (w : World) (B : Nat) (x : Obj) : Turned w { w with heap := w.heap.setIfInBounds B x } B :=
  ⟨by simp, fun B' hB => by simp [Array.getElem?_setIfInBounds, hB.symm], rfl, rfl, rfl⟩
theorem set_same {w : World} {B : Nat} {y : Obj} (x : Obj) (h : w.heap[B]? = some y) : ({ w with heap := w.heap.setIfInBounds B x } : World).heap[B]? = some x := by
  have := (Array.getElem?_eq_some_iff.1 h).1
  simp [this]

theorem EntsR.append {φ : Loc} : ∀ (l l' : List Ent) (m m' : List MapEntry), EntsR E φ l m → EntsR E φ l' m' → EntsR E φ (l ++ l') (m ++ m') := by
  intro l
  induction l with
  | nil => intro l' m m' h h'; simp only [EntsR] at h; subst h; exact h'
  | cons p l ih => intro l' m m' h h'; simp only [EntsR] at h; obtain ⟨x, r, rfl, hx, h⟩ := h; exact ⟨x, r ++ m', rfl, hx, ih l' r m' h h'⟩
theorem EntsR.get {φ : Loc} : ∀ (l : List Ent) (m : List MapEntry), EntsR E φ l m → ∀ {i : Nat} {en : Ent}, l[i]? = some en → ∃ x, m[i]? = some x ∧ EntR E φ en x := by
  intro l
  induction l with
  | nil => intro m _ i en h; simp at h
  | cons p l ih =>
    intro m h i en hi
    simp only [EntsR] at h; obtain ⟨x, r, rfl, hx, h⟩ := h
    cases i with
    | zero => simp at hi; subst hi; exact ⟨x, rfl, hx⟩
    | succ i => simp at hi; simpa using ih r h hi
theorem EntsR.set {φ : Loc} {en : Ent} {x : MapEntry} (hx : EntR E φ en x) : ∀ (l : List Ent) (m : List MapEntry) (i : Nat), EntsR E φ l m → EntsR E φ (l.set i en) (m.set i x) := by
  intro l
  induction l with
  | nil => intro m i h; simp only [EntsR] at h; subst h; simp [EntsR]
  | cons p l ih =>
    intro m i h
    simp only [EntsR] at h; obtain ⟨y, r, rfl, hy, h⟩ := h
    cases i with
    | zero => exact ⟨x, r, rfl, hx, h⟩
    | succ i => exact ⟨y, r.set i x, rfl, hy, ih r i h⟩
theorem EntsR.erase {φ : Loc} : ∀ (l : List Ent) (m : List MapEntry) (i : Nat), EntsR E φ l m → EntsR E φ (l.eraseIdx i) (m.eraseIdx i) := by
  intro l
  induction l with
  | nil => intro m i h; simp only [EntsR] at h; subst h; simp [EntsR]
  | cons p l ih =>
    intro m i h
    simp only [EntsR] at h; obtain ⟨y, r, rfl, hy, h⟩ := h
    cases i with
    | zero => exact h
    | succ i => exact ⟨y, r.eraseIdx i, rfl, hy, ih r i h⟩

theorem mapBlk_ok {v : AV} {K : Nat → Out} (g : mapBlk v K = .ok e ts' h c) : ∃ b, v = .map b ∧ K b = .ok e ts' h c := by
  unfold mapBlk at g
  split at g
  · exact ⟨_, rfl, g⟩
  · cases g

theorem undef_VR (E : Env) (φ : Loc) : VR E φ (.tup []) undef := ⟨#[], rfl, VRL_nil⟩

theorem ok_mapUpdate (T : TabOk E) (ht : TR E φ ts a.tmps) {t : TypeId} {m k v : Operand} (ho : o.op = .mapUpdate t m k v) (g : cMapUpdate t m k v E ts K = .ok e ts' h c) : Good E φ o a K e ts' h c := by
  have he : execOp a.eval o = (do Instr.mapUpdate t (a.eval m) (a.eval k) (a.eval v); pure .skip) := by unfold execOp; rw [ho]
  have hnd : ∀ c, o.op ≠ .defer c := fun c h => by rw [ho] at h; cases h
  have hm := eval_VR ht m
  have hk := eval_VR ht k
  have hv := eval_VR ht v
  unfold cMapUpdate at g
  obtain ⟨D, hd, g⟩ := und_ok T g
  obtain ⟨kt, el, kd, rfl, hkd, hkk, g⟩ := mapElem_ok T g
  obtain ⟨b, hme, g⟩ := mapBlk_ok g
  rw [hme] at hm
  obtain ⟨B, N, hB, hm⟩ := hm
  refine ⟨_, g, fun self _ h c K' e ts' h' c' g2 => ?_⟩
  replace g2 : updB b (evalO k ts) (evalO v ts) h (fun h => K' (.tup []) h c) = .ok e ts' h' c' := g2
  unfold updB at g2
  split at g2
  · rename_i es clock hb
    have hbn : h.t.get b ≠ none := by rw [hb]; simp
    unfold updK at g2
    split at g2
    · rename_i r hr
      split at g2
      · rw [put_eq] at g2
        refine ⟨_, _, _, g2, CxRun.of_runs hnd fun φ' w hle hh _ => ?_⟩
        obtain ⟨B', N', ents, hB', hw, hents⟩ := hh.obj b _ hb
        rw [hle _ _ hB] at hB'; cases hB'
        have hf := (find_ok hkk (VR.mono hle _ _ hk) es ents.toList _ 0 hents hr).1
        refine ⟨φ', _, undef, Sim.put hh hbn (hle _ _ hB) (turned_set w B (.map (ents.push { key := a.eval k, val := a.eval v, born := clock }) (clock + 1)))
          ⟨B, N, _, hle _ _ hB, set_same _ hw, ?_⟩, undef_VR .., .inr ⟨?_, rfl⟩⟩
        · rw [appL_eq, Array.toList_push]
          exact EntsR.append _ _ _ _ hents ⟨_, [], rfl, ⟨VR.mono hle _ _ hk, VR.mono hle _ _ hv, rfl⟩, rfl⟩
        · rw [he]
          unfold Instr.mapUpdate
          simp only [Sem.run_bind, run_und hd, Result.andThen_ok, hm, run_getMap hw, keyD_checks hkd hkk, run_findKey hkd hf, run_setMap _ hw, Sem.run_pure]
      · rename_i vold
        rw [put_eq] at g2
        refine ⟨_, _, _, g2, CxRun.of_runs hnd fun φ' w hle hh _ => ?_⟩
        obtain ⟨B', N', ents, hB', hw, hents⟩ := hh.obj b _ hb
        rw [hle _ _ hB] at hB'; cases hB'
        obtain ⟨i, en, x, q1, q2, q3, q4, q5, q6, q7, q8, q9⟩ := find_ok hkk (VR.mono hle _ _ hk) es ents.toList _ 0 hents hr
        rw [Nat.zero_add] at q4
        obtain ⟨x', q2', hx1, hx2, hx3⟩ := EntsR.get es ents.toList hents q1
        rw [q2] at q2'; cases q2'
        have hmod : (ents.modify i fun e => { e with key := a.eval k, val := a.eval v }).toList = ents.toList.set i { x with key := a.eval k, val := a.eval v } := by
          apply List.ext_getElem?
          intro j
          rw [Array.getElem?_toList, Array.getElem?_modify, List.getElem?_set, Array.getElem?_toList]
          by_cases hij : i = j
          · subst hij
            have := (List.getElem?_eq_some_iff.1 q2).1
            rw [Array.getElem?_toList] at q2
            simp [q2]
            simpa using this
          · simp [hij]
        refine ⟨φ', _, undef, Sim.put hh hbn (hle _ _ hB) (turned_set w B (.map (ents.modify i fun e => { e with key := a.eval k, val := a.eval v }) clock))
          ⟨B, N, _, hle _ _ hB, set_same _ hw, ?_⟩, undef_VR .., .inr ⟨?_, rfl⟩⟩
        · rw [q8, hmod]
          refine EntsR.set (en := ⟨en.k, evalO v ts, en.born⟩) (x := { x with key := a.eval k, val := a.eval v }) ⟨?_, VR.mono hle _ _ hv, hx3⟩ _ _ _ hents
          show VR E φ' en.k (a.eval k)
          rw [← q5]; exact hx1
        · have hkey : (((ents[i]?).map (·.key)).getD (a.eval k)) = x.key := by
            rw [Array.getElem?_toList] at q2
            rw [q2]; rfl
          rw [he]
          unfold Instr.mapUpdate
          simp only [Sem.run_bind, run_und hd, Result.andThen_ok, hm, run_getMap hw, keyD_checks hkd hkk, run_findKey hkd q4, hkey, Instr.keyThatStays, q6, if_true, run_setMap _ hw, Sem.run_pure]
    · cases g2
  · cases g2

theorem ok_delete (T : TabOk E) (ht : TR E φ ts a.tmps) (ho : o.op = .call cl) (hb : cl.callee = .builtin .delete) (g : cDelete cl.args.toList cl.argTypes.toList E ts K = .ok e ts' h c) : Good E φ o a K e ts' h c := by
  obtain ⟨cs, he⟩ := ex_builtin (a := a) ho hb
  have hnd : ∀ c, o.op ≠ .defer c := fun c h => by rw [ho] at h; cases h
  unfold cDelete at g
  obtain ⟨t, hty, g⟩ := argTy_ok g
  obtain ⟨m, hax, hm, g⟩ := arg_ok ht g
  obtain ⟨k, hay, hk, g⟩ := arg_ok ht g
  obtain ⟨D, hd, g⟩ := und_ok T g
  obtain ⟨kt, el, kd, rfl, hkd, hkk, g⟩ := mapElem_ok T g
  have hr : execOp a.eval o = (do pure (Next.value (← Builtin.delete_ cl.argTypes o.type (cl.args.map a.eval)))) := he
  unfold delM at g
  split at g
  · rename_i b hme
    rw [hme] at hm
    obtain ⟨B, N, hB, hm⟩ := hm
    refine ⟨_, g, fun self _ h c K' e ts' h' c' g2 => ?_⟩
    replace g2 : delB b (evalO k ts) h (fun h => K' (.tup []) h c) = .ok e ts' h' c' := g2
    unfold delB at g2
    split at g2
    · rename_i es clock hb
      have hbn : h.t.get b ≠ none := by rw [hb]; simp
      split at g2
      · rename_i r hrr
        rw [put_eq] at g2
        refine ⟨_, _, _, g2, CxRun.of_runs hnd fun φ' w hle hh _ => ?_⟩
        obtain ⟨B', N', ents, hB', hw, hents⟩ := hh.obj b _ hb
        rw [hle _ _ hB] at hB'; cases hB'
        have hff := find_ok hkk (VR.mono hle _ _ hk) es ents.toList r 0 hents hrr
        have main : ∀ (ents' : Array MapEntry), EntsR E φ' (aDel (evalO k ts) es) ents'.toList → (Builtin.delete_ cl.argTypes o.type (cl.args.map a.eval)).run E.P w = .ok (.tuple #[]) { w with heap := w.heap.setIfInBounds B (.map ents' clock) } →
            ∃ φ'' w' u, Sim E φ' h c w φ'' (h.putD b (some (.map (aDel (evalO k ts) es) clock))) c w' ∧ VR E φ'' (.tup []) u ∧ Runs E.P o a w u w' := fun ents' h1 h2 =>
          ⟨φ', _, .tuple #[], Sim.put hh hbn (hle _ _ hB) (turned_set w B (.map ents' clock)) ⟨B, N, _, hle _ _ hB, set_same _ hw, h1⟩, ⟨#[], rfl, VRL_nil⟩, .inl (by
            rw [hr]; simp only [Sem.run_bind, h2, Result.andThen_ok, Sem.run_pure])⟩
        cases r with
        | none =>
          obtain ⟨hf, hdel⟩ := hff
          refine main ents (by rw [hdel]; exact hents) ?_
          unfold Builtin.delete_
          simp only [hty, hax, hay, Sem.run_bind, run_und hd, Result.andThen_ok, hm, run_getMap hw, keyD_checks hkd hkk, run_findKey hkd hf, run_setMap _ hw, Sem.run_pure]
        | some v =>
          obtain ⟨i, en, x, q1, q2, q3, q4, q5, q6, q7, q8, q9⟩ := hff
          rw [Nat.zero_add] at q4
          refine main (ents.eraseIdxIfInBounds i) ?_ ?_
          · rw [q9]
            have hi : i < ents.size := by have := (List.getElem?_eq_some_iff.1 q2).1; simpa using this
            have : (ents.eraseIdxIfInBounds i).toList = ents.toList.eraseIdx i := by
              unfold Array.eraseIdxIfInBounds
              rw [dif_pos hi, Array.toList_eraseIdx]
            rw [this]
            exact EntsR.erase _ _ _ hents
          · unfold Builtin.delete_
            simp only [hty, hax, hay, Sem.run_bind, run_und hd, Result.andThen_ok, hm, run_getMap hw, keyD_checks hkd hkk, run_findKey hkd q4, run_setMap _ hw, Sem.run_pure]
      · cases g2
    · cases g2
  · rename_i hme
    rw [hme] at hm; simp only [VR] at hm
    refine good_val (u := .tuple #[]) g ⟨#[], rfl, VRL_nil⟩ hr (fun w => ?_)
    unfold Builtin.delete_
    simp only [hty, hax, hay, Sem.run_bind, run_und hd, Result.andThen_ok, hm, keyD_checks hkd hkk, Sem.run_pure]
  · cases g
end
end Go.AE
