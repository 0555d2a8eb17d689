import Derived.Test.YtbnakfpdmiibdaaAEBuilt
import Derived.Laws.Tables
import Derived.Great.BuildSlice
namespace Go.AE
section
variable {E : Env} {φ : Loc} {o : Oper} {a : Act} {ts : Tm} {K : Kc} {e : Ex} {ts' : Tm} {h : Hs} {c : Nat}

theorem layA_VRL {zl l : List AV} {C : Array Value} {us : List Value} {off : Nat} (hz : VRL E φ zl C.toList) (hl : VRL E φ l us) (hoff : off + l.length ≤ zl.length) :
    VRL E φ (splice l off zl) (layA C off us).toList := by
  have e1 := hz.length
  have e2 := hl.length
  have e3 : C.size = zl.length := by simpa using e1
  rw [splice_eq l off zl (by omega)]
  refine VRL.of_get (by simp [size_layA]; omega) fun i x v hx hv => ?_
  rw [Array.getElem?_toList, get_layA _ _ _ _ (by omega)] at hv
  split at hv
  · rename_i hin
    rw [List.append_assoc, List.getElem?_append_right (by simp; omega), List.getElem?_append_left (by simp; omega)] at hx
    rw [List.length_take, Nat.min_eq_left (by omega)] at hx
    obtain ⟨u, hu, hr⟩ := hl.get hx
    rw [hu] at hv; cases hv; exact hr
  · rename_i hin
    rw [← Array.getElem?_toList] at hv
    have hx' : zl[i]? = some x := by
      by_cases hlt : i < off
      · rw [List.append_assoc, List.getElem?_append_left (by simp; omega), List.getElem?_take, if_pos hlt] at hx; exact hx
      · rw [List.getElem?_append_right (by simp; omega), List.getElem?_drop] at hx
        rw [← hx]; congr 1; simp; omega
    obtain ⟨u, hu, hr⟩ := hz.get hx'
    rw [hu] at hv; cases hv; exact hr
theorem layA_one {C : Array Value} {us : List Value} {off : Nat} (hC : ∀ x ∈ C.toList, one x = true) (hu : ∀ x ∈ us, one x = true) (hoff : off + us.length ≤ C.size) : ∀ x ∈ (layA C off us).toList, one x = true := by
  intro x hx
  obtain ⟨i, hi⟩ := List.getElem?_of_mem hx
  rw [Array.getElem?_toList, get_layA _ _ _ _ hoff] at hi
  split at hi
  · exact hu x (List.mem_of_getElem? hi)
  · exact hC x (by rw [← Array.getElem?_toList] at hi; exact List.mem_of_getElem? hi)

theorem foldl_layA (off : Nat) : ∀ (us : List Value) (j : Nat) (C : Array Value), (us.zipIdx j).foldl (fun cs (p : Value × Nat) => cs.setIfInBounds (off + p.2) p.1) C = layA C (off + j) us
  | [], _, _ => rfl
  | u :: us, j, C => by
    rw [List.zipIdx_cons, List.foldl_cons, foldl_layA off us (j + 1)]
    rfl
theorem fill_cons (place : Nat → Option (Nat × Nat)) (C : Array Value) (i : Nat) (v : Value) (rest : List (Nat × Value)) {off size : Nat} (hp : place i = some (off, size)) (hs : v.cells.size = size) (ho : off + size ≤ C.size) :
    Instr.fill place C ((i, v) :: rest) = Instr.fill place (layA C off v.cells.toList) rest := by
  have h1 : ¬ (v.cells.size ≠ size) := by simp [hs]
  have h2 : ¬ (off + v.cells.size > C.size) := by omega
  rw [Instr.fill, hp]
  simp only [h1, h2, decide_false, Bool.false_or, Bool.false_eq_true, or_self, if_false]
  congr 1
  have := foldl_layA off v.cells.toList 0 C
  rw [Nat.add_zero] at this
  rw [← this, ← Array.foldl_toList, Array.toList_zipIdx]

theorem fillParts_ok {d : TypeDesc} (ht : TR E φ ts a.tmps) (pl : Nat → Option (Nat × Nat))
    (hp : ∀ (i : Nat) (K : Nat → Nat → Out), place E i K d = .ok e ts' h c → ∃ off n, pl i = some (off, n) ∧ K off n = .ok e ts' h c) :
    ∀ (l : List (Nat × Operand)) (zl : List AV) (Z : Array Value) (K : List AV → Out), VRL E φ zl Z.toList → (∀ x ∈ Z.toList, one x = true) → fillParts E d ts l zl K = .ok e ts' h c →
      ∃ l' Z', K l' = .ok e ts' h c ∧ Instr.fill pl Z (l.map fun p => (p.1, a.eval p.2)) = some Z' ∧ VRL E φ l' Z'.toList ∧ ∀ x ∈ Z'.toList, one x = true
  | [], zl, Z, K, hz, h1, g => ⟨zl, Z, g, rfl, hz, h1⟩
  | p :: l, zl, Z, K, hz, h1, g => by
    have g' : place E p.1 (fun off size => cellsK (evalO p.2 ts) 258 (fillPart off size zl fun z => fillParts E d ts l z K)) d = .ok e ts' h c := g
    obtain ⟨off, n, hpl, g'⟩ := hp _ _ g'
    obtain ⟨cl, g', hcl⟩ := cellsK_ok g'
    unfold fillPart at g'
    obtain ⟨hn, g'⟩ := guardB_ok g'
    have hn : lenL cl = n := Nat.eq_of_beq_eq_true hn
    rw [lenL_eq] at hn
    obtain ⟨ho, g'⟩ := guardB_ok g'
    have ho : off + n ≤ lenL zl := Nat.le_of_ble_eq_true ho
    rw [lenL_eq] at ho
    obtain ⟨r1, r2⟩ := hcl E φ _ (eval_VR ht p.2)
    have e1 := hz.length
    have e2 := r1.length
    have e3 : Z.size = zl.length := by simpa using e1
    have e4 : (a.eval p.2).cells.size = n := by rw [← hn]; simpa using e2
    obtain ⟨l', Z', g2, hf, hv, ho'⟩ := fillParts_ok ht pl hp l _ (layA Z off (a.eval p.2).cells.toList) K (layA_VRL hz r1 (by omega)) (layA_one h1 r2 (by rw [e2]; omega)) g'
    refine ⟨l', Z', g2, ?_, hv, ho'⟩
    rw [List.map_cons, fill_cons pl Z _ _ _ hpl e4 (by omega)]
    exact hf

theorem known_ok (T : TabOk E) {t : TypeId} (h : known E t = true) : ∃ i, E.P.info? t = some i := by
  unfold known at h
  split at h
  · rename_i i hi; exact ⟨i, T.ty t i hi⟩
  · cases h
theorem places_ok (T : TabOk E) : ∀ (fs : List Field), (∀ f ∈ fs, known E f.type = true) → ∃ pl : List (Nat × Nat), fs.mapM (fun f => (E.P.info? f.type).map fun i => (f.offset, i.size)) = some pl ∧
    ∀ (i : Nat) (f : Field), fs[i]? = some f → ∃ inf, E.P.info? f.type = some inf ∧ pl[i]? = some (f.offset, inf.size)
  | [], _ => ⟨[], rfl, fun i f h => by simp at h⟩
  | f :: fs, hk => by
    obtain ⟨pl, h1, h2⟩ := places_ok T fs fun f hf => hk f (List.mem_cons_of_mem _ hf)
    obtain ⟨inf, hi⟩ := known_ok T (hk f (List.mem_cons_self ..))
    refine ⟨(f.offset, inf.size) :: pl, by simp [List.mapM_cons, hi, h1], fun i f' hf => ?_⟩
    cases i with
    | zero => simp at hf; subst hf; exact ⟨inf, hi, rfl⟩
    | succ i => simp at hf; simpa using h2 i f' hf

theorem ok_build (T : TabOk E) (ht : TR E φ ts a.tmps) {t : TypeId} {parts : Array (Nat × Operand)} (ho : o.op = .build t parts) (g : cBuild t parts E ts K = .ok e ts' h c) : Good E φ o a K e ts' h c := by
  have he : execOp a.eval o = (do pure (Next.value (← Instr.build t (parts.map fun (i, x) => (i, a.eval x))))) := by unfold execOp; rw [ho]
  unfold cBuild at g
  obtain ⟨i, z, hi, hz, g⟩ := zero_ok T g
  obtain ⟨d, hd, g⟩ := und_ok T g
  obtain ⟨hk, g⟩ := guardB_ok g
  obtain ⟨zl, g, hzl⟩ := cellsK_ok g
  obtain ⟨r1, r2⟩ := hzl E φ z (ofValue_VR E φ z)
  have hmap : (parts.map fun (i, x) => (i, a.eval x)).toList = parts.toList.map fun p => (p.1, a.eval p.2) := by simp
  have done : ∀ (l' : List AV) (Z' : Array Value), K (.val (.agg l')) = .ok e ts' h c → VRL E φ l' Z'.toList → (∀ x ∈ Z'.toList, one x = true) → E.P.built t (parts.map fun (i, x) => (i, a.eval x)).toList = some Z' → Good E φ o a K e ts' h c :=
    fun l' Z' g h1 h2 hb => good_val (u := .agg Z') g ⟨Z', rfl, h1, h2⟩ he fun w => run_build w t _ Z' hb
  cases d with
  | struct fs =>
    obtain ⟨pl, p1, p2⟩ := places_ok T fs.toList ((allL_iff _ _).1 hk)
    obtain ⟨l', Z', g, hf, h1, h2⟩ := fillParts_ok (d := .struct fs) ht (pl.toArray[·]?) (fun i K g => by
      unfold place at g
      cases hfi : kidx i fs.toList with
      | none => simp only [hfi] at g; cases g
      | some f =>
        simp only [hfi] at g
        rw [kidx_eq] at hfi
        obtain ⟨inf, q1, q2⟩ := p2 i f hfi
        obtain ⟨inf', q3, g⟩ := size_ok T g
        rw [q1] at q3; cases q3
        exact ⟨_, _, by simpa using q2, g⟩) parts.toList zl z.cells _ r1 r2 g
    refine done l' Z' g h1 h2 ?_
    unfold Program.built
    simp only [hi, hd, hz, p1, hmap]
    exact hf
  | array n el =>
    have hinf : ∀ (i : Nat) (K : Nat → Nat → Out), place E i K (.array n el) = .ok e ts' h c → ∃ inf, E.P.info? el = some inf ∧ K (i * inf.size) inf.size = .ok e ts' h c := fun i K g => size_ok T g
    obtain ⟨inf, hie⟩ := known_ok T (show known E el = true from hk)
    · obtain ⟨l', Z', g, hf, h1, h2⟩ := fillParts_ok (d := .array n el) ht (fun i => some (i * inf.size, inf.size)) (fun i K g => by
        obtain ⟨inf', q, g⟩ := hinf i K g
        rw [hie] at q; cases q
        exact ⟨_, _, rfl, g⟩) parts.toList zl z.cells _ r1 r2 g
      refine done l' Z' g h1 h2 ?_
      unfold Program.built
      simp only [hi, hd, hz, hie, hmap]
      exact hf
  | _ => cases hk

/-! ### slice literals -/
/-- the elements laid so far -/
theorem fillElems_ok (ht : TR E φ ts a.tmps) {sz len : Nat} {zl : List AV} (hsz : 0 < sz) :
    ∀ (l : List (Nat × Operand)) (r : T (List AV)) (Z : Array Value) (K : T (List AV) → Out), RowR E φ (len * sz) sz zl r Z → Z.size = len * sz → (∀ x ∈ Z.toList, one x = true) → fillElems sz len ts l r K = .ok e ts' h c →
      ∃ r' Z', K r' = .ok e ts' h c ∧ Instr.fill (fun i => some (i * sz, sz)) Z (l.map fun p => (p.1, a.eval p.2)) = some Z' ∧ RowR E φ (len * sz) sz zl r' Z' ∧ Z'.size = len * sz
  | [], r, Z, K, hr, hZ, h1, g => ⟨r, Z, g, rfl, hr, hZ⟩
  | p :: l, r, Z, K, hr, hZ, h1, g => by
    have g' : guardB (Nat.blt p.1 len) 259 (cellsK (evalO p.2 ts) 260 (fillElem sz p.1 r fun t => fillElems sz len ts l t K)) = .ok e ts' h c := g
    obtain ⟨hp, g'⟩ := guardB_ok g'
    have hp : p.1 < len := Nat.blt_eq.mp hp
    obtain ⟨cl, g', hcl⟩ := cellsK_ok g'
    unfold fillElem at g'
    obtain ⟨hn, g'⟩ := guardB_ok g'
    have hn : lenL cl = sz := Nat.eq_of_beq_eq_true hn
    rw [lenL_eq] at hn
    rw [ins_eq] at g'
    obtain ⟨r1, r2⟩ := hcl E φ _ (eval_VR ht p.2)
    have e2 := r1.length
    have e4 : (a.eval p.2).cells.size = sz := by rw [← hn]; simpa using e2
    have hle : p.1 * sz + sz ≤ len * sz := by
      have : (p.1 + 1) * sz ≤ len * sz := Nat.mul_le_mul_right _ hp
      rw [Nat.add_mul] at this; omega
    have hdiv : p.1 * sz / sz = p.1 := Nat.mul_div_cancel _ hsz
    have hmod : p.1 * sz % sz = 0 := Nat.mul_mod_left ..
    have hput := hr.put (o := p.1 * sz) (l := cl) (us := (a.eval p.2).cells.toList) (by omega) (by omega) r1 r2 cl (fun _ => by
      have hel := hr.2.2.1 p.1 (by omega)
      rw [hdiv, hmod]; simp [hel, hn])
    rw [hdiv] at hput
    obtain ⟨r', Z', g2, hf, hv, ho'⟩ := fillElems_ok ht hsz l _ (layA Z (p.1 * sz) (a.eval p.2).cells.toList) K hput (by rw [size_layA]; exact hZ) (layA_one h1 r2 (by rw [e2]; omega)) g'
    refine ⟨r', Z', g2, ?_, hv, ho'⟩
    rw [List.map_cons, fill_cons _ Z _ _ _ rfl e4 (by omega)]
    exact hf

theorem ok_buildSlice (T : TabOk E) (ht : TR E φ ts a.tmps) {t : TypeId} {len : Nat} {parts : Array (Nat × Operand)} (ho : o.op = .buildSlice t len parts) (g : cBuildSlice t len parts E ts K = .ok e ts' h c) : Good E φ o a K e ts' h c := by
  have he : execOp a.eval o = (do pure (Next.value (← Instr.buildSlice t len (parts.map fun (i, x) => (i, a.eval x))))) := by unfold execOp; rw [ho]
  unfold cBuildSlice at g
  obtain ⟨d, hd, g⟩ := und_ok T g
  obtain ⟨el, i, rfl, hi, h0, g⟩ := elemK_ok T g
  obtain ⟨i', z, hi', hz, g⟩ := zero_ok T g
  rw [hi] at hi'; cases hi'
  obtain ⟨zl, g, hzl⟩ := cellsK_ok g
  obtain ⟨hn, g⟩ := guardB_ok g
  have hn : lenL zl = i.size := Nat.eq_of_beq_eq_true hn
  rw [lenL_eq] at hn
  obtain ⟨hsm, g⟩ := guardB_ok g
  have hsm : len * i.size ≤ 16777216 := Nat.le_of_ble_eq_true hsm
  obtain ⟨r1, r2⟩ := hzl E φ z (ofValue_VR E φ z)
  obtain ⟨r3, r4⟩ := zeros_row (z := .any) (len := len) h0 r1 r2 hn 0
  have hone : ∀ x ∈ (madeCells z.cells (len * i.size)).toList, one x = true := by
    intro x hx
    obtain ⟨k, hk⟩ := List.getElem?_of_mem hx
    have hk' : k < len * i.size := by have := (List.getElem?_eq_some_iff.1 hk).1; simpa [r4] using this
    obtain ⟨_, v, _, q2, _, q4⟩ := r3.2.2.2 k hk'
    rw [Array.getElem?_toList, q2] at hk; cases hk; exact q4
  obtain ⟨r', Z', g, hf, hv, hZ'⟩ := fillElems_ok ht h0 parts.toList .e _ _ r3 r4 hone g
  have hmap : (parts.map fun (i, x) => (i, a.eval x)).toList = parts.toList.map fun p => (p.1, a.eval p.2) := by simp
  refine ⟨_, g, new_ok fun w => ⟨.slice (some ⟨w.heap.size, 0, none⟩) len len, .cells Z' el, len * i.size, w.drawn, .inl ?_, fun φ' c hle hc => ?_⟩⟩
  · have hrun : (Instr.buildSlice t len (parts.map fun (i, x) => (i, a.eval x))).run E.P w = .ok (.slice (some ⟨w.heap.size, 0, none⟩) len len) (w.alloc (.cells Z' el)) := by
      by_cases hl : len * i.size = 0
      · -- no element: no part either
        have hl0 : len = 0 := by
          rcases Nat.mul_eq_zero.1 hl with h | h
          · exact h
          · omega
        subst hl0
        unfold Instr.buildSlice
        have hm0 : madeCells z.cells (0 * i.size) = #[] := by simp [madeCells]
        rw [hm0, ← hmap] at hf
        have hs0 : (0 * i.size) = 0 := Nat.zero_mul _
        simp only [Sem.run_bind, run_und hd, Result.andThen_ok, run_size hi, hs0, Sem.run_pure, if_true, show ¬ (0 > 2 ^ 24) by decide, if_false]
        have hr0 : (Array.range 0).map (fun x : Nat => (#[] : Array Value)[x % (#[] : Array Value).size]!) = #[] := by simp
        simp only [hs0] at hf
        simp only [hr0]
        simp only [hf, newRow, Sem.run_bind, run_newObj, Result.andThen_ok, Sem.run_pure]
        rfl
      · exact run_buildSlice w t el len _ Z' i z hd hi hz (by omega) hl (by rw [hmap]; exact hf)
    rw [he]
    simp only [Sem.run_bind, hrun, Result.andThen_ok, Sem.run_pure]
    rfl
  · exact ⟨⟨w.heap.size, Z', el, (0, 0), by rw [hZ']; exact hc, push_last w _ _, nofz0 _, hv.mono hle⟩, ⟨w.heap.size, len * i.size, _, len, hc, rfl, Nat.le_refl _, Nat.le_refl _, fun _ => rfl, fun _ => rfl, fun _ => Nat.le_of_eq (Nat.zero_add _), h0⟩⟩
end
end Go.AE
