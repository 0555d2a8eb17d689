import Derived.Test.YtbnakfpdmiibdaaAEMake
namespace Go.AE
section
variable {E : Env} {φ : Loc} {o : Oper} {a : Act} {ts : Tm} {K : Kc} {e : Ex} {ts' : Tm} {h : Hs} {c : Nat}

/-! ### variables -/
theorem rd1_ok {off : Nat} {K : AV → Out} {ao : Option AObj} (g : rd1 off K ao = .ok e ts' h c) :
    ∃ n sz pat t v, ao = some (.row n sz pat t) ∧ K v = .ok e ts' h c ∧ ∀ (E : Env) (φ : Loc) (C : Array Value), RowR E φ n sz pat t C → ∃ u, C[off]? = some u ∧ VR E φ v u := by
  unfold rd1 at g
  split at g
  · rename_i n sz pat t
    obtain ⟨hn, g⟩ := guardB_ok g
    have hn : off < n := Nat.blt_eq.mp hn
    obtain ⟨v, hv, g⟩ := oneOf_ok g
    rw [kidx_eq] at hv
    refine ⟨n, sz, pat, t, v, rfl, g, fun E φ C hr => ?_⟩
    obtain ⟨a, u, h1, h2, h3, _⟩ := hr.2.2.2 off hn
    have : (elemAt pat (t.get (off / sz)))[off % sz]? = some v := hv
    rw [h1] at this; cases this
    exact ⟨u, h2, h3⟩
  · cases g
theorem rdN_ok {off m : Nat} {K : AV → Out} {ao : Option AObj} (g : rdN off m K ao = .ok e ts' h c) :
    ∃ n sz pat t l, ao = some (.row n sz pat t) ∧ K (.agg l) = .ok e ts' h c ∧ off + m ≤ n ∧ ∀ (E : Env) (φ : Loc) (C : Array Value), RowR E φ n sz pat t C →
      VRL E φ l (C.extract off (off + m)).toList ∧ ∀ v ∈ (C.extract off (off + m)).toList, one v = true := by
  unfold rdN at g
  split at g
  · rename_i n sz pat t
    obtain ⟨hn, g⟩ := guardB_ok g
    have hn : off + m ≤ n := Nat.le_of_ble_eq_true hn
    obtain ⟨hm, g⟩ := guardB_ok g
    have hm : off % sz + m ≤ sz := Nat.le_of_ble_eq_true hm
    refine ⟨n, sz, pat, t, _, rfl, g, hn, fun E φ C hr => ?_⟩
    by_cases h0 : m = 0
    · subst h0
      have hx : (C.extract off (off + 0)).toList = [] := by simp
      rw [hx]
      have : 0 < sz := hr.1
      have hb : Nat.beq 0 sz = false := by cases sz with | zero => omega | succ n => rfl
      rw [hb]
      exact ⟨by rw [show ktake 0 (kdrop (Nat.mod off sz) (elemAt pat (t.get (Nat.div off sz)))) = [] from rfl]; exact VRL_nil, fun v hv => by cases hv⟩
    · have hel := hr.elem_len hn (by omega)
      cases hb : Nat.beq m sz with
      | true =>
        have hb := Nat.eq_of_beq_eq_true hb
        subst hb
        have h00 : off % m = 0 := by omega
        refine hr.within hn hm _ (fun j hj => ?_) hel
        rw [h00, Nat.zero_add]; rfl
      | false =>
        refine hr.within hn hm _ (fun j hj => ?_) ?_
        · show (ktake m (kdrop (off % sz) (elemAt pat (t.get (off / sz)))))[j]? = _
          rw [ktake_eq, kdrop_eq, List.getElem?_take, if_pos hj, List.getElem?_drop]
        · show (ktake m (kdrop (off % sz) (elemAt pat (t.get (off / sz))))).length = _
          rw [ktake_eq, kdrop_eq, List.length_take, List.length_drop, hel]; omega
  · cases g

/-- a variable of a type is looked at -/
theorem loadD_ok (T : TabOk E) {t : TypeId} {b off : Nat} {d : TypeDesc} (hd : E.P.underlying t = some d) (g : loadD E t b off K d = .ok e ts' h c) :
    ∃ f, K (.rd b f) = .ok e ts' h c ∧ ∀ (K : AV → Out) (x : Option AObj) (e : Ex) (ts' : Tm) (h' : Hs) (c' : Nat), f K x = .ok e ts' h' c' → ∃ ao v, x = some ao ∧ K v = .ok e ts' h' c' ∧
      ∀ (φ' : Loc) (w : World) (B N : Nat), φ' b = some (B, N) → OR E φ' w b ao → ∃ u, VR E φ' v u ∧ (loadVar t ⟨B, off, none⟩).run E.P w = .ok u w := by
  unfold loadD at g
  cases ha : isAggD d with
  | false =>
    rw [ha] at g
    refine ⟨_, g, fun K x e ts' h' c' g2 => ?_⟩
    obtain ⟨n, sz, pat, t', v, rfl, g2, hr⟩ := rd1_ok g2
    refine ⟨_, v, rfl, g2, fun φ' w B N hB hor => ?_⟩
    obtain ⟨B', C, el, fr, hb', hw, hfr, hrow⟩ := hor
    rw [hB] at hb'; cases hb'
    obtain ⟨u, hu, hvu⟩ := hr E φ' C hrow
    refine ⟨u, hvu, ?_⟩
    unfold loadVar
    simp only [Sem.run_bind, run_agg hd, ha, Result.andThen_ok, Bool.false_eq_true, if_false, run_load_row hw hu]
  | true =>
    rw [ha] at g
    obtain ⟨i, hi, g⟩ := size_ok T g
    refine ⟨_, g, fun K x e ts' h' c' g2 => ?_⟩
    obtain ⟨n, sz, pat, t', l, rfl, g2, hn, hr⟩ := rdN_ok g2
    refine ⟨_, _, rfl, g2, fun φ' w B N hB hor => ?_⟩
    obtain ⟨B', C, el, fr, hb', hw, hfr, hrow⟩ := hor
    rw [hB] at hb'; cases hb'
    obtain ⟨r1, r2⟩ := hr E φ' C hrow
    refine ⟨.agg (C.extract off (off + i.size)), ⟨_, rfl, r1, r2⟩, ?_⟩
    unfold loadVar
    simp only [Sem.run_bind, run_agg hd, ha, Result.andThen_ok, if_true, run_size hi, run_loadCells hw (show off + i.size ≤ C.size by have := hrow.2.1; omega), Sem.run_pure]

theorem ok_load (T : TabOk E) (ht : TR E φ ts a.tmps) {t : TypeId} {x : Operand} (ho : o.op = .load t x) (g : cLoad t x E ts K = .ok e ts' h c) : Good E φ o a K e ts' h c := by
  have he : execOp a.eval o = (do pure (Next.value (← Instr.loadAt t (a.eval x)))) := by unfold execOp; rw [ho]
  have hx := eval_VR ht x
  unfold cLoad at g
  obtain ⟨b, off, hxe, g⟩ := ptrOf_ok g
  rw [hxe] at hx
  obtain ⟨B, N, hb, hx⟩ := hx
  obtain ⟨d, hd, g⟩ := und_ok T g
  obtain ⟨f, g, hf⟩ := loadD_ok T hd g
  refine ⟨_, g, fun K' x' e' ts2 h2 c2 g2 => ?_⟩
  obtain ⟨ao, v, hx', g2, hr⟩ := hf K' x' e' ts2 h2 c2 g2
  refine ⟨ao, v, hx', g2, fun φ' w hle hor => ?_⟩
  obtain ⟨u, hu, hrun⟩ := hr φ' w B N (hle _ _ hb) hor
  refine ⟨u, hu, .inl ?_⟩
  rw [he]
  unfold Instr.loadAt
  simp only [Sem.run_bind, hx, Instr.sureAddr, Sem.run_pure, Result.andThen_ok, hrun]

theorem ok_store (T : TabOk E) (ht : TR E φ ts a.tmps) {t : TypeId} {x y : Operand} (ho : o.op = .store t x y) (g : cStore t x y E ts K = .ok e ts' h c) : Good E φ o a K e ts' h c := by
  have he : execOp a.eval o = (do Instr.storeAt t (a.eval x) (a.eval y); pure .skip) := by unfold execOp; rw [ho]
  have hx := eval_VR ht x
  unfold cStore at g
  obtain ⟨b, off, hxe, g⟩ := ptrOf_ok g
  rw [hxe] at hx
  obtain ⟨B, N, hb, hx⟩ := hx
  obtain ⟨i, hi, g⟩ := size_ok T g
  obtain ⟨l, g, hl⟩ := cellsK_ok g
  obtain ⟨hn, g⟩ := guardB_ok g
  have hn : lenL l = i.size := Nat.eq_of_beq_eq_true hn
  rw [lenL_eq] at hn
  refine ⟨_, g, fun φ' w B' C el fr hle hb' hw hfr hoff => ?_⟩
  rw [hle _ _ hb] at hb'; cases hb'
  obtain ⟨r1, r2⟩ := hl E φ' _ (VR.mono hle _ _ (eval_VR ht y))
  have hlen := r1.length
  refine ⟨_, r1, r2, .inr ⟨?_, rfl⟩⟩
  rw [he]
  unfold Instr.storeAt storeVar
  have hsz : ¬ ((a.eval y).cells.size ≠ i.size) := by simp at hlen; omega
  have hrun := run_storeCells (P := E.P) off (a.eval y).cells.toList 0 w C hw hfr (by omega) r2
  simp only [Sem.run_bind, hx, Instr.sureAddr, Sem.run_pure, Result.andThen_ok, run_size hi, hsz, if_false, hrun]
  rfl

/-! ### maps -/
theorem keyD_checks {P : Program} {w : World} {k : AV} {d : TypeDesc} {t : TypeId} (hd : P.underlying t = some d) (hk : keyD k d = true) (b : Bool) (n : Nat) (v : Value) : (Instr.checkKey b (n + 1) t v).run P w = .ok () w := by
  unfold Instr.checkKey
  simp only [Sem.run_bind, run_und hd, Result.andThen_ok]
  cases d <;> first | (cases hk; done) | (cases v <;> rfl)

theorem sameNow_ok {φ : Loc} {k k' : AV} {d : TypeDesc} {b : Bool} {u u' : Value} (hk : keyD k d = true) (h : cellEq k k' = some b) (hu : VR E φ k u) (hu' : VR E φ k' u') :
    Instr.sameNow d u u' = some b ∧ (b = true → u' = u ∧ Instr.sameBits 10000 u' u = true) := by
  unfold cellEq at h
  split at h
  · rename_i j x
    split at h
    · rename_i j' y
      cases hj : ikEq j j' with
      | false => rw [hj] at h; cases h
      | true =>
        rw [hj] at h
        have hj := (ikEq_iff _ _).1 hj
        subst hj
        cases h
        simp only [VR] at hu hu'
        subst hu hu'
        rw [intEq_eq]
        refine ⟨?_, fun hxy => ?_⟩
        · cases d <;> first | (cases hk; done) | simp [Instr.sameNow]
        · have : x = y := by simpa using hxy
          subst this
          exact ⟨rfl, by unfold Instr.sameBits; simp⟩
    · cases h
  · rename_i x
    split at h
    · rename_i y
      cases h
      simp only [VR] at hu hu'
      subst hu hu'
      refine ⟨?_, fun hxy => ?_⟩
      · cases d <;> first | (cases hk; done) | (cases x <;> cases y <;> rfl)
      · have : x = y := by cases x <;> cases y <;> first | rfl | cases hxy
        subst this
        exact ⟨rfl, by unfold Instr.sameBits; simp⟩
    · cases h
  · rename_i x
    split at h
    · rename_i y
      cases h
      simp only [VR] at hu hu'
      subst hu hu'
      rw [strEq_eq]
      refine ⟨?_, fun hxy => ?_⟩
      · cases d <;> first
          | (cases hk; done)
          | (simp only [Instr.sameNow]
             congr 1
             rw [Bool.eq_iff_iff, beq_toListBytes]
             simp [ByteArray.toList_eq])
      · have : x = y := by simpa using hxy
        subst this
        exact ⟨rfl, by unfold Instr.sameBits; simp [beq_toListBytes]⟩
    · cases h
  · cases h

theorem aFind_cons (k : AV) (p : Ent) (l : List Ent) : aFind k (p :: l) = (match cellEq k p.k with | some true => some (some p.v) | some false => aFind k l | none => none) := rfl
theorem aSet_cons (k v : AV) (p : Ent) (l : List Ent) : aSet k v (p :: l) = (match cellEq k p.k with | some true => ⟨p.k, v, p.born⟩ :: l | _ => p :: aSet k v l) := rfl
theorem aDel_cons (k : AV) (p : Ent) (l : List Ent) : aDel k (p :: l) = (match cellEq k p.k with | some true => l | _ => p :: aDel k l) := rfl

/-- the search in a map -/
theorem find_ok {φ : Loc} {k : AV} {d : TypeDesc} {kv : Value} (hk : keyD k d = true) (hu : VR E φ k kv) : ∀ (es : List Ent) (m : List MapEntry) (r : Option AV) (j : Nat), EntsR E φ es m → aFind k es = some r →
    match r with
    | none => Instr.findNow d kv m j = some none ∧ aDel k es = es
    | some v => ∃ i en x, es[i]? = some en ∧ m[i]? = some x ∧ en.v = v ∧ Instr.findNow d kv m j = some (some (j + i, x.val)) ∧ x.key = kv ∧ Instr.sameBits 10000 x.key kv = true ∧ VR E φ v x.val ∧
        (∀ v', aSet k v' es = es.set i ⟨en.k, v', en.born⟩) ∧ aDel k es = es.eraseIdx i
  | [], m, r, j, hm, h => by
    simp only [EntsR] at hm; subst hm
    cases h; exact ⟨rfl, rfl⟩
  | p :: es, m, r, j, hm, h => by
    simp only [EntsR] at hm
    obtain ⟨x, m, rfl, ⟨h1, h2, h3⟩, hm⟩ := hm
    rw [aFind_cons] at h
    cases hc : cellEq k p.k with
    | none => rw [hc] at h; cases h
    | some b =>
      rw [hc] at h
      obtain ⟨hs, he⟩ := sameNow_ok hk hc hu h1
      cases b with
      | true =>
        cases h
        obtain ⟨e1, e2⟩ := he rfl
        refine ⟨0, p, x, rfl, rfl, rfl, ?_, e1, e2, h2, fun v' => ?_, ?_⟩
        · simp [Instr.findNow, hs]
        · rw [aSet_cons, hc]; rfl
        · rw [aDel_cons, hc]; rfl
      | false =>
        have ih := find_ok hk hu es m r (j + 1) hm h
        have hf : Instr.findNow d kv (x :: m) j = Instr.findNow d kv m (j + 1) := by simp [Instr.findNow, hs]
        cases r with
        | none => exact ⟨hf.trans ih.1, by rw [aDel_cons, hc, ih.2]⟩
        | some v =>
          obtain ⟨i, en, y, g1, g2, g3, g4, g5, g6, g7, g8, g9⟩ := ih
          refine ⟨i + 1, en, y, by simpa using g1, by simpa using g2, g3, ?_, g5, g6, g7, fun v' => ?_, ?_⟩
          · rw [hf, g4]; congr 3; omega
          · rw [aSet_cons, hc, List.set_cons_succ, g8]
          · rw [aDel_cons, hc, List.eraseIdx_cons_succ, g9]

theorem run_findKey {P : Program} {w : World} {t : TypeId} {d : TypeDesc} {kv : Value} {m : List MapEntry} {r : Option (Nat × Value)} (hd : P.underlying t = some d) (h : Instr.findNow d kv m 0 = some r) : (Instr.findKey t kv m).run P w = .ok r w := by
  unfold Instr.findKey
  simp only [Sem.run_bind, run_und hd, Result.andThen_ok, h, Sem.run_pure]

theorem mapElem_ok (T : TabOk E) {k : AV} {K : TypeId → Out} {d : TypeDesc} (g : mapElem E k K d = .ok e ts' h c) : ∃ kt el kd, d = .map kt el ∧ E.P.underlying kt = some kd ∧ keyD k kd = true ∧ K el = .ok e ts' h c := by
  unfold mapElem at g
  split at g
  · obtain ⟨kd, hk, g⟩ := und_ok T g
    obtain ⟨hn, g⟩ := guardB_ok g
    exact ⟨_, _, kd, rfl, hk, hn, g⟩
  · cases g
theorem okTup_VR {φ : Loc} {ok b : Bool} {v : AV} {u : Value} (h : VR E φ v u) : VR E φ (okTup ok b v) (if ok then .tuple #[u, .bool b] else u) := by
  cases ok
  · exact h
  · exact ⟨#[u, .bool b], rfl, VRL_cons h (VRL_cons rfl VRL_nil)⟩

theorem ok_lookup (T : TabOk E) (ht : TR E φ ts a.tmps) {t : TypeId} {x ix : Operand} {ok : Bool} (ho : o.op = .lookup t x ix ok) (g : cLookup t x ix ok E ts K = .ok e ts' h c) : Good E φ o a K e ts' h c := by
  have he : execOp a.eval o = (do pure (Next.value (← Instr.lookup t (a.eval x) (a.eval ix) ok))) := by unfold execOp; rw [ho]
  have hx := eval_VR ht x
  have hi := eval_VR ht ix
  unfold cLookup at g
  obtain ⟨d, hd, g⟩ := und_ok T g
  obtain ⟨kt, el, kd, rfl, hkd, hk, g⟩ := mapElem_ok T g
  obtain ⟨inf, z, hinf, hz, g⟩ := zero_ok T g
  unfold lookM at g
  split at g
  · rename_i hxe
    rw [hxe] at hx; simp only [VR] at hx
    refine good_val (u := if ok then .tuple #[z, .bool false] else z) g (okTup_VR (ofValue_VR E φ z)) he (fun w => ?_)
    unfold Instr.lookup
    have hf : Instr.findNow kd (a.eval ix) [] 0 = some none := rfl
    simp only [Sem.run_bind, run_und hd, Result.andThen_ok, hx, Sem.run_pure, keyD_checks hkd hk, run_findKey hkd hf, run_zero hinf hz]
  · rename_i b hxe
    rw [hxe] at hx
    obtain ⟨B, N, hb, hx⟩ := hx
    refine ⟨_, g, fun K' ao e' ts2 h2 c2 g2 => ?_⟩
    unfold rdMap at g2
    split at g2
    · rename_i es clock
      unfold foundK at g2
      split at g2
      · rename_i r hr
        have main : ∀ (φ' : Loc) (w : World) (v : AV) (bb : Bool), φ.le φ' → OR E φ' w b (.map es clock) → (∀ ents : Array MapEntry, EntsR E φ' es ents.toList → ∃ u, VR E φ' v u ∧
            ((∃ i, bb = true ∧ Instr.findNow kd (a.eval ix) ents.toList 0 = some (some (i, u))) ∨ (bb = false ∧ u = z ∧ Instr.findNow kd (a.eval ix) ents.toList 0 = some none))) →
            ∃ u, VR E φ' (okTup ok bb v) u ∧ Runs E.P o a w u w := by
          intro φ' w v bb hle hor hm
          obtain ⟨B', N', ents, hb', hw, hents⟩ := hor
          rw [hle _ _ hb] at hb'; cases hb'
          obtain ⟨u, hu, hrun⟩ := hm ents hents
          refine ⟨_, okTup_VR hu, .inl ?_⟩
          have hg : (getObj B).run E.P w = .ok (.map ents clock) w := by simp [getObj, Sem.run, hw]
          rw [he]
          unfold Instr.lookup
          rcases hrun with ⟨i, rfl, hf⟩ | ⟨rfl, rfl, hf⟩
          · simp only [Sem.run_bind, run_und hd, Result.andThen_ok, hx, hg, Sem.run_pure, keyD_checks hkd hk, run_findKey hkd hf]
          · simp only [Sem.run_bind, run_und hd, Result.andThen_ok, hx, hg, Sem.run_pure, keyD_checks hkd hk, run_findKey hkd hf, run_zero hinf hz]
        split at g2
        · rename_i v
          refine ⟨_, _, rfl, g2, fun φ' w hle hor => main φ' w v true hle hor fun ents hents => ?_⟩
          obtain ⟨i, en, y, q1, q2, q3, q4, q5, q6, q7, q8, q9⟩ := find_ok hk (VR.mono hle _ _ hi) es ents.toList _ 0 hents hr
          exact ⟨y.val, q7, .inl ⟨_, rfl, q4⟩⟩
        · refine ⟨_, _, rfl, g2, fun φ' w hle hor => main φ' w _ false hle hor fun ents hents => ?_⟩
          have q := find_ok hk (VR.mono hle _ _ hi) es ents.toList _ 0 hents hr
          exact ⟨z, ofValue_VR E φ' z, .inr ⟨rfl, rfl, q.1⟩⟩
      · cases g2
    · cases g2
  · cases g
end
end Go.AE
