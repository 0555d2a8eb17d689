/- The evaluator AE and its soundness, part f. -/
import Derived.Test.YtiidbfjcneaakaaGreatRAEMe
namespace Go.AE
theorem ev_loud {E : Env} (T : TabOk E) (hQ : E.quiets = false) (n : Nat) : SelfOk E (ev E n) := ev_ok T (fun _ S => draw_ok T S) (fun _ _ => quietOk_off hQ) n
end Go.AE
namespace Go.AE
section
variable {E : Env} {φ φ' φ₁ : Loc} {h h' h₁ h₀ : Hs} {c c' c₁ c₀ : Nat} {w w' w₁ w₂ : World} {ts ts' : Tm} {e : Ex}

theorem killAll_ok (L : List Nat) : ∀ (ts : Tm), ∃ ts2, (∀ K, killAll L ts K = K ts2) ∧ ∀ t, evalT ts2 t = if t ∈ L then .any else evalT ts t := by
  induction L with
  | nil => intro ts; exact ⟨ts, fun _ => rfl, fun t => by simp⟩
  | cons d L ih =>
    intro ts
    obtain ⟨ts2, h1, h2⟩ := ih (ts.set d (some .any))
    refine ⟨ts2, fun K => ?_, fun t => ?_⟩
    · show ts.ins d (some .any) (fun t => killAll L t K) = _
      rw [ins_eq]; exact h1 K
    · rw [h2, evalT_set]
      by_cases e1 : t ∈ L
      · rw [if_pos e1, if_pos (List.mem_cons_of_mem _ e1)]
      · rw [if_neg e1]
        by_cases e2 : d = t
        · subst e2; rw [if_pos rfl, if_pos (List.mem_cons_self ..)]
        · rw [if_neg e2, if_neg (by simp only [List.mem_cons, not_or]; exact ⟨fun h => e2 h.symm, e1⟩)]

theorem rlOf_ok {a : Code} {r : Rl} (h : rlOf a = some r) : ∃ id ops y o l, a = .seq (.region id ops false) y ∧ ops.toList = o :: l ∧ o.op = .next (.tmp r.it) false ∧ o.guard = none ∧ r.dst = o.dst ∧ r.all = ops.toList ∧ r.ops = l ∧ r.rest = y := by
  cases a with
  | seq x y =>
    have h : rlCode y x = some r := h
    cases x with
    | region id ops draw =>
      have h : Bool.rec (motive := fun _ => Option Rl) (rlOps y ops.toList) none draw = some r := h
      cases draw with
      | true => cases h
      | false =>
        have h : rlOps y ops.toList = some r := h
        cases hl : ops.toList with
        | nil => rw [hl] at h; cases h
        | cons o l =>
          rw [hl] at h
          have h : rlOp (o :: l) l y o = some r := h
          unfold rlOp at h
          split at h
          · rename_i x isS hop
            split at h
            · rename_i t
              cases isS with
              | true => cases h
              | false =>
                have h : (match o.guard with | none => some (Rl.mk t o.dst (o :: l) l y) | some _ => none) = some r := h
                cases hg : o.guard with
                | some _ => rw [hg] at h; cases h
                | none =>
                  rw [hg] at h
                  injection h with h
                  subst h
                  exact ⟨id, ops, y, o, l, rfl, hl, hop, hg, rfl, hl.symm, rfl, rfl⟩
            · cases h
          · cases h
    | _ => cases h
  | _ => cases h

/-- every entry's round is quiet -/
theorem quietAll_ok {self : Self} {r : Rl} {b mb clock : Nat} {K : Out} : ∀ {l : List Ent}, quietAll E self r b mb clock ts h c l K = .ok e ts' h₀ c₀ →
    K = .ok e ts' h₀ c₀ ∧ ∀ en ∈ l, ∃ ts3 h3 c3, seqK self r.rest (evOps E self r.all r.ops (putT r.dst ts (.tup [.bool true, en.k, en.v])) ⟨h.t.set b (some (.mitq mb clock en.born)), c, []⟩ c) = .ok .normal ts3 h3 c3 ∧ h3.lg = []
  | [], g => ⟨g, fun en hen => by cases hen⟩
  | en :: l, g => by
    have g : quietOne E self r b mb clock ts h c en (quietAll E self r b mb clock ts h c l K) = .ok e ts' h₀ c₀ := g
    unfold quietOne at g
    rw [ins_eq, putA_eq] at g
    unfold quietK at g
    split at g
    · rename_i e1 ts3 h3 c3 ho
      split at g
      · obtain ⟨hn, g⟩ := guardB_ok g
        obtain ⟨h1, h2⟩ := quietAll_ok (l := l) g
        refine ⟨h1, fun en' hen => ?_⟩
        rcases List.mem_cons.1 hen with rfl | hen
        · refine ⟨ts3, h3, c3, ho, ?_⟩
          cases hlg : h3.lg with
          | nil => rfl
          | cons x xs => rw [hlg] at hn; cases hn
        · exact h2 en' hen
      · cases g
    · cases g

/-- where the rounds stand -/
structure Qt (E : Env) (φ : Loc) (h : Hs) (b mb since : Nat) (tsK : Tm) (L : List Nat) (n : Nat) (act : Act) (w : World) (s : List Nat) (p : Nat) (w1 : World) (a1 : Act) : Prop where
  tr : TR E φ tsK a1.tmps
  kept : KeptT L act a1
  hr : HR E φ (h.t.set b (some (.miter mb since s p none))) w1
  marks : MarksOk n φ (h.t.set b (some (.miter mb since s p none))) w1 a1.defers
  same : Same w w1
  fr : ∀ B N, φ b = some (B, N) → ∀ B', B' < w.heap.size → B' ≠ B → w1.heap[B']? = w.heap[B']?

theorem quiet_round (T : TabOk E) {self : Self} (S : SelfOk E self) {a : Code} {r : Rl} (hrl : rlOf a = some r) {b mb since clock : Nat} {es : List Ent} {tsK : Tm} {n : Nat} {act : Act} {s : List Nat} {p : Nat} {w1 : World} {a1 : Act}
    (hit : evalT tsK r.it = .ptr b 0) (hkill : ∀ t, t ∈ dstsC a → evalT tsK t = .any) (hmb : h.t.get mb = some (.map es clock)) (_hbn : h.t.get b ≠ none) (hne : mb ≠ b) (b1 : ∀ en ∈ es, en.born < since) (b2 : ∀ en ∈ es, en.born < p)
    {left : List Ent} (hlt : ∀ en ∈ unseen s es, en ∈ left)
    (hq : ∀ en ∈ left, ∃ ts3 h3 c3, seqK self r.rest (evOps E self r.all r.ops (putT r.dst tsK (.tup [.bool true, en.k, en.v])) ⟨h.t.set b (some (.mitq mb clock en.born)), c, []⟩ c) = .ok .normal ts3 h3 c3 ∧ h3.lg = [])
    (hf : Fresh φ c 0) (hnw : n ≤ w.heap.size) (hok : codeOk act.tmps.size a = true) (bf : Frame) (hr : bf.roundOf = none ∨ noRange a = true) (k : List Item) (cs : List Frame)
    (q : Qt E φ h b mb since tsK (dstsC a) n act w s p w1 a1) (hun : unseen s es ≠ []) :
    ∃ en w2 a2, en ∈ unseen s es ∧ Qt E φ h b mb since tsK (dstsC a) n act w (en.born :: s) clock w2 a2 ∧ Steps E.P (lone (fat bf a1 (.code a :: .inLoop a :: k)) cs w1) (lone (fat bf a2 (.code a :: .inLoop a :: k)) cs w2) := by
  obtain ⟨id, ops, y, o, l, rfl, hops, hop, hgd, rdst, rall, rops, rrest⟩ := rlOf_ok hrl
  rw [rdst, rall, rops, rrest] at hq
  have hok2 : (∀ o ∈ ops.toList, dstOk act.tmps.size o = true) ∧ codeOk act.tmps.size y = true := by
    have h1 : allL (dstOk act.tmps.size) ops.toList = true ∧ codeOk act.tmps.size y = true := by simpa [codeOk] using hok
    exact ⟨(allL_iff _ _).1 h1.1, h1.2⟩
  have hnr : bf.roundOf = none ∨ noRange y = true := hr.imp (fun h => h) fun h => by
    have h : noRange (.region id ops false) = true ∧ noRange y = true := by simpa [noRange] using h
    exact h.2
  have hsz : a1.tmps.size = act.tmps.size := q.kept.1
  obtain ⟨B, N, M, Km, sn, hB, hM, hw, hsn, _⟩ := q.hr.obj b _ (get_set_same ..)
  obtain ⟨M', Km', ents, hM', hwm, hents⟩ := q.hr.obj mb _ ((get_set_ne _ _ fun h => hne h.symm).trans hmb)
  rw [hM] at hM'; cases hM'
  have hun2 := unseen_ok hsn es _ hents
  rcases run_next_map (P := E.P) (ty := o.type) hw hwm (fun x hx => by
      obtain ⟨en, hen, hr⟩ := EntsR.mem es _ hents x hx
      rw [hr.2.2]; exact b1 en hen) (fun x hx => by
      obtain ⟨en, hen, hr⟩ := EntsR.mem es _ hents x hx
      rw [hr.2.2]; exact b2 en hen) with ⟨hnil, _⟩ | ⟨x, nd, hxm, hrun⟩
  · rw [hnil] at hun2
    cases hu : unseen s es with
    | nil => exact absurd hu hun
    | cons en l => rw [hu] at hun2; obtain ⟨_, _, h, _⟩ := hun2; cases h
  obtain ⟨en, hen, hxr⟩ := EntsR.mem _ _ hun2 x hxm
  obtain ⟨ts3, h3, c3, hev, hlg⟩ := hq en (hlt en hen)
  obtain ⟨e1, ts2, h2, c2, ho2, g1, g2⟩ := seqK_ok hev
  -- the step
  have hx : a1.eval (.tmp r.it) = .pointer (some ⟨B, 0, none⟩) := by
    have := q.tr r.it
    rw [hit] at this
    obtain ⟨B', N', hB', hv⟩ := this
    rw [hB] at hB'; cases hB'; exact hv
  have he : (execOp a1.eval o).run E.P w1 = .ok (.value (.tuple #[.bool true, x.key, x.val])) { w1 with heap := w1.heap.setIfInBounds B (.mapIter (some M) since (sn.push x.born) clock), drawn := nd } := by
    have : execOp a1.eval o = (do pure (Next.value (← Instr.next (a1.eval (.tmp r.it)) false o.type))) := by unfold execOp; rw [hop]
    rw [this, hx]
    simp only [Sem.run_bind, hrun, Result.andThen_ok, Sem.run_pure]
  have hi0 : ops[0]? = some o := by rw [← Array.getElem?_toList, hops]; rfl
  have hwant : Region.wanted o (yielded ops a1.tmps) = true := by unfold Region.wanted; rw [hgd]
  have st1 : Steps E.P (lone (fat bf a1 (.code (.seq (.region id ops false) y) :: .inLoop (.seq (.region id ops false) y) :: k)) cs w1) (lone (fat bf (a1.put o.dst (.tuple #[.bool true, x.key, x.val])) (.inRegion ops (List.range' 1 l.length) :: .code y :: .inLoop (.seq (.region id ops false) y) :: k)) cs { w1 with heap := w1.heap.setIfInBounds B (.mapIter (some M) since (sn.push x.born) clock), drawn := nd }) := by
    refine fat_seq.trans (fat_region.trans ?_)
    have hrange : List.range ops.size = 0 :: List.range' 1 l.length := by
      rw [List.range_eq_range', ← Array.length_toList, hops]
      simp [List.range'_succ]
    rw [hrange]
    exact fat_op_value hi0 hwant (fun cl h => by rw [hop] at h; cases h) he
  -- the state behind it
  have tu := turned_setN w1 B (.mapIter (some M) since (sn.push x.born) clock) nd
  have hw2 : ({ w1 with heap := w1.heap.setIfInBounds B (.mapIter (some M) since (sn.push x.born) clock), drawn := nd } : World).heap[B]? = some (.mapIter (some M) since (sn.push x.born) clock) := set_sameN _ nd hw
  generalize { w1 with heap := w1.heap.setIfInBounds B (.mapIter (some M) since (sn.push x.born) clock), drawn := nd } = wn at *
  have hback : (sn.push x.born).back? = some en.born := by simp [hxr.2.2]
  have sp := Sim.put (h := ⟨h.t.set b (some (.miter mb since s p none)), c, []⟩) (c := c) (o := .mitq mb clock en.born) q.hr (by show (AE.T.set _ b _).get b ≠ none; rw [get_set_same]; simp) hB tu ⟨B, N, M, Km, since, _, hB, hM, hw2, hback⟩
  have gets : ∀ (t : AE.T AObj) (u v : AObj) z ob, (t.set b (some u)).get z = some ob → ((t.set b (some v)).set b (some u)).get z = some ob := fun t u v z ob hz => by
    rw [get_set] at hz ⊢
    split at hz
    · rename_i e1; rw [if_pos e1]; exact hz
    · rename_i e1; rw [if_neg e1, get_set_ne _ _ e1]; exact hz
  have hhq : HR E φ (h.t.set b (some (.mitq mb clock en.born))) wn := sp.hr.sub fun z ob hz => gets h.t _ _ z ob hz
  have hmq : MarksOk n φ (h.t.set b (some (.mitq mb clock en.born))) wn a1.defers := by
    have := q.marks.sim (h := ⟨h.t.set b (some (.miter mb since s p none)), c, []⟩) (c := c) (c' := c) q.hr hf sp
    obtain ⟨rs, m1, m2, m3⟩ := this
    refine ⟨rs, m1, m2, fun r hr => ⟨(m3 r hr).1, (m3 r hr).2.1, fun z M hz => (m3 r hr).2.2 z M ?_⟩⟩
    cases hz2 : (h.t.set b (some (.mitq mb clock en.born))).get z with
    | none => exact absurd hz2 hz
    | some ob =>
      have := gets h.t _ (.miter mb since s p none) z ob hz2
      show ((h.t.set b _).set b _).get z ≠ none
      rw [this]; simp
  have hdo : dstOk a1.tmps.size o = true := by rw [hsz]; exact hok2.1 o (by rw [hops]; exact List.mem_cons_self ..)
  obtain ⟨p1, p2, p3⟩ := q.tr.putD (df := a1.defers) (o := o) hdo (v := .tup [.bool true, en.k, en.v]) (u := .tuple #[.bool true, x.key, x.val]) ⟨_, rfl, VRL_cons rfl (VRL_cons hxr.1 (VRL_cons hxr.2.1 VRL_nil))⟩
  have hnw1 : n ≤ wn.heap.size := by rw [tu.size]; exact Nat.le_trans hnw q.same.size
  obtain ⟨he1, φ2, w2, a2, s2, t2, k2, m2, st2⟩ := evOps_ok T S n bf (.code y :: .inLoop (.seq (.region id ops false) y) :: k) cs l 1 _ ⟨h.t.set b (some (.mitq mb clock en.born)), c, []⟩ c e1 ts2 h2 c2 φ wn (a1.put o.dst (.tuple #[.bool true, x.key, x.val]))
    (by rw [hops]; rfl) ho2 hnw1 p1 (by intro z hz; rw [show (a1.put o.dst (.tuple #[.bool true, x.key, x.val])).tmps.size = a1.tmps.size from p2, hsz]; exact hok2.1 z hz) hhq hf (by rw [show (a1.put o.dst (.tuple #[.bool true, x.key, x.val])).defers = a1.defers from p3]; exact hmq)
  subst he1
  have hf2 : Fresh φ c c2 := hf
  have szz : a2.tmps.size = act.tmps.size := by rw [k2.1]; exact p2.trans hsz
  obtain ⟨φ3, w3, a3, s3, t3, k3, m3, st3⟩ := S _ _ _ _ _ _ _ _ (g1 rfl) φ2 w2 n bf a2 (.inLoop (.seq (.region id ops false) y) :: k) cs (Nat.le_trans hnw1 s2.same.size) t2 (by rw [szz]; exact hok2.2) hnr s2.hr (Fresh.mid (c' := c3) (show Fresh φ c c3 from hf) s2) m2
  have st3 : Steps E.P (lone (fat bf a2 (.code y :: .inLoop (.seq (.region id ops false) y) :: k)) cs w2) (lone (fat bf a3 (.inLoop (.seq (.region id ops false) y) :: k)) cs w3) := st3
  have s13 := Sim.trans hhq (show Fresh φ c c3 from hf) s2 s3
  -- nothing old has turned
  have keepW : ∀ B', B' < wn.heap.size → w3.heap[B']? = wn.heap[B']? := fun B' hB' => s13.fr B' hB' fun ⟨z, M', hz, e, hx⟩ => by
    have hzc := fresh_lt hf e
    rcases hx with hx | hx
    · have hx : c ≤ z := hx
      omega
    · rw [hlg] at hx; cases hx
  have lth : ∀ z, h.t.get z ≠ none → z < c := fun z hz => by
    have : (h.t.set b (some (.mitq mb clock en.born))).get z ≠ none := by
      rw [get_set]; split
      · simp
      · exact hz
    obtain ⟨_, _, e, _⟩ := hhq.loc this
    exact fresh_lt hf e
  have hBlt : B < wn.heap.size := (Array.getElem?_eq_some_iff.1 hw2).1
  have hkept : KeptT (dstsC (.seq (.region id ops false) y)) a1 a3 :=
    ((KeptT.put a1 o.dst _ fun t ht => List.mem_append_left _ (by show t ∈ dsts ops.toList; rw [hops]; exact dsts_head ht)).trans (k2.mono fun t ht => List.mem_append_left _ (by show t ∈ dsts ops.toList; rw [hops]; exact dsts_tail ht))).trans (k3.mono fun t ht => List.mem_append_right _ ht)
  refine ⟨en, w3, a3, hen, ⟨fun t => ?_, q.kept.trans hkept, ⟨fun z ob hz => ?_, fun z z' B1 N1 N2 h1 h2 e1 e2 => ?_⟩, ?_, ⟨?_, ?_, ?_, ?_⟩, fun B1 N1 hB1 B' hB' hne' => ?_⟩, st1.trans (st2.trans (st3.trans fat_inLoop))⟩
  · by_cases ht : t ∈ dstsC (.seq (.region id ops false) y)
    · rw [hkill t ht]; trivial
    · rw [hkept.2 t ht]; exact q.tr t
  · rw [get_set] at hz
    split at hz
    · rename_i e1; subst e1
      cases hz
      refine ⟨B, N, M, Km, sn.push x.born, hB, hM, (keepW B hBlt).trans hw2, fun z => ?_, fun s hs => by cases hs⟩
      rw [Array.toList_push, List.mem_append, List.mem_singleton, List.mem_cons, hsn, hxr.2.2]
      exact Or.comm
    · rename_i e1
      have ho := hhq.obj z ob (by rw [get_set_ne _ _ e1]; exact hz)
      refine ho.keep (fun _ _ h => h) fun B' N' e' => keepW B' ?_
      obtain ⟨B2, N2, e2, hlt2⟩ := ho.loc
      rw [e'] at e2; cases e2; exact hlt2
  · have ne : ∀ z, (h.t.set b (some (.miter mb since (en.born :: s) clock none))).get z ≠ none → (h.t.set b (some (.mitq mb clock en.born))).get z ≠ none := fun z hz => by
      rw [get_set] at hz ⊢
      split
      · simp
      · rename_i e3; rw [if_neg e3] at hz; exact hz
    exact hhq.inj z z' B1 N1 N2 (ne z h1) (ne z' h2) e1 e2
  · obtain ⟨rs, r1, r2, r3⟩ := m3
    refine ⟨rs, r1, r2, fun r hr => ⟨(r3 r hr).1, (r3 r hr).2.1, fun z M' hz e => ?_⟩⟩
    have hz2 : (h.t.set b (some (.mitq mb clock en.born))).get z ≠ none := by
      rw [get_set] at hz ⊢
      split
      · simp
      · rename_i e3; rw [if_neg e3] at hz; exact hz
    have hzc := fresh_lt hf e
    have e4 := s13.keep z hzc hzc (by rw [hlg]; intro h; cases h)
    exact (r3 r hr).2.2 z M' (by rw [e4]; exact hz2) (by rw [s13.ext z (.inl hzc)]; exact e)
  · exact s13.same.tape.trans (tu.tape.trans q.same.tape)
  · exact s13.same.os.trans (tu.os.trans q.same.os)
  · exact s13.same.output.trans (tu.output.trans q.same.output)
  · exact Nat.le_trans q.same.size (by rw [← tu.size]; exact s13.same.size)
  · rw [hB] at hB1; cases hB1
    rw [keepW B' (by rw [tu.size]; exact Nat.lt_of_lt_of_le hB' q.same.size), tu.old B' hne']
    exact q.fr B N hB B' hB' hne'
end
end Go.AE
namespace Go.AE
section
variable {E : Env} {φ φ' φ₁ : Loc} {h h' h₁ h₀ : Hs} {c c' c₁ c₀ : Nat} {w w' w₁ w₂ : World} {ts ts' : Tm} {e : Ex}

theorem mem_unseen {s : List Nat} {en : Ent} : ∀ {es : List Ent}, en ∈ unseen s es ↔ en ∈ es ∧ en.born ∉ s
  | [] => ⟨fun h => (by cases h), fun h => (by cases h.1)⟩
  | q :: es => by
    have ih := mem_unseen (s := s) (en := en) (es := es)
    have hu : unseen s (q :: es) = Bool.rec (motive := fun _ => List Ent) (q :: unseen s es) (unseen s es) (memN q.born s) := rfl
    rw [hu]
    cases hb : memN q.born s with
    | true =>
      show en ∈ unseen s es ↔ _
      rw [ih, List.mem_cons]
      have hq := (memN_iff _ _).1 hb
      exact ⟨fun h => ⟨.inr h.1, h.2⟩, fun h => ⟨h.1.resolve_left fun e => h.2 (e ▸ hq), h.2⟩⟩
    | false =>
      show en ∈ q :: unseen s es ↔ _
      rw [List.mem_cons, ih, List.mem_cons]
      have hq := memN_false hb
      exact ⟨fun h => h.elim (fun e => ⟨.inl e, e ▸ hq⟩) fun h => ⟨.inr h.1, h.2⟩, fun h => h.1.elim .inl fun h1 => .inr ⟨h1, h.2⟩⟩
theorem unseen_less {s : List Nat} {x : Ent} : ∀ {es : List Ent}, x ∈ unseen s es → (unseen (x.born :: s) es).length < (unseen s es).length
  | [], h => by cases h
  | q :: es, h => by
    have hu : ∀ s, unseen s (q :: es) = Bool.rec (motive := fun _ => List Ent) (q :: unseen s es) (unseen s es) (memN q.born s) := fun _ => rfl
    have le : ∀ {es : List Ent}, (unseen (x.born :: s) es).length ≤ (unseen s es).length := fun {es} => by
      induction es with
      | nil => exact Nat.le_refl _
      | cons q es ih =>
        have hu : ∀ s, unseen s (q :: es) = Bool.rec (motive := fun _ => List Ent) (q :: unseen s es) (unseen s es) (memN q.born s) := fun _ => rfl
        rw [hu, hu]
        cases h1 : memN q.born s with
        | true =>
          have : memN q.born (x.born :: s) = true := (memN_iff _ _).2 (List.mem_cons_of_mem _ ((memN_iff _ _).1 h1))
          rw [this]; exact ih
        | false =>
          cases h2 : memN q.born (x.born :: s) with
          | true => show (unseen (x.born :: s) es).length ≤ (unseen s es).length + 1; omega
          | false => show (unseen (x.born :: s) es).length + 1 ≤ (unseen s es).length + 1; omega
    rw [hu, hu]
    rw [hu] at h
    cases h1 : memN q.born s with
    | true =>
      have : memN q.born (x.born :: s) = true := (memN_iff _ _).2 (List.mem_cons_of_mem _ ((memN_iff _ _).1 h1))
      rw [this]
      rw [h1] at h
      exact unseen_less h
    | false =>
      rw [h1] at h
      cases h2 : memN q.born (x.born :: s) with
      | true => show (unseen (x.born :: s) es).length < (unseen s es).length + 1; have := le (es := es); omega
      | false =>
        have hne : ¬ q.born = x.born := fun e => memN_false h2 (by rw [e]; exact List.mem_cons_self ..)
        have h : x ∈ q :: unseen s es := h
        rcases List.mem_cons.1 h with h | h
        · exact absurd (by rw [h]) hne
        · show (unseen (x.born :: s) es).length + 1 < (unseen s es).length + 1
          have := unseen_less h; omega
theorem mem_borns {seen : List Nat} {y : Nat} : ∀ {l : List Ent}, y ∈ borns l seen ↔ y ∈ seen ∨ ∃ en ∈ l, en.born = y
  | [] => ⟨.inl, fun h => h.elim (fun h => h) fun ⟨_, h, _⟩ => by cases h⟩
  | q :: l => by
    have ih := mem_borns (seen := seen) (y := y) (l := l)
    show y ∈ q.born :: borns l seen ↔ _
    rw [List.mem_cons, ih]
    constructor
    · rintro (h | h | ⟨en, h1, h2⟩)
      · exact .inr ⟨q, List.mem_cons_self .., h.symm⟩
      · exact .inl h
      · exact .inr ⟨en, List.mem_cons_of_mem _ h1, h2⟩
    · rintro (h | ⟨en, h1, h2⟩)
      · exact .inr (.inl h)
      · rcases List.mem_cons.1 h1 with rfl | h1
        · exact .inl h2.symm
        · exact .inr (.inr ⟨en, h1, h2⟩)

theorem quiet_rounds (T : TabOk E) {self : Self} (S : SelfOk E self) {a : Code} {r : Rl} (hrl : rlOf a = some r) {b mb since clock : Nat} {es : List Ent} {tsK : Tm} {n : Nat} {act : Act}
    (hit : evalT tsK r.it = .ptr b 0) (hkill : ∀ t, t ∈ dstsC a → evalT tsK t = .any) (hmb : h.t.get mb = some (.map es clock)) (hbn : h.t.get b ≠ none) (hne : mb ≠ b) (b1 : ∀ en ∈ es, en.born < since) (b3 : ∀ en ∈ es, en.born < clock)
    {left : List Ent}
    (hq : ∀ en ∈ left, ∃ ts3 h3 c3, seqK self r.rest (evOps E self r.all r.ops (putT r.dst tsK (.tup [.bool true, en.k, en.v])) ⟨h.t.set b (some (.mitq mb clock en.born)), c, []⟩ c) = .ok .normal ts3 h3 c3 ∧ h3.lg = [])
    (hf : Fresh φ c 0) (hnw : n ≤ w.heap.size) (hok : codeOk act.tmps.size a = true) (bf : Frame) (hr : bf.roundOf = none ∨ noRange a = true) (k : List Item) (cs : List Frame) :
    ∀ (m : Nat) (s : List Nat) (p : Nat) (w1 : World) (a1 : Act), (unseen s es).length ≤ m → (∀ en ∈ es, en.born < p) → (∀ en ∈ unseen s es, en ∈ left) → Qt E φ h b mb since tsK (dstsC a) n act w s p w1 a1 →
      ∃ s' p' w2 a2, (∀ x, x ∈ s' ↔ x ∈ s ∨ ∃ en ∈ unseen s es, en.born = x) ∧ (unseen s es ≠ [] → p' = clock) ∧ (unseen s es = [] → p' = p) ∧ Qt E φ h b mb since tsK (dstsC a) n act w s' p' w2 a2 ∧
        Steps E.P (lone (fat bf a1 (.code a :: .inLoop a :: k)) cs w1) (lone (fat bf a2 (.code a :: .inLoop a :: k)) cs w2)
  | m, s, p, w1, a1, hm, b2, hlt, q => by
    by_cases hun : unseen s es = []
    · exact ⟨s, p, w1, a1, fun x => by rw [hun]; exact ⟨.inl, fun h => h.elim (fun h => h) fun ⟨_, h, _⟩ => by cases h⟩, fun h => absurd hun h, fun _ => rfl, q, Steps.refl ..⟩
    · obtain ⟨en, w2, a2, hen, q2, st⟩ := quiet_round T S hrl hit hkill hmb hbn hne b1 b2 hlt hq hf hnw hok bf hr k cs q hun
      have hless := unseen_less hen
      match m, hm with
      | 0, hm => omega
      | m + 1, hm =>
        obtain ⟨s', p', w3, a3, h1, h2, h3, h4, h5⟩ := quiet_rounds T S hrl hit hkill hmb hbn hne b1 b3 hq hf hnw hok bf hr k cs m (en.born :: s) clock w2 a2 (by omega) b3 (fun x hx => hlt x (by
          rw [mem_unseen] at hx ⊢
          exact ⟨hx.1, fun h => hx.2 (List.mem_cons_of_mem _ h)⟩)) q2
        refine ⟨s', p', w3, a3, fun x => ?_, fun _ => ?_, fun h => absurd h hun, h4, st.trans h5⟩
        · rw [h1, List.mem_cons]
          constructor
          · rintro ((rfl | h) | ⟨en', h, rfl⟩)
            · exact .inr ⟨en, hen, rfl⟩
            · exact .inl h
            · rw [mem_unseen] at h
              exact .inr ⟨en', mem_unseen.2 ⟨h.1, fun hh => h.2 (List.mem_cons_of_mem _ hh)⟩, rfl⟩
          · rintro (h | ⟨en', h, rfl⟩)
            · exact .inl (.inr h)
            · by_cases hb : en'.born = en.born
              · exact .inl (.inl hb)
              · rw [mem_unseen] at h
                exact .inr ⟨en', mem_unseen.2 ⟨h.1, fun hh => (List.mem_cons.1 hh).elim hb h.2⟩, rfl⟩
        · by_cases hu : unseen (en.born :: s) es = []
          · exact h3 hu
          · exact h2 hu

theorem arr_loop {P : Program} {bf : Frame} {a : Act} {k : List Item} {cs : List Frame} {cd : Code} {a' : Act} (h : Arr P (lone (fat bf a (.code (.loop cd) :: k)) cs w) bf a' k cs w' e) : Arr P (lone (fat bf a (.code cd :: .inLoop cd :: k)) cs w) bf a' k cs w' e := by
  cases e with
  | normal => exact steps_tail h (fun hm => by have := congrArg List.length (lone_todo hm); simp at this) step_fat_loop
  | exit id => obtain ⟨k2, p5, p6⟩ := h; exact ⟨k2, steps_tail p5 (fun hm => by have := lone_todo hm; simp at this) step_fat_loop, p6⟩
  | ret => obtain ⟨k2, p5⟩ := h; exact ⟨k2, steps_tail p5 (fun hm => by have := lone_todo hm; simp at this) step_fat_loop⟩

theorem quiet_ok (T : TabOk E) {self : Self} (S : SelfOk E self) : QuietOk E self := by
  intro a r b mb since seen stepped cur o left clock ts h c e ts' h' c' hrl hit hb g
  obtain ⟨es, clk, hmb, b1, b2, g⟩ := leftOf_ok g
  unfold quietLoop at g
  obtain ⟨_, g⟩ := guardB_ok g
  obtain ⟨hz, g⟩ := guardB_ok g
  obtain ⟨hnk, g⟩ := guardB_ok g
  obtain ⟨hcl, g⟩ := guardB_ok g
  obtain ⟨hpos, g⟩ := guardB_ok g
  rw [hit] at hz
  have hz := isZ_ok (show isZ o = true from hz)
  subst hz
  have hnk := memN_not hnk
  have hcl : since ≤ clk := Nat.le_of_ble_eq_true hcl
  have hpos : 0 < (unseen seen es).length := by rw [← lenL_eq]; exact Nat.blt_eq.mp hpos
  obtain ⟨tsK, hK1, hK2⟩ := killAll_ok (dstsC a) ts
  rw [hK1] at g
  obtain ⟨g, hq⟩ := quietAll_ok g
  rw [put_eq] at g
  have hrun := loop_run S g
  have hitK : evalT tsK r.it = .ptr b 0 := by rw [hK2, if_neg hnk]; exact hit
  have hne : mb ≠ b := fun e => by rw [e, hb] at hmb; cases hmb
  have hbn : h.t.get b ≠ none := by rw [hb]; simp
  intro φ w n bf act k cs hnw ht hok hr hh hf hm
  have hok : codeOk act.tmps.size a = true := by simpa [codeOk] using hok
  have hr : bf.roundOf = none ∨ noRange a = true := hr.imp (fun h => h) fun h => by simpa [noRange] using h
  have trK : TR E φ tsK act.tmps := fun t => by
    rw [hK2]
    split
    · trivial
    · exact ht t
  obtain ⟨B, N, M, Km, sn, hB, hM, hw, hsn, _⟩ := hh.obj b _ hb
  have sub0 : ∀ z, (h.t.set b (some (.miter mb since seen stepped none))).get z ≠ none → h.t.get z ≠ none := fun z hz => by
    rw [get_set] at hz
    split at hz
    · rename_i e1; subst e1; exact hbn
    · exact hz
  have q0 : Qt E φ h b mb since tsK (dstsC a) n act w seen stepped w act := by
    refine ⟨trK, KeptT.refl .., ⟨fun z ob hz => ?_, fun z z' B1 N1 N2 h1 h2 e1 e2 => hh.inj z z' B1 N1 N2 (sub0 z h1) (sub0 z' h2) e1 e2⟩, ?_, Same.refl _, fun _ _ _ _ _ _ => rfl⟩
    · rw [get_set] at hz
      split at hz
      · rename_i e1; subst e1; cases hz
        exact ⟨B, N, M, Km, sn, hB, hM, hw, hsn, fun s hs => by cases hs⟩
      · exact hh.obj z ob hz
    · obtain ⟨rs, r1, r2, r3⟩ := hm
      exact ⟨rs, r1, r2, fun r hr => ⟨(r3 r hr).1, (r3 r hr).2.1, fun z M' hz => (r3 r hr).2.2 z M' (sub0 z hz)⟩⟩
  obtain ⟨s', p', w1, a1, hs', hp', _, q1, st⟩ := quiet_rounds T S hrl hitK (fun t ht => by rw [hK2, if_pos ht]) hmb hbn hne b1 (fun en hen => Nat.lt_of_lt_of_le (b1 en hen) hcl) hq hf hnw hok bf hr k cs _ seen stepped w act (Nat.le_refl _) b2 (fun _ h => h) q0
  have hpc := hp' (fun h => by rw [h] at hpos; simp at hpos)
  subst hpc
  -- the evaluator's own state behind the rounds
  have hseen : ∀ x, x ∈ s' ↔ x ∈ borns (unseen seen es) seen := fun x => by rw [hs', mem_borns]
  have sub1 : ∀ z, (h.t.set b (some (.miter mb since (borns (unseen seen es) seen) p' none))).get z ≠ none → (h.t.set b (some (.miter mb since s' p' none))).get z ≠ none := fun z hz => by
    rw [get_set] at hz ⊢
    split
    · simp
    · rename_i e1; rw [if_neg e1] at hz; exact hz
  have hh1 : HR E φ (h.t.set b (some (.miter mb since (borns (unseen seen es) seen) p' none))) w1 := by
    refine ⟨fun z ob hz => ?_, fun z z' B1 N1 N2 h1 h2 e1 e2 => q1.hr.inj z z' B1 N1 N2 (sub1 z h1) (sub1 z' h2) e1 e2⟩
    by_cases e1 : b = z
    · subst e1
      rw [get_set_same] at hz; cases hz
      obtain ⟨B', N', M', K', sn', w1', w2', w3', w4', _⟩ := q1.hr.obj b _ (get_set_same ..)
      exact ⟨B', N', M', K', sn', w1', w2', w3', fun x => (w4' x).trans (hseen x), fun s hs => by cases hs⟩
    · rw [get_set_ne _ _ e1] at hz
      exact q1.hr.obj z ob (by rw [get_set_ne _ _ e1]; exact hz)
  have hm1 : MarksOk n φ (h.t.set b (some (.miter mb since (borns (unseen seen es) seen) p' none))) w1 a1.defers := by
    obtain ⟨rs, r1, r2, r3⟩ := q1.marks
    exact ⟨rs, r1, r2, fun r hr => ⟨(r3 r hr).1, (r3 r hr).2.1, fun z M' hz => (r3 r hr).2.2 z M' (sub1 z hz)⟩⟩
  have s1 : Sim E φ h c w φ (h.putD b (some (.miter mb since (borns (unseen seen es) seen) p' none))) c w1 := by
    refine ⟨hh1, fun _ _ => rfl, Nat.le_refl _, fun z hz => .inl ?_, fun z B' N' h1 h2 => by omega, fun B' hB' hx => ?_, q1.same, rfl, fun x hx => (logW_iff ..).2 (.inl hx), fun z h1 h2 h3 => ?_⟩
    · simp only [Hs.putD, get_set] at hz
      split at hz
      · rename_i e1; subst e1; exact hbn
      · exact hz
    · refine q1.fr B N hB B' hB' fun e1 => hx ?_
      subst e1
      refine ⟨b, N, hbn, hB, ?_⟩
      by_cases hfl : h.fl ≤ b
      · exact .inl hfl
      · exact .inr ((logW_iff ..).2 (.inr ⟨rfl, by omega⟩))
    · simp only [Hs.putD]
      refine get_set_ne _ _ fun e1 => h3 ?_
      subst e1
      exact (logW_iff ..).2 (.inr ⟨rfl, h1⟩)
  obtain ⟨φ2, w2, a2, z1, z2, z3, z4, z5⟩ := hrun φ w1 n bf a1 k cs (Nat.le_trans hnw q1.same.size) q1.tr (by rw [q1.kept.1]; simpa [codeOk] using hok) (hr.imp (fun h => h) fun h => by simpa [noRange] using h) hh1 hf hm1
  exact ⟨φ2, w2, a2, Sim.trans hh hf s1 z1, z2, KeptT.trans q1.kept z3, z4, Arr.pre (fat_loop.trans st) (arr_loop z5)⟩

theorem ev_all (T : TabOk E) (n : Nat) : SelfOk E (ev E n) := ev_ok T (fun _ S => draw_ok T S) (fun _ S => quiet_ok T S) n
end
end Go.AE
namespace Go.AE
open Go.ChangeShapes Go.WideShapes Go.ChangeAt Go.RowKit
/-- cells of which nothing is known, but that each stands in one cell -/
noncomputable def rawL (f : Nat → Value) (n : Nat) : Nat → List AV := Nat.rec (motive := fun _ => Nat → List AV) (fun _ => []) (fun _ self i => .raw (f i) :: self (Nat.succ i)) n
theorem rawL_map (f : Nat → Value) : ∀ (n i : Nat), rawL f n i = (List.range' i n).map fun j => .raw (f j)
  | 0, _ => rfl
  | n + 1, i => by
    show AV.raw (f i) :: rawL f n (i + 1) = _
    rw [rawL_map f n (i + 1), List.range'_succ]; rfl
def aggD (d : TypeDesc) : Bool := match d with | .struct _ => true | .array _ _ => true | _ => false
def plainU (P : Program) (u : TypeId) : Bool := match P.underlying u with | some d => plainD d | none => false
def rawOk (P : Program) (t n : Nat) : Bool :=
  (match P.underlying t with | some d => aggD d | none => false) && Nat.beq (P.cellsOf t) n && (match P.cellTypes P.depth t with | some cs => cs.all (plainU P) | none => false)
theorem raw_agg2 {P : Program} {E : Env} {w : World} {r : Reach} {base : Nat} {t n : Nat} {v : Value} (hk : rawOk P t n = true) (h : Value.okWide P w r base t v) : ∃ f : Nat → Value, ∀ φ, VR E φ (.agg (rawL f n 0)) v := by
  unfold rawOk at hk
  rw [Bool.and_eq_true, Bool.and_eq_true] at hk
  obtain ⟨⟨h1, h2⟩, h3⟩ := hk
  have h2 := Nat.eq_of_beq_eq_true h2
  cases hc : P.cellTypes P.depth t with
  | none => rw [hc] at h3; cases h3
  | some cs =>
    rw [hc] at h3
    have h3 : ∀ u ∈ cs, plainU P u = true := fun u hu => List.all_eq_true.1 h3 u hu
    have hx : ∃ arr, v = .agg arr ∧ arr.size = n ∧ ∀ x ∈ arr.toList, one x = true := by
      unfold Value.okWide at h
      cases hu : P.underlying t with
      | none => rw [hu] at h1; cases h1
      | some d =>
        rw [hu] at h h1
        have key : ∃ arr, v = .agg arr ∧ arr.size = P.cellsOf t ∧ Row.okWide P w r base t arr := by
          cases d <;> first | exact h | cases h1
        obtain ⟨arr, rfl, hsz, ts, hts, _, hall⟩ := key
        rw [hc] at hts; cases hts
        refine ⟨arr, rfl, hsz.trans h2, fun x hx => ?_⟩
        obtain ⟨i, hi, rfl⟩ := List.getElem_of_mem hx
        obtain ⟨u, hu, hk⟩ := hall i (arr.toList[i]) (by simp at hi; simp [hi])
        have hp := h3 u (List.mem_of_getElem? hu)
        unfold plainU at hp
        cases hd : P.underlying u with
        | none => rw [hd] at hp; cases hp
        | some d => rw [hd] at hp; exact one_of_ok hd hp hk
    obtain ⟨arr, rfl, hsz, hone⟩ := hx
    refine ⟨fun i => arr.toList.getD i undef, fun φ => ⟨arr, rfl, ?_, hone⟩⟩
    rw [rawL_map]
    refine VRL.of_get (by simp [hsz]) fun i a x ha hx => ?_
    have hlt : i < n := by
      have := (List.getElem?_eq_some_iff.1 hx).1
      rw [← hsz]; simpa using this
    rw [List.getElem?_map, List.getElem?_range' hlt] at ha
    have ha : AV.raw (arr.toList.getD (0 + 1 * i) undef) = a := by simpa using ha
    subst ha
    simp only [VR]
    rw [List.getD_eq_getElem?_getD, show 0 + 1 * i = i by omega, hx]; rfl
end Go.AE
namespace Go.AE
/-! ### which functions a function leads to, reckoned over a table of numbers -/
noncomputable def getL (x : Option (List Nat)) : List Nat := match x with | some l => l | none => []
noncomputable def revL (l : List Nat) : List Nat → List Nat := List.rec (motive := fun _ => List Nat → List Nat) (fun a => a) (fun x _ self a => self (x :: a)) l
noncomputable def closeF (adj : T (List Nat)) (f : Nat) (self : List Nat → T Unit → List Nat → List Nat) (todo : List Nat) (st : T Unit) (seen : List Nat) (r : Option Unit) : List Nat :=
  match r with
  | some _ => self todo st seen
  | none => st.ins f (some ()) fun st => self (appL (getL (adj.get f)) todo) st (f :: seen)
noncomputable def closeN (adj : T (List Nat)) (n : Nat) : List Nat → T Unit → List Nat → List Nat :=
  Nat.rec (motive := fun _ => List Nat → T Unit → List Nat → List Nat) (fun _ _ seen => revL seen [])
    (fun _ self todo st seen => List.rec (motive := fun _ => List Nat) (revL seen []) (fun f todo _ => closeF adj f self todo st seen (st.get f)) todo) n
theorem revL_eq : ∀ (l a : List Nat), revL l a = l.reverse ++ a
  | [], a => by simp [revL]
  | x :: l, a => by
    show revL l (x :: a) = _
    rw [revL_eq l]; simp
theorem closeN_eq {P : Program} {adj : T (List Nat)} (ha : ∀ g, getL (adj.get g) = (P.funcs[g]?).elim [] P.leadsTo) : ∀ (n : Nat) (todo : List Nat) (st : T Unit) (seen : List Nat), (∀ x, st.get x ≠ none ↔ x ∈ seen) →
    P.closureVia n todo seen = closeN adj n todo st seen
  | 0, todo, st, seen, _ => by
    show seen.reverse = revL seen []
    rw [revL_eq, List.append_nil]
  | n + 1, [], st, seen, _ => by
    show seen.reverse = revL seen []
    rw [revL_eq, List.append_nil]
  | n + 1, f :: todo, st, seen, hs => by
    show (if seen.contains f then P.closureVia n todo seen else P.closureVia n ((P.funcs[f]?).elim [] P.leadsTo ++ todo) (f :: seen)) = closeF adj f (closeN adj n) todo st seen (st.get f)
    have hf := hs f
    cases hg : st.get f with
    | some u =>
      have : seen.contains f = true := by simpa using hf.1 (by rw [hg]; simp)
      rw [if_pos this]
      exact closeN_eq ha n todo st seen hs
    | none =>
      have hn : f ∉ seen := fun h => hf.2 h hg
      have : ¬ seen.contains f = true := by simpa using hn
      rw [if_neg this]
      show _ = st.ins f (some ()) fun st => closeN adj n (appL (getL (adj.get f)) todo) st (f :: seen)
      rw [ins_eq, appL_eq, ha f]
      refine closeN_eq ha n _ _ _ fun x => ?_
      rw [get_set, List.mem_cons]
      by_cases e : f = x
      · subst e; simp
      · rw [if_neg e, hs x]
        exact ⟨.inr, fun h => h.resolve_left fun h => e h.symm⟩
theorem closure_is {P : Program} {l : List (List Nat)} (hl : P.funcs.toList.map P.leadsTo = l) (f : Nat) {F : Nat} (hF : 1 + (l.map fun x => x.length + 1).sum = F) : P.closure f = closeN (T.ofList l) F [f] .e [] := by
  unfold Program.closure
  have h1 : (P.funcs.toList.map fun g => (P.leadsTo g).length + 1) = l.map fun x => x.length + 1 := by rw [← hl, List.map_map]; rfl
  rw [h1, hF]
  refine closeN_eq (fun g => ?_) F [f] .e [] (fun x => by simp [get_e])
  rw [get_ofList, ← hl, List.getElem?_map, Array.getElem?_toList]
  cases P.funcs[g]? <;> rfl
/-! ### the types' rows, in four parts -/
noncomputable def rangeAll (p : Nat → Bool) (n : Nat) : Nat → Bool := Nat.rec (motive := fun _ => Nat → Bool) (fun _ => true) (fun _ self i => Bool.rec (motive := fun _ => Bool) false (self (Nat.succ i)) (p i)) n
theorem rangeAll_iff (p : Nat → Bool) : ∀ (n i : Nat), rangeAll p n i = true ↔ ∀ j, i ≤ j → j < i + n → p j = true
  | 0, i => ⟨fun _ j h1 h2 => by omega, fun _ => rfl⟩
  | n + 1, i => by
    show (Bool.rec (motive := fun _ => Bool) false (rangeAll p n (i + 1)) (p i)) = true ↔ _
    constructor
    · intro h j h1 h2
      cases hp : p i with
      | false => rw [hp] at h; cases h
      | true =>
        rw [hp] at h
        by_cases e : j = i
        · subst e; exact hp
        · exact (rangeAll_iff p n (i + 1)).1 h j (by omega) (by omega)
    · intro h
      rw [h i (Nat.le_refl _) (by omega)]
      exact (rangeAll_iff p n (i + 1)).2 fun j h1 h2 => h j (by omega) (by omega)
theorem range_all {p : Nat → Bool} {n a b c d : Nat} (hs : a + b + c + d = n) (h1 : rangeAll p a 0 = true) (h2 : rangeAll p b a = true) (h3 : rangeAll p c (a + b) = true) (h4 : rangeAll p d (a + b + c) = true) : (List.range n).all p = true := by
  rw [List.all_eq_true]
  intro j hj
  have hj := List.mem_range.1 hj
  by_cases q1 : j < a
  · exact (rangeAll_iff ..).1 h1 j (by omega) (by omega)
  · by_cases q2 : j < a + b
    · exact (rangeAll_iff ..).1 h2 j (by omega) (by omega)
    · by_cases q3 : j < a + b + c
      · exact (rangeAll_iff ..).1 h3 j (by omega) (by omega)
      · exact (rangeAll_iff ..).1 h4 j (by omega) (by omega)
theorem laid_of {P : Program} {n : Nat} (hn : P.types.size = n) (h : (List.range n).all (rowFine P) = true) (hg : P.globals.all (fun g => decide (g.type < n)) = true) (hf : P.funcs.all (fun f => f.params.all fun t => decide (t < n)) = true) : laidOutB P = true := by
  unfold laidOutB
  rw [hn, h, hg, hf]; rfl
end Go.AE
