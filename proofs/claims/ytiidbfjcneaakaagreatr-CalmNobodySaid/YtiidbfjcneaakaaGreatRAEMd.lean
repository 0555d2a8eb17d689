/- The evaluator AE and its soundness, part d. -/
import Derived.Test.YtiidbfjcneaakaaGreatRAEMc
import Derived.Orders
import Derived.Below
import Derived.ProofKit
import Derived.OpenShut
namespace Go.AE
section
variable {E : Env} {φ φ' φ₁ : Loc} {h h' h₁ h₀ : Hs} {c c' c₁ c₀ : Nat} {w w' w₁ w₂ : World} {ts ts' : Tm} {e : Ex}

theorem exec_ok {φ₀ : Loc} {o : Oper} {a : Act} {cmd : Cmd} {self : Self} (S : SelfOk E self) {K : Kv} (hnd : ∀ c, o.op ≠ .defer c) (hc : CmdOk E φ₀ o a cmd) (g : execC cmd self h c K = .ok e ts' h₀ c₀) :
    ∃ v h₁ c₁, K v h₁ c₁ = .ok e ts' h₀ c₀ ∧ CxRun E φ₀ o a h c v h₁ c₁ := by
  cases cmd with
  | val v =>
    have g : forceV v (fun v => K v h c) = .ok e ts' h₀ c₀ := g
    rw [forceV_eq] at g
    obtain ⟨u, hu, hr⟩ := hc
    exact ⟨v, h, c, g, CxRun.of_runs hnd fun φ w hle hh _ => ⟨φ, w, u, Sim.refl hh, VR.mono hle _ _ hu, hr w⟩⟩
  | new ao mk =>
    have g : h.new c ao (fun h c' => K (mk c) h c') = .ok e ts' h₀ c₀ := g
    rw [new_eq] at g
    refine ⟨_, _, _, g, CxRun.of_runs hnd fun φ w hle hh hf => ?_⟩
    obtain ⟨u, w', N, hr, hgr, hob⟩ := hc w
    have hfc := hf c (Nat.le_refl _) (by omega)
    have hle2 := Loc.le_add φ (w.heap.size, N) hfc
    obtain ⟨h1, h2⟩ := hob (φ.add c (w.heap.size, N)) c (fun b x hb => hle2 b x (hle b x hb)) (Loc.add_same ..)
    exact ⟨_, w', u, Sim.made hh hfc hgr h1, h2, hr⟩
  | rd b f =>
    obtain ⟨ao, v, hx, g, hr⟩ := hc _ _ _ _ _ _ g
    refine ⟨v, h, c, g, CxRun.of_runs hnd fun φ w hle hh _ => ?_⟩
    obtain ⟨u, hu, hrun⟩ := hr φ w hle (hh.obj b ao hx)
    exact ⟨φ, w, u, Sim.refl hh, hu, hrun⟩
  | wr b off l =>
    obtain ⟨h', n, sz, pat, t, hb, hn, g, hst⟩ := stN_ok g
    refine ⟨_, _, _, g, CxRun.of_runs hnd fun φ w hle hh _ => ?_⟩
    obtain ⟨B, C, el, fr, hB, hw, hfr, hrow⟩ := hh.obj b _ hb
    have hC := hrow.2.1
    obtain ⟨us, hus, h1, hr⟩ := hc φ w B C el fr hle hB hw hfr (by omega)
    obtain ⟨B', N', w', hB', hrun, hs⟩ := hst E φ us hus h1 w c hh
    rw [hB] at hB'; cases hB'
    have := run_storeCells (P := E.P) off us 0 w C hw hfr (by rw [hus.length]; omega) h1
    rw [this] at hrun
    cases hrun
    exact ⟨φ, _, undef, hs, undef_VR .., hr⟩
  | cx f =>
    obtain ⟨v, h₁, c₁, g, hrun⟩ := hc self S h c _ _ _ _ _ g
    rw [forceV_eq] at g
    exact ⟨v, h₁, c₁, g, hrun⟩

theorem not_defer {o : Oper} {K : Kc} (g : cmdOf o.op E ts K = .ok e ts' h c) : ∀ cl, o.op ≠ .defer cl := fun cl ho => by
  rw [ho] at g; cases g

theorem exec1_ok (T : TabOk E) {self : Self} (S : SelfOk E self) {φ₀ : Loc} {o : Oper} {a : Act} {K : Kv} (ht : TR E φ₀ ts a.tmps) (g : cmdOf o.op E ts (fun cmd => execC cmd self h c K) = .ok e ts' h₀ c₀) :
    ∃ v h₁ c₁, K v h₁ c₁ = .ok e ts' h₀ c₀ ∧ CxRun E φ₀ o a h c v h₁ c₁ := by
  obtain ⟨cmd, g2, hc⟩ := cmd_ok T ht g
  exact exec_ok S (not_defer g) hc g2

/-! ### is the operation wanted? -/
theorem guardIs_ok {want : Bool} {v : AV} {K : Bool → Out} (g : guardIs want v K = .ok e ts' h₀ c₀) : (∃ b, v = .bool b ∧ K (b == want) = .ok e ts' h₀ c₀) ∨ ((∃ l, v = .tup l) ∧ K false = .ok e ts' h₀ c₀) := by
  cases v <;> try (cases g; done)
  · rename_i b
    refine .inl ⟨b, rfl, ?_⟩
    cases b <;> cases want <;> exact g
  · exact .inr ⟨⟨_, rfl⟩, g⟩
theorem tmps_some {tmps : Array Value} {d : Nat} {v : Value} (h : tmps.getD d undef = v) : tmps[d]? = some v ∨ (tmps[d]? = none ∧ v = undef) := by
  rw [Array.getD_eq_getD_getElem?] at h
  cases hd : tmps[d]? with
  | none => rw [hd] at h; exact .inr ⟨rfl, h.symm⟩
  | some x => rw [hd] at h; left; rw [← h]; rfl
theorem wantedA_ok {o : Oper} {ops : Array Oper} {tmps : Array Value} {K : Bool → Out} (ht : TR E φ ts tmps) (g : wantedA o.guard ops.toList ts K = .ok e ts' h₀ c₀) :
    ∃ r, K r = .ok e ts' h₀ c₀ ∧ Region.wanted o (yielded ops tmps) = r := by
  unfold wantedA at g
  unfold Region.wanted
  cases hg : o.guard with
  | none => rw [hg] at g; exact ⟨true, g, rfl⟩
  | some jw =>
    obtain ⟨j, want⟩ := jw
    rw [hg] at g
    have g : guardT ts want (kidx j ops.toList) K = .ok e ts' h₀ c₀ := g
    unfold guardT at g
    rw [kidx_eq, Array.getElem?_toList] at g
    show ∃ r, K r = _ ∧ (yielded ops tmps j == some want) = r
    cases hp : ops[j]? with
    | none => rw [hp] at g; exact ⟨false, g, by unfold yielded; simp [hp]⟩
    | some p =>
      rw [hp] at g
      have g : (match p.dst with | some d => guardIs want (evalT ts d) K | none => K false) = .ok e ts' h₀ c₀ := g
      cases hd : p.dst with
      | none => rw [hd] at g; exact ⟨false, g, by unfold yielded; simp [hp, hd]⟩
      | some d =>
        rw [hd] at g
        have hv := ht d
        have hy : yielded ops tmps j = (match tmps[d]? with | some (.bool b) => some b | _ => none) := by
          unfold yielded; simp only [hp, hd, Option.bind_some]
          cases tmps[d]? with
          | none => rfl
          | some v => cases v <;> rfl
        rcases guardIs_ok g with ⟨b, hb, g⟩ | ⟨⟨l, hl⟩, g⟩
        · rw [hb] at hv; simp only [VR] at hv
          refine ⟨_, g, ?_⟩
          rcases tmps_some hv with h1 | ⟨_, h2⟩
          · rw [hy, h1]; cases b <;> cases want <;> rfl
          · cases h2
        · rw [hl] at hv
          obtain ⟨arr, hv, _⟩ := hv
          refine ⟨false, g, ?_⟩
          rcases tmps_some hv with h1 | ⟨h1, _⟩
          · rw [hy, h1]; rfl
          · rw [hy, h1]; rfl

theorem putA_eq (d : Option Tmp) (ts : Tm) (v : AV) (K : Tm → Out) : putA d ts v K = K (match d with | none => ts | some d => ts.set d (some v)) := by
  cases d with
  | none => rfl
  | some d => show ts.ins d (some v) K = _; rw [ins_eq]
theorem TR.putD {tmps : Array Value} {df : List Deferred} (ht : TR E φ ts tmps) {o : Oper} (hd : dstOk tmps.size o = true) {v : AV} {u : Value} (hv : VR E φ v u) :
    TR E φ (match o.dst with | none => ts | some d => ts.set d (some v)) ((⟨tmps, df⟩ : Act).put o.dst u).tmps ∧ ((⟨tmps, df⟩ : Act).put o.dst u).tmps.size = tmps.size ∧ ((⟨tmps, df⟩ : Act).put o.dst u).defers = df := by
  unfold dstOk at hd
  cases ho : o.dst with
  | none => exact ⟨ht, rfl, rfl⟩
  | some d =>
    rw [ho] at hd
    exact ⟨ht.put (Nat.blt_eq.mp hd) hv, by simp [Act.put], rfl⟩

theorem MarksOk.sim {n : Nat} {ds : List Deferred} (m : MarksOk n φ h.t w ds) (g : HR E φ h.t w) (f : Fresh φ c c') (s : Sim E φ h c w φ' h' c' w') : MarksOk n φ' h'.t w' ds := by
  obtain ⟨rs, h1, h2, h3⟩ := m
  refine ⟨rs, h1, h2, fun r hr => ?_⟩
  obtain ⟨q1, q2, q3⟩ := h3 r hr
  obtain ⟨k1, k2⟩ := s.unknown g f (Array.getElem?_eq_some_iff.1 q2).1 q3
  exact ⟨q1, k1.trans q2, k2⟩
theorem Fresh.mid (f : Fresh φ c c') (s : Sim E φ h c w φ₁ h₁ c₁ w₁) : Fresh φ₁ c₁ c' := fun b h1 h2 => by
  rw [s.ext b (.inr h1)]; exact f b (Nat.le_trans s.cle h1) h2

theorem dsts_head {o : Oper} {l : List Oper} {t : Nat} (h : o.dst = some t) : t ∈ dsts (o :: l) := by
  show t ∈ (match o.dst with | some d => d :: dsts l | none => dsts l)
  rw [h]; exact List.mem_cons_self ..
theorem dsts_tail {o : Oper} {l : List Oper} {t : Nat} (h : t ∈ dsts l) : t ∈ dsts (o :: l) := by
  show t ∈ (match o.dst with | some d => d :: dsts l | none => dsts l)
  cases o.dst with
  | none => exact h
  | some d => exact List.mem_cons_of_mem _ h

/-- the operations of a region, in their order -/
theorem evOps_ok (T : TabOk E) {self : Self} (S : SelfOk E self) {ops : Array Oper} (n : Nat) (b : Frame) (k : List Item) (cs : List Frame) : ∀ (l : List Oper) (i : Nat) (ts : Tm) (h : Hs) (c : Nat) (e : Ex) (ts' : Tm) (h' : Hs) (c' : Nat) (φ : Loc) (w : World) (a : Act),
    ops.toList.drop i = l → evOps E self ops.toList l ts h c = .ok e ts' h' c' → n ≤ w.heap.size → TR E φ ts a.tmps → (∀ o ∈ ops.toList, dstOk a.tmps.size o = true) → HR E φ h.t w → Fresh φ c c' → MarksOk n φ h.t w a.defers →
      e = .normal ∧ ∃ φ' w' a', Sim E φ h c w φ' h' c' w' ∧ TR E φ' ts' a'.tmps ∧ KeptT (dsts l) a a' ∧ MarksOk n φ' h'.t w' a'.defers ∧
        Steps E.P (lone (fat b a (.inRegion ops (List.range' i l.length) :: k)) cs w) (lone (fat b a' k) cs w')
  | [], i, ts, h, c, e, ts', h', c', φ, w, a, hl, g, hn, ht, hd, hh, hf, hm => by
    have g : Out.ok .normal ts h c = .ok e ts' h' c' := g
    cases g
    exact ⟨rfl, φ, w, a, Sim.refl hh, ht, KeptT.refl .., hm, fat_region_end⟩
  | o :: l, i, ts, h, c, e, ts', h', c', φ, w, a, hl, g, hn, ht, hd, hh, hf, hm => by
    have hi : ops[i]? = some o := by
      rw [← Array.getElem?_toList]
      have := congrArg (·[0]?) hl
      simpa [List.getElem?_drop] using this
    have hl' : ops.toList.drop (i + 1) = l := by
      have := congrArg (List.drop 1) hl
      simpa [List.drop_drop, Nat.add_comm] using this
    have hdo := hd o (by rw [← Array.getElem?_toList] at hi; exact List.mem_of_getElem? hi)
    have g : wantedA o.guard ops.toList ts (evOne E self o ts h c (evOps E self ops.toList l)) = .ok e ts' h' c' := g
    obtain ⟨r, g, hwant⟩ := wantedA_ok ht g
    have hrange : List.range' i (o :: l).length = i :: List.range' (i + 1) l.length := by simp [List.range'_succ]
    rw [hrange]
    cases r with
    | false =>
      have g : putA o.dst ts (.tup []) (fun ts => evOps E self ops.toList l ts h c) = .ok e ts' h' c' := g
      rw [putA_eq] at g
      obtain ⟨p1, p2, p3⟩ := ht.putD (df := a.defers) hdo (undef_VR E φ)
      obtain ⟨he, φ', w', a', q1, q2, q3, q4, q5⟩ := evOps_ok T S n b k cs l (i + 1) _ h c e ts' h' c' φ w (a.put o.dst undef) hl' g hn p1 (by intro x hx; rw [show (a.put o.dst undef).tmps.size = a.tmps.size from p2]; exact hd x hx) hh hf (by rw [show (a.put o.dst undef).defers = a.defers from p3]; exact hm)
      exact ⟨he, φ', w', a', q1, q2, (KeptT.put a o.dst undef fun t ht => dsts_head ht).trans (q3.mono fun t ht => dsts_tail ht), q4, (fat_op_skip hi hwant).trans q5⟩
    | true =>
      have g : cmdOf o.op E ts (fun cmd => execC cmd self h c fun v h c => putA o.dst ts v fun ts => evOps E self ops.toList l ts h c) = .ok e ts' h' c' := g
      obtain ⟨v, h₁, c₁, g, hrun⟩ := exec1_ok T S ht g
      rw [putA_eq] at g
      obtain ⟨φ₁, w₁, u, s1, hu, st1⟩ := hrun φ w b k cs ops i (List.range' (i + 1) l.length) (fun _ _ h => h) hi hwant hh hf
      have hle := s1.le hf
      obtain ⟨p1, p2, p3⟩ := (ht.mono hle).putD (df := a.defers) hdo hu
      obtain ⟨he, φ', w', a', q1, q2, q3, q4, q5⟩ := evOps_ok T S n b k cs l (i + 1) _ h₁ c₁ e ts' h' c' φ₁ w₁ (a.put o.dst u) hl' g (Nat.le_trans hn s1.same.size) p1 (by intro x hx; rw [show (a.put o.dst u).tmps.size = a.tmps.size from p2]; exact hd x hx) s1.hr (hf.mid s1)
        (by rw [show (a.put o.dst u).defers = a.defers from p3]; exact hm.sim hh (show Fresh φ c c₁ from hf) s1)
      exact ⟨he, φ', w', a', Sim.trans hh hf s1 q1, q2, (KeptT.put a o.dst u fun t ht => dsts_head ht).trans (q3.mono fun t ht => dsts_tail ht), q4, st1.trans q5⟩
end
end Go.AE
namespace Go.AE
section
variable {E : Env} {φ φ' φ₁ : Loc} {h h' h₁ h₀ : Hs} {c c' c₁ c₀ : Nat} {w w' w₁ w₂ : World} {ts ts' : Tm} {e : Ex}

/-- a region that draws its order -/
def DrawOk (E : Env) (self : Self) : Prop := ∀ (ops : Array Oper) (ts : Tm) (h : Hs) (c : Nat) (e : Ex) (ts' : Tm) (h' : Hs) (c' : Nat), evDraw E self ops.toList ts h c = .ok e ts' h' c' →
  ∀ (id : Nat), CodeRun E (.region id ops true) ts h c e ts' h' c'
/-- a loop over a map, of which more than one entry is left -/
def QuietOk (E : Env) (self : Self) : Prop := ∀ (a : Code) (r : Rl) (b mb since : Nat) (seen : List Nat) (stepped : Nat) (cur : Option Nat) (o : Nat) (_left : List Ent) (_clock : Nat) (ts : Tm) (h : Hs) (c : Nat) (e : Ex) (ts' : Tm) (h' : Hs) (c' : Nat),
  rlOf a = some r → evalT ts r.it = .ptr b o → h.t.get b = some (.miter mb since seen stepped cur) → leftOf mb since seen stepped h (fun l cl => quietLoop E self a r b mb since seen ts h c l cl) = .ok e ts' h' c' → CodeRun E (.loop a) ts h c e ts' h' c'

/-- a code ahead of what is still to be done -/
theorem CodeRun.ahead {x : Code} {todo : List Item} {_P : Frame → Act → List Item → Prop} {b : Frame} {a : Act} {_k : List Item} {cs : List Frame} {m : Machine} {e1 : Ex} {_ts1 : Tm}
    (hs : Steps E.P m (lone (fat b a (.code x :: todo)) cs w)) {a' : Act} (ha : Arr E.P (lone (fat b a (.code x :: todo)) cs w) b a' todo cs w' e1) : Arr E.P m b a' todo cs w' e1 := by
  cases e1 with
  | normal => exact hs.trans ha
  | exit id => obtain ⟨k2, q5, q6⟩ := ha; exact ⟨k2, hs.trans q5, q6⟩
  | ret => obtain ⟨k2, q5⟩ := ha; exact ⟨k2, hs.trans q5⟩
theorem Arr.pre {P : Program} {m m1 : Machine} {b : Frame} {a' : Act} {k : List Item} {cs : List Frame} {e1 : Ex} (hs : Steps P m m1) (ha : Arr P m1 b a' k cs w' e1) : Arr P m b a' k cs w' e1 := by
  cases e1 with
  | normal => exact hs.trans ha
  | exit id => obtain ⟨k2, q5, q6⟩ := ha; exact ⟨k2, hs.trans q5, q6⟩
  | ret => obtain ⟨k2, q5⟩ := ha; exact ⟨k2, hs.trans q5⟩
/-- a jump passes an item that it does not stop at -/
theorem Arr.out {P : Program} {m : Machine} {b : Frame} {a' : Act} {k : List Item} {x : Item} {cs : List Frame} {e1 : Ex} (hx : ∀ id, exitTo id (x :: k) = exitTo id k) (hn : e1 ≠ .normal) (ha : Arr P m b a' (x :: k) cs w' e1) : Arr P m b a' k cs w' e1 := by
  cases e1 with
  | normal => exact absurd rfl hn
  | exit id => obtain ⟨k2, q5, q6⟩ := ha; exact ⟨k2, q5, q6.trans (hx id)⟩
  | ret => exact ha

/-- one code behind another -/
theorem run_two {a b : Code} {ts1 : Tm} {e1 : Ex} {x : Item} (hx : ∀ k id, exitTo id (x :: k) = exitTo id k) {code : Code}
    (hs : ∀ {P : Program} {bf : Frame} {act : Act} {k : List Item} {cs : List Frame} {w : World}, Steps P (lone (fat bf act (.code code :: k)) cs w) (lone (fat bf act (.code a :: x :: k)) cs w))
    (hb : ∀ {P : Program} {bf : Frame} {act : Act} {k : List Item} {cs : List Frame} {w : World}, Steps P (lone (fat bf act (x :: k)) cs w) (lone (fat bf act (.code b :: k)) cs w))
    (cd : (∀ t ∈ dstsC a, t ∈ dstsC code) ∧ ∀ t ∈ dstsC b, t ∈ dstsC code) (ca : ∀ n, codeOk n code = true → codeOk n a = true ∧ codeOk n b = true) (na : noRange code = true → noRange a = true ∧ noRange b = true)
    (r1 : CodeRun E a ts h c e1 ts1 h₁ c₁) (r2 : e1 = .normal → CodeRun E b ts1 h₁ c₁ e ts' h' c') (r3 : e1 ≠ .normal → e = e1 ∧ ts' = ts1 ∧ h' = h₁ ∧ c' = c₁) : CodeRun E code ts h c e ts' h' c' := by
  intro φ w n bf act k cs hnw ht hok hr hh hf hm
  obtain ⟨φ₁, w₁, a₁, q1, q2, q3, q4, q5⟩ := r1 φ w n bf act (x :: k) cs hnw ht (ca _ hok).1 (hr.imp id fun h => (na h).1) hh hf hm
  by_cases he : e1 = .normal
  · subst he
    obtain ⟨φ₂, w₂, a₂, p1, p2, p3, p4, p5⟩ := r2 rfl φ₁ w₁ n bf a₁ k cs (Nat.le_trans hnw q1.same.size) q2 (by rw [q3.1]; exact (ca _ hok).2) (hr.imp id fun h => (na h).2) q1.hr (hf.mid q1) q4
    exact ⟨φ₂, w₂, a₂, Sim.trans hh hf q1 p1, p2, (q3.mono cd.1).trans (p3.mono cd.2), p4, Arr.pre (hs.trans (Steps.trans q5 hb)) p5⟩
  · obtain ⟨rfl, rfl, rfl, rfl⟩ := r3 he
    exact ⟨φ₁, w₁, a₁, q1, q2, q3.mono cd.1, q4, Arr.out (hx k) he (Arr.pre hs q5)⟩

theorem seqK_ok {self : Self} {b : Code} {o : Out} (g : seqK self b o = .ok e ts' h₀ c₀) : ∃ e1 ts1 h1 c1, o = .ok e1 ts1 h1 c1 ∧ (e1 = .normal → self b ts1 h1 c1 = .ok e ts' h₀ c₀) ∧ (e1 ≠ .normal → e = e1 ∧ ts' = ts1 ∧ h₀ = h1 ∧ c₀ = c1) := by
  cases o with
  | bad n => cases g
  | ok e1 ts1 h1 c1 =>
    refine ⟨e1, ts1, h1, c1, rfl, fun he => ?_, fun he => ?_⟩
    · subst he; exact g
    · cases e1 with
      | normal => exact absurd rfl he
      | exit i => cases g; exact ⟨rfl, rfl, rfl, rfl⟩
      | ret => cases g; exact ⟨rfl, rfl, rfl, rfl⟩

theorem seq_run {self : Self} (S : SelfOk E self) {a b : Code} (g : cdSeq a b E self ts h c = .ok e ts' h' c') : CodeRun E (.seq a b) ts h c e ts' h' c' := by
  obtain ⟨e1, ts1, h1, c1, ho, g1, g2⟩ := seqK_ok (show seqK self b (self a ts h c) = .ok e ts' h' c' from g)
  refine run_two (x := .code b) (fun k id => by simp [exitTo]) fat_seq (Steps.refl ..) ⟨fun t ht => List.mem_append_left _ ht, fun t ht => List.mem_append_right _ ht⟩ (fun n hn => ?_) (fun hn => ?_) (S _ _ _ _ _ _ _ _ ho) (fun he => S _ _ _ _ _ _ _ _ (g1 he)) g2
  · simpa [codeOk] using hn
  · simpa [noRange] using hn
theorem steps_tail {P : Program} {m m1 m' : Machine} (h : Steps P m m') (hne : m ≠ m') (hs : Go.step P m = .next m1) : Steps P m1 m' := by
  obtain ⟨n, hn⟩ := h
  cases n with
  | zero => simp only [runN] at hn; cases hn; exact absurd rfl hne
  | succ n => simp only [runN, hs] at hn; exact ⟨n, hn⟩
theorem step_fat_loop {P : Program} {b : Frame} {a : Act} {k : List Item} {cs : List Frame} {c : Code} : Go.step P (lone (fat b a (.code (.loop c) :: k)) cs w) = .next (lone (fat b a (.code c :: .inLoop c :: k)) cs w) :=
  step_lone_go (by simp [stepG, stepG.exec, fat])
theorem lone_todo {b b' : Frame} {a a' : Act} {t t' : List Item} {cs cs' : List Frame} (h : lone (fat b a t) cs w = lone (fat b' a' t') cs' w') : t = t' := by
  simp only [lone, fat] at h
  injection h with h1 h2 h3
  simp at h2
  exact h2.1.2.2.1
/-- a loop, one round at a time -/
theorem loop_run {self : Self} (S : SelfOk E self) {a : Code} (g : seqK self (.loop a) (self a ts h c) = .ok e ts' h' c') : CodeRun E (.loop a) ts h c e ts' h' c' := by
  obtain ⟨e1, ts1, h1, c1, ho, g1, g2⟩ := seqK_ok g
  intro φ w n bf act k cs hnw ht hok hr hh hf hm
  obtain ⟨φ₁, w₁, a₁, q1, q2, q3, q4, q5⟩ := S _ _ _ _ _ _ _ _ ho φ w n bf act (.inLoop a :: k) cs hnw ht (by simpa [codeOk] using hok) (hr.imp id fun h => by simpa [noRange] using h) hh hf hm
  by_cases he : e1 = .normal
  · subst he
    obtain ⟨φ₂, w₂, a₂, p1, p2, p3, p4, p5⟩ := S _ _ _ _ _ _ _ _ (g1 rfl) φ₁ w₁ n bf a₁ k cs (Nat.le_trans hnw q1.same.size) q2 (by rw [q3.1]; exact hok) hr q1.hr (hf.mid q1) q4
    refine ⟨φ₂, w₂, a₂, Sim.trans hh hf q1 p1, p2, KeptT.trans q3 p3, p4, ?_⟩
    have q5 : Steps E.P (lone (fat bf act (.code a :: .inLoop a :: k)) cs w) (lone (fat bf a₁ (.inLoop a :: k)) cs w₁) := q5
    refine Arr.pre (fat_loop.trans (q5.trans fat_inLoop)) ?_
    cases e with
    | normal => exact steps_tail p5 (fun hm => by have := congrArg List.length (lone_todo hm); simp at this) step_fat_loop
    | exit id => obtain ⟨k2, p5, p6⟩ := p5; exact ⟨k2, steps_tail p5 (fun hm => by have := lone_todo hm; simp at this) step_fat_loop, p6⟩
    | ret => obtain ⟨k2, p5⟩ := p5; exact ⟨k2, steps_tail p5 (fun hm => by have := lone_todo hm; simp at this) step_fat_loop⟩
  · obtain ⟨rfl, rfl, rfl, rfl⟩ := g2 he
    exact ⟨φ₁, w₁, a₁, q1, q2, q3, q4, Arr.out (fun id => by simp [exitTo]) he (Arr.pre fat_loop q5)⟩

theorem block_run {self : Self} (S : SelfOk E self) {id : Nat} {a : Code} (g : cdBlock id a E self ts h c = .ok e ts' h' c') : CodeRun E (.block id a) ts h c e ts' h' c' := by
  have g : blockK id (self a ts h c) = .ok e ts' h' c' := g
  intro φ w n bf act k cs hnw ht hok hr hh hf hm
  cases ho : self a ts h c with
  | bad n => rw [ho] at g; cases g
  | ok e1 ts1 h1 c1 =>
    rw [ho] at g
    have key : (e1 = .normal ∧ e = .normal ∨ e1 = .exit id ∧ e = .normal ∨ (∃ i, e1 = .exit i ∧ i ≠ id ∧ e = .exit i) ∨ e1 = .ret ∧ e = .ret) ∧ ts1 = ts' ∧ h1 = h' ∧ c1 = c' := by
      cases e1 with
      | normal => cases g; exact ⟨.inl ⟨rfl, rfl⟩, rfl, rfl, rfl⟩
      | ret => cases g; exact ⟨.inr (.inr (.inr ⟨rfl, rfl⟩)), rfl, rfl, rfl⟩
      | exit i =>
        have g : Bool.rec (motive := fun _ => Out) (.ok (.exit i) ts1 h1 c1) (.ok .normal ts1 h1 c1) (Nat.beq i id) = .ok e ts' h' c' := g
        cases hb : Nat.beq i id with
        | true =>
          rw [hb] at g; cases g
          have hb := Nat.eq_of_beq_eq_true hb
          subst hb
          exact ⟨.inr (.inl ⟨rfl, rfl⟩), rfl, rfl, rfl⟩
        | false =>
          rw [hb] at g; cases g
          exact ⟨.inr (.inr (.inl ⟨i, rfl, (fun h => by rw [h, Nat.beq_refl] at hb; cases hb), rfl⟩)), rfl, rfl, rfl⟩
    obtain ⟨key, rfl, rfl, rfl⟩ := key
    obtain ⟨φ₁, w₁, a₁, q1, q2, q3, q4, q5⟩ := S _ _ _ _ _ _ _ _ ho φ w n bf act (.inBlock id :: k) cs hnw ht (by simpa [codeOk] using hok) (hr.imp _root_.id fun h => by simpa [noRange] using h) hh hf hm
    refine ⟨φ₁, w₁, a₁, q1, q2, q3, q4, ?_⟩
    rcases key with ⟨rfl, rfl⟩ | ⟨rfl, rfl⟩ | ⟨i, rfl, hne, rfl⟩ | ⟨rfl, rfl⟩
    · exact Steps.trans fat_block (Steps.trans q5 fat_inBlock)
    · obtain ⟨k2, q5, q6⟩ := q5
      exact Steps.trans fat_block (Steps.trans q5 (fat_exit (by rw [q6]; simp [exitTo])))
    · obtain ⟨k2, q5, q6⟩ := q5
      refine ⟨k2, fat_block.trans q5, q6.trans ?_⟩
      have : ¬ (id == i) = true := by simpa using fun h => hne h.symm
      simp [exitTo, this]
    · obtain ⟨k2, q5⟩ := q5
      exact ⟨k2, fat_block.trans q5⟩
end
end Go.AE
namespace Go.AE
section
variable {E : Env} {φ φ' φ₁ : Loc} {h h' h₁ h₀ : Hs} {c c' c₁ c₀ : Nat} {w w' w₁ w₂ : World} {ts ts' : Tm} {e : Ex}

theorem boolOf_ok {v : AV} {K : Bool → Hs → Out} (g : boolOf v h K = .ok e ts' h₀ c₀) : ∃ b, v = .bool b ∧ K b h = .ok e ts' h₀ c₀ := by
  cases v <;> try (cases g; done)
  rename_i b
  have g : forceB b (fun b => K b h) = .ok e ts' h₀ c₀ := g
  rw [forceB_eq] at g
  exact ⟨b, rfl, g⟩
theorem cond_run {self : Self} (S : SelfOk E self) {x : Operand} {a b : Code} (g : cdCond x a b E self ts h c = .ok e ts' h' c') : CodeRun E (.cond x a b) ts h c e ts' h' c' := by
  obtain ⟨t, hx, g⟩ := boolOf_ok (show boolOf (evalO x ts) h (condK self a b ts c) = .ok e ts' h' c' from g)
  intro φ w n bf act k cs hnw ht hok hr hh hf hm
  have hv := eval_VR ht x
  rw [hx] at hv; simp only [VR] at hv
  have hok' : codeOk act.tmps.size a = true ∧ codeOk act.tmps.size b = true := by simpa [codeOk] using hok
  have hstep := fat_cond (P := E.P) (b := bf) (a := act) (k := k) (cs := cs) (w := w) (x := a) (y := b) hv
  cases t with
  | true =>
    obtain ⟨φ₁, w₁, a₁, q1, q2, q3, q4, q5⟩ := S _ _ _ _ _ _ _ _ (show self a ts h c = .ok e ts' h' c' from g) φ w n bf act k cs hnw ht hok'.1 (hr.imp id fun h => by
      have h : noRange a = true ∧ noRange b = true := by simpa [noRange] using h
      exact h.1) hh hf hm
    exact ⟨φ₁, w₁, a₁, q1, q2, q3.mono fun t ht => List.mem_append_left _ ht, q4, Arr.pre hstep q5⟩
  | false =>
    obtain ⟨φ₁, w₁, a₁, q1, q2, q3, q4, q5⟩ := S _ _ _ _ _ _ _ _ (show self b ts h c = .ok e ts' h' c' from g) φ w n bf act k cs hnw ht hok'.2 (hr.imp id fun h => by
      have h : noRange a = true ∧ noRange b = true := by simpa [noRange] using h
      exact h.2) hh hf hm
    exact ⟨φ₁, w₁, a₁, q1, q2, q3.mono fun t ht => List.mem_append_right _ ht, q4, Arr.pre hstep q5⟩
theorem scope_run {self : Self} (S : SelfOk E self) {a : Code} (g : self a ts h c = .ok e ts' h' c') : CodeRun E (.scope a) ts h c e ts' h' c' := by
  intro φ w n bf act k cs hnw ht hok hr hh hf hm
  obtain ⟨φ₁, w₁, a₁, q1, q2, q3, q4, q5⟩ := S _ _ _ _ _ _ _ _ g φ w n bf act (.inScope a :: k) cs hnw ht (by simpa [codeOk] using hok) (hr.imp id fun h => by simpa [noRange] using h) hh hf hm
  refine ⟨φ₁, w₁, a₁, q1, q2, q3, q4, ?_⟩
  cases e with
  | normal => exact Steps.trans fat_scope (Steps.trans q5 fat_inScope)
  | exit i => obtain ⟨k2, q5, q6⟩ := q5; exact ⟨k2, fat_scope.trans q5, q6.trans (by simp [exitTo])⟩
  | ret => obtain ⟨k2, q5⟩ := q5; exact ⟨k2, fat_scope.trans q5⟩
theorem region_run (T : TabOk E) {self : Self} (S : SelfOk E self) {id : Nat} {ops : Array Oper} (g : evOps E self ops.toList ops.toList ts h c = .ok e ts' h' c') : CodeRun E (.region id ops false) ts h c e ts' h' c' := by
  intro φ w n bf act k cs hnw ht hok hr hh hf hm
  have hok' : ∀ o ∈ ops.toList, dstOk act.tmps.size o = true := (allL_iff _ _).1 hok
  obtain ⟨rfl, φ₁, w₁, a₁, q1, q2, q3, q4, q5⟩ := evOps_ok T S n bf k cs ops.toList 0 ts h c e ts' h' c' φ w act rfl g hnw ht hok' hh hf hm
  refine ⟨φ₁, w₁, a₁, q1, q2, q3, q4, Steps.trans fat_region ?_⟩
  rw [List.range_eq_range']
  simpa using q5

/-! ### range over a function -/
theorem fat_endRange {P : Program} {b : Frame} {a : Act} {k : List Item} {cs : List Frame} {B : Nat} {r : Loop} (hw : w.heap[B]? = some (.loop r)) (hs : r.state ≠ .busy) :
    Steps P (lone (fat b a (.endRangeFunc B :: k)) cs w) (lone (fat b a ((r.pending.map Item.code).toList ++ k)) cs { w with heap := w.heap.setIfInBounds B (.loop { r with state := .exhausted }) }) := by
  refine .one (step_lone_go ?_)
  have h1 : (Instr.endLoop B).run P w = .ok r.pending { w with heap := w.heap.setIfInBounds B (.loop { r with state := .exhausted }) } := by
    unfold Instr.endLoop
    have hb : (r.state == .busy) = false := by cases hst : r.state <;> first | rfl | exact absurd hst hs
    simp only [Sem.run_bind, run_getLoop' hw, Result.andThen_ok, hb, Bool.false_eq_true, if_false, run_setLoop _ hw, Sem.run_pure]
  simp only [stepG, stepG.exec, fat]
  simp [h1]

theorem apply_enter {P : Program} {b : Frame} {a : Act} {k : List Item} {cs : List Frame} {l : Nat} {s : Sem Next} {f : FuncId} {args : Array Value} (h : s.run P w = .ok (.enter f args) w') :
    (stepG.apply P true (fat b a (.inRangeFunc l :: k)) cs none s w).bare = .go { frame := Frame.enter P f args .normal, callers := fat b a (.inRangeFunc l :: k) :: cs, status := .running, dying := none } w' := by
  simp [stepG.apply, h, fat]
theorem apply_round {P : Program} {b : Frame} {a : Act} {k : List Item} {cs : List Frame} {l l' : Nat} {s : Sem Next} {f : FuncId} {tmps : Array Value} {as bd : Code} (h : s.run P w = .ok (.round l' f tmps as bd) w') :
    (stepG.apply P true (fat b a (.inRangeFunc l :: k)) cs none s w).bare = .go { frame := Frame.round l' f tmps as bd .normal, callers := fat b a (.inRangeFunc l :: k) :: cs, status := .running, dying := none } w' := by
  simp [stepG.apply, h]
theorem steps_range {P : Program} {b : Frame} {a : Act} {k : List Item} {cs : List Frame} {f : Operand} {ps : Array Tmp} {as bd : Code} {u : Value} {w1 w2 : World} {r l : Nat} (hr : b.roundOf = none)
    (hent : (Instr.enterLoop b.fn a.tmps ps as bd none).run P w = .ok (l, [mark r]) w1)
    (hen : ∀ caller, caller = fat b ⟨a.tmps, mark r :: a.defers⟩ (.inRangeFunc l :: k) → Enters P (do let d ← Deferred.ofValue (a.eval f) #[.func (.yield l) #[] #[]]; invoke d.target d.args) w1 caller cs u w2) :
    Steps P (lone (fat b a (.code (.rangeFunc f ps as bd) :: k)) cs w) (lone (fat b ⟨a.tmps, mark r :: a.defers⟩ (.endRangeFunc l :: k)) cs w2) := by
  obtain ⟨nx, hrun, hst⟩ := hen _ rfl
  have hev : (fat b ⟨a.tmps, mark r :: a.defers⟩ (.inRangeFunc l :: k)).eval f = a.eval f := by rw [fat_eval]; cases f <;> rfl
  have hfin : (fat b ⟨a.tmps, mark r :: a.defers⟩ (.inRangeFunc l :: k)).finish u = fat b ⟨a.tmps, mark r :: a.defers⟩ (.endRangeFunc l :: k) := rfl
  rw [hfin] at hst
  have hsem : (do let d ← resolve (fat b ⟨a.tmps, mark r :: a.defers⟩ (.inRangeFunc l :: k)).eval { callee := .value f, args := #[.const (.func (.yield l) #[] #[])], argTypes := #[] } 0; invoke d.target d.args : Sem Next).run P w1 = .ok nx w1 := by
    have : resolve (fat b ⟨a.tmps, mark r :: a.defers⟩ (.inRangeFunc l :: k)).eval { callee := .value f, args := #[.const (.func (.yield l) #[] #[])], argTypes := #[] } 0 = Deferred.ofValue (a.eval f) #[.func (.yield l) #[] #[]] := by
      unfold resolve
      simp [hev, fat_eval]
      rfl
    rw [this]; exact hrun
  have hres : ∀ fr', (stepG.apply P true (fat b ⟨a.tmps, mark r :: a.defers⟩ (.inRangeFunc l :: k)) cs none (do let d ← resolve (fat b ⟨a.tmps, mark r :: a.defers⟩ (.inRangeFunc l :: k)).eval { callee := .value f, args := #[.const (.func (.yield l) #[] #[])], argTypes := #[] } 0; invoke d.target d.args) w1).bare = fr' →
      (stepG P true { frame := fat b a (.code (.rangeFunc f ps as bd) :: k), callers := cs, status := .running, dying := none } w).bare = fr' := by
    intro fr' h
    simp only [stepG, stepG.exec, fat, hr] at h ⊢
    simp [hent]
    exact h
  rcases hst with ⟨g', args, rfl, hst⟩ | ⟨l', g', tmps, as', bd', rfl, hst⟩
  · exact .head (step_lone_go (hres _ (apply_enter hsem))) hst
  · exact .head (step_lone_go (hres _ (apply_round hsem))) hst
end
end Go.AE
namespace Go.AE
section
variable {E : Env} {φ φ' φ₁ : Loc} {h h' h₁ h₀ : Hs} {c c' c₁ c₀ : Nat} {w w' w₁ w₂ : World} {ts ts' : Tm} {e : Ex}

/-- a block that is new, and not spoken of, is written -/
theorem Sim.asideNew (s : Sim E φ h c w φ₁ h₁ c₁ w₁) {B : Nat} (hx : w.heap.size ≤ B) (hu : Unk φ₁ h₁.t B) (tu : Turned w₁ w₂ B) : Sim E φ h c w φ₁ h₁ c₁ w₂ :=
  ⟨s.hr.aside hu tu, s.ext, s.cle, s.dom, s.new, fun B' hB' hn => by
      rw [tu.old B' (fun e => by omega)]; exact s.fr B' hB' hn,
    ⟨tu.tape.trans s.same.tape, tu.os.trans s.same.os, tu.output.trans s.same.output, by rw [tu.size]; exact s.same.size⟩, s.fl, s.lg, s.keep⟩
theorem HR.unk (g : HR E φ h.t w) {B : Nat} (hB : w.heap.size ≤ B) : Unk φ h.t B := fun b N hb e => by
  obtain ⟨B', N', e', hlt⟩ := g.loc hb
  rw [e] at e'; cases e'; omega

theorem rangeEnd_ok {l : Nat} (g : rangeEnd l ts h c = .ok e ts' h₀ c₀) : ∃ ts0 ps as bd p, h.t.get l = some (.loop ts0 ps as bd p) ∧ ts' = ts ∧ h₀ = h.putD l none ∧ c₀ = c ∧
    ((p = 0 ∧ e = .normal) ∨ (p = 1 ∧ e = .ret) ∨ ∃ i, p = i + 2 ∧ e = .exit i) := by
  unfold rangeEnd at g
  split at g
  · rename_i ts0 ps as bd p hl
    rw [put_eq] at g
    cases p with
    | zero => cases g; exact ⟨_, _, _, _, _, hl, rfl, rfl, rfl, .inl ⟨rfl, rfl⟩⟩
    | succ q =>
      cases q with
      | zero => cases g; exact ⟨_, _, _, _, _, hl, rfl, rfl, rfl, .inr (.inl ⟨rfl, rfl⟩)⟩
      | succ i => cases g; exact ⟨_, _, _, _, _, hl, rfl, rfl, rfl, .inr (.inr ⟨i, rfl, rfl⟩)⟩
  · cases g

theorem marks_inj : ∀ (l m : List Nat), l.map mark = m.map mark → l = m
  | [], [], _ => rfl
  | [], _ :: _, h => by simp at h
  | _ :: _, [], h => by simp at h
  | x :: l, y :: m, h => by
    simp only [List.map_cons, List.cons.injEq] at h
    have h1 : x = y := by
      have := h.1
      unfold mark at this
      injection this with h1 _
      injection h1
    rw [h1, marks_inj l m h.2]

theorem range_run (T : TabOk E) {self : Self} (S : SelfOk E self) {f : Operand} {ps : Array Tmp} {as bd : Code} (g : cdRange f ps as bd E self ts h c = .ok e ts' h' c') : CodeRun E (.rangeFunc f ps as bd) ts h c e ts' h' c' := by
  unfold cdRange at g
  obtain ⟨hnr, g⟩ := guardB_ok g
  have hnr : noRange as = true ∧ noRange bd = true := by simpa using hnr
  rw [new_eq] at g
  obtain ⟨v, h₁, c₁, g, hrun⟩ := callV_ok T S g
  obtain ⟨ts0, ps0, as0, bd0, p, hlo, rfl, rfl, rfl, hp⟩ := rangeEnd_ok g
  intro φ w n b a k cs hnw ht hok hr hh hf hm
  have hr : b.roundOf = none := hr.elim id fun h => by simp [noRange] at h
  have hok' : (∀ x ∈ ps.toList, x < a.tmps.size) ∧ codeOk a.tmps.size as = true ∧ codeOk a.tmps.size bd = true := by
    have h1 : (allL (fun p => Nat.blt p a.tmps.size) ps.toList = true ∧ codeOk a.tmps.size as = true) ∧ codeOk a.tmps.size bd = true := by simpa [codeOk, and_assoc] using hok
    refine ⟨fun x hx => ?_, h1.1.2, h1.2⟩
    exact Nat.blt_eq.mp ((allL_iff _ _).1 h1.1.1 x hx)
  have hfc : φ c = none := hf c (Nat.le_refl _) rfl
  -- the two blocks
  let w0 : World := { w with heap := w.heap.push (.deferred (some [])) }
  have gr0 : Grown w w0 := grown_push w (.deferred (some [])) w.drawn
  have sI : Sim E φ h c w φ h c w0 := Sim.idle hh (fun B hB => gr0.old B hB) ⟨gr0.tape, gr0.os, gr0.output, by rw [gr0.size]; omega⟩
  let lp : Loop := { state := .ready, pending := none, fn := b.fn, tmps := a.tmps, params := ps, assign := as, body := bd, defers := w.heap.size }
  let w1 : World := { w0 with heap := w0.heap.push (.loop lp) }
  have gr1 : Grown w0 w1 := grown_push w0 (.loop lp) w0.drawn
  have hw1 : w1.heap[w0.heap.size]? = some (.loop lp) := push_last w0 (.loop lp) w0.drawn
  have hle1 := Loc.le_add φ (w0.heap.size, 0) hfc
  have sM : Sim E φ h c w0 (φ.add c (w0.heap.size, 0)) (h.newD c (.loop ts' ps.toList as bd 0)) (c + 1) w1 :=
    Sim.made sI.hr hfc gr1 ⟨w0.heap.size, 0, .ready, none, b.fn, a.tmps, w.heap.size, Loc.add_same .., hw1, ⟨rfl, rfl⟩, ht.mono hle1, hok'.2.1, hok'.2.2, hnr.1, hnr.2, hok'.1⟩
  have hent : (Instr.enterLoop b.fn a.tmps ps as bd none).run E.P w = .ok (w0.heap.size, [mark w.heap.size]) w1 := by
    unfold Instr.enterLoop
    simp only [Sem.run_bind, run_newObj, Result.andThen_ok, Sem.run_pure]
    rfl
  have hfresh1 : Fresh (φ.add c (w0.heap.size, 0)) (c + 1) c' := hf.mid (c₁ := c + 1) (Sim.trans hh (show Fresh φ c (c + 1) from hf) sI sM)
  obtain ⟨φ2, w2, u, s2, hv, hen⟩ := hrun (φ.add c (w0.heap.size, 0)) w1 (a.eval f) #[.func (.yield w0.heap.size) #[] #[]] (fat b ⟨a.tmps, mark w.heap.size :: a.defers⟩ (.inRangeFunc w0.heap.size :: k)) cs
    (VR.mono hle1 _ _ (eval_VR ht f)) (VRL_cons ⟨.yield w0.heap.size, #[], #[], rfl, ⟨_, _, Loc.add_same .., rfl⟩, VRL_nil, VRL_nil⟩ VRL_nil) sM.hr hfresh1
  have hle2 := s2.le hfresh1
  have hc2 : φ2 c = some (w0.heap.size, 0) := hle2 _ _ (Loc.add_same ..)
  obtain ⟨B, N, st, pd, fn, tmps, df, hB, hw2, hpend, _⟩ := s2.hr.obj c _ hlo
  rw [hc2] at hB; cases hB
  have hst : st ≠ .busy := by
    match p, hpend with
    | 0, h => rw [h.1]; exact fun h => by cases h
    | 1, h => rw [h.1]; exact fun h => by cases h
    | i + 2, h => rw [h.1]; exact fun h => by cases h
  have hcn : h₁.t.get c ≠ none := by rw [hlo]; simp
  have sF := Sim.forget (c := c') s2.hr c
  have uF := unk_forget s2.hr hcn hc2
  have sA : Sim E φ h c w0 φ2 (h₁.putD c none) c' w2 := Sim.trans sI.hr hf sM (Sim.trans sM.hr hfresh1 s2 sF)
  have sAll := Sim.trans hh hf sI sA
  have tu := turned_loop w2 w0.heap.size (.loop { state := .exhausted, pending := pd, fn, tmps, params := ps0.toArray, assign := as0, body := bd0, defers := df })
  have hl1 : w0.heap.size = w.heap.size + 1 := gr0.size
  have sEnd := sAll.asideNew (by omega) uF tu
  have hlt0 : w.heap.size < w0.heap.size := by omega
  obtain ⟨k1, k2⟩ := sA.unknown sI.hr hf hlt0 (fun b N hb e => hh.unk (Nat.le_refl _) b N hb e)
  have hm2 := hm.sim hh hf sAll
  refine ⟨φ2, _, ⟨a.tmps, mark w.heap.size :: a.defers⟩, sEnd, ht.mono (sAll.le hf), ⟨rfl, fun _ _ => rfl⟩, ?_, ?_⟩
  · obtain ⟨rs, h1, h2, h3⟩ := hm2
    obtain ⟨rs', h1', h2', h3'⟩ := hm
    have : rs = rs' := marks_inj _ _ (h1.symm.trans h1')
    subst this
    refine ⟨w.heap.size :: rs, by rw [h1]; rfl, List.nodup_cons.2 ⟨fun hm => ?_, h2⟩, fun r hr => ?_⟩
    · have := (Array.getElem?_eq_some_iff.1 (h3' _ hm).2.1).1; omega
    · rcases List.mem_cons.1 hr with rfl | hr
      · refine ⟨hnw, ?_, k2⟩
        rw [tu.old _ (by omega), k1]
        exact push_last w _ w.drawn
      · obtain ⟨q1, q2, q3⟩ := h3 r hr
        refine ⟨q1, ?_, q3⟩
        have := (Array.getElem?_eq_some_iff.1 (h3' _ hr).2.1).1
        rw [tu.old _ (by omega)]; exact q2
  · have st1 := steps_range (P := E.P) (k := k) hr hent fun caller hcal => by rw [hcal]; exact hen
    have st2 := fat_endRange (P := E.P) (b := b) (a := ⟨a.tmps, mark w.heap.size :: a.defers⟩) (k := k) (cs := cs) hw2 hst
    have st := st1.trans st2
    rcases hp with ⟨rfl, rfl⟩ | ⟨rfl, rfl⟩ | ⟨i, rfl, rfl⟩
    · have : pd = none := hpend.2
      subst this; exact st
    · have : pd = some .ret := hpend.2
      subst this; exact ⟨k, st⟩
    · have : pd = some (.exit i) := hpend.2
      subst this; exact ⟨k, st, rfl⟩

/-- one statement -/
theorem step_ok (T : TabOk E) {self : Self} (S : SelfOk E self) (hD : DrawOk E self) (hQ : QuietOk E self) : SelfOk E (fun code ts h c => step code E self ts h c) := by
  intro code ts h c e ts' h' c' g
  have g : step code E self ts h c = .ok e ts' h' c' := g
  cases code with
  | skip =>
    have g : Out.ok .normal ts h c = .ok e ts' h' c' := g
    cases g
    exact fun φ w n b a k cs _ ht _ _ hh _ hm => ⟨φ, w, a, Sim.refl hh, ht, KeptT.refl .., hm, fat_skip⟩
  | label l =>
    have g : Out.ok .normal ts h c = .ok e ts' h' c' := g
    cases g
    exact fun φ w n b a k cs _ ht _ _ hh _ hm => ⟨φ, w, a, Sim.refl hh, ht, KeptT.refl .., hm, fat_label⟩
  | seq a b => exact seq_run S g
  | cond x a b => exact cond_run S g
  | block id a => exact block_run S g
  | loop a =>
    have g : loopO E self a ts h c (rlOf a) = .ok e ts' h' c' := g
    cases hr : rlOf a with
    | none => rw [hr] at g; exact loop_run S g
    | some r =>
      rw [hr] at g
      have g : loopR E self a ts h c r = .ok e ts' h' c' := g
      cases hit : evalT ts r.it <;> simp only [loopR, hit] at g <;> try (cases g; done)
      rename_i b off
      cases hb : h.t.get b with
      | none => simp only [hb] at g; cases g
      | some ob =>
        cases ob <;> simp only [hb] at g <;> try (cases g; done)
        rename_i mb since seen stepped cur
        obtain ⟨es, clock, hmb, b1, b2, g2⟩ := leftOf_ok g
        have g3 : Bool.rec (motive := fun _ => Out) (seqK self (.loop a) (self a ts h c)) (quietLoop E self a r b mb since seen ts h c (unseen seen es) clock) (Nat.blt 1 (lenL (unseen seen es))) = .ok e ts' h' c' := g2
        cases hlen : Nat.blt 1 (lenL (unseen seen es)) with
        | false => rw [hlen] at g3; exact loop_run S g3
        | true =>
          rw [hlen] at g3
          refine hQ a r b mb since seen stepped cur off [] 0 ts h c e ts' h' c' hr hit hb ?_
          have : leftOf mb since seen stepped h (fun l cl => quietLoop E self a r b mb since seen ts h c l cl) = quietLoop E self a r b mb since seen ts h c (unseen seen es) clock := by
            unfold leftOf at g ⊢
            rw [hmb] at g ⊢
            obtain ⟨q1, g⟩ := guardB_ok g
            obtain ⟨q2, g⟩ := guardB_ok g
            show guardB _ _ (guardB _ _ _) = _
            rw [q1, q2]; rfl
          rw [this]; exact g3
  | scope a => exact scope_run S g
  | exit id =>
    have g : Out.ok (.exit id) ts h c = .ok e ts' h' c' := g
    cases g
    exact fun φ w n b a k cs _ ht _ _ hh _ hm => ⟨φ, w, a, Sim.refl hh, ht, KeptT.refl .., hm, k, Steps.refl .., rfl⟩
  | ret =>
    have g : Out.ok .ret ts h c = .ok e ts' h' c' := g
    cases g
    exact fun φ w n b a k cs _ ht _ _ hh _ hm => ⟨φ, w, a, Sim.refl hh, ht, KeptT.refl .., hm, k, Steps.refl ..⟩
  | region id ops draw =>
    cases draw with
    | false => exact region_run T S g
    | true => exact hD ops ts h c e ts' h' c' g id
  | rangeFunc f ps as bd => exact range_run T S g
  | goto l => cases g
  | refuse w => cases g
end
end Go.AE
namespace Go.AE
section
variable {E : Env} {ts ts' : Tm}

theorem optNat_congr {o : Option Operand} (h : ∀ x, o = some x → evalO x ts = evalO x ts') (d : Nat) : optNat ts o d = optNat ts' o d := by
  funext K
  cases o with
  | none => rfl
  | some x => show natOf (evalO x ts) K = natOf (evalO x ts') K; rw [h x rfl]
theorem evalL_congr {l : List Operand} (h : ∀ x ∈ l, evalO x ts = evalO x ts') : evalL ts l = evalL ts' l := by
  unfold evalL
  rw [mapL_eq, mapL_eq]
  exact List.map_congr_left h
theorem fillParts_congr {d : TypeDesc} : ∀ {l : List (Nat × Operand)}, (∀ p ∈ l, evalO p.2 ts = evalO p.2 ts') → fillParts E d ts l = fillParts E d ts' l
  | [], _ => rfl
  | p :: l, h => by
    funext z K
    show place E p.1 (fun off size => cellsK (evalO p.2 ts) 258 (fillPart off size z fun z => fillParts E d ts l z K)) d = place E p.1 (fun off size => cellsK (evalO p.2 ts') 258 (fillPart off size z fun z => fillParts E d ts' l z K)) d
    rw [h p (List.mem_cons_self ..), fillParts_congr (fun q hq => h q (List.mem_cons_of_mem _ hq))]
theorem fillElems_congr {sz len : Nat} : ∀ {l : List (Nat × Operand)}, (∀ p ∈ l, evalO p.2 ts = evalO p.2 ts') → fillElems sz len ts l = fillElems sz len ts' l
  | [], _ => rfl
  | p :: l, h => by
    funext t K
    show guardB (Nat.blt p.1 len) 259 (cellsK (evalO p.2 ts) 260 (fillElem sz p.1 t fun t => fillElems sz len ts l t K)) = guardB (Nat.blt p.1 len) 259 (cellsK (evalO p.2 ts') 260 (fillElem sz p.1 t fun t => fillElems sz len ts' l t K))
    rw [h p (List.mem_cons_self ..), fillElems_congr (fun q hq => h q (List.mem_cons_of_mem _ hq))]
theorem arg_congr {l : List Operand} (h : ∀ x ∈ l, evalO x ts = evalO x ts') (i : Nat) : arg l i ts = arg l i ts' := by
  funext K
  unfold arg
  cases hi : kidx i l with
  | none => rfl
  | some x =>
    rw [kidx_eq] at hi
    show K (evalO x ts) = K (evalO x ts')
    rw [h x (List.mem_of_getElem? hi)]
theorem builtin_congr {b : Builtin} {l : List Operand} {tys : List TypeId} (h : ∀ x ∈ l, evalO x ts = evalO x ts') : cBuiltin b l tys E ts = cBuiltin b l tys E ts' := by
  funext K
  cases b <;> first
    | rfl
    | (simp only [cBuiltin, cLen, cCap, cAppend, cCopy, cDelete, cMinmax, cClear, arg_congr h])

theorem slArr_congr {v : AV} {lo hi mx : Option Operand} (h1 : ∀ x, lo = some x → evalO x ts = evalO x ts') (h2 : ∀ x, hi = some x → evalO x ts = evalO x ts') (h3 : ∀ x, mx = some x → evalO x ts = evalO x ts') (K : Kc) (d : TypeDesc) :
    slArr E v ts lo hi mx K d = slArr E v ts' lo hi mx K d := by
  have e1 : ∀ d, optNat ts lo d = optNat ts' lo d := fun d => optNat_congr h1 d
  have e2 : ∀ d, optNat ts hi d = optNat ts' hi d := fun d => optNat_congr h2 d
  have e3 : ∀ d, optNat ts mx d = optNat ts' mx d := fun d => optNat_congr h3 d
  have s1 : ∀ b off len cap sz ex K, slSl b off len cap sz ex ts lo hi mx K = slSl b off len cap sz ex ts' lo hi mx K := fun b off len cap sz ex K => by
    unfold slSl
    cases mx with
    | none => simp only [e1, e2]
    | some m =>
      cases hi with
      | none => rfl
      | some hh => simp only [e1, h2 hh rfl, h3 m rfl]
  have s2 : ∀ K, slNil ts lo hi mx K = slNil ts' lo hi mx K := fun K => by unfold slNil; simp only [e1, e2, e3]
  have s3 : ∀ s K, slStr s ts lo hi mx K = slStr s ts' lo hi mx K := fun s K => by unfold slStr; cases mx <;> simp only [e1, e2]
  have s4 : ∀ n K, slV v n ts lo hi mx K = slV v n ts' lo hi mx K := fun n K => by
    unfold slV; cases v <;> first | rfl | exact s2 _ | simp only [s1]
  have s5 : ∀ K, slS v ts lo hi mx K = slS v ts' lo hi mx K := fun K => by
    unfold slS; cases v <;> first | rfl | exact s3 _ _
  unfold slArr
  cases d <;> first | rfl | (simp only [s1]; done) | (simp only [s4]; done) | (simp only [s5]; done)

theorem cmdOf_congr {op : Op} (h : ∀ x ∈ op.operands, evalO x ts = evalO x ts') : cmdOf op E ts = cmdOf op E ts' := by
  funext K
  cases op <;> simp only [Op.operands] at h <;> try (first | rfl | (simp only [cmdOf, cMove, cPick, cBox, cLoad, cStore, cNilCheck, cBin, cUn, cConvert, cIface, cMakeChan, cMakeSlice, cFieldAddr, cField, cIndexAddr, cIndex, cLookup, cMapUpdate, cExtract, cRange, cNext, cEntry] ; simp_all; done))
  case build t ps =>
    show cBuild t ps E ts K = cBuild t ps E ts' K
    unfold cBuild
    have : ∀ d, fillParts E d ts ps.toList = fillParts E d ts' ps.toList := fun d => fillParts_congr fun p hp => h p.2 (by simp; exact ⟨p.1, by simpa using hp⟩)
    simp only [this]
  case buildSlice t n ps =>
    show cBuildSlice t n ps E ts K = cBuildSlice t n ps E ts' K
    unfold cBuildSlice
    have : ∀ sz, fillElems sz n ts ps.toList = fillElems sz n ts' ps.toList := fun d => fillElems_congr fun p hp => h p.2 (by simp; exact ⟨p.1, by simpa using hp⟩)
    simp only [this]
  case makeFunc f first cap =>
    show cFunc f first cap E ts K = cFunc f first cap E ts' K
    unfold cFunc
    have e1 : evalL ts first.toList = evalL ts' first.toList := evalL_congr fun x hx => h x (by simp at hx ⊢; exact .inl hx)
    have e2 : evalL ts cap.toList = evalL ts' cap.toList := evalL_congr fun x hx => h x (by simp at hx ⊢; exact .inr hx)
    rw [e1, e2]
  case slice t x lo hi mx =>
    show E.und t (slArr E (evalO x ts) ts lo hi mx K) = E.und t (slArr E (evalO x ts') ts' lo hi mx K)
    have hx : evalO x ts = evalO x ts' := h x (by simp)
    congr 1
    funext d
    rw [hx]
    exact slArr_congr (fun y hy => h y (by subst hy; simp)) (fun y hy => h y (by subst hy; simp)) (fun y hy => h y (by subst hy; simp)) K d
  case call cl =>
    show cCall cl E ts K = cCall cl E ts' K
    have ha : ∀ x ∈ cl.args.toList, evalO x ts = evalO x ts' := fun x hx => h x (by simp only [Call.operands]; simp at hx ⊢; exact .inr hx)
    unfold cCall
    cases hc : cl.callee with
    | value f =>
      show cCallV f cl.args.toList E ts K = cCallV f cl.args.toList E ts' K
      unfold cCallV
      rw [evalL_congr ha, h f (by simp [Call.operands, hc])]
    | builtin b => exact congrFun (builtin_congr ha) K
    | invoke _ _ => rfl
  case select cs bl =>
    show cSelect cs bl E ts K = cSelect cs bl E ts' K
    unfold cSelect
    cases bl with
    | true => rfl
    | false =>
      obtain ⟨l⟩ := cs
      cases l with
      | nil => rfl
      | cons s l =>
        cases l with
        | cons _ _ => rfl
        | nil =>
          show selOne s E ts K = selOne s E ts' K
          unfold selOne
          have h1 : evalO s.chan ts = evalO s.chan ts' := h s.chan (by simp)
          have h2 : ∀ x, s.send = some x → evalO x ts = evalO x ts' := fun x hx => h x (by simp [hx])
          rw [h1]
          cases hs : s.send with
          | none => rfl
          | some x => simp only [h2 x hs]
end
end Go.AE
namespace Go.AE
def Loc.cut (φ : Loc) (c : Nat) : Loc := fun b => if b < c then φ b else none
theorem Loc.cut_le (φ : Loc) (c : Nat) : (φ.cut c).le φ := fun b x h => by
  unfold Loc.cut at h
  split at h
  · exact h
  · cases h
theorem Loc.cut_lt {φ : Loc} {c b : Nat} (h : b < c) : φ.cut c b = φ b := if_pos h
theorem fresh_lt {ψ : Loc} {c c' b : Nat} {x : Nat × Nat} (f : Fresh ψ c c') (h : ψ b = some x) : b < c := by
  apply Nat.lt_of_not_le
  intro hb
  rw [f b hb rfl] at h; cases h
theorem fresh_cut (φ : Loc) (c c' : Nat) : Fresh (φ.cut c) c c' := fun b hb _ => if_neg (by omega)

section
variable {E : Env} {φ ψ : Loc} {c c' : Nat}
mutual
/-- a value that speaks of blocks below c alone -/
theorem VR.scope (f : Fresh ψ c c') : ∀ (a : AV) (u v : Value), VR E φ a u → VR E ψ a v → VR E (φ.cut c) a u
  | .int _ _, _, _, g, _ => g
  | .bool _, _, _, g, _ => g
  | .str _, _, _, g, _ => g
  | .raw _, _, _, g, _ => g
  | .sym _, _, _, g, _ => g
  | .any, _, _, _, _ => trivial
  | .nilp, _, _, g, _ => g
  | .ptr _ _, _, _, ⟨B, N, e, g⟩, ⟨_, _, e', _⟩ => ⟨B, N, (Loc.cut_lt (fresh_lt f e')).trans e, g⟩
  | .nils, _, _, g, _ => g
  | .sl _ _ _ _ _ _, _, _, ⟨B, N, a, cap', e, g⟩, ⟨_, _, _, _, e', _⟩ => ⟨B, N, a, cap', (Loc.cut_lt (fresh_lt f e')).trans e, g⟩
  | .nilm, _, _, g, _ => g
  | .map _, _, _, ⟨B, N, e, g⟩, ⟨_, _, e', _⟩ => ⟨B, N, (Loc.cut_lt (fresh_lt f e')).trans e, g⟩
  | .nilc, _, _, g, _ => g
  | .chan _, _, _, ⟨B, N, e, g⟩, ⟨_, _, e', _⟩ => ⟨B, N, (Loc.cut_lt (fresh_lt f e')).trans e, g⟩
  | .fn fn first cap, _, _, ⟨g, first', cap', e, hf, h1, h2⟩, ⟨g2, first2, cap2, _, hf2, q1, q2⟩ => ⟨g, first', cap', e, by
      cases fn with
      | yield l => obtain ⟨B, N, e, hg⟩ := hf; obtain ⟨_, _, e', _⟩ := hf2; exact ⟨B, N, (Loc.cut_lt (fresh_lt f e')).trans e, hg⟩
      | _ => exact hf, VRL.scope f first _ _ h1 q1, VRL.scope f cap _ _ h2 q2⟩
  | .nilf, _, _, g, _ => g
  | .ifc _ a, _, _, ⟨u, e, g⟩, ⟨u', _, g'⟩ => ⟨u, e, VR.scope f a u u' g g'⟩
  | .nili, _, _, g, _ => g
  | .agg l, _, _, ⟨arr, e, g, ho⟩, ⟨_, _, g', _⟩ => ⟨arr, e, VRL.scope f l _ _ g g', ho⟩
  | .tup l, _, _, ⟨arr, e, g⟩, ⟨_, _, g'⟩ => ⟨arr, e, VRL.scope f l _ _ g g'⟩
theorem VRL.scope (f : Fresh ψ c c') : ∀ (l : List AV) (m n : List Value), VRL E φ l m → VRL E ψ l n → VRL E (φ.cut c) l m
  | [], _, _, g, _ => g
  | a :: l, _, _, ⟨v, m, e, g, gl⟩, ⟨v', n, _, g', gl'⟩ => ⟨v, m, e, VR.scope f a v v' g g', VRL.scope f l m n gl gl'⟩
end
theorem EntsR.scope (f : Fresh ψ c c') : ∀ (l : List Ent) (m n : List MapEntry), EntsR E φ l m → EntsR E ψ l n → EntsR E (φ.cut c) l m
  | [], _, _, g, _ => g
  | _ :: l, _, _, ⟨x, r, e, ⟨h1, h2, h3⟩, g⟩, ⟨_x', r', _, ⟨q1, q2, _⟩, g'⟩ => ⟨x, r, e, ⟨VR.scope f _ _ _ h1 q1, VR.scope f _ _ _ h2 q2, h3⟩, EntsR.scope f l r r' g g'⟩
theorem RowR.scope (f : Fresh ψ c c') {n sz : Nat} {pat : List AV} {t : T (List AV)} {C D : Array Value} (h : RowR E φ n sz pat t C) (h' : RowR E ψ n sz pat t D) : RowR E (φ.cut c) n sz pat t C :=
  ⟨h.1, h.2.1, h.2.2.1, fun k hk => by
    obtain ⟨a, v, h1, h2, h3, h4⟩ := h.2.2.2 k hk
    obtain ⟨a', v', q1, _, q3, _⟩ := h'.2.2.2 k hk
    rw [h1] at q1; cases q1
    exact ⟨a, v, h1, h2, VR.scope f _ _ _ h3 q3, h4⟩⟩
theorem TR.scope (f : Fresh ψ c c') {ts : Tm} {tmps tmps' : Array Value} (h : TR E φ ts tmps) (h' : TR E ψ ts tmps') : TR E (φ.cut c) ts tmps := fun i => VR.scope f _ _ _ (h i) (h' i)
theorem OR.scope (f : Fresh ψ c c') {w w' : World} {b : Nat} {o : AObj} (h : OR E φ w b o) (h' : OR E ψ w' b o) : OR E (φ.cut c) w b o := by
  cases o with
  | row =>
    obtain ⟨B, C, e, fr, h1, h2, h3, h4⟩ := h
    obtain ⟨_, D, _, _, q1, _, _, q4⟩ := h'
    exact ⟨B, C, e, fr, (Loc.cut_lt (fresh_lt f q1)).trans h1, h2, h3, h4.scope f q4⟩
  | map =>
    obtain ⟨B, N, x, h1, h2, h3⟩ := h
    obtain ⟨_, _, y, q1, _, q3⟩ := h'
    exact ⟨B, N, x, (Loc.cut_lt (fresh_lt f q1)).trans h1, h2, EntsR.scope f _ _ _ h3 q3⟩
  | chan =>
    obtain ⟨B, N, x, s, r, h1, h2, h3⟩ := h
    obtain ⟨_, _, y, _, _, q1, _, q3⟩ := h'
    exact ⟨B, N, x, s, r, (Loc.cut_lt (fresh_lt f q1)).trans h1, h2, VRL.scope f _ _ _ h3 q3⟩
  | loop =>
    obtain ⟨B, N, st, pd, fn, tmps, df, h1, h2, h3, h4, h5⟩ := h
    obtain ⟨_, _, _, _, _, tmps', _, q1, _, _, q4, _⟩ := h'
    exact ⟨B, N, st, pd, fn, tmps, df, (Loc.cut_lt (fresh_lt f q1)).trans h1, h2, h3, h4.scope f q4, h5⟩
  | miter =>
    obtain ⟨B, N, M, K, sn, h1, h0, h2, h3⟩ := h
    obtain ⟨_, _, _, _, _, q1, q0, _⟩ := h'
    exact ⟨B, N, M, K, sn, (Loc.cut_lt (fresh_lt f q1)).trans h1, (Loc.cut_lt (fresh_lt f q0)).trans h0, h2, h3⟩
  | mitq =>
    obtain ⟨B, N, M, K, s, sn, h1, h0, h2, h3⟩ := h
    obtain ⟨_, _, _, _, _, _, q1, q0, _⟩ := h'
    exact ⟨B, N, M, K, s, sn, (Loc.cut_lt (fresh_lt f q1)).trans h1, (Loc.cut_lt (fresh_lt f q0)).trans h0, h2, h3⟩
  | siter =>
    obtain ⟨B, N, x, h1, h2, h3⟩ := h
    obtain ⟨_, _, _, q1, _⟩ := h'
    exact ⟨B, N, x, (Loc.cut_lt (fresh_lt f q1)).trans h1, h2, h3⟩
end
end Go.AE
namespace Go.AE
section
variable {E : Env} {φ φ' φ₁ : Loc} {h h' h₁ h₀ : Hs} {c c' c₁ c₀ : Nat} {w w' w₁ w₂ : World} {ts ts' : Tm} {e : Ex}

/-! ### the evaluator is right at every depth -/
theorem drawOk_off {self : Self} (hE : E.draws = false) : DrawOk E self := by
  intro ops ts h c e ts' h' c' g
  unfold evDraw at g
  rw [hE] at g
  cases g
theorem quietOk_off {self : Self} (hE : E.quiets = false) : QuietOk E self := by
  intro a r b mb since seen stepped cur o left clock ts h c e ts' h' c' _ _ _ g
  exfalso
  unfold leftOf at g
  split at g
  · obtain ⟨_, g⟩ := guardB_ok g
    obtain ⟨_, g⟩ := guardB_ok g
    unfold quietLoop at g
    rw [hE] at g
    cases g
  · cases g
theorem ev_ok (T : TabOk E) (hD : ∀ self, SelfOk E self → DrawOk E self) (hQ : ∀ self, SelfOk E self → QuietOk E self) : ∀ n, SelfOk E (ev E n) := by
  intro n
  induction n with
  | zero => intro code ts h c e ts' h' c' g; cases g
  | succ n ih => exact step_ok T ih (hD _ ih) (hQ _ ih)

/-! ### the tables -/
noncomputable def zszOk (l : List TypeInfo) : Bool := allL (fun i => match i.zero with | some z => Nat.beq z.cells.size i.size | none => true) l
theorem tabOk_of {P : Program} (hE : E.P = P) (hty : E.ty = T.ofList P.types.toList) (hfn : E.fn = T.ofList (mapL fiOf P.funcs.toList)) (hz : zszOk P.types.toList = true)
    (hm : P.follows .mixedOrders = true)
    (hf : ∀ i op k n r, E.fact i op k n = some r → ∃ k' m, E.symv i = .int k' m ∧ ∃ u, (∀ φ, VR E φ r u) ∧ ∀ t w, (binOp op t (.int k' m) (.int k n)).run E.P w = .ok u w) : TabOk E := by
  refine ⟨fun t i h => ?_, fun f fi h => ?_, fun t i z h g => ?_, by rw [hE]; exact hm, hf⟩
  · rw [hty, get_ofList, Array.getElem?_toList] at h
    rw [hE]
    show (if t < P.types.size then P.types[t]? else _) = _
    rw [if_pos (Array.getElem?_eq_some_iff.1 h).1]; exact h
  · rw [hfn, get_ofList, mapL_eq, List.getElem?_map, Array.getElem?_toList] at h
    rw [hE]
    cases hx : P.funcs[f]? with
    | none => rw [hx] at h; cases h
    | some fn => rw [hx] at h; simp at h; exact ⟨fn, rfl, h⟩
  · rw [hty, get_ofList] at h
    unfold zszOk at hz
    rw [allL_iff] at hz
    have := hz i (List.mem_of_getElem? h)
    rw [g] at this
    exact Nat.eq_of_beq_eq_true this

/-! ### a call, up to where its frame leaves -/
theorem steps_leave {P : Program} {cs : List Frame} {fn : Func} {v : Value} : ∀ (rs : List Nat) (fr : Frame) (w : World), fr.defers = rs.map mark → fr.mode = .returning → fr.kind = .normal → P.funcs[fr.fn]? = some fn →
    rs.Nodup → (∀ r ∈ rs, w.heap[r]? = some (.deferred (some []))) → (results fn fr.tmps).run P (World.takes w rs) = .ok v (World.takes w rs) →
    ∃ fr', Steps P (lone fr cs w) (lone fr' cs (World.takes w rs)) ∧ fr'.fn = fr.fn ∧ fr'.leaving P (World.takes w rs) (.returned v)
  | [], fr, w, hd, hm, hk, hf, _, _, hr => ⟨fr, Steps.refl .., rfl, hm, hd, hk, fn, hf, hr⟩
  | r :: rs, fr, w, hd, hm, hk, hf, hnd, hw, hr => by
    have hd : fr.defers = mark r :: rs.map mark := hd
    have h0 := hw r (List.mem_cons_self ..)
    have hrun : (Instr.takeDeferred r).run P w = .ok [] (World.take w r) := by simp [Instr.takeDeferred, getObj, setObj, Sem.run, h0, World.take, Sem.run_bind]
    obtain ⟨fr', h1, h2, h3⟩ := steps_leave (cs := cs) rs { fr with defers := rs.map mark } (World.take w r) rfl hm hk hf (List.nodup_cons.1 hnd).2 (fun x hx => by
      have hne : r ≠ x := fun h => (List.nodup_cons.1 hnd).1 (by rw [h]; exact hx)
      simp only [World.take, Array.getElem?_setIfInBounds, if_neg hne]
      exact hw x (List.mem_cons_of_mem _ hx)) hr
    refine ⟨fr', Steps.head (m₁ := lone { fr with defers := rs.map mark } cs (World.take w r)) (step_lone_go ?_) h1, h2, h3⟩
    simp [stepG, hm, unwind, hd, mark, hrun]

theorem callF_leave (T : TabOk E) {self : Self} (S : SelfOk E self) {f : Nat} {args : List AV} {K : Kv} (g : callF E self f args h c K = .ok e ts' h₀ c₀) :
    ∃ v h₁ c₁, K v h₁ c₁ = .ok e ts' h₀ c₀ ∧ ∀ (φ : Loc) (w : World) (vs : Array Value) (cs : List Frame), VRL E φ args vs.toList → HR E φ h.t w → Fresh φ c c₁ →
      ∃ φ' w' u fr, Sim E φ h c w φ' h₁ c₁ w' ∧ VR E φ' v u ∧ Steps E.P (lone (Frame.enter E.P f vs .normal) cs w) (lone fr cs w') ∧ fr.fn = f ∧ fr.leaving E.P w' (.returned u) := by
  unfold callF callB at g
  split at g
  · rename_i fi hfi
    obtain ⟨fn, hfn, hof⟩ := T.fn f fi hfi
    obtain ⟨code, hb, e1, e2, e3, hok, hname⟩ := fiOf_ok hof
    obtain ⟨hn, g⟩ := guardB_ok g
    have hn : lenL args ≤ fi.n := Nat.le_of_ble_eq_true hn
    rw [lenL_eq, e1] at hn
    rw [fill_eq] at g
    cases ho : self fi.code (AE.T.lay args .e 0) h c with
    | bad n => rw [ho] at g; cases g
    | ok ex ts1 h1 c1 =>
      rw [ho] at g
      have hrun := S _ _ _ _ _ _ _ _ ho
      have hex : (ex = .normal ∨ ex = .ret) ∧ resultsOf E ts1 h1 fi.rs (fun l => K (tupOf l) h1 c1) = .ok e ts' h₀ c₀ := by
        cases ex with
        | normal => exact ⟨.inl rfl, g⟩
        | exit i => cases g
        | ret => exact ⟨.inr rfl, g⟩
      obtain ⟨hex, g⟩ := hex
      obtain ⟨l, g, hl⟩ := resultsOf_ok T _ _ g
      refine ⟨_, _, _, g, fun φ w vs cs hv hh hf => ?_⟩
      have hlen : vs.size = args.length := by simpa using hv.length
      have hframe : Frame.enter E.P f vs .normal = fat (Frame.enter E.P f vs .normal) ⟨vs ++ Array.replicate (fn.ntmps - vs.size) undef, []⟩ [.code code] := by
        unfold Frame.enter fat
        simp [hfn, hb]
      have hsz : (vs ++ Array.replicate (fn.ntmps - vs.size) undef).size = fn.ntmps := by simp; omega
      obtain ⟨φ', w1, a1, hsim, htr, _, ⟨rs, hds, hnd, hmk⟩, harr⟩ := hrun φ w w.heap.size (Frame.enter E.P f vs .normal) ⟨vs ++ Array.replicate (fn.ntmps - vs.size) undef, []⟩ [] cs (Nat.le_refl _)
        (TR.args hv _) (by rw [e3]; simpa only [hsz] using hok) (.inl rfl) hh hf ⟨[], rfl, List.nodup_nil, fun r hr => by cases hr⟩
      rw [e3, ← hframe] at harr
      have hsim2 := hsim.takes (rs := rs) fun r hr => ⟨(hmk r hr).1, (hmk r hr).2.2⟩
      obtain ⟨us, hus, hmap⟩ := hl φ' (World.takes w1 rs) a1.tmps htr hsim2.hr
      rw [e2] at hmap
      have hret : ∃ todo, Steps E.P (lone (Frame.enter E.P f vs .normal) cs w) (lone { fat (Frame.enter E.P f vs .normal) a1 todo with mode := .returning } cs w1) := by
        rcases hex with rfl | rfl
        · exact ⟨[], harr.trans (fat_end rfl)⟩
        · obtain ⟨k2, harr⟩ := harr
          exact ⟨_, harr.trans (fat_ret rfl)⟩
      obtain ⟨todo, hret⟩ := hret
      obtain ⟨fr', g1, g2, g3⟩ := steps_leave (P := E.P) (cs := cs) rs { fat (Frame.enter E.P f vs .normal) a1 todo with mode := .returning } w1 hds rfl rfl hfn hnd (fun r hr => (hmk r hr).2.1) (run_results hmap)
      exact ⟨φ', World.takes w1 rs, _, fr', hsim2, tupOf_ok hus, hret.trans g1, g2, g3⟩
  · cases g

/-! ### a law's call -/
noncomputable def yes (v : AV) (h : Hs) (c : Nat) : Out := match v with | .bool b => guardB b 290 (.ok .normal .e h c) | _ => .bad 291
/-- does the law answer true? -/
noncomputable def law (E : Env) (n f : Nat) (args : List AV) : Out := callF E (ev E n) f args ⟨.e, 0, []⟩ 0 yes
def isOk (o : Out) : Bool := match o with | .ok _ _ _ _ => true | .bad _ => false

theorem law_calls (T : TabOk E) {n f : Nat} (S : SelfOk E (ev E n)) {args : List AV} (g : isOk (law E n f args) = true) {vs : Array Value} (hv : ∀ φ, VRL E φ args vs.toList) (W : World) :
    Calls E.P f vs W fun e W' => e = .returned (.bool true) ∧ Go.RowKit.Below W.heap.size W W' := by
  intro cs
  unfold isOk at g
  split at g
  · rename_i e ts h c ho
    obtain ⟨v, h1, c1, hk, hrun⟩ := callF_leave T S ho
    have hvt : v = .bool true := by
      unfold yes at hk
      split at hk
      · obtain ⟨hb, _⟩ := guardB_ok hk
        rw [hb]
      · cases hk
    subst hvt
    obtain ⟨φ', w', u, fr, hs, hr, hst, hfn, hlv⟩ := hrun (fun _ => none) W vs cs (hv _) ⟨fun b o hb => by simp [get_e] at hb, fun b b' B N N' hb => by simp [get_e] at hb⟩ (fun _ _ _ => rfl)
    have hu : u = .bool true := by simpa [VR] using hr
    subst hu
    refine ⟨.returned (.bool true), w', fr, ⟨rfl, hs.same.os, hs.same.tape, hs.same.output, hs.same.size, fun k hk => hs.fr k hk ?_⟩, hst, hfn, hlv⟩
    rintro ⟨b, N, hb, _⟩
    simp [get_e] at hb
  · cases g
end
end Go.AE
namespace Go.AE
open Go.ChangeShapes Go.WideShapes Go.ChangeAt Go.RowKit

section
variable {H : Type} {enc : TypeId × Value → H} {P : Program}

/-- the arguments read as they did -/
theorem trodAll_stays (hl : laidOutB P = true) {W W' : World} (hb : Below W.heap.size W W') {sp : Nat → Bool} : ∀ {ts : List TypeId} {vs : List Value} {ds : List (DataW H)} {ps : List MemPlace},
    (∀ t ∈ ts, P.readableRec t = true ∧ t < P.types.size) → DataW.TrodAll enc P W 0 (fun _ => true) true ts vs ds ps → (∀ x ∈ ps, x.block < W.heap.size) → (∀ x ∈ ps, sp x.block = true) →
    DataW.TrodAll enc P W' 0 sp true ts vs ds ps
  | [], _, _, _, _, h, _, _ => by
    obtain ⟨rfl, rfl, rfl⟩ := trodAll_nil h
    exact trodAll_mk0
  | t :: ts, _, _, _, hr, h, hlt, hs => by
    obtain ⟨v, vs, d, ds, p, q, rfl, rfl, rfl, h1, h2⟩ := trodAll_cons h
    have r := hr t (List.mem_cons_self ..)
    exact trodAll_cons_mk (WideElems.Trod_stays hl r.1 r.2 h1 (fun x hx => hb.same (hlt x (List.mem_append_left _ hx))) (fun x hx => hs x (List.mem_append_left _ hx)))
      (trodAll_stays hl hb (fun t ht => hr t (List.mem_cons_of_mem _ ht)) h2 (fun x hx => hlt x (List.mem_append_right _ hx)) (fun x hx => hs x (List.mem_append_right _ hx)))

/-- the row's last word, where nothing old has turned -/
theorem post_of_below {f : Func} {s : ChangeSpec} {apart fresh handsOn again : Bool} {W W' : World} {args : Array Value} {ds gs : List (DataW H)} {before : List MemPlace} {tb : TypeId}
    (hW : DataW.Whole enc P f.params.toList s.vars apart W args.toList ds gs before) (hvars : s.vars = []) (hfn : s.fn H ds = { results := [.lit (.bool true)], args := ds })
    (hl : laidOutB P = true) (hr : ∀ t ∈ f.params.toList, P.readableRec t = true ∧ t < P.types.size) (hb : Below W.heap.size W W')
    (hres : f.resultTypes = #[tb]) (htb : P.underlying tb = some .bool) :
    s.post enc P f apart fresh handsOn again W args (.bool true) W' := by
  have hlt := hW.lt
  have hW' := hW
  obtain ⟨p, q, hA, hV, rfl, hz, hn⟩ := hW
  rw [hvars] at hV
  obtain ⟨rfl, rfl⟩ := trodVars_none hV
  have hA' : ∀ sp : Nat → Bool, (∀ x ∈ p ++ [], sp x.block = true) → DataW.TrodAll enc P W' 0 sp true f.params.toList args.toList ds p := fun sp hsp =>
    trodAll_stays hl hb hr hA (fun x hx => by simpa using hlt x (by simpa using hx)) (fun x hx => hsp x (by simpa using hx))
  have hfn' : s.fn H (ds ++ []) = { results := [.lit (.bool true)], args := ds } := by rw [List.append_nil]; exact hfn
  have hvs : (s.fn H (ds ++ [])).vars = [] := by rw [hfn']
  have hres' : ∀ (b : Nat) (sp : Nat → Bool) (hd : Bool), DataW.TrodAll enc P W' b sp hd f.resultTypes.toList ((Value.bool true).resultList f.resultTypes.size) (s.fn H (ds ++ [])).results [] := fun b sp hd => by
    rw [hres, hfn']
    exact trodAll_mk1 (shut_bool htb true)
  have hold : ∀ x ∈ p ++ [], (fun b => decide (b < W.heap.size)) x.block = true := fun x hx => by simpa using hlt x hx
  have hvp : ∀ sp : Nat → Bool, DataW.TrodVars enc P W' sp s.vars (s.fn H (ds ++ [])).vars [] := fun sp => by rw [hvars, hvs]; rfl
  refine ⟨ds, [], p ++ [], [], p, [], hW', hres' _ _ _, by rw [hfn']; exact hA' _ hold, hvp _, hb.frame _, fun _ => ?_⟩
  refine ⟨ok_one hres rfl (okWide_bool_mk htb true), (s.fn H (ds ++ [])).results ++ ds, (s.fn H (ds ++ [])).vars, ([] ++ p) ++ [], ⟨[] ++ p, [], ?_, hvp _, rfl, ?_, ?_⟩, ?_⟩
  · exact trodAll_append (hA' _ (fun _ _ => rfl)) (hres' _ _ _)
  · intro b off hp
    have hp : MemPlace.cell b off ∈ p ++ [] := by simpa using hp
    rw [hb.frozen (p := ⟨b, off, none⟩) (hlt _ hp)]
    exact hz b off hp
  · intro ha
    simpa using hn ha
  · intro x hx _
    simpa using hx

theorem contract_of_law {f : FuncId} {fn : Func} {s : ChangeSpec} {apart fresh handsOn again : Bool} {W : World} {args : Array Value} {ds gs : List (DataW H)} {before : List MemPlace} {tb : TypeId}
    (hW : DataW.Whole enc P fn.params.toList s.vars apart W args.toList ds gs before) (hvars : s.vars = []) (hfn : s.fn H ds = { results := [.lit (.bool true)], args := ds })
    (hl : laidOutB P = true) (hr : ∀ t ∈ fn.params.toList, P.readableRec t = true ∧ t < P.types.size)
    (hres : fn.resultTypes = #[tb]) (htb : P.underlying tb = some .bool)
    (hc : Calls P f args W fun e W' => e = .returned (.bool true) ∧ Below W.heap.size W W') :
    Calls P f args W fun e W' => ∃ v, e = .returned v ∧ s.post enc P fn apart fresh handsOn again W args v W' :=
  hc.mono fun _e _W' ⟨he, hb⟩ => ⟨_, he, post_of_below hW hvars hfn hl hr hb hres htb⟩

/-- a cell of one of these types is no aggregate -/
def plainD (d : TypeDesc) : Bool := match d with | .int _ => true | .bool => true | .string => true | .pointer _ => true | .slice _ => true | .map _ _ => true | _ => false
theorem one_of_ok {w : World} {r : Reach} {base : Nat} {t : TypeId} {v : Value} {d : TypeDesc} (hd : P.underlying t = some d) (hp : plainD d = true) (h : Cell.okWide P w r base t v) : one v = true := by
  unfold Cell.okWide at h
  rw [hd] at h
  cases d <;> first | (cases hp; done) | skip
  all_goals cases v <;> first | rfl | (simp [Cell.ok, hd] at h)

/-- a struct's cells, as raw values -/
theorem raw_agg {E : Env} {w : World} {r : Reach} {base : Nat} {t : TypeId} {v : Value} {fs : Array Field} {n : Nat} {cs : List TypeId} (ht : P.underlying t = some (.struct fs)) (hn : P.cellsOf t = n)
    (hc : P.cellTypes P.depth t = some cs) (hcs : ∀ u ∈ cs, ∃ d, P.underlying u = some d ∧ plainD d = true) (h : Value.okWide P w r base t v) :
    ∃ l : List Value, l.length = n ∧ ∀ φ, VR E φ (.agg (l.map .raw)) v := by
  unfold Value.okWide at h
  rw [ht] at h
  obtain ⟨arr, rfl, hsz, ts, hts, _, hall⟩ := h
  rw [hc] at hts; cases hts
  refine ⟨arr.toList, by simp [hsz, hn], fun φ => ⟨arr, rfl, VRL.of_get (by simp) (fun i a v ha hv => ?_), fun x hx => ?_⟩⟩
  · rw [List.getElem?_map, hv] at ha
    simp at ha; subst ha
    simp [VR]
  · obtain ⟨i, hi, rfl⟩ := List.getElem_of_mem hx
    obtain ⟨u, hu, hk⟩ := hall i (arr.toList[i]) (by simp at hi; simp [hi])
    obtain ⟨d, hd, hp⟩ := hcs u (List.mem_of_getElem? hu)
    exact one_of_ok hd hp hk
end
end Go.AE
