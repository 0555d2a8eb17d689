import Derived.Test.YtbnakfpdmiibdaaAECall5
namespace Go.AE
section
variable {E : Env} {φ φ' φ₁ : Loc} {h h' h₁ h₀ : Hs} {c c' c₁ c₀ : Nat} {w w' w₁ w₂ : World} {ts ts' : Tm} {e : Ex}

theorem exec_ok {φ₀ : Loc} {o : Oper} {a : Act} {cmd : Cmd} {self : Self} (S : SelfOk E self) {K : Kv} (hnd : ∀ c, o.op ≠ .defer c) (hc : CmdOk E φ₀ o a cmd) (g : execC cmd self h c K = .ok e ts' h₀ c₀) :
    ∃ v h₁ c₁, K v h₁ c₁ = .ok e ts' h₀ c₀ ∧ CxRun E φ₀ o a h c v h₁ c₁ := by
  cases cmd with
  | val v =>
    have g : forceV v (fun v => K v h c) = .ok e ts' h₀ c₀ := g
    rw [forceV_eq] at g
    obtain ⟨u, hu, hr⟩ := hc
    exact ⟨v, h, c, g, CxRun.of_runs hnd fun φ w hle hh _ => ⟨φ, w, u, Sim.refl hh, VR.mono hle _ _ hu, hr w⟩⟩
  | new ao mk =>
    have g : h.new c ao (fun h c' => K (mk c) h c') = .ok e ts' h₀ c₀ := g
    rw [new_eq] at g
    refine ⟨_, _, _, g, CxRun.of_runs hnd fun φ w hle hh hf => ?_⟩
    obtain ⟨u, w', N, hr, hgr, hob⟩ := hc w
    have hfc := hf c (Nat.le_refl _) (by omega)
    have hle2 := Loc.le_add φ (w.heap.size, N) hfc
    obtain ⟨h1, h2⟩ := hob (φ.add c (w.heap.size, N)) c (fun b x hb => hle2 b x (hle b x hb)) (Loc.add_same ..)
    exact ⟨_, w', u, Sim.made hh hfc hgr h1, h2, hr⟩
  | rd b f =>
    obtain ⟨ao, v, hx, g, hr⟩ := hc _ _ _ _ _ _ g
    refine ⟨v, h, c, g, CxRun.of_runs hnd fun φ w hle hh _ => ?_⟩
    obtain ⟨u, hu, hrun⟩ := hr φ w hle (hh.obj b ao hx)
    exact ⟨φ, w, u, Sim.refl hh, hu, hrun⟩
  | wr b off l =>
    obtain ⟨h', n, sz, pat, t, hb, hn, g, hst⟩ := stN_ok g
    refine ⟨_, _, _, g, CxRun.of_runs hnd fun φ w hle hh _ => ?_⟩
    obtain ⟨B, C, el, fr, hB, hw, hfr, hrow⟩ := hh.obj b _ hb
    have hC := hrow.2.1
    obtain ⟨us, hus, h1, hr⟩ := hc φ w B C el fr hle hB hw hfr (by omega)
    obtain ⟨B', N', w', hB', hrun, hs⟩ := hst E φ us hus h1 w c hh
    rw [hB] at hB'; cases hB'
    have := run_storeCells (P := E.P) off us 0 w C hw hfr (by rw [hus.length]; omega) h1
    rw [this] at hrun
    cases hrun
    exact ⟨φ, _, undef, hs, undef_VR .., hr⟩
  | cx f =>
    obtain ⟨v, h₁, c₁, g, hrun⟩ := hc self S h c _ _ _ _ _ g
    rw [forceV_eq] at g
    exact ⟨v, h₁, c₁, g, hrun⟩

theorem not_defer {o : Oper} {K : Kc} (g : cmdOf o.op E ts K = .ok e ts' h c) : ∀ cl, o.op ≠ .defer cl := fun cl ho => by
  rw [ho] at g; cases g

theorem exec1_ok (T : TabOk E) {self : Self} (S : SelfOk E self) {φ₀ : Loc} {o : Oper} {a : Act} {K : Kv} (ht : TR E φ₀ ts a.tmps) (g : cmdOf o.op E ts (fun cmd => execC cmd self h c K) = .ok e ts' h₀ c₀) :
    ∃ v h₁ c₁, K v h₁ c₁ = .ok e ts' h₀ c₀ ∧ CxRun E φ₀ o a h c v h₁ c₁ := by
  obtain ⟨cmd, g2, hc⟩ := cmd_ok T ht g
  exact exec_ok S (not_defer g) hc g2

/-! ### is the operation wanted? -/
theorem guardIs_ok {want : Bool} {v : AV} {K : Bool → Out} (g : guardIs want v K = .ok e ts' h₀ c₀) : (∃ b, v = .bool b ∧ K (b == want) = .ok e ts' h₀ c₀) ∨ ((∃ l, v = .tup l) ∧ K false = .ok e ts' h₀ c₀) := by
  cases v <;> try (cases g; done)
  · rename_i b
    refine .inl ⟨b, rfl, ?_⟩
    cases b <;> cases want <;> exact g
  · exact .inr ⟨⟨_, rfl⟩, g⟩
theorem tmps_some {tmps : Array Value} {d : Nat} {v : Value} (h : tmps.getD d undef = v) : tmps[d]? = some v ∨ (tmps[d]? = none ∧ v = undef) := by
  rw [Array.getD_eq_getD_getElem?] at h
  cases hd : tmps[d]? with
  | none => rw [hd] at h; exact .inr ⟨rfl, h.symm⟩
  | some x => rw [hd] at h; left; rw [← h]; rfl
theorem wantedA_ok {o : Oper} {ops : Array Oper} {tmps : Array Value} {K : Bool → Out} (ht : TR E φ ts tmps) (g : wantedA o.guard ops.toList ts K = .ok e ts' h₀ c₀) :
    ∃ r, K r = .ok e ts' h₀ c₀ ∧ Region.wanted o (yielded ops tmps) = r := by
  unfold wantedA at g
  unfold Region.wanted
  cases hg : o.guard with
  | none => rw [hg] at g; exact ⟨true, g, rfl⟩
  | some jw =>
    obtain ⟨j, want⟩ := jw
    rw [hg] at g
    have g : guardT ts want (kidx j ops.toList) K = .ok e ts' h₀ c₀ := g
    unfold guardT at g
    rw [kidx_eq, Array.getElem?_toList] at g
    show ∃ r, K r = _ ∧ (yielded ops tmps j == some want) = r
    cases hp : ops[j]? with
    | none => rw [hp] at g; exact ⟨false, g, by unfold yielded; simp [hp]⟩
    | some p =>
      rw [hp] at g
      have g : (match p.dst with | some d => guardIs want (evalT ts d) K | none => K false) = .ok e ts' h₀ c₀ := g
      cases hd : p.dst with
      | none => rw [hd] at g; exact ⟨false, g, by unfold yielded; simp [hp, hd]⟩
      | some d =>
        rw [hd] at g
        have hv := ht d
        have hy : yielded ops tmps j = (match tmps[d]? with | some (.bool b) => some b | _ => none) := by
          unfold yielded; simp only [hp, hd, Option.bind_some]
          cases tmps[d]? with
          | none => rfl
          | some v => cases v <;> rfl
        rcases guardIs_ok g with ⟨b, hb, g⟩ | ⟨⟨l, hl⟩, g⟩
        · rw [hb] at hv; simp only [VR] at hv
          refine ⟨_, g, ?_⟩
          rcases tmps_some hv with h1 | ⟨_, h2⟩
          · rw [hy, h1]; cases b <;> cases want <;> rfl
          · cases h2
        · rw [hl] at hv
          obtain ⟨arr, hv, _⟩ := hv
          refine ⟨false, g, ?_⟩
          rcases tmps_some hv with h1 | ⟨h1, _⟩
          · rw [hy, h1]; rfl
          · rw [hy, h1]; rfl

theorem putA_eq (d : Option Tmp) (ts : Tm) (v : AV) (K : Tm → Out) : putA d ts v K = K (match d with | none => ts | some d => ts.set d (some v)) := by
  cases d with
  | none => rfl
  | some d => show ts.ins d (some v) K = _; rw [ins_eq]
theorem TR.putD {tmps : Array Value} {df : List Deferred} (ht : TR E φ ts tmps) {o : Oper} (hd : dstOk tmps.size o = true) {v : AV} {u : Value} (hv : VR E φ v u) :
    TR E φ (match o.dst with | none => ts | some d => ts.set d (some v)) ((⟨tmps, df⟩ : Act).put o.dst u).tmps ∧ ((⟨tmps, df⟩ : Act).put o.dst u).tmps.size = tmps.size ∧ ((⟨tmps, df⟩ : Act).put o.dst u).defers = df := by
  unfold dstOk at hd
  cases ho : o.dst with
  | none => exact ⟨ht, rfl, rfl⟩
  | some d =>
    rw [ho] at hd
    exact ⟨ht.put (Nat.blt_eq.mp hd) hv, by simp [Act.put], rfl⟩

theorem MarksOk.sim {n : Nat} {ds : List Deferred} (m : MarksOk n φ h.t w ds) (g : HR E φ h.t w) (f : Fresh φ c c') (s : Sim E φ h c w φ' h' c' w') : MarksOk n φ' h'.t w' ds := by
  obtain ⟨rs, h1, h2, h3⟩ := m
  refine ⟨rs, h1, h2, fun r hr => ?_⟩
  obtain ⟨q1, q2, q3⟩ := h3 r hr
  obtain ⟨k1, k2⟩ := s.unknown g f (Array.getElem?_eq_some_iff.1 q2).1 q3
  exact ⟨q1, k1.trans q2, k2⟩
theorem Fresh.mid (f : Fresh φ c c') (s : Sim E φ h c w φ₁ h₁ c₁ w₁) : Fresh φ₁ c₁ c' := fun b h1 h2 => by
  rw [s.ext b (.inr h1)]; exact f b (Nat.le_trans s.cle h1) h2

/-- the operations of a region, in their order -/
theorem evOps_ok (T : TabOk E) {self : Self} (S : SelfOk E self) {ops : Array Oper} (n : Nat) (b : Frame) (k : List Item) (cs : List Frame) : ∀ (l : List Oper) (i : Nat) (ts : Tm) (h : Hs) (c : Nat) (e : Ex) (ts' : Tm) (h' : Hs) (c' : Nat) (φ : Loc) (w : World) (a : Act),
    ops.toList.drop i = l → evOps E self ops.toList l ts h c = .ok e ts' h' c' → n ≤ w.heap.size → TR E φ ts a.tmps → (∀ o ∈ ops.toList, dstOk a.tmps.size o = true) → HR E φ h.t w → Fresh φ c c' → MarksOk n φ h.t w a.defers →
      e = .normal ∧ ∃ φ' w' a', Sim E φ h c w φ' h' c' w' ∧ TR E φ' ts' a'.tmps ∧ a'.tmps.size = a.tmps.size ∧ MarksOk n φ' h'.t w' a'.defers ∧
        Steps E.P (lone (fat b a (.inRegion ops (List.range' i l.length) :: k)) cs w) (lone (fat b a' k) cs w')
  | [], i, ts, h, c, e, ts', h', c', φ, w, a, hl, g, hn, ht, hd, hh, hf, hm => by
    have g : Out.ok .normal ts h c = .ok e ts' h' c' := g
    cases g
    exact ⟨rfl, φ, w, a, Sim.refl hh, ht, rfl, hm, fat_region_end⟩
  | o :: l, i, ts, h, c, e, ts', h', c', φ, w, a, hl, g, hn, ht, hd, hh, hf, hm => by
    have hi : ops[i]? = some o := by
      rw [← Array.getElem?_toList]
      have := congrArg (·[0]?) hl
      simpa [List.getElem?_drop] using this
    have hl' : ops.toList.drop (i + 1) = l := by
      have := congrArg (List.drop 1) hl
      simpa [List.drop_drop, Nat.add_comm] using this
    have hdo := hd o (by rw [← Array.getElem?_toList] at hi; exact List.mem_of_getElem? hi)
    have g : wantedA o.guard ops.toList ts (evOne E self o ts h c (evOps E self ops.toList l)) = .ok e ts' h' c' := g
    obtain ⟨r, g, hwant⟩ := wantedA_ok ht g
    have hrange : List.range' i (o :: l).length = i :: List.range' (i + 1) l.length := by simp [List.range'_succ]
    rw [hrange]
    cases r with
    | false =>
      have g : putA o.dst ts (.tup []) (fun ts => evOps E self ops.toList l ts h c) = .ok e ts' h' c' := g
      rw [putA_eq] at g
      obtain ⟨p1, p2, p3⟩ := ht.putD (df := a.defers) hdo (undef_VR E φ)
      obtain ⟨he, φ', w', a', q1, q2, q3, q4, q5⟩ := evOps_ok T S n b k cs l (i + 1) _ h c e ts' h' c' φ w (a.put o.dst undef) hl' g hn p1 (by intro x hx; rw [show (a.put o.dst undef).tmps.size = a.tmps.size from p2]; exact hd x hx) hh hf (by rw [show (a.put o.dst undef).defers = a.defers from p3]; exact hm)
      exact ⟨he, φ', w', a', q1, q2, q3.trans p2, q4, (fat_op_skip hi hwant).trans q5⟩
    | true =>
      have g : cmdOf o.op E ts (fun cmd => execC cmd self h c fun v h c => putA o.dst ts v fun ts => evOps E self ops.toList l ts h c) = .ok e ts' h' c' := g
      obtain ⟨v, h₁, c₁, g, hrun⟩ := exec1_ok T S ht g
      rw [putA_eq] at g
      obtain ⟨φ₁, w₁, u, s1, hu, st1⟩ := hrun φ w b k cs ops i (List.range' (i + 1) l.length) (fun _ _ h => h) hi hwant hh hf
      have hle := s1.le hf
      obtain ⟨p1, p2, p3⟩ := (ht.mono hle).putD (df := a.defers) hdo hu
      obtain ⟨he, φ', w', a', q1, q2, q3, q4, q5⟩ := evOps_ok T S n b k cs l (i + 1) _ h₁ c₁ e ts' h' c' φ₁ w₁ (a.put o.dst u) hl' g (Nat.le_trans hn s1.same.size) p1 (by intro x hx; rw [show (a.put o.dst u).tmps.size = a.tmps.size from p2]; exact hd x hx) s1.hr (hf.mid s1)
        (by rw [show (a.put o.dst u).defers = a.defers from p3]; exact hm.sim hh (show Fresh φ c c₁ from hf) s1)
      exact ⟨he, φ', w', a', Sim.trans hh hf s1 q1, q2, q3.trans p2, q4, st1.trans q5⟩
end
end Go.AE
