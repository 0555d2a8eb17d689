import Derived.Test.YtbnakfpdmiibdaaAEDraw4
namespace Go.AE
structure St where
  rs : List Rc
  acc : List Nat
  ts : Tm
  h : Hs
  c : Nat
structure Ev where
  v : AV
  τ : T AObj
  τ' : T AObj
  lg : List Nat

noncomputable def putT (d : Option Tmp) (ts : Tm) (v : AV) : Tm := match d with | none => ts | some d => ts.set d (some v)

inductive Kind (i m : Nat) (z : St) (x : Ev) (z' : St) : Prop
  | none (hτ : x.τ = .e) (hτ' : x.τ' = .e) (hlg : x.lg = []) (hrs : z'.rs = z.rs) (hac : z'.acc = z.acc) (hh : z'.h = z.h) (hc : z'.c = z.c)
  | al (ob : AObj) (hτ : x.τ = .e) (hτ' : x.τ' = single z.c ob) (hlg : x.lg = []) (hrs : z'.rs = ⟨i, .al z.c⟩ :: z.rs) (hac : z'.acc = z.acc) (hh : z'.h = z.h.newD z.c ob) (hc : z'.c = z.c + 1)
  | rd (b : Nat) (ob : AObj) (hb : z.h.t.get b = some ob) (hτ : x.τ = single b ob) (hτ' : x.τ' = single b ob) (hlg : x.lg = []) (hrs : z'.rs = ⟨i, .rd b⟩ :: z.rs) (hac : z'.acc = z.acc) (hh : z'.h = z.h) (hc : z'.c = z.c)
      (hok : allOk (rdOk b) m z.rs = true)
  | wr (b : Nat) (ob ob' : AObj) (hb : z.h.t.get b = some ob) (hτ : x.τ = single b ob) (hτ' : x.τ' = (single b ob).set b (some ob')) (hlg : x.lg = logW b z.c []) (hrs : z'.rs = ⟨i, .wr b⟩ :: z.rs) (hac : z'.acc = z.acc)
      (hh : z'.h = z.h.putD b (some ob')) (hc : z'.c = z.c) (hok : allOk (wrOk b) m z.rs = true)
  | cx (hne : ∀ y, Hid m z.rs y → z.h.t.get y ≠ .none) (hτ1 : ∀ y, ¬ Hid m z.rs y → x.τ.get y = z.h.t.get y) (hτ2 : ∀ y, Hid m z.rs y → x.τ.get y = .none) (ht1 : ∀ y, Hid m z.rs y → z'.h.t.get y = z.h.t.get y) (ht2 : ∀ y, ¬ Hid m z.rs y → z'.h.t.get y = x.τ'.get y)
      (hfl : z'.h.fl = z.h.fl) (hlg : z'.h.lg = z.h.lg) (hrs : z'.rs = ⟨i, .cx x.lg z.c z'.c⟩ :: z.rs) (hac : z'.acc = appLog x.lg z.acc) (hok : allOk (cxOk x.lg) m z.rs = true)

/-- the temporaries that are looked at stand as the evaluator has them -/
def Lk (E : Env) (ops : Array Oper) (o : Oper) (ts : Tm) (φ : Loc) (a : Act) : Prop := ∀ t ∈ looksA ops.toList o, VR E φ (evalT ts t) (a.tmps.getD t undef)

def StepF (E : Env) (ops : Array Oper) (N i m : Nat) (z : St) (x : Ev) (z' : St) : Prop :=
  ∃ o, ops[i]? = some o ∧ z'.ts = putT o.dst z.ts x.v ∧ Kind i m z x z' ∧
    ∀ (φ : Loc) (a : Act), a.tmps.size = N → Lk E ops o z.ts φ a → OpRun E φ ops i o a ⟨x.τ, z.c, []⟩ z.c x.v ⟨x.τ', z.c, x.lg⟩ z'.c

section
variable {E : Env} {φ φ' φ₀ : Loc} {h h' h₁ h₀ h1 : Hs} {c c' c₁ c₀ b m i : Nat} {w w' : World} {ts ts' ts1 : Tm} {e ex : Ex} {rs : List Rc} {o : Oper} {a : Act} {ops : Array Oper} {N : Nat}

/-! ### only what is looked at -/
theorem restrict (ts : Tm) (N : Nat) : ∀ L : List Nat, ∃ ts2 : Tm, ∀ t, evalT ts2 t = if t ∈ L then evalT ts t else if t < N then .any else .tup []
  | [] => ⟨AE.T.lay (List.replicate N .any) .e 0, fun t => by
      unfold evalT
      rw [get_lay, if_neg (fun h : t ∈ [] => by cases h)]
      by_cases ht : t < N
      · rw [if_pos ⟨Nat.zero_le _, by simp [ht]⟩, if_pos ht, List.getElem?_replicate, if_pos (by omega)]; rfl
      · rw [if_neg (by simp; omega), if_neg ht, get_e]; rfl⟩
  | d :: L => by
    obtain ⟨ts2, h⟩ := restrict ts N L
    refine ⟨ts2.set d (some (evalT ts d)), fun t => ?_⟩
    rw [evalT_set, h]
    by_cases e : d = t
    · subst e; simp
    · have e' : ¬ t = d := fun h => e h.symm
      simp [e, e']
theorem tmpsOf_mem {l : List Operand} {t : Nat} (h : Operand.tmp t ∈ l) : t ∈ tmpsOf l := by
  induction l with
  | nil => cases h
  | cons x l ih =>
    rcases List.mem_cons.1 h with h | h
    · subst h; exact List.mem_cons_self ..
    · have := ih h
      cases x with
      | tmp s => exact List.mem_cons_of_mem _ this
      | const _ => exact this
      | global _ => exact this
      | func _ => exact this
theorem looksA_op {all : List Oper} {t : Nat} (h : Operand.tmp t ∈ o.op.operands) : t ∈ looksA all o := by
  have h := tmpsOf_mem (Array.mem_def.1 h)
  unfold looksA
  cases o.guard with
  | none => exact h
  | some jw =>
    show t ∈ guardTmp (tmpsOf o.op.operands.toList) (kidx jw.1 all)
    cases kidx jw.1 all with
    | none => exact h
    | some p =>
      show t ∈ (match p.dst with | some d => d :: tmpsOf o.op.operands.toList | none => tmpsOf o.op.operands.toList)
      cases p.dst with
      | none => exact h
      | some d => exact List.mem_cons_of_mem _ h
theorem looksA_guard {all : List Oper} {j d : Nat} {want : Bool} {p : Oper} (hg : o.guard = some (j, want)) (hp : kidx j all = some p) (hd : p.dst = some d) : d ∈ looksA all o := by
  unfold looksA
  rw [hg]
  show d ∈ guardTmp (tmpsOf o.op.operands.toList) (kidx j all)
  rw [hp]
  show d ∈ (match p.dst with | some d => d :: tmpsOf o.op.operands.toList | none => tmpsOf o.op.operands.toList)
  rw [hd]; exact List.mem_cons_self ..
theorem cmdOf_looks {all : List Oper} (hts : ∀ t ∈ looksA all o, evalT ts' t = evalT ts t) : cmdOf o.op E ts = cmdOf o.op E ts' :=
  cmdOf_congr fun x hx => by
    cases x with
    | tmp t => exact (hts t (looksA_op hx)).symm
    | const _ => rfl
    | global _ => rfl
    | func _ => rfl
theorem wantedA_looks {all : List Oper} (hts : ∀ t ∈ looksA all o, evalT ts' t = evalT ts t) : wantedA o.guard all ts = wantedA o.guard all ts' := by
  cases hg : o.guard with
  | none => rfl
  | some jw =>
    obtain ⟨j, want⟩ := jw
    funext K
    show guardT ts want (kidx j all) K = guardT ts' want (kidx j all) K
    unfold guardT
    cases hp : kidx j all with
    | none => rfl
    | some p =>
      show (match p.dst with | some d => guardIs want (evalT ts d) K | none => K false) = (match p.dst with | some d => guardIs want (evalT ts' d) K | none => K false)
      cases hd : p.dst with
      | none => rfl
      | some d => show guardIs want (evalT ts d) K = guardIs want (evalT ts' d) K; rw [hts d (looksA_guard hg hp hd)]
theorem Lk.tr (hl : Lk E ops o ts φ a) (hN : a.tmps.size = N) : ∃ ts2, TR E φ ts2 a.tmps ∧ ∀ t ∈ looksA ops.toList o, evalT ts2 t = evalT ts t := by
  obtain ⟨ts2, h⟩ := restrict ts N (looksA ops.toList o)
  refine ⟨ts2, fun t => ?_, fun t ht => by rw [h, if_pos ht]⟩
  rw [h]
  by_cases ht : t ∈ looksA ops.toList o
  · rw [if_pos ht]; exact hl t ht
  · rw [if_neg ht]
    by_cases hlt : t < N
    · rw [if_pos hlt]; trivial
    · rw [if_neg hlt]
      have : a.tmps.getD t undef = undef := by simp [Array.getD, show ¬ t < a.tmps.size by omega]
      rw [this]; exact undef_VR ..
theorem guardIs_det (want : Bool) (v : AV) : (∃ r, ∀ K, guardIs want v K = K r) ∨ ∃ n, ∀ K, guardIs want v K = .bad n := by
  cases v <;> first
    | exact .inr ⟨_, fun _ => rfl⟩
    | skip
  · rename_i b; cases b <;> cases want <;> exact .inl ⟨_, fun _ => rfl⟩
  · exact .inl ⟨_, fun _ => rfl⟩
theorem wantedA_det (g : Option (Nat × Bool)) (all : List Oper) (ts : Tm) : (∃ r, ∀ K, wantedA g all ts K = K r) ∨ ∃ n, ∀ K, wantedA g all ts K = .bad n := by
  cases g with
  | none => exact .inl ⟨true, fun _ => rfl⟩
  | some jw =>
    show (∃ r, ∀ K, guardT ts jw.2 (kidx jw.1 all) K = K r) ∨ ∃ n, ∀ K, guardT ts jw.2 (kidx jw.1 all) K = .bad n
    unfold guardT
    cases kidx jw.1 all with
    | none => exact .inl ⟨false, fun _ => rfl⟩
    | some p =>
      show (∃ r, ∀ K, (match p.dst with | some d => guardIs jw.2 (evalT ts d) K | none => K false) = K r) ∨ ∃ n, ∀ K, (match p.dst with | some d => guardIs jw.2 (evalT ts d) K | none => K false) = .bad n
      cases p.dst with
      | none => exact .inl ⟨false, fun _ => rfl⟩
      | some d => exact guardIs_det jw.2 (evalT ts d)
theorem wanted_is {r : Bool} (hw : ∀ K, wantedA o.guard ops.toList ts K = K r) (hl : Lk E ops o ts φ a) (hN : a.tmps.size = N) : Region.wanted o (yielded ops a.tmps) = r := by
  obtain ⟨ts2, htr, hts⟩ := hl.tr hN
  have h2 := hw fun b => .ok (if b then .normal else .ret) .e ⟨.e, 0, []⟩ 0
  rw [wantedA_looks hts] at h2
  obtain ⟨r', g, hr⟩ := wantedA_ok (ops := ops) htr h2
  rw [hr]
  cases r <;> cases r' <;> first | rfl | (injection g with g; cases g)

/-- an operation that is wanted -/
theorem upon_ok (T : TabOk E) {self : Self} (S : SelfOk E self) {z : St} {rest : RestD} (wit : ∃ φ a, a.tmps.size = N ∧ Lk E ops o z.ts φ a) (ho : ops[i]? = some o) (hw : ∀ K, wantedA o.guard ops.toList z.ts K = K true)
    (g : uponD o.dst i m z.rs z.acc z.ts z.h z.c rest (cmdOf o.op E z.ts fun cmd => told cmd self m z.rs z.h z.c) = .ok e ts' h₀ c₀) :
    ∃ x z', rest z'.rs z'.acc z'.ts z'.h z'.c = .ok e ts' h₀ c₀ ∧ StepF E ops N i m z x z' := by
  unfold uponD at g
  split at g
  · cases g
  · rename_i ex ts1 h1 b hr
    -- the run, wherever it comes up
    have run : ∀ (φ : Loc) (a : Act), a.tmps.size = N → Lk E ops o z.ts φ a → ∃ cmd, told cmd self m z.rs z.h z.c = .ok ex ts1 h1 b ∧ CmdOk E φ o a cmd := fun φ a hN hl => by
      obtain ⟨ts2, htr, hts⟩ := hl.tr hN
      rw [cmdOf_looks hts] at hr
      obtain ⟨cmd, g2, hc⟩ := cmd_ok T htr hr
      exact ⟨cmd, g2, hc⟩
    have hnd := not_defer hr
    have opr : ∀ {φ : Loc} {a : Act} {h h' : Hs} {c c' : Nat} {v : AV}, a.tmps.size = N → Lk E ops o z.ts φ a → CxRun E φ o a h c v h' c' → OpRun E φ ops i o a h c v h' c' := fun hN hl hx φ w b k cs rest hle hh hf =>
      hx φ w b k cs ops i rest hle ho (wanted_is hw hl hN) hh hf
    split at g
    · -- a value
      rw [forceV_eq, putA_eq] at g
      refine ⟨⟨rootV ts1, .e, .e, []⟩, ⟨z.rs, z.acc, _, z.h, z.c⟩, g, o, ho, rfl, .none rfl rfl rfl rfl rfl rfl rfl, fun φ a hN hl => opr hN hl ?_⟩
      obtain ⟨cmd, g2, hc⟩ := run φ a hN hl
      rcases told_run S hnd hc g2 with ⟨_, h⟩ | ⟨h, _⟩ | ⟨h, _⟩ | ⟨h, _⟩ | ⟨h, _⟩
      · exact h
      all_goals cases h
    · rename_i k
      unfold uponX at g
      match k, hr, run, g with
      | 0, hr, run, g =>
        have g : rootO h1.t (fun ob => z.h.new z.c ob fun h c' => putA o.dst z.ts (rootV ts1) fun ts => rest (⟨i, .al z.c⟩ :: z.rs) z.acc ts h c') = .ok e ts' h₀ c₀ := g
        unfold rootO at g
        split at g
        · rename_i l v r ht
          split at g
          · rename_i ob
            have g : z.h.new z.c ob (fun h c' => putA o.dst z.ts (rootV ts1) fun ts => rest (⟨i, .al z.c⟩ :: z.rs) z.acc ts h c') = .ok e ts' h₀ c₀ := g
            rw [new_eq, putA_eq] at g
            refine ⟨⟨rootV ts1, .e, single z.c ob, []⟩, ⟨_, z.acc, _, _, z.c + 1⟩, g, o, ho, rfl, .al ob rfl rfl rfl rfl rfl rfl rfl, fun φ a hN hl => opr hN hl ?_⟩
            obtain ⟨cmd, g2, hc⟩ := run φ a hN hl
            rcases told_run S hnd hc g2 with ⟨h, _⟩ | ⟨_, ob2, h2, h⟩ | ⟨h, _⟩ | ⟨h, _⟩ | ⟨h, _⟩
            · cases h
            · rw [ht] at h2
              injection h2 with _ h2 _
              injection h2 with h2
              subst h2; exact h
            · injection h with h; cases h
            · injection h with h; cases h
            · cases h
          · cases g
        · cases g
      | 1, hr, run, g =>
        have g : guardB (allOk (rdOk b) m z.rs) 208 (forceV (rootV ts1) fun v => putA o.dst z.ts v fun ts => rest (⟨i, .rd b⟩ :: z.rs) z.acc ts z.h z.c) = .ok e ts' h₀ c₀ := g
        obtain ⟨hok, g⟩ := guardB_ok g
        rw [forceV_eq, putA_eq] at g
        have hb : ∃ ob, z.h.t.get b = some ob := by
          obtain ⟨φ, a, hN, hl⟩ := wit
          obtain ⟨cmd, g2, hc⟩ := run φ a hN hl
          rcases told_run S hnd hc g2 with ⟨h, _⟩ | ⟨h, _⟩ | ⟨_, ob2, h2, h⟩ | ⟨h, _⟩ | ⟨h, _⟩
          · cases h
          · injection h with h; cases h
          · exact ⟨ob2, h2⟩
          · injection h with h; cases h
          · cases h
        obtain ⟨ob, hb⟩ := hb
        refine ⟨⟨rootV ts1, single b ob, single b ob, []⟩, ⟨_, z.acc, _, z.h, z.c⟩, g, o, ho, rfl, .rd b ob hb rfl rfl rfl rfl rfl rfl rfl hok, fun φ a hN hl => opr hN hl ?_⟩
        obtain ⟨cmd, g2, hc⟩ := run φ a hN hl
        rcases told_run S hnd hc g2 with ⟨h, _⟩ | ⟨h, _⟩ | ⟨_, ob2, h2, h⟩ | ⟨h, _⟩ | ⟨h, _⟩
        · cases h
        · injection h with h; cases h
        · rw [hb] at h2; injection h2 with h2; subst h2; exact h
        · injection h with h; cases h
        · cases h
      | k + 2, hr, run, g =>
        have g : guardB (allOk (wrOk b) m z.rs) 209 (putA o.dst z.ts (.tup []) fun ts => rest (⟨i, .wr b⟩ :: z.rs) z.acc ts h1 z.c) = .ok e ts' h₀ c₀ := g
        obtain ⟨hok, g⟩ := guardB_ok g
        rw [putA_eq] at g
        have hb : ∃ ob ob', z.h.t.get b = some ob ∧ h1 = z.h.putD b (some ob') := by
          obtain ⟨φ, a, hN, hl⟩ := wit
          obtain ⟨cmd, g2, hc⟩ := run φ a hN hl
          rcases told_run S hnd hc g2 with ⟨h, _⟩ | ⟨h, _⟩ | ⟨h, _⟩ | ⟨_, ob2, ob3, h2, h3, h⟩ | ⟨h, _⟩
          · cases h
          · injection h with h; cases h
          · injection h with h; cases h
          · exact ⟨ob2, ob3, h2, h3⟩
          · cases h
        obtain ⟨ob, ob', hb, rfl⟩ := hb
        refine ⟨⟨.tup [], single b ob, (single b ob).set b (some ob'), logW b z.c []⟩, ⟨_, z.acc, _, z.h.putD b (some ob'), z.c⟩, g, o, ho, rfl, .wr b ob ob' hb rfl rfl rfl rfl rfl rfl rfl hok, fun φ a hN hl => opr hN hl ?_⟩
        obtain ⟨cmd, g2, hc⟩ := run φ a hN hl
        rcases told_run S hnd hc g2 with ⟨h, _⟩ | ⟨h, _⟩ | ⟨h, _⟩ | ⟨_, ob2, ob3, h2, h3, h⟩ | ⟨h, _⟩
        · cases h
        · injection h with h; cases h
        · injection h with h; cases h
        · rw [hb] at h2; injection h2 with h2; subst h2
          have h4 := congrArg (fun h : Hs => h.t.get b) h3
          simp only [Hs.putD, get_set_same] at h4
          injection h4 with h4; subst h4; exact h
        · cases h
    · obtain ⟨hok, g⟩ := guardB_ok g
      rcases hideAl_eq m z.rs z.h.t with ⟨n, hbad⟩ | ⟨t', l, g1, g2, g3, g4, g5⟩
      · rw [hbad] at g; cases g
      · rw [g1] at g
        obtain ⟨t3, q1, q2, q3⟩ := g5 h1.t
        rw [q1, forceV_eq, putA_eq] at g
        refine ⟨⟨rootV ts1, t', h1.t, h1.lg⟩, ⟨_, _, _, ⟨t3, z.h.fl, z.h.lg⟩, b⟩, g, o, ho, rfl, .cx g2 g3 g4 q2 q3 rfl rfl rfl rfl hok, fun φ a hN hl => ?_⟩
        obtain ⟨cmd, k2, hc⟩ := run φ a hN hl
        rcases told_run S hnd hc k2 with ⟨h, _⟩ | ⟨h, _⟩ | ⟨h, _⟩ | ⟨h, _⟩ | ⟨_, h⟩
        · cases h
        · cases h
        · cases h
        · cases h
        · have := opr hN hl (h t' l g1)
          intro φ₁ w b₁ k cs rest hle hh hf
          obtain ⟨φ₂, w₂, u, s, hv, st⟩ := this φ₁ w b₁ k cs rest hle hh hf
          have e1 : h1 = ⟨h1.t, z.c, h1.lg⟩ := by
            have := s.fl
            cases h1; simp at this; subst this; rfl
          rw [e1] at s
          exact ⟨φ₂, w₂, u, s, hv, st⟩
end
end Go.AE
