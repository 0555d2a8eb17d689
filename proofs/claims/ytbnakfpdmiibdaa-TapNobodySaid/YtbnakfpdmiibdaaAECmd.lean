import Derived.Test.YtbnakfpdmiibdaaAERow
namespace Go.AE

/-! ### what the tables say -/
structure TabOk (E : Env) : Prop where
  ty : ∀ t i, E.ty.get t = some i → E.P.info? t = some i
  fn : ∀ f fi, E.fn.get f = some (some fi) → ∃ fn, E.P.funcs[f]? = some fn ∧ fiOf fn = some fi
  zsz : ∀ t i z, E.ty.get t = some i → i.zero = some z → z.cells.size = i.size
  mixed : E.P.follows .mixedOrders = true
  fact : ∀ i op k n r, E.fact i op k n = some r → ∃ k' m, E.symv i = .int k' m ∧ ∃ u, (∀ φ, VR E φ r u) ∧ ∀ t w, (binOp op t (.int k' m) (.int k n)).run E.P w = .ok u w

theorem und_ok {E : Env} (T : TabOk E) {t : TypeId} {K : TypeDesc → Out} {e : Ex} {ts : Tm} {h : Hs} {c : Nat} (g : E.und t K = .ok e ts h c) :
    ∃ d, E.P.underlying t = some d ∧ K d = .ok e ts h c := by
  unfold Env.und undK at g
  cases hi : E.ty.get t with
  | none => rw [hi] at g; cases g
  | some i =>
    rw [hi] at g
    have hp := T.ty t i hi
    unfold Program.underlying
    rw [show E.P.info? t = some i from hp]
    cases hd : i.desc with
    | named n u =>
      have g' : (match E.ty.get u with | some j => K j.desc | none => .bad 1) = .ok e ts h c := by simp only [undOf, hd] at g; exact g
      cases hu : E.ty.get u with
      | none => rw [hu] at g'; cases g'
      | some j =>
        rw [hu] at g'
        refine ⟨j.desc, ?_, g'⟩
        obtain ⟨desc⟩ := i
        simp only at hd; subst hd
        simp [T.ty u j hu]
    | _ =>
      refine ⟨i.desc, ?_, by rw [hd]; simp only [undOf, hd] at g; exact g⟩
      obtain ⟨desc⟩ := i
      simp only at hd; subst hd
      simp

theorem size_ok {E : Env} (T : TabOk E) {t : TypeId} {K : Nat → Out} {e : Ex} {ts : Tm} {h : Hs} {c : Nat} (g : E.size t K = .ok e ts h c) :
    ∃ i, E.P.info? t = some i ∧ K i.size = .ok e ts h c := by
  unfold Env.size sizeK at g
  cases hi : E.ty.get t with
  | none => rw [hi] at g; cases g
  | some i => rw [hi] at g; have g' : forceN i.size K = _ := g; rw [forceN_eq] at g'; exact ⟨i, T.ty t i hi, g'⟩
theorem zero_ok {E : Env} (T : TabOk E) {t : TypeId} {K : AV → Out} {e : Ex} {ts : Tm} {h : Hs} {c : Nat} (g : E.zero t K = .ok e ts h c) :
    ∃ i z, E.P.info? t = some i ∧ i.zero = some z ∧ K (ofValue z) = .ok e ts h c := by
  unfold Env.zero zeroK at g
  cases hi : E.ty.get t with
  | none => rw [hi] at g; cases g
  | some i =>
    rw [hi] at g
    have g' : zeroK2 K i.zero = _ := g
    cases hz : i.zero with
    | none => rw [hz] at g'; cases g'
    | some z => rw [hz] at g'; exact ⟨i, z, T.ty t i hi, hz, g'⟩
theorem natOf_ok {v : AV} {K : Nat → Out} {e : Ex} {ts : Tm} {h : Hs} {c : Nat} (g : natOf v K = .ok e ts h c) : ∃ k n, v = .int k (n : Nat) ∧ K n = .ok e ts h c := by
  cases v with
  | int k n => cases n with
    | ofNat m => exact ⟨k, m, rfl, by simpa only [natOf, natI, forceN_eq] using g⟩
    | negSucc m => cases g
  | _ => cases g
theorem ptrOf_ok {v : AV} {K : Nat → Nat → Out} {e : Ex} {ts : Tm} {h : Hs} {c : Nat} (g : ptrOf v K = .ok e ts h c) : ∃ b o, v = .ptr b o ∧ K b o = .ok e ts h c := by
  cases v with
  | ptr b o => exact ⟨b, o, rfl, g⟩
  | _ => cases g
theorem aggOf_ok {v : AV} {K : List AV → Out} {e : Ex} {ts : Tm} {h : Hs} {c : Nat} (g : aggOf v K = .ok e ts h c) : ∃ l, v = .agg l ∧ K l = .ok e ts h c := by
  cases v with
  | agg l => exact ⟨l, rfl, g⟩
  | _ => cases g
theorem oneOf_ok {x : Option AV} {K : AV → Out} {e : Ex} {ts : Tm} {h : Hs} {c : Nat} (g : oneOf K x = .ok e ts h c) : ∃ v, x = some v ∧ K v = .ok e ts h c := by
  cases x with
  | some v => exact ⟨v, rfl, g⟩
  | none => cases g
theorem cellsK_ok {v : AV} {n : Nat} {K : List AV → Out} {e : Ex} {ts : Tm} {h : Hs} {c : Nat} (g : cellsK v n K = .ok e ts h c) :
    ∃ l, K l = .ok e ts h c ∧ ∀ (E : Env) (φ : Loc) (u : Value), VR E φ v u → VRL E φ l u.cells.toList ∧ ∀ x ∈ u.cells.toList, one x = true := by
  have single : ∀ (a : AV), (∀ (E : Env) (φ : Loc) (u : Value), VR E φ a u → one u = true) → ∀ (E : Env) (φ : Loc) (u : Value), VR E φ a u → VRL E φ [a] u.cells.toList ∧ ∀ x ∈ u.cells.toList, one x = true := by
    intro a ha E φ u hu
    have h1 := ha E φ u hu
    have hc : u.cells = #[u] := by cases u <;> first | rfl | cases h1
    rw [hc]
    refine ⟨VRL_cons hu VRL_nil, ?_⟩
    intro x hx
    simp at hx; subst hx; exact h1
  cases v with
  | agg l => exact ⟨l, g, fun E φ u ⟨arr, hu, h1, h2⟩ => by subst hu; exact ⟨h1, h2⟩⟩
  | any => cases g
  | tup l => cases g
  | sym i => cases g
  | raw u =>
    cases ho : one u with
    | false => simp only [cellsK, ho] at g; cases g
    | true =>
      simp only [cellsK, ho] at g
      exact ⟨_, g, single _ fun E φ u' h => by simp only [VR] at h; subst h; exact ho⟩
  | int k n => exact ⟨_, g, single _ fun E φ u h => by simp only [VR] at h; subst h; rfl⟩
  | bool b => exact ⟨_, g, single _ fun E φ u h => by simp only [VR] at h; subst h; rfl⟩
  | str s => exact ⟨_, g, single _ fun E φ u h => by simp only [VR] at h; subst h; rfl⟩
  | nilp => exact ⟨_, g, single _ fun E φ u h => by simp only [VR] at h; subst h; rfl⟩
  | ptr b o => exact ⟨_, g, single _ fun E φ u h => by simp only [VR] at h; obtain ⟨_, _, _, h⟩ := h; subst h; rfl⟩
  | nils => exact ⟨_, g, single _ fun E φ u h => by simp only [VR] at h; subst h; rfl⟩
  | sl b o len cap sz ex => exact ⟨_, g, single _ fun E φ u h => by simp only [VR] at h; obtain ⟨_, _, _, _, _, h, _⟩ := h; subst h; rfl⟩
  | nilm => exact ⟨_, g, single _ fun E φ u h => by simp only [VR] at h; subst h; rfl⟩
  | map b => exact ⟨_, g, single _ fun E φ u h => by simp only [VR] at h; obtain ⟨_, _, _, h⟩ := h; subst h; rfl⟩
  | nilc => exact ⟨_, g, single _ fun E φ u h => by simp only [VR] at h; subst h; rfl⟩
  | chan b => exact ⟨_, g, single _ fun E φ u h => by simp only [VR] at h; obtain ⟨_, _, _, h⟩ := h; subst h; rfl⟩
  | fn f a b => exact ⟨_, g, single _ fun E φ u h => by simp only [VR] at h; obtain ⟨_, _, _, h, _⟩ := h; subst h; rfl⟩
  | nilf => exact ⟨_, g, single _ fun E φ u h => by simp only [VR] at h; subst h; rfl⟩
  | ifc t a => exact ⟨_, g, single _ fun E φ u h => by simp only [VR] at h; obtain ⟨_, h, _⟩ := h; subst h; rfl⟩
  | nili => exact ⟨_, g, single _ fun E φ u h => by simp only [VR] at h; subst h; rfl⟩

/-! ### the model's own questions to the tables -/
section
variable {P : Program} {w : World} {t : TypeId}
theorem run_und {d : TypeDesc} (h : P.underlying t = some d) : (underlying t).run P w = .ok d w := by simp [underlying, h]
theorem run_info {i : TypeInfo} (h : P.info? t = some i) : (typeInfo t).run P w = .ok i w := by simp [typeInfo, h]
theorem run_size {i : TypeInfo} (h : P.info? t = some i) : (sizeOf t).run P w = .ok i.size w := by simp [sizeOf, run_info h]
theorem run_zero {i : TypeInfo} {z : Value} (h : P.info? t = some i) (hz : i.zero = some z) : (zeroValue t).run P w = .ok z w := by simp [zeroValue, run_info h, hz]
theorem run_agg {d : TypeDesc} (h : P.underlying t = some d) : (isAgg t).run P w = .ok (isAggD d) w := by
  unfold isAgg
  simp only [Sem.run_bind, run_und h, Result.andThen_ok]
  cases d <;> rfl
end

/-! ### commands -/
/-- the operation, carried out in w, hands over v, in w' -/
def Runs (P : Program) (o : Oper) (a : Act) (w : World) (v : Value) (w' : World) : Prop :=
  (execOp a.eval o).run P w = .ok (.value v) w' ∨ ((execOp a.eval o).run P w = .ok .skip w' ∧ v = undef)

def mark (r : Nat) : Deferred := { target := .collected r, args := #[] }
/-- what a frame has put off are marks alone, whose blocks, from n on, nobody speaks of -/
def MarksOk (n : Nat) (φ : Loc) (t : T AObj) (w : World) (ds : List Deferred) : Prop :=
  ∃ rs : List Nat, ds = rs.map mark ∧ rs.Nodup ∧ ∀ r ∈ rs, n ≤ r ∧ w.heap[r]? = some (.deferred (some [])) ∧ ∀ b N, t.get b ≠ none → φ b ≠ some (r, N)

/-- where a run leaves the frame -/
def Arr (P : Program) (m : Machine) (b : Frame) (a : Act) (k : List Item) (cs : List Frame) (w : World) : Ex → Prop
  | .normal => Steps P m (lone (fat b a k) cs w)
  | .exit id => ∃ k2, Steps P m (lone (fat b a (.code (.exit id) :: k2)) cs w) ∧ exitTo id k2 = exitTo id k
  | .ret => ∃ k2, Steps P m (lone (fat b a (.code .ret :: k2)) cs w)

def CodeRun (E : Env) (code : Code) (ts : Tm) (h : Hs) (c : Nat) (e : Ex) (ts' : Tm) (h' : Hs) (c' : Nat) : Prop :=
  ∀ (φ : Loc) (w : World) (n : Nat) (b : Frame) (a : Act) (k : List Item) (cs : List Frame), n ≤ w.heap.size →
    TR E φ ts a.tmps → codeOk a.tmps.size code = true → (b.roundOf = none ∨ noRange code = true) → HR E φ h.t w → Fresh φ c c' → MarksOk n φ h.t w a.defers →
    ∃ φ' w' a', Sim E φ h c w φ' h' c' w' ∧ TR E φ' ts' a'.tmps ∧ a'.tmps.size = a.tmps.size ∧ MarksOk n φ' h'.t w' a'.defers ∧
      Arr E.P (lone (fat b a (.code code :: k)) cs w) b a' k cs w' e

/-- the evaluator of statements is right -/
def SelfOk (E : Env) (self : Self) : Prop := ∀ code ts h c e ts' h' c', self code ts h c = .ok e ts' h' c' → CodeRun E code ts h c e ts' h' c'

def CxRun (E : Env) (φ₀ : Loc) (o : Oper) (a : Act) (h : Hs) (c : Nat) (v : AV) (h' : Hs) (c' : Nat) : Prop :=
  ∀ (φ : Loc) (w : World) (b : Frame) (k : List Item) (cs : List Frame) (ops : Array Oper) (i : Nat) (rest : List Nat),
    φ₀.le φ → ops[i]? = some o → Region.wanted o (yielded ops a.tmps) = true → HR E φ h.t w → Fresh φ c c' →
    ∃ φ' w' u, Sim E φ h c w φ' h' c' w' ∧ VR E φ' v u ∧ Steps E.P (lone (fat b a (.inRegion ops (i :: rest) :: k)) cs w) (lone (fat b (a.put o.dst u) (.inRegion ops rest :: k)) cs w')

def CxOk (E : Env) (φ₀ : Loc) (o : Oper) (a : Act) (f : Self → Hs → Nat → Kv → Out) : Prop :=
  ∀ self, SelfOk E self → ∀ (h : Hs) (c : Nat) (K : Kv) (e : Ex) (ts' : Tm) (h' : Hs) (c' : Nat), f self h c K = .ok e ts' h' c' →
    ∃ v h₁ c₁, K v h₁ c₁ = .ok e ts' h' c' ∧ CxRun E φ₀ o a h c v h₁ c₁

def CmdOk (E : Env) (φ : Loc) (o : Oper) (a : Act) : Cmd → Prop
  | .val v => ∃ u, VR E φ v u ∧ ∀ w, Runs E.P o a w u w
  | .new ao mk => ∀ w : World, ∃ u w' N, Runs E.P o a w u w' ∧ Grown w w' ∧ ∀ (φ' : Loc) (c : Nat), φ.le φ' → φ' c = some (w.heap.size, N) → OR E φ' w' c ao ∧ VR E φ' (mk c) u
  | .rd b f => ∀ (K : AV → Out) (x : Option AObj) (e : Ex) (ts' : Tm) (h' : Hs) (c' : Nat), f K x = .ok e ts' h' c' → ∃ ao v, x = some ao ∧ K v = .ok e ts' h' c' ∧
      ∀ (φ' : Loc) (w : World), φ.le φ' → OR E φ' w b ao → ∃ u, VR E φ' v u ∧ Runs E.P o a w u w
  | .wr b off l => ∀ (φ' : Loc) (w : World) (B : Nat) (C : Array Value) (e : TypeId) (fr : Nat × Nat), φ.le φ' → φ' b = some (B, C.size) → w.heap[B]? = some (.cells C e fr) → Nofz fr C.size →
      off + l.length ≤ C.size → ∃ us, VRL E φ' l us ∧ (∀ v ∈ us, one v = true) ∧ Runs E.P o a w undef (World.rowTo w B (layA C off us))
  | .cx f => CxOk E φ o a f

/-- a command that is carried out at once -/
theorem CxRun.of_runs {E : Env} {φ₀ : Loc} {o : Oper} {a : Act} {h h' : Hs} {c c' : Nat} {v : AV} (hd : ∀ c, o.op ≠ .defer c)
    (hr : ∀ (φ : Loc) (w : World), φ₀.le φ → HR E φ h.t w → Fresh φ c c' → ∃ φ' w' u, Sim E φ h c w φ' h' c' w' ∧ VR E φ' v u ∧ Runs E.P o a w u w') : CxRun E φ₀ o a h c v h' c' := by
  intro φ w b k cs ops i rest hl ho hw hh hf
  obtain ⟨φ', w', u, hs, hv, hr⟩ := hr φ w hl hh hf
  refine ⟨φ', w', u, hs, hv, ?_⟩
  rcases hr with hr | ⟨hr, rfl⟩
  · exact fat_op_value ho hw hd hr
  · exact fat_op_unit ho hw hd hr
end Go.AE
