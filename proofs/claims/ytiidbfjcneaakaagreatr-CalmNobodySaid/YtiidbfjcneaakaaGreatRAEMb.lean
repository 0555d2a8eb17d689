/- The evaluator AE and its soundness, part b. -/
import Derived.Test.YtiidbfjcneaakaaGreatRAEMa
import Derived.Laws.Strings
import Derived.IntWalk
import Derived.Laws.StructEq
import Derived.Laws.IdiomStrings
import Derived.Laws.MakeOwn
import Derived.Laws.Tables
import Derived.Great.BuildSlice
namespace Go.AE

/-! ### what the tables say -/
structure TabOk (E : Env) : Prop where
  ty : ∀ t i, E.ty.get t = some i → E.P.info? t = some i
  fn : ∀ f fi, E.fn.get f = some (some fi) → ∃ fn, E.P.funcs[f]? = some fn ∧ fiOf fn = some fi
  zsz : ∀ t i z, E.ty.get t = some i → i.zero = some z → z.cells.size = i.size
  mixed : E.P.follows .mixedOrders = true
  fact : ∀ i op k n r, E.fact i op k n = some r → ∃ k' m, E.symv i = .int k' m ∧ ∃ u, (∀ φ, VR E φ r u) ∧ ∀ t w, (binOp op t (.int k' m) (.int k n)).run E.P w = .ok u w

theorem und_ok {E : Env} (T : TabOk E) {t : TypeId} {K : TypeDesc → Out} {e : Ex} {ts : Tm} {h : Hs} {c : Nat} (g : E.und t K = .ok e ts h c) :
    ∃ d, E.P.underlying t = some d ∧ K d = .ok e ts h c := by
  unfold Env.und undK at g
  cases hi : E.ty.get t with
  | none => rw [hi] at g; cases g
  | some i =>
    rw [hi] at g
    have hp := T.ty t i hi
    unfold Program.underlying
    rw [show E.P.info? t = some i from hp]
    cases hd : i.desc with
    | named n u =>
      have g' : (match E.ty.get u with | some j => K j.desc | none => .bad 1) = .ok e ts h c := by simp only [undOf, hd] at g; exact g
      cases hu : E.ty.get u with
      | none => rw [hu] at g'; cases g'
      | some j =>
        rw [hu] at g'
        refine ⟨j.desc, ?_, g'⟩
        obtain ⟨desc⟩ := i
        simp only at hd; subst hd
        simp [T.ty u j hu]
    | _ =>
      refine ⟨i.desc, ?_, by rw [hd]; simp only [undOf, hd] at g; exact g⟩
      obtain ⟨desc⟩ := i
      simp only at hd; subst hd
      simp

theorem size_ok {E : Env} (T : TabOk E) {t : TypeId} {K : Nat → Out} {e : Ex} {ts : Tm} {h : Hs} {c : Nat} (g : E.size t K = .ok e ts h c) :
    ∃ i, E.P.info? t = some i ∧ K i.size = .ok e ts h c := by
  unfold Env.size sizeK at g
  cases hi : E.ty.get t with
  | none => rw [hi] at g; cases g
  | some i => rw [hi] at g; have g' : forceN i.size K = _ := g; rw [forceN_eq] at g'; exact ⟨i, T.ty t i hi, g'⟩
theorem zero_ok {E : Env} (T : TabOk E) {t : TypeId} {K : AV → Out} {e : Ex} {ts : Tm} {h : Hs} {c : Nat} (g : E.zero t K = .ok e ts h c) :
    ∃ i z, E.P.info? t = some i ∧ i.zero = some z ∧ K (ofValue z) = .ok e ts h c := by
  unfold Env.zero zeroK at g
  cases hi : E.ty.get t with
  | none => rw [hi] at g; cases g
  | some i =>
    rw [hi] at g
    have g' : zeroK2 K i.zero = _ := g
    cases hz : i.zero with
    | none => rw [hz] at g'; cases g'
    | some z => rw [hz] at g'; exact ⟨i, z, T.ty t i hi, hz, g'⟩
theorem natOf_ok {v : AV} {K : Nat → Out} {e : Ex} {ts : Tm} {h : Hs} {c : Nat} (g : natOf v K = .ok e ts h c) : ∃ k n, v = .int k (n : Nat) ∧ K n = .ok e ts h c := by
  cases v with
  | int k n => cases n with
    | ofNat m => exact ⟨k, m, rfl, by simpa only [natOf, natI, forceN_eq] using g⟩
    | negSucc m => cases g
  | _ => cases g
theorem ptrOf_ok {v : AV} {K : Nat → Nat → Out} {e : Ex} {ts : Tm} {h : Hs} {c : Nat} (g : ptrOf v K = .ok e ts h c) : ∃ b o, v = .ptr b o ∧ K b o = .ok e ts h c := by
  cases v with
  | ptr b o => exact ⟨b, o, rfl, g⟩
  | _ => cases g
theorem aggOf_ok {v : AV} {K : List AV → Out} {e : Ex} {ts : Tm} {h : Hs} {c : Nat} (g : aggOf v K = .ok e ts h c) : ∃ l, v = .agg l ∧ K l = .ok e ts h c := by
  cases v with
  | agg l => exact ⟨l, rfl, g⟩
  | _ => cases g
theorem oneOf_ok {x : Option AV} {K : AV → Out} {e : Ex} {ts : Tm} {h : Hs} {c : Nat} (g : oneOf K x = .ok e ts h c) : ∃ v, x = some v ∧ K v = .ok e ts h c := by
  cases x with
  | some v => exact ⟨v, rfl, g⟩
  | none => cases g
theorem cellsK_ok {v : AV} {n : Nat} {K : List AV → Out} {e : Ex} {ts : Tm} {h : Hs} {c : Nat} (g : cellsK v n K = .ok e ts h c) :
    ∃ l, K l = .ok e ts h c ∧ ∀ (E : Env) (φ : Loc) (u : Value), VR E φ v u → VRL E φ l u.cells.toList ∧ ∀ x ∈ u.cells.toList, one x = true := by
  have single : ∀ (a : AV), (∀ (E : Env) (φ : Loc) (u : Value), VR E φ a u → one u = true) → ∀ (E : Env) (φ : Loc) (u : Value), VR E φ a u → VRL E φ [a] u.cells.toList ∧ ∀ x ∈ u.cells.toList, one x = true := by
    intro a ha E φ u hu
    have h1 := ha E φ u hu
    have hc : u.cells = #[u] := by cases u <;> first | rfl | cases h1
    rw [hc]
    refine ⟨VRL_cons hu VRL_nil, ?_⟩
    intro x hx
    simp at hx; subst hx; exact h1
  cases v with
  | agg l => exact ⟨l, g, fun E φ u ⟨arr, hu, h1, h2⟩ => by subst hu; exact ⟨h1, h2⟩⟩
  | any => cases g
  | tup l => cases g
  | sym i => cases g
  | raw u =>
    cases ho : one u with
    | false => simp only [cellsK, ho] at g; cases g
    | true =>
      simp only [cellsK, ho] at g
      exact ⟨_, g, single _ fun E φ u' h => by simp only [VR] at h; subst h; exact ho⟩
  | int k n => exact ⟨_, g, single _ fun E φ u h => by simp only [VR] at h; subst h; rfl⟩
  | bool b => exact ⟨_, g, single _ fun E φ u h => by simp only [VR] at h; subst h; rfl⟩
  | str s => exact ⟨_, g, single _ fun E φ u h => by simp only [VR] at h; subst h; rfl⟩
  | nilp => exact ⟨_, g, single _ fun E φ u h => by simp only [VR] at h; subst h; rfl⟩
  | ptr b o => exact ⟨_, g, single _ fun E φ u h => by simp only [VR] at h; obtain ⟨_, _, _, h⟩ := h; subst h; rfl⟩
  | nils => exact ⟨_, g, single _ fun E φ u h => by simp only [VR] at h; subst h; rfl⟩
  | sl b o len cap sz ex => exact ⟨_, g, single _ fun E φ u h => by simp only [VR] at h; obtain ⟨_, _, _, _, _, h, _⟩ := h; subst h; rfl⟩
  | nilm => exact ⟨_, g, single _ fun E φ u h => by simp only [VR] at h; subst h; rfl⟩
  | map b => exact ⟨_, g, single _ fun E φ u h => by simp only [VR] at h; obtain ⟨_, _, _, h⟩ := h; subst h; rfl⟩
  | nilc => exact ⟨_, g, single _ fun E φ u h => by simp only [VR] at h; subst h; rfl⟩
  | chan b => exact ⟨_, g, single _ fun E φ u h => by simp only [VR] at h; obtain ⟨_, _, _, h⟩ := h; subst h; rfl⟩
  | fn f a b => exact ⟨_, g, single _ fun E φ u h => by simp only [VR] at h; obtain ⟨_, _, _, h, _⟩ := h; subst h; rfl⟩
  | nilf => exact ⟨_, g, single _ fun E φ u h => by simp only [VR] at h; subst h; rfl⟩
  | ifc t a => exact ⟨_, g, single _ fun E φ u h => by simp only [VR] at h; obtain ⟨_, h, _⟩ := h; subst h; rfl⟩
  | nili => exact ⟨_, g, single _ fun E φ u h => by simp only [VR] at h; subst h; rfl⟩

/-! ### the model's own questions to the tables -/
section
variable {P : Program} {w : World} {t : TypeId}
theorem run_und {d : TypeDesc} (h : P.underlying t = some d) : (underlying t).run P w = .ok d w := by simp [underlying, h]
theorem run_info {i : TypeInfo} (h : P.info? t = some i) : (typeInfo t).run P w = .ok i w := by simp [typeInfo, h]
theorem run_size {i : TypeInfo} (h : P.info? t = some i) : (sizeOf t).run P w = .ok i.size w := by simp [sizeOf, run_info h]
theorem run_zero {i : TypeInfo} {z : Value} (h : P.info? t = some i) (hz : i.zero = some z) : (zeroValue t).run P w = .ok z w := by simp [zeroValue, run_info h, hz]
theorem run_agg {d : TypeDesc} (h : P.underlying t = some d) : (isAgg t).run P w = .ok (isAggD d) w := by
  unfold isAgg
  simp only [Sem.run_bind, run_und h, Result.andThen_ok]
  cases d <;> rfl
end

/-! ### commands -/
/-- the operation, carried out in w, hands over v, in w' -/
def Runs (P : Program) (o : Oper) (a : Act) (w : World) (v : Value) (w' : World) : Prop :=
  (execOp a.eval o).run P w = .ok (.value v) w' ∨ ((execOp a.eval o).run P w = .ok .skip w' ∧ v = undef)

def mark (r : Nat) : Deferred := { target := .collected r, args := #[] }
/-- what a frame has put off are marks alone, whose blocks, from n on, nobody speaks of -/
def MarksOk (n : Nat) (φ : Loc) (t : T AObj) (w : World) (ds : List Deferred) : Prop :=
  ∃ rs : List Nat, ds = rs.map mark ∧ rs.Nodup ∧ ∀ r ∈ rs, n ≤ r ∧ w.heap[r]? = some (.deferred (some [])) ∧ ∀ b N, t.get b ≠ none → φ b ≠ some (r, N)

/-- where a run leaves the frame -/
def Arr (P : Program) (m : Machine) (b : Frame) (a : Act) (k : List Item) (cs : List Frame) (w : World) : Ex → Prop
  | .normal => Steps P m (lone (fat b a k) cs w)
  | .exit id => ∃ k2, Steps P m (lone (fat b a (.code (.exit id) :: k2)) cs w) ∧ exitTo id k2 = exitTo id k
  | .ret => ∃ k2, Steps P m (lone (fat b a (.code .ret :: k2)) cs w)

/-- only the temporaries of L were written -/
def KeptT (L : List Nat) (a a' : Act) : Prop := a'.tmps.size = a.tmps.size ∧ ∀ t, t ∉ L → a'.tmps.getD t undef = a.tmps.getD t undef
theorem KeptT.refl (L : List Nat) (a : Act) : KeptT L a a := ⟨rfl, fun _ _ => rfl⟩
theorem KeptT.trans {L : List Nat} {a b c : Act} (h : KeptT L a b) (g : KeptT L b c) : KeptT L a c := ⟨g.1.trans h.1, fun t ht => (g.2 t ht).trans (h.2 t ht)⟩
theorem KeptT.mono {L M : List Nat} {a b : Act} (h : KeptT L a b) (hl : ∀ t ∈ L, t ∈ M) : KeptT M a b := ⟨h.1, fun t ht => h.2 t fun hm => ht (hl t hm)⟩
theorem KeptT.put {L : List Nat} (a : Act) (d : Option Tmp) (u : Value) (hd : ∀ t, d = some t → t ∈ L) : KeptT L a (a.put d u) := by
  cases d with
  | none => exact KeptT.refl ..
  | some d =>
    refine ⟨by simp [Act.put], fun t ht => ?_⟩
    have hne : d ≠ t := fun e => ht (e ▸ hd d rfl)
    show (a.tmps.setIfInBounds d u).getD t undef = _
    simp only [Array.getD_eq_getD_getElem?, Array.getElem?_setIfInBounds_ne hne]

def CodeRun (E : Env) (code : Code) (ts : Tm) (h : Hs) (c : Nat) (e : Ex) (ts' : Tm) (h' : Hs) (c' : Nat) : Prop :=
  ∀ (φ : Loc) (w : World) (n : Nat) (b : Frame) (a : Act) (k : List Item) (cs : List Frame), n ≤ w.heap.size →
    TR E φ ts a.tmps → codeOk a.tmps.size code = true → (b.roundOf = none ∨ noRange code = true) → HR E φ h.t w → Fresh φ c c' → MarksOk n φ h.t w a.defers →
    ∃ φ' w' a', Sim E φ h c w φ' h' c' w' ∧ TR E φ' ts' a'.tmps ∧ KeptT (dstsC code) a a' ∧ MarksOk n φ' h'.t w' a'.defers ∧
      Arr E.P (lone (fat b a (.code code :: k)) cs w) b a' k cs w' e

/-- the evaluator of statements is right -/
def SelfOk (E : Env) (self : Self) : Prop := ∀ code ts h c e ts' h' c', self code ts h c = .ok e ts' h' c' → CodeRun E code ts h c e ts' h' c'

def CxRun (E : Env) (φ₀ : Loc) (o : Oper) (a : Act) (h : Hs) (c : Nat) (v : AV) (h' : Hs) (c' : Nat) : Prop :=
  ∀ (φ : Loc) (w : World) (b : Frame) (k : List Item) (cs : List Frame) (ops : Array Oper) (i : Nat) (rest : List Nat),
    φ₀.le φ → ops[i]? = some o → Region.wanted o (yielded ops a.tmps) = true → HR E φ h.t w → Fresh φ c c' →
    ∃ φ' w' u, Sim E φ h c w φ' h' c' w' ∧ VR E φ' v u ∧ Steps E.P (lone (fat b a (.inRegion ops (i :: rest) :: k)) cs w) (lone (fat b (a.put o.dst u) (.inRegion ops rest :: k)) cs w')

def CxOk (E : Env) (φ₀ : Loc) (o : Oper) (a : Act) (f : Self → Hs → Nat → Kv → Out) : Prop :=
  ∀ self, SelfOk E self → ∀ (h : Hs) (c : Nat) (K : Kv) (e : Ex) (ts' : Tm) (h' : Hs) (c' : Nat), f self h c K = .ok e ts' h' c' →
    ∃ v h₁ c₁, K v h₁ c₁ = .ok e ts' h' c' ∧ CxRun E φ₀ o a h c v h₁ c₁

def CmdOk (E : Env) (φ : Loc) (o : Oper) (a : Act) : Cmd → Prop
  | .val v => ∃ u, VR E φ v u ∧ ∀ w, Runs E.P o a w u w
  | .new ao mk => ∀ w : World, ∃ u w' N, Runs E.P o a w u w' ∧ Grown w w' ∧ ∀ (φ' : Loc) (c : Nat), φ.le φ' → φ' c = some (w.heap.size, N) → OR E φ' w' c ao ∧ VR E φ' (mk c) u
  | .rd b f => ∀ (K : AV → Out) (x : Option AObj) (e : Ex) (ts' : Tm) (h' : Hs) (c' : Nat), f K x = .ok e ts' h' c' → ∃ ao v, x = some ao ∧ K v = .ok e ts' h' c' ∧
      ∀ (φ' : Loc) (w : World), φ.le φ' → OR E φ' w b ao → ∃ u, VR E φ' v u ∧ Runs E.P o a w u w
  | .wr b off l => ∀ (φ' : Loc) (w : World) (B : Nat) (C : Array Value) (e : TypeId) (fr : Nat × Nat), φ.le φ' → φ' b = some (B, C.size) → w.heap[B]? = some (.cells C e fr) → Nofz fr C.size →
      off + l.length ≤ C.size → ∃ us, VRL E φ' l us ∧ (∀ v ∈ us, one v = true) ∧ Runs E.P o a w undef (World.rowTo w B (layA C off us))
  | .cx f => CxOk E φ o a f

/-- a command that is carried out at once -/
theorem CxRun.of_runs {E : Env} {φ₀ : Loc} {o : Oper} {a : Act} {h h' : Hs} {c c' : Nat} {v : AV} (hd : ∀ c, o.op ≠ .defer c)
    (hr : ∀ (φ : Loc) (w : World), φ₀.le φ → HR E φ h.t w → Fresh φ c c' → ∃ φ' w' u, Sim E φ h c w φ' h' c' w' ∧ VR E φ' v u ∧ Runs E.P o a w u w') : CxRun E φ₀ o a h c v h' c' := by
  intro φ w b k cs ops i rest hl ho hw hh hf
  obtain ⟨φ', w', u, hs, hv, hr⟩ := hr φ w hl hh hf
  refine ⟨φ', w', u, hs, hv, ?_⟩
  rcases hr with hr | ⟨hr, rfl⟩
  · exact fat_op_value ho hw hd hr
  · exact fat_op_unit ho hw hd hr
end Go.AE
namespace Go.AE

theorem wrap64_eq (n : Int) : AE.wrap64 n = IntKind.i64.wrap n := by
  cases n with
  | ofNat m =>
    simp only [AE.wrap64]
    cases h : Nat.blt m 9223372036854775808 with
    | false => rfl
    | true =>
      have := Nat.blt_eq.mp h
      show Int.ofNat m = _
      exact (IntWalk.i64_in _ ⟨by rw [Int.ofNat_eq_natCast]; omega, by rw [Int.ofNat_eq_natCast]; omega⟩).symm
  | negSucc m =>
    simp only [AE.wrap64]
    cases h : Nat.blt m 9223372036854775808 with
    | false => rfl
    | true =>
      have := Nat.blt_eq.mp h
      show Int.negSucc m = _
      exact (IntWalk.i64_in _ ⟨by omega, by omega⟩).symm
theorem wrapF_eq (k : IntKind) (n : Int) : wrapF k n = k.wrap n := by
  cases k <;> simp only [wrapF]
  · exact wrap64_eq n
  · cases n
    · simp only [wrapU, IntKind.wrap_u8]; rfl
    · rfl
  · cases n
    · simp only [wrapU, IntKind.wrap_u32]; rfl
    · rfl
  · cases n
    · simp only [wrapU, IntKind.wrap, IntKind.bits, IntKind.signed]; rfl
    · rfl

theorem ikEq_iff (j k : IntKind) : ikEq j k = true ↔ j = k := by cases j <;> cases k <;> simp [ikEq]
theorem bnot_eq (b : Bool) : bnot b = !b := by cases b <;> rfl
theorem intEq_eq (x y : Int) : intEq x y = (x == y) := by
  cases x <;> cases y <;> simp only [intEq]
  · rename_i a b; rw [Bool.eq_iff_iff]; simp; omega
  · rw [eq_comm]; simp
  · rw [eq_comm]; simp
  · rename_i a b; rw [Bool.eq_iff_iff]; simp
theorem intLe_eq (x y : Int) : intLe x y = decide (x ≤ y) := by
  cases x <;> cases y <;> simp only [intLe]
  · rename_i a b; rw [Bool.eq_iff_iff]; simp
  · symm; simp; omega
  · symm; simp; omega
  · rename_i a b; rw [Bool.eq_iff_iff]; simp; omega
theorem lss_eq (x y : Int) : bnot (intLe y x) = decide (x < y) := by
  rw [bnot_eq, intLe_eq, Bool.eq_iff_iff]; simp
theorem u8_beq (a b : UInt8) : Nat.beq a.toNat b.toNat = (a == b) := by
  rw [Bool.eq_iff_iff]; simp [UInt8.toNat_inj]
theorem strEq_eq : ∀ a b : List UInt8, strEq a b = (a == b)
  | [], [] => rfl
  | [], _ :: _ => rfl
  | _ :: _, [] => rfl
  | a :: x, b :: y => by
    show (Bool.rec (motive := fun _ => Bool) false (strEq x y) (Nat.beq a.toNat b.toNat) : Bool) = _
    rw [strEq_eq x y, u8_beq]
    show _ = (a == b && x == y)
    cases a == b <;> rfl
theorem strLt_eq : ∀ a b : List UInt8, strLt a b = Op.bytesLess a b
  | [], [] => rfl
  | [], _ :: _ => rfl
  | _ :: _, [] => rfl
  | a :: x, b :: y => by
    show (Bool.rec (motive := fun _ => Bool) (Bool.rec (motive := fun _ => Bool) false (strLt x y) (Nat.beq a.toNat b.toNat)) true (Nat.blt a.toNat b.toNat) : Bool) = _
    rw [strLt_eq x y, u8_beq]
    have e : Nat.blt a.toNat b.toNat = decide (a < b) := by
      rw [Bool.eq_iff_iff, Nat.blt_eq]; simp [UInt8.lt_iff_toNat_lt]
    rw [e]
    simp only [Op.bytesLess]
    cases decide (a < b) <;> cases (a == b) <;> rfl

/-- a value without blocks, handed over in every world -/
def Hands {α : Type} (P : Program) (s : Sem α) (u : α) : Prop := ∀ w, s.run P w = .ok u w

theorem wrap_small (k : IntKind) (n : Nat) (h : n < lim k) : k.wrap n = n := by
  cases k <;> simp only [lim] at h <;> first
    | exact IntWalk.i64_in _ (by omega)
    | exact IntWalk.i32_in _ (by omega)
    | exact IntWalk.i16_in _ (by omega)
    | exact IntWalk.i8_in _ (by omega)
    | exact IntWalk.u64_in _ (by omega)
    | exact IntWalk.u32_in _ (by omega)
    | exact IntWalk.u16_in _ (by omega)
    | exact IntWalk.u8_in _ (by omega)
theorem lim_le (k : IntKind) : lim k ≤ 2 ^ k.bits := by cases k <;> decide
theorem lim_pow (k : IntKind) : ∃ j, lim k = 2 ^ j := by
  cases k
  · exact ⟨7, rfl⟩
  · exact ⟨15, rfl⟩
  · exact ⟨31, rfl⟩
  · exact ⟨63, rfl⟩
  · exact ⟨8, rfl⟩
  · exact ⟨16, rfl⟩
  · exact ⟨32, rfl⟩
  · exact ⟨64, rfl⟩
theorem bv_nat (k : IntKind) (n : Nat) (h : n < lim k) : (BitVec.ofInt k.bits (n : Int)).toNat = n := by
  have := lim_le k
  rw [BitVec.toNat_ofInt]
  have e : ((n : Int) % ((2 ^ k.bits : Nat) : Int)) = ((n % 2 ^ k.bits : Nat) : Int) := by simp
  rw [e, Int.toNat_natCast, Nat.mod_eq_of_lt (by omega)]

theorem binI_ok {op : BinOp} {k k' : IntKind} {a b : Int} {K : AV → Out} {e : Ex} {ts : Tm} {h : Hs} {c : Nat} (g : binI op k a k' b K = .ok e ts h c) :
    ∃ v u, K v = .ok e ts h c ∧ (∀ E φ, VR E φ v u) ∧ ∀ (P : Program) (t : TypeId), Hands P (binOp op t (.int k a) (.int k' b)) u := by
  have int : ∀ (n : Int) (E : Env) (φ : Loc), VR E φ (.int k n) (.int k n) := fun n E φ => rfl
  have bool : ∀ (n : Bool) (E : Env) (φ : Loc), VR E φ (.bool n) (.bool n) := fun n E φ => rfl
  have kinds : ∀ {n : Nat} {X : Out}, guardB (ikEq k k') n X = .ok e ts h c → k = k' ∧ X = .ok e ts h c := fun g =>
    let ⟨h1, h2⟩ := guardB_ok g; ⟨(ikEq_iff _ _).1 h1, h2⟩
  cases op <;> simp only [binI, arith] at g
  case add => obtain ⟨ek, g2⟩ := kinds g; subst ek; exact ⟨_, _, g2, int _, fun P t w => by simp [binOp, Op.intArith, wrapF_eq]⟩
  case sub => obtain ⟨ek, g2⟩ := kinds g; subst ek; exact ⟨_, _, g2, int _, fun P t w => by simp [binOp, Op.intArith, wrapF_eq]; rfl⟩
  case mul => obtain ⟨ek, g2⟩ := kinds g; subst ek; exact ⟨_, _, g2, int _, fun P t w => by simp [binOp, Op.intArith, wrapF_eq]⟩
  case quo =>
    obtain ⟨ek, g2⟩ := kinds g; subst ek
    obtain ⟨h0, g3⟩ := guardB_ok g2
    rw [bnot_eq, intEq_eq] at h0
    have hb : b ≠ 0 := by rintro rfl; simp at h0
    exact ⟨_, _, g3, int _, fun P t w => by simp [binOp, Op.intDiv, hb, wrapF_eq]⟩
  case rem =>
    obtain ⟨ek, g2⟩ := kinds g; subst ek
    obtain ⟨h0, g3⟩ := guardB_ok g2
    rw [bnot_eq, intEq_eq] at h0
    have hb : b ≠ 0 := by rintro rfl; simp at h0
    exact ⟨_, _, g3, int _, fun P t w => by simp [binOp, Op.intDiv, hb]⟩
  case and =>
    obtain ⟨ek, g2⟩ := kinds g; subst ek
    cases a with
    | negSucc m => cases g2
    | ofNat m => cases b with
      | negSucc n => cases g2
      | ofNat n =>
        obtain ⟨h1, g3⟩ := guardB_ok g2
        obtain ⟨h2, g4⟩ := guardB_ok g3
        have h1 := Nat.blt_eq.mp h1
        have h2 := Nat.blt_eq.mp h2
        refine ⟨_, _, g4, int _, fun P t w => ?_⟩
        have e1 := bv_nat k m h1
        have e2 := bv_nat k n h2
        have e3 : (m &&& n) < lim k := by obtain ⟨j, hj⟩ := lim_pow k; rw [hj] at h2 ⊢; exact Nat.and_lt_two_pow _ h2
        simp only [binOp, Op.intBits, Int.ofNat_eq_natCast]
        simp only [ne_eq, not_true_eq_false, if_false, Sem.run_pure, BitVec.toNat_and, e1, e2, wrap_small k _ e3]
        rfl
  case or =>
    obtain ⟨ek, g2⟩ := kinds g; subst ek
    cases a with
    | negSucc m => cases g2
    | ofNat m => cases b with
      | negSucc n => cases g2
      | ofNat n =>
        obtain ⟨h1, g3⟩ := guardB_ok g2
        obtain ⟨h2, g4⟩ := guardB_ok g3
        have h1 := Nat.blt_eq.mp h1
        have h2 := Nat.blt_eq.mp h2
        refine ⟨_, _, g4, int _, fun P t w => ?_⟩
        have e1 := bv_nat k m h1
        have e2 := bv_nat k n h2
        have e3 : (m ||| n) < lim k := by obtain ⟨j, hj⟩ := lim_pow k; rw [hj] at h1 h2 ⊢; exact Nat.or_lt_two_pow h1 h2
        simp only [binOp, Op.intBits, Int.ofNat_eq_natCast]
        simp only [ne_eq, not_true_eq_false, if_false, Sem.run_pure, BitVec.toNat_or, e1, e2, wrap_small k _ e3]
        rfl
  case xor =>
    obtain ⟨ek, g2⟩ := kinds g; subst ek
    cases a with
    | negSucc m => cases g2
    | ofNat m => cases b with
      | negSucc n => cases g2
      | ofNat n =>
        obtain ⟨h1, g3⟩ := guardB_ok g2
        obtain ⟨h2, g4⟩ := guardB_ok g3
        have h1 := Nat.blt_eq.mp h1
        have h2 := Nat.blt_eq.mp h2
        refine ⟨_, _, g4, int _, fun P t w => ?_⟩
        have e1 := bv_nat k m h1
        have e2 := bv_nat k n h2
        have e3 : (m ^^^ n) < lim k := by obtain ⟨j, hj⟩ := lim_pow k; rw [hj] at h1 h2 ⊢; exact Nat.xor_lt_two_pow h1 h2
        simp only [binOp, Op.intBits, Int.ofNat_eq_natCast]
        simp only [ne_eq, not_true_eq_false, if_false, Sem.run_pure, BitVec.toNat_xor, e1, e2, wrap_small k _ e3]
        rfl
  case shl =>
    cases b with
    | negSucc n => cases g
    | ofNat n =>
      refine ⟨_, _, g, int _, fun P t w => ?_⟩
      have e : ¬ (Int.ofNat n < 0) := by rw [Int.ofNat_eq_natCast]; omega
      simp only [binOp, Op.shift, wrapF_eq, e, if_false, Sem.run_pure]
      rfl
  case shr =>
    cases b with
    | negSucc n => cases g
    | ofNat n =>
      refine ⟨_, _, g, int _, fun P t w => ?_⟩
      have e : ¬ (Int.ofNat n < 0) := by rw [Int.ofNat_eq_natCast]; omega
      simp only [binOp, Op.shift, e, if_false, Sem.run_pure]
      rfl
  case andNot => cases g
  case eql => obtain ⟨ek, g2⟩ := kinds g; subst ek; exact ⟨_, _, g2, bool _, fun P t w => by simp [binOp, Op.intCmp, intEq_eq]⟩
  case neq => obtain ⟨ek, g2⟩ := kinds g; subst ek; exact ⟨_, _, g2, bool _, fun P t w => by simp [binOp, Op.intCmp, intEq_eq, bnot_eq, bne]⟩
  case lss => obtain ⟨ek, g2⟩ := kinds g; subst ek; exact ⟨_, _, g2, bool _, fun P t w => by simp [binOp, Op.intCmp, lss_eq]⟩
  case leq => obtain ⟨ek, g2⟩ := kinds g; subst ek; exact ⟨_, _, g2, bool _, fun P t w => by simp [binOp, Op.intCmp, intLe_eq]⟩
  case gtr => obtain ⟨ek, g2⟩ := kinds g; subst ek; exact ⟨_, _, g2, bool _, fun P t w => by simp [binOp, Op.intCmp, lss_eq]⟩
  case geq => obtain ⟨ek, g2⟩ := kinds g; subst ek; exact ⟨_, _, g2, bool _, fun P t w => by simp [binOp, Op.intCmp, intLe_eq]⟩
end Go.AE
namespace Go.AE

theorem partOf_ok {E : Env} (T : TabOk E) {t : TypeId} {cs : List AV} {off : Nat} {K : AV → Out} {e : Ex} {ts : Tm} {h : Hs} {c : Nat} (g : partOf E t cs off K = .ok e ts h c) :
    ∃ v, K v = .ok e ts h c ∧ ∀ (φ : Loc) (arr : Array Value), VRL E φ cs arr.toList → (∀ x ∈ arr.toList, one x = true) → ∃ u, VR E φ v u ∧ Hands E.P (part t arr off) u := by
  unfold partOf at g
  obtain ⟨d, hd, g⟩ := und_ok T g
  unfold partD at g
  rw [kdrop_eq] at g
  cases ha : isAggD d with
  | true =>
    rw [ha] at g
    obtain ⟨i, hi, g⟩ := size_ok T g
    obtain ⟨hn, g⟩ := guardB_ok g
    rw [ktake_eq] at g
    rw [lenL_eq] at hn
    have hn := Nat.le_of_ble_eq_true hn
    refine ⟨_, g, fun φ arr h1 h2 => ⟨.agg (arr.extract off (off + i.size)), ⟨_, rfl, ?_, ?_⟩, fun w => ?_⟩⟩
    · have e : (arr.extract off (off + i.size)).toList = (arr.toList.drop off).take i.size := by
        rw [Array.toList_extract, List.extract_eq_take_drop]; congr 1; omega
      rw [e]; exact (h1.drop off).take _
    · intro x hx
      rw [Array.toList_extract, List.extract_eq_take_drop] at hx
      exact h2 x (List.mem_of_mem_drop (List.mem_of_mem_take hx))
    · unfold part
      simp only [Sem.run_bind, run_agg hd, ha, Result.andThen_ok, if_true, run_size hi, Sem.run_pure]
  | false =>
    rw [ha] at g
    obtain ⟨v, hv, g⟩ := oneOf_ok g
    rw [kidx_eq, List.getElem?_drop] at hv
    refine ⟨v, g, fun φ arr h1 h2 => ?_⟩
    obtain ⟨u, hu, hr⟩ := h1.get hv
    refine ⟨u, hr, fun w => ?_⟩
    unfold part
    have hu' : arr[off]? = some u := by simpa using hu
    simp only [Sem.run_bind, run_agg hd, ha, Result.andThen_ok, Bool.false_eq_true, if_false, hu', Sem.run_pure]

/-- what the evaluator says of two values is what == says, at any depth that is enough -/
def EqSays (E : Env) (d : Nat) (t : TypeId) (x y : AV) (r : Bool) : Prop :=
  ∀ (φ : Loc) (u v : Value), VR E φ x u → VR E φ y v → ∀ m, d ≤ m → Hands E.P (Op.equalIn m t u v) r

def EqsOk (E : Env) (d : Nat) (self : Eqs) : Prop :=
  ∀ (t : TypeId) (x y : AV) (K : Bool → Out) (e : Ex) (ts : Tm) (h : Hs) (c : Nat), self t x y K = .ok e ts h c → ∃ r, K r = .ok e ts h c ∧ EqSays E d t x y r

theorem eqFields_ok {E : Env} (T : TabOk E) {d : Nat} {self : Eqs} (S : EqsOk E d self) {xs ys : List AV} {e : Ex} {ts : Tm} {h : Hs} {c : Nat} : ∀ (fs : List Field) (K : Bool → Out), AE.eqFields E self xs ys fs K = .ok e ts h c →
    ∃ r, K r = .ok e ts h c ∧ ∀ (φ : Loc) (ax ay : Array Value), VRL E φ xs ax.toList → (∀ x ∈ ax.toList, one x = true) → VRL E φ ys ay.toList → (∀ x ∈ ay.toList, one x = true) → ∀ m, d ≤ m → Hands E.P (Op.eqFields m ax ay fs) r
  | [], K, g => ⟨true, g, fun φ ax ay _ _ _ _ m _ w => by simp [Op.eqFields]⟩
  | f :: fs, K, g => by
    have g' : (Bool.rec (motive := fun _ => Out) (eqField E self xs ys f fun r => Bool.rec (motive := fun _ => Out) (K false) (AE.eqFields E self xs ys fs K) r) (AE.eqFields E self xs ys fs K) (f.name == "_") : Out) = .ok e ts h c := g
    cases hn : (f.name == "_") with
    | true =>
      rw [hn] at g'
      obtain ⟨r, hr, hs⟩ := eqFields_ok T S fs K g'
      refine ⟨r, hr, fun φ ax ay h1 h2 h3 h4 m hm w => ?_⟩
      have : ¬ (f.name ≠ "_") := by simpa using hn
      simp only [Op.eqFields, this, if_false]
      exact hs φ ax ay h1 h2 h3 h4 m hm w
    | false =>
      rw [hn] at g'
      have g2 : eqField E self xs ys f (fun r => Bool.rec (motive := fun _ => Out) (K false) (AE.eqFields E self xs ys fs K) r) = .ok e ts h c := g'
      unfold eqField at g2
      obtain ⟨a, g2, ha⟩ := partOf_ok T g2
      obtain ⟨b, g2, hb⟩ := partOf_ok T g2
      obtain ⟨r, g2, hs⟩ := S _ _ _ _ _ _ _ _ g2
      have hne : f.name ≠ "_" := by simpa using hn
      cases r with
      | false =>
        refine ⟨false, g2, fun φ ax ay h1 h2 h3 h4 m hm w => ?_⟩
        obtain ⟨u, hu, ru⟩ := ha φ ax h1 h2
        obtain ⟨v, hv, rv⟩ := hb φ ay h3 h4
        have re := hs φ u v hu hv m hm
        simp only [Op.eqFields, hne, ne_eq, not_false_eq_true, if_true, Sem.run_bind, ru w, rv w, re w, Result.andThen_ok, Bool.not_false, Sem.run_pure]
      | true =>
        obtain ⟨r, hr, hs2⟩ := eqFields_ok T S fs K g2
        refine ⟨r, hr, fun φ ax ay h1 h2 h3 h4 m hm w => ?_⟩
        obtain ⟨u, hu, ru⟩ := ha φ ax h1 h2
        obtain ⟨v, hv, rv⟩ := hb φ ay h3 h4
        have re := hs φ u v hu hv m hm
        simp only [Op.eqFields, hne, ne_eq, not_false_eq_true, if_true, Sem.run_bind, ru w, rv w, re w, Result.andThen_ok, Bool.not_true, Bool.false_eq_true, if_false]
        exact hs2 φ ax ay h1 h2 h3 h4 m hm w

theorem eqD_ok {E : Env} (T : TabOk E) {d : Nat} {self : Eqs} (S : EqsOk E d self) {t : TypeId} {x y : AV} {K : Bool → Out} {D : TypeDesc} {e : Ex} {ts : Tm} {h : Hs} {c : Nat} (hD : E.P.underlying t = some D)
    (g : eqD E self t x y K D = .ok e ts h c) : ∃ r, K r = .ok e ts h c ∧ EqSays E (d + 1) t x y r := by
  have depth : ∀ m, d + 1 ≤ m → ∃ k, m = k + 1 ∧ d ≤ k := fun m hm => ⟨m - 1, by omega, by omega⟩
  cases D <;> simp only [eqD] at g
  case bool =>
    cases x <;> simp only [eqBool] at g <;> try cases g
    cases y <;> simp only at g <;> try cases g
    rename_i a b
    refine ⟨_, g, fun φ u v hu hv m hm => ?_⟩
    obtain ⟨k, rfl, _⟩ := depth m hm
    simp only [VR] at hu hv; subst hu hv
    intro w
    rw [run_equalIn_bool w k t a b hD]
    cases a <;> cases b <;> rfl
  case int k' =>
    cases x <;> simp only [eqInt] at g <;> try cases g
    cases y <;> simp only at g <;> try cases g
    obtain ⟨hk, g2⟩ := guardB_ok g
    have hk := (ikEq_iff _ _).1 hk
    subst hk
    refine ⟨_, g2, fun φ u v hu hv m hm => ?_⟩
    obtain ⟨k, rfl, _⟩ := depth m hm
    simp only [VR] at hu hv; subst hu hv
    intro w
    rw [intEq_eq]; exact run_equalIn_int w k t _ _ _ _ hD
  case string =>
    cases x <;> simp only [eqStr] at g <;> try cases g
    cases y <;> simp only at g <;> try cases g
    refine ⟨_, g, fun φ u v hu hv m hm => ?_⟩
    obtain ⟨k, rfl, _⟩ := depth m hm
    simp only [VR] at hu hv; subst hu hv
    intro w
    rw [strEq_eq, run_equalIn_string w k t _ _ hD]
    simp [ByteArray.toList_eq]
  case pointer el =>
    obtain ⟨i, hi, g⟩ := size_ok T g
    obtain ⟨h0, g⟩ := guardB_ok g
    have h0 := Nat.blt_eq.mp h0
    cases x <;> simp only [eqPtr] at g <;> try cases g
    · cases y <;> simp only at g <;> try cases g
      · refine ⟨_, g, fun φ u v hu hv m hm => ?_⟩
        obtain ⟨k, rfl, _⟩ := depth m hm
        simp only [VR] at hu hv; subst hu hv
        intro w; simp [Op.equalIn, run_und hD]
      · refine ⟨_, g, fun φ u v hu hv m hm => ?_⟩
        obtain ⟨k, rfl, _⟩ := depth m hm
        simp only [VR] at hu hv; subst hu; obtain ⟨B, N, _, hv⟩ := hv; subst hv
        intro w; simp [Op.equalIn, run_und hD]
    · cases y <;> simp only at g <;> try cases g
      · refine ⟨_, g, fun φ u v hu hv m hm => ?_⟩
        obtain ⟨k, rfl, _⟩ := depth m hm
        simp only [VR] at hu hv; subst hv; obtain ⟨B, N, _, hu⟩ := hu; subst hu
        intro w; simp [Op.equalIn, run_und hD]
      · obtain ⟨hb, g2⟩ := guardB_ok g
        have hb := Nat.eq_of_beq_eq_true hb
        subst hb
        refine ⟨_, g2, fun φ u v hu hv m hm => ?_⟩
        obtain ⟨k, rfl, _⟩ := depth m hm
        simp only [VR] at hu hv
        obtain ⟨B, N, e1, hu⟩ := hu
        obtain ⟨B', N', e2, hv⟩ := hv
        rw [e1] at e2; cases e2
        subst hu hv
        rename_i i1 b1 i2
        intro w
        have hne : i.size ≠ 0 := by omega
        simp only [Op.equalIn, Sem.run_bind, run_und hD, Result.andThen_ok, run_size hi, ne_eq, hne, not_false_eq_true, if_true, sameAddr, beq_self_eq_true, Sem.run_pure]
        congr 1
        rw [Bool.eq_iff_iff]; simp
  case slice el =>
    cases x <;> simp only [eqSl] at g <;> try cases g
    · cases y <;> simp only at g <;> try cases g
      · refine ⟨_, g, fun φ u v hu hv m hm => ?_⟩
        obtain ⟨k, rfl, _⟩ := depth m hm
        simp only [VR] at hu hv; subst hu hv
        intro w; simp [Op.equalIn, run_und hD]
      · refine ⟨_, g, fun φ u v hu hv m hm => ?_⟩
        obtain ⟨k, rfl, _⟩ := depth m hm
        simp only [VR] at hu hv; subst hu; obtain ⟨_, _, _, _, _, hv, _⟩ := hv; subst hv
        intro w; simp [Op.equalIn, run_und hD]
    · cases y <;> simp only at g <;> try cases g
      refine ⟨_, g, fun φ u v hu hv m hm => ?_⟩
      obtain ⟨k, rfl, _⟩ := depth m hm
      simp only [VR] at hu hv; subst hv; obtain ⟨_, _, _, _, _, hu, _⟩ := hu; subst hu
      intro w; simp [Op.equalIn, run_und hD]
  case map ke el =>
    cases x <;> simp only [eqMap] at g <;> try cases g
    · cases y <;> simp only at g <;> try cases g
      · refine ⟨_, g, fun φ u v hu hv m hm => ?_⟩
        obtain ⟨k, rfl, _⟩ := depth m hm
        simp only [VR] at hu hv; subst hu hv
        intro w; simp [Op.equalIn, run_und hD]
      · refine ⟨_, g, fun φ u v hu hv m hm => ?_⟩
        obtain ⟨k, rfl, _⟩ := depth m hm
        simp only [VR] at hu hv; subst hu; obtain ⟨_, _, _, hv⟩ := hv; subst hv
        intro w; simp [Op.equalIn, run_und hD]
    · cases y <;> simp only at g <;> try cases g
      refine ⟨_, g, fun φ u v hu hv m hm => ?_⟩
      obtain ⟨k, rfl, _⟩ := depth m hm
      simp only [VR] at hu hv; subst hv; obtain ⟨_, _, _, hu⟩ := hu; subst hu
      intro w; simp [Op.equalIn, run_und hD]
  case func a1 a2 a3 =>
    cases x <;> simp only [eqFn] at g <;> try cases g
    · cases y <;> simp only at g <;> try cases g
      refine ⟨_, g, fun φ u v hu hv m hm => ?_⟩
      obtain ⟨k, rfl, _⟩ := depth m hm
      simp only [VR] at hu hv; subst hv; obtain ⟨_, _, _, hu, _⟩ := hu; subst hu
      intro w; simp [Op.equalIn, run_und hD]
    · cases y <;> simp only at g <;> try cases g
      · refine ⟨_, g, fun φ u v hu hv m hm => ?_⟩
        obtain ⟨k, rfl, _⟩ := depth m hm
        simp only [VR] at hu hv; subst hu; obtain ⟨_, _, _, hv, _⟩ := hv; subst hv
        intro w; simp [Op.equalIn, run_und hD]
      · refine ⟨_, g, fun φ u v hu hv m hm => ?_⟩
        obtain ⟨k, rfl, _⟩ := depth m hm
        simp only [VR] at hu hv; subst hu hv
        intro w; simp [Op.equalIn, run_und hD]
  case interface ms =>
    cases x <;> simp only [eqIf] at g <;> try cases g
    · cases y <;> simp only at g <;> try cases g
      refine ⟨_, g, fun φ u v hu hv m hm => ?_⟩
      obtain ⟨k, rfl, _⟩ := depth m hm
      simp only [VR] at hu hv; subst hv; obtain ⟨_, hu, _⟩ := hu; subst hu
      intro w; simp [Op.equalIn, run_und hD]
    · cases y <;> simp only at g <;> try cases g
      refine ⟨_, g, fun φ u v hu hv m hm => ?_⟩
      obtain ⟨k, rfl, _⟩ := depth m hm
      simp only [VR] at hu hv; subst hu; obtain ⟨_, hv, _⟩ := hv; subst hv
      intro w; simp [Op.equalIn, run_und hD]
  case struct fs =>
    obtain ⟨hp, g⟩ := guardB_ok g
    rw [bnot_eq] at hp
    have hp : E.P.stoodInHeld t = false := by simpa using hp
    obtain ⟨xs, ex, g2⟩ := aggOf_ok g
    obtain ⟨ys, ey, g3⟩ := aggOf_ok g2
    subst ex ey
    obtain ⟨r, hr, hs⟩ := eqFields_ok T S _ _ g3
    refine ⟨r, hr, fun φ u v hu hv m hm => ?_⟩
    obtain ⟨k, rfl, hk⟩ := depth m hm
    obtain ⟨ax, rfl, h1, h2⟩ := hu
    obtain ⟨ay, rfl, h3, h4⟩ := hv
    have hf : E.P.fieldsOf t = fs := by simp [Program.fieldsOf, hD]
    intro w
    rw [run_equalIn_struct w k t ax ay (by rw [hf]; exact hD) hp, hf]
    exact hs φ ax ay h1 h2 h3 h4 k hk w
  all_goals cases g

theorem eqF_ok {E : Env} (T : TabOk E) : ∀ n, EqsOk E n (eqF E n)
  | 0 => fun _ _ _ _ _ _ _ _ g => by cases g
  | n + 1 => fun t x y K e ts h c g => by
    obtain ⟨D, hD, g⟩ := und_ok (K := eqD E (eqF E n) t x y K) T g
    exact eqD_ok T (eqF_ok T n) hD g

/-- == and != -/
theorem eqTop_ok {E : Env} (T : TabOk E) {t : TypeId} {x y : AV} {K : Bool → Out} {D : TypeDesc} {e : Ex} {ts : Tm} {h : Hs} {c : Nat} (hD : E.P.underlying t = some D)
    (g : eqTop E t x y K D = .ok e ts h c) : ∃ r, K r = .ok e ts h c ∧ (∀ (φ : Loc) (u v : Value), VR E φ x u → VR E φ y v → Hands E.P (Op.equal t u v) r) ∧
      (E.P.eqGuardType E.P.depth t = false ∨ ∃ ms, D = .interface ms) ∧ ∃ K', eqF E 20 t x y K' = .ok e ts h c := by
  have main : ∀ {K' : Bool → Out}, eqF E 20 t x y K' = .ok e ts h c → ∃ r, K' r = .ok e ts h c ∧ ∀ (φ : Loc) (u v : Value), VR E φ x u → VR E φ y v → Hands E.P (Op.equal t u v) r := fun g => by
    obtain ⟨r, hr, hs⟩ := eqF_ok T 20 _ _ _ _ _ _ _ _ g
    exact ⟨r, hr, fun φ u v hu hv w => hs φ u v hu hv Op.maxDepth (by unfold Op.maxDepth; omega) w⟩
  cases D <;> simp only [eqTop] at g
  case interface ms =>
    obtain ⟨r, hr, hs⟩ := main g
    exact ⟨r, by rw [forceB_eq] at hr; exact hr, hs, .inr ⟨ms, rfl⟩, _, g⟩
  all_goals
    obtain ⟨hg, g⟩ := guardB_ok g
    rw [bnot_eq] at hg
    obtain ⟨r, hr, hs⟩ := main g
    exact ⟨r, by rw [forceB_eq] at hr; exact hr, hs, .inl (by simpa using hg), _, g⟩
end Go.AE
namespace Go.AE

def Good (E : Env) (φ : Loc) (o : Oper) (a : Act) (K : Kc) (e : Ex) (ts : Tm) (h : Hs) (c : Nat) : Prop := ∃ cmd, K cmd = .ok e ts h c ∧ CmdOk E φ o a cmd

theorem runs_of {P : Program} {o : Oper} {a : Act} {s : Sem Value} {u : Value} (he : execOp a.eval o = (do pure (Next.value (← s)))) (hs : Hands P s u) (w : World) : Runs P o a w u w := by
  left; rw [he]; simp [hs w]
theorem good_val {E : Env} {φ : Loc} {o : Oper} {a : Act} {K : Kc} {e : Ex} {ts : Tm} {h : Hs} {c : Nat} {v : AV} {u : Value} {s : Sem Value} (g : K (.val v) = .ok e ts h c) (hv : VR E φ v u)
    (he : execOp a.eval o = (do pure (Next.value (← s)))) (hs : Hands E.P s u) : Good E φ o a K e ts h c := ⟨_, g, u, hv, fun w => runs_of he hs w⟩

section
variable {E : Env} {φ : Loc} {o : Oper} {a : Act} {ts : Tm} {K : Kc} {e : Ex} {ts' : Tm} {h : Hs} {c : Nat}

theorem ok_move (ht : TR E φ ts a.tmps) {x : Operand} (ho : o.op = .move x ∨ o.op = .assign x) (g : cMove x E ts K = .ok e ts' h c) : Good E φ o a K e ts' h c :=
  ⟨_, g, a.eval x, eval_VR ht x, fun w => .inl (by rcases ho with ho | ho <;> simp [execOp, ho])⟩

theorem ok_pick (ht : TR E φ ts a.tmps) {x y z : Operand} (ho : o.op = .pick x y z) (g : cPick x y z E ts K = .ok e ts' h c) : Good E φ o a K e ts' h c := by
  unfold cPick knownB at g
  have hx := eval_VR ht x
  cases hb : evalO x ts <;> rw [hb] at g hx <;> try (cases g; done)
  rename_i b
  have g : forceB b (fun t => K (.val (pickV (evalO y ts) (evalO z ts) t))) = .ok e ts' h c := g
  rw [forceB_eq] at g
  simp only [VR] at hx
  refine ⟨_, g, if b then a.eval y else a.eval z, ?_, fun w => .inl (by simp [execOp, ho, asBool, hx])⟩
  cases b
  · exact eval_VR ht z
  · exact eval_VR ht y

theorem ok_nilCheck (ht : TR E φ ts a.tmps) {x : Operand} (ho : o.op = .nilCheck x) (g : cNilCheck x E ts K = .ok e ts' h c) : Good E φ o a K e ts' h c := by
  unfold cNilCheck at g
  obtain ⟨hn, g⟩ := guardB_ok g
  have hx := eval_VR ht x
  refine ⟨_, g, a.eval x, hx, fun w => .inl ?_⟩
  unfold execOp; rw [ho]
  cases hb : evalO x ts <;> rw [hb] at hx hn <;> try (cases hn; done)
  · simp only [VR] at hx; obtain ⟨B, N, _, hx⟩ := hx; simp [hx]
  · rename_i f l m
    simp only [VR] at hx; obtain ⟨f', l', m', hx, hf, _, _⟩ := hx
    cases f <;> try (cases hn; done)
    · have hf' : f' = _ := hf; subst hf'; simp [hx]
    · obtain ⟨B, N, _, hf⟩ := hf; subst hf; simp [hx]
  · simp only [VR] at hx; obtain ⟨u, hx, _⟩ := hx; simp [hx]

/-! ### two operands -/
def Known (x : AV) : Bool := match x with | .any => false | .raw _ => false | .sym _ => false | _ => true
theorem Known.nili {x : AV} (k : Known x = true) {u : Value} (h : VR E φ x u) (hu : u = .nilIface) : x = .nili := by
  subst hu
  cases x <;> simp only [VR] at h <;> first
    | rfl
    | (cases k; done)
    | (cases h; done)
    | (obtain ⟨_, _, _, _, _, h, _⟩ := h; cases h; done)
    | (obtain ⟨_, _, _, h⟩ := h; cases h; done)
    | (obtain ⟨_, _, _, h, _⟩ := h; cases h; done)
    | (obtain ⟨_, h, _⟩ := h; cases h; done)

theorem eqPtr_known {x y : AV} {K : Bool → Out} (g : eqPtr x y K = .ok e ts h c) : Known x = true ∧ x ≠ .nili := by
  cases x <;> first | (cases g; done) | exact ⟨rfl, fun h => by cases h⟩
theorem eqSl_known {x y : AV} {K : Bool → Out} (g : eqSl x y K = .ok e ts h c) : Known x = true ∧ x ≠ .nili := by
  cases x <;> first | (cases g; done) | exact ⟨rfl, fun h => by cases h⟩
theorem eqMap_known {x y : AV} {K : Bool → Out} (g : eqMap x y K = .ok e ts h c) : Known x = true ∧ x ≠ .nili := by
  cases x <;> first | (cases g; done) | exact ⟨rfl, fun h => by cases h⟩
theorem eqFn_known {x y : AV} {K : Bool → Out} (g : eqFn x y K = .ok e ts h c) : Known x = true ∧ x ≠ .nili := by
  cases x <;> first | (cases g; done) | exact ⟨rfl, fun h => by cases h⟩
theorem eqInt_known {x y : AV} {K : Bool → Out} (g : eqInt x y K = .ok e ts h c) : Known x = true ∧ x ≠ .nili := by
  cases x <;> first | (cases g; done) | exact ⟨rfl, fun h => by cases h⟩
theorem eqStr_known {x y : AV} {K : Bool → Out} (g : eqStr x y K = .ok e ts h c) : Known x = true ∧ x ≠ .nili := by
  cases x <;> first | (cases g; done) | exact ⟨rfl, fun h => by cases h⟩
theorem eqBool_known {x y : AV} {K : Bool → Out} (g : eqBool x y K = .ok e ts h c) : Known x = true ∧ x ≠ .nili := by
  cases x <;> first | (cases g; done) | exact ⟨rfl, fun h => by cases h⟩
theorem eqIf_known {x y : AV} {K : Bool → Out} (g : eqIf x y K = .ok e ts h c) : Known x = true ∧ Known y = true ∧ (x ≠ .nili ∨ y ≠ .nili) := by
  cases x <;> try (cases g; done)
  · cases y <;> first | (cases g; done) | exact ⟨rfl, rfl, .inl fun h => by cases h⟩
  · cases y <;> first | (cases g; done) | exact ⟨rfl, rfl, .inr fun h => by cases h⟩

/-- both are never nil interfaces -/
theorem eqF_known (T : TabOk E) {n : Nat} {t : TypeId} {x y : AV} {K : Bool → Out} (g : eqF E n t x y K = .ok e ts h c) {u v : Value} (hu : VR E φ x u) (hv : VR E φ y v) : ¬ (u = .nilIface ∧ v = .nilIface) := by
  rintro ⟨rfl, rfl⟩
  cases n with
  | zero => cases g
  | succ n =>
    obtain ⟨D, _, g⟩ := und_ok (K := eqD E (eqF E n) t x y K) T g
    have one : (Known x = true ∧ x ≠ .nili) → False := fun ⟨h1, h2⟩ => h2 (Known.nili h1 hu rfl)
    cases D <;> simp only [eqD] at g <;> try (cases g; done)
    · exact one (eqBool_known g)
    · exact one (eqInt_known g)
    · exact one (eqStr_known g)
    · obtain ⟨i, _, g⟩ := size_ok T g
      obtain ⟨_, g⟩ := guardB_ok g
      exact one (eqPtr_known g)
    · exact one (eqSl_known g)
    · exact one (eqMap_known g)
    · obtain ⟨_, g⟩ := guardB_ok g
      obtain ⟨xs, ex, _⟩ := aggOf_ok g
      subst ex
      obtain ⟨_, h, _⟩ := hu; cases h
    · exact one (eqFn_known g)
    · obtain ⟨h1, h2, h3⟩ := eqIf_known g
      rcases h3 with h3 | h3
      · exact h3 (Known.nili h1 hu rfl)
      · exact h3 (Known.nili h2 hv rfl)

theorem eqF_kx (T : TabOk E) {n : Nat} {t : TypeId} {x y : AV} {K : Bool → Out} (g : eqF E n t x y K = .ok e ts h c) : Known x = true := by
  cases n with
  | zero => cases g
  | succ n =>
    obtain ⟨D, _, g⟩ := und_ok (K := eqD E (eqF E n) t x y K) T g
    cases D <;> simp only [eqD] at g <;> try (cases g; done)
    · exact (eqBool_known g).1
    · exact (eqInt_known g).1
    · exact (eqStr_known g).1
    · obtain ⟨i, _, g⟩ := size_ok T g
      obtain ⟨_, g⟩ := guardB_ok g
      exact (eqPtr_known g).1
    · exact (eqSl_known g).1
    · exact (eqMap_known g).1
    · obtain ⟨_, g⟩ := guardB_ok g
      obtain ⟨xs, ex, _⟩ := aggOf_ok g
      subst ex; rfl
    · exact (eqFn_known g).1
    · exact (eqIf_known g).1
theorem eqF_iface (T : TabOk E) {n : Nat} {t : TypeId} {ms : Array (String × TypeId)} (ht : E.P.underlying t = some (.interface ms)) {x y : AV} {K : Bool → Out} (g : eqF E n t x y K = .ok e ts h c) : ∀ l, x ≠ .agg l := by
  cases n with
  | zero => cases g
  | succ n =>
    obtain ⟨D, hD, g⟩ := und_ok (K := eqD E (eqF E n) t x y K) T g
    rw [ht] at hD; cases hD
    rintro l rfl
    cases g
/-- what a known value may be -/
theorem Known.agg {x : AV} (k : Known x = true) {u : Value} (h : VR E φ x u) {arr : Array Value} (hu : u = .agg arr) : ∃ l, x = .agg l := by
  subst hu
  cases x <;> simp only [VR] at h <;> first
    | exact ⟨_, rfl⟩
    | (cases k; done)
    | (cases h; done)
    | (obtain ⟨_, _, _, _, _, h, _⟩ := h; cases h; done)
    | (obtain ⟨_, _, _, h⟩ := h; cases h; done)
    | (obtain ⟨_, _, _, h, _⟩ := h; cases h; done)
    | (obtain ⟨_, h, _⟩ := h; cases h; done)
theorem Known.plain {x : AV} (k : Known x = true) (h1 : ∀ k n, x ≠ .int k n) (h2 : ∀ s, x ≠ .str s) {u : Value} (h : VR E φ x u) :
    (∀ k n, u ≠ .int k n) ∧ (∀ s, u ≠ .string s) ∧ (∀ k n, u ≠ .float k n) ∧ ∀ k n m, u ≠ .complex k n m := by
  have fin : ∀ {v : Value}, u = v → (∀ k n, v ≠ .int k n) → (∀ s, v ≠ .string s) → (∀ k n, v ≠ .float k n) → (∀ k n m, v ≠ .complex k n m) →
      (∀ k n, u ≠ .int k n) ∧ (∀ s, u ≠ .string s) ∧ (∀ k n, u ≠ .float k n) ∧ ∀ k n m, u ≠ .complex k n m := fun e a b c d => e ▸ ⟨a, b, c, d⟩
  cases x <;> simp only [VR] at h <;> first
    | (cases k; done)
    | exact absurd rfl (h1 _ _)
    | exact absurd rfl (h2 _)
    | exact fin h (by simp) (by simp) (by simp) (by simp)
    | (obtain ⟨_, _, _, _, _, h, _⟩ := h; exact fin h (by simp) (by simp) (by simp) (by simp))
    | (obtain ⟨_, _, _, h, _⟩ := h; exact fin h (by simp) (by simp) (by simp) (by simp))
    | (obtain ⟨_, _, _, h⟩ := h; exact fin h (by simp) (by simp) (by simp) (by simp))
    | (obtain ⟨_, h, _⟩ := h; exact fin h (by simp) (by simp) (by simp) (by simp))
theorem binOp_eql (t : TypeId) {u v : Value} (h1 : ∀ k n, u ≠ .int k n) (h2 : ∀ s, u ≠ .string s) (h3 : ∀ k n, u ≠ .float k n) (h4 : ∀ k n m, u ≠ .complex k n m) :
    binOp .eql t u v = (do pure (.bool (← Op.equal t u v))) ∧ binOp .neq t u v = (do pure (.bool (!(← Op.equal t u v)))) := by
  cases u <;> first
    | exact absurd rfl (h1 _ _)
    | exact absurd rfl (h2 _)
    | exact absurd rfl (h3 _ _)
    | exact absurd rfl (h4 _ _ _)
    | exact ⟨rfl, rfl⟩

theorem eqGuard_int (P : Program) (op : BinOp) (t : TypeId) (x y : Operand) (k k' : IntKind) (m n : Int) : Hands P (eqGuard op t x y (.int k m) (.int k' n)) () := by
  intro w; unfold eqGuard; cases op <;> simp
theorem eqGuard_str (P : Program) (op : BinOp) (t : TypeId) (x y : Operand) (m n : ByteArray) : Hands P (eqGuard op t x y (.string m) (.string n)) () := by
  intro w; unfold eqGuard; cases op <;> simp
theorem eqGuard_ok {P : Program} {op : BinOp} {t : TypeId} {x y : Operand} {u v : Value} (h1 : ¬ (u = .nilIface ∧ v = .nilIface)) (h2 : (∃ l m, u = .agg l ∧ v = .agg m) → P.eqGuardType P.depth t = false) :
    Hands P (eqGuard op t x y u v) () := by
  intro w
  unfold eqGuard
  cases op <;> simp only [Bool.not_true, Bool.not_false, Bool.false_eq_true, if_true, if_false, Sem.run_pure]
  all_goals
    split
    · exact absurd ⟨rfl, rfl⟩ h1
    · simp [h2 ⟨_, _, rfl, rfl⟩]
    · simp
theorem bytesLess_flip : ∀ a b : List UInt8, (!Op.bytesLess b a) = (Op.bytesLess a b || a == b)
  | [], [] => rfl
  | [], _ :: _ => rfl
  | _ :: _, [] => rfl
  | a :: x, b :: y => by
    have ih := bytesLess_flip x y
    simp only [Op.bytesLess]
    have e : (a :: x == b :: y) = (a == b && x == y) := rfl
    rw [e]
    by_cases h1 : a = b
    · subst h1
      have : ¬ a < a := by simp
      simp [this, ih]
    · have h2 : (a == b) = false := by simpa using h1
      have h3 : (b == a) = false := by simpa using fun h => h1 h.symm
      have hn : a.toNat ≠ b.toNat := fun h => h1 (UInt8.toNat_inj.1 h)
      simp only [h2, h3, Bool.false_and, Bool.or_false]
      have e1 : decide (a < b) = decide (a.toNat < b.toNat) := by simp [UInt8.lt_iff_toNat_lt]
      have e2 : decide (b < a) = decide (b.toNat < a.toNat) := by simp [UInt8.lt_iff_toNat_lt]
      rw [e1, e2, Bool.eq_iff_iff]
      simp; omega

theorem binS_ok {op : BinOp} {x y : List UInt8} {K : AV → Out} (g : binS op x y K = .ok e ts h c) :
    ∃ v u, K v = .ok e ts h c ∧ (∀ E φ, VR E φ v u) ∧ ∀ (P : Program) (t : TypeId), Hands P (binOp op t (.string ⟨x.toArray⟩) (.string ⟨y.toArray⟩)) u := by
  have bool : ∀ (n : Bool) (E : Env) (φ : Loc), VR E φ (.bool n) (.bool n) := fun n E φ => rfl
  have tl : ∀ l : List UInt8, (⟨l.toArray⟩ : ByteArray).toList = l := fun l => by rw [ByteArray.toList_eq]
  cases op <;> simp only [binS] at g <;> try (cases g; done)
  case add =>
    obtain ⟨hn, g⟩ := guardB_ok g
    have hn := Nat.blt_eq.mp hn
    rw [lenL_eq, lenL_eq] at hn
    refine ⟨_, .string ⟨(x ++ y).toArray⟩, g, fun E φ => by rw [appL_eq]; rfl, fun P t w => ?_⟩
    have e1 : (⟨x.toArray⟩ : ByteArray).size = x.length := rfl
    have e2 : (⟨y.toArray⟩ : ByteArray).size = y.length := rfl
    have h3 : ¬ (((x.length + y.length : Nat) : Int) > IntKind.i64.max) := by
      have hn' : x.length + y.length < 4294967296 := hn
      have : IntKind.i64.max = 9223372036854775807 := by decide
      rw [this]; omega
    have e3 : (⟨x.toArray⟩ : ByteArray) ++ ⟨y.toArray⟩ = ⟨(x ++ y).toArray⟩ := by
      apply ByteArray.ext; rw [ByteArray.data_append]; simp
    simp only [binOp, Op.stringOp, e1, e2, h3, if_false, Sem.run_pure, e3]
  case eql => exact ⟨_, _, g, bool _, fun P t w => by simp [binOp, Op.stringOp, tl, strEq_eq]⟩
  case neq => exact ⟨_, _, g, bool _, fun P t w => by simp [binOp, Op.stringOp, tl, strEq_eq, bnot_eq]⟩
  case lss => exact ⟨_, _, g, bool _, fun P t w => by simp [binOp, Op.stringOp, tl, strLt_eq]⟩
  case geq => exact ⟨_, _, g, bool _, fun P t w => by simp [binOp, Op.stringOp, tl, strLt_eq, bnot_eq]⟩
  case leq => exact ⟨_, _, g, bool _, fun P t w => by simp [binOp, Op.stringOp, tl, strLt_eq, bnot_eq, bytesLess_flip]⟩
  case gtr => exact ⟨_, _, g, bool _, fun P t w => by simp [binOp, Op.stringOp, tl, strLt_eq, ← bytesLess_flip]⟩
end
end Go.AE
namespace Go.AE
section
variable {E : Env} {φ : Loc} {o : Oper} {a : Act} {ts : Tm} {K : Kc} {e : Ex} {ts' : Tm} {h : Hs} {c : Nat}

theorem binE_ok (T : TabOk E) {op : BinOp} {t : TypeId} {x y : AV} {K : AV → Out} (h1 : ∀ k n, x ≠ .int k n) (h2 : ∀ s, x ≠ .str s) (g : binE op E t x y K = .ok e ts' h c) :
    ∃ r, K (.bool r) = .ok e ts' h c ∧ ∀ (φ : Loc) (u v : Value), VR E φ x u → VR E φ y v → ∀ ox oy, Hands E.P (do eqGuard op t ox oy u v; binOp op t u v) (.bool r) := by
  have main : ∀ {D : TypeDesc} {K' : Bool → Out}, E.P.underlying t = some D → eqTop E t x y K' D = .ok e ts' h c → ∃ r, K' r = .ok e ts' h c ∧
      ∀ (φ : Loc) (u v : Value), VR E φ x u → VR E φ y v → Hands E.P (Op.equal t u v) r ∧ (∀ op ox oy, Hands E.P (eqGuard op t ox oy u v) ()) ∧
        binOp .eql t u v = (do pure (.bool (← Op.equal t u v))) ∧ binOp .neq t u v = (do pure (.bool (!(← Op.equal t u v)))) := by
    intro D K' hD g
    obtain ⟨r, g, hs, hst, K2, g2⟩ := eqTop_ok T hD g
    refine ⟨r, g, fun φ u v hu hv => ⟨hs φ u v hu hv, fun op ox oy => ?_, ?_⟩⟩
    · refine eqGuard_ok (eqF_known T g2 hu hv) ?_
      rintro ⟨l, m, e1, _⟩
      rcases hst with hst | ⟨ms, rfl⟩
      · exact hst
      · obtain ⟨l', hx⟩ := (eqF_kx T g2 |> fun k => Known.agg k hu e1)
        exact absurd hx (eqF_iface T hD g2 l')
    · obtain ⟨a1, a2, a3, a4⟩ := Known.plain (eqF_kx T g2) h1 h2 hu
      exact binOp_eql t a1 a2 a3 a4
  cases op <;> simp only [binE] at g <;> try (cases g; done)
  case eql =>
    obtain ⟨D, hD, g⟩ := und_ok T g
    obtain ⟨r, g, hs⟩ := main hD g
    refine ⟨r, g, fun φ u v hu hv ox oy w => ?_⟩
    obtain ⟨s1, s2, s3, s4⟩ := hs φ u v hu hv
    simp only [Sem.run_bind, s2 .eql ox oy w, Result.andThen_ok, s3, s1 w, Sem.run_pure]
  case neq =>
    obtain ⟨D, hD, g⟩ := und_ok T g
    obtain ⟨r, g, hs⟩ := main hD g
    refine ⟨bnot r, g, fun φ u v hu hv ox oy w => ?_⟩
    obtain ⟨s1, s2, s3, s4⟩ := hs φ u v hu hv
    simp only [Sem.run_bind, s2 .neq ox oy w, Result.andThen_ok, s4, s1 w, Sem.run_pure, bnot_eq]

theorem ok_bin (T : TabOk E) (ht : TR E φ ts a.tmps) {op : BinOp} {t u : TypeId} {x y : Operand} (ho : o.op = .binOp op t x y u) (g : cBin op t x y E ts K = .ok e ts' h c) : Good E φ o a K e ts' h c := by
  have he : execOp a.eval o = (do pure (Next.value (← (do eqGuard op t x y (a.eval x) (a.eval y); binOp op t (a.eval x) (a.eval y) : Sem Value)))) := by unfold execOp; rw [ho]
  have hx := eval_VR ht x
  have hy := eval_VR ht y
  unfold cBin bin at g
  split at g
  · rename_i k m hxe
    rw [hxe] at hx; simp only [VR] at hx
    split at g
    · rename_i k' n hye
      rw [hye] at hy; simp only [VR] at hy
      obtain ⟨v, u, g, hv, hr⟩ := binI_ok g
      refine good_val g (hv E φ) he (fun w => ?_)
      rw [hx, hy]
      simp only [Sem.run_bind, eqGuard_int E.P op t x y k k' m n w, Result.andThen_ok, hr E.P t w]
    · cases g
  · rename_i s hxe
    rw [hxe] at hx; simp only [VR] at hx
    split at g
    · rename_i s' hye
      rw [hye] at hy; simp only [VR] at hy
      obtain ⟨v, u, g, hv, hr⟩ := binS_ok g
      refine good_val g (hv E φ) he (fun w => ?_)
      rw [hx, hy]
      simp only [Sem.run_bind, eqGuard_str E.P op t x y _ _ w, Result.andThen_ok, hr E.P t w]
    · cases g
  · rename_i i hxe
    rw [hxe] at hx; simp only [VR] at hx
    split at g
    · rename_i k n hye
      rw [hye] at hy; simp only [VR] at hy
      unfold factK at g
      split at g
      · rename_i r hf
        obtain ⟨k', m, hs, u, hu, hr⟩ := T.fact _ _ _ _ _ hf
        refine good_val g (hu φ) he (fun w => ?_)
        rw [hx, hy, hs]
        simp only [Sem.run_bind, eqGuard_int E.P op t x y k' k m n w, Result.andThen_ok, hr t w]
      · cases g
    · cases g
  · rename_i h1 h2 h3
    obtain ⟨r, g, hr⟩ := binE_ok T (fun k n hh => h1 k n hh) (fun s hh => h2 s hh) g
    exact good_val g rfl he (hr φ _ _ hx hy x y)

theorem ok_un (ht : TR E φ ts a.tmps) {op : UnOp} {t : TypeId} {x : Operand} (ho : o.op = .unOp op t x) (g : cUn op x E ts K = .ok e ts' h c) : Good E φ o a K e ts' h c := by
  have he : execOp a.eval o = (do pure (Next.value (← Op.unary op (a.eval x)))) := by unfold execOp; rw [ho]
  have hx := eval_VR ht x
  unfold cUn unV at g
  split at g
  · unfold notV at g
    split at g
    · rename_i b hb; rw [hb] at hx; simp only [VR] at hx
      exact good_val (u := .bool (!b)) g (by rw [bnot_eq]; rfl) he (fun w => by rw [hx]; simp [Op.unary])
    · cases g
  · unfold negV at g
    split at g
    · rename_i k n hb; rw [hb] at hx; simp only [VR] at hx
      exact good_val (u := .int k (k.wrap (0 - n))) g (by rw [wrapF_eq]; rfl) he (fun w => by rw [hx]; simp [Op.unary, Op.intArith])
    · cases g
  · cases g

theorem ok_iface (T : TabOk E) (ht : TR E φ ts a.tmps) {t : TypeId} {x : Operand} (ho : o.op = .makeInterface t x) (g : cIface t x E ts K = .ok e ts' h c) : Good E φ o a K e ts' h c := by
  have he : execOp a.eval o = (do pure (Next.value (← Instr.makeInterface t (a.eval x)))) := by unfold execOp; rw [ho]
  have hx := eval_VR ht x
  unfold cIface at g
  obtain ⟨d, hd, g⟩ := und_ok T g
  have gg : K (.val (.ifc t (evalO x ts))) = .ok e ts' h c ∧ ∀ ms, d ≠ .interface ms := by
    cases d <;> first | (cases g; done) | exact ⟨g, fun _ h => by cases h⟩
  refine good_val (u := .iface t (a.eval x)) gg.1 ⟨_, rfl, hx⟩ he (fun w => ?_)
  unfold Instr.makeInterface
  simp only [Sem.run_bind, run_und hd, Result.andThen_ok]
  cases d <;> first | exact absurd rfl (gg.2 _) | rfl

theorem evalL_VRL (ht : TR E φ ts a.tmps) (l : Array Operand) : VRL E φ (evalL ts l.toList) (l.map a.eval).toList := by
  unfold evalL
  rw [mapL_eq, Array.toList_map]
  refine VRL.of_get (by simp) fun i x v hx hv => ?_
  rw [List.getElem?_map] at hx hv
  cases hl : l.toList[i]? with
  | none => rw [hl] at hx; cases hx
  | some y => rw [hl] at hx hv; cases hx; cases hv; exact eval_VR ht y

theorem ok_func (ht : TR E φ ts a.tmps) {f : Fn} {first cap : Array Operand} (ho : o.op = .makeFunc f first cap) (g : cFunc f first cap E ts K = .ok e ts' h c) : Good E φ o a K e ts' h c := by
  have he : execOp a.eval o = (do pure (Next.value (← Instr.makeFunc f (first.map a.eval) (cap.map a.eval)))) := by unfold execOp; rw [ho]
  unfold cFunc at g
  split at g
  · rename_i f
    exact good_val (u := .func (.func f) (first.map a.eval) (cap.map a.eval)) g ⟨_, _, _, rfl, rfl, evalL_VRL ht _, evalL_VRL ht _⟩ he (fun w => rfl)
  · cases g

theorem ok_extract (ht : TR E φ ts a.tmps) {x : Operand} {i : Nat} (ho : o.op = .extract x i) (g : cExtract x i E ts K = .ok e ts' h c) : Good E φ o a K e ts' h c := by
  have he : execOp a.eval o = (do pure (Next.value (← Instr.extract (a.eval x) i))) := by unfold execOp; rw [ho]
  have hx := eval_VR ht x
  unfold cExtract tupK at g
  split at g
  · rename_i l hl
    rw [hl] at hx
    obtain ⟨arr, hx, hr⟩ := hx
    obtain ⟨v, hv, g⟩ := oneOf_ok g
    rw [kidx_eq] at hv
    obtain ⟨u, hu, hvu⟩ := hr.get hv
    refine good_val g hvu he (fun w => ?_)
    have hu' : arr[i]? = some u := by simpa using hu
    rw [hx]; simp [Instr.extract, hu']
  · cases g

theorem ok_field (T : TabOk E) (ht : TR E φ ts a.tmps) {s : TypeId} {x : Operand} {f : Nat} (ho : o.op = .field s x f) (g : cField s x f E ts K = .ok e ts' h c) : Good E φ o a K e ts' h c := by
  have he : execOp a.eval o = (do pure (Next.value (← Instr.field s (a.eval x) f))) := by unfold execOp; rw [ho]
  have hx := eval_VR ht x
  unfold cField at g
  obtain ⟨l, hl, g⟩ := aggOf_ok g
  rw [hl] at hx
  obtain ⟨arr, hx, h1, h2⟩ := hx
  obtain ⟨d, hd, g⟩ := und_ok T g
  unfold structOff at g
  split at g
  · rename_i fs
    split at g
    · rename_i fd hf
      rw [kidx_eq] at hf
      obtain ⟨i, _, g⟩ := size_ok T g
      obtain ⟨v, g, hr⟩ := partOf_ok T g
      obtain ⟨u, hu, hs⟩ := hr φ arr h1 h2
      refine good_val g hu he (fun w => ?_)
      have hf' : fs[f]? = some fd := by simpa using hf
      unfold Instr.field
      simp only [Sem.run_bind, run_und hd, Result.andThen_ok, hf', hx, asAgg, Sem.run_pure, hs w]
    · cases g
  · cases g

theorem ok_fieldAddr (T : TabOk E) (ht : TR E φ ts a.tmps) {s : TypeId} {x : Operand} {f : Nat} (ho : o.op = .fieldAddr s x f) (g : cFieldAddr s x f E ts K = .ok e ts' h c) : Good E φ o a K e ts' h c := by
  have he : execOp a.eval o = (do pure (Next.value (← Instr.fieldAt s (a.eval x) f))) := by unfold execOp; rw [ho]
  have hx := eval_VR ht x
  unfold cFieldAddr at g
  obtain ⟨b, off, hl, g⟩ := ptrOf_ok g
  rw [hl] at hx
  obtain ⟨B, N, hb, hx⟩ := hx
  obtain ⟨d, hd, g⟩ := und_ok T g
  unfold structOff at g
  split at g
  · rename_i fs
    split at g
    · rename_i fd hf
      rw [kidx_eq] at hf
      obtain ⟨i, hi, g⟩ := size_ok T g
      unfold faddr at g
      obtain ⟨h0, g⟩ := guardB_ok g
      have h0 := Nat.blt_eq.mp h0
      refine good_val (u := .pointer (some ⟨B, off + fd.offset, none⟩)) g ⟨B, N, hb, rfl⟩ he (fun w => ?_)
      have hf' : fs[f]? = some fd := by simpa using hf
      have hne : ¬ i.size = 0 := by omega
      unfold Instr.fieldAt fieldPlace
      simp only [Sem.run_bind, run_und hd, Result.andThen_ok, hf', hx, Instr.sureAddr, Sem.run_pure, run_size hi, hne, if_false, add_addr]
    · cases g
  · cases g

theorem ok_indexAddr (T : TabOk E) (ht : TR E φ ts a.tmps) {t : TypeId} {x ix : Operand} (ho : o.op = .indexAddr t x ix) (g : cIndexAddr t x ix E ts K = .ok e ts' h c) : Good E φ o a K e ts' h c := by
  have he : execOp a.eval o = (do pure (Next.value (← Instr.indexAt t (a.eval x) (a.eval ix)))) := by unfold execOp; rw [ho]
  have hx := eval_VR ht x
  have hi := eval_VR ht ix
  unfold cIndexAddr at g
  obtain ⟨k, i, hie, g⟩ := natOf_ok g
  rw [hie] at hi; simp only [VR] at hi
  obtain ⟨d, hd, g⟩ := und_ok T g
  unfold ixAddr at g
  split at g
  · rename_i el
    obtain ⟨inf, hinf, g⟩ := size_ok T g
    split at g
    · rename_i b off len cap sz ex hxe
      rw [hxe] at hx
      obtain ⟨B, N, ad, cap', hb, hx, hlc, hcc, _, had, _, hsz⟩ := hx
      obtain ⟨hs, g⟩ := guardB_ok g
      have hs := Nat.eq_of_beq_eq_true hs
      obtain ⟨hlt, g⟩ := guardB_ok g
      have hlt := Nat.blt_eq.mp hlt
      refine good_val (u := .pointer (some ⟨B, off + i * sz, none⟩)) g ⟨B, N, hb, rfl⟩ he (fun w => ?_)
      unfold Instr.indexAt
      have hin : (0 : Int) ≤ (i : Int) ∧ (i : Int) < (len : Int) := by omega
      simp only [Sem.run_bind, hi, asIntOf, Sem.run_pure, run_und hd, Result.andThen_ok, hx, hin, and_self, if_true, run_size hinf, had (by omega), add_addr, hs, Int.toNat_natCast]
    · cases g
  · rename_i n el
    obtain ⟨inf, hinf, g⟩ := size_ok T g
    obtain ⟨b, off, hxe, g⟩ := ptrOf_ok g
    rw [hxe] at hx
    obtain ⟨B, N, hb, hx⟩ := hx
    obtain ⟨hlt, g⟩ := guardB_ok g
    have hlt := Nat.blt_eq.mp hlt
    refine good_val (u := .pointer (some ⟨B, off + i * inf.size, none⟩)) g ⟨B, N, hb, rfl⟩ he (fun w => ?_)
    unfold Instr.indexAt
    have hin : (0 : Int) ≤ (i : Int) ∧ (i : Int) < (n : Int) := by omega
    simp only [Sem.run_bind, hi, asIntOf, Sem.run_pure, run_und hd, Result.andThen_ok, hx, Instr.sureAddr, hin, and_self, if_true, run_size hinf, add_addr, Int.toNat_natCast]
  · cases g
end
end Go.AE
namespace Go.AE
section
variable {E : Env} {φ : Loc} {o : Oper} {a : Act} {ts : Tm} {K : Kc} {e : Ex} {ts' : Tm} {h : Hs} {c : Nat}

theorem grown_push (w : World) (x : Obj) (n : Nat) : Grown w { w with heap := w.heap.push x, drawn := n } :=
  ⟨by simp, fun B hB => by rw [Array.getElem?_push, if_neg (by omega)], rfl, rfl, rfl⟩
theorem grown_alloc (w : World) (x : Obj) : Grown w (w.alloc x) := grown_push w x w.drawn
theorem grown_drew_alloc (w : World) (x : Obj) : Grown w (w.drew.alloc x) := grown_push w x (w.drawn + 1)
theorem push_last (w : World) (x : Obj) (n : Nat) : ({ w with heap := w.heap.push x, drawn := n } : World).heap[w.heap.size]? = some x := by simp
theorem alloc_last (w : World) (x : Obj) : (w.alloc x).heap[w.heap.size]? = some x := push_last w x w.drawn
theorem drew_alloc_last (w : World) (x : Obj) : (w.drew.alloc x).heap[w.heap.size]? = some x := push_last w x (w.drawn + 1)
theorem grownCap_ge (w : World) (need old : Nat) (e : TypeId) : need ≤ grownCap w need old e := by
  show need ≤ need + _; omega

theorem ofList_lay {α : Type} (l : List α) : T.ofList l = T.lay l .e 0 := by
  unfold T.ofList; rw [fill_eq]
theorem RowR.pat {E : Env} {φ : Loc} {n sz : Nat} {pat pat' : List AV} {t : T (List AV)} {C : Array Value} (h : RowR E φ n sz pat t C) (ht : ∀ i, i * sz < n → t.get i ≠ none) : RowR E φ n sz pat' t C := by
  have key : ∀ i, i * sz < n → elemAt pat' (t.get i) = elemAt pat (t.get i) := fun i hi => by
    cases hg : t.get i with
    | none => exact absurd hg (ht i hi)
    | some l => rfl
  refine ⟨h.1, h.2.1, fun i hi => by rw [key i hi]; exact h.2.2.1 i hi, fun k hk => ?_⟩
  rw [key _ (by have := base_le k sz; omega)]
  exact h.2.2.2 k hk
theorem isU8_ok (T : TabOk E) {t : TypeId} {K : Out} (g : isU8 E t K = .ok e ts' h c) : E.P.underlying t = some (.int .u8) ∧ K = .ok e ts' h c := by
  unfold isU8 at g
  obtain ⟨d, hd, g⟩ := und_ok T g
  split at g
  · rename_i k
    split at g
    · exact ⟨hd, g⟩
    · cases g
  · cases g

theorem map_bytes (s : List UInt8) : (mapL byteE s).length = s.length ∧ (∀ l ∈ mapL byteE s, l.length = 1) ∧ (mapL byteE s).flatten = s.map byteV := by
  rw [mapL_eq]
  refine ⟨by simp, ?_, ?_⟩
  · intro l hl; simp at hl; obtain ⟨b, _, rfl⟩ := hl; rfl
  · induction s with
    | nil => rfl
    | cons b s ih => simp only [List.map_cons, List.flatten_cons, ih]; rfl
theorem bytes_VRL (E : Env) (φ : Loc) : ∀ s : List UInt8, VRL E φ (s.map byteV) (s.map fun b => Value.int .u8 b.toNat)
  | [] => VRL_nil
  | _b :: s => VRL_cons rfl (bytes_VRL E φ s)

theorem isByte_ok {φ : Loc} {x : AV} {v : Value} (hx : isByte x = true) (hv : VR E φ x v) : v = .int .u8 ((byteOf x).toNat : Int) := by
  unfold isByte at hx
  split at hx
  · rename_i k n
    split at hx
    · split at hx
      · rename_i n
        have hn := Nat.blt_eq.mp hx
        have hv : v = .int .u8 (Int.ofNat n) := hv
        rw [hv]
        simp only [byteOf, UInt8.toNat_ofNat']
        congr 1
        have hn' : n < 256 := hn
        have : n % 2 ^ 8 = n := Nat.mod_eq_of_lt hn'
        rw [this]; rfl
      · cases hx
    · cases hx
  · cases hx
theorem allBytes_ok {φ : Loc} : ∀ {l : List AV} {m : List Value}, allBytes l = true → VRL E φ l m → m = (mapL byteOf l).map fun b => Value.int .u8 b.toNat := by
  intro l
  induction l with
  | nil => intro m _ hv; simp only [VRL] at hv; subst hv; rfl
  | cons x l ih =>
    intro m hl hv
    simp only [VRL] at hv
    obtain ⟨v, r, rfl, hx, hr⟩ := hv
    have hl' : Bool.rec (motive := fun _ => Bool) false (allBytes l) (isByte x) = true := hl
    cases hb : isByte x with
    | false => rw [hb] at hl'; cases hl'
    | true =>
      rw [hb] at hl'
      rw [isByte_ok hb hx, ih hl' hr]
      rfl

/-- elements looked at, as the world has them -/
theorem rdE_ok {ao : Option AObj} {off sz k : Nat} {K : List (List AV) → Out} (g : rdE off sz k K ao = .ok e ts' h c) :
    ∃ n rs pat t L, ao = some (.row n rs pat t) ∧ off + k * sz ≤ n ∧ K L = .ok e ts' h c ∧ L.length = k ∧ ∀ (E : Env) (φ : Loc) (C : Array Value), 0 < sz → RowR E φ n rs pat t C →
      (∀ l ∈ L, l.length = sz) ∧ VRL E φ L.flatten (C.extract off (off + k * sz)).toList ∧ ∀ v ∈ (C.extract off (off + k * sz)).toList, one v = true := by
  unfold rdE at g
  split at g
  · rename_i n rs pat t
    obtain ⟨hn, g⟩ := guardB_ok g
    have hn : off + k * sz ≤ n := Nat.le_of_ble_eq_true hn
    cases he : Nat.beq rs sz with
    | true =>
      rw [he] at g
      obtain ⟨hm, g⟩ := guardB_ok g
      have hm : off % sz = 0 := Nat.eq_of_beq_eq_true hm
      have he := Nat.eq_of_beq_eq_true he
      subst he
      exact ⟨n, rs, pat, t, _, rfl, hn, g, elems_len .., fun E φ C _ hr => hr.elems hn hm⟩
    | false =>
      rw [he] at g
      obtain ⟨hm, g⟩ := guardB_ok g
      have hm : off % rs + k * sz ≤ rs := Nat.le_of_ble_eq_true hm
      refine ⟨n, rs, pat, t, _, rfl, hn, g, chunk_count .., fun E φ C hsz hr => ?_⟩
      have ediv : Nat.div off rs = off / rs := rfl
      have emod : Nat.mod off rs = off % rs := rfl
      by_cases hk : k = 0
      · subst hk
        have e1 : chunk sz 0 (kdrop (Nat.mod off rs) (elemAt pat (t.get (Nat.div off rs)))) = [] := rfl
        rw [e1]
        have e2 : (C.extract off (off + 0 * sz)).toList = [] := by simp
        rw [e2]
        exact ⟨(fun l hl => by cases hl), VRL_nil, (fun v hv => by cases hv)⟩
      · have hpos : 0 < k * sz := Nat.mul_pos (by omega) hsz
        have hel := hr.elem_len hn hpos
        have hlen : k * sz ≤ (kdrop (Nat.mod off rs) (elemAt pat (t.get (Nat.div off rs)))).length := by rw [kdrop_eq, emod, ediv, List.length_drop, hel]; omega
        have hw := hr.within hn hm ((kdrop (Nat.mod off rs) (elemAt pat (t.get (Nat.div off rs)))).take (k * sz)) (fun j hj => by
          rw [List.getElem?_take, if_pos hj, kdrop_eq, List.getElem?_drop]; rfl) (by rw [List.length_take]; omega)
        refine ⟨chunk_len _ _ _ hlen, ?_, hw.2⟩
        rw [chunk_flat]; exact hw.1
  · cases g

theorem ok_conv (T : TabOk E) (ht : TR E φ ts a.tmps) {src dst : TypeId} {x : Operand} (ho : o.op = .convert src dst x) (g : cConvert src dst x E ts K = .ok e ts' h c) : Good E φ o a K e ts' h c := by
  have he : execOp a.eval o = (do pure (Next.value (← convert src dst (a.eval x)))) := by unfold execOp; rw [ho]
  have hx := eval_VR ht x
  unfold cConvert convV at g
  split at g
  · rename_i k n hxe
    rw [hxe] at hx; simp only [VR] at hx
    obtain ⟨s, hs, g⟩ := und_ok T g
    split at g
    · obtain ⟨d, hd, g⟩ := und_ok T g
      unfold convInt at g
      split at g
      · rename_i k'
        refine good_val (u := .int k' (k'.wrap n)) g (by rw [wrapF_eq]; rfl) he (fun w => ?_)
        unfold convert
        simp only [Sem.run_bind, run_und hs, run_und hd, Result.andThen_ok, hx, Conv.intToInt, Sem.run_pure]
      · cases g
    · cases g
  · rename_i s hxe
    rw [hxe] at hx; simp only [VR] at hx
    obtain ⟨q, hs, g⟩ := und_ok T g
    split at g
    · obtain ⟨d, hd, g⟩ := und_ok T g
      unfold convStr at g
      split at g
      · refine good_val (u := .string ⟨s.toArray⟩) g rfl he (fun w => ?_)
        unfold convert
        simp only [Sem.run_bind, run_und hs, run_und hd, Result.andThen_ok, hx, Sem.run_pure]
      · rename_i el
        obtain ⟨hu, g⟩ := isU8_ok T g
        refine ⟨_, g, fun w => ?_⟩
        have hr := run_bytes_of_string w src dst el ⟨s.toArray⟩ hs hd hu
        have hge := grownCap_ge w (⟨s.toArray⟩ : ByteArray).size 0 el
        have hsz : (⟨s.toArray⟩ : ByteArray).size = s.length := rfl
        generalize hcp : grownCap w (⟨s.toArray⟩ : ByteArray).size 0 el = cp at hr hge
        have hrow : bytesRow ⟨s.toArray⟩ cp = ((s.map fun b => Value.int .u8 b.toNat) ++ List.replicate (cp - s.length) (Value.int .u8 0)).toArray := by
          unfold bytesRow; apply Array.ext'; simp [hsz]
        have hrs : (bytesRow ⟨s.toArray⟩ cp).size = cp := by rw [hrow]; simp; omega
        refine ⟨_, _, (bytesRow ⟨s.toArray⟩ cp).size, .inl (by rw [he]; simp only [Sem.run_bind, hx, hr, Result.andThen_ok, Sem.run_pure]; rfl), grown_drew_alloc .., fun φ' c hle hc => ⟨?_, ?_⟩⟩
        · refine ⟨w.heap.size, _, el, _, hc, drew_alloc_last .., fun i hi => by simp; omega, ?_⟩
          rw [hrow, lenL_eq, ofList_lay]
          obtain ⟨m1, m2, m3⟩ := map_bytes s
          have := RowR.fresh (E := E) (φ := φ') (n := s.length) (sz := 1) (L := mapL byteE s) (us := s.map fun b => Value.int .u8 b.toNat) (rest := List.replicate (cp - s.length) (Value.int .u8 0)) (by omega) m2 (by rw [m3]; exact bytes_VRL E φ' s)
            (fun v hv => by simp at hv; obtain ⟨b, _, rfl⟩ := hv; rfl) (by rw [m1]; omega)
          refine this.pat fun i hi => ?_
          have hi : i < s.length := by omega
          rw [get_lay, if_pos ⟨Nat.zero_le _, by omega⟩, List.getElem?_eq_getElem (by omega)]
          simp
        · refine ⟨w.heap.size, _, ⟨w.heap.size, 0, none⟩, cp, hc, ?_, Nat.le_refl _, by rw [lenL_eq]; omega, (fun h => by cases h), (fun _ => rfl), (fun _ => by rw [hrs]; show 0 + cp * 1 ≤ cp; omega), by decide⟩
          rw [lenL_eq]; rfl
      · cases g
    · cases g
  · rename_i hxe
    rw [hxe] at hx; simp only [VR] at hx
    obtain ⟨d, hd, g⟩ := und_ok T g
    obtain ⟨s, hs, g⟩ := und_ok T g
    unfold convNil at g
    split at g
    · split at g
      · rename_i el
        obtain ⟨hu, g⟩ := isU8_ok T g
        refine good_val (u := .string .empty) g rfl he (fun w => ?_)
        unfold convert
        simp only [Sem.run_bind, run_und hs, run_und hd, Result.andThen_ok, hx, run_und hu, Conv.bytesToString, Sem.run_pure]
      · cases g
    · cases g
  · rename_i b off len cap sz ex hxe
    rw [hxe] at hx
    obtain ⟨B, N, ad, cap', hb, hx, hlc, hcc, _, had, hN, hsz⟩ := hx
    obtain ⟨d, hd, g⟩ := und_ok T g
    obtain ⟨s, hs, g⟩ := und_ok T g
    unfold convSl at g
    split at g
    · split at g
      · rename_i el
        obtain ⟨hu, g⟩ := isU8_ok T g
        refine ⟨_, g, fun K' ao e' ts2 h2 c2 g2 => ?_⟩
        unfold rdStr at g2
        obtain ⟨n, rs, pat, t, L, rfl, hn, g2, hL, hr⟩ := rdE_ok g2
        obtain ⟨hall, g2⟩ := guardB_ok g2
        refine ⟨_, _, rfl, g2, fun φ' w hle hor => ?_⟩
        obtain ⟨B', C, el', fr, hb', hw, hfr, hrow⟩ := hor
        rw [hle _ _ hb] at hb'; cases hb'
        obtain ⟨r1, r2, r3⟩ := hr E φ' C Nat.one_pos hrow
        have hn1 : off + len ≤ n := by have h1 : off + len * 1 ≤ n := hn; omega
        have e1 : len * (nat_lit 1) = len := Nat.mul_one len
        rw [e1] at r2 r3
        rw [flat_eq] at hall ⊢
        have hbytes := allBytes_ok hall r2
        refine ⟨_, rfl, .inl ?_⟩
        have hload : (loadCells ad len).run E.P w = .ok (((mapL byteOf L.flatten).map fun b => (b.toNat : Int)).map (Value.int .u8)).toArray w := by
          have hC := hrow.2.1
          rw [List.map_map, show (Value.int .u8 ∘ fun b : UInt8 => (b.toNat : Int)) = (fun b => Value.int .u8 b.toNat) from rfl, ← hbytes]
          by_cases h0 : len = 0
          · subst h0; simp [loadCells, loadCellsFrom]
          · have : ad = ⟨B, off, none⟩ := had (by omega)
            subst this
            rw [run_loadCells hw (by omega)]
        have := run_bytesToString w ad len cap' _ hload
        rw [he]
        unfold convert
        simp only [Sem.run_bind, run_und hs, run_und hd, Result.andThen_ok, hx, run_und hu, this, Sem.run_pure]
        rw [foldl_push_byteCells]
        congr 3
        simp
      · cases g
    · cases g
  · cases g
end
end Go.AE
namespace Go.AE
section
variable {E : Env} {φ : Loc} {o : Oper} {a : Act} {ts : Tm} {K : Kc} {e : Ex} {ts' : Tm} {h : Hs} {c : Nat}

/-- a bound that may not be there -/
theorem optNat_ok (ht : TR E φ ts a.tmps) {x : Option Operand} {d : Nat} {K : Nat → Out} (g : optNat ts x d K = .ok e ts' h c) :
    ∃ n, K n = .ok e ts' h c ∧ ((x = none ∧ n = d) ∨ ∃ y k, x = some y ∧ a.eval y = .int k (n : Nat)) := by
  unfold optNat at g
  split at g
  · exact ⟨d, g, .inl ⟨rfl, rfl⟩⟩
  · rename_i y
    obtain ⟨k, n, he, g⟩ := natOf_ok g
    have hy := eval_VR ht y
    rw [he] at hy
    exact ⟨n, g, .inr ⟨y, k, rfl, hy⟩⟩

theorem run_bound {P : Program} {w : World} (k : IntKind) (n y : Nat) (code : BoundsCode) (hn : n ≤ y) : (Instr.sliceBound (.int k (n : Nat)) y code).run P w = .ok n w := by
  have h1 : (0 : Int) ≤ n ∧ (n : Int) ≤ y := by omega
  simp [Instr.sliceBound, asIntOf, h1.2]

theorem run_bounds {P : Program} {w : World} {isS : Bool} {len cap l hi m : Nat} {xl xh xm : Option Operand} (hlh : l ≤ hi) (hhm : hi ≤ m) (hmc : m ≤ cap)
    (h1 : (xl = none ∧ l = 0) ∨ ∃ y k, xl = some y ∧ a.eval y = .int k (l : Nat))
    (h2 : (xh = none ∧ xm = none ∧ hi = len) ∨ ∃ y k, xh = some y ∧ a.eval y = .int k (hi : Nat))
    (h3 : (xm = none ∧ m = cap) ∨ ∃ y k, xm = some y ∧ a.eval y = .int k (m : Nat)) :
    (Instr.sliceBounds isS len cap (xl.map a.eval) (xh.map a.eval) (xm.map a.eval)).run P w = .ok (l, hi, m) w := by
  unfold Instr.sliceBounds
  have hl : ∀ code, ((match xl.map a.eval with | some v => Instr.sliceBound v hi code | none => pure 0 : Sem Nat)).run P w = .ok l w := fun code => by
    rcases h1 with ⟨rfl, rfl⟩ | ⟨y, k, rfl, he⟩
    · rfl
    · simp only [Option.map_some, he, run_bound k l hi code hlh]
  rcases h3 with ⟨rfl, rfl⟩ | ⟨ym, km, rfl, hem⟩
  · rcases h2 with ⟨rfl, _, rfl⟩ | ⟨yh, kh, rfl, heh⟩
    · rcases h1 with ⟨rfl, rfl⟩ | ⟨y, k, rfl, he⟩
      · simp
      · simp [he, run_bound k l hi _ hlh]
    · rcases h1 with ⟨rfl, rfl⟩ | ⟨y, k, rfl, he⟩
      · simp [heh, run_bound kh hi m _ hhm]
      · simp [he, heh, run_bound k l hi _ hlh, run_bound kh hi m _ hhm]
  · rcases h2 with ⟨rfl, h2, rfl⟩ | ⟨yh, kh, rfl, heh⟩
    · cases h2
    · rcases h1 with ⟨rfl, rfl⟩ | ⟨y, k, rfl, he⟩
      · simp [hem, heh, run_bound km m cap _ hmc, run_bound kh hi m _ hhm]
      · simp [hem, he, heh, run_bound km m cap _ hmc, run_bound k l hi _ hlh, run_bound kh hi m _ hhm]

theorem slB_ok {b off sz l hi m : Nat} {ex : Bool} {K : AV → Out} (g : slB b off sz ex l hi m K = .ok e ts' h c) : l ≤ hi ∧ hi ≤ m ∧ K (.sl b (off + l * sz) (hi - l) (m - l) sz ex) = .ok e ts' h c := by
  unfold slB at g
  obtain ⟨h1, g⟩ := guardB_ok g
  obtain ⟨h2, g⟩ := guardB_ok g
  exact ⟨Nat.le_of_ble_eq_true h1, Nat.le_of_ble_eq_true h2, g⟩

/-- cutting: what comes out, and the bounds -/
theorem slSl_ok (ht : TR E φ ts a.tmps) {b off len cap sz : Nat} {ex : Bool} {lo hi mx : Option Operand} {K : AV → Out} (g : slSl b off len cap sz ex ts lo hi mx K = .ok e ts' h c) :
    ∃ l h' m ex', l ≤ h' ∧ h' ≤ m ∧ m ≤ cap ∧ (mx = none → m = cap ∧ ex' = ex) ∧ (mx ≠ none → ex' = true) ∧ K (.sl b (off + l * sz) (h' - l) (m - l) sz ex') = .ok e ts' h c ∧
      ((lo = none ∧ l = 0) ∨ ∃ y k, lo = some y ∧ a.eval y = .int k (l : Nat)) ∧ ((hi = none ∧ mx = none ∧ h' = len) ∨ ∃ y k, hi = some y ∧ a.eval y = .int k (h' : Nat)) ∧
      ((mx = none ∧ m = cap) ∨ ∃ y k, mx = some y ∧ a.eval y = .int k (m : Nat)) := by
  unfold slSl at g
  split at g
  · obtain ⟨l, g, h1⟩ := optNat_ok ht g
    obtain ⟨h', g, h2⟩ := optNat_ok ht g
    obtain ⟨a1, a2, g⟩ := slB_ok g
    exact ⟨l, h', cap, ex, a1, a2, Nat.le_refl _, fun _ => ⟨rfl, rfl⟩, fun h => absurd rfl h, g, h1, h2.imp (fun h => ⟨h.1, rfl, h.2⟩) id, .inl ⟨rfl, rfl⟩⟩
  · rename_i ym
    split at g
    · cases g
    · rename_i yh
      obtain ⟨l, g, h1⟩ := optNat_ok ht g
      obtain ⟨kh, h', heh, g⟩ := natOf_ok g
      obtain ⟨km, m, hem, g⟩ := natOf_ok g
      obtain ⟨hmc, g⟩ := guardB_ok g
      obtain ⟨a1, a2, g⟩ := slB_ok g
      have hh := eval_VR ht yh
      rw [heh] at hh
      have hm := eval_VR ht ym
      rw [hem] at hm
      exact ⟨l, h', m, true, a1, a2, Nat.le_of_ble_eq_true hmc, (fun h => by cases h), (fun _ => rfl), g, h1, .inr ⟨_, _, rfl, hh⟩, .inr ⟨_, _, rfl, hm⟩⟩

theorem isZ_ok {n : Nat} (h : isZ n = true) : n = 0 := Nat.eq_of_beq_eq_true h

theorem ok_slice (T : TabOk E) (ht : TR E φ ts a.tmps) {t : TypeId} {x : Operand} {lo hi mx : Option Operand} (ho : o.op = .slice t x lo hi mx) (g : cSlice t x lo hi mx E ts K = .ok e ts' h c) : Good E φ o a K e ts' h c := by
  have he : execOp a.eval o = (do pure (Next.value (← Instr.sliceAt t (a.eval x) (lo.map a.eval) (hi.map a.eval) (mx.map a.eval)))) := by unfold execOp; rw [ho]
  have hx := eval_VR ht x
  unfold cSlice at g
  obtain ⟨d, hd, g⟩ := und_ok T g
  unfold slArr at g
  split at g
  · rename_i n el
    obtain ⟨i, hi', g⟩ := size_ok T g
    obtain ⟨hs0, g⟩ := guardB_ok g
    have hs0 : 0 < i.size := Nat.blt_eq.mp hs0
    obtain ⟨b, off, hxe, g⟩ := ptrOf_ok g
    rw [hxe] at hx
    obtain ⟨B, N, hb, hx⟩ := hx
    obtain ⟨l, h', m, ex', a1, a2, a3, a4, a5, g, b1, b2, b3⟩ := slSl_ok ht g
    refine ⟨_, g, fun K' ao e' ts2 h2 c2 g2 => ?_⟩
    unfold rdArr at g2
    split at g2
    · rename_i rm rs pat rt
      obtain ⟨hn, g2⟩ := guardB_ok g2
      have hn : off + n * i.size ≤ rm := Nat.le_of_ble_eq_true hn
      refine ⟨_, _, rfl, g2, fun φ' w hle hor => ?_⟩
      obtain ⟨B', C, el', fr, hb', hw, hfr, hrow⟩ := hor
      have hb2 := hle _ _ hb
      rw [hb2] at hb'; cases hb'
      have hC := hrow.2.1
      have hml : (m - l) * i.size ≤ n * i.size - l * i.size := by rw [Nat.sub_mul]; have := Nat.mul_le_mul_right i.size a3; omega
      have hln : l * i.size ≤ n * i.size := Nat.mul_le_mul_right _ (by omega)
      refine ⟨.slice (some (if m = l then ⟨B, off, none⟩ else (⟨B, off, none⟩ : Addr).add (l * i.size))) (h' - l) (m - l), ⟨B, _, _, m - l, hb2, rfl, by omega, Nat.le_refl _, fun _ => rfl, fun h => ?_, fun h => by omega, hs0⟩, .inl ?_⟩
      · rw [if_neg (by omega), add_addr]
      · rw [he]
        unfold Instr.sliceAt
        simp only [Sem.run_bind, run_und hd, Result.andThen_ok, hx, Instr.sureAddr, Sem.run_pure, run_bounds a1 a2 a3 b1 b2 b3, run_size hi']
    · cases g2
  · rename_i el
    obtain ⟨i, hi', g⟩ := size_ok T g
    have he2 : ∀ w, (Instr.sliceAt t (a.eval x) (lo.map a.eval) (hi.map a.eval) (mx.map a.eval)).run E.P w = (Instr.slice t (a.eval x) (lo.map a.eval) (hi.map a.eval) (mx.map a.eval)).run E.P w := fun w => by
      unfold Instr.sliceAt; simp only [Sem.run_bind, run_und hd, Result.andThen_ok]
    unfold slV at g
    split at g
    · rename_i hxe
      rw [hxe] at hx; simp only [VR] at hx
      unfold slNil at g
      obtain ⟨l, g, b1⟩ := optNat_ok ht g
      obtain ⟨h', g, b2⟩ := optNat_ok ht g
      obtain ⟨m, g, b3⟩ := optNat_ok ht g
      obtain ⟨z1, g⟩ := guardB_ok g
      obtain ⟨z2, g⟩ := guardB_ok g
      obtain ⟨z3, g⟩ := guardB_ok g
      have z1 := isZ_ok z1
      have z2 := isZ_ok z2
      have z3 := isZ_ok z3
      subst z1 z2 z3
      have gg : K (.val .nils) = .ok e ts' h c ∧ ((hi = none ∧ mx = none ∧ 0 = 0) ∨ ∃ y k, hi = some y ∧ a.eval y = .int k ((0 : Nat) : Int)) := by
        split at g
        · exact ⟨g, b2.imp (fun h => ⟨h.1, rfl, rfl⟩) id⟩
        · split at g
          · cases g
          · exact ⟨g, b2.elim (fun h => by cases h.1) .inr⟩
      refine good_val (u := .slice none 0 0) gg.1 rfl he (fun w => ?_)
      rw [he2, hx]
      unfold Instr.slice
      simp only [Sem.run_bind, run_und hd, Result.andThen_ok, run_bounds (P := E.P) (w := w) (isS := true) (len := 0) (cap := 0) (Nat.le_refl 0) (Nat.le_refl 0) (Nat.le_refl 0) b1 gg.2 b3, run_size hi', Sem.run_pure]
      rfl
    · rename_i b off len cap sz ex hxe
      rw [hxe] at hx
      obtain ⟨B, N, ad, cap', hb, hx, hlc, hcc, hex, had, hN, hsz⟩ := hx
      obtain ⟨hs, g⟩ := guardB_ok g
      have hs : i.size = sz := Nat.eq_of_beq_eq_true hs
      obtain ⟨l, h', m, ex', a1, a2, a3, a4, a5, g, b1, b2, b3⟩ := slSl_ok ht g
      -- the true capacity: the model's, where no third bound is given
      have hm' : ∃ m', m ≤ m' ∧ m' ≤ cap' ∧ (ex' = true → m' = m) ∧ ((mx = none ∧ m' = cap') ∨ ∃ y k, mx = some y ∧ a.eval y = .int k (m' : Nat)) := by
        rcases b3 with ⟨hmx, hmc⟩ | hb3
        · refine ⟨cap', by omega, Nat.le_refl _, fun hx => ?_, .inl ⟨hmx, rfl⟩⟩
          rw [(a4 hmx).2] at hx
          rw [hex hx]; omega
        · exact ⟨m, Nat.le_refl _, by omega, fun _ => rfl, .inr hb3⟩
      obtain ⟨m', m1, m2, m3, b3'⟩ := hm'
      have hr := fun w => run_bounds (P := E.P) (w := w) (isS := true) (len := len) (cap := cap') a1 (show h' ≤ m' by omega) m2 b1 b2 b3'
      refine good_val (u := .slice (if m' = l then some ad else (some ad).map (·.add (l * sz))) (h' - l) (m' - l)) g ?_ he (fun w => ?_)
      · have hu : ∃ a1, (if m' = l then some ad else (some ad).map (·.add (l * sz))) = some a1 ∧ (0 < m' - l → a1 = ⟨B, off + l * sz, none⟩) := by
          by_cases hml : m' = l
          · exact ⟨ad, by rw [if_pos hml], fun h => by omega⟩
          · refine ⟨ad.add (l * sz), by rw [if_neg hml]; rfl, fun h => ?_⟩
            rw [had (by omega), add_addr]
        obtain ⟨a1', ha1, ha2⟩ := hu
        rw [ha1]
        refine ⟨B, N, a1', m' - l, hb, rfl, by omega, by omega, fun h => by rw [m3 h], ha2, fun h => ?_, hsz⟩
        have := hN (by omega)
        have h1 : (m' - l) * sz = m' * sz - l * sz := Nat.sub_mul ..
        have h2 : m' * sz ≤ cap' * sz := Nat.mul_le_mul_right _ m2
        have h3 : l * sz ≤ m' * sz := Nat.mul_le_mul_right _ (by omega)
        omega
      · rw [he2, hx]
        unfold Instr.slice
        simp only [Sem.run_bind, run_und hd, Result.andThen_ok, hr w, run_size hi', Sem.run_pure, hs]
    · cases g
  · have he2 : ∀ w, (Instr.sliceAt t (a.eval x) (lo.map a.eval) (hi.map a.eval) (mx.map a.eval)).run E.P w = (Instr.slice t (a.eval x) (lo.map a.eval) (hi.map a.eval) (mx.map a.eval)).run E.P w := fun w => by
      unfold Instr.sliceAt; simp only [Sem.run_bind, run_und hd, Result.andThen_ok]
    unfold slS at g
    split at g
    · rename_i s hxe
      rw [hxe] at hx; simp only [VR] at hx
      unfold slStr at g
      split at g
      · cases g
      · obtain ⟨l, g, b1⟩ := optNat_ok ht g
        obtain ⟨h', g, b2⟩ := optNat_ok ht g
        obtain ⟨a1, g⟩ := guardB_ok g
        have a1 : l ≤ h' := Nat.le_of_ble_eq_true a1
        obtain ⟨a2, g⟩ := guardB_ok g
        have a2 : h' ≤ lenL s := Nat.le_of_ble_eq_true a2
        rw [lenL_eq] at a2 b2
        have hsz : (⟨s.toArray⟩ : ByteArray).size = s.length := rfl
        refine good_val (u := .string ((⟨s.toArray⟩ : ByteArray).extract l h')) g ?_ he (fun w => ?_)
        · simp only [VR]
          rw [ktake_eq, kdrop_eq]
          congr 1
          apply ByteArray.ext
          apply Array.ext'
          simp [ByteArray.data_extract]
        · rw [he2, hx]
          unfold Instr.slice
          have hr := run_bounds (P := E.P) (w := w) (a := a) (isS := false) (len := s.length) (cap := s.length) (xm := none) a1 a2 (Nat.le_refl _) b1 (b2.imp (fun h => ⟨h.1, rfl, h.2⟩) id) (.inl ⟨rfl, rfl⟩)
          simp only [Option.map_none] at hr
          simp only [Sem.run_bind, run_und hd, Result.andThen_ok, Option.map_none, Option.isSome_none, Bool.false_eq_true, if_false, hsz, hr, Sem.run_pure]
    · cases g
  · cases g

theorem ok_index (T : TabOk E) (ht : TR E φ ts a.tmps) {t : TypeId} {x ix : Operand} (ho : o.op = .index t x ix) (g : cIndex t x ix E ts K = .ok e ts' h c) : Good E φ o a K e ts' h c := by
  have he : execOp a.eval o = (do pure (Next.value (← Instr.index t (a.eval x) (a.eval ix)))) := by unfold execOp; rw [ho]
  have hx := eval_VR ht x
  have hi := eval_VR ht ix
  unfold cIndex at g
  obtain ⟨k, i, hie, g⟩ := natOf_ok g
  rw [hie] at hi; simp only [VR] at hi
  obtain ⟨d, hd, g⟩ := und_ok T g
  unfold ixV at g
  split at g
  · rename_i n el
    obtain ⟨cs, hxe, g⟩ := aggOf_ok g
    rw [hxe] at hx
    obtain ⟨arr, hx, r1, r2⟩ := hx
    obtain ⟨hlt, g⟩ := guardB_ok g
    have hlt : i < n := Nat.blt_eq.mp hlt
    obtain ⟨inf, hinf, g⟩ := size_ok T g
    obtain ⟨v, g, hr⟩ := partOf_ok T g
    obtain ⟨u, hu, hs⟩ := hr φ arr r1 r2
    refine good_val g hu he (fun w => ?_)
    unfold Instr.index
    have hin : (0 : Int) ≤ (i : Int) ∧ (i : Int) < (n : Int) := by omega
    have hs' := hs w
    simp only [Sem.run_bind, hi, asIntOf, Sem.run_pure, run_und hd, Result.andThen_ok, hx, hin, and_self, if_true, run_size hinf, Int.toNat_natCast]
    exact hs'
  · split at g
    · rename_i s hxe
      rw [hxe] at hx; simp only [VR] at hx
      unfold ixStr at g
      split at g
      · rename_i bt hk
        rw [kidx_eq] at hk
        have hlen : i < s.length := (List.getElem?_eq_some_iff.1 hk).1
        refine good_val (u := .int .u8 bt.toNat) g rfl he (fun w => ?_)
        have h2 : (⟨s.toArray⟩ : ByteArray)[i]? = some bt := by
          have hsz : i < (⟨s.toArray⟩ : ByteArray).size := hlen
          rw [getElem?_pos (⟨s.toArray⟩ : ByteArray) i hsz]
          congr 1
          exact (List.getElem?_eq_some_iff.1 hk).2
        unfold Instr.index
        simp [hi, asIntOf, run_und hd, hx, h2]
      · cases g
    · cases g
  · cases g
end
end Go.AE
namespace Go.AE
section
variable {E : Env} {φ : Loc} {o : Oper} {a : Act} {ts : Tm} {K : Kc} {e : Ex} {ts' : Tm} {h : Hs} {c : Nat}

theorem set_zero (l : List AV) : (T.e : T (List AV)).set 0 (some l) = .n .e (some l) .e := rfl
theorem nofz0 (n : Nat) : Nofz (0, 0) n := fun i _ => by simp

/-- a variable of its own -/
theorem new_ok {ao : AObj} {mk : Nat → AV} (hr : ∀ w : World, ∃ u x N n, Runs E.P o a w u { w with heap := w.heap.push x, drawn := n } ∧
    ∀ (φ' : Loc) (c : Nat), φ.le φ' → φ' c = some (w.heap.size, N) → OR E φ' { w with heap := w.heap.push x, drawn := n } c ao ∧ VR E φ' (mk c) u) : CmdOk E φ o a (.new ao mk) :=
  fun w => let ⟨u, x, N, n, h1, h2⟩ := hr w; ⟨u, _, N, h1, grown_push w x n, h2⟩

theorem boxUp_ok (T : TabOk E) {t : TypeId} {v : AV} (g : boxUp E t v K = .ok e ts' h c) {u : Value} (hu : VR E φ v u)
    (hr : ∀ w, (execOp a.eval o).run E.P w = .ok (.value (.pointer (some ⟨w.heap.size, 0, none⟩))) (w.alloc (.cells u.cells t))) : Good E φ o a K e ts' h c := by
  unfold boxUp at g
  obtain ⟨i, hi, g⟩ := size_ok T g
  obtain ⟨l, g, hl⟩ := cellsK_ok g
  unfold rowOf at g
  obtain ⟨h0, g⟩ := guardB_ok g
  have h0 : 0 < i.size := Nat.blt_eq.mp h0
  obtain ⟨h1, g⟩ := guardB_ok g
  have h1 : lenL l = i.size := Nat.eq_of_beq_eq_true h1
  rw [lenL_eq] at h1
  refine ⟨_, g, new_ok fun w => ⟨_, _, u.cells.size, w.drawn, .inl (hr w), fun φ' c hle hc => ⟨⟨w.heap.size, u.cells, t, (0, 0), hc, push_last w _ _, nofz0 _, ?_⟩, ⟨_, _, hc, rfl⟩⟩⟩⟩
  obtain ⟨r1, r2⟩ := hl E φ' u (VR.mono hle _ _ hu)
  have := RowR.fresh (E := E) (φ := φ') (n := i.size) (sz := i.size) (L := [l]) (us := u.cells.toList) (rest := []) h0 (fun x hx => by simp at hx; rw [hx]; exact h1) (by simpa using r1) r2 (by simp)
  rw [List.append_nil] at this
  exact this

theorem ok_alloc (T : TabOk E) {t : TypeId} (ho : o.op = .alloc t) (g : cAlloc t E ts K = .ok e ts' h c) : Good E φ o a K e ts' h c := by
  have he : execOp a.eval o = (do pure (Next.value (← Instr.alloc t true (.tuple #[])))) := by unfold execOp; rw [ho]
  unfold cAlloc at g
  obtain ⟨i, z, hi, hz, g⟩ := zero_ok T g
  refine boxUp_ok T g (ofValue_VR E φ z) fun w => ?_
  rw [he]
  unfold Instr.alloc newVar newRow
  simp only [Sem.run_bind, run_zero hi hz, Result.andThen_ok, run_newObj, Sem.run_pure]
  rfl
theorem ok_box (T : TabOk E) (ht : TR E φ ts a.tmps) {t : TypeId} {x : Operand} (ho : o.op = .box t x) (g : cBox t x E ts K = .ok e ts' h c) : Good E φ o a K e ts' h c := by
  have he : execOp a.eval o = (do pure (Next.value (← Instr.box t (a.eval x)))) := by unfold execOp; rw [ho]
  refine boxUp_ok T g (eval_VR ht x) fun w => ?_
  rw [he]
  unfold Instr.box newVar newRow
  simp only [Sem.run_bind, Result.andThen_ok, run_newObj, Sem.run_pure]
  rfl

theorem ok_makeMap {t : TypeId} {r : Option Operand} (ho : o.op = .makeMap t r) (g : cMakeMap r E ts K = .ok e ts' h c) : Good E φ o a K e ts' h c := by
  unfold cMakeMap at g
  split at g
  · have he : execOp a.eval o = (do pure (Next.value (← Instr.makeMap t none))) := by unfold execOp; rw [ho]; rfl
    refine ⟨_, g, new_ok fun w => ⟨.map (some w.heap.size), .map #[] 0, 0, w.drawn, .inl ?_, fun φ' c hle hc => ⟨⟨_, _, #[], hc, push_last w _ _, rfl⟩, ⟨_, _, hc, rfl⟩⟩⟩⟩
    rw [he]
    unfold Instr.makeMap
    simp only [Sem.run_bind, Result.andThen_ok, run_newObj, Sem.run_pure]
  · cases g
theorem ok_makeChan (T : TabOk E) (ht : TR E φ ts a.tmps) {t : TypeId} {s : Operand} (ho : o.op = .makeChan t s) (g : cMakeChan t s E ts K = .ok e ts' h c) : Good E φ o a K e ts' h c := by
  have he : execOp a.eval o = (do pure (Next.value (← Instr.makeChan t (a.eval s)))) := by unfold execOp; rw [ho]
  unfold cMakeChan at g
  obtain ⟨d, hd, g⟩ := und_ok T g
  split at g
  · rename_i dir el
    obtain ⟨i, hi, g⟩ := size_ok T g
    obtain ⟨k, n, hn, g⟩ := natOf_ok g
    have hs := eval_VR ht s
    rw [hn] at hs; simp only [VR] at hs
    obtain ⟨h1, g⟩ := guardB_ok g
    have h1 : n < 4096 := Nat.blt_eq.mp h1
    cases hti : E.ty.get el with
    | none => rw [hti] at g; cases g
    | some i' =>
      rw [hti] at g
      have := T.ty _ _ hti
      rw [hi] at this; cases this
      obtain ⟨h2, g⟩ := guardB_ok g
      have h2 : i.bytes < 4096 := Nat.blt_eq.mp h2
      refine ⟨_, g, new_ok fun w => ⟨.chan (some w.heap.size), .chan n #[] false 0 0 false, 0, w.drawn, .inl ?_, fun φ' c hle hc => ⟨⟨_, _, #[], 0, 0, hc, push_last w _ _, VRL_nil⟩, ⟨_, _, hc, rfl⟩⟩⟩⟩
      have hmax : IntKind.i64.max = 9223372036854775807 := by decide
      have hmul : i.bytes * n ≤ 4096 * 4096 := Nat.mul_le_mul (by omega) (by omega)
      have hno : ¬ ((n : Int) < 0 ∨ (n : Int) > IntKind.i64.max ∨ (i.bytes : Int) * n > 2 ^ 48 - 112) := by
        rw [hmax]
        rw [← Int.natCast_mul]
        omega
      rw [he]
      unfold Instr.makeChan
      simp only [Sem.run_bind, asInt, asIntOf, hs, Sem.run_pure, run_und hd, run_info hi, Result.andThen_ok, hno, if_false, run_newObj, Int.toNat_natCast]
  · cases g

/-- a row of zeros -/
theorem zeros_row {φ : Loc} {_z : AV} {zv : Value} {zl : List AV} {n len : Nat} (hsz : 0 < n) (hl : VRL E φ zl zv.cells.toList) (h1 : ∀ x ∈ zv.cells.toList, one x = true) (hn : zl.length = n) (_N : Nat) :
    RowR E φ (len * n) n zl .e (madeCells zv.cells (len * n)) ∧ (madeCells zv.cells (len * n)).size = len * n := by
  have hlen := hl.length
  rw [hn] at hlen
  have hzs : zv.cells.size = n := by simpa using hlen
  have hms : (madeCells zv.cells (len * n)).size = len * n := by simp [madeCells]
  have hel : ∀ i, elemAt zl ((T.e : T (List AV)).get i) = zl := fun i => by rw [get_e]; rfl
  refine ⟨⟨hsz, by omega, fun i _ => by rw [hel]; exact hn, fun k hk => ?_⟩, hms⟩
  rw [hel]
  have hm := Nat.mod_lt k hsz
  obtain ⟨v, hv, hr⟩ := hl.get (List.getElem?_eq_getElem (show k % n < zl.length by omega))
  refine ⟨_, v, List.getElem?_eq_getElem (show k % n < zl.length by omega), ?_, hr, h1 v (List.mem_of_getElem? hv)⟩
  simp only [madeCells, Array.getElem?_map]
  rw [show (Array.range (len * n))[k]? = some k by simp [hk]]
  simp only [Option.map_some, hzs]
  have : zv.cells[k % n]? = some v := by simpa using hv
  rw [getElem!_def, this]

theorem mkSl_ok {n l cp : Nat} {z : List AV} (g : mkSl n z l cp K = .ok e ts' h c) : l ≤ cp ∧ cp < 16777216 ∧ z.length = n ∧ K (.new (.row (cp * n) n z .e) fun b => .sl b 0 l cp n true) = .ok e ts' h c := by
  unfold mkSl at g
  obtain ⟨h1, g⟩ := guardB_ok g
  obtain ⟨h2, g⟩ := guardB_ok g
  obtain ⟨h3, g⟩ := guardB_ok g
  exact ⟨Nat.le_of_ble_eq_true h1, Nat.blt_eq.mp h2, by rw [← lenL_eq]; exact Nat.eq_of_beq_eq_true h3, g⟩
theorem elemK_ok (T : TabOk E) {K : TypeId → Nat → Out} {d : TypeDesc} (g : elemK E K d = .ok e ts' h c) : ∃ el i, d = .slice el ∧ E.P.info? el = some i ∧ 0 < i.size ∧ K el i.size = .ok e ts' h c := by
  unfold elemK at g
  split at g
  · obtain ⟨i, hi, g⟩ := size_ok T g
    obtain ⟨h1, g⟩ := guardB_ok g
    exact ⟨_, i, rfl, hi, Nat.blt_eq.mp h1, g⟩
  · cases g

theorem ok_makeSlice (T : TabOk E) (ht : TR E φ ts a.tmps) {t : TypeId} {l cp : Operand} (ho : o.op = .makeSlice t l cp) (g : cMakeSlice t l cp E ts K = .ok e ts' h c) : Good E φ o a K e ts' h c := by
  have he : execOp a.eval o = (do pure (Next.value (← Instr.makeSlice t (a.eval l) (a.eval cp)))) := by unfold execOp; rw [ho]
  unfold cMakeSlice at g
  obtain ⟨d, hd, g⟩ := und_ok T g
  obtain ⟨el, i, rfl, hi, h0, g⟩ := elemK_ok T g
  obtain ⟨i', z, hi', hz, g⟩ := zero_ok T g
  rw [hi] at hi'; cases hi'
  cases hti : E.ty.get el with
  | none => rw [hti] at g; cases g
  | some i' =>
    rw [hti] at g
    have := T.ty _ _ hti
    rw [hi] at this; cases this
    obtain ⟨h2, g⟩ := guardB_ok g
    have h2 : i.bytes < 65536 := Nat.blt_eq.mp h2
    obtain ⟨kl, nl, hl, g⟩ := natOf_ok g
    have hvl := eval_VR ht l
    rw [hl] at hvl; simp only [VR] at hvl
    obtain ⟨kc, nc, hc', g⟩ := natOf_ok g
    have hvc := eval_VR ht cp
    rw [hc'] at hvc; simp only [VR] at hvc
    obtain ⟨zl, g, hzl⟩ := cellsK_ok g
    obtain ⟨a1, a2, a3, g⟩ := mkSl_ok g
    refine ⟨_, g, new_ok fun w => ⟨.slice (some ⟨w.heap.size, 0, none⟩) nl nc, .cells (madeCells z.cells (nc * i.size)) el, nc * i.size, w.drawn, .inl ?_, fun φ' c hle hc => ?_⟩⟩
    · have hmul : i.bytes * nc ≤ 65536 * 16777216 := Nat.mul_le_mul (by omega) (by omega)
      have hmul' : ((i.bytes : Int) * (nc : Int)) ≤ 281474976710656 := by
        rw [← Int.natCast_mul]
        omega
      have := run_make w t el i z hd hi hz kl kc nl nc (by omega) (by omega) hmul' (by omega)
      simp only [Int.toNat_natCast] at this
      rw [he, hvl, hvc]
      simp only [Sem.run_bind, this, Result.andThen_ok, Sem.run_pure]
      rfl
    · obtain ⟨r1, r2⟩ := hzl E φ' z (ofValue_VR E φ' z)
      obtain ⟨r3, r4⟩ := zeros_row (_z := .any) (len := nc) h0 r1 r2 a3 0
      exact ⟨⟨w.heap.size, _, el, (0, 0), by rw [r4]; exact hc, push_last w _ _, nofz0 _, r3⟩, ⟨w.heap.size, nc * i.size, _, nc, hc, rfl, a1, Nat.le_refl _, fun _ => rfl, fun _ => rfl, fun _ => by omega, h0⟩⟩

theorem ok_range_str (_T : TabOk E) (ht : TR E φ ts a.tmps) {t : TypeId} {x : Operand} (ho : o.op = .range t x) {s : List UInt8} (hs : evalO x ts = .str s) (hd : E.P.underlying t = some .string) :
    CmdOk E φ o a (.new (.siter s 0) fun b => .ptr b 0) := by
  have he : execOp a.eval o = (do pure (Next.value (← Instr.range t (a.eval x)))) := by unfold execOp; rw [ho]
  have hx := eval_VR ht x
  rw [hs] at hx; simp only [VR] at hx
  refine new_ok fun w => ⟨.pointer (some ⟨w.heap.size, 0, none⟩), .stringIter ⟨s.toArray⟩ 0, 0, w.drawn, .inl ?_, fun φ' c hle hc => ⟨⟨_, _, ⟨s.toArray⟩, hc, push_last w _ _, rfl, Nat.zero_le _⟩, ⟨_, _, hc, rfl⟩⟩⟩
  rw [he, hx]
  unfold Instr.range
  simp only [Sem.run_bind, run_und hd, Result.andThen_ok, Sem.run_pure, run_newObj]
end
end Go.AE
namespace Go.AE
section
variable {E : Env} {φ : Loc} {o : Oper} {a : Act} {ts : Tm} {K : Kc} {e : Ex} {ts' : Tm} {h : Hs} {c : Nat}

/-! ### variables -/
theorem rd1_ok {off : Nat} {K : AV → Out} {ao : Option AObj} (g : rd1 off K ao = .ok e ts' h c) :
    ∃ n sz pat t v, ao = some (.row n sz pat t) ∧ K v = .ok e ts' h c ∧ ∀ (E : Env) (φ : Loc) (C : Array Value), RowR E φ n sz pat t C → ∃ u, C[off]? = some u ∧ VR E φ v u := by
  unfold rd1 at g
  split at g
  · rename_i n sz pat t
    obtain ⟨hn, g⟩ := guardB_ok g
    have hn : off < n := Nat.blt_eq.mp hn
    obtain ⟨v, hv, g⟩ := oneOf_ok g
    rw [kidx_eq] at hv
    refine ⟨n, sz, pat, t, v, rfl, g, fun E φ C hr => ?_⟩
    obtain ⟨a, u, h1, h2, h3, _⟩ := hr.2.2.2 off hn
    have : (elemAt pat (t.get (off / sz)))[off % sz]? = some v := hv
    rw [h1] at this; cases this
    exact ⟨u, h2, h3⟩
  · cases g
theorem rdN_ok {off m : Nat} {K : AV → Out} {ao : Option AObj} (g : rdN off m K ao = .ok e ts' h c) :
    ∃ n sz pat t l, ao = some (.row n sz pat t) ∧ K (.agg l) = .ok e ts' h c ∧ off + m ≤ n ∧ ∀ (E : Env) (φ : Loc) (C : Array Value), RowR E φ n sz pat t C →
      VRL E φ l (C.extract off (off + m)).toList ∧ ∀ v ∈ (C.extract off (off + m)).toList, one v = true := by
  unfold rdN at g
  split at g
  · rename_i n sz pat t
    obtain ⟨hn, g⟩ := guardB_ok g
    have hn : off + m ≤ n := Nat.le_of_ble_eq_true hn
    obtain ⟨hm, g⟩ := guardB_ok g
    have hm : off % sz + m ≤ sz := Nat.le_of_ble_eq_true hm
    refine ⟨n, sz, pat, t, _, rfl, g, hn, fun E φ C hr => ?_⟩
    by_cases h0 : m = 0
    · subst h0
      have hx : (C.extract off (off + 0)).toList = [] := by simp
      rw [hx]
      have : 0 < sz := hr.1
      have hb : Nat.beq 0 sz = false := by cases sz with | zero => omega | succ n => rfl
      rw [hb]
      exact ⟨by rw [show ktake 0 (kdrop (Nat.mod off sz) (elemAt pat (t.get (Nat.div off sz)))) = [] from rfl]; exact VRL_nil, fun v hv => by cases hv⟩
    · have hel := hr.elem_len hn (by omega)
      cases hb : Nat.beq m sz with
      | true =>
        have hb := Nat.eq_of_beq_eq_true hb
        subst hb
        have h00 : off % m = 0 := by omega
        refine hr.within hn hm _ (fun j hj => ?_) hel
        rw [h00, Nat.zero_add]; rfl
      | false =>
        refine hr.within hn hm _ (fun j hj => ?_) ?_
        · show (ktake m (kdrop (off % sz) (elemAt pat (t.get (off / sz)))))[j]? = _
          rw [ktake_eq, kdrop_eq, List.getElem?_take, if_pos hj, List.getElem?_drop]
        · show (ktake m (kdrop (off % sz) (elemAt pat (t.get (off / sz))))).length = _
          rw [ktake_eq, kdrop_eq, List.length_take, List.length_drop, hel]; omega
  · cases g

/-- a variable of a type is looked at -/
theorem loadD_ok (T : TabOk E) {t : TypeId} {b off : Nat} {d : TypeDesc} (hd : E.P.underlying t = some d) (g : loadD E t b off K d = .ok e ts' h c) :
    ∃ f, K (.rd b f) = .ok e ts' h c ∧ ∀ (K : AV → Out) (x : Option AObj) (e : Ex) (ts' : Tm) (h' : Hs) (c' : Nat), f K x = .ok e ts' h' c' → ∃ ao v, x = some ao ∧ K v = .ok e ts' h' c' ∧
      ∀ (φ' : Loc) (w : World) (B N : Nat), φ' b = some (B, N) → OR E φ' w b ao → ∃ u, VR E φ' v u ∧ (loadVar t ⟨B, off, none⟩).run E.P w = .ok u w := by
  unfold loadD at g
  cases ha : isAggD d with
  | false =>
    rw [ha] at g
    refine ⟨_, g, fun K x e ts' h' c' g2 => ?_⟩
    obtain ⟨n, sz, pat, t', v, rfl, g2, hr⟩ := rd1_ok g2
    refine ⟨_, v, rfl, g2, fun φ' w B N hB hor => ?_⟩
    obtain ⟨B', C, el, fr, hb', hw, hfr, hrow⟩ := hor
    rw [hB] at hb'; cases hb'
    obtain ⟨u, hu, hvu⟩ := hr E φ' C hrow
    refine ⟨u, hvu, ?_⟩
    unfold loadVar
    simp only [Sem.run_bind, run_agg hd, ha, Result.andThen_ok, Bool.false_eq_true, if_false, run_load_row hw hu]
  | true =>
    rw [ha] at g
    obtain ⟨i, hi, g⟩ := size_ok T g
    refine ⟨_, g, fun K x e ts' h' c' g2 => ?_⟩
    obtain ⟨n, sz, pat, t', l, rfl, g2, hn, hr⟩ := rdN_ok g2
    refine ⟨_, _, rfl, g2, fun φ' w B N hB hor => ?_⟩
    obtain ⟨B', C, el, fr, hb', hw, hfr, hrow⟩ := hor
    rw [hB] at hb'; cases hb'
    obtain ⟨r1, r2⟩ := hr E φ' C hrow
    refine ⟨.agg (C.extract off (off + i.size)), ⟨_, rfl, r1, r2⟩, ?_⟩
    unfold loadVar
    simp only [Sem.run_bind, run_agg hd, ha, Result.andThen_ok, if_true, run_size hi, run_loadCells hw (show off + i.size ≤ C.size by have := hrow.2.1; omega), Sem.run_pure]

theorem ok_load (T : TabOk E) (ht : TR E φ ts a.tmps) {t : TypeId} {x : Operand} (ho : o.op = .load t x) (g : cLoad t x E ts K = .ok e ts' h c) : Good E φ o a K e ts' h c := by
  have he : execOp a.eval o = (do pure (Next.value (← Instr.loadAt t (a.eval x)))) := by unfold execOp; rw [ho]
  have hx := eval_VR ht x
  unfold cLoad at g
  obtain ⟨b, off, hxe, g⟩ := ptrOf_ok g
  rw [hxe] at hx
  obtain ⟨B, N, hb, hx⟩ := hx
  obtain ⟨d, hd, g⟩ := und_ok T g
  obtain ⟨f, g, hf⟩ := loadD_ok T hd g
  refine ⟨_, g, fun K' x' e' ts2 h2 c2 g2 => ?_⟩
  obtain ⟨ao, v, hx', g2, hr⟩ := hf K' x' e' ts2 h2 c2 g2
  refine ⟨ao, v, hx', g2, fun φ' w hle hor => ?_⟩
  obtain ⟨u, hu, hrun⟩ := hr φ' w B N (hle _ _ hb) hor
  refine ⟨u, hu, .inl ?_⟩
  rw [he]
  unfold Instr.loadAt
  simp only [Sem.run_bind, hx, Instr.sureAddr, Sem.run_pure, Result.andThen_ok, hrun]

theorem ok_store (T : TabOk E) (ht : TR E φ ts a.tmps) {t : TypeId} {x y : Operand} (ho : o.op = .store t x y) (g : cStore t x y E ts K = .ok e ts' h c) : Good E φ o a K e ts' h c := by
  have he : execOp a.eval o = (do Instr.storeAt t (a.eval x) (a.eval y); pure .skip) := by unfold execOp; rw [ho]
  have hx := eval_VR ht x
  unfold cStore at g
  obtain ⟨b, off, hxe, g⟩ := ptrOf_ok g
  rw [hxe] at hx
  obtain ⟨B, N, hb, hx⟩ := hx
  obtain ⟨i, hi, g⟩ := size_ok T g
  obtain ⟨l, g, hl⟩ := cellsK_ok g
  obtain ⟨hn, g⟩ := guardB_ok g
  have hn : lenL l = i.size := Nat.eq_of_beq_eq_true hn
  rw [lenL_eq] at hn
  refine ⟨_, g, fun φ' w B' C el fr hle hb' hw hfr hoff => ?_⟩
  rw [hle _ _ hb] at hb'; cases hb'
  obtain ⟨r1, r2⟩ := hl E φ' _ (VR.mono hle _ _ (eval_VR ht y))
  have hlen := r1.length
  refine ⟨_, r1, r2, .inr ⟨?_, rfl⟩⟩
  rw [he]
  unfold Instr.storeAt storeVar
  have hsz : ¬ ((a.eval y).cells.size ≠ i.size) := by simp at hlen; omega
  have hrun := run_storeCells (P := E.P) off (a.eval y).cells.toList 0 w C hw hfr (by omega) r2
  simp only [Sem.run_bind, hx, Instr.sureAddr, Sem.run_pure, Result.andThen_ok, run_size hi, hsz, if_false, hrun]
  rfl

/-! ### maps -/
theorem keyD_checks {P : Program} {w : World} {k : AV} {d : TypeDesc} {t : TypeId} (hd : P.underlying t = some d) (hk : keyD k d = true) (b : Bool) (n : Nat) (v : Value) : (Instr.checkKey b (n + 1) t v).run P w = .ok () w := by
  unfold Instr.checkKey
  simp only [Sem.run_bind, run_und hd, Result.andThen_ok]
  cases d <;> first | (cases hk; done) | (cases v <;> rfl)

theorem sameNow_ok {φ : Loc} {k k' : AV} {d : TypeDesc} {b : Bool} {u u' : Value} (hk : keyD k d = true) (h : cellEq k k' = some b) (hu : VR E φ k u) (hu' : VR E φ k' u') :
    Instr.sameNow d u u' = some b ∧ (b = true → u' = u ∧ Instr.sameBits 10000 u' u = true) := by
  unfold cellEq at h
  split at h
  · rename_i j x
    split at h
    · rename_i j' y
      cases hj : ikEq j j' with
      | false => rw [hj] at h; cases h
      | true =>
        rw [hj] at h
        have hj := (ikEq_iff _ _).1 hj
        subst hj
        cases h
        simp only [VR] at hu hu'
        subst hu hu'
        rw [intEq_eq]
        refine ⟨?_, fun hxy => ?_⟩
        · cases d <;> first | (cases hk; done) | simp [Instr.sameNow]
        · have : x = y := by simpa using hxy
          subst this
          exact ⟨rfl, by unfold Instr.sameBits; simp⟩
    · cases h
  · rename_i x
    split at h
    · rename_i y
      cases h
      simp only [VR] at hu hu'
      subst hu hu'
      refine ⟨?_, fun hxy => ?_⟩
      · cases d <;> first | (cases hk; done) | (cases x <;> cases y <;> rfl)
      · have : x = y := by cases x <;> cases y <;> first | rfl | cases hxy
        subst this
        exact ⟨rfl, by unfold Instr.sameBits; simp⟩
    · cases h
  · rename_i x
    split at h
    · rename_i y
      cases h
      simp only [VR] at hu hu'
      subst hu hu'
      rw [strEq_eq]
      refine ⟨?_, fun hxy => ?_⟩
      · cases d <;> first
          | (cases hk; done)
          | (simp only [Instr.sameNow]
             congr 1
             rw [Bool.eq_iff_iff, beq_toListBytes]
             simp [ByteArray.toList_eq])
      · have : x = y := by simpa using hxy
        subst this
        exact ⟨rfl, by unfold Instr.sameBits; simp [beq_toListBytes]⟩
    · cases h
  · cases h

theorem aFind_cons (k : AV) (p : Ent) (l : List Ent) : aFind k (p :: l) = (match cellEq k p.k with | some true => some (some p.v) | some false => aFind k l | none => none) := rfl
theorem aSet_cons (k v : AV) (p : Ent) (l : List Ent) : aSet k v (p :: l) = (match cellEq k p.k with | some true => ⟨p.k, v, p.born⟩ :: l | _ => p :: aSet k v l) := rfl
theorem aDel_cons (k : AV) (p : Ent) (l : List Ent) : aDel k (p :: l) = (match cellEq k p.k with | some true => l | _ => p :: aDel k l) := rfl

/-- the search in a map -/
theorem find_ok {φ : Loc} {k : AV} {d : TypeDesc} {kv : Value} (hk : keyD k d = true) (hu : VR E φ k kv) : ∀ (es : List Ent) (m : List MapEntry) (r : Option AV) (j : Nat), EntsR E φ es m → aFind k es = some r →
    match r with
    | none => Instr.findNow d kv m j = some none ∧ aDel k es = es
    | some v => ∃ i en x, es[i]? = some en ∧ m[i]? = some x ∧ en.v = v ∧ Instr.findNow d kv m j = some (some (j + i, x.val)) ∧ x.key = kv ∧ Instr.sameBits 10000 x.key kv = true ∧ VR E φ v x.val ∧
        (∀ v', aSet k v' es = es.set i ⟨en.k, v', en.born⟩) ∧ aDel k es = es.eraseIdx i
  | [], m, r, j, hm, h => by
    simp only [EntsR] at hm; subst hm
    cases h; exact ⟨rfl, rfl⟩
  | p :: es, m, r, j, hm, h => by
    simp only [EntsR] at hm
    obtain ⟨x, m, rfl, ⟨h1, h2, h3⟩, hm⟩ := hm
    rw [aFind_cons] at h
    cases hc : cellEq k p.k with
    | none => rw [hc] at h; cases h
    | some b =>
      rw [hc] at h
      obtain ⟨hs, he⟩ := sameNow_ok hk hc hu h1
      cases b with
      | true =>
        cases h
        obtain ⟨e1, e2⟩ := he rfl
        refine ⟨0, p, x, rfl, rfl, rfl, ?_, e1, e2, h2, fun v' => ?_, ?_⟩
        · simp [Instr.findNow, hs]
        · rw [aSet_cons, hc]; rfl
        · rw [aDel_cons, hc]; rfl
      | false =>
        have ih := find_ok hk hu es m r (j + 1) hm h
        have hf : Instr.findNow d kv (x :: m) j = Instr.findNow d kv m (j + 1) := by simp [Instr.findNow, hs]
        cases r with
        | none => exact ⟨hf.trans ih.1, by rw [aDel_cons, hc, ih.2]⟩
        | some v =>
          obtain ⟨i, en, y, g1, g2, g3, g4, g5, g6, g7, g8, g9⟩ := ih
          refine ⟨i + 1, en, y, by simpa using g1, by simpa using g2, g3, ?_, g5, g6, g7, fun v' => ?_, ?_⟩
          · rw [hf, g4]; congr 3; omega
          · rw [aSet_cons, hc, List.set_cons_succ, g8]
          · rw [aDel_cons, hc, List.eraseIdx_cons_succ, g9]

theorem run_findKey {P : Program} {w : World} {t : TypeId} {d : TypeDesc} {kv : Value} {m : List MapEntry} {r : Option (Nat × Value)} (hd : P.underlying t = some d) (h : Instr.findNow d kv m 0 = some r) : (Instr.findKey t kv m).run P w = .ok r w := by
  unfold Instr.findKey
  simp only [Sem.run_bind, run_und hd, Result.andThen_ok, h, Sem.run_pure]

theorem mapElem_ok (T : TabOk E) {k : AV} {K : TypeId → Out} {d : TypeDesc} (g : mapElem E k K d = .ok e ts' h c) : ∃ kt el kd, d = .map kt el ∧ E.P.underlying kt = some kd ∧ keyD k kd = true ∧ K el = .ok e ts' h c := by
  unfold mapElem at g
  split at g
  · obtain ⟨kd, hk, g⟩ := und_ok T g
    obtain ⟨hn, g⟩ := guardB_ok g
    exact ⟨_, _, kd, rfl, hk, hn, g⟩
  · cases g
theorem okTup_VR {φ : Loc} {ok b : Bool} {v : AV} {u : Value} (h : VR E φ v u) : VR E φ (okTup ok b v) (if ok then .tuple #[u, .bool b] else u) := by
  cases ok
  · exact h
  · exact ⟨#[u, .bool b], rfl, VRL_cons h (VRL_cons rfl VRL_nil)⟩

theorem ok_lookup (T : TabOk E) (ht : TR E φ ts a.tmps) {t : TypeId} {x ix : Operand} {ok : Bool} (ho : o.op = .lookup t x ix ok) (g : cLookup t x ix ok E ts K = .ok e ts' h c) : Good E φ o a K e ts' h c := by
  have he : execOp a.eval o = (do pure (Next.value (← Instr.lookup t (a.eval x) (a.eval ix) ok))) := by unfold execOp; rw [ho]
  have hx := eval_VR ht x
  have hi := eval_VR ht ix
  unfold cLookup at g
  obtain ⟨d, hd, g⟩ := und_ok T g
  obtain ⟨kt, el, kd, rfl, hkd, hk, g⟩ := mapElem_ok T g
  obtain ⟨inf, z, hinf, hz, g⟩ := zero_ok T g
  unfold lookM at g
  split at g
  · rename_i hxe
    rw [hxe] at hx; simp only [VR] at hx
    refine good_val (u := if ok then .tuple #[z, .bool false] else z) g (okTup_VR (ofValue_VR E φ z)) he (fun w => ?_)
    unfold Instr.lookup
    have hf : Instr.findNow kd (a.eval ix) [] 0 = some none := rfl
    simp only [Sem.run_bind, run_und hd, Result.andThen_ok, hx, Sem.run_pure, keyD_checks hkd hk, run_findKey hkd hf, run_zero hinf hz]
  · rename_i b hxe
    rw [hxe] at hx
    obtain ⟨B, N, hb, hx⟩ := hx
    refine ⟨_, g, fun K' ao e' ts2 h2 c2 g2 => ?_⟩
    unfold rdMap at g2
    split at g2
    · rename_i es clock
      unfold foundK at g2
      split at g2
      · rename_i r hr
        have main : ∀ (φ' : Loc) (w : World) (v : AV) (bb : Bool), φ.le φ' → OR E φ' w b (.map es clock) → (∀ ents : Array MapEntry, EntsR E φ' es ents.toList → ∃ u, VR E φ' v u ∧
            ((∃ i, bb = true ∧ Instr.findNow kd (a.eval ix) ents.toList 0 = some (some (i, u))) ∨ (bb = false ∧ u = z ∧ Instr.findNow kd (a.eval ix) ents.toList 0 = some none))) →
            ∃ u, VR E φ' (okTup ok bb v) u ∧ Runs E.P o a w u w := by
          intro φ' w v bb hle hor hm
          obtain ⟨B', N', ents, hb', hw, hents⟩ := hor
          rw [hle _ _ hb] at hb'; cases hb'
          obtain ⟨u, hu, hrun⟩ := hm ents hents
          refine ⟨_, okTup_VR hu, .inl ?_⟩
          have hg : (getObj B).run E.P w = .ok (.map ents clock) w := by simp [getObj, Sem.run, hw]
          rw [he]
          unfold Instr.lookup
          rcases hrun with ⟨i, rfl, hf⟩ | ⟨rfl, rfl, hf⟩
          · simp only [Sem.run_bind, run_und hd, Result.andThen_ok, hx, hg, Sem.run_pure, keyD_checks hkd hk, run_findKey hkd hf]
          · simp only [Sem.run_bind, run_und hd, Result.andThen_ok, hx, hg, Sem.run_pure, keyD_checks hkd hk, run_findKey hkd hf, run_zero hinf hz]
        split at g2
        · rename_i v
          refine ⟨_, _, rfl, g2, fun φ' w hle hor => main φ' w v true hle hor fun ents hents => ?_⟩
          obtain ⟨i, en, y, q1, q2, q3, q4, q5, q6, q7, q8, q9⟩ := find_ok hk (VR.mono hle _ _ hi) es ents.toList _ 0 hents hr
          exact ⟨y.val, q7, .inl ⟨_, rfl, q4⟩⟩
        · refine ⟨_, _, rfl, g2, fun φ' w hle hor => main φ' w _ false hle hor fun ents hents => ?_⟩
          have q := find_ok hk (VR.mono hle _ _ hi) es ents.toList _ 0 hents hr
          exact ⟨z, ofValue_VR E φ' z, .inr ⟨rfl, rfl, q.1⟩⟩
      · cases g2
    · cases g2
  · cases g
end
end Go.AE
namespace Go.AE
section
variable {E : Env} {φ : Loc} {o : Oper} {a : Act} {ts : Tm} {K : Kc} {e : Ex} {ts' : Tm} {h : Hs} {c : Nat}

theorem ex_builtin {cl : Call} {b : Builtin} (ho : o.op = .call cl) (hb : cl.callee = .builtin b) :
    ∃ cs, execOp a.eval o = builtin b cl.argTypes o.type cs (cl.args.map a.eval) := by
  refine ⟨cl.args.map fun | .const _ => true | _ => false, ?_⟩
  unfold execOp; rw [ho]
  simp only [resolve, hb]
  rfl
theorem arg_ok (ht : TR E φ ts a.tmps) {args : Array Operand} {i : Nat} {K : AV → Out} (g : arg args.toList i ts K = .ok e ts' h c) :
    ∃ x, (args.map a.eval)[i]? = some (a.eval x) ∧ VR E φ (evalO x ts) (a.eval x) ∧ K (evalO x ts) = .ok e ts' h c := by
  unfold arg at g
  split at g
  · rename_i x hx
    rw [kidx_eq] at hx
    have hx' : args[i]? = some x := by simpa using hx
    exact ⟨x, by simp [hx'], eval_VR ht x, g⟩
  · cases g
theorem argTy_ok {tys : Array TypeId} {i : Nat} {K : TypeId → Out} (g : argTy tys.toList i K = .ok e ts' h c) : ∃ t, tys[i]? = some t ∧ K t = .ok e ts' h c := by
  unfold argTy at g
  split at g
  · rename_i x hx
    rw [kidx_eq] at hx
    exact ⟨x, by simpa using hx, g⟩
  · cases g

theorem run_getMap {P : Program} {w : World} {B : Nat} {ents : Array MapEntry} {n : Nat} (h : w.heap[B]? = some (.map ents n)) : (getObj B).run P w = .ok (.map ents n) w := by simp [getObj, Sem.run, h]
theorem run_getChan {P : Program} {w : World} {B n s r : Nat} {vs : Array Value} {cl tm : Bool} (h : w.heap[B]? = some (.chan n vs cl s r tm)) : (getObj B).run P w = .ok (.chan n vs cl s r tm) w := by simp [getObj, Sem.run, h]
theorem EntsR.length {E : Env} {φ : Loc} : ∀ (l : List Ent) (m : List MapEntry), EntsR E φ l m → m.length = l.length := by
  intro l
  induction l with
  | nil => intro m hm; simp only [EntsR] at hm; subst hm; rfl
  | cons p l ih => intro m hm; simp only [EntsR] at hm; obtain ⟨x, r, rfl, _, hm⟩ := hm; simp [ih r hm]

variable {cl : Call}

theorem ok_len (T : TabOk E) (ht : TR E φ ts a.tmps) (ho : o.op = .call cl) (hb : cl.callee = .builtin .len) (g : cLen cl.args.toList cl.argTypes.toList E ts K = .ok e ts' h c) : Good E φ o a K e ts' h c := by
  obtain ⟨cs, he⟩ := ex_builtin (a := a) ho hb
  unfold cLen at g
  obtain ⟨t, hty, g⟩ := argTy_ok g
  obtain ⟨x, hax, hx, g⟩ := arg_ok ht g
  obtain ⟨d, hd, g⟩ := und_ok T g
  have hr : execOp a.eval o = (do pure (Next.value (← Builtin.len_ cl.argTypes o.type (cl.args.map a.eval)))) := he
  have val : ∀ (n : Nat), K (.val (intV n)) = .ok e ts' h c → (∀ w, (Builtin.len_ cl.argTypes o.type (cl.args.map a.eval)).run E.P w = .ok (goInt n) w) → Good E φ o a K e ts' h c := fun n g hs =>
    good_val (u := goInt n) g rfl hr hs
  unfold lenD at g
  split at g
  · split at g
    · rename_i s hxe
      rw [hxe] at hx; simp only [VR] at hx
      refine val _ g fun w => ?_
      rw [lenL_eq]
      unfold Builtin.len_
      simp only [hty, hax, hx, Sem.run_bind, run_und hd, Result.andThen_ok, Sem.run_pure]
      rfl
    · cases g
  · split at g
    · rename_i hxe
      rw [hxe] at hx; simp only [VR] at hx
      refine val 0 g fun w => ?_
      unfold Builtin.len_
      simp only [hty, hax, hx, Sem.run_bind, run_und hd, Result.andThen_ok, Sem.run_pure]
    · rename_i hxe
      rw [hxe] at hx
      obtain ⟨B, N, ad, cap', hb, hx, _⟩ := hx
      refine val _ g fun w => ?_
      unfold Builtin.len_
      simp only [hty, hax, hx, Sem.run_bind, run_und hd, Result.andThen_ok, Sem.run_pure]
    · cases g
  · rename_i n el
    refine val n g fun w => ?_
    unfold Builtin.len_
    simp only [hty, hax, Sem.run_bind, run_und hd, Result.andThen_ok, Sem.run_pure]
  · split at g
    · rename_i hxe
      rw [hxe] at hx; simp only [VR] at hx
      refine val 0 g fun w => ?_
      unfold Builtin.len_
      simp only [hty, hax, hx, Sem.run_bind, run_und hd, Result.andThen_ok, Sem.run_pure]
      rfl
    · rename_i b hxe
      rw [hxe] at hx
      obtain ⟨B, N, hb, hx⟩ := hx
      refine ⟨_, g, fun K' ao e' ts2 h2 c2 g2 => ?_⟩
      unfold rdLenM at g2
      split at g2
      · rename_i es clock
        refine ⟨_, _, rfl, g2, fun φ' w hle hor => ?_⟩
        obtain ⟨B', N', ents, hb', hw, hents⟩ := hor
        rw [hle _ _ hb] at hb'; cases hb'
        have hl : ents.size = lenL es := by rw [lenL_eq]; simpa using EntsR.length es ents.toList hents
        refine ⟨goInt (lenL es), rfl, .inl ?_⟩
        rw [hr, ← hl]
        unfold Builtin.len_
        simp only [hty, hax, hx, Sem.run_bind, run_und hd, Result.andThen_ok, Sem.run_pure, run_getMap hw]
      · cases g2
    · cases g
  · split at g
    · rename_i hxe
      rw [hxe] at hx; simp only [VR] at hx
      refine val 0 g fun w => ?_
      unfold Builtin.len_
      simp only [hty, hax, hx, Sem.run_bind, run_und hd, Result.andThen_ok, Sem.run_pure]
      rfl
    · rename_i b hxe
      rw [hxe] at hx
      obtain ⟨B, N, hb, hx⟩ := hx
      refine ⟨_, g, fun K' ao e' ts2 h2 c2 g2 => ?_⟩
      unfold rdLenC at g2
      split at g2
      · rename_i cap buf
        refine ⟨_, _, rfl, g2, fun φ' w hle hor => ?_⟩
        obtain ⟨B', N', vs, s, r, hb', hw, hvs⟩ := hor
        rw [hle _ _ hb] at hb'; cases hb'
        have hl : vs.size = lenL buf := by rw [lenL_eq]; simpa using hvs.length
        refine ⟨goInt (lenL buf), rfl, .inl ?_⟩
        rw [hr, ← hl]
        unfold Builtin.len_
        simp only [hty, hax, hx, Sem.run_bind, run_und hd, Result.andThen_ok, Sem.run_pure, run_getChan hw, Bool.false_eq_true, if_false]
      · cases g2
    · cases g
  · cases g

theorem ok_cap (T : TabOk E) (ht : TR E φ ts a.tmps) (ho : o.op = .call cl) (hb : cl.callee = .builtin .cap) (g : cCap cl.args.toList cl.argTypes.toList E ts K = .ok e ts' h c) : Good E φ o a K e ts' h c := by
  obtain ⟨cs, he⟩ := ex_builtin (a := a) ho hb
  unfold cCap at g
  obtain ⟨t, hty, g⟩ := argTy_ok g
  obtain ⟨x, hax, hx, g⟩ := arg_ok ht g
  obtain ⟨d, hd, g⟩ := und_ok T g
  have hr : execOp a.eval o = (do pure (Next.value (← Builtin.cap_ cl.argTypes o.type (cl.args.map a.eval)))) := he
  have val : ∀ (n : Nat), K (.val (intV n)) = .ok e ts' h c → (∀ w, (Builtin.cap_ cl.argTypes o.type (cl.args.map a.eval)).run E.P w = .ok (goInt n) w) → Good E φ o a K e ts' h c := fun n g hs =>
    good_val (u := goInt n) g rfl hr hs
  unfold capD at g
  split at g
  · split at g
    · rename_i hxe
      rw [hxe] at hx; simp only [VR] at hx
      refine val 0 g fun w => ?_
      unfold Builtin.cap_
      simp only [hty, hax, hx, Sem.run_bind, run_und hd, Result.andThen_ok, Sem.run_pure]
    · rename_i hxe
      rw [hxe] at hx
      obtain ⟨B, N, ad, cap', hb, hx, _, _, hex, _⟩ := hx
      obtain ⟨h1, g⟩ := guardB_ok g
      refine val _ g fun w => ?_
      unfold Builtin.cap_
      simp only [hty, hax, hx, Sem.run_bind, run_und hd, Result.andThen_ok, Sem.run_pure, hex h1]
    · cases g
  · split at g
    · rename_i hxe
      rw [hxe] at hx; simp only [VR] at hx
      refine val 0 g fun w => ?_
      unfold Builtin.cap_
      simp only [hty, hax, hx, Sem.run_bind, run_und hd, Result.andThen_ok, Sem.run_pure]
      rfl
    · rename_i b hxe
      rw [hxe] at hx
      obtain ⟨B, N, hb, hx⟩ := hx
      refine ⟨_, g, fun K' ao e' ts2 h2 c2 g2 => ?_⟩
      unfold rdCap at g2
      split at g2
      · rename_i n buf
        refine ⟨_, _, rfl, g2, fun φ' w hle hor => ?_⟩
        obtain ⟨B', N', vs, s, r, hb', hw, hvs⟩ := hor
        rw [hle _ _ hb] at hb'; cases hb'
        refine ⟨goInt n, rfl, .inl ?_⟩
        rw [hr]
        unfold Builtin.cap_
        simp only [hty, hax, hx, Sem.run_bind, run_und hd, Result.andThen_ok, Sem.run_pure, run_getChan hw, Bool.false_eq_true, if_false]
      · cases g2
    · cases g
  · cases g

theorem two_args {args : Array Operand} (h : Nat.beq (lenL args.toList) (nat_lit 2) = true) {x y : Value} (hx : (args.map a.eval)[0]? = some x) (hy : (args.map a.eval)[1]? = some y) : (args.map a.eval).toList = [x, y] := by
  have h := Nat.eq_of_beq_eq_true h
  rw [lenL_eq] at h
  have h2 : (args.map a.eval).toList.length = 2 := by simpa using h
  generalize (args.map a.eval) = A at *
  obtain ⟨l⟩ := A
  match l, h2 with
  | [p, q], _ => simp at hx hy; simp [hx, hy]
theorem ok_minmax (ht : TR E φ ts a.tmps) {mx : Bool} (ho : o.op = .call cl) (hb : cl.callee = .builtin (if mx then .max else .min)) (g : cMinmax mx cl.args.toList cl.argTypes.toList E ts K = .ok e ts' h c) : Good E φ o a K e ts' h c := by
  obtain ⟨cs, he⟩ := ex_builtin (a := a) ho hb
  unfold cMinmax at g
  obtain ⟨h2, g⟩ := guardB_ok g
  obtain ⟨x, hax, hx, g⟩ := arg_ok ht g
  obtain ⟨y, hay, hy, g⟩ := arg_ok ht g
  unfold minmax at g
  split at g
  · rename_i k p hxe
    split at g
    · rename_i k' q hye
      rw [hxe] at hx; rw [hye] at hy
      simp only [VR] at hx hy
      obtain ⟨hk, g2⟩ := guardB_ok g
      have hk := (ikEq_iff _ _).1 hk
      subst hk
      have hl := two_args h2 hax hay
      rw [hx, hy] at hl
      cases mx with
      | true =>
        refine good_val (u := .int k (if q > p then q else p)) g2 ?_ he (fun w => ?_)
        · show Value.int k _ = Value.int k (mmV true (intLe p q) p q)
          congr 1
          unfold mmV
          rw [intLe_eq]
          by_cases hpq : p ≤ q
          · simp only [hpq, decide_true]
            by_cases hlt : q > p
            · rw [if_pos hlt]
            · rw [if_neg hlt]; omega
          · simp only [hpq, decide_false]
            rw [if_neg (by omega)]
        · unfold Builtin.max_
          rw [hl]; simp [Builtin.max2]
      | false =>
        refine good_val (u := .int k (if q < p then q else p)) g2 ?_ he (fun w => ?_)
        · show Value.int k _ = Value.int k (mmV false (intLe p q) p q)
          congr 1
          unfold mmV
          rw [intLe_eq]
          by_cases hpq : p ≤ q
          · simp only [hpq, decide_true]
            rw [if_neg (by omega)]
          · simp only [hpq, decide_false]
            rw [if_pos (by omega)]
        · unfold Builtin.min_
          rw [hl]; simp [Builtin.min2]
    · cases g
  · cases g
end
end Go.AE
namespace Go.AE
section
variable {E : Env} {φ : Loc} {o : Oper} {a : Act} {ts : Tm} {K : Kc} {e : Ex} {ts' : Tm} {h : Hs} {c : Nat}

theorem layA_VRL {zl l : List AV} {C : Array Value} {us : List Value} {off : Nat} (hz : VRL E φ zl C.toList) (hl : VRL E φ l us) (hoff : off + l.length ≤ zl.length) :
    VRL E φ (splice l off zl) (layA C off us).toList := by
  have e1 := hz.length
  have e2 := hl.length
  have e3 : C.size = zl.length := by simpa using e1
  rw [splice_eq l off zl (by omega)]
  refine VRL.of_get (by simp [size_layA]; omega) fun i x v hx hv => ?_
  rw [Array.getElem?_toList, get_layA _ _ _ _ (by omega)] at hv
  split at hv
  · rename_i hin
    rw [List.append_assoc, List.getElem?_append_right (by simp; omega), List.getElem?_append_left (by simp; omega)] at hx
    rw [List.length_take, Nat.min_eq_left (by omega)] at hx
    obtain ⟨u, hu, hr⟩ := hl.get hx
    rw [hu] at hv; cases hv; exact hr
  · rename_i hin
    rw [← Array.getElem?_toList] at hv
    have hx' : zl[i]? = some x := by
      by_cases hlt : i < off
      · rw [List.append_assoc, List.getElem?_append_left (by simp; omega), List.getElem?_take, if_pos hlt] at hx; exact hx
      · rw [List.getElem?_append_right (by simp; omega), List.getElem?_drop] at hx
        rw [← hx]; congr 1; simp; omega
    obtain ⟨u, hu, hr⟩ := hz.get hx'
    rw [hu] at hv; cases hv; exact hr
theorem layA_one {C : Array Value} {us : List Value} {off : Nat} (hC : ∀ x ∈ C.toList, one x = true) (hu : ∀ x ∈ us, one x = true) (hoff : off + us.length ≤ C.size) : ∀ x ∈ (layA C off us).toList, one x = true := by
  intro x hx
  obtain ⟨i, hi⟩ := List.getElem?_of_mem hx
  rw [Array.getElem?_toList, get_layA _ _ _ _ hoff] at hi
  split at hi
  · exact hu x (List.mem_of_getElem? hi)
  · exact hC x (by rw [← Array.getElem?_toList] at hi; exact List.mem_of_getElem? hi)

theorem foldl_layA (off : Nat) : ∀ (us : List Value) (j : Nat) (C : Array Value), (us.zipIdx j).foldl (fun cs (p : Value × Nat) => cs.setIfInBounds (off + p.2) p.1) C = layA C (off + j) us
  | [], _, _ => rfl
  | u :: us, j, C => by
    rw [List.zipIdx_cons, List.foldl_cons, foldl_layA off us (j + 1)]
    rfl
theorem fill_cons (place : Nat → Option (Nat × Nat)) (C : Array Value) (i : Nat) (v : Value) (rest : List (Nat × Value)) {off size : Nat} (hp : place i = some (off, size)) (hs : v.cells.size = size) (ho : off + size ≤ C.size) :
    Instr.fill place C ((i, v) :: rest) = Instr.fill place (layA C off v.cells.toList) rest := by
  have h1 : ¬ (v.cells.size ≠ size) := by simp [hs]
  have h2 : ¬ (off + v.cells.size > C.size) := by omega
  rw [Instr.fill, hp]
  simp only [h1, h2, decide_false, Bool.false_or, Bool.false_eq_true, if_false]
  congr 1
  have := foldl_layA off v.cells.toList 0 C
  rw [Nat.add_zero] at this
  rw [← this, ← Array.foldl_toList, Array.toList_zipIdx]

theorem fillParts_ok {d : TypeDesc} (ht : TR E φ ts a.tmps) (pl : Nat → Option (Nat × Nat))
    (hp : ∀ (i : Nat) (K : Nat → Nat → Out), place E i K d = .ok e ts' h c → ∃ off n, pl i = some (off, n) ∧ K off n = .ok e ts' h c) :
    ∀ (l : List (Nat × Operand)) (zl : List AV) (Z : Array Value) (K : List AV → Out), VRL E φ zl Z.toList → (∀ x ∈ Z.toList, one x = true) → fillParts E d ts l zl K = .ok e ts' h c →
      ∃ l' Z', K l' = .ok e ts' h c ∧ Instr.fill pl Z (l.map fun p => (p.1, a.eval p.2)) = some Z' ∧ VRL E φ l' Z'.toList ∧ ∀ x ∈ Z'.toList, one x = true
  | [], zl, Z, K, hz, h1, g => ⟨zl, Z, g, rfl, hz, h1⟩
  | p :: l, zl, Z, K, hz, h1, g => by
    have g' : place E p.1 (fun off size => cellsK (evalO p.2 ts) 258 (fillPart off size zl fun z => fillParts E d ts l z K)) d = .ok e ts' h c := g
    obtain ⟨off, n, hpl, g'⟩ := hp _ _ g'
    obtain ⟨cl, g', hcl⟩ := cellsK_ok g'
    unfold fillPart at g'
    obtain ⟨hn, g'⟩ := guardB_ok g'
    have hn : lenL cl = n := Nat.eq_of_beq_eq_true hn
    rw [lenL_eq] at hn
    obtain ⟨ho, g'⟩ := guardB_ok g'
    have ho : off + n ≤ lenL zl := Nat.le_of_ble_eq_true ho
    rw [lenL_eq] at ho
    obtain ⟨r1, r2⟩ := hcl E φ _ (eval_VR ht p.2)
    have e1 := hz.length
    have e2 := r1.length
    have e3 : Z.size = zl.length := by simpa using e1
    have e4 : (a.eval p.2).cells.size = n := by rw [← hn]; simpa using e2
    obtain ⟨l', Z', g2, hf, hv, ho'⟩ := fillParts_ok ht pl hp l _ (layA Z off (a.eval p.2).cells.toList) K (layA_VRL hz r1 (by omega)) (layA_one h1 r2 (by rw [e2]; omega)) g'
    refine ⟨l', Z', g2, ?_, hv, ho'⟩
    rw [List.map_cons, fill_cons pl Z _ _ _ hpl e4 (by omega)]
    exact hf

theorem known_ok (T : TabOk E) {t : TypeId} (h : known E t = true) : ∃ i, E.P.info? t = some i := by
  unfold known at h
  split at h
  · rename_i i hi; exact ⟨i, T.ty t i hi⟩
  · cases h
theorem places_ok (T : TabOk E) : ∀ (fs : List Field), (∀ f ∈ fs, known E f.type = true) → ∃ pl : List (Nat × Nat), fs.mapM (fun f => (E.P.info? f.type).map fun i => (f.offset, i.size)) = some pl ∧
    ∀ (i : Nat) (f : Field), fs[i]? = some f → ∃ inf, E.P.info? f.type = some inf ∧ pl[i]? = some (f.offset, inf.size)
  | [], _ => ⟨[], rfl, fun i f h => by simp at h⟩
  | f :: fs, hk => by
    obtain ⟨pl, h1, h2⟩ := places_ok T fs fun f hf => hk f (List.mem_cons_of_mem _ hf)
    obtain ⟨inf, hi⟩ := known_ok T (hk f (List.mem_cons_self ..))
    refine ⟨(f.offset, inf.size) :: pl, by simp [List.mapM_cons, hi, h1], fun i f' hf => ?_⟩
    cases i with
    | zero => simp at hf; subst hf; exact ⟨inf, hi, rfl⟩
    | succ i => simp at hf; simpa using h2 i f' hf

theorem ok_build (T : TabOk E) (ht : TR E φ ts a.tmps) {t : TypeId} {parts : Array (Nat × Operand)} (ho : o.op = .build t parts) (g : cBuild t parts E ts K = .ok e ts' h c) : Good E φ o a K e ts' h c := by
  have he : execOp a.eval o = (do pure (Next.value (← Instr.build t (parts.map fun (i, x) => (i, a.eval x))))) := by unfold execOp; rw [ho]
  unfold cBuild at g
  obtain ⟨i, z, hi, hz, g⟩ := zero_ok T g
  obtain ⟨d, hd, g⟩ := und_ok T g
  obtain ⟨hk, g⟩ := guardB_ok g
  obtain ⟨zl, g, hzl⟩ := cellsK_ok g
  obtain ⟨r1, r2⟩ := hzl E φ z (ofValue_VR E φ z)
  have hmap : (parts.map fun (i, x) => (i, a.eval x)).toList = parts.toList.map fun p => (p.1, a.eval p.2) := by simp
  have done : ∀ (l' : List AV) (Z' : Array Value), K (.val (.agg l')) = .ok e ts' h c → VRL E φ l' Z'.toList → (∀ x ∈ Z'.toList, one x = true) → E.P.built t (parts.map fun (i, x) => (i, a.eval x)).toList = some Z' → Good E φ o a K e ts' h c :=
    fun l' Z' g h1 h2 hb => good_val (u := .agg Z') g ⟨Z', rfl, h1, h2⟩ he fun w => run_build w t _ Z' hb
  cases d with
  | struct fs =>
    obtain ⟨pl, p1, p2⟩ := places_ok T fs.toList ((allL_iff _ _).1 hk)
    obtain ⟨l', Z', g, hf, h1, h2⟩ := fillParts_ok (d := .struct fs) ht (pl.toArray[·]?) (fun i K g => by
      unfold place at g
      cases hfi : kidx i fs.toList with
      | none => simp only [hfi] at g; cases g
      | some f =>
        simp only [hfi] at g
        rw [kidx_eq] at hfi
        obtain ⟨inf, q1, q2⟩ := p2 i f hfi
        obtain ⟨inf', q3, g⟩ := size_ok T g
        rw [q1] at q3; cases q3
        exact ⟨_, _, by simpa using q2, g⟩) parts.toList zl z.cells _ r1 r2 g
    refine done l' Z' g h1 h2 ?_
    unfold Program.built
    simp only [hi, hd, hz, p1, hmap]
    exact hf
  | array n el =>
    have hinf : ∀ (i : Nat) (K : Nat → Nat → Out), place E i K (.array n el) = .ok e ts' h c → ∃ inf, E.P.info? el = some inf ∧ K (i * inf.size) inf.size = .ok e ts' h c := fun i K g => size_ok T g
    obtain ⟨inf, hie⟩ := known_ok T (show known E el = true from hk)
    · obtain ⟨l', Z', g, hf, h1, h2⟩ := fillParts_ok (d := .array n el) ht (fun i => some (i * inf.size, inf.size)) (fun i K g => by
        obtain ⟨inf', q, g⟩ := hinf i K g
        rw [hie] at q; cases q
        exact ⟨_, _, rfl, g⟩) parts.toList zl z.cells _ r1 r2 g
      refine done l' Z' g h1 h2 ?_
      unfold Program.built
      simp only [hi, hd, hz, hie, hmap]
      exact hf
  | _ => cases hk

/-! ### slice literals -/
/-- the elements laid so far -/
theorem fillElems_ok (ht : TR E φ ts a.tmps) {sz len : Nat} {zl : List AV} (hsz : 0 < sz) :
    ∀ (l : List (Nat × Operand)) (r : T (List AV)) (Z : Array Value) (K : T (List AV) → Out), RowR E φ (len * sz) sz zl r Z → Z.size = len * sz → (∀ x ∈ Z.toList, one x = true) → fillElems sz len ts l r K = .ok e ts' h c →
      ∃ r' Z', K r' = .ok e ts' h c ∧ Instr.fill (fun i => some (i * sz, sz)) Z (l.map fun p => (p.1, a.eval p.2)) = some Z' ∧ RowR E φ (len * sz) sz zl r' Z' ∧ Z'.size = len * sz
  | [], r, Z, K, hr, hZ, h1, g => ⟨r, Z, g, rfl, hr, hZ⟩
  | p :: l, r, Z, K, hr, hZ, h1, g => by
    have g' : guardB (Nat.blt p.1 len) 259 (cellsK (evalO p.2 ts) 260 (fillElem sz p.1 r fun t => fillElems sz len ts l t K)) = .ok e ts' h c := g
    obtain ⟨hp, g'⟩ := guardB_ok g'
    have hp : p.1 < len := Nat.blt_eq.mp hp
    obtain ⟨cl, g', hcl⟩ := cellsK_ok g'
    unfold fillElem at g'
    obtain ⟨hn, g'⟩ := guardB_ok g'
    have hn : lenL cl = sz := Nat.eq_of_beq_eq_true hn
    rw [lenL_eq] at hn
    rw [ins_eq] at g'
    obtain ⟨r1, r2⟩ := hcl E φ _ (eval_VR ht p.2)
    have e2 := r1.length
    have e4 : (a.eval p.2).cells.size = sz := by rw [← hn]; simpa using e2
    have hle : p.1 * sz + sz ≤ len * sz := by
      have : (p.1 + 1) * sz ≤ len * sz := Nat.mul_le_mul_right _ hp
      rw [Nat.add_mul] at this; omega
    have hdiv : p.1 * sz / sz = p.1 := Nat.mul_div_cancel _ hsz
    have hmod : p.1 * sz % sz = 0 := Nat.mul_mod_left ..
    have hput := hr.put (o := p.1 * sz) (l := cl) (us := (a.eval p.2).cells.toList) (by omega) (by omega) r1 r2 cl (fun _ => by
      have hel := hr.2.2.1 p.1 (by omega)
      rw [hdiv, hmod]; simp [hel, hn])
    rw [hdiv] at hput
    obtain ⟨r', Z', g2, hf, hv, ho'⟩ := fillElems_ok ht hsz l _ (layA Z (p.1 * sz) (a.eval p.2).cells.toList) K hput (by rw [size_layA]; exact hZ) (layA_one h1 r2 (by rw [e2]; omega)) g'
    refine ⟨r', Z', g2, ?_, hv, ho'⟩
    rw [List.map_cons, fill_cons _ Z _ _ _ rfl e4 (by omega)]
    exact hf

theorem ok_buildSlice (T : TabOk E) (ht : TR E φ ts a.tmps) {t : TypeId} {len : Nat} {parts : Array (Nat × Operand)} (ho : o.op = .buildSlice t len parts) (g : cBuildSlice t len parts E ts K = .ok e ts' h c) : Good E φ o a K e ts' h c := by
  have he : execOp a.eval o = (do pure (Next.value (← Instr.buildSlice t len (parts.map fun (i, x) => (i, a.eval x))))) := by unfold execOp; rw [ho]
  unfold cBuildSlice at g
  obtain ⟨d, hd, g⟩ := und_ok T g
  obtain ⟨el, i, rfl, hi, h0, g⟩ := elemK_ok T g
  obtain ⟨i', z, hi', hz, g⟩ := zero_ok T g
  rw [hi] at hi'; cases hi'
  obtain ⟨zl, g, hzl⟩ := cellsK_ok g
  obtain ⟨hn, g⟩ := guardB_ok g
  have hn : lenL zl = i.size := Nat.eq_of_beq_eq_true hn
  rw [lenL_eq] at hn
  obtain ⟨hsm, g⟩ := guardB_ok g
  have hsm : len * i.size ≤ 16777216 := Nat.le_of_ble_eq_true hsm
  obtain ⟨r1, r2⟩ := hzl E φ z (ofValue_VR E φ z)
  obtain ⟨r3, r4⟩ := zeros_row (_z := .any) (len := len) h0 r1 r2 hn 0
  have hone : ∀ x ∈ (madeCells z.cells (len * i.size)).toList, one x = true := by
    intro x hx
    obtain ⟨k, hk⟩ := List.getElem?_of_mem hx
    have hk' : k < len * i.size := by have := (List.getElem?_eq_some_iff.1 hk).1; simpa [r4] using this
    obtain ⟨_, v, _, q2, _, q4⟩ := r3.2.2.2 k hk'
    rw [Array.getElem?_toList, q2] at hk; cases hk; exact q4
  obtain ⟨r', Z', g, hf, hv, hZ'⟩ := fillElems_ok ht h0 parts.toList .e _ _ r3 r4 hone g
  have hmap : (parts.map fun (i, x) => (i, a.eval x)).toList = parts.toList.map fun p => (p.1, a.eval p.2) := by simp
  refine ⟨_, g, new_ok fun w => ⟨.slice (some ⟨w.heap.size, 0, none⟩) len len, .cells Z' el, len * i.size, w.drawn, .inl ?_, fun φ' c hle hc => ?_⟩⟩
  · have hrun : (Instr.buildSlice t len (parts.map fun (i, x) => (i, a.eval x))).run E.P w = .ok (.slice (some ⟨w.heap.size, 0, none⟩) len len) (w.alloc (.cells Z' el)) := by
      by_cases hl : len * i.size = 0
      · -- no element: no part either
        have hl0 : len = 0 := by
          rcases Nat.mul_eq_zero.1 hl with h | h
          · exact h
          · omega
        subst hl0
        unfold Instr.buildSlice
        have hm0 : madeCells z.cells (0 * i.size) = #[] := by simp [madeCells]
        rw [hm0, ← hmap] at hf
        have hs0 : (0 * i.size) = 0 := Nat.zero_mul _
        simp only [Sem.run_bind, run_und hd, Result.andThen_ok, run_size hi, hs0, Sem.run_pure, if_true, show ¬ (0 > 2 ^ 24) by decide, if_false]
        have hr0 : (Array.range 0).map (fun x : Nat => (#[] : Array Value)[x % (#[] : Array Value).size]!) = #[] := by simp
        simp only at hf
        simp only [hr0]
        simp only [hf, newRow, Sem.run_bind, run_newObj, Result.andThen_ok, Sem.run_pure]
        rfl
      · exact run_buildSlice w t el len _ Z' i z hd hi hz (by omega) hl (by rw [hmap]; exact hf)
    rw [he]
    simp only [Sem.run_bind, hrun, Result.andThen_ok, Sem.run_pure]
    rfl
  · exact ⟨⟨w.heap.size, Z', el, (0, 0), by rw [hZ']; exact hc, push_last w _ _, nofz0 _, hv.mono hle⟩, ⟨w.heap.size, len * i.size, _, len, hc, rfl, Nat.le_refl _, Nat.le_refl _, fun _ => rfl, fun _ => rfl, fun _ => Nat.le_of_eq (Nat.zero_add _), h0⟩⟩
end
end Go.AE
namespace Go.AE
section
variable {E : Env} {e : Ex} {ts' : Tm} {h : Hs} {h₀ : Hs} {c : Nat}

/-- cells laid into block b from off on -/
def StOk (E : Env) (φ : Loc) (h : Hs) (b off : Nat) (us : List Value) (h' : Hs) : Prop :=
  ∀ (w : World) (c : Nat), HR E φ h.t w → ∃ B N w', φ b = some (B, N) ∧ (storeCells ⟨B, off, none⟩ us 0).run E.P w = .ok () w' ∧ Sim E φ h c w φ h' c w'

theorem row_put {φ : Loc} {b n sz : Nat} {pat : List AV} {t t' : T (List AV)} {off : Nat} {us : List Value} (hb : h.t.get b = some (.row n sz pat t)) (h1 : ∀ x ∈ us, one x = true)
    (hr : ∀ C, RowR E φ n sz pat t C → off + us.length ≤ C.size ∧ RowR E φ n sz pat t' (layA C off us)) : StOk E φ h b off us (h.putD b (some (.row n sz pat t'))) := by
  intro w c hh
  obtain ⟨B, C, el, fr, hB, hw, hfr, hrow⟩ := hh.obj b _ hb
  obtain ⟨r1, r2⟩ := hr C hrow
  have hrun := run_storeCells (P := E.P) off us 0 w C hw hfr (by omega) h1
  refine ⟨B, C.size, _, hB, hrun, ?_⟩
  refine Sim.put hh (by rw [hb]; simp) hB (rowTo_turned _) ⟨B, layA C off us, el, fr, by rw [size_layA]; exact hB, rowTo_same hw _, by rw [size_layA]; exact hfr, r2⟩

theorem stN_ok {b off : Nat} {l : List AV} {K : Hs → Out} (g : stN h b off l K = .ok e ts' h₀ c) :
    ∃ h' n sz pat t, h.t.get b = some (.row n sz pat t) ∧ off + l.length ≤ n ∧ K h' = .ok e ts' h₀ c ∧ ∀ (E : Env) (φ : Loc) (us : List Value), VRL E φ l us → (∀ x ∈ us, one x = true) → StOk E φ h b off us h' := by
  unfold stN at g
  split at g
  · rename_i n sz pat t hb
    obtain ⟨hn, g⟩ := guardB_ok g
    have hn : off + lenL l ≤ n := Nat.le_of_ble_eq_true hn
    obtain ⟨hm, g⟩ := guardB_ok g
    have hm : off % sz + lenL l ≤ sz := Nat.le_of_ble_eq_true hm
    rw [ins_eq, put_eq] at g
    refine ⟨_, n, sz, pat, t, hb, by rw [← lenL_eq]; exact hn, g, fun E φ us hu h1 => ?_⟩
    rw [lenL_eq] at hn hm
    refine row_put hb h1 fun C hr => ⟨by have := hr.2.1; have := hu.length; omega, ?_⟩
    refine hr.put hn hm hu h1 _ fun hlt => ?_
    have hel := hr.2.2.1 _ hlt
    have ediv : Nat.div off sz = off / sz := rfl
    have emod : Nat.mod off sz = off % sz := rfl
    cases hb2 : Nat.beq (lenL l) sz with
    | true =>
      have hb2 : lenL l = sz := Nat.eq_of_beq_eq_true hb2
      rw [lenL_eq] at hb2
      have h0 : off % sz = 0 := by omega
      show l = _
      rw [h0]
      simp only [List.take_zero, List.nil_append, Nat.zero_add]
      rw [List.drop_eq_nil_of_le (by omega)]
      simp
    | false =>
      show splice l (Nat.mod off sz) (elemAt pat (t.get (Nat.div off sz))) = _
      rw [ediv, emod, splice_eq _ _ _ (by omega)]
  · cases g

theorem stE_ok {b off sz : Nat} {L : List (List AV)} {K : Hs → Out} (g : stE h b off sz L K = .ok e ts' h₀ c) :
    ∃ h', K h' = .ok e ts' h₀ c ∧ ∀ (E : Env) (φ : Loc) (us : List Value), 0 < sz → (∀ l ∈ L, l.length = sz) → VRL E φ L.flatten us → (∀ x ∈ us, one x = true) → StOk E φ h b off us h' := by
  unfold stE at g
  split at g
  · rename_i n rs pat t hb
    obtain ⟨hn, g⟩ := guardB_ok g
    have hn : off + lenL L * sz ≤ n := Nat.le_of_ble_eq_true hn
    rw [lenL_eq] at hn
    cases he : Nat.beq rs sz with
    | false =>
      rw [he] at g
      have g : stN h b off (flat L) K = _ := g
      obtain ⟨h', _, _, _, _, _, _, g, hs⟩ := stN_ok g
      rw [flat_eq] at hs
      exact ⟨h', g, fun E φ us _ _ hu h1 => hs E φ us hu h1⟩
    | true =>
      rw [he] at g
      have he : rs = sz := Nat.eq_of_beq_eq_true he
      subst he
      obtain ⟨hm, g⟩ := guardB_ok g
      have hm : off % rs = 0 := Nat.eq_of_beq_eq_true hm
      rw [fill_eq, put_eq] at g
      refine ⟨_, g, fun E φ us _ hL hu h1 => ?_⟩
      have hlen := hu.length
      rw [flat_length L hL] at hlen
      exact row_put hb h1 fun C hr => ⟨by have := hr.2.1; omega, hr.lay hn hm hL hu h1⟩
  · cases g

/-- nothing laid -/
theorem StOk.nil {φ : Loc} {b off : Nat} {h' : Hs} (s : StOk E φ h b off [] h') {w : World} (hh : HR E φ h.t w) (c : Nat) : Sim E φ h c w φ h' c w := by
  obtain ⟨B, N, w', _, hr, hs⟩ := s w c hh
  have : w' = w := by
    simp only [storeCells, Sem.run_pure] at hr
    cases hr; rfl
  rw [this] at hs; exact hs

/-- as a slice's own address has it -/
theorem StOk.at_slice {φ : Loc} {b off k cap' N B : Nat} {ad : Addr} {us : List Value} {h' : Hs} (s : StOk E φ h b (off + k) us h') (hb : φ b = some (B, N)) (had : 0 < cap' → ad = ⟨B, off, none⟩) (hu : cap' = 0 → us = [])
    {w : World} (hh : HR E φ h.t w) (c : Nat) : ∃ w', (storeCells (ad.add k) us 0).run E.P w = .ok () w' ∧ Sim E φ h c w φ h' c w' := by
  by_cases hc : cap' = 0
  · have := hu hc
    subst this
    exact ⟨w, rfl, s.nil hh c⟩
  · obtain ⟨B', N', w', hb', hr, hs⟩ := s w c hh
    rw [hb] at hb'; cases hb'
    refine ⟨w', ?_, hs⟩
    rw [had (by omega), add_addr]; exact hr

/-! ### sources -/
def SrcOk (E : Env) (h : Hs) (sz n : Nat) (x : AV) (L : List (List AV)) : Prop :=
  L.length = n ∧ ∀ (φ : Loc) (w : World) (v : Value), 0 < sz → HR E φ h.t w → VR E φ x v →
    (∀ l ∈ L, l.length = sz) ∧ ∃ us, VRL E φ L.flatten us ∧ (∀ u ∈ us, one u = true) ∧ ∀ k, (Builtin.firstCells sz n v).run E.P { w with drawn := k } = .ok us.toArray { w with drawn := k }

theorem srcE_ok {sz n : Nat} {x : AV} {K : List (List AV) → Out} (g : srcE sz h x n K = .ok e ts' h₀ c) : ∃ L, K L = .ok e ts' h₀ c ∧ SrcOk E h sz n x L := by
  unfold srcE at g
  split at g
  · obtain ⟨hz, g⟩ := guardB_ok g
    have hz := isZ_ok hz
    subst hz
    refine ⟨_, g, rfl, fun φ w v _ _ hv => ⟨fun l hl => (by cases hl), [], VRL_nil, fun u hu => (by cases hu), fun k => ?_⟩⟩
    simp only [VR] at hv; subst hv
    rfl
  · rename_i b off len cap s ex
    obtain ⟨hs, g⟩ := guardB_ok g
    have hs : s = sz := Nat.eq_of_beq_eq_true hs
    subst hs
    obtain ⟨hnl, g2⟩ := guardB_ok g
    have hnl : n ≤ len := Nat.le_of_ble_eq_true hnl
    obtain ⟨m, rs, pat, t, L, hb, hn, g, hL, hr⟩ := rdE_ok g2
    refine ⟨L, g, hL, fun φ w v hsz hh hv => ?_⟩
    obtain ⟨B, N, ad, cap', hB, rfl, hlc, hcc, _, had, hN, _⟩ := hv
    obtain ⟨B', C, el, fr, hB', hw, hfr, hrow⟩ := hh.obj b _ hb
    rw [hB] at hB'; cases hB'
    obtain ⟨r1, r2, r3⟩ := hr E φ C hsz hrow
    refine ⟨r1, _, r2, r3, fun k => ?_⟩
    unfold Builtin.firstCells
    have hC := hrow.2.1
    by_cases h0 : cap' = 0
    · have hn0 : n = 0 := by omega
      subst hn0
      simp [loadCells, loadCellsFrom]
    · rw [had (by omega)]
      have := run_loadCells (P := E.P) (w := { w with drawn := k }) hw (show off + n * s ≤ C.size by omega)
      rw [this]
  · rename_i s
    obtain ⟨hs, g1⟩ := guardB_ok g
    have hs : sz = 1 := Nat.eq_of_beq_eq_true hs
    subst hs
    obtain ⟨hn, g2⟩ := guardB_ok g1
    have hn : n ≤ lenL s := Nat.le_of_ble_eq_true hn
    rw [lenL_eq] at hn
    rw [ktake_eq] at g2
    obtain ⟨m1, m2, m3⟩ := map_bytes (s.take n)
    refine ⟨_, g2, by rw [m1]; simp; omega, fun φ w v _ _ hv => ⟨m2, (s.take n).map fun b => Value.int .u8 b.toNat, by rw [m3]; exact bytes_VRL E φ _, fun u hu => ?_, fun k => ?_⟩⟩
    · obtain ⟨b, _, rfl⟩ := List.mem_map.1 hu; rfl
    simp only [VR] at hv; subst hv
    unfold Builtin.firstCells
    simp only [Sem.run_pure]
    congr 1
    apply Array.ext'
    simp [ByteArray.data_extract]
  · cases g
end
end Go.AE
