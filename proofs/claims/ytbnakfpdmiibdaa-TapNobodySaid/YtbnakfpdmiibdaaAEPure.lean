import Derived.Test.YtbnakfpdmiibdaaAEEq
namespace Go.AE

def Good (E : Env) (φ : Loc) (o : Oper) (a : Act) (K : Kc) (e : Ex) (ts : Tm) (h : Hs) (c : Nat) : Prop := ∃ cmd, K cmd = .ok e ts h c ∧ CmdOk E φ o a cmd

theorem runs_of {P : Program} {o : Oper} {a : Act} {s : Sem Value} {u : Value} (he : execOp a.eval o = (do pure (Next.value (← s)))) (hs : Hands P s u) (w : World) : Runs P o a w u w := by
  left; rw [he]; simp [hs w]
theorem good_val {E : Env} {φ : Loc} {o : Oper} {a : Act} {K : Kc} {e : Ex} {ts : Tm} {h : Hs} {c : Nat} {v : AV} {u : Value} {s : Sem Value} (g : K (.val v) = .ok e ts h c) (hv : VR E φ v u)
    (he : execOp a.eval o = (do pure (Next.value (← s)))) (hs : Hands E.P s u) : Good E φ o a K e ts h c := ⟨_, g, u, hv, fun w => runs_of he hs w⟩

section
variable {E : Env} {φ : Loc} {o : Oper} {a : Act} {ts : Tm} {K : Kc} {e : Ex} {ts' : Tm} {h : Hs} {c : Nat}

theorem ok_move (ht : TR E φ ts a.tmps) {x : Operand} (ho : o.op = .move x ∨ o.op = .assign x) (g : cMove x E ts K = .ok e ts' h c) : Good E φ o a K e ts' h c :=
  ⟨_, g, a.eval x, eval_VR ht x, fun w => .inl (by rcases ho with ho | ho <;> simp [execOp, ho])⟩

theorem ok_pick (ht : TR E φ ts a.tmps) {x y z : Operand} (ho : o.op = .pick x y z) (g : cPick x y z E ts K = .ok e ts' h c) : Good E φ o a K e ts' h c := by
  unfold cPick knownB at g
  have hx := eval_VR ht x
  cases hb : evalO x ts <;> rw [hb] at g hx <;> try (cases g; done)
  rename_i b
  have g : forceB b (fun t => K (.val (pickV (evalO y ts) (evalO z ts) t))) = .ok e ts' h c := g
  rw [forceB_eq] at g
  simp only [VR] at hx
  refine ⟨_, g, if b then a.eval y else a.eval z, ?_, fun w => .inl (by simp [execOp, ho, asBool, hx])⟩
  cases b
  · exact eval_VR ht z
  · exact eval_VR ht y

theorem ok_nilCheck (ht : TR E φ ts a.tmps) {x : Operand} (ho : o.op = .nilCheck x) (g : cNilCheck x E ts K = .ok e ts' h c) : Good E φ o a K e ts' h c := by
  unfold cNilCheck at g
  obtain ⟨hn, g⟩ := guardB_ok g
  have hx := eval_VR ht x
  refine ⟨_, g, a.eval x, hx, fun w => .inl ?_⟩
  unfold execOp; rw [ho]
  cases hb : evalO x ts <;> rw [hb] at hx hn <;> try (cases hn; done)
  · simp only [VR] at hx; obtain ⟨B, N, _, hx⟩ := hx; simp [hx]
  · rename_i f l m
    simp only [VR] at hx; obtain ⟨f', l', m', hx, hf, _, _⟩ := hx
    cases f <;> try (cases hn; done)
    · have hf' : f' = _ := hf; subst hf'; simp [hx]
    · obtain ⟨B, N, _, hf⟩ := hf; subst hf; simp [hx]
  · simp only [VR] at hx; obtain ⟨u, hx, _⟩ := hx; simp [hx]

/-! ### two operands -/
def Known (x : AV) : Bool := match x with | .any => false | .raw _ => false | .sym _ => false | _ => true
theorem Known.nili {x : AV} (k : Known x = true) {u : Value} (h : VR E φ x u) (hu : u = .nilIface) : x = .nili := by
  subst hu
  cases x <;> simp only [VR] at h <;> first
    | rfl
    | (cases k; done)
    | (cases h; done)
    | (obtain ⟨_, _, _, _, _, h, _⟩ := h; cases h; done)
    | (obtain ⟨_, _, _, h⟩ := h; cases h; done)
    | (obtain ⟨_, _, _, h, _⟩ := h; cases h; done)
    | (obtain ⟨_, h, _⟩ := h; cases h; done)

theorem eqPtr_known {x y : AV} {K : Bool → Out} (g : eqPtr x y K = .ok e ts h c) : Known x = true ∧ x ≠ .nili := by
  cases x <;> first | (cases g; done) | exact ⟨rfl, fun h => by cases h⟩
theorem eqSl_known {x y : AV} {K : Bool → Out} (g : eqSl x y K = .ok e ts h c) : Known x = true ∧ x ≠ .nili := by
  cases x <;> first | (cases g; done) | exact ⟨rfl, fun h => by cases h⟩
theorem eqMap_known {x y : AV} {K : Bool → Out} (g : eqMap x y K = .ok e ts h c) : Known x = true ∧ x ≠ .nili := by
  cases x <;> first | (cases g; done) | exact ⟨rfl, fun h => by cases h⟩
theorem eqFn_known {x y : AV} {K : Bool → Out} (g : eqFn x y K = .ok e ts h c) : Known x = true ∧ x ≠ .nili := by
  cases x <;> first | (cases g; done) | exact ⟨rfl, fun h => by cases h⟩
theorem eqInt_known {x y : AV} {K : Bool → Out} (g : eqInt x y K = .ok e ts h c) : Known x = true ∧ x ≠ .nili := by
  cases x <;> first | (cases g; done) | exact ⟨rfl, fun h => by cases h⟩
theorem eqStr_known {x y : AV} {K : Bool → Out} (g : eqStr x y K = .ok e ts h c) : Known x = true ∧ x ≠ .nili := by
  cases x <;> first | (cases g; done) | exact ⟨rfl, fun h => by cases h⟩
theorem eqBool_known {x y : AV} {K : Bool → Out} (g : eqBool x y K = .ok e ts h c) : Known x = true ∧ x ≠ .nili := by
  cases x <;> first | (cases g; done) | exact ⟨rfl, fun h => by cases h⟩
theorem eqIf_known {x y : AV} {K : Bool → Out} (g : eqIf x y K = .ok e ts h c) : Known x = true ∧ Known y = true ∧ (x ≠ .nili ∨ y ≠ .nili) := by
  cases x <;> try (cases g; done)
  · cases y <;> first | (cases g; done) | exact ⟨rfl, rfl, .inl fun h => by cases h⟩
  · cases y <;> first | (cases g; done) | exact ⟨rfl, rfl, .inr fun h => by cases h⟩

/-- both are never nil interfaces -/
theorem eqF_known (T : TabOk E) {n : Nat} {t : TypeId} {x y : AV} {K : Bool → Out} (g : eqF E n t x y K = .ok e ts h c) {u v : Value} (hu : VR E φ x u) (hv : VR E φ y v) : ¬ (u = .nilIface ∧ v = .nilIface) := by
  rintro ⟨rfl, rfl⟩
  cases n with
  | zero => cases g
  | succ n =>
    obtain ⟨D, _, g⟩ := und_ok (K := eqD E (eqF E n) t x y K) T g
    have one : (Known x = true ∧ x ≠ .nili) → False := fun ⟨h1, h2⟩ => h2 (Known.nili h1 hu rfl)
    cases D <;> simp only [eqD] at g <;> try (cases g; done)
    · exact one (eqBool_known g)
    · exact one (eqInt_known g)
    · exact one (eqStr_known g)
    · obtain ⟨i, _, g⟩ := size_ok T g
      obtain ⟨_, g⟩ := guardB_ok g
      exact one (eqPtr_known g)
    · exact one (eqSl_known g)
    · exact one (eqMap_known g)
    · obtain ⟨_, g⟩ := guardB_ok g
      obtain ⟨xs, ex, _⟩ := aggOf_ok g
      subst ex
      obtain ⟨_, h, _⟩ := hu; cases h
    · exact one (eqFn_known g)
    · obtain ⟨h1, h2, h3⟩ := eqIf_known g
      rcases h3 with h3 | h3
      · exact h3 (Known.nili h1 hu rfl)
      · exact h3 (Known.nili h2 hv rfl)

theorem eqF_kx (T : TabOk E) {n : Nat} {t : TypeId} {x y : AV} {K : Bool → Out} (g : eqF E n t x y K = .ok e ts h c) : Known x = true := by
  cases n with
  | zero => cases g
  | succ n =>
    obtain ⟨D, _, g⟩ := und_ok (K := eqD E (eqF E n) t x y K) T g
    cases D <;> simp only [eqD] at g <;> try (cases g; done)
    · exact (eqBool_known g).1
    · exact (eqInt_known g).1
    · exact (eqStr_known g).1
    · obtain ⟨i, _, g⟩ := size_ok T g
      obtain ⟨_, g⟩ := guardB_ok g
      exact (eqPtr_known g).1
    · exact (eqSl_known g).1
    · exact (eqMap_known g).1
    · obtain ⟨_, g⟩ := guardB_ok g
      obtain ⟨xs, ex, _⟩ := aggOf_ok g
      subst ex; rfl
    · exact (eqFn_known g).1
    · exact (eqIf_known g).1
theorem eqF_iface (T : TabOk E) {n : Nat} {t : TypeId} {ms : Array (String × TypeId)} (ht : E.P.underlying t = some (.interface ms)) {x y : AV} {K : Bool → Out} (g : eqF E n t x y K = .ok e ts h c) : ∀ l, x ≠ .agg l := by
  cases n with
  | zero => cases g
  | succ n =>
    obtain ⟨D, hD, g⟩ := und_ok (K := eqD E (eqF E n) t x y K) T g
    rw [ht] at hD; cases hD
    rintro l rfl
    cases g
/-- what a known value may be -/
theorem Known.agg {x : AV} (k : Known x = true) {u : Value} (h : VR E φ x u) {arr : Array Value} (hu : u = .agg arr) : ∃ l, x = .agg l := by
  subst hu
  cases x <;> simp only [VR] at h <;> first
    | exact ⟨_, rfl⟩
    | (cases k; done)
    | (cases h; done)
    | (obtain ⟨_, _, _, _, _, h, _⟩ := h; cases h; done)
    | (obtain ⟨_, _, _, h⟩ := h; cases h; done)
    | (obtain ⟨_, _, _, h, _⟩ := h; cases h; done)
    | (obtain ⟨_, h, _⟩ := h; cases h; done)
theorem Known.plain {x : AV} (k : Known x = true) (h1 : ∀ k n, x ≠ .int k n) (h2 : ∀ s, x ≠ .str s) {u : Value} (h : VR E φ x u) :
    (∀ k n, u ≠ .int k n) ∧ (∀ s, u ≠ .string s) ∧ (∀ k n, u ≠ .float k n) ∧ ∀ k n m, u ≠ .complex k n m := by
  have fin : ∀ {v : Value}, u = v → (∀ k n, v ≠ .int k n) → (∀ s, v ≠ .string s) → (∀ k n, v ≠ .float k n) → (∀ k n m, v ≠ .complex k n m) →
      (∀ k n, u ≠ .int k n) ∧ (∀ s, u ≠ .string s) ∧ (∀ k n, u ≠ .float k n) ∧ ∀ k n m, u ≠ .complex k n m := fun e a b c d => e ▸ ⟨a, b, c, d⟩
  cases x <;> simp only [VR] at h <;> first
    | (cases k; done)
    | exact absurd rfl (h1 _ _)
    | exact absurd rfl (h2 _)
    | exact fin h (by simp) (by simp) (by simp) (by simp)
    | (obtain ⟨_, _, _, _, _, h, _⟩ := h; exact fin h (by simp) (by simp) (by simp) (by simp))
    | (obtain ⟨_, _, _, h, _⟩ := h; exact fin h (by simp) (by simp) (by simp) (by simp))
    | (obtain ⟨_, _, _, h⟩ := h; exact fin h (by simp) (by simp) (by simp) (by simp))
    | (obtain ⟨_, h, _⟩ := h; exact fin h (by simp) (by simp) (by simp) (by simp))
theorem binOp_eql (t : TypeId) {u v : Value} (h1 : ∀ k n, u ≠ .int k n) (h2 : ∀ s, u ≠ .string s) (h3 : ∀ k n, u ≠ .float k n) (h4 : ∀ k n m, u ≠ .complex k n m) :
    binOp .eql t u v = (do pure (.bool (← Op.equal t u v))) ∧ binOp .neq t u v = (do pure (.bool (!(← Op.equal t u v)))) := by
  cases u <;> first
    | exact absurd rfl (h1 _ _)
    | exact absurd rfl (h2 _)
    | exact absurd rfl (h3 _ _)
    | exact absurd rfl (h4 _ _ _)
    | exact ⟨rfl, rfl⟩

theorem eqGuard_int (P : Program) (op : BinOp) (t : TypeId) (x y : Operand) (k k' : IntKind) (m n : Int) : Hands P (eqGuard op t x y (.int k m) (.int k' n)) () := by
  intro w; unfold eqGuard; cases op <;> simp
theorem eqGuard_str (P : Program) (op : BinOp) (t : TypeId) (x y : Operand) (m n : ByteArray) : Hands P (eqGuard op t x y (.string m) (.string n)) () := by
  intro w; unfold eqGuard; cases op <;> simp
theorem eqGuard_ok {P : Program} {op : BinOp} {t : TypeId} {x y : Operand} {u v : Value} (h1 : ¬ (u = .nilIface ∧ v = .nilIface)) (h2 : (∃ l m, u = .agg l ∧ v = .agg m) → P.eqGuardType P.depth t = false) :
    Hands P (eqGuard op t x y u v) () := by
  intro w
  unfold eqGuard
  cases op <;> simp only [Bool.not_true, Bool.not_false, Bool.false_eq_true, if_true, if_false, Sem.run_pure, Sem.run_bind, Result.andThen_ok]
  all_goals
    split
    · exact absurd ⟨rfl, rfl⟩ h1
    · simp [h2 ⟨_, _, rfl, rfl⟩]
    · simp
theorem bytesLess_flip : ∀ a b : List UInt8, (!Op.bytesLess b a) = (Op.bytesLess a b || a == b)
  | [], [] => rfl
  | [], _ :: _ => rfl
  | _ :: _, [] => rfl
  | a :: x, b :: y => by
    have ih := bytesLess_flip x y
    simp only [Op.bytesLess]
    have e : (a :: x == b :: y) = (a == b && x == y) := rfl
    rw [e]
    by_cases h1 : a = b
    · subst h1
      have : ¬ a < a := by simp [UInt8.lt_iff_toNat_lt]
      simp [this, ih]
    · have h2 : (a == b) = false := by simpa using h1
      have h3 : (b == a) = false := by simpa using fun h => h1 h.symm
      have hn : a.toNat ≠ b.toNat := fun h => h1 (UInt8.toNat_inj.1 h)
      simp only [h2, h3, Bool.false_and, Bool.or_false]
      have e1 : decide (a < b) = decide (a.toNat < b.toNat) := by simp [UInt8.lt_iff_toNat_lt]
      have e2 : decide (b < a) = decide (b.toNat < a.toNat) := by simp [UInt8.lt_iff_toNat_lt]
      rw [e1, e2, Bool.eq_iff_iff]
      simp; omega

theorem binS_ok {op : BinOp} {x y : List UInt8} {K : AV → Out} (g : binS op x y K = .ok e ts h c) :
    ∃ v u, K v = .ok e ts h c ∧ (∀ E φ, VR E φ v u) ∧ ∀ (P : Program) (t : TypeId), Hands P (binOp op t (.string ⟨x.toArray⟩) (.string ⟨y.toArray⟩)) u := by
  have bool : ∀ (n : Bool) (E : Env) (φ : Loc), VR E φ (.bool n) (.bool n) := fun n E φ => rfl
  have tl : ∀ l : List UInt8, (⟨l.toArray⟩ : ByteArray).toList = l := fun l => by rw [ByteArray.toList_eq]
  cases op <;> simp only [binS] at g <;> try (cases g; done)
  case add =>
    obtain ⟨hn, g⟩ := guardB_ok g
    have hn := Nat.blt_eq.mp hn
    rw [lenL_eq, lenL_eq] at hn
    refine ⟨_, .string ⟨(x ++ y).toArray⟩, g, fun E φ => by rw [appL_eq]; rfl, fun P t w => ?_⟩
    have e1 : (⟨x.toArray⟩ : ByteArray).size = x.length := rfl
    have e2 : (⟨y.toArray⟩ : ByteArray).size = y.length := rfl
    have h3 : ¬ (((x.length + y.length : Nat) : Int) > IntKind.i64.max) := by
      have hn' : x.length + y.length < 4294967296 := hn
      have : IntKind.i64.max = 9223372036854775807 := by decide
      rw [this]; omega
    have e3 : (⟨x.toArray⟩ : ByteArray) ++ ⟨y.toArray⟩ = ⟨(x ++ y).toArray⟩ := by
      apply ByteArray.ext; rw [ByteArray.data_append]; simp
    simp only [binOp, Op.stringOp, e1, e2, h3, if_false, Sem.run_pure, e3]
  case eql => exact ⟨_, _, g, bool _, fun P t w => by simp [binOp, Op.stringOp, tl, strEq_eq]⟩
  case neq => exact ⟨_, _, g, bool _, fun P t w => by simp [binOp, Op.stringOp, tl, strEq_eq, bnot_eq]⟩
  case lss => exact ⟨_, _, g, bool _, fun P t w => by simp [binOp, Op.stringOp, tl, strLt_eq]⟩
  case geq => exact ⟨_, _, g, bool _, fun P t w => by simp [binOp, Op.stringOp, tl, strLt_eq, bnot_eq]⟩
  case leq => exact ⟨_, _, g, bool _, fun P t w => by simp [binOp, Op.stringOp, tl, strLt_eq, bnot_eq, bytesLess_flip]⟩
  case gtr => exact ⟨_, _, g, bool _, fun P t w => by simp [binOp, Op.stringOp, tl, strLt_eq, ← bytesLess_flip]⟩
end
end Go.AE
