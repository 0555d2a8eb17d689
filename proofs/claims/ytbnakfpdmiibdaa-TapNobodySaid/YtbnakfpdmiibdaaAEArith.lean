import Derived.Test.YtbnakfpdmiibdaaAECmd
import Derived.Laws.Strings
import Derived.IntWalk
namespace Go.AE

theorem wrap64_eq (n : Int) : AE.wrap64 n = IntKind.i64.wrap n := by
  cases n with
  | ofNat m =>
    simp only [AE.wrap64]
    cases h : Nat.blt m 9223372036854775808 with
    | false => rfl
    | true =>
      have := Nat.blt_eq.mp h
      show Int.ofNat m = _
      exact (IntWalk.i64_in _ ⟨by rw [Int.ofNat_eq_natCast]; omega, by rw [Int.ofNat_eq_natCast]; omega⟩).symm
  | negSucc m =>
    simp only [AE.wrap64]
    cases h : Nat.blt m 9223372036854775808 with
    | false => rfl
    | true =>
      have := Nat.blt_eq.mp h
      show Int.negSucc m = _
      exact (IntWalk.i64_in _ ⟨by omega, by omega⟩).symm
theorem wrapF_eq (k : IntKind) (n : Int) : wrapF k n = k.wrap n := by
  cases k <;> simp only [wrapF]
  · exact wrap64_eq n
  · cases n
    · simp only [wrapU, IntKind.wrap_u8]; rfl
    · rfl
  · cases n
    · simp only [wrapU, IntKind.wrap_u32]; rfl
    · rfl
  · cases n
    · simp only [wrapU, IntKind.wrap, IntKind.bits, IntKind.signed]; rfl
    · rfl

theorem ikEq_iff (j k : IntKind) : ikEq j k = true ↔ j = k := by cases j <;> cases k <;> simp [ikEq]
theorem bnot_eq (b : Bool) : bnot b = !b := by cases b <;> rfl
theorem intEq_eq (x y : Int) : intEq x y = (x == y) := by
  cases x <;> cases y <;> simp only [intEq]
  · rename_i a b; rw [Bool.eq_iff_iff]; simp; omega
  · rw [eq_comm]; simp
  · rw [eq_comm]; simp
  · rename_i a b; rw [Bool.eq_iff_iff]; simp
theorem intLe_eq (x y : Int) : intLe x y = decide (x ≤ y) := by
  cases x <;> cases y <;> simp only [intLe]
  · rename_i a b; rw [Bool.eq_iff_iff]; simp
  · symm; simp; omega
  · symm; simp; omega
  · rename_i a b; rw [Bool.eq_iff_iff]; simp; omega
theorem lss_eq (x y : Int) : bnot (intLe y x) = decide (x < y) := by
  rw [bnot_eq, intLe_eq, Bool.eq_iff_iff]; simp
theorem u8_beq (a b : UInt8) : Nat.beq a.toNat b.toNat = (a == b) := by
  rw [Bool.eq_iff_iff]; simp [UInt8.toNat_inj]
theorem strEq_eq : ∀ a b : List UInt8, strEq a b = (a == b)
  | [], [] => rfl
  | [], _ :: _ => rfl
  | _ :: _, [] => rfl
  | a :: x, b :: y => by
    show (Bool.rec (motive := fun _ => Bool) false (strEq x y) (Nat.beq a.toNat b.toNat) : Bool) = _
    rw [strEq_eq x y, u8_beq]
    show _ = (a == b && x == y)
    cases a == b <;> rfl
theorem strLt_eq : ∀ a b : List UInt8, strLt a b = Op.bytesLess a b
  | [], [] => rfl
  | [], _ :: _ => rfl
  | _ :: _, [] => rfl
  | a :: x, b :: y => by
    show (Bool.rec (motive := fun _ => Bool) (Bool.rec (motive := fun _ => Bool) false (strLt x y) (Nat.beq a.toNat b.toNat)) true (Nat.blt a.toNat b.toNat) : Bool) = _
    rw [strLt_eq x y, u8_beq]
    have e : Nat.blt a.toNat b.toNat = decide (a < b) := by
      rw [Bool.eq_iff_iff, Nat.blt_eq]; simp [UInt8.lt_iff_toNat_lt]
    rw [e]
    simp only [Op.bytesLess]
    cases decide (a < b) <;> cases (a == b) <;> rfl

/-- a value without blocks, handed over in every world -/
def Hands {α : Type} (P : Program) (s : Sem α) (u : α) : Prop := ∀ w, s.run P w = .ok u w

theorem wrap_small (k : IntKind) (n : Nat) (h : n < lim k) : k.wrap n = n := by
  cases k <;> simp only [lim] at h <;> first
    | exact IntWalk.i64_in _ (by omega)
    | exact IntWalk.i32_in _ (by omega)
    | exact IntWalk.i16_in _ (by omega)
    | exact IntWalk.i8_in _ (by omega)
    | exact IntWalk.u64_in _ (by omega)
    | exact IntWalk.u32_in _ (by omega)
    | exact IntWalk.u16_in _ (by omega)
    | exact IntWalk.u8_in _ (by omega)
theorem lim_le (k : IntKind) : lim k ≤ 2 ^ k.bits := by cases k <;> decide
theorem lim_pow (k : IntKind) : ∃ j, lim k = 2 ^ j := by
  cases k
  · exact ⟨7, rfl⟩
  · exact ⟨15, rfl⟩
  · exact ⟨31, rfl⟩
  · exact ⟨63, rfl⟩
  · exact ⟨8, rfl⟩
  · exact ⟨16, rfl⟩
  · exact ⟨32, rfl⟩
  · exact ⟨64, rfl⟩
theorem bv_nat (k : IntKind) (n : Nat) (h : n < lim k) : (BitVec.ofInt k.bits (n : Int)).toNat = n := by
  have := lim_le k
  rw [BitVec.toNat_ofInt]
  have e : ((n : Int) % ((2 ^ k.bits : Nat) : Int)) = ((n % 2 ^ k.bits : Nat) : Int) := by simp
  rw [e, Int.toNat_natCast, Nat.mod_eq_of_lt (by omega)]

theorem binI_ok {op : BinOp} {k k' : IntKind} {a b : Int} {K : AV → Out} {e : Ex} {ts : Tm} {h : Hs} {c : Nat} (g : binI op k a k' b K = .ok e ts h c) :
    ∃ v u, K v = .ok e ts h c ∧ (∀ E φ, VR E φ v u) ∧ ∀ (P : Program) (t : TypeId), Hands P (binOp op t (.int k a) (.int k' b)) u := by
  have int : ∀ (n : Int) (E : Env) (φ : Loc), VR E φ (.int k n) (.int k n) := fun n E φ => rfl
  have bool : ∀ (n : Bool) (E : Env) (φ : Loc), VR E φ (.bool n) (.bool n) := fun n E φ => rfl
  have kinds : ∀ {n : Nat} {X : Out}, guardB (ikEq k k') n X = .ok e ts h c → k = k' ∧ X = .ok e ts h c := fun g =>
    let ⟨h1, h2⟩ := guardB_ok g; ⟨(ikEq_iff _ _).1 h1, h2⟩
  cases op <;> simp only [binI, arith] at g
  case add => obtain ⟨ek, g2⟩ := kinds g; subst ek; exact ⟨_, _, g2, int _, fun P t w => by simp [binOp, Op.intArith, wrapF_eq]⟩
  case sub => obtain ⟨ek, g2⟩ := kinds g; subst ek; exact ⟨_, _, g2, int _, fun P t w => by simp [binOp, Op.intArith, wrapF_eq]; rfl⟩
  case mul => obtain ⟨ek, g2⟩ := kinds g; subst ek; exact ⟨_, _, g2, int _, fun P t w => by simp [binOp, Op.intArith, wrapF_eq]⟩
  case quo =>
    obtain ⟨ek, g2⟩ := kinds g; subst ek
    obtain ⟨h0, g3⟩ := guardB_ok g2
    rw [bnot_eq, intEq_eq] at h0
    have hb : b ≠ 0 := by rintro rfl; simp at h0
    exact ⟨_, _, g3, int _, fun P t w => by simp [binOp, Op.intDiv, hb, wrapF_eq]⟩
  case rem =>
    obtain ⟨ek, g2⟩ := kinds g; subst ek
    obtain ⟨h0, g3⟩ := guardB_ok g2
    rw [bnot_eq, intEq_eq] at h0
    have hb : b ≠ 0 := by rintro rfl; simp at h0
    exact ⟨_, _, g3, int _, fun P t w => by simp [binOp, Op.intDiv, hb]⟩
  case and =>
    obtain ⟨ek, g2⟩ := kinds g; subst ek
    cases a with
    | negSucc m => cases g2
    | ofNat m => cases b with
      | negSucc n => cases g2
      | ofNat n =>
        obtain ⟨h1, g3⟩ := guardB_ok g2
        obtain ⟨h2, g4⟩ := guardB_ok g3
        have h1 := Nat.blt_eq.mp h1
        have h2 := Nat.blt_eq.mp h2
        refine ⟨_, _, g4, int _, fun P t w => ?_⟩
        have e1 := bv_nat k m h1
        have e2 := bv_nat k n h2
        have e3 : (m &&& n) < lim k := by obtain ⟨j, hj⟩ := lim_pow k; rw [hj] at h2 ⊢; exact Nat.and_lt_two_pow _ h2
        simp only [binOp, Op.intBits, Int.ofNat_eq_natCast]
        simp only [ne_eq, not_true_eq_false, if_false, Sem.run_pure, BitVec.toNat_and, e1, e2, wrap_small k _ e3]
        rfl
  case or =>
    obtain ⟨ek, g2⟩ := kinds g; subst ek
    cases a with
    | negSucc m => cases g2
    | ofNat m => cases b with
      | negSucc n => cases g2
      | ofNat n =>
        obtain ⟨h1, g3⟩ := guardB_ok g2
        obtain ⟨h2, g4⟩ := guardB_ok g3
        have h1 := Nat.blt_eq.mp h1
        have h2 := Nat.blt_eq.mp h2
        refine ⟨_, _, g4, int _, fun P t w => ?_⟩
        have e1 := bv_nat k m h1
        have e2 := bv_nat k n h2
        have e3 : (m ||| n) < lim k := by obtain ⟨j, hj⟩ := lim_pow k; rw [hj] at h1 h2 ⊢; exact Nat.or_lt_two_pow h1 h2
        simp only [binOp, Op.intBits, Int.ofNat_eq_natCast]
        simp only [ne_eq, not_true_eq_false, if_false, Sem.run_pure, BitVec.toNat_or, e1, e2, wrap_small k _ e3]
        rfl
  case xor =>
    obtain ⟨ek, g2⟩ := kinds g; subst ek
    cases a with
    | negSucc m => cases g2
    | ofNat m => cases b with
      | negSucc n => cases g2
      | ofNat n =>
        obtain ⟨h1, g3⟩ := guardB_ok g2
        obtain ⟨h2, g4⟩ := guardB_ok g3
        have h1 := Nat.blt_eq.mp h1
        have h2 := Nat.blt_eq.mp h2
        refine ⟨_, _, g4, int _, fun P t w => ?_⟩
        have e1 := bv_nat k m h1
        have e2 := bv_nat k n h2
        have e3 : (m ^^^ n) < lim k := by obtain ⟨j, hj⟩ := lim_pow k; rw [hj] at h1 h2 ⊢; exact Nat.xor_lt_two_pow h1 h2
        simp only [binOp, Op.intBits, Int.ofNat_eq_natCast]
        simp only [ne_eq, not_true_eq_false, if_false, Sem.run_pure, BitVec.toNat_xor, e1, e2, wrap_small k _ e3]
        rfl
  case shl =>
    cases b with
    | negSucc n => cases g
    | ofNat n =>
      refine ⟨_, _, g, int _, fun P t w => ?_⟩
      have e : ¬ (Int.ofNat n < 0) := by rw [Int.ofNat_eq_natCast]; omega
      simp only [binOp, Op.shift, wrapF_eq, e, if_false, Sem.run_pure]
      rfl
  case shr =>
    cases b with
    | negSucc n => cases g
    | ofNat n =>
      refine ⟨_, _, g, int _, fun P t w => ?_⟩
      have e : ¬ (Int.ofNat n < 0) := by rw [Int.ofNat_eq_natCast]; omega
      simp only [binOp, Op.shift, e, if_false, Sem.run_pure]
      rfl
  case andNot => cases g
  case eql => obtain ⟨ek, g2⟩ := kinds g; subst ek; exact ⟨_, _, g2, bool _, fun P t w => by simp [binOp, Op.intCmp, intEq_eq]⟩
  case neq => obtain ⟨ek, g2⟩ := kinds g; subst ek; exact ⟨_, _, g2, bool _, fun P t w => by simp [binOp, Op.intCmp, intEq_eq, bnot_eq, bne]⟩
  case lss => obtain ⟨ek, g2⟩ := kinds g; subst ek; exact ⟨_, _, g2, bool _, fun P t w => by simp [binOp, Op.intCmp, lss_eq]⟩
  case leq => obtain ⟨ek, g2⟩ := kinds g; subst ek; exact ⟨_, _, g2, bool _, fun P t w => by simp [binOp, Op.intCmp, intLe_eq]⟩
  case gtr => obtain ⟨ek, g2⟩ := kinds g; subst ek; exact ⟨_, _, g2, bool _, fun P t w => by simp [binOp, Op.intCmp, lss_eq]⟩
  case geq => obtain ⟨ek, g2⟩ := kinds g; subst ek; exact ⟨_, _, g2, bool _, fun P t w => by simp [binOp, Op.intCmp, intLe_eq]⟩
end Go.AE
