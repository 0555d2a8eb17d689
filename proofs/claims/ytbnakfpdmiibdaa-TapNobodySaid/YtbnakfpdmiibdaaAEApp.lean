import Derived.Test.YtbnakfpdmiibdaaAEStore
import Derived.Laws.Append
namespace Go.AE
section
variable {E : Env} {φ : Loc} {o : Oper} {a : Act} {ts : Tm} {K : Kc} {e : Ex} {ts' : Tm} {h : Hs} {c : Nat}

def isIntD (d : TypeDesc) : Bool := match d with | .int _ => true | _ => false

section
variable {P : Program} {w : World} {t u el ty : TypeId} {du : TypeDesc} {i : TypeInfo} {z : Value} {tys : Array TypeId} {args : Array Value} {base : Option Addr} {sLen sCap n : Nat} {xv : Value} {new : Array Value}

theorem run_app_in {w' : World} (hd : P.underlying t = some (.slice el)) (hi : P.info? el = some i) (t0 : tys[0]? = some t) (t1 : tys[1]? = some u) (hu : P.underlying u = some du) (hdu : isIntD du = false)
    (a0 : args[0]? = some (.slice base sLen sCap)) (a1 : args[1]? = some xv) (hlen : (Builtin.lenOf xv).run P w = .ok n w) (hap : (Builtin.firstCells i.size n xv).run P w = .ok new w) (hneed : sLen + n ≤ sCap)
    (hst : match base with | some ad => (storeCells (ad.add (sLen * i.size)) new.toList 0).run P w = .ok () w' | none => w' = w) : (Builtin.append_ tys ty args).run P w = .ok (.slice base (sLen + n) sCap) w' := by
  unfold Builtin.append_
  cases du <;> first
    | (cases hdu; done)
    | (simp only [t0, t1, a0, a1, Sem.run_bind, run_und hd, run_und hu, Result.andThen_ok, run_size hi, Sem.run_pure, Bool.false_eq_true, if_false, hlen, Bool.not_false, if_true, hneed, hap]
       cases base with
       | none => subst hst; rfl
       | some ad =>
         have hst' : (storeCells (ad.add (sLen * i.size)) new.toList 0).run P w = .ok () w' := hst
         simp only [Sem.run_bind, hst', Result.andThen_ok, Sem.run_pure])

theorem run_app_grow {old : Array Value} (hd : P.underlying t = some (.slice el)) (hi : P.info? el = some i) (hzero : i.zero = some z) (t0 : tys[0]? = some t) (t1 : tys[1]? = some u) (hu : P.underlying u = some du) (hdu : isIntD du = false)
    (a0 : args[0]? = some (.slice base sLen sCap)) (a1 : args[1]? = some xv) (hlen : (Builtin.lenOf xv).run P w = .ok n w) (hap : (Builtin.firstCells i.size n xv).run P w.drew = .ok new w.drew)
    (hold : (Builtin.firstCells i.size sLen (.slice base sLen sCap)).run P w.drew = .ok old w.drew) (hneed : ¬ sLen + n ≤ sCap) (hsm : sLen + n < 4194304) (hb : i.bytes < 65536) :
    (Builtin.append_ tys ty args).run P w = .ok (.slice (some ⟨w.heap.size, 0, none⟩) (sLen + n) (grownCap w (sLen + n) sCap el))
      { w with heap := w.heap.push (.cells (old ++ new ++ Builtin.zeroCells z.cells (grownCap w (sLen + n) sCap el - (sLen + n))) el), drawn := w.drawn + 1 } := by
  unfold Builtin.append_
  have h1 : ¬ (((sLen + n : Nat) : Int) > IntKind.i64.max ∧ (False ∨ i.bytes = 0)) := by
    have : IntKind.i64.max = 9223372036854775807 := by decide
    rw [this]; omega
  have h2 : ¬ Builtin.nextslicecap (sLen + n) sCap * i.bytes > 2 ^ 48 := by
    have := growslice_fits (need := sLen + n) (old := sCap) (bytes := i.bytes) (by omega) (by
      have : (sLen + n) * i.bytes ≤ 4194304 * 65536 := Nat.mul_le_mul (by omega) (by omega)
      omega)
    omega
  have hc : (choose (.appendCap (sLen + n) sCap el)).run P w = .ok (grownCap w (sLen + n) sCap el) w.drew := by
    rw [run_choose]; rfl
  cases du <;> first
    | (cases hdu; done)
    | (simp only [t0, t1, a0, a1, Sem.run_bind, run_und hd, run_und hu, Result.andThen_ok, run_size hi, run_info hi, Sem.run_pure, Bool.false_eq_true, if_false, hlen, Bool.not_false, if_true, hneed, h1, h2, hc,
        _root_.Go.run_askRoom, hap, hold, run_zero hi hzero, newRow, run_newObj]
       rfl)

/-- what append lays, where it is handed a number of zeros -/
def zerosOf (z : Value) (size n : Nat) : Array Value := if n * size = 0 then #[] else Builtin.zeroCells z.cells n
theorem run_appz_in {w' : World} {k k' : IntKind} (hd : P.underlying t = some (.slice el)) (hi : P.info? el = some i) (hzero : i.zero = some z) (t0 : tys[0]? = some t) (t1 : tys[1]? = some u) (hu : P.underlying u = some (.int k))
    (a0 : args[0]? = some (.slice base sLen sCap)) (a1 : args[1]? = some (.int k' (n : Nat))) (hn : n < 4194304) (hb : i.bytes < 65536) (hneed : sLen + n ≤ sCap)
    (hst : match base with | some ad => (storeCells (ad.add (sLen * i.size)) (zerosOf z i.size n).toList 0).run P w = .ok () w' | none => w' = w) : (Builtin.append_ tys ty args).run P w = .ok (.slice base (sLen + n) sCap) w' := by
  unfold Builtin.append_
  have hw : IntKind.i64.wrap (n : Int) = n := by rw [IntKind.wrap_i64]; omega
  have h0 : ¬ ((n : Int) < 0) := by omega
  have h1 : ¬ ((n : Int) * (i.bytes : Int) > 2 ^ 48) := by
    have : n * i.bytes ≤ 4194304 * 65536 := Nat.mul_le_mul (by omega) (by omega)
    rw [← Int.natCast_mul]; omega
  have hz : ((if n * i.size = 0 then pure #[] else do pure (Builtin.zeroCells (← zeroValue el).cells n) : Sem (Array Value))).run P w = .ok (zerosOf z i.size n) w := by
    unfold zerosOf
    split
    · rfl
    · simp only [Sem.run_bind, run_zero hi hzero, Result.andThen_ok, Sem.run_pure]
  simp only [t0, t1, a0, a1, Sem.run_bind, run_und hd, run_und hu, Result.andThen_ok, run_size hi, run_info hi, Sem.run_pure, if_true, asInt, asIntOf, hw, h0, h1, if_false, Int.toNat_natCast, Bool.not_true, Bool.false_eq_true, hneed]
  rw [hz]
  cases base with
  | none => subst hst; rfl
  | some ad =>
    have hst' : (storeCells (ad.add (sLen * i.size)) (zerosOf z i.size n).toList 0).run P w = .ok () w' := hst
    simp only [Sem.run_bind, hst', Result.andThen_ok, Sem.run_pure]

theorem run_appz_grow {old : Array Value} {k k' : IntKind} (hd : P.underlying t = some (.slice el)) (hi : P.info? el = some i) (hzero : i.zero = some z) (t0 : tys[0]? = some t) (t1 : tys[1]? = some u) (hu : P.underlying u = some (.int k))
    (a0 : args[0]? = some (.slice base sLen sCap)) (a1 : args[1]? = some (.int k' (n : Nat)))
    (hold : (Builtin.firstCells i.size sLen (.slice base sLen sCap)).run P w.drew = .ok old w.drew) (hneed : ¬ sLen + n ≤ sCap) (hsm : sLen + n < 4194304) (hb : i.bytes < 65536) :
    (Builtin.append_ tys ty args).run P w = .ok (.slice (some ⟨w.heap.size, 0, none⟩) (sLen + n) (grownCap w (sLen + n) sCap el))
      { w with heap := w.heap.push (.cells (old ++ zerosOf z i.size n ++ Builtin.zeroCells z.cells (grownCap w (sLen + n) sCap el - (sLen + n))) el), drawn := w.drawn + 1 } := by
  unfold Builtin.append_
  have hw : IntKind.i64.wrap (n : Int) = n := by rw [IntKind.wrap_i64]; omega
  have h0 : ¬ ((n : Int) < 0) := by omega
  have h1 : ¬ ((n : Int) * (i.bytes : Int) > 2 ^ 48) := by
    have : n * i.bytes ≤ 4194304 * 65536 := Nat.mul_le_mul (by omega) (by omega)
    rw [← Int.natCast_mul]; omega
  have h3 : ¬ (((sLen + n : Nat) : Int) > IntKind.i64.max ∧ (True ∨ i.bytes = 0)) := by
    have : IntKind.i64.max = 9223372036854775807 := by decide
    rw [this]; omega
  have h2 : ¬ Builtin.nextslicecap (sLen + n) sCap * i.bytes > 2 ^ 48 := by
    have := growslice_fits (need := sLen + n) (old := sCap) (bytes := i.bytes) (by omega) (by
      have : (sLen + n) * i.bytes ≤ 4194304 * 65536 := Nat.mul_le_mul (by omega) (by omega)
      omega)
    omega
  have hc : (choose (.appendCap (sLen + n) sCap el)).run P w = .ok (grownCap w (sLen + n) sCap el) w.drew := by
    rw [run_choose]; rfl
  have hz : ((if n * i.size = 0 then pure #[] else do pure (Builtin.zeroCells (← zeroValue el).cells n) : Sem (Array Value))).run P w.drew = .ok (zerosOf z i.size n) w.drew := by
    unfold zerosOf
    split
    · rfl
    · simp only [Sem.run_bind, run_zero hi hzero, Result.andThen_ok, Sem.run_pure]
  simp only [t0, t1, a0, a1, Sem.run_bind, run_und hd, run_und hu, Result.andThen_ok, run_size hi, run_info hi, Sem.run_pure, if_true, asInt, asIntOf, hw, h0, h1, if_false, Int.toNat_natCast, Bool.not_true, Bool.false_eq_true, hneed, h2, h3, hc,
    _root_.Go.run_askRoom, hold, run_zero hi hzero, newRow, run_newObj]
  rw [hz]
  simp only [Result.andThen_ok]
  rfl
end
end
end Go.AE
