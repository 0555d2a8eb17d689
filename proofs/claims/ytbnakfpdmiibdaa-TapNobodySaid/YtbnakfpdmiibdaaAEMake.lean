import Derived.Test.YtbnakfpdmiibdaaAEVal2
import Derived.Laws.MakeOwn
namespace Go.AE
section
variable {E : Env} {φ : Loc} {o : Oper} {a : Act} {ts : Tm} {K : Kc} {e : Ex} {ts' : Tm} {h : Hs} {c : Nat}

theorem set_zero (l : List AV) : (T.e : T (List AV)).set 0 (some l) = .n .e (some l) .e := rfl
theorem nofz0 (n : Nat) : Nofz (0, 0) n := fun i _ => by simp

/-- a variable of its own -/
theorem new_ok {ao : AObj} {mk : Nat → AV} (hr : ∀ w : World, ∃ u x N n, Runs E.P o a w u { w with heap := w.heap.push x, drawn := n } ∧
    ∀ (φ' : Loc) (c : Nat), φ.le φ' → φ' c = some (w.heap.size, N) → OR E φ' { w with heap := w.heap.push x, drawn := n } c ao ∧ VR E φ' (mk c) u) : CmdOk E φ o a (.new ao mk) :=
  fun w => let ⟨u, x, N, n, h1, h2⟩ := hr w; ⟨u, _, N, h1, grown_push w x n, h2⟩

theorem boxUp_ok (T : TabOk E) {t : TypeId} {v : AV} (g : boxUp E t v K = .ok e ts' h c) {u : Value} (hu : VR E φ v u)
    (hr : ∀ w, (execOp a.eval o).run E.P w = .ok (.value (.pointer (some ⟨w.heap.size, 0, none⟩))) (w.alloc (.cells u.cells t))) : Good E φ o a K e ts' h c := by
  unfold boxUp at g
  obtain ⟨i, hi, g⟩ := size_ok T g
  obtain ⟨l, g, hl⟩ := cellsK_ok g
  unfold rowOf at g
  obtain ⟨h0, g⟩ := guardB_ok g
  have h0 : 0 < i.size := Nat.blt_eq.mp h0
  obtain ⟨h1, g⟩ := guardB_ok g
  have h1 : lenL l = i.size := Nat.eq_of_beq_eq_true h1
  rw [lenL_eq] at h1
  refine ⟨_, g, new_ok fun w => ⟨_, _, u.cells.size, w.drawn, .inl (hr w), fun φ' c hle hc => ⟨⟨w.heap.size, u.cells, t, (0, 0), hc, push_last w _ _, nofz0 _, ?_⟩, ⟨_, _, hc, rfl⟩⟩⟩⟩
  obtain ⟨r1, r2⟩ := hl E φ' u (VR.mono hle _ _ hu)
  have := RowR.fresh (E := E) (φ := φ') (n := i.size) (sz := i.size) (L := [l]) (us := u.cells.toList) (rest := []) h0 (fun x hx => by simp at hx; rw [hx]; exact h1) (by simpa using r1) r2 (by simp)
  rw [List.append_nil] at this
  exact this

theorem ok_alloc (T : TabOk E) {t : TypeId} (ho : o.op = .alloc t) (g : cAlloc t E ts K = .ok e ts' h c) : Good E φ o a K e ts' h c := by
  have he : execOp a.eval o = (do pure (Next.value (← Instr.alloc t true (.tuple #[])))) := by unfold execOp; rw [ho]
  unfold cAlloc at g
  obtain ⟨i, z, hi, hz, g⟩ := zero_ok T g
  refine boxUp_ok T g (ofValue_VR E φ z) fun w => ?_
  rw [he]
  unfold Instr.alloc newVar newRow
  simp only [Sem.run_bind, run_zero hi hz, Result.andThen_ok, run_newObj, Sem.run_pure]
  rfl
theorem ok_box (T : TabOk E) (ht : TR E φ ts a.tmps) {t : TypeId} {x : Operand} (ho : o.op = .box t x) (g : cBox t x E ts K = .ok e ts' h c) : Good E φ o a K e ts' h c := by
  have he : execOp a.eval o = (do pure (Next.value (← Instr.box t (a.eval x)))) := by unfold execOp; rw [ho]
  refine boxUp_ok T g (eval_VR ht x) fun w => ?_
  rw [he]
  unfold Instr.box newVar newRow
  simp only [Sem.run_bind, Result.andThen_ok, run_newObj, Sem.run_pure]
  rfl

theorem ok_makeMap {t : TypeId} {r : Option Operand} (ho : o.op = .makeMap t r) (g : cMakeMap r E ts K = .ok e ts' h c) : Good E φ o a K e ts' h c := by
  unfold cMakeMap at g
  split at g
  · have he : execOp a.eval o = (do pure (Next.value (← Instr.makeMap t none))) := by unfold execOp; rw [ho]; rfl
    refine ⟨_, g, new_ok fun w => ⟨.map (some w.heap.size), .map #[] 0, 0, w.drawn, .inl ?_, fun φ' c hle hc => ⟨⟨_, _, #[], hc, push_last w _ _, rfl⟩, ⟨_, _, hc, rfl⟩⟩⟩⟩
    rw [he]
    unfold Instr.makeMap
    simp only [Sem.run_bind, Result.andThen_ok, run_newObj, Sem.run_pure]
  · cases g
theorem ok_makeChan (T : TabOk E) (ht : TR E φ ts a.tmps) {t : TypeId} {s : Operand} (ho : o.op = .makeChan t s) (g : cMakeChan t s E ts K = .ok e ts' h c) : Good E φ o a K e ts' h c := by
  have he : execOp a.eval o = (do pure (Next.value (← Instr.makeChan t (a.eval s)))) := by unfold execOp; rw [ho]
  unfold cMakeChan at g
  obtain ⟨d, hd, g⟩ := und_ok T g
  split at g
  · rename_i dir el
    obtain ⟨i, hi, g⟩ := size_ok T g
    obtain ⟨k, n, hn, g⟩ := natOf_ok g
    have hs := eval_VR ht s
    rw [hn] at hs; simp only [VR] at hs
    obtain ⟨h1, g⟩ := guardB_ok g
    have h1 : n < 4096 := Nat.blt_eq.mp h1
    cases hti : E.ty.get el with
    | none => rw [hti] at g; cases g
    | some i' =>
      rw [hti] at g
      have := T.ty _ _ hti
      rw [hi] at this; cases this
      obtain ⟨h2, g⟩ := guardB_ok g
      have h2 : i.bytes < 4096 := Nat.blt_eq.mp h2
      refine ⟨_, g, new_ok fun w => ⟨.chan (some w.heap.size), .chan n #[] false 0 0 false, 0, w.drawn, .inl ?_, fun φ' c hle hc => ⟨⟨_, _, #[], 0, 0, hc, push_last w _ _, VRL_nil⟩, ⟨_, _, hc, rfl⟩⟩⟩⟩
      have hmax : IntKind.i64.max = 9223372036854775807 := by decide
      have hmul : i.bytes * n ≤ 4096 * 4096 := Nat.mul_le_mul (by omega) (by omega)
      have hno : ¬ ((n : Int) < 0 ∨ (n : Int) > IntKind.i64.max ∨ (i.bytes : Int) * n > 2 ^ 48 - 112) := by
        rw [hmax]
        rw [← Int.natCast_mul]
        omega
      rw [he]
      unfold Instr.makeChan
      simp only [Sem.run_bind, asInt, asIntOf, hs, Sem.run_pure, run_und hd, run_info hi, Result.andThen_ok, hno, if_false, run_newObj, Int.toNat_natCast]
  · cases g

/-- a row of zeros -/
theorem zeros_row {φ : Loc} {z : AV} {zv : Value} {zl : List AV} {n len : Nat} (hsz : 0 < n) (hl : VRL E φ zl zv.cells.toList) (h1 : ∀ x ∈ zv.cells.toList, one x = true) (hn : zl.length = n) (N : Nat) :
    RowR E φ (len * n) n zl .e (madeCells zv.cells (len * n)) ∧ (madeCells zv.cells (len * n)).size = len * n := by
  have hlen := hl.length
  rw [hn] at hlen
  have hzs : zv.cells.size = n := by simpa using hlen
  have hms : (madeCells zv.cells (len * n)).size = len * n := by simp [madeCells]
  have hel : ∀ i, elemAt zl ((T.e : T (List AV)).get i) = zl := fun i => by rw [get_e]; rfl
  refine ⟨⟨hsz, by omega, fun i _ => by rw [hel]; exact hn, fun k hk => ?_⟩, hms⟩
  rw [hel]
  have hm := Nat.mod_lt k hsz
  obtain ⟨v, hv, hr⟩ := hl.get (List.getElem?_eq_getElem (show k % n < zl.length by omega))
  refine ⟨_, v, List.getElem?_eq_getElem (show k % n < zl.length by omega), ?_, hr, h1 v (List.mem_of_getElem? hv)⟩
  simp only [madeCells, Array.getElem?_map]
  rw [show (Array.range (len * n))[k]? = some k by simp [hk]]
  simp only [Option.map_some, hzs]
  have : zv.cells[k % n]? = some v := by simpa using hv
  rw [getElem!_def, this]

theorem mkSl_ok {n l cp : Nat} {z : List AV} (g : mkSl n z l cp K = .ok e ts' h c) : l ≤ cp ∧ cp < 16777216 ∧ z.length = n ∧ K (.new (.row (cp * n) n z .e) fun b => .sl b 0 l cp n true) = .ok e ts' h c := by
  unfold mkSl at g
  obtain ⟨h1, g⟩ := guardB_ok g
  obtain ⟨h2, g⟩ := guardB_ok g
  obtain ⟨h3, g⟩ := guardB_ok g
  exact ⟨Nat.le_of_ble_eq_true h1, Nat.blt_eq.mp h2, by rw [← lenL_eq]; exact Nat.eq_of_beq_eq_true h3, g⟩
theorem elemK_ok (T : TabOk E) {K : TypeId → Nat → Out} {d : TypeDesc} (g : elemK E K d = .ok e ts' h c) : ∃ el i, d = .slice el ∧ E.P.info? el = some i ∧ 0 < i.size ∧ K el i.size = .ok e ts' h c := by
  unfold elemK at g
  split at g
  · obtain ⟨i, hi, g⟩ := size_ok T g
    obtain ⟨h1, g⟩ := guardB_ok g
    exact ⟨_, i, rfl, hi, Nat.blt_eq.mp h1, g⟩
  · cases g

theorem ok_makeSlice (T : TabOk E) (ht : TR E φ ts a.tmps) {t : TypeId} {l cp : Operand} (ho : o.op = .makeSlice t l cp) (g : cMakeSlice t l cp E ts K = .ok e ts' h c) : Good E φ o a K e ts' h c := by
  have he : execOp a.eval o = (do pure (Next.value (← Instr.makeSlice t (a.eval l) (a.eval cp)))) := by unfold execOp; rw [ho]
  unfold cMakeSlice at g
  obtain ⟨d, hd, g⟩ := und_ok T g
  obtain ⟨el, i, rfl, hi, h0, g⟩ := elemK_ok T g
  obtain ⟨i', z, hi', hz, g⟩ := zero_ok T g
  rw [hi] at hi'; cases hi'
  cases hti : E.ty.get el with
  | none => rw [hti] at g; cases g
  | some i' =>
    rw [hti] at g
    have := T.ty _ _ hti
    rw [hi] at this; cases this
    obtain ⟨h2, g⟩ := guardB_ok g
    have h2 : i.bytes < 65536 := Nat.blt_eq.mp h2
    obtain ⟨kl, nl, hl, g⟩ := natOf_ok g
    have hvl := eval_VR ht l
    rw [hl] at hvl; simp only [VR] at hvl
    obtain ⟨kc, nc, hc', g⟩ := natOf_ok g
    have hvc := eval_VR ht cp
    rw [hc'] at hvc; simp only [VR] at hvc
    obtain ⟨zl, g, hzl⟩ := cellsK_ok g
    obtain ⟨a1, a2, a3, g⟩ := mkSl_ok g
    refine ⟨_, g, new_ok fun w => ⟨.slice (some ⟨w.heap.size, 0, none⟩) nl nc, .cells (madeCells z.cells (nc * i.size)) el, nc * i.size, w.drawn, .inl ?_, fun φ' c hle hc => ?_⟩⟩
    · have hmul : i.bytes * nc ≤ 65536 * 16777216 := Nat.mul_le_mul (by omega) (by omega)
      have hmul' : ((i.bytes : Int) * (nc : Int)) ≤ 281474976710656 := by
        rw [← Int.natCast_mul]
        omega
      have := run_make w t el i z hd hi hz kl kc nl nc (by omega) (by omega) hmul' (by omega)
      simp only [Int.toNat_natCast] at this
      rw [he, hvl, hvc]
      simp only [Sem.run_bind, this, Result.andThen_ok, Sem.run_pure]
      rfl
    · obtain ⟨r1, r2⟩ := hzl E φ' z (ofValue_VR E φ' z)
      obtain ⟨r3, r4⟩ := zeros_row (z := .any) (len := nc) h0 r1 r2 a3 0
      exact ⟨⟨w.heap.size, _, el, (0, 0), by rw [r4]; exact hc, push_last w _ _, nofz0 _, r3⟩, ⟨w.heap.size, nc * i.size, _, nc, hc, rfl, a1, Nat.le_refl _, fun _ => rfl, fun _ => rfl, fun _ => by omega, h0⟩⟩

theorem ok_range_str (T : TabOk E) (ht : TR E φ ts a.tmps) {t : TypeId} {x : Operand} (ho : o.op = .range t x) {s : List UInt8} (hs : evalO x ts = .str s) (hd : E.P.underlying t = some .string) :
    CmdOk E φ o a (.new (.siter s 0) fun b => .ptr b 0) := by
  have he : execOp a.eval o = (do pure (Next.value (← Instr.range t (a.eval x)))) := by unfold execOp; rw [ho]
  have hx := eval_VR ht x
  rw [hs] at hx; simp only [VR] at hx
  refine new_ok fun w => ⟨.pointer (some ⟨w.heap.size, 0, none⟩), .stringIter ⟨s.toArray⟩ 0, 0, w.drawn, .inl ?_, fun φ' c hle hc => ⟨⟨_, _, ⟨s.toArray⟩, hc, push_last w _ _, rfl, Nat.zero_le _⟩, ⟨_, _, hc, rfl⟩⟩⟩
  rw [he, hx]
  unfold Instr.range
  simp only [Sem.run_bind, run_und hd, Result.andThen_ok, Sem.run_pure, run_newObj]
end
end Go.AE
