import Derived.Test.YtbnakfpdmiibdaaAERead
namespace Go.AE
section
variable {E : Env} {φ : Loc} {o : Oper} {a : Act} {ts : Tm} {K : Kc} {e : Ex} {ts' : Tm} {h : Hs} {c : Nat}

theorem ex_builtin {cl : Call} {b : Builtin} (ho : o.op = .call cl) (hb : cl.callee = .builtin b) :
    ∃ cs, execOp a.eval o = builtin b cl.argTypes o.type cs (cl.args.map a.eval) := by
  refine ⟨cl.args.map fun | .const _ => true | _ => false, ?_⟩
  unfold execOp; rw [ho]
  simp only [resolve, hb]
  rfl
theorem arg_ok (ht : TR E φ ts a.tmps) {args : Array Operand} {i : Nat} {K : AV → Out} (g : arg args.toList i ts K = .ok e ts' h c) :
    ∃ x, (args.map a.eval)[i]? = some (a.eval x) ∧ VR E φ (evalO x ts) (a.eval x) ∧ K (evalO x ts) = .ok e ts' h c := by
  unfold arg at g
  split at g
  · rename_i x hx
    rw [kidx_eq] at hx
    have hx' : args[i]? = some x := by simpa using hx
    exact ⟨x, by simp [hx'], eval_VR ht x, g⟩
  · cases g
theorem argTy_ok {tys : Array TypeId} {i : Nat} {K : TypeId → Out} (g : argTy tys.toList i K = .ok e ts' h c) : ∃ t, tys[i]? = some t ∧ K t = .ok e ts' h c := by
  unfold argTy at g
  split at g
  · rename_i x hx
    rw [kidx_eq] at hx
    exact ⟨x, by simpa using hx, g⟩
  · cases g

theorem run_getMap {P : Program} {w : World} {B : Nat} {ents : Array MapEntry} {n : Nat} (h : w.heap[B]? = some (.map ents n)) : (getObj B).run P w = .ok (.map ents n) w := by simp [getObj, Sem.run, h]
theorem run_getChan {P : Program} {w : World} {B n s r : Nat} {vs : Array Value} {cl tm : Bool} (h : w.heap[B]? = some (.chan n vs cl s r tm)) : (getObj B).run P w = .ok (.chan n vs cl s r tm) w := by simp [getObj, Sem.run, h]
theorem EntsR.length {E : Env} {φ : Loc} : ∀ (l : List Ent) (m : List MapEntry), EntsR E φ l m → m.length = l.length := by
  intro l
  induction l with
  | nil => intro m hm; simp only [EntsR] at hm; subst hm; rfl
  | cons p l ih => intro m hm; simp only [EntsR] at hm; obtain ⟨x, r, rfl, _, hm⟩ := hm; simp [ih r hm]

variable {cl : Call}

theorem ok_len (T : TabOk E) (ht : TR E φ ts a.tmps) (ho : o.op = .call cl) (hb : cl.callee = .builtin .len) (g : cLen cl.args.toList cl.argTypes.toList E ts K = .ok e ts' h c) : Good E φ o a K e ts' h c := by
  obtain ⟨cs, he⟩ := ex_builtin (a := a) ho hb
  unfold cLen at g
  obtain ⟨t, hty, g⟩ := argTy_ok g
  obtain ⟨x, hax, hx, g⟩ := arg_ok ht g
  obtain ⟨d, hd, g⟩ := und_ok T g
  have hr : execOp a.eval o = (do pure (Next.value (← Builtin.len_ cl.argTypes o.type (cl.args.map a.eval)))) := he
  have val : ∀ (n : Nat), K (.val (intV n)) = .ok e ts' h c → (∀ w, (Builtin.len_ cl.argTypes o.type (cl.args.map a.eval)).run E.P w = .ok (goInt n) w) → Good E φ o a K e ts' h c := fun n g hs =>
    good_val (u := goInt n) g rfl hr hs
  unfold lenD at g
  split at g
  · split at g
    · rename_i s hxe
      rw [hxe] at hx; simp only [VR] at hx
      refine val _ g fun w => ?_
      rw [lenL_eq]
      unfold Builtin.len_
      simp only [hty, hax, hx, Sem.run_bind, run_und hd, Result.andThen_ok, Sem.run_pure]
      rfl
    · cases g
  · split at g
    · rename_i hxe
      rw [hxe] at hx; simp only [VR] at hx
      refine val 0 g fun w => ?_
      unfold Builtin.len_
      simp only [hty, hax, hx, Sem.run_bind, run_und hd, Result.andThen_ok, Sem.run_pure]
    · rename_i hxe
      rw [hxe] at hx
      obtain ⟨B, N, ad, cap', hb, hx, _⟩ := hx
      refine val _ g fun w => ?_
      unfold Builtin.len_
      simp only [hty, hax, hx, Sem.run_bind, run_und hd, Result.andThen_ok, Sem.run_pure]
    · cases g
  · rename_i n el
    refine val n g fun w => ?_
    unfold Builtin.len_
    simp only [hty, hax, Sem.run_bind, run_und hd, Result.andThen_ok, Sem.run_pure]
  · split at g
    · rename_i hxe
      rw [hxe] at hx; simp only [VR] at hx
      refine val 0 g fun w => ?_
      unfold Builtin.len_
      simp only [hty, hax, hx, Sem.run_bind, run_und hd, Result.andThen_ok, Sem.run_pure]
      rfl
    · rename_i b hxe
      rw [hxe] at hx
      obtain ⟨B, N, hb, hx⟩ := hx
      refine ⟨_, g, fun K' ao e' ts2 h2 c2 g2 => ?_⟩
      unfold rdLenM at g2
      split at g2
      · rename_i es clock
        refine ⟨_, _, rfl, g2, fun φ' w hle hor => ?_⟩
        obtain ⟨B', N', ents, hb', hw, hents⟩ := hor
        rw [hle _ _ hb] at hb'; cases hb'
        have hl : ents.size = lenL es := by rw [lenL_eq]; simpa using EntsR.length es ents.toList hents
        refine ⟨goInt (lenL es), rfl, .inl ?_⟩
        rw [hr, ← hl]
        unfold Builtin.len_
        simp only [hty, hax, hx, Sem.run_bind, run_und hd, Result.andThen_ok, Sem.run_pure, run_getMap hw]
      · cases g2
    · cases g
  · split at g
    · rename_i hxe
      rw [hxe] at hx; simp only [VR] at hx
      refine val 0 g fun w => ?_
      unfold Builtin.len_
      simp only [hty, hax, hx, Sem.run_bind, run_und hd, Result.andThen_ok, Sem.run_pure]
      rfl
    · rename_i b hxe
      rw [hxe] at hx
      obtain ⟨B, N, hb, hx⟩ := hx
      refine ⟨_, g, fun K' ao e' ts2 h2 c2 g2 => ?_⟩
      unfold rdLenC at g2
      split at g2
      · rename_i cap buf
        refine ⟨_, _, rfl, g2, fun φ' w hle hor => ?_⟩
        obtain ⟨B', N', vs, s, r, hb', hw, hvs⟩ := hor
        rw [hle _ _ hb] at hb'; cases hb'
        have hl : vs.size = lenL buf := by rw [lenL_eq]; simpa using hvs.length
        refine ⟨goInt (lenL buf), rfl, .inl ?_⟩
        rw [hr, ← hl]
        unfold Builtin.len_
        simp only [hty, hax, hx, Sem.run_bind, run_und hd, Result.andThen_ok, Sem.run_pure, run_getChan hw, Bool.false_eq_true, if_false]
      · cases g2
    · cases g
  · cases g

theorem ok_cap (T : TabOk E) (ht : TR E φ ts a.tmps) (ho : o.op = .call cl) (hb : cl.callee = .builtin .cap) (g : cCap cl.args.toList cl.argTypes.toList E ts K = .ok e ts' h c) : Good E φ o a K e ts' h c := by
  obtain ⟨cs, he⟩ := ex_builtin (a := a) ho hb
  unfold cCap at g
  obtain ⟨t, hty, g⟩ := argTy_ok g
  obtain ⟨x, hax, hx, g⟩ := arg_ok ht g
  obtain ⟨d, hd, g⟩ := und_ok T g
  have hr : execOp a.eval o = (do pure (Next.value (← Builtin.cap_ cl.argTypes o.type (cl.args.map a.eval)))) := he
  have val : ∀ (n : Nat), K (.val (intV n)) = .ok e ts' h c → (∀ w, (Builtin.cap_ cl.argTypes o.type (cl.args.map a.eval)).run E.P w = .ok (goInt n) w) → Good E φ o a K e ts' h c := fun n g hs =>
    good_val (u := goInt n) g rfl hr hs
  unfold capD at g
  split at g
  · split at g
    · rename_i hxe
      rw [hxe] at hx; simp only [VR] at hx
      refine val 0 g fun w => ?_
      unfold Builtin.cap_
      simp only [hty, hax, hx, Sem.run_bind, run_und hd, Result.andThen_ok, Sem.run_pure]
    · rename_i hxe
      rw [hxe] at hx
      obtain ⟨B, N, ad, cap', hb, hx, _, _, hex, _⟩ := hx
      obtain ⟨h1, g⟩ := guardB_ok g
      refine val _ g fun w => ?_
      unfold Builtin.cap_
      simp only [hty, hax, hx, Sem.run_bind, run_und hd, Result.andThen_ok, Sem.run_pure, hex h1]
    · cases g
  · split at g
    · rename_i hxe
      rw [hxe] at hx; simp only [VR] at hx
      refine val 0 g fun w => ?_
      unfold Builtin.cap_
      simp only [hty, hax, hx, Sem.run_bind, run_und hd, Result.andThen_ok, Sem.run_pure]
      rfl
    · rename_i b hxe
      rw [hxe] at hx
      obtain ⟨B, N, hb, hx⟩ := hx
      refine ⟨_, g, fun K' ao e' ts2 h2 c2 g2 => ?_⟩
      unfold rdCap at g2
      split at g2
      · rename_i n buf
        refine ⟨_, _, rfl, g2, fun φ' w hle hor => ?_⟩
        obtain ⟨B', N', vs, s, r, hb', hw, hvs⟩ := hor
        rw [hle _ _ hb] at hb'; cases hb'
        refine ⟨goInt n, rfl, .inl ?_⟩
        rw [hr]
        unfold Builtin.cap_
        simp only [hty, hax, hx, Sem.run_bind, run_und hd, Result.andThen_ok, Sem.run_pure, run_getChan hw, Bool.false_eq_true, if_false]
      · cases g2
    · cases g
  · cases g

theorem two_args {args : Array Operand} (h : Nat.beq (lenL args.toList) (nat_lit 2) = true) {x y : Value} (hx : (args.map a.eval)[0]? = some x) (hy : (args.map a.eval)[1]? = some y) : (args.map a.eval).toList = [x, y] := by
  have h := Nat.eq_of_beq_eq_true h
  rw [lenL_eq] at h
  have h2 : (args.map a.eval).toList.length = 2 := by simpa using h
  generalize (args.map a.eval) = A at *
  obtain ⟨l⟩ := A
  match l, h2 with
  | [p, q], _ => simp at hx hy; simp [hx, hy]
theorem ok_minmax (ht : TR E φ ts a.tmps) {mx : Bool} (ho : o.op = .call cl) (hb : cl.callee = .builtin (if mx then .max else .min)) (g : cMinmax mx cl.args.toList cl.argTypes.toList E ts K = .ok e ts' h c) : Good E φ o a K e ts' h c := by
  obtain ⟨cs, he⟩ := ex_builtin (a := a) ho hb
  unfold cMinmax at g
  obtain ⟨h2, g⟩ := guardB_ok g
  obtain ⟨x, hax, hx, g⟩ := arg_ok ht g
  obtain ⟨y, hay, hy, g⟩ := arg_ok ht g
  unfold minmax at g
  split at g
  · rename_i k p hxe
    split at g
    · rename_i k' q hye
      rw [hxe] at hx; rw [hye] at hy
      simp only [VR] at hx hy
      obtain ⟨hk, g2⟩ := guardB_ok g
      have hk := (ikEq_iff _ _).1 hk
      subst hk
      have hl := two_args h2 hax hay
      rw [hx, hy] at hl
      cases mx with
      | true =>
        refine good_val (u := .int k (if q > p then q else p)) g2 ?_ he (fun w => ?_)
        · show Value.int k _ = Value.int k (mmV true (intLe p q) p q)
          congr 1
          unfold mmV
          rw [intLe_eq]
          by_cases hpq : p ≤ q
          · simp only [hpq, decide_true]
            by_cases hlt : q > p
            · rw [if_pos hlt]
            · rw [if_neg hlt]; omega
          · simp only [hpq, decide_false]
            rw [if_neg (by omega)]
        · unfold Builtin.max_
          rw [hl]; simp [Builtin.max2]
      | false =>
        refine good_val (u := .int k (if q < p then q else p)) g2 ?_ he (fun w => ?_)
        · show Value.int k _ = Value.int k (mmV false (intLe p q) p q)
          congr 1
          unfold mmV
          rw [intLe_eq]
          by_cases hpq : p ≤ q
          · simp only [hpq, decide_true]
            rw [if_neg (by omega)]
          · simp only [hpq, decide_false]
            rw [if_pos (by omega)]
        · unfold Builtin.min_
          rw [hl]; simp [Builtin.min2]
    · cases g
  · cases g
end
end Go.AE
