import Derived.Test.YtbnakfpdmiibdaaAEApp2
namespace Go.AE
section
variable {E : Env} {φ : Loc} {o : Oper} {a : Act} {ts : Tm} {K : Kc} {e : Ex} {ts' : Tm} {h : Hs} {c : Nat} {cl : Call}

theorem lenV_ok {x : AV} {K : Nat → Out} (g : lenV x K = .ok e ts' h c) : ∃ n, K n = .ok e ts' h c ∧ ∀ (E : Env) (φ : Loc) (v : Value), VR E φ x v → ∀ (P : Program) (w : World), (Builtin.lenOf v).run P w = .ok n w := by
  unfold lenV at g
  split at g
  · exact ⟨0, g, fun E φ v hv P w => by simp only [VR] at hv; subst hv; rfl⟩
  · exact ⟨_, g, fun E φ v hv P w => by obtain ⟨B, N, ad, cap', _, rfl, _⟩ := hv; rfl⟩
  · rename_i s
    rw [forceN_eq, lenL_eq] at g
    exact ⟨_, g, fun E φ v hv P w => by simp only [VR] at hv; subst hv; rfl⟩
  · cases g

theorem zeros_VRL {φ : Loc} {z : Value} {zl : List AV} {sz : Nat} (hz : VRL E φ zl z.cells.toList) (h1 : ∀ x ∈ z.cells.toList, one x = true) (hl : zl.length = sz) : ∀ n,
    (∀ l ∈ repL n zl, l.length = sz) ∧ (repL n zl).length = n ∧ VRL E φ (repL n zl).flatten (List.replicate n z.cells.toList).flatten ∧ (∀ x ∈ (List.replicate n z.cells.toList).flatten, one x = true)
  | 0 => ⟨fun l hl => (by cases hl), rfl, VRL_nil, fun x hx => (by simp at hx)⟩
  | n + 1 => by
    obtain ⟨i1, i2, i3, i4⟩ := zeros_VRL hz h1 hl n
    have e1 : repL (n + 1) zl = zl :: repL n zl := rfl
    rw [e1, List.replicate_succ]
    refine ⟨fun l hl' => ?_, by simp [i2], ?_, fun x hx => ?_⟩
    · rcases List.mem_cons.1 hl' with rfl | h
      · exact hl
      · exact i1 l h
    · rw [List.flatten_cons, List.flatten_cons]; exact hz.append i3
    · rw [List.flatten_cons, List.mem_append] at hx
      exact hx.elim (h1 x) (i4 x)

theorem zeroCells_eq (z : Array Value) (n : Nat) : (Builtin.zeroCells z n).toList = (List.replicate n z.toList).flatten := by
  have hall : ∀ l ∈ List.replicate n z.toList, l.length = z.size := fun l hl => by rw [List.mem_replicate] at hl; rw [hl.2]; simp
  have hlen := flat_length (sz := z.size) (List.replicate n z.toList) hall
  rw [List.length_replicate] at hlen
  apply List.ext_getElem?
  intro k
  unfold Builtin.zeroCells
  by_cases hk : k < n * z.size
  · have hz : 0 < z.size := by
      rcases Nat.eq_zero_or_pos z.size with h | h
      · rw [h] at hk; omega
      · exact h
    have hm := Nat.mod_lt k hz
    have hd : k / z.size < n := by apply Nat.div_lt_of_lt_mul; rw [Nat.mul_comm]; exact hk
    have fg := flat_get (List.replicate n z.toList) hall (k / z.size) (k % z.size) hm
    rw [base_add] at fg
    rw [fg, List.getElem?_replicate, if_pos hd]
    simp only [Option.bind_some, Array.toList_map, List.getElem?_map]
    rw [show (Array.range (n * z.size)).toList[k]? = some k by simp [hk]]
    simp only [Option.map_some, Array.getElem?_toList]
    rw [getElem!_def]
    rw [show z[k % z.size]? = some z[k % z.size] from Array.getElem?_eq_getElem hm]
  · rw [List.getElem?_eq_none (by simp; omega), List.getElem?_eq_none (by omega)]

theorem zerosOf_eq {z : Value} {sz n : Nat} (hz : z.cells.size = sz) : (zerosOf z sz n).toList = (List.replicate n z.cells.toList).flatten := by
  unfold zerosOf
  split
  · rename_i h
    have hall : ∀ l ∈ List.replicate n z.cells.toList, l.length = sz := fun l hl => by rw [List.mem_replicate] at hl; rw [hl.2]; simpa using hz
    have hlen := flat_length (sz := sz) (List.replicate n z.cells.toList) hall
    rw [List.length_replicate, h] at hlen
    exact (List.length_eq_zero_iff.1 hlen).symm
  · exact zeroCells_eq _ _

theorem isIntD_int {d : TypeDesc} (h : isIntD d = true) : ∃ k, d = .int k := by cases d <;> first | exact ⟨_, rfl⟩ | cases h

theorem rest_len {z : Value} {sz m : Nat} (hz : z.cells.size = sz) : (Builtin.zeroCells z.cells m).toList.length = m * sz := by
  unfold Builtin.zeroCells; simp [hz]

theorem bytesOk_ok (T : TabOk E) {t : TypeId} {i : TypeInfo} (hi : E.P.info? t = some i) {K : Out} (g : bytesOk E t K = .ok e ts' h c) : i.bytes < 65536 ∧ K = .ok e ts' h c ∧ ∃ z, i.zero = some z ∧ z.cells.size = i.size := by
  unfold bytesOk at g
  split at g
  · rename_i i' hti
    have := T.ty _ _ hti
    rw [hi] at this; cases this
    obtain ⟨h2, g2⟩ := guardB_ok g
    cases hz : i.zero with
    | none => rw [hz] at g2; cases g2
    | some z => rw [hz] at g2; exact ⟨Nat.blt_eq.mp h2, g2, z, rfl, T.zsz _ _ _ hti hz⟩
  · cases g

theorem appendD_plain {el : TypeId} {size : Nat} {s x : AV} {K : Kc} {d : TypeDesc} (hd : isIntD d = false) : appendD E el size s x K d = K (.cx fun _ h c K => appendV size s x h c K) := by
  cases d <;> first | rfl | cases hd

theorem ok_append (T : TabOk E) (ht : TR E φ ts a.tmps) (ho : o.op = .call cl) (hb : cl.callee = .builtin .append) (g : cAppend cl.args.toList cl.argTypes.toList E ts K = .ok e ts' h c) : Good E φ o a K e ts' h c := by
  obtain ⟨cs, he⟩ := ex_builtin (a := a) ho hb
  have hnd : ∀ c, o.op ≠ .defer c := fun c h => by rw [ho] at h; cases h
  unfold cAppend at g
  obtain ⟨t, hty, g⟩ := argTy_ok g
  obtain ⟨u, huy, g⟩ := argTy_ok g
  obtain ⟨s, hax, hx, g⟩ := arg_ok ht g
  obtain ⟨x, hay, hy, g⟩ := arg_ok ht g
  obtain ⟨d, hd, g⟩ := und_ok T g
  obtain ⟨el, i, rfl, hi, h0, g⟩ := elemK_ok T g
  obtain ⟨hbytes, g, z0, hz0, hzs0⟩ := bytesOk_ok T hi g
  obtain ⟨du, hu, g⟩ := und_ok T g
  have hr : execOp a.eval o = (do pure (Next.value (← Builtin.append_ cl.argTypes o.type (cl.args.map a.eval)))) := he
  have val : ∀ {w w' : World} {v : Value}, (Builtin.append_ cl.argTypes o.type (cl.args.map a.eval)).run E.P w = .ok v w' → Runs E.P o a w v w' := fun hs => .inl (by
    rw [hr]; simp only [Sem.run_bind, hs, Result.andThen_ok, Sem.run_pure])
  -- the type's zero value is needed where the row grows
  cases hint : isIntD du with
  | false =>
    rw [appendD_plain hint] at g
    refine ⟨_, g, fun self _ h c K' e ts' h' c' g2 => ?_⟩
    unfold appendV at g2
    obtain ⟨n, g2, hlen⟩ := lenV_ok g2
    obtain ⟨hsm, g2⟩ := guardB_ok g2
    have hsm : n < 4194304 := Nat.blt_eq.mp hsm
    obtain ⟨L, g2, hLn, hsrc⟩ := srcE_ok (E := E) g2
    have hzs := hzs0
    refine appendTo_ok h0 hsm hLn hx hnd (el := el) (fun φ' w hle hh => ?_) g2
    have hy' := VR.mono hle _ _ hy
    obtain ⟨q1, us, q3, q4, q5⟩ := hsrc φ' w _ h0 hh hy'
    refine ⟨q1, us, q3, q4, fun base sLen sCap w' hs hle2 hst => val ?_, fun base sLen sCap old hs hold hle2 hsm2 => ⟨grownCap w (sLen + n) sCap el, _, grownCap_ge .., rest_len hzs, val ?_⟩⟩
    · exact run_app_in hd hi hty huy hu hint (by rw [hax, hs]) (by rw [hay]) (hlen E φ' _ hy' E.P w) (q5 w.drawn) hle2 (by cases base <;> simpa using hst)
    · have hap : (Builtin.firstCells i.size n (a.eval x)).run E.P w.drew = .ok us.toArray w.drew := q5 (w.drawn + 1)
      rw [run_app_grow hd hi hz0 hty huy hu hint (by rw [hax, hs]) (by rw [hay]) (hlen E φ' _ hy' E.P w) hap hold hle2 hsm2 hbytes]
      congr 4
      apply Array.ext'
      simp
  | true =>
    obtain ⟨k, rfl⟩ := isIntD_int hint
    have g : natOf (evalO x ts) (fun n => guardB (Nat.blt n 4194304) 159 <| E.zero el fun z => cellsK z 268 fun z => guardB (Nat.beq (lenL z) i.size) 160 <| K (.cx fun _ h c K => appendTo i.size (evalO s ts) n (repL n z) h c K)) = .ok e ts' h c := g
    obtain ⟨k', n, hxe, g⟩ := natOf_ok g
    rw [hxe] at hy; simp only [VR] at hy
    obtain ⟨hsm, g⟩ := guardB_ok g
    have hsm : n < 4194304 := Nat.blt_eq.mp hsm
    obtain ⟨i', z, hi', hz, g⟩ := zero_ok T g
    rw [hi] at hi'; cases hi'
    have hzs : z.cells.size = i.size := by rw [hz0] at hz; cases hz; exact hzs0
    obtain ⟨zl, g, hzl⟩ := cellsK_ok g
    obtain ⟨hzn, g⟩ := guardB_ok g
    have hzn : lenL zl = i.size := Nat.eq_of_beq_eq_true hzn
    rw [lenL_eq] at hzn
    refine ⟨_, g, fun self _ h c K' e ts' h' c' g2 => ?_⟩
    refine appendTo_ok h0 hsm (zeros_VRL (E := E) (φ := φ) (hzl E φ z (ofValue_VR E φ z)).1 (hzl E φ z (ofValue_VR E φ z)).2 hzn n).2.1 hx hnd (el := el) (fun φ' w hle hh => ?_) g2
    obtain ⟨r1, r2⟩ := hzl E φ' z (ofValue_VR E φ' z)
    obtain ⟨q1, q2, q3, q4⟩ := zeros_VRL r1 r2 hzn n
    have ez := zerosOf_eq (n := n) hzs
    refine ⟨q1, _, q3, q4, fun base sLen sCap w' hs hle2 hst => val ?_, fun base sLen sCap old hs hold hle2 hsm2 => ⟨grownCap w (sLen + n) sCap el, _, grownCap_ge .., rest_len hzs, val ?_⟩⟩
    · refine run_appz_in hd hi hz hty huy hu (by rw [hax, hs]) (by rw [hay, hy]) hsm hbytes hle2 ?_
      rw [ez]; cases base <;> exact hst
    · rw [run_appz_grow hd hi hz hty huy hu (by rw [hax, hs]) (by rw [hay, hy]) hold hle2 hsm2 hbytes]
      congr 4
      apply Array.ext'
      simp [ez]
end
end Go.AE
