import Derived.Test.YtbnakfpdmiibdaaAEPure
namespace Go.AE
section
variable {E : Env} {φ : Loc} {o : Oper} {a : Act} {ts : Tm} {K : Kc} {e : Ex} {ts' : Tm} {h : Hs} {c : Nat}

theorem binE_ok (T : TabOk E) {op : BinOp} {t : TypeId} {x y : AV} {K : AV → Out} (h1 : ∀ k n, x ≠ .int k n) (h2 : ∀ s, x ≠ .str s) (g : binE op E t x y K = .ok e ts' h c) :
    ∃ r, K (.bool r) = .ok e ts' h c ∧ ∀ (φ : Loc) (u v : Value), VR E φ x u → VR E φ y v → ∀ ox oy, Hands E.P (do eqGuard op t ox oy u v; binOp op t u v) (.bool r) := by
  have main : ∀ {D : TypeDesc} {K' : Bool → Out}, E.P.underlying t = some D → eqTop E t x y K' D = .ok e ts' h c → ∃ r, K' r = .ok e ts' h c ∧
      ∀ (φ : Loc) (u v : Value), VR E φ x u → VR E φ y v → Hands E.P (Op.equal t u v) r ∧ (∀ op ox oy, Hands E.P (eqGuard op t ox oy u v) ()) ∧
        binOp .eql t u v = (do pure (.bool (← Op.equal t u v))) ∧ binOp .neq t u v = (do pure (.bool (!(← Op.equal t u v)))) := by
    intro D K' hD g
    obtain ⟨r, g, hs, hst, K2, g2⟩ := eqTop_ok T hD g
    refine ⟨r, g, fun φ u v hu hv => ⟨hs φ u v hu hv, fun op ox oy => ?_, ?_⟩⟩
    · refine eqGuard_ok (eqF_known T g2 hu hv) ?_
      rintro ⟨l, m, e1, _⟩
      rcases hst with hst | ⟨ms, rfl⟩
      · exact hst
      · obtain ⟨l', hx⟩ := (eqF_kx T g2 |> fun k => Known.agg k hu e1)
        exact absurd hx (eqF_iface T hD g2 l')
    · obtain ⟨a1, a2, a3, a4⟩ := Known.plain (eqF_kx T g2) h1 h2 hu
      exact binOp_eql t a1 a2 a3 a4
  cases op <;> simp only [binE] at g <;> try (cases g; done)
  case eql =>
    obtain ⟨D, hD, g⟩ := und_ok T g
    obtain ⟨r, g, hs⟩ := main hD g
    refine ⟨r, g, fun φ u v hu hv ox oy w => ?_⟩
    obtain ⟨s1, s2, s3, s4⟩ := hs φ u v hu hv
    simp only [Sem.run_bind, s2 .eql ox oy w, Result.andThen_ok, s3, s1 w, Sem.run_pure]
  case neq =>
    obtain ⟨D, hD, g⟩ := und_ok T g
    obtain ⟨r, g, hs⟩ := main hD g
    refine ⟨bnot r, g, fun φ u v hu hv ox oy w => ?_⟩
    obtain ⟨s1, s2, s3, s4⟩ := hs φ u v hu hv
    simp only [Sem.run_bind, s2 .neq ox oy w, Result.andThen_ok, s4, s1 w, Sem.run_pure, bnot_eq]

theorem ok_bin (T : TabOk E) (ht : TR E φ ts a.tmps) {op : BinOp} {t u : TypeId} {x y : Operand} (ho : o.op = .binOp op t x y u) (g : cBin op t x y E ts K = .ok e ts' h c) : Good E φ o a K e ts' h c := by
  have he : execOp a.eval o = (do pure (Next.value (← (do eqGuard op t x y (a.eval x) (a.eval y); binOp op t (a.eval x) (a.eval y) : Sem Value)))) := by unfold execOp; rw [ho]
  have hx := eval_VR ht x
  have hy := eval_VR ht y
  unfold cBin bin at g
  split at g
  · rename_i k m hxe
    rw [hxe] at hx; simp only [VR] at hx
    split at g
    · rename_i k' n hye
      rw [hye] at hy; simp only [VR] at hy
      obtain ⟨v, u, g, hv, hr⟩ := binI_ok g
      refine good_val g (hv E φ) he (fun w => ?_)
      rw [hx, hy]
      simp only [Sem.run_bind, eqGuard_int E.P op t x y k k' m n w, Result.andThen_ok, hr E.P t w]
    · cases g
  · rename_i s hxe
    rw [hxe] at hx; simp only [VR] at hx
    split at g
    · rename_i s' hye
      rw [hye] at hy; simp only [VR] at hy
      obtain ⟨v, u, g, hv, hr⟩ := binS_ok g
      refine good_val g (hv E φ) he (fun w => ?_)
      rw [hx, hy]
      simp only [Sem.run_bind, eqGuard_str E.P op t x y _ _ w, Result.andThen_ok, hr E.P t w]
    · cases g
  · rename_i i hxe
    rw [hxe] at hx; simp only [VR] at hx
    split at g
    · rename_i k n hye
      rw [hye] at hy; simp only [VR] at hy
      unfold factK at g
      split at g
      · rename_i r hf
        obtain ⟨k', m, hs, u, hu, hr⟩ := T.fact _ _ _ _ _ hf
        refine good_val g (hu φ) he (fun w => ?_)
        rw [hx, hy, hs]
        simp only [Sem.run_bind, eqGuard_int E.P op t x y k' k m n w, Result.andThen_ok, hr t w]
      · cases g
    · cases g
  · rename_i h1 h2 h3
    obtain ⟨r, g, hr⟩ := binE_ok T (fun k n hh => h1 k n hh) (fun s hh => h2 s hh) g
    exact good_val g rfl he (hr φ _ _ hx hy x y)

theorem ok_un (ht : TR E φ ts a.tmps) {op : UnOp} {t : TypeId} {x : Operand} (ho : o.op = .unOp op t x) (g : cUn op x E ts K = .ok e ts' h c) : Good E φ o a K e ts' h c := by
  have he : execOp a.eval o = (do pure (Next.value (← Op.unary op (a.eval x)))) := by unfold execOp; rw [ho]
  have hx := eval_VR ht x
  unfold cUn unV at g
  split at g
  · unfold notV at g
    split at g
    · rename_i b hb; rw [hb] at hx; simp only [VR] at hx
      exact good_val (u := .bool (!b)) g (by rw [bnot_eq]; rfl) he (fun w => by rw [hx]; simp [Op.unary])
    · cases g
  · unfold negV at g
    split at g
    · rename_i k n hb; rw [hb] at hx; simp only [VR] at hx
      exact good_val (u := .int k (k.wrap (0 - n))) g (by rw [wrapF_eq]; rfl) he (fun w => by rw [hx]; simp [Op.unary, Op.intArith])
    · cases g
  · cases g

theorem ok_iface (T : TabOk E) (ht : TR E φ ts a.tmps) {t : TypeId} {x : Operand} (ho : o.op = .makeInterface t x) (g : cIface t x E ts K = .ok e ts' h c) : Good E φ o a K e ts' h c := by
  have he : execOp a.eval o = (do pure (Next.value (← Instr.makeInterface t (a.eval x)))) := by unfold execOp; rw [ho]
  have hx := eval_VR ht x
  unfold cIface at g
  obtain ⟨d, hd, g⟩ := und_ok T g
  have gg : K (.val (.ifc t (evalO x ts))) = .ok e ts' h c ∧ ∀ ms, d ≠ .interface ms := by
    cases d <;> first | (cases g; done) | exact ⟨g, fun _ h => by cases h⟩
  refine good_val (u := .iface t (a.eval x)) gg.1 ⟨_, rfl, hx⟩ he (fun w => ?_)
  unfold Instr.makeInterface
  simp only [Sem.run_bind, run_und hd, Result.andThen_ok]
  cases d <;> first | exact absurd rfl (gg.2 _) | rfl

theorem evalL_VRL (ht : TR E φ ts a.tmps) (l : Array Operand) : VRL E φ (evalL ts l.toList) (l.map a.eval).toList := by
  unfold evalL
  rw [mapL_eq, Array.toList_map]
  refine VRL.of_get (by simp) fun i x v hx hv => ?_
  rw [List.getElem?_map] at hx hv
  cases hl : l.toList[i]? with
  | none => rw [hl] at hx; cases hx
  | some y => rw [hl] at hx hv; cases hx; cases hv; exact eval_VR ht y

theorem ok_func (ht : TR E φ ts a.tmps) {f : Fn} {first cap : Array Operand} (ho : o.op = .makeFunc f first cap) (g : cFunc f first cap E ts K = .ok e ts' h c) : Good E φ o a K e ts' h c := by
  have he : execOp a.eval o = (do pure (Next.value (← Instr.makeFunc f (first.map a.eval) (cap.map a.eval)))) := by unfold execOp; rw [ho]
  unfold cFunc at g
  split at g
  · rename_i f
    exact good_val (u := .func (.func f) (first.map a.eval) (cap.map a.eval)) g ⟨_, _, _, rfl, rfl, evalL_VRL ht _, evalL_VRL ht _⟩ he (fun w => rfl)
  · cases g

theorem ok_extract (ht : TR E φ ts a.tmps) {x : Operand} {i : Nat} (ho : o.op = .extract x i) (g : cExtract x i E ts K = .ok e ts' h c) : Good E φ o a K e ts' h c := by
  have he : execOp a.eval o = (do pure (Next.value (← Instr.extract (a.eval x) i))) := by unfold execOp; rw [ho]
  have hx := eval_VR ht x
  unfold cExtract tupK at g
  split at g
  · rename_i l hl
    rw [hl] at hx
    obtain ⟨arr, hx, hr⟩ := hx
    obtain ⟨v, hv, g⟩ := oneOf_ok g
    rw [kidx_eq] at hv
    obtain ⟨u, hu, hvu⟩ := hr.get hv
    refine good_val g hvu he (fun w => ?_)
    have hu' : arr[i]? = some u := by simpa using hu
    rw [hx]; simp [Instr.extract, hu']
  · cases g

theorem ok_field (T : TabOk E) (ht : TR E φ ts a.tmps) {s : TypeId} {x : Operand} {f : Nat} (ho : o.op = .field s x f) (g : cField s x f E ts K = .ok e ts' h c) : Good E φ o a K e ts' h c := by
  have he : execOp a.eval o = (do pure (Next.value (← Instr.field s (a.eval x) f))) := by unfold execOp; rw [ho]
  have hx := eval_VR ht x
  unfold cField at g
  obtain ⟨l, hl, g⟩ := aggOf_ok g
  rw [hl] at hx
  obtain ⟨arr, hx, h1, h2⟩ := hx
  obtain ⟨d, hd, g⟩ := und_ok T g
  unfold structOff at g
  split at g
  · rename_i fs
    split at g
    · rename_i fd hf
      rw [kidx_eq] at hf
      obtain ⟨i, _, g⟩ := size_ok T g
      obtain ⟨v, g, hr⟩ := partOf_ok T g
      obtain ⟨u, hu, hs⟩ := hr φ arr h1 h2
      refine good_val g hu he (fun w => ?_)
      have hf' : fs[f]? = some fd := by simpa using hf
      unfold Instr.field
      simp only [Sem.run_bind, run_und hd, Result.andThen_ok, hf', hx, asAgg, Sem.run_pure, hs w]
    · cases g
  · cases g

theorem ok_fieldAddr (T : TabOk E) (ht : TR E φ ts a.tmps) {s : TypeId} {x : Operand} {f : Nat} (ho : o.op = .fieldAddr s x f) (g : cFieldAddr s x f E ts K = .ok e ts' h c) : Good E φ o a K e ts' h c := by
  have he : execOp a.eval o = (do pure (Next.value (← Instr.fieldAt s (a.eval x) f))) := by unfold execOp; rw [ho]
  have hx := eval_VR ht x
  unfold cFieldAddr at g
  obtain ⟨b, off, hl, g⟩ := ptrOf_ok g
  rw [hl] at hx
  obtain ⟨B, N, hb, hx⟩ := hx
  obtain ⟨d, hd, g⟩ := und_ok T g
  unfold structOff at g
  split at g
  · rename_i fs
    split at g
    · rename_i fd hf
      rw [kidx_eq] at hf
      obtain ⟨i, hi, g⟩ := size_ok T g
      unfold faddr at g
      obtain ⟨h0, g⟩ := guardB_ok g
      have h0 := Nat.blt_eq.mp h0
      refine good_val (u := .pointer (some ⟨B, off + fd.offset, none⟩)) g ⟨B, N, hb, rfl⟩ he (fun w => ?_)
      have hf' : fs[f]? = some fd := by simpa using hf
      have hne : ¬ i.size = 0 := by omega
      unfold Instr.fieldAt fieldPlace
      simp only [Sem.run_bind, run_und hd, Result.andThen_ok, hf', hx, Instr.sureAddr, Sem.run_pure, run_size hi, hne, if_false, add_addr]
    · cases g
  · cases g

theorem ok_indexAddr (T : TabOk E) (ht : TR E φ ts a.tmps) {t : TypeId} {x ix : Operand} (ho : o.op = .indexAddr t x ix) (g : cIndexAddr t x ix E ts K = .ok e ts' h c) : Good E φ o a K e ts' h c := by
  have he : execOp a.eval o = (do pure (Next.value (← Instr.indexAt t (a.eval x) (a.eval ix)))) := by unfold execOp; rw [ho]
  have hx := eval_VR ht x
  have hi := eval_VR ht ix
  unfold cIndexAddr at g
  obtain ⟨k, i, hie, g⟩ := natOf_ok g
  rw [hie] at hi; simp only [VR] at hi
  obtain ⟨d, hd, g⟩ := und_ok T g
  unfold ixAddr at g
  split at g
  · rename_i el
    obtain ⟨inf, hinf, g⟩ := size_ok T g
    split at g
    · rename_i b off len cap sz ex hxe
      rw [hxe] at hx
      obtain ⟨B, N, ad, cap', hb, hx, hlc, hcc, _, had, _, hsz⟩ := hx
      obtain ⟨hs, g⟩ := guardB_ok g
      have hs := Nat.eq_of_beq_eq_true hs
      obtain ⟨hlt, g⟩ := guardB_ok g
      have hlt := Nat.blt_eq.mp hlt
      refine good_val (u := .pointer (some ⟨B, off + i * sz, none⟩)) g ⟨B, N, hb, rfl⟩ he (fun w => ?_)
      unfold Instr.indexAt
      have hin : (0 : Int) ≤ (i : Int) ∧ (i : Int) < (len : Int) := by omega
      simp only [Sem.run_bind, hi, asIntOf, Sem.run_pure, run_und hd, Result.andThen_ok, hx, hin, and_self, if_true, run_size hinf, had (by omega), add_addr, hs, Int.toNat_natCast]
    · cases g
  · rename_i n el
    obtain ⟨inf, hinf, g⟩ := size_ok T g
    obtain ⟨b, off, hxe, g⟩ := ptrOf_ok g
    rw [hxe] at hx
    obtain ⟨B, N, hb, hx⟩ := hx
    obtain ⟨hlt, g⟩ := guardB_ok g
    have hlt := Nat.blt_eq.mp hlt
    refine good_val (u := .pointer (some ⟨B, off + i * inf.size, none⟩)) g ⟨B, N, hb, rfl⟩ he (fun w => ?_)
    unfold Instr.indexAt
    have hin : (0 : Int) ≤ (i : Int) ∧ (i : Int) < (n : Int) := by omega
    simp only [Sem.run_bind, hi, asIntOf, Sem.run_pure, run_und hd, Result.andThen_ok, hx, Instr.sureAddr, hin, and_self, if_true, run_size hinf, add_addr, Int.toNat_natCast]
  · cases g
end
end Go.AE
