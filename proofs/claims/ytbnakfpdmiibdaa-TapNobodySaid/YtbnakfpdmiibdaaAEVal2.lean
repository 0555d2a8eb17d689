import Derived.Test.YtbnakfpdmiibdaaAEVal
namespace Go.AE
section
variable {E : Env} {φ : Loc} {o : Oper} {a : Act} {ts : Tm} {K : Kc} {e : Ex} {ts' : Tm} {h : Hs} {c : Nat}

/-- a bound that may not be there -/
theorem optNat_ok (ht : TR E φ ts a.tmps) {x : Option Operand} {d : Nat} {K : Nat → Out} (g : optNat ts x d K = .ok e ts' h c) :
    ∃ n, K n = .ok e ts' h c ∧ ((x = none ∧ n = d) ∨ ∃ y k, x = some y ∧ a.eval y = .int k (n : Nat)) := by
  unfold optNat at g
  split at g
  · exact ⟨d, g, .inl ⟨rfl, rfl⟩⟩
  · rename_i y
    obtain ⟨k, n, he, g⟩ := natOf_ok g
    have hy := eval_VR ht y
    rw [he] at hy
    exact ⟨n, g, .inr ⟨y, k, rfl, hy⟩⟩

theorem run_bound {P : Program} {w : World} (k : IntKind) (n y : Nat) (code : BoundsCode) (hn : n ≤ y) : (Instr.sliceBound (.int k (n : Nat)) y code).run P w = .ok n w := by
  have h1 : (0 : Int) ≤ n ∧ (n : Int) ≤ y := by omega
  simp [Instr.sliceBound, asIntOf, h1.2]

theorem run_bounds {P : Program} {w : World} {isS : Bool} {len cap l hi m : Nat} {xl xh xm : Option Operand} (hlh : l ≤ hi) (hhm : hi ≤ m) (hmc : m ≤ cap)
    (h1 : (xl = none ∧ l = 0) ∨ ∃ y k, xl = some y ∧ a.eval y = .int k (l : Nat))
    (h2 : (xh = none ∧ xm = none ∧ hi = len) ∨ ∃ y k, xh = some y ∧ a.eval y = .int k (hi : Nat))
    (h3 : (xm = none ∧ m = cap) ∨ ∃ y k, xm = some y ∧ a.eval y = .int k (m : Nat)) :
    (Instr.sliceBounds isS len cap (xl.map a.eval) (xh.map a.eval) (xm.map a.eval)).run P w = .ok (l, hi, m) w := by
  unfold Instr.sliceBounds
  have hl : ∀ code, ((match xl.map a.eval with | some v => Instr.sliceBound v hi code | none => pure 0 : Sem Nat)).run P w = .ok l w := fun code => by
    rcases h1 with ⟨rfl, rfl⟩ | ⟨y, k, rfl, he⟩
    · rfl
    · simp only [Option.map_some, he, run_bound k l hi code hlh]
  rcases h3 with ⟨rfl, rfl⟩ | ⟨ym, km, rfl, hem⟩
  · rcases h2 with ⟨rfl, _, rfl⟩ | ⟨yh, kh, rfl, heh⟩
    · rcases h1 with ⟨rfl, rfl⟩ | ⟨y, k, rfl, he⟩
      · simp
      · simp [he, run_bound k l hi _ hlh]
    · rcases h1 with ⟨rfl, rfl⟩ | ⟨y, k, rfl, he⟩
      · simp [heh, run_bound kh hi m _ hhm]
      · simp [he, heh, run_bound k l hi _ hlh, run_bound kh hi m _ hhm]
  · rcases h2 with ⟨rfl, h2, rfl⟩ | ⟨yh, kh, rfl, heh⟩
    · cases h2
    · rcases h1 with ⟨rfl, rfl⟩ | ⟨y, k, rfl, he⟩
      · simp [hem, heh, run_bound km m cap _ hmc, run_bound kh hi m _ hhm]
      · simp [hem, he, heh, run_bound km m cap _ hmc, run_bound k l hi _ hlh, run_bound kh hi m _ hhm]

theorem slB_ok {b off sz l hi m : Nat} {ex : Bool} {K : AV → Out} (g : slB b off sz ex l hi m K = .ok e ts' h c) : l ≤ hi ∧ hi ≤ m ∧ K (.sl b (off + l * sz) (hi - l) (m - l) sz ex) = .ok e ts' h c := by
  unfold slB at g
  obtain ⟨h1, g⟩ := guardB_ok g
  obtain ⟨h2, g⟩ := guardB_ok g
  exact ⟨Nat.le_of_ble_eq_true h1, Nat.le_of_ble_eq_true h2, g⟩

/-- cutting: what comes out, and the bounds -/
theorem slSl_ok (ht : TR E φ ts a.tmps) {b off len cap sz : Nat} {ex : Bool} {lo hi mx : Option Operand} {K : AV → Out} (g : slSl b off len cap sz ex ts lo hi mx K = .ok e ts' h c) :
    ∃ l h' m ex', l ≤ h' ∧ h' ≤ m ∧ m ≤ cap ∧ (mx = none → m = cap ∧ ex' = ex) ∧ (mx ≠ none → ex' = true) ∧ K (.sl b (off + l * sz) (h' - l) (m - l) sz ex') = .ok e ts' h c ∧
      ((lo = none ∧ l = 0) ∨ ∃ y k, lo = some y ∧ a.eval y = .int k (l : Nat)) ∧ ((hi = none ∧ mx = none ∧ h' = len) ∨ ∃ y k, hi = some y ∧ a.eval y = .int k (h' : Nat)) ∧
      ((mx = none ∧ m = cap) ∨ ∃ y k, mx = some y ∧ a.eval y = .int k (m : Nat)) := by
  unfold slSl at g
  split at g
  · obtain ⟨l, g, h1⟩ := optNat_ok ht g
    obtain ⟨h', g, h2⟩ := optNat_ok ht g
    obtain ⟨a1, a2, g⟩ := slB_ok g
    exact ⟨l, h', cap, ex, a1, a2, Nat.le_refl _, fun _ => ⟨rfl, rfl⟩, fun h => absurd rfl h, g, h1, h2.imp (fun h => ⟨h.1, rfl, h.2⟩) id, .inl ⟨rfl, rfl⟩⟩
  · rename_i ym
    split at g
    · cases g
    · rename_i yh
      obtain ⟨l, g, h1⟩ := optNat_ok ht g
      obtain ⟨kh, h', heh, g⟩ := natOf_ok g
      obtain ⟨km, m, hem, g⟩ := natOf_ok g
      obtain ⟨hmc, g⟩ := guardB_ok g
      obtain ⟨a1, a2, g⟩ := slB_ok g
      have hh := eval_VR ht yh
      rw [heh] at hh
      have hm := eval_VR ht ym
      rw [hem] at hm
      exact ⟨l, h', m, true, a1, a2, Nat.le_of_ble_eq_true hmc, (fun h => by cases h), (fun _ => rfl), g, h1, .inr ⟨_, _, rfl, hh⟩, .inr ⟨_, _, rfl, hm⟩⟩

theorem isZ_ok {n : Nat} (h : isZ n = true) : n = 0 := Nat.eq_of_beq_eq_true h

theorem ok_slice (T : TabOk E) (ht : TR E φ ts a.tmps) {t : TypeId} {x : Operand} {lo hi mx : Option Operand} (ho : o.op = .slice t x lo hi mx) (g : cSlice t x lo hi mx E ts K = .ok e ts' h c) : Good E φ o a K e ts' h c := by
  have he : execOp a.eval o = (do pure (Next.value (← Instr.sliceAt t (a.eval x) (lo.map a.eval) (hi.map a.eval) (mx.map a.eval)))) := by unfold execOp; rw [ho]
  have hx := eval_VR ht x
  unfold cSlice at g
  obtain ⟨d, hd, g⟩ := und_ok T g
  unfold slArr at g
  split at g
  · rename_i n el
    obtain ⟨i, hi', g⟩ := size_ok T g
    obtain ⟨hs0, g⟩ := guardB_ok g
    have hs0 : 0 < i.size := Nat.blt_eq.mp hs0
    obtain ⟨b, off, hxe, g⟩ := ptrOf_ok g
    rw [hxe] at hx
    obtain ⟨B, N, hb, hx⟩ := hx
    obtain ⟨l, h', m, ex', a1, a2, a3, a4, a5, g, b1, b2, b3⟩ := slSl_ok ht g
    refine ⟨_, g, fun K' ao e' ts2 h2 c2 g2 => ?_⟩
    unfold rdArr at g2
    split at g2
    · rename_i rm rs pat rt
      obtain ⟨hn, g2⟩ := guardB_ok g2
      have hn : off + n * i.size ≤ rm := Nat.le_of_ble_eq_true hn
      refine ⟨_, _, rfl, g2, fun φ' w hle hor => ?_⟩
      obtain ⟨B', C, el', fr, hb', hw, hfr, hrow⟩ := hor
      have hb2 := hle _ _ hb
      rw [hb2] at hb'; cases hb'
      have hC := hrow.2.1
      have hml : (m - l) * i.size ≤ n * i.size - l * i.size := by rw [Nat.sub_mul]; have := Nat.mul_le_mul_right i.size a3; omega
      have hln : l * i.size ≤ n * i.size := Nat.mul_le_mul_right _ (by omega)
      refine ⟨.slice (some (if m = l then ⟨B, off, none⟩ else (⟨B, off, none⟩ : Addr).add (l * i.size))) (h' - l) (m - l), ⟨B, _, _, m - l, hb2, rfl, by omega, Nat.le_refl _, fun _ => rfl, fun h => ?_, fun h => by omega, hs0⟩, .inl ?_⟩
      · rw [if_neg (by omega), add_addr]
      · rw [he]
        unfold Instr.sliceAt
        simp only [Sem.run_bind, run_und hd, Result.andThen_ok, hx, Instr.sureAddr, Sem.run_pure, run_bounds a1 a2 a3 b1 b2 b3, run_size hi']
    · cases g2
  · rename_i el
    obtain ⟨i, hi', g⟩ := size_ok T g
    have he2 : ∀ w, (Instr.sliceAt t (a.eval x) (lo.map a.eval) (hi.map a.eval) (mx.map a.eval)).run E.P w = (Instr.slice t (a.eval x) (lo.map a.eval) (hi.map a.eval) (mx.map a.eval)).run E.P w := fun w => by
      unfold Instr.sliceAt; simp only [Sem.run_bind, run_und hd, Result.andThen_ok]
    unfold slV at g
    split at g
    · rename_i hxe
      rw [hxe] at hx; simp only [VR] at hx
      unfold slNil at g
      obtain ⟨l, g, b1⟩ := optNat_ok ht g
      obtain ⟨h', g, b2⟩ := optNat_ok ht g
      obtain ⟨m, g, b3⟩ := optNat_ok ht g
      obtain ⟨z1, g⟩ := guardB_ok g
      obtain ⟨z2, g⟩ := guardB_ok g
      obtain ⟨z3, g⟩ := guardB_ok g
      have z1 := isZ_ok z1
      have z2 := isZ_ok z2
      have z3 := isZ_ok z3
      subst z1 z2 z3
      have gg : K (.val .nils) = .ok e ts' h c ∧ ((hi = none ∧ mx = none ∧ 0 = 0) ∨ ∃ y k, hi = some y ∧ a.eval y = .int k ((0 : Nat) : Int)) := by
        split at g
        · exact ⟨g, b2.imp (fun h => ⟨h.1, rfl, rfl⟩) id⟩
        · split at g
          · cases g
          · exact ⟨g, b2.elim (fun h => by cases h.1) .inr⟩
      refine good_val (u := .slice none 0 0) gg.1 rfl he (fun w => ?_)
      rw [he2, hx]
      unfold Instr.slice
      simp only [Sem.run_bind, run_und hd, Result.andThen_ok, run_bounds (P := E.P) (w := w) (isS := true) (len := 0) (cap := 0) (Nat.le_refl 0) (Nat.le_refl 0) (Nat.le_refl 0) b1 gg.2 b3, run_size hi', Sem.run_pure]
      rfl
    · rename_i b off len cap sz ex hxe
      rw [hxe] at hx
      obtain ⟨B, N, ad, cap', hb, hx, hlc, hcc, hex, had, hN, hsz⟩ := hx
      obtain ⟨hs, g⟩ := guardB_ok g
      have hs : i.size = sz := Nat.eq_of_beq_eq_true hs
      obtain ⟨l, h', m, ex', a1, a2, a3, a4, a5, g, b1, b2, b3⟩ := slSl_ok ht g
      -- the true capacity: the model's, where no third bound is given
      have hm' : ∃ m', m ≤ m' ∧ m' ≤ cap' ∧ (ex' = true → m' = m) ∧ ((mx = none ∧ m' = cap') ∨ ∃ y k, mx = some y ∧ a.eval y = .int k (m' : Nat)) := by
        rcases b3 with ⟨hmx, hmc⟩ | hb3
        · refine ⟨cap', by omega, Nat.le_refl _, fun hx => ?_, .inl ⟨hmx, rfl⟩⟩
          rw [(a4 hmx).2] at hx
          rw [hex hx]; omega
        · exact ⟨m, Nat.le_refl _, by omega, fun _ => rfl, .inr hb3⟩
      obtain ⟨m', m1, m2, m3, b3'⟩ := hm'
      have hr := fun w => run_bounds (P := E.P) (w := w) (isS := true) (len := len) (cap := cap') a1 (show h' ≤ m' by omega) m2 b1 b2 b3'
      refine good_val (u := .slice (if m' = l then some ad else (some ad).map (·.add (l * sz))) (h' - l) (m' - l)) g ?_ he (fun w => ?_)
      · have hu : ∃ a1, (if m' = l then some ad else (some ad).map (·.add (l * sz))) = some a1 ∧ (0 < m' - l → a1 = ⟨B, off + l * sz, none⟩) := by
          by_cases hml : m' = l
          · exact ⟨ad, by rw [if_pos hml], fun h => by omega⟩
          · refine ⟨ad.add (l * sz), by rw [if_neg hml]; rfl, fun h => ?_⟩
            rw [had (by omega), add_addr]
        obtain ⟨a1', ha1, ha2⟩ := hu
        rw [ha1]
        refine ⟨B, N, a1', m' - l, hb, rfl, by omega, by omega, fun h => by rw [m3 h], ha2, fun h => ?_, hsz⟩
        have := hN (by omega)
        have h1 : (m' - l) * sz = m' * sz - l * sz := Nat.sub_mul ..
        have h2 : m' * sz ≤ cap' * sz := Nat.mul_le_mul_right _ m2
        have h3 : l * sz ≤ m' * sz := Nat.mul_le_mul_right _ (by omega)
        omega
      · rw [he2, hx]
        unfold Instr.slice
        simp only [Sem.run_bind, run_und hd, Result.andThen_ok, hr w, run_size hi', Sem.run_pure, hs]
    · cases g
  · have he2 : ∀ w, (Instr.sliceAt t (a.eval x) (lo.map a.eval) (hi.map a.eval) (mx.map a.eval)).run E.P w = (Instr.slice t (a.eval x) (lo.map a.eval) (hi.map a.eval) (mx.map a.eval)).run E.P w := fun w => by
      unfold Instr.sliceAt; simp only [Sem.run_bind, run_und hd, Result.andThen_ok]
    unfold slS at g
    split at g
    · rename_i s hxe
      rw [hxe] at hx; simp only [VR] at hx
      unfold slStr at g
      split at g
      · cases g
      · obtain ⟨l, g, b1⟩ := optNat_ok ht g
        obtain ⟨h', g, b2⟩ := optNat_ok ht g
        obtain ⟨a1, g⟩ := guardB_ok g
        have a1 : l ≤ h' := Nat.le_of_ble_eq_true a1
        obtain ⟨a2, g⟩ := guardB_ok g
        have a2 : h' ≤ lenL s := Nat.le_of_ble_eq_true a2
        rw [lenL_eq] at a2 b2
        have hsz : (⟨s.toArray⟩ : ByteArray).size = s.length := rfl
        refine good_val (u := .string ((⟨s.toArray⟩ : ByteArray).extract l h')) g ?_ he (fun w => ?_)
        · simp only [VR]
          rw [ktake_eq, kdrop_eq]
          congr 1
          apply ByteArray.ext
          apply Array.ext'
          simp [ByteArray.data_extract]
        · rw [he2, hx]
          unfold Instr.slice
          have hr := run_bounds (P := E.P) (w := w) (a := a) (isS := false) (len := s.length) (cap := s.length) (xm := none) a1 a2 (Nat.le_refl _) b1 (b2.imp (fun h => ⟨h.1, rfl, h.2⟩) id) (.inl ⟨rfl, rfl⟩)
          simp only [Option.map_none] at hr
          simp only [Sem.run_bind, run_und hd, Result.andThen_ok, Option.map_none, Option.isSome_none, Bool.false_eq_true, if_false, hsz, hr, Sem.run_pure]
    · cases g
  · cases g

theorem ok_index (T : TabOk E) (ht : TR E φ ts a.tmps) {t : TypeId} {x ix : Operand} (ho : o.op = .index t x ix) (g : cIndex t x ix E ts K = .ok e ts' h c) : Good E φ o a K e ts' h c := by
  have he : execOp a.eval o = (do pure (Next.value (← Instr.index t (a.eval x) (a.eval ix)))) := by unfold execOp; rw [ho]
  have hx := eval_VR ht x
  have hi := eval_VR ht ix
  unfold cIndex at g
  obtain ⟨k, i, hie, g⟩ := natOf_ok g
  rw [hie] at hi; simp only [VR] at hi
  obtain ⟨d, hd, g⟩ := und_ok T g
  unfold ixV at g
  split at g
  · rename_i n el
    obtain ⟨cs, hxe, g⟩ := aggOf_ok g
    rw [hxe] at hx
    obtain ⟨arr, hx, r1, r2⟩ := hx
    obtain ⟨hlt, g⟩ := guardB_ok g
    have hlt : i < n := Nat.blt_eq.mp hlt
    obtain ⟨inf, hinf, g⟩ := size_ok T g
    obtain ⟨v, g, hr⟩ := partOf_ok T g
    obtain ⟨u, hu, hs⟩ := hr φ arr r1 r2
    refine good_val g hu he (fun w => ?_)
    unfold Instr.index
    have hin : (0 : Int) ≤ (i : Int) ∧ (i : Int) < (n : Int) := by omega
    have hs' := hs w
    simp only [Sem.run_bind, hi, asIntOf, Sem.run_pure, run_und hd, Result.andThen_ok, hx, hin, and_self, if_true, run_size hinf, Int.toNat_natCast]
    exact hs'
  · split at g
    · rename_i s hxe
      rw [hxe] at hx; simp only [VR] at hx
      unfold ixStr at g
      split at g
      · rename_i bt hk
        rw [kidx_eq] at hk
        have hlen : i < s.length := (List.getElem?_eq_some_iff.1 hk).1
        refine good_val (u := .int .u8 bt.toNat) g rfl he (fun w => ?_)
        have h2 : (⟨s.toArray⟩ : ByteArray)[i]? = some bt := by
          have hsz : i < (⟨s.toArray⟩ : ByteArray).size := hlen
          rw [getElem?_pos (⟨s.toArray⟩ : ByteArray) i hsz]
          congr 1
          exact (List.getElem?_eq_some_iff.1 hk).2
        unfold Instr.index
        simp [hi, asIntOf, run_und hd, hx, h2]
      · cases g
    · cases g
  · cases g
end
end Go.AE
