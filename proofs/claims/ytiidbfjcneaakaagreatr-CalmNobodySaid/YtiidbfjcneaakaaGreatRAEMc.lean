/- The evaluator AE and its soundness, part c. -/
import Derived.Test.YtiidbfjcneaakaaGreatRAEMb
import Derived.Laws.Append
import Derived.Laws.RangeString
import Derived.Conc.LoneSelect
namespace Go.AE
section
variable {E : Env} {φ : Loc} {o : Oper} {a : Act} {ts : Tm} {K : Kc} {e : Ex} {ts' : Tm} {h : Hs} {c : Nat}

def isIntD (d : TypeDesc) : Bool := match d with | .int _ => true | _ => false

section
variable {P : Program} {w : World} {t u el ty : TypeId} {du : TypeDesc} {i : TypeInfo} {z : Value} {tys : Array TypeId} {args : Array Value} {base : Option Addr} {sLen sCap n : Nat} {xv : Value} {new : Array Value}

theorem run_app_in {w' : World} (hd : P.underlying t = some (.slice el)) (hi : P.info? el = some i) (t0 : tys[0]? = some t) (t1 : tys[1]? = some u) (hu : P.underlying u = some du) (hdu : isIntD du = false)
    (a0 : args[0]? = some (.slice base sLen sCap)) (a1 : args[1]? = some xv) (hlen : (Builtin.lenOf xv).run P w = .ok n w) (hap : (Builtin.firstCells i.size n xv).run P w = .ok new w) (hneed : sLen + n ≤ sCap)
    (hst : match base with | some ad => (storeCells (ad.add (sLen * i.size)) new.toList 0).run P w = .ok () w' | none => w' = w) : (Builtin.append_ tys ty args).run P w = .ok (.slice base (sLen + n) sCap) w' := by
  unfold Builtin.append_
  cases du <;> first
    | (cases hdu; done)
    | (simp only [t0, t1, a0, a1, Sem.run_bind, run_und hd, run_und hu, Result.andThen_ok, run_size hi, Sem.run_pure, Bool.false_eq_true, if_false, hlen, Bool.not_false, if_true, hneed, hap]
       cases base with
       | none => subst hst; rfl
       | some ad =>
         have hst' : (storeCells (ad.add (sLen * i.size)) new.toList 0).run P w = .ok () w' := hst
         simp only [Sem.run_bind, hst', Result.andThen_ok, Sem.run_pure])

theorem run_app_grow {old : Array Value} (hd : P.underlying t = some (.slice el)) (hi : P.info? el = some i) (hzero : i.zero = some z) (t0 : tys[0]? = some t) (t1 : tys[1]? = some u) (hu : P.underlying u = some du) (hdu : isIntD du = false)
    (a0 : args[0]? = some (.slice base sLen sCap)) (a1 : args[1]? = some xv) (hlen : (Builtin.lenOf xv).run P w = .ok n w) (hap : (Builtin.firstCells i.size n xv).run P w.drew = .ok new w.drew)
    (hold : (Builtin.firstCells i.size sLen (.slice base sLen sCap)).run P w.drew = .ok old w.drew) (hneed : ¬ sLen + n ≤ sCap) (hsm : sLen + n < 4194304) (hb : i.bytes < 65536) :
    (Builtin.append_ tys ty args).run P w = .ok (.slice (some ⟨w.heap.size, 0, none⟩) (sLen + n) (grownCap w (sLen + n) sCap el))
      { w with heap := w.heap.push (.cells (old ++ new ++ Builtin.zeroCells z.cells (grownCap w (sLen + n) sCap el - (sLen + n))) el), drawn := w.drawn + 1 } := by
  unfold Builtin.append_
  have h1 : ¬ (((sLen + n : Nat) : Int) > IntKind.i64.max ∧ (False ∨ i.bytes = 0)) := by
    have : IntKind.i64.max = 9223372036854775807 := by decide
    rw [this]; omega
  have h2 : ¬ Builtin.nextslicecap (sLen + n) sCap * i.bytes > 2 ^ 48 := by
    have := growslice_fits (need := sLen + n) (old := sCap) (bytes := i.bytes) (by omega) (by
      have : (sLen + n) * i.bytes ≤ 4194304 * 65536 := Nat.mul_le_mul (by omega) (by omega)
      omega)
    omega
  have hc : (choose (.appendCap (sLen + n) sCap el)).run P w = .ok (grownCap w (sLen + n) sCap el) w.drew := by
    rw [run_choose]; rfl
  cases du <;> first
    | (cases hdu; done)
    | (simp only [t0, t1, a0, a1, Sem.run_bind, run_und hd, run_und hu, Result.andThen_ok, run_size hi, run_info hi, Sem.run_pure, Bool.false_eq_true, if_false, hlen, Bool.not_false, if_true, hneed, h1, h2, hc,
        _root_.Go.run_askRoom, hap, hold, run_zero hi hzero, newRow, run_newObj]
       rfl)

/-- what append lays, where it is handed a number of zeros -/
def zerosOf (z : Value) (size n : Nat) : Array Value := if n * size = 0 then #[] else Builtin.zeroCells z.cells n
theorem run_appz_in {w' : World} {k k' : IntKind} (hd : P.underlying t = some (.slice el)) (hi : P.info? el = some i) (hzero : i.zero = some z) (t0 : tys[0]? = some t) (t1 : tys[1]? = some u) (hu : P.underlying u = some (.int k))
    (a0 : args[0]? = some (.slice base sLen sCap)) (a1 : args[1]? = some (.int k' (n : Nat))) (hn : n < 4194304) (hb : i.bytes < 65536) (hneed : sLen + n ≤ sCap)
    (hst : match base with | some ad => (storeCells (ad.add (sLen * i.size)) (zerosOf z i.size n).toList 0).run P w = .ok () w' | none => w' = w) : (Builtin.append_ tys ty args).run P w = .ok (.slice base (sLen + n) sCap) w' := by
  unfold Builtin.append_
  have hw : IntKind.i64.wrap (n : Int) = n := by rw [IntKind.wrap_i64]; omega
  have h0 : ¬ ((n : Int) < 0) := by omega
  have h1 : ¬ ((n : Int) * (i.bytes : Int) > 2 ^ 48) := by
    have : n * i.bytes ≤ 4194304 * 65536 := Nat.mul_le_mul (by omega) (by omega)
    rw [← Int.natCast_mul]; omega
  have hz : ((if n * i.size = 0 then pure #[] else do pure (Builtin.zeroCells (← zeroValue el).cells n) : Sem (Array Value))).run P w = .ok (zerosOf z i.size n) w := by
    unfold zerosOf
    split
    · rfl
    · simp only [Sem.run_bind, run_zero hi hzero, Result.andThen_ok, Sem.run_pure]
  simp only [t0, t1, a0, a1, Sem.run_bind, run_und hd, run_und hu, Result.andThen_ok, run_size hi, run_info hi, Sem.run_pure, if_true, asInt, asIntOf, hw, h0, h1, if_false, Int.toNat_natCast, Bool.not_true, Bool.false_eq_true, hneed]
  rw [hz]
  cases base with
  | none => subst hst; rfl
  | some ad =>
    have hst' : (storeCells (ad.add (sLen * i.size)) (zerosOf z i.size n).toList 0).run P w = .ok () w' := hst
    simp only [Sem.run_bind, hst', Result.andThen_ok, Sem.run_pure]

theorem run_appz_grow {old : Array Value} {k k' : IntKind} (hd : P.underlying t = some (.slice el)) (hi : P.info? el = some i) (hzero : i.zero = some z) (t0 : tys[0]? = some t) (t1 : tys[1]? = some u) (hu : P.underlying u = some (.int k))
    (a0 : args[0]? = some (.slice base sLen sCap)) (a1 : args[1]? = some (.int k' (n : Nat)))
    (hold : (Builtin.firstCells i.size sLen (.slice base sLen sCap)).run P w.drew = .ok old w.drew) (hneed : ¬ sLen + n ≤ sCap) (hsm : sLen + n < 4194304) (hb : i.bytes < 65536) :
    (Builtin.append_ tys ty args).run P w = .ok (.slice (some ⟨w.heap.size, 0, none⟩) (sLen + n) (grownCap w (sLen + n) sCap el))
      { w with heap := w.heap.push (.cells (old ++ zerosOf z i.size n ++ Builtin.zeroCells z.cells (grownCap w (sLen + n) sCap el - (sLen + n))) el), drawn := w.drawn + 1 } := by
  unfold Builtin.append_
  have hw : IntKind.i64.wrap (n : Int) = n := by rw [IntKind.wrap_i64]; omega
  have h0 : ¬ ((n : Int) < 0) := by omega
  have h1 : ¬ ((n : Int) * (i.bytes : Int) > 2 ^ 48) := by
    have : n * i.bytes ≤ 4194304 * 65536 := Nat.mul_le_mul (by omega) (by omega)
    rw [← Int.natCast_mul]; omega
  have h3 : ¬ (((sLen + n : Nat) : Int) > IntKind.i64.max ∧ (True ∨ i.bytes = 0)) := by
    have : IntKind.i64.max = 9223372036854775807 := by decide
    rw [this]; omega
  have h2 : ¬ Builtin.nextslicecap (sLen + n) sCap * i.bytes > 2 ^ 48 := by
    have := growslice_fits (need := sLen + n) (old := sCap) (bytes := i.bytes) (by omega) (by
      have : (sLen + n) * i.bytes ≤ 4194304 * 65536 := Nat.mul_le_mul (by omega) (by omega)
      omega)
    omega
  have hc : (choose (.appendCap (sLen + n) sCap el)).run P w = .ok (grownCap w (sLen + n) sCap el) w.drew := by
    rw [run_choose]; rfl
  have hz : ((if n * i.size = 0 then pure #[] else do pure (Builtin.zeroCells (← zeroValue el).cells n) : Sem (Array Value))).run P w.drew = .ok (zerosOf z i.size n) w.drew := by
    unfold zerosOf
    split
    · rfl
    · simp only [Sem.run_bind, run_zero hi hzero, Result.andThen_ok, Sem.run_pure]
  simp only [t0, t1, a0, a1, Sem.run_bind, run_und hd, run_und hu, Result.andThen_ok, run_size hi, run_info hi, Sem.run_pure, if_true, asInt, asIntOf, hw, h0, h1, if_false, Int.toNat_natCast, Bool.not_true, Bool.false_eq_true, hneed, h2, h3, hc,
    _root_.Go.run_askRoom, hold, run_zero hi hzero, newRow, run_newObj]
  rw [hz]
  simp only [Result.andThen_ok]
  rfl
end
end
end Go.AE
namespace Go.AE
section
variable {E : Env} {φ₀ : Loc} {o : Oper} {a : Act} {ts : Tm} {e : Ex} {ts' : Tm} {h h₀ : Hs} {c c₀ : Nat}

theorem HR.drew {φ : Loc} {t : T AObj} {w : World} (g : HR E φ t w) : HR E φ t w.drew := ⟨fun b o hb => (g.obj b o hb).keep (fun _ _ h => h) fun _ _ _ => rfl, g.inj⟩

/-- what the operation, an append of n elements L to s, does -/
def AppSays (E : Env) (o : Oper) (a : Act) (s : Operand) (el : TypeId) (sz n : Nat) (L : List (List AV)) (φ : Loc) (w : World) : Prop :=
  (∀ l ∈ L, l.length = sz) ∧ ∃ us, VRL E φ L.flatten us ∧ (∀ u ∈ us, one u = true) ∧
    (∀ base sLen sCap w', a.eval s = .slice base sLen sCap → sLen + n ≤ sCap → (match base with | some ad => (storeCells (ad.add (sLen * sz)) us 0).run E.P w = .ok () w' | none => w' = w) → Runs E.P o a w (.slice base (sLen + n) sCap) w') ∧
    (∀ base sLen sCap old, a.eval s = .slice base sLen sCap → (Builtin.firstCells sz sLen (.slice base sLen sCap)).run E.P w.drew = .ok old w.drew → ¬ sLen + n ≤ sCap → sLen + n < 4194304 →
      ∃ cap rest, sLen + n ≤ cap ∧ rest.length = (cap - (sLen + n)) * sz ∧
        Runs E.P o a w (.slice (some ⟨w.heap.size, 0, none⟩) (sLen + n) cap) { w with heap := w.heap.push (.cells (old.toList ++ us ++ rest).toArray el), drawn := w.drawn + 1 })

theorem RowR.grown {φ : Loc} {m sz : Nat} {pat : List AV} {t : T (List AV)} {C C' : Array Value} (hr : RowR E φ m sz pat t C) {len : Nat} {L : List (List AV)} {us : List Value} (hm : len * sz ≤ m) (hL : ∀ l ∈ L, l.length = sz)
    (hu : VRL E φ L.flatten us) (h1 : ∀ u ∈ us, one u = true) (hs : (len + L.length) * sz ≤ C'.size) (hold : ∀ k, k < len * sz → C'[k]? = C[k]?) (hnew : ∀ j, j < us.length → C'[len * sz + j]? = us[j]?) :
    RowR E φ ((len + L.length) * sz) sz pat (T.lay L t len) C' := by
  have hsz := hr.1
  have hlen := hu.length
  rw [flat_length L hL] at hlen
  refine ⟨hsz, hs, fun i hi => ?_, fun k hk => ?_⟩
  · have hi' : i < len + L.length := Nat.lt_of_mul_lt_mul_right hi
    rw [get_lay]
    split
    · rename_i hin
      have : i - len < L.length := by omega
      rw [List.getElem?_eq_getElem this]
      exact hL _ (List.getElem_mem this)
    · refine hr.2.2.1 i ?_
      have : i * sz < len * sz := Nat.mul_lt_mul_of_pos_right (by omega) hsz
      omega
  · have hk2 := Nat.mod_lt k hsz
    have hb := base_add k sz
    rw [get_lay]
    split
    · rename_i hin
      have hi : k / sz - len < L.length := by omega
      have hle : len * sz ≤ k / sz * sz := Nat.mul_le_mul_right _ hin.1
      have e1 : k - len * sz = (k / sz - len) * sz + k % sz := by rw [Nat.sub_mul]; omega
      have fg := flat_get L hL (k / sz - len) (k % sz) hk2
      rw [List.getElem?_eq_getElem hi] at fg ⊢
      have hl := hL _ (List.getElem_mem hi)
      simp only [Option.bind_some] at fg
      have e3 : L[k / sz - len][k % sz]? = some (L[k / sz - len][k % sz]'(by rw [hl]; exact hk2)) := List.getElem?_eq_getElem (by rw [hl]; exact hk2)
      rw [e3] at fg
      obtain ⟨u, hu1, hu2⟩ := hu.get fg
      refine ⟨_, u, e3, ?_, hu2, h1 u (List.mem_of_getElem? hu1)⟩
      have hjl : k - len * sz < us.length := by rw [e1]; exact (List.getElem?_eq_some_iff.1 hu1).1
      have := hnew (k - len * sz) hjl
      rw [show len * sz + (k - len * sz) = k by omega] at this
      rw [this, e1]; exact hu1
    · rename_i hin
      have hlt : k / sz < len := by
        have : k / sz < len + L.length := by apply Nat.div_lt_of_lt_mul; rw [Nat.mul_comm]; exact hk
        omega
      have hkl : k < len * sz := by
        have : (k / sz + 1) * sz ≤ len * sz := Nat.mul_le_mul_right _ hlt
        rw [Nat.add_mul] at this; omega
      obtain ⟨x, v, q1, q2, q3, q4⟩ := hr.2.2.2 k (by omega)
      exact ⟨x, v, q1, (hold k hkl).trans q2, q3, q4⟩

theorem layA_grown {C : Array Value} {off : Nat} {us : List Value} (hs : off + us.length ≤ C.size) : (∀ k, k < off → (layA C off us)[k]? = C[k]?) ∧ ∀ j, j < us.length → (layA C off us)[off + j]? = us[j]? := by
  refine ⟨fun k hk => ?_, fun j hj => ?_⟩
  · rw [get_layA _ _ _ _ hs, if_neg (by omega)]
  · rw [get_layA _ _ _ _ hs, if_pos (by omega)]; congr 1; omega

theorem same_push (w : World) (x : Obj) (n : Nat) : Same w { w with heap := w.heap.push x, drawn := n } := ⟨rfl, rfl, rfl, by simp⟩

theorem appendTo_ok {s : Operand} {el : TypeId} {sz n : Nat} {L : List (List AV)} {K : Kv} (hsz : 0 < sz) (hsm : n < 4194304) (hLn : L.length = n) (hs : VR E φ₀ (evalO s ts) (a.eval s)) (hd : ∀ c, o.op ≠ .defer c)
    (hsay : ∀ (φ : Loc) (w : World), φ₀.le φ → HR E φ h.t w → AppSays E o a s el sz n L φ w) (g : appendTo sz (evalO s ts) n L h c K = .ok e ts' h₀ c₀) :
    ∃ v h₁ c₁, K v h₁ c₁ = .ok e ts' h₀ c₀ ∧ CxRun E φ₀ o a h c v h₁ c₁ := by
  unfold appendTo at g
  split at g
  · rename_i hse
    rw [hse] at hs; simp only [VR] at hs
    unfold appNil at g
    cases hz : isZ n with
    | true =>
      rw [hz] at g
      have hn := isZ_ok hz
      refine ⟨_, _, _, g, CxRun.of_runs hd fun φ w hle hh _ => ⟨φ, w, .slice none 0 0, Sim.refl hh, rfl, ?_⟩⟩
      obtain ⟨_, us, _, _, hin, _⟩ := hsay φ w hle hh
      have := hin none 0 0 w hs (by omega) rfl
      rw [hn] at this; exact this
    | false =>
      rw [hz] at g
      have hn : 0 < n := by
        cases n with
        | zero => cases hz
        | succ n => omega
      have g : freshRow sz n L h c K = _ := g
      unfold freshRow at g
      rw [fill_eq, new_eq] at g
      refine ⟨_, _, _, g, CxRun.of_runs hd fun φ w hle hh hf => ?_⟩
      obtain ⟨hL, us, hu, h1, _, hgr⟩ := hsay φ w hle hh
      · obtain ⟨cap, rest, hc, hrest, hrun⟩ := hgr none 0 0 #[] hs rfl (by omega) (by omega)
        rw [Nat.zero_add] at hc hrest hrun
        have hrow := RowR.fresh (rest := rest) hsz hL hu h1 (n := n * sz) (by rw [hLn])
        have hfc := hf c (Nat.le_refl _) (by omega)
        refine ⟨_, _, _, Sim.made (N := ((#[] : Array Value).toList ++ us ++ rest).toArray.size) hh hfc (grown_push w _ _) ?_, ?_, hrun⟩
        · refine ⟨w.heap.size, _, el, (0, 0), Loc.add_same .., push_last w _ _, nofz0 _, ?_⟩
          exact hrow.mono (Loc.le_add _ _ hfc)
        · refine ⟨w.heap.size, _, ⟨w.heap.size, 0, none⟩, cap, Loc.add_same .., rfl, Nat.le_refl _, hc, (fun h => by cases h), (fun _ => rfl), (fun _ => ?_), hsz⟩
          have hlen := hu.length
          rw [flat_length L hL, hLn] at hlen
          simp only [List.size_toArray, List.length_append, hlen, hrest]
          rw [Nat.sub_mul]
          have := Nat.mul_le_mul_right sz hc
          simp; omega
  · rename_i b off len cap sz' ex hse
    rw [hse] at hs
    obtain ⟨B, N, ad, cap', hB, hsv, hlc, hcc, hex, had, hN, _⟩ := hs
    obtain ⟨hsz', g1⟩ := guardB_ok g
    have hsz' : sz' = sz := Nat.eq_of_beq_eq_true hsz'
    subst hsz'
    rw [forceN_eq] at g1
    obtain ⟨hn', g2⟩ := guardB_ok g1
    have hn' : len + n < 4194304 := Nat.blt_eq.mp hn'
    unfold appendSl at g2
    have ulen : ∀ {φ : Loc} {us : List Value}, (∀ l ∈ L, l.length = sz') → VRL E φ L.flatten us → us.length = n * sz' := fun hL hu => by
      have hlen := hu.length
      rw [flat_length L hL, hLn] at hlen; exact hlen
    cases hle : Nat.ble (Nat.add len n) cap with
    | true =>
      rw [hle] at g2
      have hle : len + n ≤ cap := Nat.le_of_ble_eq_true hle
      obtain ⟨h', g, hst⟩ := stE_ok g2
      refine ⟨_, _, _, g, CxRun.of_runs hd fun φ w hle' hh _ => ?_⟩
      obtain ⟨hL, us, hu, h1, hin, _⟩ := hsay φ w hle' hh
      have hB' := hle' _ _ hB
      obtain ⟨w', hr, hsim⟩ := (hst E φ us hsz hL hu h1).at_slice (cap' := cap') (off := off) (k := len * sz') hB' had (fun h0 => by
        have : us.length = 0 := by rw [ulen hL hu]; rw [show n = 0 by omega, Nat.zero_mul]
        exact List.length_eq_zero_iff.1 this) hh c
      exact ⟨φ, w', _, hsim, ⟨B, N, ad, cap', hB', rfl, hle, hcc, hex, had, hN, hsz⟩, hin (some ad) len cap' w' hsv (by omega) hr⟩
    | false =>
      rw [hle] at g2
      have hle : ¬ len + n ≤ cap := fun h2 => by
        have : Nat.ble (Nat.add len n) cap = true := Nat.ble_eq.mpr h2
        rw [this] at hle; cases hle
      -- what was there is handed on
      have hold : ∀ {φ : Loc} {w : World}, HR E φ h.t w → ∀ {C : Array Value} {el' : TypeId} {fr : Nat × Nat}, w.heap[B]? = some (.cells C el' fr) → C.size = N → off + len * sz' ≤ C.size →
          (Builtin.firstCells sz' len (.slice (some ad) len cap')).run E.P w.drew = .ok (C.extract off (off + len * sz')) w.drew := by
        intro φ w _ C el' fr hw hCN hlen
        unfold Builtin.firstCells
        by_cases h0 : len = 0
        · subst h0; simp [loadCells, loadCellsFrom]; omega
        · rw [had (by omega)]
          exact run_loadCells (w := w.drew) hw hlen
      cases ex with
      | true =>
        have hcap := hex rfl
        obtain ⟨m, rs, pat, t, old, hb, hm, g3, holdn, hr⟩ := rdE_ok g2
        unfold freshRow at g3
        rw [fill_eq, new_eq] at g3
        refine ⟨_, _, _, g3, CxRun.of_runs hd fun φ w hle' hh hf => ?_⟩
        obtain ⟨hL, us, hu, h1, _, hgr⟩ := hsay φ w hle' hh
        have hB' := hle' _ _ hB
        obtain ⟨B2, C, el', fr, hB2, hw, hfr, hrow⟩ := hh.obj b _ hb
        rw [hB'] at hB2; cases hB2
        obtain ⟨r1, r2, r3⟩ := hr E φ C hsz hrow
        have hC := hrow.2.1
        obtain ⟨k, rest, hc, hrest, hrun⟩ := hgr (some ad) len cap' _ hsv (hold hh hw rfl (by omega)) (by omega) hn'
        have hfc := hf c (Nat.le_refl _) (by omega)
        have hall : ∀ l ∈ appL old L, l.length = sz' := fun l hl => by
          rw [appL_eq, List.mem_append] at hl
          exact hl.elim (r1 l) (hL l)
        have hrow' := RowR.fresh (E := E) (φ := φ) (rest := rest) (L := appL old L) (us := (C.extract off (off + len * sz')).toList ++ us) hsz hall (by rw [appL_eq, List.flatten_append]; exact r2.append hu)
          (fun v hv => (List.mem_append.1 hv).elim (r3 v) (h1 v)) (n := (len + n) * sz') (by rw [appL_eq, List.length_append, holdn, hLn])
        refine ⟨_, _, _, Sim.made (N := ((C.extract off (off + len * sz')).toList ++ us ++ rest).toArray.size) hh hfc (grown_push w _ _) ?_, ?_, hrun⟩
        · exact ⟨w.heap.size, _, el, (0, 0), Loc.add_same .., push_last w _ _, nofz0 _, hrow'.mono (Loc.le_add _ _ hfc)⟩
        · refine ⟨w.heap.size, _, ⟨w.heap.size, 0, none⟩, k, Loc.add_same .., rfl, Nat.le_refl _, hc, (fun h => by cases h), (fun _ => rfl), (fun _ => ?_), hsz⟩
          have e1 := ulen hL hu
          have e2 : ((C.extract off (off + len * sz')).toList).length = len * sz' := extract_len C (by omega)
          simp only [List.size_toArray, List.length_append, e1, e2, hrest]
          rw [Nat.sub_mul]
          have := Nat.mul_le_mul_right sz' hc
          have e3 : (len + n) * sz' = len * sz' + n * sz' := Nat.add_mul ..
          simp; omega
      | false =>
        have g3 : growRow b off len sz' (len + n) L h c K = .ok e ts' h₀ c₀ := g2
        unfold growRow at g3
        split at g3
        · rename_i m rs pat t hb
          obtain ⟨ho, g4⟩ := guardB_ok g3
          have ho := isZ_ok ho
          subst ho
          obtain ⟨hrs, g5⟩ := guardB_ok g4
          have hrs : rs = sz' := Nat.eq_of_beq_eq_true hrs
          subst hrs
          obtain ⟨hm, g6⟩ := guardB_ok g5
          have hm : len * rs ≤ m := Nat.le_of_ble_eq_true hm
          rw [fill_eq, put_eq, new_eq] at g6
          refine ⟨_, _, _, g6, CxRun.of_runs hd fun φ w hle' hh hf => ?_⟩
          obtain ⟨hL, us, hu, h1, hin, hgr⟩ := hsay φ w hle' hh
          have hB' := hle' _ _ hB
          obtain ⟨B2, C, el', fr, hB2, hw, hfr, hrow⟩ := hh.obj b _ hb
          rw [hB'] at hB2; cases hB2
          have hC := hrow.2.1
          have hfc := hf c (Nat.le_refl _) (by omega)
          have e1 := ulen hL hu
          have e3 : (len + n) * rs = len * rs + n * rs := Nat.add_mul ..
          have hbn : h.t.get b ≠ none := by rw [hb]; simp
          by_cases hin' : len + n ≤ cap'
          · -- in its place
            have hN' := hN (by omega)
            have hle3 : (len + n) * rs ≤ cap' * rs := Nat.mul_le_mul_right _ hin'
            have hs1 : len * rs + us.length ≤ C.size := by omega
            have hrunS := run_storeCells (P := E.P) (len * rs) us 0 w C hw hfr (by omega) h1
            obtain ⟨q1, q2⟩ := layA_grown hs1
            have hrow' := hrow.grown hm hL hu h1 (C' := layA C (len * rs) us) (by rw [size_layA, hLn]; omega) q1 q2
            rw [hLn] at hrow'
            have tu := rowTo_turned (w := w) (B := B) (layA C (len * rs) us)
            refine ⟨_, World.rowTo w B (layA C (len * rs) us), .slice (some ad) (len + n) cap', Sim.grow (x := (B, C.size)) hh hfc hbn hB' (.inl rfl) (fun B' _ hne => tu.old B' hne) (fun h => ?_) ⟨tu.tape, tu.os, tu.output, by rw [tu.size]; omega⟩ ?_, ?_, ?_⟩
            · have hlt := (Array.getElem?_eq_some_iff.1 hw).1
              simp at h; omega
            · refine ⟨B, layA C (len * rs) us, el', fr, by rw [size_layA]; exact Loc.add_same .., rowTo_same hw _, by rw [size_layA]; exact hfr, hrow'.mono (Loc.le_add _ _ hfc)⟩
            · exact ⟨B, C.size, ad, cap', Loc.add_same .., rfl, Nat.le_refl _, hin', (fun h => by cases h), had, (fun _ => by omega), hsz⟩
            · refine hin (some ad) len cap' _ hsv hin' ?_
              show (storeCells (ad.add (len * rs)) us 0).run E.P w = _
              rw [had (by omega), add_addr, Nat.zero_add]
              exact hrunS
          · -- a new block
            obtain ⟨k, rest, hc, hrest, hrun⟩ := hgr (some ad) len cap' _ hsv (hold hh hw rfl (by omega)) hin' hn'
            have e2 : (C.extract 0 (0 + len * rs)).toList.length = len * rs := extract_len C (by omega)
            have hrow' := hrow.grown hm hL hu h1 (C' := ((C.extract 0 (0 + len * rs)).toList ++ us ++ rest).toArray) (by simp only [List.size_toArray, List.length_append, e1, e2, hLn]; omega)
              (fun j hj => by
                rw [List.getElem?_toArray, List.append_assoc, List.getElem?_append_left (by omega), extract_get C (by omega) hj, Nat.zero_add])
              (fun j hj => by
                rw [List.getElem?_toArray, List.append_assoc, List.getElem?_append_right (by omega), e2, Nat.add_sub_cancel_left, List.getElem?_append_left hj])
            rw [hLn] at hrow'
            have gr := grown_push w (.cells ((C.extract 0 (0 + len * rs)).toList ++ us ++ rest).toArray el) (w.drawn + 1)
            refine ⟨_, _, _, Sim.grow (x := (w.heap.size, ((C.extract 0 (0 + len * rs)).toList ++ us ++ rest).toArray.size)) hh hfc hbn hB' (.inr rfl) (fun B' hB2 _ => gr.old B' hB2) (fun _ => gr.old B (Array.getElem?_eq_some_iff.1 hw).1)
              (same_push w _ _) ?_, ?_, hrun⟩
            · exact ⟨w.heap.size, _, el, (0, 0), Loc.add_same .., push_last w _ _, nofz0 _, hrow'.mono (Loc.le_add _ _ hfc)⟩
            · refine ⟨w.heap.size, _, ⟨w.heap.size, 0, none⟩, k, Loc.add_same .., rfl, Nat.le_refl _, hc, (fun h => by cases h), (fun _ => rfl), (fun _ => ?_), hsz⟩
              simp only [List.size_toArray, List.length_append, e1, e2, hrest]
              rw [Nat.sub_mul]
              have := Nat.mul_le_mul_right rs hc
              omega
        · cases g3
  · cases g
end
end Go.AE
namespace Go.AE
section
variable {E : Env} {φ : Loc} {o : Oper} {a : Act} {ts : Tm} {K : Kc} {e : Ex} {ts' : Tm} {h : Hs} {c : Nat} {cl : Call}

theorem lenV_ok {x : AV} {K : Nat → Out} (g : lenV x K = .ok e ts' h c) : ∃ n, K n = .ok e ts' h c ∧ ∀ (E : Env) (φ : Loc) (v : Value), VR E φ x v → ∀ (P : Program) (w : World), (Builtin.lenOf v).run P w = .ok n w := by
  unfold lenV at g
  split at g
  · exact ⟨0, g, fun E φ v hv P w => by simp only [VR] at hv; subst hv; rfl⟩
  · exact ⟨_, g, fun E φ v hv P w => by obtain ⟨B, N, ad, cap', _, rfl, _⟩ := hv; rfl⟩
  · rename_i s
    rw [forceN_eq, lenL_eq] at g
    exact ⟨_, g, fun E φ v hv P w => by simp only [VR] at hv; subst hv; rfl⟩
  · cases g

theorem zeros_VRL {φ : Loc} {z : Value} {zl : List AV} {sz : Nat} (hz : VRL E φ zl z.cells.toList) (h1 : ∀ x ∈ z.cells.toList, one x = true) (hl : zl.length = sz) : ∀ n,
    (∀ l ∈ repL n zl, l.length = sz) ∧ (repL n zl).length = n ∧ VRL E φ (repL n zl).flatten (List.replicate n z.cells.toList).flatten ∧ (∀ x ∈ (List.replicate n z.cells.toList).flatten, one x = true)
  | 0 => ⟨fun l hl => (by cases hl), rfl, VRL_nil, fun x hx => (by simp at hx)⟩
  | n + 1 => by
    obtain ⟨i1, i2, i3, i4⟩ := zeros_VRL hz h1 hl n
    have e1 : repL (n + 1) zl = zl :: repL n zl := rfl
    rw [e1, List.replicate_succ]
    refine ⟨fun l hl' => ?_, by simp [i2], ?_, fun x hx => ?_⟩
    · rcases List.mem_cons.1 hl' with rfl | h
      · exact hl
      · exact i1 l h
    · rw [List.flatten_cons, List.flatten_cons]; exact hz.append i3
    · rw [List.flatten_cons, List.mem_append] at hx
      exact hx.elim (h1 x) (i4 x)

theorem zeroCells_eq (z : Array Value) (n : Nat) : (Builtin.zeroCells z n).toList = (List.replicate n z.toList).flatten := by
  have hall : ∀ l ∈ List.replicate n z.toList, l.length = z.size := fun l hl => by rw [List.mem_replicate] at hl; rw [hl.2]; simp
  have hlen := flat_length (sz := z.size) (List.replicate n z.toList) hall
  rw [List.length_replicate] at hlen
  apply List.ext_getElem?
  intro k
  unfold Builtin.zeroCells
  by_cases hk : k < n * z.size
  · have hz : 0 < z.size := by
      rcases Nat.eq_zero_or_pos z.size with h | h
      · rw [h] at hk; omega
      · exact h
    have hm := Nat.mod_lt k hz
    have hd : k / z.size < n := by apply Nat.div_lt_of_lt_mul; rw [Nat.mul_comm]; exact hk
    have fg := flat_get (List.replicate n z.toList) hall (k / z.size) (k % z.size) hm
    rw [base_add] at fg
    rw [fg, List.getElem?_replicate, if_pos hd]
    simp only [Option.bind_some, Array.toList_map, List.getElem?_map]
    rw [show (Array.range (n * z.size)).toList[k]? = some k by simp [hk]]
    simp only [Option.map_some, Array.getElem?_toList]
    rw [getElem!_def]
    rw [show z[k % z.size]? = some z[k % z.size] from Array.getElem?_eq_getElem hm]
  · rw [List.getElem?_eq_none (by simp; omega), List.getElem?_eq_none (by omega)]

theorem zerosOf_eq {z : Value} {sz n : Nat} (hz : z.cells.size = sz) : (zerosOf z sz n).toList = (List.replicate n z.cells.toList).flatten := by
  unfold zerosOf
  split
  · rename_i h
    have hall : ∀ l ∈ List.replicate n z.cells.toList, l.length = sz := fun l hl => by rw [List.mem_replicate] at hl; rw [hl.2]; simpa using hz
    have hlen := flat_length (sz := sz) (List.replicate n z.cells.toList) hall
    rw [List.length_replicate, h] at hlen
    exact (List.length_eq_zero_iff.1 hlen).symm
  · exact zeroCells_eq _ _

theorem isIntD_int {d : TypeDesc} (h : isIntD d = true) : ∃ k, d = .int k := by cases d <;> first | exact ⟨_, rfl⟩ | cases h

theorem rest_len {z : Value} {sz m : Nat} (hz : z.cells.size = sz) : (Builtin.zeroCells z.cells m).toList.length = m * sz := by
  unfold Builtin.zeroCells; simp [hz]

theorem bytesOk_ok (T : TabOk E) {t : TypeId} {i : TypeInfo} (hi : E.P.info? t = some i) {K : Out} (g : bytesOk E t K = .ok e ts' h c) : i.bytes < 65536 ∧ K = .ok e ts' h c ∧ ∃ z, i.zero = some z ∧ z.cells.size = i.size := by
  unfold bytesOk at g
  split at g
  · rename_i i' hti
    have := T.ty _ _ hti
    rw [hi] at this; cases this
    obtain ⟨h2, g2⟩ := guardB_ok g
    cases hz : i.zero with
    | none => rw [hz] at g2; cases g2
    | some z => rw [hz] at g2; exact ⟨Nat.blt_eq.mp h2, g2, z, rfl, T.zsz _ _ _ hti hz⟩
  · cases g

theorem appendD_plain {el : TypeId} {size : Nat} {s x : AV} {K : Kc} {d : TypeDesc} (hd : isIntD d = false) : appendD E el size s x K d = K (.cx fun _ h c K => appendV size s x h c K) := by
  cases d <;> first | rfl | cases hd

theorem ok_append (T : TabOk E) (ht : TR E φ ts a.tmps) (ho : o.op = .call cl) (hb : cl.callee = .builtin .append) (g : cAppend cl.args.toList cl.argTypes.toList E ts K = .ok e ts' h c) : Good E φ o a K e ts' h c := by
  obtain ⟨cs, he⟩ := ex_builtin (a := a) ho hb
  have hnd : ∀ c, o.op ≠ .defer c := fun c h => by rw [ho] at h; cases h
  unfold cAppend at g
  obtain ⟨t, hty, g⟩ := argTy_ok g
  obtain ⟨u, huy, g⟩ := argTy_ok g
  obtain ⟨s, hax, hx, g⟩ := arg_ok ht g
  obtain ⟨x, hay, hy, g⟩ := arg_ok ht g
  obtain ⟨d, hd, g⟩ := und_ok T g
  obtain ⟨el, i, rfl, hi, h0, g⟩ := elemK_ok T g
  obtain ⟨hbytes, g, z0, hz0, hzs0⟩ := bytesOk_ok T hi g
  obtain ⟨du, hu, g⟩ := und_ok T g
  have hr : execOp a.eval o = (do pure (Next.value (← Builtin.append_ cl.argTypes o.type (cl.args.map a.eval)))) := he
  have val : ∀ {w w' : World} {v : Value}, (Builtin.append_ cl.argTypes o.type (cl.args.map a.eval)).run E.P w = .ok v w' → Runs E.P o a w v w' := fun hs => .inl (by
    rw [hr]; simp only [Sem.run_bind, hs, Result.andThen_ok, Sem.run_pure])
  -- the type's zero value is needed where the row grows
  cases hint : isIntD du with
  | false =>
    rw [appendD_plain hint] at g
    refine ⟨_, g, fun self _ h c K' e ts' h' c' g2 => ?_⟩
    unfold appendV at g2
    obtain ⟨n, g2, hlen⟩ := lenV_ok g2
    obtain ⟨hsm, g2⟩ := guardB_ok g2
    have hsm : n < 4194304 := Nat.blt_eq.mp hsm
    obtain ⟨L, g2, hLn, hsrc⟩ := srcE_ok (E := E) g2
    have hzs := hzs0
    refine appendTo_ok h0 hsm hLn hx hnd (el := el) (fun φ' w hle hh => ?_) g2
    have hy' := VR.mono hle _ _ hy
    obtain ⟨q1, us, q3, q4, q5⟩ := hsrc φ' w _ h0 hh hy'
    refine ⟨q1, us, q3, q4, fun base sLen sCap w' hs hle2 hst => val ?_, fun base sLen sCap old hs hold hle2 hsm2 => ⟨grownCap w (sLen + n) sCap el, _, grownCap_ge .., rest_len hzs, val ?_⟩⟩
    · exact run_app_in hd hi hty huy hu hint (by rw [hax, hs]) (by rw [hay]) (hlen E φ' _ hy' E.P w) (q5 w.drawn) hle2 (by cases base <;> simpa using hst)
    · have hap : (Builtin.firstCells i.size n (a.eval x)).run E.P w.drew = .ok us.toArray w.drew := q5 (w.drawn + 1)
      rw [run_app_grow hd hi hz0 hty huy hu hint (by rw [hax, hs]) (by rw [hay]) (hlen E φ' _ hy' E.P w) hap hold hle2 hsm2 hbytes]
      congr 4
      apply Array.ext'
      simp
  | true =>
    obtain ⟨k, rfl⟩ := isIntD_int hint
    have g : natOf (evalO x ts) (fun n => guardB (Nat.blt n 4194304) 159 <| E.zero el fun z => cellsK z 268 fun z => guardB (Nat.beq (lenL z) i.size) 160 <| K (.cx fun _ h c K => appendTo i.size (evalO s ts) n (repL n z) h c K)) = .ok e ts' h c := g
    obtain ⟨k', n, hxe, g⟩ := natOf_ok g
    rw [hxe] at hy; simp only [VR] at hy
    obtain ⟨hsm, g⟩ := guardB_ok g
    have hsm : n < 4194304 := Nat.blt_eq.mp hsm
    obtain ⟨i', z, hi', hz, g⟩ := zero_ok T g
    rw [hi] at hi'; cases hi'
    have hzs : z.cells.size = i.size := by rw [hz0] at hz; cases hz; exact hzs0
    obtain ⟨zl, g, hzl⟩ := cellsK_ok g
    obtain ⟨hzn, g⟩ := guardB_ok g
    have hzn : lenL zl = i.size := Nat.eq_of_beq_eq_true hzn
    rw [lenL_eq] at hzn
    refine ⟨_, g, fun self _ h c K' e ts' h' c' g2 => ?_⟩
    refine appendTo_ok h0 hsm (zeros_VRL (E := E) (φ := φ) (hzl E φ z (ofValue_VR E φ z)).1 (hzl E φ z (ofValue_VR E φ z)).2 hzn n).2.1 hx hnd (el := el) (fun φ' w hle hh => ?_) g2
    obtain ⟨r1, r2⟩ := hzl E φ' z (ofValue_VR E φ' z)
    obtain ⟨q1, q2, q3, q4⟩ := zeros_VRL r1 r2 hzn n
    have ez := zerosOf_eq (n := n) hzs
    refine ⟨q1, _, q3, q4, fun base sLen sCap w' hs hle2 hst => val ?_, fun base sLen sCap old hs hold hle2 hsm2 => ⟨grownCap w (sLen + n) sCap el, _, grownCap_ge .., rest_len hzs, val ?_⟩⟩
    · refine run_appz_in hd hi hz hty huy hu (by rw [hax, hs]) (by rw [hay, hy]) hsm hbytes hle2 ?_
      rw [ez]; cases base <;> exact hst
    · rw [run_appz_grow hd hi hz hty huy hu (by rw [hax, hs]) (by rw [hay, hy]) hold hle2 hsm2 hbytes]
      congr 4
      apply Array.ext'
      simp [ez]
end
end Go.AE
namespace Go.AE
section
variable {E : Env} {φ : Loc} {o : Oper} {a : Act} {ts : Tm} {K : Kc} {e : Ex} {ts' : Tm} {h : Hs} {c : Nat} {cl : Call}

theorem add_zero_addr (ad : Addr) : ad.add 0 = ad := by simp [Addr.add]

theorem ok_copy (T : TabOk E) (ht : TR E φ ts a.tmps) (ho : o.op = .call cl) (hb : cl.callee = .builtin .copy) (g : cCopy cl.args.toList cl.argTypes.toList E ts K = .ok e ts' h c) : Good E φ o a K e ts' h c := by
  obtain ⟨cs, he⟩ := ex_builtin (a := a) ho hb
  have hnd : ∀ c, o.op ≠ .defer c := fun c h => by rw [ho] at h; cases h
  unfold cCopy at g
  obtain ⟨t, hty, g⟩ := argTy_ok g
  obtain ⟨d, hax, hx, g⟩ := arg_ok ht g
  obtain ⟨x, hay, hy, g⟩ := arg_ok ht g
  obtain ⟨D, hd, g⟩ := und_ok T g
  obtain ⟨el, i, rfl, hi, h0, g⟩ := elemK_ok T g
  have hr : execOp a.eval o = (do pure (Next.value (← Builtin.copy_ cl.argTypes o.type (cl.args.map a.eval)))) := he
  refine ⟨_, g, fun self _ h c K' e ts' h' c' g2 => ?_⟩
  unfold copyX at g2
  obtain ⟨dl, g2, hdl⟩ := lenV_ok g2
  obtain ⟨xl, g2, hxl⟩ := lenV_ok g2
  rw [forceN_eq] at g2
  unfold copyD at g2
  obtain ⟨L, g2, hLn, hsrc⟩ := srcE_ok (E := E) g2
  have run : ∀ {φ' : Loc} {w w' : World} {us : List Value} {base : Option Addr} {cap : Nat}, φ.le φ' → a.eval d = .slice base dl cap → (Builtin.firstCells i.size (Nat.min xl dl) (a.eval x)).run E.P w = .ok us.toArray w →
      (match base with | some ad => (storeCells ad us 0).run E.P w = .ok () w' | none => w' = w) → Runs E.P o a w (goInt (Nat.min xl dl)) w' := by
    intro φ' w w' us base cap hle hdv hfc hst
    left
    rw [hr]
    unfold Builtin.copy_
    simp only [hty, hax, hay, hdv, Sem.run_bind, run_und hd, Result.andThen_ok, hxl E φ' _ (VR.mono hle _ _ hy) E.P w, run_size hi, hfc, Sem.run_pure]
    cases base with
    | none => subst hst; rfl
    | some ad =>
      have hst' : (storeCells ad us 0).run E.P w = .ok () w' := hst
      simp only [hst', Sem.run_bind, Result.andThen_ok, Sem.run_pure]
  split at g2
  · rename_i b off len cap s ex hde
    rw [hde] at hx
    obtain ⟨B, N, ad, cap', hB, hdv, hlc, hcc, hex, had, hN, _⟩ := hx
    have hdl2 := hdl E φ _ (by rw [hde]; exact ⟨B, N, ad, cap', hB, rfl, hlc, hcc, hex, had, hN, by assumption⟩) E.P default
    have hdl3 : dl = len := by simp only [Builtin.lenOf, Sem.run_pure] at hdl2; cases hdl2; rfl
    subst hdl3
    obtain ⟨hs, g3⟩ := guardB_ok g2
    have hs : s = i.size := Nat.eq_of_beq_eq_true hs
    obtain ⟨h', g3, hst⟩ := stE_ok g3
    refine ⟨_, _, _, g3, CxRun.of_runs hnd fun φ' w hle hh _ => ?_⟩
    obtain ⟨q1, us, q3, q4, q5⟩ := hsrc φ' w _ h0 hh (VR.mono hle _ _ hy)
    have hB' := hle _ _ hB
    have hus : us.length = Nat.min xl dl * i.size := by rw [q3.length, flat_length L q1, hLn]
    obtain ⟨w', hrun, hsim⟩ := StOk.at_slice (off := off) (k := 0) (cap' := cap') (hst E φ' us h0 q1 q3 q4) hB' had (fun hc0 => by
      have h1 : Nat.min xl dl = 0 := by have : Nat.min xl dl ≤ dl := Nat.min_le_right ..; omega
      rw [h1, Nat.zero_mul] at hus
      exact List.length_eq_zero_iff.1 hus) hh c
    rw [add_zero_addr] at hrun
    exact ⟨φ', w', _, hsim, rfl, run hle hdv (q5 w.drawn) hrun⟩
  · rename_i hde
    rw [hde] at hx; simp only [VR] at hx
    have hdl2 := hdl E φ _ (by rw [hde]; rfl) E.P default
    have hdl3 : dl = 0 := by simp only [Builtin.lenOf, Sem.run_pure] at hdl2; cases hdl2; rfl
    subst hdl3
    refine ⟨_, _, _, g2, CxRun.of_runs hnd fun φ' w hle hh _ => ?_⟩
    obtain ⟨q1, us, q3, q4, q5⟩ := hsrc φ' w _ h0 hh (VR.mono hle _ _ hy)
    exact ⟨φ', w, _, Sim.refl hh, rfl, run hle hx (q5 w.drawn) rfl⟩
  · cases g2

theorem ok_clear (T : TabOk E) (ht : TR E φ ts a.tmps) (ho : o.op = .call cl) (hb : cl.callee = .builtin .clear) (g : cClear cl.args.toList cl.argTypes.toList E ts K = .ok e ts' h c) : Good E φ o a K e ts' h c := by
  obtain ⟨cs, he⟩ := ex_builtin (a := a) ho hb
  have hnd : ∀ c, o.op ≠ .defer c := fun c h => by rw [ho] at h; cases h
  unfold cClear at g
  obtain ⟨t, hty, g⟩ := argTy_ok g
  obtain ⟨x, hax, hx, g⟩ := arg_ok ht g
  obtain ⟨D, hd, g⟩ := und_ok T g
  have hr : execOp a.eval o = (do pure (Next.value (← Builtin.clear_ cl.argTypes o.type (cl.args.map a.eval)))) := he
  unfold clearD at g
  split at g
  · rename_i el
    obtain ⟨i, z, hi, hz, g⟩ := zero_ok T g
    obtain ⟨zl, g, hzl⟩ := cellsK_ok g
    obtain ⟨i', hi', g⟩ := size_ok T g
    rw [hi] at hi'; cases hi'
    obtain ⟨hzn, g⟩ := guardB_ok g
    have hzn : lenL zl = i.size := Nat.eq_of_beq_eq_true hzn
    rw [lenL_eq] at hzn
    split at g
    · rename_i hxe
      rw [hxe] at hx; simp only [VR] at hx
      refine good_val (u := .tuple #[]) g ⟨#[], rfl, VRL_nil⟩ hr (fun w => ?_)
      unfold Builtin.clear_
      simp only [hty, hax, hx, Sem.run_bind, run_und hd, Result.andThen_ok, Sem.run_pure]
    · rename_i b off n cap s ex hxe
      rw [hxe] at hx
      obtain ⟨B, N, ad, cap', hB, hxv, hlc, hcc, hex, had, hN, hs0⟩ := hx
      obtain ⟨hs, g⟩ := guardB_ok g
      have hs : s = i.size := Nat.eq_of_beq_eq_true hs
      refine ⟨_, g, fun self _ h c K' e ts' h' c' g2 => ?_⟩
      obtain ⟨h', g2, hst⟩ := stE_ok g2
      refine ⟨_, _, _, g2, CxRun.of_runs hnd fun φ' w hle hh _ => ?_⟩
      obtain ⟨r1, r2⟩ := hzl E φ' z (ofValue_VR E φ' z)
      obtain ⟨q1, q2, q3, q4⟩ := zeros_VRL r1 r2 hzn n
      have hB' := hle _ _ hB
      have hus : (List.replicate n z.cells.toList).flatten.length = n * i.size := by rw [q3.length, flat_length _ q1, q2]
      obtain ⟨w', hrun, hsim⟩ := StOk.at_slice (off := off) (k := 0) (cap' := cap') (hst E φ' _ (by omega) q1 q3 q4) hB' had (fun hc0 => by
        have h1 : n = 0 := by omega
        rw [h1, Nat.zero_mul] at hus
        rw [h1]; rfl) hh c
      rw [add_zero_addr] at hrun
      refine ⟨φ', w', .tuple #[], hsim, ⟨#[], rfl, VRL_nil⟩, .inl ?_⟩
      rw [hr]
      unfold Builtin.clear_
      by_cases hn : n = 0
      · subst hn
        have : w' = w := by
          simp only [List.replicate_zero, List.flatten_nil, storeCells, Sem.run_pure] at hrun
          cases hrun; rfl
        subst this
        simp only [hty, hax, hxv, Sem.run_bind, run_und hd, Result.andThen_ok, Sem.run_pure]
      · have hz2 := zeroCells_eq z.cells n
        cases n with
        | zero => exact absurd rfl hn
        | succ n => simp only [hty, hax, hxv, Sem.run_bind, run_und hd, Result.andThen_ok, Sem.run_pure, run_zero hi hz, hz2, hrun]
    · cases g
  · cases g

/-! ### maps that turn -/
theorem run_setMap {P : Program} {w : World} {B : Nat} {ents : Array MapEntry} {n : Nat} (x : Obj) (h : w.heap[B]? = some (.map ents n)) : (setObj B x).run P w = .ok () { w with heap := w.heap.setIfInBounds B x } := by simp [setObj, Sem.run, h]
theorem turned_set (w : World) (B : Nat) (x : Obj) : Turned w { w with heap := w.heap.setIfInBounds B x } B :=
  ⟨by simp, fun B' hB => by simp [hB.symm], rfl, rfl, rfl⟩
theorem set_same {w : World} {B : Nat} {y : Obj} (x : Obj) (h : w.heap[B]? = some y) : ({ w with heap := w.heap.setIfInBounds B x } : World).heap[B]? = some x := by
  have := (Array.getElem?_eq_some_iff.1 h).1
  simp [this]

theorem EntsR.append {φ : Loc} : ∀ (l l' : List Ent) (m m' : List MapEntry), EntsR E φ l m → EntsR E φ l' m' → EntsR E φ (l ++ l') (m ++ m') := by
  intro l
  induction l with
  | nil => intro l' m m' h h'; simp only [EntsR] at h; subst h; exact h'
  | cons p l ih => intro l' m m' h h'; simp only [EntsR] at h; obtain ⟨x, r, rfl, hx, h⟩ := h; exact ⟨x, r ++ m', rfl, hx, ih l' r m' h h'⟩
theorem EntsR.get {φ : Loc} : ∀ (l : List Ent) (m : List MapEntry), EntsR E φ l m → ∀ {i : Nat} {en : Ent}, l[i]? = some en → ∃ x, m[i]? = some x ∧ EntR E φ en x := by
  intro l
  induction l with
  | nil => intro m _ i en h; simp at h
  | cons p l ih =>
    intro m h i en hi
    simp only [EntsR] at h; obtain ⟨x, r, rfl, hx, h⟩ := h
    cases i with
    | zero => simp at hi; subst hi; exact ⟨x, rfl, hx⟩
    | succ i => simp at hi; simpa using ih r h hi
theorem EntsR.set {φ : Loc} {en : Ent} {x : MapEntry} (hx : EntR E φ en x) : ∀ (l : List Ent) (m : List MapEntry) (i : Nat), EntsR E φ l m → EntsR E φ (l.set i en) (m.set i x) := by
  intro l
  induction l with
  | nil => intro m i h; simp only [EntsR] at h; subst h; simp [EntsR]
  | cons p l ih =>
    intro m i h
    simp only [EntsR] at h; obtain ⟨y, r, rfl, hy, h⟩ := h
    cases i with
    | zero => exact ⟨x, r, rfl, hx, h⟩
    | succ i => exact ⟨y, r.set i x, rfl, hy, ih r i h⟩
theorem EntsR.erase {φ : Loc} : ∀ (l : List Ent) (m : List MapEntry) (i : Nat), EntsR E φ l m → EntsR E φ (l.eraseIdx i) (m.eraseIdx i) := by
  intro l
  induction l with
  | nil => intro m i h; simp only [EntsR] at h; subst h; simp [EntsR]
  | cons p l ih =>
    intro m i h
    simp only [EntsR] at h; obtain ⟨y, r, rfl, hy, h⟩ := h
    cases i with
    | zero => exact h
    | succ i => exact ⟨y, r.eraseIdx i, rfl, hy, ih r i h⟩

theorem mapBlk_ok {v : AV} {K : Nat → Out} (g : mapBlk v K = .ok e ts' h c) : ∃ b, v = .map b ∧ K b = .ok e ts' h c := by
  unfold mapBlk at g
  split at g
  · exact ⟨_, rfl, g⟩
  · cases g

theorem undef_VR (E : Env) (φ : Loc) : VR E φ (.tup []) undef := ⟨#[], rfl, VRL_nil⟩

theorem ok_mapUpdate (T : TabOk E) (ht : TR E φ ts a.tmps) {t : TypeId} {m k v : Operand} (ho : o.op = .mapUpdate t m k v) (g : cMapUpdate t m k v E ts K = .ok e ts' h c) : Good E φ o a K e ts' h c := by
  have he : execOp a.eval o = (do Instr.mapUpdate t (a.eval m) (a.eval k) (a.eval v); pure .skip) := by unfold execOp; rw [ho]
  have hnd : ∀ c, o.op ≠ .defer c := fun c h => by rw [ho] at h; cases h
  have hm := eval_VR ht m
  have hk := eval_VR ht k
  have hv := eval_VR ht v
  unfold cMapUpdate at g
  obtain ⟨D, hd, g⟩ := und_ok T g
  obtain ⟨kt, el, kd, rfl, hkd, hkk, g⟩ := mapElem_ok T g
  obtain ⟨b, hme, g⟩ := mapBlk_ok g
  rw [hme] at hm
  obtain ⟨B, N, hB, hm⟩ := hm
  refine ⟨_, g, fun self _ h c K' e ts' h' c' g2 => ?_⟩
  replace g2 : updB b (evalO k ts) (evalO v ts) h (fun h => K' (.tup []) h c) = .ok e ts' h' c' := g2
  unfold updB at g2
  split at g2
  · rename_i es clock hb
    have hbn : h.t.get b ≠ none := by rw [hb]; simp
    unfold updK at g2
    split at g2
    · rename_i r hr
      split at g2
      · rw [put_eq] at g2
        refine ⟨_, _, _, g2, CxRun.of_runs hnd fun φ' w hle hh _ => ?_⟩
        obtain ⟨B', N', ents, hB', hw, hents⟩ := hh.obj b _ hb
        rw [hle _ _ hB] at hB'; cases hB'
        have hf := (find_ok hkk (VR.mono hle _ _ hk) es ents.toList _ 0 hents hr).1
        refine ⟨φ', _, undef, Sim.put hh hbn (hle _ _ hB) (turned_set w B (.map (ents.push { key := a.eval k, val := a.eval v, born := clock }) (clock + 1)))
          ⟨B, N, _, hle _ _ hB, set_same _ hw, ?_⟩, undef_VR .., .inr ⟨?_, rfl⟩⟩
        · rw [appL_eq, Array.toList_push]
          exact EntsR.append _ _ _ _ hents ⟨_, [], rfl, ⟨VR.mono hle _ _ hk, VR.mono hle _ _ hv, rfl⟩, rfl⟩
        · rw [he]
          unfold Instr.mapUpdate
          simp only [Sem.run_bind, run_und hd, Result.andThen_ok, hm, run_getMap hw, keyD_checks hkd hkk, run_findKey hkd hf, run_setMap _ hw, Sem.run_pure]
      · rename_i vold
        rw [put_eq] at g2
        refine ⟨_, _, _, g2, CxRun.of_runs hnd fun φ' w hle hh _ => ?_⟩
        obtain ⟨B', N', ents, hB', hw, hents⟩ := hh.obj b _ hb
        rw [hle _ _ hB] at hB'; cases hB'
        obtain ⟨i, en, x, q1, q2, q3, q4, q5, q6, q7, q8, q9⟩ := find_ok hkk (VR.mono hle _ _ hk) es ents.toList _ 0 hents hr
        rw [Nat.zero_add] at q4
        obtain ⟨x', q2', hx1, hx2, hx3⟩ := EntsR.get es ents.toList hents q1
        rw [q2] at q2'; cases q2'
        have hmod : (ents.modify i fun e => { e with key := a.eval k, val := a.eval v }).toList = ents.toList.set i { x with key := a.eval k, val := a.eval v } := by
          apply List.ext_getElem?
          intro j
          rw [Array.getElem?_toList, Array.getElem?_modify, List.getElem?_set, Array.getElem?_toList]
          by_cases hij : i = j
          · subst hij
            have := (List.getElem?_eq_some_iff.1 q2).1
            rw [Array.getElem?_toList] at q2
            simp [q2]
            simpa using this
          · simp [hij]
        refine ⟨φ', _, undef, Sim.put hh hbn (hle _ _ hB) (turned_set w B (.map (ents.modify i fun e => { e with key := a.eval k, val := a.eval v }) clock))
          ⟨B, N, _, hle _ _ hB, set_same _ hw, ?_⟩, undef_VR .., .inr ⟨?_, rfl⟩⟩
        · rw [q8, hmod]
          refine EntsR.set (en := ⟨en.k, evalO v ts, en.born⟩) (x := { x with key := a.eval k, val := a.eval v }) ⟨?_, VR.mono hle _ _ hv, hx3⟩ _ _ _ hents
          show VR E φ' en.k (a.eval k)
          rw [← q5]; exact hx1
        · have hkey : (((ents[i]?).map (·.key)).getD (a.eval k)) = x.key := by
            rw [Array.getElem?_toList] at q2
            rw [q2]; rfl
          rw [he]
          unfold Instr.mapUpdate
          simp only [Sem.run_bind, run_und hd, Result.andThen_ok, hm, run_getMap hw, keyD_checks hkd hkk, run_findKey hkd q4, hkey, Instr.keyThatStays, q6, if_true, run_setMap _ hw, Sem.run_pure]
    · cases g2
  · cases g2

theorem ok_delete (T : TabOk E) (ht : TR E φ ts a.tmps) (ho : o.op = .call cl) (hb : cl.callee = .builtin .delete) (g : cDelete cl.args.toList cl.argTypes.toList E ts K = .ok e ts' h c) : Good E φ o a K e ts' h c := by
  obtain ⟨cs, he⟩ := ex_builtin (a := a) ho hb
  have hnd : ∀ c, o.op ≠ .defer c := fun c h => by rw [ho] at h; cases h
  unfold cDelete at g
  obtain ⟨t, hty, g⟩ := argTy_ok g
  obtain ⟨m, hax, hm, g⟩ := arg_ok ht g
  obtain ⟨k, hay, hk, g⟩ := arg_ok ht g
  obtain ⟨D, hd, g⟩ := und_ok T g
  obtain ⟨kt, el, kd, rfl, hkd, hkk, g⟩ := mapElem_ok T g
  have hr : execOp a.eval o = (do pure (Next.value (← Builtin.delete_ cl.argTypes o.type (cl.args.map a.eval)))) := he
  unfold delM at g
  split at g
  · rename_i b hme
    rw [hme] at hm
    obtain ⟨B, N, hB, hm⟩ := hm
    refine ⟨_, g, fun self _ h c K' e ts' h' c' g2 => ?_⟩
    replace g2 : delB b (evalO k ts) h (fun h => K' (.tup []) h c) = .ok e ts' h' c' := g2
    unfold delB at g2
    split at g2
    · rename_i es clock hb
      have hbn : h.t.get b ≠ none := by rw [hb]; simp
      split at g2
      · rename_i r hrr
        rw [put_eq] at g2
        refine ⟨_, _, _, g2, CxRun.of_runs hnd fun φ' w hle hh _ => ?_⟩
        obtain ⟨B', N', ents, hB', hw, hents⟩ := hh.obj b _ hb
        rw [hle _ _ hB] at hB'; cases hB'
        have hff := find_ok hkk (VR.mono hle _ _ hk) es ents.toList r 0 hents hrr
        have main : ∀ (ents' : Array MapEntry), EntsR E φ' (aDel (evalO k ts) es) ents'.toList → (Builtin.delete_ cl.argTypes o.type (cl.args.map a.eval)).run E.P w = .ok (.tuple #[]) { w with heap := w.heap.setIfInBounds B (.map ents' clock) } →
            ∃ φ'' w' u, Sim E φ' h c w φ'' (h.putD b (some (.map (aDel (evalO k ts) es) clock))) c w' ∧ VR E φ'' (.tup []) u ∧ Runs E.P o a w u w' := fun ents' h1 h2 =>
          ⟨φ', _, .tuple #[], Sim.put hh hbn (hle _ _ hB) (turned_set w B (.map ents' clock)) ⟨B, N, _, hle _ _ hB, set_same _ hw, h1⟩, ⟨#[], rfl, VRL_nil⟩, .inl (by
            rw [hr]; simp only [Sem.run_bind, h2, Result.andThen_ok, Sem.run_pure])⟩
        cases r with
        | none =>
          obtain ⟨hf, hdel⟩ := hff
          refine main ents (by rw [hdel]; exact hents) ?_
          unfold Builtin.delete_
          simp only [hty, hax, hay, Sem.run_bind, run_und hd, Result.andThen_ok, hm, run_getMap hw, keyD_checks hkd hkk, run_findKey hkd hf, run_setMap _ hw, Sem.run_pure]
        | some v =>
          obtain ⟨i, en, x, q1, q2, q3, q4, q5, q6, q7, q8, q9⟩ := hff
          rw [Nat.zero_add] at q4
          refine main (ents.eraseIdxIfInBounds i) ?_ ?_
          · rw [q9]
            have hi : i < ents.size := by have := (List.getElem?_eq_some_iff.1 q2).1; simpa using this
            have : (ents.eraseIdxIfInBounds i).toList = ents.toList.eraseIdx i := by
              unfold Array.eraseIdxIfInBounds
              rw [dif_pos hi, Array.toList_eraseIdx]
            rw [this]
            exact EntsR.erase _ _ _ hents
          · unfold Builtin.delete_
            simp only [hty, hax, hay, Sem.run_bind, run_und hd, Result.andThen_ok, hm, run_getMap hw, keyD_checks hkd hkk, run_findKey hkd q4, run_setMap _ hw, Sem.run_pure]
      · cases g2
    · cases g2
  · rename_i hme
    rw [hme] at hm; simp only [VR] at hm
    refine good_val (u := .tuple #[]) g ⟨#[], rfl, VRL_nil⟩ hr (fun w => ?_)
    unfold Builtin.delete_
    simp only [hty, hax, hay, Sem.run_bind, run_und hd, Result.andThen_ok, hm, keyD_checks hkd hkk, Sem.run_pure]
  · cases g
end
end Go.AE
namespace Go.AE
section
variable {E : Env} {φ : Loc} {o : Oper} {a : Act} {ts : Tm} {K : Kc} {e : Ex} {ts' : Tm} {h h₀ : Hs} {c : Nat}

theorem rangeM_ok {v : AV} (g : rangeM v K = .ok e ts' h c) : ∃ b, v = .map b ∧ K (.cx fun _ h c K => rangeB b h c K) = .ok e ts' h c := by
  cases v <;> first | exact ⟨_, rfl, g⟩ | cases g
theorem rangeS_ok {v : AV} (g : rangeS v K = .ok e ts' h c) : ∃ s, v = .str s ∧ K (.new (.siter s 0) fun b => .ptr b 0) = .ok e ts' h c := by
  cases v <;> first | exact ⟨_, rfl, g⟩ | cases g

theorem ok_range (T : TabOk E) (ht : TR E φ ts a.tmps) {t : TypeId} {x : Operand} (ho : o.op = .range t x) (g : cRange t x E ts K = .ok e ts' h c) : Good E φ o a K e ts' h c := by
  have he : execOp a.eval o = (do pure (Next.value (← Instr.range t (a.eval x)))) := by unfold execOp; rw [ho]
  have hnd : ∀ c, o.op ≠ .defer c := fun c h => by rw [ho] at h; cases h
  have hx := eval_VR ht x
  unfold cRange at g
  obtain ⟨D, hd, g⟩ := und_ok T g
  have key : (rangeM (evalO x ts) K = .ok e ts' h c ∧ ∃ k v, D = .map k v) ∨ (rangeS (evalO x ts) K = .ok e ts' h c ∧ D = .string) := by
    cases D <;> first | exact .inl ⟨g, _, _, rfl⟩ | exact .inr ⟨g, rfl⟩ | cases g
  rcases key with ⟨g, k, v, rfl⟩ | ⟨g, rfl⟩
  · obtain ⟨b, hxe, g⟩ := rangeM_ok g
    rw [hxe] at hx
    obtain ⟨B, N, hB, hx⟩ := hx
    refine ⟨_, g, fun self _ h c K' e ts' h' c' g2 => ?_⟩
    replace g2 : rangeB b h c K' = .ok e ts' h' c' := g2
    unfold rangeB at g2
    split at g2
    · rename_i es clock hb
      rw [new_eq] at g2
      refine ⟨_, _, _, g2, CxRun.of_runs hnd fun φ' w hle hh hf => ?_⟩
      obtain ⟨B', N', ents, hB', hw, hents⟩ := hh.obj b _ hb
      rw [hle _ _ hB] at hB'; cases hB'
      have hfc := hf c (Nat.le_refl _) (by omega)
      have hle2 := Loc.le_add φ' (w.heap.size, 0) hfc
      refine ⟨_, _, .pointer (some ⟨w.heap.size, 0, none⟩), Sim.made (N := 0) hh hfc (grown_push w (.mapIter (some B) clock #[] clock) w.drawn) ?_, ⟨_, _, Loc.add_same .., rfl⟩, .inl ?_⟩
      · exact ⟨w.heap.size, 0, B, N, #[], Loc.add_same .., hle2 _ _ (hle _ _ hB), push_last w _ _, fun x => by simp, fun s h => by cases h⟩
      · rw [he]
        unfold Instr.range
        simp only [Sem.run_bind, run_und hd, Result.andThen_ok, hx, run_getMap hw, Sem.run_pure, run_newObj]
    · cases g2
  · obtain ⟨s, hxe, g⟩ := rangeS_ok g
    exact ⟨_, g, ok_range_str T ht ho hxe hd⟩

theorem memN_false {b : Nat} {l : List Nat} (h : memN b l = false) : b ∉ l := fun hm => by
  rw [(memN_iff b l).2 hm] at h; cases h

theorem bornLt_ok {n : Nat} : ∀ {l : List Ent}, bornLt n l = true → ∀ en ∈ l, en.born < n
  | [], _, en, h => by cases h
  | p :: l, hb, en, h => by
    have hb' : Bool.rec (motive := fun _ => Bool) false (bornLt n l) (Nat.blt p.born n) = true := hb
    cases hp : Nat.blt p.born n with
    | false => rw [hp] at hb'; cases hb'
    | true =>
      rw [hp] at hb'
      rcases List.mem_cons.1 h with rfl | h
      · exact Nat.blt_eq.mp hp
      · exact bornLt_ok hb' en h
/-- the entries that are left -/
theorem unseen_ok {φ : Loc} {seen : List Nat} {sn : Array Nat} (hs : ∀ x, x ∈ sn.toList ↔ x ∈ seen) : ∀ (es : List Ent) (m : List MapEntry), EntsR E φ es m → EntsR E φ (unseen seen es) (m.filter fun e => !sn.contains e.born)
  | [], m, hm => by simp only [EntsR] at hm; subst hm; rfl
  | p :: es, m, hm => by
    simp only [EntsR] at hm
    obtain ⟨x, m, rfl, hx, hm⟩ := hm
    have ih := unseen_ok hs es m hm
    have hu : unseen seen (p :: es) = Bool.rec (motive := fun _ => List Ent) (p :: unseen seen es) (unseen seen es) (memN p.born seen) := rfl
    have hc : sn.contains x.born = memN p.born seen := by
      rw [Bool.eq_iff_iff, memN_iff, hx.2.2, ← hs]
      simp
    rw [hu, List.filter_cons, hc]
    cases memN p.born seen with
    | true => exact ih
    | false => exact ⟨x, _, rfl, hx, ih⟩

theorem leftOf_ok {mb since : Nat} {seen : List Nat} {stepped : Nat} {K : List Ent → Nat → Out} (g : leftOf mb since seen stepped h K = .ok e ts' h₀ c) :
    ∃ es clock, h.t.get mb = some (.map es clock) ∧ (∀ en ∈ es, en.born < since) ∧ (∀ en ∈ es, en.born < stepped) ∧ K (unseen seen es) clock = .ok e ts' h₀ c := by
  unfold leftOf at g
  split at g
  · rename_i es clock hb
    obtain ⟨h1, g⟩ := guardB_ok g
    obtain ⟨h2, g⟩ := guardB_ok g
    exact ⟨es, clock, hb, bornLt_ok h1, bornLt_ok h2, g⟩
  · cases g

theorem EntsR.mem {φ : Loc} : ∀ (l : List Ent) (m : List MapEntry), EntsR E φ l m → ∀ x ∈ m, ∃ en ∈ l, EntR E φ en x
  | [], m, h, x, hx => by simp only [EntsR] at h; subst h; cases hx
  | p :: l, m, h, x, hx => by
    simp only [EntsR] at h; obtain ⟨y, r, rfl, hy, h⟩ := h
    rcases List.mem_cons.1 hx with rfl | hx
    · exact ⟨p, List.mem_cons_self .., hy⟩
    · obtain ⟨en, h1, h2⟩ := EntsR.mem l r h x hx; exact ⟨en, List.mem_cons_of_mem _ h1, h2⟩

/-- a step of a range over a map, where nothing was laid in since: one of those that are left, whichever the tape says -/
theorem run_next_map {P : Program} {w : World} {B M since stepped : Nat} {sn : Array Nat} {ents : Array MapEntry} {clock : Nat} {ty : TypeId} (hw : w.heap[B]? = some (.mapIter (some M) since sn stepped)) (hm : w.heap[M]? = some (.map ents clock))
    (h1 : ∀ x ∈ ents.toList, x.born < since) (h2 : ∀ x ∈ ents.toList, x.born < stepped) :
    (ents.toList.filter (fun e => !sn.contains e.born) = [] ∧ (Instr.next (.pointer (some ⟨B, 0, none⟩)) false ty).run P w = .ok (.tuple #[.bool false]) w) ∨
    ∃ x n, x ∈ ents.toList.filter (fun e => !sn.contains e.born) ∧
      (Instr.next (.pointer (some ⟨B, 0, none⟩)) false ty).run P w = .ok (.tuple #[.bool true, x.key, x.val]) { w with heap := w.heap.setIfInBounds B (.mapIter (some M) since (sn.push x.born) clock), drawn := n } := by
  have hg : (getObj B).run P w = .ok (.mapIter (some M) since sn stepped) w := by simp [getObj, Sem.run, hw]
  have hgm : (getObj M).run P w = .ok (.map ents clock) w := by simp [getObj, Sem.run, hm]
  have hall : ¬ ((!sn.isEmpty && !ents.isEmpty && ents.all (·.born ≥ stepped)) = true) := by
    intro h
    simp only [Bool.and_eq_true] at h
    obtain ⟨⟨_, hne⟩, hall⟩ := h
    rw [← Array.all_toList, List.all_eq_true] at hall
    cases hl : ents.toList with
    | nil =>
      have : ents.isEmpty = true := by simp [Array.isEmpty, ← Array.length_toList, hl]
      rw [this] at hne; cases hne
    | cons x l =>
      have hx : x ∈ ents.toList := by rw [hl]; exact List.mem_cons_self ..
      have a1 := hall x hx
      have a2 := h2 x hx
      simp at a1; omega
  have hold : (ents.filter fun e => !sn.contains e.born).filter (·.born < since) = ents.filter fun e => !sn.contains e.born := by
    apply Array.ext'
    rw [Array.toList_filter, List.filter_eq_self]
    intro x hx
    rw [Array.toList_filter] at hx
    simpa using h1 x (List.mem_filter.1 hx |>.1)
  have hnew : (ents.filter fun e => !sn.contains e.born).filter (·.born ≥ since) = #[] := by
    apply Array.ext'
    rw [Array.toList_filter, List.filter_eq_nil_iff]
    intro x hx
    rw [Array.toList_filter] at hx
    have := h1 x (List.mem_filter.1 hx |>.1)
    simp; omega
  have hlt : (ents.filter fun e => !sn.contains e.born).toList = ents.toList.filter fun e => !sn.contains e.born := Array.toList_filter ..
  generalize hL : (ents.filter fun e => !sn.contains e.born) = L at *
  have hset : ∀ (n : Nat) (x : Obj), (setObj B x).run P { w with drawn := n } = .ok () { w with heap := w.heap.setIfInBounds B x, drawn := n } := fun n x => by simp [setObj, Sem.run, hw]
  rw [← hlt]
  by_cases hemp : L.toList = []
  · left
    refine ⟨hemp, ?_⟩
    have hL0 : L = #[] := Array.ext' hemp
    unfold Instr.next
    simp only [hall, Sem.run_bind, hg, hgm, Result.andThen_ok, hL, hL0]
    simp [Question.forced]
  · right
    have hne : L.isEmpty = false := by
      cases h : L.isEmpty with
      | false => rfl
      | true => exact absurd (by simpa [Array.isEmpty_iff] using h) hemp
    have hc : ∃ k n, ((choose (.mapNext (((if L.isEmpty then #[none] else #[]) ++ (L ++ (#[] : Array MapEntry)).map some : Array (Option MapEntry))).size)).run P w) = .ok k { w with drawn := n } ∧ k < L.size := by
      rw [hne]
      have hpos : 0 < L.size := by rw [← Array.length_toList]; exact List.length_pos_iff.2 hemp
      have hsz : ((if false = true then #[none] else #[]) ++ (L ++ (#[] : Array MapEntry)).map some : Array (Option MapEntry)).size = L.size := by simp
      rw [hsz, run_choose]
      split
      · exact ⟨0, w.drawn, rfl, hpos⟩
      · exact ⟨_, w.drawn + 1, rfl, Nat.mod_lt _ hpos⟩
    obtain ⟨k, n, hc, hk⟩ := hc
    have hx : L[k]? = some L[k] := Array.getElem?_eq_getElem hk
    refine ⟨L[k], n, by rw [← Array.getElem?_toList] at hx; exact List.mem_of_getElem? hx, ?_⟩
    have hcand : (((if L.isEmpty then #[none] else #[]) ++ (L ++ (#[] : Array MapEntry)).map some : Array (Option MapEntry)))[k]? = some (some L[k]) := by
      rw [hne]; simp [hx]
    unfold Instr.next
    simp only [hall, Sem.run_bind, hg, hgm, Result.andThen_ok, hL, hold, hnew, Bool.false_eq_true, if_false]
    rw [hc]
    simp only [Result.andThen_ok, hcand, Sem.run_bind, hset, Sem.run_pure]
end
end Go.AE
namespace Go.AE
section
variable {E : Env} {φ : Loc} {o : Oper} {a : Act} {ts : Tm} {K : Kc} {e : Ex} {ts' : Tm} {h h₀ : Hs} {c c₀ : Nat}

theorem turned_setN (w : World) (B : Nat) (x : Obj) (n : Nat) : Turned w { w with heap := w.heap.setIfInBounds B x, drawn := n } B :=
  ⟨by simp, fun B' hB => by simp [hB.symm], rfl, rfl, rfl⟩
theorem set_sameN {w : World} {B : Nat} {y : Obj} (x : Obj) (n : Nat) (h : w.heap[B]? = some y) : ({ w with heap := w.heap.setIfInBounds B x, drawn := n } : World).heap[B]? = some x := by
  have := (Array.getElem?_eq_some_iff.1 h).1
  simp [this]

theorem nextM_ok {b mb since : Nat} {seen : List Nat} {K : Kv} {l : List Ent} {clock : Nat} (g : nextM b mb since seen h c K l clock = .ok e ts' h₀ c₀) :
    (l = [] ∧ K (.tup [.bool false]) h c = .ok e ts' h₀ c₀) ∨ ∃ en, l = [en] ∧ K (.tup [.bool true, en.k, en.v]) (h.putD b (some (.miter mb since (en.born :: seen) clock (some en.born)))) c = .ok e ts' h₀ c₀ := by
  cases l with
  | nil => exact .inl ⟨rfl, g⟩
  | cons en l =>
    cases l with
    | nil =>
      right
      have g : h.put b (some (.miter mb since (en.born :: seen) clock (some en.born))) (fun h => K (.tup [.bool true, en.k, en.v]) h c) = .ok e ts' h₀ c₀ := g
      rw [put_eq] at g
      exact ⟨en, rfl, g⟩
    | cons _ _ => cases g

theorem ok_next (_T : TabOk E) (ht : TR E φ ts a.tmps) {x : Operand} {isS : Bool} (ho : o.op = .next x isS) (g : cNext x isS E ts K = .ok e ts' h c) : Good E φ o a K e ts' h c := by
  have he : execOp a.eval o = (do pure (Next.value (← Instr.next (a.eval x) isS o.type))) := by unfold execOp; rw [ho]
  have hnd : ∀ c, o.op ≠ .defer c := fun c h => by rw [ho] at h; cases h
  have hx := eval_VR ht x
  unfold cNext at g
  obtain ⟨b, off, hxe, g⟩ := ptrOf_ok g
  rw [hxe] at hx
  obtain ⟨B, N, hB, hx⟩ := hx
  obtain ⟨hz, g⟩ := guardB_ok g
  have hz := isZ_ok hz
  subst hz
  refine ⟨_, g, fun self _ h c K' e ts' h' c' g2 => ?_⟩
  replace g2 : nextV b isS h c K' = .ok e ts' h' c' := g2
  unfold nextV at g2
  split at g2
  · rename_i mb since seen stepped cur hb
    have hbn : h.t.get b ≠ none := by rw [hb]; simp
    cases isS with
    | true => cases g2
    | false =>
      have g2 : leftOf mb since seen stepped h (nextM b mb since seen h c K') = .ok e ts' h' c' := g2
      obtain ⟨es, clock, hmb, b1, b2, g2⟩ := leftOf_ok g2
      -- what the world's step does
      have step : ∀ (φ' : Loc) (w : World), φ.le φ' → HR E φ' h.t w → ∃ (M Km : Nat) (sn : Array Nat) (ents : Array MapEntry), φ' b = some (B, N) ∧ φ' mb = some (M, Km) ∧ w.heap[B]? = some (.mapIter (some M) since sn stepped) ∧
          (∀ x, x ∈ sn.toList ↔ x ∈ seen) ∧ EntsR E φ' (unseen seen es) (ents.toList.filter fun e => !sn.contains e.born) ∧
          ((ents.toList.filter (fun e => !sn.contains e.born) = [] ∧ (Instr.next (.pointer (some ⟨B, 0, none⟩)) false o.type).run E.P w = .ok (.tuple #[.bool false]) w) ∨
            ∃ x n, x ∈ ents.toList.filter (fun e => !sn.contains e.born) ∧
              (Instr.next (.pointer (some ⟨B, 0, none⟩)) false o.type).run E.P w = .ok (.tuple #[.bool true, x.key, x.val]) { w with heap := w.heap.setIfInBounds B (.mapIter (some M) since (sn.push x.born) clock), drawn := n }) := by
        intro φ' w hle hh
        obtain ⟨B', N', M, Km, sn, hB', hM, hw, hsn, _⟩ := hh.obj b _ hb
        rw [hle _ _ hB] at hB'; cases hB'
        obtain ⟨M', Km', ents, hM', hwm, hents⟩ := hh.obj mb _ hmb
        rw [hM] at hM'; cases hM'
        refine ⟨M, Km, sn, ents, hle _ _ hB, hM, hw, hsn, unseen_ok hsn es _ hents, ?_⟩
        refine run_next_map hw hwm (fun x hx => ?_) (fun x hx => ?_)
        · obtain ⟨en, hen, hr⟩ := EntsR.mem es _ hents x hx
          rw [hr.2.2]; exact b1 en hen
        · obtain ⟨en, hen, hr⟩ := EntsR.mem es _ hents x hx
          rw [hr.2.2]; exact b2 en hen
      rcases nextM_ok g2 with ⟨hl, g2⟩ | ⟨en, hl, g2⟩
      · refine ⟨_, _, _, g2, CxRun.of_runs hnd fun φ' w hle hh _ => ?_⟩
        obtain ⟨M, Km, sn, ents, hB', hM, hw, hsn, hun, hst⟩ := step φ' w hle hh
        rw [hl] at hun
        have hnil : ents.toList.filter (fun e => !sn.contains e.born) = [] := hun
        rcases hst with ⟨_, hrun⟩ | ⟨x, n, hxm, _⟩
        · exact ⟨φ', w, _, Sim.refl hh, ⟨#[.bool false], rfl, VRL_cons rfl VRL_nil⟩, .inl (by rw [he, hx]; simp only [Sem.run_bind, hrun, Result.andThen_ok, Sem.run_pure])⟩
        · rw [hnil] at hxm; cases hxm
      · refine ⟨_, _, _, g2, CxRun.of_runs hnd fun φ' w hle hh _ => ?_⟩
        obtain ⟨M, Km, sn, ents, hB', hM, hw, hsn, hun, hst⟩ := step φ' w hle hh
        rw [hl] at hun
        obtain ⟨y, r, hfl, hy, hr⟩ := hun
        have hr : r = [] := hr
        subst hr
        rcases hst with ⟨hnil, _⟩ | ⟨x, n, hxm, hrun⟩
        · rw [hnil] at hfl; cases hfl
        · rw [hfl] at hxm
          have : x = y := by simpa using hxm
          subst this
          refine ⟨φ', _, _, Sim.put hh hbn hB' (turned_setN w B (.mapIter (some M) since (sn.push x.born) clock) n) ⟨B, N, M, Km, _, hB', hM, set_sameN _ n hw, fun z => ?_, fun s hs => ?_⟩,
            ⟨#[.bool true, x.key, x.val], rfl, VRL_cons rfl (VRL_cons hy.1 (VRL_cons hy.2.1 VRL_nil))⟩, .inl (by rw [he, hx]; simp only [Sem.run_bind, hrun, Result.andThen_ok, Sem.run_pure])⟩
          · rw [Array.toList_push, List.mem_append, List.mem_singleton, List.mem_cons, hsn, hy.2.2]
            exact Or.comm
          · cases hs; simp [hy.2.2]
  · rename_i s p hb
    have hbn : h.t.get b ≠ none := by rw [hb]; simp
    cases isS with
    | false => cases g2
    | true =>
      have g2 : nextS b p h c K' s = .ok e ts' h' c' := g2
      cases s with
      | nil =>
        have g2 : K' (.tup [.bool false]) h c = .ok e ts' h' c' := g2
        refine ⟨_, _, _, g2, CxRun.of_runs hnd fun φ' w hle hh _ => ?_⟩
        obtain ⟨B', N', whole, hB', hw, hdrop, hpos⟩ := hh.obj b _ hb
        rw [hle _ _ hB] at hB'; cases hB'
        refine ⟨φ', w, _, Sim.refl hh, ⟨#[.bool false], rfl, VRL_cons rfl VRL_nil⟩, .inl ?_⟩
        have hge : ¬ p < whole.size := by
          have := List.drop_eq_nil_iff.1 hdrop
          simp at this
          have h2 : whole.size = whole.data.size := rfl
          omega
        have hg : (getObj B).run E.P w = .ok (.stringIter whole p) w := by simp [getObj, Sem.run, hw]
        rw [he, hx]
        unfold Instr.next
        simp only [Sem.run_bind, hg, Result.andThen_ok, hge, if_false, Sem.run_pure]
      | cons y s =>
        have g2 : guardB (Nat.blt y.toNat 128) 127 (h.put b (some (.siter s (Nat.succ p))) fun h => K' (.tup [.bool true, .int .i64 (.ofNat p), .int .i32 (.ofNat y.toNat)]) h c) = .ok e ts' h' c' := g2
        obtain ⟨hy, g2⟩ := guardB_ok g2
        have hy := Nat.blt_eq.mp hy
        rw [put_eq] at g2
        refine ⟨_, _, _, g2, CxRun.of_runs hnd fun φ' w hle hh _ => ?_⟩
        obtain ⟨B', N', whole, hB', hw, hdrop, hpos⟩ := hh.obj b _ hb
        rw [hle _ _ hB] at hB'; cases hB'
        have hsz : whole.size = whole.data.toList.length := by rw [Array.length_toList]; rfl
        have hlt : p < whole.size := by
          rw [hsz]
          apply Nat.lt_of_not_le
          intro hh2
          rw [List.drop_eq_nil_of_le hh2] at hdrop; cases hdrop
        have hget : whole[p]'hlt = y ∧ whole.data.toList.drop (p + 1) = s := by
          rw [List.drop_eq_getElem_cons (by omega)] at hdrop
          obtain ⟨e1, e2⟩ := List.cons.inj hdrop
          exact ⟨e1, e2⟩
        have hg : (getObj B).run E.P w = .ok (.stringIter whole p) w := by simp [getObj, Sem.run, hw]
        have hs : (setObj B (.stringIter whole (p + 1))).run E.P w = .ok () { w with heap := w.heap.setIfInBounds B (.stringIter whole (p + 1)) } := by simp [setObj, Sem.run, hw]
        have hdec := decode_ascii whole p hlt (by rw [hget.1]; exact hy)
        rw [hget.1] at hdec
        refine ⟨φ', _, .tuple #[.bool true, .int .i64 p, .int .i32 y.toNat], Sim.put hh hbn (hle _ _ hB) (turned_setN w B (.stringIter whole (p + 1)) w.drawn) ⟨B, N, whole, hle _ _ hB, set_sameN _ _ hw, hget.2, hlt⟩,
          ⟨_, rfl, VRL_cons rfl (VRL_cons rfl (VRL_cons rfl VRL_nil))⟩, .inl ?_⟩
        rw [he, hx]
        unfold Instr.next
        simp only [Sem.run_bind, hg, Result.andThen_ok, hlt, if_true, hdec, hs, Sem.run_pure]
        rfl
  · cases g2

theorem findBorn_ok {φ : Loc} {s : Nat} : ∀ (es : List Ent) (m : List MapEntry) (en : Ent), EntsR E φ es m → findBorn s es = some en → ∃ x, m.find? (·.born == s) = some x ∧ EntR E φ en x
  | [], m, en, hm, hf => by cases hf
  | p :: es, m, en, hm, hf => by
    simp only [EntsR] at hm
    obtain ⟨x, r, rfl, hx, hm⟩ := hm
    have hf' : Bool.rec (motive := fun _ => Option Ent) (findBorn s es) (some p) (Nat.beq p.born s) = some en := hf
    cases hb : Nat.beq p.born s with
    | true =>
      rw [hb] at hf'; cases hf'
      have hb := Nat.eq_of_beq_eq_true hb
      exact ⟨x, by rw [List.find?_cons_of_pos (by rw [hx.2.2, hb]; simp)], hx⟩
    | false =>
      rw [hb] at hf'
      have hne : ¬ p.born = s := fun h2 => by subst h2; rw [Nat.beq_refl] at hb; cases hb
      obtain ⟨y, h1, h2⟩ := findBorn_ok es r en hm hf'
      exact ⟨y, by rw [List.find?_cons_of_neg (by rw [hx.2.2]; simpa using hne)]; exact h1, h2⟩

theorem ok_entry (_T : TabOk E) (ht : TR E φ ts a.tmps) {x : Operand} (ho : o.op = .entry x) (g : cEntry x E ts K = .ok e ts' h c) : Good E φ o a K e ts' h c := by
  have he : execOp a.eval o = (do pure (Next.value (← Instr.entry (a.eval x)))) := by unfold execOp; rw [ho]
  have hnd : ∀ c, o.op ≠ .defer c := fun c h => by rw [ho] at h; cases h
  have hx := eval_VR ht x
  unfold cEntry at g
  obtain ⟨b, off, hxe, g⟩ := ptrOf_ok g
  rw [hxe] at hx
  obtain ⟨B, N, hB, hx⟩ := hx
  obtain ⟨hz, g⟩ := guardB_ok g
  have hz := isZ_ok hz
  subst hz
  refine ⟨_, g, fun self _ h c K' e ts' h' c' g2 => ?_⟩
  replace g2 : entV b h c K' = .ok e ts' h' c' := g2
  have main : ∀ (mb stepped s : Nat), entM mb stepped s h c K' = .ok e ts' h' c' → (∀ (φ' : Loc) (w : World), φ.le φ' → HR E φ' h.t w → ∃ M Km since sn, φ' mb = some (M, Km) ∧ w.heap[B]? = some (.mapIter (some M) since sn stepped) ∧ sn.back? = some s) →
      ∃ v h₁ c₁, K' v h₁ c₁ = .ok e ts' h' c' ∧ CxRun E φ o a h c v h₁ c₁ := by
    intro mb stepped s g2 hit
    unfold entM at g2
    split at g2
    · rename_i es clock hmb
      obtain ⟨hcl, g2⟩ := guardB_ok g2
      have hcl : clock = stepped := Nat.eq_of_beq_eq_true hcl
      unfold entE at g2
      split at g2
      · rename_i en hfb
        refine ⟨_, _, _, g2, CxRun.of_runs hnd fun φ' w hle hh _ => ?_⟩
        obtain ⟨M, Km, since, sn, hM, hw, hback⟩ := hit φ' w hle hh
        obtain ⟨M', Km', ents, hM', hwm, hents⟩ := hh.obj mb _ hmb
        rw [hM] at hM'; cases hM'
        obtain ⟨y, hf, hy⟩ := findBorn_ok es _ _ hents hfb
        refine ⟨φ', w, _, Sim.refl hh, ⟨#[y.key, y.val], rfl, VRL_cons hy.1 (VRL_cons hy.2.1 VRL_nil)⟩, .inl ?_⟩
        have hg : (getObj B).run E.P w = .ok (.mapIter (some M) since sn stepped) w := by simp [getObj, Sem.run, hw]
        have hf' : ents.find? (·.born == s) = some y := by rw [← Array.find?_toList]; exact hf
        have hne : ¬ (clock != stepped) = true := by simp [hcl]
        rw [he, hx]
        unfold Instr.entry
        simp only [Sem.run_bind, hg, Result.andThen_ok, hback, run_getMap hwm, hne, if_false, hf', Sem.run_pure, Bool.false_eq_true]
      · cases g2
    · cases g2
  unfold entV at g2
  split at g2
  · rename_i mb since seen stepped cur hb
    split at g2
    · rename_i s
      refine main mb stepped s g2 fun φ' w hle hh => ?_
      obtain ⟨B', N', M, Km, sn, hB', hM, hw, hsn, hcur⟩ := hh.obj b _ hb
      rw [hle _ _ hB] at hB'; cases hB'
      exact ⟨M, Km, _, sn, hM, hw, hcur s rfl⟩
    · cases g2
  · rename_i mb stepped s hb
    refine main mb stepped s g2 fun φ' w hle hh => ?_
    obtain ⟨B', N', M, Km, since, sn, hB', hM, hw, hback⟩ := hh.obj b _ hb
    rw [hle _ _ hB] at hB'; cases hB'
    exact ⟨M, Km, _, sn, hM, hw, hback⟩
  · cases g2
end
end Go.AE
namespace Go.AE
open Go.Conc
section
variable {E : Env} {φ : Loc} {o : Oper} {a : Act} {ts : Tm} {K : Kc} {e : Ex} {ts' : Tm} {h h₀ : Hs} {c c₀ : Nat}

theorem fat_comm {P : Program} {b : Frame} {k : List Item} {cs : List Frame} {w w' : World} {ops : Array Oper} {i : Nat} {rest : List Nat} {cc : Array CommCase} (ho : ops[i]? = some o) (hw : Region.wanted o (yielded ops a.tmps) = true)
    (hd : ∀ c, o.op ≠ .defer c) (hr : (execOp a.eval o).run P w = .ok (.comm cc false .select) w') :
    ∃ es, stepG P true (G (fat b a (.inRegion ops (i :: rest) :: k)) cs) w = .comm (G (fat b a (.inRegion ops (i :: rest) :: k)) cs) cc false .select w' es := by
  have := fat_op (P := P) (b := b) (a := a) (k := k) (cs := cs) (w := w) (rest := rest) ho hw hd
  unfold G
  rw [this]
  exact ⟨_, by simp [stepG.apply, hr]; rfl⟩
theorem lone_solo (fr : Frame) (cs : List Frame) (w : World) : lone fr cs w = solo (G fr cs) w := rfl
theorem turned_chan (w : World) (B cap s r : Nat) (vs : Array Value) (cl tm : Bool) : Turned w (w.setChan B cap vs cl s r tm) B :=
  ⟨by simp [World.setChan], fun B' hB => by simp [World.setChan, hB.symm], rfl, rfl, rfl⟩
theorem chan_same {w : World} {B : Nat} {y : Obj} (cap s r : Nat) (vs : Array Value) (cl tm : Bool) (h : w.heap[B]? = some y) : (w.setChan B cap vs cl s r tm).heap[B]? = some (.chan cap vs cl s r tm) := by
  have := (Array.getElem?_eq_some_iff.1 h).1
  simp [World.setChan, this]

theorem neg1_VR (E : Env) (φ : Loc) : VR E φ (.int .i64 (.negSucc (nat_lit 0))) (goInt (-1)) := by
  simp only [VR]; rfl
theorem put_finish {b : Frame} {k : List Item} {ops : Array Oper} {i : Nat} {rest : List Nat} (ho : ops[i]? = some o) (v : Value) :
    (fat b a (.inRegion ops (i :: rest) :: k)).finish v = fat b (a.put o.dst v) (.inRegion ops rest :: k) := by
  rw [fat_finish, ho]; rfl

theorem ok_select (T : TabOk E) (ht : TR E φ ts a.tmps) {cases : Array SelectCase} {bl : Bool} (ho : o.op = .select cases bl) (g : cSelect cases bl E ts K = .ok e ts' h c) : Good E φ o a K e ts' h c := by
  have hnd : ∀ c, o.op ≠ .defer c := fun c h => by rw [ho] at h; cases h
  unfold cSelect at g
  cases bl with
  | true => cases g
  | false =>
    obtain ⟨l⟩ := cases
    have g : (match l with | [s] => selOne s E ts K | _ => .bad 193) = .ok e ts' h c := g
    cases l with
    | nil => cases g
    | cons s l =>
      cases l with
      | cons _ _ => cases g
      | nil =>
        have g : selOne s E ts K = .ok e ts' h c := g
        unfold selOne at g
        obtain ⟨i, z, hi, hz, g⟩ := zero_ok T g
        have hx := eval_VR ht s.chan
        have hch : ∃ b, evalO s.chan ts = .chan b ∧ (match s.send with | none => K (.cx fun _ h c K => selRecv (ofValue z) b h c K) | some x => K (.cx fun _ h c K => selSend (evalO x ts) b h c K)) = .ok e ts' h c := by
          cases hc : evalO s.chan ts <;> rw [hc] at g <;> first | exact ⟨_, rfl, g⟩ | cases g
        obtain ⟨b, hce, g⟩ := hch
        rw [hce] at hx
        obtain ⟨B, N, hB, hx⟩ := hx
        have he : ∀ w, (execOp a.eval o).run E.P w = .ok (.comm #[{ chan := .chan (some B), send := s.send.map a.eval, zero := z }] false .select) w := fun w => by
          unfold execOp; rw [ho]
          simp [hx, run_zero hi hz]
        cases hsend : s.send with
        | none =>
          rw [hsend] at g he
          have g : K (.cx fun _ h c K => selRecv (ofValue z) b h c K) = .ok e ts' h c := g
          refine ⟨_, g, fun self _ h c K' e ts' h' c' g2 => ?_⟩
          replace g2 : selRecv (ofValue z) b h c K' = .ok e ts' h' c' := g2
          unfold selRecv at g2
          split at g2
          · rename_i cap buf hb
            have hbn : h.t.get b ≠ none := by rw [hb]; simp
            cases buf with
            | nil =>
              have g2 : K' (.tup [.int .i64 (.negSucc 0), .bool false, ofValue z]) h c = .ok e ts' h' c' := g2
              refine ⟨_, _, _, g2, fun φ' w bf k cs ops j rest hle hop hwant hh _ => ?_⟩
              obtain ⟨B', N', vs, s', r', hB', hw, hvs⟩ := hh.obj b _ hb
              rw [hle _ _ hB] at hB'; cases hB'
              have hvs0 : vs = #[] := by simp only [VRL] at hvs; exact Array.ext' hvs
              subst hvs0
              obtain ⟨es, hs⟩ := fat_comm (P := E.P) (b := bf) (k := k) (cs := cs) (rest := rest) hop hwant hnd (he w)
              have := step_lone_select_default (z := z) hs hw
              rw [put_finish hop] at this
              exact ⟨φ', w, _, Sim.refl hh, ⟨#[goInt (-1), .bool false, z], rfl, VRL_cons (neg1_VR ..) (VRL_cons rfl (VRL_cons (ofValue_VR E φ' z) VRL_nil))⟩, .one this⟩
            | cons v buf =>
              have g2 : h.put b (some (.chan cap buf)) (fun h => K' (.tup [.int .i64 (.ofNat 0), .bool true, v]) h c) = .ok e ts' h' c' := g2
              rw [put_eq] at g2
              refine ⟨_, _, _, g2, fun φ' w bf k cs ops j rest hle hop hwant hh _ => ?_⟩
              obtain ⟨B', N', vs, s', r', hB', hw, hvs⟩ := hh.obj b _ hb
              rw [hle _ _ hB] at hB'; cases hB'
              simp only [VRL] at hvs
              obtain ⟨u, m, hvl, hu, hm⟩ := hvs
              have hvs1 : vs = (u :: m).toArray := Array.ext' hvl
              subst hvs1
              obtain ⟨es, hs⟩ := fat_comm (P := E.P) (b := bf) (k := k) (cs := cs) (rest := rest) hop hwant hnd (he w)
              have := step_lone_select_recv_buf (z := z) hs hw (by simp)
              rw [put_finish hop] at this
              refine ⟨φ', _, _, Sim.put hh hbn (hle _ _ hB) (turned_chan w B cap s' (r' + 1) ((u :: m).toArray.extract 1 (u :: m).toArray.size) false false) ⟨B, N, _, s', r' + 1, hle _ _ hB, chan_same _ _ _ _ _ _ hw, ?_⟩, ?_, .one this⟩
              · have : ((u :: m).toArray.extract 1 (u :: m).toArray.size).toList = m := by simp [List.extract_eq_take_drop]
                rw [this]; exact hm
              · exact ⟨_, rfl, VRL_cons rfl (VRL_cons rfl (VRL_cons (by simpa using hu) VRL_nil))⟩
          · cases g2
        | some x =>
          rw [hsend] at g he
          have g : K (.cx fun _ h c K => selSend (evalO x ts) b h c K) = .ok e ts' h c := g
          have hv := eval_VR ht x
          refine ⟨_, g, fun self _ h c K' e ts' h' c' g2 => ?_⟩
          replace g2 : selSend (evalO x ts) b h c K' = .ok e ts' h' c' := g2
          unfold selSend at g2
          split at g2
          · rename_i cap buf hb
            have hbn : h.t.get b ≠ none := by rw [hb]; simp
            cases hlt : Nat.blt (lenL buf) cap with
            | false =>
              rw [hlt] at g2
              have hnl : ¬ lenL buf < cap := fun h2 => by rw [← Nat.blt_eq] at h2; rw [h2] at hlt; cases hlt
              rw [lenL_eq] at hnl
              refine ⟨_, _, _, g2, fun φ' w bf k cs ops j rest hle hop hwant hh _ => ?_⟩
              obtain ⟨B', N', vs, s', r', hB', hw, hvs⟩ := hh.obj b _ hb
              rw [hle _ _ hB] at hB'; cases hB'
              have hlen := hvs.length
              obtain ⟨es, hs⟩ := fat_comm (P := E.P) (b := bf) (k := k) (cs := cs) (rest := rest) hop hwant hnd (he w)
              have := step_lone_select_send_full (v := a.eval x) (z' := z) hs hw (by simp at hlen; omega)
              rw [put_finish hop] at this
              exact ⟨φ', w, _, Sim.refl hh, ⟨#[goInt (-1), .bool false], rfl, VRL_cons (neg1_VR ..) (VRL_cons rfl VRL_nil)⟩, .one this⟩
            | true =>
              rw [hlt] at g2
              have hnl : lenL buf < cap := Nat.blt_eq.mp hlt
              rw [lenL_eq] at hnl
              rw [put_eq] at g2
              refine ⟨_, _, _, g2, fun φ' w bf k cs ops j rest hle hop hwant hh _ => ?_⟩
              obtain ⟨B', N', vs, s', r', hB', hw, hvs⟩ := hh.obj b _ hb
              rw [hle _ _ hB] at hB'; cases hB'
              have hlen := hvs.length
              obtain ⟨es, hs⟩ := fat_comm (P := E.P) (b := bf) (k := k) (cs := cs) (rest := rest) hop hwant hnd (he w)
              have := step_lone_select_send_room (v := a.eval x) (z' := z) hs hw (by simp at hlen; omega)
              rw [put_finish hop] at this
              refine ⟨φ', _, _, Sim.put hh hbn (hle _ _ hB) (turned_chan w B cap (s' + 1) r' (vs.push (a.eval x)) false false) ⟨B, N, _, s' + 1, r', hle _ _ hB, chan_same _ _ _ _ _ _ hw, ?_⟩, ⟨#[goInt 0, .bool false], rfl, VRL_cons rfl (VRL_cons rfl VRL_nil)⟩, .one this⟩
              rw [appL_eq, Array.toList_push]
              exact hvs.append (VRL_cons (VR.mono hle _ _ hv) VRL_nil)
          · cases g2
end
end Go.AE
namespace Go.AE
section
variable {E : Env} {φ φ' φ₁ : Loc} {h h' h₁ : Hs} {c c' c₁ : Nat} {w w' w₁ w₂ : World}

/-- real block B is not spoken of -/
def Unk (φ : Loc) (t : T AObj) (B : Nat) : Prop := ∀ b N, t.get b ≠ none → φ b ≠ some (B, N)

theorem HR.aside {t : T AObj} (g : HR E φ t w) {B : Nat} (hu : Unk φ t B) (tu : Turned w w' B) : HR E φ t w' :=
  ⟨fun b o hb => (g.obj b o hb).keep (fun _ _ h => h) fun B' N e => tu.old B' fun hBB => by subst hBB; exact hu b N (by rw [hb]; simp) e, g.inj⟩

/-- what is not spoken of stays, and stays so -/
theorem Sim.unknown (s : Sim E φ h c w φ' h' c' w') (g : HR E φ h.t w) (f : Fresh φ c c') {B : Nat} (hB : B < w.heap.size) (hu : Unk φ h.t B) : w'.heap[B]? = w.heap[B]? ∧ Unk φ' h'.t B := by
  have hn : ∀ lg, ¬ Exm φ h.t h.fl lg B := fun lg ⟨b, N, h1, h2, _⟩ => hu b N h1 h2
  refine ⟨s.fr B hB (hn _), fun b N hb e => ?_⟩
  rcases s.dom b hb with hd | ⟨hl, hr⟩
  · obtain ⟨B', N', e', _⟩ := g.loc hd
    have : b < c ∨ c' ≤ b := by
      by_cases h1 : b < c
      · exact .inl h1
      · by_cases h2 : c' ≤ b
        · exact .inr h2
        · have := f b (by omega) (by omega); rw [this] at e'; cases e'
    rw [s.ext b this] at e
    exact hu b N hd e
  · rcases s.new b B N hl hr e hb with h1 | h1
    · omega
    · exact hn _ h1

/-- a block is no longer spoken of -/
theorem Sim.forget (g : HR E φ h.t w) (l : Nat) : Sim E φ h c w φ (h.putD l none) c w := by
  have hs : ∀ b o, (h.putD l none).t.get b = some o → h.t.get b = some o := fun b o hb => by
    simp only [Hs.putD, get_set] at hb
    split at hb
    · cases hb
    · exact hb
  refine ⟨g.sub hs, fun _ _ => rfl, Nat.le_refl _, fun b hb => .inl ?_, fun b B N h1 h2 => by omega, fun _ _ _ => rfl, Same.refl _, rfl, fun b hb => (logW_iff _ _ _ _).2 (.inl hb), fun x h1 _ h3 => by
    simp only [Hs.putD, get_set]; rw [if_neg (fun e => h3 ((logW_iff _ _ _ _).2 (.inr ⟨e.symm, by omega⟩)))]⟩
  cases e : (h.putD l none).t.get b with
  | none => exact absurd e hb
  | some o => rw [hs b o e]; simp
theorem unk_forget (g : HR E φ h.t w) {l B N : Nat} (hl : h.t.get l ≠ none) (hB : φ l = some (B, N)) : Unk φ (h.putD l none).t B := by
  intro b N' hb e
  simp only [Hs.putD, get_set] at hb
  split at hb
  · exact absurd rfl hb
  · rename_i hne; exact hne (g.inj l b B N N' hl hb hB e)
theorem exm_forget {l B N : Nat} (hl : h.t.get l ≠ none) (hB : φ l = some (B, N)) {lg : List Nat} (hlg : ∀ b ∈ (h.putD l none).lg, b ∈ lg) : Exm φ h.t h.fl lg B := by
  refine ⟨l, N, hl, hB, ?_⟩
  by_cases hf : h.fl ≤ l
  · exact .inl hf
  · exact .inr (hlg l ((logW_iff _ _ _ _).2 (.inr ⟨rfl, by omega⟩)))

/-- a block that may be written, and is not spoken of, is written -/
theorem Sim.aside (s : Sim E φ h c w φ₁ h₁ c₁ w₁) {B : Nat} (hx : Exm φ h.t h.fl h₁.lg B) (hu : Unk φ₁ h₁.t B) (tu : Turned w₁ w₂ B) : Sim E φ h c w φ₁ h₁ c₁ w₂ :=
  ⟨s.hr.aside hu tu, s.ext, s.cle, s.dom, s.new, fun B' hB' hn => by
      rw [tu.old B' (fun e => by subst e; exact hn hx)]; exact s.fr B' hB' hn,
    ⟨tu.tape.trans s.same.tape, tu.os.trans s.same.os, tu.output.trans s.same.output, by rw [tu.size]; exact s.same.size⟩, s.fl, s.lg, s.keep⟩

/-- it is spoken of again -/
theorem Sim.readd (s : Sim E φ h c w φ₁ h₁ c₁ w₁) {l B N : Nat} {o : AObj} (hl : h.t.get l ≠ none) (hB : φ₁ l = some (B, N)) (hx : Exm φ h.t h.fl h₁.lg B) (hu : Unk φ₁ h₁.t B) (tu : Turned w₁ w₂ B) (ho : OR E φ₁ w₂ l o) :
    Sim E φ h c w φ₁ (h₁.putD l (some o)) c₁ w₂ := by
  have s2 := s.aside hx hu tu
  have hlg : ∀ b ∈ h₁.lg, b ∈ (h₁.putD l (some o)).lg := fun b hb => (logW_iff _ _ _ _).2 (.inl hb)
  refine ⟨⟨fun b o' hb => ?_, fun b b' B₁ N₁ N₂ h1 h2 e1 e2 => ?_⟩, s2.ext, s2.cle, fun b hb => ?_, fun b B' N' hl' hr e hb => ?_, fun B' hB' hn => s2.fr B' hB' fun hx => hn (hx.mono hlg), s2.same, s2.fl, fun b hb => hlg b (s2.lg b hb), fun x h1 h2 h3 => ?_⟩
  · simp only [Hs.putD, get_set] at hb
    split at hb
    · rename_i e; subst e; cases hb; exact ho
    · exact s2.hr.obj b o' hb
  · simp only [Hs.putD, get_set] at h1 h2
    by_cases e : l = b
    · by_cases e' : l = b'
      · omega
      · subst e; rw [if_neg e'] at h2
        rw [hB] at e1; cases e1
        exact absurd e2 (hu b' N₂ h2)
    · rw [if_neg e] at h1
      by_cases e' : l = b'
      · subst e'
        rw [hB] at e2; cases e2
        exact absurd e1 (hu b N₁ h1)
      · rw [if_neg e'] at h2
        exact s2.hr.inj b b' B₁ N₁ N₂ h1 h2 e1 e2
  · simp only [Hs.putD, get_set] at hb
    split at hb
    · rename_i e; subst e; exact .inl hl
    · exact s2.dom b hb
  · simp only [Hs.putD, get_set] at hb
    by_cases e' : l = b
    · subst e'
      rw [hB] at e; cases e
      exact .inr (hx.mono hlg)
    · rw [if_neg e'] at hb
      exact (s2.new b B' N' hl' hr e hb).imp id fun h => h.mono hlg
  · have hne : ¬ l = x := fun e => h3 ((logW_iff _ _ _ _).2 (.inr ⟨e.symm, by rw [s2.fl]; omega⟩))
    simp only [Hs.putD, get_set]
    rw [if_neg hne]
    exact s2.keep x h1 h2 fun h => h3 (hlg x h)
end
end Go.AE
namespace Go.AE
section
variable {E : Env} {φ φ' φ₁ : Loc} {h h' h₁ h₀ : Hs} {c c' c₁ c₀ : Nat} {w w' w₁ w₂ : World} {ts ts' : Tm} {e : Ex}

/-! ### results -/
def rvSem (tmps : Array Value) (r : ResultVar) : Sem Value := match r with | .tmp t => pure (tmps.getD t undef) | .cell a t => do loadVar t (← asAddr (tmps.getD a undef))
theorem resVar_ok (T : TabOk E) {r : ResultVar} {K : AV → Out} (g : resVar E r ts h K = .ok e ts' h₀ c₀) :
    ∃ v, K v = .ok e ts' h₀ c₀ ∧ ∀ (φ : Loc) (w : World) (tmps : Array Value), TR E φ ts tmps → HR E φ h.t w →
      ∃ u, VR E φ v u ∧ (rvSem tmps r).run E.P w = .ok u w := by
  cases r with
  | tmp t => exact ⟨_, g, fun φ w tmps ht _ => ⟨_, ht t, rfl⟩⟩
  | cell a ty =>
    have g : ptrOf (evalT ts a) (fun b o => E.und ty (loadD E ty b o fun cmd => match cmd with | .rd b f => f K (h.t.get b) | _ => .bad 178)) = .ok e ts' h₀ c₀ := g
    obtain ⟨b, off, ha, g⟩ := ptrOf_ok g
    obtain ⟨d, hd, g⟩ := und_ok T g
    obtain ⟨f, g, hf⟩ := loadD_ok T hd g
    obtain ⟨ao, v, hx, g, hr⟩ := hf _ _ _ _ _ _ g
    refine ⟨v, g, fun φ w tmps ht hh => ?_⟩
    have hta := ht a
    rw [ha] at hta
    obtain ⟨B, N, hB, hta⟩ := hta
    obtain ⟨u, hu, hrun⟩ := hr φ w B N hB (hh.obj b ao hx)
    refine ⟨u, hu, ?_⟩
    unfold rvSem
    simp only [Sem.run_bind, hta, asAddr, Sem.run_pure, Result.andThen_ok, hrun]

theorem resultsOf_ok (T : TabOk E) : ∀ (rs : List ResultVar) (K : List AV → Out), resultsOf E ts h rs K = .ok e ts' h₀ c₀ →
    ∃ l, K l = .ok e ts' h₀ c₀ ∧ ∀ (φ : Loc) (w : World) (tmps : Array Value), TR E φ ts tmps → HR E φ h.t w →
      ∃ us, VRL E φ l us ∧ (rs.mapM (rvSem tmps)).run E.P w = .ok us w
  | [], K, g => ⟨[], g, fun φ w tmps _ _ => ⟨[], VRL_nil, rfl⟩⟩
  | r :: rs, K, g => by
    have g : resVar E r ts h (fun v => forceV v fun v => resultsOf E ts h rs fun l => K (v :: l)) = .ok e ts' h₀ c₀ := g
    obtain ⟨v, g, hv⟩ := resVar_ok T g
    rw [forceV_eq] at g
    obtain ⟨l, g, hl⟩ := resultsOf_ok T rs _ g
    refine ⟨v :: l, g, fun φ w tmps ht hh => ?_⟩
    obtain ⟨u, hu, hr⟩ := hv φ w tmps ht hh
    obtain ⟨us, hus, hrs⟩ := hl φ w tmps ht hh
    refine ⟨u :: us, VRL_cons hu hus, ?_⟩
    rw [List.mapM_cons]
    simp only [Sem.run_bind, hr, Result.andThen_ok, hrs, Sem.run_pure]

theorem tupOf_ok {l : List AV} {us : List Value} (hl : VRL E φ l us) : VR E φ (tupOf l) (if hs : us.toArray.size = 1 then us.toArray[0] else .tuple us.toArray) := by
  have hlen := hl.length
  cases l with
  | nil =>
    simp only [VRL] at hl; subst hl
    exact ⟨#[], rfl, VRL_nil⟩
  | cons a l =>
    cases l with
    | nil =>
      obtain ⟨v, rfl, hv⟩ := hl.one
      exact hv
    | cons b l =>
      have : ¬ us.toArray.size = 1 := by simp at hlen ⊢; omega
      rw [dif_neg this]
      exact ⟨us.toArray, rfl, hl⟩

theorem run_results {fn : Func} {tmps : Array Value} {us : List Value}
    (hr : (fn.results.toList.mapM (rvSem tmps)).run E.P w = .ok us w) :
    (results fn tmps).run E.P w = .ok (if hs : us.toArray.size = 1 then us.toArray[0] else .tuple us.toArray) w := by
  have e0 : results fn tmps = (do let vs ← fn.results.mapM (rvSem tmps); pure (if h : vs.size = 1 then vs[0] else .tuple vs)) := by
    unfold results
    congr 2
  rw [e0, Array.mapM_eq_mapM_toList]
  simp only [Sem.run_bind, map_eq_pure_bind, hr, Result.andThen_ok, Sem.run_pure]

/-! ### the marks are taken -/
def World.take (w : World) (r : Nat) : World := { w with heap := w.heap.setIfInBounds r (.deferred none) }
def World.takes (w : World) (rs : List Nat) : World := rs.foldl World.take w
theorem takes_old (rs : List Nat) : ∀ (w : World) (B : Nat), B ∉ rs → (World.takes w rs).heap[B]? = w.heap[B]? := by
  induction rs with
  | nil => intro w B _; rfl
  | cons r rs ih =>
    intro w B hB
    show (World.takes (World.take w r) rs).heap[B]? = _
    rw [ih _ _ (fun h => hB (List.mem_cons_of_mem _ h))]
    simp only [World.take, Array.getElem?_setIfInBounds]
    rw [if_neg (fun h => hB (by rw [← h]; exact List.mem_cons_self ..))]
theorem takes_same (rs : List Nat) : ∀ (w : World), (World.takes w rs).tape = w.tape ∧ (World.takes w rs).os = w.os ∧ (World.takes w rs).output = w.output ∧ (World.takes w rs).heap.size = w.heap.size := by
  induction rs with
  | nil => intro w; exact ⟨rfl, rfl, rfl, rfl⟩
  | cons r rs ih => intro w; obtain ⟨h1, h2, h3, h4⟩ := ih (World.take w r); exact ⟨h1, h2, h3, by rw [show World.takes w (r :: rs) = World.takes (World.take w r) rs from rfl, h4]; simp [World.take]⟩

theorem steps_unwind {P : Program} {caller : Frame} {cs : List Frame} {fn : Func} {v : Value} : ∀ (rs : List Nat) (fr : Frame) (w : World), fr.defers = rs.map mark → fr.mode = .returning → fr.kind = .normal → P.funcs[fr.fn]? = some fn →
    rs.Nodup → (∀ r ∈ rs, w.heap[r]? = some (.deferred (some []))) → (results fn fr.tmps).run P (World.takes w rs) = .ok v (World.takes w rs) →
    Steps P (lone fr (caller :: cs) w) (lone (caller.finish v) cs (World.takes w rs))
  | [], fr, w, hd, hm, hk, hf, _, _, hr => by
    have hd : fr.defers = [] := hd
    refine .one (step_lone_go ?_)
    have hr : (results fn fr.tmps).run P w = .ok v w := hr
    simp [stepG, hm, unwind, hd, hf, hr, doReturn, hk]
    rfl
  | r :: rs, fr, w, hd, hm, hk, hf, hnd, hw, hr => by
    have hd : fr.defers = mark r :: rs.map mark := hd
    have h0 := hw r (List.mem_cons_self ..)
    have hrun : (Instr.takeDeferred r).run P w = .ok [] (World.take w r) := by simp [Instr.takeDeferred, getObj, setObj, Sem.run, h0, World.take, Sem.run_bind]
    refine Steps.head (m₁ := lone { fr with defers := rs.map mark } (caller :: cs) (World.take w r)) (step_lone_go ?_) ?_
    · simp [stepG, hm, unwind, hd, mark, hrun]
    · refine steps_unwind rs _ _ rfl hm hk hf (List.nodup_cons.1 hnd).2 (fun x hx => ?_) hr
      have hne : r ≠ x := fun h => (List.nodup_cons.1 hnd).1 (by rw [h]; exact hx)
      simp only [World.take, Array.getElem?_setIfInBounds, if_neg hne]
      exact hw x (List.mem_cons_of_mem _ hx)

/-- and the evaluator sees nothing of it -/
theorem Sim.takes (s : Sim E φ h c w φ' h' c' w') {rs : List Nat} (hr : ∀ r ∈ rs, w.heap.size ≤ r ∧ Unk φ' h'.t r) : Sim E φ h c w φ' h' c' (World.takes w' rs) := by
  obtain ⟨t1, t2, t3, t4⟩ := takes_same rs w'
  refine ⟨⟨fun b o hb => (s.hr.obj b o hb).keep (fun _ _ h => h) fun B N e => takes_old rs w' B fun hm => (hr B hm).2 b N (by rw [hb]; simp) e, s.hr.inj⟩, s.ext, s.cle, s.dom, s.new, fun B hB hn => ?_,
    ⟨t1.trans s.same.tape, t2.trans s.same.os, t3.trans s.same.output, by rw [t4]; exact s.same.size⟩, s.fl, s.lg, s.keep⟩
  rw [takes_old rs w' B fun hm => by have := (hr B hm).1; omega]
  exact s.fr B hB hn
end
end Go.AE
namespace Go.AE
section
variable {E : Env} {φ φ' φ₁ : Loc} {h h' h₁ h₀ : Hs} {c c' c₁ c₀ : Nat} {w w' w₁ w₂ : World} {ts ts' : Tm} {e : Ex}

def CallRun (E : Env) (f : Nat) (args : List AV) (h : Hs) (c : Nat) (v : AV) (h' : Hs) (c' : Nat) : Prop :=
  ∀ (φ : Loc) (w : World) (vs : Array Value) (caller : Frame) (cs : List Frame), VRL E φ args vs.toList → HR E φ h.t w → Fresh φ c c' →
    ∃ φ' w' u, Sim E φ h c w φ' h' c' w' ∧ VR E φ' v u ∧ Steps E.P (lone (Frame.enter E.P f vs .normal) (caller :: cs) w) (lone (caller.finish u) cs w')

theorem fiOf_ok {fn : Func} {fi : Fi} (h : fiOf fn = some fi) : ∃ code, fn.body = some code ∧ fi.n = fn.ntmps ∧ fi.rs = fn.results.toList ∧ fi.code = code ∧ codeOk fn.ntmps code = true ∧ fn.name ≠ "runtime.NumGoroutine" := by
  unfold fiOf at h
  split at h
  · cases h
  · rename_i code hb
    have h : (Bool.rec (motive := fun _ => Option Fi) none (some ⟨fn.ntmps, fn.results.toList, code⟩) (codeOk fn.ntmps code && (fn.name != "runtime.NumGoroutine"))) = some fi := h
    cases hc : (codeOk fn.ntmps code && (fn.name != "runtime.NumGoroutine")) with
    | false => rw [hc] at h; cases h
    | true =>
      rw [hc] at h
      cases h
      rw [Bool.and_eq_true] at hc
      exact ⟨code, hb, rfl, rfl, rfl, hc.1, by simpa using hc.2⟩

theorem TR.args {args : List AV} {vs : Array Value} (hv : VRL E φ args vs.toList) (n : Nat) : TR E φ (T.lay args .e 0) (vs ++ Array.replicate n undef) := by
  intro i
  unfold evalT
  rw [get_lay]
  have hlen : vs.size = args.length := by simpa using hv.length
  by_cases hi : i < args.length
  · rw [if_pos ⟨Nat.zero_le _, by omega⟩, Nat.sub_zero, List.getElem?_eq_getElem hi]
    obtain ⟨u, hu, hr⟩ := hv.get (List.getElem?_eq_getElem hi)
    have : (vs ++ Array.replicate n undef).getD i undef = u := by
      rw [Array.getD_eq_getD_getElem?, Array.getElem?_append_left (by omega)]
      rw [Array.getElem?_toList] at hu
      rw [hu]; rfl
    rw [this]; exact hr
  · rw [if_neg (by omega), get_e]
    have : (vs ++ Array.replicate n undef).getD i undef = undef := by
      rw [Array.getD_eq_getD_getElem?, Array.getElem?_append_right (by omega), Array.getElem?_replicate]
      split <;> rfl
    rw [this]
    exact undef_VR ..

theorem callF_ok (T : TabOk E) {self : Self} (S : SelfOk E self) {f : Nat} {args : List AV} {K : Kv} (g : callF E self f args h c K = .ok e ts' h₀ c₀) :
    ∃ v h₁ c₁, K v h₁ c₁ = .ok e ts' h₀ c₀ ∧ CallRun E f args h c v h₁ c₁ ∧ ∃ fn, E.P.funcs[f]? = some fn ∧ fn.body.isNone = false ∧ (fn.name == "runtime.NumGoroutine") = false := by
  unfold callF callB at g
  split at g
  · rename_i fi hfi
    obtain ⟨fn, hfn, hof⟩ := T.fn f fi hfi
    obtain ⟨code, hb, e1, e2, e3, hok, hname⟩ := fiOf_ok hof
    obtain ⟨hn, g⟩ := guardB_ok g
    have hn : lenL args ≤ fi.n := Nat.le_of_ble_eq_true hn
    rw [lenL_eq, e1] at hn
    rw [fill_eq] at g
    cases ho : self fi.code (AE.T.lay args .e 0) h c with
    | bad n => rw [ho] at g; cases g
    | ok ex ts1 h1 c1 =>
      rw [ho] at g
      have hrun := S _ _ _ _ _ _ _ _ ho
      have hex : (ex = .normal ∨ ex = .ret) ∧ resultsOf E ts1 h1 fi.rs (fun l => K (tupOf l) h1 c1) = .ok e ts' h₀ c₀ := by
        cases ex with
        | normal => exact ⟨.inl rfl, g⟩
        | exit i => cases g
        | ret => exact ⟨.inr rfl, g⟩
      obtain ⟨hex, g⟩ := hex
      obtain ⟨l, g, hl⟩ := resultsOf_ok T _ _ g
      refine ⟨_, _, _, g, fun φ w vs caller cs hv hh hf => ?_, fn, hfn, by rw [hb]; rfl, by simpa using hname⟩
      have hlen : vs.size = args.length := by simpa using hv.length
      have hframe : Frame.enter E.P f vs .normal = fat (Frame.enter E.P f vs .normal) ⟨vs ++ Array.replicate (fn.ntmps - vs.size) undef, []⟩ [.code code] := by
        unfold Frame.enter fat
        simp [hfn, hb]
      have hsz : (vs ++ Array.replicate (fn.ntmps - vs.size) undef).size = fn.ntmps := by simp; omega
      obtain ⟨φ', w1, a1, hsim, htr, _, ⟨rs, hds, hnd, hmk⟩, harr⟩ := hrun φ w w.heap.size (Frame.enter E.P f vs .normal) ⟨vs ++ Array.replicate (fn.ntmps - vs.size) undef, []⟩ [] (caller :: cs) (Nat.le_refl _)
        (TR.args hv _) (by rw [e3]; simpa only [hsz] using hok) (.inl rfl) hh hf ⟨[], rfl, List.nodup_nil, fun r hr => by cases hr⟩
      rw [e3, ← hframe] at harr
      have hsim2 := hsim.takes (rs := rs) fun r hr => ⟨(hmk r hr).1, (hmk r hr).2.2⟩
      obtain ⟨us, hus, hmap⟩ := hl φ' (World.takes w1 rs) a1.tmps htr hsim2.hr
      rw [e2] at hmap
      refine ⟨φ', World.takes w1 rs, _, hsim2, tupOf_ok hus, ?_⟩
      -- the frame returns
      have hret : ∃ todo, Steps E.P (lone (Frame.enter E.P f vs .normal) (caller :: cs) w) (lone { fat (Frame.enter E.P f vs .normal) a1 todo with mode := .returning } (caller :: cs) w1) := by
        rcases hex with rfl | rfl
        · exact ⟨[], harr.trans (fat_end rfl)⟩
        · obtain ⟨k2, harr⟩ := harr
          exact ⟨_, harr.trans (fat_ret rfl)⟩
      obtain ⟨todo, hret⟩ := hret
      exact hret.trans (steps_unwind rs _ w1 hds rfl rfl hfn hnd (fun r hr => (hmk r hr).2.1) (run_results hmap))
  · cases g
end
end Go.AE
namespace Go.AE
section
variable {E : Env} {φ φ' φ₁ : Loc} {h h' h₁ h₀ : Hs} {c c' c₁ c₀ : Nat} {w w' w₁ w₂ : World} {ts ts' : Tm} {e : Ex}

/-- what a call leads to -/
def Enters (P : Program) (s : Sem Next) (w : World) (caller : Frame) (cs : List Frame) (u : Value) (w' : World) : Prop :=
  ∃ nx, s.run P w = .ok nx w ∧ ((∃ f args, nx = .enter f args ∧ Steps P (lone (Frame.enter P f args .normal) (caller :: cs) w) (lone (caller.finish u) cs w')) ∨
    ∃ l f tmps as bd, nx = .round l f tmps as bd ∧ Steps P (lone (Frame.round l f tmps as bd .normal) (caller :: cs) w) (lone (caller.finish u) cs w'))

def ValRun (E : Env) (fv : AV) (args : List AV) (h : Hs) (c : Nat) (v : AV) (h' : Hs) (c' : Nat) : Prop :=
  ∀ (φ : Loc) (w : World) (fvv : Value) (vs : Array Value) (caller : Frame) (cs : List Frame), VR E φ fv fvv → VRL E φ args vs.toList → HR E φ h.t w → Fresh φ c c' →
    ∃ φ' w' u, Sim E φ h c w φ' h' c' w' ∧ VR E φ' v u ∧ Enters E.P (do let d ← Deferred.ofValue fvv vs; invoke d.target d.args) w caller cs u w'

/-! ### rounds -/
theorem run_getLoop' {P : Program} {B : Nat} {r : Loop} (hw : w.heap[B]? = some (.loop r)) : (Instr.getLoop B).run P w = .ok r w := by
  simp [Instr.getLoop, getObj, Sem.run, Sem.run_bind, hw]
theorem run_setLoop {P : Program} {B : Nat} {r : Loop} (x : Obj) (hw : w.heap[B]? = some (.loop r)) : (setObj B x).run P w = .ok () { w with heap := w.heap.setIfInBounds B x } := by simp [setObj, Sem.run, hw]

theorem fat_beginRound {P : Program} {b : Frame} {a : Act} {k : List Item} {cs : List Frame} {B : Nat} {r : Loop} (hr : b.roundOf = some B) (hw : w.heap[B]? = some (.loop r)) (hs : r.state = .ready) :
    Steps P (lone (fat b a (.beginRound :: k)) cs w) (lone (fat b a k) cs { w with heap := w.heap.setIfInBounds B (.loop { r with state := .busy }) }) := by
  refine .one (step_lone_go ?_)
  have h1 : (Instr.beginRound B).run P w = .ok () { w with heap := w.heap.setIfInBounds B (.loop { r with state := .busy }) } := by
    unfold Instr.beginRound
    simp only [Sem.run_bind, run_getLoop' hw, Result.andThen_ok, run_setLoop _ hw, hs, Sem.run_pure]
  have h2 : (b.roundOf.elim (stuck "beginRound: no round") Instr.beginRound).run P w = .ok () { w with heap := w.heap.setIfInBounds B (.loop { r with state := .busy }) } := by
    rw [hr]; exact h1
  simp only [stepG, stepG.exec, fat]
  simp [stepG.apply, h2, Frame.finish]

theorem fat_leave {P : Program} {b : Frame} {a : Act} {todo : List Item} {caller : Frame} {cs : List Frame} {B : Nat} {r : Loop} {jump : Option Code} (hr : b.roundOf = some B) (hk : b.kind = .normal) (hw : w.heap[B]? = some (.loop r))
    (ht : (todo = [] ∧ jump = none) ∨ (∃ k, todo = .code .ret :: k ∧ jump = some .ret) ∨ ∃ id k, todo = .code (.exit id) :: k ∧ exitTo id k = none ∧ jump = some (.exit id)) :
    Steps P (lone (fat b a todo) (caller :: cs) w) (lone (caller.finish (.bool jump.isNone)) cs { w with heap := w.heap.setIfInBounds B (.loop { r with state := if jump.isNone then .ready else .done, pending := jump }) }) := by
  refine .one (step_lone_go ?_)
  have h1 : (Instr.endRound B jump).run P w = .ok (.bool jump.isNone) { w with heap := w.heap.setIfInBounds B (.loop { r with state := if jump.isNone then .ready else .done, pending := jump }) } := by
    unfold Instr.endRound
    simp only [Sem.run_bind, run_getLoop' hw, Result.andThen_ok, run_setLoop _ hw, Sem.run_pure]
  rcases ht with ⟨rfl, rfl⟩ | ⟨k, rfl, rfl⟩ | ⟨id, k, rfl, hex, rfl⟩
  · simp only [stepG, stepG.exec, fat, hr]
    simp [h1, doReturn, hk]
  · simp only [stepG, stepG.exec, fat, hr]
    simp [h1, doReturn, hk]
  · simp only [stepG, stepG.exec, fat, hr, hex, Option.elim_none]
    simp [h1, doReturn, hk]

noncomputable def setsT : List Nat → List AV → Tm → Tm
  | p :: l, x :: a, t => setsT l a (t.set p (some x))
  | _, _, t => t
theorem setAll_ok : ∀ (l : List Nat) (a : List AV) (t : Tm) (K : Tm → Out), setAll l a t K = .ok e ts' h₀ c₀ → l.length = a.length ∧ K (setsT l a t) = .ok e ts' h₀ c₀
  | [], [], t, K, g => ⟨rfl, g⟩
  | [], _ :: _, t, K, g => by cases g
  | _ :: _, [], t, K, g => by cases g
  | p :: l, x :: a, t, K, g => by
    have g : t.ins p (some x) (fun t => setAll l a t K) = .ok e ts' h₀ c₀ := g
    rw [ins_eq] at g
    obtain ⟨h1, h2⟩ := setAll_ok l a _ K g
    exact ⟨by simp [h1], h2⟩
theorem setsT_TR : ∀ (l : List Nat) (a : List AV) (vs : List Value) (t : Tm) (tmps : Array Value), l.length = a.length → VRL E φ a vs → TR E φ t tmps → (∀ x ∈ l, x < tmps.size) →
    TR E φ (setsT l a t) ((l.zip vs).foldl (fun tmps p => tmps.setIfInBounds p.1 p.2) tmps) ∧ ((l.zip vs).foldl (fun tmps p => tmps.setIfInBounds p.1 p.2) tmps).size = tmps.size
  | [], [], vs, t, tmps, _, hv, ht, _ => ⟨by simpa [setsT] using ht, by simp⟩
  | p :: l, x :: a, vs, t, tmps, hl, hv, ht, hp => by
    simp only [VRL] at hv
    obtain ⟨v, m, rfl, hv, hm⟩ := hv
    have hp0 := hp p (List.mem_cons_self ..)
    obtain ⟨h1, h2⟩ := setsT_TR l a m (t.set p (some x)) (tmps.setIfInBounds p v) (by simpa using hl) hm (ht.put hp0 hv) (fun y hy => by simp; exact hp y (List.mem_cons_of_mem _ hy))
    exact ⟨h1, by simpa using h2⟩

theorem turned_loop (w : World) (B : Nat) (x : Obj) : Turned w { w with heap := w.heap.setIfInBounds B x } B := turned_set w B x

theorem callY_ok (_T : TabOk E) {self : Self} (S : SelfOk E self) {l : Nat} {args : List AV} {K : Kv} (g : callY self l args h c K = .ok e ts' h₀ c₀) :
    ∃ v h₁ c₁, K v h₁ c₁ = .ok e ts' h₀ c₀ ∧ ∀ (φ : Loc) (w : World) (B N : Nat) (vs : Array Value) (caller : Frame) (cs : List Frame), φ l = some (B, N) → VRL E φ args vs.toList → HR E φ h.t w → Fresh φ c c₁ →
      ∃ φ' w' u, Sim E φ h c w φ' h₁ c₁ w' ∧ VR E φ' v u ∧ Enters E.P (Instr.yield B vs) w caller cs u w' := by
  unfold callY at g
  split at g
  · rename_i ts0 params assign body p hl
    obtain ⟨hp, g⟩ := guardB_ok g
    have hp := isZ_ok hp
    subst hp
    rw [put_eq] at g
    obtain ⟨hlen, g⟩ := setAll_ok _ _ _ _ g
    cases ho : self assign (setsT params args ts0) (h.putD l none) c with
    | bad n => rw [ho] at g; cases g
    | ok ex ts1 h1 c1 =>
      rw [ho] at g
      have hrun1 := S _ _ _ _ _ _ _ _ ho
      have hex : ex = .normal ∧ pendK l ts0 params assign body K (self body ts1 h1 c1) = .ok e ts' h₀ c₀ := by
        cases ex <;> first | exact ⟨rfl, g⟩ | cases g
      obtain ⟨rfl, g2⟩ := hex
      cases ho2 : self body ts1 h1 c1 with
      | bad n => rw [ho2] at g2; cases g2
      | ok ex2 ts2 h2 c2 =>
        rw [ho2] at g2
        have hrun2 := S _ _ _ _ _ _ _ _ ho2
        -- how the round ends
        have hend : ∃ pend v, K v (h2.putD l (some (.loop ts0 params assign body pend))) c2 = .ok e ts' h₀ c₀ ∧ ∃ jump : Option Code, v = .bool jump.isNone ∧
            PendR pend (if jump.isNone then .ready else .done) jump ∧ ((ex2 = .normal ∧ jump = none) ∨ (ex2 = .ret ∧ jump = some .ret) ∨ ∃ i, ex2 = .exit i ∧ jump = some (.exit i)) := by
          cases ex2 with
          | normal =>
            have g : h2.put l (some (.loop ts0 params assign body 0)) (fun h => K (.bool true) h c2) = .ok e ts' h₀ c₀ := g2
            rw [put_eq] at g
            exact ⟨0, _, g, none, rfl, ⟨rfl, rfl⟩, .inl ⟨rfl, rfl⟩⟩
          | exit i =>
            have g : h2.put l (some (.loop ts0 params assign body (i + 2))) (fun h => K (.bool false) h c2) = .ok e ts' h₀ c₀ := g2
            rw [put_eq] at g
            exact ⟨i + 2, _, g, some (.exit i), rfl, ⟨rfl, rfl⟩, .inr (.inr ⟨i, rfl, rfl⟩)⟩
          | ret =>
            have g : h2.put l (some (.loop ts0 params assign body 1)) (fun h => K (.bool false) h c2) = .ok e ts' h₀ c₀ := g2
            rw [put_eq] at g
            exact ⟨1, _, g, some .ret, rfl, ⟨rfl, rfl⟩, .inr (.inl ⟨rfl, rfl⟩)⟩
        obtain ⟨pend, v, g, jump, rfl, hpend, hj⟩ := hend
        refine ⟨_, _, _, g, fun φ w B N vs caller cs hB hv hh hf => ?_⟩
        have hln : h.t.get l ≠ none := by rw [hl]; simp
        obtain ⟨B', N', st, pd, fn, tmps, df, hB', hw, ⟨rfl, rfl⟩, htr, ok1, ok2, nr1, nr2, hps⟩ := hh.obj l _ hl
        rw [hB] at hB'; cases hB'
        have hBlt := (Array.getElem?_eq_some_iff.1 hw).1
        -- the frame of the round
        obtain ⟨htr', hsz'⟩ := setsT_TR params args vs.toList ts0 tmps hlen hv htr hps
        generalize htm : (params.zip vs.toList).foldl (fun tmps p => tmps.setIfInBounds p.1 p.2) tmps = tmps' at htr' hsz'
        have s0 : Sim E φ h c w φ (h.putD l none) c w := Sim.forget hh l
        have u0 := unk_forget hh hln hB
        have f1 : Fresh φ c c1 := fun b h1 h2 => hf b h1 (by omega)
        obtain ⟨φ1, w1, a1, s1, htr1, hsz1, ⟨rs1, hds1, hnd1, hmk1⟩, harr1⟩ := hrun1 φ w w.heap.size (Frame.round B fn tmps' assign body .normal) ⟨tmps', []⟩ [.beginRound, .code body] (caller :: cs) (Nat.le_refl _) htr' (by rw [hsz']; exact ok1) (.inr nr1) s0.hr f1 ⟨[], rfl, List.nodup_nil, fun r hr => by cases hr⟩
        obtain ⟨k1, u1⟩ := s1.unknown s0.hr f1 hBlt u0
        have hw1 := k1.trans hw
        have hstart : fat (Frame.round B fn tmps' assign body .normal) ⟨tmps', []⟩ (.code assign :: [.beginRound, .code body]) = Frame.round B fn tmps' assign body .normal := rfl
        rw [hstart] at harr1
        -- the round begins
        have hbeg := fat_beginRound (P := E.P) (b := Frame.round B fn tmps' assign body .normal) (a := a1) (k := [.code body]) (cs := caller :: cs) rfl hw1 rfl
        have s01 := Sim.trans hh f1 s0 s1
        have hx1 : Exm φ h.t h.fl h1.lg B := exm_forget hln hB fun b hb => s1.lg b hb
        have tu1 := turned_loop w1 B (.loop { state := .busy, pending := none, fn, tmps, params := params.toArray, assign, body, defers := df })
        have s02 := s01.aside hx1 u1 tu1
        have f2 : Fresh φ1 c1 c2 := fun b h1 h2 => by rw [s1.ext b (.inr h1)]; exact hf b (Nat.le_trans s1.cle h1) h2
        have hw2 := set_same (w := w1) (.loop { state := .busy, pending := none, fn, tmps, params := params.toArray, assign, body, defers := df }) hw1
        have hw2lt := (Array.getElem?_eq_some_iff.1 hw2).1
        obtain ⟨φ2, w3, a2, s3, htr3, hsz3, _, harr2⟩ := hrun2 φ1 _ w.heap.size (Frame.round B fn tmps' assign body .normal) a1 [] (caller :: cs) s02.same.size htr1 (by rw [hsz1.1]; simpa [hsz'] using ok2) (.inr nr2) s02.hr f2
          ⟨rs1, hds1, hnd1, fun r hr => ⟨(hmk1 r hr).1, by rw [tu1.old r (fun e => by have := (hmk1 r hr).1; omega)]; exact (hmk1 r hr).2.1, (hmk1 r hr).2.2⟩⟩
        obtain ⟨k3, u3⟩ := s3.unknown s02.hr f2 hw2lt u1
        have hw3 := k3.trans hw2
        have s03 := Sim.trans hh hf s02 s3
        have hout : l < c ∨ c2 ≤ l := by
          by_cases h1 : l < c
          · exact .inl h1
          · by_cases h2 : c2 ≤ l
            · exact .inr h2
            · have := hf l (by omega) (by omega); rw [this] at hB; cases hB
        have hB2 : φ2 l = some (B, N) := by rw [s03.ext l hout]; exact hB
        have hle2 := s03.le hf
        have hx3 : Exm φ h.t h.fl h2.lg B := hx1.mono s3.lg
        have tu3 := turned_loop w3 B (.loop { state := if jump.isNone then .ready else .done, pending := jump, fn, tmps, params := params.toArray, assign, body, defers := df })
        have s04 := s03.readd (o := .loop ts0 params assign body pend) hln hB2 hx3 u3 tu3
          ⟨B, N, _, _, fn, tmps, df, hB2, set_same _ hw3, hpend, htr.mono hle2, ok1, ok2, nr1, nr2, hps⟩
        refine ⟨φ2, _, .bool jump.isNone, s04, rfl, ?_⟩
        have hyield : (Instr.yield B vs).run E.P w = .ok (.round B fn tmps' assign body) w := by
          unfold Instr.yield
          have hsz : ¬ (vs.size ≠ params.toArray.size) := by
            have := hv.length
            simp at this ⊢; omega
          simp only [Sem.run_bind, run_getLoop' hw, Result.andThen_ok, hsz, if_false, Sem.run_pure]
          congr 2
          rw [← htm, ← Array.foldl_toList, Array.toList_zip]
        refine ⟨_, hyield, .inr ⟨B, fn, tmps', assign, body, rfl, ?_⟩⟩
        have harr1 : Steps E.P (lone (Frame.round B fn tmps' assign body .normal) (caller :: cs) w) (lone (fat (Frame.round B fn tmps' assign body .normal) a1 [.beginRound, .code body]) (caller :: cs) w1) := harr1
        refine harr1.trans (hbeg.trans ?_)
        have leave := fun (todo : List Item) ht => fat_leave (P := E.P) (b := Frame.round B fn tmps' assign body .normal) (a := a2) (todo := todo) (caller := caller) (cs := cs) (jump := jump) rfl rfl hw3 ht
        rcases hj with ⟨rfl, rfl⟩ | ⟨rfl, rfl⟩ | ⟨i, rfl, rfl⟩
        · exact Steps.trans harr2 (leave [] (.inl ⟨rfl, rfl⟩))
        · obtain ⟨k2, harr2⟩ := harr2
          exact Steps.trans harr2 (leave _ (.inr (.inl ⟨k2, rfl, rfl⟩)))
        · obtain ⟨k2, harr2, hex⟩ := harr2
          exact Steps.trans harr2 (leave _ (.inr (.inr ⟨i, k2, rfl, by rw [hex]; rfl, rfl⟩)))
  · cases g
end
end Go.AE
namespace Go.AE
section
variable {E : Env} {φ φ' φ₁ : Loc} {h h' h₁ h₀ : Hs} {c c' c₁ c₀ : Nat} {w w' w₁ w₂ : World} {ts ts' : Tm} {e : Ex}

theorem callV_ok (T : TabOk E) {self : Self} (S : SelfOk E self) {fv : AV} {args : List AV} {K : Kv} (g : callV E self fv args h c K = .ok e ts' h₀ c₀) :
    ∃ v h₁ c₁, K v h₁ c₁ = .ok e ts' h₀ c₀ ∧ ValRun E fv args h c v h₁ c₁ := by
  unfold callV at g
  split at g
  · rename_i f first cap
    unfold callFn at g
    split at g
    · rename_i f
      obtain ⟨v, h₁, c₁, g, hrun, fn, hfn, hb, hname⟩ := callF_ok T S g
      refine ⟨v, h₁, c₁, g, fun φ w fvv vs caller cs hfv hvs hh hf => ?_⟩
      obtain ⟨gg, first', cap', rfl, hg, h1, h2⟩ := hfv
      have hg : gg = .func f := hg
      subst hg
      have hargs : VRL E φ (appL first (appL args cap)) (first' ++ vs ++ cap').toList := by
        rw [appL_eq, appL_eq, Array.toList_append, Array.toList_append, List.append_assoc]
        exact h1.append (hvs.append h2)
      obtain ⟨φ', w', u, hs, hv, hst⟩ := hrun φ w (first' ++ vs ++ cap') caller cs hargs hh hf
      refine ⟨φ', w', u, hs, hv, .enter f (first' ++ vs ++ cap'), ?_, .inl ⟨f, _, rfl, hst⟩⟩
      simp only [Deferred.ofValue, Sem.run_bind, Sem.run_pure, Result.andThen_ok, invoke, callFunc, run_program, hfn, hname, hb, Bool.false_eq_true, if_false]
    · rename_i l
      cases first with
      | cons _ _ => cases g
      | nil =>
        have g : callY self l args h c K = .ok e ts' h₀ c₀ := g
        obtain ⟨v, h₁, c₁, g, hrun⟩ := callY_ok T S g
        refine ⟨v, h₁, c₁, g, fun φ w fvv vs caller cs hfv hvs hh hf => ?_⟩
        obtain ⟨gg, first', cap', rfl, ⟨B, N, hB, rfl⟩, h1, h2⟩ := hfv
        simp only [VRL] at h1
        have h1 : first' = #[] := Array.ext' h1
        subst h1
        obtain ⟨φ', w', u, hs, hv, nx, hnx, hst⟩ := hrun φ w B N vs caller cs hB hvs hh hf
        refine ⟨φ', w', u, hs, hv, nx, ?_, hst⟩
        simp only [Deferred.ofValue, Sem.run_bind, Sem.run_pure, Result.andThen_ok, invoke, Array.empty_append, hnx]
    · cases g
  · cases g

theorem ok_callV (T : TabOk E) {φ : Loc} {o : Oper} {a : Act} {K : Kc} (ht : TR E φ ts a.tmps) {cl : Call} {f : Operand} (ho : o.op = .call cl) (hc : cl.callee = .value f) (g : cCallV f cl.args.toList E ts K = .ok e ts' h c) : Good E φ o a K e ts' h c := by
  have he : execOp a.eval o = (do let d ← Deferred.ofValue (a.eval f) (cl.args.map a.eval); invoke d.target d.args) := by
    unfold execOp; rw [ho]
    simp only [resolve, hc]
  have hnd : ∀ c, o.op ≠ .defer c := fun c h => by rw [ho] at h; cases h
  refine ⟨_, g, fun self S h c K' e ts' h' c' g2 => ?_⟩
  replace g2 : callV E self (evalO f ts) (evalL ts cl.args.toList) h c K' = .ok e ts' h' c' := g2
  obtain ⟨v, h₁, c₁, g2, hrun⟩ := callV_ok T S g2
  refine ⟨v, h₁, c₁, g2, fun φ' w b k cs ops i rest hle hop hwant hh hf => ?_⟩
  obtain ⟨φ'', w', u, hs, hv, nx, hnx, hst⟩ := hrun φ' w _ (cl.args.map a.eval) (fat b a (.inRegion ops (i :: rest) :: k)) cs (VR.mono hle _ _ (eval_VR ht f)) (VRL.mono hle _ _ (evalL_VRL ht cl.args)) hh hf
  refine ⟨φ'', w', u, hs, hv, ?_⟩
  rw [← put_finish hop]
  have hr : (execOp a.eval o).run E.P w = .ok nx w := by rw [he]; exact hnx
  rcases hst with ⟨g', args, rfl, hst⟩ | ⟨l, g', tmps, as, bd, rfl, hst⟩
  · exact (fat_op_enter hop hwant hnd hr).trans hst
  · exact (fat_op_round hop hwant hnd hr).trans hst

/-- every operation that the evaluator knows -/
theorem cmd_ok (T : TabOk E) {φ : Loc} {o : Oper} {a : Act} {K : Kc} (ht : TR E φ ts a.tmps) (g : cmdOf o.op E ts K = .ok e ts' h c) : Good E φ o a K e ts' h c := by
  cases ho : o.op <;> rw [ho] at g <;> try (cases g; done)
  case move x => exact ok_move ht (.inl ho) g
  case assign x => exact ok_move ht (.inr ho) g
  case pick => exact ok_pick ht ho g
  case alloc => exact ok_alloc (ts := ts) T ho g
  case box => exact ok_box T ht ho g
  case build => exact ok_build T ht ho g
  case buildSlice => exact ok_buildSlice T ht ho g
  case load => exact ok_load T ht ho g
  case store => exact ok_store T ht ho g
  case nilCheck => exact ok_nilCheck ht ho g
  case binOp => exact ok_bin T ht ho g
  case unOp => exact ok_un ht ho g
  case convert => exact ok_conv T ht ho g
  case makeInterface => exact ok_iface T ht ho g
  case makeFunc => exact ok_func ht ho g
  case makeMap => exact ok_makeMap (ts := ts) ho g
  case makeChan => exact ok_makeChan T ht ho g
  case makeSlice => exact ok_makeSlice T ht ho g
  case slice => exact ok_slice T ht ho g
  case fieldAddr => exact ok_fieldAddr T ht ho g
  case field => exact ok_field T ht ho g
  case indexAddr => exact ok_indexAddr T ht ho g
  case index => exact ok_index T ht ho g
  case lookup => exact ok_lookup T ht ho g
  case mapUpdate => exact ok_mapUpdate T ht ho g
  case extract => exact ok_extract ht ho g
  case range => exact ok_range T ht ho g
  case next => exact ok_next T ht ho g
  case entry => exact ok_entry T ht ho g
  case select => exact ok_select T ht ho g
  case call cl =>
    have g : cCall cl E ts K = .ok e ts' h c := g
    unfold cCall at g
    cases hcl : cl.callee with
    | value f => rw [hcl] at g; exact ok_callV T ht ho hcl g
    | invoke _ _ => rw [hcl] at g; cases g
    | builtin b =>
      rw [hcl] at g
      have g : cBuiltin b cl.args.toList cl.argTypes.toList E ts K = .ok e ts' h c := g
      cases b <;> try (cases g; done)
      case len => exact ok_len T ht ho hcl g
      case cap => exact ok_cap T ht ho hcl g
      case append => exact ok_append T ht ho hcl g
      case copy => exact ok_copy T ht ho hcl g
      case delete => exact ok_delete T ht ho hcl g
      case min => exact ok_minmax ht (mx := false) ho hcl g
      case max => exact ok_minmax ht (mx := true) ho hcl g
      case clear => exact ok_clear T ht ho hcl g
end
end Go.AE
