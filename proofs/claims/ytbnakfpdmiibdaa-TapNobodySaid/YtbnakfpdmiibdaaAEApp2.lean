import Derived.Test.YtbnakfpdmiibdaaAEApp
namespace Go.AE
section
variable {E : Env} {φ₀ : Loc} {o : Oper} {a : Act} {ts : Tm} {e : Ex} {ts' : Tm} {h h₀ : Hs} {c c₀ : Nat}

theorem HR.drew {φ : Loc} {t : T AObj} {w : World} (g : HR E φ t w) : HR E φ t w.drew := ⟨fun b o hb => (g.obj b o hb).keep (fun _ _ h => h) fun _ _ _ => rfl, g.inj⟩

/-- what the operation, an append of n elements L to s, does -/
def AppSays (E : Env) (o : Oper) (a : Act) (s : Operand) (el : TypeId) (sz n : Nat) (L : List (List AV)) (φ : Loc) (w : World) : Prop :=
  (∀ l ∈ L, l.length = sz) ∧ ∃ us, VRL E φ L.flatten us ∧ (∀ u ∈ us, one u = true) ∧
    (∀ base sLen sCap w', a.eval s = .slice base sLen sCap → sLen + n ≤ sCap → (match base with | some ad => (storeCells (ad.add (sLen * sz)) us 0).run E.P w = .ok () w' | none => w' = w) → Runs E.P o a w (.slice base (sLen + n) sCap) w') ∧
    (∀ base sLen sCap old, a.eval s = .slice base sLen sCap → (Builtin.firstCells sz sLen (.slice base sLen sCap)).run E.P w.drew = .ok old w.drew → ¬ sLen + n ≤ sCap → sLen + n < 4194304 →
      ∃ cap rest, sLen + n ≤ cap ∧ rest.length = (cap - (sLen + n)) * sz ∧
        Runs E.P o a w (.slice (some ⟨w.heap.size, 0, none⟩) (sLen + n) cap) { w with heap := w.heap.push (.cells (old.toList ++ us ++ rest).toArray el), drawn := w.drawn + 1 })

theorem RowR.grown {φ : Loc} {m sz : Nat} {pat : List AV} {t : T (List AV)} {C C' : Array Value} (hr : RowR E φ m sz pat t C) {len : Nat} {L : List (List AV)} {us : List Value} (hm : len * sz ≤ m) (hL : ∀ l ∈ L, l.length = sz)
    (hu : VRL E φ L.flatten us) (h1 : ∀ u ∈ us, one u = true) (hs : (len + L.length) * sz ≤ C'.size) (hold : ∀ k, k < len * sz → C'[k]? = C[k]?) (hnew : ∀ j, j < us.length → C'[len * sz + j]? = us[j]?) :
    RowR E φ ((len + L.length) * sz) sz pat (T.lay L t len) C' := by
  have hsz := hr.1
  have hlen := hu.length
  rw [flat_length L hL] at hlen
  refine ⟨hsz, hs, fun i hi => ?_, fun k hk => ?_⟩
  · have hi' : i < len + L.length := Nat.lt_of_mul_lt_mul_right hi
    rw [get_lay]
    split
    · rename_i hin
      have : i - len < L.length := by omega
      rw [List.getElem?_eq_getElem this]
      exact hL _ (List.getElem_mem this)
    · refine hr.2.2.1 i ?_
      have : i * sz < len * sz := Nat.mul_lt_mul_of_pos_right (by omega) hsz
      omega
  · have hk2 := Nat.mod_lt k hsz
    have hb := base_add k sz
    rw [get_lay]
    split
    · rename_i hin
      have hi : k / sz - len < L.length := by omega
      have hle : len * sz ≤ k / sz * sz := Nat.mul_le_mul_right _ hin.1
      have e1 : k - len * sz = (k / sz - len) * sz + k % sz := by rw [Nat.sub_mul]; omega
      have fg := flat_get L hL (k / sz - len) (k % sz) hk2
      rw [List.getElem?_eq_getElem hi] at fg ⊢
      have hl := hL _ (List.getElem_mem hi)
      simp only [Option.bind_some] at fg
      have e3 : L[k / sz - len][k % sz]? = some (L[k / sz - len][k % sz]'(by rw [hl]; exact hk2)) := List.getElem?_eq_getElem (by rw [hl]; exact hk2)
      rw [e3] at fg
      obtain ⟨u, hu1, hu2⟩ := hu.get fg
      refine ⟨_, u, e3, ?_, hu2, h1 u (List.mem_of_getElem? hu1)⟩
      have hjl : k - len * sz < us.length := by rw [e1]; exact (List.getElem?_eq_some_iff.1 hu1).1
      have := hnew (k - len * sz) hjl
      rw [show len * sz + (k - len * sz) = k by omega] at this
      rw [this, e1]; exact hu1
    · rename_i hin
      have hlt : k / sz < len := by
        have : k / sz < len + L.length := by apply Nat.div_lt_of_lt_mul; rw [Nat.mul_comm]; exact hk
        omega
      have hkl : k < len * sz := by
        have : (k / sz + 1) * sz ≤ len * sz := Nat.mul_le_mul_right _ hlt
        rw [Nat.add_mul] at this; omega
      obtain ⟨x, v, q1, q2, q3, q4⟩ := hr.2.2.2 k (by omega)
      exact ⟨x, v, q1, (hold k hkl).trans q2, q3, q4⟩

theorem layA_grown {C : Array Value} {off : Nat} {us : List Value} (hs : off + us.length ≤ C.size) : (∀ k, k < off → (layA C off us)[k]? = C[k]?) ∧ ∀ j, j < us.length → (layA C off us)[off + j]? = us[j]? := by
  refine ⟨fun k hk => ?_, fun j hj => ?_⟩
  · rw [get_layA _ _ _ _ hs, if_neg (by omega)]
  · rw [get_layA _ _ _ _ hs, if_pos (by omega)]; congr 1; omega

theorem same_push (w : World) (x : Obj) (n : Nat) : Same w { w with heap := w.heap.push x, drawn := n } := ⟨rfl, rfl, rfl, by simp⟩

theorem appendTo_ok {s : Operand} {el : TypeId} {sz n : Nat} {L : List (List AV)} {K : Kv} (hsz : 0 < sz) (hsm : n < 4194304) (hLn : L.length = n) (hs : VR E φ₀ (evalO s ts) (a.eval s)) (hd : ∀ c, o.op ≠ .defer c)
    (hsay : ∀ (φ : Loc) (w : World), φ₀.le φ → HR E φ h.t w → AppSays E o a s el sz n L φ w) (g : appendTo sz (evalO s ts) n L h c K = .ok e ts' h₀ c₀) :
    ∃ v h₁ c₁, K v h₁ c₁ = .ok e ts' h₀ c₀ ∧ CxRun E φ₀ o a h c v h₁ c₁ := by
  unfold appendTo at g
  split at g
  · rename_i hse
    rw [hse] at hs; simp only [VR] at hs
    unfold appNil at g
    cases hz : isZ n with
    | true =>
      rw [hz] at g
      have hn := isZ_ok hz
      refine ⟨_, _, _, g, CxRun.of_runs hd fun φ w hle hh _ => ⟨φ, w, .slice none 0 0, Sim.refl hh, rfl, ?_⟩⟩
      obtain ⟨_, us, _, _, hin, _⟩ := hsay φ w hle hh
      have := hin none 0 0 w hs (by omega) rfl
      rw [hn] at this; exact this
    | false =>
      rw [hz] at g
      have hn : 0 < n := by
        cases n with
        | zero => cases hz
        | succ n => omega
      have g : freshRow sz n L h c K = _ := g
      unfold freshRow at g
      rw [fill_eq, new_eq] at g
      refine ⟨_, _, _, g, CxRun.of_runs hd fun φ w hle hh hf => ?_⟩
      obtain ⟨hL, us, hu, h1, _, hgr⟩ := hsay φ w hle hh
      · obtain ⟨cap, rest, hc, hrest, hrun⟩ := hgr none 0 0 #[] hs rfl (by omega) (by omega)
        rw [Nat.zero_add] at hc hrest hrun
        have hrow := RowR.fresh (rest := rest) hsz hL hu h1 (n := n * sz) (by rw [hLn])
        have hfc := hf c (Nat.le_refl _) (by omega)
        refine ⟨_, _, _, Sim.made (N := ((#[] : Array Value).toList ++ us ++ rest).toArray.size) hh hfc (grown_push w _ _) ?_, ?_, hrun⟩
        · refine ⟨w.heap.size, _, el, (0, 0), Loc.add_same .., push_last w _ _, nofz0 _, ?_⟩
          exact hrow.mono (Loc.le_add _ _ hfc)
        · refine ⟨w.heap.size, _, ⟨w.heap.size, 0, none⟩, cap, Loc.add_same .., rfl, Nat.le_refl _, hc, (fun h => by cases h), (fun _ => rfl), (fun _ => ?_), hsz⟩
          have hlen := hu.length
          rw [flat_length L hL, hLn] at hlen
          simp only [List.size_toArray, List.length_append, hlen, hrest]
          rw [Nat.sub_mul]
          have := Nat.mul_le_mul_right sz hc
          simp; omega
  · rename_i b off len cap sz' ex hse
    rw [hse] at hs
    obtain ⟨B, N, ad, cap', hB, hsv, hlc, hcc, hex, had, hN, _⟩ := hs
    obtain ⟨hsz', g1⟩ := guardB_ok g
    have hsz' : sz' = sz := Nat.eq_of_beq_eq_true hsz'
    subst hsz'
    rw [forceN_eq] at g1
    obtain ⟨hn', g2⟩ := guardB_ok g1
    have hn' : len + n < 4194304 := Nat.blt_eq.mp hn'
    unfold appendSl at g2
    have ulen : ∀ {φ : Loc} {us : List Value}, (∀ l ∈ L, l.length = sz') → VRL E φ L.flatten us → us.length = n * sz' := fun hL hu => by
      have hlen := hu.length
      rw [flat_length L hL, hLn] at hlen; exact hlen
    cases hle : Nat.ble (Nat.add len n) cap with
    | true =>
      rw [hle] at g2
      have hle : len + n ≤ cap := Nat.le_of_ble_eq_true hle
      obtain ⟨h', g, hst⟩ := stE_ok g2
      refine ⟨_, _, _, g, CxRun.of_runs hd fun φ w hle' hh _ => ?_⟩
      obtain ⟨hL, us, hu, h1, hin, _⟩ := hsay φ w hle' hh
      have hB' := hle' _ _ hB
      obtain ⟨w', hr, hsim⟩ := (hst E φ us hsz hL hu h1).at_slice (cap' := cap') (off := off) (k := len * sz') hB' had (fun h0 => by
        have : us.length = 0 := by rw [ulen hL hu]; rw [show n = 0 by omega, Nat.zero_mul]
        exact List.length_eq_zero_iff.1 this) hh c
      exact ⟨φ, w', _, hsim, ⟨B, N, ad, cap', hB', rfl, hle, hcc, hex, had, hN, hsz⟩, hin (some ad) len cap' w' hsv (by omega) hr⟩
    | false =>
      rw [hle] at g2
      have hle : ¬ len + n ≤ cap := fun h2 => by
        have : Nat.ble (Nat.add len n) cap = true := Nat.ble_eq.mpr h2
        rw [this] at hle; cases hle
      -- what was there is handed on
      have hold : ∀ {φ : Loc} {w : World}, HR E φ h.t w → ∀ {C : Array Value} {el' : TypeId} {fr : Nat × Nat}, w.heap[B]? = some (.cells C el' fr) → C.size = N → off + len * sz' ≤ C.size →
          (Builtin.firstCells sz' len (.slice (some ad) len cap')).run E.P w.drew = .ok (C.extract off (off + len * sz')) w.drew := by
        intro φ w _ C el' fr hw hCN hlen
        unfold Builtin.firstCells
        by_cases h0 : len = 0
        · subst h0; simp [loadCells, loadCellsFrom]; omega
        · rw [had (by omega)]
          exact run_loadCells (w := w.drew) hw hlen
      cases ex with
      | true =>
        have hcap := hex rfl
        obtain ⟨m, rs, pat, t, old, hb, hm, g3, holdn, hr⟩ := rdE_ok g2
        unfold freshRow at g3
        rw [fill_eq, new_eq] at g3
        refine ⟨_, _, _, g3, CxRun.of_runs hd fun φ w hle' hh hf => ?_⟩
        obtain ⟨hL, us, hu, h1, _, hgr⟩ := hsay φ w hle' hh
        have hB' := hle' _ _ hB
        obtain ⟨B2, C, el', fr, hB2, hw, hfr, hrow⟩ := hh.obj b _ hb
        rw [hB'] at hB2; cases hB2
        obtain ⟨r1, r2, r3⟩ := hr E φ C hsz hrow
        have hC := hrow.2.1
        obtain ⟨k, rest, hc, hrest, hrun⟩ := hgr (some ad) len cap' _ hsv (hold hh hw rfl (by omega)) (by omega) hn'
        have hfc := hf c (Nat.le_refl _) (by omega)
        have hall : ∀ l ∈ appL old L, l.length = sz' := fun l hl => by
          rw [appL_eq, List.mem_append] at hl
          exact hl.elim (r1 l) (hL l)
        have hrow' := RowR.fresh (E := E) (φ := φ) (rest := rest) (L := appL old L) (us := (C.extract off (off + len * sz')).toList ++ us) hsz hall (by rw [appL_eq, List.flatten_append]; exact r2.append hu)
          (fun v hv => (List.mem_append.1 hv).elim (r3 v) (h1 v)) (n := (len + n) * sz') (by rw [appL_eq, List.length_append, holdn, hLn])
        refine ⟨_, _, _, Sim.made (N := ((C.extract off (off + len * sz')).toList ++ us ++ rest).toArray.size) hh hfc (grown_push w _ _) ?_, ?_, hrun⟩
        · exact ⟨w.heap.size, _, el, (0, 0), Loc.add_same .., push_last w _ _, nofz0 _, hrow'.mono (Loc.le_add _ _ hfc)⟩
        · refine ⟨w.heap.size, _, ⟨w.heap.size, 0, none⟩, k, Loc.add_same .., rfl, Nat.le_refl _, hc, (fun h => by cases h), (fun _ => rfl), (fun _ => ?_), hsz⟩
          have e1 := ulen hL hu
          have e2 : ((C.extract off (off + len * sz')).toList).length = len * sz' := extract_len C (by omega)
          simp only [List.size_toArray, List.length_append, e1, e2, hrest]
          rw [Nat.sub_mul]
          have := Nat.mul_le_mul_right sz' hc
          have e3 : (len + n) * sz' = len * sz' + n * sz' := Nat.add_mul ..
          simp; omega
      | false =>
        have g3 : growRow b off len sz' (len + n) L h c K = .ok e ts' h₀ c₀ := g2
        unfold growRow at g3
        split at g3
        · rename_i m rs pat t hb
          obtain ⟨ho, g4⟩ := guardB_ok g3
          have ho := isZ_ok ho
          subst ho
          obtain ⟨hrs, g5⟩ := guardB_ok g4
          have hrs : rs = sz' := Nat.eq_of_beq_eq_true hrs
          subst hrs
          obtain ⟨hm, g6⟩ := guardB_ok g5
          have hm : len * rs ≤ m := Nat.le_of_ble_eq_true hm
          rw [fill_eq, put_eq, new_eq] at g6
          refine ⟨_, _, _, g6, CxRun.of_runs hd fun φ w hle' hh hf => ?_⟩
          obtain ⟨hL, us, hu, h1, hin, hgr⟩ := hsay φ w hle' hh
          have hB' := hle' _ _ hB
          obtain ⟨B2, C, el', fr, hB2, hw, hfr, hrow⟩ := hh.obj b _ hb
          rw [hB'] at hB2; cases hB2
          have hC := hrow.2.1
          have hfc := hf c (Nat.le_refl _) (by omega)
          have e1 := ulen hL hu
          have e3 : (len + n) * rs = len * rs + n * rs := Nat.add_mul ..
          have hbn : h.t.get b ≠ none := by rw [hb]; simp
          by_cases hin' : len + n ≤ cap'
          · -- in its place
            have hN' := hN (by omega)
            have hle3 : (len + n) * rs ≤ cap' * rs := Nat.mul_le_mul_right _ hin'
            have hs1 : len * rs + us.length ≤ C.size := by omega
            have hrunS := run_storeCells (P := E.P) (len * rs) us 0 w C hw hfr (by omega) h1
            obtain ⟨q1, q2⟩ := layA_grown hs1
            have hrow' := hrow.grown hm hL hu h1 (C' := layA C (len * rs) us) (by rw [size_layA, hLn]; omega) q1 q2
            rw [hLn] at hrow'
            have tu := rowTo_turned (w := w) (B := B) (layA C (len * rs) us)
            refine ⟨_, World.rowTo w B (layA C (len * rs) us), .slice (some ad) (len + n) cap', Sim.grow (x := (B, C.size)) hh hfc hbn hB' (.inl rfl) (fun B' _ hne => tu.old B' hne) (fun h => ?_) ⟨tu.tape, tu.os, tu.output, by rw [tu.size]; omega⟩ ?_, ?_, ?_⟩
            · have hlt := (Array.getElem?_eq_some_iff.1 hw).1
              simp at h; omega
            · refine ⟨B, layA C (len * rs) us, el', fr, by rw [size_layA]; exact Loc.add_same .., rowTo_same hw _, by rw [size_layA]; exact hfr, hrow'.mono (Loc.le_add _ _ hfc)⟩
            · exact ⟨B, C.size, ad, cap', Loc.add_same .., rfl, Nat.le_refl _, hin', (fun h => by cases h), had, (fun _ => by omega), hsz⟩
            · refine hin (some ad) len cap' _ hsv hin' ?_
              show (storeCells (ad.add (len * rs)) us 0).run E.P w = _
              rw [had (by omega), add_addr, Nat.zero_add]
              exact hrunS
          · -- a new block
            obtain ⟨k, rest, hc, hrest, hrun⟩ := hgr (some ad) len cap' _ hsv (hold hh hw rfl (by omega)) hin' hn'
            have e2 : (C.extract 0 (0 + len * rs)).toList.length = len * rs := extract_len C (by omega)
            have hrow' := hrow.grown hm hL hu h1 (C' := ((C.extract 0 (0 + len * rs)).toList ++ us ++ rest).toArray) (by simp only [List.size_toArray, List.length_append, e1, e2, hLn]; omega)
              (fun j hj => by
                rw [List.getElem?_toArray, List.append_assoc, List.getElem?_append_left (by omega), extract_get C (by omega) hj, Nat.zero_add])
              (fun j hj => by
                rw [List.getElem?_toArray, List.append_assoc, List.getElem?_append_right (by omega), e2, Nat.add_sub_cancel_left, List.getElem?_append_left hj])
            rw [hLn] at hrow'
            have gr := grown_push w (.cells ((C.extract 0 (0 + len * rs)).toList ++ us ++ rest).toArray el) (w.drawn + 1)
            refine ⟨_, _, _, Sim.grow (x := (w.heap.size, ((C.extract 0 (0 + len * rs)).toList ++ us ++ rest).toArray.size)) hh hfc hbn hB' (.inr rfl) (fun B' hB2 _ => gr.old B' hB2) (fun _ => gr.old B (Array.getElem?_eq_some_iff.1 hw).1)
              (same_push w _ _) ?_, ?_, hrun⟩
            · exact ⟨w.heap.size, _, el, (0, 0), Loc.add_same .., push_last w _ _, nofz0 _, hrow'.mono (Loc.le_add _ _ hfc)⟩
            · refine ⟨w.heap.size, _, ⟨w.heap.size, 0, none⟩, k, Loc.add_same .., rfl, Nat.le_refl _, hc, (fun h => by cases h), (fun _ => rfl), (fun _ => ?_), hsz⟩
              simp only [List.size_toArray, List.length_append, e1, e2, hrest]
              rw [Nat.sub_mul]
              have := Nat.mul_le_mul_right rs hc
              omega
        · cases g3
  · cases g
end
end Go.AE
