import Derived.Test.YtbnakfpdmiibdaaAEBuild
namespace Go.AE
section
variable {E : Env} {e : Ex} {ts' : Tm} {h : Hs} {h₀ : Hs} {c : Nat}

/-- cells laid into block b from off on -/
def StOk (E : Env) (φ : Loc) (h : Hs) (b off : Nat) (us : List Value) (h' : Hs) : Prop :=
  ∀ (w : World) (c : Nat), HR E φ h.t w → ∃ B N w', φ b = some (B, N) ∧ (storeCells ⟨B, off, none⟩ us 0).run E.P w = .ok () w' ∧ Sim E φ h c w φ h' c w'

theorem row_put {φ : Loc} {b n sz : Nat} {pat : List AV} {t t' : T (List AV)} {off : Nat} {us : List Value} (hb : h.t.get b = some (.row n sz pat t)) (h1 : ∀ x ∈ us, one x = true)
    (hr : ∀ C, RowR E φ n sz pat t C → off + us.length ≤ C.size ∧ RowR E φ n sz pat t' (layA C off us)) : StOk E φ h b off us (h.putD b (some (.row n sz pat t'))) := by
  intro w c hh
  obtain ⟨B, C, el, fr, hB, hw, hfr, hrow⟩ := hh.obj b _ hb
  obtain ⟨r1, r2⟩ := hr C hrow
  have hrun := run_storeCells (P := E.P) off us 0 w C hw hfr (by omega) h1
  refine ⟨B, C.size, _, hB, hrun, ?_⟩
  refine Sim.put hh (by rw [hb]; simp) hB (rowTo_turned _) ⟨B, layA C off us, el, fr, by rw [size_layA]; exact hB, rowTo_same hw _, by rw [size_layA]; exact hfr, r2⟩

theorem stN_ok {b off : Nat} {l : List AV} {K : Hs → Out} (g : stN h b off l K = .ok e ts' h₀ c) :
    ∃ h' n sz pat t, h.t.get b = some (.row n sz pat t) ∧ off + l.length ≤ n ∧ K h' = .ok e ts' h₀ c ∧ ∀ (E : Env) (φ : Loc) (us : List Value), VRL E φ l us → (∀ x ∈ us, one x = true) → StOk E φ h b off us h' := by
  unfold stN at g
  split at g
  · rename_i n sz pat t hb
    obtain ⟨hn, g⟩ := guardB_ok g
    have hn : off + lenL l ≤ n := Nat.le_of_ble_eq_true hn
    obtain ⟨hm, g⟩ := guardB_ok g
    have hm : off % sz + lenL l ≤ sz := Nat.le_of_ble_eq_true hm
    rw [ins_eq, put_eq] at g
    refine ⟨_, n, sz, pat, t, hb, by rw [← lenL_eq]; exact hn, g, fun E φ us hu h1 => ?_⟩
    rw [lenL_eq] at hn hm
    refine row_put hb h1 fun C hr => ⟨by have := hr.2.1; have := hu.length; omega, ?_⟩
    refine hr.put hn hm hu h1 _ fun hlt => ?_
    have hel := hr.2.2.1 _ hlt
    have ediv : Nat.div off sz = off / sz := rfl
    have emod : Nat.mod off sz = off % sz := rfl
    cases hb2 : Nat.beq (lenL l) sz with
    | true =>
      have hb2 : lenL l = sz := Nat.eq_of_beq_eq_true hb2
      rw [lenL_eq] at hb2
      have h0 : off % sz = 0 := by omega
      show l = _
      rw [h0]
      simp only [List.take_zero, List.nil_append, Nat.zero_add]
      rw [List.drop_eq_nil_of_le (by omega)]
      simp
    | false =>
      show splice l (Nat.mod off sz) (elemAt pat (t.get (Nat.div off sz))) = _
      rw [ediv, emod, splice_eq _ _ _ (by omega)]
  · cases g

theorem stE_ok {b off sz : Nat} {L : List (List AV)} {K : Hs → Out} (g : stE h b off sz L K = .ok e ts' h₀ c) :
    ∃ h', K h' = .ok e ts' h₀ c ∧ ∀ (E : Env) (φ : Loc) (us : List Value), 0 < sz → (∀ l ∈ L, l.length = sz) → VRL E φ L.flatten us → (∀ x ∈ us, one x = true) → StOk E φ h b off us h' := by
  unfold stE at g
  split at g
  · rename_i n rs pat t hb
    obtain ⟨hn, g⟩ := guardB_ok g
    have hn : off + lenL L * sz ≤ n := Nat.le_of_ble_eq_true hn
    rw [lenL_eq] at hn
    cases he : Nat.beq rs sz with
    | false =>
      rw [he] at g
      have g : stN h b off (flat L) K = _ := g
      obtain ⟨h', _, _, _, _, _, _, g, hs⟩ := stN_ok g
      rw [flat_eq] at hs
      exact ⟨h', g, fun E φ us _ _ hu h1 => hs E φ us hu h1⟩
    | true =>
      rw [he] at g
      have he : rs = sz := Nat.eq_of_beq_eq_true he
      subst he
      obtain ⟨hm, g⟩ := guardB_ok g
      have hm : off % rs = 0 := Nat.eq_of_beq_eq_true hm
      rw [fill_eq, put_eq] at g
      refine ⟨_, g, fun E φ us _ hL hu h1 => ?_⟩
      have hlen := hu.length
      rw [flat_length L hL] at hlen
      exact row_put hb h1 fun C hr => ⟨by have := hr.2.1; omega, hr.lay hn hm hL hu h1⟩
  · cases g

/-- nothing laid -/
theorem StOk.nil {φ : Loc} {b off : Nat} {h' : Hs} (s : StOk E φ h b off [] h') {w : World} (hh : HR E φ h.t w) (c : Nat) : Sim E φ h c w φ h' c w := by
  obtain ⟨B, N, w', _, hr, hs⟩ := s w c hh
  have : w' = w := by
    simp only [storeCells, Sem.run_pure] at hr
    cases hr; rfl
  rw [this] at hs; exact hs

/-- as a slice's own address has it -/
theorem StOk.at_slice {φ : Loc} {b off k cap' N B : Nat} {ad : Addr} {us : List Value} {h' : Hs} (s : StOk E φ h b (off + k) us h') (hb : φ b = some (B, N)) (had : 0 < cap' → ad = ⟨B, off, none⟩) (hu : cap' = 0 → us = [])
    {w : World} (hh : HR E φ h.t w) (c : Nat) : ∃ w', (storeCells (ad.add k) us 0).run E.P w = .ok () w' ∧ Sim E φ h c w φ h' c w' := by
  by_cases hc : cap' = 0
  · have := hu hc
    subst this
    exact ⟨w, rfl, s.nil hh c⟩
  · obtain ⟨B', N', w', hb', hr, hs⟩ := s w c hh
    rw [hb] at hb'; cases hb'
    refine ⟨w', ?_, hs⟩
    rw [had (by omega), add_addr]; exact hr

/-! ### sources -/
def SrcOk (E : Env) (h : Hs) (sz n : Nat) (x : AV) (L : List (List AV)) : Prop :=
  L.length = n ∧ ∀ (φ : Loc) (w : World) (v : Value), 0 < sz → HR E φ h.t w → VR E φ x v →
    (∀ l ∈ L, l.length = sz) ∧ ∃ us, VRL E φ L.flatten us ∧ (∀ u ∈ us, one u = true) ∧ ∀ k, (Builtin.firstCells sz n v).run E.P { w with drawn := k } = .ok us.toArray { w with drawn := k }

theorem srcE_ok {sz n : Nat} {x : AV} {K : List (List AV) → Out} (g : srcE sz h x n K = .ok e ts' h₀ c) : ∃ L, K L = .ok e ts' h₀ c ∧ SrcOk E h sz n x L := by
  unfold srcE at g
  split at g
  · obtain ⟨hz, g⟩ := guardB_ok g
    have hz := isZ_ok hz
    subst hz
    refine ⟨_, g, rfl, fun φ w v _ _ hv => ⟨fun l hl => (by cases hl), [], VRL_nil, fun u hu => (by cases hu), fun k => ?_⟩⟩
    simp only [VR] at hv; subst hv
    rfl
  · rename_i b off len cap s ex
    obtain ⟨hs, g⟩ := guardB_ok g
    have hs : s = sz := Nat.eq_of_beq_eq_true hs
    subst hs
    obtain ⟨hnl, g2⟩ := guardB_ok g
    have hnl : n ≤ len := Nat.le_of_ble_eq_true hnl
    obtain ⟨m, rs, pat, t, L, hb, hn, g, hL, hr⟩ := rdE_ok g2
    refine ⟨L, g, hL, fun φ w v hsz hh hv => ?_⟩
    obtain ⟨B, N, ad, cap', hB, rfl, hlc, hcc, _, had, hN, _⟩ := hv
    obtain ⟨B', C, el, fr, hB', hw, hfr, hrow⟩ := hh.obj b _ hb
    rw [hB] at hB'; cases hB'
    obtain ⟨r1, r2, r3⟩ := hr E φ C hsz hrow
    refine ⟨r1, _, r2, r3, fun k => ?_⟩
    unfold Builtin.firstCells
    have hC := hrow.2.1
    by_cases h0 : cap' = 0
    · have hn0 : n = 0 := by omega
      subst hn0
      simp [loadCells, loadCellsFrom]
    · rw [had (by omega)]
      have := run_loadCells (P := E.P) (w := { w with drawn := k }) hw (show off + n * s ≤ C.size by omega)
      rw [this]
  · rename_i s
    obtain ⟨hs, g1⟩ := guardB_ok g
    have hs : sz = 1 := Nat.eq_of_beq_eq_true hs
    subst hs
    obtain ⟨hn, g2⟩ := guardB_ok g1
    have hn : n ≤ lenL s := Nat.le_of_ble_eq_true hn
    rw [lenL_eq] at hn
    rw [ktake_eq] at g2
    obtain ⟨m1, m2, m3⟩ := map_bytes (s.take n)
    refine ⟨_, g2, by rw [m1]; simp; omega, fun φ w v _ _ hv => ⟨m2, (s.take n).map fun b => Value.int .u8 b.toNat, by rw [m3]; exact bytes_VRL E φ _, fun u hu => ?_, fun k => ?_⟩⟩
    · obtain ⟨b, _, rfl⟩ := List.mem_map.1 hu; rfl
    simp only [VR] at hv; subst hv
    unfold Builtin.firstCells
    simp only [Sem.run_pure]
    congr 1
    apply Array.ext'
    simp [ByteArray.data_extract]
  · cases g
end
end Go.AE
