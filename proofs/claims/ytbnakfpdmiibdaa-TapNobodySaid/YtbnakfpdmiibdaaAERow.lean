import Derived.Test.YtbnakfpdmiibdaaAECell
namespace Go.AE

theorem in_elem {o sz j : Nat} (hs : 0 < sz) (h : o % sz + j < sz) : (o + j) / sz = o / sz ∧ (o + j) % sz = o % sz + j := by
  have e : o + j = (o % sz + j) + sz * (o / sz) := by have := Nat.div_add_mod o sz; omega
  rw [e, Nat.add_mul_div_left _ _ hs, Nat.add_mul_mod_self_left, Nat.div_eq_of_lt h, Nat.mod_eq_of_lt h]
  simp
theorem base_le (o sz : Nat) : o / sz * sz ≤ o := Nat.div_mul_le_self o sz
theorem base_add (o sz : Nat) : o / sz * sz + o % sz = o := by rw [Nat.mul_comm]; exact Nat.div_add_mod o sz

theorem flat_eq (l : List (List AV)) : flat l = l.flatten := by
  induction l with
  | nil => rfl
  | cons a l ih => show appL a (flat l) = _; rw [appL_eq, ih]; rfl

theorem flat_get {α : Type} {sz : Nat} : ∀ (L : List (List α)), (∀ l ∈ L, l.length = sz) → ∀ i f, f < sz → L.flatten[i * sz + f]? = (L[i]?).bind (·[f]?)
  | [], _, i, f, _ => by simp
  | a :: L, h, i, f, hf => by
    have ha := h a (List.mem_cons_self ..)
    rw [List.flatten_cons]
    cases i with
    | zero => simp [List.getElem?_append, ha, hf]
    | succ i =>
      have e : (i + 1) * sz + f = (i * sz + f) + sz := by rw [Nat.add_mul]; omega
      rw [List.getElem?_append_right (by omega), ha, e, Nat.add_sub_cancel]
      exact flat_get L (fun l hl => h l (List.mem_cons_of_mem _ hl)) i f hf
theorem flat_length {α : Type} {sz : Nat} : ∀ (L : List (List α)), (∀ l ∈ L, l.length = sz) → L.flatten.length = L.length * sz
  | [], _ => by simp
  | a :: L, h => by
    rw [List.flatten_cons, List.length_append, flat_length L (fun l hl => h l (List.mem_cons_of_mem _ hl)), h a (List.mem_cons_self ..), List.length_cons, Nat.add_mul]
    omega

section
variable {E : Env} {φ : Loc} {n sz : Nat} {pat : List AV} {t : T (List AV)} {C : Array Value}

theorem VRL.all {l : List AV} {m : List Value} (hl : m.length = l.length) (h : ∀ (j : Nat) (a : AV), l[j]? = some a → ∃ v, m[j]? = some v ∧ VR E φ a v) : VRL E φ l m :=
  VRL.of_get hl fun i a v ha hv => by obtain ⟨u, hu, hr⟩ := h i a ha; rw [hu] at hv; cases hv; exact hr

theorem extract_get (C : Array Value) {o m j : Nat} (hm : o + m ≤ C.size) (hj : j < m) : (C.extract o (o + m)).toList[j]? = C[o + j]? := by
  rw [Array.toList_extract, List.extract_eq_take_drop, List.getElem?_take, if_pos (by omega), List.getElem?_drop]
  simp
theorem extract_len (C : Array Value) {o m : Nat} (hm : o + m ≤ C.size) : (C.extract o (o + m)).toList.length = m := by simp; omega

/-- one cell -/
theorem RowR.cell1 {R : Type} (h : RowR E φ n sz pat t C) {o : Nat} (ho : o < n) {K : AV → Option R} {x : R} :
    (match kidx (Nat.mod o sz) (elemAt pat (t.get (Nat.div o sz))) with | some a => K a | none => none) = some x → ∃ a v, K a = some x ∧ C[o]? = some v ∧ VR E φ a v := by
  obtain ⟨a, v, h1, h2, h3, _⟩ := h.2.2.2 o ho
  have e : kidx (Nat.mod o sz) (elemAt pat (t.get (Nat.div o sz))) = some a := by rw [kidx_eq]; exact h1
  rw [e]
  exact fun hk => ⟨a, v, hk, h2, h3⟩

/-- cells within one element -/
theorem RowR.within (h : RowR E φ n sz pat t C) {o m : Nat} (ho : o + m ≤ n) (hm : o % sz + m ≤ sz) (l : List AV)
    (hl : ∀ j, j < m → l[j]? = (elemAt pat (t.get (o / sz)))[o % sz + j]?) (hlen : l.length = m) :
    VRL E φ l (C.extract o (o + m)).toList ∧ ∀ v ∈ (C.extract o (o + m)).toList, AE.one v = true := by
  have hC := h.2.1
  have cell : ∀ j, j < m → ∃ a v, l[j]? = some a ∧ (C.extract o (o + m)).toList[j]? = some v ∧ VR E φ a v ∧ AE.one v = true := fun j hj => by
    obtain ⟨a, v, h1, h2, h3, h4⟩ := h.2.2.2 (o + j) (by omega)
    obtain ⟨e1, e2⟩ := in_elem (o := o) (j := j) h.1 (by omega)
    rw [e1, e2] at h1
    exact ⟨a, v, (hl j hj).trans h1, (extract_get C (by omega) hj).trans h2, h3, h4⟩
  constructor
  · refine VRL.all (by rw [extract_len C (by omega), hlen]) fun j a ha => ?_
    have hj : j < m := by have := (List.getElem?_eq_some_iff.1 ha).1; omega
    obtain ⟨a', v, h1, h2, h3, _⟩ := cell j hj
    rw [h1] at ha; cases ha
    exact ⟨v, h2, h3⟩
  · intro v hv
    obtain ⟨j, hj⟩ := List.getElem?_of_mem hv
    have hjm : j < m := by have := (List.getElem?_eq_some_iff.1 hj).1; rw [extract_len C (by omega)] at this; exact this
    obtain ⟨a', v', _, h2, _, h4⟩ := cell j hjm
    rw [h2] at hj; cases hj
    exact h4

theorem RowR.elem_len (h : RowR E φ n sz pat t C) {o m : Nat} (ho : o + m ≤ n) (hm : 0 < m) : (elemAt pat (t.get (o / sz))).length = sz :=
  h.2.2.1 _ (by have := base_le o sz; omega)

/-- cells are laid into one element -/
theorem RowR.put (h : RowR E φ n sz pat t C) {o : Nat} {l : List AV} {us : List Value} (ho : o + l.length ≤ n) (hm : o % sz + l.length ≤ sz) (hu : VRL E φ l us) (h1 : ∀ v ∈ us, AE.one v = true)
    (x : List AV) (hx : (o / sz) * sz < n → x = (elemAt pat (t.get (o / sz))).take (o % sz) ++ l ++ (elemAt pat (t.get (o / sz))).drop (o % sz + l.length)) :
    RowR E φ n sz pat (t.set (o / sz) (some x)) (layA C o us) := by
  have hlen := hu.length
  have hsz := h.1
  have hC := h.2.1
  have xlen : (o / sz) * sz < n → x.length = sz := fun hb => by
    have := h.2.2.1 _ hb
    rw [hx hb]; simp [this]; omega
  refine ⟨hsz, by rw [size_layA]; exact hC, fun i hi => ?_, fun k hk => ?_⟩
  · rw [get_set]
    split
    · rename_i e; subst e; exact xlen hi
    · exact h.2.2.1 i hi
  · rw [get_layA _ _ _ _ (by omega), get_set]
    obtain ⟨a, v, g1, g2, g3, g4⟩ := h.2.2.2 k hk
    by_cases e : o / sz = k / sz
    · rw [if_pos e]
      have hb : (o / sz) * sz < n := by rw [e]; have := base_le k sz; omega
      have el := h.2.2.1 _ hb
      have b1 := base_add o sz
      have b2 := base_add k sz
      rw [← e] at b2 g1
      show ∃ a v, x[k % sz]? = _ ∧ _
      rw [hx hb]
      by_cases hin : o ≤ k ∧ k < o + us.length
      · rw [if_pos hin]
        have hj : (k - o) < l.length := by omega
        obtain ⟨u, hu1, hu2⟩ := hu.get (List.getElem?_eq_getElem hj)
        refine ⟨l[k - o], u, ?_, hu1, hu2, h1 u (List.mem_of_getElem? hu1)⟩
        rw [List.getElem?_append_left (by simp; omega), List.getElem?_append_right (by simp; omega)]
        have : k % sz - ((elemAt pat (t.get (o / sz))).take (o % sz)).length = k - o := by
          rw [List.length_take, Nat.min_eq_left (by omega)]; omega
        rw [this]; exact List.getElem?_eq_getElem hj
      · rw [if_neg hin]
        refine ⟨a, v, ?_, g2, g3, g4⟩
        rw [← g1]
        have tl : ((elemAt pat (t.get (o / sz))).take (o % sz)).length = o % sz := by rw [List.length_take, Nat.min_eq_left (by omega)]
        by_cases hlt : k < o
        · rw [List.append_assoc, List.getElem?_append_left (by omega), List.getElem?_take, if_pos (by omega)]
        · rw [List.getElem?_append_right (by simp; omega), List.getElem?_drop]
          congr 1
          simp only [List.length_append, tl]; omega
    · rw [if_neg e]
      have hin : ¬ (o ≤ k ∧ k < o + us.length) := by
        rintro ⟨p, q⟩
        have := (in_elem (o := o) (j := k - o) hsz (by omega)).1
        rw [show o + (k - o) = k by omega] at this
        exact e this.symm
      rw [if_neg hin]
      exact ⟨a, v, g1, g2, g3, g4⟩

/-- whole elements are laid -/
theorem RowR.lay (h : RowR E φ n sz pat t C) {o : Nat} {L : List (List AV)} {us : List Value} (ho : o + L.length * sz ≤ n) (ha : o % sz = 0) (hL : ∀ l ∈ L, l.length = sz) (hu : VRL E φ L.flatten us)
    (h1 : ∀ v ∈ us, AE.one v = true) : RowR E φ n sz pat (T.lay L t (o / sz)) (layA C o us) := by
  have hlen := hu.length
  rw [flat_length L hL] at hlen
  have hsz := h.1
  have hC := h.2.1
  have b1 := base_add o sz
  refine ⟨hsz, by rw [size_layA]; exact hC, fun i hi => ?_, fun k hk => ?_⟩
  · rw [get_lay]
    split
    · rename_i hin
      have : i - o / sz < L.length := by omega
      rw [List.getElem?_eq_getElem this]
      exact hL _ (List.getElem_mem this)
    · exact h.2.2.1 i hi
  · rw [get_layA _ _ _ _ (by omega), get_lay]
    obtain ⟨a, v, g1, g2, g3, g4⟩ := h.2.2.2 k hk
    have b2 := base_add k sz
    have hk2 := Nat.mod_lt k hsz
    by_cases hin : o / sz ≤ k / sz ∧ k / sz < o / sz + L.length
    · rw [if_pos hin]
      have hi : k / sz - o / sz < L.length := by omega
      have hle : o / sz * sz ≤ k / sz * sz := Nat.mul_le_mul_right _ hin.1
      have e : k - o = (k / sz - o / sz) * sz + k % sz := by rw [Nat.sub_mul]; omega
      have hk3 : k < o + us.length := by
        have : (k / sz - o / sz + 1) * sz ≤ L.length * sz := Nat.mul_le_mul_right _ (by omega)
        rw [Nat.add_mul] at this
        omega
      rw [if_pos ⟨by omega, hk3⟩, e]
      have fg := flat_get L hL (k / sz - o / sz) (k % sz) hk2
      rw [List.getElem?_eq_getElem hi] at fg
      have hl := hL _ (List.getElem_mem hi)
      simp only [Option.bind_some] at fg
      have e3 : L[k / sz - o / sz][k % sz]? = some (L[k / sz - o / sz][k % sz]'(by rw [hl]; exact hk2)) := List.getElem?_eq_getElem (by rw [hl]; exact hk2)
      rw [e3] at fg
      obtain ⟨u, hu1, hu2⟩ := hu.get fg
      rw [List.getElem?_eq_getElem hi]
      exact ⟨_, u, e3, hu1, hu2, h1 u (List.mem_of_getElem? hu1)⟩
    · rw [if_neg hin]
      have : ¬ (o ≤ k ∧ k < o + us.length) := by
        rintro ⟨p, q⟩
        apply hin
        have h1 : o / sz ≤ k / sz := Nat.div_le_div_right p
        refine ⟨h1, ?_⟩
        have : k / sz < (o + L.length * sz) / sz + 0 := by
          rw [Nat.add_zero]
          apply Nat.div_lt_of_lt_mul
          have : (o + L.length * sz) / sz = o / sz + L.length := by rw [Nat.add_mul_div_right _ _ hsz]
          rw [this, Nat.mul_comm, Nat.add_mul]; omega
        rw [Nat.add_zero, Nat.add_mul_div_right _ _ hsz] at this
        exact this
      rw [if_neg this]
      exact ⟨a, v, g1, g2, g3, g4⟩

/-- a new row of whole elements -/
theorem RowR.fresh {L : List (List AV)} {us rest : List Value} (hsz : 0 < sz) (hL : ∀ l ∈ L, l.length = sz) (hu : VRL E φ L.flatten us) (h1 : ∀ v ∈ us, AE.one v = true) (hn : n = L.length * sz) :
    RowR E φ n sz [] (T.lay L .e 0) (us ++ rest).toArray := by
  have hlen := hu.length
  rw [flat_length L hL] at hlen
  refine ⟨hsz, by simp; omega, fun i hi => ?_, fun k hk => ?_⟩
  · have hi' : i < L.length := by rw [hn] at hi; exact Nat.lt_of_mul_lt_mul_right hi
    rw [get_lay, if_pos ⟨Nat.zero_le _, by omega⟩, Nat.sub_zero, List.getElem?_eq_getElem hi']
    exact hL _ (List.getElem_mem hi')
  · have hk2 := Nat.mod_lt k hsz
    have hi : k / sz < L.length := by apply Nat.div_lt_of_lt_mul; rw [Nat.mul_comm]; omega
    rw [get_lay, if_pos ⟨Nat.zero_le _, by omega⟩, Nat.sub_zero]
    have fg := flat_get L hL (k / sz) (k % sz) hk2
    rw [base_add, List.getElem?_eq_getElem hi] at fg
    have hl := hL _ (List.getElem_mem hi)
    simp only [Option.bind_some] at fg
    have e3 : L[k / sz][k % sz]? = some (L[k / sz][k % sz]'(by rw [hl]; exact hk2)) := List.getElem?_eq_getElem (by rw [hl]; exact hk2)
    rw [e3] at fg
    obtain ⟨u, hu1, hu2⟩ := hu.get fg
    rw [List.getElem?_eq_getElem hi]
    refine ⟨_, u, e3, ?_, hu2, h1 u (List.mem_of_getElem? hu1)⟩
    rw [List.getElem?_toArray, List.getElem?_append_left (by omega)]; exact hu1

/-- elements looked at -/
theorem elems_len (pat : List AV) (t : T (List AV)) : ∀ k i, (elems pat t k i).length = k
  | 0, _ => rfl
  | k + 1, i => by show (elemAt pat (t.get i) :: elems pat t k (Nat.succ i)).length = _; rw [List.length_cons, elems_len pat t k]
theorem elems_get (pat : List AV) (t : T (List AV)) : ∀ k i j, j < k → (elems pat t k i)[j]? = some (elemAt pat (t.get (i + j)))
  | 0, _, _, h => by omega
  | k + 1, i, j, h => by
    show (elemAt pat (t.get i) :: elems pat t k (Nat.succ i))[j]? = _
    cases j with
    | zero => rfl
    | succ j => rw [List.getElem?_cons_succ, elems_get pat t k _ j (by omega)]; congr 3; omega

theorem RowR.elems (h : RowR E φ n sz pat t C) {o k : Nat} (ho : o + k * sz ≤ n) (ha : o % sz = 0) :
    (∀ l ∈ AE.elems pat t k (o / sz), l.length = sz) ∧ VRL E φ (AE.elems pat t k (o / sz)).flatten (C.extract o (o + k * sz)).toList ∧ ∀ v ∈ (C.extract o (o + k * sz)).toList, AE.one v = true := by
  have hsz := h.1
  have hC := h.2.1
  have b1 := base_add o sz
  have hL : ∀ l ∈ AE.elems pat t k (o / sz), l.length = sz := fun l hl => by
    obtain ⟨j, hj⟩ := List.getElem?_of_mem hl
    have hjk : j < k := by have := (List.getElem?_eq_some_iff.1 hj).1; rw [elems_len] at this; exact this
    rw [elems_get _ _ _ _ _ hjk] at hj; cases hj
    refine h.2.2.1 _ ?_
    have : (j + 1) * sz ≤ k * sz := Nat.mul_le_mul_right _ (by omega)
    rw [Nat.add_mul] at this ⊢; omega
  have fl := flat_length _ hL
  rw [elems_len] at fl
  have cell : ∀ j, j < k * sz → ∃ a v, (AE.elems pat t k (o / sz)).flatten[j]? = some a ∧ (C.extract o (o + k * sz)).toList[j]? = some v ∧ VR E φ a v ∧ AE.one v = true := fun j hj => by
    obtain ⟨a, v, h1, h2, h3, h4⟩ := h.2.2.2 (o + j) (by omega)
    have hj2 := Nat.mod_lt j hsz
    have hi : j / sz < k := by apply Nat.div_lt_of_lt_mul; rw [Nat.mul_comm]; omega
    have e1 : (o + j) / sz = o / sz + j / sz := by
      have : o + j = j + sz * (o / sz) := by rw [Nat.mul_comm]; omega
      rw [this, Nat.add_mul_div_left _ _ hsz]; omega
    have e2 : (o + j) % sz = j % sz := by
      have : o + j = j + sz * (o / sz) := by rw [Nat.mul_comm]; omega
      rw [this, Nat.add_mul_mod_self_left]
    rw [e1, e2] at h1
    refine ⟨a, v, ?_, (extract_get C (by omega) hj).trans h2, h3, h4⟩
    have fg := flat_get _ hL (j / sz) (j % sz) hj2
    rw [base_add, elems_get _ _ _ _ _ hi] at fg
    rw [fg]; exact h1
  refine ⟨hL, VRL.all (by rw [extract_len C (by omega), fl]) fun j a haj => ?_, fun v hv => ?_⟩
  · have hj : j < k * sz := by have := (List.getElem?_eq_some_iff.1 haj).1; omega
    obtain ⟨a', v, h1, h2, h3, _⟩ := cell j hj
    rw [h1] at haj; cases haj
    exact ⟨v, h2, h3⟩
  · obtain ⟨j, hj⟩ := List.getElem?_of_mem hv
    have hjm : j < k * sz := by have := (List.getElem?_eq_some_iff.1 hj).1; rw [extract_len C (by omega)] at this; exact this
    obtain ⟨a', v', _, h2, _, h4⟩ := cell j hjm
    rw [h2] at hj; cases hj
    exact h4

theorem chunk_flat (sz : Nat) : ∀ (k : Nat) (l : List AV), (chunk sz k l).flatten = l.take (k * sz)
  | 0, l => by show ([] : List (List AV)).flatten = _; simp
  | k + 1, l => by
    show (ktake sz l :: chunk sz k (kdrop sz l)).flatten = _
    rw [List.flatten_cons, chunk_flat sz k, ktake_eq, kdrop_eq, Nat.add_mul, Nat.one_mul, Nat.add_comm (k * sz), List.take_add]
theorem chunk_len (sz : Nat) : ∀ (k : Nat) (l : List AV), k * sz ≤ l.length → ∀ x ∈ chunk sz k l, x.length = sz
  | 0, _, _, x, hx => by have h : x ∈ ([] : List (List AV)) := hx; cases h
  | k + 1, l, h, x, hx => by
    rw [Nat.add_mul] at h
    have hx' : x ∈ ktake sz l :: chunk sz k (kdrop sz l) := hx
    rw [List.mem_cons] at hx'
    rcases hx' with rfl | hx'
    · rw [ktake_eq]; simp; omega
    · refine chunk_len sz k _ ?_ x hx'
      rw [kdrop_eq]; simp; omega
theorem chunk_count (sz : Nat) : ∀ (k : Nat) (l : List AV), (chunk sz k l).length = k
  | 0, _ => rfl
  | k + 1, l => by show (ktake sz l :: chunk sz k (kdrop sz l)).length = _; rw [List.length_cons, chunk_count sz k]
end
end Go.AE
