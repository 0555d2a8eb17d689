import Derived.Test.YtbnakfpdmiibdaaAEPure2
import Derived.Laws.IdiomStrings
namespace Go.AE
section
variable {E : Env} {φ : Loc} {o : Oper} {a : Act} {ts : Tm} {K : Kc} {e : Ex} {ts' : Tm} {h : Hs} {c : Nat}

theorem grown_push (w : World) (x : Obj) (n : Nat) : Grown w { w with heap := w.heap.push x, drawn := n } :=
  ⟨by simp, fun B hB => by rw [Array.getElem?_push, if_neg (by omega)], rfl, rfl, rfl⟩
theorem grown_alloc (w : World) (x : Obj) : Grown w (w.alloc x) := grown_push w x w.drawn
theorem grown_drew_alloc (w : World) (x : Obj) : Grown w (w.drew.alloc x) := grown_push w x (w.drawn + 1)
theorem push_last (w : World) (x : Obj) (n : Nat) : ({ w with heap := w.heap.push x, drawn := n } : World).heap[w.heap.size]? = some x := by simp
theorem alloc_last (w : World) (x : Obj) : (w.alloc x).heap[w.heap.size]? = some x := push_last w x w.drawn
theorem drew_alloc_last (w : World) (x : Obj) : (w.drew.alloc x).heap[w.heap.size]? = some x := push_last w x (w.drawn + 1)
theorem grownCap_ge (w : World) (need old : Nat) (e : TypeId) : need ≤ grownCap w need old e := by
  show need ≤ need + _; omega

theorem ofList_lay {α : Type} (l : List α) : T.ofList l = T.lay l .e 0 := by
  unfold T.ofList; rw [fill_eq]
theorem RowR.pat {E : Env} {φ : Loc} {n sz : Nat} {pat pat' : List AV} {t : T (List AV)} {C : Array Value} (h : RowR E φ n sz pat t C) (ht : ∀ i, i * sz < n → t.get i ≠ none) : RowR E φ n sz pat' t C := by
  have key : ∀ i, i * sz < n → elemAt pat' (t.get i) = elemAt pat (t.get i) := fun i hi => by
    cases hg : t.get i with
    | none => exact absurd hg (ht i hi)
    | some l => rfl
  refine ⟨h.1, h.2.1, fun i hi => by rw [key i hi]; exact h.2.2.1 i hi, fun k hk => ?_⟩
  rw [key _ (by have := base_le k sz; omega)]
  exact h.2.2.2 k hk
theorem isU8_ok (T : TabOk E) {t : TypeId} {K : Out} (g : isU8 E t K = .ok e ts' h c) : E.P.underlying t = some (.int .u8) ∧ K = .ok e ts' h c := by
  unfold isU8 at g
  obtain ⟨d, hd, g⟩ := und_ok T g
  split at g
  · rename_i k
    split at g
    · exact ⟨hd, g⟩
    · cases g
  · cases g

theorem map_bytes (s : List UInt8) : (mapL byteE s).length = s.length ∧ (∀ l ∈ mapL byteE s, l.length = 1) ∧ (mapL byteE s).flatten = s.map byteV := by
  rw [mapL_eq]
  refine ⟨by simp, ?_, ?_⟩
  · intro l hl; simp at hl; obtain ⟨b, _, rfl⟩ := hl; rfl
  · induction s with
    | nil => rfl
    | cons b s ih => simp only [List.map_cons, List.flatten_cons, ih]; rfl
theorem bytes_VRL (E : Env) (φ : Loc) : ∀ s : List UInt8, VRL E φ (s.map byteV) (s.map fun b => Value.int .u8 b.toNat)
  | [] => VRL_nil
  | b :: s => VRL_cons rfl (bytes_VRL E φ s)

theorem isByte_ok {φ : Loc} {x : AV} {v : Value} (hx : isByte x = true) (hv : VR E φ x v) : v = .int .u8 ((byteOf x).toNat : Int) := by
  unfold isByte at hx
  split at hx
  · rename_i k n
    split at hx
    · split at hx
      · rename_i n
        have hn := Nat.blt_eq.mp hx
        have hv : v = .int .u8 (Int.ofNat n) := hv
        rw [hv]
        simp only [byteOf, UInt8.toNat_ofNat']
        congr 1
        have hn' : n < 256 := hn
        have : n % 2 ^ 8 = n := Nat.mod_eq_of_lt hn'
        rw [this]; rfl
      · cases hx
    · cases hx
  · cases hx
theorem allBytes_ok {φ : Loc} : ∀ {l : List AV} {m : List Value}, allBytes l = true → VRL E φ l m → m = (mapL byteOf l).map fun b => Value.int .u8 b.toNat := by
  intro l
  induction l with
  | nil => intro m _ hv; simp only [VRL] at hv; subst hv; rfl
  | cons x l ih =>
    intro m hl hv
    simp only [VRL] at hv
    obtain ⟨v, r, rfl, hx, hr⟩ := hv
    have hl' : Bool.rec (motive := fun _ => Bool) false (allBytes l) (isByte x) = true := hl
    cases hb : isByte x with
    | false => rw [hb] at hl'; cases hl'
    | true =>
      rw [hb] at hl'
      rw [isByte_ok hb hx, ih hl' hr]
      rfl

/-- elements looked at, as the world has them -/
theorem rdE_ok {ao : Option AObj} {off sz k : Nat} {K : List (List AV) → Out} (g : rdE off sz k K ao = .ok e ts' h c) :
    ∃ n rs pat t L, ao = some (.row n rs pat t) ∧ off + k * sz ≤ n ∧ K L = .ok e ts' h c ∧ L.length = k ∧ ∀ (E : Env) (φ : Loc) (C : Array Value), 0 < sz → RowR E φ n rs pat t C →
      (∀ l ∈ L, l.length = sz) ∧ VRL E φ L.flatten (C.extract off (off + k * sz)).toList ∧ ∀ v ∈ (C.extract off (off + k * sz)).toList, one v = true := by
  unfold rdE at g
  split at g
  · rename_i n rs pat t
    obtain ⟨hn, g⟩ := guardB_ok g
    have hn : off + k * sz ≤ n := Nat.le_of_ble_eq_true hn
    cases he : Nat.beq rs sz with
    | true =>
      rw [he] at g
      obtain ⟨hm, g⟩ := guardB_ok g
      have hm : off % sz = 0 := Nat.eq_of_beq_eq_true hm
      have he := Nat.eq_of_beq_eq_true he
      subst he
      exact ⟨n, rs, pat, t, _, rfl, hn, g, elems_len .., fun E φ C _ hr => hr.elems hn hm⟩
    | false =>
      rw [he] at g
      obtain ⟨hm, g⟩ := guardB_ok g
      have hm : off % rs + k * sz ≤ rs := Nat.le_of_ble_eq_true hm
      refine ⟨n, rs, pat, t, _, rfl, hn, g, chunk_count .., fun E φ C hsz hr => ?_⟩
      have ediv : Nat.div off rs = off / rs := rfl
      have emod : Nat.mod off rs = off % rs := rfl
      by_cases hk : k = 0
      · subst hk
        have e1 : chunk sz 0 (kdrop (Nat.mod off rs) (elemAt pat (t.get (Nat.div off rs)))) = [] := rfl
        rw [e1]
        have e2 : (C.extract off (off + 0 * sz)).toList = [] := by simp
        rw [e2]
        exact ⟨(fun l hl => by cases hl), VRL_nil, (fun v hv => by cases hv)⟩
      · have hpos : 0 < k * sz := Nat.mul_pos (by omega) hsz
        have hel := hr.elem_len hn hpos
        have hlen : k * sz ≤ (kdrop (Nat.mod off rs) (elemAt pat (t.get (Nat.div off rs)))).length := by rw [kdrop_eq, emod, ediv, List.length_drop, hel]; omega
        have hw := hr.within hn hm ((kdrop (Nat.mod off rs) (elemAt pat (t.get (Nat.div off rs)))).take (k * sz)) (fun j hj => by
          rw [List.getElem?_take, if_pos hj, kdrop_eq, List.getElem?_drop]; rfl) (by rw [List.length_take]; omega)
        refine ⟨chunk_len _ _ _ hlen, ?_, hw.2⟩
        rw [chunk_flat]; exact hw.1
  · cases g

theorem ok_conv (T : TabOk E) (ht : TR E φ ts a.tmps) {src dst : TypeId} {x : Operand} (ho : o.op = .convert src dst x) (g : cConvert src dst x E ts K = .ok e ts' h c) : Good E φ o a K e ts' h c := by
  have he : execOp a.eval o = (do pure (Next.value (← convert src dst (a.eval x)))) := by unfold execOp; rw [ho]
  have hx := eval_VR ht x
  unfold cConvert convV at g
  split at g
  · rename_i k n hxe
    rw [hxe] at hx; simp only [VR] at hx
    obtain ⟨s, hs, g⟩ := und_ok T g
    split at g
    · obtain ⟨d, hd, g⟩ := und_ok T g
      unfold convInt at g
      split at g
      · rename_i k'
        refine good_val (u := .int k' (k'.wrap n)) g (by rw [wrapF_eq]; rfl) he (fun w => ?_)
        unfold convert
        simp only [Sem.run_bind, run_und hs, run_und hd, Result.andThen_ok, hx, Conv.intToInt, Sem.run_pure]
      · cases g
    · cases g
  · rename_i s hxe
    rw [hxe] at hx; simp only [VR] at hx
    obtain ⟨q, hs, g⟩ := und_ok T g
    split at g
    · obtain ⟨d, hd, g⟩ := und_ok T g
      unfold convStr at g
      split at g
      · refine good_val (u := .string ⟨s.toArray⟩) g rfl he (fun w => ?_)
        unfold convert
        simp only [Sem.run_bind, run_und hs, run_und hd, Result.andThen_ok, hx, Sem.run_pure]
      · rename_i el
        obtain ⟨hu, g⟩ := isU8_ok T g
        refine ⟨_, g, fun w => ?_⟩
        have hr := run_bytes_of_string w src dst el ⟨s.toArray⟩ hs hd hu
        have hge := grownCap_ge w (⟨s.toArray⟩ : ByteArray).size 0 el
        have hsz : (⟨s.toArray⟩ : ByteArray).size = s.length := rfl
        generalize hcp : grownCap w (⟨s.toArray⟩ : ByteArray).size 0 el = cp at hr hge
        have hrow : bytesRow ⟨s.toArray⟩ cp = ((s.map fun b => Value.int .u8 b.toNat) ++ List.replicate (cp - s.length) (Value.int .u8 0)).toArray := by
          unfold bytesRow; apply Array.ext'; simp [hsz]
        have hrs : (bytesRow ⟨s.toArray⟩ cp).size = cp := by rw [hrow]; simp; omega
        refine ⟨_, _, (bytesRow ⟨s.toArray⟩ cp).size, .inl (by rw [he]; simp only [Sem.run_bind, hx, hr, Result.andThen_ok, Sem.run_pure]; rfl), grown_drew_alloc .., fun φ' c hle hc => ⟨?_, ?_⟩⟩
        · refine ⟨w.heap.size, _, el, _, hc, drew_alloc_last .., fun i hi => by simp; omega, ?_⟩
          rw [hrow, lenL_eq, ofList_lay]
          obtain ⟨m1, m2, m3⟩ := map_bytes s
          have := RowR.fresh (E := E) (φ := φ') (n := s.length) (sz := 1) (L := mapL byteE s) (us := s.map fun b => Value.int .u8 b.toNat) (rest := List.replicate (cp - s.length) (Value.int .u8 0)) (by omega) m2 (by rw [m3]; exact bytes_VRL E φ' s)
            (fun v hv => by simp at hv; obtain ⟨b, _, rfl⟩ := hv; rfl) (by rw [m1]; omega)
          refine this.pat fun i hi => ?_
          have hi : i < s.length := by omega
          rw [get_lay, if_pos ⟨Nat.zero_le _, by omega⟩, List.getElem?_eq_getElem (by omega)]
          simp
        · refine ⟨w.heap.size, _, ⟨w.heap.size, 0, none⟩, cp, hc, ?_, Nat.le_refl _, by rw [lenL_eq]; omega, (fun h => by cases h), (fun _ => rfl), (fun _ => by rw [hrs]; show 0 + cp * 1 ≤ cp; omega), by decide⟩
          rw [lenL_eq]; rfl
      · cases g
    · cases g
  · rename_i hxe
    rw [hxe] at hx; simp only [VR] at hx
    obtain ⟨d, hd, g⟩ := und_ok T g
    obtain ⟨s, hs, g⟩ := und_ok T g
    unfold convNil at g
    split at g
    · split at g
      · rename_i el
        obtain ⟨hu, g⟩ := isU8_ok T g
        refine good_val (u := .string .empty) g rfl he (fun w => ?_)
        unfold convert
        simp only [Sem.run_bind, run_und hs, run_und hd, Result.andThen_ok, hx, run_und hu, Conv.bytesToString, Sem.run_pure]
      · cases g
    · cases g
  · rename_i b off len cap sz ex hxe
    rw [hxe] at hx
    obtain ⟨B, N, ad, cap', hb, hx, hlc, hcc, _, had, hN, hsz⟩ := hx
    obtain ⟨d, hd, g⟩ := und_ok T g
    obtain ⟨s, hs, g⟩ := und_ok T g
    unfold convSl at g
    split at g
    · split at g
      · rename_i el
        obtain ⟨hu, g⟩ := isU8_ok T g
        refine ⟨_, g, fun K' ao e' ts2 h2 c2 g2 => ?_⟩
        unfold rdStr at g2
        obtain ⟨n, rs, pat, t, L, rfl, hn, g2, hL, hr⟩ := rdE_ok g2
        obtain ⟨hall, g2⟩ := guardB_ok g2
        refine ⟨_, _, rfl, g2, fun φ' w hle hor => ?_⟩
        obtain ⟨B', C, el', fr, hb', hw, hfr, hrow⟩ := hor
        rw [hle _ _ hb] at hb'; cases hb'
        obtain ⟨r1, r2, r3⟩ := hr E φ' C Nat.one_pos hrow
        have hn1 : off + len ≤ n := by have h1 : off + len * 1 ≤ n := hn; omega
        have e1 : len * (nat_lit 1) = len := Nat.mul_one len
        rw [e1] at r2 r3
        rw [flat_eq] at hall ⊢
        have hbytes := allBytes_ok hall r2
        refine ⟨_, rfl, .inl ?_⟩
        have hload : (loadCells ad len).run E.P w = .ok (((mapL byteOf L.flatten).map fun b => (b.toNat : Int)).map (Value.int .u8)).toArray w := by
          have hC := hrow.2.1
          rw [List.map_map, show (Value.int .u8 ∘ fun b : UInt8 => (b.toNat : Int)) = (fun b => Value.int .u8 b.toNat) from rfl, ← hbytes]
          by_cases h0 : len = 0
          · subst h0; simp [loadCells, loadCellsFrom]
          · have : ad = ⟨B, off, none⟩ := had (by omega)
            subst this
            rw [run_loadCells hw (by omega)]
        have := run_bytesToString w ad len cap' _ hload
        rw [he]
        unfold convert
        simp only [Sem.run_bind, run_und hs, run_und hd, Result.andThen_ok, hx, run_und hu, this, Sem.run_pure]
        rw [foldl_push_byteCells]
        congr 3
        simp
      · cases g
    · cases g
  · cases g
end
end Go.AE
