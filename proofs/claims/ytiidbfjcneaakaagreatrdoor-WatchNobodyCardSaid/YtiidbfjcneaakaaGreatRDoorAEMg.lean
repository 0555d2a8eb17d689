/- The evaluator AE: strings.Join, answered by what is known of it. -/
import Derived.Test.YtiidbfjcneaakaaGreatRDoorAEMf
import Derived.Lib.Join
noncomputable section
namespace Go.AE
/-- texts, one by one -/
def strL (l : List AV) : (List (List UInt8) → Out) → Out :=
  List.rec (motive := fun _ => (List (List UInt8) → Out) → Out) (fun K => K []) (fun a _ self K => match a with
    | .str s => self fun r => K (s :: r)
    | _ => .bad 310) l
def joinT (sep : List UInt8) (r : List (List UInt8)) : List UInt8 := List.rec (motive := fun _ => List UInt8) [] (fun y _ s => appL sep (appL y s)) r
def joinR (sep : List UInt8) (xs : List (List UInt8)) : List UInt8 := match xs with
  | [] => []
  | x :: r => appL x (joinT sep r)
/-- strings.Join -/
def joinX (args : List AV) (h : Hs) (K : AV → Out) : Out :=
  match args with
  | [a, b] => match a with
    | .sl bl o len cap sz _ => match b with
      | .str sep => guardB (Nat.beq sz 1 && Nat.ble len cap && Nat.ble 1 len && Nat.ble len 1000) 311 <|
          rdE o 1 len (fun l => strL (flat l) fun xs => guardB (Nat.ble (lenL (joinR sep xs)) 1000000) 312 (K (.str (joinR sep xs)))) (h.t.get bl)
      | _ => .bad 313
    | _ => .bad 314
  | _ => .bad 315
theorem strL_ok {e : Ex} {ts : Tm} {h : Hs} {c : Nat} : ∀ (l : List AV) (K : List (List UInt8) → Out), strL l K = .ok e ts h c → ∃ xs, K xs = .ok e ts h c ∧ l = xs.map AV.str
  | [], K, g => ⟨[], g, rfl⟩
  | a :: l, K, g => by
    have g : (match a with | .str s => strL l fun r => K (s :: r) | _ => .bad 310) = .ok e ts h c := g
    split at g
    · obtain ⟨xs, g2, hx⟩ := strL_ok l _ g
      exact ⟨_ :: xs, g2, by rw [hx]; rfl⟩
    · cases g
theorem joinT_eq (sep : List UInt8) (r : List (List UInt8)) : joinT sep r = Lib.joinTail sep r := by
  induction r with
  | nil => rfl
  | cons y r ih =>
    have h1 : joinT sep (y :: r) = appL sep (appL y (joinT sep r)) := rfl
    rw [h1, appL_eq, appL_eq, ih]
    simp [Lib.joinTail, List.append_assoc]
theorem joinR_eq (sep : List UInt8) (xs : List (List UInt8)) : joinR sep xs = Lib.join xs sep := by
  cases xs with
  | nil => rfl
  | cons x r =>
    rw [Lib.join_cons]
    show appL x (joinT sep r) = _
    rw [appL_eq, joinT_eq]
theorem VRL_strs {E : Env} {φ : Loc} : ∀ {xs : List (List UInt8)} {m : List Value}, VRL E φ (xs.map AV.str) m → m = xs.map fun l => Value.string ⟨l.toArray⟩
  | [], m, h => by simpa [VRL] using h
  | x :: xs, m, h => by
    simp only [List.map_cons, VRL] at h
    obtain ⟨v, n, rfl, hv, hn⟩ := h
    simp only [VR] at hv
    rw [hv, VRL_strs hn]; rfl
/-- strings.Join is answered rightly -/
theorem joinX_ok {E : Env} {f : Nat} (hf : ∃ fn, E.P.funcs[f]? = some fn ∧ fn.body.isNone = false ∧ (fn.name == "runtime.NumGoroutine") = false)
    (hmany : ∀ (bk o c : Nat) (xs : List ByteArray) (sep : ByteArray) (w : World), (∀ (j : Nat) x, xs[j]? = some x → w.cell? ⟨bk, o + j, none⟩ = some (.string x)) → bk < w.heap.size → xs.length ≤ 140737488355328 → xs.length ≤ c →
      (Lib.join (xs.map (·.data.toList)) sep.data.toList).length ≤ 140737488355328 →
      Calls E.P f #[.slice (some ⟨bk, o, none⟩) xs.length c, .string sep] w fun e w' => e = .returned (.string ⟨(Lib.join (xs.map (·.data.toList)) sep.data.toList).toArray⟩) ∧ Go.RowKit.Below w.heap.size w w') : ExtOk E f joinX := by
  refine ⟨hf, fun args h K e ts h' c' g => ?_⟩
  unfold joinX at g
  split at g
  · split at g
    · rename_i bl o len cap sz ex
      split at g
      · rename_i sep
        obtain ⟨hgd, g⟩ := guardB_ok g
        simp only [Bool.and_eq_true] at hgd
        obtain ⟨⟨⟨_, h2⟩, h3⟩, h4⟩ := hgd
        have h2 := Nat.le_of_ble_eq_true h2
        have h3 := Nat.le_of_ble_eq_true h3
        have h4 := Nat.le_of_ble_eq_true h4
        obtain ⟨n, rs, pat, t, L, hget, hle, g, hL, hall⟩ := rdE_ok g
        obtain ⟨xs, g, hflat⟩ := strL_ok _ _ g
        obtain ⟨hbig, g⟩ := guardB_ok g
        have hbig := Nat.le_of_ble_eq_true hbig
        rw [flat_eq] at hflat
        rw [lenL_eq, joinR_eq] at hbig
        refine ⟨_, g, fun φ w vs hvs hh => ?_⟩
        simp only [VRL, VR] at hvs
        obtain ⟨v0, m0, e0, ⟨B, N, a, cap', hB, hv0, q1, q2, _, q3, _, _⟩, v1, m1, e1, hv1, hm1⟩ := hvs
        obtain rfl : vs = #[v0, v1] := by
          apply Array.ext'
          rw [e0, e1, hm1]
        subst hv0; subst hv1
        have ha := q3 (by omega)
        subst ha
        obtain ⟨B1, C, el, fr, hB1, hw, _, hrow⟩ := hh.obj bl _ hget
        rw [hB] at hB1
        injection hB1 with hB1
        injection hB1 with hB1 _
        subst hB1
        obtain ⟨_, hcells, _⟩ := hall E φ C (by omega) hrow
        rw [hflat, Nat.mul_one] at hcells
        have hlist := VRL_strs hcells
        have hxl : xs.length = len := by
          have h5 := congrArg List.length hlist
          have h6 := hcells.length
          rw [List.length_map] at h6
          have h7 : (C.extract o (o + len)).toList.length = len := by
            have h8 : n ≤ C.size := hrow.2.1
            simp; omega
          omega
        have hcell : ∀ (j : Nat) (x : ByteArray), (xs.map fun l => (⟨l.toArray⟩ : ByteArray))[j]? = some x → w.cell? ⟨B, o + j, none⟩ = some (.string x) := fun j x hj => by
          have hjl : j < len := by
            have := (List.getElem?_eq_some_iff.1 hj).1
            rw [List.length_map] at this; omega
          have h9 : (C.extract o (o + len)).toList[j]? = some (.string x) := by
            rw [hlist, List.getElem?_map]
            rw [List.getElem?_map] at hj
            cases hx : xs[j]? with
            | none => rw [hx] at hj; cases hj
            | some l => rw [hx] at hj; simp at hj; simp [hj]
          have h10 : C[o + j]? = some (.string x) := by
            rw [Array.getElem?_toList, Array.getElem?_extract] at h9
            split at h9
            · exact h9
            · cases h9
          unfold World.cell?
          rw [hw]
          simpa using h10
        have hmap : (xs.map fun l => (⟨l.toArray⟩ : ByteArray)).map (·.data.toList) = xs := by
          rw [List.map_map]
          exact List.map_id _
        have hlt : B < w.heap.size := (Array.getElem?_eq_some_iff.1 hw).1
        refine ⟨_, rfl, ?_⟩
        have hlen2 : (xs.map fun l => (⟨l.toArray⟩ : ByteArray)).length = len := by rw [List.length_map]; exact hxl
        have := hmany B o cap' (xs.map fun l => (⟨l.toArray⟩ : ByteArray)) ⟨sep.toArray⟩ w hcell hlt (by omega) (by omega) (by rw [hmap]; simpa using Nat.le_trans hbig (by omega))
        rw [hlen2, hmap] at this
        refine this.mono ?_
        rintro e w' ⟨rfl, hb⟩
        exact ⟨by rw [joinR_eq], hb⟩
      · cases g
    · cases g
  · cases g
end Go.AE
