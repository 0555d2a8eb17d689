import Derived.Test.YtbnakfpdmiibdaaAERel
namespace Go.AE

def Nofz (fr : Nat × Nat) (n : Nat) : Prop := ∀ i, i < n → (decide (fr.1 ≤ i) && decide (i < fr.2)) = false

/-- the row of cells C is known so far -/
def RowR (E : Env) (φ : Loc) (n sz : Nat) (pat : List AV) (t : T (List AV)) (C : Array Value) : Prop :=
  0 < sz ∧ n ≤ C.size ∧ (∀ i, i * sz < n → (elemAt pat (t.get i)).length = sz) ∧
  ∀ k, k < n → ∃ a v, (elemAt pat (t.get (k / sz)))[k % sz]? = some a ∧ C[k]? = some v ∧ VR E φ a v ∧ one v = true

def EntR (E : Env) (φ : Loc) (e : Ent) (m : MapEntry) : Prop := VR E φ e.k m.key ∧ VR E φ e.v m.val ∧ m.born = e.born
def EntsR (E : Env) (φ : Loc) : List Ent → List MapEntry → Prop
  | [], m => m = []
  | e :: l, m => ∃ x r, m = x :: r ∧ EntR E φ e x ∧ EntsR E φ l r

def PendR (p : Nat) (st : LoopState) (pd : Option Code) : Prop :=
  match p with
  | 0 => st = .ready ∧ pd = none
  | 1 => st = .done ∧ pd = some .ret
  | i + 2 => st = .done ∧ pd = some (.exit i)

/-- block b of the evaluator's heap, as it stands in the world -/
def OR (E : Env) (φ : Loc) (w : World) (b : Nat) : AObj → Prop
  | .row n sz pat t => ∃ B C e fr, φ b = some (B, C.size) ∧ w.heap[B]? = some (.cells C e fr) ∧ Nofz fr C.size ∧ RowR E φ n sz pat t C
  | .map es clock => ∃ B N ents, φ b = some (B, N) ∧ w.heap[B]? = some (.map ents clock) ∧ EntsR E φ es ents.toList
  | .chan cap buf => ∃ B N vs s r, φ b = some (B, N) ∧ w.heap[B]? = some (.chan cap vs false s r false) ∧ VRL E φ buf vs.toList
  | .loop ts params assign body p => ∃ B N st pd fn tmps df, φ b = some (B, N) ∧
      w.heap[B]? = some (.loop { state := st, pending := pd, fn, tmps, params := params.toArray, assign, body, defers := df }) ∧
      PendR p st pd ∧ TR E φ ts tmps ∧ codeOk tmps.size assign = true ∧ codeOk tmps.size body = true ∧ noRange assign = true ∧ noRange body = true ∧ (∀ x ∈ params, x < tmps.size)
  | .miter mb since seen stepped cur => ∃ B N M K sn, φ b = some (B, N) ∧ φ mb = some (M, K) ∧ w.heap[B]? = some (.mapIter (some M) since sn stepped) ∧
      (∀ x, x ∈ sn.toList ↔ x ∈ seen) ∧ ∀ s, cur = some s → sn.back? = some s
  | .mitq mb stepped s => ∃ B N M K since sn, φ b = some (B, N) ∧ φ mb = some (M, K) ∧ w.heap[B]? = some (.mapIter (some M) since sn stepped) ∧ sn.back? = some s
  | .siter s pos => ∃ B N whole, φ b = some (B, N) ∧ w.heap[B]? = some (.stringIter whole pos) ∧ whole.data.toList.drop pos = s ∧ pos ≤ whole.size

/-- the heap -/
structure HR (E : Env) (φ : Loc) (t : T AObj) (w : World) : Prop where
  obj : ∀ b o, t.get b = some o → OR E φ w b o
  inj : ∀ b b' B N N', t.get b ≠ none → t.get b' ≠ none → φ b = some (B, N) → φ b' = some (B, N') → b = b'

theorem EntsR.mono {E : Env} {φ φ' : Loc} (h : φ.le φ') : ∀ (l : List Ent) (m : List MapEntry), EntsR E φ l m → EntsR E φ' l m
  | [], _, g => g
  | _ :: l, _, ⟨x, r, e, ⟨h1, h2, h3⟩, g⟩ => ⟨x, r, e, ⟨VR.mono h _ _ h1, VR.mono h _ _ h2, h3⟩, EntsR.mono h l r g⟩
theorem RowR.mono {E : Env} {φ φ' : Loc} (h : φ.le φ') {n sz : Nat} {pat : List AV} {t : T (List AV)} {C : Array Value} (g : RowR E φ n sz pat t C) : RowR E φ' n sz pat t C :=
  ⟨g.1, g.2.1, g.2.2.1, fun k hk => let ⟨a, v, h1, h2, h3, h4⟩ := g.2.2.2 k hk; ⟨a, v, h1, h2, VR.mono h _ _ h3, h4⟩⟩

theorem OR.loc {E : Env} {φ : Loc} {w : World} {b : Nat} {o : AObj} (h : OR E φ w b o) : ∃ B N, φ b = some (B, N) ∧ B < w.heap.size := by
  have lt : ∀ {B : Nat} {x : Obj}, w.heap[B]? = some x → B < w.heap.size := fun h => (Array.getElem?_eq_some_iff.1 h).1
  cases o with
  | row => obtain ⟨B, C, e, fr, h1, h2, _⟩ := h; exact ⟨B, _, h1, lt h2⟩
  | map => obtain ⟨B, N, x, h1, h2, _⟩ := h; exact ⟨B, N, h1, lt h2⟩
  | chan => obtain ⟨B, N, x, _, _, h1, h2, _⟩ := h; exact ⟨B, N, h1, lt h2⟩
  | loop => obtain ⟨B, N, _, _, _, _, _, h1, h2, _⟩ := h; exact ⟨B, N, h1, lt h2⟩
  | miter => obtain ⟨B, N, _, _, _, h1, _, h2, _⟩ := h; exact ⟨B, N, h1, lt h2⟩
  | mitq => obtain ⟨B, N, _, _, _, _, h1, _, h2, _⟩ := h; exact ⟨B, N, h1, lt h2⟩
  | siter => obtain ⟨B, N, _, h1, h2, _⟩ := h; exact ⟨B, N, h1, lt h2⟩

/-- an object stays what it is where its block stays what it is -/
theorem OR.keep {E : Env} {φ φ' : Loc} {w w' : World} {b : Nat} {o : AObj} (hl : φ.le φ') (h : OR E φ w b o) (hb : ∀ B N, φ b = some (B, N) → w'.heap[B]? = w.heap[B]?) : OR E φ' w' b o := by
  cases o with
  | row => obtain ⟨B, C, e, fr, h1, h2, h3, h4⟩ := h; exact ⟨B, C, e, fr, hl _ _ h1, (hb _ _ h1).trans h2, h3, h4.mono hl⟩
  | map => obtain ⟨B, N, x, h1, h2, h3⟩ := h; exact ⟨B, N, x, hl _ _ h1, (hb _ _ h1).trans h2, h3.mono hl⟩
  | chan => obtain ⟨B, N, x, s, r, h1, h2, h3⟩ := h; exact ⟨B, N, x, s, r, hl _ _ h1, (hb _ _ h1).trans h2, VRL.mono hl _ _ h3⟩
  | loop => obtain ⟨B, N, st, pd, fn, tmps, df, h1, h2, h3, h4, h5⟩ := h; exact ⟨B, N, st, pd, fn, tmps, df, hl _ _ h1, (hb _ _ h1).trans h2, h3, h4.mono hl, h5⟩
  | miter => obtain ⟨B, N, M, K, sn, h1, h0, h2, h3⟩ := h; exact ⟨B, N, M, K, sn, hl _ _ h1, hl _ _ h0, (hb _ _ h1).trans h2, h3⟩
  | mitq => obtain ⟨B, N, M, K, s, sn, h1, h0, h2, h3⟩ := h; exact ⟨B, N, M, K, s, sn, hl _ _ h1, hl _ _ h0, (hb _ _ h1).trans h2, h3⟩
  | siter => obtain ⟨B, N, x, h1, h2, h3⟩ := h; exact ⟨B, N, x, hl _ _ h1, (hb _ _ h1).trans h2, h3⟩

/-- a part of a heap -/
theorem HR.sub {E : Env} {φ : Loc} {t t' : T AObj} {w : World} (h : HR E φ t w) (hs : ∀ b o, t'.get b = some o → t.get b = some o) : HR E φ t' w :=
  ⟨fun b o g => h.obj b o (hs b o g), fun b b' B N N' h1 h2 e1 e2 => by
    have ne : ∀ b, t'.get b ≠ none → t.get b ≠ none := fun b hb => by
      cases e : t'.get b with
      | none => exact absurd e hb
      | some o => rw [hs b o e]; simp
    exact h.inj b b' B N N' (ne b h1) (ne b' h2) e1 e2⟩

/-- may real block B have been written? -/
def Exm (φ : Loc) (t : T AObj) (fl : Nat) (lg : List Nat) (B : Nat) : Prop := ∃ b N, t.get b ≠ none ∧ φ b = some (B, N) ∧ (fl ≤ b ∨ b ∈ lg)

structure Same (w w' : World) : Prop where
  tape : w'.tape = w.tape
  os : w'.os = w.os
  output : w'.output = w.output
  size : w.heap.size ≤ w'.heap.size
theorem Same.refl (w : World) : Same w w := ⟨rfl, rfl, rfl, Nat.le_refl _⟩
theorem Same.trans {a b c : World} (h : Same a b) (g : Same b c) : Same a c := ⟨g.tape.trans h.tape, g.os.trans h.os, g.output.trans h.output, Nat.le_trans h.size g.size⟩

/-- a run of the evaluator from (h, c) to (h', c'), and the world's from w to w' -/
structure Sim (E : Env) (φ : Loc) (h : Hs) (c : Nat) (w : World) (φ' : Loc) (h' : Hs) (c' : Nat) (w' : World) : Prop where
  hr : HR E φ' h'.t w'
  ext : ∀ b, (b < c ∨ c' ≤ b) → φ' b = φ b
  cle : c ≤ c'
  dom : ∀ b, h'.t.get b ≠ none → h.t.get b ≠ none ∨ (c ≤ b ∧ b < c')
  new : ∀ b B N, c ≤ b → b < c' → φ' b = some (B, N) → h'.t.get b ≠ none → w.heap.size ≤ B ∨ Exm φ h.t h.fl h'.lg B
  fr : ∀ B, B < w.heap.size → ¬ Exm φ h.t h.fl h'.lg B → w'.heap[B]? = w.heap[B]?
  same : Same w w'
  fl : h'.fl = h.fl
  lg : ∀ b ∈ h.lg, b ∈ h'.lg
  keep : ∀ b, b < h.fl → b < c → b ∉ h'.lg → h'.t.get b = h.t.get b

/-- the numbers from c on are not used yet -/
def Fresh (φ : Loc) (c _c' : Nat) : Prop := ∀ b, c ≤ b → b = b → φ b = none

theorem Sim.le {E : Env} {φ φ' : Loc} {h h' : Hs} {c c' : Nat} {w w' : World} (s : Sim E φ h c w φ' h' c' w') (f : Fresh φ c c') : φ.le φ' := by
  intro b x e
  have : b < c ∨ c' ≤ b := by
    by_cases h1 : b < c
    · exact .inl h1
    · by_cases h2 : c' ≤ b
      · exact .inr h2
      · have := f b (by omega) (by omega); rw [this] at e; cases e
  rw [s.ext b this]; exact e

theorem Sim.refl {E : Env} {φ : Loc} {h : Hs} {c : Nat} {w : World} (g : HR E φ h.t w) : Sim E φ h c w φ h c w :=
  ⟨g, fun _ _ => rfl, Nat.le_refl _, fun _ hb => .inl hb, fun _ _ _ h1 h2 => by omega, fun _ _ _ => rfl, Same.refl _, rfl, fun _ hb => hb, fun _ _ _ _ => rfl⟩

theorem HR.loc {E : Env} {φ : Loc} {t : T AObj} {w : World} (h : HR E φ t w) {b : Nat} (hb : t.get b ≠ none) : ∃ B N, φ b = some (B, N) ∧ B < w.heap.size := by
  cases e : t.get b with
  | none => exact absurd e hb
  | some o => exact (h.obj b o e).loc

theorem Exm.mono {φ : Loc} {t : T AObj} {fl B : Nat} {lg lg' : List Nat} (h : Exm φ t fl lg B) (hl : ∀ b ∈ lg, b ∈ lg') : Exm φ t fl lg' B :=
  let ⟨b, N, h1, h2, h3⟩ := h; ⟨b, N, h1, h2, h3.imp id (hl b)⟩

theorem Sim.trans {E : Env} {φ φ₁ φ₂ : Loc} {h h₁ h₂ : Hs} {c c₁ c₂ : Nat} {w w₁ w₂ : World} (g : HR E φ h.t w) (f : Fresh φ c c₂)
    (s : Sim E φ h c w φ₁ h₁ c₁ w₁) (s' : Sim E φ₁ h₁ c₁ w₁ φ₂ h₂ c₂ w₂) : Sim E φ h c w φ₂ h₂ c₂ w₂ := by
  have outside : ∀ b, h.t.get b ≠ none → b < c ∨ c₂ ≤ b := fun b hb => by
    obtain ⟨B, N, e, _⟩ := g.loc hb
    by_cases h1 : b < c
    · exact .inl h1
    · by_cases h2 : c₂ ≤ b
      · exact .inr h2
      · have := f b (by omega) (by omega); rw [this] at e; cases e
  have c1 := s.cle
  have c2 := s'.cle
  -- what the second run may write was known ahead of the first, or is new
  have back : ∀ B, Exm φ₁ h₁.t h₁.fl h₂.lg B → w.heap.size ≤ B ∨ Exm φ h.t h.fl h₂.lg B := by
    rintro B ⟨b, N, hb, e, hx⟩
    rcases s.dom b hb with hd | ⟨hl, hr⟩
    · have ho := outside b hd
      rw [s.ext b (by omega)] at e
      exact .inr ⟨b, N, hd, e, by rw [s.fl] at hx; exact hx⟩
    · rcases s.new b B N hl hr e hb with hn | hn
      · exact .inl hn
      · exact .inr (hn.mono s'.lg)
  refine ⟨s'.hr, fun b hb => ?_, by omega, fun b hb => ?_, fun b B N hl hr e hb => ?_, fun B hB hn => ?_, s.same.trans s'.same, s'.fl.trans s.fl, fun b hb => s'.lg b (s.lg b hb), fun b h1 h2 h3 => (s'.keep b (by rw [s.fl]; exact h1) (by omega) h3).trans (s.keep b h1 h2 fun h => h3 (s'.lg b h))⟩
  · rw [s'.ext b (by omega), s.ext b (by omega)]
  · rcases s'.dom b hb with hd | hd
    · rcases s.dom b hd with h1 | h1
      · exact .inl h1
      · exact .inr (by omega)
    · exact .inr (by omega)
  · by_cases hc : b < c₁
    · have e1 : φ₁ b = some (B, N) := by rw [← s'.ext b (.inl hc)]; exact e
      have hd : h₁.t.get b ≠ none := by
        rcases s'.dom b hb with h1 | h1
        · exact h1
        · omega
      rcases s.new b B N hl hc e1 hd with h1 | h1
      · exact .inl h1
      · exact .inr (h1.mono s'.lg)
    · rcases s'.new b B N (by omega) hr e hb with h1 | h1
      · exact .inl (Nat.le_trans s.same.size h1)
      · exact back B h1
  · rw [s'.fr B (Nat.lt_of_lt_of_le hB s.same.size) (fun hx => ?_), s.fr B hB (fun hx => hn (hx.mono s'.lg))]
    rcases back B hx with h1 | h1
    · omega
    · exact hn h1
end Go.AE
