import Derived.Test.YtbnakfpdmiibdaaAEData
import Derived.Calls
namespace Go.AE

/-- where a block lies: its number, and how many cells it has -/
abbrev Loc := Nat → Option (Nat × Nat)

def FnR (φ : Loc) (f g : Fn) : Prop :=
  match f with
  | .yield l => ∃ B N, φ l = some (B, N) ∧ g = .yield B
  | f => g = f

mutual
/-- the value v is what the evaluator calls a -/
def VR (E : Env) (φ : Loc) : AV → Value → Prop
  | .int k n, v => v = .int k n
  | .bool b, v => v = .bool b
  | .str s, v => v = .string ⟨s.toArray⟩
  | .raw u, v => v = u
  | .sym i, v => v = E.symv i
  | .any, _ => True
  | .nilp, v => v = .pointer none
  | .ptr b o, v => ∃ B N, φ b = some (B, N) ∧ v = .pointer (some ⟨B, o, none⟩)
  | .nils, v => v = .slice none 0 0
  | .sl b o len cap sz ex, v => ∃ B N a cap', φ b = some (B, N) ∧ v = .slice (some a) len cap' ∧ len ≤ cap ∧ cap ≤ cap' ∧ (ex = true → cap' = cap) ∧
      (0 < cap' → a = ⟨B, o, none⟩) ∧ (0 < cap' → o + cap' * sz ≤ N) ∧ 0 < sz
  | .nilm, v => v = .map none
  | .map b, v => ∃ B N, φ b = some (B, N) ∧ v = .map (some B)
  | .nilc, v => v = .chan none
  | .chan b, v => ∃ B N, φ b = some (B, N) ∧ v = .chan (some B)
  | .fn f first cap, v => ∃ g first' cap', v = .func g first' cap' ∧ FnR φ f g ∧ VRL E φ first first'.toList ∧ VRL E φ cap cap'.toList
  | .nilf, v => v = .nilFunc
  | .ifc t a, v => ∃ u, v = .iface t u ∧ VR E φ a u
  | .nili, v => v = .nilIface
  | .agg l, v => ∃ arr, v = .agg arr ∧ VRL E φ l arr.toList ∧ ∀ x ∈ arr.toList, one x = true
  | .tup l, v => ∃ arr, v = .tuple arr ∧ VRL E φ l arr.toList
def VRL (E : Env) (φ : Loc) : List AV → List Value → Prop
  | [], vs => vs = []
  | a :: l, vs => ∃ v m, vs = v :: m ∧ VR E φ a v ∧ VRL E φ l m
end

def Loc.le (φ φ' : Loc) : Prop := ∀ b x, φ b = some x → φ' b = some x

mutual
theorem VR.mono {E : Env} {φ φ' : Loc} (h : φ.le φ') : ∀ (a : AV) (v : Value), VR E φ a v → VR E φ' a v
  | .int _ _, _, g => g
  | .bool _, _, g => g
  | .str _, _, g => g
  | .raw _, _, g => g
  | .sym _, _, g => g
  | .any, _, _ => trivial
  | .nilp, _, g => g
  | .ptr _ _, _, ⟨B, N, e, g⟩ => ⟨B, N, h _ _ e, g⟩
  | .nils, _, g => g
  | .sl _ _ _ _ _ _, _, ⟨B, N, a, cap', e, g⟩ => ⟨B, N, a, cap', h _ _ e, g⟩
  | .nilm, _, g => g
  | .map _, _, ⟨B, N, e, g⟩ => ⟨B, N, h _ _ e, g⟩
  | .nilc, _, g => g
  | .chan _, _, ⟨B, N, e, g⟩ => ⟨B, N, h _ _ e, g⟩
  | .fn f first cap, _, ⟨g, first', cap', e, hf, h1, h2⟩ => ⟨g, first', cap', e, by
      cases f with
      | yield l => obtain ⟨B, N, e, hg⟩ := hf; exact ⟨B, N, h _ _ e, hg⟩
      | _ => exact hf, VRL.mono h first _ h1, VRL.mono h cap _ h2⟩
  | .nilf, _, g => g
  | .ifc _ a, _, ⟨u, e, g⟩ => ⟨u, e, VR.mono h a u g⟩
  | .nili, _, g => g
  | .agg l, _, ⟨arr, e, g, ho⟩ => ⟨arr, e, VRL.mono h l _ g, ho⟩
  | .tup l, _, ⟨arr, e, g⟩ => ⟨arr, e, VRL.mono h l _ g⟩
theorem VRL.mono {E : Env} {φ φ' : Loc} (h : φ.le φ') : ∀ (l : List AV) (m : List Value), VRL E φ l m → VRL E φ' l m
  | [], _, g => g
  | a :: l, _, ⟨v, m, e, g, gl⟩ => ⟨v, m, e, VR.mono h a v g, VRL.mono h l m gl⟩
end

theorem VRL_nil {E : Env} {φ : Loc} : VRL E φ [] [] := by simp [VRL]
theorem VRL_cons {E : Env} {φ : Loc} {a : AV} {l : List AV} {v : Value} {m : List Value} (h : VR E φ a v) (hl : VRL E φ l m) : VRL E φ (a :: l) (v :: m) := by
  simp only [VRL]; exact ⟨v, m, rfl, h, hl⟩
theorem VRL.length {E : Env} {φ : Loc} : ∀ {l : List AV} {m : List Value}, VRL E φ l m → m.length = l.length := by
  intro l
  induction l with
  | nil => intro m h; simp only [VRL] at h; subst h; rfl
  | cons a l ih => intro m h; simp only [VRL] at h; obtain ⟨v, m, rfl, _, h⟩ := h; simp [ih h]
theorem VRL.get {E : Env} {φ : Loc} : ∀ {l : List AV} {m : List Value}, VRL E φ l m → ∀ {i : Nat} {a : AV}, l[i]? = some a → ∃ v, m[i]? = some v ∧ VR E φ a v := by
  intro l
  induction l with
  | nil => intro m h i a hi; simp at hi
  | cons b l ih =>
    intro m h i a hi
    simp only [VRL] at h; obtain ⟨v, m, rfl, hv, h⟩ := h
    cases i with
    | zero => simp at hi; subst hi; exact ⟨v, rfl, hv⟩
    | succ i => simp at hi; simpa using ih h hi
theorem VRL.of_get {E : Env} {φ : Loc} : ∀ {l : List AV} {m : List Value}, m.length = l.length → (∀ (i : Nat) (a : AV) (v : Value), l[i]? = some a → m[i]? = some v → VR E φ a v) → VRL E φ l m := by
  intro l
  induction l with
  | nil => intro m h _; simp at h; subst h; exact VRL_nil
  | cons a l ih =>
    intro m h hg
    cases m with
    | nil => simp at h
    | cons v m => exact VRL_cons (hg 0 a v rfl rfl) (ih (by simpa using h) fun i a v ha hv => hg (i + 1) a v (by simpa using ha) (by simpa using hv))
theorem VRL.append {E : Env} {φ : Loc} {l l' : List AV} {m m' : List Value} (h : VRL E φ l m) (h' : VRL E φ l' m') : VRL E φ (l ++ l') (m ++ m') := by
  induction l generalizing m with
  | nil => simp only [VRL] at h; subst h; exact h'
  | cons a l ih => simp only [VRL] at h; obtain ⟨v, m, rfl, hv, h⟩ := h; exact VRL_cons hv (ih h)
theorem VRL.take {E : Env} {φ : Loc} {l : List AV} {m : List Value} (h : VRL E φ l m) (n : Nat) : VRL E φ (l.take n) (m.take n) :=
  VRL.of_get (by simp [h.length]) fun i a v ha hv => by
    rw [List.getElem?_take] at ha hv
    split at ha
    · rename_i hi; rw [if_pos hi] at hv
      obtain ⟨u, hu, hr⟩ := h.get ha; rw [hu] at hv; cases hv; exact hr
    · cases ha
theorem VRL.drop {E : Env} {φ : Loc} {l : List AV} {m : List Value} (h : VRL E φ l m) (n : Nat) : VRL E φ (l.drop n) (m.drop n) :=
  VRL.of_get (by simp [h.length]) fun i a v ha hv => by
    rw [List.getElem?_drop] at ha hv
    obtain ⟨u, hu, hr⟩ := h.get ha; rw [hu] at hv; cases hv; exact hr
theorem VRL.one {E : Env} {φ : Loc} {a : AV} {m : List Value} (h : VRL E φ [a] m) : ∃ v, m = [v] ∧ VR E φ a v := by
  simp only [VRL] at h; obtain ⟨v, m, rfl, hv, rfl⟩ := h; exact ⟨v, rfl, hv⟩

/-! ### temporaries -/
def TR (E : Env) (φ : Loc) (ts : Tm) (tmps : Array Value) : Prop := ∀ i, VR E φ (evalT ts i) (tmps.getD i undef)
theorem TR.mono {E : Env} {φ φ' : Loc} (h : φ.le φ') {ts : Tm} {tmps : Array Value} (g : TR E φ ts tmps) : TR E φ' ts tmps := fun i => VR.mono h _ _ (g i)

theorem evalT_set (ts : Tm) (d i : Nat) (v : AV) : evalT (ts.set d (some v)) i = if d = i then v else evalT ts i := by
  unfold evalT; rw [get_set]; split <;> rfl
theorem TR.put {E : Env} {φ : Loc} {ts : Tm} {tmps : Array Value} (g : TR E φ ts tmps) {d : Nat} (hd : d < tmps.size) {a : AV} {v : Value} (hv : VR E φ a v) :
    TR E φ (ts.set d (some a)) (tmps.setIfInBounds d v) := by
  intro i
  rw [evalT_set]
  by_cases e : d = i
  · subst e; rw [if_pos rfl]; simpa [Array.getD, hd] using hv
  · rw [if_neg e]
    have := g i
    have h2 : (tmps.setIfInBounds d v).getD i undef = tmps.getD i undef := by
      simp only [Array.getD_eq_getD_getElem?, Array.getElem?_setIfInBounds_ne e]
    rw [h2]; exact this

/-! ### constants -/
theorem ofCell_VR (E : Env) (φ : Loc) (v : Value) : ofCell v = .any ∨ (VR E φ (ofCell v) v ∧ one v = true) := by
  cases v with
  | string s => exact .inr (by simp [ofCell, VR, one])
  | pointer a => cases a <;> simp [ofCell, VR, one]
  | slice a l c =>
    cases a with
    | some a => exact .inl rfl
    | none =>
      cases l with
      | succ l => exact .inl rfl
      | zero => cases c with
        | succ c => exact .inl rfl
        | zero => exact .inr ⟨rfl, rfl⟩
  | map a => cases a <;> simp [ofCell, VR, one]
  | chan a => cases a <;> simp [ofCell, VR, one]
  | _ => simp [ofCell, VR, one]

theorem isAny_false {v : AV} (h : bnot (isAny v) = true) : v ≠ .any := by rintro rfl; cases h

theorem ofValue_VR (E : Env) (φ : Loc) (v : Value) : VR E φ (ofValue v) v := by
  have cell : ∀ v, ofValue v = ofCell v → VR E φ (ofValue v) v := by
    intro v e
    rw [e]
    rcases ofCell_VR E φ v with h | h
    · rw [h]; trivial
    · exact h.1
  cases v with
  | agg vs =>
    show VR E φ (aggC (mapL ofCell vs.toList)) _
    unfold aggC
    cases hall : allL (fun v => bnot (isAny v)) (mapL ofCell vs.toList) with
    | false => trivial
    | true =>
      rw [allL_iff, mapL_eq] at hall
      show VR E φ (.agg (mapL ofCell vs.toList)) _
      rw [mapL_eq]
      have hx : ∀ x ∈ vs.toList, VR E φ (ofCell x) x ∧ one x = true := fun x hx => by
        rcases ofCell_VR E φ x with h | h
        · exact absurd h (isAny_false (hall _ (List.mem_map_of_mem hx)))
        · exact h
      refine ⟨vs, rfl, VRL.of_get (by simp) (fun i a v ha hv => ?_), fun x hxm => (hx x hxm).2⟩
      rw [List.getElem?_map, hv] at ha
      simp at ha; subst ha
      exact (hx v (List.mem_of_getElem? hv)).1
  | tuple vs =>
    show VR E φ (tupNil vs.toList) _
    cases h : vs.toList with
    | nil => exact ⟨vs, rfl, by rw [h]; exact VRL_nil⟩
    | cons a l => trivial
  | _ => exact cell _ rfl

theorem eval_VR {E : Env} {φ : Loc} {ts : Tm} {a : Act} (ht : TR E φ ts a.tmps) (x : Operand) : VR E φ (evalO x ts) (a.eval x) := by
  cases x with
  | tmp t => exact ht t
  | const v => exact ofValue_VR E φ v
  | global g => trivial
  | func f => exact ⟨.func f, #[], #[], rfl, rfl, VRL_nil, VRL_nil⟩
end Go.AE
