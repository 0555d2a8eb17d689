import Derived.Test.YtbnakfpdmiibdaaAEArith
import Derived.Laws.StructEq
namespace Go.AE

theorem partOf_ok {E : Env} (T : TabOk E) {t : TypeId} {cs : List AV} {off : Nat} {K : AV → Out} {e : Ex} {ts : Tm} {h : Hs} {c : Nat} (g : partOf E t cs off K = .ok e ts h c) :
    ∃ v, K v = .ok e ts h c ∧ ∀ (φ : Loc) (arr : Array Value), VRL E φ cs arr.toList → (∀ x ∈ arr.toList, one x = true) → ∃ u, VR E φ v u ∧ Hands E.P (part t arr off) u := by
  unfold partOf at g
  obtain ⟨d, hd, g⟩ := und_ok T g
  unfold partD at g
  rw [kdrop_eq] at g
  cases ha : isAggD d with
  | true =>
    rw [ha] at g
    obtain ⟨i, hi, g⟩ := size_ok T g
    obtain ⟨hn, g⟩ := guardB_ok g
    rw [ktake_eq] at g
    rw [lenL_eq] at hn
    have hn := Nat.le_of_ble_eq_true hn
    refine ⟨_, g, fun φ arr h1 h2 => ⟨.agg (arr.extract off (off + i.size)), ⟨_, rfl, ?_, ?_⟩, fun w => ?_⟩⟩
    · have e : (arr.extract off (off + i.size)).toList = (arr.toList.drop off).take i.size := by
        rw [Array.toList_extract, List.extract_eq_take_drop]; congr 1; omega
      rw [e]; exact (h1.drop off).take _
    · intro x hx
      rw [Array.toList_extract, List.extract_eq_take_drop] at hx
      exact h2 x (List.mem_of_mem_drop (List.mem_of_mem_take hx))
    · unfold part
      simp only [Sem.run_bind, run_agg hd, ha, Result.andThen_ok, if_true, run_size hi, Sem.run_pure]
  | false =>
    rw [ha] at g
    obtain ⟨v, hv, g⟩ := oneOf_ok g
    rw [kidx_eq, List.getElem?_drop] at hv
    refine ⟨v, g, fun φ arr h1 h2 => ?_⟩
    obtain ⟨u, hu, hr⟩ := h1.get hv
    refine ⟨u, hr, fun w => ?_⟩
    unfold part
    have hu' : arr[off]? = some u := by simpa using hu
    simp only [Sem.run_bind, run_agg hd, ha, Result.andThen_ok, Bool.false_eq_true, if_false, hu', Sem.run_pure]

/-- what the evaluator says of two values is what == says, at any depth that is enough -/
def EqSays (E : Env) (d : Nat) (t : TypeId) (x y : AV) (r : Bool) : Prop :=
  ∀ (φ : Loc) (u v : Value), VR E φ x u → VR E φ y v → ∀ m, d ≤ m → Hands E.P (Op.equalIn m t u v) r

def EqsOk (E : Env) (d : Nat) (self : Eqs) : Prop :=
  ∀ (t : TypeId) (x y : AV) (K : Bool → Out) (e : Ex) (ts : Tm) (h : Hs) (c : Nat), self t x y K = .ok e ts h c → ∃ r, K r = .ok e ts h c ∧ EqSays E d t x y r

theorem eqFields_ok {E : Env} (T : TabOk E) {d : Nat} {self : Eqs} (S : EqsOk E d self) {xs ys : List AV} {e : Ex} {ts : Tm} {h : Hs} {c : Nat} : ∀ (fs : List Field) (K : Bool → Out), AE.eqFields E self xs ys fs K = .ok e ts h c →
    ∃ r, K r = .ok e ts h c ∧ ∀ (φ : Loc) (ax ay : Array Value), VRL E φ xs ax.toList → (∀ x ∈ ax.toList, one x = true) → VRL E φ ys ay.toList → (∀ x ∈ ay.toList, one x = true) → ∀ m, d ≤ m → Hands E.P (Op.eqFields m ax ay fs) r
  | [], K, g => ⟨true, g, fun φ ax ay _ _ _ _ m _ w => by simp [Op.eqFields]⟩
  | f :: fs, K, g => by
    have g' : (Bool.rec (motive := fun _ => Out) (eqField E self xs ys f fun r => Bool.rec (motive := fun _ => Out) (K false) (AE.eqFields E self xs ys fs K) r) (AE.eqFields E self xs ys fs K) (f.name == "_") : Out) = .ok e ts h c := g
    cases hn : (f.name == "_") with
    | true =>
      rw [hn] at g'
      obtain ⟨r, hr, hs⟩ := eqFields_ok T S fs K g'
      refine ⟨r, hr, fun φ ax ay h1 h2 h3 h4 m hm w => ?_⟩
      have : ¬ (f.name ≠ "_") := by simpa using hn
      simp only [Op.eqFields, this, if_false]
      exact hs φ ax ay h1 h2 h3 h4 m hm w
    | false =>
      rw [hn] at g'
      have g2 : eqField E self xs ys f (fun r => Bool.rec (motive := fun _ => Out) (K false) (AE.eqFields E self xs ys fs K) r) = .ok e ts h c := g'
      unfold eqField at g2
      obtain ⟨a, g2, ha⟩ := partOf_ok T g2
      obtain ⟨b, g2, hb⟩ := partOf_ok T g2
      obtain ⟨r, g2, hs⟩ := S _ _ _ _ _ _ _ _ g2
      have hne : f.name ≠ "_" := by simpa using hn
      cases r with
      | false =>
        refine ⟨false, g2, fun φ ax ay h1 h2 h3 h4 m hm w => ?_⟩
        obtain ⟨u, hu, ru⟩ := ha φ ax h1 h2
        obtain ⟨v, hv, rv⟩ := hb φ ay h3 h4
        have re := hs φ u v hu hv m hm
        simp only [Op.eqFields, hne, ne_eq, not_false_eq_true, if_true, Sem.run_bind, ru w, rv w, re w, Result.andThen_ok, Bool.not_false, Sem.run_pure]
      | true =>
        obtain ⟨r, hr, hs2⟩ := eqFields_ok T S fs K g2
        refine ⟨r, hr, fun φ ax ay h1 h2 h3 h4 m hm w => ?_⟩
        obtain ⟨u, hu, ru⟩ := ha φ ax h1 h2
        obtain ⟨v, hv, rv⟩ := hb φ ay h3 h4
        have re := hs φ u v hu hv m hm
        simp only [Op.eqFields, hne, ne_eq, not_false_eq_true, if_true, Sem.run_bind, ru w, rv w, re w, Result.andThen_ok, Bool.not_true, Bool.false_eq_true, if_false]
        exact hs2 φ ax ay h1 h2 h3 h4 m hm w

theorem eqD_ok {E : Env} (T : TabOk E) {d : Nat} {self : Eqs} (S : EqsOk E d self) {t : TypeId} {x y : AV} {K : Bool → Out} {D : TypeDesc} {e : Ex} {ts : Tm} {h : Hs} {c : Nat} (hD : E.P.underlying t = some D)
    (g : eqD E self t x y K D = .ok e ts h c) : ∃ r, K r = .ok e ts h c ∧ EqSays E (d + 1) t x y r := by
  have depth : ∀ m, d + 1 ≤ m → ∃ k, m = k + 1 ∧ d ≤ k := fun m hm => ⟨m - 1, by omega, by omega⟩
  cases D <;> simp only [eqD] at g
  case bool =>
    cases x <;> simp only [eqBool] at g <;> try cases g
    cases y <;> simp only at g <;> try cases g
    rename_i a b
    refine ⟨_, g, fun φ u v hu hv m hm => ?_⟩
    obtain ⟨k, rfl, _⟩ := depth m hm
    simp only [VR] at hu hv; subst hu hv
    intro w
    rw [run_equalIn_bool w k t a b hD]
    cases a <;> cases b <;> rfl
  case int k' =>
    cases x <;> simp only [eqInt] at g <;> try cases g
    cases y <;> simp only at g <;> try cases g
    obtain ⟨hk, g2⟩ := guardB_ok g
    have hk := (ikEq_iff _ _).1 hk
    subst hk
    refine ⟨_, g2, fun φ u v hu hv m hm => ?_⟩
    obtain ⟨k, rfl, _⟩ := depth m hm
    simp only [VR] at hu hv; subst hu hv
    intro w
    rw [intEq_eq]; exact run_equalIn_int w k t _ _ _ _ hD
  case string =>
    cases x <;> simp only [eqStr] at g <;> try cases g
    cases y <;> simp only at g <;> try cases g
    refine ⟨_, g, fun φ u v hu hv m hm => ?_⟩
    obtain ⟨k, rfl, _⟩ := depth m hm
    simp only [VR] at hu hv; subst hu hv
    intro w
    rw [strEq_eq, run_equalIn_string w k t _ _ hD]
    simp [ByteArray.toList_eq]
  case pointer el =>
    obtain ⟨i, hi, g⟩ := size_ok T g
    obtain ⟨h0, g⟩ := guardB_ok g
    have h0 := Nat.blt_eq.mp h0
    cases x <;> simp only [eqPtr] at g <;> try cases g
    · cases y <;> simp only at g <;> try cases g
      · refine ⟨_, g, fun φ u v hu hv m hm => ?_⟩
        obtain ⟨k, rfl, _⟩ := depth m hm
        simp only [VR] at hu hv; subst hu hv
        intro w; simp [Op.equalIn, run_und hD]
      · refine ⟨_, g, fun φ u v hu hv m hm => ?_⟩
        obtain ⟨k, rfl, _⟩ := depth m hm
        simp only [VR] at hu hv; subst hu; obtain ⟨B, N, _, hv⟩ := hv; subst hv
        intro w; simp [Op.equalIn, run_und hD]
    · cases y <;> simp only at g <;> try cases g
      · refine ⟨_, g, fun φ u v hu hv m hm => ?_⟩
        obtain ⟨k, rfl, _⟩ := depth m hm
        simp only [VR] at hu hv; subst hv; obtain ⟨B, N, _, hu⟩ := hu; subst hu
        intro w; simp [Op.equalIn, run_und hD]
      · obtain ⟨hb, g2⟩ := guardB_ok g
        have hb := Nat.eq_of_beq_eq_true hb
        subst hb
        refine ⟨_, g2, fun φ u v hu hv m hm => ?_⟩
        obtain ⟨k, rfl, _⟩ := depth m hm
        simp only [VR] at hu hv
        obtain ⟨B, N, e1, hu⟩ := hu
        obtain ⟨B', N', e2, hv⟩ := hv
        rw [e1] at e2; cases e2
        subst hu hv
        rename_i i1 b1 i2
        intro w
        have hne : i.size ≠ 0 := by omega
        simp only [Op.equalIn, Sem.run_bind, run_und hD, Result.andThen_ok, run_size hi, ne_eq, hne, not_false_eq_true, if_true, sameAddr, beq_self_eq_true, Sem.run_pure]
        congr 1
        rw [Bool.eq_iff_iff]; simp
  case slice el =>
    cases x <;> simp only [eqSl] at g <;> try cases g
    · cases y <;> simp only at g <;> try cases g
      · refine ⟨_, g, fun φ u v hu hv m hm => ?_⟩
        obtain ⟨k, rfl, _⟩ := depth m hm
        simp only [VR] at hu hv; subst hu hv
        intro w; simp [Op.equalIn, run_und hD]
      · refine ⟨_, g, fun φ u v hu hv m hm => ?_⟩
        obtain ⟨k, rfl, _⟩ := depth m hm
        simp only [VR] at hu hv; subst hu; obtain ⟨_, _, _, _, _, hv, _⟩ := hv; subst hv
        intro w; simp [Op.equalIn, run_und hD]
    · cases y <;> simp only at g <;> try cases g
      refine ⟨_, g, fun φ u v hu hv m hm => ?_⟩
      obtain ⟨k, rfl, _⟩ := depth m hm
      simp only [VR] at hu hv; subst hv; obtain ⟨_, _, _, _, _, hu, _⟩ := hu; subst hu
      intro w; simp [Op.equalIn, run_und hD]
  case map ke el =>
    cases x <;> simp only [eqMap] at g <;> try cases g
    · cases y <;> simp only at g <;> try cases g
      · refine ⟨_, g, fun φ u v hu hv m hm => ?_⟩
        obtain ⟨k, rfl, _⟩ := depth m hm
        simp only [VR] at hu hv; subst hu hv
        intro w; simp [Op.equalIn, run_und hD]
      · refine ⟨_, g, fun φ u v hu hv m hm => ?_⟩
        obtain ⟨k, rfl, _⟩ := depth m hm
        simp only [VR] at hu hv; subst hu; obtain ⟨_, _, _, hv⟩ := hv; subst hv
        intro w; simp [Op.equalIn, run_und hD]
    · cases y <;> simp only at g <;> try cases g
      refine ⟨_, g, fun φ u v hu hv m hm => ?_⟩
      obtain ⟨k, rfl, _⟩ := depth m hm
      simp only [VR] at hu hv; subst hv; obtain ⟨_, _, _, hu⟩ := hu; subst hu
      intro w; simp [Op.equalIn, run_und hD]
  case func a1 a2 a3 =>
    cases x <;> simp only [eqFn] at g <;> try cases g
    · cases y <;> simp only at g <;> try cases g
      refine ⟨_, g, fun φ u v hu hv m hm => ?_⟩
      obtain ⟨k, rfl, _⟩ := depth m hm
      simp only [VR] at hu hv; subst hv; obtain ⟨_, _, _, hu, _⟩ := hu; subst hu
      intro w; simp [Op.equalIn, run_und hD]
    · cases y <;> simp only at g <;> try cases g
      · refine ⟨_, g, fun φ u v hu hv m hm => ?_⟩
        obtain ⟨k, rfl, _⟩ := depth m hm
        simp only [VR] at hu hv; subst hu; obtain ⟨_, _, _, hv, _⟩ := hv; subst hv
        intro w; simp [Op.equalIn, run_und hD]
      · refine ⟨_, g, fun φ u v hu hv m hm => ?_⟩
        obtain ⟨k, rfl, _⟩ := depth m hm
        simp only [VR] at hu hv; subst hu hv
        intro w; simp [Op.equalIn, run_und hD]
  case interface ms =>
    cases x <;> simp only [eqIf] at g <;> try cases g
    · cases y <;> simp only at g <;> try cases g
      refine ⟨_, g, fun φ u v hu hv m hm => ?_⟩
      obtain ⟨k, rfl, _⟩ := depth m hm
      simp only [VR] at hu hv; subst hv; obtain ⟨_, hu, _⟩ := hu; subst hu
      intro w; simp [Op.equalIn, run_und hD]
    · cases y <;> simp only at g <;> try cases g
      refine ⟨_, g, fun φ u v hu hv m hm => ?_⟩
      obtain ⟨k, rfl, _⟩ := depth m hm
      simp only [VR] at hu hv; subst hu; obtain ⟨_, hv, _⟩ := hv; subst hv
      intro w; simp [Op.equalIn, run_und hD]
  case struct fs =>
    obtain ⟨hp, g⟩ := guardB_ok g
    rw [bnot_eq] at hp
    have hp : E.P.stoodInHeld t = false := by simpa using hp
    obtain ⟨xs, ex, g2⟩ := aggOf_ok g
    obtain ⟨ys, ey, g3⟩ := aggOf_ok g2
    subst ex ey
    obtain ⟨r, hr, hs⟩ := eqFields_ok T S _ _ g3
    refine ⟨r, hr, fun φ u v hu hv m hm => ?_⟩
    obtain ⟨k, rfl, hk⟩ := depth m hm
    obtain ⟨ax, rfl, h1, h2⟩ := hu
    obtain ⟨ay, rfl, h3, h4⟩ := hv
    have hf : E.P.fieldsOf t = fs := by simp [Program.fieldsOf, hD]
    intro w
    rw [run_equalIn_struct w k t ax ay (by rw [hf]; exact hD) hp, hf]
    exact hs φ ax ay h1 h2 h3 h4 k hk w
  all_goals cases g

theorem eqF_ok {E : Env} (T : TabOk E) : ∀ n, EqsOk E n (eqF E n)
  | 0 => fun _ _ _ _ _ _ _ _ g => by cases g
  | n + 1 => fun t x y K e ts h c g => by
    obtain ⟨D, hD, g⟩ := und_ok (K := eqD E (eqF E n) t x y K) T g
    exact eqD_ok T (eqF_ok T n) hD g

/-- == and != -/
theorem eqTop_ok {E : Env} (T : TabOk E) {t : TypeId} {x y : AV} {K : Bool → Out} {D : TypeDesc} {e : Ex} {ts : Tm} {h : Hs} {c : Nat} (hD : E.P.underlying t = some D)
    (g : eqTop E t x y K D = .ok e ts h c) : ∃ r, K r = .ok e ts h c ∧ (∀ (φ : Loc) (u v : Value), VR E φ x u → VR E φ y v → Hands E.P (Op.equal t u v) r) ∧
      (E.P.eqGuardType E.P.depth t = false ∨ ∃ ms, D = .interface ms) ∧ ∃ K', eqF E 20 t x y K' = .ok e ts h c := by
  have main : ∀ {K' : Bool → Out}, eqF E 20 t x y K' = .ok e ts h c → ∃ r, K' r = .ok e ts h c ∧ ∀ (φ : Loc) (u v : Value), VR E φ x u → VR E φ y v → Hands E.P (Op.equal t u v) r := fun g => by
    obtain ⟨r, hr, hs⟩ := eqF_ok T 20 _ _ _ _ _ _ _ _ g
    exact ⟨r, hr, fun φ u v hu hv w => hs φ u v hu hv Op.maxDepth (by unfold Op.maxDepth; omega) w⟩
  cases D <;> simp only [eqTop] at g
  case interface ms =>
    obtain ⟨r, hr, hs⟩ := main g
    exact ⟨r, by rw [forceB_eq] at hr; exact hr, hs, .inr ⟨ms, rfl⟩, _, g⟩
  all_goals
    obtain ⟨hg, g⟩ := guardB_ok g
    rw [bnot_eq] at hg
    obtain ⟨r, hr, hs⟩ := main g
    exact ⟨r, by rw [forceB_eq] at hr; exact hr, hs, .inl (by simpa using hg), _, g⟩
end Go.AE
