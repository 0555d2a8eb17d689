/- The evaluator AE and its soundness, part e. -/
import Derived.Test.YtiidbfjcneaakaaGreatRAEMd
namespace Go.AE

/-! ### states that are overwritten, in any order -/
section
variable {α β : Type}
open Classical in
/-- what stands where the events of S alone have come up -/
noncomputable def Pick (seq : Nat → α → β) (W : Nat → α → Prop) (S : Nat → Prop) : Nat → α → β
  | 0, x => seq 0 x
  | k + 1, x => if S k ∧ W k x then seq (k + 1) x else Pick seq W S k x
variable {seq : Nat → α → β} {W : Nat → α → Prop} {S S' : Nat → Prop} {n i : Nat} {x : α}
theorem Pick.skip (k : Nat) (h : ¬ (S k ∧ W k x)) : Pick seq W S (k + 1) x = Pick seq W S k x := by simp only [Pick]; rw [if_neg h]
theorem Pick.take (k : Nat) (h : S k ∧ W k x) : Pick seq W S (k + 1) x = seq (k + 1) x := by simp only [Pick]; rw [if_pos h]
theorem Pick.all (hseq : ∀ k, k < n → ¬ W k x → seq (k + 1) x = seq k x) : ∀ k, k ≤ n → (∀ j, j < k → W j x → S j) → Pick seq W S k x = seq k x
  | 0, _, _ => rfl
  | k + 1, hk, h => by
    by_cases hw : W k x
    · exact Pick.take k ⟨h k (by omega) hw, hw⟩
    · rw [Pick.skip k (fun q => hw q.2), hseq k (by omega) hw]
      exact Pick.all hseq k (by omega) fun j hj => h j (by omega)
theorem Pick.still {i : Nat} : ∀ m, i ≤ m → (∀ j, i ≤ j → j < m → W j x → ¬ S j) → Pick seq W S m x = Pick seq W S i x
  | 0, hi, _ => by obtain rfl : i = 0 := by omega
                   rfl
  | m + 1, hi, h => by
    by_cases he : i = m + 1
    · subst he; rfl
    · rw [Pick.skip m (fun q => h m (by omega) (by omega) q.2 q.1)]
      exact Pick.still m (by omega) fun j h1 h2 => h j h1 (by omega)
theorem Pick.at (hseq : ∀ k, k < n → ¬ W k x → seq (k + 1) x = seq k x) (hi : i ≤ n) (h1 : ∀ j, j < i → W j x → S j) (h2 : ∀ j, i ≤ j → j < n → W j x → ¬ S j) : Pick seq W S n x = seq i x := by
  rw [Pick.still n hi h2]
  exact Pick.all hseq i hi h1
theorem Pick.congr : ∀ m, (∀ j, j < m → W j x → (S j ↔ S' j)) → Pick seq W S m x = Pick seq W S' m x
  | 0, _ => rfl
  | m + 1, h => by
    have ih := Pick.congr m fun j hj => h j (by omega)
    by_cases hq : S m ∧ W m x
    · rw [Pick.take m hq, Pick.take m ⟨(h m (by omega) hq.2).1 hq.1, hq.2⟩]
    · rw [Pick.skip m hq, Pick.skip m (fun q => hq ⟨(h m (by omega) q.2).2 q.1, q.2⟩), ih]
/-- one more -/
theorem Pick.more (hi : i < n) (hS : ∀ j, S' j ↔ S j ∨ j = i) (hw : W i x) (h2 : ∀ j, i < j → j < n → W j x → ¬ S j) : Pick seq W S' n x = seq (i + 1) x := by
  rw [Pick.still (i := i + 1) n (by omega) fun j h1 hj hwj hs => (hS j).1 hs |>.elim (h2 j (by omega) hj hwj) fun e => by omega]
  exact Pick.take i ⟨(hS i).2 (.inr rfl), hw⟩
theorem Pick.same (hS : ∀ j, S' j ↔ S j ∨ j = i) (hw : ¬ W i x) : Pick seq W S' n x = Pick seq W S n x :=
  Pick.congr n fun j _ hwj => by
    rw [hS j]
    exact ⟨fun h => h.elim id fun e => absurd (e ▸ hwj) hw, .inl⟩
end

/-! ### the heap as a function -/
section
variable {E : Env} {φ φ' φ₁ : Loc} {c c' : Nat} {w w' : World}
structure HRf (E : Env) (φ : Loc) (G : Nat → Option AObj) (w : World) : Prop where
  obj : ∀ b o, G b = some o → OR E φ w b o
  inj : ∀ b b' B N N', G b ≠ none → G b' ≠ none → φ b = some (B, N) → φ b' = some (B, N') → b = b'
theorem HR.fn {t : T AObj} (h : HR E φ t w) : HRf E φ t.get w := ⟨h.obj, h.inj⟩
theorem HRf.tree {t : T AObj} (h : HRf E φ t.get w) : HR E φ t w := ⟨h.obj, h.inj⟩
theorem HRf.sub {G : Nat → Option AObj} {t : T AObj} (h : HRf E φ G w) (hs : ∀ b o, t.get b = some o → G b = some o) : HR E φ t w :=
  ⟨fun b o g => h.obj b o (hs b o g), fun b b' B N N' h1 h2 e1 e2 => by
    have ne : ∀ b, t.get b ≠ none → G b ≠ none := fun b hb => by
      cases e : t.get b with
      | none => exact absurd e hb
      | some o => rw [hs b o e]; simp
    exact h.inj b b' B N N' (ne b h1) (ne b' h2) e1 e2⟩
theorem HRf.loc {G : Nat → Option AObj} (h : HRf E φ G w) {b : Nat} (hb : G b ≠ none) : ∃ B N, φ b = some (B, N) ∧ B < w.heap.size := by
  cases e : G b with
  | none => exact absurd e hb
  | some o => exact (h.obj b o e).loc

/-- φ, but for the numbers from c up to c', which are φ₁'s -/
noncomputable def Loc.join (φ φ₁ : Loc) (c c' : Nat) : Loc := fun b => if c ≤ b ∧ b < c' then φ₁ b else φ b
theorem Loc.join_in {b : Nat} (h : c ≤ b ∧ b < c') : (φ.join φ₁ c c') b = φ₁ b := if_pos h
theorem Loc.join_out {b : Nat} (h : ¬ (c ≤ b ∧ b < c')) : (φ.join φ₁ c c') b = φ b := if_neg h

/-- what an event turns -/
def Wr (c c' : Nat) (lg : List Nat) (y : Nat) : Prop := (y ∈ lg ∧ y < c) ∨ (c ≤ y ∧ y < c')

/-- the run of an event at a part of the heap, laid into the whole -/
theorem merge {G G' : Nat → Option AObj} {τ τ' : T AObj} {lg : List Nat} (hg : HRf E φ G w) (hτ : ∀ y o, τ.get y = some o → G y = some o) (_hdom : ∀ y, τ.get y ≠ none → y < c)
    (s : Sim E (φ.cut c) ⟨τ, c, []⟩ c w φ₁ ⟨τ', c, lg⟩ c' w') (hfree : ∀ b, c ≤ b → b < c' → φ b = none)
    (h1 : ∀ y, Wr c c' lg y → G' y = τ'.get y) (h0 : ∀ y, ¬ Wr c c' lg y → G' y = G y) :
    HRf E (φ.join φ₁ c c') G' w' ∧ φ.le (φ.join φ₁ c c') ∧ φ₁.le (φ.join φ₁ c c') ∧ (∀ B, B < w.heap.size → (∀ y N, y ∈ lg → y < c → τ.get y ≠ none → φ y ≠ some (B, N)) → w'.heap[B]? = w.heap[B]?) := by
  have hle : φ.le (φ.join φ₁ c c') := fun b x h => by
    by_cases hb : c ≤ b ∧ b < c'
    · rw [hfree b hb.1 hb.2] at h; cases h
    · rw [Loc.join_out hb]; exact h
  have hle1 : φ₁.le (φ.join φ₁ c c') := fun b x h => by
    by_cases hb : c ≤ b ∧ b < c'
    · rw [Loc.join_in hb]; exact h
    · rw [Loc.join_out hb]
      rw [s.ext b (by omega)] at h
      exact Loc.cut_le φ c b x h
  have hcut : ∀ y x, φ.cut c y = some x → y < c ∧ φ y = some x := fun y x h => by
    unfold Loc.cut at h
    split at h
    · exact ⟨by assumption, h⟩
    · cases h
  have frame : ∀ B, B < w.heap.size → (∀ y N, y ∈ lg → y < c → τ.get y ≠ none → φ y ≠ some (B, N)) → w'.heap[B]? = w.heap[B]? := fun B hB hn => by
    refine s.fr B hB ?_
    rintro ⟨y, N, hy, e, hx⟩
    obtain ⟨hlt, e⟩ := hcut _ _ e
    exact hn y N (hx.elim (fun h => absurd h (by show ¬ c ≤ y; omega)) id) hlt hy e
  have some_of : ∀ y, τ.get y ≠ none → G y ≠ none := fun y hy => by
    cases e : τ.get y with
    | none => exact absurd e hy
    | some o => rw [hτ y o e]; simp
  -- a block that is not turned keeps its place
  have old : ∀ y o, ¬ Wr c c' lg y → G y = some o → OR E (φ.join φ₁ c c') w' y o := fun y o hw hy => by
    have ho := hg.obj y o hy
    refine ho.keep hle fun B N e => ?_
    have hB : B < w.heap.size := by
      obtain ⟨B', N', e', hb⟩ := ho.loc
      rw [e] at e'; cases e'; exact hb
    refine frame B hB fun z M hz hzc hzt e2 => ?_
    have := hg.inj y z B N M (by rw [hy]; simp) (some_of z hzt) e e2
    subst this
    exact hw (.inl ⟨hz, hzc⟩)
  refine ⟨⟨fun y o hy => ?_, fun y z B N M hy hz e1 e2 => ?_⟩, hle, hle1, frame⟩
  · by_cases hw : Wr c c' lg y
    · rw [h1 y hw] at hy
      exact (s.hr.obj y o hy).keep hle1 fun B N _ => rfl
    · rw [h0 y hw] at hy
      exact old y o hw hy
  · -- where a turned block stands
    have at1 : ∀ y B N, Wr c c' lg y → G' y ≠ none → (φ.join φ₁ c c') y = some (B, N) → τ'.get y ≠ none ∧ φ₁ y = some (B, N) := fun y B N hw hy e => by
      rw [h1 y hw] at hy
      refine ⟨hy, ?_⟩
      obtain ⟨B', N', e', _⟩ := s.hr.loc hy
      rw [hle1 _ _ e'] at e
      rw [e', e]
    have mixed : ∀ y z B N M, Wr c c' lg y → ¬ Wr c c' lg z → G' y ≠ none → G' z ≠ none → (φ.join φ₁ c c') y = some (B, N) → (φ.join φ₁ c c') z = some (B, M) → False := fun y z B N M hwy hwz hy hz e1 e2 => by
      obtain ⟨hy1, e1'⟩ := at1 y B N hwy hy e1
      rw [h0 z hwz] at hz
      have e2' : φ z = some (B, M) := by
        rw [Loc.join_out (fun h => hwz (.inr h))] at e2; exact e2
      obtain ⟨_, _, e3, hB⟩ := hg.loc hz
      rw [e2'] at e3; cases e3
      have viaG : ∀ x K, x ∈ lg → x < c → τ.get x ≠ none → φ x = some (B, K) → False := fun x K hx hxc hxt e => by
        have := hg.inj x z B K M (some_of x hxt) hz e e2'
        subst this
        exact hwz (.inl ⟨hx, hxc⟩)
      rcases hwy with ⟨hl, hc⟩ | ⟨hc1, hc2⟩
      · rcases s.dom y hy1 with hd | hd
        · have e4 : φ.cut c y = some (B, N) := by rw [← s.ext y (.inl hc)]; exact e1'
          exact viaG y N hl hc hd (hcut _ _ e4).2
        · omega
      · rcases s.new y B N hc1 hc2 e1' hy1 with hn | ⟨x, K, hx, e, hxl⟩
        · omega
        · obtain ⟨hxc, e⟩ := hcut _ _ e
          exact viaG x K (hxl.elim (fun h => absurd h (by show ¬ c ≤ x; omega)) id) hxc hx e
    by_cases hwy : Wr c c' lg y
    · by_cases hwz : Wr c c' lg z
      · obtain ⟨hy1, e1'⟩ := at1 y B N hwy hy e1
        obtain ⟨hz1, e2'⟩ := at1 z B M hwz hz e2
        exact s.hr.inj y z B N M hy1 hz1 e1' e2'
      · exact (mixed y z B N M hwy hwz hy hz e1 e2).elim
    · by_cases hwz : Wr c c' lg z
      · exact (mixed z y B M N hwz hwy hz hy e2 e1).elim
      · rw [h0 y hwy] at hy
        rw [h0 z hwz] at hz
        rw [Loc.join_out (fun h => hwy (.inr h))] at e1
        rw [Loc.join_out (fun h => hwz (.inr h))] at e2
        exact hg.inj y z B N M hy hz e1 e2
end
end Go.AE
namespace Go.AE
/-- an operation of a region, wanted or not -/
def OpRun (E : Env) (φ₀ : Loc) (ops : Array Oper) (i : Nat) (o : Oper) (a : Act) (h : Hs) (c : Nat) (v : AV) (h' : Hs) (c' : Nat) : Prop :=
  ∀ (φ : Loc) (w : World) (b : Frame) (k : List Item) (cs : List Frame) (rest : List Nat), φ₀.le φ → HR E φ h.t w → Fresh φ c c' →
    ∃ φ' w' u, Sim E φ h c w φ' h' c' w' ∧ VR E φ' v u ∧ Steps E.P (lone (fat b a (.inRegion ops (i :: rest) :: k)) cs w) (lone (fat b (a.put o.dst u) (.inRegion ops rest :: k)) cs w')

/-- the evaluator's run of a region, in sequence -/
structure Plan where
  op : Nat → Oper
  TS : Nat → Tm
  H : Nat → T AObj
  C : Nat → Nat
  v : Nat → AV
  τ : Nat → T AObj
  τ' : Nat → T AObj
  lg : Nat → List Nat
  pre : Nat → Nat → Prop

def Plan.WT (p : Plan) (k t : Nat) : Prop := (p.op k).dst = some t
def Plan.WH (p : Plan) (k y : Nat) : Prop := Wr (p.C k) (p.C (k + 1)) (p.lg k) y
def Plan.IH (p : Plan) (k y : Nat) : Prop := (p.τ k).get y ≠ none ∨ (y ∈ p.lg k ∧ y < p.C k)
noncomputable def Plan.GT (p : Plan) (n : Nat) (S : Nat → Prop) : Nat → AV := Pick (fun k t => evalT (p.TS k) t) p.WT S n
noncomputable def Plan.GH (p : Plan) (n : Nat) (S : Nat → Prop) : Nat → Option AObj := Pick (fun k y => (p.H k).get y) p.WH S n

/-- the operation's own run -/
def Plan.Run (E : Env) (ops : Array Oper) (N : Nat) (p : Plan) (i : Nat) : Prop :=
  ∀ (φ : Loc) (a : Act), a.tmps.size = N → (∀ t ∈ looksA ops.toList (p.op i), VR E φ (evalT (p.TS i) t) (a.tmps.getD t undef)) →
    OpRun E φ ops i (p.op i) a ⟨p.τ i, p.C i, []⟩ (p.C i) (p.v i) ⟨p.τ' i, p.C i, p.lg i⟩ (p.C (i + 1))

structure Plan.Ok (E : Env) (ops : Array Oper) (N n : Nat) (p : Plan) : Prop where
  hC : ∀ i, i < n → p.C i ≤ p.C (i + 1)
  hτ : ∀ i, i < n → ∀ y o, (p.τ i).get y = some o → (p.H i).get y = some o
  hdom : ∀ i, i ≤ n → ∀ y, (p.H i).get y ≠ none → y < p.C i
  hH1 : ∀ i, i < n → ∀ y, p.WH i y → (p.H (i + 1)).get y = (p.τ' i).get y
  hH0 : ∀ i, i < n → ∀ y, ¬ p.WH i y → (p.H (i + 1)).get y = (p.H i).get y
  hT1 : ∀ i, i < n → ∀ t, p.WT i t → evalT (p.TS (i + 1)) t = p.v i
  hT0 : ∀ i, i < n → ∀ t, ¬ p.WT i t → evalT (p.TS (i + 1)) t = evalT (p.TS i) t
  conf : ∀ j i, j < i → i < n → ¬ p.pre i j → ∀ y, (p.WH i y → ¬ p.IH j y) ∧ (p.WH j y → ¬ p.IH i y) ∧ (p.WH i y → ¬ p.WH j y)
  apart : ∀ j i, j < i → i < n → ¬ p.pre i j → ∀ t, (p.WT j t → t ∉ looksA ops.toList (p.op i)) ∧ (p.WT i t → t ∉ looksA ops.toList (p.op j)) ∧ (p.WT i t → ¬ p.WT j t)
  dst : ∀ i, i < n → dstOk N (p.op i) = true
  run : ∀ i, i < n → p.Run E ops N i
  scT : ∀ i, i < n → ∀ t, ∃ (ψ : Loc) (u : Value), Fresh ψ (p.C i) 0 ∧ VR E ψ (evalT (p.TS i) t) u
  scH : ∀ i, i < n → ∀ y o, (p.H i).get y = some o → ∃ (ψ : Loc) (w : World), Fresh ψ (p.C i) 0 ∧ OR E ψ w y o

theorem Plan.C_le {p : Plan} {n : Nat} (hC : ∀ i, i < n → p.C i ≤ p.C (i + 1)) : ∀ i j, i ≤ j → j ≤ n → p.C i ≤ p.C j
  | i, 0, h, _ => by obtain rfl : i = 0 := by omega
                     exact Nat.le_refl _
  | i, j + 1, h, hj => by
    by_cases e : i = j + 1
    · subst e; exact Nat.le_refl _
    · exact Nat.le_trans (Plan.C_le hC i j (by omega) (by omega)) (hC j (by omega))

/-- may real block B have been turned? -/
def Plan.Ex (p : Plan) (n : Nat) (φ₀ : Loc) (B : Nat) : Prop := ∃ y K, (p.H 0).get y ≠ none ∧ φ₀ y = some (B, K) ∧ ∃ j, j < n ∧ y ∈ p.lg j

structure Plan.Inv (E : Env) (N n : Nat) (p : Plan) (φ₀ : Loc) (w₀ : World) (a₀ : Act) (S : Nat → Prop) (φ : Loc) (w : World) (a : Act) : Prop where
  size : a.tmps.size = N
  defers : a.defers = a₀.defers
  tm : ∀ t, (∀ i, i < n → ¬ p.WT i t) → a.tmps.getD t undef = a₀.tmps.getD t undef
  tr : ∀ t, VR E φ (p.GT n S t) (a.tmps.getD t undef)
  hr : HRf E φ (p.GH n S) w
  free1 : ∀ b, p.C n ≤ b → φ b = none
  free2 : ∀ i, i < n → ¬ S i → ∀ b, p.C i ≤ b → b < p.C (i + 1) → φ b = none
  ext : ∀ b, b < p.C 0 → φ b = φ₀ b
  dom : ∀ b, p.GH n S b ≠ none → (p.H 0).get b ≠ none ∨ (p.C 0 ≤ b ∧ b < p.C n)
  new : ∀ b B K, p.C 0 ≤ b → b < p.C n → φ b = some (B, K) → p.GH n S b ≠ none → w₀.heap.size ≤ B ∨ p.Ex n φ₀ B
  fr : ∀ B, B < w₀.heap.size → ¬ p.Ex n φ₀ B → w.heap[B]? = w₀.heap[B]?
  same : Same w₀ w

section
variable {E : Env} {ops : Array Oper} {N n : Nat} {p : Plan} {φ₀ φ : Loc} {w₀ w : World} {a₀ : Act} {S S' : Nat → Prop} {a : Act}

theorem Plan.Inv.start (ok : p.Ok E ops N n) (h1 : a.tmps.size = N) (h2 : TR E φ₀ (p.TS 0) a.tmps) (h3 : HR E φ₀ (p.H 0) w₀) (h4 : Fresh φ₀ (p.C 0) 0) (hS : ∀ i, ¬ S i) : p.Inv E N n φ₀ w₀ a S φ₀ w₀ a := by
  have hT : p.GT n S = fun t => evalT (p.TS 0) t := funext fun t => Pick.still n (Nat.zero_le _) fun j _ _ _ => hS j
  have hH : p.GH n S = fun y => (p.H 0).get y := funext fun y => Pick.still n (Nat.zero_le _) fun j _ _ _ => hS j
  have c0 := Plan.C_le ok.hC 0
  refine ⟨h1, rfl, fun _ _ => rfl, fun t => by rw [hT]; exact h2 t, by rw [hH]; exact h3.fn, fun b hb => h4 b (by have := c0 n (by omega) (by omega); omega) rfl, fun i hi _ b hb _ => h4 b (by have := c0 i (by omega) (by omega); omega) rfl,
    fun _ _ => rfl, fun b hb => .inl (by rw [hH] at hb; exact hb), fun b B K hb _ e _ => (by rw [h4 b hb rfl] at e; cases e), fun _ _ _ => rfl, Same.refl _⟩

theorem Plan.Inv.step (ok : p.Ok E ops N n) (inv : p.Inv E N n φ₀ w₀ a₀ S φ w a) {i : Nat} (hi : i < n) (hSi : ¬ S i) (hpre : ∀ j, j < n → p.pre i j → S j) (hclo : ∀ j, j < n → S j → ∀ k, k < n → p.pre j k → S k)
    (hS : ∀ j, S' j ↔ S j ∨ j = i) (b : Frame) (k : List Item) (cs : List Frame) (rest : List Nat) :
    ∃ φ' w' a', p.Inv E N n φ₀ w₀ a₀ S' φ' w' a' ∧ Steps E.P (lone (fat b a (.inRegion ops (i :: rest) :: k)) cs w) (lone (fat b a' (.inRegion ops rest :: k)) cs w') := by
  have cle := Plan.C_le ok.hC
  -- pairs that may stand in either order
  have early : ∀ j, j < i → ¬ S j → ¬ p.pre i j := fun j hj hs hp => hs (hpre j (by omega) hp)
  have late : ∀ j, i < j → j < n → S j → ¬ p.pre j i := fun j _ hn hs hp => hSi (hclo j hn hs i hi hp)
  -- what it looks at stands as in the sequence
  have hlook : ∀ t ∈ looksA ops.toList (p.op i), p.GT n S t = evalT (p.TS i) t := fun t ht => by
    refine Pick.at (n := n) (fun k hk hw => ok.hT0 k hk t hw) (by omega) (fun j hj hw => Classical.byContradiction fun hs => ?_) (fun j hj hn hw hs => ?_)
    · exact (ok.apart j i hj hi (early j hj hs) t).1 hw ht
    · have hne : j ≠ i := fun e => hSi (e ▸ hs)
      exact (ok.apart i j (by omega) hn (late j (by omega) hn hs) t).2.1 hw ht
  have hblk : ∀ y, p.IH i y → p.GH n S y = (p.H i).get y := fun y hy => by
    refine Pick.at (n := n) (fun k hk hw => ok.hH0 k hk y hw) (by omega) (fun j hj hw => Classical.byContradiction fun hs => ?_) (fun j hj hn hw hs => ?_)
    · exact (ok.conf j i hj hi (early j hj hs) y).2.1 hw hy
    · have hne : j ≠ i := fun e => hSi (e ▸ hs)
      exact (ok.conf i j (by omega) hn (late j (by omega) hn hs) y).1 hw hy
  have hτG : ∀ y o, (p.τ i).get y = some o → p.GH n S y = some o := fun y o hy => by
    rw [hblk y (.inl (by rw [hy]; simp))]; exact ok.hτ i hi y o hy
  have hτc : ∀ y, (p.τ i).get y ≠ none → y < p.C i := fun y hy => by
    cases e : (p.τ i).get y with
    | none => exact absurd e hy
    | some o => exact ok.hdom i (by omega) y (by rw [ok.hτ i hi y o e]; simp)
  have some_of : ∀ y, (p.τ i).get y ≠ none → p.GH n S y ≠ none := fun y hy => by
    cases e : (p.τ i).get y with
    | none => exact absurd e hy
    | some o => rw [hτG y o e]; simp
  -- its run, where only the numbers below its own are in use
  have hcut := Loc.cut_le φ (p.C i)
  have hr := ok.run i hi (φ.cut (p.C i)) a inv.size (fun t ht => by
    obtain ⟨ψ, u, hf, hv⟩ := ok.scT i hi t
    refine VR.scope hf _ _ u ?_ hv
    rw [← hlook t ht]; exact inv.tr t)
  have hhr : HR E (φ.cut (p.C i)) (p.τ i) w := by
    have := inv.hr.sub hτG
    refine ⟨fun y o hy => ?_, fun y z B M M' h1 h2 e1 e2 => this.inj y z B M M' h1 h2 (hcut _ _ e1) (hcut _ _ e2)⟩
    obtain ⟨ψ, w2, hf, ho⟩ := ok.scH i hi y o (ok.hτ i hi y o hy)
    exact OR.scope hf (this.obj y o hy) ho
  obtain ⟨φ₁, w', u, s, hu, hst⟩ := hr (φ.cut (p.C i)) w b k cs rest (fun _ _ h => h) hhr (fresh_cut φ _ _)
  have hfree := inv.free2 i hi hSi
  have hG1 : ∀ y, p.WH i y → p.GH n S' y = (p.τ' i).get y := fun y hy => by
    rw [← ok.hH1 i hi y hy]
    exact Pick.more hi hS hy fun j hj hn hw hs => (ok.conf i j hj hn (late j hj hn hs) y).2.2 hw hy
  have hG0 : ∀ y, ¬ p.WH i y → p.GH n S' y = p.GH n S y := fun y hy => Pick.same hS hy
  obtain ⟨m1, m2, m3, m4⟩ := merge inv.hr hτG hτc s hfree hG1 hG0
  have hcC := ok.hC i hi
  have hcn := cle (i + 1) n (by omega) (by omega)
  have hc0 := cle 0 i (by omega) (by omega)
  -- where a block that it turns stood
  have origin : ∀ B x K, (p.τ i).get x ≠ none → x ∈ p.lg i → φ x = some (B, K) → w₀.heap.size ≤ B ∨ p.Ex n φ₀ B := fun B x K hx hl e => by
    have hg := some_of x hx
    have hxc := hτc x hx
    by_cases h0 : x < p.C 0
    · rcases inv.dom x hg with hd | hd
      · exact .inr ⟨x, K, hd, by rw [← inv.ext x h0]; exact e, i, hi, hl⟩
      · omega
    · exact inv.new x B K (by omega) (by omega) e hg
  have turned : ∀ y, p.WH i y → p.GH n S' y ≠ none → ¬ (p.C i ≤ y ∧ y < p.C (i + 1)) → p.GH n S y ≠ none := fun y hw hy hn => by
    rw [hG1 y hw] at hy
    rcases s.dom y hy with hd | hd
    · exact some_of y hd
    · exact absurd hd hn
  have hputs : (a.put (p.op i).dst u).tmps.size = a.tmps.size := by
    cases h : (p.op i).dst <;> simp [Act.put]
  refine ⟨φ.join φ₁ (p.C i) (p.C (i + 1)), w', a.put (p.op i).dst u, ⟨hputs.trans inv.size, (by rw [← inv.defers]; cases h : (p.op i).dst <;> rfl), fun t ht => ((KeptT.put (L := (p.op i).dst.toList) a (p.op i).dst u (fun d hd => by rw [hd]; simp)).2 t (fun hm => ht i hi (by simpa [Plan.WT] using hm))).trans (inv.tm t ht), fun t => ?_, m1, fun y hy => ?_, fun j hj hs y h1 h2 => ?_, fun y hy => ?_, fun y hy => ?_, fun y B K h1 h2 e hy => ?_, fun B hB hx => ?_, inv.same.trans s.same⟩, hst⟩
  · by_cases hw : p.WT i t
    · have e1 : p.GT n S' t = p.v i := by
        rw [← ok.hT1 i hi t hw]
        exact Pick.more hi hS hw fun j hj hn hwj hs => (ok.apart i j hj hn (late j hj hn hs) t).2.2 hwj hw
      have hd : (p.op i).dst = some t := hw
      have hlt : t < a.tmps.size := by
        have := ok.dst i hi
        unfold dstOk at this
        rw [hd] at this
        rw [inv.size]; exact Nat.blt_eq.mp this
      have e2 : (a.put (p.op i).dst u).tmps.getD t undef = u := by
        rw [hd]
        show (a.tmps.setIfInBounds t u).getD t undef = u
        simp [Array.getD, hlt]
      rw [e1, e2]; exact VR.mono m3 _ _ hu
    · have e1 : p.GT n S' t = p.GT n S t := Pick.same hS hw
      have e2 : (a.put (p.op i).dst u).tmps.getD t undef = a.tmps.getD t undef := by
        cases hd : (p.op i).dst with
        | none => rfl
        | some d =>
          have hne : d ≠ t := fun e => hw (by unfold Plan.WT; rw [hd, e])
          show (a.tmps.setIfInBounds d u).getD t undef = _
          simp only [Array.getD_eq_getD_getElem?, Array.getElem?_setIfInBounds_ne hne]
      rw [e1, e2]; exact VR.mono m2 _ _ (inv.tr t)
  · rw [Loc.join_out (by omega)]; exact inv.free1 y hy
  · have hji : j ≠ i := fun e => hs ((hS j).2 (.inr e))
    have hjs : ¬ S j := fun h => hs ((hS j).2 (.inl h))
    rw [Loc.join_out (fun hc => ?_)]
    · exact inv.free2 j hj hjs y h1 h2
    · by_cases hlt : j < i
      · have := cle (j + 1) i (by omega) (by omega); omega
      · have := cle (i + 1) j (by omega) (by omega); omega
  · rw [Loc.join_out (by omega)]; exact inv.ext y hy
  · by_cases hw : p.WH i y
    · by_cases hn : p.C i ≤ y ∧ y < p.C (i + 1)
      · exact .inr (by omega)
      · exact inv.dom y (turned y hw hy hn)
    · rw [hG0 y hw] at hy; exact inv.dom y hy
  · by_cases hn : p.C i ≤ y ∧ y < p.C (i + 1)
    · rw [Loc.join_in hn] at e
      rw [hG1 y (.inr hn)] at hy
      rcases s.new y B K hn.1 hn.2 e hy with hb | ⟨x, M, hx, e2, hl⟩
      · exact .inl (Nat.le_trans inv.same.size hb)
      · have hxc := hτc x hx
        exact origin B x M hx (hl.elim (fun h => absurd h (by show ¬ p.C i ≤ x; omega)) id) (hcut _ _ e2)
    · rw [Loc.join_out hn] at e
      by_cases hw : p.WH i y
      · exact inv.new y B K h1 h2 e (turned y hw hy hn)
      · rw [hG0 y hw] at hy; exact inv.new y B K h1 h2 e hy
  · rw [m4 B (Nat.lt_of_lt_of_le hB inv.same.size) (fun y K hl hc ht e => ?_), inv.fr B hB hx]
    rcases origin B y K ht hl e with h | h
    · omega
    · exact hx h

/-- all have come up -/
theorem Plan.Inv.done (ok : p.Ok E ops N n) (inv : p.Inv E N n φ₀ w₀ a₀ S φ w a) (hall : ∀ i, i < n → S i) (hf : Fresh φ₀ (p.C 0) 0) {fl : Nat} {lg lg' : List Nat} (hlg : ∀ x ∈ lg, x ∈ lg') (hl : ∀ j, j < n → ∀ y ∈ p.lg j, y < p.C 0 → y < fl → y ∈ lg') (_h3 : HR E φ₀ (p.H 0) w₀) :
    Sim E φ₀ ⟨p.H 0, fl, lg⟩ (p.C 0) w₀ φ ⟨p.H n, fl, lg'⟩ (p.C n) w ∧ TR E φ (p.TS n) a.tmps := by
  have hT : p.GT n S = fun t => evalT (p.TS n) t := funext fun t => Pick.all (n := n) (fun k hk hw => ok.hT0 k hk t hw) n (Nat.le_refl _) fun j hj _ => hall j hj
  have hH : p.GH n S = fun y => (p.H n).get y := funext fun y => Pick.all (n := n) (fun k hk hw => ok.hH0 k hk y hw) n (Nat.le_refl _) fun j hj _ => hall j hj
  have cle := Plan.C_le ok.hC
  have exm : ∀ B, p.Ex n φ₀ B → Exm φ₀ (p.H 0) fl lg' B := fun B ⟨y, K, hy, e, j, hj, hm⟩ => by
    refine ⟨y, K, hy, e, ?_⟩
    have hyc := fresh_lt hf e
    by_cases h : fl ≤ y
    · exact .inl h
    · exact .inr (hl j hj y hm hyc (by omega))
  refine ⟨⟨(hH ▸ inv.hr).tree, fun b hb => ?_, cle 0 n (by omega) (by omega), fun b hb => ?_, fun b B K h1 h2 e hb => ?_, fun B hB hx => inv.fr B hB fun h => hx (exm B h), inv.same, rfl, hlg, fun b h1 h2 h4 => ?_⟩, fun t => by have := inv.tr t; rw [hT] at this; exact this⟩
  · rcases hb with hb | hb
    · exact inv.ext b hb
    · rw [inv.free1 b hb, hf b (by have := cle 0 n (by omega) (by omega); omega) rfl]
  · exact inv.dom b (by rw [hH]; exact hb)
  · exact (inv.new b B K h1 h2 e (by rw [hH]; exact hb)).imp id (exm B)
  · have : ∀ m, m ≤ n → (p.H m).get b = (p.H 0).get b := by
      intro m
      induction m with
      | zero => intro _; rfl
      | succ m ih =>
        intro hm
        rw [ok.hH0 m (by omega) b ?_, ih (by omega)]
        rintro (⟨hq, _⟩ | ⟨hq, _⟩)
        · exact h4 (hl m (by omega) b hq h2 h1)
        · have := cle 0 m (by omega) (by omega)
          have h2 : b < p.C 0 := h2
          omega
    exact this n (Nat.le_refl _)
end
end Go.AE
namespace Go.AE
section
variable {E : Env} {ops : Array Oper} {N : Nat} {p : Plan} {φ₀ φ : Loc} {w₀ w : World} {a₀ : Act} {a : Act}

/-- what is listed -/
def Ls (listed : Array Bool) (j : Nat) : Prop := listed.getD j false = true
def left (n : Nat) (listed : Array Bool) : List Nat := (List.range n).filter fun j => !listed.getD j false

theorem filter_lt {q r : Nat → Bool} {i : Nat} : ∀ {l : List Nat}, (∀ x ∈ l, r x = true → q x = true) → i ∈ l → q i = true → r i = false → (l.filter r).length < (l.filter q).length
  | [], _, hi, _, _ => by cases hi
  | x :: l, h, hi, hq, hr => by
    have le : (l.filter r).length ≤ (l.filter q).length := by
      have h' : ∀ x ∈ l, r x = true → q x = true := fun x hx => h x (List.mem_cons_of_mem _ hx)
      clear h hi
      induction l with
      | nil => exact Nat.le_refl _
      | cons y l ih =>
        have := ih fun x hx => h' x (List.mem_cons_of_mem _ hx)
        have hy := h' y (List.mem_cons_self ..)
        cases hry : r y <;> cases hqy : q y <;> simp_all
        omega
    by_cases e : x = i
    · subst e
      rw [List.filter_cons_of_neg (by simp [hr]), List.filter_cons_of_pos (by simpa using hq)]
      simp only [List.length_cons]; omega
    · have hi : i ∈ l := (List.mem_cons.1 hi).resolve_left fun h => e h.symm
      have ih := filter_lt (fun y hy => h y (List.mem_cons_of_mem _ hy)) hi hq hr
      have hx := h x (List.mem_cons_self ..)
      cases hrx : r x <;> cases hqx : q x <;> simp_all
      omega

theorem left_nil {n : Nat} {listed : Array Bool} (h : left n listed = []) : ∀ i, i < n → Ls listed i := fun i hi => by
  have := List.filter_eq_nil_iff.1 h i (List.mem_range.2 hi)
  unfold Ls
  cases hb : listed.getD i false
  · simp only [hb] at this; exact absurd rfl this
  · rfl

theorem Ls_set {listed : Array Bool} {i j : Nat} (hi : i < listed.size) : Ls (listed.setIfInBounds i true) j ↔ Ls listed j ∨ j = i := by
  unfold Ls
  by_cases e : i = j
  · subst e
    simp [Array.getD, hi]
  · rw [getD_set_ne false e]
    exact ⟨.inl, fun h => h.resolve_right fun h => e h.symm⟩

theorem Plan.Inv.sched (ok : p.Ok E ops N ops.size) (hop : ∀ i, i < ops.size → ops[i]? = some (p.op i))
    (P1 : ∀ i, i < ops.size → ∀ j, p.pre i j → ∃ e ∈ (p.op i).after, Region.binds .any e = true ∧ (j = e.on ∨ (e.on < i ∧ p.pre e.on j)))
    (P2 : ∀ i, i < ops.size → ∀ e ∈ (p.op i).after, Region.binds .any e = true → e.on < i) (b : Frame) (k : List Item) (cs : List Frame) :
    ∀ (fuel t : Nat) (listed : Array Bool) (φ : Loc) (w : World) (a : Act), listed.size = ops.size → (left ops.size listed).length ≤ fuel → p.Inv E N ops.size φ₀ w₀ a₀ (Ls listed) φ w a →
      (∀ j, j < ops.size → Ls listed j → ∀ k, k < ops.size → p.pre j k → Ls listed k) →
      ∃ S φ' w' a', (∀ i, i < ops.size → S i) ∧ p.Inv E N ops.size φ₀ w₀ a₀ S φ' w' a' ∧
        Steps E.P (lone (fat b a (.inRegion ops (Region.linearise.go .any ops fuel t listed []) :: k)) cs w) (lone (fat b a' k) cs w')
  | 0, t, listed, φ, w, a, hs, hl, inv, _ => by
    have : left ops.size listed = [] := List.eq_nil_of_length_eq_zero (by omega)
    exact ⟨Ls listed, φ, w, a, left_nil this, inv, fat_region_end⟩
  | fuel + 1, t, listed, φ, w, a, hs, hl, inv, hclo => by
    simp only [Region.linearise.go]
    change ∃ S φ' w' a', _ ∧ _ ∧ Steps E.P (lone (fat b a (.inRegion ops (match (Region.ready .any ops listed)[t % (Region.ready .any ops listed).length]? with
      | some i => Region.linearise.go .any ops fuel (t / (Region.ready .any ops listed).length) (listed.setIfInBounds i true) [i]
      | none => [].reverse) :: k)) cs w) _
    cases hi : (Region.ready .any ops listed)[t % (Region.ready .any ops listed).length]? with
    | none =>
      have hnil : Region.ready .any ops listed = [] := by
        cases hr : Region.ready .any ops listed with
        | nil => rfl
        | cons x xs =>
          rw [hr] at hi
          have hlt : t % (x :: xs).length < (x :: xs).length := Nat.mod_lt _ (by simp)
          simp at hi
          simp at hlt
          omega
      refine ⟨Ls listed, φ, w, a, ?_, inv, by simpa using fat_region_end⟩
      intro i
      induction i using Nat.strongRecOn with
      | ind i ih =>
        intro hlt
        apply Classical.byContradiction
        intro hn
        have : i ∈ Region.ready .any ops listed := by
          rw [mem_ready]
          refine ⟨?_, p.op i, hop i hlt, fun e he hb => ih e.on (P2 i hlt e he hb) (by have := P2 i hlt e he hb; omega)⟩
          unfold Ls at hn
          rw [Array.getD_eq_getD_getElem?] at hn ⊢
          rw [Array.getElem?_eq_getElem (by omega)] at hn ⊢
          simpa using hn
        rw [hnil] at this; cases this
    | some i =>
      simp only []
      rw [linearise_go_acc, List.reverse_singleton, List.singleton_append]
      obtain ⟨hun, o, ho, hed⟩ := mem_ready.1 (List.mem_of_getElem? hi)
      have hlt : i < ops.size := (Array.getElem?_eq_some_iff.1 ho).1
      rw [hop i hlt] at ho; cases ho
      have hSi : ¬ Ls listed i := by
        unfold Ls
        rw [Array.getD_eq_getD_getElem?] at hun ⊢
        rw [Array.getElem?_eq_getElem (by omega)] at hun ⊢
        simpa using hun
      have hpre : ∀ j, j < ops.size → p.pre i j → Ls listed j := fun j hj hp => by
        obtain ⟨e, he, hb, h | ⟨h1, h2⟩⟩ := P1 i hlt j hp
        · subst h; exact hed e he hb
        · exact hclo e.on (by omega) (hed e he hb) j hj h2
      have hset : ∀ j, Ls (listed.setIfInBounds i true) j ↔ Ls listed j ∨ j = i := fun j => Ls_set (by omega)
      obtain ⟨φ₁, w₁, a₁, inv₁, st₁⟩ := inv.step ok hlt hSi hpre hclo hset b k cs (Region.linearise.go .any ops fuel (t / (Region.ready .any ops listed).length) (listed.setIfInBounds i true) [])
      have hlen : (left ops.size (listed.setIfInBounds i true)).length < (left ops.size listed).length := by
        refine filter_lt (i := i) (fun x _ hx => ?_) (List.mem_range.2 hlt) ?_ ?_
        · cases hb : listed.getD x false
          · rfl
          · have : Ls (listed.setIfInBounds i true) x := (hset x).2 (.inl hb)
            unfold Ls at this
            rw [this] at hx; exact hx
        · cases hb : listed.getD i false
          · rfl
          · exact absurd hb hSi
        · have : Ls (listed.setIfInBounds i true) i := (hset i).2 (.inr rfl)
          unfold Ls at this
          rw [this]; rfl
      obtain ⟨S, φ', w', a', h1, h2, h3⟩ := Plan.Inv.sched ok hop P1 P2 b k cs fuel (t / (Region.ready .any ops listed).length) (listed.setIfInBounds i true) φ₁ w₁ a₁ (by simpa using hs) (by omega) inv₁ (fun j hj hs' m hm hp => by
        rw [hset] at hs' ⊢
        rcases hs' with h | h
        · exact .inl (hclo j hj h m hm hp)
        · subst h; exact .inl (hpre m hm hp))
      exact ⟨S, φ', w', a', h1, h2, st₁.trans h3⟩
end
end Go.AE
namespace Go.AE
section
variable {E : Env} {φ φ' φ₀ : Loc} {h h' h₁ h₀ h1 : Hs} {c c' c₁ c₀ b m i : Nat} {w w' : World} {ts ts' ts1 : Tm} {e ex : Ex} {rs : List Rc} {o : Oper} {a : Act} {ops : Array Oper} {N : Nat}

/-! ### what is hidden from an operation -/
def Hid (m : Nat) (rs : List Rc) (y : Nat) : Prop := ∃ j, (⟨j, .al y⟩ : Rc) ∈ rs ∧ Nat.testBit m j = false
def HideOk (m : Nat) (rs : List Rc) (t : T AObj) : Prop := (∃ n, ∀ K, hideAl m rs t K = .bad n) ∨ ∃ t' l, (∀ K, hideAl m rs t K = K t' l) ∧ (∀ y, Hid m rs y → t.get y ≠ none) ∧ (∀ y, ¬ Hid m rs y → t'.get y = t.get y) ∧ (∀ y, Hid m rs y → t'.get y = none) ∧
    ∀ t2, ∃ t3, (∀ K, layBack l t2 K = K t3) ∧ (∀ y, Hid m rs y → t3.get y = t.get y) ∧ (∀ y, ¬ Hid m rs y → t3.get y = t2.get y)
theorem HideOk.same {r : Rc} {t : T AObj} (h1 : ∀ K, hideAl m (r :: rs) t K = hideAl m rs t K) (h2 : ∀ y, Hid m (r :: rs) y ↔ Hid m rs y) (h : HideOk m rs t) : HideOk m (r :: rs) t := by
  rcases h with ⟨n, hb⟩ | ⟨t', l, g1, g2, g3, g4, g5⟩
  · exact .inl ⟨n, fun K => (h1 K).trans (hb K)⟩
  · refine .inr ⟨t', l, fun K => (h1 K).trans (g1 K), fun y hy => g2 y ((h2 y).1 hy), fun y hy => g3 y fun h => hy ((h2 y).2 h), fun y hy => g4 y ((h2 y).1 hy), fun t2 => ?_⟩
    obtain ⟨t3, q1, q2, q3⟩ := g5 t2
    exact ⟨t3, q1, fun y hy => q2 y ((h2 y).1 hy), fun y hy => q3 y fun h => hy ((h2 y).2 h)⟩
theorem hideAl_eq (m : Nat) : ∀ (rs : List Rc) (t : T AObj), HideOk m rs t
  | [], t => .inr ⟨t, [], fun _ => rfl, fun y ⟨_, h, _⟩ => (by cases h), fun _ _ => rfl, fun y ⟨_, h, _⟩ => (by cases h), fun t2 => ⟨t2, fun _ => rfl, fun y ⟨_, h, _⟩ => (by cases h), fun _ _ => rfl⟩⟩
  | r :: rs, t => by
    have same := fun h1 h2 => HideOk.same (m := m) (rs := rs) (r := r) (t := t) h1 h2 (hideAl_eq m rs t)
    obtain ⟨j, k⟩ := r
    cases hb : Nat.testBit m j with
    | true =>
      refine same (fun K => ?_) fun y => ⟨fun ⟨j', h, hj⟩ => ?_, fun ⟨j', h, hj⟩ => ⟨j', List.mem_cons_of_mem _ h, hj⟩⟩
      · show Bool.rec (motive := fun _ => Out) _ _ (Nat.testBit m j) = _
        rw [hb]; rfl
      · rcases List.mem_cons.1 h with h | h
        · injection h with h _; subst h; rw [hb] at hj; cases hj
        · exact ⟨j', h, hj⟩
    | false =>
      cases k with
      | al b =>
        have he : ∀ K, hideAl m (⟨j, .al b⟩ :: rs) t K = (match t.get b with | some o => t.ins b none fun t => hideAl m rs t fun t l => K t ((b, o) :: l) | none => .bad 207) := fun K => by
          show Bool.rec (motive := fun _ => Out) _ _ (Nat.testBit m j) = _
          rw [hb]; rfl
        cases hg : t.get b with
        | none => exact .inl ⟨207, fun K => by rw [he, hg]⟩
        | some o =>
          have he : ∀ K, hideAl m (⟨j, .al b⟩ :: rs) t K = hideAl m rs (t.set b none) fun t l => K t ((b, o) :: l) := fun K => by rw [he, hg]; simp only [ins_eq]
          have hid : ∀ y, Hid m (⟨j, .al b⟩ :: rs) y ↔ y = b ∨ Hid m rs y := fun y => ⟨fun ⟨j', h, hj⟩ => by
            rcases List.mem_cons.1 h with h | h
            · injection h with _ h; injection h with h; exact .inl h
            · exact .inr ⟨j', h, hj⟩, fun h => h.elim (fun h => by subst h; exact ⟨j, List.mem_cons_self .., hb⟩) fun ⟨j', h, hj⟩ => ⟨j', List.mem_cons_of_mem _ h, hj⟩⟩
          rcases hideAl_eq m rs (t.set b none) with ⟨n, hbad⟩ | ⟨t', l, g1, g2, g3, g4, g5⟩
          · exact .inl ⟨n, fun K => (he K).trans (hbad _)⟩
          · have hnb : ¬ Hid m rs b := fun h => g2 b h (by rw [get_set_same])
            refine .inr ⟨t', (b, o) :: l, fun K => (he K).trans (g1 _), fun y hy => ?_, fun y hy => ?_, fun y hy => ?_, fun t2 => ?_⟩
            · rcases (hid y).1 hy with rfl | hy
              · rw [hg]; simp
              · have := g2 y hy
                rw [get_set] at this
                split at this
                · exact absurd rfl this
                · exact this
            · rw [g3 y fun h => hy ((hid y).2 (.inr h)), get_set_ne _ _ fun h => hy ((hid y).2 (.inl h.symm))]
            · rcases (hid y).1 hy with rfl | hy
              · rw [g3 _ hnb, get_set_same]
              · exact g4 y hy
            · obtain ⟨t3, q1, q2, q3⟩ := g5 (t2.set b (some o))
              refine ⟨t3, fun K => ?_, fun y hy => ?_, fun y hy => ?_⟩
              · show t2.ins b (some o) (fun t => layBack l t K) = _
                rw [ins_eq]; exact q1 K
              · rcases (hid y).1 hy with rfl | hy
                · rw [q3 _ hnb, get_set_same, hg]
                · rw [q2 y hy, get_set_ne]
                  intro h; subst h; exact hnb hy
              · rw [q3 y fun h => hy ((hid y).2 (.inr h)), get_set_ne _ _ fun h => hy ((hid y).2 (.inl h.symm))]
      | rd b =>
        refine same (fun K => ?_) fun y => ⟨fun ⟨j', h, hj⟩ => ?_, fun ⟨j', h, hj⟩ => ⟨j', List.mem_cons_of_mem _ h, hj⟩⟩
        · show Bool.rec (motive := fun _ => Out) _ _ (Nat.testBit m j) = _
          rw [hb]; rfl
        · rcases List.mem_cons.1 h with h | h
          · injection h with _ h; cases h
          · exact ⟨j', h, hj⟩
      | wr b =>
        refine same (fun K => ?_) fun y => ⟨fun ⟨j', h, hj⟩ => ?_, fun ⟨j', h, hj⟩ => ⟨j', List.mem_cons_of_mem _ h, hj⟩⟩
        · show Bool.rec (motive := fun _ => Out) _ _ (Nat.testBit m j) = _
          rw [hb]; rfl
        · rcases List.mem_cons.1 h with h | h
          · injection h with _ h; cases h
          · exact ⟨j', h, hj⟩
      | cx ws lo hi =>
        refine same (fun K => ?_) fun y => ⟨fun ⟨j', h, hj⟩ => ?_, fun ⟨j', h, hj⟩ => ⟨j', List.mem_cons_of_mem _ h, hj⟩⟩
        · show Bool.rec (motive := fun _ => Out) _ _ (Nat.testBit m j) = _
          rw [hb]; rfl
        · rcases List.mem_cons.1 h with h | h
          · injection h with _ h; cases h
          · exact ⟨j', h, hj⟩

/-! ### one operation's own run -/
noncomputable def single (b : Nat) (ob : AObj) : T AObj := T.set .e b (some ob)
theorem get_single (b : Nat) (ob : AObj) (y : Nat) : (single b ob).get y = if b = y then some ob else none := by
  unfold single; rw [get_set, get_e]

theorem stN_at {b off : Nat} {l : List AV} {K : Hs → Out} (g : stN h b off l K = .ok e ts' h₀ c₀) :
    ∃ ob ob', h.t.get b = some ob ∧ K (h.putD b (some ob')) = .ok e ts' h₀ c₀ ∧ ∀ (h2 : Hs) (K2 : Hs → Out), h2.t.get b = some ob → stN h2 b off l K2 = K2 (h2.putD b (some ob')) := by
  unfold stN at g
  split at g
  · rename_i n sz pat t hb
    obtain ⟨hn, g⟩ := guardB_ok g
    obtain ⟨hm, g⟩ := guardB_ok g
    rw [ins_eq, put_eq] at g
    refine ⟨_, _, hb, g, fun h2 K2 h2b => ?_⟩
    unfold stN
    rw [h2b]
    simp only [hn, hm]
    show T.ins _ _ _ _ = _
    rw [ins_eq, put_eq]
  · cases g

theorem told_run {cmd : Cmd} {self : Self} (S : SelfOk E self) (hnd : ∀ cl, o.op ≠ .defer cl) (hc : CmdOk E φ₀ o a cmd) (g : told cmd self m rs h c = .ok ex ts1 h1 b) :
    (ex = .normal ∧ CxRun E φ₀ o a ⟨.e, c, []⟩ c (rootV ts1) ⟨.e, c, []⟩ c) ∨
    (ex = .exit 0 ∧ ∃ ob, h1.t = .n .e (some ob) .e ∧ CxRun E φ₀ o a ⟨.e, c, []⟩ c (rootV ts1) ⟨single c ob, c, []⟩ (c + 1)) ∨
    (ex = .exit 1 ∧ ∃ ob, h.t.get b = some ob ∧ CxRun E φ₀ o a ⟨single b ob, c, []⟩ c (rootV ts1) ⟨single b ob, c, []⟩ c) ∨
    (ex = .exit 2 ∧ ∃ ob ob', h.t.get b = some ob ∧ h1 = h.putD b (some ob') ∧ CxRun E φ₀ o a ⟨single b ob, c, []⟩ c (.tup []) ⟨(single b ob).set b (some ob'), c, logW b c []⟩ c) ∨
    (ex = .ret ∧ ∀ t' l, (∀ K, hideAl m rs h.t K = K t' l) → CxRun E φ₀ o a ⟨t', c, []⟩ c (rootV ts1) h1 b) := by
  cases cmd with
  | val v =>
    have g : Out.ok .normal (boxV v) ⟨.e, 0, []⟩ 0 = .ok ex ts1 h1 b := g
    cases g
    obtain ⟨u, hu, hr⟩ := hc
    exact .inl ⟨rfl, CxRun.of_runs hnd fun φ w hle hh _ => ⟨φ, w, u, Sim.refl hh, VR.mono hle _ _ hu, hr w⟩⟩
  | new ao mk =>
    have g : Out.ok (.exit 0) (boxV (mk c)) ⟨.n .e (some ao) .e, 0, []⟩ 0 = .ok ex ts1 h1 b := g
    cases g
    refine .inr (.inl ⟨rfl, ao, rfl, CxRun.of_runs hnd fun φ w hle hh hf => ?_⟩)
    obtain ⟨u, w', n, hr, hgr, hob⟩ := hc w
    have hfc := hf c (Nat.le_refl _) rfl
    have hle2 := Loc.le_add φ (w.heap.size, n) hfc
    obtain ⟨h1, h2⟩ := hob (φ.add c (w.heap.size, n)) c (fun b x hb => hle2 b x (hle b x hb)) (Loc.add_same ..)
    exact ⟨_, w', u, Sim.made (h := ⟨.e, c, []⟩) hh hfc hgr h1, h2, hr⟩
  | rd b' f =>
    have g : f (fun v => .ok (.exit 1) (boxV v) ⟨.e, 0, []⟩ b') (h.t.get b') = .ok ex ts1 h1 b := g
    obtain ⟨ao, v, hx, g, hr⟩ := hc _ _ _ _ _ _ g
    cases g
    refine .inr (.inr (.inl ⟨rfl, ao, hx, CxRun.of_runs hnd fun φ w hle hh _ => ?_⟩))
    obtain ⟨u, hu, hrun⟩ := hr φ w hle (hh.obj b ao (by rw [get_single, if_pos rfl]))
    exact ⟨φ, w, u, Sim.refl hh, hu, hrun⟩
  | wr b' off l =>
    have g : stN h b' off l (fun h => .ok (.exit 2) .e h b') = .ok ex ts1 h1 b := g
    obtain ⟨ob, ob', hb, g, hst⟩ := stN_at g
    cases g
    refine .inr (.inr (.inr (.inl ⟨rfl, ob, ob', hb, rfl, ?_⟩)))
    have g2 := hst ⟨single b ob, c, []⟩ (fun h => .ok .normal .e h c) (by show (single b ob).get b = _; rw [get_single, if_pos rfl])
    have hex : execC (.wr b off l) self ⟨single b ob, c, []⟩ c (fun v h c => .ok .normal (boxV v) h c) = .ok .normal (boxV (.tup [])) ⟨(single b ob).set b (some ob'), c, logW b c []⟩ c := by
      show stN ⟨single b ob, c, []⟩ b off l (fun h => .ok .normal (boxV (.tup [])) h c) = _
      rw [hst ⟨single b ob, c, []⟩ _ (by show (single b ob).get b = _; rw [get_single, if_pos rfl])]
      rfl
    obtain ⟨v, h₁, c₁, g3, hrun⟩ := exec_ok S hnd hc hex
    have g3 : Out.ok .normal (boxV v) h₁ c₁ = _ := g3
    injection g3 with _ g4 g5 g6
    have g4 : v = .tup [] := congrArg rootV g4
    subst g4; subst g5; subst g6
    exact hrun
  | cx f =>
    refine .inr (.inr (.inr (.inr ?_)))
    have g : hideAl m rs h.t (fun t _ => f self ⟨t, c, []⟩ c fun v h' c' => .ok .ret (boxV v) h' c') = .ok ex ts1 h1 b := g
    rcases hideAl_eq m rs h.t with ⟨n, hbad⟩ | ⟨t', l, g1, _⟩
    · rw [hbad] at g; cases g
    · rw [g1] at g
      obtain ⟨v, h₁, c₁, g, hrun⟩ := hc self S _ _ _ _ _ _ _ g
      have g : Out.ok .ret (boxV v) h₁ c₁ = .ok ex ts1 h1 b := g
      cases g
      refine ⟨rfl, fun t'' l' hq => ?_⟩
      have : t'' = t' := by
        have := (hq fun t _ => .ok .normal .e ⟨t, 0, []⟩ 0).symm.trans (g1 _)
        injection this with _ _ h3 _
        injection h3
      subst this
      exact hrun
end
end Go.AE
namespace Go.AE
structure St where
  rs : List Rc
  acc : List Nat
  ts : Tm
  h : Hs
  c : Nat
structure Ev where
  v : AV
  τ : T AObj
  τ' : T AObj
  lg : List Nat

noncomputable def putT (d : Option Tmp) (ts : Tm) (v : AV) : Tm := match d with | none => ts | some d => ts.set d (some v)

inductive Kind (i m : Nat) (z : St) (x : Ev) (z' : St) : Prop
  | none (hτ : x.τ = .e) (hτ' : x.τ' = .e) (hlg : x.lg = []) (hrs : z'.rs = z.rs) (hac : z'.acc = z.acc) (hh : z'.h = z.h) (hc : z'.c = z.c)
  | al (ob : AObj) (hτ : x.τ = .e) (hτ' : x.τ' = single z.c ob) (hlg : x.lg = []) (hrs : z'.rs = ⟨i, .al z.c⟩ :: z.rs) (hac : z'.acc = z.acc) (hh : z'.h = z.h.newD z.c ob) (hc : z'.c = z.c + 1)
  | rd (b : Nat) (ob : AObj) (hb : z.h.t.get b = some ob) (hτ : x.τ = single b ob) (hτ' : x.τ' = single b ob) (hlg : x.lg = []) (hrs : z'.rs = ⟨i, .rd b⟩ :: z.rs) (hac : z'.acc = z.acc) (hh : z'.h = z.h) (hc : z'.c = z.c)
      (hok : allOk (rdOk b) m z.rs = true)
  | wr (b : Nat) (ob ob' : AObj) (hb : z.h.t.get b = some ob) (hτ : x.τ = single b ob) (hτ' : x.τ' = (single b ob).set b (some ob')) (hlg : x.lg = logW b z.c []) (hrs : z'.rs = ⟨i, .wr b⟩ :: z.rs) (hac : z'.acc = z.acc)
      (hh : z'.h = z.h.putD b (some ob')) (hc : z'.c = z.c) (hok : allOk (wrOk b) m z.rs = true)
  | cx (hne : ∀ y, Hid m z.rs y → z.h.t.get y ≠ .none) (hτ1 : ∀ y, ¬ Hid m z.rs y → x.τ.get y = z.h.t.get y) (hτ2 : ∀ y, Hid m z.rs y → x.τ.get y = .none) (ht1 : ∀ y, Hid m z.rs y → z'.h.t.get y = z.h.t.get y) (ht2 : ∀ y, ¬ Hid m z.rs y → z'.h.t.get y = x.τ'.get y)
      (hfl : z'.h.fl = z.h.fl) (hlg : z'.h.lg = z.h.lg) (hrs : z'.rs = ⟨i, .cx x.lg z.c z'.c⟩ :: z.rs) (hac : z'.acc = appLog x.lg z.acc) (hok : allOk (cxOk x.lg) m z.rs = true)

/-- the temporaries that are looked at stand as the evaluator has them -/
def Lk (E : Env) (ops : Array Oper) (o : Oper) (ts : Tm) (φ : Loc) (a : Act) : Prop := ∀ t ∈ looksA ops.toList o, VR E φ (evalT ts t) (a.tmps.getD t undef)

def StepF (E : Env) (ops : Array Oper) (N i m : Nat) (z : St) (x : Ev) (z' : St) : Prop :=
  ∃ o, ops[i]? = some o ∧ z'.ts = putT o.dst z.ts x.v ∧ Kind i m z x z' ∧
    ∀ (φ : Loc) (a : Act), a.tmps.size = N → Lk E ops o z.ts φ a → OpRun E φ ops i o a ⟨x.τ, z.c, []⟩ z.c x.v ⟨x.τ', z.c, x.lg⟩ z'.c

section
variable {E : Env} {φ φ' φ₀ : Loc} {h h' h₁ h₀ h1 : Hs} {c c' c₁ c₀ b m i : Nat} {w w' : World} {ts ts' ts1 : Tm} {e ex : Ex} {rs : List Rc} {o : Oper} {a : Act} {ops : Array Oper} {N : Nat}

/-! ### only what is looked at -/
theorem restrict (ts : Tm) (N : Nat) : ∀ L : List Nat, ∃ ts2 : Tm, ∀ t, evalT ts2 t = if t ∈ L then evalT ts t else if t < N then .any else .tup []
  | [] => ⟨AE.T.lay (List.replicate N .any) .e 0, fun t => by
      unfold evalT
      rw [get_lay, if_neg (fun h : t ∈ [] => by cases h)]
      by_cases ht : t < N
      · rw [if_pos ⟨Nat.zero_le _, by simp [ht]⟩, if_pos ht, List.getElem?_replicate, if_pos (by omega)]; rfl
      · rw [if_neg (by simp; omega), if_neg ht, get_e]; rfl⟩
  | d :: L => by
    obtain ⟨ts2, h⟩ := restrict ts N L
    refine ⟨ts2.set d (some (evalT ts d)), fun t => ?_⟩
    rw [evalT_set, h]
    by_cases e : d = t
    · subst e; simp
    · have e' : ¬ t = d := fun h => e h.symm
      simp [e, e']
theorem tmpsOf_mem {l : List Operand} {t : Nat} (h : Operand.tmp t ∈ l) : t ∈ tmpsOf l := by
  induction l with
  | nil => cases h
  | cons x l ih =>
    rcases List.mem_cons.1 h with h | h
    · subst h; exact List.mem_cons_self ..
    · have := ih h
      cases x with
      | tmp s => exact List.mem_cons_of_mem _ this
      | const _ => exact this
      | global _ => exact this
      | func _ => exact this
theorem looksA_op {all : List Oper} {t : Nat} (h : Operand.tmp t ∈ o.op.operands) : t ∈ looksA all o := by
  have h := tmpsOf_mem (Array.mem_def.1 h)
  unfold looksA
  cases o.guard with
  | none => exact h
  | some jw =>
    show t ∈ guardTmp (tmpsOf o.op.operands.toList) (kidx jw.1 all)
    cases kidx jw.1 all with
    | none => exact h
    | some p =>
      show t ∈ (match p.dst with | some d => d :: tmpsOf o.op.operands.toList | none => tmpsOf o.op.operands.toList)
      cases p.dst with
      | none => exact h
      | some d => exact List.mem_cons_of_mem _ h
theorem looksA_guard {all : List Oper} {j d : Nat} {want : Bool} {p : Oper} (hg : o.guard = some (j, want)) (hp : kidx j all = some p) (hd : p.dst = some d) : d ∈ looksA all o := by
  unfold looksA
  rw [hg]
  show d ∈ guardTmp (tmpsOf o.op.operands.toList) (kidx j all)
  rw [hp]
  show d ∈ (match p.dst with | some d => d :: tmpsOf o.op.operands.toList | none => tmpsOf o.op.operands.toList)
  rw [hd]; exact List.mem_cons_self ..
theorem cmdOf_looks {all : List Oper} (hts : ∀ t ∈ looksA all o, evalT ts' t = evalT ts t) : cmdOf o.op E ts = cmdOf o.op E ts' :=
  cmdOf_congr fun x hx => by
    cases x with
    | tmp t => exact (hts t (looksA_op hx)).symm
    | const _ => rfl
    | global _ => rfl
    | func _ => rfl
theorem wantedA_looks {all : List Oper} (hts : ∀ t ∈ looksA all o, evalT ts' t = evalT ts t) : wantedA o.guard all ts = wantedA o.guard all ts' := by
  cases hg : o.guard with
  | none => rfl
  | some jw =>
    obtain ⟨j, want⟩ := jw
    funext K
    show guardT ts want (kidx j all) K = guardT ts' want (kidx j all) K
    unfold guardT
    cases hp : kidx j all with
    | none => rfl
    | some p =>
      show (match p.dst with | some d => guardIs want (evalT ts d) K | none => K false) = (match p.dst with | some d => guardIs want (evalT ts' d) K | none => K false)
      cases hd : p.dst with
      | none => rfl
      | some d => show guardIs want (evalT ts d) K = guardIs want (evalT ts' d) K; rw [hts d (looksA_guard hg hp hd)]
theorem Lk.tr (hl : Lk E ops o ts φ a) (hN : a.tmps.size = N) : ∃ ts2, TR E φ ts2 a.tmps ∧ ∀ t ∈ looksA ops.toList o, evalT ts2 t = evalT ts t := by
  obtain ⟨ts2, h⟩ := restrict ts N (looksA ops.toList o)
  refine ⟨ts2, fun t => ?_, fun t ht => by rw [h, if_pos ht]⟩
  rw [h]
  by_cases ht : t ∈ looksA ops.toList o
  · rw [if_pos ht]; exact hl t ht
  · rw [if_neg ht]
    by_cases hlt : t < N
    · rw [if_pos hlt]; trivial
    · rw [if_neg hlt]
      have : a.tmps.getD t undef = undef := by simp [Array.getD, show ¬ t < a.tmps.size by omega]
      rw [this]; exact undef_VR ..
theorem guardIs_det (want : Bool) (v : AV) : (∃ r, ∀ K, guardIs want v K = K r) ∨ ∃ n, ∀ K, guardIs want v K = .bad n := by
  cases v <;> first
    | exact .inr ⟨_, fun _ => rfl⟩
    | skip
  · rename_i b; cases b <;> cases want <;> exact .inl ⟨_, fun _ => rfl⟩
  · exact .inl ⟨_, fun _ => rfl⟩
theorem wantedA_det (g : Option (Nat × Bool)) (all : List Oper) (ts : Tm) : (∃ r, ∀ K, wantedA g all ts K = K r) ∨ ∃ n, ∀ K, wantedA g all ts K = .bad n := by
  cases g with
  | none => exact .inl ⟨true, fun _ => rfl⟩
  | some jw =>
    show (∃ r, ∀ K, guardT ts jw.2 (kidx jw.1 all) K = K r) ∨ ∃ n, ∀ K, guardT ts jw.2 (kidx jw.1 all) K = .bad n
    unfold guardT
    cases kidx jw.1 all with
    | none => exact .inl ⟨false, fun _ => rfl⟩
    | some p =>
      show (∃ r, ∀ K, (match p.dst with | some d => guardIs jw.2 (evalT ts d) K | none => K false) = K r) ∨ ∃ n, ∀ K, (match p.dst with | some d => guardIs jw.2 (evalT ts d) K | none => K false) = .bad n
      cases p.dst with
      | none => exact .inl ⟨false, fun _ => rfl⟩
      | some d => exact guardIs_det jw.2 (evalT ts d)
theorem wanted_is {r : Bool} (hw : ∀ K, wantedA o.guard ops.toList ts K = K r) (hl : Lk E ops o ts φ a) (hN : a.tmps.size = N) : Region.wanted o (yielded ops a.tmps) = r := by
  obtain ⟨ts2, htr, hts⟩ := hl.tr hN
  have h2 := hw fun b => .ok (if b then .normal else .ret) .e ⟨.e, 0, []⟩ 0
  rw [wantedA_looks hts] at h2
  obtain ⟨r', g, hr⟩ := wantedA_ok (ops := ops) htr h2
  rw [hr]
  cases r <;> cases r' <;> first | rfl | (injection g with g; cases g)

/-- an operation that is wanted -/
theorem upon_ok (T : TabOk E) {self : Self} (S : SelfOk E self) {z : St} {rest : RestD} (wit : ∃ φ a, a.tmps.size = N ∧ Lk E ops o z.ts φ a) (ho : ops[i]? = some o) (hw : ∀ K, wantedA o.guard ops.toList z.ts K = K true)
    (g : uponD o.dst i m z.rs z.acc z.ts z.h z.c rest (cmdOf o.op E z.ts fun cmd => told cmd self m z.rs z.h z.c) = .ok e ts' h₀ c₀) :
    ∃ x z', rest z'.rs z'.acc z'.ts z'.h z'.c = .ok e ts' h₀ c₀ ∧ StepF E ops N i m z x z' := by
  unfold uponD at g
  split at g
  · cases g
  · rename_i ex ts1 h1 b hr
    -- the run, wherever it comes up
    have run : ∀ (φ : Loc) (a : Act), a.tmps.size = N → Lk E ops o z.ts φ a → ∃ cmd, told cmd self m z.rs z.h z.c = .ok ex ts1 h1 b ∧ CmdOk E φ o a cmd := fun φ a hN hl => by
      obtain ⟨ts2, htr, hts⟩ := hl.tr hN
      rw [cmdOf_looks hts] at hr
      obtain ⟨cmd, g2, hc⟩ := cmd_ok T htr hr
      exact ⟨cmd, g2, hc⟩
    have hnd := not_defer hr
    have opr : ∀ {φ : Loc} {a : Act} {h h' : Hs} {c c' : Nat} {v : AV}, a.tmps.size = N → Lk E ops o z.ts φ a → CxRun E φ o a h c v h' c' → OpRun E φ ops i o a h c v h' c' := fun hN hl hx φ w b k cs rest hle hh hf =>
      hx φ w b k cs ops i rest hle ho (wanted_is hw hl hN) hh hf
    split at g
    · -- a value
      rw [forceV_eq, putA_eq] at g
      refine ⟨⟨rootV ts1, .e, .e, []⟩, ⟨z.rs, z.acc, _, z.h, z.c⟩, g, o, ho, rfl, .none rfl rfl rfl rfl rfl rfl rfl, fun φ a hN hl => opr hN hl ?_⟩
      obtain ⟨cmd, g2, hc⟩ := run φ a hN hl
      rcases told_run S hnd hc g2 with ⟨_, h⟩ | ⟨h, _⟩ | ⟨h, _⟩ | ⟨h, _⟩ | ⟨h, _⟩
      · exact h
      all_goals cases h
    · rename_i k
      unfold uponX at g
      match k, hr, run, g with
      | 0, hr, run, g =>
        have g : rootO h1.t (fun ob => z.h.new z.c ob fun h c' => putA o.dst z.ts (rootV ts1) fun ts => rest (⟨i, .al z.c⟩ :: z.rs) z.acc ts h c') = .ok e ts' h₀ c₀ := g
        unfold rootO at g
        split at g
        · rename_i l v r ht
          split at g
          · rename_i ob
            have g : z.h.new z.c ob (fun h c' => putA o.dst z.ts (rootV ts1) fun ts => rest (⟨i, .al z.c⟩ :: z.rs) z.acc ts h c') = .ok e ts' h₀ c₀ := g
            rw [new_eq, putA_eq] at g
            refine ⟨⟨rootV ts1, .e, single z.c ob, []⟩, ⟨_, z.acc, _, _, z.c + 1⟩, g, o, ho, rfl, .al ob rfl rfl rfl rfl rfl rfl rfl, fun φ a hN hl => opr hN hl ?_⟩
            obtain ⟨cmd, g2, hc⟩ := run φ a hN hl
            rcases told_run S hnd hc g2 with ⟨h, _⟩ | ⟨_, ob2, h2, h⟩ | ⟨h, _⟩ | ⟨h, _⟩ | ⟨h, _⟩
            · cases h
            · rw [ht] at h2
              injection h2 with _ h2 _
              injection h2 with h2
              subst h2; exact h
            · injection h with h; cases h
            · injection h with h; cases h
            · cases h
          · cases g
        · cases g
      | 1, hr, run, g =>
        have g : guardB (allOk (rdOk b) m z.rs) 208 (forceV (rootV ts1) fun v => putA o.dst z.ts v fun ts => rest (⟨i, .rd b⟩ :: z.rs) z.acc ts z.h z.c) = .ok e ts' h₀ c₀ := g
        obtain ⟨hok, g⟩ := guardB_ok g
        rw [forceV_eq, putA_eq] at g
        have hb : ∃ ob, z.h.t.get b = some ob := by
          obtain ⟨φ, a, hN, hl⟩ := wit
          obtain ⟨cmd, g2, hc⟩ := run φ a hN hl
          rcases told_run S hnd hc g2 with ⟨h, _⟩ | ⟨h, _⟩ | ⟨_, ob2, h2, h⟩ | ⟨h, _⟩ | ⟨h, _⟩
          · cases h
          · injection h with h; cases h
          · exact ⟨ob2, h2⟩
          · injection h with h; cases h
          · cases h
        obtain ⟨ob, hb⟩ := hb
        refine ⟨⟨rootV ts1, single b ob, single b ob, []⟩, ⟨_, z.acc, _, z.h, z.c⟩, g, o, ho, rfl, .rd b ob hb rfl rfl rfl rfl rfl rfl rfl hok, fun φ a hN hl => opr hN hl ?_⟩
        obtain ⟨cmd, g2, hc⟩ := run φ a hN hl
        rcases told_run S hnd hc g2 with ⟨h, _⟩ | ⟨h, _⟩ | ⟨_, ob2, h2, h⟩ | ⟨h, _⟩ | ⟨h, _⟩
        · cases h
        · injection h with h; cases h
        · rw [hb] at h2; injection h2 with h2; subst h2; exact h
        · injection h with h; cases h
        · cases h
      | k + 2, hr, run, g =>
        have g : guardB (allOk (wrOk b) m z.rs) 209 (putA o.dst z.ts (.tup []) fun ts => rest (⟨i, .wr b⟩ :: z.rs) z.acc ts h1 z.c) = .ok e ts' h₀ c₀ := g
        obtain ⟨hok, g⟩ := guardB_ok g
        rw [putA_eq] at g
        have hb : ∃ ob ob', z.h.t.get b = some ob ∧ h1 = z.h.putD b (some ob') := by
          obtain ⟨φ, a, hN, hl⟩ := wit
          obtain ⟨cmd, g2, hc⟩ := run φ a hN hl
          rcases told_run S hnd hc g2 with ⟨h, _⟩ | ⟨h, _⟩ | ⟨h, _⟩ | ⟨_, ob2, ob3, h2, h3, h⟩ | ⟨h, _⟩
          · cases h
          · injection h with h; cases h
          · injection h with h; cases h
          · exact ⟨ob2, ob3, h2, h3⟩
          · cases h
        obtain ⟨ob, ob', hb, rfl⟩ := hb
        refine ⟨⟨.tup [], single b ob, (single b ob).set b (some ob'), logW b z.c []⟩, ⟨_, z.acc, _, z.h.putD b (some ob'), z.c⟩, g, o, ho, rfl, .wr b ob ob' hb rfl rfl rfl rfl rfl rfl rfl hok, fun φ a hN hl => opr hN hl ?_⟩
        obtain ⟨cmd, g2, hc⟩ := run φ a hN hl
        rcases told_run S hnd hc g2 with ⟨h, _⟩ | ⟨h, _⟩ | ⟨h, _⟩ | ⟨_, ob2, ob3, h2, h3, h⟩ | ⟨h, _⟩
        · cases h
        · injection h with h; cases h
        · injection h with h; cases h
        · rw [hb] at h2; injection h2 with h2; subst h2
          have h4 := congrArg (fun h : Hs => h.t.get b) h3
          simp only [Hs.putD, get_set_same] at h4
          injection h4 with h4; subst h4; exact h
        · cases h
    · obtain ⟨hok, g⟩ := guardB_ok g
      rcases hideAl_eq m z.rs z.h.t with ⟨n, hbad⟩ | ⟨t', l, g1, g2, g3, g4, g5⟩
      · rw [hbad] at g; cases g
      · rw [g1] at g
        obtain ⟨t3, q1, q2, q3⟩ := g5 h1.t
        rw [q1, forceV_eq, putA_eq] at g
        refine ⟨⟨rootV ts1, t', h1.t, h1.lg⟩, ⟨_, _, _, ⟨t3, z.h.fl, z.h.lg⟩, b⟩, g, o, ho, rfl, .cx g2 g3 g4 q2 q3 rfl rfl rfl rfl hok, fun φ a hN hl => ?_⟩
        obtain ⟨cmd, k2, hc⟩ := run φ a hN hl
        rcases told_run S hnd hc k2 with ⟨h, _⟩ | ⟨h, _⟩ | ⟨h, _⟩ | ⟨h, _⟩ | ⟨_, h⟩
        · cases h
        · cases h
        · cases h
        · cases h
        · have := opr hN hl (h t' l g1)
          intro φ₁ w b₁ k cs rest hle hh hf
          obtain ⟨φ₂, w₂, u, s, hv, st⟩ := this φ₁ w b₁ k cs rest hle hh hf
          have e1 : h1 = ⟨h1.t, z.c, h1.lg⟩ := by
            have := s.fl
            cases h1; simp at this; subst this; rfl
          rw [e1] at s
          exact ⟨φ₂, w₂, u, s, hv, st⟩
end
end Go.AE
namespace Go.AE
/-- the sequence may have come here -/
def SeqOk (E : Env) (N : Nat) (z : St) : Prop := ∃ (φ : Loc) (w : World) (a : Act), a.tmps.size = N ∧ TR E φ z.ts a.tmps ∧ HR E φ z.h.t w ∧ Fresh φ z.c 0
structure Facts (z : St) (x : Ev) (z' : St) : Prop where
  cle : z.c ≤ z'.c
  τH : ∀ y o, x.τ.get y = some o → z.h.t.get y = some o
  h1 : ∀ y, Wr z.c z'.c x.lg y → z'.h.t.get y = x.τ'.get y
  h0 : ∀ y, ¬ Wr z.c z'.c x.lg y → z'.h.t.get y = z.h.t.get y

section
variable {E : Env} {φ φ' φ₀ : Loc} {h h' h₁ h₀ h1 : Hs} {c c' c₁ c₀ b m i : Nat} {w w' : World} {ts ts' ts1 : Tm} {e ex : Ex} {rs : List Rc} {o : Oper} {a : Act} {ops : Array Oper} {N : Nat} {z z' : St} {x : Ev}

theorem appLog_iff (l m : List Nat) (y : Nat) : y ∈ appLog l m ↔ y ∈ l ∨ y ∈ m := by
  induction l with
  | nil => exact ⟨.inr, fun h => h.elim (fun h => by cases h) id⟩
  | cons a l ih =>
    show y ∈ Bool.rec (motive := fun _ => List Nat) (a :: appLog l m) (appLog l m) (memN a m) ↔ _
    cases hb : memN a m with
    | false => show y ∈ a :: appLog l m ↔ _; rw [List.mem_cons, ih, List.mem_cons, or_assoc]
    | true =>
      show y ∈ appLog l m ↔ _
      rw [ih, List.mem_cons]
      have := (memN_iff a m).1 hb
      exact ⟨fun h => h.elim (fun h => .inl (.inr h)) .inr, fun h => h.elim (fun h => h.elim (fun h => .inr (h ▸ this)) .inl) .inr⟩
theorem logAll_iff (acc : List Nat) (fl : Nat) (lg : List Nat) (y : Nat) : y ∈ logAll acc fl lg ↔ y ∈ lg ∨ (y ∈ acc ∧ y < fl) := by
  induction acc with
  | nil => exact ⟨.inl, fun h => h.elim id (fun h => by cases h.1)⟩
  | cons a l ih =>
    show y ∈ logW a fl (logAll l fl lg) ↔ _
    rw [logW_iff, ih, List.mem_cons]
    constructor
    · rintro ((h | h) | ⟨rfl, h⟩)
      · exact .inl h
      · exact .inr ⟨.inr h.1, h.2⟩
      · exact .inr ⟨.inl rfl, h⟩
    · rintro (h | ⟨h | h, h2⟩)
      · exact .inl (.inl h)
      · exact .inr ⟨h, h ▸ h2⟩
      · exact .inl (.inr ⟨h, h2⟩)

theorem Kind.rsMono (k : Kind i m z x z') : ∀ r ∈ z.rs, r ∈ z'.rs := fun r hr => by
  cases k with
  | none hτ hτ' hlg hrs hac hh hc => rw [hrs]; exact hr
  | al ob hτ hτ' hlg hrs hac hh hc => rw [hrs]; exact List.mem_cons_of_mem _ hr
  | rd b ob hb hτ hτ' hlg hrs hac hh hc hok => rw [hrs]; exact List.mem_cons_of_mem _ hr
  | wr b ob ob' hb hτ hτ' hlg hrs hac hh hc hok => rw [hrs]; exact List.mem_cons_of_mem _ hr
  | cx hne hτ1 hτ2 ht1 ht2 hfl hlg hrs hac hok => rw [hrs]; exact List.mem_cons_of_mem _ hr
theorem Kind.fl (k : Kind i m z x z') : z'.h.fl = z.h.fl := by
  cases k with
  | none hτ hτ' hlg hrs hac hh hc => rw [hh]
  | al ob hτ hτ' hlg hrs hac hh hc => rw [hh]; rfl
  | rd b ob hb hτ hτ' hlg hrs hac hh hc hok => rw [hh]
  | wr b ob ob' hb hτ hτ' hlg hrs hac hh hc hok => rw [hh]; rfl
  | cx hne hτ1 hτ2 ht1 ht2 hfl hlg hrs hac hok => exact hfl
theorem Kind.logMono (k : Kind i m z x z') (y : Nat) (hy : y ∈ z.h.lg ∨ y ∈ z.acc) : y ∈ z'.h.lg ∨ y ∈ z'.acc := by
  cases k with
  | none hτ hτ' hlg hrs hac hh hc => rw [hh, hac]; exact hy
  | al ob hτ hτ' hlg hrs hac hh hc => rw [hh, hac]; exact hy
  | rd b ob hb hτ hτ' hlg hrs hac hh hc hok => rw [hh, hac]; exact hy
  | wr b ob ob' hb hτ hτ' hlg hrs hac hh hc hok => rw [hh, hac]; exact hy.imp (fun h => (logW_iff ..).2 (.inl h)) id
  | cx hne hτ1 hτ2 ht1 ht2 hfl hlg hrs hac hok => rw [hlg, hac]; exact hy.imp id fun h => (appLog_iff ..).2 (.inr h)
theorem Kind.logNew (k : Kind i m z x z') (y : Nat) (hy : y ∈ x.lg) (hf : y < z.h.fl) : y ∈ z'.h.lg ∨ y ∈ z'.acc := by
  cases k with
  | none hτ hτ' hlg hrs hac hh hc => rw [hlg] at hy; cases hy
  | al ob hτ hτ' hlg hrs hac hh hc => rw [hlg] at hy; cases hy
  | rd b ob hb hτ hτ' hlg hrs hac hh hc hok => rw [hlg] at hy; cases hy
  | wr b ob ob' hb hτ hτ' hlg hrs hac hh hc hok =>
    rw [hlg, logW_iff] at hy
    rcases hy with hy | ⟨rfl, _⟩
    · cases hy
    · rw [hh]; exact .inl ((logW_iff ..).2 (.inr ⟨rfl, hf⟩))
  | cx hne hτ1 hτ2 ht1 ht2 hfl hlg hrs hac hok => rw [hac]; exact .inr ((appLog_iff ..).2 (.inl hy))

theorem allOk_mem {f : Rk → Bool} {m : Nat} : ∀ {rs : List Rc}, allOk f m rs = true → ∀ r ∈ rs, Nat.testBit m r.i = false → f r.k = true
  | [], _, r, hr, _ => by cases hr
  | q :: rs, hok, r, hr, hb => by
    have hok : (Bool.rec (motive := fun _ => Bool) (Bool.rec (motive := fun _ => Bool) false (allOk f m rs) (f q.k)) (allOk f m rs) (Nat.testBit m q.i)) = true := hok
    rcases List.mem_cons.1 hr with hr | hr
    · subst hr
      rw [hb] at hok
      cases hf : f r.k with
      | true => rfl
      | false => rw [hf] at hok; cases hok
    · refine allOk_mem ?_ r hr hb
      cases hb2 : Nat.testBit m q.i with
      | true => rw [hb2] at hok; exact hok
      | false =>
        rw [hb2] at hok
        cases hc2 : f q.k with
        | true => rw [hc2] at hok; exact hok
        | false => rw [hc2] at hok; cases hok
theorem SeqOk.dom (q : SeqOk E N z) {y : Nat} (hy : z.h.t.get y ≠ none) : y < z.c := by
  obtain ⟨φ, w, a, _, _, hh, hf⟩ := q
  obtain ⟨B, M, e, _⟩ := hh.loc hy
  exact fresh_lt hf e
theorem seq_step (q : SeqOk E N z) (f : StepF E ops N i m z x z') (hd : ∀ o ∈ ops.toList, dstOk N o = true) : SeqOk E N z' ∧ Facts z x z' := by
  have hdom := fun y hy => q.dom (y := y) hy
  obtain ⟨φ, w, a, hN, ht, hh, hf⟩ := q
  obtain ⟨o, ho, hts, hk, hrun⟩ := f
  have τH : ∀ y ob, x.τ.get y = some ob → z.h.t.get y = some ob := fun y ob hy => by
    cases hk with
    | none hτ hτ' hlg hrs hac hh hc => rw [hτ, get_e] at hy; cases hy
    | al ob hτ hτ' hlg hrs hac hh hc => rw [hτ, get_e] at hy; cases hy
    | rd b ob hb hτ hτ' hlg hrs hac hh hc hok =>
      rw [hτ, get_single] at hy
      split at hy
      · rename_i e; subst e; rw [hb]; exact hy
      · cases hy
    | wr b ob ob' hb hτ hτ' hlg hrs hac hh hc hok =>
      rw [hτ, get_single] at hy
      split at hy
      · rename_i e; subst e; rw [hb]; exact hy
      · cases hy
    | cx hne hτ1 hτ2 ht1 ht2 hfl hlg hrs hac hok =>
      by_cases hi : Hid m z.rs y
      · rw [hτ2 y hi] at hy; cases hy
      · rw [← hτ1 y hi]; exact hy
  obtain ⟨φ₁, w', u, s, hu, _⟩ := hrun φ a hN (fun t _ => ht t) φ w (Frame.enter E.P 0 #[] .normal) [] [] [] (fun _ _ h => h) (hh.sub τH) hf
  have cle := s.cle
  have facts : Facts z x z' := by
    refine ⟨cle, τH, fun y hy => ?_, fun y hy => ?_⟩
    · cases hk with
      | none hτ hτ' hlg hrs hac hh hc =>
        rw [hlg, hc] at hy
        rcases hy with ⟨h, _⟩ | ⟨h1, h2⟩
        · cases h
        · omega
      | al ob hτ hτ' hlg hrs hac hh hc =>
        rw [hlg, hc] at hy
        rcases hy with ⟨h, _⟩ | ⟨h1, h2⟩
        · cases h
        · obtain rfl : y = z.c := by omega
          rw [hh, hτ', get_single, if_pos rfl]
          exact get_set_same ..
      | rd b ob hb hτ hτ' hlg hrs hac hh hc hok =>
        rw [hlg, hc] at hy
        rcases hy with ⟨h, _⟩ | ⟨h1, h2⟩
        · cases h
        · omega
      | wr b ob ob' hb hτ hτ' hlg hrs hac hh hc hok =>
        rw [hlg, hc] at hy
        rcases hy with ⟨h, _⟩ | ⟨h1, h2⟩
        · rw [logW_iff] at h
          rcases h with h | ⟨rfl, _⟩
          · cases h
          · rw [hh, hτ', get_set_same]
            exact get_set_same ..
        · omega
      | cx hne hτ1 hτ2 ht1 ht2 hfl hlg hrs hac hok =>
        refine ht2 y fun hi => ?_
        obtain ⟨j, hj, hb⟩ := hi
        have hyl : y ∉ x.lg := by
          have := allOk_mem hok _ hj hb
          have this : bnot (memN y x.lg) = true := this
          cases hm : memN y x.lg with
          | true => rw [hm] at this; cases this
          | false => exact memN_false hm
        rcases hy with ⟨h, _⟩ | ⟨h1, h2⟩
        · exact hyl h
        · have := hdom y (hne y ⟨j, hj, hb⟩); omega
    · cases hk with
      | none hτ hτ' hlg hrs hac hh hc => rw [hh]
      | al ob hτ hτ' hlg hrs hac hh hc =>
        rw [hh]
        exact get_set_ne _ _ fun e => hy (.inr (by rw [hc]; omega))
      | rd b ob hb hτ hτ' hlg hrs hac hh hc hok => rw [hh]
      | wr b ob ob' hb hτ hτ' hlg hrs hac hh hc hok =>
        rw [hh]
        have hbc := hdom b (by rw [hb]; simp)
        exact get_set_ne _ _ fun e => hy (.inl (by rw [hlg, logW_iff]; subst e; exact ⟨.inr ⟨rfl, hbc⟩, hbc⟩))
      | cx hne hτ1 hτ2 ht1 ht2 hfl hlg hrs hac hok =>
        by_cases hi : Hid m z.rs y
        · exact ht1 y hi
        · rw [ht2 y hi]
          by_cases hyc : y < z.c
          · rw [s.keep y hyc hyc (fun h => hy (.inl ⟨h, hyc⟩))]
            exact hτ1 y hi
          · have hyc' : ¬ y < z'.c := fun h => hy (.inr ⟨by omega, h⟩)
            have e1 : z.h.t.get y = none := Classical.byContradiction fun h => hyc (hdom y h)
            rw [e1]
            refine Classical.byContradiction fun h => ?_
            rcases s.dom y h with h | h
            · have h : x.τ.get y ≠ none := h
              rw [hτ1 y hi] at h
              exact h e1
            · omega
  refine ⟨?_, facts⟩
  have hcut : φ.cut z.c = φ := funext fun b => by
    by_cases hb : b < z.c
    · exact Loc.cut_lt hb
    · rw [hf b (by omega) rfl]; exact if_neg hb
  obtain ⟨m1, m2, m3, _⟩ := merge (G' := z'.h.t.get) hh.fn τH (fun y hy => hdom y fun h => by
    cases e : x.τ.get y with
    | none => exact hy e
    | some ob => rw [τH y ob e] at h; cases h) (by rw [hcut]; exact s) (fun b hb _ => hf b hb rfl) facts.h1 facts.h0
  have hdo := hd o (by rw [← Array.getElem?_toList] at ho; exact List.mem_of_getElem? ho)
  obtain ⟨p1, p2, p3⟩ := (ht.mono m2).putD (df := a.defers) (o := o) (by rw [hN]; exact hdo) (VR.mono m3 _ _ hu)
  refine ⟨_, w', a.put o.dst u, p2.trans hN, ?_, m1.tree, fun b hb _ => ?_⟩
  · rw [hts]; exact p1
  · rw [Loc.join_out (by omega)]; exact hf b (by omega) rfl
end
end Go.AE
namespace Go.AE
section
variable {E : Env} {φ φ' φ₀ : Loc} {h h' h₁ h₀ h1 : Hs} {c c' c₁ c₀ b m i : Nat} {w w' : World} {ts ts' ts1 : Tm} {e ex : Ex} {rs : List Rc} {o : Oper} {a : Act} {ops : Array Oper} {N : Nat} {z z' : St} {x : Ev}

/-! ### the run of the region, in sequence -/
theorem evOpsD_ok (T : TabOk E) {self : Self} (S : SelfOk E self) {fin : List Nat → Tm → Hs → Nat → Out} (hd : ∀ o ∈ ops.toList, dstOk N o = true) : ∀ (l : List Oper) (i : Nat) (ms : List Nat) (z : St),
    ops.toList.drop i = l → SeqOk E N z → evOpsD E self ops.toList fin l i ms z.rs z.acc z.ts z.h z.c = .ok e ts' h₀ c₀ →
    ∃ (Z : Nat → St) (X : Nat → Ev), Z i = z ∧ (∀ k, i ≤ k → k ≤ i + l.length → SeqOk E N (Z k)) ∧
      fin (Z (i + l.length)).acc (Z (i + l.length)).ts (Z (i + l.length)).h (Z (i + l.length)).c = .ok e ts' h₀ c₀ ∧
      ∀ k, i ≤ k → k < i + l.length → ∃ m, ms[k - i]? = some m ∧ m < 2 ^ k ∧ StepF E ops N k m (Z k) (X k) (Z (k + 1)) ∧ Facts (Z k) (X k) (Z (k + 1))
  | [], i, ms, z, _, q, g => ⟨fun _ => z, fun _ => ⟨.any, .e, .e, []⟩, rfl, fun _ _ _ => q, g, fun k h1 h2 => by simp only [List.length_nil] at h2; omega⟩
  | o :: l, i, ms, z, hl, q, g => by
    have hi : ops[i]? = some o := by
      rw [← Array.getElem?_toList]
      have := congrArg (·[0]?) hl
      simpa [List.getElem?_drop] using this
    have hl' : ops.toList.drop (i + 1) = l := by
      have := congrArg (List.drop 1) hl
      simpa [List.drop_drop, Nat.add_comm] using this
    cases ms with
    | nil => cases g
    | cons m ms =>
      have g : guardB (Nat.blt m (2 ^ i)) 287 (wantedA o.guard ops.toList z.ts (evOneD E self o i m z.rs z.acc z.ts z.h z.c (evOpsD E self ops.toList fin l (i + 1) ms))) = .ok e ts' h₀ c₀ := g
      obtain ⟨hm, g⟩ := guardB_ok g
      have hm : m < 2 ^ i := Nat.blt_eq.mp hm
      have step : ∃ x z', StepF E ops N i m z x z' ∧ evOpsD E self ops.toList fin l (i + 1) ms z'.rs z'.acc z'.ts z'.h z'.c = .ok e ts' h₀ c₀ := by
        rcases wantedA_det o.guard ops.toList z.ts with ⟨r, hw⟩ | ⟨n, hw⟩
        · rw [hw] at g
          cases r with
          | true =>
            have g : uponD o.dst i m z.rs z.acc z.ts z.h z.c (evOpsD E self ops.toList fin l (i + 1) ms) (cmdOf o.op E z.ts fun cmd => told cmd self m z.rs z.h z.c) = .ok e ts' h₀ c₀ := g
            have wit : ∃ φ a, a.tmps.size = N ∧ Lk E ops o z.ts φ a := by
              obtain ⟨φ, w, a, hN, ht, _, _⟩ := q
              exact ⟨φ, a, hN, fun t _ => ht t⟩
            obtain ⟨x, z', g2, f⟩ := upon_ok T S wit hi hw g
            exact ⟨x, z', f, g2⟩
          | false =>
            have g : putA o.dst z.ts (.tup []) (fun ts => evOpsD E self ops.toList fin l (i + 1) ms z.rs z.acc ts z.h z.c) = .ok e ts' h₀ c₀ := g
            rw [putA_eq] at g
            refine ⟨⟨.tup [], .e, .e, []⟩, ⟨z.rs, z.acc, _, z.h, z.c⟩, ⟨o, hi, rfl, .none rfl rfl rfl rfl rfl rfl rfl, fun φ a hN hl φ₁ w b k cs rest _ hh _ => ?_⟩, g⟩
            exact ⟨φ₁, w, undef, Sim.refl hh, undef_VR .., fat_op_skip hi (wanted_is hw hl hN)⟩
        · rw [hw] at g; cases g
      obtain ⟨x, z', f, g⟩ := step
      obtain ⟨q', facts⟩ := seq_step q f hd
      obtain ⟨Z, X, h1, h2, h3, h4⟩ := evOpsD_ok T S hd l (i + 1) ms z' hl' q' g
      have hlen : i + (o :: l).length = i + 1 + l.length := by simp only [List.length_cons]; omega
      refine ⟨fun k => if k = i then z else Z k, fun k => if k = i then x else X k, if_pos rfl, fun k k1 k2 => ?_, ?_, fun k k1 k2 => ?_⟩
      · by_cases hk : k = i
        · subst hk; simp only [if_pos]; exact q
        · simp only [if_neg hk]; exact h2 k (by omega) (by omega)
      · rw [hlen]
        simp only [if_neg (show ¬ i + 1 + l.length = i by omega)]
        exact h3
      · by_cases hk : k = i
        · subst hk
          refine ⟨m, by simp, hm, ?_⟩
          simp only [if_pos, if_neg (show ¬ k + 1 = k by omega), h1]
          exact ⟨f, facts⟩
        · obtain ⟨m', q1, q2, q3, q4⟩ := h4 k (by omega) (by omega)
          refine ⟨m', ?_, q2, ?_⟩
          · rw [show k - i = (k - (i + 1)) + 1 by omega, List.getElem?_cons_succ]; exact q1
          · simp only [if_neg hk, if_neg (show ¬ k + 1 = i by omega)]
            exact ⟨q3, q4⟩

/-! ### what must come ahead -/
theorem predsGo_bit (acc : List Nat) (j : Nat) : ∀ l : List Edge, Nat.testBit (predsGo l acc) j = true ↔ ∃ e ∈ l, Region.binds .any e = true ∧ (j = e.on ∨ ∃ m, acc[e.on]? = some m ∧ Nat.testBit m j = true)
  | [] => by
    show Nat.testBit 0 j = true ↔ _
    simp
  | e :: l => by
    have ih := predsGo_bit acc j l
    show Nat.testBit (Bool.rec (motive := fun _ => Nat) (predsGo l acc) (Nat.lor (predsGo l acc) (Nat.lor (2 ^ e.on) (match kidx e.on acc with | some m => m | none => 0))) (Region.binds .any e)) j = true ↔ _
    cases hb : Region.binds .any e with
    | false =>
      show Nat.testBit (predsGo l acc) j = true ↔ _
      rw [ih]
      constructor
      · rintro ⟨e', h1, h2⟩; exact ⟨e', List.mem_cons_of_mem _ h1, h2⟩
      · rintro ⟨e', h1, h2, h3⟩
        rcases List.mem_cons.1 h1 with h | h
        · subst h; rw [hb] at h2; cases h2
        · exact ⟨e', h, h2, h3⟩
    | true =>
      show Nat.testBit ((predsGo l acc) ||| ((2 ^ e.on) ||| (match kidx e.on acc with | some m => m | none => 0))) j = true ↔ _
      rw [Nat.testBit_or, Nat.testBit_or, Bool.or_eq_true, Bool.or_eq_true, ih, kidx_eq, Nat.testBit_two_pow]
      constructor
      · rintro (⟨e', h1, h2⟩ | h | h)
        · exact ⟨e', List.mem_cons_of_mem _ h1, h2⟩
        · exact ⟨e, List.mem_cons_self .., hb, .inl (of_decide_eq_true h).symm⟩
        · cases hm : acc[e.on]? with
          | none => rw [hm] at h; simp at h
          | some m => rw [hm] at h; exact ⟨e, List.mem_cons_self .., hb, .inr ⟨m, hm, h⟩⟩
      · rintro ⟨e', h1, h2, h3⟩
        rcases List.mem_cons.1 h1 with h | h
        · subst h
          rcases h3 with h3 | ⟨m, hm, h3⟩
          · exact .inr (.inl (by simpa using h3.symm))
          · exact .inr (.inr (by rw [hm]; exact h3))
        · exact .inl ⟨e', h, h2, h3⟩
theorem preds_ok : ∀ (l : List Oper) (acc : List Nat), ∃ r, preds l acc = acc ++ r ∧ r.length = l.length ∧ ∀ k o, l[k]? = some o → r[k]? = some (predsGo o.after.toList (acc ++ r.take k))
  | [], acc => ⟨[], by simp [preds], rfl, fun k o h => by simp at h⟩
  | o :: l, acc => by
    obtain ⟨r, h1, h2, h3⟩ := preds_ok l (acc ++ [predsGo o.after.toList acc])
    refine ⟨predsGo o.after.toList acc :: r, ?_, by simp [h2], fun k o' hk => ?_⟩
    · show preds l (appL acc [predsGo o.after.toList acc]) = _
      rw [appL_eq, h1]; simp
    · cases k with
      | zero => simp at hk; subst hk; simp
      | succ k =>
        simp at hk
        have := h3 k o' hk
        simp only [List.getElem?_cons_succ, List.take_succ_cons]
        rw [this]; simp
end
end Go.AE
namespace Go.AE
section
variable {E : Env} {φ φ' φ₀ : Loc} {h h' h₁ h₀ h1 : Hs} {c c' c₁ c₀ b m i : Nat} {w w' : World} {ts ts' ts1 : Tm} {e ex : Ex} {rs : List Rc} {o : Oper} {a : Act} {ops : Array Oper} {N : Nat} {z z' : St} {x : Ev}

/-! ### operations apart -/
theorem outOf_ok {d : Option Tmp} {l : List Nat} (h : outOf d l = true) : ∀ t, d = some t → t ∉ l := fun t ht => by
  subst ht
  have h : bnot (memN t l) = true := h
  cases hm : memN t l with
  | true => rw [hm] at h; cases h
  | false => exact memN_false hm
theorem neDst_ok {x y : Option Tmp} (h : neDst x y = true) : ∀ t, x = some t → y ≠ some t := fun t ht hy => by
  subst ht; subst hy
  have h : bnot (Nat.beq t t) = true := h
  rw [Nat.beq_refl] at h; cases h
theorem and3 {a b : Bool} (h : (Bool.rec (motive := fun _ => Bool) false a b) = true) : b = true ∧ a = true := by
  cases b with
  | false => cases h
  | true => exact ⟨rfl, h⟩
theorem apartA_ok {all : List Oper} {y : Oper} {m : Nat} : ∀ {l : List Oper} {i : Nat}, apartA all y m l i = true → ∀ (k : Nat) (x : Oper), l[k]? = some x → Nat.testBit m (i + k) = false →
    (∀ t, x.dst = some t → y.dst ≠ some t) ∧ (∀ t, x.dst = some t → t ∉ looksA all y) ∧ (∀ t, y.dst = some t → t ∉ looksA all x)
  | [], _, _, k, x, hk, _ => by simp at hk
  | q :: l, i, h, k, x, hk, hb => by
    have h : (Bool.rec (motive := fun _ => Bool) (Bool.rec (motive := fun _ => Bool) false (Bool.rec (motive := fun _ => Bool) false (Bool.rec (motive := fun _ => Bool) false (apartA all y m l (i + 1)) (outOf y.dst (looksA all q))) (outOf q.dst (looksA all y))) (neDst q.dst y.dst)) (apartA all y m l (i + 1)) (Nat.testBit m i)) = true := h
    cases k with
    | zero =>
      simp at hk; subst hk
      rw [show Nat.testBit m i = false from hb] at h
      obtain ⟨h1, h⟩ := and3 h
      obtain ⟨h2, h⟩ := and3 h
      obtain ⟨h3, h⟩ := and3 h
      exact ⟨neDst_ok h1, outOf_ok h2, outOf_ok h3⟩
    | succ k =>
      simp at hk
      refine apartA_ok (i := i + 1) ?_ k x hk (by rw [show i + 1 + k = i + (k + 1) by omega]; exact hb)
      cases hb2 : Nat.testBit m i with
      | true => rw [hb2] at h; exact h
      | false =>
        rw [hb2] at h
        obtain ⟨_, h⟩ := and3 h
        obtain ⟨_, h⟩ := and3 h
        exact (and3 h).2
theorem apartAll_ok {all : List Oper} : ∀ {l : List Oper} {ms : List Nat} {acc : List Oper}, apartAll all l ms acc = true → ∀ (k : Nat) (y : Oper) (m : Nat), l[k]? = some y → ms[k]? = some m → apartA all y m (acc ++ l.take k) 0 = true
  | [], _, _, _, k, y, m, hk, _ => by simp at hk
  | q :: l, [], _, h, _, _, _, _, _ => by cases h
  | q :: l, m :: ms, acc, h, k, y, m', hk, hm => by
    have h : (Bool.rec (motive := fun _ => Bool) (Bool.rec (motive := fun _ => Bool) false (apartAll all l ms (appL acc [q])) (apartA all q m acc 0)) false (isSelect q.op)) = true := h
    cases hs : isSelect q.op with
    | true => rw [hs] at h; cases h
    | false =>
      rw [hs] at h
      obtain ⟨h1, h2⟩ := and3 h
      cases k with
      | zero => simp at hk hm; subst hk; subst hm; simpa using h1
      | succ k =>
        simp at hk hm
        rw [appL_eq] at h2
        have := apartAll_ok h2 k y m' hk hm
        simpa using this

/-! ### what an event turns, and what it stands on -/
theorem HR.draw {t : T AObj} (hh : HR E φ t w) : HR E φ t { w with drawn := w.drawn + 1 } := ⟨fun b o hb => (hh.obj b o hb).keep (fun _ _ h => h) fun _ _ _ => rfl, hh.inj⟩
theorem Sim.draw {w0 : World} (s : Sim E φ h c { w0 with drawn := w0.drawn + 1 } φ' h' c' w') : Sim E φ h c w0 φ' h' c' w' :=
  ⟨s.hr, s.ext, s.cle, s.dom, s.new, s.fr, ⟨s.same.tape, s.same.os, s.same.output, s.same.size⟩, s.fl, s.lg, s.keep⟩

theorem memN_not {b : Nat} {l : List Nat} (h : bnot (memN b l) = true) : b ∉ l := by
  cases hm : memN b l with
  | true => rw [hm] at h; cases h
  | false => exact memN_false hm
theorem beq_not {a b : Nat} (h : bnot (Nat.beq a b) = true) : a ≠ b := fun e => by
  subst e; rw [Nat.beq_refl] at h; cases h
theorem notIn_ok {b lo hi : Nat} (h : notIn b lo hi = true) : ¬ (lo ≤ b ∧ b < hi) := fun ⟨h1, h2⟩ => by
  unfold notIn at h
  rw [Nat.blt_eq.mpr h2, Nat.ble_eq.mpr h1] at h
  cases h

/-- two that may stand in either order -/
theorem conf_of {mj mi : Nat} {zj zj' zi zi' : St} {xj xi : Ev} {j i : Nat} (kj : Kind j mj zj xj zj') (ki : Kind i mi zi xi zi') (hb : Nat.testBit mi j = false) (hrs : ∀ r ∈ zj'.rs, r ∈ zi.rs)
    (hcj : zj.c ≤ zj'.c) (hji : zj'.c ≤ zi.c) (hdj : ∀ y, xj.τ.get y ≠ none → y < zj.c) (y : Nat) :
    let Wj := Wr zj.c zj'.c xj.lg y
    let Wi := Wr zi.c zi'.c xi.lg y
    let Ij := xj.τ.get y ≠ none ∨ (y ∈ xj.lg ∧ y < zj.c)
    let Ii := xi.τ.get y ≠ none ∨ (y ∈ xi.lg ∧ y < zi.c)
    (Wi → ¬ Ij) ∧ (Wj → ¬ Ii) ∧ (Wi → ¬ Wj) := by
  intro Wj Wi Ij Ii
  have one : ∀ {b ob : _} , (single b ob).get y ≠ none → y = b := fun h => by
    rw [get_single] at h
    split at h
    · rename_i e; exact e.symm
    · exact absurd rfl h
  have lgw : ∀ {b c : Nat}, y ∈ logW b c [] → y = b := fun h => by
    rw [logW_iff] at h
    rcases h with h | h
    · cases h
    · exact h.1
  have Ijc : Ij → y < zj.c := fun h => h.elim (hdj y) And.right
  have Wjc : Wj → y < zj'.c := fun h => h.elim (fun h => by omega) And.right
  cases ki with
  | none hτ hτ' hlg hrs2 hac hh hc =>
    have nW : ¬ Wi := fun h => h.elim (fun h => by rw [hlg] at h; cases h.1) fun h => by omega
    have nI : ¬ Ii := fun h => h.elim (fun h => by rw [hτ, get_e] at h; exact h rfl) fun h => by rw [hlg] at h; cases h.1
    exact ⟨fun h => absurd h nW, fun _ => nI, fun h => absurd h nW⟩
  | al ob hτ hτ' hlg hrs2 hac hh hc =>
    have nI : ¬ Ii := fun h => h.elim (fun h => by rw [hτ, get_e] at h; exact h rfl) fun h => by rw [hlg] at h; cases h.1
    have W : Wi → zi.c ≤ y := fun h => h.elim (fun h => by rw [hlg] at h; cases h.1) And.left
    exact ⟨fun h hI => by have := W h; have := Ijc hI; omega, fun _ => nI, fun h hW => by have := W h; have := Wjc hW; omega⟩
  | rd b ob hbk hτ hτ' hlg hrs2 hac hh hc hok =>
    have nW : ¬ Wi := fun h => h.elim (fun h => by rw [hlg] at h; cases h.1) fun h => by omega
    have I : Ii → y = b := fun h => h.elim (fun h => by rw [hτ] at h; exact one h) fun h => by rw [hlg] at h; cases h.1
    refine ⟨fun h => absurd h nW, fun hW hI => ?_, fun h => absurd h nW⟩
    have hyb := I hI
    subst hyb
    cases kj with
    | none hτ2 hτ2' hlg2 hrs3 hac2 hh2 hc2 => exact hW.elim (fun h => by rw [hlg2] at h; cases h.1) fun h => by omega
    | al ob2 hτ2 hτ2' hlg2 hrs3 hac2 hh2 hc2 =>
      have := beq_not (allOk_mem hok ⟨j, .al zj.c⟩ (hrs _ (by rw [hrs3]; exact List.mem_cons_self ..)) hb)
      exact hW.elim (fun h => by rw [hlg2] at h; cases h.1) fun h => by omega
    | rd b2 ob2 hbk2 hτ2 hτ2' hlg2 hrs3 hac2 hh2 hc2 hok2 => exact hW.elim (fun h => by rw [hlg2] at h; cases h.1) fun h => by omega
    | wr b2 ob2 ob2' hbk2 hτ2 hτ2' hlg2 hrs3 hac2 hh2 hc2 hok2 =>
      have := beq_not (allOk_mem hok ⟨j, .wr b2⟩ (hrs _ (by rw [hrs3]; exact List.mem_cons_self ..)) hb)
      exact hW.elim (fun h => by rw [hlg2] at h; exact this (lgw h.1)) fun h => by omega
    | cx hne2 hτ21 hτ22 ht21 ht22 hfl2 hlg2 hrs3 hac2 hok2 =>
      have := allOk_mem hok ⟨j, .cx xj.lg zj.c zj'.c⟩ (hrs _ (by rw [hrs3]; exact List.mem_cons_self ..)) hb
      obtain ⟨q1, q2⟩ := and3 this
      exact hW.elim (fun h => memN_not q1 h.1) fun h => notIn_ok q2 h
  | wr b ob ob' hbk hτ hτ' hlg hrs2 hac hh hc hok =>
    have W : Wi → y = b := fun h => h.elim (fun h => by rw [hlg] at h; exact lgw h.1) fun h => by omega
    have I : Ii → y = b := fun h => h.elim (fun h => by rw [hτ] at h; exact one h) fun h => by rw [hlg] at h; exact lgw h.1
    have key : y = b → ¬ Ij ∧ ¬ Wj := fun hyb => by
      subst hyb
      cases kj with
      | none hτ2 hτ2' hlg2 hrs3 hac2 hh2 hc2 =>
        exact ⟨fun h => h.elim (fun h => by rw [hτ2, get_e] at h; exact h rfl) fun h => (by rw [hlg2] at h; cases h.1), fun hW => hW.elim (fun h => by rw [hlg2] at h; cases h.1) fun h => by omega⟩
      | al ob2 hτ2 hτ2' hlg2 hrs3 hac2 hh2 hc2 =>
        have := beq_not (allOk_mem hok ⟨j, .al zj.c⟩ (hrs _ (by rw [hrs3]; exact List.mem_cons_self ..)) hb)
        exact ⟨fun h => h.elim (fun h => by rw [hτ2, get_e] at h; exact h rfl) fun h => (by rw [hlg2] at h; cases h.1), fun hW => hW.elim (fun h => by rw [hlg2] at h; cases h.1) fun h => by omega⟩
      | rd b2 ob2 hbk2 hτ2 hτ2' hlg2 hrs3 hac2 hh2 hc2 hok2 =>
        have := beq_not (allOk_mem hok ⟨j, .rd b2⟩ (hrs _ (by rw [hrs3]; exact List.mem_cons_self ..)) hb)
        exact ⟨fun h => h.elim (fun h => by rw [hτ2] at h; exact this (one h)) fun h => (by rw [hlg2] at h; cases h.1), fun hW => hW.elim (fun h => by rw [hlg2] at h; cases h.1) fun h => by omega⟩
      | wr b2 ob2 ob2' hbk2 hτ2 hτ2' hlg2 hrs3 hac2 hh2 hc2 hok2 =>
        have := beq_not (allOk_mem hok ⟨j, .wr b2⟩ (hrs _ (by rw [hrs3]; exact List.mem_cons_self ..)) hb)
        exact ⟨fun h => h.elim (fun h => by rw [hτ2] at h; exact this (one h)) fun h => by rw [hlg2] at h; exact this (lgw h.1), fun hW => hW.elim (fun h => by rw [hlg2] at h; exact this (lgw h.1)) fun h => by omega⟩
      | cx hne2 hτ21 hτ22 ht21 ht22 hfl2 hlg2 hrs3 hac2 hok2 =>
        have := allOk_mem hok ⟨j, .cx xj.lg zj.c zj'.c⟩ (hrs _ (by rw [hrs3]; exact List.mem_cons_self ..)) hb
        cases this
    exact ⟨fun h => (key (W h)).1, fun hW hI => (key (I hI)).2 hW, fun h => (key (W h)).2⟩
  | cx hne hτ1 hτ2 ht1 ht2 hfl hlg hrs2 hac hok =>
    cases kj with
    | none hτ3 hτ3' hlg2 hrs3 hac2 hh2 hc2 =>
      have nW : ¬ Wj := fun h => h.elim (fun h => by rw [hlg2] at h; cases h.1) fun h => by omega
      have nI : ¬ Ij := fun h => h.elim (fun h => by rw [hτ3, get_e] at h; exact h rfl) fun h => by rw [hlg2] at h; cases h.1
      exact ⟨fun _ => nI, fun h => absurd h nW, fun _ => nW⟩
    | al ob2 hτ3 hτ3' hlg2 hrs3 hac2 hh2 hc2 =>
      have hm := hrs _ (by rw [hrs3]; exact List.mem_cons_self ..)
      have hn := memN_not (allOk_mem hok ⟨j, .al zj.c⟩ hm hb)
      have hW : Wj → y = zj.c := fun h => h.elim (fun h => by rw [hlg2] at h; cases h.1) fun h => by omega
      have nI : ¬ Ij := fun h => h.elim (fun h => by rw [hτ3, get_e] at h; exact h rfl) fun h => by rw [hlg2] at h; cases h.1
      refine ⟨fun _ => nI, fun h hI => ?_, fun h h2 => ?_⟩
      · have := hW h; subst this
        exact hI.elim (fun h => h (hτ2 _ ⟨j, hm, hb⟩)) fun h => hn h.1
      · have := hW h2; subst this
        exact h.elim (fun h => hn h.1) fun h => by omega
    | rd b2 ob2 hbk2 hτ3 hτ3' hlg2 hrs3 hac2 hh2 hc2 hok2 =>
      have hn := memN_not (allOk_mem hok ⟨j, .rd b2⟩ (hrs _ (by rw [hrs3]; exact List.mem_cons_self ..)) hb)
      have nW : ¬ Wj := fun h => h.elim (fun h => by rw [hlg2] at h; cases h.1) fun h => by omega
      refine ⟨fun h hI => ?_, fun h => absurd h nW, fun _ => nW⟩
      have hyc := Ijc hI
      have hy : y = b2 := hI.elim (fun h => by rw [hτ3] at h; exact one h) fun h => by rw [hlg2] at h; cases h.1
      subst hy
      exact h.elim (fun h => hn h.1) fun h => by omega
    | wr b2 ob2 ob2' hbk2 hτ3 hτ3' hlg2 hrs3 hac2 hh2 hc2 hok2 =>
      have := allOk_mem hok ⟨j, .wr b2⟩ (hrs _ (by rw [hrs3]; exact List.mem_cons_self ..)) hb
      cases this
    | cx hne2 hτ21 hτ22 ht21 ht22 hfl2 hlg2 hrs3 hac2 hok2 =>
      have := allOk_mem hok ⟨j, .cx xj.lg zj.c zj'.c⟩ (hrs _ (by rw [hrs3]; exact List.mem_cons_self ..)) hb
      cases this
end
end Go.AE
namespace Go.AE
section
variable {E : Env} {φ φ' φ₀ : Loc} {h h' h₁ h₀ h1 : Hs} {c c' c₁ c₀ b m i : Nat} {w w' : World} {ts ts' ts1 : Tm} {e ex : Ex} {rs : List Rc} {o : Oper} {a : Act} {ops : Array Oper} {N : Nat} {z z' : St} {x : Ev}

theorem dsts_mem {o : Oper} {t : Nat} (hd : o.dst = some t) : ∀ {l : List Oper}, o ∈ l → t ∈ dsts l
  | [], h => by cases h
  | q :: l, h => by
    rcases List.mem_cons.1 h with h | h
    · subst h; exact dsts_head hd
    · exact dsts_tail (dsts_mem hd h)
theorem chain_rs {Z : Nat → St} {X : Nat → Ev} {M : Nat → Nat} {n : Nat} (hk : ∀ k, k < n → Kind k (M k) (Z k) (X k) (Z (k + 1))) : ∀ j i, j ≤ i → i ≤ n → ∀ r ∈ (Z j).rs, r ∈ (Z i).rs
  | j, 0, h, _, r, hr => by obtain rfl : j = 0 := by omega
                            exact hr
  | j, i + 1, h, hi, r, hr => by
    by_cases e : j = i + 1
    · subst e; exact hr
    · exact (hk i (by omega)).rsMono r (chain_rs hk j i (by omega) (by omega) r hr)
theorem chain_fl {Z : Nat → St} {X : Nat → Ev} {M : Nat → Nat} {n : Nat} (hk : ∀ k, k < n → Kind k (M k) (Z k) (X k) (Z (k + 1))) : ∀ i, i ≤ n → (Z i).h.fl = (Z 0).h.fl
  | 0, _ => rfl
  | i + 1, hi => (hk i (by omega)).fl.trans (chain_fl hk i (by omega))
theorem chain_log {Z : Nat → St} {X : Nat → Ev} {M : Nat → Nat} {n : Nat} (hk : ∀ k, k < n → Kind k (M k) (Z k) (X k) (Z (k + 1))) (y : Nat) : ∀ j i, j ≤ i → i ≤ n → (y ∈ (Z j).h.lg ∨ y ∈ (Z j).acc) → (y ∈ (Z i).h.lg ∨ y ∈ (Z i).acc)
  | j, 0, h, _, hy => by obtain rfl : j = 0 := by omega
                         exact hy
  | j, i + 1, h, hi, hy => by
    by_cases e : j = i + 1
    · subst e; exact hy
    · exact (hk i (by omega)).logMono y (chain_log hk y j i (by omega) (by omega) hy)

theorem draw_ok (T : TabOk E) {self : Self} (S : SelfOk E self) : DrawOk E self := by
  intro ops ts h c e ts' h' c' g id φ w n b a k cs hnw ht hok hr hh hf hm
  unfold evDraw at g
  obtain ⟨_, g⟩ := guardB_ok g
  obtain ⟨hap, g⟩ := guardB_ok g
  have hd : ∀ o ∈ ops.toList, dstOk a.tmps.size o = true := (allL_iff _ _).1 hok
  have q0 : SeqOk E a.tmps.size ⟨[], [], ts, ⟨h.t, c, []⟩, c⟩ := ⟨φ, w, a, rfl, ht, hh, hf⟩
  obtain ⟨Z, X, hZ0, hq, hfin, hst⟩ := evOpsD_ok T S hd ops.toList 0 (preds ops.toList []) ⟨[], [], ts, ⟨h.t, c, []⟩, c⟩ (by simp) q0 g
  have hlen : 0 + ops.toList.length = ops.size := by simp
  rw [hlen] at hfin
  simp only [forceL_eq] at hfin
  injection hfin with he hts hhs hcs
  obtain ⟨r, hr1, hr2, hr3⟩ := preds_ok ops.toList []
  rw [List.nil_append] at hr1
  -- the operations, one by one
  have hop : ∀ i, i < ops.size → ops[i]? = some ((ops[i]?).getD default) := fun i hi => by rw [Array.getElem?_eq_getElem hi]; rfl
  have each : ∀ i, i < ops.size → r[i]?.getD 0 < 2 ^ i ∧ StepF E ops a.tmps.size i (r[i]?.getD 0) (Z i) (X i) (Z (i + 1)) ∧ Facts (Z i) (X i) (Z (i + 1)) := fun i hi => by
    obtain ⟨m, h1, h2, h3, h4⟩ := hst i (Nat.zero_le _) (by rw [hlen]; exact hi)
    rw [Nat.sub_zero, hr1] at h1
    rw [h1]; exact ⟨h2, h3, h4⟩
  have kinds : ∀ i, i < ops.size → Kind i (r[i]?.getD 0) (Z i) (X i) (Z (i + 1)) := fun i hi => by
    obtain ⟨_, ⟨o, _, _, hk, _⟩, _⟩ := each i hi; exact hk
  have hq : ∀ i, i ≤ ops.size → SeqOk E a.tmps.size (Z i) := fun i hi => hq i (Nat.zero_le _) (by rw [hlen]; exact hi)
  have hr4 : ∀ i, i < ops.size → r[i]?.getD 0 = predsGo ((ops[i]?).getD default).after.toList (r.take i) := fun i hi => by
    have := hr3 i ((ops[i]?).getD default) (by rw [Array.getElem?_toList]; exact hop i hi)
    rw [this]; simp
  let p : Plan := { op := fun i => (ops[i]?).getD default, TS := fun i => (Z i).ts, H := fun i => (Z i).h.t, C := fun i => (Z i).c, v := fun i => (X i).v, τ := fun i => (X i).τ, τ' := fun i => (X i).τ', lg := fun i => (X i).lg, pre := fun i j => Nat.testBit (r[i]?.getD 0) j = true }
  have ok : p.Ok E ops a.tmps.size ops.size := by
    have hC : ∀ i, i < ops.size → p.C i ≤ p.C (i + 1) := fun i hi => (each i hi).2.2.cle
    have dstep : ∀ i, i < ops.size → ∀ t, evalT (p.TS (i + 1)) t = if (p.op i).dst = some t then p.v i else evalT (p.TS i) t := fun i hi t => by
      obtain ⟨_, ⟨o, ho, hts, _, _⟩, _⟩ := each i hi
      have hoi : p.op i = o := by show (ops[i]?).getD default = o; rw [ho]; rfl
      show evalT (Z (i + 1)).ts t = if (p.op i).dst = some t then (X i).v else evalT (Z i).ts t
      rw [hts, hoi]
      unfold putT
      cases hdo : o.dst with
      | none => rw [if_neg (by simp)]
      | some d =>
        show evalT ((Z i).ts.set d (some (X i).v)) t = _
        rw [evalT_set]
        by_cases hdt : d = t
        · subst hdt; rw [if_pos rfl, if_pos rfl]
        · rw [if_neg hdt, if_neg (by simpa using hdt)]
    refine ⟨hC, fun i hi => (each i hi).2.2.τH, fun i hi y hy => (hq i hi).dom hy, fun i hi => (each i hi).2.2.h1, fun i hi => (each i hi).2.2.h0, fun i hi t hw => (dstep i hi t).trans (if_pos hw), fun i hi t hw => (dstep i hi t).trans (if_neg hw),
      fun j i hji hi hp y => ?_, fun j i hji hi hp t => ?_, fun i hi => hd _ (List.mem_of_getElem? (i := i) (by rw [Array.getElem?_toList]; exact hop i hi)), fun i hi => ?_, fun i hi t => ?_, fun i hi y o hy => ?_⟩
    · have hb : Nat.testBit (r[i]?.getD 0) j = false := by
        cases hx : Nat.testBit (r[i]?.getD 0) j with
        | true => exact absurd hx hp
        | false => rfl
      have hcji : (Z (j + 1)).c ≤ (Z i).c := Plan.C_le hC (j + 1) i (by omega) (by omega)
      exact conf_of (kinds j (by omega)) (kinds i hi) hb (chain_rs kinds (j + 1) i (by omega) (by omega)) (hC j (by omega)) hcji (fun y hy => (hq j (by omega)).dom fun h => by
        cases ex : (X j).τ.get y with
        | none => exact hy ex
        | some ob => rw [(each j (by omega)).2.2.τH y ob ex] at h; cases h) y
    · have hb : Nat.testBit (r[i]?.getD 0) j = false := by
        cases hx : Nat.testBit (r[i]?.getD 0) j with
        | true => exact absurd hx hp
        | false => rfl
      have hmi : (preds ops.toList [])[i]? = some (r[i]?.getD 0) := by
        rw [hr1]
        rw [List.getElem?_eq_getElem (by rw [hr2]; simpa using hi)]; rfl
      have h1 := apartAll_ok hap i (p.op i) _ (by rw [Array.getElem?_toList]; exact hop i hi) hmi
      rw [List.nil_append] at h1
      obtain ⟨q1, q2, q3⟩ := apartA_ok h1 j (p.op j) (by rw [List.getElem?_take_of_lt hji, Array.getElem?_toList]; exact hop j (by omega)) (by rw [Nat.zero_add]; exact hb)
      exact ⟨fun hw => q2 t hw, fun hw => q3 t hw, fun hw hw2 => q1 t hw2 hw⟩
    · obtain ⟨_, ⟨o, ho, _, _, hrun⟩, _⟩ := each i hi
      have hoi : p.op i = o := by show (ops[i]?).getD default = o; rw [ho]; rfl
      intro φ a hN hl
      rw [hoi] at hl ⊢
      exact hrun φ a hN hl
    · obtain ⟨ψ, w2, a2, _, ht2, _, hf2⟩ := hq i (by omega)
      exact ⟨ψ, _, hf2, ht2 t⟩
    · obtain ⟨ψ, w2, a2, _, _, hh2, hf2⟩ := hq i (by omega)
      exact ⟨ψ, w2, hf2, hh2.obj y o hy⟩
  have P1 : ∀ i, i < ops.size → ∀ j, p.pre i j → ∃ e ∈ (p.op i).after, Region.binds .any e = true ∧ (j = e.on ∨ (e.on < i ∧ p.pre e.on j)) := fun i hi j hp => by
    have hp : Nat.testBit (r[i]?.getD 0) j = true := hp
    rw [hr4 i hi, predsGo_bit] at hp
    obtain ⟨ed, h1, h2, h3⟩ := hp
    refine ⟨ed, Array.mem_def.2 h1, h2, h3.imp (fun h => h) fun ⟨m, hm, hb⟩ => ?_⟩
    rw [List.getElem?_take] at hm
    split at hm
    · rename_i hlt
      exact ⟨hlt, by show Nat.testBit (r[ed.on]?.getD 0) j = true; rw [hm]; exact hb⟩
    · cases hm
  have P2 : ∀ i, i < ops.size → ∀ e ∈ (p.op i).after, Region.binds .any e = true → e.on < i := fun i hi ed hed hb => by
    have : Nat.testBit (r[i]?.getD 0) ed.on = true := by
      rw [hr4 i hi, predsGo_bit]
      exact ⟨ed, Array.mem_def.1 hed, hb, .inl rfl⟩
    apply Nat.lt_of_not_le
    intro hle
    rw [Nat.testBit_lt_two_pow (Nat.lt_of_lt_of_le (each i hi).1 (Nat.pow_le_pow_right (by omega) hle))] at this
    cases this
  have e0 : p.H 0 = h.t := by show (Z 0).h.t = _; rw [hZ0]
  have c0 : p.C 0 = c := by show (Z 0).c = _; rw [hZ0]
  have t0 : p.TS 0 = ts := by show (Z 0).ts = _; rw [hZ0]
  have hff : Fresh φ (p.C 0) 0 := by rw [c0]; exact hf
  have inv0 := Plan.Inv.start (w₀ := { w with drawn := w.drawn + 1 }) (S := Ls (Array.replicate ops.size false)) ok rfl (by rw [t0]; exact ht) (by rw [e0]; exact hh.draw) hff (fun i hl => by
    unfold Ls at hl
    rw [Array.getD_eq_getD_getElem?, Array.getElem?_replicate] at hl
    split at hl <;> cases hl)
  obtain ⟨Sd, φ', w', a', hall, inv, hsteps⟩ := inv0.sched ok hop P1 P2 b k cs ops.size (w.tape w.drawn (.order b.fn id)) (Array.replicate ops.size false) _ _ _ (by simp) (by
    have := List.length_filter_le (fun j => !(Array.replicate ops.size false).getD j false) (List.range ops.size)
    rw [List.length_range] at this; exact this) (fun j _ hl => by
    unfold Ls at hl
    rw [Array.getD_eq_getD_getElem?, Array.getElem?_replicate] at hl
    split at hl <;> cases hl)
  obtain ⟨hsim, htr⟩ := inv.done ok hall hff (fl := h.fl) (lg := h.lg) (lg' := logAll (appLog (Z ops.size).h.lg (Z ops.size).acc) h.fl h.lg) (fun x hx => (logAll_iff ..).2 (.inl hx)) (fun j hj y hy hyc hyf => (logAll_iff ..).2 (.inr ⟨(appLog_iff ..).2 (chain_log kinds y (j + 1) ops.size (by omega) (Nat.le_refl _) ((kinds j hj).logNew y hy (by
      rw [chain_fl kinds j (by omega), hZ0]
      show y < c
      rw [← c0]; exact hyc))), hyf⟩)) (by rw [e0]; exact hh.draw)
  subst he; subst hts; subst hhs; subst hcs
  have hs2 : Sim E φ h c w φ' ⟨(Z ops.size).h.t, h.fl, logAll (appLog (Z ops.size).h.lg (Z ops.size).acc) h.fl h.lg⟩ (Z ops.size).c w' := by
    rw [e0, c0] at hsim
    exact Sim.draw hsim
  refine ⟨φ', w', a', hs2, htr, ⟨inv.size, fun t ht => inv.tm t fun i hi hw => ht ?_⟩, ?_, ?_⟩
  · have hm : (ops[i]?).getD default ∈ ops.toList := List.mem_of_getElem? (i := i) (by rw [Array.getElem?_toList]; exact hop i hi)
    have hw : ((ops[i]?).getD default).dst = some t := hw
    exact dsts_mem hw hm
  · rw [inv.defers]; exact hm.sim hh hf hs2
  · refine Steps.trans (fat_region_draw (id := id)) ?_
    have hsch : Region.schedule (E.P.follows .mixedOrders) ops (w.tape w.drawn (.order b.fn id)) = Region.linearise.go .any ops ops.size (w.tape w.drawn (.order b.fn id)) (Array.replicate ops.size false) [] := by
      simp only [Region.schedule, T.mixed, Bool.true_or, if_true]
      rfl
    rw [hsch]
    exact hsteps
end
end Go.AE
