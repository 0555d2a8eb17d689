import Derived.Test.YtbnakfpdmiibdaaAEDraw1
namespace Go.AE
/-- an operation of a region, wanted or not -/
def OpRun (E : Env) (φ₀ : Loc) (ops : Array Oper) (i : Nat) (o : Oper) (a : Act) (h : Hs) (c : Nat) (v : AV) (h' : Hs) (c' : Nat) : Prop :=
  ∀ (φ : Loc) (w : World) (b : Frame) (k : List Item) (cs : List Frame) (rest : List Nat), φ₀.le φ → HR E φ h.t w → Fresh φ c c' →
    ∃ φ' w' u, Sim E φ h c w φ' h' c' w' ∧ VR E φ' v u ∧ Steps E.P (lone (fat b a (.inRegion ops (i :: rest) :: k)) cs w) (lone (fat b (a.put o.dst u) (.inRegion ops rest :: k)) cs w')

/-- the evaluator's run of a region, in sequence -/
structure Plan where
  op : Nat → Oper
  TS : Nat → Tm
  H : Nat → T AObj
  C : Nat → Nat
  v : Nat → AV
  τ : Nat → T AObj
  τ' : Nat → T AObj
  lg : Nat → List Nat
  pre : Nat → Nat → Prop

def Plan.WT (p : Plan) (k t : Nat) : Prop := (p.op k).dst = some t
def Plan.WH (p : Plan) (k y : Nat) : Prop := Wr (p.C k) (p.C (k + 1)) (p.lg k) y
def Plan.IH (p : Plan) (k y : Nat) : Prop := (p.τ k).get y ≠ none ∨ (y ∈ p.lg k ∧ y < p.C k)
noncomputable def Plan.GT (p : Plan) (n : Nat) (S : Nat → Prop) : Nat → AV := Pick (fun k t => evalT (p.TS k) t) p.WT S n
noncomputable def Plan.GH (p : Plan) (n : Nat) (S : Nat → Prop) : Nat → Option AObj := Pick (fun k y => (p.H k).get y) p.WH S n

/-- the operation's own run -/
def Plan.Run (E : Env) (ops : Array Oper) (N : Nat) (p : Plan) (i : Nat) : Prop :=
  ∀ (φ : Loc) (a : Act), a.tmps.size = N → (∀ t ∈ looksA ops.toList (p.op i), VR E φ (evalT (p.TS i) t) (a.tmps.getD t undef)) →
    OpRun E φ ops i (p.op i) a ⟨p.τ i, p.C i, []⟩ (p.C i) (p.v i) ⟨p.τ' i, p.C i, p.lg i⟩ (p.C (i + 1))

structure Plan.Ok (E : Env) (ops : Array Oper) (N n : Nat) (p : Plan) : Prop where
  hC : ∀ i, i < n → p.C i ≤ p.C (i + 1)
  hτ : ∀ i, i < n → ∀ y o, (p.τ i).get y = some o → (p.H i).get y = some o
  hdom : ∀ i, i ≤ n → ∀ y, (p.H i).get y ≠ none → y < p.C i
  hH1 : ∀ i, i < n → ∀ y, p.WH i y → (p.H (i + 1)).get y = (p.τ' i).get y
  hH0 : ∀ i, i < n → ∀ y, ¬ p.WH i y → (p.H (i + 1)).get y = (p.H i).get y
  hT1 : ∀ i, i < n → ∀ t, p.WT i t → evalT (p.TS (i + 1)) t = p.v i
  hT0 : ∀ i, i < n → ∀ t, ¬ p.WT i t → evalT (p.TS (i + 1)) t = evalT (p.TS i) t
  conf : ∀ j i, j < i → i < n → ¬ p.pre i j → ∀ y, (p.WH i y → ¬ p.IH j y) ∧ (p.WH j y → ¬ p.IH i y) ∧ (p.WH i y → ¬ p.WH j y)
  apart : ∀ j i, j < i → i < n → ¬ p.pre i j → ∀ t, (p.WT j t → t ∉ looksA ops.toList (p.op i)) ∧ (p.WT i t → t ∉ looksA ops.toList (p.op j)) ∧ (p.WT i t → ¬ p.WT j t)
  dst : ∀ i, i < n → dstOk N (p.op i) = true
  run : ∀ i, i < n → p.Run E ops N i
  scT : ∀ i, i < n → ∀ t, ∃ (ψ : Loc) (u : Value), Fresh ψ (p.C i) 0 ∧ VR E ψ (evalT (p.TS i) t) u
  scH : ∀ i, i < n → ∀ y o, (p.H i).get y = some o → ∃ (ψ : Loc) (w : World), Fresh ψ (p.C i) 0 ∧ OR E ψ w y o

theorem Plan.C_le {p : Plan} {n : Nat} (hC : ∀ i, i < n → p.C i ≤ p.C (i + 1)) : ∀ i j, i ≤ j → j ≤ n → p.C i ≤ p.C j
  | i, 0, h, _ => by obtain rfl : i = 0 := by omega
                     exact Nat.le_refl _
  | i, j + 1, h, hj => by
    by_cases e : i = j + 1
    · subst e; exact Nat.le_refl _
    · exact Nat.le_trans (Plan.C_le hC i j (by omega) (by omega)) (hC j (by omega))

/-- may real block B have been turned? -/
def Plan.Ex (p : Plan) (n : Nat) (φ₀ : Loc) (B : Nat) : Prop := ∃ y K, (p.H 0).get y ≠ none ∧ φ₀ y = some (B, K) ∧ ∃ j, j < n ∧ y ∈ p.lg j

structure Plan.Inv (E : Env) (N n : Nat) (p : Plan) (φ₀ : Loc) (w₀ : World) (df : List Deferred) (S : Nat → Prop) (φ : Loc) (w : World) (a : Act) : Prop where
  size : a.tmps.size = N
  defers : a.defers = df
  tr : ∀ t, VR E φ (p.GT n S t) (a.tmps.getD t undef)
  hr : HRf E φ (p.GH n S) w
  free1 : ∀ b, p.C n ≤ b → φ b = none
  free2 : ∀ i, i < n → ¬ S i → ∀ b, p.C i ≤ b → b < p.C (i + 1) → φ b = none
  ext : ∀ b, b < p.C 0 → φ b = φ₀ b
  dom : ∀ b, p.GH n S b ≠ none → (p.H 0).get b ≠ none ∨ (p.C 0 ≤ b ∧ b < p.C n)
  new : ∀ b B K, p.C 0 ≤ b → b < p.C n → φ b = some (B, K) → p.GH n S b ≠ none → w₀.heap.size ≤ B ∨ p.Ex n φ₀ B
  fr : ∀ B, B < w₀.heap.size → ¬ p.Ex n φ₀ B → w.heap[B]? = w₀.heap[B]?
  same : Same w₀ w

section
variable {E : Env} {ops : Array Oper} {N n : Nat} {p : Plan} {φ₀ φ : Loc} {w₀ w : World} {df : List Deferred} {S S' : Nat → Prop} {a : Act}

theorem Plan.Inv.start (ok : p.Ok E ops N n) (h1 : a.tmps.size = N) (h2 : TR E φ₀ (p.TS 0) a.tmps) (h3 : HR E φ₀ (p.H 0) w₀) (h4 : Fresh φ₀ (p.C 0) 0) (hS : ∀ i, ¬ S i) : p.Inv E N n φ₀ w₀ a.defers S φ₀ w₀ a := by
  have hT : p.GT n S = fun t => evalT (p.TS 0) t := funext fun t => Pick.still n (Nat.zero_le _) fun j _ _ _ => hS j
  have hH : p.GH n S = fun y => (p.H 0).get y := funext fun y => Pick.still n (Nat.zero_le _) fun j _ _ _ => hS j
  have c0 := Plan.C_le ok.hC 0
  refine ⟨h1, rfl, fun t => by rw [hT]; exact h2 t, by rw [hH]; exact h3.fn, fun b hb => h4 b (by have := c0 n (by omega) (by omega); omega) rfl, fun i hi _ b hb _ => h4 b (by have := c0 i (by omega) (by omega); omega) rfl,
    fun _ _ => rfl, fun b hb => .inl (by rw [hH] at hb; exact hb), fun b B K hb _ e _ => (by rw [h4 b hb rfl] at e; cases e), fun _ _ _ => rfl, Same.refl _⟩

theorem Plan.Inv.step (ok : p.Ok E ops N n) (inv : p.Inv E N n φ₀ w₀ df S φ w a) {i : Nat} (hi : i < n) (hSi : ¬ S i) (hpre : ∀ j, j < n → p.pre i j → S j) (hclo : ∀ j, j < n → S j → ∀ k, k < n → p.pre j k → S k)
    (hS : ∀ j, S' j ↔ S j ∨ j = i) (b : Frame) (k : List Item) (cs : List Frame) (rest : List Nat) :
    ∃ φ' w' a', p.Inv E N n φ₀ w₀ df S' φ' w' a' ∧ Steps E.P (lone (fat b a (.inRegion ops (i :: rest) :: k)) cs w) (lone (fat b a' (.inRegion ops rest :: k)) cs w') := by
  have cle := Plan.C_le ok.hC
  -- pairs that may stand in either order
  have early : ∀ j, j < i → ¬ S j → ¬ p.pre i j := fun j hj hs hp => hs (hpre j (by omega) hp)
  have late : ∀ j, i < j → j < n → S j → ¬ p.pre j i := fun j _ hn hs hp => hSi (hclo j hn hs i hi hp)
  -- what it looks at stands as in the sequence
  have hlook : ∀ t ∈ looksA ops.toList (p.op i), p.GT n S t = evalT (p.TS i) t := fun t ht => by
    refine Pick.at (n := n) (fun k hk hw => ok.hT0 k hk t hw) (by omega) (fun j hj hw => Classical.byContradiction fun hs => ?_) (fun j hj hn hw hs => ?_)
    · exact (ok.apart j i hj hi (early j hj hs) t).1 hw ht
    · have hne : j ≠ i := fun e => hSi (e ▸ hs)
      exact (ok.apart i j (by omega) hn (late j (by omega) hn hs) t).2.1 hw ht
  have hblk : ∀ y, p.IH i y → p.GH n S y = (p.H i).get y := fun y hy => by
    refine Pick.at (n := n) (fun k hk hw => ok.hH0 k hk y hw) (by omega) (fun j hj hw => Classical.byContradiction fun hs => ?_) (fun j hj hn hw hs => ?_)
    · exact (ok.conf j i hj hi (early j hj hs) y).2.1 hw hy
    · have hne : j ≠ i := fun e => hSi (e ▸ hs)
      exact (ok.conf i j (by omega) hn (late j (by omega) hn hs) y).1 hw hy
  have hτG : ∀ y o, (p.τ i).get y = some o → p.GH n S y = some o := fun y o hy => by
    rw [hblk y (.inl (by rw [hy]; simp))]; exact ok.hτ i hi y o hy
  have hτc : ∀ y, (p.τ i).get y ≠ none → y < p.C i := fun y hy => by
    cases e : (p.τ i).get y with
    | none => exact absurd e hy
    | some o => exact ok.hdom i (by omega) y (by rw [ok.hτ i hi y o e]; simp)
  have some_of : ∀ y, (p.τ i).get y ≠ none → p.GH n S y ≠ none := fun y hy => by
    cases e : (p.τ i).get y with
    | none => exact absurd e hy
    | some o => rw [hτG y o e]; simp
  -- its run, where only the numbers below its own are in use
  have hcut := Loc.cut_le φ (p.C i)
  have hr := ok.run i hi (φ.cut (p.C i)) a inv.size (fun t ht => by
    obtain ⟨ψ, u, hf, hv⟩ := ok.scT i hi t
    refine VR.scope hf _ _ u ?_ hv
    rw [← hlook t ht]; exact inv.tr t)
  have hhr : HR E (φ.cut (p.C i)) (p.τ i) w := by
    have := inv.hr.sub hτG
    refine ⟨fun y o hy => ?_, fun y z B M M' h1 h2 e1 e2 => this.inj y z B M M' h1 h2 (hcut _ _ e1) (hcut _ _ e2)⟩
    obtain ⟨ψ, w2, hf, ho⟩ := ok.scH i hi y o (ok.hτ i hi y o hy)
    exact OR.scope hf (this.obj y o hy) ho
  obtain ⟨φ₁, w', u, s, hu, hst⟩ := hr (φ.cut (p.C i)) w b k cs rest (fun _ _ h => h) hhr (fresh_cut φ _ _)
  have hfree := inv.free2 i hi hSi
  have hG1 : ∀ y, p.WH i y → p.GH n S' y = (p.τ' i).get y := fun y hy => by
    rw [← ok.hH1 i hi y hy]
    exact Pick.more hi hS hy fun j hj hn hw hs => (ok.conf i j hj hn (late j hj hn hs) y).2.2 hw hy
  have hG0 : ∀ y, ¬ p.WH i y → p.GH n S' y = p.GH n S y := fun y hy => Pick.same hS hy
  obtain ⟨m1, m2, m3, m4⟩ := merge inv.hr hτG hτc s hfree hG1 hG0
  have hcC := ok.hC i hi
  have hcn := cle (i + 1) n (by omega) (by omega)
  have hc0 := cle 0 i (by omega) (by omega)
  -- where a block that it turns stood
  have origin : ∀ B x K, (p.τ i).get x ≠ none → x ∈ p.lg i → φ x = some (B, K) → w₀.heap.size ≤ B ∨ p.Ex n φ₀ B := fun B x K hx hl e => by
    have hg := some_of x hx
    have hxc := hτc x hx
    by_cases h0 : x < p.C 0
    · rcases inv.dom x hg with hd | hd
      · exact .inr ⟨x, K, hd, by rw [← inv.ext x h0]; exact e, i, hi, hl⟩
      · omega
    · exact inv.new x B K (by omega) (by omega) e hg
  have turned : ∀ y, p.WH i y → p.GH n S' y ≠ none → ¬ (p.C i ≤ y ∧ y < p.C (i + 1)) → p.GH n S y ≠ none := fun y hw hy hn => by
    rw [hG1 y hw] at hy
    rcases s.dom y hy with hd | hd
    · exact some_of y hd
    · exact absurd hd hn
  have hputs : (a.put (p.op i).dst u).tmps.size = a.tmps.size := by
    cases h : (p.op i).dst <;> simp [Act.put]
  refine ⟨φ.join φ₁ (p.C i) (p.C (i + 1)), w', a.put (p.op i).dst u, ⟨hputs.trans inv.size, by rw [← inv.defers]; cases h : (p.op i).dst <;> rfl, fun t => ?_, m1, fun y hy => ?_, fun j hj hs y h1 h2 => ?_, fun y hy => ?_, fun y hy => ?_, fun y B K h1 h2 e hy => ?_, fun B hB hx => ?_, inv.same.trans s.same⟩, hst⟩
  · by_cases hw : p.WT i t
    · have e1 : p.GT n S' t = p.v i := by
        rw [← ok.hT1 i hi t hw]
        exact Pick.more hi hS hw fun j hj hn hwj hs => (ok.apart i j hj hn (late j hj hn hs) t).2.2 hwj hw
      have hd : (p.op i).dst = some t := hw
      have hlt : t < a.tmps.size := by
        have := ok.dst i hi
        unfold dstOk at this
        rw [hd] at this
        rw [inv.size]; exact Nat.blt_eq.mp this
      have e2 : (a.put (p.op i).dst u).tmps.getD t undef = u := by
        rw [hd]
        show (a.tmps.setIfInBounds t u).getD t undef = u
        simp [Array.getD, hlt]
      rw [e1, e2]; exact VR.mono m3 _ _ hu
    · have e1 : p.GT n S' t = p.GT n S t := Pick.same hS hw
      have e2 : (a.put (p.op i).dst u).tmps.getD t undef = a.tmps.getD t undef := by
        cases hd : (p.op i).dst with
        | none => rfl
        | some d =>
          have hne : d ≠ t := fun e => hw (by unfold Plan.WT; rw [hd, e])
          show (a.tmps.setIfInBounds d u).getD t undef = _
          simp only [Array.getD_eq_getD_getElem?, Array.getElem?_setIfInBounds_ne hne]
      rw [e1, e2]; exact VR.mono m2 _ _ (inv.tr t)
  · rw [Loc.join_out (by omega)]; exact inv.free1 y hy
  · have hji : j ≠ i := fun e => hs ((hS j).2 (.inr e))
    have hjs : ¬ S j := fun h => hs ((hS j).2 (.inl h))
    rw [Loc.join_out (fun hc => ?_)]
    · exact inv.free2 j hj hjs y h1 h2
    · by_cases hlt : j < i
      · have := cle (j + 1) i (by omega) (by omega); omega
      · have := cle (i + 1) j (by omega) (by omega); omega
  · rw [Loc.join_out (by omega)]; exact inv.ext y hy
  · by_cases hw : p.WH i y
    · by_cases hn : p.C i ≤ y ∧ y < p.C (i + 1)
      · exact .inr (by omega)
      · exact inv.dom y (turned y hw hy hn)
    · rw [hG0 y hw] at hy; exact inv.dom y hy
  · by_cases hn : p.C i ≤ y ∧ y < p.C (i + 1)
    · rw [Loc.join_in hn] at e
      rw [hG1 y (.inr hn)] at hy
      rcases s.new y B K hn.1 hn.2 e hy with hb | ⟨x, M, hx, e2, hl⟩
      · exact .inl (Nat.le_trans inv.same.size hb)
      · have hxc := hτc x hx
        exact origin B x M hx (hl.elim (fun h => absurd h (by show ¬ p.C i ≤ x; omega)) id) (hcut _ _ e2)
    · rw [Loc.join_out hn] at e
      by_cases hw : p.WH i y
      · exact inv.new y B K h1 h2 e (turned y hw hy hn)
      · rw [hG0 y hw] at hy; exact inv.new y B K h1 h2 e hy
  · rw [m4 B (Nat.lt_of_lt_of_le hB inv.same.size) (fun y K hl hc ht e => ?_), inv.fr B hB hx]
    rcases origin B y K ht hl e with h | h
    · omega
    · exact hx h

/-- all have come up -/
theorem Plan.Inv.done (ok : p.Ok E ops N n) (inv : p.Inv E N n φ₀ w₀ df S φ w a) (hall : ∀ i, i < n → S i) (hf : Fresh φ₀ (p.C 0) 0) {fl : Nat} {lg lg' : List Nat} (hlg : ∀ x ∈ lg, x ∈ lg') (hl : ∀ j, j < n → ∀ y ∈ p.lg j, y < p.C 0 → y < fl → y ∈ lg') (h3 : HR E φ₀ (p.H 0) w₀) :
    Sim E φ₀ ⟨p.H 0, fl, lg⟩ (p.C 0) w₀ φ ⟨p.H n, fl, lg'⟩ (p.C n) w ∧ TR E φ (p.TS n) a.tmps := by
  have hT : p.GT n S = fun t => evalT (p.TS n) t := funext fun t => Pick.all (n := n) (fun k hk hw => ok.hT0 k hk t hw) n (Nat.le_refl _) fun j hj _ => hall j hj
  have hH : p.GH n S = fun y => (p.H n).get y := funext fun y => Pick.all (n := n) (fun k hk hw => ok.hH0 k hk y hw) n (Nat.le_refl _) fun j hj _ => hall j hj
  have cle := Plan.C_le ok.hC
  have exm : ∀ B, p.Ex n φ₀ B → Exm φ₀ (p.H 0) fl lg' B := fun B ⟨y, K, hy, e, j, hj, hm⟩ => by
    refine ⟨y, K, hy, e, ?_⟩
    have hyc := fresh_lt hf e
    by_cases h : fl ≤ y
    · exact .inl h
    · exact .inr (hl j hj y hm hyc (by omega))
  refine ⟨⟨(hH ▸ inv.hr).tree, fun b hb => ?_, cle 0 n (by omega) (by omega), fun b hb => ?_, fun b B K h1 h2 e hb => ?_, fun B hB hx => inv.fr B hB fun h => hx (exm B h), inv.same, rfl, hlg, fun b h1 h2 h4 => ?_⟩, fun t => by have := inv.tr t; rw [hT] at this; exact this⟩
  · rcases hb with hb | hb
    · exact inv.ext b hb
    · rw [inv.free1 b hb, hf b (by have := cle 0 n (by omega) (by omega); omega) rfl]
  · exact inv.dom b (by rw [hH]; exact hb)
  · exact (inv.new b B K h1 h2 e (by rw [hH]; exact hb)).imp id (exm B)
  · have : ∀ m, m ≤ n → (p.H m).get b = (p.H 0).get b := by
      intro m
      induction m with
      | zero => intro _; rfl
      | succ m ih =>
        intro hm
        rw [ok.hH0 m (by omega) b ?_, ih (by omega)]
        rintro (⟨hq, _⟩ | ⟨hq, _⟩)
        · exact h4 (hl m (by omega) b hq h2 h1)
        · have := cle 0 m (by omega) (by omega)
          have h2 : b < p.C 0 := h2
          omega
    exact this n (Nat.le_refl _)
end
end Go.AE
