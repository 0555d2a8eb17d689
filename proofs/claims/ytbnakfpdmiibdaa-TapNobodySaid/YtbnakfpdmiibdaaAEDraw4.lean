import Derived.Test.YtbnakfpdmiibdaaAEDraw3
namespace Go.AE
section
variable {E : Env} {φ φ' φ₀ : Loc} {h h' h₁ h₀ h1 : Hs} {c c' c₁ c₀ b m i : Nat} {w w' : World} {ts ts' ts1 : Tm} {e ex : Ex} {rs : List Rc} {o : Oper} {a : Act} {ops : Array Oper} {N : Nat}

/-! ### what is hidden from an operation -/
def Hid (m : Nat) (rs : List Rc) (y : Nat) : Prop := ∃ j, (⟨j, .al y⟩ : Rc) ∈ rs ∧ Nat.testBit m j = false
def HideOk (m : Nat) (rs : List Rc) (t : T AObj) : Prop := (∃ n, ∀ K, hideAl m rs t K = .bad n) ∨ ∃ t' l, (∀ K, hideAl m rs t K = K t' l) ∧ (∀ y, Hid m rs y → t.get y ≠ none) ∧ (∀ y, ¬ Hid m rs y → t'.get y = t.get y) ∧ (∀ y, Hid m rs y → t'.get y = none) ∧
    ∀ t2, ∃ t3, (∀ K, layBack l t2 K = K t3) ∧ (∀ y, Hid m rs y → t3.get y = t.get y) ∧ (∀ y, ¬ Hid m rs y → t3.get y = t2.get y)
theorem HideOk.same {r : Rc} {t : T AObj} (h1 : ∀ K, hideAl m (r :: rs) t K = hideAl m rs t K) (h2 : ∀ y, Hid m (r :: rs) y ↔ Hid m rs y) (h : HideOk m rs t) : HideOk m (r :: rs) t := by
  rcases h with ⟨n, hb⟩ | ⟨t', l, g1, g2, g3, g4, g5⟩
  · exact .inl ⟨n, fun K => (h1 K).trans (hb K)⟩
  · refine .inr ⟨t', l, fun K => (h1 K).trans (g1 K), fun y hy => g2 y ((h2 y).1 hy), fun y hy => g3 y fun h => hy ((h2 y).2 h), fun y hy => g4 y ((h2 y).1 hy), fun t2 => ?_⟩
    obtain ⟨t3, q1, q2, q3⟩ := g5 t2
    exact ⟨t3, q1, fun y hy => q2 y ((h2 y).1 hy), fun y hy => q3 y fun h => hy ((h2 y).2 h)⟩
theorem hideAl_eq (m : Nat) : ∀ (rs : List Rc) (t : T AObj), HideOk m rs t
  | [], t => .inr ⟨t, [], fun _ => rfl, fun y ⟨_, h, _⟩ => (by cases h), fun _ _ => rfl, fun y ⟨_, h, _⟩ => (by cases h), fun t2 => ⟨t2, fun _ => rfl, fun y ⟨_, h, _⟩ => (by cases h), fun _ _ => rfl⟩⟩
  | r :: rs, t => by
    have same := fun h1 h2 => HideOk.same (m := m) (rs := rs) (r := r) (t := t) h1 h2 (hideAl_eq m rs t)
    obtain ⟨j, k⟩ := r
    cases hb : Nat.testBit m j with
    | true =>
      refine same (fun K => ?_) fun y => ⟨fun ⟨j', h, hj⟩ => ?_, fun ⟨j', h, hj⟩ => ⟨j', List.mem_cons_of_mem _ h, hj⟩⟩
      · show Bool.rec (motive := fun _ => Out) _ _ (Nat.testBit m j) = _
        rw [hb]; rfl
      · rcases List.mem_cons.1 h with h | h
        · injection h with h _; subst h; rw [hb] at hj; cases hj
        · exact ⟨j', h, hj⟩
    | false =>
      cases k with
      | al b =>
        have he : ∀ K, hideAl m (⟨j, .al b⟩ :: rs) t K = (match t.get b with | some o => t.ins b none fun t => hideAl m rs t fun t l => K t ((b, o) :: l) | none => .bad 207) := fun K => by
          show Bool.rec (motive := fun _ => Out) _ _ (Nat.testBit m j) = _
          rw [hb]; rfl
        cases hg : t.get b with
        | none => exact .inl ⟨207, fun K => by rw [he, hg]⟩
        | some o =>
          have he : ∀ K, hideAl m (⟨j, .al b⟩ :: rs) t K = hideAl m rs (t.set b none) fun t l => K t ((b, o) :: l) := fun K => by rw [he, hg]; simp only [ins_eq]
          have hid : ∀ y, Hid m (⟨j, .al b⟩ :: rs) y ↔ y = b ∨ Hid m rs y := fun y => ⟨fun ⟨j', h, hj⟩ => by
            rcases List.mem_cons.1 h with h | h
            · injection h with _ h; injection h with h; exact .inl h
            · exact .inr ⟨j', h, hj⟩, fun h => h.elim (fun h => by subst h; exact ⟨j, List.mem_cons_self .., hb⟩) fun ⟨j', h, hj⟩ => ⟨j', List.mem_cons_of_mem _ h, hj⟩⟩
          rcases hideAl_eq m rs (t.set b none) with ⟨n, hbad⟩ | ⟨t', l, g1, g2, g3, g4, g5⟩
          · exact .inl ⟨n, fun K => (he K).trans (hbad _)⟩
          · have hnb : ¬ Hid m rs b := fun h => g2 b h (by rw [get_set_same])
            refine .inr ⟨t', (b, o) :: l, fun K => (he K).trans (g1 _), fun y hy => ?_, fun y hy => ?_, fun y hy => ?_, fun t2 => ?_⟩
            · rcases (hid y).1 hy with rfl | hy
              · rw [hg]; simp
              · have := g2 y hy
                rw [get_set] at this
                split at this
                · exact absurd rfl this
                · exact this
            · rw [g3 y fun h => hy ((hid y).2 (.inr h)), get_set_ne _ _ fun h => hy ((hid y).2 (.inl h.symm))]
            · rcases (hid y).1 hy with rfl | hy
              · rw [g3 _ hnb, get_set_same]
              · exact g4 y hy
            · obtain ⟨t3, q1, q2, q3⟩ := g5 (t2.set b (some o))
              refine ⟨t3, fun K => ?_, fun y hy => ?_, fun y hy => ?_⟩
              · show t2.ins b (some o) (fun t => layBack l t K) = _
                rw [ins_eq]; exact q1 K
              · rcases (hid y).1 hy with rfl | hy
                · rw [q3 _ hnb, get_set_same, hg]
                · rw [q2 y hy, get_set_ne]
                  intro h; subst h; exact hnb hy
              · rw [q3 y fun h => hy ((hid y).2 (.inr h)), get_set_ne _ _ fun h => hy ((hid y).2 (.inl h.symm))]
      | rd b =>
        refine same (fun K => ?_) fun y => ⟨fun ⟨j', h, hj⟩ => ?_, fun ⟨j', h, hj⟩ => ⟨j', List.mem_cons_of_mem _ h, hj⟩⟩
        · show Bool.rec (motive := fun _ => Out) _ _ (Nat.testBit m j) = _
          rw [hb]; rfl
        · rcases List.mem_cons.1 h with h | h
          · injection h with _ h; cases h
          · exact ⟨j', h, hj⟩
      | wr b =>
        refine same (fun K => ?_) fun y => ⟨fun ⟨j', h, hj⟩ => ?_, fun ⟨j', h, hj⟩ => ⟨j', List.mem_cons_of_mem _ h, hj⟩⟩
        · show Bool.rec (motive := fun _ => Out) _ _ (Nat.testBit m j) = _
          rw [hb]; rfl
        · rcases List.mem_cons.1 h with h | h
          · injection h with _ h; cases h
          · exact ⟨j', h, hj⟩
      | cx ws lo hi =>
        refine same (fun K => ?_) fun y => ⟨fun ⟨j', h, hj⟩ => ?_, fun ⟨j', h, hj⟩ => ⟨j', List.mem_cons_of_mem _ h, hj⟩⟩
        · show Bool.rec (motive := fun _ => Out) _ _ (Nat.testBit m j) = _
          rw [hb]; rfl
        · rcases List.mem_cons.1 h with h | h
          · injection h with _ h; cases h
          · exact ⟨j', h, hj⟩

/-! ### one operation's own run -/
noncomputable def single (b : Nat) (ob : AObj) : T AObj := T.set .e b (some ob)
theorem get_single (b : Nat) (ob : AObj) (y : Nat) : (single b ob).get y = if b = y then some ob else none := by
  unfold single; rw [get_set, get_e]

theorem stN_at {b off : Nat} {l : List AV} {K : Hs → Out} (g : stN h b off l K = .ok e ts' h₀ c₀) :
    ∃ ob ob', h.t.get b = some ob ∧ K (h.putD b (some ob')) = .ok e ts' h₀ c₀ ∧ ∀ (h2 : Hs) (K2 : Hs → Out), h2.t.get b = some ob → stN h2 b off l K2 = K2 (h2.putD b (some ob')) := by
  unfold stN at g
  split at g
  · rename_i n sz pat t hb
    obtain ⟨hn, g⟩ := guardB_ok g
    obtain ⟨hm, g⟩ := guardB_ok g
    rw [ins_eq, put_eq] at g
    refine ⟨_, _, hb, g, fun h2 K2 h2b => ?_⟩
    unfold stN
    rw [h2b]
    simp only [hn, hm]
    show T.ins _ _ _ _ = _
    rw [ins_eq, put_eq]
  · cases g

theorem told_run {cmd : Cmd} {self : Self} (S : SelfOk E self) (hnd : ∀ cl, o.op ≠ .defer cl) (hc : CmdOk E φ₀ o a cmd) (g : told cmd self m rs h c = .ok ex ts1 h1 b) :
    (ex = .normal ∧ CxRun E φ₀ o a ⟨.e, c, []⟩ c (rootV ts1) ⟨.e, c, []⟩ c) ∨
    (ex = .exit 0 ∧ ∃ ob, h1.t = .n .e (some ob) .e ∧ CxRun E φ₀ o a ⟨.e, c, []⟩ c (rootV ts1) ⟨single c ob, c, []⟩ (c + 1)) ∨
    (ex = .exit 1 ∧ ∃ ob, h.t.get b = some ob ∧ CxRun E φ₀ o a ⟨single b ob, c, []⟩ c (rootV ts1) ⟨single b ob, c, []⟩ c) ∨
    (ex = .exit 2 ∧ ∃ ob ob', h.t.get b = some ob ∧ h1 = h.putD b (some ob') ∧ CxRun E φ₀ o a ⟨single b ob, c, []⟩ c (.tup []) ⟨(single b ob).set b (some ob'), c, logW b c []⟩ c) ∨
    (ex = .ret ∧ ∀ t' l, (∀ K, hideAl m rs h.t K = K t' l) → CxRun E φ₀ o a ⟨t', c, []⟩ c (rootV ts1) h1 b) := by
  cases cmd with
  | val v =>
    have g : Out.ok .normal (boxV v) ⟨.e, 0, []⟩ 0 = .ok ex ts1 h1 b := g
    cases g
    obtain ⟨u, hu, hr⟩ := hc
    exact .inl ⟨rfl, CxRun.of_runs hnd fun φ w hle hh _ => ⟨φ, w, u, Sim.refl hh, VR.mono hle _ _ hu, hr w⟩⟩
  | new ao mk =>
    have g : Out.ok (.exit 0) (boxV (mk c)) ⟨.n .e (some ao) .e, 0, []⟩ 0 = .ok ex ts1 h1 b := g
    cases g
    refine .inr (.inl ⟨rfl, ao, rfl, CxRun.of_runs hnd fun φ w hle hh hf => ?_⟩)
    obtain ⟨u, w', n, hr, hgr, hob⟩ := hc w
    have hfc := hf c (Nat.le_refl _) rfl
    have hle2 := Loc.le_add φ (w.heap.size, n) hfc
    obtain ⟨h1, h2⟩ := hob (φ.add c (w.heap.size, n)) c (fun b x hb => hle2 b x (hle b x hb)) (Loc.add_same ..)
    exact ⟨_, w', u, Sim.made (h := ⟨.e, c, []⟩) hh hfc hgr h1, h2, hr⟩
  | rd b' f =>
    have g : f (fun v => .ok (.exit 1) (boxV v) ⟨.e, 0, []⟩ b') (h.t.get b') = .ok ex ts1 h1 b := g
    obtain ⟨ao, v, hx, g, hr⟩ := hc _ _ _ _ _ _ g
    cases g
    refine .inr (.inr (.inl ⟨rfl, ao, hx, CxRun.of_runs hnd fun φ w hle hh _ => ?_⟩))
    obtain ⟨u, hu, hrun⟩ := hr φ w hle (hh.obj b ao (by rw [get_single, if_pos rfl]))
    exact ⟨φ, w, u, Sim.refl hh, hu, hrun⟩
  | wr b' off l =>
    have g : stN h b' off l (fun h => .ok (.exit 2) .e h b') = .ok ex ts1 h1 b := g
    obtain ⟨ob, ob', hb, g, hst⟩ := stN_at g
    cases g
    refine .inr (.inr (.inr (.inl ⟨rfl, ob, ob', hb, rfl, ?_⟩)))
    have g2 := hst ⟨single b ob, c, []⟩ (fun h => .ok .normal .e h c) (by show (single b ob).get b = _; rw [get_single, if_pos rfl])
    have hex : execC (.wr b off l) self ⟨single b ob, c, []⟩ c (fun v h c => .ok .normal (boxV v) h c) = .ok .normal (boxV (.tup [])) ⟨(single b ob).set b (some ob'), c, logW b c []⟩ c := by
      show stN ⟨single b ob, c, []⟩ b off l (fun h => .ok .normal (boxV (.tup [])) h c) = _
      rw [hst ⟨single b ob, c, []⟩ _ (by show (single b ob).get b = _; rw [get_single, if_pos rfl])]
      rfl
    obtain ⟨v, h₁, c₁, g3, hrun⟩ := exec_ok S hnd hc hex
    have g3 : Out.ok .normal (boxV v) h₁ c₁ = _ := g3
    injection g3 with _ g4 g5 g6
    have g4 : v = .tup [] := congrArg rootV g4
    subst g4; subst g5; subst g6
    exact hrun
  | cx f =>
    refine .inr (.inr (.inr (.inr ?_)))
    have g : hideAl m rs h.t (fun t _ => f self ⟨t, c, []⟩ c fun v h' c' => .ok .ret (boxV v) h' c') = .ok ex ts1 h1 b := g
    rcases hideAl_eq m rs h.t with ⟨n, hbad⟩ | ⟨t', l, g1, _⟩
    · rw [hbad] at g; cases g
    · rw [g1] at g
      obtain ⟨v, h₁, c₁, g, hrun⟩ := hc self S _ _ _ _ _ _ _ g
      have g : Out.ok .ret (boxV v) h₁ c₁ = .ok ex ts1 h1 b := g
      cases g
      refine ⟨rfl, fun t'' l' hq => ?_⟩
      have : t'' = t' := by
        have := (hq fun t _ => .ok .normal .e ⟨t, 0, []⟩ 0).symm.trans (g1 _)
        injection this with _ _ h3 _
        injection h3
      subst this
      exact hrun
end
end Go.AE
