import Derived.Test.YtbnakfpdmiibdaaAEDraw6
namespace Go.AE
section
variable {E : Env} {φ φ' φ₀ : Loc} {h h' h₁ h₀ h1 : Hs} {c c' c₁ c₀ b m i : Nat} {w w' : World} {ts ts' ts1 : Tm} {e ex : Ex} {rs : List Rc} {o : Oper} {a : Act} {ops : Array Oper} {N : Nat} {z z' : St} {x : Ev}

/-! ### the run of the region, in sequence -/
theorem evOpsD_ok (T : TabOk E) {self : Self} (S : SelfOk E self) {fin : List Nat → Tm → Hs → Nat → Out} (hd : ∀ o ∈ ops.toList, dstOk N o = true) : ∀ (l : List Oper) (i : Nat) (ms : List Nat) (z : St),
    ops.toList.drop i = l → SeqOk E N z → evOpsD E self ops.toList fin l i ms z.rs z.acc z.ts z.h z.c = .ok e ts' h₀ c₀ →
    ∃ (Z : Nat → St) (X : Nat → Ev), Z i = z ∧ (∀ k, i ≤ k → k ≤ i + l.length → SeqOk E N (Z k)) ∧
      fin (Z (i + l.length)).acc (Z (i + l.length)).ts (Z (i + l.length)).h (Z (i + l.length)).c = .ok e ts' h₀ c₀ ∧
      ∀ k, i ≤ k → k < i + l.length → ∃ m, ms[k - i]? = some m ∧ m < 2 ^ k ∧ StepF E ops N k m (Z k) (X k) (Z (k + 1)) ∧ Facts (Z k) (X k) (Z (k + 1))
  | [], i, ms, z, _, q, g => ⟨fun _ => z, fun _ => ⟨.any, .e, .e, []⟩, rfl, fun _ _ _ => q, g, fun k h1 h2 => by simp only [List.length_nil] at h2; omega⟩
  | o :: l, i, ms, z, hl, q, g => by
    have hi : ops[i]? = some o := by
      rw [← Array.getElem?_toList]
      have := congrArg (·[0]?) hl
      simpa [List.getElem?_drop] using this
    have hl' : ops.toList.drop (i + 1) = l := by
      have := congrArg (List.drop 1) hl
      simpa [List.drop_drop, Nat.add_comm] using this
    cases ms with
    | nil => cases g
    | cons m ms =>
      have g : guardB (Nat.blt m (2 ^ i)) 287 (wantedA o.guard ops.toList z.ts (evOneD E self o i m z.rs z.acc z.ts z.h z.c (evOpsD E self ops.toList fin l (i + 1) ms))) = .ok e ts' h₀ c₀ := g
      obtain ⟨hm, g⟩ := guardB_ok g
      have hm : m < 2 ^ i := Nat.blt_eq.mp hm
      have step : ∃ x z', StepF E ops N i m z x z' ∧ evOpsD E self ops.toList fin l (i + 1) ms z'.rs z'.acc z'.ts z'.h z'.c = .ok e ts' h₀ c₀ := by
        rcases wantedA_det o.guard ops.toList z.ts with ⟨r, hw⟩ | ⟨n, hw⟩
        · rw [hw] at g
          cases r with
          | true =>
            have g : uponD o.dst i m z.rs z.acc z.ts z.h z.c (evOpsD E self ops.toList fin l (i + 1) ms) (cmdOf o.op E z.ts fun cmd => told cmd self m z.rs z.h z.c) = .ok e ts' h₀ c₀ := g
            have wit : ∃ φ a, a.tmps.size = N ∧ Lk E ops o z.ts φ a := by
              obtain ⟨φ, w, a, hN, ht, _, _⟩ := q
              exact ⟨φ, a, hN, fun t _ => ht t⟩
            obtain ⟨x, z', g2, f⟩ := upon_ok T S wit hi hw g
            exact ⟨x, z', f, g2⟩
          | false =>
            have g : putA o.dst z.ts (.tup []) (fun ts => evOpsD E self ops.toList fin l (i + 1) ms z.rs z.acc ts z.h z.c) = .ok e ts' h₀ c₀ := g
            rw [putA_eq] at g
            refine ⟨⟨.tup [], .e, .e, []⟩, ⟨z.rs, z.acc, _, z.h, z.c⟩, ⟨o, hi, rfl, .none rfl rfl rfl rfl rfl rfl rfl, fun φ a hN hl φ₁ w b k cs rest _ hh _ => ?_⟩, g⟩
            exact ⟨φ₁, w, undef, Sim.refl hh, undef_VR .., fat_op_skip hi (wanted_is hw hl hN)⟩
        · rw [hw] at g; cases g
      obtain ⟨x, z', f, g⟩ := step
      obtain ⟨q', facts⟩ := seq_step q f hd
      obtain ⟨Z, X, h1, h2, h3, h4⟩ := evOpsD_ok T S hd l (i + 1) ms z' hl' q' g
      have hlen : i + (o :: l).length = i + 1 + l.length := by simp only [List.length_cons]; omega
      refine ⟨fun k => if k = i then z else Z k, fun k => if k = i then x else X k, if_pos rfl, fun k k1 k2 => ?_, ?_, fun k k1 k2 => ?_⟩
      · by_cases hk : k = i
        · subst hk; simp only [if_pos]; exact q
        · simp only [if_neg hk]; exact h2 k (by omega) (by omega)
      · rw [hlen]
        simp only [if_neg (show ¬ i + 1 + l.length = i by omega)]
        exact h3
      · by_cases hk : k = i
        · subst hk
          refine ⟨m, by simp, hm, ?_⟩
          simp only [if_pos, if_neg (show ¬ k + 1 = k by omega), h1]
          exact ⟨f, facts⟩
        · obtain ⟨m', q1, q2, q3, q4⟩ := h4 k (by omega) (by omega)
          refine ⟨m', ?_, q2, ?_⟩
          · rw [show k - i = (k - (i + 1)) + 1 by omega, List.getElem?_cons_succ]; exact q1
          · simp only [if_neg hk, if_neg (show ¬ k + 1 = i by omega)]
            exact ⟨q3, q4⟩

/-! ### what must come ahead -/
theorem predsGo_bit (acc : List Nat) (j : Nat) : ∀ l : List Edge, Nat.testBit (predsGo l acc) j = true ↔ ∃ e ∈ l, Region.binds .any e = true ∧ (j = e.on ∨ ∃ m, acc[e.on]? = some m ∧ Nat.testBit m j = true)
  | [] => by
    show Nat.testBit 0 j = true ↔ _
    simp
  | e :: l => by
    have ih := predsGo_bit acc j l
    show Nat.testBit (Bool.rec (motive := fun _ => Nat) (predsGo l acc) (Nat.lor (predsGo l acc) (Nat.lor (2 ^ e.on) (match kidx e.on acc with | some m => m | none => 0))) (Region.binds .any e)) j = true ↔ _
    cases hb : Region.binds .any e with
    | false =>
      show Nat.testBit (predsGo l acc) j = true ↔ _
      rw [ih]
      constructor
      · rintro ⟨e', h1, h2⟩; exact ⟨e', List.mem_cons_of_mem _ h1, h2⟩
      · rintro ⟨e', h1, h2, h3⟩
        rcases List.mem_cons.1 h1 with h | h
        · subst h; rw [hb] at h2; cases h2
        · exact ⟨e', h, h2, h3⟩
    | true =>
      show Nat.testBit ((predsGo l acc) ||| ((2 ^ e.on) ||| (match kidx e.on acc with | some m => m | none => 0))) j = true ↔ _
      rw [Nat.testBit_or, Nat.testBit_or, Bool.or_eq_true, Bool.or_eq_true, ih, kidx_eq, Nat.testBit_two_pow]
      constructor
      · rintro (⟨e', h1, h2⟩ | h | h)
        · exact ⟨e', List.mem_cons_of_mem _ h1, h2⟩
        · exact ⟨e, List.mem_cons_self .., hb, .inl (of_decide_eq_true h).symm⟩
        · cases hm : acc[e.on]? with
          | none => rw [hm] at h; simp at h
          | some m => rw [hm] at h; exact ⟨e, List.mem_cons_self .., hb, .inr ⟨m, hm, h⟩⟩
      · rintro ⟨e', h1, h2, h3⟩
        rcases List.mem_cons.1 h1 with h | h
        · subst h
          rcases h3 with h3 | ⟨m, hm, h3⟩
          · exact .inr (.inl (by simpa using h3.symm))
          · exact .inr (.inr (by rw [hm]; exact h3))
        · exact .inl ⟨e', h, h2, h3⟩
theorem preds_ok : ∀ (l : List Oper) (acc : List Nat), ∃ r, preds l acc = acc ++ r ∧ r.length = l.length ∧ ∀ k o, l[k]? = some o → r[k]? = some (predsGo o.after.toList (acc ++ r.take k))
  | [], acc => ⟨[], by simp [preds], rfl, fun k o h => by simp at h⟩
  | o :: l, acc => by
    obtain ⟨r, h1, h2, h3⟩ := preds_ok l (acc ++ [predsGo o.after.toList acc])
    refine ⟨predsGo o.after.toList acc :: r, ?_, by simp [h2], fun k o' hk => ?_⟩
    · show preds l (appL acc [predsGo o.after.toList acc]) = _
      rw [appL_eq, h1]; simp
    · cases k with
      | zero => simp at hk; subst hk; simp
      | succ k =>
        simp at hk
        have := h3 k o' hk
        simp only [List.getElem?_cons_succ, List.take_succ_cons]
        rw [this]; simp
end
end Go.AE
