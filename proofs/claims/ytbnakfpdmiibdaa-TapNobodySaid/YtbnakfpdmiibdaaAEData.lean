import Derived.Test.YtbnakfpdmiibdaaAEDef
noncomputable section
namespace Go.AE

/-! ### tries -/
def P.num : P → Nat
  | .h => 0
  | .l p => 2 * p.num + 1
  | .r p => 2 * p.num + 2

theorem pathF_zero (k : Nat) : pathF 0 k = .h := rfl
theorem pathF_h (f : Nat) : pathF (f + 1) 0 = .h := rfl
theorem pathF_succ (f k : Nat) : pathF (f + 1) (k + 1) = if k % 2 = 0 then .l (pathF f (k / 2)) else .r (pathF f (k / 2)) := by
  show (Nat.rec (motive := fun _ => P) (P.l (pathF f (Nat.div k 2))) (fun _ _ => P.r (pathF f (Nat.div k 2))) (Nat.mod k 2) : P) = _
  have e : Nat.mod k 2 = k % 2 := rfl
  rw [e]
  rcases Nat.mod_two_eq_zero_or_one k with h | h <;> rw [h] <;> rfl

theorem num_pathF (f : Nat) : ∀ k, k < f → (pathF f k).num = k := by
  induction f with
  | zero => intro k h; omega
  | succ f ih =>
    intro k hk
    cases k with
    | zero => rfl
    | succ k =>
      rw [pathF_succ]
      have hd : k / 2 < f := by omega
      split
      · simp only [P.num, ih _ hd]; omega
      · simp only [P.num, ih _ hd]; omega

theorem pathOf_inj {a b : Nat} (h : pathOf a = pathOf b) : a = b := by
  have ha := num_pathF (a + 1) a (by omega)
  have hb := num_pathF (b + 1) b (by omega)
  have : (pathF (a + 1) a).num = (pathF (b + 1) b).num := congrArg P.num h
  omega

variable {α : Type}

theorem getP_e (p : P) : T.getP p (.e : T α) = none := by cases p <;> rfl

def T.setP (a : Option α) (p : P) (t : T α) : T α := T.insP a p t fun t => t

theorem insP_eq' (a : Option α) (p : P) : ∀ (R : Type) (t : T α) (K : T α → R), T.insP a p t K = K (T.setP a p t) := by
  induction p with
  | h => intro R t K; cases t <;> rfl
  | l p ih =>
    intro R t K
    cases t with
    | e =>
      show T.insP a p .e (fun l => K (.n l none .e)) = K (T.insP a p .e fun l => .n l none .e)
      rw [ih R, ih (T α)]
    | n l v r =>
      show T.insP a p l (fun l => K (.n l v r)) = K (T.insP a p l fun l => .n l v r)
      rw [ih R, ih (T α)]
  | r p ih =>
    intro R t K
    cases t with
    | e =>
      show T.insP a p .e (fun l => K (.n .e none l)) = K (T.insP a p .e fun l => .n .e none l)
      rw [ih R, ih (T α)]
    | n l v r =>
      show T.insP a p r (fun r => K (.n l v r)) = K (T.insP a p r fun r => .n l v r)
      rw [ih R, ih (T α)]

theorem insP_eq {R : Type} (a : Option α) (p : P) (t : T α) (K : T α → R) : T.insP a p t K = K (T.setP a p t) := insP_eq' a p R t K

theorem setP_l (a : Option α) (p : P) (t : T α) : T.setP a (.l p) t = match t with
    | .e => .n (T.setP a p .e) none .e
    | .n l v r => .n (T.setP a p l) v r := by
  cases t with
  | e => show T.insP a p .e (fun l => T.n l none .e) = _; rw [insP_eq]
  | n l v r => show T.insP a p l (fun l => T.n l v r) = _; rw [insP_eq]
theorem setP_r (a : Option α) (p : P) (t : T α) : T.setP a (.r p) t = match t with
    | .e => .n .e none (T.setP a p .e)
    | .n l v r => .n l v (T.setP a p r) := by
  cases t with
  | e => show T.insP a p .e (fun l => T.n .e none l) = _; rw [insP_eq]
  | n l v r => show T.insP a p r (fun r => T.n l v r) = _; rw [insP_eq]

theorem getP_setP_same (a : Option α) (p : P) : ∀ t : T α, T.getP p (T.setP a p t) = a := by
  induction p with
  | h => intro t; cases t <;> rfl
  | l p ih => intro t; rw [setP_l]; cases t <;> exact ih _
  | r p ih => intro t; rw [setP_r]; cases t <;> exact ih _

theorem getP_setP_ne (a : Option α) (p : P) : ∀ (q : P) (t : T α), p ≠ q → T.getP q (T.setP a p t) = T.getP q t := by
  induction p with
  | h =>
    intro q t hne
    cases q with
    | h => exact absurd rfl hne
    | l q => cases t with
      | e => exact getP_e q
      | n l v r => rfl
    | r q => cases t with
      | e => exact getP_e q
      | n l v r => rfl
  | l p ih =>
    intro q t hne
    rw [setP_l]
    cases q with
    | h => cases t <;> rfl
    | l q =>
      have hn : p ≠ q := fun h => hne (by rw [h])
      cases t with
      | e => exact (ih q .e hn).trans (getP_e q)
      | n l v r => exact ih q l hn
    | r q => cases t with
      | e => exact getP_e q
      | n l v r => rfl
  | r p ih =>
    intro q t hne
    rw [setP_r]
    cases q with
    | h => cases t <;> rfl
    | l q => cases t with
      | e => exact getP_e q
      | n l v r => rfl
    | r q =>
      have hn : p ≠ q := fun h => hne (by rw [h])
      cases t with
      | e => exact (ih q .e hn).trans (getP_e q)
      | n l v r => exact ih q r hn

def T.set (t : T α) (k : Nat) (a : Option α) : T α := T.setP a (pathOf k) t
theorem ins_eq {R : Type} (t : T α) (k : Nat) (a : Option α) (K : T α → R) : t.ins k a K = K (t.set k a) := insP_eq a _ t K
theorem get_e (k : Nat) : (.e : T α).get k = none := getP_e _
theorem get_set_same (t : T α) (k : Nat) (a : Option α) : (t.set k a).get k = a := getP_setP_same a _ t
theorem get_set_ne (t : T α) {k j : Nat} (a : Option α) (h : k ≠ j) : (t.set k a).get j = t.get j :=
  getP_setP_ne a _ _ t fun e => h (pathOf_inj e)
theorem get_set (t : T α) (k j : Nat) (a : Option α) : (t.set k a).get j = if k = j then a else t.get j := by
  by_cases h : k = j
  · subst h; rw [if_pos rfl, get_set_same]
  · rw [if_neg h, get_set_ne _ _ h]

def T.lay : List α → T α → Nat → T α
  | [], t, _ => t
  | a :: l, t, k => T.lay l (t.set k (some a)) (k + 1)
theorem fill_eq {R : Type} (l : List α) : ∀ (t : T α) (k : Nat) (K : T α → R), T.fill l t k K = K (T.lay l t k) := by
  induction l with
  | nil => intro t k K; rfl
  | cons a l ih =>
    intro t k K
    show t.ins k (some a) (fun t => T.fill l t (Nat.succ k) K) = _
    rw [ins_eq, ih]; rfl
theorem get_lay (l : List α) : ∀ (t : T α) (k j : Nat), (T.lay l t k).get j = if k ≤ j ∧ j < k + l.length then l[j - k]? else t.get j := by
  induction l with
  | nil => intro t k j; simp [T.lay]; intro h1 h2; omega
  | cons a l ih =>
    intro t k j
    simp only [T.lay, ih, List.length_cons]
    by_cases h : k + 1 ≤ j ∧ j < k + 1 + l.length
    · rw [if_pos h, if_pos (by omega)]
      have : j - k = (j - (k + 1)) + 1 := by omega
      rw [this, List.getElem?_cons_succ]
    · rw [if_neg h, get_set]
      by_cases e : k = j
      · subst e; rw [if_pos rfl, if_pos (by omega)]; simp
      · rw [if_neg e, if_neg (by omega)]
theorem get_ofList (l : List α) (j : Nat) : (T.ofList l).get j = l[j]? := by
  unfold T.ofList
  rw [fill_eq, get_lay]
  split
  · simp
  · rename_i h
    rw [get_e, List.getElem?_eq_none (by simp only [Nat.zero_le, true_and, Nat.zero_add] at h; omega)]

/-! ### lists -/
theorem lenL_eq (l : List α) : lenL l = l.length := by
  induction l with
  | nil => rfl
  | cons a l ih => show Nat.succ (lenL l) = _; rw [ih]; rfl
theorem appL_eq (l m : List α) : appL l m = l ++ m := by
  induction l with
  | nil => rfl
  | cons a l ih => show a :: appL l m = _; rw [ih]; rfl
theorem mapL_eq {β : Type} (f : α → β) (l : List α) : mapL f l = l.map f := by
  induction l with
  | nil => rfl
  | cons a l ih => show f a :: mapL f l = _; rw [ih]; rfl
theorem kdrop_eq (n : Nat) : ∀ l : List α, kdrop n l = l.drop n := by
  induction n with
  | zero => intro l; rfl
  | succ n ih => intro l; cases l with
    | nil => rfl
    | cons a l => exact ih l
theorem ktake_eq (n : Nat) : ∀ l : List α, ktake n l = l.take n := by
  induction n with
  | zero => intro l; rfl
  | succ n ih => intro l; cases l with
    | nil => rfl
    | cons a l => show a :: ktake n l = _; rw [ih]; rfl
theorem kidx_eq (n : Nat) : ∀ l : List α, kidx n l = l[n]? := by
  induction n with
  | zero => intro l; cases l <;> rfl
  | succ n ih => intro l; cases l with
    | nil => rfl
    | cons a l => exact ih l
theorem splice_eq (m : List α) (n : Nat) : ∀ l : List α, n ≤ l.length → splice m n l = l.take n ++ m ++ l.drop (n + m.length) := by
  induction n with
  | zero => intro l _; show appL m (kdrop (lenL m) l) = _; rw [appL_eq, kdrop_eq, lenL_eq]; simp
  | succ n ih =>
    intro l h
    cases l with
    | nil => simp at h
    | cons a l =>
      show a :: splice m n l = _
      rw [ih l (by simpa using h)]
      have e : n + 1 + m.length = (n + m.length) + 1 := by omega
      rw [e]; simp
theorem memN_iff (b : Nat) (l : List Nat) : memN b l = true ↔ b ∈ l := by
  induction l with
  | nil => simp [memN]
  | cons a l ih =>
    have e : memN b (a :: l) = (Bool.rec (motive := fun _ => Bool) (memN b l) true (Nat.beq a b) : Bool) := rfl
    rw [e]
    cases h : Nat.beq a b with
    | true => simp [Nat.eq_of_beq_eq_true h]
    | false =>
      have hn : a ≠ b := Nat.ne_of_beq_eq_false h
      simp only [List.mem_cons]
      rw [ih]
      constructor
      · exact Or.inr
      · rintro (h | h)
        · exact absurd h.symm hn
        · exact h
theorem allL_iff (f : α → Bool) (l : List α) : allL f l = true ↔ ∀ a ∈ l, f a = true := by
  induction l with
  | nil => simp [allL]
  | cons a l ih =>
    have e : allL f (a :: l) = (Bool.rec (motive := fun _ => Bool) false (allL f l) (f a) : Bool) := rfl
    rw [e]
    cases h : f a with
    | true => rw [show ((Bool.rec (motive := fun _ => Bool) false (allL f l) true : Bool)) = allL f l from rfl, ih]; simp [h]
    | false => simp [h]

/-! ### forcing -/
theorem forceN_eq {R : Type} (n : Nat) (K : Nat → R) : forceN n K = K n := by cases n <;> rfl
theorem forceI_eq {R : Type} (n : Int) (K : Int → R) : forceI n K = K n := by
  cases n with
  | ofNat m => show forceN m (fun m => K (.ofNat m)) = _; rw [forceN_eq]
  | negSucc m => show forceN m (fun m => K (.negSucc m)) = _; rw [forceN_eq]
theorem forceB_eq {R : Type} (b : Bool) (K : Bool → R) : forceB b K = K b := by cases b <;> rfl
theorem forceV_eq (v : AV) (K : AV → Out) : forceV v K = K v := by
  cases v <;> simp only [forceV, forceI_eq, forceB_eq, forceN_eq]
theorem forceL_eq {R : Type} (l : List Nat) (K : List Nat → R) : forceL l K = K l := by cases l <;> rfl
theorem guardB_ok {b : Bool} {n : Nat} {K : Out} {e : Ex} {ts : Tm} {h : Hs} {c : Nat} (g : guardB b n K = .ok e ts h c) : b = true ∧ K = .ok e ts h c := by
  cases b with
  | true => exact ⟨rfl, g⟩
  | false => cases g
end Go.AE
