import Derived.Test.YtbnakfpdmiibdaaAEUpd
namespace Go.AE

theorem one_eq (v : Value) : v.oneCell' = one v := by cases v <;> rfl

/-! ### a row in the world -/
section
variable {P : Program} {w : World} {B : Nat} {C : Array Value} {e : TypeId} {fr : Nat × Nat}

theorem cell_row (h : w.heap[B]? = some (.cells C e fr)) (o : Nat) : w.cell? ⟨B, o, none⟩ = C[o]? := by
  simp [World.cell?, h]
theorem frozen_row (h : w.heap[B]? = some (.cells C e fr)) (hf : Nofz fr C.size) {o : Nat} (ho : o < C.size) : w.frozen? ⟨B, o, none⟩ = false := by
  simp only [World.frozen?, h]
  exact hf o ho
theorem add_addr (B o n : Nat) : (⟨B, o, none⟩ : Addr).add n = ⟨B, o + n, none⟩ := by
  unfold Addr.add; split
  · rename_i h; subst h; rfl
  · rfl

theorem run_load_row (h : w.heap[B]? = some (.cells C e fr)) {o : Nat} {v : Value} (hv : C[o]? = some v) : (load ⟨B, o, none⟩).run P w = .ok v w := by
  rw [run_load, cell_row h, hv]

theorem run_loadCellsFrom (h : w.heap[B]? = some (.cells C e fr)) (o : Nat) : ∀ (n i : Nat) (acc : Array Value), o + i + n ≤ C.size →
    (loadCellsFrom ⟨B, o, none⟩ i n acc).run P w = .ok (acc ++ C.extract (o + i) (o + i + n)) w
  | 0, i, acc, _ => by simp [loadCellsFrom]; omega
  | n + 1, i, acc, hn => by
    have hv : C[o + i]? = some C[o + i] := Array.getElem?_eq_getElem (by omega)
    unfold loadCellsFrom
    simp only [Sem.run_bind, add_addr]
    rw [run_load_row h hv]
    simp only [Result.andThen_ok]
    rw [run_loadCellsFrom h o n (i + 1) _ (by omega)]
    congr 1
    apply Array.ext'
    simp only [Array.toList_append, Array.toList_push, Array.toList_extract, List.append_assoc, List.extract_eq_take_drop]
    congr 1
    have e1 : o + (i + 1) + n - (o + (i + 1)) = n := by omega
    have e2 : o + i + (n + 1) - (o + i) = n + 1 := by omega
    rw [e1, e2]
    have e3 : C.toList.drop (o + i) = C[o + i] :: C.toList.drop (o + (i + 1)) := by
      rw [List.drop_eq_getElem_cons (by simp; omega)]; simp; rfl
    rw [e3]; rfl

theorem run_loadCells (h : w.heap[B]? = some (.cells C e fr)) {o n : Nat} (hn : o + n ≤ C.size) : (loadCells ⟨B, o, none⟩ n).run P w = .ok (C.extract o (o + n)) w := by
  unfold loadCells
  rw [run_loadCellsFrom h o n 0 #[] (by omega)]
  simp

def layA (C : Array Value) (o : Nat) : List Value → Array Value
  | [] => C
  | v :: l => layA (C.setIfInBounds o v) (o + 1) l
theorem size_layA (l : List Value) : ∀ (C : Array Value) (o : Nat), (layA C o l).size = C.size := by
  induction l with
  | nil => intro C o; rfl
  | cons v l ih => intro C o; simp [layA, ih]
theorem get_layA (l : List Value) : ∀ (C : Array Value) (o k : Nat), o + l.length ≤ C.size → (layA C o l)[k]? = if o ≤ k ∧ k < o + l.length then l[k - o]? else C[k]? := by
  induction l with
  | nil => intro C o k _; simp [layA]; intro h1 h2; omega
  | cons v l ih =>
    intro C o k hn
    simp only [layA, List.length_cons] at *
    rw [ih _ _ _ (by simp; omega)]
    by_cases h : o + 1 ≤ k ∧ k < o + 1 + l.length
    · rw [if_pos h, if_pos (by omega)]
      have : k - o = (k - (o + 1)) + 1 := by omega
      rw [this, List.getElem?_cons_succ]
    · rw [if_neg h, Array.getElem?_setIfInBounds]
      by_cases e : o = k
      · subst e; rw [if_pos rfl, if_pos (by omega), if_pos (by omega)]; simp
      · rw [if_neg e, if_neg (by omega)]

/-- the world in which a row is another one -/
def World.rowTo (w : World) (B : Nat) (C : Array Value) : World :=
  { w with heap := w.heap.modify B fun
      | .cells _ e fr => .cells C e fr
      | o => o }
theorem rowTo_same (h : w.heap[B]? = some (.cells C e fr)) (C' : Array Value) : (World.rowTo w B C').heap[B]? = some (.cells C' e fr) := by
  simp only [World.rowTo, Array.getElem?_modify, ↓reduceIte, h, Option.map_some]
theorem rowTo_turned (C' : Array Value) : Turned w (World.rowTo w B C') B :=
  ⟨by simp [World.rowTo], fun B' hB => by simp [World.rowTo, Array.getElem?_modify, hB.symm], rfl, rfl, rfl⟩
theorem setCell_rowTo (h : w.heap[B]? = some (.cells C e fr)) (o : Nat) (v : Value) : w.setCell ⟨B, o, none⟩ v = World.rowTo w B (C.setIfInBounds o v) := by
  have hB := (Array.getElem?_eq_some_iff.1 h).1
  have e : w.heap[B] = .cells C e fr := (Array.getElem?_eq_some_iff.1 h).2
  unfold World.setCell World.rowTo
  congr 1
  apply Array.ext
  · simp
  · intro i h1 h2
    simp only [Array.getElem_modify]
    split
    · rename_i hi; subst hi; rw [e]; simp
    · rfl
theorem rowTo_rowTo (h : w.heap[B]? = some (.cells C e fr)) (C' C'' : Array Value) : World.rowTo (World.rowTo w B C') B C'' = World.rowTo w B C'' := by
  have hB := (Array.getElem?_eq_some_iff.1 h).1
  have e : w.heap[B] = .cells C e fr := (Array.getElem?_eq_some_iff.1 h).2
  unfold World.rowTo
  congr 1
  apply Array.ext
  · simp
  · intro i h1 h2
    simp only [Array.getElem_modify]
    split
    · rename_i hi; subst hi; rw [e]
    · rfl
theorem rowTo_self (h : w.heap[B]? = some (.cells C e fr)) : World.rowTo w B C = w := by
  have hB := (Array.getElem?_eq_some_iff.1 h).1
  have e : w.heap[B] = .cells C e fr := (Array.getElem?_eq_some_iff.1 h).2
  have : w.heap.modify B (fun | .cells _ e fr => .cells C e fr | o => o) = w.heap := by
    apply Array.ext
    · simp
    · intro i h1 h2
      simp only [Array.getElem_modify]
      split
      · rename_i hi; subst hi; rw [e]
      · rfl
  unfold World.rowTo; rw [this]

theorem run_storeCells (o : Nat) : ∀ (l : List Value) (i : Nat) (w : World) (C : Array Value), w.heap[B]? = some (.cells C e fr) → Nofz fr C.size → o + i + l.length ≤ C.size → (∀ v ∈ l, one v = true) →
    (storeCells ⟨B, o, none⟩ l i).run P w = .ok () (World.rowTo w B (layA C (o + i) l))
  | [], i, w, C, h, _, _, _ => by simp [storeCells, layA, rowTo_self h]
  | v :: l, i, w, C, h, hf, hn, h1 => by
    simp only [List.length_cons] at hn
    unfold storeCells
    simp only [Sem.run_bind, add_addr]
    rw [run_store P w _ v _ (by rw [one_eq]; exact h1 v (List.mem_cons_self ..)), cell_row h, Array.getElem?_eq_getElem (show o + i < C.size by omega)]
    simp only [frozen_row h hf (show o + i < C.size by omega), if_false, Bool.false_eq_true, Result.andThen_ok]
    rw [setCell_rowTo h]
    rw [run_storeCells o l (i + 1) _ _ (rowTo_same h _) (by simpa using hf) (by simp; omega) (fun v hv => h1 v (List.mem_cons_of_mem _ hv))]
    rw [rowTo_rowTo h]
    rfl
end
end Go.AE
