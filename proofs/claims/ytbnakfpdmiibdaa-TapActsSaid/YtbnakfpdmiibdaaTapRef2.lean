/- TapActs, the reference: Put. -/
import Derived.Test.YtbnakfpdmiibdaaTapRef1
import Derived.Deep.AppendLies
import Derived.Deep.RegionHeld3
namespace Go.Proofs.Ytbnakfpdmiibdaa
open Go.Conc Go.RowKit
set_option maxRecDepth 100000
/-- where a slice of numbers lies, from block B1 on -/
def SlAt (B1 : Nat) (w : World) (v : Value) (xs : List Value) : Prop :=
  (∀ u ∈ xs, u.oneCell' = true) ∧ ((v = .slice none 0 0 ∧ xs = []) ∨ ∃ b off cap, v = .slice (some ⟨b, off, none⟩) xs.length cap ∧ B1 ≤ b ∧ ∀ j u, xs[j]? = some u → w.cell? ⟨b, off + j, none⟩ = some u)
theorem SlAt.keep {B1 : Nat} {w w' : World} {v : Value} {xs : List Value} (h : SlAt B1 w v xs) (hb : ∀ o, B1 ≤ o → o < w.heap.size → w'.heap[o]? = w.heap[o]?) : SlAt B1 w' v xs := by
  obtain ⟨h1, h2 | ⟨b, off, cap, h2, hB, h3⟩⟩ := h
  · exact ⟨h1, .inl h2⟩
  · refine ⟨h1, .inr ⟨b, off, cap, h2, hB, fun j u hu => ?_⟩⟩
    have h4 := h3 j u hu
    exact (World.cell?_of_block (w := w) (hb b hB (cell_ltA h4))).trans h4
theorem SlAt.below {B1 : Nat} {w w' : World} {v : Value} {xs : List Value} (h : SlAt B1 w v xs) (hb : Below w.heap.size w w') : SlAt B1 w' v xs :=
  h.keep fun o _ ho => hb.block o ho
theorem SlAt.form {B1 : Nat} {w : World} {v : Value} {xs : List Value} (h : SlAt B1 w v xs) : ∃ a cap, v = .slice a xs.length cap := by
  obtain ⟨_, ⟨rfl, rfl⟩ | ⟨b, off, cap, rfl, _⟩⟩ := h
  · exact ⟨_, _, rfl⟩
  · exact ⟨_, _, rfl⟩
theorem below_drewN {B : Nat} {a w : World} (h : Below B a w) (n : Nat) : Below B a (w.drewN n) := h.trans ⟨rfl, rfl, rfl, Nat.le_refl _, fun _ _ => rfl⟩
theorem Try.info3 : (Try.prog.info? 3).map (fun i => (i.zero, i.size, i.bytes)) = some (some (.int .i64 0), 1, 8) := by kernel_rfl
theorem addr_add (b off j : Nat) : (⟨b, off, none⟩ : Addr).add j = ⟨b, off + j, none⟩ := by
  unfold Addr.add; split
  · next h => subst h; rfl
  · rfl

/-- append onto one's own row, of numbers that lie wherever: at an operation -/
theorem wp_app {P : Program} (w : World) {o : Oper} {a : Act} {K : Act → World → Prop} {Q : Exit → Act → World → Prop} (s x : Operand) (t : TypeId)
    (ho : o.op = .call { callee := .builtin .append, args := #[s, x], argTypes := #[t, t] })
    (base : Nat) (e : TypeId) (i : TypeInfo) (z : Value) (bytes : Nat) (ht : P.underlying t = some (.slice e)) (hi : P.info? e = some i) (hz : i.zero = some z)
    (hsize : i.size = 1) (hby : i.bytes = bytes) (hzs : z.cells.size = 1)
    (gv n cv : Nat) (xs : List Value) (hs : a.eval s = .slice (some ⟨gv, 0, none⟩) n cv) (hown : w.ownsRow base e 1 (.slice (some ⟨gv, 0, none⟩) n cv) n xs)
    (v : Value) (ys : List Value) (hx : a.eval x = v) {B1 : Nat} (hsl : SlAt B1 w v ys) (h63 : n + ys.length ≤ maxLen) (hbytes : (n + ys.length) * bytes ≤ 140737488355328) (hbase : base ≤ w.heap.size)
    (h : ∀ g cap w', w'.ownsRow base e 1 (.slice (some ⟨g, 0, none⟩) (n + ys.length) cap) (n + ys.length) (xs ++ ys) → w.grownBy w' (some gv) → K (a.put o.dst (.slice (some ⟨g, 0, none⟩) (n + ys.length) cap)) w') : o.wp P a w K Q := by
  obtain ⟨h1, ⟨rfl, rfl⟩ | ⟨b, off, cap, rfl, _, h3⟩⟩ := hsl
  · have hrun := run_append_owned_none (P := P) (w := w) base t o.type e i 1 ht hi _ n xs hown
    unfold Oper.wp
    simp [execOp, ho, resolve, invoke, builtin, hs, hx, hrun, Result.andThen]
    have := h gv cv w (by simpa using hown) ⟨rfl, rfl, rfl, Nat.le_refl _, fun _ _ _ => rfl⟩
    simp at this
    exact this
  · refine wp_append_own w s x t ho base e i z 1 bytes ht hi hz hsize hby hzs (by omega) _ n xs hs hown ⟨b, off, none⟩ ys.length cap ys hx (by omega) (fun j u hu => by rw [addr_add]; exact h3 j u hu) h1 h63 hbytes hbase fun v' w' h2 h4 h5 => ?_
    obtain ⟨h2a, ⟨h2b, _⟩ | ⟨g, cap', cur, rfl, h2c⟩⟩ := h2
    · have := (h5.1 h2b).1; cases this
    · exact h g cap' w' ⟨h2a, .inr ⟨g, cap', cur, rfl, h2c⟩⟩ h4
theorem step_app {P : Program} (w : World) {ops : Array Oper} {o : Oper} {a : Act} {K : Act → World → Prop} {Q : Exit → Act → World → Prop} {E : Prop} (hgd : o.guard = none) (s x : Operand) (t : TypeId)
    (ho : o.op = .call { callee := .builtin .append, args := #[s, x], argTypes := #[t, t] })
    (base : Nat) (e : TypeId) (i : TypeInfo) (z : Value) (bytes : Nat) (ht : P.underlying t = some (.slice e)) (hi : P.info? e = some i) (hz : i.zero = some z)
    (hsize : i.size = 1) (hby : i.bytes = bytes) (hzs : z.cells.size = 1)
    (gv n cv : Nat) (xs : List Value) (hs : a.eval s = .slice (some ⟨gv, 0, none⟩) n cv) (hown : w.ownsRow base e 1 (.slice (some ⟨gv, 0, none⟩) n cv) n xs)
    (v : Value) (ys : List Value) (hx : a.eval x = v) {B1 : Nat} (hsl : SlAt B1 w v ys) (h63 : n + ys.length ≤ maxLen) (hbytes : (n + ys.length) * bytes ≤ 140737488355328) (hbase : base ≤ w.heap.size)
    (h : ∀ g cap w', w'.ownsRow base e 1 (.slice (some ⟨g, 0, none⟩) (n + ys.length) cap) (n + ys.length) (xs ++ ys) → w.grownBy w' (some gv) → K (a.put o.dst (.slice (some ⟨g, 0, none⟩) (n + ys.length) cap)) w') :
    if Region.wanted o (yielded ops a.tmps) = true then Oper.wp P o a w K Q else E := by
  have hw : Region.wanted o (yielded ops a.tmps) = true := by simp [Region.wanted, hgd]
  rw [if_pos hw]
  exact wp_app w s x t ho base e i z bytes ht hi hz hsize hby hzs gv n cv xs hs hown v ys hx hsl h63 hbytes hbase h
theorem step_app0 {P : Program} (w : World) {ops : Array Oper} {o : Oper} {a : Act} {K : Act → World → Prop} {Q : Exit → Act → World → Prop} {E : Prop} (hgd : o.guard = none) (s x : Operand) (t : TypeId)
    (ho : o.op = .call { callee := .builtin .append, args := #[s, x], argTypes := #[t, t] })
    (base : Nat) (e : TypeId) (i : TypeInfo) (z : Value) (bytes : Nat) (ht : P.underlying t = some (.slice e)) (hi : P.info? e = some i) (hz : i.zero = some z)
    (hsize : i.size = 1) (hby : i.bytes = bytes) (hzs : z.cells.size = 1)
    (gv cv : Nat) (hs : a.eval s = .slice (some ⟨gv, 0, none⟩) 0 cv) (hown : w.ownsRow base e 1 (.slice (some ⟨gv, 0, none⟩) 0 cv) 0 [])
    (v : Value) (ys : List Value) (hx : a.eval x = v) {B1 : Nat} (hsl : SlAt B1 w v ys) (h63 : ys.length ≤ maxLen) (hbytes : ys.length * bytes ≤ 140737488355328) (hbase : base ≤ w.heap.size)
    (h : ∀ g cap w', w'.ownsRow base e 1 (.slice (some ⟨g, 0, none⟩) ys.length cap) ys.length (ys) → w.grownBy w' (some gv) → K (a.put o.dst (.slice (some ⟨g, 0, none⟩) ys.length cap)) w') :
    if Region.wanted o (yielded ops a.tmps) = true then Oper.wp P o a w K Q else E := by
  refine step_app w hgd s x t ho base e i z bytes ht hi hz hsize hby hzs gv 0 cv [] hs hown v ys hx hsl (by omega) (by simpa using hbytes) hbase fun g cap w' h1 h2 => ?_
  simp only [Nat.zero_add, List.nil_append] at h1 ⊢
  exact h g cap w' h1 h2
theorem step_app1 {P : Program} (w : World) {ops : Array Oper} {o : Oper} {a : Act} {K : Act → World → Prop} {Q : Exit → Act → World → Prop} {E : Prop} (hgd : o.guard = none) (s x : Operand) (t : TypeId)
    (ho : o.op = .call { callee := .builtin .append, args := #[s, x], argTypes := #[t, t] })
    (base : Nat) (e : TypeId) (i : TypeInfo) (z : Value) (bytes : Nat) (ht : P.underlying t = some (.slice e)) (hi : P.info? e = some i) (hz : i.zero = some z)
    (hsize : i.size = 1) (hby : i.bytes = bytes) (hzs : z.cells.size = 1)
    (gv n cv : Nat) (xs : List Value) (hs : a.eval s = .slice (some ⟨gv, 0, none⟩) n cv) (hown : w.ownsRow base e 1 (.slice (some ⟨gv, 0, none⟩) n cv) n xs)
    (v : Value) (u : Value) (hx : a.eval x = v) {B1 : Nat} (hsl : SlAt B1 w v [u]) (h63 : n + 1 ≤ maxLen) (hbytes : (n + 1) * bytes ≤ 140737488355328) (hbase : base ≤ w.heap.size)
    (h : ∀ g cap w', w'.ownsRow base e 1 (.slice (some ⟨g, 0, none⟩) (n + 1) cap) (n + 1) (xs ++ [u]) → w.grownBy w' (some gv) → K (a.put o.dst (.slice (some ⟨g, 0, none⟩) (n + 1) cap)) w') :
    if Region.wanted o (yielded ops a.tmps) = true then Oper.wp P o a w K Q else E :=
  step_app w hgd s x t ho base e i z bytes ht hi hz hsize hby hzs gv n cv xs hs hown v [u] hx hsl h63 hbytes hbase h
section
variable {P : Program}
theorem res_cell2 {fn : Func} {p u : Tmp} {ty : TypeId} (h : fn.results = #[.cell p ty, .tmp u]) (tmps : Array Value) (w : World) (g : Nat) (t : TypeId) (cs : Array Value) (fr : Nat × Nat) (d : TypeDesc)
    (hp : tmps.getD p undef = .pointer (some ⟨g, 0, none⟩)) (hg : w.heap[g]? = some (.cells cs t fr))
    (hu : P.underlying ty = some d) (hd : (match d with | .struct _ | .array _ _ => true | _ => false) = true) (hi : (P.info? ty).map (·.size) = some cs.size) :
    (results fn tmps).run P w = .ok (.tuple #[.agg cs, tmps.getD u undef]) w := by
  have hp' : tmps[p]?.getD undef = .pointer (some ⟨g, 0, none⟩) := by simpa using hp
  simp only [results, h]
  simp [Result.andThen, hp', asAddr, run_loadVar_row w g t ty cs fr d hg hu hd hi]
theorem res_cell3 {fn : Func} {p u v : Tmp} {ty : TypeId} (h : fn.results = #[.cell p ty, .tmp u, .tmp v]) (tmps : Array Value) (w : World) (g : Nat) (t : TypeId) (cs : Array Value) (fr : Nat × Nat) (d : TypeDesc)
    (hp : tmps.getD p undef = .pointer (some ⟨g, 0, none⟩)) (hg : w.heap[g]? = some (.cells cs t fr))
    (hu : P.underlying ty = some d) (hd : (match d with | .struct _ | .array _ _ => true | _ => false) = true) (hi : (P.info? ty).map (·.size) = some cs.size) :
    (results fn tmps).run P w = .ok (.tuple #[.agg cs, tmps.getD u undef, tmps.getD v undef]) w := by
  have hp' : tmps[p]?.getD undef = .pointer (some ⟨g, 0, none⟩) := by simpa using hp
  simp only [results, h]
  simp [Result.andThen, hp', asAddr, run_loadVar_row w g t ty cs fr d hg hu hd hi]
theorem res_cell4 {fn : Func} {p u v x : Tmp} {ty : TypeId} (h : fn.results = #[.cell p ty, .tmp u, .tmp v, .tmp x]) (tmps : Array Value) (w : World) (g : Nat) (t : TypeId) (cs : Array Value) (fr : Nat × Nat) (d : TypeDesc)
    (hp : tmps.getD p undef = .pointer (some ⟨g, 0, none⟩)) (hg : w.heap[g]? = some (.cells cs t fr))
    (hu : P.underlying ty = some d) (hd : (match d with | .struct _ | .array _ _ => true | _ => false) = true) (hi : (P.info? ty).map (·.size) = some cs.size) :
    (results fn tmps).run P w = .ok (.tuple #[.agg cs, tmps.getD u undef, tmps.getD v undef, tmps.getD x undef]) w := by
  have hp' : tmps[p]?.getD undef = .pointer (some ⟨g, 0, none⟩) := by simpa using hp
  simp only [results, h]
  simp [Result.andThen, hp', asAddr, run_loadVar_row w g t ty cs fr d hg hu hd hi]
end
/-- the second of two new blocks -/
theorem alloc2_at (w : World) (A B : Obj) : ((w.alloc A).alloc B).heap[w.heap.size + 1]? = some B := heap_alloc2_new w A B
theorem below_alloc2 (w : World) (A B : Obj) : Below w.heap.size w ((w.alloc A).alloc B) := ((Below.refl _ _).alloc (Nat.le_refl _) _).alloc (by simp) _

theorem refput_bad (rb k cp : Nat) (room turn p n : Int) (w : World) (hbad : p < 0 ∨ (k : Int) ≤ p) :
    Calls Try.prog 13 #[.agg #[.slice (some ⟨rb, 0, none⟩) k cp, .int .i64 room, .int .i64 turn], .int .i64 p, .int .i64 n] w fun e w' =>
      e = .returned (.tuple #[.agg #[.slice (some ⟨rb, 0, none⟩) k cp, .int .i64 room, .int .i64 turn], .int .i64 1]) ∧ Below w.heap.size w w' := by
  go_enter Try.func13, Try.ntmps13
  by_cases h1 : p < 0
  · go_wp2_with fail
    exact bodyPost_ret (res_cell2 rfl _ _ _ 40 _ (0, 0) _ rfl (alloc2_at _ _ _) Try.underlying40 rfl info40) rfl ⟨rfl, below_alloc2 _ _ _⟩
  · have h2 : p ≥ k := by omega
    go_wp2_with fail
    exact bodyPost_ret (res_cell2 rfl _ _ _ 40 _ (0, 0) _ rfl (alloc2_at _ _ _) Try.underlying40 rfl info40) rfl ⟨rfl, below_alloc2 _ _ _⟩
theorem refput_full (rb k cp room p : Nat) (turn n : Int) (sa : Option Addr) (sc : Nat) (w : World) (hp : p < k) (hc : w.cell? ⟨rb, p, none⟩ = some (.slice sa room sc)) :
    Calls Try.prog 13 #[.agg #[.slice (some ⟨rb, 0, none⟩) k cp, .int .i64 room, .int .i64 turn], .int .i64 p, .int .i64 n] w fun e w' =>
      e = .returned (.tuple #[.agg #[.slice (some ⟨rb, 0, none⟩) k cp, .int .i64 room, .int .i64 turn], .int .i64 6]) ∧ Below w.heap.size w w' := by
  have hl := cell_ltA hc
  go_enter Try.func13, Try.ntmps13
  have d1 : decide ((p : Int) < 0) = false := by simp
  have d2 : decide ((p : Int) ≥ k) = false := by simp; omega
  go_wp2_with fail
  have c0 := (below_alloc2 w (Obj.cells #[.slice (some ⟨rb, 0, none⟩) k cp, .int .i64 room, .int .i64 turn] 40) (Obj.cells #[.slice none 0 0, .int .i64 0, .int .i64 0] 40)).cell (p := ⟨rb, p, none⟩) hl
  rw [hc] at c0
  go_quiet (fail)
  go_wp2_with fail
  refine bodyPost_ret (res_cell2 rfl _ _ _ 40 _ (0, 0) _ rfl (put3 (x0 := .slice none 0 0) (x1 := .int .i64 0) (x2 := .int .i64 0) ?_ _ _ _) Try.underlying40 rfl info40) rfl ⟨rfl, ?_⟩
  · exact alloc2_at _ _ _
  · exact (((below_drewN (below_alloc2 w _ _) nq).setCell (p := ⟨w.heap.size + 1, 0, none⟩) (by show w.heap.size ≤ w.heap.size + 1; omega) _).setCell (p := ⟨w.heap.size + 1, 1, none⟩) (by show w.heap.size ≤ w.heap.size + 1; omega) _).setCell (p := ⟨w.heap.size + 1, 2, none⟩) (by show w.heap.size ≤ w.heap.size + 1; omega) _
/-- what a drawn region of a function with a struct's cell as its result may look at: the blocks below n0 + 1 stand, the result's cells are there -/
def Rg (n0 : Nat) (wB w' : World) : Prop := Below (n0 + 1) wB w' ∧ n0 + 2 ≤ w'.heap.size ∧ ∃ c0 c1 c2, w'.heap[n0 + 1]? = some (.cells #[c0, c1, c2] 40 (0, 0))
theorem Rg.cell {n0 : Nat} {wB w' : World} (h : Rg n0 wB w') {a : Addr} {v : Value} (hc : wB.cell? a = some v) (ha : a.block < n0 + 1) : w'.cell? a = some v := (h.1.cell ha).trans hc
theorem Rg.drew {n0 : Nat} {wB x : World} (h : Rg n0 wB x) : Rg n0 wB x.drew := ⟨h.1.drew, h.2.1, h.2.2⟩
theorem Rg.alloc {n0 : Nat} {wB x : World} (h : Rg n0 wB x) (o : Obj) : Rg n0 wB (x.alloc o) := by
  obtain ⟨h1, h2, c0, c1, c2, h3⟩ := h
  exact ⟨h1.alloc (by omega) _, Nat.le_trans h2 (by simp), c0, c1, c2, by rw [Below.heap_alloc _ _ _ (by omega)]; exact h3⟩
theorem Rg.grown {n0 : Nat} {wB x y : World} (h : Rg n0 wB x) {g : Nat} (hg : x.grownBy y (some g)) (hr : n0 + 2 ≤ g) : Rg n0 wB y := by
  obtain ⟨h1, h2, c0, c1, c2, h3⟩ := h
  refine ⟨h1.grown hg (by omega) (fun k hk => by cases hk; omega), Nat.le_trans h2 hg.size, c0, c1, c2, ?_⟩
  rw [hg.block _ (by omega) (by intro e; cases e; omega)]; exact h3
theorem Rg.called {n0 : Nat} {wB x y : World} (h : Rg n0 wB x) (hb : Below x.heap.size x y) : Rg n0 wB y := by
  obtain ⟨h1, h2, c0, c1, c2, h3⟩ := h
  exact ⟨h1.trans (hb.mono (by omega)), Nat.le_trans h2 hb.size, c0, c1, c2, by rw [hb.block _ (by omega)]; exact h3⟩
theorem Rg.put {n0 : Nat} {wB x : World} (h : Rg n0 wB x) (a0 a1 a2 : Value) : Rg n0 wB (((x.setCell ⟨n0 + 1, 0, none⟩ a0).setCell ⟨n0 + 1, 1, none⟩ a1).setCell ⟨n0 + 1, 2, none⟩ a2) := by
  obtain ⟨h1, h2, c0, c1, c2, h3⟩ := h
  exact ⟨((h1.setCell (p := ⟨n0 + 1, 0, none⟩) (Nat.le_refl _) _).setCell (p := ⟨n0 + 1, 1, none⟩) (Nat.le_refl _) _).setCell (p := ⟨n0 + 1, 2, none⟩) (Nat.le_refl _) _, by simpa [World.setCell] using h2, a0, a1, a2, put3 h3 _ _ _⟩
theorem Rg.spots {n0 : Nat} {wB x : World} (h : Rg n0 wB x) : ∃ c0 c1 c2, x.cell? ⟨n0 + 1, 0, none⟩ = some c0 ∧ x.cell? ⟨n0 + 1, 1, none⟩ = some c1 ∧ x.cell? ⟨n0 + 1, 2, none⟩ = some c2 ∧ ∀ j, x.frozen? ⟨n0 + 1, j, none⟩ = false := by
  obtain ⟨_, _, c0, c1, c2, h3⟩ := h
  exact ⟨c0, c1, c2, by simp [World.cell?, h3], by simp [World.cell?, h3], by simp [World.cell?, h3], fun j => frozen_of_row x _ j _ _ h3⟩
theorem own_fresh {w : World} {base e g : Nat} (h : w.heap[g]? = some (.cells #[] e (0, 0))) (hb : base ≤ g) : w.ownsRow base e 1 (.slice (some ⟨g, 0, none⟩) 0 0) 0 [] :=
  ⟨rfl, .inr ⟨g, 0, #[], rfl, hb, h, Nat.le_refl _, Nat.zero_le _, rfl, rfl⟩⟩
theorem sl_one {w : World} {g : Nat} {n : Int} (h : w.cell? ⟨g, 0, none⟩ = some (.int .i64 n)) (c : Nat) : SlAt 0 w (.slice (some ⟨g, 0, none⟩) 1 c) [.int .i64 n] := by
  refine ⟨fun u hu => ?_, .inr ⟨g, 0, c, rfl, Nat.zero_le _, fun j u hj => ?_⟩⟩
  · simp at hu; subst hu; rfl
  · match j, hj with
    | 0, hj => simp at hj; subst hj; simpa using h
theorem cell_heap {w : World} {g : Nat} {x : Value} {t : TypeId} {fr : Nat × Nat} (h : w.heap[g]? = some (.cells #[x] t fr)) : w.cell? ⟨g, 0, none⟩ = some x := by simp [World.cell?, h]
theorem own_put3 {w : World} {base b e size n : Nat} {v : Value} {xs : List Value} (h : w.ownsRow base e size v n xs) (hb : b < base) (a0 a1 a2 : Value) :
    (((w.setCell ⟨b, 0, none⟩ a0).setCell ⟨b, 1, none⟩ a1).setCell ⟨b, 2, none⟩ a2).ownsRow base e size v n xs :=
  ownsRow_setCell_below (ownsRow_setCell_below (ownsRow_setCell_below h (a := ⟨b, 0, none⟩) hb _) (a := ⟨b, 1, none⟩) hb _) (a := ⟨b, 2, none⟩) hb _
theorem rgOf {a : Nat} {b c : World} {d : Prop} (h : Rg a b c ∧ d) : Rg a b c := h.1
/-- the cells that the region reads stand -/
def Cs (x : World) (a0 a1 a2 a3 : Addr) (v0 v1 v2 v3 : Value) : Prop := x.cell? a0 = some v0 ∧ x.cell? a1 = some v1 ∧ x.cell? a2 = some v2 ∧ x.cell? a3 = some v3
theorem keepS {n0 : Nat} {wB y : World} {a0 a1 a2 a3 : Addr} {v0 v1 v2 v3 : Value} (h0 : Cs wB a0 a1 a2 a3 v0 v1 v2 v3) (l0 : a0.block < n0 + 1 ∧ a1.block < n0 + 1 ∧ a2.block < n0 + 1 ∧ a3.block < n0 + 1) (h : Rg n0 wB y) :
    Rg n0 wB y ∧ y.cell? a0 = some v0 ∧ y.cell? a1 = some v1 ∧ y.cell? a2 = some v2 ∧ y.cell? a3 = some v3 :=
  ⟨h, h.cell h0.1 l0.1, h.cell h0.2.1 l0.2.1, h.cell h0.2.2.1 l0.2.2.1, h.cell h0.2.2.2 l0.2.2.2⟩
set_option maxHeartbeats 4000000 in
theorem refput_room (rb k cp room p : Nat) (turn n : Int) (sa : Option Addr) (sc : Nat) (xs vs : List Value) (w : World) (hk : k ≤ 8) (hp : p < k) (hvs : vs.length = k)
    (hch : ∀ j u, vs[j]? = some u → w.cell? ⟨rb, j, none⟩ = some u) (h1 : ∀ u ∈ vs, u.oneCell' = true) (hc : w.cell? ⟨rb, p, none⟩ = some (.slice sa xs.length sc)) (hsl : SlAt 0 w (.slice sa xs.length sc) xs) (hlen : xs.length < room) (hr : room ≤ 64) :
    Calls Try.prog 13 #[.agg #[.slice (some ⟨rb, 0, none⟩) k cp, .int .i64 room, .int .i64 turn], .int .i64 p, .int .i64 n] w fun e w' =>
      ∃ g cap g2 cap2, e = .returned (.tuple #[.agg #[.slice (some ⟨g, 0, none⟩) k cap, .int .i64 room, .int .i64 turn], .int .i64 0]) ∧ w'.ownsRow w.heap.size 27 1 (.slice (some ⟨g, 0, none⟩) k cap) k (vs.set p (.slice (some ⟨g2, 0, none⟩) (xs.length + 1) cap2)) ∧
        w'.ownsRow w.heap.size 3 1 (.slice (some ⟨g2, 0, none⟩) (xs.length + 1) cap2) (xs.length + 1) (xs ++ [.int .i64 n]) ∧ Below w.heap.size w w' := by
  obtain ⟨i0, hi, hz0, hz1, hz2⟩ := info_parts Try.info3
  have hl := cell_ltA hc
  go_enter Try.func13, Try.ntmps13
  have d1 : decide ((p : Int) < 0) = false := by simp
  have d2 : decide ((p : Int) ≥ k) = false := by simp; omega
  have d3 : ((xs.length : Int) == (room : Int)) = false := by simp; omega
  go_wp2_with fail
  have c0 := (below_alloc2 w (Obj.cells #[.slice (some ⟨rb, 0, none⟩) k cp, .int .i64 room, .int .i64 turn] 40) (Obj.cells #[.slice none 0 0, .int .i64 0, .int .i64 0] 40)).cell (p := ⟨rb, p, none⟩) hl
  rw [hc] at c0
  have q0 : ((w.alloc (Obj.cells #[.slice (some ⟨rb, 0, none⟩) k cp, .int .i64 room, .int .i64 turn] 40)).alloc (Obj.cells #[.slice none 0 0, .int .i64 0, .int .i64 0] 40)).heap[w.heap.size]? = some (Obj.cells #[.slice (some ⟨rb, 0, none⟩) k cp, .int .i64 room, .int .i64 turn] 40) := by
    rw [Below.heap_alloc _ _ _ (by simp)]; exact heap_alloc_new _ _
  have q1 := alloc2_at w (Obj.cells #[.slice (some ⟨rb, 0, none⟩) k cp, .int .i64 room, .int .i64 turn] 40) (Obj.cells #[.slice none 0 0, .int .i64 0, .int .i64 0] 40)
  have hB := below_alloc2 w (Obj.cells #[.slice (some ⟨rb, 0, none⟩) k cp, .int .i64 room, .int .i64 turn] 40) (Obj.cells #[.slice none 0 0, .int .i64 0, .int .i64 0] 40)
  have hs : ((w.alloc (Obj.cells #[.slice (some ⟨rb, 0, none⟩) k cp, .int .i64 room, .int .i64 turn] 40)).alloc (Obj.cells #[.slice none 0 0, .int .i64 0, .int .i64 0] 40)).heap.size = w.heap.size + 2 := by simp
  go_quiet (fail)
  generalize ((w.alloc (Obj.cells #[.slice (some ⟨rb, 0, none⟩) k cp, .int .i64 room, .int .i64 turn] 40)).alloc (Obj.cells #[.slice none 0 0, .int .i64 0, .int .i64 0] 40)) = wA at *
  have e0 : wA.cell? ⟨w.heap.size, 0, none⟩ = some (.slice (some ⟨rb, 0, none⟩) k cp) := by simp [World.cell?, q0]
  have e1 : wA.cell? ⟨w.heap.size, 1, none⟩ = some (.int .i64 room) := by simp [World.cell?, q0]
  have e2 : wA.cell? ⟨w.heap.size, 2, none⟩ = some (.int .i64 turn) := by simp [World.cell?, q0]
  go_wp2_with fail
  replace c0 : (wA.drewN nq).cell? ⟨rb, p, none⟩ = some (.slice sa xs.length sc) := c0
  replace e0 : (wA.drewN nq).cell? ⟨w.heap.size, 0, none⟩ = some (.slice (some ⟨rb, 0, none⟩) k cp) := e0
  replace e1 : (wA.drewN nq).cell? ⟨w.heap.size, 1, none⟩ = some (.int .i64 room) := e1
  replace e2 : (wA.drewN nq).cell? ⟨w.heap.size, 2, none⟩ = some (.int .i64 turn) := e2
  replace q1 : (wA.drewN nq).heap[w.heap.size + 1]? = _ := q1
  replace hB := below_drewN hB nq
  replace hs : (wA.drewN nq).heap.size = w.heap.size + 2 := hs
  generalize wA.drewN nq = wB at *
  have HQ : Hid (wB.heap[w.heap.size + 1]? = _) := q1
  have HB : Hid (Below w.heap.size w wB) := hB
  have HS : Hid (wB.heap.size = w.heap.size + 2) := hs
  clear q1 hB hs
  have H0 : Cs wB ⟨w.heap.size, 0, none⟩ ⟨w.heap.size, 1, none⟩ ⟨w.heap.size, 2, none⟩ ⟨rb, p, none⟩ (.slice (some ⟨rb, 0, none⟩) k cp) (.int .i64 room) (.int .i64 turn) (.slice sa xs.length sc) := ⟨e0, e1, e2, c0⟩
  have L0 : w.heap.size < w.heap.size + 1 ∧ w.heap.size < w.heap.size + 1 ∧ w.heap.size < w.heap.size + 1 ∧ rb < w.heap.size + 1 := ⟨by omega, by omega, by omega, by omega⟩
  have hS := keepS H0 L0 (n0 := w.heap.size) (y := wB) ⟨Below.refl _ _, Nat.le_of_eq HS.out.symm, _, _, _, HQ.out⟩
  clear e0 e1 e2 c0 q0
  have p0 : (0 : Int) ≤ (p : Int) := by omega
  have p1 : (p : Int) < (k : Int) := by omega
  go_region_held3 (fun w' => Rg w.heap.size wB w' ∧ w'.cell? ⟨w.heap.size, 0, none⟩ = some (.slice (some ⟨rb, 0, none⟩) k cp) ∧ w'.cell? ⟨w.heap.size, 1, none⟩ = some (.int .i64 room) ∧ w'.cell? ⟨w.heap.size, 2, none⟩ = some (.int .i64 turn) ∧ w'.cell? ⟨rb, p, none⟩ = some (.slice sa xs.length sc))
    (first | exact keepS H0 L0 (Rg.drew (rgOf (by assumption))) | exact keepS H0 L0 (Rg.alloc (rgOf (by assumption)) _) | exact keepS H0 L0 (Rg.grown (rgOf (by assumption)) hgrow2 (by have := (hown1.lt _ rfl).1; omega)) | exact keepS H0 L0 (Rg.grown (rgOf (by assumption)) hgrow1 (by have := HS.out; omega)) | exact keepS H0 L0 (Rg.called (rgOf (by assumption)) hb3) | exact keepS H0 L0 (Rg.put (rgOf (by assumption)) _ _ _))
    (first
      | (go_at_call 22; refine (with_walk rb k cp p vs room turn _ _ _ _ hk hp hvs (fun j u hj => ((HB.out.trans ((rgOf (by assumption)).1.mono (by omega))).cell (cell_ltA (hch j u hj))).trans (hch j u hj)) h1).mono ?_; rintro e w3 ⟨g3, cap3, rfl, hown3, hb3⟩; have HR3 : Hid (Rg w.heap.size wB w3) := Rg.called (rgOf (by assumption)) hb3; obtain ⟨s0, s1, s2, f0, f1, f2, f3⟩ := HR3.out.spots)
      | (refine step_app0 _ (by rfl) _ _ _ (by rfl) (w.heap.size + 2) 3 i0 (.int .i64 0) 8 Try.underlying27 hi hz0 hz1 hz2 (by rfl) _ _ (by rfl) (own_fresh (by first | exact heap_alloc_new _ _ | exact heap_alloc2_new _ _ _ | exact (Below.heap_alloc _ _ _ (by simp <;> omega)).trans (heap_alloc_new _ _)) (by have := HS.out; omega)) _ xs (by rfl) (hsl.below (HB.out.trans ((rgOf (by assumption)).1.mono (by omega)))) (by unfold maxLen; omega) (by omega) (by simp; have := HS.out; omega) ?_; intro g1 cap1 w1 hown1 hgrow1)
      | (refine step_app1 _ (by rfl) _ _ _ (by rfl) (w.heap.size + 2) 3 i0 (.int .i64 0) 8 Try.underlying27 hi hz0 hz1 hz2 (by rfl) g1 xs.length cap1 _ (by rfl) (by first | exact hown1 | exact hown1.alloc _) _ (.int .i64 n) (by rfl) (sl_one (cell_heap (by first | exact heap_alloc_new _ _ | exact (hgrow1.block _ (by simp <;> omega) (by simp <;> omega)).trans (by first | exact heap_alloc2_new _ _ _ | exact (Below.heap_alloc _ _ _ (by simp <;> omega)).trans (heap_alloc_new _ _)))) _) (by unfold maxLen; omega) (by omega) (by have := (rgOf (by assumption)).2.1; omega) ?_; intro g2 cap2 w2 hown2 hgrow2)
      | fail)
  all_goals
    have hlow := hown2.lt _ rfl
    have HR : Hid (Rg _ _ _) := rgOf (by assumption)
    have r3 : Hid (World.ownsRow _ _ _ _ _ _ _) := own_put3 (Go.Joins.ownsRow_le hown3 (show w.heap.size + 2 ≤ w2.heap.size by omega)) (show w.heap.size + 1 < w.heap.size + 2 by omega) (.slice (some ⟨g3, 0, none⟩) k cap3) (.int .i64 room) (.int .i64 turn)
    have r2 : Hid (World.ownsRow _ _ _ _ _ _ _) := own_put3 (ownsRow_belowA hown2 hb3) (show w.heap.size + 1 < w.heap.size + 2 by omega) (.slice (some ⟨g3, 0, none⟩) k cap3) (.int .i64 room) (.int .i64 turn)
    clear hown1 hgrow1 hown2 hgrow2 hown3 hb3 f0 f1 f2 f3 hS H0 L0 hlow hi hz0 hz1 hz2 h1 hch hsl
    go_wp2_with fail
    obtain ⟨c0, c1, c2, q3⟩ := HR3.out.2.2
    refine bodyPost_ret (res_cell2 rfl _ _ _ 40 _ (0, 0) _ rfl (put3 q3 _ _ _) Try.underlying40 rfl info40) rfl ⟨g3, cap3, g2, cap2, rfl, Go.Joins.ownsRow_le r3.out (by omega), Go.Joins.ownsRow_le r2.out (by omega), HB.out.trans (HR.out.1.mono (by omega))⟩
end Go.Proofs.Ytbnakfpdmiibdaa
