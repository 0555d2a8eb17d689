import Derived.Test.YtbnakfpdmiibdaaAECopy
import Derived.Laws.RangeString
namespace Go.AE
section
variable {E : Env} {φ : Loc} {o : Oper} {a : Act} {ts : Tm} {K : Kc} {e : Ex} {ts' : Tm} {h h₀ : Hs} {c : Nat}

theorem rangeM_ok {v : AV} (g : rangeM v K = .ok e ts' h c) : ∃ b, v = .map b ∧ K (.cx fun _ h c K => rangeB b h c K) = .ok e ts' h c := by
  cases v <;> first | exact ⟨_, rfl, g⟩ | cases g
theorem rangeS_ok {v : AV} (g : rangeS v K = .ok e ts' h c) : ∃ s, v = .str s ∧ K (.new (.siter s 0) fun b => .ptr b 0) = .ok e ts' h c := by
  cases v <;> first | exact ⟨_, rfl, g⟩ | cases g

theorem ok_range (T : TabOk E) (ht : TR E φ ts a.tmps) {t : TypeId} {x : Operand} (ho : o.op = .range t x) (g : cRange t x E ts K = .ok e ts' h c) : Good E φ o a K e ts' h c := by
  have he : execOp a.eval o = (do pure (Next.value (← Instr.range t (a.eval x)))) := by unfold execOp; rw [ho]
  have hnd : ∀ c, o.op ≠ .defer c := fun c h => by rw [ho] at h; cases h
  have hx := eval_VR ht x
  unfold cRange at g
  obtain ⟨D, hd, g⟩ := und_ok T g
  have key : (rangeM (evalO x ts) K = .ok e ts' h c ∧ ∃ k v, D = .map k v) ∨ (rangeS (evalO x ts) K = .ok e ts' h c ∧ D = .string) := by
    cases D <;> first | exact .inl ⟨g, _, _, rfl⟩ | exact .inr ⟨g, rfl⟩ | cases g
  rcases key with ⟨g, k, v, rfl⟩ | ⟨g, rfl⟩
  · obtain ⟨b, hxe, g⟩ := rangeM_ok g
    rw [hxe] at hx
    obtain ⟨B, N, hB, hx⟩ := hx
    refine ⟨_, g, fun self _ h c K' e ts' h' c' g2 => ?_⟩
    replace g2 : rangeB b h c K' = .ok e ts' h' c' := g2
    unfold rangeB at g2
    split at g2
    · rename_i es clock hb
      rw [new_eq] at g2
      refine ⟨_, _, _, g2, CxRun.of_runs hnd fun φ' w hle hh hf => ?_⟩
      obtain ⟨B', N', ents, hB', hw, hents⟩ := hh.obj b _ hb
      rw [hle _ _ hB] at hB'; cases hB'
      have hfc := hf c (Nat.le_refl _) (by omega)
      have hle2 := Loc.le_add φ' (w.heap.size, 0) hfc
      refine ⟨_, _, .pointer (some ⟨w.heap.size, 0, none⟩), Sim.made (N := 0) hh hfc (grown_push w (.mapIter (some B) clock #[] clock) w.drawn) ?_, ⟨_, _, Loc.add_same .., rfl⟩, .inl ?_⟩
      · exact ⟨w.heap.size, 0, B, N, #[], Loc.add_same .., hle2 _ _ (hle _ _ hB), push_last w _ _, fun x => by simp, fun s h => by cases h⟩
      · rw [he]
        unfold Instr.range
        simp only [Sem.run_bind, run_und hd, Result.andThen_ok, hx, run_getMap hw, Sem.run_pure, run_newObj]
    · cases g2
  · obtain ⟨s, hxe, g⟩ := rangeS_ok g
    exact ⟨_, g, ok_range_str T ht ho hxe hd⟩

theorem memN_false {b : Nat} {l : List Nat} (h : memN b l = false) : b ∉ l := fun hm => by
  rw [(memN_iff b l).2 hm] at h; cases h

theorem bornLt_ok {n : Nat} : ∀ {l : List Ent}, bornLt n l = true → ∀ en ∈ l, en.born < n
  | [], _, en, h => by cases h
  | p :: l, hb, en, h => by
    have hb' : Bool.rec (motive := fun _ => Bool) false (bornLt n l) (Nat.blt p.born n) = true := hb
    cases hp : Nat.blt p.born n with
    | false => rw [hp] at hb'; cases hb'
    | true =>
      rw [hp] at hb'
      rcases List.mem_cons.1 h with rfl | h
      · exact Nat.blt_eq.mp hp
      · exact bornLt_ok hb' en h
/-- the entries that are left -/
theorem unseen_ok {φ : Loc} {seen : List Nat} {sn : Array Nat} (hs : ∀ x, x ∈ sn.toList ↔ x ∈ seen) : ∀ (es : List Ent) (m : List MapEntry), EntsR E φ es m → EntsR E φ (unseen seen es) (m.filter fun e => !sn.contains e.born)
  | [], m, hm => by simp only [EntsR] at hm; subst hm; rfl
  | p :: es, m, hm => by
    simp only [EntsR] at hm
    obtain ⟨x, m, rfl, hx, hm⟩ := hm
    have ih := unseen_ok hs es m hm
    have hu : unseen seen (p :: es) = Bool.rec (motive := fun _ => List Ent) (p :: unseen seen es) (unseen seen es) (memN p.born seen) := rfl
    have hc : sn.contains x.born = memN p.born seen := by
      rw [Bool.eq_iff_iff, memN_iff, hx.2.2, ← hs]
      simp
    rw [hu, List.filter_cons, hc]
    cases memN p.born seen with
    | true => exact ih
    | false => exact ⟨x, _, rfl, hx, ih⟩

theorem leftOf_ok {mb since : Nat} {seen : List Nat} {stepped : Nat} {K : List Ent → Nat → Out} (g : leftOf mb since seen stepped h K = .ok e ts' h₀ c) :
    ∃ es clock, h.t.get mb = some (.map es clock) ∧ (∀ en ∈ es, en.born < since) ∧ (∀ en ∈ es, en.born < stepped) ∧ K (unseen seen es) clock = .ok e ts' h₀ c := by
  unfold leftOf at g
  split at g
  · rename_i es clock hb
    obtain ⟨h1, g⟩ := guardB_ok g
    obtain ⟨h2, g⟩ := guardB_ok g
    exact ⟨es, clock, hb, bornLt_ok h1, bornLt_ok h2, g⟩
  · cases g

theorem EntsR.mem {φ : Loc} : ∀ (l : List Ent) (m : List MapEntry), EntsR E φ l m → ∀ x ∈ m, ∃ en ∈ l, EntR E φ en x
  | [], m, h, x, hx => by simp only [EntsR] at h; subst h; cases hx
  | p :: l, m, h, x, hx => by
    simp only [EntsR] at h; obtain ⟨y, r, rfl, hy, h⟩ := h
    rcases List.mem_cons.1 hx with rfl | hx
    · exact ⟨p, List.mem_cons_self .., hy⟩
    · obtain ⟨en, h1, h2⟩ := EntsR.mem l r h x hx; exact ⟨en, List.mem_cons_of_mem _ h1, h2⟩

/-- a step of a range over a map, where nothing was laid in since: one of those that are left, whichever the tape says -/
theorem run_next_map {P : Program} {w : World} {B M since stepped : Nat} {sn : Array Nat} {ents : Array MapEntry} {clock : Nat} {ty : TypeId} (hw : w.heap[B]? = some (.mapIter (some M) since sn stepped)) (hm : w.heap[M]? = some (.map ents clock))
    (h1 : ∀ x ∈ ents.toList, x.born < since) (h2 : ∀ x ∈ ents.toList, x.born < stepped) :
    (ents.toList.filter (fun e => !sn.contains e.born) = [] ∧ (Instr.next (.pointer (some ⟨B, 0, none⟩)) false ty).run P w = .ok (.tuple #[.bool false]) w) ∨
    ∃ x n, x ∈ ents.toList.filter (fun e => !sn.contains e.born) ∧
      (Instr.next (.pointer (some ⟨B, 0, none⟩)) false ty).run P w = .ok (.tuple #[.bool true, x.key, x.val]) { w with heap := w.heap.setIfInBounds B (.mapIter (some M) since (sn.push x.born) clock), drawn := n } := by
  have hg : (getObj B).run P w = .ok (.mapIter (some M) since sn stepped) w := by simp [getObj, Sem.run, hw]
  have hgm : (getObj M).run P w = .ok (.map ents clock) w := by simp [getObj, Sem.run, hm]
  have hall : ¬ ((!sn.isEmpty && !ents.isEmpty && ents.all (·.born ≥ stepped)) = true) := by
    intro h
    simp only [Bool.and_eq_true] at h
    obtain ⟨⟨_, hne⟩, hall⟩ := h
    rw [← Array.all_toList, List.all_eq_true] at hall
    cases hl : ents.toList with
    | nil =>
      have : ents.isEmpty = true := by simp [Array.isEmpty, ← Array.length_toList, hl]
      rw [this] at hne; cases hne
    | cons x l =>
      have hx : x ∈ ents.toList := by rw [hl]; exact List.mem_cons_self ..
      have a1 := hall x hx
      have a2 := h2 x hx
      simp at a1; omega
  have hold : (ents.filter fun e => !sn.contains e.born).filter (·.born < since) = ents.filter fun e => !sn.contains e.born := by
    apply Array.ext'
    rw [Array.toList_filter, List.filter_eq_self]
    intro x hx
    rw [Array.toList_filter] at hx
    simpa using h1 x (List.mem_filter.1 hx |>.1)
  have hnew : (ents.filter fun e => !sn.contains e.born).filter (·.born ≥ since) = #[] := by
    apply Array.ext'
    rw [Array.toList_filter, List.filter_eq_nil_iff]
    intro x hx
    rw [Array.toList_filter] at hx
    have := h1 x (List.mem_filter.1 hx |>.1)
    simp; omega
  have hlt : (ents.filter fun e => !sn.contains e.born).toList = ents.toList.filter fun e => !sn.contains e.born := Array.toList_filter ..
  generalize hL : (ents.filter fun e => !sn.contains e.born) = L at *
  have hset : ∀ (n : Nat) (x : Obj), (setObj B x).run P { w with drawn := n } = .ok () { w with heap := w.heap.setIfInBounds B x, drawn := n } := fun n x => by simp [setObj, Sem.run, hw]
  rw [← hlt]
  by_cases hemp : L.toList = []
  · left
    refine ⟨hemp, ?_⟩
    have hL0 : L = #[] := Array.ext' hemp
    unfold Instr.next
    simp only [hall, Sem.run_bind, hg, hgm, Result.andThen_ok, hL, hold, hnew, hL0, if_false]
    simp [run_choose, Question.forced]
  · right
    have hne : L.isEmpty = false := by
      cases h : L.isEmpty with
      | false => rfl
      | true => exact absurd (by simpa [Array.isEmpty_iff] using h) hemp
    have hc : ∃ k n, ((choose (.mapNext (((if L.isEmpty then #[none] else #[]) ++ (L ++ (#[] : Array MapEntry)).map some : Array (Option MapEntry))).size)).run P w) = .ok k { w with drawn := n } ∧ k < L.size := by
      rw [hne]
      have hpos : 0 < L.size := by rw [← Array.length_toList]; exact List.length_pos_iff.2 hemp
      have hsz : ((if false = true then #[none] else #[]) ++ (L ++ (#[] : Array MapEntry)).map some : Array (Option MapEntry)).size = L.size := by simp
      rw [hsz, run_choose]
      split
      · exact ⟨0, w.drawn, rfl, hpos⟩
      · exact ⟨_, w.drawn + 1, rfl, Nat.mod_lt _ hpos⟩
    obtain ⟨k, n, hc, hk⟩ := hc
    have hx : L[k]? = some L[k] := Array.getElem?_eq_getElem hk
    refine ⟨L[k], n, by rw [← Array.getElem?_toList] at hx; exact List.mem_of_getElem? hx, ?_⟩
    have hcand : (((if L.isEmpty then #[none] else #[]) ++ (L ++ (#[] : Array MapEntry)).map some : Array (Option MapEntry)))[k]? = some (some L[k]) := by
      rw [hne]; simp [hx]
    unfold Instr.next
    simp only [hall, Sem.run_bind, hg, hgm, Result.andThen_ok, hL, hold, hnew, Bool.false_eq_true, if_false]
    rw [hc]
    simp only [Result.andThen_ok, hcand, Sem.run_bind, hset, Sem.run_pure]
end
end Go.AE
