import Derived.Test.YtbnakfpdmiibdaaAECode3
import Derived.Orders
namespace Go.AE
section
variable {E : Env} {ts ts' : Tm}

theorem optNat_congr {o : Option Operand} (h : ∀ x, o = some x → evalO x ts = evalO x ts') (d : Nat) : optNat ts o d = optNat ts' o d := by
  funext K
  cases o with
  | none => rfl
  | some x => show natOf (evalO x ts) K = natOf (evalO x ts') K; rw [h x rfl]
theorem evalL_congr {l : List Operand} (h : ∀ x ∈ l, evalO x ts = evalO x ts') : evalL ts l = evalL ts' l := by
  unfold evalL
  rw [mapL_eq, mapL_eq]
  exact List.map_congr_left h
theorem fillParts_congr {d : TypeDesc} : ∀ {l : List (Nat × Operand)}, (∀ p ∈ l, evalO p.2 ts = evalO p.2 ts') → fillParts E d ts l = fillParts E d ts' l
  | [], _ => rfl
  | p :: l, h => by
    funext z K
    show place E p.1 (fun off size => cellsK (evalO p.2 ts) 258 (fillPart off size z fun z => fillParts E d ts l z K)) d = place E p.1 (fun off size => cellsK (evalO p.2 ts') 258 (fillPart off size z fun z => fillParts E d ts' l z K)) d
    rw [h p (List.mem_cons_self ..), fillParts_congr (fun q hq => h q (List.mem_cons_of_mem _ hq))]
theorem fillElems_congr {sz len : Nat} : ∀ {l : List (Nat × Operand)}, (∀ p ∈ l, evalO p.2 ts = evalO p.2 ts') → fillElems sz len ts l = fillElems sz len ts' l
  | [], _ => rfl
  | p :: l, h => by
    funext t K
    show guardB (Nat.blt p.1 len) 259 (cellsK (evalO p.2 ts) 260 (fillElem sz p.1 t fun t => fillElems sz len ts l t K)) = guardB (Nat.blt p.1 len) 259 (cellsK (evalO p.2 ts') 260 (fillElem sz p.1 t fun t => fillElems sz len ts' l t K))
    rw [h p (List.mem_cons_self ..), fillElems_congr (fun q hq => h q (List.mem_cons_of_mem _ hq))]
theorem arg_congr {l : List Operand} (h : ∀ x ∈ l, evalO x ts = evalO x ts') (i : Nat) : arg l i ts = arg l i ts' := by
  funext K
  unfold arg
  cases hi : kidx i l with
  | none => rfl
  | some x =>
    rw [kidx_eq] at hi
    show K (evalO x ts) = K (evalO x ts')
    rw [h x (List.mem_of_getElem? hi)]
theorem builtin_congr {b : Builtin} {l : List Operand} {tys : List TypeId} (h : ∀ x ∈ l, evalO x ts = evalO x ts') : cBuiltin b l tys E ts = cBuiltin b l tys E ts' := by
  funext K
  cases b <;> first
    | rfl
    | (simp only [cBuiltin, cLen, cCap, cAppend, cCopy, cDelete, cMinmax, cClear, arg_congr h])

theorem slArr_congr {v : AV} {lo hi mx : Option Operand} (h1 : ∀ x, lo = some x → evalO x ts = evalO x ts') (h2 : ∀ x, hi = some x → evalO x ts = evalO x ts') (h3 : ∀ x, mx = some x → evalO x ts = evalO x ts') (K : Kc) (d : TypeDesc) :
    slArr E v ts lo hi mx K d = slArr E v ts' lo hi mx K d := by
  have e1 : ∀ d, optNat ts lo d = optNat ts' lo d := fun d => optNat_congr h1 d
  have e2 : ∀ d, optNat ts hi d = optNat ts' hi d := fun d => optNat_congr h2 d
  have e3 : ∀ d, optNat ts mx d = optNat ts' mx d := fun d => optNat_congr h3 d
  have s1 : ∀ b off len cap sz ex K, slSl b off len cap sz ex ts lo hi mx K = slSl b off len cap sz ex ts' lo hi mx K := fun b off len cap sz ex K => by
    unfold slSl
    cases mx with
    | none => simp only [e1, e2]
    | some m =>
      cases hi with
      | none => rfl
      | some hh => simp only [e1, h2 hh rfl, h3 m rfl]
  have s2 : ∀ K, slNil ts lo hi mx K = slNil ts' lo hi mx K := fun K => by unfold slNil; simp only [e1, e2, e3]
  have s3 : ∀ s K, slStr s ts lo hi mx K = slStr s ts' lo hi mx K := fun s K => by unfold slStr; cases mx <;> simp only [e1, e2]
  have s4 : ∀ n K, slV v n ts lo hi mx K = slV v n ts' lo hi mx K := fun n K => by
    unfold slV; cases v <;> first | rfl | exact s2 _ | simp only [s1]
  have s5 : ∀ K, slS v ts lo hi mx K = slS v ts' lo hi mx K := fun K => by
    unfold slS; cases v <;> first | rfl | exact s3 _ _
  unfold slArr
  cases d <;> first | rfl | (simp only [s1]; done) | (simp only [s4]; done) | (simp only [s5]; done)

theorem cmdOf_congr {op : Op} (h : ∀ x ∈ op.operands, evalO x ts = evalO x ts') : cmdOf op E ts = cmdOf op E ts' := by
  funext K
  cases op <;> simp only [Op.operands] at h <;> try (first | rfl | (simp only [cmdOf, cMove, cPick, cBox, cLoad, cStore, cNilCheck, cBin, cUn, cConvert, cIface, cMakeChan, cMakeSlice, cFieldAddr, cField, cIndexAddr, cIndex, cLookup, cMapUpdate, cExtract, cRange, cNext, cEntry] ; simp_all; done))
  case build t ps =>
    show cBuild t ps E ts K = cBuild t ps E ts' K
    unfold cBuild
    have : ∀ d, fillParts E d ts ps.toList = fillParts E d ts' ps.toList := fun d => fillParts_congr fun p hp => h p.2 (by simp; exact ⟨p.1, by simpa using hp⟩)
    simp only [this]
  case buildSlice t n ps =>
    show cBuildSlice t n ps E ts K = cBuildSlice t n ps E ts' K
    unfold cBuildSlice
    have : ∀ sz, fillElems sz n ts ps.toList = fillElems sz n ts' ps.toList := fun d => fillElems_congr fun p hp => h p.2 (by simp; exact ⟨p.1, by simpa using hp⟩)
    simp only [this]
  case makeFunc f first cap =>
    show cFunc f first cap E ts K = cFunc f first cap E ts' K
    unfold cFunc
    have e1 : evalL ts first.toList = evalL ts' first.toList := evalL_congr fun x hx => h x (by simp at hx ⊢; exact .inl hx)
    have e2 : evalL ts cap.toList = evalL ts' cap.toList := evalL_congr fun x hx => h x (by simp at hx ⊢; exact .inr hx)
    rw [e1, e2]
  case slice t x lo hi mx =>
    show E.und t (slArr E (evalO x ts) ts lo hi mx K) = E.und t (slArr E (evalO x ts') ts' lo hi mx K)
    have hx : evalO x ts = evalO x ts' := h x (by simp)
    congr 1
    funext d
    rw [hx]
    exact slArr_congr (fun y hy => h y (by subst hy; simp)) (fun y hy => h y (by subst hy; simp)) (fun y hy => h y (by subst hy; simp)) K d
  case call cl =>
    show cCall cl E ts K = cCall cl E ts' K
    have ha : ∀ x ∈ cl.args.toList, evalO x ts = evalO x ts' := fun x hx => h x (by simp only [Call.operands]; simp at hx ⊢; exact .inr hx)
    unfold cCall
    cases hc : cl.callee with
    | value f =>
      show cCallV f cl.args.toList E ts K = cCallV f cl.args.toList E ts' K
      unfold cCallV
      rw [evalL_congr ha, h f (by simp [Call.operands, hc])]
    | builtin b => exact congrFun (builtin_congr ha) K
    | invoke _ _ => rfl
  case select cs bl =>
    show cSelect cs bl E ts K = cSelect cs bl E ts' K
    unfold cSelect
    cases bl with
    | true => rfl
    | false =>
      obtain ⟨l⟩ := cs
      cases l with
      | nil => rfl
      | cons s l =>
        cases l with
        | cons _ _ => rfl
        | nil =>
          show selOne s E ts K = selOne s E ts' K
          unfold selOne
          have h1 : evalO s.chan ts = evalO s.chan ts' := h s.chan (by simp)
          have h2 : ∀ x, s.send = some x → evalO x ts = evalO x ts' := fun x hx => h x (by simp [hx])
          rw [h1]
          cases hs : s.send with
          | none => rfl
          | some x => simp only [h2 x hs]
end
end Go.AE
