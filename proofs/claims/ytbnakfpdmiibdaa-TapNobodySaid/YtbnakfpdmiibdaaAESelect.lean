import Derived.Test.YtbnakfpdmiibdaaAEIter2
import Derived.Conc.LoneSelect
namespace Go.AE
open Go.Conc
section
variable {E : Env} {φ : Loc} {o : Oper} {a : Act} {ts : Tm} {K : Kc} {e : Ex} {ts' : Tm} {h h₀ : Hs} {c c₀ : Nat}

theorem fat_comm {P : Program} {b : Frame} {k : List Item} {cs : List Frame} {w w' : World} {ops : Array Oper} {i : Nat} {rest : List Nat} {cc : Array CommCase} (ho : ops[i]? = some o) (hw : Region.wanted o (yielded ops a.tmps) = true)
    (hd : ∀ c, o.op ≠ .defer c) (hr : (execOp a.eval o).run P w = .ok (.comm cc false .select) w') :
    ∃ es, stepG P true (G (fat b a (.inRegion ops (i :: rest) :: k)) cs) w = .comm (G (fat b a (.inRegion ops (i :: rest) :: k)) cs) cc false .select w' es := by
  have := fat_op (P := P) (b := b) (a := a) (k := k) (cs := cs) (w := w) (rest := rest) ho hw hd
  unfold G
  rw [this]
  exact ⟨_, by simp [stepG.apply, hr]; rfl⟩
theorem lone_solo (fr : Frame) (cs : List Frame) (w : World) : lone fr cs w = solo (G fr cs) w := rfl
theorem turned_chan (w : World) (B cap s r : Nat) (vs : Array Value) (cl tm : Bool) : Turned w (w.setChan B cap vs cl s r tm) B :=
  ⟨by simp [World.setChan], fun B' hB => by simp [World.setChan, Array.getElem?_setIfInBounds, hB.symm], rfl, rfl, rfl⟩
theorem chan_same {w : World} {B : Nat} {y : Obj} (cap s r : Nat) (vs : Array Value) (cl tm : Bool) (h : w.heap[B]? = some y) : (w.setChan B cap vs cl s r tm).heap[B]? = some (.chan cap vs cl s r tm) := by
  have := (Array.getElem?_eq_some_iff.1 h).1
  simp [World.setChan, this]

theorem neg1_VR (E : Env) (φ : Loc) : VR E φ (.int .i64 (.negSucc (nat_lit 0))) (goInt (-1)) := by
  simp only [VR]; rfl
theorem put_finish {b : Frame} {k : List Item} {ops : Array Oper} {i : Nat} {rest : List Nat} (ho : ops[i]? = some o) (v : Value) :
    (fat b a (.inRegion ops (i :: rest) :: k)).finish v = fat b (a.put o.dst v) (.inRegion ops rest :: k) := by
  rw [fat_finish, ho]; rfl

theorem ok_select (T : TabOk E) (ht : TR E φ ts a.tmps) {cases : Array SelectCase} {bl : Bool} (ho : o.op = .select cases bl) (g : cSelect cases bl E ts K = .ok e ts' h c) : Good E φ o a K e ts' h c := by
  have hnd : ∀ c, o.op ≠ .defer c := fun c h => by rw [ho] at h; cases h
  unfold cSelect at g
  cases bl with
  | true => cases g
  | false =>
    obtain ⟨l⟩ := cases
    have g : (match l with | [s] => selOne s E ts K | _ => .bad 193) = .ok e ts' h c := g
    cases l with
    | nil => cases g
    | cons s l =>
      cases l with
      | cons _ _ => cases g
      | nil =>
        have g : selOne s E ts K = .ok e ts' h c := g
        unfold selOne at g
        obtain ⟨i, z, hi, hz, g⟩ := zero_ok T g
        have hx := eval_VR ht s.chan
        have hch : ∃ b, evalO s.chan ts = .chan b ∧ (match s.send with | none => K (.cx fun _ h c K => selRecv (ofValue z) b h c K) | some x => K (.cx fun _ h c K => selSend (evalO x ts) b h c K)) = .ok e ts' h c := by
          cases hc : evalO s.chan ts <;> rw [hc] at g <;> first | exact ⟨_, rfl, g⟩ | cases g
        obtain ⟨b, hce, g⟩ := hch
        rw [hce] at hx
        obtain ⟨B, N, hB, hx⟩ := hx
        have he : ∀ w, (execOp a.eval o).run E.P w = .ok (.comm #[{ chan := .chan (some B), send := s.send.map a.eval, zero := z }] false .select) w := fun w => by
          unfold execOp; rw [ho]
          simp [hx, run_zero hi hz]
        cases hsend : s.send with
        | none =>
          rw [hsend] at g he
          have g : K (.cx fun _ h c K => selRecv (ofValue z) b h c K) = .ok e ts' h c := g
          refine ⟨_, g, fun self _ h c K' e ts' h' c' g2 => ?_⟩
          replace g2 : selRecv (ofValue z) b h c K' = .ok e ts' h' c' := g2
          unfold selRecv at g2
          split at g2
          · rename_i cap buf hb
            have hbn : h.t.get b ≠ none := by rw [hb]; simp
            cases buf with
            | nil =>
              have g2 : K' (.tup [.int .i64 (.negSucc 0), .bool false, ofValue z]) h c = .ok e ts' h' c' := g2
              refine ⟨_, _, _, g2, fun φ' w bf k cs ops j rest hle hop hwant hh _ => ?_⟩
              obtain ⟨B', N', vs, s', r', hB', hw, hvs⟩ := hh.obj b _ hb
              rw [hle _ _ hB] at hB'; cases hB'
              have hvs0 : vs = #[] := by simp only [VRL] at hvs; exact Array.ext' hvs
              subst hvs0
              obtain ⟨es, hs⟩ := fat_comm (P := E.P) (b := bf) (k := k) (cs := cs) (rest := rest) hop hwant hnd (he w)
              have := step_lone_select_default (z := z) hs hw
              rw [put_finish hop] at this
              exact ⟨φ', w, _, Sim.refl hh, ⟨#[goInt (-1), .bool false, z], rfl, VRL_cons (neg1_VR ..) (VRL_cons rfl (VRL_cons (ofValue_VR E φ' z) VRL_nil))⟩, .one this⟩
            | cons v buf =>
              have g2 : h.put b (some (.chan cap buf)) (fun h => K' (.tup [.int .i64 (.ofNat 0), .bool true, v]) h c) = .ok e ts' h' c' := g2
              rw [put_eq] at g2
              refine ⟨_, _, _, g2, fun φ' w bf k cs ops j rest hle hop hwant hh _ => ?_⟩
              obtain ⟨B', N', vs, s', r', hB', hw, hvs⟩ := hh.obj b _ hb
              rw [hle _ _ hB] at hB'; cases hB'
              simp only [VRL] at hvs
              obtain ⟨u, m, hvl, hu, hm⟩ := hvs
              have hvs1 : vs = (u :: m).toArray := Array.ext' hvl
              subst hvs1
              obtain ⟨es, hs⟩ := fat_comm (P := E.P) (b := bf) (k := k) (cs := cs) (rest := rest) hop hwant hnd (he w)
              have := step_lone_select_recv_buf (z := z) hs hw (by simp)
              rw [put_finish hop] at this
              refine ⟨φ', _, _, Sim.put hh hbn (hle _ _ hB) (turned_chan w B cap s' (r' + 1) ((u :: m).toArray.extract 1 (u :: m).toArray.size) false false) ⟨B, N, _, s', r' + 1, hle _ _ hB, chan_same _ _ _ _ _ _ hw, ?_⟩, ?_, .one this⟩
              · have : ((u :: m).toArray.extract 1 (u :: m).toArray.size).toList = m := by simp [Array.toList_extract, List.extract_eq_take_drop]
                rw [this]; exact hm
              · exact ⟨_, rfl, VRL_cons rfl (VRL_cons rfl (VRL_cons (by simpa using hu) VRL_nil))⟩
          · cases g2
        | some x =>
          rw [hsend] at g he
          have g : K (.cx fun _ h c K => selSend (evalO x ts) b h c K) = .ok e ts' h c := g
          have hv := eval_VR ht x
          refine ⟨_, g, fun self _ h c K' e ts' h' c' g2 => ?_⟩
          replace g2 : selSend (evalO x ts) b h c K' = .ok e ts' h' c' := g2
          unfold selSend at g2
          split at g2
          · rename_i cap buf hb
            have hbn : h.t.get b ≠ none := by rw [hb]; simp
            cases hlt : Nat.blt (lenL buf) cap with
            | false =>
              rw [hlt] at g2
              have hnl : ¬ lenL buf < cap := fun h2 => by rw [← Nat.blt_eq] at h2; rw [h2] at hlt; cases hlt
              rw [lenL_eq] at hnl
              refine ⟨_, _, _, g2, fun φ' w bf k cs ops j rest hle hop hwant hh _ => ?_⟩
              obtain ⟨B', N', vs, s', r', hB', hw, hvs⟩ := hh.obj b _ hb
              rw [hle _ _ hB] at hB'; cases hB'
              have hlen := hvs.length
              obtain ⟨es, hs⟩ := fat_comm (P := E.P) (b := bf) (k := k) (cs := cs) (rest := rest) hop hwant hnd (he w)
              have := step_lone_select_send_full (v := a.eval x) (z' := z) hs hw (by simp at hlen; omega)
              rw [put_finish hop] at this
              exact ⟨φ', w, _, Sim.refl hh, ⟨#[goInt (-1), .bool false], rfl, VRL_cons (neg1_VR ..) (VRL_cons rfl VRL_nil)⟩, .one this⟩
            | true =>
              rw [hlt] at g2
              have hnl : lenL buf < cap := Nat.blt_eq.mp hlt
              rw [lenL_eq] at hnl
              rw [put_eq] at g2
              refine ⟨_, _, _, g2, fun φ' w bf k cs ops j rest hle hop hwant hh _ => ?_⟩
              obtain ⟨B', N', vs, s', r', hB', hw, hvs⟩ := hh.obj b _ hb
              rw [hle _ _ hB] at hB'; cases hB'
              have hlen := hvs.length
              obtain ⟨es, hs⟩ := fat_comm (P := E.P) (b := bf) (k := k) (cs := cs) (rest := rest) hop hwant hnd (he w)
              have := step_lone_select_send_room (v := a.eval x) (z' := z) hs hw (by simp at hlen; omega)
              rw [put_finish hop] at this
              refine ⟨φ', _, _, Sim.put hh hbn (hle _ _ hB) (turned_chan w B cap (s' + 1) r' (vs.push (a.eval x)) false false) ⟨B, N, _, s' + 1, r', hle _ _ hB, chan_same _ _ _ _ _ _ hw, ?_⟩, ⟨#[goInt 0, .bool false], rfl, VRL_cons rfl (VRL_cons rfl VRL_nil)⟩, .one this⟩
              rw [appL_eq, Array.toList_push]
              exact hvs.append (VRL_cons (VR.mono hle _ _ hv) VRL_nil)
          · cases g2
end
end Go.AE
