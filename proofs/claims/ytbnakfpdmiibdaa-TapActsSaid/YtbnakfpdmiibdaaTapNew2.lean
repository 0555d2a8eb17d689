/- tap.New: what it leaves, as a contract. -/
import Derived.Test.YtbnakfpdmiibdaaTapNew
namespace Go.Proofs.Ytbnakfpdmiibdaa
open Go.RowKit Go.AE
set_option maxRecDepth 100000

theorem ikEq_ok2 {x y : IntKind} (h : ikEq x y = true) : x = y := by cases x <;> cases y <;> first | rfl | cases h
theorem intEq_ok2 {x y : Int} (h : intEq x y = true) : x = y := by
  cases x <;> cases y <;> first | (cases h; done) | skip
  · have h : Nat.beq _ _ = true := h
    rw [Nat.eq_of_beq_eq_true h]
  · have h : Nat.beq _ _ = true := h
    rw [Nat.eq_of_beq_eq_true h]
theorem andB {a b : Bool} (h : (Bool.rec (motive := fun _ => Bool) false a b) = true) : b = true ∧ a = true := by
  cases b with
  | false => cases h
  | true => exact ⟨rfl, h⟩

theorem chansOf_ok {h : Hs} {r : Nat} {pat : List AV} {t : T (List AV)} : ∀ {k j : Nat} {seen : List Nat}, chansOf h r pat t k j seen = true →
    ∃ cf : Nat → Nat, (∀ i, j ≤ i → i < j + k → elemAt pat (t.get i) = [.chan (cf i)] ∧ (h.t.get (cf i) = some (.chan r []) ∧ cf i ∉ seen)) ∧ ∀ i i', j ≤ i → i < j + k → j ≤ i' → i' < j + k → cf i = cf i' → i = i'
  | 0, j, seen, _ => ⟨fun _ => 0, fun i h1 h2 => by omega, fun i i' h1 h2 => by omega⟩
  | k + 1, j, seen, hc => by
    have hc : (match elemAt pat (t.get j) with
      | [x] => (match x with
        | .chan c => (match h.t.get c with
          | some ob => (match ob with
            | .chan cap buf => Bool.rec (motive := fun _ => Bool) false (Bool.rec (motive := fun _ => Bool) (chansOf h r pat t k (j + 1) (c :: seen)) false (memN c seen)) (Bool.rec (motive := fun _ => Bool) false (Nat.beq (lenL buf) 0) (Nat.beq cap r))
            | _ => false)
          | none => false)
        | _ => false)
      | _ => false) = true := hc
    split at hc
    · rename_i x hx
      split at hc
      · rename_i c
        split at hc
        · rename_i ob hob
          split at hc
          · rename_i cap buf
            obtain ⟨h1, hc1⟩ := andB hc
            clear hc
            obtain ⟨h2, h3⟩ := andB h1
            have h2 := Nat.eq_of_beq_eq_true h2
            have h3 := Nat.eq_of_beq_eq_true h3
            subst h2
            have hb : buf = [] := by rw [lenL_eq] at h3; exact List.eq_nil_of_length_eq_zero h3
            subst hb
            cases hm : memN c seen with
            | true => rw [hm] at hc1; cases hc1
            | false =>
              rw [hm] at hc1
              obtain ⟨cf, q1, q2⟩ := chansOf_ok (k := k) (j := j + 1) (seen := c :: seen) hc1
              refine ⟨fun i => if i = j then c else cf i, fun i h1 h2 => ?_, fun i i' h1 h2 h4 h5 e => ?_⟩
              · by_cases e : i = j
                · subst e; simp only [if_pos]; exact ⟨hx, hob, memN_false hm⟩
                · simp only [if_neg e]
                  obtain ⟨z1, z2, z3⟩ := q1 i (by omega) (by omega)
                  exact ⟨z1, z2, fun h => z3 (List.mem_cons_of_mem _ h)⟩
              · by_cases e1 : i = j
                · by_cases e2 : i' = j
                  · rw [e1, e2]
                  · simp only [if_pos e1, if_neg e2] at e
                    exact absurd (e ▸ List.mem_cons_self ..) (q1 i' (by omega) (by omega)).2.2
                · by_cases e2 : i' = j
                  · simp only [if_neg e1, if_pos e2] at e
                    exact absurd (e ▸ List.mem_cons_self ..) (q1 i (by omega) (by omega)).2.2
                  · simp only [if_neg e1, if_neg e2] at e
                    exact q2 i i' (by omega) (by omega) (by omega) (by omega) e
          · cases hc
        · cases hc
      · cases hc
    · cases hc

theorem newK_ok {k r : Nat} {v : AV} {h : Hs} {c : Nat} {e : Ex} {ts : Tm} {h' : Hs} {c' : Nat} (g : newK k r v h c = .ok e ts h' c') :
    ∃ b pat t pb cap ex n pat2 t2, v = .tup [.ptr b 0, .int .i64 0] ∧ h.t.get b = some (.row 2 2 pat t) ∧ elemAt pat (t.get 0) = [.sl pb 0 k cap 1 ex, .int .i64 0] ∧
      h.t.get pb = some (.row n 1 pat2 t2) ∧ k ≤ n ∧ chansOf h r pat2 t2 k 0 [] = true := by
  unfold newK at g
  split at g
  · split at g
    · split at g
      · split at g
        · split at g
          · rename_i ob hob
            split at g
            · rename_i pat t
              obtain ⟨h1, g⟩ := guardB_ok g
              obtain ⟨h2, _⟩ := guardB_ok g
              simp only [Bool.and_eq_true] at h1
              obtain ⟨⟨⟨⟨q1, q2⟩, q3⟩, q4⟩, q5⟩ := h1
              have q1 := Nat.eq_of_beq_eq_true q1
              have q2 := Nat.eq_of_beq_eq_true q2
              have q3 := Nat.eq_of_beq_eq_true q3
              have q4 := ikEq_ok2 q4
              have q5 := intEq_ok2 q5
              subst q1; subst q2; subst q3; subst q4; subst q5
              unfold tapOk at h2
              split at h2
              · rename_i hel
                split at h2
                · split at h2
                  · obtain ⟨z1, z2⟩ := andB h2
                    simp only [Bool.and_eq_true] at z1
                    obtain ⟨⟨⟨⟨y1, y2⟩, y3⟩, y4⟩, y5⟩ := z1
                    have y1 := Nat.eq_of_beq_eq_true y1
                    have y2 := Nat.eq_of_beq_eq_true y2
                    have y3 := Nat.eq_of_beq_eq_true y3
                    have y4 := ikEq_ok2 y4
                    have y5 := intEq_ok2 y5
                    subst y1; subst y2; subst y3; subst y4; subst y5
                    unfold rowOk at z2
                    split at z2
                    · rename_i hrow
                      obtain ⟨w1, z3⟩ := andB z2
                      obtain ⟨w2, z4⟩ := andB z3
                      have w1 := Nat.eq_of_beq_eq_true w1
                      subst w1
                      exact ⟨_, _, _, _, _, _, _, _, _, rfl, hob, hel, hrow, Nat.le_of_ble_eq_true w2, z4⟩
                    · cases z2
                  · cases h2
                · cases h2
              · cases h2
            · cases g
          · cases g
        · cases g
      · cases g
    · cases g
  · cases g

theorem new_calls {k r : Nat} (h1 : 1 ≤ k) (h2 : k ≤ 8) (h3 : 1 ≤ r) (h4 : r ≤ 64) (W : World) :
    Calls Try.prog 7 #[.int .i64 k, .int .i64 r] W fun e W' => ∃ b pb cp cb, e = .returned (.tuple #[.pointer (some ⟨b, 0, none⟩), .int .i64 0]) ∧ TapAt W.heap.size W' b pb k cp r cb (fun _ => #[]) 0 ∧ Below W.heap.size W W' := by
  intro cs
  have g := new_ok h1 h2 h3 h4
  unfold isOk at g
  split at g
  · rename_i e ts h c ho
    obtain ⟨v, hs1, c1, hk, hrun⟩ := callF_leave tabTapN (ev_all tabTapN 400) ho
    obtain ⟨b, pat, t, pb, cap, ex, n, pat2, t2, rfl, hb, hel, hpb, hkn, hch⟩ := newK_ok hk
    obtain ⟨cf, hcf, hinj⟩ := chansOf_ok hch
    obtain ⟨φ', w', u, fr, s, hr, hst, hfn, hlv⟩ := hrun (fun _ => none) W #[.int .i64 k, .int .i64 r] cs (VRL_cons rfl (VRL_cons rfl VRL_nil)) ⟨fun b o hb => by simp [get_e] at hb, fun b b' B N N' hb => by simp [get_e] at hb⟩ (fun _ _ _ => rfl)
    have fresh : ∀ x B N, hs1.t.get x ≠ none → φ' x = some (B, N) → W.heap.size ≤ B := fun x B N hx e => by
      rcases s.dom x hx with hd | ⟨hd1, hd2⟩
      · simp [get_e] at hd
      · rcases s.new x B N hd1 hd2 e hx with h | ⟨y, _, hy, _⟩
        · exact h
        · simp [get_e] at hy
    obtain ⟨arr, rfl, hv⟩ := hr
    simp only [VRL, VR] at hv
    obtain ⟨v0, m0, e0, ⟨B, N, hB, hv0⟩, v1, m1, e1, hw1, hv2⟩ := hv
    have harr : arr = #[.pointer (some ⟨B, 0, none⟩), .int .i64 0] := by
      apply Array.ext'
      rw [e0, e1, hv2, hv0, hw1]
    subst harr
    -- the tap's own block
    obtain ⟨B1, C, el, fz, hB1, hw, hfz, _, hC, _, hcells⟩ := s.hr.obj b _ hb
    rw [hB] at hB1
    injection hB1 with hB1
    injection hB1 with hB1 hN1
    subst hB1
    obtain ⟨a0, x0, ha0, hx0, hr0, _⟩ := hcells 0 (by omega)
    rw [hel] at ha0
    simp at ha0
    subst ha0
    obtain ⟨PB, PN, ad, cap', hPB, hx0v, hle1, hle2, _, had, _⟩ := hr0
    obtain ⟨a1, x1, ha1, hx1, hr1, _⟩ := hcells 1 (by omega)
    rw [show 1 / 2 = 0 from rfl, hel] at ha1
    simp at ha1
    subst ha1
    simp only [VR] at hr1
    subst hr1
    have had := had (by omega)
    subst had
    subst hx0v
    -- the row of pipes
    obtain ⟨PB1, C2, el2, fz2, hPB1, hw2, _, _, hC2, _, hcells2⟩ := s.hr.obj pb _ hpb
    rw [hPB] at hPB1
    injection hPB1 with hPB1
    injection hPB1 with hPB1 hPN1
    subst hPB1
    have pipe : ∀ j, j < k → ∃ CB, C2[j]? = some (.chan (some CB)) ∧ (∃ M, φ' (cf j) = some (CB, M)) ∧ ∃ s r', w'.heap[CB]? = some (.chan r #[] false s r' false) := fun j hj => by
      obtain ⟨q1, q2, _⟩ := hcf j (by omega) (by omega)
      obtain ⟨a2, x2, ha2, hx2, hr2, _⟩ := hcells2 j (by omega)
      rw [Nat.div_one, Nat.mod_one, q1] at ha2
      simp at ha2
      subst ha2
      obtain ⟨CB, M, hCB, rfl⟩ := hr2
      obtain ⟨CB1, M1, vs, s1, r1, hCB1, hwc, hvs⟩ := s.hr.obj (cf j) _ q2
      rw [hCB] at hCB1
      injection hCB1 with hCB1
      injection hCB1 with hCB1 hM1
      subst hCB1
      simp only [VRL] at hvs
      have hvs : vs = #[] := Array.ext' hvs
      subst hvs
      exact ⟨CB, hx2, ⟨M, hCB⟩, s1, r1, hwc⟩
    have hex : ∃ cb : Nat → Nat, ∀ j, j < k → C2[j]? = some (.chan (some (cb j))) ∧ (∃ M, φ' (cf j) = some (cb j, M)) ∧ ∃ s r', w'.heap[cb j]? = some (.chan r #[] false s r' false) :=
      ⟨fun j => if hj : j < k then Classical.choose (pipe j hj) else 0, fun j hj => by simp only [dif_pos hj]; exact Classical.choose_spec (pipe j hj)⟩
    obtain ⟨cb, hcb⟩ := hex
    refine ⟨.returned (.tuple #[.pointer (some ⟨B, 0, none⟩), .int .i64 0]), w', fr, ⟨B, PB, cap', cb, rfl, ⟨?_, ?_, ?_, fun j hj => ?_, fun j hj => (hcb j hj).2.2, fun i j hi hj e => ?_, ?_, fun j hj => ?_⟩, s.same.os, s.same.tape, s.same.output, s.same.size, fun x hx => s.fr x hx ?_⟩, hst, hfn, hlv⟩
    · simp [World.cell?, hw, hx0]
    · simp [World.cell?, hw, hx1]
    · have := hfz 1 (by omega)
      simp [World.frozen?, hw]
      simpa using this
    · simp [World.cell?, hw2, (hcb j hj).1]
    · obtain ⟨_, ⟨M, hi1⟩, _⟩ := hcb i hi
      obtain ⟨_, ⟨M', hj1⟩, _⟩ := hcb j hj
      rw [e] at hi1
      refine hinj i j (by omega) (by omega) (by omega) (by omega) (s.hr.inj _ _ _ _ _ ?_ ?_ hi1 hj1)
      · rw [(hcf i (by omega) (by omega)).2.1]; simp
      · rw [(hcf j (by omega) (by omega)).2.1]; simp
    · exact fresh b B N (by rw [hb]; simp) hB
    · obtain ⟨_, ⟨M, hj1⟩, _⟩ := hcb j hj
      exact fresh (cf j) _ M (by rw [(hcf j (by omega) (by omega)).2.1]; simp) hj1
    · rintro ⟨y, _, hy, _⟩
      simp [get_e] at hy
  · cases g
end Go.Proofs.Ytbnakfpdmiibdaa
