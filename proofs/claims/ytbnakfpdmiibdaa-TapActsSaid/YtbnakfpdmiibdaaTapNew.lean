/- tap.New, for every number of pipes and every room that may be: run by the evaluator; what it leaves. -/
import Derived.Test.YtbnakfpdmiibdaaAEMf
import Derived.Test.YtbnakfpdmiibdaaTapWalk1
namespace Go.Proofs.Ytbnakfpdmiibdaa
open Go.RowKit Go.AE
set_option maxRecDepth 100000

/-- a tap in memory: its block, its pipes' row, the channels and what they hold -/
structure TapAt (B0 : Nat) (w : World) (b pb k cp room : Nat) (cb : Nat → Nat) (bufs : Nat → Array Value) (turn : Int) : Prop where
  pipes : w.cell? ⟨b, 0, none⟩ = some (.slice (some ⟨pb, 0, none⟩) k cp)
  turnc : w.cell? ⟨b, 1, none⟩ = some (.int .i64 turn)
  free : w.frozen? ⟨b, 1, none⟩ = false
  ch : ∀ j, j < k → w.cell? ⟨pb, j, none⟩ = some (.chan (some (cb j)))
  chan : ∀ j, j < k → ∃ s r, w.heap[cb j]? = some (.chan room (bufs j) false s r false)
  inj : ∀ i j, i < k → j < k → cb i = cb j → i = j
  base : B0 ≤ b ∧ ∀ j, j < k → B0 ≤ cb j

noncomputable def envTapN : Env := envOf Try.prog
theorem tabTapN : TabOk envTapN := tabOk_of rfl rfl rfl (by kernel_rfl) (by kernel_rfl) fun _ _ _ _ _ h => by cases h

/-- the pipes of a row, from the j-th on -/
noncomputable def chansOf (h : Hs) (r : Nat) (pat : List AV) (t : T (List AV)) (k : Nat) : Nat → List Nat → Bool :=
  Nat.rec (motive := fun _ => Nat → List Nat → Bool) (fun _ _ => true)
    (fun _ self j seen => match elemAt pat (t.get j) with
      | [x] => (match x with
        | .chan c => (match h.t.get c with
          | some ob => (match ob with
            | .chan cap buf => Bool.rec (motive := fun _ => Bool) false (Bool.rec (motive := fun _ => Bool) (self (Nat.succ j) (c :: seen)) false (memN c seen)) (Bool.rec (motive := fun _ => Bool) false (Nat.beq (lenL buf) 0) (Nat.beq cap r))
            | _ => false)
          | none => false)
        | _ => false)
      | _ => false) k
noncomputable def rowOk (h : Hs) (k r : Nat) (x : Option AObj) : Bool :=
  match x with
  | some (.row n sz pat t) => Bool.rec (motive := fun _ => Bool) false (Bool.rec (motive := fun _ => Bool) false (chansOf h r pat t k 0 []) (Nat.ble k n)) (Nat.beq sz 1)
  | _ => false
noncomputable def tapOk (h : Hs) (k r : Nat) (l : List AV) : Bool :=
  match l with
  | [x, y] => (match x with
    | .sl pb o len _ sz _ => (match y with
      | .int kd n => Bool.rec (motive := fun _ => Bool) false (rowOk h k r (h.t.get pb)) (Nat.beq o 0 && Nat.beq len k && Nat.beq sz 1 && ikEq kd .i64 && intEq n (.ofNat 0))
      | _ => false)
    | _ => false)
  | _ => false
noncomputable def newK (k r : Nat) (v : AV) (h : Hs) (c : Nat) : Out :=
  match v with
  | .tup l => (match l with
    | [x, y] => (match x with
      | .ptr b o => (match y with
        | .int kd n => (match h.t.get b with
          | some ob => (match ob with
            | .row n1 sz pat t => guardB (Nat.beq o 0 && Nat.beq n1 2 && Nat.beq sz 2 && ikEq kd .i64 && intEq n (.ofNat 0)) 300 (guardB (tapOk h k r (elemAt pat (t.get 0))) 301 (.ok .normal .e h c))
            | _ => .bad 302)
          | none => .bad 303)
        | _ => .bad 304)
      | _ => .bad 305)
    | _ => .bad 306)
  | _ => .bad 307
noncomputable def newRun (k r : Nat) : Out := callF envTapN (ev envTapN 400) 7 [.int .i64 (.ofNat k), .int .i64 (.ofNat r)] ⟨.e, 0, []⟩ 0 (newK k r)
noncomputable def newAll (k : Nat) : Nat → Nat → Bool := fun n => Nat.rec (motive := fun _ => Nat → Bool) (fun _ => true) (fun _ self r => Bool.rec (motive := fun _ => Bool) false (self (Nat.succ r)) (isOk (newRun k r))) n
theorem new1 : newAll 1 64 1 = true := by kernel_rfl
theorem new2 : newAll 2 64 1 = true := by kernel_rfl
theorem new3 : newAll 3 64 1 = true := by kernel_rfl
theorem new4 : newAll 4 64 1 = true := by kernel_rfl
theorem new5 : newAll 5 64 1 = true := by kernel_rfl
theorem new6 : newAll 6 64 1 = true := by kernel_rfl
theorem new7 : newAll 7 64 1 = true := by kernel_rfl
theorem new8 : newAll 8 64 1 = true := by kernel_rfl
theorem newAll_ok {k : Nat} : ∀ {n r : Nat}, newAll k n r = true → ∀ x, r ≤ x → x < r + n → isOk (newRun k x) = true
  | 0, r, _, x, h1, h2 => by omega
  | n + 1, r, h, x, h1, h2 => by
    have h : (Bool.rec (motive := fun _ => Bool) false (newAll k n (r + 1)) (isOk (newRun k r))) = true := h
    cases hb : isOk (newRun k r) with
    | false => rw [hb] at h; cases h
    | true =>
      rw [hb] at h
      by_cases e : x = r
      · subst e; exact hb
      · exact newAll_ok h x (by omega) (by omega)
theorem new_ok {k r : Nat} (h1 : 1 ≤ k) (h2 : k ≤ 8) (h3 : 1 ≤ r) (h4 : r ≤ 64) : isOk (newRun k r) = true := by
  have : k = 1 ∨ k = 2 ∨ k = 3 ∨ k = 4 ∨ k = 5 ∨ k = 6 ∨ k = 7 ∨ k = 8 := by omega
  rcases this with rfl | rfl | rfl | rfl | rfl | rfl | rfl | rfl
  · exact newAll_ok new1 r (by omega) (by omega)
  · exact newAll_ok new2 r (by omega) (by omega)
  · exact newAll_ok new3 r (by omega) (by omega)
  · exact newAll_ok new4 r (by omega) (by omega)
  · exact newAll_ok new5 r (by omega) (by omega)
  · exact newAll_ok new6 r (by omega) (by omega)
  · exact newAll_ok new7 r (by omega) (by omega)
  · exact newAll_ok new8 r (by omega) (by omega)
end Go.Proofs.Ytbnakfpdmiibdaa
