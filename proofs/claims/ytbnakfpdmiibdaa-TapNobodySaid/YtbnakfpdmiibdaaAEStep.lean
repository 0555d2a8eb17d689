import Derived.Test.YtbnakfpdmiibdaaAESim
namespace Go.AE

/-- a running frame: whatever else b says (whose round it is) stays -/
def fat (b : Frame) (a : Act) (todo : List Item) : Frame := { b with tmps := a.tmps, todo := todo, defers := a.defers, mode := .run }

theorem fat_eval (b : Frame) (a : Act) (todo : List Item) : (fat b a todo).eval = a.eval := by
  funext x; cases x <;> rfl

section
variable {P : Program} {b : Frame} {a : Act} {k : List Item} {cs : List Frame} {w : World}

theorem fat_skip : Steps P (lone (fat b a (.code .skip :: k)) cs w) (lone (fat b a k) cs w) :=
  .one (step_lone_go (by simp [stepG, stepG.exec, fat]))
theorem fat_label {l : Nat} : Steps P (lone (fat b a (.code (.label l) :: k)) cs w) (lone (fat b a k) cs w) :=
  .one (step_lone_go (by simp [stepG, stepG.exec, fat]))
theorem fat_inBlock {id : Nat} : Steps P (lone (fat b a (.inBlock id :: k)) cs w) (lone (fat b a k) cs w) :=
  .one (step_lone_go (by simp [stepG, stepG.exec, fat]))
theorem fat_inScope {c : Code} : Steps P (lone (fat b a (.inScope c :: k)) cs w) (lone (fat b a k) cs w) :=
  .one (step_lone_go (by simp [stepG, stepG.exec, fat]))
theorem fat_seq {x y : Code} : Steps P (lone (fat b a (.code (.seq x y) :: k)) cs w) (lone (fat b a (.code x :: .code y :: k)) cs w) :=
  .one (step_lone_go (by simp [stepG, stepG.exec, fat]))
theorem fat_cond {c : Operand} {x y : Code} {t : Bool} (h : a.eval c = .bool t) :
    Steps P (lone (fat b a (.code (.cond c x y) :: k)) cs w) (lone (fat b a (.code (if t then x else y) :: k)) cs w) :=
  .one (step_lone_go (by
    have := congrFun (fat_eval b a (.code (.cond c x y) :: k)) c
    simp only [fat] at this
    simp [stepG, stepG.exec, fat, this, h]))
theorem fat_block {id : Nat} {c : Code} : Steps P (lone (fat b a (.code (.block id c) :: k)) cs w) (lone (fat b a (.code c :: .inBlock id :: k)) cs w) :=
  .one (step_lone_go (by simp [stepG, stepG.exec, fat]))
theorem fat_loop {c : Code} : Steps P (lone (fat b a (.code (.loop c) :: k)) cs w) (lone (fat b a (.code c :: .inLoop c :: k)) cs w) :=
  .one (step_lone_go (by simp [stepG, stepG.exec, fat]))
theorem fat_inLoop {c : Code} : Steps P (lone (fat b a (.inLoop c :: k)) cs w) (lone (fat b a (.code c :: .inLoop c :: k)) cs w) :=
  .one (step_lone_go (by simp [stepG, stepG.exec, fat]))
theorem fat_scope {c : Code} : Steps P (lone (fat b a (.code (.scope c) :: k)) cs w) (lone (fat b a (.code c :: .inScope c :: k)) cs w) :=
  .one (step_lone_go (by simp [stepG, stepG.exec, fat]))
theorem fat_exit {id : Nat} {k' : List Item} (h : exitTo id k = some k') : Steps P (lone (fat b a (.code (.exit id) :: k)) cs w) (lone (fat b a k') cs w) :=
  .one (step_lone_go (by simp [stepG, stepG.exec, fat, h]))
theorem fat_ret (hr : b.roundOf = none) : Steps P (lone (fat b a (.code .ret :: k)) cs w) (lone { fat b a (.code .ret :: k) with mode := .returning } cs w) :=
  .one (step_lone_go (by simp [stepG, stepG.exec, fat, hr]))
theorem fat_end (hr : b.roundOf = none) : Steps P (lone (fat b a []) cs w) (lone { fat b a [] with mode := .returning } cs w) :=
  .one (step_lone_go (by simp [stepG, stepG.exec, fat, hr]))

variable {ops : Array Oper}
theorem fat_region {id : Nat} : Steps P (lone (fat b a (.code (.region id ops false) :: k)) cs w) (lone (fat b a (.inRegion ops (List.range ops.size) :: k)) cs w) :=
  .one (step_lone_go (by simp [stepG, stepG.exec, fat]))
theorem fat_region_draw {id : Nat} :
    Steps P (lone (fat b a (.code (.region id ops true) :: k)) cs w)
      (lone (fat b a (.inRegion ops (Region.schedule (P.follows .mixedOrders) ops (w.tape w.drawn (.order b.fn id))) :: k)) cs { w with drawn := w.drawn + 1 }) :=
  .one (step_lone_go (by simp [stepG, stepG.exec, fat, choose, Sem.run, Question.forced, Question.cut]))
theorem fat_region_end : Steps P (lone (fat b a (.inRegion ops [] :: k)) cs w) (lone (fat b a k) cs w) :=
  .one (step_lone_go (by simp [stepG, stepG.exec, fat]))

theorem fat_finish (i : Nat) (rest : List Nat) (v : Value) :
    (fat b a (.inRegion ops (i :: rest) :: k)).finish v = fat b (a.put ((ops[i]?).bind (·.dst)) v) (.inRegion ops rest :: k) := by
  cases h : (ops[i]?).bind (·.dst) <;> simp [Frame.finish, fat, Act.put, h]

theorem fat_op_skip {i : Nat} {rest : List Nat} {o : Oper} (ho : ops[i]? = some o) (h : Region.wanted o (yielded ops a.tmps) = false) :
    Steps P (lone (fat b a (.inRegion ops (i :: rest) :: k)) cs w) (lone (fat b (a.put o.dst undef) (.inRegion ops rest :: k)) cs w) := by
  have hf := fat_finish (b := b) (a := a) (k := k) (ops := ops) i rest undef
  rw [ho] at hf
  simp only [Option.bind_some] at hf
  rw [← hf]
  exact .one (step_lone_go (by
    simp only [fat] at *
    simp [stepG, stepG.exec, ho, h]))

theorem fat_op {i : Nat} {rest : List Nat} {o : Oper} (ho : ops[i]? = some o) (hw : Region.wanted o (yielded ops a.tmps) = true) (hd : ∀ c, o.op ≠ .defer c) :
    stepG P true { frame := fat b a (.inRegion ops (i :: rest) :: k), callers := cs, status := .running, dying := none } w =
      stepG.apply P true (fat b a (.inRegion ops (i :: rest) :: k)) cs none (execOp a.eval o) w := by
  have he := fat_eval b a (.inRegion ops (i :: rest) :: k)
  simp only [fat] at he
  cases hr : b.roundOf with
  | none => simp [stepG, stepG.exec, stepG.oper, Frame.oper?, fat, ho, hw, hr] at he ⊢; rw [he]
  | some l =>
    simp [stepG, stepG.exec, stepG.oper, Frame.oper?, fat, ho, hw, hr] at he ⊢
    rw [he]
    split
    · rename_i h2; exact absurd h2 (hd _)
    · rfl

theorem fat_op_value {i : Nat} {rest : List Nat} {o : Oper} {v : Value} {w' : World} (ho : ops[i]? = some o) (hw : Region.wanted o (yielded ops a.tmps) = true) (hd : ∀ c, o.op ≠ .defer c)
    (hr : (execOp a.eval o).run P w = .ok (.value v) w') :
    Steps P (lone (fat b a (.inRegion ops (i :: rest) :: k)) cs w) (lone (fat b (a.put o.dst v) (.inRegion ops rest :: k)) cs w') := by
  have hf := fat_finish (b := b) (a := a) (k := k) (ops := ops) i rest v
  rw [ho] at hf
  simp only [Option.bind_some] at hf
  rw [← hf]
  exact .one (step_lone_go (by rw [fat_op ho hw hd]; simp [stepG.apply, hr]))
theorem fat_op_unit {i : Nat} {rest : List Nat} {o : Oper} {w' : World} (ho : ops[i]? = some o) (hw : Region.wanted o (yielded ops a.tmps) = true) (hd : ∀ c, o.op ≠ .defer c)
    (hr : (execOp a.eval o).run P w = .ok .skip w') :
    Steps P (lone (fat b a (.inRegion ops (i :: rest) :: k)) cs w) (lone (fat b (a.put o.dst undef) (.inRegion ops rest :: k)) cs w') := by
  have hf := fat_finish (b := b) (a := a) (k := k) (ops := ops) i rest undef
  rw [ho] at hf
  simp only [Option.bind_some] at hf
  rw [← hf]
  exact .one (step_lone_go (by rw [fat_op ho hw hd]; simp [stepG.apply, hr]))
theorem fat_op_enter {i : Nat} {rest : List Nat} {o : Oper} {f : FuncId} {args : Array Value} {w' : World} (ho : ops[i]? = some o) (hw : Region.wanted o (yielded ops a.tmps) = true) (hd : ∀ c, o.op ≠ .defer c)
    (hr : (execOp a.eval o).run P w = .ok (.enter f args) w') :
    Steps P (lone (fat b a (.inRegion ops (i :: rest) :: k)) cs w) (lone (Frame.enter P f args .normal) (fat b a (.inRegion ops (i :: rest) :: k) :: cs) w') :=
  .one (step_lone_go (by rw [fat_op ho hw hd]; simp [stepG.apply, hr, fat]))
theorem fat_op_round {i : Nat} {rest : List Nat} {o : Oper} {l : Nat} {f : FuncId} {tmps : Array Value} {as bd : Code} {w' : World} (ho : ops[i]? = some o) (hw : Region.wanted o (yielded ops a.tmps) = true) (hd : ∀ c, o.op ≠ .defer c)
    (hr : (execOp a.eval o).run P w = .ok (.round l f tmps as bd) w') :
    Steps P (lone (fat b a (.inRegion ops (i :: rest) :: k)) cs w) (lone (Frame.round l f tmps as bd .normal) (fat b a (.inRegion ops (i :: rest) :: k) :: cs) w') :=
  .one (step_lone_go (by rw [fat_op ho hw hd]; simp [stepG.apply, hr]))
end
end Go.AE
