/-
  Part of the proof of DiffChangesUptoCardSaid: what Diff.Between says of two rows of leaves, Back turns and Apply takes, up to the bulk that the card names.
  A proof for this seat's program alone; the parts of the words that it needs were printed by the kit, and cut to what is used.
-/
import Derived.Test.YtclamgljgnjkbaaGreatDoorLn7
set_option linter.all false
section
namespace Go.Ab
open Go Go.RowKit
noncomputable section
def fat (b : Frame) (t : Array Value) (d : List Deferred) (todo : List Item) : Frame := { b with tmps := t, todo := todo, defers := d, mode := .run }
def evalV (t : Array Value) : Operand → Value
 | .tmp i => t.getD i undef
 | .const v => v
 | .global g => .pointer (some ⟨g, 0, none⟩)
 | .func f => .func (.func f) #[] #[]
theorem eval_fat (b : Frame) (t : Array Value) (d : List Deferred) (todo : List Item) : (fat b t d todo).eval = evalV t := by
 funext x; cases x <;> rfl
def putT (t : Array Value) (dst : Option Tmp) (v : Value) : Array Value :=
 match dst with
 | some d => t.setIfInBounds d v
 | none => t
section moves
variable {P : Program} {b : Frame} {t : Array Value} {d : List Deferred} {k : List Item} {cs : List Frame} {w : World}
theorem st_skip : step P (lone (fat b t d (.code .skip :: k)) cs w) = .next (lone (fat b t d k) cs w) := step_lone_go (by simp [stepG, stepG.exec, fat])
theorem st_label {l : Nat} : step P (lone (fat b t d (.code (.label l) :: k)) cs w) = .next (lone (fat b t d k) cs w) := step_lone_go (by simp [stepG, stepG.exec, fat])
theorem st_inBlock {id : Nat} : step P (lone (fat b t d (.inBlock id :: k)) cs w) = .next (lone (fat b t d k) cs w) := step_lone_go (by simp [stepG, stepG.exec, fat])
theorem st_inScope {c : Code} : step P (lone (fat b t d (.inScope c :: k)) cs w) = .next (lone (fat b t d k) cs w) := step_lone_go (by simp [stepG, stepG.exec, fat])
theorem st_seq {x y : Code} : step P (lone (fat b t d (.code (.seq x y) :: k)) cs w) = .next (lone (fat b t d (.code x :: .code y :: k)) cs w) := step_lone_go (by simp [stepG, stepG.exec, fat])
theorem st_cond {c : Operand} {x y : Code} {v : Bool} (h : evalV t c = .bool v) : step P (lone (fat b t d (.code (.cond c x y) :: k)) cs w) = .next (lone (fat b t d (.code (if v then x else y) :: k)) cs w) :=
 step_lone_go (by
  have := congrFun (eval_fat b t d (.code (.cond c x y) :: k)) c
  simp only [fat] at this
  simp [stepG, stepG.exec, fat, this, h])
theorem st_block {id : Nat} {c : Code} : step P (lone (fat b t d (.code (.block id c) :: k)) cs w) = .next (lone (fat b t d (.code c :: .inBlock id :: k)) cs w) := step_lone_go (by simp [stepG, stepG.exec, fat])
theorem st_scope {c : Code} : step P (lone (fat b t d (.code (.scope c) :: k)) cs w) = .next (lone (fat b t d (.code c :: .inScope c :: k)) cs w) := step_lone_go (by simp [stepG, stepG.exec, fat])
theorem st_loop {c : Code} : step P (lone (fat b t d (.code (.loop c) :: k)) cs w) = .next (lone (fat b t d (.code c :: .inLoop c :: k)) cs w) := step_lone_go (by simp [stepG, stepG.exec, fat])
theorem st_inLoop {c : Code} : step P (lone (fat b t d (.inLoop c :: k)) cs w) = .next (lone (fat b t d (.code c :: .inLoop c :: k)) cs w) := step_lone_go (by simp [stepG, stepG.exec, fat])
theorem st_exit {id : Nat} {k' : List Item} (h : exitTo id k = some k') : step P (lone (fat b t d (.code (.exit id) :: k)) cs w) = .next (lone (fat b t d k') cs w) := step_lone_go (by simp [stepG, stepG.exec, fat, h])
theorem st_goto {l : Nat} {k' : List Item} (h : gotoIn l k = some k') : step P (lone (fat b t d (.code (.goto l) :: k)) cs w) = .next (lone (fat b t d k') cs w) := step_lone_go (by simp [stepG, stepG.exec, fat, h])
theorem st_region {id : Nat} {ops : Array Oper} : step P (lone (fat b t d (.code (.region id ops false) :: k)) cs w) = .next (lone (fat b t d (.inRegion ops (List.range ops.size) :: k)) cs w) := step_lone_go (by simp [stepG, stepG.exec, fat])
theorem st_draw {id : Nat} {ops : Array Oper} : step P (lone (fat b t d (.code (.region id ops true) :: k)) cs w) =
  .next (lone (fat b t d (.inRegion ops (Region.schedule (P.follows .mixedOrders) ops (w.tape w.drawn (.order b.fn id))) :: k)) cs { w with drawn := w.drawn + 1 }) :=
 step_lone_go (by simp [stepG, stepG.exec, fat, choose, Sem.run, Question.forced, Question.cut])
theorem st_regionEnd {ops : Array Oper} : step P (lone (fat b t d (.inRegion ops [] :: k)) cs w) = .next (lone (fat b t d k) cs w) := step_lone_go (by simp [stepG, stepG.exec, fat])
theorem finish_fat (ops : Array Oper) (i : Nat) (rest : List Nat) (v : Value) :
  (fat b t d (.inRegion ops (i :: rest) :: k)).finish v = fat b (putT t ((ops[i]?).bind (·.dst)) v) d (.inRegion ops rest :: k) := by
 cases h : (ops[i]?).bind (·.dst) <;> simp [Frame.finish, fat, putT, h]
theorem st_opSkip {ops : Array Oper} {i : Nat} {rest : List Nat} {o : Oper} (ho : ops[i]? = some o) (h : Region.wanted o (yielded ops t) = false) :
  step P (lone (fat b t d (.inRegion ops (i :: rest) :: k)) cs w) = .next (lone (fat b (putT t o.dst undef) d (.inRegion ops rest :: k)) cs w) := by
 have e := finish_fat (b := b) (t := t) (d := d) (k := k) ops i rest undef
 rw [ho] at e
 simp only [Option.bind_some] at e
 rw [← e]
 exact step_lone_go (by simp only [fat]; simp [stepG, stepG.exec, ho, h])
theorem stepG_fat {ops : Array Oper} {i : Nat} {rest : List Nat} {o : Oper} (ho : ops[i]? = some o) (hw : Region.wanted o (yielded ops t) = true) (hd : ∀ c, o.op ≠ .defer c) :
  stepG P true { frame := fat b t d (.inRegion ops (i :: rest) :: k), callers := cs, status := .running, dying := none } w =
   stepG.apply P true (fat b t d (.inRegion ops (i :: rest) :: k)) cs none (execOp (evalV t) o) w := by
 have he := eval_fat b t d (.inRegion ops (i :: rest) :: k)
 simp only [fat] at he
 have hop : ∀ (r : Option Nat) (s : Sem Next → GStep), (match r, o.op with
   | some l, .defer c => s (do Instr.deferInRound l (← resolve (evalV t) c o.type); pure .skip)
   | _, _ => s (execOp (evalV t) o)) = s (execOp (evalV t) o) := by
  intro r s
  split
  next l c hc => exact absurd hc (hd c)
  next => rfl
 simp only [fat]
 simp only [stepG, stepG.exec, ho, Option.map_some, hw, Option.getD_some, if_true, stepG.oper, Frame.oper?, he]
 split
 next l c h1 h2 => exact absurd h2 (hd c)
 next => rfl
theorem st_val {ops : Array Oper} {i : Nat} {rest : List Nat} {o : Oper} (ho : ops[i]? = some o) (hw : Region.wanted o (yielded ops t) = true) (hd : ∀ c, o.op ≠ .defer c) {v : Value} {w' : World}
  (hr : (execOp (evalV t) o).run P w = .ok (.value v) w') :
  step P (lone (fat b t d (.inRegion ops (i :: rest) :: k)) cs w) = .next (lone (fat b (putT t o.dst v) d (.inRegion ops rest :: k)) cs w') := by
 have e := finish_fat (b := b) (t := t) (d := d) (k := k) ops i rest v
 rw [ho] at e
 simp only [Option.bind_some] at e
 rw [← e]
 exact step_lone_go (by rw [stepG_fat ho hw hd]; simp [stepG.apply, hr])
theorem st_skipOp {ops : Array Oper} {i : Nat} {rest : List Nat} {o : Oper} (ho : ops[i]? = some o) (hw : Region.wanted o (yielded ops t) = true) (hd : ∀ c, o.op ≠ .defer c) {w' : World}
  (hr : (execOp (evalV t) o).run P w = .ok .skip w') :
  step P (lone (fat b t d (.inRegion ops (i :: rest) :: k)) cs w) = .next (lone (fat b (putT t o.dst undef) d (.inRegion ops rest :: k)) cs w') := by
 have e := finish_fat (b := b) (t := t) (d := d) (k := k) ops i rest undef
 rw [ho] at e
 simp only [Option.bind_some] at e
 rw [← e]
 exact step_lone_go (by rw [stepG_fat ho hw hd]; simp [stepG.apply, hr])
theorem st_enter {ops : Array Oper} {i : Nat} {rest : List Nat} {o : Oper} (ho : ops[i]? = some o) (hw : Region.wanted o (yielded ops t) = true) (hd : ∀ c, o.op ≠ .defer c) {f : FuncId} {A : Array Value} {w' : World}
  (hr : (execOp (evalV t) o).run P w = .ok (.enter f A) w') :
  step P (lone (fat b t d (.inRegion ops (i :: rest) :: k)) cs w) = .next (lone (Frame.enter P f A .normal) (fat b t d (.inRegion ops (i :: rest) :: k) :: cs) w') :=
 step_lone_go (by rw [stepG_fat ho hw hd]; simp [stepG.apply, hr, fat])
theorem st_round {ops : Array Oper} {i : Nat} {rest : List Nat} {o : Oper} (ho : ops[i]? = some o) (hw : Region.wanted o (yielded ops t) = true) (hd : ∀ c, o.op ≠ .defer c) {l : Nat} {f : FuncId} {T : Array Value} {x y : Code} {w' : World}
  (hr : (execOp (evalV t) o).run P w = .ok (.round l f T x y) w') :
  step P (lone (fat b t d (.inRegion ops (i :: rest) :: k)) cs w) = .next (lone (Frame.round l f T x y .normal) (fat b t d (.inRegion ops (i :: rest) :: k) :: cs) w') :=
 step_lone_go (by rw [stepG_fat ho hw hd]; simp [stepG.apply, hr, fat])
end moves
end
end Go.Ab
end
section
namespace Go.Ab
open Go Go.RowKit
noncomputable section
def evalT (t : Tm) (x : Operand) : Value :=
 Operand.rec (motive := fun _ => Value) (fun i => t.get i) (fun v => v) (fun g => .pointer (some ⟨g, 0, none⟩)) (fun f => .func (.func f) #[] #[]) x
def putM (t : Tm) (dst : Option Tmp) (v : Value) : Tm :=
 Option.rec (motive := fun _ => Tm) t (fun d => t.set d v) dst
def boolOf (v : Value) : Option Bool :=
 match v with
 | .bool b => some b
 | _ => none
def yieldedT (ops : Array Oper) (t : Tm) (j : Nat) : Option Bool :=
 Option.rec (motive := fun _ => Option Bool) none (fun d => boolOf (t.get d)) ((ops[j]?).bind (·.dst))
def sameB (o : Option Bool) (b : Bool) : Bool :=
 Option.rec (motive := fun _ => Bool) false (fun c => Bool.rec (motive := fun _ => Bool) (Bool.rec (motive := fun _ => Bool) true false b) b c) o
def wantedT (ops : Array Oper) (t : Tm) (o : Oper) : Bool :=
 Option.rec (motive := fun _ => Bool) true (fun p => sameB (yieldedT ops t p.1) p.2) o.guard
inductive Ex where
 | normal
 | jump (c : Code)
inductive Task where
 | code (fn : FuncId) (round : Option Nat) (c : Code) (t : Tm) (d : List Nat)
 | again (fn : FuncId) (round : Option Nat) (c : Code) (t : Tm) (d : List Nat)
 | inScope (fn : FuncId) (round : Option Nat) (body c : Code) (t : Tm) (d : List Nat)
 | call (f : FuncId) (args : Array Value)
 | round (l : Nat) (fn : FuncId) (t : Tm) (assign body : Code)
inductive TRes where
 | code (e : Ex) (t : Tm) (d : List Nat)
 | val (v : Value)
def asVal : TRes → M Value
 | .val v => M.pure v
 | _ => M.fail
def doOp {P : Program} (E : Env P) (rec : Task → M TRes) (t : Tm) (o : Oper) : M Value :=
 M.bind (evalOp E (evalT t) o) fun r => match r with
  | .val v => M.pure v
  | .skip => M.pure undef
  | .call f a => M.bind (rec (.call f a)) asVal
  | .round l fn t a b => M.bind (rec (.round l fn t a b)) asVal
def evOp1 {P : Program} (E : Env P) (rec : Task → M TRes) (ops : Array Oper) (k : Tm → M Tm) (t : Tm) (o : Oper) : M Tm :=
 Bool.rec (motive := fun _ => M Tm) (k (putM t o.dst undef)) (M.bind (doOp E rec t o) fun v => k (putM t o.dst v)) (wantedT ops t o)
def evOps {P : Program} (E : Env P) (rec : Task → M TRes) (ops : Array Oper) (l : List Nat) (t : Tm) : M Tm :=
 List.rec (motive := fun _ => Tm → M Tm) (fun t => M.pure t)
  (fun i _ k t => Option.rec (motive := fun _ => M Tm) M.fail (fun o => evOp1 E rec ops k t o) (ops[i]?)) l t
def clash (a b : Nat × Nat) : Bool := !((a.2 &&& (b.1 ||| b.2)) == 0 && (a.1 &&& b.2) == 0)
def evDraw {P : Program} (E : Env P) (rec : Task → M TRes) (ops : Array Oper) (bef : Array Nat) : List Nat → List (Nat × (Nat × Nat)) → Tm → M Tm
 | [], _, t => M.pure t
 | i :: rest, prev, t => match ops[i]? with
  | none => M.fail
  | some o => bif wantedT ops t o then
     M.bind (footM (doOp E rec t o)) fun r =>
      bif prev.all (fun p => (bef.getD i 0).testBit p.1 || !clash r.2 p.2) then evDraw E rec ops bef rest ((i, r.2) :: prev) (putM t o.dst r.1) else M.fail
    else evDraw E rec ops bef rest prev (putM t o.dst undef)
def operandOk (P : Program) : Operand → Bool
 | .const v => scalar 4 v
 | .global g => decide (g < P.globals.size)
 | _ => true
def opsOk (P : Program) (ops : Array Oper) : Bool := ops.all fun o => o.op.operands.all (operandOk P) && (match o.dst with | some d => Nat.blt d 4000 | none => true)
def maskOf (acc : Array Nat) (o : Oper) : Nat := o.after.toList.foldl (fun s e => if Region.binds .any e then s ||| 2 ^ e.on ||| acc.getD e.on 0 else s) 0
def befGo : List Oper → Array Nat → Array Nat
 | [], acc => acc
 | o :: r, acc => befGo r (acc.push (maskOf acc o))
def befs (ops : Array Oper) : Array Nat := befGo ops.toList #[]
def tmpsOf (ops : Array Oper) (o : Oper) : List Tmp :=
 o.dst.toList ++ (o.op.operands.toList.filterMap fun | .tmp t => some t | _ => none) ++ (match o.guard with | some (j, _) => ((ops[j]?).bind (·.dst)).toList | none => [])
def drawOk (ops : Array Oper) : Bool :=
 ops.zipIdx.all (fun (o, i) => o.after.all (fun e => !Region.binds .any e || decide (e.on < i)) && (match o.guard with | some (j, _) => o.after.any (fun e => Region.binds .any e && e.on == j) | none => true)) &&
 ops.zipIdx.all (fun (o, j) => (tmpsOf ops o).all fun x => ops.zipIdx.all fun (p, i) => p.dst != some x || i == j || ((befs ops).getD (max i j) 0).testBit (min i j))
def evRegion {P : Program} (E : Env P) (rec : Task → M TRes) (ops : Array Oper) (draw : Bool) (t : Tm) : M Tm :=
 bif opsOk P ops then
  bif draw then
   bif drawOk ops && P.follows .mixedOrders then evDraw E rec ops (befs ops) (List.range ops.size) [] t else M.fail
  else evOps E rec ops (List.range ops.size) t
 else M.fail
def dropDefers : List Nat → M Unit
 | [] => M.pure ()
 | r :: d => M.bind (getM r) fun o => match o with
  | .deferred false => M.bind (setM r (.deferred true)) fun _ => dropDefers d
  | _ => M.fail
def readResults (P : Program) (t : Tm) : List ResultVar → M (List Value)
 | [] => M.pure []
 | .tmp i :: r => M.bind (readResults P t r) fun l => M.pure (t.get i :: l)
 | .cell a ty :: r => match t.get a with
  | .pointer (some a) => M.bind (readVar P ty a) fun v => M.bind (readResults P t r) fun l => M.pure (v :: l)
  | _ => M.fail
def oneOf (l : List Value) : Value :=
 match l with
 | [v] => v
 | l => .tuple l.toArray
def isJump : Code → Bool
 | .exit _ | .goto _ | .ret => true
 | _ => false
def thenSeq (rec : Task → M TRes) (fn : FuncId) (ro : Option Nat) (b : Code) : TRes → M TRes
 | .code .normal t d => rec (.code fn ro b t d)
 | r => M.pure r
def thenAgain (rec : Task → M TRes) (fn : FuncId) (ro : Option Nat) (body : Code) : TRes → M TRes
 | .code .normal t d => rec (.again fn ro body t d)
 | r => M.pure r
def thenBlock (id : Nat) : TRes → M TRes
 | .code (.jump (.exit id')) t d => if id' = id then M.pure (.code .normal t d) else M.pure (.code (.jump (.exit id')) t d)
 | r => M.pure r
def thenScope (rec : Task → M TRes) (fn : FuncId) (ro : Option Nat) (body : Code) : TRes → M TRes
 | .code (.jump (.goto l)) t d => match findLabel body l with
  | some rest => rec (.inScope fn ro body rest t d)
  | none => M.pure (.code (.jump (.goto l)) t d)
 | r => M.pure r
def stCond (rec : Task → M TRes) (fn : FuncId) (ro : Option Nat) (a b : Code) (t : Tm) (d : List Nat) : Value → M TRes
 | .bool v => rec (.code fn ro (bif v then a else b) t d)
 | _ => M.fail
def rangeHead (ro : Option Nat) (d : List Nat) : M (Nat × List Nat) :=
 match ro with
 | none => M.bind (newM (.deferred false)) fun r => M.pure (r, r :: d)
 | some l0 => M.bind (getM l0) fun o => match o with
  | .loop r0 => M.pure (r0.defers, d)
  | _ => M.fail
def rangeTail (l : Nat) (t : Tm) (d : List Nat) : AO → M TRes
 | .loop r => if r.state = .busy then M.fail else
   M.bind (setM l (.loop { r with state := .exhausted })) fun _ => match r.pending with
    | none => M.pure (.code .normal t d)
    | some jc => bif isJump jc then M.pure (.code (.jump jc) t d) else M.fail
 | _ => M.fail
def rangeCall (P : Program) (rec : Task → M TRes) (l : Nat) (t : Tm) (d : List Nat) : Value → M TRes
 | .func (.func g) first captured => match P.funcs[g]? with
  | some gf => if isNG gf = false ∧ gf.body.isSome = true then
    M.bind (rec (.call g (first ++ #[.func (.yield l) #[] #[]] ++ captured))) fun _ => M.bind (getM l) fun o => rangeTail l t d o
   else M.fail
  | none => M.fail
 | _ => M.fail
def stRange (P : Program) (rec : Task → M TRes) (fn : FuncId) (ro : Option Nat) (f : Operand) (params : Array Tmp) (assign body : Code) (t : Tm) (d : List Nat) : M TRes :=
 bif operandOk P f then
  M.bind (rangeHead ro d) fun rd =>
   M.bind (newM (.loop { state := .ready, pending := none, fn, tmps := t, params, assign, body, defers := rd.1 })) fun l => rangeCall P rec l t rd.2 (evalT t f)
 else M.fail
def stCode {P : Program} (E : Env P) (rec : Task → M TRes) (fn : FuncId) (ro : Option Nat) (t : Tm) (d : List Nat) : Code → M TRes
 | .skip => M.pure (.code .normal t d)
 | .label _ => M.pure (.code .normal t d)
 | .region _ ops draw => M.bind (evRegion E rec ops draw t) fun t => M.pure (.code .normal t d)
 | .seq a b => M.bind (rec (.code fn ro a t d)) (thenSeq rec fn ro b)
 | .cond x a b => bif operandOk P x then stCond rec fn ro a b t d (evalT t x) else M.fail
 | .block id body => M.bind (rec (.code fn ro body t d)) (thenBlock id)
 | .loop body => M.bind (rec (.code fn ro body t d)) (thenAgain rec fn ro body)
 | .scope body => rec (.inScope fn ro body body t d)
 | .exit id => M.pure (.code (.jump (.exit id)) t d)
 | .goto l => M.pure (.code (.jump (.goto l)) t d)
 | .ret => M.pure (.code (.jump .ret) t d)
 | .refuse _ => M.fail
 | .rangeFunc f params assign body => stRange P rec fn ro f params assign body t d
def callTail (P : Program) (rs : List ResultVar) (t : Tm) (d : List Nat) : M TRes := M.bind (dropDefers d) fun _ => M.bind (readResults P t rs) fun l => M.pure (.val (oneOf l))
def thenCall (P : Program) (rs : List ResultVar) : TRes → M TRes
 | .code .normal t d => callTail P rs t d
 | .code (.jump .ret) t d => callTail P rs t d
 | _ => M.fail
def stEnter (P : Program) (rec : Task → M TRes) (f : FuncId) (args : Array Value) : M TRes :=
 match P.funcs[f]? with
 | some fn => match fn.body with
  | some c => bif Nat.ble args.size fn.ntmps && Nat.ble args.size 4000 then M.bind (rec (.code f none c (Tm.ofList fn.ntmps 0 args.toList ⟨fn.ntmps, .e⟩) [])) (thenCall P fn.results.toList) else M.fail
  | none => M.fail
 | none => M.fail
def stCall {P : Program} (E : Env P) (rec : Task → M TRes) (f : FuncId) (args : Array Value) : M TRes :=
 match E.known f args with
 | some v => M.pure (.val v)
 | none => stEnter P rec f args
def endRound (l : Nat) (s : LoopState) (p : Option Code) (v : Bool) : AO → M TRes
 | .loop r => M.bind (setM l (.loop { r with state := s, pending := p })) fun _ => M.pure (.val (.bool v))
 | _ => M.fail
def thenBody (l : Nat) : TRes → M TRes
 | .code .normal _ _ => M.bind (getM l) (endRound l .ready none true)
 | .code (.jump c) _ _ => M.bind (getM l) (endRound l .done (some c) false)
 | .val _ => M.fail
def beginRound (rec : Task → M TRes) (l : Nat) (fn : FuncId) (t : Tm) (body : Code) : AO → M TRes
 | .loop r => if r.state = .ready then
   M.bind (setM l (.loop { r with state := .busy })) fun _ => M.bind (rec (.code fn (some l) body t [])) (thenBody l)
  else M.fail
 | _ => M.fail
def thenAssign (rec : Task → M TRes) (l : Nat) (fn : FuncId) (body : Code) : TRes → M TRes
 | .code .normal t [] => M.bind (getM l) (beginRound rec l fn t body)
 | _ => M.fail
def evStep {P : Program} (E : Env P) (rec : Task → M TRes) : Task → M TRes
 | .code fn ro c t d => stCode E rec fn ro t d c
 | .again fn ro body t d => M.bind (rec (.code fn ro body t d)) (thenAgain rec fn ro body)
 | .inScope fn ro body c t d => M.bind (rec (.code fn ro c t d)) (thenScope rec fn ro body)
 | .call f args => stCall E rec f args
 | .round l fn t assign body => M.bind (rec (.code fn (some l) assign t [])) (thenAssign rec l fn body)
def ev {P : Program} (E : Env P) : Nat → Task → M TRes := fun n => Nat.rec (motive := fun _ => Task → M TRes) (fun _ => M.fail) (fun _ ih => evStep E ih) n
theorem ev_zero {P : Program} (E : Env P) : ev E 0 = fun _ => M.fail := rfl
theorem ev_succ {P : Program} (E : Env P) (n : Nat) : ev E (n + 1) = evStep E (ev E n) := rfl
section
variable {P : Program}
theorem Loc.asVal (r : TRes) : Loc (asVal r) := by unfold Ab.asVal; split; exact Loc.pure _; exact Loc.fail
theorem Loc.doOp (E : Env P) {rec : Task → M TRes} (hr : ∀ x, Loc (rec x)) (t : Tm) (o : Oper) : Loc (doOp E rec t o) := by
 unfold Ab.doOp
 refine Loc.bind (Loc.evalOp _ _ _) fun r => ?_
 split
 ·exact Loc.pure _
 ·exact Loc.pure _
 ·exact Loc.bind (hr _) fun _ => Loc.asVal _
 ·exact Loc.bind (hr _) fun _ => Loc.asVal _
theorem Loc.evOps (E : Env P) {rec : Task → M TRes} (hr : ∀ x, Loc (rec x)) (ops : Array Oper) : ∀ (l : List Nat) (t : Tm), Loc (evOps E rec ops l t)
 | [], t => Loc.pure _
 | i :: rest, t => by
  show Loc (Option.rec (motive := fun _ => M Tm) M.fail (fun o => evOp1 E rec ops (Ab.evOps E rec ops rest) t o) (ops[i]?))
  cases ops[i]? with
  | none => exact Loc.fail
  | some o =>
   show Loc (evOp1 E rec ops (Ab.evOps E rec ops rest) t o)
   unfold evOp1
   cases wantedT ops t o with
   | false => exact Loc.evOps E hr ops rest _
   | true => exact Loc.bind (Loc.doOp E hr _ _) fun _ => Loc.evOps E hr ops rest _
theorem Loc.evDraw (E : Env P) {rec : Task → M TRes} (hr : ∀ x, Loc (rec x)) (ops : Array Oper) (bef : Array Nat) : ∀ (l : List Nat) (prev : List (Nat × (Nat × Nat))) (t : Tm), Loc (evDraw E rec ops bef l prev t)
 | [], _, t => Loc.pure _
 | i :: rest, prev, t => by
  unfold Ab.evDraw
  split
  ·exact Loc.fail
  ·exact Loc.cond (Loc.bind (Loc.foot (Loc.doOp E hr _ _)) fun _ => Loc.cond (Loc.evDraw E hr ops bef rest _ _) Loc.fail) (Loc.evDraw E hr ops bef rest _ _)
theorem Loc.evRegion (E : Env P) {rec : Task → M TRes} (hr : ∀ x, Loc (rec x)) (ops : Array Oper) (draw : Bool) (t : Tm) : Loc (evRegion E rec ops draw t) := by
 unfold Ab.evRegion
 exact Loc.cond (Loc.cond (Loc.cond (Loc.evDraw E hr _ _ _ _ _) Loc.fail) (Loc.evOps E hr _ _ _)) Loc.fail
theorem Loc.dropDefers : ∀ (d : List Nat), Loc (dropDefers d)
 | [] => Loc.pure _
 | r :: d => by
  unfold Ab.dropDefers
  refine Loc.bind (Loc.get _) fun o => ?_
  split
  ·exact Loc.bind (Loc.set _ _) fun _ => Loc.dropDefers d
  ·exact Loc.fail
theorem Loc.readResults (t : Tm) : ∀ (l : List ResultVar), Loc (readResults P t l)
 | [] => Loc.pure _
 | .tmp i :: r => Loc.bind (Loc.readResults t r) fun _ => Loc.pure _
 | .cell a ty :: r => by
  unfold Ab.readResults
  split
  ·exact Loc.bind (Loc.readVar _ _) fun _ => Loc.bind (Loc.readResults t r) fun _ => Loc.pure _
  ·exact Loc.fail
theorem Loc.rangeHead (ro : Option Nat) (d : List Nat) : Loc (rangeHead ro d) := by
 unfold Ab.rangeHead
 split
 ·exact Loc.bind (Loc.new _) fun _ => Loc.pure _
 ·refine Loc.bind (Loc.get _) fun o => ?_
  split
  ·exact Loc.pure _
  ·exact Loc.fail
theorem Loc.rangeTail (l : Nat) (t : Tm) (d : List Nat) (o : AO) : Loc (rangeTail l t d o) := by
 unfold Ab.rangeTail
 split
 ·refine Loc.ite Loc.fail (Loc.bind (Loc.set _ _) fun _ => ?_)
  split
  ·exact Loc.pure _
  ·exact Loc.cond (Loc.pure _) Loc.fail
 ·exact Loc.fail
theorem Loc.rangeCall {rec : Task → M TRes} (hr : ∀ x, Loc (rec x)) (l : Nat) (t : Tm) (d : List Nat) (v : Value) : Loc (rangeCall P rec l t d v) := by
 unfold Ab.rangeCall
 split
 ·split
  ·exact Loc.ite (Loc.bind (hr _) fun _ => Loc.bind (Loc.get _) fun o => Loc.rangeTail _ _ _ _) Loc.fail
  ·exact Loc.fail
 ·exact Loc.fail
theorem Loc.callTail (rs : List ResultVar) (t : Tm) (d : List Nat) : Loc (callTail P rs t d) := Loc.bind (Loc.dropDefers _) fun _ => Loc.bind (Loc.readResults _ _) fun _ => Loc.pure _
theorem Loc.endRound (l : Nat) (s : LoopState) (p : Option Code) (v : Bool) (o : AO) : Loc (endRound l s p v o) := by
 unfold Ab.endRound; split
 ·exact Loc.bind (Loc.set _ _) fun _ => Loc.pure _
 ·exact Loc.fail
theorem Loc.evStep (E : Env P) {rec : Task → M TRes} (hr : ∀ x, Loc (rec x)) (x : Task) : Loc (evStep E rec x) := by
 have again : ∀ fn ro body r, Loc (thenAgain rec fn ro body r) := by
  intro fn ro body r; unfold thenAgain; split
  ·exact hr _
  ·exact Loc.pure _
 cases x with
 | code fn ro c t d =>
  unfold Ab.evStep
  dsimp only
  cases c with
  | skip => exact Loc.pure _
  | label l => exact Loc.pure _
  | region id ops draw =>
   show Loc (M.bind (Ab.evRegion E rec ops draw t) fun t => M.pure (TRes.code Ex.normal t d))
   exact Loc.bind (Loc.evRegion E hr _ _ _) fun _ => Loc.pure _
  | seq a b =>
   refine Loc.bind (hr _) fun r => ?_
   unfold thenSeq; split
   ·exact hr _
   ·exact Loc.pure _
  | cond x a b =>
   refine Loc.cond ?_ Loc.fail
   unfold stCond; split
   ·exact hr _
   ·exact Loc.fail
  | block id body =>
   refine Loc.bind (hr _) fun r => ?_
   unfold thenBlock; split
   ·exact Loc.ite (Loc.pure _) (Loc.pure _)
   ·exact Loc.pure _
  | loop body => exact Loc.bind (hr _) fun r => again _ _ _ _
  | scope body => exact hr _
  | exit id => exact Loc.pure _
  | goto l => exact Loc.pure _
  | ret => exact Loc.pure _
  | refuse w => exact Loc.fail
  | rangeFunc f params assign body => exact Loc.cond (Loc.bind (Loc.rangeHead _ _) fun rd => Loc.bind (Loc.new _) fun l => Loc.rangeCall hr _ _ _ _) Loc.fail
 | again fn ro c t d => exact Loc.bind (hr _) fun r => again _ _ _ _
 | inScope fn ro body c t d =>
  refine Loc.bind (hr _) fun r => ?_
  unfold thenScope; split
  ·split
   ·exact hr _
   ·exact Loc.pure _
  ·exact Loc.pure _
 | call f args =>
  show Loc (stCall E rec f args)
  unfold stCall; split
  ·exact Loc.pure _
  ·unfold stEnter; split
   ·split
    ·refine Loc.cond (Loc.bind (hr _) fun r => ?_) Loc.fail
     unfold thenCall; split
     ·exact Loc.callTail _ _ _
     ·exact Loc.callTail _ _ _
     ·exact Loc.fail
    ·exact Loc.fail
   ·exact Loc.fail
 | round l fn t assign body =>
  refine Loc.bind (hr _) fun r => ?_
  unfold thenAssign; split
  ·refine Loc.bind (Loc.get _) fun o => ?_
   unfold beginRound; split
   ·refine Loc.ite (Loc.bind (Loc.set _ _) fun _ => Loc.bind (hr _) fun r => ?_) Loc.fail
    unfold thenBody; split
    ·exact Loc.bind (Loc.get _) fun o => Loc.endRound _ _ _ _ _
    ·exact Loc.bind (Loc.get _) fun o => Loc.endRound _ _ _ _ _
    ·exact Loc.fail
   ·exact Loc.fail
  ·exact Loc.fail
theorem Loc.ev (E : Env P) : ∀ (n : Nat) (x : Task), Loc (ev E n x)
 | 0, x => Loc.fail
 | n + 1, x => by rw [ev_succ]; exact Loc.evStep E (Loc.ev E n) x
end
end
end Go.Ab
end
