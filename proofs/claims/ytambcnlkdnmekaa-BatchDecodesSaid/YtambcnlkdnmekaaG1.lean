/- The generic layer, second part: what a piece of code comes to ('den'), over named values; no program stands here. -/
import Derived.Test.YtambcnlkdnmekaaG0
namespace SG
open Go

inductive Seg where
  | plain (n : Nat)
  | grp (n : Nat) (live : List Nat) (mask : Nat)
inductive Sch where
  | fin
  | pur (i : Nat) (r : Sch)
  | hld (i : Nat) (r : Sch)
  | skp (i : Nat) (r : Sch)
  | act (i : Nat) (r : Sch)
  | alt (i : Nat) (r more : Sch)
  | ite (j : Nat) (a b : Sch)
inductive Ann where
  | s
  | r (segs : List Seg)
  | d (ms : List Nat) (sch : Sch)
  | q (a b : Ann)
  | j (live : List Nat) (mask : Nat) (a b : Ann)
  | c (a b : Ann)
  | b (a : Ann)
  | l (live : List Nat) (mask : Nat) (a : Ann)

def withV (r : Option Value) (K : Value → Prop) : Prop := match r with | some v => K v | none => False
def isB (v : Value) (want : Bool) : Bool := match v with | .bool b => b == want | _ => false
def isBo (r : Option Value) (want : Bool) : Bool := match r with | some v => isB v want | none => false
def IfB (v : Value) (want : Bool) (X Y : Prop) : Prop := if isB v want = true then X else Y
def HeldC (S : World → Prop) (p : Value) (K : Value → Prop) : Prop :=
  match p with | .pointer (some a) => ∃ v, (∀ w, S w → w.cell? a = some v) ∧ K v | _ => False
def HeldA (n : Nat) (S : World → Prop) (p : Value) (K : Value → Prop) : Prop :=
  match p with | .pointer (some a) => ∃ xs : List Value, xs.length = n ∧ (∀ w, S w → ∀ i v, xs[i]? = some v → w.cell? (a.add i) = some v) ∧ K (.agg xs.toArray) | _ => False
def HeldR (P : Program) (S : World → Prop) (s : Sem Value) (K : Value → Prop) : Prop := ∃ v, (∀ w, S w → s.run P w = .ok v w) ∧ K v
def DrawS (f : (World → Prop) → Prop) : Prop := ∃ S, f S
def PanicS (P : Program) (v : Value) (Kp : List PanicEntry → World → Prop) (w : World) : Prop :=
  match (Instr.panic v).run P w with | .halt (.panic u) w' => Kp [{ v := u, recovered := false }] w' | _ => False

def isAggT (P : Program) (t : TypeId) : Bool := match P.underlying t with | some (.struct _) => true | some (.array _ _) => true | _ => false
def evs (F : Fr) : List Operand → (List Value → Prop) → Prop
  | [], K => K []
  | x :: xs, K => withV (F.ev x) fun v => evs F xs fun vs => K (v :: vs)
def evps (F : Fr) : List (Nat × Operand) → (List (Nat × Value) → Prop) → Prop
  | [], K => K []
  | (i, x) :: xs, K => withV (F.ev x) fun v => evps F xs fun vs => K ((i, v) :: vs)
def evo (F : Fr) : Option Operand → (Option Value → Prop) → Prop
  | none, K => K none
  | some x, K => withV (F.ev x) fun v => K (some v)
def arg0 (xs : Array Operand) : Operand := match xs.toList with | x :: _ => x | [] => .const undef
def arg1 (xs : Array Operand) : Operand := match xs.toList with | _ :: y :: _ => y | _ => .const undef
def len1 (xs : Array Operand) : Bool := match xs.toList with | [_] => true | _ => false
def len2 (xs : Array Operand) : Bool := match xs.toList with | [_, _] => true | _ => false
def ty0 (xs : Array TypeId) : TypeId := match xs.toList with | t :: _ => t | [] => 0

/-- operations that touch no memory -/
def denPure (P : Program) (F : Fr) (op : Op) (K : Value → Prop) : Prop :=
  match op with
  | .move x | .assign x => withV (F.ev x) K
  | .pick c a b => withV (F.ev c) fun vc => withV (F.ev a) fun va => withV (F.ev b) fun vb => PureS (pickV vc va vb) K
  | .nilCheck x => withV (F.ev x) fun v => PureS (nilV v) K
  | .binOp op t x y _ => withV (F.ev x) fun vx => withV (F.ev y) fun vy => match P.underlying t with
    | some (.int _) => PureS (binV op vx vy) K
    | some .string => PureS (binV op vx vy) K
    | some .bool => PureS (boolV op vx vy) K
    | _ => False
  | .unOp op _ x => withV (F.ev x) fun v => match op with
    | .not => PureS (notV v) K
    | .neg => PureS (negV v) K
    | _ => False
  | .convert s d x => withV (F.ev x) fun v => match P.underlying s, P.underlying d with
    | some (.int _), some (.int k) => PureS (convIntV k v) K
    | _, _ => False
  | .fieldAddr t x f => withV (F.ev x) fun v => match P.underlying t with
    | some (.struct fs) => (match fs[f]? with
      | some fd => cond (Nat.beq (P.cellsOf fd.type) 0) False (PureS (fieldAddrV fd.offset v) K)
      | none => False)
    | _ => False
  | .indexAddr t x i => withV (F.ev x) fun vx => withV (F.ev i) fun vi => match P.underlying t with
    | some (.slice e) => cond (P.info? e).isSome (PureS (indexAddrV (P.cellsOf e) vx vi) K) False
    | _ => False
  | .index t x i => withV (F.ev x) fun vx => withV (F.ev i) fun vi => match P.underlying t with
    | some .string => PureS (indexStrV vx vi) K
    | _ => False
  | .extract x i => withV (F.ev x) fun v => PureS (extractV i v) K
  | .slice t x lo hi mx => withV (F.ev x) fun v => evo F lo fun l => evo F hi fun h => cond mx.isNone (match P.underlying t with
    | some (.slice e) => cond (P.info? e).isSome (PureS (sliceV (P.cellsOf e) v l h) K) False
    | some .string => PureS (sliceStrV v l h) K
    | _ => False) False
  | .makeFunc fn xs ys => evs F xs.toList fun vs => evs F ys.toList fun us => K (.func fn vs.toArray us.toArray)
  | .makeInterface t x => withV (F.ev x) fun v => match P.underlying t with
    | some (.interface _) => False
    | some _ => K (.iface t v)
    | none => False
  | .call c => match c.callee with
    | .builtin .len => cond (len1 c.args && (c.argTypes.size == 1)) (withV (F.ev (arg0 c.args)) fun v => match P.underlying (ty0 c.argTypes) with
      | some (.slice _) => PureS (lenSliceV v) K
      | some .string => PureS (lenStrV v) K
      | _ => False) False
    | .builtin .max => cond (len2 c.args) (withV (F.ev (arg0 c.args)) fun v => withV (F.ev (arg1 c.args)) fun u => PureS (maxV v u) K) False
    | .builtin .min => cond (len2 c.args) (withV (F.ev (arg0 c.args)) fun v => withV (F.ev (arg1 c.args)) fun u => PureS (minV v u) K) False
    | _ => False
  | _ => False
/-- which operations 'denPure' knows -/
def isPure (P : Program) (op : Op) : Bool :=
  match op with
  | .move _ | .assign _ | .pick .. | .nilCheck _ | .unOp .. | .fieldAddr .. | .extract .. | .slice .. | .makeFunc .. | .makeInterface .. => true
  | .indexAddr .. | .index .. => true
  | .binOp _ t _ _ _ => match P.underlying t with | some (.int _) | some .string | some .bool => true | _ => false
  | .convert s d _ => match P.underlying s, P.underlying d with | some (.int _), some (.int _) => true | _, _ => false
  | .call c => match c.callee with
    | .builtin .len => (match P.underlying (ty0 c.argTypes) with | some (.slice _) | some .string => true | _ => false)
    | .builtin .max => true
    | .builtin .min => true
    | _ => false
  | _ => false
/-- operations that read memory (or run a small sum of the model's own) and yield a value: as the model has them -/
def semOf (F : Fr) (op : Op) (type : TypeId) (K : Sem Value → Prop) : Prop :=
  match op with
  | .binOp op t x y _ => withV (F.ev x) fun vx => withV (F.ev y) fun vy => K (do eqGuard op t x y vx vy; binOp op t vx vy)
  | .convert s d x => withV (F.ev x) fun v => K (convert s d v)
  | .build t ps => evps F ps.toList fun vs => K (Instr.build t vs.toArray)
  | .buildSlice t n ps => evps F ps.toList fun vs => K (Instr.buildSlice t n vs.toArray)
  | .makeMap t r => evo F r fun v => K (Instr.makeMap t v)
  | .makeSlice t l c => withV (F.ev l) fun vl => withV (F.ev c) fun vc => K (Instr.makeSlice t vl vc)
  | .lookup t x i ok => withV (F.ev x) fun vx => withV (F.ev i) fun vi => K (Instr.lookup t vx vi ok)
  | .range t x => withV (F.ev x) fun v => K (Instr.range t v)
  | .next x b => withV (F.ev x) fun v => K (Instr.next v b type)
  | .entry x => withV (F.ev x) fun v => K (Instr.entry v)
  | .typeAssert x t a ok => withV (F.ev x) fun v => K (Instr.typeAssert v t a ok)
  | .call c => match c.callee with
    | .builtin .append => evs F c.args.toList fun vs => K (Builtin.append_ c.argTypes type vs.toArray)
    | .builtin .len => evs F c.args.toList fun vs => K (Builtin.len_ c.argTypes type vs.toArray)
    | .builtin .copy => evs F c.args.toList fun vs => K (Builtin.copy_ c.argTypes type vs.toArray)
    | .builtin .delete => evs F c.args.toList fun vs => K (Builtin.delete_ c.argTypes type vs.toArray)
    | .builtin .clear => evs F c.args.toList fun vs => K (Builtin.clear_ c.argTypes type vs.toArray)
    | _ => False
  | _ => False
def okFunc (P : Program) (f : FuncId) : Bool := match P.funcs[f]? with | some fn => fn.body.isSome && !(fn.name == "runtime.NumGoroutine") | none => false
/-- the call of a round: 'yield' -/
def YieldS (P : Program) (l : Nat) (args : Array Value) (K : Value → World → Prop) (w : World) : Prop := YieldAt Fence.wide 0 P l args w fun e w' => match e with | .returned v => K v w' | _ => False
/-- the call of a function, by its value -/
def CallV (P : Program) (pan yl : Bool) (f : Value) (args : List Value) (K : Value → World → Prop) (Kp : List PanicEntry → World → Prop) (w : World) : Prop :=
  match f with
  | .func (.func g) first captured => cond pan (CallP P g ((first ++ args.toArray) ++ captured) K Kp w) (CallS P g ((first ++ args.toArray) ++ captured) K w) ∧ okFunc P g = true
  | .func (.yield l) first _ => cond yl (YieldS P l (first ++ args.toArray) K w) False
  | _ => False
def denOp (P : Program) (pan yl : Bool) (F : Fr) (op : Op) (type : TypeId) (K : Value → World → Prop) (Kp : List PanicEntry → World → Prop) (w : World) : Prop :=
  cond (isPure P op) (denPure P F op fun v => K v w) (match op with
  | .load t x => withV (F.ev x) fun v => cond (isAggT P t) (LoadA (P.cellsOf t) v K w) (cond (P.underlying t).isSome (LoadC v K w) False)
  | .store t x y => withV (F.ev x) fun p => withV (F.ev y) fun v => cond (isAggT P t) (StoreA (P.cellsOf t) p v (fun w' => K undef w') w)
      (cond (Nat.beq (P.cellsOf t) 1) (StoreC p v (fun w' => K undef w') w) False)
  | .alloc t => match P.info? t with
    | some i => (match i.zero with | some z => BoxS t z K w | none => False)
    | none => False
  | .box t x => withV (F.ev x) fun v => BoxS t v K w
  | .mapUpdate t m k x => withV (F.ev m) fun vm => withV (F.ev k) fun vk => withV (F.ev x) fun vx => RunU P (Instr.mapUpdate t vm vk vx) (fun w' => K undef w') w
  | .insert t m k x => withV (F.ev m) fun vm => withV (F.ev k) fun vk => withV (F.ev x) fun vx => RunU P (Instr.mapUpdate t vm vk vx) (fun w' => K undef w') w
  | .panic x => withV (F.ev x) fun v => PanicS P v Kp w
  | .call c => match c.callee with
    | .value (.func f) => evs F c.args.toList fun vs => cond (okFunc P f) (cond pan (CallP P f vs.toArray K Kp w) (CallS P f vs.toArray K w)) False
    | .value x => withV (F.ev x) fun v => evs F c.args.toList fun vs => CallV P pan yl v vs K Kp w
    | _ => semOf F op type fun s => RunS P s K w
  | _ => semOf F op type fun s => RunS P s K w)

/-- whether an operation's guard is known to hold -/
def actv (ops : Array Oper) (o : Oper) (F : Fr) (X : Prop) : Prop := match o.guard with
  | none => X
  | some (j, want) => match (ops[j]?).bind (·.dst) with | some d => cond (isBo (F d) want) X False | none => False
def inact (ops : Array Oper) (o : Oper) (F : Fr) (X : Prop) : Prop := match o.guard with
  | none => False
  | some (j, want) => match (ops[j]?).bind (·.dst) with | some d => (match F d with | some v => cond (isB v want) False X | none => False) | none => False
def denL (P : Program) (pan : Bool) (ops : Array Oper) (Kp : List PanicEntry → World → Prop) : List Oper → (Fr → World → Prop) → Fr → World → Prop
  | [], K, F, w => K F w
  | o :: r, K, F, w => actv ops o F (denOp P pan true F o.op o.type (fun v w' => denL P pan ops Kp r K (F.put o.dst v) w') Kp w)
def undefs : List Oper → Fr → Fr
  | [], F => F
  | o :: r, F => undefs r (F.put o.dst undef)
def mkJ : (live : List Nat) → Fr → (Fr → World → Prop) → Cur live.length
  | [], F, k => fun w => k F w
  | t :: ls, F, k => fun v => mkJ ls (F.upd t v) k
def appF : (live : List Nat) → Cur live.length → Fr → World → Prop
  | [], J, _, w => J w
  | t :: ls, J, F, w => withV (F t) fun v => appF ls (J v) F w
def guardOf (ops : Array Oper) : List Oper → Option (Nat × Bool)
  | o :: _ => match o.guard with | some (j, want) => ((ops[j]?).bind (·.dst)).map fun d => (d, want) | none => none
  | [] => none
def denSegs (P : Program) (pan : Bool) (ops : Array Oper) (Kp : List PanicEntry → World → Prop) : List Seg → List Oper → (Fr → World → Prop) → Fr → World → Prop
  | [], _, K, F, w => K F w
  | .plain n :: ss, l, K, F, w => denL P pan ops Kp (l.take n) (fun F' w' => denSegs P pan ops Kp ss (l.drop n) K F' w') F w
  | .grp n live mask :: ss, l, K, F, w => match guardOf ops (l.take n) with
    | some (d, want) => withV (F d) fun v =>
        JoinS (mkJ live (F.kill mask) fun F' w' => denSegs P pan ops Kp ss (l.drop n) K F' w') fun J =>
          IfB v want (denL P pan ops Kp (l.take n) (fun F' w' => appF live J F' w') (F.upd d (.bool want)) w) (appF live J (undefs (l.take n) F) w)
    | none => False
def heldOp (P : Program) (S : World → Prop) (F : Fr) (op : Op) (type : TypeId) (K : Value → Prop) : Prop :=
  match op with
  | .load t x => withV (F.ev x) fun v => cond (isAggT P t) (HeldA (P.cellsOf t) S v K) (cond (P.underlying t).isSome (HeldC S v K) False)
  | _ => semOf F op type fun s => HeldR P S s K
/-- 'ms': of each operation the numbers (bits) of those for which it waits, through others too -/
def need (ms : List Nat) (held : List Nat) (j : Nat) : Bool := !(held.all fun i => Nat.testBit (ms.getD j 0) i)
def heldOf : Sch → List Nat
  | .fin => []
  | .pur _ r | .skp _ r | .act _ r => heldOf r
  | .hld i r => i :: heldOf r
  | .alt _ r more => heldOf r ++ heldOf more
  | .ite _ a b => heldOf a ++ heldOf b
def denSch (P : Program) (pan : Bool) (ops : Array Oper) (ms held : List Nat) (Kp : List PanicEntry → World → Prop) (S : World → Prop) (K : Fr → World → Prop) : Sch → Fr → World → Prop
  | .fin, F, w => K F w
  | .pur i r, F, w => match ops[i]? with
    | some o => actv ops o F (denPure P F o.op fun v => denSch P pan ops ms held Kp S K r (F.put o.dst v) w)
    | none => False
  | .hld i r, F, w => match ops[i]? with
    | some o => actv ops o F (heldOp P S F o.op o.type fun v => denSch P pan ops ms held Kp S K r (F.put o.dst v) w)
    | none => False
  | .skp i r, F, w => match ops[i]? with
    | some o => inact ops o F (denSch P pan ops ms held Kp S K r (F.put o.dst undef) w)
    | none => False
  | .act i r, F, w => match ops[i]? with
    | some o => actv ops o F (denOp P pan false F o.op o.type (fun v w' => cond (need ms held i) (S w' ∧ denSch P pan ops ms held Kp S K r (F.put o.dst v) w') (denSch P pan ops ms held Kp S K r (F.put o.dst v) w')) Kp w)
    | none => False
  | .alt i r more, F, w => (match ops[i]? with
    | some o => actv ops o F (denOp P pan false F o.op o.type (fun v w' => cond (need ms held i) (S w' ∧ denSch P pan ops ms held Kp S K r (F.put o.dst v) w') (denSch P pan ops ms held Kp S K r (F.put o.dst v) w')) Kp w)
    | none => False) ∧ denSch P pan ops ms held Kp S K more F w
  | .ite j a b, F, w => match (ops[j]?).bind (·.dst) with
    | some d => withV (F d) fun v => CondS v (denSch P pan ops ms held Kp S K a (F.upd d (.bool true)) w) (denSch P pan ops ms held Kp S K b (F.upd d (.bool false)) w)
    | none => False

abbrev Post := Exit → Fr → World → Prop
def thenQ (K : Fr → World → Prop) (Q : Post) : Post := fun e F w => match e with | .normal => K F w | e => Q e F w
def blockQ (id : Nat) (Q : Post) : Post := fun e F w => match e with | .exit i => cond (Nat.beq i id) (Q .normal F w) (Q (.exit i) F w) | e => Q e F w

def den (P : Program) (pan : Bool) (Kp : List PanicEntry → World → Prop) : Code → Ann → Post → Fr → World → Prop
  | .skip, _, Q, F, w => Q .normal F w
  | .region _ ops false, .r segs, Q, F, w => denSegs P pan ops Kp segs ops.toList (fun F' w' => Q .normal F' w') F w
  | .region _ ops true, .d ms sch, Q, F, w => DrawS fun S => S w.drew ∧ denSch P pan ops ms (heldOf sch) Kp S (fun F' w' => Q .normal F' w') sch F w.drew
  | .seq a b, .q x y, Q, F, w => den P pan Kp a x (thenQ (fun F' w' => den P pan Kp b y Q F' w') Q) F w
  | .seq a b, .j live mask x y, Q, F, w =>
    JoinS (mkJ live (F.kill mask) fun F' w' => den P pan Kp b y Q F' w') fun J => den P pan Kp a x (thenQ (fun F' w' => appF live J F' w') Q) F w
  | .cond c a b, .c x y, Q, F, w => withV (F.ev c) fun v => CondS v (den P pan Kp a x Q F w) (den P pan Kp b y Q F w)
  | .block id c, .b x, Q, F, w => den P pan Kp c x (blockQ id Q) F w
  | .loop c, .l live mask x, Q, F, w =>
    appF live (LoopS live.length fun self => mkJ live (F.kill mask) fun F' w' => den P pan Kp c x (thenQ (fun F'' w'' => appF live self F'' w'') Q) F' w') F w
  | .exit id, _, Q, F, w => Q (.exit id) F w
  | .ret, _, Q, F, w => Q .ret F w
  | _, _, _, _, _ => False

/-! ### the checks of an annotation -/
def noDraw : Code → Bool
  | .region _ _ d => !d
  | .seq a b => noDraw a && noDraw b
  | .cond _ a b => noDraw a && noDraw b
  | .block _ c => noDraw c
  | .loop c => noDraw c
  | _ => true
def dsts : Code → List Nat
  | .region _ ops _ => ops.toList.filterMap (·.dst)
  | .seq a b => dsts a ++ dsts b
  | .cond _ a b => dsts a ++ dsts b
  | .block _ c => dsts c
  | .loop c => dsts c
  | _ => []
def dstsOk (n : Nat) (c : Code) : Bool := (dsts c).all fun d => Nat.blt d n
def segsOk (ops : Array Oper) : List Seg → List Oper → Bool
  | [], l => l.isEmpty
  | .plain n :: ss, l => (l.take n).all (fun o => o.guard.isNone) && segsOk ops ss (l.drop n)
  | .grp n _ mask :: ss, l => (l.take n).all (fun o => (o.guard == (l.head?.bind (·.guard))) && (match o.dst with | some d => Nat.testBit mask d | none => true)) &&
      segsOk ops ss (l.drop n)
def chain : Sch → List Nat
  | .alt i _ more => i :: chain more
  | .act i _ => [i]
  | _ => []
def schLen : Sch → Nat
  | .fin => 0
  | .pur _ r | .hld _ r | .skp _ r | .act _ r => schLen r + 1
  | .alt _ r more => max (schLen r + 1) (schLen more)
  | .ite _ a b => max (schLen a) (schLen b)
def readyIs (ops : Array Oper) (listed : Array Bool) (l : List Nat) : Bool := (Region.ready .any ops listed) == l
/-- all that could come up ahead of number i keeps what is held -/
def calm (n : Nat) (ms held : List Nat) (i : Nat) : Bool := (List.range n).all fun j => Nat.beq j i || need ms held j || Nat.testBit (ms.getD j 0) i
def maskOf (ms : List Nat) (j : Nat) (o : Oper) : Nat :=
  o.after.toList.foldl (fun s e => cond (Region.binds .any e) (s ||| 2 ^ e.on ||| cond (Nat.blt e.on j) (ms.getD e.on 0) 0) s) 0
def masksOk (ms : List Nat) : Nat → List Oper → Bool
  | _, [] => true
  | j, o :: r => Nat.beq (ms.getD j 0) (maskOf ms j o) && masksOk ms (j + 1) r
/-- 'inside': among alternatives, of which the first has been asked whether they are all that may come up; 'live': what is held holds -/
def schOk (ops : Array Oper) (ms held : List Nat) : Bool → Bool → Sch → Array Bool → Bool
  | inside, _, .fin, listed => !inside && readyIs ops listed []
  | inside, live, .pur i r, listed | inside, live, .skp i r, listed =>
    !inside && (Region.free .any ops listed i && (Region.ready .any ops listed).contains i && schOk ops ms held false live r (listed.setIfInBounds i true))
  | inside, live, .hld i r, listed =>
    !inside && ((live && calm ops.size ms held i) && Region.free .any ops listed i && (Region.ready .any ops listed).contains i && schOk ops ms held false live r (listed.setIfInBounds i true))
  | inside, _, .act i r, listed => (inside || readyIs ops listed [i]) && schOk ops ms held false (need ms held i) r (listed.setIfInBounds i true)
  | inside, live, .alt i r more, listed => (inside || readyIs ops listed (i :: chain more)) && schOk ops ms held false (need ms held i) r (listed.setIfInBounds i true) && schOk ops ms held true live more listed
  | inside, live, .ite _ a b, listed => !inside && (schOk ops ms held false live a listed && schOk ops ms held false live b listed)
def annOk : Code → Ann → Bool
  | .region _ ops false, .r segs => segsOk ops segs ops.toList
  | .region _ ops true, .d ms sch => Region.noSelect ops && Nat.ble (schLen sch) ops.size && Nat.beq ms.length ops.size && masksOk ms 0 ops.toList && schOk ops ms (heldOf sch) false true sch (Array.replicate ops.size false)
  | .seq a b, .q x y => annOk a x && annOk b y
  | .seq a b, .j _ mask x y => (dsts a).all (Nat.testBit mask) && annOk a x && annOk b y
  | .cond _ a b, .c x y => annOk a x && annOk b y
  | .block _ c, .b x => annOk c x
  | .loop c, .l _ mask x => (dsts c).all (Nat.testBit mask) && annOk c x
  | .skip, _ | .exit _, _ | .ret, _ => true
  | _, _ => false

/-- what a function's body comes to -/
def resL (P : Program) : List ResultVar → Fr → World → (List Value → Prop) → Prop
  | [], _, _, K => K []
  | .tmp t :: r, F, w, K => withV (F t) fun v => resL P r F w fun vs => K (v :: vs)
  | .cell c t :: r, F, w, K => withV (F c) fun p => cond (isAggT P t) (LoadA (P.cellsOf t) p (fun v _ => resL P r F w fun vs => K (v :: vs)) w)
      (cond (P.underlying t).isSome (LoadC p (fun v _ => resL P r F w fun vs => K (v :: vs)) w) False)
def one (vs : List Value) : Value := match vs with | [v] => v | vs => .tuple vs.toArray
def resV (P : Program) (rs : List ResultVar) (F : Fr) (w : World) (K : Value → Prop) : Prop := resL P rs F w fun vs => K (one vs)
def argF : List Value → Nat → Fr
  | [], _ => fun _ => none
  | v :: vs, i => (argF vs (i + 1)).upd i v
def denFn (P : Program) (pan : Bool) (c : Code) (rs : Array ResultVar) (ann : Ann) (args : List Value) (K : Value → World → Prop) (Kp : List PanicEntry → World → Prop) (w : World) : Prop :=
  den P pan Kp c ann (fun e F w' => match e with | .normal => resV P rs.toList F w' fun v => K v w' | .ret => resV P rs.toList F w' fun v => K v w' | _ => False) (argF args 0) w
end SG
