/- Several texts of ours, laid one behind the other. -/
import Derived.Orders
import Derived.OrdersHeld
import Derived.Tactics
import Derived.Laws.Entries
import Derived.Laws.Cells
import Derived.Laws.Strings
import Derived.KernelRfl
import Derived.RangeFuncNested
import Derived.RangeFuncLeaves
import Derived.TacticsIn
namespace SG
open Go

abbrev Fr := Nat → Option Value
def Fr.upd (F : Fr) (d : Nat) (v : Value) : Fr := fun t => cond (Nat.beq t d) (some v) (F t)
def Fr.put (F : Fr) (d : Option Nat) (v : Value) : Fr := match d with | some d => F.upd d v | none => F
def Fr.kill (F : Fr) (m : Nat) : Fr := fun t => cond (Nat.testBit m t) none (F t)
def Fr.ev (F : Fr) : Operand → Option Value
  | .tmp t => F t
  | .const v => some v
  | .global g => some (.pointer (some ⟨g, 0, none⟩))
  | .func f => some (.func (.func f) #[] #[])

structure Stat where
  n : Nat
  ds : List Deferred := []
  fx : Nat → Option Value := fun _ => none
def Stat.wr (s : Stat) (d : Nat) : Prop := d < s.n ∧ s.fx d = none
structure Stands (n : Stat) (a : Act) : Prop where
  size : a.tmps.size = n.n
  defers : a.defers = n.ds
  fix : ∀ t v, n.fx t = some v → a.tmps.getD t undef = v
theorem getD_put_ne {a : Act} {d t : Nat} (v : Value) (h : t ≠ d) : (a.put (some d) v).tmps.getD t undef = a.tmps.getD t undef := by
  simp only [Act.put, Array.getD_eq_getD_getElem?]
  rw [Array.getElem?_setIfInBounds_ne (Ne.symm h)]
theorem Stands.put {n : Stat} {a : Act} (h : Stands n a) {d : Option Nat} (hd : ∀ t, d = some t → n.wr t) (v : Value) : Stands n (a.put d v) := by
  cases d with
  | none => exact h
  | some d =>
    refine ⟨by simp [Act.put, h.size], by simpa [Act.put] using h.defers, fun t u hu => ?_⟩
    have hne : t ≠ d := fun e => by rw [e, (hd d rfl).2] at hu; cases hu
    rw [getD_put_ne v hne]; exact h.fix t u hu
theorem Stands.unput {n : Stat} {a : Act} {d : Option Nat} (hd : ∀ t, d = some t → n.wr t) {v : Value} (h : Stands n (a.put d v)) : Stands n a := by
  cases d with
  | none => exact h
  | some d =>
    refine ⟨by simpa [Act.put] using h.size, by simpa [Act.put] using h.defers, fun t u hu => ?_⟩
    have hne : t ≠ d := fun e => by rw [e, (hd d rfl).2] at hu; cases hu
    rw [← getD_put_ne v hne]; exact h.fix t u hu
structure Agree (n : Stat) (F : Fr) (a : Act) : Prop where
  st : Stands n a
  vals : ∀ t v, F t = some v → a.tmps.getD t undef = v

theorem Fr.upd_same (F : Fr) (d : Nat) (v : Value) : F.upd d v d = some v := by simp [Fr.upd]
theorem Fr.upd_ne (F : Fr) {d t : Nat} (v : Value) (h : t ≠ d) : F.upd d v t = F t := by
  have : Nat.beq t d = false := Bool.eq_false_iff.2 fun e => h (Nat.eq_of_beq_eq_true e)
  simp [Fr.upd, this]

theorem Agree.ev {n : Stat} {F : Fr} {a : Act} (h : Agree n F a) {x : Operand} {v : Value} (hx : F.ev x = some v) : a.eval x = v := by
  cases x with
  | tmp t => exact h.vals t v hx
  | const c => simpa [Fr.ev, Act.eval] using hx
  | global g => simpa [Fr.ev, Act.eval] using hx
  | func f => simpa [Fr.ev, Act.eval] using hx

theorem Agree.put {n : Stat} {F : Fr} {a : Act} (h : Agree n F a) {d : Option Nat} (hd : ∀ t, d = some t → n.wr t) (v : Value) : Agree n (F.put d v) (a.put d v) := by
  cases d with
  | none => exact h
  | some d =>
    have hlt := hd d rfl
    refine ⟨h.st.put hd v, fun t u hu => ?_⟩
    by_cases ht : t = d
    · subst ht
      simp only [Fr.put, Fr.upd_same, Option.some.injEq] at hu
      subst hu
      simp [Act.put, h.st.size, hlt.1]
    · simp only [Fr.put, Fr.upd_ne F v ht] at hu
      have := h.vals t u hu
      simp only [Act.put, Array.getD_eq_getD_getElem?] at this ⊢
      rw [Array.getElem?_setIfInBounds_ne (Ne.symm ht)]
      exact this

theorem Agree.kill {n : Stat} {F : Fr} {a : Act} (h : Agree n F a) (m : Nat) : Agree n (F.kill m) a := by
  refine ⟨h.st, fun t v hv => ?_⟩
  unfold Fr.kill at hv
  cases hm : Nat.testBit m t
  · rw [hm] at hv; exact h.vals t v hv
  · rw [hm] at hv; cases hv

theorem Agree.upd {n : Stat} {F : Fr} {a : Act} (h : Agree n F a) {d : Nat} {v : Value} (hv : a.tmps.getD d undef = v) : Agree n (F.upd d v) a := by
  refine ⟨h.st, fun t u hu => ?_⟩
  by_cases ht : t = d
  · subst ht
    simp only [Fr.upd_same, Option.some.injEq] at hu
    exact hv.trans hu
  · rw [Fr.upd_ne F v ht] at hu
    exact h.vals t u hu

def shiftV (op : BinOp) (k : IntKind) (a b : Int) : Option Value :=
  if 0 ≤ b then
    match op with
    | .shl => some (.int k (k.wrap (a * 2 ^ (min b.toNat k.bits))))
    | .shr => some (.int k (a.fdiv (2 ^ (min b.toNat k.bits))))
    | _ => none
  else none
def intV (op : BinOp) (k : IntKind) (a b : Int) : Option Value :=
  match op with
  | .add => some (.int k (k.wrap (a + b)))
  | .sub => some (.int k (k.wrap (a - b)))
  | .mul => some (.int k (k.wrap (a * b)))
  | .quo => if b = 0 then none else some (.int k (k.wrap (a.tdiv b)))
  | .rem => if b = 0 then none else some (.int k (a.tmod b))
  | .and => some (.int k (bits .and k a b))
  | .or => some (.int k (bits .or k a b))
  | .xor => some (.int k (bits .xor k a b))
  | .andNot => some (.int k (bits .andNot k a b))
  | .eql => some (.bool (decide (a = b)))
  | .neq => some (.bool (!decide (a = b)))
  | .lss => some (.bool (decide (a < b)))
  | .leq => some (.bool (decide (a ≤ b)))
  | .gtr => some (.bool (decide (b < a)))
  | .geq => some (.bool (decide (b ≤ a)))
  | _ => none
def strV (op : BinOp) (a b : ByteArray) : Option Value :=
  match op with
  | .eql => some (.bool (a.toList == b.toList))
  | .neq => some (.bool (!(a.toList == b.toList)))
  | .lss => some (.bool (Op.bytesLess a.toList b.toList))
  | .geq => some (.bool (!(Op.bytesLess a.toList b.toList)))
  | .add => if ((a.size + b.size : Nat) : Int) > IntKind.i64.max then none else some (.string (a ++ b))
  | _ => none
def binV (op : BinOp) : Value → Value → Option Value
  | .int k a, .int k' b => match op with
    | .shl => shiftV .shl k a b
    | .shr => shiftV .shr k a b
    | _ => if k = k' then intV op k a b else none
  | .string a, .string b => strV op a b
  | _, _ => none
def boolV (op : BinOp) : Value → Value → Option Value
  | .bool a, .bool b => match op with
    | .eql => some (.bool (a == b))
    | .neq => some (.bool (!(a == b)))
    | _ => none
  | _, _ => none
def pickV (c a b : Value) : Option Value := match c with | .bool t => some (if t then a else b) | _ => none
def nilV : Value → Option Value
  | .pointer (some a) => some (.pointer (some a))
  | .func (.func f) x y => some (.func (.func f) x y)
  | _ => none
def fieldAddrV (off : Nat) : Value → Option Value
  | .pointer (some a) => some (.pointer (some (a.add off)))
  | _ => none
def indexAddrV (size : Nat) : Value → Value → Option Value
  | .slice (some a) len _, .int _ i => if 0 ≤ i ∧ i < len then some (.pointer (some (a.add (i.toNat * size)))) else none
  | _, _ => none
def indexStrV : Value → Value → Option Value
  | .string s, .int _ i => if 0 ≤ i then (s[i.toNat]?).map fun b => .int .u8 b.toNat else none
  | _, _ => none
def lenSliceV : Value → Option Value
  | .slice _ n _ => some (.int .i64 n)
  | _ => none
def lenStrV : Value → Option Value
  | .string s => some (.int .i64 s.size)
  | _ => none
def extractV (i : Nat) : Value → Option Value
  | .tuple vs => vs[i]?
  | _ => none
def convIntV (k : IntKind) : Value → Option Value
  | .int _ n => some (.int k (k.wrap n))
  | _ => none
def notV : Value → Option Value
  | .bool b => some (.bool (!b))
  | _ => none
def negV : Value → Option Value
  | .int k n => some (.int k (k.wrap (0 - n)))
  | _ => none
def maxV : Value → Value → Option Value
  | .int k x, .int _ y => some (.int k (if y > x then y else x))
  | _, _ => none
def minV : Value → Value → Option Value
  | .int k x, .int _ y => some (.int k (if y < x then y else x))
  | _, _ => none
def boundV (dflt : Nat) (most : Nat) : Option Value → Option Nat
  | none => some dflt
  | some (.int _ i) => if 0 ≤ i ∧ i ≤ most then some i.toNat else none
  | some _ => none
def sliceV (size : Nat) (x : Value) (lo hi : Option Value) : Option Value :=
  match x with
  | .slice a len cap => (boundV len cap hi).bind fun h => (boundV 0 h lo).bind fun l =>
      some (.slice (if cap = l then a else a.map (·.add (l * size))) (h - l) (cap - l))
  | _ => none
def sliceStrV (x : Value) (lo hi : Option Value) : Option Value :=
  match x with
  | .string s => (boundV s.size s.size hi).bind fun h => (boundV 0 h lo).bind fun l => some (.string (s.extract l h))
  | _ => none

def PureS (r : Option Value) (K : Value → Prop) : Prop := match r with | some v => K v | none => False
def CondS (v : Value) (X Y : Prop) : Prop := match v with | .bool b => if b then X else Y | _ => False
structure JoinS {C : Type} (Z : C) (X : C → Prop) : Prop where
  here : X Z
def RunS (P : Program) (s : Sem Value) (K : Value → World → Prop) (w : World) : Prop := match s.run P w with | .ok v w' => K v w' | .halt _ _ => False
def RunU (P : Program) (s : Sem Unit) (K : World → Prop) (w : World) : Prop := match s.run P w with | .ok _ w' => K w' | .halt _ _ => False
def CallS (P : Program) (f : FuncId) (args : Array Value) (K : Value → World → Prop) (w : World) : Prop :=
  Calls P f args w fun e w' => match e with | .returned v => K v w' | _ => False
def CallP (P : Program) (f : FuncId) (args : Array Value) (K : Value → World → Prop) (Kp : List PanicEntry → World → Prop) (w : World) : Prop :=
  Calls P f args w fun e w' => match e with | .returned v => K v w' | .panicked c => Kp c w' | .outgrown => False
def LoadC (p : Value) (K : Value → World → Prop) (w : World) : Prop :=
  match p with | .pointer (some a) => (match w.cell? a with | some v => K v w | none => False) | _ => False
def LoadA (n : Nat) (p : Value) (K : Value → World → Prop) (w : World) : Prop :=
  match p with | .pointer (some a) => (∃ xs : List Value, xs.length = n ∧ (∀ i v, xs[i]? = some v → w.cell? (a.add i) = some v) ∧ K (.agg xs.toArray) w) | _ => False
def StoreC (p v : Value) (K : World → Prop) (w : World) : Prop :=
  match p with | .pointer (some a) => v.oneCell' = true ∧ (w.cell? a).isSome = true ∧ w.frozen? a = false ∧ K (w.setCell a v) | _ => False
def setCells (w : World) (a : Addr) : Nat → List Value → World
  | _, [] => w
  | i, v :: vs => setCells (w.setCell (a.add i) v) a (i + 1) vs
def StoreA (n : Nat) (p v : Value) (K : World → Prop) (w : World) : Prop :=
  match p, v with
  | .pointer (some a), .agg cs => cs.size = n ∧ (∀ v ∈ cs, v.oneCell' = true) ∧ (∀ i, i < n → (w.cell? (a.add i)).isSome = true ∧ w.frozen? (a.add i) = false) ∧ K (setCells w a 0 cs.toList)
  | _, _ => False
def BoxS (t : TypeId) (v : Value) (K : Value → World → Prop) (w : World) : Prop :=
  K (.pointer (some ⟨w.heap.size, 0, none⟩)) (w.alloc (.cells v.cells t))

def Cur : Nat → Type
  | 0 => World → Prop
  | n + 1 => Value → Cur n
def app : (n : Nat) → Cur n → List Value → World → Prop
  | 0, J, _, w => J w
  | n + 1, J, v :: vs, w => app n (J v) vs w
  | _ + 1, _, [], _ => False
def curry : (n : Nat) → (List Value → World → Prop) → Cur n
  | 0, f => fun w => f [] w
  | n + 1, f => fun v => curry n fun vs => f (v :: vs)
theorem app_curry : ∀ (n : Nat) (f : List Value → World → Prop) (vs : List Value) (w : World), vs.length = n → (app n (curry n f) vs w ↔ f vs w)
  | 0, f, vs, w, h => by
    have : vs = [] := List.eq_nil_of_length_eq_zero h
    subst this; exact Iff.rfl
  | n + 1, f, v :: vs, w, h => app_curry n (fun vs => f (v :: vs)) vs w (by simpa using h)
  | n + 1, f, [], w, h => by simp at h
def LoopL (n : Nat) (body : Cur n → Cur n) (vs : List Value) (w : World) : Prop :=
  ∃ (I : List Value → World → Prop) (μ : List Value → World → Nat), I vs w ∧
    ∀ vs w, vs.length = n → I vs w → app n (body (curry n fun vs' w' => I vs' w' ∧ μ vs' w' < μ vs w)) vs w
def LoopS (n : Nat) (body : Cur n → Cur n) : Cur n := curry n (LoopL n body)

end SG

namespace SG
open Go

inductive Seg where
  | plain (n : Nat)
  | grp (n : Nat) (live : List Nat) (mask : Nat)
inductive Sch where
  | fin
  | pur (i : Nat) (r : Sch)
  | hld (i : Nat) (r : Sch)
  | skp (i : Nat) (r : Sch)
  | act (i : Nat) (r : Sch)
  | alt (i : Nat) (r more : Sch)
  | ite (j : Nat) (a b : Sch)
inductive Ann where
  | s
  | r (segs : List Seg)
  | d (ms : List Nat) (sch : Sch)
  | q (a b : Ann)
  | j (live : List Nat) (mask : Nat) (a b : Ann)
  | c (a b : Ann)
  | b (a : Ann)
  | l (live : List Nat) (mask : Nat) (a : Ann)

def withV (r : Option Value) (K : Value → Prop) : Prop := match r with | some v => K v | none => False
def isB (v : Value) (want : Bool) : Bool := match v with | .bool b => b == want | _ => false
def isBo (r : Option Value) (want : Bool) : Bool := match r with | some v => isB v want | none => false
def IfB (v : Value) (want : Bool) (X Y : Prop) : Prop := if isB v want = true then X else Y
def HeldC (S : World → Prop) (p : Value) (K : Value → Prop) : Prop :=
  match p with | .pointer (some a) => ∃ v, (∀ w, S w → w.cell? a = some v) ∧ K v | _ => False
def HeldA (n : Nat) (S : World → Prop) (p : Value) (K : Value → Prop) : Prop :=
  match p with | .pointer (some a) => ∃ xs : List Value, xs.length = n ∧ (∀ w, S w → ∀ i v, xs[i]? = some v → w.cell? (a.add i) = some v) ∧ K (.agg xs.toArray) | _ => False
def HeldR (P : Program) (S : World → Prop) (s : Sem Value) (K : Value → Prop) : Prop := ∃ v, (∀ w, S w → s.run P w = .ok v w) ∧ K v
def DrawS (f : (World → Prop) → Prop) : Prop := ∃ S, f S
def PanicS (P : Program) (v : Value) (Kp : List PanicEntry → World → Prop) (w : World) : Prop :=
  match (Instr.panic v).run P w with | .halt (.panic u) w' => Kp [{ v := u, recovered := false }] w' | _ => False

def isAggT (P : Program) (t : TypeId) : Bool := match P.underlying t with | some (.struct _) => true | some (.array _ _) => true | _ => false
def evs (F : Fr) : List Operand → (List Value → Prop) → Prop
  | [], K => K []
  | x :: xs, K => withV (F.ev x) fun v => evs F xs fun vs => K (v :: vs)
def evps (F : Fr) : List (Nat × Operand) → (List (Nat × Value) → Prop) → Prop
  | [], K => K []
  | (i, x) :: xs, K => withV (F.ev x) fun v => evps F xs fun vs => K ((i, v) :: vs)
def evo (F : Fr) : Option Operand → (Option Value → Prop) → Prop
  | none, K => K none
  | some x, K => withV (F.ev x) fun v => K (some v)
def arg0 (xs : Array Operand) : Operand := match xs.toList with | x :: _ => x | [] => .const undef
def arg1 (xs : Array Operand) : Operand := match xs.toList with | _ :: y :: _ => y | _ => .const undef
def len1 (xs : Array Operand) : Bool := match xs.toList with | [_] => true | _ => false
def len2 (xs : Array Operand) : Bool := match xs.toList with | [_, _] => true | _ => false
def ty0 (xs : Array TypeId) : TypeId := match xs.toList with | t :: _ => t | [] => 0

def denPure (P : Program) (F : Fr) (op : Op) (K : Value → Prop) : Prop :=
  match op with
  | .move x | .assign x => withV (F.ev x) K
  | .pick c a b => withV (F.ev c) fun vc => withV (F.ev a) fun va => withV (F.ev b) fun vb => PureS (pickV vc va vb) K
  | .nilCheck x => withV (F.ev x) fun v => PureS (nilV v) K
  | .binOp op t x y _ => withV (F.ev x) fun vx => withV (F.ev y) fun vy => match P.underlying t with
    | some (.int _) => PureS (binV op vx vy) K
    | some .string => PureS (binV op vx vy) K
    | some .bool => PureS (boolV op vx vy) K
    | _ => False
  | .unOp op _ x => withV (F.ev x) fun v => match op with
    | .not => PureS (notV v) K
    | .neg => PureS (negV v) K
    | _ => False
  | .convert s d x => withV (F.ev x) fun v => match P.underlying s, P.underlying d with
    | some (.int _), some (.int k) => PureS (convIntV k v) K
    | _, _ => False
  | .fieldAddr t x f => withV (F.ev x) fun v => match P.underlying t with
    | some (.struct fs) => (match fs[f]? with
      | some fd => cond (Nat.beq (P.cellsOf fd.type) 0) False (PureS (fieldAddrV fd.offset v) K)
      | none => False)
    | _ => False
  | .indexAddr t x i => withV (F.ev x) fun vx => withV (F.ev i) fun vi => match P.underlying t with
    | some (.slice e) => cond (P.info? e).isSome (PureS (indexAddrV (P.cellsOf e) vx vi) K) False
    | _ => False
  | .index t x i => withV (F.ev x) fun vx => withV (F.ev i) fun vi => match P.underlying t with
    | some .string => PureS (indexStrV vx vi) K
    | _ => False
  | .extract x i => withV (F.ev x) fun v => PureS (extractV i v) K
  | .slice t x lo hi mx => withV (F.ev x) fun v => evo F lo fun l => evo F hi fun h => cond mx.isNone (match P.underlying t with
    | some (.slice e) => cond (P.info? e).isSome (PureS (sliceV (P.cellsOf e) v l h) K) False
    | some .string => PureS (sliceStrV v l h) K
    | _ => False) False
  | .makeFunc fn xs ys => evs F xs.toList fun vs => evs F ys.toList fun us => K (.func fn vs.toArray us.toArray)
  | .makeInterface t x => withV (F.ev x) fun v => match P.underlying t with
    | some (.interface _) => False
    | some _ => K (.iface t v)
    | none => False
  | .call c => match c.callee with
    | .builtin .len => cond (len1 c.args && (c.argTypes.size == 1)) (withV (F.ev (arg0 c.args)) fun v => match P.underlying (ty0 c.argTypes) with
      | some (.slice _) => PureS (lenSliceV v) K
      | some .string => PureS (lenStrV v) K
      | _ => False) False
    | .builtin .max => cond (len2 c.args) (withV (F.ev (arg0 c.args)) fun v => withV (F.ev (arg1 c.args)) fun u => PureS (maxV v u) K) False
    | .builtin .min => cond (len2 c.args) (withV (F.ev (arg0 c.args)) fun v => withV (F.ev (arg1 c.args)) fun u => PureS (minV v u) K) False
    | _ => False
  | _ => False
def isPure (P : Program) (op : Op) : Bool :=
  match op with
  | .move _ | .assign _ | .pick .. | .nilCheck _ | .unOp .. | .fieldAddr .. | .extract .. | .slice .. | .makeFunc .. | .makeInterface .. => true
  | .indexAddr .. | .index .. => true
  | .binOp _ t _ _ _ => match P.underlying t with | some (.int _) | some .string | some .bool => true | _ => false
  | .convert s d _ => match P.underlying s, P.underlying d with | some (.int _), some (.int _) => true | _, _ => false
  | .call c => match c.callee with
    | .builtin .len => (match P.underlying (ty0 c.argTypes) with | some (.slice _) | some .string => true | _ => false)
    | .builtin .max => true
    | .builtin .min => true
    | _ => false
  | _ => false
def semOf (F : Fr) (op : Op) (type : TypeId) (K : Sem Value → Prop) : Prop :=
  match op with
  | .binOp op t x y _ => withV (F.ev x) fun vx => withV (F.ev y) fun vy => K (do eqGuard op t x y vx vy; binOp op t vx vy)
  | .convert s d x => withV (F.ev x) fun v => K (convert s d v)
  | .build t ps => evps F ps.toList fun vs => K (Instr.build t vs.toArray)
  | .buildSlice t n ps => evps F ps.toList fun vs => K (Instr.buildSlice t n vs.toArray)
  | .makeMap t r => evo F r fun v => K (Instr.makeMap t v)
  | .makeSlice t l c => withV (F.ev l) fun vl => withV (F.ev c) fun vc => K (Instr.makeSlice t vl vc)
  | .lookup t x i ok => withV (F.ev x) fun vx => withV (F.ev i) fun vi => K (Instr.lookup t vx vi ok)
  | .range t x => withV (F.ev x) fun v => K (Instr.range t v)
  | .next x b => withV (F.ev x) fun v => K (Instr.next v b type)
  | .entry x => withV (F.ev x) fun v => K (Instr.entry v)
  | .field t x f => withV (F.ev x) fun v => K (Instr.field t v f)
  | .typeAssert x t a ok => withV (F.ev x) fun v => K (Instr.typeAssert v t a ok)
  | .call c => match c.callee with
    | .builtin .append => evs F c.args.toList fun vs => K (Builtin.append_ c.argTypes type vs.toArray)
    | .builtin .len => evs F c.args.toList fun vs => K (Builtin.len_ c.argTypes type vs.toArray)
    | .builtin .copy => evs F c.args.toList fun vs => K (Builtin.copy_ c.argTypes type vs.toArray)
    | .builtin .delete => evs F c.args.toList fun vs => K (Builtin.delete_ c.argTypes type vs.toArray)
    | .builtin .clear => evs F c.args.toList fun vs => K (Builtin.clear_ c.argTypes type vs.toArray)
    | _ => False
  | _ => False
def okFunc (P : Program) (f : FuncId) : Bool := match P.funcs[f]? with | some fn => fn.body.isSome && !(fn.name == "runtime.NumGoroutine") | none => false
def CallX (P : Program) (f : FuncId) (args : Array Value) (K : Value → World → Prop) (w : World) : Prop := ∃ v w', (callFunc f args).run P w = .ok (.value v) w' ∧ K v w'
def YieldS (P : Program) (l : Nat) (args : Array Value) (K : Value → World → Prop) (w : World) : Prop := YieldAt Fence.wide 0 P l args w fun e w' => match e with | .returned v => K v w' | _ => False
def CallV (P : Program) (pan yl : Bool) (f : Value) (args : List Value) (K : Value → World → Prop) (Kp : List PanicEntry → World → Prop) (w : World) : Prop :=
  match f with
  | .func (.func g) first captured => cond pan (CallP P g ((first ++ args.toArray) ++ captured) K Kp w) (CallS P g ((first ++ args.toArray) ++ captured) K w) ∧ okFunc P g = true
  | .func (.yield l) first _ => cond yl (YieldS P l (first ++ args.toArray) K w) False
  | _ => False
def denOp (P : Program) (pan yl : Bool) (F : Fr) (op : Op) (type : TypeId) (K : Value → World → Prop) (Kp : List PanicEntry → World → Prop) (w : World) : Prop :=
  cond (isPure P op) (denPure P F op fun v => K v w) (match op with
  | .load t x => withV (F.ev x) fun v => cond (isAggT P t) (LoadA (P.cellsOf t) v K w) (cond (P.underlying t).isSome (LoadC v K w) False)
  | .store t x y => withV (F.ev x) fun p => withV (F.ev y) fun v => cond (isAggT P t) (StoreA (P.cellsOf t) p v (fun w' => K undef w') w)
      (cond (Nat.beq (P.cellsOf t) 1) (StoreC p v (fun w' => K undef w') w) False)
  | .alloc t => match P.info? t with
    | some i => (match i.zero with | some z => BoxS t z K w | none => False)
    | none => False
  | .box t x => withV (F.ev x) fun v => BoxS t v K w
  | .mapUpdate t m k x => withV (F.ev m) fun vm => withV (F.ev k) fun vk => withV (F.ev x) fun vx => RunU P (Instr.mapUpdate t vm vk vx) (fun w' => K undef w') w
  | .insert t m k x => withV (F.ev m) fun vm => withV (F.ev k) fun vk => withV (F.ev x) fun vx => RunU P (Instr.mapUpdate t vm vk vx) (fun w' => K undef w') w
  | .panic x => withV (F.ev x) fun v => PanicS P v Kp w
  | .call c => match c.callee with
    | .value (.func f) => evs F c.args.toList fun vs => cond (okFunc P f) (cond pan (CallP P f vs.toArray K Kp w) (CallS P f vs.toArray K w)) (CallX P f vs.toArray K w)
    | .value x => withV (F.ev x) fun v => evs F c.args.toList fun vs => CallV P pan yl v vs K Kp w
    | _ => semOf F op type fun s => RunS P s K w
  | _ => semOf F op type fun s => RunS P s K w)

def actv (ops : Array Oper) (o : Oper) (F : Fr) (X : Prop) : Prop := match o.guard with
  | none => X
  | some (j, want) => match (ops[j]?).bind (·.dst) with | some d => cond (isBo (F d) want) X False | none => False
def inact (ops : Array Oper) (o : Oper) (F : Fr) (X : Prop) : Prop := match o.guard with
  | none => False
  | some (j, want) => match (ops[j]?).bind (·.dst) with | some d => (match F d with | some v => cond (isB v want) False X | none => False) | none => False
def denL (P : Program) (pan : Bool) (ops : Array Oper) (Kp : List PanicEntry → World → Prop) : List Oper → (Fr → World → Prop) → Fr → World → Prop
  | [], K, F, w => K F w
  | o :: r, K, F, w => actv ops o F (denOp P pan true F o.op o.type (fun v w' => denL P pan ops Kp r K (F.put o.dst v) w') Kp w)
def undefs : List Oper → Fr → Fr
  | [], F => F
  | o :: r, F => undefs r (F.put o.dst undef)
def mkJ : (live : List Nat) → Fr → (Fr → World → Prop) → Cur live.length
  | [], F, k => fun w => k F w
  | t :: ls, F, k => fun v => mkJ ls (F.upd t v) k
def appF : (live : List Nat) → Cur live.length → Fr → World → Prop
  | [], J, _, w => J w
  | t :: ls, J, F, w => withV (F t) fun v => appF ls (J v) F w
def guardOf (ops : Array Oper) : List Oper → Option (Nat × Bool)
  | o :: _ => match o.guard with | some (j, want) => ((ops[j]?).bind (·.dst)).map fun d => (d, want) | none => none
  | [] => none
def denSegs (P : Program) (pan : Bool) (ops : Array Oper) (Kp : List PanicEntry → World → Prop) : List Seg → List Oper → (Fr → World → Prop) → Fr → World → Prop
  | [], _, K, F, w => K F w
  | .plain n :: ss, l, K, F, w => denL P pan ops Kp (l.take n) (fun F' w' => denSegs P pan ops Kp ss (l.drop n) K F' w') F w
  | .grp n live mask :: ss, l, K, F, w => match guardOf ops (l.take n) with
    | some (d, want) => withV (F d) fun v =>
        JoinS (mkJ live (F.kill mask) fun F' w' => denSegs P pan ops Kp ss (l.drop n) K F' w') fun J =>
          IfB v want (denL P pan ops Kp (l.take n) (fun F' w' => appF live J F' w') (F.upd d (.bool want)) w) (appF live J (undefs (l.take n) F) w)
    | none => False
def heldOp (P : Program) (S : World → Prop) (F : Fr) (op : Op) (type : TypeId) (K : Value → Prop) : Prop :=
  match op with
  | .load t x => withV (F.ev x) fun v => cond (isAggT P t) (HeldA (P.cellsOf t) S v K) (cond (P.underlying t).isSome (HeldC S v K) False)
  | _ => semOf F op type fun s => HeldR P S s K
def need (ms : List Nat) (held : List Nat) (j : Nat) : Bool := !(held.all fun i => Nat.testBit (ms.getD j 0) i)
def heldOf : Sch → List Nat
  | .fin => []
  | .pur _ r | .skp _ r | .act _ r => heldOf r
  | .hld i r => i :: heldOf r
  | .alt _ r more => heldOf r ++ heldOf more
  | .ite _ a b => heldOf a ++ heldOf b
def denSch (P : Program) (pan : Bool) (ops : Array Oper) (ms held : List Nat) (Kp : List PanicEntry → World → Prop) (S : World → Prop) (K : Fr → World → Prop) : Sch → Fr → World → Prop
  | .fin, F, w => K F w
  | .pur i r, F, w => match ops[i]? with
    | some o => actv ops o F (denPure P F o.op fun v => denSch P pan ops ms held Kp S K r (F.put o.dst v) w)
    | none => False
  | .hld i r, F, w => match ops[i]? with
    | some o => actv ops o F (heldOp P S F o.op o.type fun v => denSch P pan ops ms held Kp S K r (F.put o.dst v) w)
    | none => False
  | .skp i r, F, w => match ops[i]? with
    | some o => inact ops o F (denSch P pan ops ms held Kp S K r (F.put o.dst undef) w)
    | none => False
  | .act i r, F, w => match ops[i]? with
    | some o => actv ops o F (denOp P pan false F o.op o.type (fun v w' => cond (need ms held i) (S w' ∧ denSch P pan ops ms held Kp S K r (F.put o.dst v) w') (denSch P pan ops ms held Kp S K r (F.put o.dst v) w')) Kp w)
    | none => False
  | .alt i r more, F, w => (match ops[i]? with
    | some o => actv ops o F (denOp P pan false F o.op o.type (fun v w' => cond (need ms held i) (S w' ∧ denSch P pan ops ms held Kp S K r (F.put o.dst v) w') (denSch P pan ops ms held Kp S K r (F.put o.dst v) w')) Kp w)
    | none => False) ∧ denSch P pan ops ms held Kp S K more F w
  | .ite j a b, F, w => match (ops[j]?).bind (·.dst) with
    | some d => withV (F d) fun v => CondS v (denSch P pan ops ms held Kp S K a (F.upd d (.bool true)) w) (denSch P pan ops ms held Kp S K b (F.upd d (.bool false)) w)
    | none => False

abbrev Post := Exit → Fr → World → Prop
def thenQ (K : Fr → World → Prop) (Q : Post) : Post := fun e F w => match e with | .normal => K F w | e => Q e F w
def blockQ (id : Nat) (Q : Post) : Post := fun e F w => match e with | .exit i => cond (Nat.beq i id) (Q .normal F w) (Q (.exit i) F w) | e => Q e F w

def den (P : Program) (pan : Bool) (Kp : List PanicEntry → World → Prop) : Code → Ann → Post → Fr → World → Prop
  | .skip, _, Q, F, w => Q .normal F w
  | .region _ ops false, .r segs, Q, F, w => denSegs P pan ops Kp segs ops.toList (fun F' w' => Q .normal F' w') F w
  | .region _ ops true, .d ms sch, Q, F, w => DrawS fun S => S w.drew ∧ denSch P pan ops ms (heldOf sch) Kp S (fun F' w' => Q .normal F' w') sch F w.drew
  | .seq a b, .q x y, Q, F, w => den P pan Kp a x (thenQ (fun F' w' => den P pan Kp b y Q F' w') Q) F w
  | .seq a b, .j live mask x y, Q, F, w =>
    JoinS (mkJ live (F.kill mask) fun F' w' => den P pan Kp b y Q F' w') fun J => den P pan Kp a x (thenQ (fun F' w' => appF live J F' w') Q) F w
  | .cond c a b, .c x y, Q, F, w => withV (F.ev c) fun v => CondS v (den P pan Kp a x Q F w) (den P pan Kp b y Q F w)
  | .block id c, .b x, Q, F, w => den P pan Kp c x (blockQ id Q) F w
  | .loop c, .l live mask x, Q, F, w =>
    appF live (LoopS live.length fun self => mkJ live (F.kill mask) fun F' w' => den P pan Kp c x (thenQ (fun F'' w'' => appF live self F'' w'') Q) F' w') F w
  | .exit id, _, Q, F, w => Q (.exit id) F w
  | .ret, _, Q, F, w => Q .ret F w
  | _, _, _, _, _ => False

def noDraw : Code → Bool
  | .region _ _ d => !d
  | .seq a b => noDraw a && noDraw b
  | .cond _ a b => noDraw a && noDraw b
  | .block _ c => noDraw c
  | .loop c => noDraw c
  | _ => true
def dsts : Code → List Nat
  | .region _ ops _ => ops.toList.filterMap (·.dst)
  | .seq a b => dsts a ++ dsts b
  | .cond _ a b => dsts a ++ dsts b
  | .block _ c => dsts c
  | .loop c => dsts c
  | _ => []
def dstsOk (n : Nat) (c : Code) : Bool := (dsts c).all fun d => Nat.blt d n
def segsOk (ops : Array Oper) : List Seg → List Oper → Bool
  | [], l => l.isEmpty
  | .plain n :: ss, l => (l.take n).all (fun o => o.guard.isNone) && segsOk ops ss (l.drop n)
  | .grp n _ mask :: ss, l => (l.take n).all (fun o => (o.guard == (l.head?.bind (·.guard))) && (match o.dst with | some d => Nat.testBit mask d | none => true)) &&
      segsOk ops ss (l.drop n)
def chain : Sch → List Nat
  | .alt i _ more => i :: chain more
  | .act i _ => [i]
  | _ => []
def schLen : Sch → Nat
  | .fin => 0
  | .pur _ r | .hld _ r | .skp _ r | .act _ r => schLen r + 1
  | .alt _ r more => max (schLen r + 1) (schLen more)
  | .ite _ a b => max (schLen a) (schLen b)
def readyIs (ops : Array Oper) (listed : Array Bool) (l : List Nat) : Bool := (Region.ready .any ops listed) == l
def calm (n : Nat) (ms held : List Nat) (i : Nat) : Bool := (List.range n).all fun j => Nat.beq j i || need ms held j || Nat.testBit (ms.getD j 0) i
def maskOf (ms : List Nat) (j : Nat) (o : Oper) : Nat :=
  o.after.toList.foldl (fun s e => cond (Region.binds .any e) (s ||| 2 ^ e.on ||| cond (Nat.blt e.on j) (ms.getD e.on 0) 0) s) 0
def masksOk (ms : List Nat) : Nat → List Oper → Bool
  | _, [] => true
  | j, o :: r => Nat.beq (ms.getD j 0) (maskOf ms j o) && masksOk ms (j + 1) r
def schOk (ops : Array Oper) (ms held : List Nat) : Bool → Bool → Sch → Array Bool → Bool
  | inside, _, .fin, listed => !inside && readyIs ops listed []
  | inside, live, .pur i r, listed | inside, live, .skp i r, listed =>
    !inside && (Region.free .any ops listed i && (Region.ready .any ops listed).contains i && schOk ops ms held false live r (listed.setIfInBounds i true))
  | inside, live, .hld i r, listed =>
    !inside && ((live && calm ops.size ms held i) && Region.free .any ops listed i && (Region.ready .any ops listed).contains i && schOk ops ms held false live r (listed.setIfInBounds i true))
  | inside, _, .act i r, listed => (inside || readyIs ops listed [i]) && schOk ops ms held false (need ms held i) r (listed.setIfInBounds i true)
  | inside, live, .alt i r more, listed => (inside || readyIs ops listed (i :: chain more)) && schOk ops ms held false (need ms held i) r (listed.setIfInBounds i true) && schOk ops ms held true live more listed
  | inside, live, .ite _ a b, listed => !inside && (schOk ops ms held false live a listed && schOk ops ms held false live b listed)
def annOk : Code → Ann → Bool
  | .region _ ops false, .r segs => segsOk ops segs ops.toList
  | .region _ ops true, .d ms sch => Region.noSelect ops && Nat.ble (schLen sch) ops.size && Nat.beq ms.length ops.size && masksOk ms 0 ops.toList && schOk ops ms (heldOf sch) false true sch (Array.replicate ops.size false)
  | .seq a b, .q x y => annOk a x && annOk b y
  | .seq a b, .j _ mask x y => (dsts a).all (Nat.testBit mask) && annOk a x && annOk b y
  | .cond _ a b, .c x y => annOk a x && annOk b y
  | .block _ c, .b x => annOk c x
  | .loop c, .l _ mask x => (dsts c).all (Nat.testBit mask) && annOk c x
  | .skip, _ | .exit _, _ | .ret, _ => true
  | _, _ => false

def resL (P : Program) : List ResultVar → Fr → World → (List Value → Prop) → Prop
  | [], _, _, K => K []
  | .tmp t :: r, F, w, K => withV (F t) fun v => resL P r F w fun vs => K (v :: vs)
  | .cell c t :: r, F, w, K => withV (F c) fun p => cond (isAggT P t) (LoadA (P.cellsOf t) p (fun v _ => resL P r F w fun vs => K (v :: vs)) w)
      (cond (P.underlying t).isSome (LoadC p (fun v _ => resL P r F w fun vs => K (v :: vs)) w) False)
def one (vs : List Value) : Value := match vs with | [v] => v | vs => .tuple vs.toArray
def resV (P : Program) (rs : List ResultVar) (F : Fr) (w : World) (K : Value → Prop) : Prop := resL P rs F w fun vs => K (one vs)
def argF : List Value → Nat → Fr
  | [], _ => fun _ => none
  | v :: vs, i => (argF vs (i + 1)).upd i v
def denFn (P : Program) (pan : Bool) (c : Code) (rs : Array ResultVar) (ann : Ann) (args : List Value) (K : Value → World → Prop) (Kp : List PanicEntry → World → Prop) (w : World) : Prop :=
  den P pan Kp c ann (fun e F w' => match e with | .normal => resV P rs.toList F w' fun v => K v w' | .ret => resV P rs.toList F w' fun v => K v w' | _ => False) (argF args 0) w
end SG

namespace SG
open Go
set_option linter.unusedSimpArgs false
set_option linter.unusedVariables false

theorem withV_some {r : Option Value} {K : Value → Prop} (h : withV r K) : ∃ v, r = some v ∧ K v := by
  cases r with
  | none => exact h.elim
  | some v => exact ⟨v, rfl, h⟩
theorem PureS_some' {r : Option Value} {K : Value → Prop} (h : PureS r K) : ∃ v, r = some v ∧ K v := by
  cases r with
  | none => exact h.elim
  | some v => exact ⟨v, rfl, h⟩
theorem cond_true_of {b : Bool} {X : Prop} (h : cond b X False) : b = true ∧ X := by
  cases b
  · exact h.elim
  · exact ⟨rfl, h⟩
theorem cond_false_of {b : Bool} {X : Prop} (h : cond b False X) : b = false ∧ X := by
  cases b
  · exact ⟨rfl, h⟩
  · exact h.elim

section
variable {P : Program}

def scalar : Value → Bool
  | .int _ _ => true | .string _ => true | .bool _ => true | _ => false
theorem run_eqGuard_scalar {op : BinOp} {t : TypeId} {x y : Operand} {a b : Value} (h : scalar a = true) (w : World) :
    (eqGuard op t x y a b).run P w = .ok () w := by
  cases a <;> simp [scalar] at h
  · rw [eqGuard_at_bool]; rfl
  · rw [eqGuard_at_int]; rfl
  · rw [eqGuard_at_string]; rfl

theorem int_beq (a b : Int) : (a == b) = decide (a = b) := by rw [Bool.eq_iff_iff]; simp
theorem intV_run {op : BinOp} {k : IntKind} {a b : Int} {v : Value} (t : TypeId) (hs : op ≠ .shl ∧ op ≠ .shr) (h : intV op k a b = some v) (w : World) :
    (binOp op t (.int k a) (.int k b)).run P w = .ok v w := by
  cases op with
  | add => cases h; simp [binOp, Op.intArith]
  | sub => cases h; simp [binOp, Op.intArith]
  | mul => cases h; simp [binOp, Op.intArith]
  | quo =>
    simp only [intV] at h
    split at h
    · cases h
    · rename_i hb; cases h; simp [binOp, Op.intDiv, hb]
  | rem =>
    simp only [intV] at h
    split at h
    · cases h
    · rename_i hb; cases h; simp [binOp, Op.intDiv, hb]
  | and => cases h; simp [binOp, intBits_and]
  | or => cases h; simp [binOp, intBits_or]
  | xor => cases h; simp [binOp, intBits_xor]
  | andNot => cases h; simp [binOp, intBits_andNot]
  | eql => cases h; simp [binOp, Op.intCmp, int_beq]
  | neq => cases h; simp [binOp, Op.intCmp, bne, int_beq]
  | lss => cases h; simp [binOp, Op.intCmp]
  | leq => cases h; simp [binOp, Op.intCmp]
  | gtr => cases h; simp [binOp, Op.intCmp]
  | geq => cases h; simp [binOp, Op.intCmp]
  | shl => exact absurd rfl hs.1
  | shr => exact absurd rfl hs.2

theorem binV_run {op : BinOp} {x y v : Value} (t : TypeId) (h : binV op x y = some v) (w : World) : (binOp op t x y).run P w = .ok v w := by
  unfold binV at h
  split at h
  · rename_i k a k' b
    split at h
    · unfold shiftV at h
      split at h
      · rename_i hb; cases h; simp [binOp, Op.shift, show ¬ b < 0 by omega]
      · cases h
    · unfold shiftV at h
      split at h
      · rename_i hb; cases h; simp [binOp, Op.shift, show ¬ b < 0 by omega]
      · cases h
    · rename_i h1 h2
      split at h
      · rename_i hk; subst hk
        exact intV_run t ⟨h1, h2⟩ h w
      · cases h
  · rename_i a b
    unfold strV at h
    split at h <;> first
      | (cases h; simp [binOp, Op.stringOp]; done)
      | (split at h
         · cases h
         · cases h; rename_i hb; simp only [binOp, Op.stringOp]; rw [if_neg hb]; rfl)
      | cases h
  · cases h
theorem run_equal_bool {t : TypeId} (ht : P.underlying t = some .bool) (a b : Bool) (w : World) : (Op.equal t (.bool a) (.bool b)).run P w = .ok (a == b) w := by
  have h : ∀ d, (Op.equalIn (d + 1) t (.bool a) (.bool b)).run P w = .ok (a == b) w := fun d => by simp [Op.equalIn, run_underlying ht]
  exact h 9999
theorem boolV_run {op : BinOp} {x y v : Value} {t : TypeId} (ht : P.underlying t = some .bool) (h : boolV op x y = some v) (w : World) : (binOp op t x y).run P w = .ok v w := by
  unfold boolV at h
  split at h
  · rename_i a b
    cases op <;> first
      | (cases h; done)
      | (simp only [Option.some.injEq] at h; subst h; simp only [binOp, Sem.run_bind, run_equal_bool ht, Result.andThen_ok, Sem.run_pure])
  · cases h
theorem binV_scalar {op : BinOp} {x y v : Value} (h : binV op x y = some v) : scalar x = true := by
  unfold binV at h
  split at h <;> first | rfl | cases h
theorem boolV_scalar {op : BinOp} {x y v : Value} (h : boolV op x y = some v) : scalar x = true := by
  unfold boolV at h
  split at h <;> first | rfl | cases h

theorem sliceBound_run {v : Value} {d m n : Nat} (h : boundV d m (some v) = some n) (code : BoundsCode) (w : World) :
    (Instr.sliceBound v m code).run P w = .ok n w := by
  cases v <;> simp only [boundV] at h <;> try cases h
  rename_i k i
  split at h
  · rename_i hi
    simp only [Option.some.injEq] at h
    subst h
    simp [Instr.sliceBound, asIntOf, hi]
  · cases h
theorem sliceBounds_run {lo hi : Option Value} {len cap hh ll : Nat} (b : Bool) (h1 : boundV len cap hi = some hh) (h2 : boundV 0 hh lo = some ll) (w : World) :
    (Instr.sliceBounds b len cap lo hi none).run P w = .ok (ll, hh, cap) w := by
  cases lo with
  | none =>
    simp only [boundV, Option.some.injEq] at h2
    subst h2
    cases hi with
    | none => simp only [boundV, Option.some.injEq] at h1; subst h1; simp [Instr.sliceBounds]
    | some v => simp [Instr.sliceBounds, sliceBound_run h1]
  | some u =>
    cases hi with
    | none => simp only [boundV, Option.some.injEq] at h1; subst h1; simp [Instr.sliceBounds, sliceBound_run h2]
    | some v => simp [Instr.sliceBounds, sliceBound_run h1, sliceBound_run h2]
theorem pickV_some {c a b v : Value} (h : pickV c a b = some v) : ∃ t, c = .bool t ∧ v = if t then a else b := by
  cases c <;> simp only [pickV] at h <;> try cases h
  exact ⟨_, rfl, rfl⟩
theorem nilV_some {x v : Value} (h : nilV x = some v) : v = x ∧ ((∃ a, x = .pointer (some a)) ∨ ∃ f y z, x = .func (.func f) y z) := by
  unfold nilV at h
  split at h
  · cases h; exact ⟨rfl, .inl ⟨_, rfl⟩⟩
  · cases h; exact ⟨rfl, .inr ⟨_, _, _, rfl⟩⟩
  · cases h
theorem notV_some {x v : Value} (h : notV x = some v) : ∃ b, x = .bool b ∧ v = .bool (!b) := by
  cases x <;> simp only [notV] at h <;> try cases h
  exact ⟨_, rfl, rfl⟩
theorem negV_some {x v : Value} (h : negV x = some v) : ∃ k n, x = .int k n ∧ v = .int k (k.wrap (0 - n)) := by
  cases x <;> simp only [negV] at h <;> try cases h
  exact ⟨_, _, rfl, rfl⟩
theorem convIntV_some {k : IntKind} {x v : Value} (h : convIntV k x = some v) : ∃ k' n, x = .int k' n ∧ v = .int k (k.wrap n) := by
  cases x <;> simp only [convIntV] at h <;> try cases h
  exact ⟨_, _, rfl, rfl⟩
theorem sliceV_some {size : Nat} {x v : Value} {lo hi : Option Value} (h : sliceV size x lo hi = some v) :
    ∃ a len cap hh ll, x = .slice a len cap ∧ boundV len cap hi = some hh ∧ boundV 0 hh lo = some ll ∧ v = .slice (if cap = ll then a else a.map (·.add (ll * size))) (hh - ll) (cap - ll) := by
  cases x <;> simp only [sliceV] at h <;> try cases h
  rw [Option.bind_eq_some_iff] at h
  obtain ⟨hh, h1, h⟩ := h
  rw [Option.bind_eq_some_iff] at h
  obtain ⟨ll, h2, h⟩ := h
  cases h
  exact ⟨_, _, _, hh, ll, rfl, h1, h2, rfl⟩
theorem sliceStrV_some {x v : Value} {lo hi : Option Value} (h : sliceStrV x lo hi = some v) :
    ∃ (s : ByteArray) (hh ll : Nat), x = .string s ∧ boundV s.size s.size hi = some hh ∧ boundV 0 hh lo = some ll ∧ v = .string (s.extract ll hh) := by
  cases x <;> simp only [sliceStrV] at h <;> try cases h
  rw [Option.bind_eq_some_iff] at h
  obtain ⟨hh, h1, h⟩ := h
  rw [Option.bind_eq_some_iff] at h
  obtain ⟨ll, h2, h⟩ := h
  cases h
  exact ⟨_, hh, ll, rfl, h1, h2, rfl⟩
theorem fieldAddrV_some {off : Nat} {x v : Value} (h : fieldAddrV off x = some v) : ∃ a, x = .pointer (some a) ∧ v = .pointer (some (a.add off)) := by
  unfold fieldAddrV at h
  split at h
  · cases h; exact ⟨_, rfl, rfl⟩
  · cases h
theorem indexAddrV_some {size : Nat} {x i v : Value} (h : indexAddrV size x i = some v) :
    ∃ a len cap k n, x = .slice (some a) len cap ∧ i = .int k n ∧ (0 ≤ n ∧ n < (len : Int)) ∧ v = .pointer (some (a.add (n.toNat * size))) := by
  unfold indexAddrV at h
  split at h
  · split at h
    · rename_i hb; cases h; exact ⟨_, _, _, _, _, rfl, rfl, hb, rfl⟩
    · cases h
  · cases h
theorem indexStrV_some {x i v : Value} (h : indexStrV x i = some v) : ∃ (s : ByteArray) (k : IntKind) (n : Int) (c : UInt8), x = .string s ∧ i = .int k n ∧ 0 ≤ n ∧ s[n.toNat]? = some c ∧ v = .int .u8 c.toNat := by
  unfold indexStrV at h
  split at h
  · split at h
    · rename_i hb
      rw [Option.map_eq_some_iff] at h
      obtain ⟨c, hc, h⟩ := h
      exact ⟨_, _, _, c, rfl, rfl, hb, hc, h.symm⟩
    · cases h
  · cases h
theorem extractV_some {i : Nat} {x v : Value} (h : extractV i x = some v) : ∃ vs, x = .tuple vs ∧ vs[i]? = some v := by
  cases x <;> simp only [extractV] at h <;> try cases h
  exact ⟨_, rfl, h⟩
theorem lenSliceV_some {x v : Value} (h : lenSliceV x = some v) : ∃ a n c, x = .slice a n c ∧ v = .int .i64 n := by
  cases x <;> simp only [lenSliceV] at h <;> try cases h
  exact ⟨_, _, _, rfl, rfl⟩
theorem lenStrV_some {x v : Value} (h : lenStrV x = some v) : ∃ s, x = .string s ∧ v = .int .i64 s.size := by
  cases x <;> simp only [lenStrV] at h <;> try cases h
  exact ⟨_, rfl, rfl⟩
theorem maxV_some {x y v : Value} (h : maxV x y = some v) : ∃ k a j b, x = .int k a ∧ y = .int j b ∧ v = .int k (if b > a then b else a) := by
  unfold maxV at h
  split at h
  · cases h; exact ⟨_, _, _, _, rfl, rfl, rfl⟩
  · cases h
theorem minV_some {x y v : Value} (h : minV x y = some v) : ∃ k a j b, x = .int k a ∧ y = .int j b ∧ v = .int k (if b < a then b else a) := by
  unfold minV at h
  split at h
  · cases h; exact ⟨_, _, _, _, rfl, rfl, rfl⟩
  · cases h

theorem evs_some {F : Fr} {ρ : Operand → Value} (hρ : ∀ x v, F.ev x = some v → ρ x = v) : ∀ (xs : List Operand) (K : List Value → Prop), evs F xs K → K (xs.map ρ)
  | [], _, h => h
  | x :: xs, K, h => by
    obtain ⟨v, hv, h⟩ := withV_some h
    have := evs_some hρ xs _ h
    simpa [hρ x v hv] using this
theorem evps_some {F : Fr} {ρ : Operand → Value} (hρ : ∀ x v, F.ev x = some v → ρ x = v) : ∀ (xs : List (Nat × Operand)) (K : List (Nat × Value) → Prop), evps F xs K → K (xs.map fun p => (p.1, ρ p.2))
  | [], _, h => h
  | (i, x) :: xs, K, h => by
    obtain ⟨v, hv, h⟩ := withV_some h
    have := evps_some hρ xs _ h
    simpa [hρ x v hv] using this
theorem evo_some {F : Fr} {ρ : Operand → Value} (hρ : ∀ x v, F.ev x = some v → ρ x = v) (x : Option Operand) (K : Option Value → Prop) (h : evo F x K) : K (x.map ρ) := by
  cases x with
  | none => exact h
  | some x =>
    obtain ⟨v, hv, h⟩ := withV_some h
    simpa [hρ x v hv] using h

theorem denPure_sound {F : Fr} {ρ : Operand → Value} (hρ : ∀ x v, F.ev x = some v → ρ x = v) (o : Oper) {K : Value → Prop} (h : denPure P F o.op K) :
    ∃ v, (∀ w, (execOp ρ o).run P w = .ok (.value v) w) ∧ K v := by
  obtain ⟨dst, op, type, pos, after, guard⟩ := o
  simp only at h
  cases op <;> simp only [denPure] at h <;> try exact h.elim
  case move x =>
    obtain ⟨v, hv, h⟩ := withV_some h
    exact ⟨v, fun w => by simp [execOp, hρ x v hv], h⟩
  case assign x =>
    obtain ⟨v, hv, h⟩ := withV_some h
    exact ⟨v, fun w => by simp [execOp, hρ x v hv], h⟩
  case pick c a b =>
    obtain ⟨vc, hc, h1⟩ := withV_some h
    obtain ⟨va, ha, h2⟩ := withV_some h1
    obtain ⟨vb, hb, h3⟩ := withV_some h2
    obtain ⟨v, hv, h4⟩ := PureS_some' h3
    obtain ⟨t, rfl, rfl⟩ := pickV_some hv
    refine ⟨_, fun w => ?_, h4⟩
    cases t <;> simp [execOp, hρ c _ hc, hρ a va ha, hρ b vb hb, asBool]
  case nilCheck x =>
    obtain ⟨u, hu, h1⟩ := withV_some h
    obtain ⟨v, hv, h2⟩ := PureS_some' h1
    obtain ⟨rfl, ⟨a, rfl⟩ | ⟨f, y, z, rfl⟩⟩ := nilV_some hv
    · exact ⟨_, fun w => by simp [execOp, hρ x _ hu], h2⟩
    · exact ⟨_, fun w => by simp [execOp, hρ x _ hu], h2⟩
  case binOp op t x y y' =>
    obtain ⟨vx, hx, h1⟩ := withV_some h
    obtain ⟨vy, hy, h2⟩ := withV_some h1
    split at h2
    · obtain ⟨v, hv, h3⟩ := PureS_some' h2
      exact ⟨v, fun w => by simp [execOp, hρ x vx hx, hρ y vy hy, run_eqGuard_scalar (binV_scalar hv), binV_run t hv], h3⟩
    · obtain ⟨v, hv, h3⟩ := PureS_some' h2
      exact ⟨v, fun w => by simp [execOp, hρ x vx hx, hρ y vy hy, run_eqGuard_scalar (binV_scalar hv), binV_run t hv], h3⟩
    · rename_i ht
      obtain ⟨v, hv, h3⟩ := PureS_some' h2
      exact ⟨v, fun w => by simp [execOp, hρ x vx hx, hρ y vy hy, run_eqGuard_scalar (boolV_scalar hv), boolV_run ht hv], h3⟩
    · exact h2.elim
  case unOp op t x =>
    obtain ⟨u, hu, h1⟩ := withV_some h
    split at h1
    · obtain ⟨v, hv, h2⟩ := PureS_some' h1
      obtain ⟨b, rfl, rfl⟩ := notV_some hv
      exact ⟨_, fun w => by simp [execOp, hρ x _ hu, Op.unary], h2⟩
    · obtain ⟨v, hv, h2⟩ := PureS_some' h1
      obtain ⟨k, n, rfl, rfl⟩ := negV_some hv
      exact ⟨_, fun w => by simp [execOp, hρ x _ hu, Op.unary, Op.intArith], h2⟩
    · exact h1.elim
  case convert s d x =>
    obtain ⟨u, hu, h1⟩ := withV_some h
    split at h1
    · rename_i hs hd
      obtain ⟨v, hv, h2⟩ := PureS_some' h1
      obtain ⟨k, n, rfl, rfl⟩ := convIntV_some hv
      exact ⟨_, fun w => by simp [execOp, hρ x _ hu, convert, run_underlying hs, run_underlying hd, Conv.intToInt], h2⟩
    · exact h1.elim
  case makeInterface t x =>
    obtain ⟨u, hu, h1⟩ := withV_some h
    split at h1
    · exact h1.elim
    · rename_i d hni ht
      refine ⟨_, fun w => ?_, h1⟩
      simp only [execOp, hρ x u hu, Instr.makeInterface, Sem.run_bind, run_underlying ht, Result.andThen_ok]
      rfl
    · exact h1.elim
  case makeFunc fn xs ys =>
    have h1 := evs_some hρ _ _ h
    have h2 := evs_some hρ _ _ h1
    refine ⟨_, fun w => ?_, h2⟩
    have e1 : xs.map ρ = (xs.toList.map ρ).toArray := by cases xs; simp
    have e2 : ys.map ρ = (ys.toList.map ρ).toArray := by cases ys; simp
    simp [execOp, Instr.makeFunc, e1, e2]
  case slice t x lo hi mx =>
    obtain ⟨u, hu, h1⟩ := withV_some h
    have h2 := evo_some hρ _ _ (evo_some hρ _ _ h1)
    obtain ⟨hm, h3⟩ := cond_true_of h2
    have hm' : mx = none := by cases mx with | none => rfl | some _ => simp at hm
    subst hm'
    split at h3
    · rename_i e ht
      obtain ⟨hi', h4⟩ := cond_true_of h3
      obtain ⟨v, hv, h5⟩ := PureS_some' h4
      obtain ⟨inf, hi1⟩ := Option.isSome_iff_exists.1 hi'
      obtain ⟨a, len, cap, hh, ll, rfl, hb1, hb2, rfl⟩ := sliceV_some hv
      refine ⟨_, fun w => ?_, h5⟩
      have hsz : P.cellsOf e = inf.size := by simp [Program.cellsOf, hi1]
      simp [execOp, hρ x _ hu, Instr.sliceAt, Instr.slice, run_underlying ht, sliceBounds_run true hb1 hb2, Go.sizeOf, typeInfo, hi1, hsz]
    · rename_i ht
      obtain ⟨v, hv, h5⟩ := PureS_some' h3
      obtain ⟨s, hh, ll, rfl, hb1, hb2, rfl⟩ := sliceStrV_some hv
      refine ⟨_, fun w => ?_, h5⟩
      simp [execOp, hρ x _ hu, Instr.sliceAt, Instr.slice, run_underlying ht, sliceBounds_run false hb1 hb2]
    · exact h3.elim
  case fieldAddr t x f =>
    obtain ⟨u, hu, h1⟩ := withV_some h
    split at h1
    · rename_i fs ht
      split at h1
      · rename_i fd hf
        obtain ⟨hz, h2⟩ := cond_false_of h1
        obtain ⟨v, hv, h3⟩ := PureS_some' h2
        obtain ⟨a, rfl, rfl⟩ := fieldAddrV_some hv
        refine ⟨_, fun w => ?_, h3⟩
        have hz' : P.cellsOf fd.type ≠ 0 := fun e => by rw [e] at hz; cases hz
        cases hi : P.info? fd.type with
        | none => simp [Program.cellsOf, hi] at hz'
        | some i =>
          have hs : i.size ≠ 0 := by simpa [Program.cellsOf, hi] using hz'
          simp [execOp, hρ x _ hu, Instr.fieldAt, run_underlying ht, hf, Instr.sureAddr, fieldPlace, Go.sizeOf, typeInfo, hi, hs]
      · exact h1.elim
    · exact h1.elim
  case indexAddr t x i =>
    obtain ⟨vx, hx, h1⟩ := withV_some h
    obtain ⟨vi, hi, h2⟩ := withV_some h1
    split at h2
    · rename_i e ht
      obtain ⟨hi', h3⟩ := cond_true_of h2
      obtain ⟨v, hv, h4⟩ := PureS_some' h3
      obtain ⟨inf, hi1⟩ := Option.isSome_iff_exists.1 hi'
      obtain ⟨a, len, cap, k, n, rfl, rfl, hb, rfl⟩ := indexAddrV_some hv
      refine ⟨_, fun w => ?_, h4⟩
      simp [execOp, hρ x _ hx, hρ i _ hi, Instr.indexAt, asIntOf, run_underlying ht, hb, Go.sizeOf, typeInfo, hi1, Program.cellsOf]
    · exact h2.elim
  case index t x i =>
    obtain ⟨vx, hx, h1⟩ := withV_some h
    obtain ⟨vi, hi, h2⟩ := withV_some h1
    split at h2
    · rename_i ht
      obtain ⟨v, hv, h3⟩ := PureS_some' h2
      obtain ⟨s, k, n, c, rfl, rfl, hb, hc, rfl⟩ := indexStrV_some hv
      refine ⟨_, fun w => ?_, h3⟩
      simp [execOp, hρ x _ hx, hρ i _ hi, Instr.index, asIntOf, run_underlying ht, hb, hc]
    · exact h2.elim
  case extract x i =>
    obtain ⟨u, hu, h1⟩ := withV_some h
    obtain ⟨v, hv, h2⟩ := PureS_some' h1
    obtain ⟨vs, rfl, hvs⟩ := extractV_some hv
    exact ⟨_, fun w => by simp [execOp, hρ x _ hu, Instr.extract, hvs], h2⟩
  case call c =>
    obtain ⟨callee, ⟨args⟩, ⟨argTypes⟩⟩ := c
    simp only at h
    have two : ∀ (l : List Operand), len2 ⟨l⟩ = true → ∃ x y, l = [x, y] := fun l hl => by
      match l, hl with
      | [x, y], _ => exact ⟨x, y, rfl⟩
    have one : ∀ (l : List Operand), len1 ⟨l⟩ = true → ∃ x, l = [x] := fun l hl => by
      match l, hl with
      | [x], _ => exact ⟨x, rfl⟩
    split at h
    · obtain ⟨hl, h1⟩ := cond_true_of h
      rw [Bool.and_eq_true] at hl
      obtain ⟨hl, hl'⟩ := hl
      obtain ⟨x, rfl⟩ := one args hl
      obtain ⟨u, hu, h2⟩ := withV_some h1
      have hu' : F.ev x = some u := hu
      match argTypes, hl' with
      | [t], _ =>
        simp only [ty0] at h2
        split at h2
        · rename_i e ht
          obtain ⟨v, hv, h3⟩ := PureS_some' h2
          obtain ⟨a, n, c, rfl, rfl⟩ := lenSliceV_some hv
          exact ⟨_, fun w => by simp [execOp, resolve, hρ x _ hu', invoke, builtin, Builtin.len_, run_underlying ht, goInt], h3⟩
        · rename_i ht
          obtain ⟨v, hv, h3⟩ := PureS_some' h2
          obtain ⟨s, rfl, rfl⟩ := lenStrV_some hv
          exact ⟨_, fun w => by simp [execOp, resolve, hρ x _ hu', invoke, builtin, Builtin.len_, run_underlying ht, goInt], h3⟩
        · exact h2.elim
    · obtain ⟨hl, h1⟩ := cond_true_of h
      obtain ⟨x, y, rfl⟩ := two args hl
      obtain ⟨u, hu, h2⟩ := withV_some h1
      obtain ⟨u', hu', h3⟩ := withV_some h2
      have hu1 : F.ev x = some u := hu
      have hu2 : F.ev y = some u' := hu'
      obtain ⟨v, hv, h4⟩ := PureS_some' h3
      obtain ⟨k, a, j, b, rfl, rfl, rfl⟩ := maxV_some hv
      refine ⟨_, fun w => ?_, h4⟩
      simp only [execOp, resolve, List.map_toArray, List.map_cons, List.map_nil, hρ x _ hu1, hρ y _ hu2, invoke, builtin, Builtin.max_, List.foldlM_cons, List.foldlM_nil, Builtin.max2, Sem.run_bind, Sem.run_pure, Result.andThen_ok]
    · obtain ⟨hl, h1⟩ := cond_true_of h
      obtain ⟨x, y, rfl⟩ := two args hl
      obtain ⟨u, hu, h2⟩ := withV_some h1
      obtain ⟨u', hu', h3⟩ := withV_some h2
      have hu1 : F.ev x = some u := hu
      have hu2 : F.ev y = some u' := hu'
      obtain ⟨v, hv, h4⟩ := PureS_some' h3
      obtain ⟨k, a, j, b, rfl, rfl, rfl⟩ := minV_some hv
      refine ⟨_, fun w => ?_, h4⟩
      simp only [execOp, resolve, List.map_toArray, List.map_cons, List.map_nil, hρ x _ hu1, hρ y _ hu2, invoke, builtin, Builtin.min_, List.foldlM_cons, List.foldlM_nil, Builtin.min2, Sem.run_bind, Sem.run_pure, Result.andThen_ok]
    · exact h.elim
end
end SG

namespace SG
open Go
set_option linter.unusedSimpArgs false
set_option linter.unusedVariables false

section
variable {P : Program}

theorem run_sem {ρ : Operand → Value} {o : Oper} {s : Sem Value} (h : execOp ρ o = (do pure (.value (← s)))) (w : World) :
    (execOp ρ o).run P w = (s.run P w).andThen fun v w' => .ok (.value v) w' := by
  rw [h]; simp

theorem map_arr {α β : Type} (f : α → β) (xs : Array α) : xs.map f = (xs.toList.map f).toArray := by cases xs; simp

theorem semOf_sound {F : Fr} {ρ : Operand → Value} (hρ : ∀ x v, F.ev x = some v → ρ x = v) (o : Oper) {K : Sem Value → Prop} (h : semOf F o.op o.type K) :
    ∃ s, K s ∧ ∀ w, (execOp ρ o).run P w = (s.run P w).andThen fun v w' => .ok (.value v) w' := by
  obtain ⟨dst, op, type, pos, after, guard⟩ := o
  simp only at h
  cases op <;> simp only [semOf] at h <;> try exact h.elim
  case binOp op t x y y' =>
    obtain ⟨vx, hx, h1⟩ := withV_some h
    obtain ⟨vy, hy, h2⟩ := withV_some h1
    exact ⟨_, h2, fun w => run_sem (by simp [execOp, hρ x _ hx, hρ y _ hy]) w⟩
  case convert s d x =>
    obtain ⟨vx, hx, h1⟩ := withV_some h
    exact ⟨_, h1, fun w => run_sem (by simp [execOp, hρ x _ hx]) w⟩
  case field t x f =>
    obtain ⟨vx, hx, h1⟩ := withV_some h
    exact ⟨_, h1, fun w => run_sem (by simp [execOp, hρ x _ hx]) w⟩
  case build t ps =>
    have h1 := evps_some hρ _ _ h
    exact ⟨_, h1, fun w => run_sem (by simp [execOp, map_arr]) w⟩
  case buildSlice t n ps =>
    have h1 := evps_some hρ _ _ h
    exact ⟨_, h1, fun w => run_sem (by simp [execOp, map_arr]) w⟩
  case makeMap t r =>
    have h1 := evo_some hρ _ _ h
    exact ⟨_, h1, fun w => run_sem (by simp [execOp]) w⟩
  case makeSlice t l c =>
    obtain ⟨vx, hx, h1⟩ := withV_some h
    obtain ⟨vy, hy, h2⟩ := withV_some h1
    exact ⟨_, h2, fun w => run_sem (by simp [execOp, hρ _ _ hx, hρ _ _ hy]) w⟩
  case lookup t x i ok =>
    obtain ⟨vx, hx, h1⟩ := withV_some h
    obtain ⟨vy, hy, h2⟩ := withV_some h1
    exact ⟨_, h2, fun w => run_sem (by simp [execOp, hρ _ _ hx, hρ _ _ hy]) w⟩
  case range t x =>
    obtain ⟨vx, hx, h1⟩ := withV_some h
    exact ⟨_, h1, fun w => run_sem (by simp [execOp, hρ x _ hx]) w⟩
  case next x b =>
    obtain ⟨vx, hx, h1⟩ := withV_some h
    exact ⟨_, h1, fun w => run_sem (by simp [execOp, hρ x _ hx]) w⟩
  case entry x =>
    obtain ⟨vx, hx, h1⟩ := withV_some h
    exact ⟨_, h1, fun w => run_sem (by simp [execOp, hρ x _ hx]) w⟩
  case typeAssert x t u ok =>
    obtain ⟨vx, hx, h1⟩ := withV_some h
    exact ⟨_, h1, fun w => run_sem (by simp [execOp, hρ x _ hx]) w⟩
  case call c =>
    obtain ⟨callee, args, argTypes⟩ := c
    simp only at h
    split at h <;> try exact h.elim
    all_goals
      have h1 := evs_some hρ _ _ h
      exact ⟨_, h1, fun w => by simp [execOp, resolve, invoke, builtin, map_arr, Result.andThen]⟩

theorem isAgg_run {t : TypeId} (h : (P.underlying t).isSome = true) (w : World) : (isAgg t).run P w = .ok (isAggT P t) w := by
  obtain ⟨d, hd⟩ := Option.isSome_iff_exists.1 h
  unfold isAgg isAggT
  simp only [Sem.run_bind, run_underlying hd, Result.andThen_ok, hd]
  cases d <;> rfl
theorem info_of_underlying {t : TypeId} (h : (P.underlying t).isSome = true) : ∃ i, P.info? t = some i := by
  unfold Program.underlying at h
  cases hi : P.info? t with
  | none => rw [hi] at h; cases h
  | some i => exact ⟨i, rfl⟩
theorem isAggT_some {t : TypeId} (h : isAggT P t = true) : (P.underlying t).isSome = true := by
  unfold isAggT at h
  cases hu : P.underlying t with
  | none => rw [hu] at h; cases h
  | some d => rfl
theorem sizeOf_run {t : TypeId} {i : TypeInfo} (h : P.info? t = some i) (w : World) : (Go.sizeOf t).run P w = .ok (P.cellsOf t) w := by
  simp [Go.sizeOf, typeInfo, h, Program.cellsOf]

theorem loadCells_run {w : World} {a : Addr} : ∀ (n i : Nat) (xs : List Value) (acc : Array Value), xs.length = n → (∀ j v, xs[j]? = some v → w.cell? (a.add (i + j)) = some v) →
    (loadCellsFrom a i n acc).run P w = .ok (acc ++ xs.toArray) w
  | 0, i, xs, acc, hl, _ => by
    have : xs = [] := List.eq_nil_of_length_eq_zero hl
    subst this
    simp [loadCellsFrom]
  | n + 1, i, [], acc, hl, _ => by simp at hl
  | n + 1, i, x :: xs, acc, hl, h => by
    have h0 := h 0 x (by simp)
    simp only [Nat.add_zero] at h0
    have ih := loadCells_run (w := w) (a := a) n (i + 1) xs (acc.push x) (by simpa using hl) (fun j v hj => by
      have := h (j + 1) v (by simpa using hj)
      rw [show i + 1 + j = i + (j + 1) by omega]
      exact this)
    simp only [loadCellsFrom, Sem.run_bind, run_load, h0, Result.andThen_ok, ih]
    simp

theorem cell_isSome_setCell (w : World) (a b : Addr) (v : Value) (h : (w.cell? b).isSome = true) : ((w.setCell a v).cell? b).isSome = true := by
  by_cases hab : a = b
  · subst hab
    obtain ⟨u, hu⟩ := Option.isSome_iff_exists.1 h
    rw [World.cell?_setCell_same w a v hu]; rfl
  · rw [World.cell?_setCell_other w a b v hab]; exact h
theorem storeCells_run {a : Addr} : ∀ (vs : List Value) (i : Nat) (w : World), (∀ v ∈ vs, v.oneCell' = true) → (∀ j, j < vs.length → (w.cell? (a.add (i + j))).isSome = true ∧ w.frozen? (a.add (i + j)) = false) →
    (storeCells a vs i).run P w = .ok () (setCells w a i vs)
  | [], i, w, _, _ => by simp [storeCells, setCells]
  | v :: vs, i, w, h1, h => by
    obtain ⟨h0, hf⟩ := h 0 (by simp)
    simp only [Nat.add_zero] at h0 hf
    obtain ⟨u, hu⟩ := Option.isSome_iff_exists.1 h0
    have ih := storeCells_run (a := a) vs (i + 1) (w.setCell (a.add i) v) (fun v hv => h1 v (by simp [hv])) (fun j hj => by
      have := h (j + 1) (by simpa using hj)
      rw [show i + 1 + j = i + (j + 1) by omega]
      exact ⟨cell_isSome_setCell _ _ _ _ this.1, by rw [World.frozen?_setCell]; exact this.2⟩)
    simp only [storeCells, Sem.run_bind, run_store P w _ v .plain (h1 v (by simp)), hu, hf, Bool.false_eq_true, if_false, Result.andThen_ok, setCells]
    exact ih

theorem LoadC_run {t : TypeId} {v : Value} {K : Value → World → Prop} {w : World} (ht : (P.underlying t).isSome = true) (hg : isAggT P t = false) (h : LoadC v K w) :
    ∃ u, (Instr.loadAt t v).run P w = .ok u w ∧ K u w := by
  unfold LoadC at h
  split at h
  · rename_i a
    split at h
    · rename_i u hu
      exact ⟨u, by simp [Instr.loadAt, Instr.sureAddr, loadVar, isAgg_run ht, hg, hu], h⟩
    · exact h.elim
  · exact h.elim
theorem LoadA_run {t : TypeId} {v : Value} {K : Value → World → Prop} {w : World} (hg : isAggT P t = true) (h : LoadA (P.cellsOf t) v K w) :
    ∃ u, (Instr.loadAt t v).run P w = .ok u w ∧ K u w := by
  unfold LoadA at h
  split at h
  · rename_i a
    obtain ⟨xs, hl, hc, hK⟩ := h
    have ht := isAggT_some hg
    obtain ⟨i, hi⟩ := info_of_underlying ht
    refine ⟨_, ?_, hK⟩
    have := loadCells_run (P := P) (w := w) (a := a) (P.cellsOf t) 0 xs #[] hl (fun j v hj => by simpa using hc j v hj)
    simp [Instr.loadAt, Instr.sureAddr, loadVar, isAgg_run ht, hg, sizeOf_run hi, loadCells, this]
  · exact h.elim

theorem denOp_sound {pan : Bool} {F : Fr} {a : Act} (hρ : ∀ x v, F.ev x = some v → a.eval x = v) (o : Oper) {K : Value → World → Prop} {Kp : List PanicEntry → World → Prop} {w : World}
    {next : Act → World → Prop} {Q : Exit → Act → World → Prop} (hn : ∀ v w', K v w' → next (a.put o.dst v) w') (hQ : ∀ c w', Kp c w' → Q (.panic c) a w')
    (h : denOp P pan false F o.op o.type K Kp w) : o.wp P a w next Q := by
  unfold Oper.wp
  have hsem : semOf F o.op o.type (fun s => RunS P s K w) → o.upon P a next Q ((execOp a.eval o).run P w) := by
    intro h
    obtain ⟨s, hs, hr⟩ := semOf_sound (P := P) hρ o h
    rw [hr]
    unfold RunS at hs
    split at hs
    · rename_i v w' hv
      rw [hv]
      exact hn _ _ hs
    · exact hs.elim
  have hcall : ∀ (f : FuncId) (vs : Array Value), okFunc P f = true → cond pan (CallP P f vs K Kp w) (CallS P f vs K w) →
      (callFunc f vs).run P w = .ok (.enter f vs) w ∧ o.upon P a next Q (.ok (.enter f vs) w) := by
    intro f vs hok hc
    constructor
    · unfold okFunc at hok
      cases hf : P.funcs[f]? with
      | none => rw [hf] at hok; cases hok
      | some fn =>
        rw [hf] at hok
        simp only [Bool.and_eq_true, Bool.not_eq_true'] at hok
        have hb : fn.body.isNone = false := by cases hb : fn.body with | none => rw [hb] at hok; cases hok.1 | some _ => rfl
        have h2 := hok.2
        simp only [callFunc, Sem.run_bind, run_program, Result.andThen_ok, hf, h2, hb, Bool.false_eq_true, if_false, Sem.run_pure]
    · rw [Oper.upon_enter]
      cases pan with
      | true =>
        refine Calls.mono (h := (hc : CallP P f vs K Kp w)) fun e w' he => ?_
        cases e with
        | returned v => exact hn _ _ he
        | panicked c => exact hQ _ _ he
        | outgrown => exact he.elim
      | false =>
        refine Calls.mono (h := (hc : CallS P f vs K w)) fun e w' he => ?_
        cases e with
        | returned v => exact hn _ _ he
        | panicked c => exact he.elim
        | outgrown => exact he.elim
  unfold denOp at h
  cases hp : isPure P o.op with
  | true =>
    rw [hp] at h
    obtain ⟨v, hv, hK⟩ := denPure_sound (P := P) hρ o (K := fun v => K v w) h
    rw [hv w]
    exact hn _ _ hK
  | false =>
    rw [hp] at h
    simp only [cond_false] at h
    split at h
    · rename_i t x heq
      obtain ⟨v, hv, h1⟩ := withV_some h
      have hex : (execOp a.eval o).run P w = ((Instr.loadAt t v).run P w).andThen fun v w' => .ok (.value v) w' := run_sem (by simp [execOp, heq, hρ x v hv]) w
      rw [hex]
      cases hg : isAggT P t with
      | true =>
        rw [hg] at h1
        obtain ⟨u, hu, hK⟩ := LoadA_run hg h1
        rw [hu]; exact hn _ _ hK
      | false =>
        rw [hg] at h1
        obtain ⟨ht, h2⟩ := cond_true_of h1
        obtain ⟨u, hu, hK⟩ := LoadC_run ht hg h2
        rw [hu]; exact hn _ _ hK
    · rename_i t x y heq
      obtain ⟨p, hpv, h1⟩ := withV_some h
      obtain ⟨v, hv, h2⟩ := withV_some h1
      have hex : (execOp a.eval o).run P w = ((Instr.storeAt t p v).run P w).andThen fun _ w' => .ok .skip w' := by
        simp [execOp, heq, hρ x p hpv, hρ y v hv]
      rw [hex]
      cases hg : isAggT P t with
      | true =>
        rw [hg] at h2
        have h3 : StoreA (P.cellsOf t) p v (fun w' => K undef w') w := h2
        unfold StoreA at h3
        split at h3
        · rename_i ad cs
          obtain ⟨hsz, h1c, hc, hK⟩ := h3
          obtain ⟨i, hi⟩ := info_of_underlying (isAggT_some hg)
          have hst := storeCells_run (P := P) (a := ad) cs.toList 0 w (fun v hv => h1c v (by simpa using hv)) (fun j hj => by simpa using hc j (by simpa [hsz] using hj))
          simp only [Instr.storeAt, Instr.sureAddr, storeVar, Value.cells, Sem.run_bind, Sem.run_pure, Result.andThen_ok, sizeOf_run hi, hsz, ne_eq, not_true_eq_false, if_false, hst]
          exact hn _ _ hK
        · exact h3.elim
      | false =>
        rw [hg] at h2
        obtain ⟨h1c, h3⟩ := cond_true_of h2
        have h1c' : P.cellsOf t = 1 := Nat.eq_of_beq_eq_true h1c
        unfold StoreC at h3
        split at h3
        · rename_i ad
          obtain ⟨ho, hc, hf, hK⟩ := h3
          have hsz : v.cells.size = 1 := by cases v <;> first | rfl | cases ho
          have hcl : v.cells.toList = [v] := by cases v <;> first | rfl | cases ho
          have hi : ∃ i, P.info? t = some i := by
            cases hi : P.info? t with
            | none => simp [Program.cellsOf, hi] at h1c'
            | some i => exact ⟨i, rfl⟩
          obtain ⟨i, hi⟩ := hi
          have hst := storeCells_run (P := P) (a := ad) [v] 0 w (by simpa using ho) (fun j hj => by
            have : j = 0 := by simpa using hj
            subst this
            have h0 : ad.add (0 + 0) = ad := by simp [Addr.add]
            rw [h0]
            exact ⟨hc, hf⟩)
          simp only [Instr.storeAt, Instr.sureAddr, storeVar, Sem.run_bind, Sem.run_pure, Result.andThen_ok, sizeOf_run hi, hsz, h1c', ne_eq, not_true_eq_false, if_false, hcl, hst]
          have h0 : ad.add 0 = ad := by simp [Addr.add]
          simp only [setCells, h0]
          exact hn _ _ hK
        · exact h3.elim
    · rename_i t heq
      split at h
      · rename_i i hi
        split at h
        · rename_i z hz
          have hex : (execOp a.eval o).run P w = .ok (.value (.pointer (some ⟨w.heap.size, 0, none⟩))) (w.alloc (.cells z.cells t)) := by
            simp [execOp, heq, Instr.alloc, zeroValue, typeInfo, hi, hz, newVar, newRow]
          rw [hex]
          exact hn _ _ h
        · exact h.elim
      · exact h.elim
    · rename_i t x heq
      obtain ⟨v, hv, h1⟩ := withV_some h
      have hex : (execOp a.eval o).run P w = .ok (.value (.pointer (some ⟨w.heap.size, 0, none⟩))) (w.alloc (.cells v.cells t)) := by
        simp [execOp, heq, Instr.box, newVar, newRow, hρ x v hv]
      rw [hex]
      exact hn _ _ h1
    · rename_i t m k x heq
      obtain ⟨vm, hm, h1⟩ := withV_some h
      obtain ⟨vk, hk, h2⟩ := withV_some h1
      obtain ⟨vx, hx, h3⟩ := withV_some h2
      have hex : (execOp a.eval o).run P w = ((Instr.mapUpdate t vm vk vx).run P w).andThen fun _ w' => .ok .skip w' := by
        simp [execOp, heq, hρ _ _ hm, hρ _ _ hk, hρ _ _ hx]
      rw [hex]
      unfold RunU at h3
      split at h3
      · rename_i u w' hr
        rw [hr]; exact hn _ _ h3
      · exact h3.elim
    · rename_i t m k x heq
      obtain ⟨vm, hm, h1⟩ := withV_some h
      obtain ⟨vk, hk, h2⟩ := withV_some h1
      obtain ⟨vx, hx, h3⟩ := withV_some h2
      have hex : (execOp a.eval o).run P w = ((Instr.mapUpdate t vm vk vx).run P w).andThen fun _ w' => .ok .skip w' := by
        simp [execOp, heq, hρ _ _ hm, hρ _ _ hk, hρ _ _ hx]
      rw [hex]
      unfold RunU at h3
      split at h3
      · rename_i u w' hr
        rw [hr]; exact hn _ _ h3
      · exact h3.elim
    · rename_i x heq
      obtain ⟨v, hv, h1⟩ := withV_some h
      have hex : (execOp a.eval o).run P w = ((Instr.panic v).run P w).andThen fun v w' => .ok (.value v) w' := run_sem (by simp [execOp, heq, hρ x v hv]) w
      rw [hex]
      unfold PanicS at h1
      split at h1
      · rename_i u w' hr
        rw [hr]; exact hQ _ _ h1
      · exact h1.elim
    · rename_i c heq
      obtain ⟨callee, args, argTypes⟩ := c
      simp only at h
      split at h
      · rename_i f
        have h1 := evs_some hρ _ _ h
        have hex : (execOp a.eval o).run P w = (callFunc f (args.toList.map a.eval).toArray).run P w := by
          simp [execOp, heq, resolve, Deferred.ofValue, Act.eval, invoke, map_arr]
        cases hok : okFunc P f with
        | true =>
          rw [hok] at h1
          obtain ⟨hr, hu⟩ := hcall f _ hok h1
          rw [hex, hr]
          exact hu
        | false =>
          rw [hok] at h1
          obtain ⟨v, w', hr, hK⟩ := h1
          rw [hex, hr]
          exact hn _ _ hK
      · rename_i x hx
        obtain ⟨v, hv, h1⟩ := withV_some h
        have h2 := evs_some hρ _ _ h1
        unfold CallV at h2
        split at h2
        · rename_i g first captured
          obtain ⟨h3, hok⟩ := h2
          obtain ⟨hr, hu⟩ := hcall g _ hok h3
          have hex : (execOp a.eval o).run P w = (callFunc g ((first ++ (args.toList.map a.eval).toArray) ++ captured)).run P w := by
            simp [execOp, heq, resolve, Deferred.ofValue, hρ _ _ hv, invoke, map_arr]
          rw [hex, hr]
          exact hu
        · exact h2.elim
        · exact h2.elim
      · rename_i b hb1 hb2
        exact hsem h
    · exact hsem h
def FR (r : Option Nat) : Fence := { Fence.wide with round := r }
theorem FR_none : FR none = Fence.wide := rfl
theorem rows_wide {n : Nat} {row : String} {args : Array Value} {w : World} {R : Value → World → Prop} (h : Rows P row args w R) : RowsIn Fence.wide n P row args w R :=
  fun c cs _ => let ⟨v, w', r, s⟩ := h c cs; ⟨v, w', r, stepsIn_wide.2 s⟩
theorem uponIn_of_upon {r : Option Nat} {n : Nat} {o : Oper} {a : Act} {next : Act → World → Prop} {Q : Exit → Act → World → Prop} {x : Result Next} (h : o.upon P a next Q x) : o.uponIn (FR r) n P a next Q x := by
  unfold Oper.upon at h
  unfold Oper.uponIn
  split at h
  · exact h
  · exact h
  · exact h
  · exact ⟨fun hh => by simp [FR, Fence.wide] at hh, callsIn_wide.2 h⟩
  · exact ⟨fun hh => by simp [FR, Fence.wide] at hh, rows_wide h⟩
  · exact h
  · exact h.elim
theorem denOp_yl {pan : Bool} {F : Fr} {a : Act} (hρ : ∀ x v, F.ev x = some v → a.eval x = v) (o : Oper) {K : Value → World → Prop} {Kp : List PanicEntry → World → Prop} {w : World} (h : denOp P pan true F o.op o.type K Kp w) :
    (denOp P pan false F o.op o.type K Kp w ∨ ∃ l args, (execOp a.eval o).run P w = (Instr.yield l args).run P w ∧ YieldS P l args K w) ∧ ∀ c, o.op ≠ .defer c := by
  refine ⟨?_, fun c hc => ?_⟩
  · unfold denOp at h ⊢
    cases hp : isPure P o.op with
    | true => rw [hp] at h; exact .inl h
    | false =>
      rw [hp] at h
      simp only [cond_false] at h ⊢
      split at h <;> try exact .inl h
      rename_i c heq
      obtain ⟨callee, args, argTypes⟩ := c
      simp only at h ⊢
      split at h <;> try exact .inl h
      rename_i x hx
      obtain ⟨v, hv, h1⟩ := withV_some h
      have h2 := evs_some hρ _ _ h1
      unfold CallV at h2
      split at h2
      · left
        rename_i g first captured
        show withV (F.ev x) fun v => evs F args.toList fun vs => CallV P pan false v vs K Kp w
        rw [hv] at h ⊢
        exact h
      · right
        rename_i l first captured
        refine ⟨l, first ++ (args.toList.map a.eval).toArray, ?_, h2⟩
        simp [execOp, heq, resolve, Deferred.ofValue, hρ _ _ hv, invoke, map_arr]
      · exact h2.elim
  · unfold denOp at h
    rw [hc] at h
    simp only [isPure, cond_false, semOf] at h
theorem denOp_soundIn {r : Option Nat} {n : Nat} {pan : Bool} {F : Fr} {a : Act} (hρ : ∀ x v, F.ev x = some v → a.eval x = v) (o : Oper) {K : Value → World → Prop} {Kp : List PanicEntry → World → Prop} {w : World}
    {next : Act → World → Prop} {Q : Exit → Act → World → Prop} (hn : ∀ v w', K v w' → next (a.put o.dst v) w') (hQ : ∀ c w', Kp c w' → Q (.panic c) a w')
    (h : denOp P pan true F o.op o.type K Kp w) : o.wpIn (FR r) n P a w next Q := by
  obtain ⟨h1, hnd⟩ := denOp_yl hρ o h
  refine ⟨fun _ _ => trivial, ?_⟩
  rw [Oper.semAt_eq _ _ _ hnd]
  rcases h1 with h1 | ⟨l, args, hr, hy⟩
  · exact uponIn_of_upon (denOp_sound hρ o hn hQ h1)
  · rw [hr]
    obtain ⟨fn, tmps, assign, body, hy1, hy2⟩ := hy
    rw [hy1]
    refine ⟨fun hh => by simp [FR, Fence.wide] at hh, ?_⟩
    have h3 : RoundIn Fence.wide 0 P l fn tmps assign body w fun | .returned v, w'' => next (a.put o.dst v) w'' | .panicked chain, w'' => Q (.panic chain) a w'' | .outgrown, _ => LetsOut Q :=
      hy2.mono fun e w' he => by cases e <;> first | exact hn _ _ he | exact he.elim
    exact ⟨trivial, fun c cs _ => h3.2 c cs (room_wide _)⟩
end
end SG

namespace SG
open Go
set_option linter.unusedSimpArgs false
set_option linter.unusedVariables false

section
variable {P : Program} {n : Stat}

theorem Agree.hρ {F : Fr} {a : Act} (h : Agree n F a) : ∀ x v, F.ev x = some v → a.eval x = v := fun _ _ hx => h.ev hx
def Keeps (D : Nat → Prop) (a a' : Act) : Prop := ∀ t, ¬ D t → a'.tmps.getD t undef = a.tmps.getD t undef
theorem Keeps.refl {D : Nat → Prop} (a : Act) : Keeps D a a := fun _ _ => rfl
theorem Keeps.trans {D : Nat → Prop} {a b c : Act} (h : Keeps D a b) (k : Keeps D b c) : Keeps D a c := fun t ht => (k t ht).trans (h t ht)
theorem Keeps.mono {D D' : Nat → Prop} {a b : Act} (h : Keeps D a b) (hd : ∀ t, D t → D' t) : Keeps D' a b := fun t ht => h t fun hh => ht (hd t hh)
theorem Keeps.put {D : Nat → Prop} (a : Act) (d : Option Nat) (v : Value) (hd : ∀ t, d = some t → D t) : Keeps D a (a.put d v) := by
  intro t ht
  cases d with
  | none => rfl
  | some d =>
    have hne : d ≠ t := fun e => ht (hd t (by rw [e]))
    simp [Act.put, Array.getElem?_setIfInBounds_ne hne]
theorem Agree.kill' {F : Fr} {a a' : Act} (h : Agree n F a) (hs : Stands n a') {m : Nat} {D : Nat → Prop} (hk : Keeps D a a') (hm : ∀ t, D t → Nat.testBit m t = true) :
    Agree n (F.kill m) a' := by
  refine ⟨hs, fun t v hv => ?_⟩
  unfold Fr.kill at hv
  cases hb : Nat.testBit m t with
  | true => rw [hb] at hv; cases hv
  | false =>
    rw [hb] at hv
    rw [hk t (fun hD => by rw [hm t hD] at hb; cases hb)]
    exact h.vals t v hv

def mkF : List Nat → Fr → List Value → Fr
  | t :: ls, F, v :: vs => mkF ls (F.upd t v) vs
  | _, F, _ => F
theorem app_mkJ : ∀ (live : List Nat) (F : Fr) (k : Fr → World → Prop) (vs : List Value) (w : World), vs.length = live.length →
    (app live.length (mkJ live F k) vs w ↔ k (mkF live F vs) w)
  | [], F, k, vs, w, h => by
    have : vs = [] := List.eq_nil_of_length_eq_zero h
    subst this; exact Iff.rfl
  | t :: ls, F, k, v :: vs, w, h => app_mkJ ls (F.upd t v) k vs w (by simpa using h)
  | t :: ls, F, k, [], w, h => by simp at h
def slots (live : List Nat) (a : Act) : List Value := live.map fun t => a.tmps.getD t undef
theorem app_of_appF : ∀ (live : List Nat) (J : Cur live.length) (F : Fr) (a : Act) (w : World), Agree n F a → appF live J F w → app live.length J (slots live a) w
  | [], J, F, a, w, _, h => h
  | t :: ls, J, F, a, w, ha, h => by
    obtain ⟨v, hv, h1⟩ := withV_some h
    have := app_of_appF ls (J v) F a w ha h1
    have hvv := ha.vals t v hv
    show app ls.length (J (a.tmps.getD t undef)) (slots ls a) w
    rw [hvv]; exact this
theorem Agree.mkF : ∀ (live : List Nat) (F : Fr) (a : Act), Agree n F a → Agree n (mkF live F (slots live a)) a
  | [], F, a, h => h
  | t :: ls, F, a, h => Agree.mkF ls (F.upd t (a.tmps.getD t undef)) a (h.upd rfl)
theorem slots_length (live : List Nat) (a : Act) : (slots live a).length = live.length := by simp [slots]

theorem getElem?_of_getD {a : Act} {d : Nat} {b : Bool} (h : a.tmps.getD d undef = .bool b) : a.tmps[d]? = some (.bool b) := by
  simp only [Array.getD_eq_getD_getElem?] at h
  cases hx : a.tmps[d]? with
  | none => rw [hx] at h; cases h
  | some v => rw [hx] at h; simpa using h
theorem isB_true {v : Value} {b : Bool} (h : isB v b = true) : v = .bool b := by
  cases v <;> simp [isB] at h
  rw [h]
theorem yielded_of {ops : Array Oper} {a : Act} {j d : Nat} {b : Bool} (hd : (ops[j]?).bind (·.dst) = some d) (h : a.tmps.getD d undef = .bool b) : yielded ops a.tmps j = some b := by
  unfold yielded
  rw [hd]
  simp [getElem?_of_getD h]
theorem yielded_not {ops : Array Oper} {a : Act} {j d : Nat} {b : Bool} (hd : (ops[j]?).bind (·.dst) = some d) (h : isB (a.tmps.getD d undef) b = false) : yielded ops a.tmps j ≠ some b := by
  unfold yielded
  rw [hd]
  intro hc
  simp only [Option.bind_some] at hc
  split at hc
  · rename_i b' hb
    cases hc
    have : a.tmps.getD d undef = .bool b := by rw [Array.getD_eq_getD_getElem?, hb]; rfl
    rw [this] at h
    simp [isB] at h
  · cases hc
theorem actv_of {ops : Array Oper} {o : Oper} {F : Fr} {a : Act} {X : Prop} (ha : Agree n F a) (h : actv ops o F X) : Region.wanted o (yielded ops a.tmps) = true ∧ X := by
  unfold actv at h
  unfold Region.wanted
  cases hg : o.guard with
  | none => rw [hg] at h; exact ⟨rfl, h⟩
  | some jw =>
    obtain ⟨j, want⟩ := jw
    rw [hg] at h
    simp only at h ⊢
    cases hd : (ops[j]?).bind (·.dst) with
    | none => rw [hd] at h; exact h.elim
    | some d =>
      rw [hd] at h
      obtain ⟨h1, hX⟩ := cond_true_of h
      refine ⟨?_, hX⟩
      unfold isBo at h1
      cases hF : F d with
      | none => rw [hF] at h1; cases h1
      | some v =>
        rw [hF] at h1
        have hv := isB_true h1
        subst hv
        rw [yielded_of hd (ha.vals d _ hF)]
        simp
theorem inact_of {ops : Array Oper} {o : Oper} {F : Fr} {a : Act} {X : Prop} (ha : Agree n F a) (h : inact ops o F X) : Region.wanted o (yielded ops a.tmps) = false ∧ X := by
  unfold inact at h
  unfold Region.wanted
  cases hg : o.guard with
  | none => rw [hg] at h; exact h.elim
  | some jw =>
    obtain ⟨j, want⟩ := jw
    rw [hg] at h
    simp only at h ⊢
    cases hd : (ops[j]?).bind (·.dst) with
    | none => rw [hd] at h; exact h.elim
    | some d =>
      rw [hd] at h
      simp only at h
      cases hF : F d with
      | none => rw [hF] at h; exact h.elim
      | some v =>
        rw [hF] at h
        obtain ⟨h1, hX⟩ := cond_false_of h
        refine ⟨?_, hX⟩
        have := yielded_not (ops := ops) (a := a) (j := j) hd (b := want) (by rw [ha.vals d v hF]; exact h1)
        simpa using this

section
variable {pan : Bool} {ops : Array Oper} {Kp : List PanicEntry → World → Prop} {Q : Exit → Act → World → Prop} {rd : Option Nat} {fu : Nat}
def dstIn (l : List Oper) (t : Nat) : Prop := ∃ o ∈ l, o.dst = some t

theorem denL_sound (hQ : ∀ c a' w', Stands n a' → Kp c w' → Q (.panic c) a' w') {K : Fr → World → Prop} {rest : List Oper} : ∀ (l : List Oper) (F : Fr) (a : Act) (w : World), Agree n F a →
    (∀ o ∈ l, ∀ d, o.dst = some d → n.wr d) → denL P pan ops Kp l K F w →
    (∀ F' a' w', Agree n F' a' → Keeps (dstIn l) a a' → K F' w' → wpListIn (FR rd) fu P ops Q rest a' w') → wpListIn (FR rd) fu P ops Q (l ++ rest) a w
  | [], F, a, w, ha, _, h, hK => hK F a w ha (.refl a) h
  | o :: r, F, a, w, ha, hd, h, hK => by
    obtain ⟨hw, h1⟩ := actv_of ha h
    show wpListIn (FR rd) fu P ops Q (o :: (r ++ rest)) a w
    unfold wpListIn
    rw [if_pos hw]
    refine (denOp_soundIn ha.hρ o (K := fun v w' => denL P pan ops Kp r K (F.put o.dst v) w') (Kp := Kp) (fun v w' hv => ?_) (fun c w' hc => hQ _ _ _ ha.st hc) h1)
    refine denL_sound hQ r _ _ w' (ha.put (hd o (by simp)) v) (fun o' ho' => hd o' (by simp [ho'])) hv fun F' a' w'' ha' hk hK' => hK F' a' w'' ha' ?_ hK'
    exact (Keeps.put a o.dst v fun t ht => ⟨o, by simp, ht⟩).trans (hk.mono fun t ⟨o', ho', ht⟩ => ⟨o', by simp [ho'], ht⟩)

theorem skip_sound {rest : List Oper} {j d : Nat} {want : Bool} (hj : (ops[j]?).bind (·.dst) = some d) : ∀ (l : List Oper) (F : Fr) (a : Act) (w : World), Agree n F a →
    (∀ o ∈ l, ∀ d, o.dst = some d → n.wr d) → (∀ o ∈ l, o.guard = some (j, want)) → isB (a.tmps.getD d undef) want = false →
    (∀ a', Agree n (undefs l F) a' → Keeps (dstIn l) a a' → wpListIn (FR rd) fu P ops Q rest a' w) → wpListIn (FR rd) fu P ops Q (l ++ rest) a w
  | [], F, a, w, ha, _, _, _, hK => hK a ha (.refl a)
  | o :: r, F, a, w, ha, hd, hg, hb, hK => by
    show wpListIn (FR rd) fu P ops Q (o :: (r ++ rest)) a w
    unfold wpListIn
    have hw : Region.wanted o (yielded ops a.tmps) = false := by
      unfold Region.wanted
      rw [hg o (by simp)]
      have := yielded_not (ops := ops) (a := a) (j := j) hj hb
      simpa using this
    rw [if_neg (by rw [hw]; simp)]
    refine ⟨fun _ _ => trivial, ?_⟩
    refine skip_sound hj r _ _ w (ha.put (hd o (by simp)) undef) (fun o' ho' => hd o' (by simp [ho'])) (fun o' ho' => hg o' (by simp [ho'])) ?_ fun a' ha' hk => hK a' ha' ?_
    · cases hdo : o.dst with
      | none => exact hb
      | some e =>
        by_cases hed : e = d
        · subst hed
          have hlt := hd o (by simp) e hdo
          simp [Act.put, ha.st.size, hlt.1, isB, undef]
        · simp only [Act.put, Array.getD_eq_getD_getElem?]
          rw [Array.getElem?_setIfInBounds_ne hed, ← Array.getD_eq_getD_getElem?]
          exact hb
    · exact (Keeps.put a o.dst undef fun t ht => ⟨o, by simp, ht⟩).trans (hk.mono fun t ⟨o', ho', ht⟩ => ⟨o', by simp [ho'], ht⟩)

theorem beq_guard {x y : Option (Nat × Bool)} (h : (x == y) = true) : x = y := by simpa using h

theorem denSegs_sound (hQ : ∀ c a' w', Stands n a' → Kp c w' → Q (.panic c) a' w') {K : Fr → World → Prop} : ∀ (ss : List Seg) (l : List Oper) (F : Fr) (a : Act) (w : World), segsOk ops ss l = true → Agree n F a →
    (∀ o ∈ l, ∀ d, o.dst = some d → n.wr d) → denSegs P pan ops Kp ss l K F w →
    (∀ F' a' w', Agree n F' a' → Keeps (dstIn l) a a' → K F' w' → Q .normal a' w') → wpListIn (FR rd) fu P ops Q l a w
  | [], l, F, a, w, hok, ha, _, h, hK => by
    have : l = [] := by simpa [segsOk] using hok
    subst this
    exact hK F a w ha (.refl a) h
  | .plain m :: ss, l, F, a, w, hok, ha, hd, h, hK => by
    simp only [segsOk, Bool.and_eq_true] at hok
    have hl : l = l.take m ++ l.drop m := (List.take_append_drop m l).symm
    rw [hl]
    refine denL_sound hQ (l.take m) F a w ha (fun o ho => hd o (List.mem_of_mem_take ho)) h fun F' a' w' ha' hk hK' => ?_
    refine denSegs_sound hQ ss (l.drop m) F' a' w' hok.2 ha' (fun o ho => hd o (List.mem_of_mem_drop ho)) hK' fun F'' a'' w'' ha'' hk' hK'' => hK F'' a'' w'' ha'' ?_ hK''
    exact (hk.mono fun t ⟨o, ho, ht⟩ => ⟨o, List.mem_of_mem_take ho, ht⟩).trans (hk'.mono fun t ⟨o, ho, ht⟩ => ⟨o, List.mem_of_mem_drop ho, ht⟩)
  | .grp m live mask :: ss, l, F, a, w, hok, ha, hd, h, hK => by
    simp only [segsOk, Bool.and_eq_true, List.all_eq_true] at hok
    obtain ⟨hall, hss⟩ := hok
    simp only [denSegs] at h
    cases hgo : guardOf ops (l.take m) with
    | none => rw [hgo] at h; exact h.elim
    | some dw =>
      obtain ⟨d, want⟩ := dw
      rw [hgo] at h
      obtain ⟨v, hv, h1⟩ := withV_some h
      -- the guard
      have hg : ∃ j, (ops[j]?).bind (·.dst) = some d ∧ ∀ o ∈ l.take m, o.guard = some (j, want) := by
        cases hlm : l.take m with
        | nil => rw [hlm] at hgo; cases hgo
        | cons o r =>
          rw [hlm] at hgo
          simp only [guardOf] at hgo
          cases hog : o.guard with
          | none => rw [hog] at hgo; cases hgo
          | some jw =>
            obtain ⟨j, want'⟩ := jw
            rw [hog] at hgo
            simp only [Option.map_eq_some_iff, Prod.mk.injEq] at hgo
            obtain ⟨d', hd', rfl, rfl⟩ := hgo
            refine ⟨j, hd', fun o' ho' => ?_⟩
            have h2 := beq_guard (hall o' (by rw [hlm]; exact ho')).1
            have hhead : l.head? = some o := by
              cases l with
              | nil => simp at hlm
              | cons x xs => cases m with | zero => simp at hlm | succ m => simp at hlm; simp [hlm.1]
            rw [h2, hhead]
            exact hog
      obtain ⟨j, hj, hgl⟩ := hg
      have hmask : ∀ t, dstIn (l.take m) t → Nat.testBit mask t = true := fun t ⟨o, ho, ht⟩ => by
        have := (hall o ho).2
        rw [ht] at this
        exact this
      have hl : l = l.take m ++ l.drop m := (List.take_append_drop m l).symm
      -- from the join on
      have hjoin : ∀ F' a' w', Agree n F' a' → Keeps (dstIn (l.take m)) a a' →
          appF live (mkJ live (F.kill mask) fun F' w' => denSegs P pan ops Kp ss (l.drop m) K F' w') F' w' → wpListIn (FR rd) fu P ops Q (l.drop m) a' w' := by
        intro F' a' w' ha' hk hJ
        have h2 := app_of_appF live _ F' a' w' ha' hJ
        rw [app_mkJ live _ _ _ _ (slots_length live a')] at h2
        have hF := Agree.mkF live _ a' (ha.kill' ha'.st hk hmask)
        refine denSegs_sound hQ ss (l.drop m) _ a' w' hss hF (fun o ho => hd o (List.mem_of_mem_drop ho)) h2 fun F'' a'' w'' ha'' hk' hK'' => hK F'' a'' w'' ha'' ?_ hK''
        exact (hk.mono fun t ⟨o, ho, ht⟩ => ⟨o, List.mem_of_mem_take ho, ht⟩).trans (hk'.mono fun t ⟨o, ho, ht⟩ => ⟨o, List.mem_of_mem_drop ho, ht⟩)
      rw [hl]
      replace h1 := h1.here
      unfold IfB at h1
      by_cases hb : isB v want = true
      · rw [if_pos hb] at h1
        have hvb := isB_true hb
        subst hvb
        exact denL_sound hQ (l.take m) _ a w (ha.upd (ha.vals d _ hv)) (fun o ho => hd o (List.mem_of_mem_take ho)) h1 fun F' a' w' ha' hk hK' => hjoin F' a' w' ha' hk hK'
      · rw [if_neg hb] at h1
        refine skip_sound hj (l.take m) F a w ha (fun o ho => hd o (List.mem_of_mem_take ho)) hgl (by rw [ha.vals d v hv]; simpa using hb) fun a' ha' hk => hjoin _ a' w ha' hk h1

theorem heldOp_sound {S : World → Prop} {F : Fr} {a : Act} (ha : Agree n F a) (o : Oper) {K : Value → Prop} (h : heldOp P S F o.op o.type K) :
    ∃ v, (∀ w, S w → (execOp a.eval o).run P w = .ok (.value v) w) ∧ K v := by
  unfold heldOp at h
  split at h
  · rename_i t x heq
    obtain ⟨p, hp, h1⟩ := withV_some h
    have hex : ∀ w, (execOp a.eval o).run P w = ((Instr.loadAt t p).run P w).andThen fun v w' => .ok (.value v) w' := fun w => run_sem (by simp [execOp, heq, ha.hρ x p hp]) w
    cases hg : isAggT P t with
    | true =>
      rw [hg] at h1
      have h2 : HeldA (P.cellsOf t) S p K := h1
      unfold HeldA at h2
      split at h2
      · rename_i ad
        obtain ⟨xs, hl, hc, hK⟩ := h2
        refine ⟨.agg xs.toArray, fun w hS => ?_, hK⟩
        obtain ⟨u, hu, he⟩ := LoadA_run (P := P) (t := t) (v := .pointer (some ad)) (K := fun v _ => v = .agg xs.toArray) (w := w) hg ⟨xs, hl, fun i v hi => hc w hS i v hi, rfl⟩
        rw [hex, hu, he]; rfl
      · exact h2.elim
    | false =>
      rw [hg] at h1
      obtain ⟨ht, h2⟩ := cond_true_of h1
      unfold HeldC at h2
      split at h2
      · rename_i ad
        obtain ⟨v, hc, hK⟩ := h2
        refine ⟨v, fun w hS => ?_, hK⟩
        obtain ⟨u, hu, he⟩ := LoadC_run (P := P) (t := t) (v := .pointer (some ad)) (K := fun u _ => u = v) (w := w) ht hg (by simp [LoadC, hc w hS])
        rw [hex, hu, he]; rfl
      · exact h2.elim
  · obtain ⟨s, ⟨v, hs, hK⟩, hr⟩ := semOf_sound (P := P) ha.hρ o h
    exact ⟨v, fun w hS => by rw [hr, hs w hS]; rfl, hK⟩

theorem readyIs_eq {listed : Array Bool} {l : List Nat} (h : readyIs ops listed l = true) : Region.ready .any ops listed = l := by
  unfold readyIs at h
  exact LawfulBEq.eq_of_beq h

def wpAnyN (P : Program) (ops : Array Oper) (Q : Exit → Act → World → Prop) (S : World → Prop) (nd : Nat → Bool) : Nat → Array Bool → Act → World → Prop
  | 0, listed, a, w => Region.ready .any ops listed = [] ∧ Q .normal a w
  | fuel + 1, listed, a, w => (Region.ready .any ops listed = [] → Q .normal a w) ∧
    ∀ i ∈ Region.ready .any ops listed, wpOp P ops Q i (fun a' w' => (nd i = true → S w → S w') ∧ wpAnyN P ops Q S nd fuel (listed.setIfInBounds i true) a' w') a w
theorem wpAny_of_N {S : World → Prop} {nd : Nat → Bool} : ∀ (fuel : Nat) (listed : Array Bool) (a : Act) (w : World), wpAnyN P ops Q S nd fuel listed a w → wpAny P .any ops Q fuel listed a w
  | 0, _, _, _, h => h
  | fuel + 1, _, _, _, h => ⟨h.1, fun i hi => wpOp_mono (fun a' w' h' => wpAny_of_N fuel _ a' w' h'.2) (h.2 i hi)⟩
inductive Waits (ops : Array Oper) : Nat → Nat → Prop
  | one {j i : Nat} {o : Oper} {e : Edge} : ops[j]? = some o → e ∈ o.after → Region.binds .any e = true → e.on = i → Waits ops j i
  | more {j i : Nat} {o : Oper} {e : Edge} : ops[j]? = some o → e ∈ o.after → Region.binds .any e = true → Waits ops e.on i → Waits ops j i
def Shut (ops : Array Oper) (listed : Array Bool) : Prop := ∀ (k : Nat) (o : Oper), ops[k]? = some o → listed.getD k false = true → ∀ e ∈ o.after, Region.binds .any e = true → listed.getD e.on false = true
theorem Shut.waits {listed : Array Bool} (h : Shut ops listed) {j i : Nat} (hw : Waits ops j i) : listed.getD j false = true → listed.getD i false = true := by
  induction hw with
  | one hj he hb hi => intro hl; rw [← hi]; exact h _ _ hj hl _ he hb
  | more hj he hb _ ih => intro hl; exact ih (h _ _ hj hl _ he hb)
theorem Shut.ready {listed : Array Bool} (h : Shut ops listed) {j i : Nat} (hj : j ∈ Region.ready .any ops listed) (hi : listed.getD i false = false) : ¬ Waits ops j i := by
  intro hw
  obtain ⟨_, o, ho, hall⟩ := mem_ready.1 hj
  have : listed.getD i false = true := by
    cases hw with
    | one hj' he hb hi' => rw [ho] at hj'; cases hj'; rw [← hi']; exact hall _ he hb
    | more hj' he hb hw' => rw [ho] at hj'; cases hj'; exact h.waits hw' (hall _ he hb)
  rw [this] at hi; cases hi
theorem Shut.set {listed : Array Bool} (h : Shut ops listed) {j : Nat} (hj : j ∈ Region.ready .any ops listed) : Shut ops (listed.setIfInBounds j true) := by
  intro k o ho hl e he hb
  by_cases hjk : j = k
  · subst hjk
    obtain ⟨_, o', ho', hall⟩ := mem_ready.1 hj
    rw [ho] at ho'; cases ho'
    exact getD_set_true (hall e he hb)
  · rw [getD_set_ne false hjk] at hl
    exact getD_set_true (h k o ho hl e he hb)
theorem ready_unlisted {listed : Array Bool} {i : Nat} (hi : i ∈ Region.ready .any ops listed) : listed.getD i false = false := by
  have h0 := (mem_ready.1 hi).1
  rcases Nat.lt_or_ge i listed.size with h' | h'
  · simp [h'] at h0 ⊢; exact h0
  · simp [Array.getElem?_eq_none h']
theorem wpAnyN_take {S S' : World → Prop} {nd : Nat → Bool} {i : Nat} {oi : Oper} {v : Value} (hi : ops[i]? = some oi) (hns : Region.noSelect ops = true)
    (hQ : ∀ c a w, Q (.panic c) (a.put oi.dst v) w → Q (.panic c) a w)
    (hstep : ∀ (j : Nat) (oj : Oper) (w w' : World), ops[j]? = some oj → ¬ Waits ops j i → j ≠ i → (nd j = true → S w → S w') → S' w → S' w') :
    ∀ (fuel : Nat) (listed : Array Bool) (a : Act) (w : World), Shut ops listed →
      (∀ (j : Nat) (oj : Oper), ops[j]? = some oj → j ≠ i → listed.getD j true = false → (∀ e ∈ oj.after, Region.binds .any e = true → e.on ≠ i) → oi.apart ops oj = true) →
      i ∈ Region.ready .any ops listed → YieldsIf P ops S' oi v a → S' w →
      wpAnyN P ops Q S nd fuel (listed.setIfInBounds i true) (a.put oi.dst v) w → wpAnyN P ops Q S nd (fuel + 1) listed a w := by
  have hsel := Region.noSelect_spec hns
  intro fuel
  induction fuel with
  | zero =>
    intro listed a w _ _ hr hy hS H
    refine ⟨fun h => (by rw [h] at hr; cases hr), fun j hj => ?_⟩
    by_cases hji : j = i
    · subst hji; exact hy.wpOp hi hS ⟨fun _ hh => hh, H⟩
    · have := ready_mono hj hji
      rw [H.1] at this
      cases this
  | succ fuel ih =>
    intro listed a w hsh hfree hr hy hS H
    refine ⟨fun h => (by rw [h] at hr; cases hr), fun j hj => ?_⟩
    by_cases hji : j = i
    · subst hji; exact hy.wpOp hi hS ⟨fun _ hh => hh, H⟩
    · have h1 := H.2 j (ready_mono hj hji)
      obtain ⟨hjun, oj, hoj, hall⟩ := mem_ready.1 hj
      have hnw := hsh.ready hj (ready_unlisted hr)
      have hnot : ∀ e ∈ oj.after, Region.binds .any e = true → e.on ≠ i := fun e he hb heq => hnw (.one hoj he hb heq)
      have h2 := wpOp_putIf hoj (hfree j oj hoj hji hjun hnot) (fun cs b => hsel i oi cs b hi) (fun cs b => hsel j oj cs b hoj) hQ hy h1
      have hfree' : ∀ (k : Nat) (ok : Oper), ops[k]? = some ok → k ≠ i → (listed.setIfInBounds j true).getD k true = false →
          (∀ e ∈ ok.after, Region.binds .any e = true → e.on ≠ i) → oi.apart ops ok = true := fun k ok hk hki hun hno => by
        refine hfree k ok hk hki ?_ hno
        by_cases hjk : j = k
        · subst hjk; exact hjun
        · rw [getD_set_ne true hjk] at hun; exact hun
      refine wpOp_mono (fun a' w' h3 => ?_) h2
      obtain ⟨hy', hSn, hH⟩ := h3
      have hS' := hstep j oj w w' hoj hnw hji hSn hS
      refine ⟨hSn, ih (listed.setIfInBounds j true) a' w' (hsh.set hj) hfree' (ready_mono hr (Ne.symm hji)) hy' hS' ?_⟩
      rw [Array.setIfInBounds_comm _ _ hji]
      exact hH
theorem wpAnyN_done {S : World → Prop} {nd : Nat → Bool} {listed : Array Bool} {a : Act} {w : World} (hr : Region.ready .any ops listed = []) (h : Q .normal a w) :
    ∀ fuel, wpAnyN P ops Q S nd fuel listed a w
  | 0 => ⟨hr, h⟩
  | _ + 1 => ⟨fun _ => h, by rw [hr]; simp⟩
theorem wpAnyN_all {S : World → Prop} {nd : Nat → Bool} {rs : List Nat} {fuel : Nat} {listed : Array Bool} {a : Act} {w : World} (hr : Region.ready .any ops listed = rs) (hne : rs ≠ [])
    (h : ∀ i ∈ rs, wpOp P ops Q i (fun a' w' => (nd i = true → S w → S w') ∧ wpAnyN P ops Q S nd fuel (listed.setIfInBounds i true) a' w') a w) : wpAnyN P ops Q S nd (fuel + 1) listed a w :=
  ⟨fun h0 => absurd (hr ▸ h0) hne, hr ▸ h⟩
theorem foldl_mask {ms : List Nat} {j i : Nat} : ∀ (l : List Edge) (s : Nat),
    Nat.testBit (l.foldl (fun s e => cond (Region.binds .any e) (s ||| 2 ^ e.on ||| cond (Nat.blt e.on j) (ms.getD e.on 0) 0) s) s) i = true →
    Nat.testBit s i = true ∨ ∃ e ∈ l, Region.binds .any e = true ∧ (e.on = i ∨ (e.on < j ∧ Nat.testBit (ms.getD e.on 0) i = true))
  | [], s, h => .inl h
  | e :: l, s, h => by
    rcases foldl_mask l _ h with h1 | ⟨e', he', h2⟩
    · cases hb : Region.binds .any e with
      | false => dsimp only at h1; rw [hb] at h1; exact .inl h1
      | true =>
        dsimp only at h1
        rw [hb] at h1
        simp only [cond_true, Nat.testBit_or, Bool.or_eq_true] at h1
        rcases h1 with (h1 | h1) | h1
        · exact .inl h1
        · rw [Nat.testBit_two_pow] at h1
          exact .inr ⟨e, by simp, hb, .inl (by simpa using h1)⟩
        · cases hlt : Nat.blt e.on j with
          | false => rw [hlt] at h1; simp at h1
          | true => rw [hlt] at h1; exact .inr ⟨e, by simp, hb, .inr ⟨Nat.le_of_ble_eq_true hlt, h1⟩⟩
    · exact .inr ⟨e', by simp [he'], h2⟩
theorem masksOk_at {ms : List Nat} : ∀ (l : List Oper) (j : Nat), masksOk ms j l = true → ∀ (k : Nat) (o : Oper), l[k]? = some o → ms.getD (j + k) 0 = maskOf ms (j + k) o
  | [], _, _, k, o, h => by simp at h
  | x :: r, j, hok, k, o, h => by
    simp only [masksOk, Bool.and_eq_true] at hok
    cases k with
    | zero => simp only [List.getElem?_cons_zero, Option.some.injEq] at h; subst h; exact Nat.eq_of_beq_eq_true hok.1
    | succ k =>
      have := masksOk_at r (j + 1) hok.2 k o (by simpa using h)
      rw [show j + (k + 1) = j + 1 + k by omega]
      exact this
theorem masks_wait {ms : List Nat} (hlen : ms.length = ops.size) (hok : masksOk ms 0 ops.toList = true) (j : Nat) : ∀ i, Nat.testBit (ms.getD j 0) i = true → Waits ops j i := by
  induction j using Nat.strongRecOn with
  | _ j ih =>
    intro i h
    cases ho : ops[j]? with
    | none =>
      have : ms.getD j 0 = 0 := by
        have hge : ms.length ≤ j := by rw [hlen]; exact Array.getElem?_eq_none_iff.1 ho
        simp [List.getElem?_eq_none hge]
      rw [this] at h; simp at h
    | some o =>
      have h1 := masksOk_at ops.toList 0 hok j o (by simpa using ho)
      rw [Nat.zero_add] at h1
      rw [h1] at h
      rcases foldl_mask _ _ h with h2 | ⟨e, he, hb, h2⟩
      · simp at h2
      · rcases h2 with h2 | ⟨hlt, h2⟩
        · exact .one ho (by simpa using he) hb h2
        · exact .more ho (by simpa using he) hb (ih _ hlt i h2)
theorem calm_step {ms held : List Nat} (hlen : ms.length = ops.size) (hok : masksOk ms 0 ops.toList = true) {i j : Nat} {o : Oper} (h : calm ops.size ms held i = true) (hj : ops[j]? = some o) (hne : j ≠ i) (hw : ¬ Waits ops j i) : need ms held j = true := by
  unfold calm at h
  rw [List.all_eq_true] at h
  have hlt : j < ops.size := (Array.getElem?_eq_some_iff.1 hj).1
  have := h j (List.mem_range.2 hlt)
  simp only [Bool.or_eq_true] at this
  rcases this with (h1 | h1) | h1
  · exact absurd (Nat.eq_of_beq_eq_true h1) hne
  · exact h1
  · exact absurd (masks_wait hlen hok j i h1) hw

theorem denSch_sound (hQ : ∀ c a' w', Stands n a' → Kp c w' → Q (.panic c) a' w') (hput : ∀ c a d v w, (∀ t, d = some t → n.wr t) → Q (.panic c) (Act.put a d v) w → Q (.panic c) a w) (hns : Region.noSelect ops = true)
    (hd : ∀ (i : Nat) (o : Oper) (d : Nat), ops[i]? = some o → o.dst = some d → n.wr d) {S : World → Prop} {K : Fr → World → Prop} {a₀ : Act} {ms held : List Nat} (hml : ms.length = ops.size) (hmo : masksOk ms 0 ops.toList = true)
    (hK : ∀ F' a' w', Agree n F' a' → Keeps (dstIn ops.toList) a₀ a' → K F' w' → Q .normal a' w') :
    ∀ (sch : Sch) (inside live : Bool) (listed : Array Bool) (fuel : Nat) (F : Fr) (a : Act) (w : World), schOk ops ms held inside live sch listed = true → schLen sch ≤ fuel → Agree n F a → Keeps (dstIn ops.toList) a₀ a → (live = true → S w) → Shut ops listed → (inside = true → ∀ i ∈ chain sch, i ∈ Region.ready .any ops listed) →
      denSch P pan ops ms held Kp S K sch F w →
      (inside = false → wpAnyN P ops Q S (need ms held) fuel listed a w) ∧
      (inside = true → ∀ i ∈ chain sch, ∃ f, fuel = f + 1 ∧ wpOp P ops Q i (fun a' w' => (need ms held i = true → S w → S w') ∧ wpAnyN P ops Q S (need ms held) f (listed.setIfInBounds i true) a' w') a w) := by
  have hmem : ∀ (i : Nat) (o : Oper) (t : Nat), ops[i]? = some o → o.dst = some t → dstIn ops.toList t := fun i o t ho ht => ⟨o, by simpa using Array.mem_of_getElem? ho, ht⟩
  have hact : ∀ (i : Nat) (r : Sch) (listed : Array Bool) (f : Nat) (F : Fr) (a : Act) (w : World), Agree n F a → Keeps (dstIn ops.toList) a₀ a →
      (∀ F a w, Agree n F a → Keeps (dstIn ops.toList) a₀ a → (need ms held i = true → S w) → denSch P pan ops ms held Kp S K r F w → wpAnyN P ops Q S (need ms held) f (listed.setIfInBounds i true) a w) →
      (match ops[i]? with
        | some o => actv ops o F (denOp P pan false F o.op o.type (fun v w' => cond (need ms held i) (S w' ∧ denSch P pan ops ms held Kp S K r (F.put o.dst v) w') (denSch P pan ops ms held Kp S K r (F.put o.dst v) w')) Kp w)
        | none => False) →
      wpOp P ops Q i (fun a' w' => (need ms held i = true → S w → S w') ∧ wpAnyN P ops Q S (need ms held) f (listed.setIfInBounds i true) a' w') a w := by
    intro i r listed f F a w ha hk ih h
    unfold wpOp
    cases ho : ops[i]? with
    | none => rw [ho] at h; exact h.elim
    | some o =>
      rw [ho] at h
      obtain ⟨hw, h1⟩ := actv_of ha h
      simp only
      rw [if_pos hw]
      refine .inl (denOp_sound ha.hρ o (fun v w' hv => ?_) (fun c w' hc => hQ _ _ _ ha.st hc) h1)
      cases hnd : need ms held i with
      | true =>
        rw [hnd] at hv
        exact ⟨fun _ _ => hv.1, ih _ _ w' (ha.put (hd i o · ho) v) (hk.trans (Keeps.put a o.dst v fun t ht => hmem i o t ho ht)) (fun _ => hv.1) hv.2⟩
      | false =>
        rw [hnd] at hv
        exact ⟨fun hh => (by cases hh), ih _ _ w' (ha.put (hd i o · ho) v) (hk.trans (Keeps.put a o.dst v fun t ht => hmem i o t ho ht)) (fun hh => (by rw [hnd] at hh; cases hh)) hv⟩
  -- one operation that is taken first: S' is what it wants of the world
  have htake : ∀ (i : Nat) (o : Oper) (v : Value) (S' : World → Prop) (live : Bool) (listed : Array Bool) (f : Nat) (a : Act) (w : World), ops[i]? = some o → YieldsIf P ops S' o v a →
      Region.free .any ops listed i = true → (Region.ready .any ops listed).contains i = true → Shut ops listed → (live = true → S w) → (∀ w, S w → S' w) → (∀ (j : Nat) (oj : Oper) (w w' : World), ops[j]? = some oj → need ms held j = true → (need ms held j = true → S w → S w') → S' w → S' w') →
      ((live = true ∧ calm ops.size ms held i = true) ∨ ∀ w, S' w) →
      wpAnyN P ops Q S (need ms held) f (listed.setIfInBounds i true) (a.put o.dst v) w → wpAnyN P ops Q S (need ms held) (f + 1) listed a w := by
    intro i o v S' live listed f a w ho hy hfree hready hsh hS hSS hSj' hc H
    refine wpAnyN_take (S' := S') ho hns (fun c a w => hput c a o.dst v w (hd i o · ho)) ?_ f listed a w hsh (fun j oj hj hne hun hno => Region.free_spec ho hfree j oj hj hne hun hno) (by simpa using hready) hy ?_ H
    · intro j oj w w' hj hno hne hSj hSw
      rcases hc with ⟨_, hcalm⟩ | hT
      · exact hSj' j oj w w' hj (calm_step hml hmo hcalm hj hne hno) hSj hSw
      · exact hT _
    · rcases hc with ⟨hl, _⟩ | hT
      · exact hSS _ (hS hl)
      · exact hT _
  intro sch
  induction sch with
  | fin =>
    intro inside live listed fuel F a w hok _ ha hk hS _ _ h
    simp only [schOk, Bool.and_eq_true, Bool.not_eq_true'] at hok
    refine ⟨fun _ => wpAnyN_done (readyIs_eq hok.2) (hK F a w ha hk h) fuel, fun hi => ?_⟩
    rw [hok.1] at hi; cases hi
  | pur i r ih =>
    intro inside live listed fuel F a w hok hlen ha hk hS hsh hch h
    simp only [schOk, Bool.and_eq_true, Bool.not_eq_true'] at hok
    obtain ⟨hin, ⟨hfree, hready⟩, hr⟩ := hok
    refine ⟨fun _ => ?_, fun hi => by rw [hin] at hi; cases hi⟩
    simp only [denSch] at h
    cases ho : ops[i]? with
    | none => rw [ho] at h; exact h.elim
    | some o =>
      rw [ho] at h
      obtain ⟨hw, h1⟩ := actv_of ha h
      obtain ⟨v, hv, h2⟩ := denPure_sound (P := P) ha.hρ o h1
      simp only [schLen] at hlen
      obtain ⟨f, rfl⟩ : ∃ f, fuel = f + 1 := ⟨fuel - 1, by omega⟩
      exact htake i o v (fun _ => True) live listed f a w ho (.inl ⟨hw, fun w _ => hv w⟩) hfree hready hsh hS (fun _ _ => trivial) (fun _ _ _ _ _ _ _ _ => trivial) (.inr fun _ => trivial)
        ((ih false live _ f _ _ w hr (by omega) (ha.put (hd i o · ho) v) (hk.trans (Keeps.put a o.dst v fun t ht => hmem i o t ho ht)) hS (hsh.set (by simpa using hready)) (fun hh => by cases hh) h2).1 rfl)
  | hld i r ih =>
    intro inside live listed fuel F a w hok hlen ha hk hS hsh hch h
    simp only [schOk, Bool.and_eq_true, Bool.not_eq_true'] at hok
    obtain ⟨hin, ⟨⟨hc, hfree⟩, hready⟩, hr⟩ := hok
    refine ⟨fun _ => ?_, fun hi => by rw [hin] at hi; cases hi⟩
    simp only [denSch] at h
    cases ho : ops[i]? with
    | none => rw [ho] at h; exact h.elim
    | some o =>
      rw [ho] at h
      obtain ⟨hw, h1⟩ := actv_of ha h
      obtain ⟨v, hv, h2⟩ := heldOp_sound (P := P) ha o h1
      simp only [schLen] at hlen
      obtain ⟨f, rfl⟩ : ∃ f, fuel = f + 1 := ⟨fuel - 1, by omega⟩
      exact htake i o v S live listed f a w ho (.inl ⟨hw, hv⟩) hfree hready hsh hS (fun _ hh => hh) (fun _ _ _ _ _ hn hh => hh hn) (.inl hc)
        ((ih false live _ f _ _ w hr (by omega) (ha.put (hd i o · ho) v) (hk.trans (Keeps.put a o.dst v fun t ht => hmem i o t ho ht)) hS (hsh.set (by simpa using hready)) (fun hh => by cases hh) h2).1 rfl)
  | skp i r ih =>
    intro inside live listed fuel F a w hok hlen ha hk hS hsh hch h
    simp only [schOk, Bool.and_eq_true, Bool.not_eq_true'] at hok
    obtain ⟨hin, ⟨hfree, hready⟩, hr⟩ := hok
    refine ⟨fun _ => ?_, fun hi => by rw [hin] at hi; cases hi⟩
    simp only [denSch] at h
    cases ho : ops[i]? with
    | none => rw [ho] at h; exact h.elim
    | some o =>
      rw [ho] at h
      obtain ⟨hw, h2⟩ := inact_of ha h
      simp only [schLen] at hlen
      obtain ⟨f, rfl⟩ : ∃ f, fuel = f + 1 := ⟨fuel - 1, by omega⟩
      exact htake i o undef (fun _ => True) live listed f a w ho (.inr ⟨hw, rfl⟩) hfree hready hsh hS (fun _ _ => trivial) (fun _ _ _ _ _ _ _ _ => trivial) (.inr fun _ => trivial)
        ((ih false live _ f _ _ w hr (by omega) (ha.put (hd i o · ho) undef) (hk.trans (Keeps.put a o.dst undef fun t ht => hmem i o t ho ht)) hS (hsh.set (by simpa using hready)) (fun hh => by cases hh) h2).1 rfl)
  | act i r ih =>
    intro inside live listed fuel F a w hok hlen ha hk hS hsh hch h
    simp only [schOk, Bool.and_eq_true, Bool.or_eq_true] at hok
    simp only [schLen] at hlen
    obtain ⟨f, rfl⟩ : ∃ f, fuel = f + 1 := ⟨fuel - 1, by omega⟩
    have hri : i ∈ Region.ready .any ops listed := by
      cases hin : inside with
      | true => exact hch hin i (by simp [chain])
      | false => rw [readyIs_eq (hok.1.resolve_left (by rw [hin]; simp))]; simp
    have h1 := hact i r listed f F a w ha hk (fun F a w ha hk hS h => (ih false _ _ f F a w hok.2 (by omega) ha hk hS (hsh.set hri) (fun hh => by cases hh) h).1 rfl) h
    refine ⟨fun hin => ?_, fun _ j hj => ?_⟩
    · have hr := readyIs_eq (hok.1.resolve_left (by rw [hin]; simp))
      exact wpAnyN_all hr (by simp) fun j hj => by
        have : j = i := by simpa using hj
        subst this; exact h1
    · have : j = i := by simpa [chain] using hj
      subst this
      exact ⟨f, rfl, h1⟩
  | alt i r more ih ihm =>
    intro inside live listed fuel F a w hok hlen ha hk hS hsh hch h
    simp only [schOk, Bool.and_eq_true, Bool.or_eq_true] at hok
    simp only [schLen] at hlen
    obtain ⟨f, rfl⟩ : ∃ f, fuel = f + 1 := ⟨fuel - 1, by omega⟩
    simp only [denSch] at h
    have hall' : ∀ j ∈ i :: chain more, j ∈ Region.ready .any ops listed := by
      cases hin : inside with
      | true => exact hch hin
      | false => rw [readyIs_eq (hok.1.1.resolve_left (by rw [hin]; simp))]; exact fun _ hh => hh
    have h1 := hact i r listed f F a w ha hk (fun F a w ha hk hS h => (ih false _ _ f F a w hok.1.2 (by omega) ha hk hS (hsh.set (hall' i (by simp))) (fun hh => by cases hh) h).1 rfl) h.1
    have h2 := (ihm true live listed (f + 1) F a w hok.2 (by omega) ha hk hS hsh (fun _ j hj => hall' j (by simp [hj])) h.2).2 rfl
    have hall : ∀ j ∈ i :: chain more, wpOp P ops Q j (fun a' w' => (need ms held j = true → S w → S w') ∧ wpAnyN P ops Q S (need ms held) f (listed.setIfInBounds j true) a' w') a w := fun j hj => by
      rcases List.mem_cons.1 hj with rfl | hj
      · exact h1
      · obtain ⟨f', hf, h3⟩ := h2 j hj
        have : f' = f := by omega
        subst this; exact h3
    refine ⟨fun hin => ?_, fun _ j hj => ⟨f, rfl, hall j hj⟩⟩
    have hr := readyIs_eq (hok.1.1.resolve_left (by rw [hin]; simp))
    exact wpAnyN_all hr (by simp) hall
  | ite j x y ihx ihy =>
    intro inside live listed fuel F a w hok hlen ha hk hS hsh hch h
    simp only [schOk, Bool.and_eq_true, Bool.not_eq_true'] at hok
    obtain ⟨hin, hx, hy⟩ := hok
    simp only [schLen] at hlen
    refine ⟨fun _ => ?_, fun hi => by rw [hin] at hi; cases hi⟩
    simp only [denSch] at h
    cases hdd : (ops[j]?).bind (·.dst) with
    | none => rw [hdd] at h; exact h.elim
    | some d =>
      rw [hdd] at h
      obtain ⟨v, hv, h1⟩ := withV_some h
      unfold CondS at h1
      split at h1
      · rename_i b
        cases b with
        | true => exact (ihx false live listed fuel _ a w hx (by omega) (ha.upd (ha.vals d _ hv)) hk hS hsh (fun hh => by cases hh) h1).1 rfl
        | false => exact (ihy false live listed fuel _ a w hy (by omega) (ha.upd (ha.vals d _ hv)) hk hS hsh (fun hh => by cases hh) h1).1 rfl
      · exact h1.elim
end
end
end SG

namespace SG
open Go
set_option linter.unusedSimpArgs false
set_option linter.unusedVariables false

section
variable {P : Program} {n : Stat} {pan : Bool} {Kp : List PanicEntry → World → Prop}

def PostW (n : Stat) (Kp : List PanicEntry → World → Prop) (D : Nat → Prop) (a₀ : Act) (Q : Post) : Exit → Act → World → Prop
  | .panic c, a, w => Stands n a ∧ Kp c w
  | .outgrown, _, _ => False
  | e, a, w => ∃ F, Agree n F a ∧ Keeps D a₀ a ∧ Q e F w

theorem PostW.intro {D : Nat → Prop} {a₀ a : Act} {Q : Post} {e : Exit} {F : Fr} {w : World} (he : match e with | .panic _ => False | .outgrown => False | _ => True)
    (ha : Agree n F a) (hk : Keeps D a₀ a) (hq : Q e F w) : PostW n Kp D a₀ Q e a w := by
  cases e <;> first | exact he.elim | exact ⟨F, ha, hk, hq⟩

theorem exit_mono {D D' : Nat → Prop} {a₀ a₁ : Act} {Q Q' : Post} {e : Exit} {a : Act} {w : World} (hD : ∀ t, D t → D' t) (hk : Keeps D' a₀ a₁) (hq : ∀ F, Q e F w → Q' e F w)
    (h : PostW n Kp D a₁ Q e a w) : PostW n Kp D' a₀ Q' e a w := by
  cases e <;> first
    | exact h
    | (obtain ⟨F, ha, hk', hQ⟩ := h; exact ⟨F, ha, hk.trans (hk'.mono hD), hq F hQ⟩)

theorem dstsOk_mem {m : Nat} {c : Code} (h : dstsOk m c = true) : ∀ d ∈ dsts c, (⟨m, [], fun _ => none⟩ : Stat).wr d := fun d hd => by
  unfold dstsOk at h
  rw [List.all_eq_true] at h
  exact ⟨Nat.le_of_ble_eq_true (h d hd), rfl⟩

theorem den_soundIn {rd : Option Nat} {fu : Nat} (hm : P.follows .mixedOrders = true) : ∀ (c : Code) (ann : Ann) (Q : Post) (F : Fr) (a : Act) (w : World), (rd = none ∨ noDraw c = true) → annOk c ann = true → (∀ d ∈ dsts c, n.wr d) → Agree n F a →
    den P pan Kp c ann Q F w → c.wpIn (FR rd) fu P (PostW n Kp (· ∈ dsts c) a Q) a w := by
  intro c
  induction c with
  | skip => intro ann Q F a w _ _ _ ha h; exact wpIn_skip ⟨F, ha, .refl a, h⟩
  | exit id => intro ann Q F a w _ _ _ ha h; exact wpIn_exit ⟨F, ha, .refl a, h⟩
  | ret => intro ann Q F a w _ _ _ ha h; exact wpIn_ret ⟨F, ha, .refl a, h⟩
  | region id ops draw =>
    intro ann Q F a w hdr hok hd ha h
    have hdd : ∀ o ∈ ops.toList, ∀ d, o.dst = some d → n.wr d := fun o ho d hod => hd d (List.mem_filterMap.2 ⟨o, ho, hod⟩)
    have hDD : ∀ t, dstIn ops.toList t → t ∈ dsts (.region id ops draw) := fun t ⟨o, ho, ht⟩ => List.mem_filterMap.2 ⟨o, ho, ht⟩
    cases draw with
    | false =>
      cases ann <;> try exact h.elim
      rename_i segs
      refine wpIn_region_list (denSegs_sound (n := n) (Kp := Kp) (fun c a' w' hde hKp => ⟨hde, hKp⟩) segs ops.toList F a w hok ha hdd h fun F' a' w' ha' hk hQ => ⟨F', ha', hk.mono hDD, hQ⟩)
    | true =>
      cases ann <;> try exact h.elim
      rename_i ms sch
      simp only [annOk, Bool.and_eq_true] at hok
      obtain ⟨⟨⟨⟨hns, hlen⟩, hml⟩, hmo⟩, hsch⟩ := hok
      obtain ⟨S, hS, h1⟩ := h
      obtain rfl : rd = none := hdr.resolve_right (by simp [noDraw])
      rw [FR_none]
      refine wpIn_wide.2 (wp_region_any hm (wpAny_of_N (S := S) (nd := need ms (heldOf sch)) _ _ _ _ ?_))
      exact (denSch_sound (n := n) (Kp := Kp) (a₀ := a) (fun c a' w' hde hKp => ⟨hde, hKp⟩) (fun c a d v w hd hh => ⟨hh.1.unput hd, hh.2⟩) hns
        (fun i o d ho hod => hdd o (by simpa using Array.mem_of_getElem? ho) d hod) (Nat.eq_of_beq_eq_true hml) hmo (fun F' a' w' ha' hk hQ => ⟨F', ha', hk.mono hDD, hQ⟩)
        sch false true _ ops.size F a w.drew hsch (Nat.le_of_ble_eq_true hlen) ha (.refl a) (fun _ => hS) (fun k o _ hl => absurd hl (by simp [Array.getElem?_replicate]; try (split <;> simp))) (fun hh => by cases hh) h1).1 rfl
  | seq x y ihx ihy =>
    intro ann Q F a w hdr hok hd ha h
    have hdrx : rd = none ∨ noDraw x = true := hdr.imp id fun hh => by simp only [noDraw, Bool.and_eq_true] at hh; exact hh.1
    have hdry : rd = none ∨ noDraw y = true := hdr.imp id fun hh => by simp only [noDraw, Bool.and_eq_true] at hh; exact hh.2
    have hdx : ∀ d ∈ dsts x, n.wr d := fun d hh => hd d (by simp [dsts, hh])
    have hdy : ∀ d ∈ dsts y, n.wr d := fun d hh => hd d (by simp [dsts, hh])
    have hDx : ∀ t, t ∈ dsts x → t ∈ dsts (.seq x y) := fun t ht => by simp [dsts, ht]
    have hDy : ∀ t, t ∈ dsts y → t ∈ dsts (.seq x y) := fun t ht => by simp [dsts, ht]
    cases ann <;> try exact h.elim
    case q ax ay =>
      simp only [annOk, Bool.and_eq_true] at hok
      refine wpIn_seq (wpIn_mono (ihx ax _ F a w hdrx hok.1 hdx ha h) fun e a' w' he => ?_)
      cases e with
      | normal =>
        obtain ⟨F', ha', hk, hQ⟩ := he
        exact wpIn_mono (ihy ay Q F' a' w' hdry hok.2 hdy ha' hQ) fun e a'' w'' he' => exit_mono hDy (hk.mono hDx) (fun _ hh => hh) he'
      | exit id => exact exit_mono hDx (.refl a) (fun _ hh => hh) he
      | goto l => exact exit_mono hDx (.refl a) (fun _ hh => hh) he
      | ret => exact exit_mono hDx (.refl a) (fun _ hh => hh) he
      | panic c => exact he
      | outgrown => exact he.elim
    case j live mask ax ay =>
      simp only [annOk, Bool.and_eq_true, List.all_eq_true] at hok
      obtain ⟨⟨hmask, hax⟩, hay⟩ := hok
      have hj : JoinS (mkJ live (F.kill mask) fun F' w' => den P pan Kp y ay Q F' w') fun J => den P pan Kp x ax (thenQ (fun F' w' => appF live J F' w') Q) F w := h
      replace h := hj.here
      refine wpIn_seq (wpIn_mono (ihx ax _ F a w hdrx hax hdx ha h) fun e a' w' he => ?_)
      cases e with
      | normal =>
        obtain ⟨F', ha', hk, hQ⟩ := he
        have h2 := app_of_appF live _ F' a' w' ha' hQ
        rw [app_mkJ live _ _ _ _ (slots_length live a')] at h2
        have hF := Agree.mkF live _ a' (ha.kill' ha'.st hk hmask)
        exact wpIn_mono (ihy ay Q _ a' w' hdry hay hdy hF h2) fun e a'' w'' he' => exit_mono hDy (hk.mono hDx) (fun _ hh => hh) he'
      | exit id => exact exit_mono hDx (.refl a) (fun _ hh => hh) he
      | goto l => exact exit_mono hDx (.refl a) (fun _ hh => hh) he
      | ret => exact exit_mono hDx (.refl a) (fun _ hh => hh) he
      | panic c => exact he
      | outgrown => exact he.elim
  | cond cnd x y ihx ihy =>
    intro ann Q F a w hdr hok hd ha h
    have hdrx : rd = none ∨ noDraw x = true := hdr.imp id fun hh => by simp only [noDraw, Bool.and_eq_true] at hh; exact hh.1
    have hdry : rd = none ∨ noDraw y = true := hdr.imp id fun hh => by simp only [noDraw, Bool.and_eq_true] at hh; exact hh.2
    have hdx : ∀ d ∈ dsts x, n.wr d := fun d hh => hd d (by simp [dsts, hh])
    have hdy : ∀ d ∈ dsts y, n.wr d := fun d hh => hd d (by simp [dsts, hh])
    cases ann <;> try exact h.elim
    rename_i ax ay
    simp only [annOk, Bool.and_eq_true] at hok
    obtain ⟨v, hv, h1⟩ := withV_some h
    unfold CondS at h1
    split at h1
    · rename_i b
      cases b with
      | true => exact wpIn_cond (t := true) (ha.ev hv) (wpIn_mono (ihx ax Q F a w hdrx hok.1 hdx ha h1) fun e a' w' he => exit_mono (fun t ht => by simp [dsts, ht]) (.refl a) (fun _ hh => hh) he)
      | false => exact wpIn_cond (t := false) (ha.ev hv) (wpIn_mono (ihy ay Q F a w hdry hok.2 hdy ha h1) fun e a' w' he => exit_mono (fun t ht => by simp [dsts, ht]) (.refl a) (fun _ hh => hh) he)
    · exact h1.elim
  | block id x ih =>
    intro ann Q F a w hdr hok hd ha h
    cases ann <;> try exact h.elim
    rename_i ax
    refine wpIn_block (wpIn_mono (ih ax _ F a w hdr hok hd ha h) fun e a' w' he => ?_)
    cases e with
    | exit i =>
      obtain ⟨F', ha', hk, hQ⟩ := he
      have hQ' : cond (Nat.beq i id) (Q .normal F' w') (Q (.exit i) F' w') := hQ
      simp only [Exit.inBlock]
      by_cases hi : i = id
      · rw [if_pos hi]
        subst hi
        rw [show Nat.beq i i = true from Nat.beq_refl i] at hQ'
        exact ⟨F', ha', hk, hQ'⟩
      · rw [if_neg hi]
        rw [show Nat.beq i id = false from Bool.eq_false_iff.2 fun e => hi (Nat.eq_of_beq_eq_true e)] at hQ'
        exact ⟨F', ha', hk, hQ'⟩
    | normal => exact he
    | goto l => exact he
    | ret => exact he
    | panic c => exact he
    | outgrown => exact he.elim
  | loop x ih =>
    intro ann Q F a w hdr hok hd ha h
    cases ann <;> try exact h.elim
    rename_i live mask ax
    simp only [annOk, Bool.and_eq_true, List.all_eq_true] at hok
    obtain ⟨hmask, hax⟩ := hok
    have h1 := app_of_appF live _ F a w ha h
    unfold LoopS at h1
    rw [app_curry _ _ _ _ (slots_length live a)] at h1
    obtain ⟨I, μ, hI, hround⟩ := h1
    refine wpIn_mono (wpIn_loop (fun a' w' => Stands n a' ∧ Keeps (· ∈ dsts x) a a' ∧ I (slots live a') w') (fun a' w' => μ (slots live a') w') ⟨ha.st, .refl a, hI⟩
      (Q := PostW n Kp (· ∈ dsts x) a Q) fun a' w' ⟨hs, hk, hI'⟩ => ?_) fun e a' w' he => he
    have h2 := hround (slots live a') w' (slots_length live a') hI'
    rw [app_mkJ live _ _ _ _ (slots_length live a')] at h2
    have hF := Agree.mkF live _ a' (ha.kill' hs hk hmask)
    refine wpIn_mono (ih ax _ _ a' w' hdr hax hd hF h2) fun e a'' w'' he => ?_
    cases e with
    | normal =>
      obtain ⟨F'', ha'', hk'', hQ⟩ := he
      have h3 := app_of_appF live _ F'' a'' w'' ha'' hQ
      rw [app_curry _ _ _ _ (slots_length live a'')] at h3
      exact ⟨⟨ha''.st, hk.trans hk'', h3.1⟩, h3.2⟩
    | exit i => exact exit_mono (fun _ ht => ht) hk (fun _ hh => hh) he
    | goto l => exact exit_mono (fun _ ht => ht) hk (fun _ hh => hh) he
    | ret => exact exit_mono (fun _ ht => ht) hk (fun _ hh => hh) he
    | panic c => exact he
    | outgrown => exact he.elim
  | rangeFunc f ps x y ihx ihy => intro ann Q F a w _ hok; cases ann <;> cases hok
  | scope x ih => intro ann Q F a w _ hok; cases ann <;> cases hok
  | label l => intro ann Q F a w _ hok; cases ann <;> cases hok
  | goto l => intro ann Q F a w _ hok; cases ann <;> cases hok
  | refuse why => intro ann Q F a w _ hok; cases ann <;> cases hok

theorem den_sound (hm : P.follows .mixedOrders = true) (c : Code) (ann : Ann) (Q : Post) (F : Fr) (a : Act) (w : World) (h1 : annOk c ann = true) (h2 : ∀ d ∈ dsts c, n.wr d) (h3 : Agree n F a) (h4 : den P pan Kp c ann Q F w) :
    c.wp P (PostW n Kp (· ∈ dsts c) a Q) a w :=
  wpIn_wide.1 (den_soundIn (rd := none) (fu := 0) hm c ann Q F a w (.inl rfl) h1 h2 h3 h4)
theorem argF_agree (args : List Value) (m : Nat) : Agree ⟨args.length + m, [], fun _ => none⟩ (argF args 0) { tmps := args.toArray ++ Array.replicate m undef, defers := [] } := by
  have h : ∀ (args : List Value) (i t : Nat) (v : Value), argF args i t = some v → ∃ j, t = i + j ∧ args[j]? = some v := by
    intro args
    induction args with
    | nil => intro i t v h; cases h
    | cons x xs ih =>
      intro i t v h
      simp only [argF] at h
      by_cases ht : t = i
      · subst ht
        rw [Fr.upd_same] at h
        exact ⟨0, rfl, by simpa using h⟩
      · rw [Fr.upd_ne _ _ ht] at h
        obtain ⟨j, hj, hv⟩ := ih (i + 1) t v h
        exact ⟨j + 1, by omega, by simpa using hv⟩
  refine ⟨⟨by simp, rfl, fun t v hv => by cases hv⟩, fun t v hv => ?_⟩
  obtain ⟨j, hj, hjv⟩ := h args 0 t v hv
  have ht : t = j := by omega
  subst ht
  have hlt : t < args.length := (List.getElem?_eq_some_iff.1 hjv).1
  simp only [Array.getD_eq_getD_getElem?]
  rw [Array.getElem?_append_left (by simpa using hlt)]
  simp [hjv]

def resS (a : Act) : ResultVar → Sem Value := fun | .tmp t => pure (a.tmps.getD t undef) | .cell c t => do loadVar t (← asAddr (a.tmps.getD c undef))
theorem LoadC_var {t : TypeId} {v : Value} {K : Value → World → Prop} {w : World} (ht : (P.underlying t).isSome = true) (hg : isAggT P t = false) (h : LoadC v K w) :
    ∃ u, (do loadVar t (← asAddr v) : Sem Value).run P w = .ok u w ∧ K u w := by
  unfold LoadC at h
  split at h
  · split at h
    · rename_i u hu
      exact ⟨u, by simp [asAddr, loadVar, isAgg_run ht, hg, hu], h⟩
    · exact h.elim
  · exact h.elim
theorem LoadA_var {t : TypeId} {v : Value} {K : Value → World → Prop} {w : World} (hg : isAggT P t = true) (h : LoadA (P.cellsOf t) v K w) :
    ∃ u, (do loadVar t (← asAddr v) : Sem Value).run P w = .ok u w ∧ K u w := by
  unfold LoadA at h
  split at h
  · rename_i ad
    obtain ⟨xs, hl, hc, hK⟩ := h
    have ht := isAggT_some hg
    obtain ⟨i, hi⟩ := info_of_underlying ht
    refine ⟨_, ?_, hK⟩
    have := loadCells_run (P := P) (w := w) (a := ad) (P.cellsOf t) 0 xs #[] hl (fun j v hj => by simpa using hc j v hj)
    simp [asAddr, loadVar, isAgg_run ht, hg, sizeOf_run hi, loadCells, this]
  · exact h.elim
theorem resL_run {F : Fr} {a : Act} (ha : Agree n F a) (w : World) : ∀ (rs : List ResultVar) (K : List Value → Prop), resL P rs F w K → ∃ vs, K vs ∧ vs.length = rs.length ∧
    (rs.mapM (resS a)).run P w = .ok vs w
  | [], K, h => ⟨[], h, rfl, by simp⟩
  | .tmp t :: r, K, h => by
    obtain ⟨v, hv, h1⟩ := withV_some h
    obtain ⟨vs, hK, hl, hr⟩ := resL_run ha w r _ h1
    refine ⟨v :: vs, hK, by simp [hl], ?_⟩
    have hvv := ha.vals t v hv
    simp only [List.mapM_cons, Sem.run_bind, resS, Sem.run_pure, Result.andThen_ok, hr, hvv]
  | .cell c t :: r, K, h => by
    obtain ⟨p, hp, h1⟩ := withV_some h
    have hpp := ha.vals c p hp
    have key : ∃ u, (resS a (.cell c t)).run P w = .ok u w ∧ resL P r F w fun vs => K (u :: vs) := by
      unfold resS
      simp only [hpp]
      cases hg : isAggT P t with
      | true => rw [hg] at h1; exact LoadA_var (K := fun v _ => resL P r F w fun vs => K (v :: vs)) hg h1
      | false => rw [hg] at h1; obtain ⟨ht, h2⟩ := cond_true_of h1; exact LoadC_var (K := fun v _ => resL P r F w fun vs => K (v :: vs)) ht hg h2
    obtain ⟨u, hu, h2⟩ := key
    obtain ⟨vs, hK, hl, hr⟩ := resL_run ha w r _ h2
    refine ⟨u :: vs, hK, by simp [hl], ?_⟩
    simp only [List.mapM_cons, Sem.run_bind, hu, Result.andThen_ok, hr, Sem.run_pure]

theorem resV_run {F : Fr} {a : Act} (ha : Agree n F a) (w : World) (fn : Func) {rs : Array ResultVar} (hrs : fn.results = rs) {K : Value → Prop} (h : resV P rs.toList F w K) :
    ∃ v, (results fn a.tmps).run P w = .ok v w ∧ K v := by
  obtain ⟨vs, hK, hl, hr⟩ := resL_run (P := P) ha w _ _ h
  refine ⟨one vs, ?_, hK⟩
  have hm : (rs.mapM (resS a)).run P w = .ok vs.toArray w := by
    have : rs.mapM (resS a) = List.toArray <$> rs.toList.mapM (resS a) := by
      conv => lhs; rw [show rs = rs.toList.toArray by simp]
      rw [List.mapM_toArray]
    rw [this]
    simp only [Sem.run_map, hr, Result.andThen_ok]
  unfold results
  rw [hrs, Sem.run_bind]
  erw [hm]
  simp only [Result.andThen_ok, Sem.run_pure]
  unfold one
  match vs with
  | [] => rw [dif_neg (by simp)]
  | [v] => rw [dif_pos (by simp)]; simp
  | x :: y :: r => rw [dif_neg (by simp)]

theorem fn_wp (hm : P.follows .mixedOrders = true) {f : FuncId} {fn : Func} {c : Code} (hf : P.funcs[f]? = some fn) (hb : fn.body = some c) {ann : Ann} {args : List Value} {rs : Array ResultVar} (hrs : fn.results = rs) {m : Nat}
    (hn : fn.ntmps = args.length + m) (hd : dstsOk (args.length + m) c = true) (hok : annOk c ann = true) {K : Value → World → Prop} {w : World} {R : Ending → World → Prop}
    (hret : ∀ v w', K v w' → R (.returned v) w') (hpan : ∀ ch w', Kp ch w' → R (.panicked ch) w') (h : denFn P pan c rs ann args K Kp w) : Calls P f args.toArray w R := by
  refine calls_of_wp hf hb ?_
  have hsz : fn.ntmps - args.toArray.size = m := by simp [hn]
  rw [hsz]
  refine wp_mono (den_sound (n := ⟨args.length + m, [], fun _ => none⟩) hm c ann _ _ _ w hok (dstsOk_mem hd) (argF_agree args m) h) fun e a w' he => ?_
  have hfin : ∀ F, Agree ⟨args.length + m, [], fun _ => none⟩ F a → resV P rs.toList F w' (fun v => K v w') → a.defers = [] ∧ ∃ v, (results fn a.tmps).run P w' = .ok v w' ∧ R (.returned v) w' := fun F ha hr => by
    obtain ⟨v, hv, hK⟩ := resV_run (P := P) ha w' fn hrs hr
    exact ⟨ha.st.defers, v, hv, hret _ _ hK⟩
  cases e with
  | normal => obtain ⟨F, ha, _, hQ⟩ := he; exact hfin F ha hQ
  | ret => obtain ⟨F, ha, _, hQ⟩ := he; exact hfin F ha hQ
  | exit id => obtain ⟨F, ha, _, hQ⟩ := he; exact hQ.elim
  | goto l => obtain ⟨F, ha, _, hQ⟩ := he; exact hQ.elim
  | panic ch => exact ⟨he.1.defers, hpan _ _ he.2⟩
  | outgrown => exact he.elim

def NoP : List PanicEntry → World → Prop := fun _ _ => False
theorem fn_call (hm : P.follows .mixedOrders = true) {f : FuncId} {fn : Func} {c : Code} (hf : P.funcs[f]? = some fn) (hb : fn.body = some c) {ann : Ann} {args : List Value} {rs : Array ResultVar} (hrs : fn.results = rs) {m : Nat}
    (hn : fn.ntmps = args.length + m) (hd : dstsOk (args.length + m) c = true) (hok : annOk c ann = true) {K : Value → World → Prop} {w : World}
    (h : denFn P false c rs ann args K NoP w) : CallS P f args.toArray K w :=
  fn_wp hm hf hb hrs hn hd hok (fun _ _ hk => hk) (fun _ _ hk => hk) h
end
def bodyOf (fn : Func) : Code := match fn.body with | some c => c | none => .skip
def CallW' (P : Program) (pan : Bool) (f : Value) (args : List Value) (Kp : List PanicEntry → World → Prop) (K : Value → World → Prop) (w : World) : Prop := CallV P pan false f args K Kp w
def CallV' (P : Program) (pan : Bool) (f : Value) (args : List Value) (Kp : List PanicEntry → World → Prop) (K : Value → World → Prop) (w : World) : Prop := CallV P pan true f args K Kp w
end SG

