/- A generic layer over the walk's rules: straight code, joins and loops as plain predicates over named values (no frame). Nothing of a program stands here. -/
import Derived.Orders
import Derived.OrdersHeld
import Derived.Tactics
import Derived.Laws.Entries
import Derived.Laws.Cells
import Derived.Laws.Strings
import Derived.KernelRfl
import Derived.RangeFuncNested
import Derived.RangeFuncLeaves
import Derived.TacticsIn
namespace SG
open Go

/-! ### frames -/
abbrev Fr := Nat → Option Value
def Fr.upd (F : Fr) (d : Nat) (v : Value) : Fr := fun t => cond (Nat.beq t d) (some v) (F t)
def Fr.put (F : Fr) (d : Option Nat) (v : Value) : Fr := match d with | some d => F.upd d v | none => F
def Fr.kill (F : Fr) (m : Nat) : Fr := fun t => cond (Nat.testBit m t) none (F t)
def Fr.ev (F : Fr) : Operand → Option Value
  | .tmp t => F t
  | .const v => some v
  | .global g => some (.pointer (some ⟨g, 0, none⟩))
  | .func f => some (.func (.func f) #[] #[])

/-- what stays as it is through a body: the number of slots, the calls put off, slots that nobody writes -/
structure Stat where
  n : Nat
  ds : List Deferred := []
  fx : Nat → Option Value := fun _ => none
def Stat.wr (s : Stat) (d : Nat) : Prop := d < s.n ∧ s.fx d = none
structure Stands (n : Stat) (a : Act) : Prop where
  size : a.tmps.size = n.n
  defers : a.defers = n.ds
  fix : ∀ t v, n.fx t = some v → a.tmps.getD t undef = v
theorem getD_put_ne {a : Act} {d t : Nat} (v : Value) (h : t ≠ d) : (a.put (some d) v).tmps.getD t undef = a.tmps.getD t undef := by
  simp only [Act.put, Array.getD_eq_getD_getElem?]
  rw [Array.getElem?_setIfInBounds_ne (Ne.symm h)]
theorem Stands.put {n : Stat} {a : Act} (h : Stands n a) {d : Option Nat} (hd : ∀ t, d = some t → n.wr t) (v : Value) : Stands n (a.put d v) := by
  cases d with
  | none => exact h
  | some d =>
    refine ⟨by simp [Act.put, h.size], by simpa [Act.put] using h.defers, fun t u hu => ?_⟩
    have hne : t ≠ d := fun e => by rw [e, (hd d rfl).2] at hu; cases hu
    rw [getD_put_ne v hne]; exact h.fix t u hu
theorem Stands.unput {n : Stat} {a : Act} {d : Option Nat} (hd : ∀ t, d = some t → n.wr t) {v : Value} (h : Stands n (a.put d v)) : Stands n a := by
  cases d with
  | none => exact h
  | some d =>
    refine ⟨by simpa [Act.put] using h.size, by simpa [Act.put] using h.defers, fun t u hu => ?_⟩
    have hne : t ≠ d := fun e => by rw [e, (hd d rfl).2] at hu; cases hu
    rw [← getD_put_ne v hne]; exact h.fix t u hu
structure Agree (n : Stat) (F : Fr) (a : Act) : Prop where
  st : Stands n a
  vals : ∀ t v, F t = some v → a.tmps.getD t undef = v

theorem Fr.upd_same (F : Fr) (d : Nat) (v : Value) : F.upd d v d = some v := by simp [Fr.upd]
theorem Fr.upd_ne (F : Fr) {d t : Nat} (v : Value) (h : t ≠ d) : F.upd d v t = F t := by
  have : Nat.beq t d = false := Bool.eq_false_iff.2 fun e => h (Nat.eq_of_beq_eq_true e)
  simp [Fr.upd, this]

theorem Agree.ev {n : Stat} {F : Fr} {a : Act} (h : Agree n F a) {x : Operand} {v : Value} (hx : F.ev x = some v) : a.eval x = v := by
  cases x with
  | tmp t => exact h.vals t v hx
  | const c => simpa [Fr.ev, Act.eval] using hx
  | global g => simpa [Fr.ev, Act.eval] using hx
  | func f => simpa [Fr.ev, Act.eval] using hx

theorem Agree.put {n : Stat} {F : Fr} {a : Act} (h : Agree n F a) {d : Option Nat} (hd : ∀ t, d = some t → n.wr t) (v : Value) : Agree n (F.put d v) (a.put d v) := by
  cases d with
  | none => exact h
  | some d =>
    have hlt := hd d rfl
    refine ⟨h.st.put hd v, fun t u hu => ?_⟩
    by_cases ht : t = d
    · subst ht
      simp only [Fr.put, Fr.upd_same, Option.some.injEq] at hu
      subst hu
      simp [Act.put, h.st.size, hlt.1]
    · simp only [Fr.put, Fr.upd_ne F v ht] at hu
      have := h.vals t u hu
      simp only [Act.put, Array.getD_eq_getD_getElem?] at this ⊢
      rw [Array.getElem?_setIfInBounds_ne (Ne.symm ht)]
      exact this

theorem Agree.kill {n : Stat} {F : Fr} {a : Act} (h : Agree n F a) (m : Nat) : Agree n (F.kill m) a := by
  refine ⟨h.st, fun t v hv => ?_⟩
  unfold Fr.kill at hv
  cases hm : Nat.testBit m t
  · rw [hm] at hv; exact h.vals t v hv
  · rw [hm] at hv; cases hv

/-- a frame of which one slot is known better -/
theorem Agree.upd {n : Stat} {F : Fr} {a : Act} (h : Agree n F a) {d : Nat} {v : Value} (hv : a.tmps.getD d undef = v) : Agree n (F.upd d v) a := by
  refine ⟨h.st, fun t u hu => ?_⟩
  by_cases ht : t = d
  · subst ht
    simp only [Fr.upd_same, Option.some.injEq] at hu
    exact hv.trans hu
  · rw [Fr.upd_ne F v ht] at hu
    exact h.vals t u hu

/-! ### what pure operations yield -/
def shiftV (op : BinOp) (k : IntKind) (a b : Int) : Option Value :=
  if 0 ≤ b then
    match op with
    | .shl => some (.int k (k.wrap (a * 2 ^ (min b.toNat k.bits))))
    | .shr => some (.int k (a.fdiv (2 ^ (min b.toNat k.bits))))
    | _ => none
  else none
def intV (op : BinOp) (k : IntKind) (a b : Int) : Option Value :=
  match op with
  | .add => some (.int k (k.wrap (a + b)))
  | .sub => some (.int k (k.wrap (a - b)))
  | .mul => some (.int k (k.wrap (a * b)))
  | .quo => if b = 0 then none else some (.int k (k.wrap (a.tdiv b)))
  | .rem => if b = 0 then none else some (.int k (a.tmod b))
  | .and => some (.int k (bits .and k a b))
  | .or => some (.int k (bits .or k a b))
  | .xor => some (.int k (bits .xor k a b))
  | .andNot => some (.int k (bits .andNot k a b))
  | .eql => some (.bool (decide (a = b)))
  | .neq => some (.bool (!decide (a = b)))
  | .lss => some (.bool (decide (a < b)))
  | .leq => some (.bool (decide (a ≤ b)))
  | .gtr => some (.bool (decide (b < a)))
  | .geq => some (.bool (decide (b ≤ a)))
  | _ => none
def strV (op : BinOp) (a b : ByteArray) : Option Value :=
  match op with
  | .eql => some (.bool (a.toList == b.toList))
  | .neq => some (.bool (!(a.toList == b.toList)))
  | .lss => some (.bool (Op.bytesLess a.toList b.toList))
  | .add => if ((a.size + b.size : Nat) : Int) > IntKind.i64.max then none else some (.string (a ++ b))
  | _ => none
def binV (op : BinOp) : Value → Value → Option Value
  | .int k a, .int k' b => match op with
    | .shl => shiftV .shl k a b
    | .shr => shiftV .shr k a b
    | _ => if k = k' then intV op k a b else none
  | .string a, .string b => strV op a b
  | _, _ => none
def boolV (op : BinOp) : Value → Value → Option Value
  | .bool a, .bool b => match op with
    | .eql => some (.bool (a == b))
    | .neq => some (.bool (!(a == b)))
    | _ => none
  | _, _ => none
def pickV (c a b : Value) : Option Value := match c with | .bool t => some (if t then a else b) | _ => none
def nilV : Value → Option Value
  | .pointer (some a) => some (.pointer (some a))
  | .func (.func f) x y => some (.func (.func f) x y)
  | _ => none
def fieldAddrV (off : Nat) : Value → Option Value
  | .pointer (some a) => some (.pointer (some (a.add off)))
  | _ => none
def indexAddrV (size : Nat) : Value → Value → Option Value
  | .slice (some a) len _, .int _ i => if 0 ≤ i ∧ i < len then some (.pointer (some (a.add (i.toNat * size)))) else none
  | _, _ => none
def indexStrV : Value → Value → Option Value
  | .string s, .int _ i => if 0 ≤ i then (s[i.toNat]?).map fun b => .int .u8 b.toNat else none
  | _, _ => none
def lenSliceV : Value → Option Value
  | .slice _ n _ => some (.int .i64 n)
  | _ => none
def lenStrV : Value → Option Value
  | .string s => some (.int .i64 s.size)
  | _ => none
def extractV (i : Nat) : Value → Option Value
  | .tuple vs => vs[i]?
  | _ => none
def convIntV (k : IntKind) : Value → Option Value
  | .int _ n => some (.int k (k.wrap n))
  | _ => none
def notV : Value → Option Value
  | .bool b => some (.bool (!b))
  | _ => none
def negV : Value → Option Value
  | .int k n => some (.int k (k.wrap (0 - n)))
  | _ => none
def maxV : Value → Value → Option Value
  | .int k x, .int _ y => some (.int k (if y > x then y else x))
  | _, _ => none
def minV : Value → Value → Option Value
  | .int k x, .int _ y => some (.int k (if y < x then y else x))
  | _, _ => none
def boundV (dflt : Nat) (most : Nat) : Option Value → Option Nat
  | none => some dflt
  | some (.int _ i) => if 0 ≤ i ∧ i ≤ most then some i.toNat else none
  | some _ => none
def sliceV (size : Nat) (x : Value) (lo hi : Option Value) : Option Value :=
  match x with
  | .slice a len cap => (boundV len cap hi).bind fun h => (boundV 0 h lo).bind fun l =>
      some (.slice (if cap = l then a else a.map (·.add (l * size))) (h - l) (cap - l))
  | _ => none
def sliceStrV (x : Value) (lo hi : Option Value) : Option Value :=
  match x with
  | .string s => (boundV s.size s.size hi).bind fun h => (boundV 0 h lo).bind fun l => some (.string (s.extract l h))
  | _ => none

/-! ### the predicates of which a printed function is made -/
def PureS (r : Option Value) (K : Value → Prop) : Prop := match r with | some v => K v | none => False
def CondS (v : Value) (X Y : Prop) : Prop := match v with | .bool b => if b then X else Y | _ => False
def JoinS {C : Type} (Z : C) (X : C → Prop) : Prop := X Z
def RunS (P : Program) (s : Sem Value) (K : Value → World → Prop) (w : World) : Prop := match s.run P w with | .ok v w' => K v w' | .halt _ _ => False
def RunU (P : Program) (s : Sem Unit) (K : World → Prop) (w : World) : Prop := match s.run P w with | .ok _ w' => K w' | .halt _ _ => False
def CallS (P : Program) (f : FuncId) (args : Array Value) (K : Value → World → Prop) (w : World) : Prop :=
  Calls P f args w fun e w' => match e with | .returned v => K v w' | _ => False
def CallP (P : Program) (f : FuncId) (args : Array Value) (K : Value → World → Prop) (Kp : List PanicEntry → World → Prop) (w : World) : Prop :=
  Calls P f args w fun e w' => match e with | .returned v => K v w' | .panicked c => Kp c w' | .outgrown => False
/-- one cell is read -/
def LoadC (p : Value) (K : Value → World → Prop) (w : World) : Prop :=
  match p with | .pointer (some a) => (match w.cell? a with | some v => K v w | none => False) | _ => False
/-- a struct's or an array's cells are read -/
def LoadA (n : Nat) (p : Value) (K : Value → World → Prop) (w : World) : Prop :=
  match p with | .pointer (some a) => (∃ xs : List Value, xs.length = n ∧ (∀ i v, xs[i]? = some v → w.cell? (a.add i) = some v) ∧ K (.agg xs.toArray) w) | _ => False
def StoreC (p v : Value) (K : World → Prop) (w : World) : Prop :=
  match p with | .pointer (some a) => v.oneCell' = true ∧ (w.cell? a).isSome = true ∧ w.frozen? a = false ∧ K (w.setCell a v) | _ => False
def setCells (w : World) (a : Addr) : Nat → List Value → World
  | _, [] => w
  | i, v :: vs => setCells (w.setCell (a.add i) v) a (i + 1) vs
def StoreA (n : Nat) (p v : Value) (K : World → Prop) (w : World) : Prop :=
  match p, v with
  | .pointer (some a), .agg cs => cs.size = n ∧ (∀ v ∈ cs, v.oneCell' = true) ∧ (∀ i, i < n → (w.cell? (a.add i)).isSome = true ∧ w.frozen? (a.add i) = false) ∧ K (setCells w a 0 cs.toList)
  | _, _ => False
def BoxS (t : TypeId) (v : Value) (K : Value → World → Prop) (w : World) : Prop :=
  K (.pointer (some ⟨w.heap.size, 0, none⟩)) (w.alloc (.cells v.cells t))

/-- curried predicates over n values and a world -/
def Cur : Nat → Type
  | 0 => World → Prop
  | n + 1 => Value → Cur n
def CurN : Nat → Type
  | 0 => World → Nat
  | n + 1 => Value → CurN n
def app : (n : Nat) → Cur n → List Value → World → Prop
  | 0, J, _, w => J w
  | n + 1, J, v :: vs, w => app n (J v) vs w
  | _ + 1, _, [], _ => False
def appN : (n : Nat) → CurN n → List Value → World → Nat
  | 0, J, _, w => J w
  | n + 1, J, v :: vs, w => appN n (J v) vs w
  | _ + 1, _, [], _ => 0
def curry : (n : Nat) → (List Value → World → Prop) → Cur n
  | 0, f => fun w => f [] w
  | n + 1, f => fun v => curry n fun vs => f (v :: vs)
theorem app_curry : ∀ (n : Nat) (f : List Value → World → Prop) (vs : List Value) (w : World), vs.length = n → (app n (curry n f) vs w ↔ f vs w)
  | 0, f, vs, w, h => by
    have : vs = [] := List.eq_nil_of_length_eq_zero h
    subst this; exact Iff.rfl
  | n + 1, f, v :: vs, w, h => app_curry n (fun vs => f (v :: vs)) vs w (by simpa using h)
  | n + 1, f, [], w, h => by simp at h
/-- a loop: an invariant and a measure over the carried values -/
def LoopL (n : Nat) (body : Cur n → Cur n) (vs : List Value) (w : World) : Prop :=
  ∃ (I : List Value → World → Prop) (μ : List Value → World → Nat), I vs w ∧
    ∀ vs w, vs.length = n → I vs w → app n (body (curry n fun vs' w' => I vs' w' ∧ μ vs' w' < μ vs w)) vs w
def LoopS (n : Nat) (body : Cur n → Cur n) : Cur n := curry n (LoopL n body)

end SG
