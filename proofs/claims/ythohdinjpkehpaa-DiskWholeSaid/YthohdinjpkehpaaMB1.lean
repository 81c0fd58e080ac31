/- Several texts of ours, laid one behind the other. -/
import Derived.Test.YthohdinjpkehpaaMB0
import Derived.Below
import Derived.Laws.AppendOwn
import Derived.Maps.AppendAt
import Derived.Lib.AppendStr
import Derived.OwnWalk
import Derived.Laws.StructEq
import Derived.Laws.OwnMore
import Derived.Laws.BytesString
import Derived.Laws.IdiomStrings
import Derived.LaidEqlPtr
import Derived.Laws.CopyRow
import Derived.Defers
import Derived.Recover
/-! Rules for reasoning over laid-out functions: blocks, what has changed, joins, loops, reads, writes. No program stands here. -/
namespace SG
open Go Go.RowKit
set_option linter.unusedVariables false

/-! ### what has changed -/
structure Ext (S : Nat → Prop) (w w' : World) : Prop where
  os : w'.os = w.os
  tape : w'.tape = w.tape
  output : w'.output = w.output
  size : w.heap.size ≤ w'.heap.size
  blk : ∀ b, b < w.heap.size → ¬ S b → w'.heap[b]? = w.heap[b]?
def No : Nat → Prop := fun _ => False
def At1 (g : Nat) : Nat → Prop := fun b => b = g
namespace Ext
variable {S S' S'' : Nat → Prop} {w w' w'' : World}
theorem refl (S : Nat → Prop) (w : World) : Ext S w w := ⟨rfl, rfl, rfl, Nat.le_refl _, fun _ _ _ => rfl⟩
theorem trans' (h : Ext S w w') (k : Ext S' w' w'') (h1 : ∀ b, S b → b < w.heap.size → S'' b) (h2 : ∀ b, S' b → b < w.heap.size → S'' b) : Ext S'' w w'' :=
  ⟨k.os.trans h.os, k.tape.trans h.tape, k.output.trans h.output, Nat.le_trans h.size k.size,
    fun b hb hS => (k.blk b (Nat.lt_of_lt_of_le hb h.size) fun hh => hS (h2 b hh hb)).trans (h.blk b hb fun hh => hS (h1 b hh hb))⟩
theorem trans (h : Ext S w w') (k : Ext S w' w'') : Ext S w w'' := h.trans' k (fun _ h _ => h) (fun _ h _ => h)
theorem mono (h : Ext S w w') (hS : ∀ b, S b → b < w.heap.size → S' b) : Ext S' w w' := ⟨h.os, h.tape, h.output, h.size, fun b hb hn => h.blk b hb fun hh => hn (hS b hh hb)⟩
theorem no (h : Ext No w w') : Ext S w w' := h.mono fun _ hh _ => hh.elim
theorem drew (w : World) : Ext S w w.drew := ⟨rfl, rfl, rfl, Nat.le_refl _, fun _ _ _ => rfl⟩
theorem alloc (w : World) (o : Obj) : Ext S w (w.alloc o) := ⟨rfl, rfl, rfl, by simp, fun b hb _ => Below.heap_alloc w o b hb⟩
theorem setCell (w : World) (a : Addr) (v : Value) (h : S a.block) : Ext S w (w.setCell a v) :=
  ⟨rfl, rfl, rfl, by simp, fun b hb hn => Below.heap_setCell w a v b fun e => hn (e ▸ h)⟩
theorem grown {row : Option Nat} (h : w.grownBy w' row) (hS : ∀ b, row = some b → S b) : Ext S w w' :=
  ⟨h.os, h.tape, h.output, h.size, fun b hb hn => h.block b hb fun e => hn (hS b e.symm)⟩
theorem to_grown {g : Nat} (h : Ext (At1 g) w w') : w.grownBy w' (some g) := ⟨h.os, h.tape, h.output, h.size, fun b hb hn => h.blk b hb fun e => hn (by rw [show b = g from e])⟩
theorem to_grown_none (h : Ext No w w') (row : Option Nat) : w.grownBy w' row := ⟨h.os, h.tape, h.output, h.size, fun b hb _ => h.blk b hb fun e => e⟩
theorem below {B : Nat} (h : Ext S w w') (hB : B ≤ w.heap.size) (hS : ∀ b, S b → B ≤ b) : Below B w w' :=
  ⟨h.os, h.tape, h.output, h.size, fun b hb => h.blk b (Nat.lt_of_lt_of_le hb hB) fun hh => absurd (hS b hh) (Nat.not_le.2 hb)⟩
theorem of_below (h : Below w.heap.size w w') : Ext S w w' := ⟨h.os, h.tape, h.output, h.size, fun b hb _ => h.block b hb⟩
/-- blocks that are new count for nothing -/
theorem fresh (h : Ext S w w') (k : Ext S' w' w'') (h2 : ∀ b, S' b → S b ∨ w.heap.size ≤ b) : Ext S w w'' :=
  h.trans' k (fun _ h _ => h) (fun b hb hlt => (h2 b hb).resolve_right (by omega))
theorem lt (h : Ext S w w') {b : Nat} (hb : b < w.heap.size) : b < w'.heap.size := Nat.lt_of_lt_of_le hb h.size
theorem cell (h : Ext S w w') {a : Addr} (hb : a.block < w.heap.size) (hn : ¬ S a.block) : w'.cell? a = w.cell? a := World.cell?_of_block (w := w) (h.blk _ hb hn)
end Ext

/-! ### a block that is known whole -/
def Blk (w : World) (g : Nat) (t : TypeId) (cs : List Value) : Prop := w.heap[g]? = some (.cells cs.toArray t (0, 0))
namespace Blk
variable {S : Nat → Prop} {w w' : World} {g : Nat} {t : TypeId} {cs : List Value}
theorem lt (h : Blk w g t cs) : g < w.heap.size := (Array.getElem?_eq_some_iff.1 h).1
theorem ext (h : Blk w g t cs) (e : Ext S w w') (hn : ¬ S g) : Blk w' g t cs := (e.blk g h.lt hn).trans h
theorem no (h : Blk w g t cs) (e : Ext No w w') : Blk w' g t cs := h.ext e fun e => e
theorem cell (h : Blk w g t cs) (i : Nat) : w.cell? ⟨g, i, none⟩ = cs[i]? := by
  unfold Blk at h
  simp [World.cell?, h]
theorem frozen (h : Blk w g t cs) (i : Nat) : w.frozen? ⟨g, i, none⟩ = false := by
  unfold Blk at h
  simp [World.frozen?, h]
theorem set (h : Blk w g t cs) (i : Nat) (v : Value) : Blk (w.setCell ⟨g, i, none⟩ v) g t (cs.set i v) := by
  unfold Blk at h ⊢
  simp [World.setCell, Array.getElem?_modify, h]
theorem new (w : World) (cs : List Value) (t : TypeId) : Blk (w.alloc (.cells cs.toArray t)) w.heap.size t cs := heap_alloc_new w _
end Blk
/-- cells from an address on -/
def At (w : World) (a : Addr) (xs : List Value) : Prop := ∀ i v, xs[i]? = some v → w.cell? (a.add i) = some v
theorem Addr.add_mk (b o n : Nat) : (⟨b, o, none⟩ : Addr).add n = ⟨b, o + n, none⟩ := Go.Addr.add_lit b o n
theorem Addr.add_block (a : Addr) (n : Nat) : (a.add n).block = a.block := by unfold Addr.add; split <;> rfl
theorem Addr.add_add (a : Addr) (i j : Nat) : (a.add i).add j = a.add (i + j) := by
  unfold Addr.add
  by_cases hi : i = 0 <;> by_cases hj : j = 0 <;> simp [hi, hj, Nat.add_assoc]
theorem At.blk {w : World} {g o : Nat} {t : TypeId} {cs xs : List Value} (h : Blk w g t cs) (hx : ∀ i v, xs[i]? = some v → cs[o + i]? = some v) : At w ⟨g, o, none⟩ xs :=
  fun i v hv => by rw [Addr.add_mk, h.cell]; exact hx i v hv
theorem At.of_blk {w : World} {g : Nat} {t : TypeId} {cs : List Value} (h : Blk w g t cs) : At w ⟨g, 0, none⟩ cs := At.blk h fun i v hv => by rw [Nat.zero_add]; exact hv
theorem At.ext {S : Nat → Prop} {w w' : World} {a : Addr} {xs : List Value} (h : At w a xs) (e : Ext S w w') (hb : a.block < w.heap.size) (hn : ¬ S a.block) : At w' a xs :=
  fun i v hv => by rw [e.cell (by rw [Addr.add_block]; exact hb) (by rw [Addr.add_block]; exact hn)]; exact h i v hv
theorem At.drop {w : World} {a : Addr} {xs : List Value} (h : At w a xs) (n : Nat) : At w (a.add n) (xs.drop n) := fun i v hv => by
  rw [Addr.add_add]; exact h _ v (by rwa [List.getElem?_drop] at hv)
theorem At.take {w : World} {a : Addr} {xs : List Value} (h : At w a xs) (n : Nat) : At w a (xs.take n) := fun i v hv => by
  rw [List.getElem?_take] at hv
  split at hv
  · exact h i v hv
  · cases hv

/-! ### rules -/
theorem PureS_some (v : Value) (K : Value → Prop) : PureS (some v) K = K v := rfl
theorem CondS_bool (b : Bool) (X Y : Prop) : CondS (.bool b) X Y = if b = true then X else Y := rfl
theorem condT {b : Bool} {X Y : Prop} (hb : b = true) (h : X) : CondS (.bool b) X Y := by rw [CondS_bool, if_pos hb]; exact h
theorem condF {b : Bool} {X Y : Prop} (hb : b = false) (h : Y) : CondS (.bool b) X Y := by rw [CondS_bool, if_neg (by rw [hb]; simp)]; exact h
theorem condD {p : Prop} [Decidable p] {X Y : Prop} (hx : p → X) (hy : ¬ p → Y) : CondS (.bool (decide p)) X Y := by
  by_cases hp : p
  · exact condT (by simp [hp]) (hx hp)
  · exact condF (by simp [hp]) (hy hp)
theorem condN {p : Prop} [Decidable p] {X Y : Prop} (hx : ¬ p → X) (hy : p → Y) : CondS (.bool (!decide p)) X Y := by
  by_cases hp : p
  · exact condF (by simp [hp]) (hy hp)
  · exact condT (by simp [hp]) (hx hp)
theorem condB {b : Bool} {X Y : Prop} (hx : b = true → X) (hy : b = false → Y) : CondS (.bool b) X Y := by
  cases b
  · exact condF rfl (hy rfl)
  · exact condT rfl (hx rfl)
theorem ifB_eq (b want : Bool) (X Y : Prop) : IfB (.bool b) want X Y = if b = want then X else Y := by
  unfold IfB isB
  cases b <;> cases want <;> simp
theorem load {S : Nat → Prop} {w : World} {a : Addr} {v : Value} {K : Value → World → Prop} (h : w.cell? a = some v) (hK : K v w) : LoadC (.pointer (some a)) K w := by
  unfold LoadC; simp only [h]; exact hK
theorem loadB {w : World} {g i : Nat} {t : TypeId} {cs : List Value} {v : Value} {K : Value → World → Prop} (h : Blk w g t cs) (hv : cs[i]? = some v) (hK : K v w) : LoadC (.pointer (some ⟨g, i, none⟩)) K w :=
  load (S := No) ((h.cell i).trans hv) hK
theorem loadA {w : World} {a : Addr} {xs : List Value} {n : Nat} {K : Value → World → Prop} (h : At w a xs) (hl : xs.length = n) (hK : K (.agg xs.toArray) w) : LoadA n (.pointer (some a)) K w :=
  ⟨xs, hl, h, hK⟩
theorem heldC {S : World → Prop} {a : Addr} {v : Value} {K : Value → Prop} (h : ∀ w, S w → w.cell? a = some v) (hK : K v) : HeldC S (.pointer (some a)) K := ⟨v, h, hK⟩
theorem heldA {S : World → Prop} {a : Addr} {xs : List Value} {n : Nat} {K : Value → Prop} (h : ∀ w, S w → At w a xs) (hl : xs.length = n) (hK : K (.agg xs.toArray)) : HeldA n S (.pointer (some a)) K :=
  ⟨xs, hl, h, hK⟩
theorem storeB {w : World} {g i : Nat} {t : TypeId} {cs : List Value} {v : Value} {K : World → Prop} (h : Blk w g t cs) (hi : i < cs.length) (hv : v.oneCell' = true)
    (hK : ∀ w', Blk w' g t (cs.set i v) → Ext (At1 g) w w' → w'.heap.size = w.heap.size → K w') : StoreC (.pointer (some ⟨g, i, none⟩)) v K w :=
  ⟨hv, by rw [h.cell, List.getElem?_eq_getElem hi]; rfl, h.frozen i, hK _ (h.set i v) (Ext.setCell w _ v rfl) (by simp)⟩
theorem box {w : World} {t : TypeId} {v : Value} {K : Value → World → Prop} (hK : ∀ w', Blk w' w.heap.size t v.cells.toList → Ext No w w' → w'.heap.size = w.heap.size + 1 → K (.pointer (some ⟨w.heap.size, 0, none⟩)) w') : BoxS t v K w := by
  unfold BoxS
  refine hK _ ?_ (Ext.alloc w _) (by simp)
  have := Blk.new w v.cells.toList t
  simpa using this
theorem setCells_blk : ∀ (vs : List Value) (i : Nat) (w : World) (g o : Nat) (t : TypeId) (cs : List Value), Blk w g t cs → i + vs.length + o ≤ cs.length →
    Blk (setCells w ⟨g, o, none⟩ i vs) g t (cs.take (o + i) ++ vs ++ cs.drop (o + i + vs.length)) ∧ Ext (At1 g) w (setCells w ⟨g, o, none⟩ i vs) ∧ (setCells w ⟨g, o, none⟩ i vs).heap.size = w.heap.size
  | [], i, w, g, o, t, cs, h, _ => ⟨by simpa [setCells] using h, Ext.refl _ w, rfl⟩
  | v :: vs, i, w, g, o, t, cs, h, hl => by
    have h1 := h.set (o + i) v
    rw [← Addr.add_mk] at h1
    obtain ⟨h2, h3, h4⟩ := setCells_blk vs (i + 1) _ g o t _ h1 (by simp only [List.length_cons] at hl; simp; omega)
    refine ⟨?_, (Ext.setCell w _ v (by rw [Addr.add_block]; rfl)).trans h3, by rw [show setCells w ⟨g, o, none⟩ i (v :: vs) = setCells (w.setCell ((⟨g, o, none⟩ : Addr).add i) v) ⟨g, o, none⟩ (i + 1) vs from rfl, h4]; simp⟩
    have hlt : o + i < cs.length := by simp only [List.length_cons] at hl; omega
    have e : (cs.set (o + i) v).take (o + (i + 1)) ++ vs ++ (cs.set (o + i) v).drop (o + (i + 1) + vs.length) = cs.take (o + i) ++ (v :: vs) ++ cs.drop (o + i + (v :: vs).length) := by
      rw [List.take_set, List.drop_set_of_lt (by omega)]
      rw [show o + (i + 1) = o + i + 1 by omega, List.take_succ_eq_append_getElem hlt]
      rw [List.set_append_right _ _ (by simp; omega)]
      simp [Nat.min_eq_left (Nat.le_of_lt hlt)]
      omega
    rw [e] at h2
    exact h2
theorem storeA {w : World} {g o n : Nat} {t : TypeId} {cs vs : List Value} {K : World → Prop} (h : Blk w g t cs) (hl : vs.length = n) (hn : n + o ≤ cs.length) (hv : ∀ v ∈ vs, v.oneCell' = true)
    (hK : ∀ w', Blk w' g t (cs.take o ++ vs ++ cs.drop (o + n)) → Ext (At1 g) w w' → w'.heap.size = w.heap.size → K w') : StoreA n (.pointer (some ⟨g, o, none⟩)) (.agg vs.toArray) K w := by
  refine ⟨by simp [hl], by simpa using hv, fun i hi => ?_, ?_⟩
  · rw [Addr.add_mk, h.cell, h.frozen]
    exact ⟨by rw [List.getElem?_eq_getElem (by omega)]; rfl, rfl⟩
  · obtain ⟨h1, h2, h3⟩ := setCells_blk vs 0 w g o t cs h (by omega)
    simp only [Nat.add_zero, hl] at h1
    exact hK _ h1 h2 h3
/-- a whole struct is written -/
theorem storeAll {w : World} {g n : Nat} {t : TypeId} {cs vs : List Value} {K : World → Prop} (h : Blk w g t cs) (hl : vs.length = n) (hn : cs.length = n) (hv : ∀ v ∈ vs, v.oneCell' = true)
    (hK : ∀ w', Blk w' g t vs → Ext (At1 g) w w' → w'.heap.size = w.heap.size → K w') : StoreA n (.pointer (some ⟨g, 0, none⟩)) (.agg vs.toArray) K w :=
  storeA h hl (by omega) hv fun w' hb he hs => hK w' (by simpa [← hn] using hb) he hs
theorem runS {P : Program} {s : Sem Value} {K : Value → World → Prop} {w w' : World} {v : Value} (h : s.run P w = .ok v w') (hK : K v w') : RunS P s K w := by
  unfold RunS; rw [h]; exact hK
theorem runU {P : Program} {s : Sem Unit} {K : World → Prop} {w w' : World} (h : s.run P w = .ok () w') (hK : K w') : RunU P s K w := by
  unfold RunU; rw [h]; exact hK
theorem callS {P : Program} {f : FuncId} {args : Array Value} {K K' : Value → World → Prop} {w : World} (h : CallS P f args K w) (hK : ∀ v w', K v w' → K' v w') : CallS P f args K' w :=
  Calls.mono h fun e w' he => by cases e <;> first | exact hK _ _ he | exact he
theorem drawT {w : World} {X : (World → Prop) → Prop} (h : X fun _ => True) : DrawS fun S => S w ∧ X S := ⟨fun _ => True, trivial, h⟩
theorem draw {w : World} {X : (World → Prop) → Prop} (S : World → Prop) (h0 : S w) (h : X S) : DrawS fun S => S w ∧ X S := ⟨S, h0, h⟩

/-! ### joins -/
theorem join0 {Z : World → Prop} {X : (World → Prop) → Prop} (I : World → Prop) (hZ : ∀ w, I w → Z w) (hX : ∀ J : World → Prop, (∀ w, I w → J w) → X J) : JoinS Z X := ⟨hX Z hZ⟩
theorem join1 {Z : Value → World → Prop} {X : (Value → World → Prop) → Prop} (I : Value → World → Prop) (hZ : ∀ a w, I a w → Z a w) (hX : ∀ J : Value → World → Prop, (∀ a w, I a w → J a w) → X J) : JoinS Z X := ⟨hX Z hZ⟩
theorem join2 {Z : Value → Value → World → Prop} {X : (Value → Value → World → Prop) → Prop} (I : Value → Value → World → Prop) (hZ : ∀ a b w, I a b w → Z a b w)
    (hX : ∀ J : Value → Value → World → Prop, (∀ a b w, I a b w → J a b w) → X J) : JoinS Z X := ⟨hX Z hZ⟩
theorem join3 {Z : Value → Value → Value → World → Prop} {X : (Value → Value → Value → World → Prop) → Prop} (I : Value → Value → Value → World → Prop) (hZ : ∀ a b c w, I a b c w → Z a b c w)
    (hX : ∀ J : Value → Value → Value → World → Prop, (∀ a b c w, I a b c w → J a b c w) → X J) : JoinS Z X := ⟨hX Z hZ⟩
theorem join4 {Z : Value → Value → Value → Value → World → Prop} {X : (Value → Value → Value → Value → World → Prop) → Prop} (I : Value → Value → Value → Value → World → Prop) (hZ : ∀ a b c d w, I a b c d w → Z a b c d w)
    (hX : ∀ J : Value → Value → Value → Value → World → Prop, (∀ a b c d w, I a b c d w → J a b c d w) → X J) : JoinS Z X := ⟨hX Z hZ⟩

/-! ### loops, with a state that nobody computes -/
theorem least {p : Nat → Prop} (h : ∃ n, p n) : ∃ n, p n ∧ ∀ m, p m → n ≤ m := by
  obtain ⟨n, hn⟩ := h
  induction n using Nat.strongRecOn with
  | _ n ih =>
    by_cases hh : ∃ m, m < n ∧ p m
    · obtain ⟨m, hm, hp⟩ := hh
      exact ih m hm hp
    · exact ⟨n, hn, fun m hm => Nat.le_of_not_lt fun hlt => hh ⟨m, hlt, hm⟩⟩
theorem loopL {σ : Type} {n : Nat} {body : Cur n → Cur n} (inv : σ → List Value → World → Prop) (μ : σ → Nat) {vs : List Value} {w : World} (s : σ) (h0 : inv s vs w)
    (h : ∀ s vs w, vs.length = n → inv s vs w → ∀ L : Cur n, (∀ s' vs' w', vs'.length = n → inv s' vs' w' → μ s' < μ s → app n L vs' w') → app n (body L) vs w) : LoopL n body vs w := by
  classical
  have hex : ∀ vs w, (∃ s, inv s vs w) → ∃ k, (∃ s, inv s vs w ∧ μ s = k) ∧ ∀ m, (∃ s, inv s vs w ∧ μ s = m) → k ≤ m := fun vs w ⟨s, hs⟩ => least ⟨μ s, s, hs, rfl⟩
  refine ⟨fun vs w => ∃ s, inv s vs w, fun vs w => if hh : ∃ s, inv s vs w then (hex vs w hh).choose else 0, ⟨s, h0⟩, fun vs w hl hI => ?_⟩
  have hI' : ∃ s, inv s vs w := hI
  simp only [dif_pos hI']
  obtain ⟨s1, hs1, hm⟩ := (hex vs w hI').choose_spec.1
  refine h s1 vs w hl hs1 _ fun s' vs' w' hl' hs' hlt => ?_
  rw [app_curry _ _ _ _ hl']
  refine ⟨⟨s', hs'⟩, ?_⟩
  rw [dif_pos (⟨s', hs'⟩ : ∃ s, inv s vs' w')]
  exact Nat.lt_of_le_of_lt ((hex vs' w' ⟨s', hs'⟩).choose_spec.2 _ ⟨s', hs', rfl⟩) (by omega)
theorem loop0 {σ : Type} {body : (World → Prop) → World → Prop} (inv : σ → World → Prop) (μ : σ → Nat) {w : World} (s : σ) (h0 : inv s w)
    (h : ∀ s w, inv s w → ∀ L : World → Prop, (∀ s' w', inv s' w' → μ s' < μ s → L w') → body L w) : LoopS 0 body w :=
  (app_curry 0 _ [] w rfl).2 (loopL (n := 0) (fun s _ w => inv s w) μ s h0 fun s vs w _ hi L hL => h s w hi L fun s' w' hi' hlt => hL s' [] w' rfl hi' hlt)
theorem loop1 {σ : Type} {body : (Value → World → Prop) → Value → World → Prop} (inv : σ → Value → World → Prop) (μ : σ → Nat) {a : Value} {w : World} (s : σ) (h0 : inv s a w)
    (h : ∀ s a w, inv s a w → ∀ L : Value → World → Prop, (∀ s' a' w', inv s' a' w' → μ s' < μ s → L a' w') → body L a w) : LoopS 1 body a w :=
  (app_curry 1 _ [a] w rfl).2 (loopL (n := 1) (fun s vs w => ∃ a, vs = [a] ∧ inv s a w) μ s ⟨a, rfl, h0⟩ fun s vs w _ ⟨a, hv, hi⟩ L hL => by
    subst hv; exact h s a w hi L fun s' a' w' hi' hlt => hL s' [a'] w' rfl ⟨a', rfl, hi'⟩ hlt)
theorem loop2 {σ : Type} {body : (Value → Value → World → Prop) → Value → Value → World → Prop} (inv : σ → Value → Value → World → Prop) (μ : σ → Nat) {a b : Value} {w : World} (s : σ) (h0 : inv s a b w)
    (h : ∀ s a b w, inv s a b w → ∀ L : Value → Value → World → Prop, (∀ s' a' b' w', inv s' a' b' w' → μ s' < μ s → L a' b' w') → body L a b w) : LoopS 2 body a b w :=
  (app_curry 2 _ [a, b] w rfl).2 (loopL (n := 2) (fun s vs w => ∃ a b, vs = [a, b] ∧ inv s a b w) μ s ⟨a, b, rfl, h0⟩ fun s vs w _ ⟨a, b, hv, hi⟩ L hL => by
    subst hv; exact h s a b w hi L fun s' a' b' w' hi' hlt => hL s' [a', b'] w' rfl ⟨a', b', rfl, hi'⟩ hlt)
theorem loop3 {σ : Type} {body : (Value → Value → Value → World → Prop) → Value → Value → Value → World → Prop} (inv : σ → Value → Value → Value → World → Prop) (μ : σ → Nat) {a b c : Value} {w : World} (s : σ) (h0 : inv s a b c w)
    (h : ∀ s a b c w, inv s a b c w → ∀ L : Value → Value → Value → World → Prop, (∀ s' a' b' c' w', inv s' a' b' c' w' → μ s' < μ s → L a' b' c' w') → body L a b c w) : LoopS 3 body a b c w :=
  (app_curry 3 _ [a, b, c] w rfl).2 (loopL (n := 3) (fun s vs w => ∃ a b c, vs = [a, b, c] ∧ inv s a b c w) μ s ⟨a, b, c, rfl, h0⟩ fun s vs w _ ⟨a, b, c, hv, hi⟩ L hL => by
    subst hv; exact h s a b c w hi L fun s' a' b' c' w' hi' hlt => hL s' [a', b', c'] w' rfl ⟨a', b', c', rfl, hi'⟩ hlt)
end SG
/-! Rules: numbers, slices as lists, append, slice literals. No program stands here. -/
namespace SG
open Go Go.RowKit Go.Lib
set_option linter.unusedSimpArgs false
set_option linter.unusedVariables false

/-! ### numbers -/
theorem wi64 {n : Int} (h0 : -9223372036854775808 ≤ n) (h1 : n ≤ 9223372036854775807) : IntKind.i64.wrap n = n := by
  simp [IntKind.wrap, IntKind.signed, IntKind.bits]; omega
theorem wu64 {n : Int} (h0 : 0 ≤ n) (h1 : n ≤ 18446744073709551615) : IntKind.u64.wrap n = n := by
  simp [IntKind.wrap, IntKind.signed, IntKind.bits]; omega
theorem wu32 {n : Int} (h0 : 0 ≤ n) (h1 : n ≤ 4294967295) : IntKind.u32.wrap n = n := by
  simp [IntKind.wrap, IntKind.signed, IntKind.bits]; omega
theorem wu8 {n : Int} (h0 : 0 ≤ n) (h1 : n ≤ 255) : IntKind.u8.wrap n = n := by
  simp [IntKind.wrap, IntKind.signed, IntKind.bits]; omega
theorem wu8_mod (n : Int) : IntKind.u8.wrap n = n % 256 := by
  simp [IntKind.wrap, IntKind.signed, IntKind.bits]
theorem wu64_mod (n : Int) : IntKind.u64.wrap n = n % 18446744073709551616 := by
  simp [IntKind.wrap, IntKind.signed, IntKind.bits]
theorem wu32_mod (n : Int) : IntKind.u32.wrap n = n % 4294967296 := by
  simp [IntKind.wrap, IntKind.signed, IntKind.bits]

section
variable (a b : Int) (k : IntKind)
theorem bin_add : binV .add (.int k a) (.int k b) = some (.int k (k.wrap (a + b))) := by simp [binV, intV]
theorem bin_sub : binV .sub (.int k a) (.int k b) = some (.int k (k.wrap (a - b))) := by simp [binV, intV]
theorem bin_mul : binV .mul (.int k a) (.int k b) = some (.int k (k.wrap (a * b))) := by simp [binV, intV]
theorem bin_eql : binV .eql (.int k a) (.int k b) = some (.bool (decide (a = b))) := by simp [binV, intV]
theorem bin_neq : binV .neq (.int k a) (.int k b) = some (.bool (!decide (a = b))) := by simp [binV, intV]
theorem bin_lss : binV .lss (.int k a) (.int k b) = some (.bool (decide (a < b))) := by simp [binV, intV]
theorem bin_leq : binV .leq (.int k a) (.int k b) = some (.bool (decide (a ≤ b))) := by simp [binV, intV]
theorem bin_gtr : binV .gtr (.int k a) (.int k b) = some (.bool (decide (b < a))) := by simp [binV, intV]
theorem bin_geq : binV .geq (.int k a) (.int k b) = some (.bool (decide (b ≤ a))) := by simp [binV, intV]
theorem bin_or : binV .or (.int k a) (.int k b) = some (.int k (bits .or k a b)) := by simp [binV, intV]
theorem bin_and : binV .and (.int k a) (.int k b) = some (.int k (bits .and k a b)) := by simp [binV, intV]
theorem bin_xor : binV .xor (.int k a) (.int k b) = some (.int k (bits .xor k a b)) := by simp [binV, intV]
theorem bin_quo (h : b ≠ 0) : binV .quo (.int k a) (.int k b) = some (.int k (k.wrap (a.tdiv b))) := by simp [binV, intV, h]
theorem bin_rem (h : b ≠ 0) : binV .rem (.int k a) (.int k b) = some (.int k (a.tmod b)) := by simp [binV, intV, h]
theorem conv_int (k' : IntKind) : convIntV k' (.int k a) = some (.int k' (k'.wrap a)) := rfl
theorem max_int (k' : IntKind) : maxV (.int k a) (.int k' b) = some (.int k (if b > a then b else a)) := rfl
theorem min_int (k' : IntKind) : minV (.int k a) (.int k' b) = some (.int k (if b < a then b else a)) := rfl
end
theorem bin_shr {k k' : IntKind} {a b : Int} (h0 : 0 ≤ b) (h1 : b ≤ k.bits) : binV .shr (.int k a) (.int k' b) = some (.int k (a.fdiv (2 ^ b.toNat))) := by
  have : min b.toNat k.bits = b.toNat := by omega
  simp [binV, shiftV, h0, this]
theorem bin_shl {k k' : IntKind} {a b : Int} (h0 : 0 ≤ b) (h1 : b ≤ k.bits) : binV .shl (.int k a) (.int k' b) = some (.int k (k.wrap (a * 2 ^ b.toNat))) := by
  have : min b.toNat k.bits = b.toNat := by omega
  simp [binV, shiftV, h0, this]
theorem nil_ptr (a : Addr) : nilV (.pointer (some a)) = some (.pointer (some a)) := rfl
theorem field_ptr (g o n : Nat) : fieldAddrV n (.pointer (some ⟨g, o, none⟩)) = some (.pointer (some ⟨g, o + n, none⟩)) := by simp [fieldAddrV, Addr.add_mk]
theorem len_sl (a : Option Addr) (n c : Nat) : lenSliceV (.slice a n c) = some (.int .i64 n) := rfl
theorem len_str (s : ByteArray) : lenStrV (.string s) = some (.int .i64 s.size) := rfl
theorem pick_b (t : Bool) (x y : Value) : pickV (.bool t) x y = some (if t then x else y) := rfl
theorem not_b (t : Bool) : notV (.bool t) = some (.bool (!t)) := rfl
theorem bool_eql (a b : Bool) : boolV .eql (.bool a) (.bool b) = some (.bool (a == b)) := rfl
theorem bool_neq (a b : Bool) : boolV .neq (.bool a) (.bool b) = some (.bool (!(a == b))) := rfl
theorem index_sl {a : Addr} {len cap size : Nat} {k : IntKind} {i : Int} (h : 0 ≤ i ∧ i < (len : Int)) : indexAddrV size (.slice (some a) len cap) (.int k i) = some (.pointer (some (a.add (i.toNat * size)))) := by
  simp [indexAddrV, h]
theorem str_eql (a b : ByteArray) : binV .eql (.string a) (.string b) = some (.bool (a.toList == b.toList)) := rfl
theorem str_neq (a b : ByteArray) : binV .neq (.string a) (.string b) = some (.bool (!(a.toList == b.toList))) := rfl
theorem str_lss (a b : ByteArray) : binV .lss (.string a) (.string b) = some (.bool (Op.bytesLess a.toList b.toList)) := rfl
theorem extract_0 (a : Value) (l : List Value) : extractV 0 (.tuple (a :: l).toArray) = some a := by simp [extractV]
theorem extract_1 (a b : Value) (l : List Value) : extractV 1 (.tuple (a :: b :: l).toArray) = some b := by simp [extractV]
theorem extract_2 (a b c : Value) (l : List Value) : extractV 2 (.tuple (a :: b :: c :: l).toArray) = some c := by simp [extractV]

theorem pur {r : Option Value} {v : Value} {K : Value → Prop} (h : r = some v) (hK : K v) : PureS r K := by rw [h]; exact hK
theorem add64 {a b c : Int} (h : a + b = c) (h0 : -9223372036854775808 ≤ c) (h1 : c ≤ 9223372036854775807) : binV .add (.int .i64 a) (.int .i64 b) = some (.int .i64 c) := by rw [bin_add, h, wi64 h0 h1]
theorem sub64 {a b c : Int} (h : a - b = c) (h0 : -9223372036854775808 ≤ c) (h1 : c ≤ 9223372036854775807) : binV .sub (.int .i64 a) (.int .i64 b) = some (.int .i64 c) := by rw [bin_sub, h, wi64 h0 h1]
theorem conv64u {k : IntKind} {a : Int} (h0 : 0 ≤ a) (h1 : a ≤ 18446744073709551615) : convIntV .u64 (.int k a) = some (.int .u64 a) := by rw [conv_int, wu64 h0 h1]
theorem conv64 {k : IntKind} {a : Int} (h0 : -9223372036854775808 ≤ a) (h1 : a ≤ 9223372036854775807) : convIntV .i64 (.int k a) = some (.int .i64 a) := by rw [conv_int, wi64 h0 h1]
theorem conv32u {k : IntKind} {a : Int} (h0 : 0 ≤ a) (h1 : a ≤ 4294967295) : convIntV .u32 (.int k a) = some (.int .u32 a) := by rw [conv_int, wu32 h0 h1]
theorem conv8u {k : IntKind} {a : Int} : convIntV .u8 (.int k a) = some (.int .u8 (a % 256)) := by rw [conv_int, wu8_mod]

/-! ### a slice that reads as cells -/
def Sl (w : World) (x : Value) (m size : Nat) (xs : List Value) : Prop :=
  ∃ A c, x = .slice A m c ∧ xs.length = m * size ∧ m ≤ c ∧ (A = none → m = 0) ∧ ∀ ad, A = some ad → At w ad xs
namespace Sl
variable {S : Nat → Prop} {w w' : World} {x : Value} {m size : Nat} {xs : List Value}
theorem nil_ (w : World) (size : Nat) : Sl w (.slice none 0 0) 0 size [] := ⟨none, 0, rfl, by simp, Nat.le_refl _, fun _ => rfl, fun _ h => by cases h⟩
theorem ext (h : Sl w x m size xs) (e : Ext S w w') (hn : ∀ g, x.ownBlock = some g → ¬ S g) : Sl w' x m size xs := by
  obtain ⟨A, c, rfl, hl, hc, h0, hA⟩ := h
  refine ⟨A, c, rfl, hl, hc, h0, fun ad hA' i v hv => ?_⟩
  subst hA'
  have hcell := hA ad rfl i v hv
  have hlt := World.block_lt_of_cell? _ _ hcell
  rw [Addr.add_block] at hlt
  rw [e.cell (by rw [Addr.add_block]; exact hlt) (by rw [Addr.add_block]; exact hn _ rfl)]
  exact hcell
theorem no (h : Sl w x m size xs) (e : Ext No w w') : Sl w' x m size xs := h.ext e fun _ _ hh => hh
theorem len (h : Sl w x m size xs) : lenSliceV x = some (.int .i64 m) := by obtain ⟨A, c, rfl, _⟩ := h; rfl
theorem length (h : Sl w x m size xs) : xs.length = m * size := by obtain ⟨A, c, rfl, hl, _⟩ := h; exact hl
/-- the i-th element's address, and its cells -/
theorem at_ (h : Sl w x m size xs) {i : Nat} (hi : i < m) : ∃ ad, indexAddrV size x (.int .i64 (i : Int)) = some (.pointer (some ad)) ∧ At w ad ((xs.drop (i * size)).take size) ∧ (x.ownBlock = some ad.block) := by
  obtain ⟨A, c, rfl, hl, hc, h0, hA⟩ := h
  cases A with
  | none => have := h0 rfl; omega
  | some ad =>
    refine ⟨ad.add (i * size), ?_, ((hA ad rfl).drop _).take _, by simp [Value.ownBlock, Addr.add_block]⟩
    rw [index_sl ⟨by omega, by omega⟩]; simp
theorem own {base : Nat} {e : TypeId} (h : w.ownsRow base e size x m xs) : Sl w x m size xs := by
  refine ⟨x.ownBlock.map fun g => ⟨g, 0, none⟩, ?_⟩
  have hc := fun g hg => h.cells (g := g) hg
  rcases h.2 with ⟨rfl, rfl⟩ | ⟨g, cap, cur, rfl, hb, hg, hnc, _⟩
  · exact ⟨0, rfl, h.1, Nat.le_refl _, fun _ => rfl, fun _ h => by cases h⟩
  · refine ⟨cap, rfl, h.1, hnc, (fun h => by cases h), (fun ad had => ?_)⟩
    simp only [Value.ownBlock, Option.map_some, Option.some.injEq] at had
    subst had
    exact fun i v hv => hc g rfl i v hv
end Sl
def flat {α : Type} (f : α → List Value) (l : List α) : List Value := l.flatMap f
theorem flat_nil {α : Type} (f : α → List Value) : flat f [] = [] := rfl
theorem flat_append {α : Type} (f : α → List Value) (l r : List α) : flat f (l ++ r) = flat f l ++ flat f r := by simp [flat]
theorem flat_one {α : Type} (f : α → List Value) (a : α) : flat f [a] = f a := by simp [flat]
theorem flat_length {α : Type} (f : α → List Value) {size : Nat} (hf : ∀ a, (f a).length = size) (l : List α) : (flat f l).length = l.length * size := by
  induction l with
  | nil => simp [flat]
  | cons a l ih => simp only [flat, List.flatMap_cons, List.length_append, hf, List.length_cons] at ih ⊢; rw [ih, Nat.add_mul]; omega
theorem flat_at {α : Type} (f : α → List Value) {size : Nat} (hf : ∀ a, (f a).length = size) : ∀ (l : List α) (i : Nat) (a : α), l[i]? = some a → ((flat f l).drop (i * size)).take size = f a
  | [], i, a, h => by simp at h
  | x :: l, 0, a, h => by
    simp only [List.getElem?_cons_zero, Option.some.injEq] at h
    subst h
    have : flat f (x :: l) = f x ++ flat f l := by simp [flat]
    rw [this]
    simp [← hf x]
  | x :: l, i + 1, a, h => by
    have : flat f (x :: l) = f x ++ flat f l := by simp [flat]
    rw [this, show (i + 1) * size = (f x).length + i * size by rw [hf, Nat.add_mul]; omega, List.drop_append]
    simp only [List.drop_length_add_append, Nat.add_sub_cancel_left]
    have h0 : (f x).drop ((f x).length + i * size) = [] := by simp
    rw [h0, List.nil_append]
    exact flat_at f hf l i a (by simpa using h)
theorem flat_take {α : Type} (f : α → List Value) {size : Nat} (hf : ∀ a, (f a).length = size) : ∀ (l : List α) (i : Nat), (flat f l).take (i * size) = flat f (l.take i)
  | [], i => by simp [flat]
  | x :: l, 0 => by simp [flat]
  | x :: l, i + 1 => by
    have : flat f (x :: l) = f x ++ flat f l := by simp [flat]
    have h2 : flat f ((x :: l).take (i + 1)) = f x ++ flat f (l.take i) := by simp [flat]
    rw [this, h2, show (i + 1) * size = (f x).length + i * size by rw [hf, Nat.add_mul]; omega, List.take_length_add_append, flat_take f hf l i]
theorem flat_drop {α : Type} (f : α → List Value) {size : Nat} (hf : ∀ a, (f a).length = size) : ∀ (l : List α) (i : Nat), (flat f l).drop (i * size) = flat f (l.drop i)
  | [], i => by simp [flat]
  | x :: l, 0 => by simp [flat]
  | x :: l, i + 1 => by
    have : flat f (x :: l) = f x ++ flat f l := by simp [flat]
    have h2 : flat f ((x :: l).drop (i + 1)) = flat f (l.drop i) := by simp [flat]
    rw [this, h2, show (i + 1) * size = (f x).length + i * size by rw [hf, Nat.add_mul]; omega, List.drop_length_add_append, flat_drop f hf l i]

/-! ### append -/
/-- what a type is good for, off a program's table -/
structure ElemT (P : Program) (t e : TypeId) (size bytes : Nat) (z : Value) : Prop where
  under : P.underlying t = some (.slice e)
  info : (P.info? e).map (fun i => (i.zero, i.size, i.bytes)) = some (some z, size, bytes)
  zs : z.cells.size = size
  pos : 0 < size
  small : size ≤ 1000
section
variable {P : Program} {t e : TypeId} {size bytes : Nat} {z : Value}
theorem run_append_none (hT : ElemT P t e size bytes z) (ty : TypeId) {w : World} {base n c : Nat} {v : Value} {xs : List Value} (hown : w.ownsRow base e size v n xs) :
    (Builtin.append_ #[t, t] ty #[v, .slice none 0 c]).run P w = .ok v w := by
  obtain ⟨i, hi, hz, hs, hb⟩ := info_parts hT.info
  rcases hown.2 with ⟨rfl, rfl⟩ | ⟨g, cap, cur, rfl, _, _, hnc, _⟩
  · simp [Builtin.append_, run_underlying hT.under, Go.sizeOf, typeInfo, hi, Builtin.lenOf, Builtin.firstCells]
  · simp [Builtin.append_, run_underlying hT.under, Go.sizeOf, typeInfo, hi, Builtin.lenOf, Builtin.firstCells, hnc, storeCells]
theorem append_sl (hT : ElemT P t e size bytes z) (ty : TypeId) {w : World} {base n m : Nat} {v x : Value} {xs news : List Value} {K : Value → World → Prop} (hown : w.ownsRow base e size v n xs)
    (hs : Sl w x m size news) (h1 : ∀ u ∈ news, u.oneCell' = true) (hbytes : (n + m) * bytes ≤ 140737488355328) (h63 : n + m ≤ 140737488355328) (hbase : base ≤ w.heap.size)
    (hK : ∀ v' w', w'.ownsRow base e size v' (n + m) (xs ++ news) → w.grownBy w' v.ownBlock → (v'.ownBlock = v.ownBlock ∨ v'.ownBlock = some w.heap.size) → K v' w') :
    RunS P (Builtin.append_ #[t, t] ty [v, x].toArray) K w := by
  obtain ⟨i, hi, hz, hsz, hb⟩ := info_parts hT.info
  obtain ⟨A, c, rfl, hl, hc, h0, hA⟩ := hs
  cases A with
  | none =>
    have hm := h0 rfl
    subst hm
    have hn : news = [] := List.eq_nil_of_length_eq_zero (by simpa using hl)
    subst hn
    exact runS (run_append_none hT ty hown) (hK v w (by simpa using hown) (World.grownBy.refl w _) (.inl rfl))
  | some ad =>
    obtain ⟨v', w', hrun, h2, h3, _, h5⟩ := run_append_own_at (P := P) w base t ty e i z size bytes hT.under hi hz hsz hb hT.zs hT.pos v n xs hown ad m c news hl (hA ad rfl) h1 (by unfold maxLen; omega) hbytes hbase
    exact runS hrun (hK v' w' h2 h3 h5)
theorem append_str (hT : ElemT P t e 1 1 (.int .u8 0)) {u : TypeId} (hu : P.underlying u = some .string) (ty : TypeId) {w : World} {base n : Nat} {v : Value} {s : ByteArray} {xs : List Value} {K : Value → World → Prop} (hown : w.ownsRow base e 1 v n xs)
    (h63 : n + s.size ≤ 140737488355328) (hbase : base ≤ w.heap.size)
    (hK : ∀ v' w', w'.ownsRow base e 1 v' (n + s.size) (xs ++ strCells s) → w.grownBy w' v.ownBlock → K v' w') :
    RunS P (Builtin.append_ #[t, u] ty [v, .string s].toArray) K w := by
  obtain ⟨i, hi, hz, hsz, hb⟩ := info_parts hT.info
  obtain ⟨v', w', hrun, h2, h3, _⟩ := run_append_own_string (P := P) w base t u ty e i hT.under hu hi hz hsz hb v n xs hown s (by unfold maxLen; omega) h63 hbase
  exact runS hrun (hK v' w' h2 h3)

theorem fill_foldl : ∀ (l : List Value) (k : Nat) (acc : Array Value), acc.size = k + l.length → ((l.zipIdx k).foldl (fun cs (p : Value × Nat) => cs.setIfInBounds (0 + p.2) p.1) acc).toList = acc.toList.take k ++ l
  | [], k, acc, h => by
    have hk : acc.toList.length ≤ k := by simp at h; simp [h]
    simp [List.take_of_length_le hk]
  | x :: l, k, acc, h => by
    simp only [List.length_cons] at h
    rw [List.zipIdx_cons, List.foldl_cons, fill_foldl l (k + 1) _ (by simp; omega)]
    simp only [Array.toList_setIfInBounds, Nat.zero_add]
    have hk : k < acc.toList.length := by simp; omega
    rw [List.take_succ_eq_append_getElem (by simpa using hk), List.take_set]
    have : (List.take k acc.toList).set k x = List.take k acc.toList := List.set_eq_of_length_le (by simp; omega)
    simp [this]
theorem fill_one {size : Nat} {cells : Array Value} {v : Value} (hv : v.cells.size = size) (hc : cells.size = size) : Instr.fill (fun i => some (i * size, size)) cells [(0, v)] = some v.cells := by
  have h1 : (v.cells.zipIdx.foldl (fun cs (p : Value × Nat) => cs.setIfInBounds (0 + p.2) p.1) cells) = v.cells := by
    apply Array.ext'
    rw [← Array.foldl_toList, Array.toList_zipIdx, fill_foldl _ 0 cells (by simp [hc, hv])]
    simp
  simp only [Instr.fill, Nat.zero_mul, hv, hc]
  simp
  simpa using h1
theorem build1 (hT : ElemT P t e size bytes z) {v : Value} (hv : v.cells.size = size) {w : World} {K : Value → World → Prop}
    (hK : ∀ w', Blk w' w.heap.size e v.cells.toList → Ext No w w' → w'.heap.size = w.heap.size + 1 → K (.slice (some ⟨w.heap.size, 0, none⟩) 1 1) w') :
    RunS P (Instr.buildSlice t 1 [(0, v)].toArray) K w := by
  obtain ⟨i, hi, hz, hsz, hb⟩ := info_parts hT.info
  have hs := hT.small
  have hpos := hT.pos
  refine runS (v := .slice (some ⟨w.heap.size, 0, none⟩) 1 1) (w' := w.alloc (.cells v.cells e)) ?_ (hK _ ?_ (Ext.alloc w _) (by simp))
  · have hne : size ≠ 0 := by omega
    have hle : ¬ 16777216 < size := by omega
    simp [Instr.buildSlice, run_underlying hT.under, Go.sizeOf, typeInfo, hi, hsz, zeroValue, hz, hne, hle, newRow]
    rw [fill_one hv (by simp)]
    rfl
  · have := Blk.new w v.cells.toList e
    simpa using this
theorem build0 (hT : ElemT P t e size bytes z) {w : World} {K : Value → World → Prop}
    (hK : ∀ w', Blk w' w.heap.size e [] → Ext No w w' → w'.heap.size = w.heap.size + 1 → K (.slice (some ⟨w.heap.size, 0, none⟩) 0 0) w') :
    RunS P (Instr.buildSlice t 0 [].toArray) K w := by
  obtain ⟨i, hi, hz, hsz, hb⟩ := info_parts hT.info
  refine runS (v := .slice (some ⟨w.heap.size, 0, none⟩) 0 0) (w' := w.alloc (.cells #[] e)) ?_ (hK _ (Blk.new w [] e) (Ext.alloc w _) (by simp))
  simp [Instr.buildSlice, run_underlying hT.under, Go.sizeOf, typeInfo, hi, hsz, newRow, Instr.fill, Array.range_zero']
end
theorem Blk.sl {w : World} {g : Nat} {t : TypeId} {cs : List Value} (h : Blk w g t cs) {n c size : Nat} (hn : n * size = cs.length) (hc : n ≤ c) : Sl w (.slice (some ⟨g, 0, none⟩) n c) n size cs :=
  ⟨some ⟨g, 0, none⟩, c, rfl, hn.symm, hc, (fun h => by cases h), (fun ad had => by cases had; exact At.of_blk h)⟩
theorem Blk.owns {w : World} {g : Nat} {t : TypeId} {cs : List Value} (h : Blk w g t cs) {n size base : Nat} (hn : n * size = cs.length) (hb : base ≤ g) (hm : n ≤ 140737488355328) : w.ownsRow base t size (.slice (some ⟨g, 0, none⟩) n n) n cs :=
  ⟨hn.symm, .inr ⟨g, n, cs.toArray, rfl, hb, h, Nat.le_refl _, by unfold maxLen; omega, by simp [hn], by simp [hn]⟩⟩
theorem owns_ext {S : Nat → Prop} {w w' : World} {base : Nat} {e : TypeId} {size n : Nat} {v : Value} {xs : List Value} (h : w.ownsRow base e size v n xs) (k : Ext S w w') (hn : ∀ g, v.ownBlock = some g → ¬ S g) : w'.ownsRow base e size v n xs := by
  refine ⟨h.1, ?_⟩
  rcases h.2 with h0 | ⟨g, cap, cur, rfl, hb, hg, rest⟩
  · exact .inl h0
  · exact .inr ⟨g, cap, cur, rfl, hb, (k.blk g (Array.getElem?_eq_some_iff.1 hg).1 (hn g rfl)).trans hg, rest⟩
theorem owns_base {w : World} {base base' : Nat} {e : TypeId} {size n : Nat} {v : Value} {xs : List Value} (h : w.ownsRow base e size v n xs) (hb : ∀ g, v.ownBlock = some g → base' ≤ g) : w.ownsRow base' e size v n xs := by
  refine ⟨h.1, ?_⟩
  rcases h.2 with h0 | ⟨g, cap, cur, rfl, _, hg, rest⟩
  · exact .inl h0
  · exact .inr ⟨g, cap, cur, rfl, hb g rfl, hg, rest⟩

/-! ### bytes -/
def byteCells (l : List UInt8) : List Value := l.map fun b => .int .u8 (b.toNat : Int)
theorem byteCells_append (l r : List UInt8) : byteCells (l ++ r) = byteCells l ++ byteCells r := by simp [byteCells]
theorem byteCells_length (l : List UInt8) : (byteCells l).length = l.length := by simp [byteCells]
theorem byteCells_one (l : List UInt8) : ∀ u ∈ byteCells l, u.oneCell' = true := by
  intro u hu
  simp only [byteCells, List.mem_map] at hu
  obtain ⟨b, _, rfl⟩ := hu
  rfl
theorem strCells_eq (s : ByteArray) : strCells s = byteCells s.data.toList := rfl
end SG
/-! Rules: made rows, comparisons with nil, bytes as a string. No program stands here. -/
namespace SG
open Go Go.RowKit Go.Lib
set_option linter.unusedSimpArgs false
set_option linter.unusedVariables false

section
variable {P : Program}
theorem makeB {t e : TypeId} {size bytes : Nat} {z : Value} (hT : ElemT P t e size bytes z) {kl kc : IntKind} {n : Nat} (hb : bytes * n ≤ 281474976710656) (hn : n ≤ 281474976710656) {w : World} {K : Value → World → Prop}
    (hK : ∀ w', Blk w' w.heap.size e (madeCells z.cells (n * size)).toList → Ext No w w' → w'.heap.size = w.heap.size + 1 → K (.slice (some ⟨w.heap.size, 0, none⟩) n n) w') :
    RunS P (Instr.makeSlice t (.int kl (n : Int)) (.int kc (n : Int))) K w := by
  obtain ⟨i, hi, hz, hsz, hby⟩ := info_parts hT.info
  have hb' : (i.bytes : Int) * (n : Int) ≤ 281474976710656 := by
    rw [hby]
    have h : ((bytes * n : Nat) : Int) ≤ 281474976710656 := by omega
    rwa [Int.natCast_mul] at h
  have hr := run_make (P := P) w t e i z hT.under hi hz kl kc n n (by omega) (Int.le_refl _) hb' (by omega)
  simp only [Int.toNat_natCast, hsz] at hr
  refine runS hr (hK _ ?_ (Ext.alloc w _) (by simp))
  have := Blk.new w (madeCells z.cells (n * size)).toList e
  simpa using this
theorem madeCells_one (z : Value) (n : Nat) : (madeCells #[z] n).toList = List.replicate n z := toList_madeCells_one z n

theorem eq_nil_slice {t e : TypeId} (h : P.underlying t = some (.slice e)) {x y : Operand} {a : Option Addr} {n c : Nat} {w : World} {K : Value → World → Prop} (hK : K (.bool a.isNone) w) :
    RunS P (do eqGuard .eql t x y (.slice a n c) (.slice none 0 0); binOp .eql t (.slice a n c) (.slice none 0 0)) K w := by
  refine runS (v := .bool a.isNone) (w' := w) ?_ hK
  rw [eqGuard_at_slice]
  have hin : ∀ d, (Op.equalIn (d + 1) t (.slice a n c) (.slice none 0 0)).run P w = .ok a.isNone w := fun d => by
    cases a <;> simp [Op.equalIn, run_underlying h]
  have : (Op.equal t (.slice a n c) (.slice none 0 0)).run P w = .ok a.isNone w := hin 9999
  simp [binOp, this]
theorem ne_nil_slice {t e : TypeId} (h : P.underlying t = some (.slice e)) {x y : Operand} {a : Option Addr} {n c : Nat} {w : World} {K : Value → World → Prop} (hK : K (.bool (!a.isNone)) w) :
    RunS P (do eqGuard .neq t x y (.slice a n c) (.slice none 0 0); binOp .neq t (.slice a n c) (.slice none 0 0)) K w := by
  refine runS (v := .bool (!a.isNone)) (w' := w) ?_ hK
  rw [eqGuard_at_slice]
  have hin : ∀ d, (Op.equalIn (d + 1) t (.slice a n c) (.slice none 0 0)).run P w = .ok a.isNone w := fun d => by
    cases a <;> simp [Op.equalIn, run_underlying h]
  have : (Op.equal t (.slice a n c) (.slice none 0 0)).run P w = .ok a.isNone w := hin 9999
  simp [binOp, this]
theorem run_ptr_nil {t e : TypeId} (h : P.underlying t = some (.pointer e)) (a : Option Addr) (w : World) : (Op.equal t (.pointer a) (.pointer none)).run P w = .ok a.isNone w := by
  have hin : ∀ d, (Op.equalIn (d + 1) t (.pointer a) (.pointer none)).run P w = .ok a.isNone w := fun d => by
    cases a <;> simp [Op.equalIn, run_underlying h]
  exact hin 9999
theorem eq_nil_ptr {t e : TypeId} (h : P.underlying t = some (.pointer e)) {x y : Operand} {a : Option Addr} {w : World} {K : Value → World → Prop} (hK : K (.bool a.isNone) w) :
    RunS P (do eqGuard .eql t x y (.pointer a) (.pointer none); binOp .eql t (.pointer a) (.pointer none)) K w := by
  refine runS (v := .bool a.isNone) (w' := w) ?_ hK
  rw [eqGuard_at_pointer]
  simp [binOp, run_ptr_nil h]
theorem ne_nil_ptr {t e : TypeId} (h : P.underlying t = some (.pointer e)) {x y : Operand} {a : Option Addr} {w : World} {K : Value → World → Prop} (hK : K (.bool (!a.isNone)) w) :
    RunS P (do eqGuard .neq t x y (.pointer a) (.pointer none); binOp .neq t (.pointer a) (.pointer none)) K w := by
  refine runS (v := .bool (!a.isNone)) (w' := w) ?_ hK
  rw [eqGuard_at_pointer]
  simp [binOp, run_ptr_nil h]

theorem bytes_str {src dst e : TypeId} (hs : P.underlying src = some (.slice e)) (hd : P.underlying dst = some .string) (he : P.underlying e = some (.int .u8)) {w : World} {x : Value} {l : List UInt8}
    (hx : Sl w x l.length 1 (byteCells l)) : (convert src dst x).run P w = .ok (.string ⟨l.toArray⟩) w := by
  obtain ⟨A, c, rfl, hl, hc, h0, hA⟩ := hx
  have hcv : (convert src dst (.slice A l.length c)).run P w = (Conv.bytesToString (.slice A l.length c)).run P w := by
    simp [convert, run_underlying hs, run_underlying hd, run_underlying he]
  rw [hcv]
  cases A with
  | none =>
    have : l = [] := List.eq_nil_of_length_eq_zero (h0 rfl)
    subst this
    simp [Conv.bytesToString]
    rfl
  | some ad =>
    rw [← hcv]
    exact run_convert_bytes_back w src dst e ad c l hs he hd fun j hj => hA ad rfl j _ (by simp [byteCells, List.getElem?_eq_getElem hj])
end
end SG
/-! Rules: slices cut, panics. No program stands here. -/
namespace SG
open Go Go.RowKit Go.Lib
set_option linter.unusedSimpArgs false
set_option linter.unusedVariables false

theorem sl_drop {w : World} {x : Value} {n size : Nat} {xs : List Value} (h : Sl w x n size xs) {k : Nat} (hk : k ≤ n) (kd : IntKind) :
    ∃ x', sliceV size x (some (.int kd (k : Int))) none = some x' ∧ Sl w x' (n - k) size (xs.drop (k * size)) ∧ ∀ b, x'.ownBlock = some b → x.ownBlock = some b := by
  obtain ⟨A, c, rfl, hl, hc, h0, hA⟩ := h
  have h1 : (0 : Int) ≤ (k : Int) ∧ (k : Int) ≤ (n : Int) := by omega
  refine ⟨.slice (if c = k then A else A.map (·.add (k * size))) (n - k) (c - k), by simp only [sliceV, boundV, Option.bind_some]; rw [if_pos h1]; simp, ?_, ?_⟩
  · refine ⟨_, c - k, rfl, ?_, by omega, fun hn => ?_, fun ad had => ?_⟩
    · rw [List.length_drop, hl, Nat.sub_mul]
    · split at hn
      · have := h0 hn; omega
      · cases A with
        | none => have := h0 rfl; omega
        | some a => simp at hn
    · split at had
      · have hd : xs.drop (k * size) = [] := List.drop_eq_nil_of_le (by rw [hl]; exact Nat.mul_le_mul_right _ (by omega))
        rw [hd]
        exact fun i v hv => by simp at hv
      · cases A with
        | none => simp at had
        | some a =>
          simp only [Option.map_some, Option.some.injEq] at had
          subst had
          exact (hA a rfl).drop _
  · intro b hb
    split at hb
    · cases A <;> exact hb
    · cases A with
      | none => simp [Value.ownBlock] at hb
      | some a => simpa [Value.ownBlock, Addr.add_block] using hb
theorem sl_take {w : World} {x : Value} {n size : Nat} {xs : List Value} (h : Sl w x n size xs) {k : Nat} (hk : k ≤ n) (kd : IntKind) :
    ∃ x', sliceV size x none (some (.int kd (k : Int))) = some x' ∧ Sl w x' k size (xs.take (k * size)) ∧ ∀ b, x'.ownBlock = some b → x.ownBlock = some b := by
  obtain ⟨A, c, rfl, hl, hc, h0, hA⟩ := h
  have h1 : (0 : Int) ≤ (k : Int) ∧ (k : Int) ≤ (c : Int) := by omega
  refine ⟨.slice (if c = 0 then A else A.map (·.add (0 * size))) (k - 0) (c - 0), by simp only [sliceV, boundV]; rw [if_pos h1]; simp [boundV], ?_, ?_⟩
  · refine ⟨(if c = 0 then A else A.map (·.add (0 * size))), c, rfl, ?_, by omega, fun hn => ?_, fun ad had => ?_⟩
    · rw [List.length_take, hl]
      exact Nat.min_eq_left (Nat.mul_le_mul_right _ hk)
    · split at hn
      · have := h0 hn; omega
      · cases A with
        | none => have := h0 rfl; omega
        | some a => simp at hn
    · have hat : ∀ a, A = some a → At w a (xs.take (k * size)) := fun a ha => (hA a ha).take _
      split at had
      · exact hat ad had
      · cases A with
        | none => simp at had
        | some a =>
          simp only [Option.map_some, Option.some.injEq, Nat.zero_mul, Addr.add_zero'] at had
          subst had
          exact hat a rfl
  · intro b hb
    split at hb
    · cases A <;> exact hb
    · cases A with
      | none => simp [Value.ownBlock] at hb
      | some a => simpa [Value.ownBlock, Addr.add_block] using hb
theorem callP_of {P : Program} {f : FuncId} {args : Array Value} {K : Value → World → Prop} {Kp : List PanicEntry → World → Prop} {w : World} (h : CallS P f args K w) : CallP P f args K Kp w :=
  Calls.mono h fun e w' he => by cases e <;> first | exact he | exact he.elim
def panE (t : TypeId) (v : Value) : List PanicEntry := [{ v := .iface t v, recovered := false }]
theorem panicI {P : Program} {t : TypeId} {v : Value} {Kp : List PanicEntry → World → Prop} {w : World} (h : Kp (panE t v) w) : PanicS P (.iface t v) Kp w := by
  unfold PanicS
  have : (Instr.panic (.iface t v)).run P w = .halt (.panic (.iface t v)) w := rfl
  rw [this]; exact h
end SG
/-! Rules: cells laid over a part of a block, clear. No program stands here. -/
namespace SG
open Go Go.RowKit Go.Lib
set_option linter.unusedSimpArgs false
set_option linter.unusedVariables false

theorem setRow_blk {w : World} {g : Nat} {t : TypeId} {cs : List Value} (h : Blk w g t cs) (cs' : List Value) : Blk (w.setRow g cs'.toArray) g t cs' ∧ Ext (At1 g) w (w.setRow g cs'.toArray) ∧ (w.setRow g cs'.toArray).heap.size = w.heap.size :=
  ⟨setRow_heap w g _ _ t (0, 0) h, ⟨rfl, rfl, rfl, by simp, fun b _ hn => setRow_other w g b _ fun e => hn (by rw [e]; rfl)⟩, by simp⟩
/-- cells laid over a part of a block -/
theorem store_cells {P : Program} {w : World} {g o : Nat} {t : TypeId} {cs vs : List Value} (h : Blk w g t cs) (hl : o + vs.length ≤ cs.length) (h1 : ∀ v ∈ vs, v.oneCell' = true) :
    ∃ w', (storeCells ⟨g, o, none⟩ vs).run P w = .ok () w' ∧ Blk w' g t (cs.take o ++ vs ++ cs.drop (o + vs.length)) ∧ Ext (At1 g) w w' ∧ w'.heap.size = w.heap.size := by
  have hr := run_storeCells_at P g o t vs 0 cs.toArray w h (by simpa using hl) h1
  simp only [Nat.add_zero] at hr
  obtain ⟨a, b, c⟩ := setRow_blk h (cs.take o ++ vs ++ cs.drop (o + vs.length))
  exact ⟨_, hr, a, b, c⟩
theorem zeroCells_one (z : Value) (n : Nat) : (Builtin.zeroCells #[z] n).toList = List.replicate n z := by
  rw [List.eq_replicate_iff]
  refine ⟨by simp [Builtin.zeroCells], fun v hv => ?_⟩
  simp only [Builtin.zeroCells, Array.toList_map, List.mem_map] at hv
  obtain ⟨i, _, rfl⟩ := hv
  simp [Nat.mod_one]
theorem clearB {P : Program} {t e : TypeId} {bytes : Nat} {z : Value} (hT : ElemT P t e 1 bytes z) (hz1 : z.oneCell' = true) (hzc : z.cells = #[z]) {w : World} {g o n c : Nat} {tt : TypeId} {cs : List Value} (h : Blk w g tt cs) (hl : o + n ≤ cs.length) {ty : TypeId} {K : Value → World → Prop}
    (hK : ∀ w', Blk w' g tt (cs.take o ++ List.replicate n z ++ cs.drop (o + n)) → Ext (At1 g) w w' → w'.heap.size = w.heap.size → K (.tuple #[]) w') : RunS P (Builtin.clear_ #[t] ty [.slice (some ⟨g, o, none⟩) n c].toArray) K w := by
  obtain ⟨i, hi, hz, hsz, hb⟩ := info_parts hT.info
  cases n with
  | zero =>
    refine runS (v := .tuple #[]) (w' := w) (by simp [Builtin.clear_, run_underlying hT.under]) (hK w (by simpa using h) (Ext.refl _ _) rfl)
  | succ n =>
    obtain ⟨w', hr, hb', he, hs⟩ := store_cells (P := P) (o := o) (vs := List.replicate (n + 1) z) h (by simpa using hl) (fun v hv => by rw [List.eq_of_mem_replicate hv]; exact hz1)
    refine runS (v := .tuple #[]) (w' := w') ?_ (hK w' (by simpa using hb') he hs)
    simp [Builtin.clear_, run_underlying hT.under, zeroValue, typeInfo, hi, hz, hzc, zeroCells_one, hr]
end SG
/-! Rules: a slice of one-cell elements, read. No program stands here. -/
namespace SG
open Go Go.RowKit Go.Lib
set_option linter.unusedSimpArgs false
set_option linter.unusedVariables false

theorem Sl.one {w : World} {x : Value} {m size : Nat} {xs : List Value} (h : Sl w x m size xs) : x.oneCell' = true := by obtain ⟨A, c, rfl, _⟩ := h; rfl
theorem sl_idx1 {w : World} {x : Value} {n : Nat} {xs : List Value} (h : Sl w x n 1 xs) {i : Nat} {v : Value} (hv : xs[i]? = some v) (k : IntKind) :
    ∃ ad, indexAddrV 1 x (.int k (i : Int)) = some (.pointer (some ad)) ∧ x.ownBlock = some ad.block ∧ ∀ w', Sl w' x n 1 xs → w'.cell? ad = some v := by
  have hi : i < n := by
    have := (List.getElem?_eq_some_iff.1 hv).1
    have := h.length
    omega
  obtain ⟨A, c, rfl, hl, hc, h0, hA⟩ := h
  cases A with
  | none => have := h0 rfl; omega
  | some a =>
    refine ⟨a.add (i * 1), ?_, by simp [Value.ownBlock, Addr.add_block], fun w' h' => ?_⟩
    · rw [index_sl ⟨by omega, by omega⟩]; simp
    · obtain ⟨A', c', he, _, _, _, hA'⟩ := h'
      cases he
      rw [Nat.mul_one]
      exact hA' a rfl i v hv
/-- a list that rises is known by what is in it -/
theorem rise_unique {l r : List Nat} (hl : l.Pairwise (· < ·)) (hr : r.Pairwise (· < ·)) (h : ∀ x, x ∈ l ↔ x ∈ r) : l = r := by
  have h1 : l.Nodup := hl.imp fun h => Nat.ne_of_lt h
  have h2 : r.Nodup := hr.imp fun h => Nat.ne_of_lt h
  exact List.Perm.eq_of_pairwise (le := fun a b => a < b) (fun a b _ _ h k => absurd h (Nat.lt_asymm k)) hl hr ((List.perm_ext_iff_of_nodup h1 h2).2 h)

theorem flat_set {α : Type} (f : α → List Value) {size : Nat} (hf : ∀ a, (f a).length = size) (l : List α) {i : Nat} (hi : i < l.length) (a : α) (rest : List Value) :
    (flat f l ++ rest).take (i * size) ++ f a ++ (flat f l ++ rest).drop (i * size + size) = flat f (l.set i a) ++ rest := by
  have hl := flat_length f hf l
  have h1 : i * size + size ≤ (flat f l).length := by rw [hl, ← Nat.succ_mul]; exact Nat.mul_le_mul_right _ hi
  rw [List.take_append_of_le_length (by omega), List.drop_append_of_le_length h1, flat_take f hf, show i * size + size = (i + 1) * size by rw [Nat.succ_mul], flat_drop f hf, List.set_eq_take_append_cons_drop, if_pos hi]
  rw [show l.take i ++ a :: l.drop (i + 1) = (l.take i ++ [a]) ++ l.drop (i + 1) by simp, flat_append, flat_append, flat_one]
  simp only [List.append_assoc]
/-- an element of a row of structs is written -/
theorem row_set {α : Type} {f : α → List Value} {size : Nat} (hf : ∀ a, (f a).length = size) {w : World} {g : Nat} {t : TypeId} {l : List α} {rest : List Value} (h : Blk w g t (flat f l ++ rest)) {i : Nat} (hi : i < l.length) {a : α} (hone : ∀ v ∈ f a, v.oneCell' = true) {K : World → Prop}
    (hK : ∀ w', Blk w' g t (flat f (l.set i a) ++ rest) → Ext (At1 g) w w' → w'.heap.size = w.heap.size → K w') : StoreA size (.pointer (some ⟨g, i * size, none⟩)) (.agg (f a).toArray) K w := by
  have hl := flat_length f hf l
  have h1 : i * size + size ≤ (flat f l).length := by rw [hl, ← Nat.succ_mul]; exact Nat.mul_le_mul_right _ hi
  refine storeA h (hf a) (by rw [List.length_append]; omega) hone fun w' b e z => hK w' ?_ e z
  rwa [flat_set f hf l hi a rest] at b
theorem idx_row {g n c i size : Nat} {k : IntKind} (hi : i < n) : indexAddrV size (.slice (some ⟨g, 0, none⟩) n c) (.int k (i : Int)) = some (.pointer (some ⟨g, i * size, none⟩)) := by
  rw [index_sl ⟨by omega, by omega⟩, Addr.add_mk]; simp
end SG
/-! Rules: what lies apart (parts of memory, each with the blocks that it has). No program stands here. -/
namespace SG
open Go Go.RowKit Go.Lib
set_option linter.unusedSimpArgs false
set_option linter.unusedVariables false

/-- a part of memory: what holds of a world, of the blocks F -/
abbrev Part := World → (Nat → Prop) → Prop
structure Stable (R : Part) : Prop where
  ext : ∀ {w w' : World} {S F : Nat → Prop}, R w F → Ext S w w' → (∀ b, F b → ¬ S b) → R w' F
  lt : ∀ {w : World} {F : Nat → Prop} {b : Nat}, R w F → F b → b < w.heap.size
theorem Stable.no {R : Part} (s : Stable R) {w w' : World} {F : Nat → Prop} (h : R w F) (e : Ext No w w') : R w' F := s.ext h e fun _ _ hh => hh
def Bk (g : Nat) (t : TypeId) (cs : List Value) : Part := fun w F => Blk w g t cs ∧ F = At1 g
theorem Bk.st (g : Nat) (t : TypeId) (cs : List Value) : Stable (Bk g t cs) :=
  ⟨fun {w w' S F} h e hn => ⟨h.1.ext e (hn g (by rw [h.2]; rfl)), h.2⟩, fun {w F b} h hb => by rw [h.2] at hb; rw [show b = g from hb]; exact h.1.lt⟩
def Emp : Part := fun _ F => ∀ b, ¬ F b
theorem Emp.st : Stable Emp := ⟨fun h _ _ => h, fun h hb => absurd hb (h _)⟩
/-- two parts that lie apart -/
def Star (A B : Part) : Part := fun w F => ∃ FA FB, A w FA ∧ B w FB ∧ (∀ b, FA b → ¬ FB b) ∧ ∀ b, F b ↔ FA b ∨ FB b
theorem Star.st {A B : Part} (sA : Stable A) (sB : Stable B) : Stable (Star A B) :=
  ⟨fun {w w' S F} h e hn => by
    obtain ⟨FA, FB, hA, hB, hd, hF⟩ := h
    exact ⟨FA, FB, sA.ext hA e fun b hb => hn b ((hF b).2 (.inl hb)), sB.ext hB e fun b hb => hn b ((hF b).2 (.inr hb)), hd, hF⟩,
  fun {w F b} h hb => by
    obtain ⟨FA, FB, hA, hB, hd, hF⟩ := h
    rcases (hF b).1 hb with h | h
    · exact sA.lt hA h
    · exact sB.lt hB h⟩
namespace Star
variable {A B : Part} {w w' : World} {F : Nat → Prop}
theorem comm (h : Star A B w F) : Star B A w F := by
  obtain ⟨FA, FB, hA, hB, hd, hF⟩ := h
  exact ⟨FB, FA, hB, hA, fun b hb hh => hd b hh hb, fun b => (hF b).trans or_comm⟩
/-- a step of the first part -/
theorem op {G : Prop} (h : Star A B w F) (sB : Stable B) (hop : ∀ FA, A w FA → (∀ b, FA b → F b) → (∀ (A' : Part) w' FA', A' w' FA' → Ext FA w w' → (∀ b, FA' b → FA b ∨ w.heap.size ≤ b) →
    ∃ F', Star A' B w' F' ∧ Ext F w w' ∧ (∀ b, F' b → F b ∨ w.heap.size ≤ b)) → G) : G := by
  obtain ⟨FA, FB, hA, hB, hd, hF⟩ := h
  refine hop FA hA (fun b hb => (hF b).2 (.inl hb)) fun A' w' FA' h1 e1 f1 => ⟨fun b => FA' b ∨ FB b, ⟨FA', FB, h1, sB.ext hB e1 fun b hb hh => hd b hh hb, fun b hb hh => ?_, fun _ => Iff.rfl⟩, e1.mono fun b hb _ => (hF b).2 (.inl hb), fun b hb => ?_⟩
  · rcases f1 b hb with h | h
    · exact hd b h hh
    · have := sB.lt hB hh; omega
  · rcases hb with hb | hb
    · exact (f1 b hb).imp (fun h => (hF b).2 (.inl h)) id
    · exact .inl ((hF b).2 (.inr hb))
/-- a step of the second part -/
theorem op2 {G : Prop} (h : Star A B w F) (sA : Stable A) (hop : ∀ FB, B w FB → (∀ b, FB b → F b) → (∀ (B' : Part) w' FB', B' w' FB' → Ext FB w w' → (∀ b, FB' b → FB b ∨ w.heap.size ≤ b) →
    ∃ F', Star A B' w' F' ∧ Ext F w w' ∧ (∀ b, F' b → F b ∨ w.heap.size ≤ b)) → G) : G :=
  h.comm.op sA fun FB hB hs back => hop FB hB hs fun B' w' FB' h1 e1 f1 => by
    obtain ⟨F', h2, e2, f2⟩ := back B' w' FB' h1 e1 f1
    exact ⟨F', h2.comm, e2, f2⟩
/-- a new part beside what is there -/
theorem new (h : B w F) (sB : Stable B) (e : Ext No w w') {FA : Nat → Prop} (hA : A w' FA) (hf : ∀ b, FA b → w.heap.size ≤ b) : Star A B w' (fun b => FA b ∨ F b) :=
  ⟨FA, F, hA, sB.no h e, fun b hb hh => by have := hf b hb; have := sB.lt h hh; omega, fun _ => Iff.rfl⟩
end Star

/-- a step: what it may change, and what it has thereafter -/
structure Stp (w : World) (F : Nat → Prop) (w' : World) (F' : Nat → Prop) : Prop where
  ext : Ext F w w'
  sub : ∀ b, F' b → F b ∨ w.heap.size ≤ b
namespace Stp
variable {w w' w'' : World} {F F' F'' : Nat → Prop}
theorem refl (w : World) (F : Nat → Prop) : Stp w F w F := ⟨Ext.refl _ _, fun _ h => .inl h⟩
theorem no (e : Ext No w w') : Stp w F w' F := ⟨e.no, fun _ h => .inl h⟩
theorem trans (h : Stp w F w' F') (k : Stp w' F' w'' F'') : Stp w F w'' F'' :=
  ⟨h.ext.trans' k.ext (fun _ h _ => h) fun b hb hlt => (h.sub b hb).resolve_right (by omega), fun b hb => by
    rcases k.sub b hb with h1 | h1
    · exact h.sub b h1
    · right; have := h.ext.size; omega⟩
theorem out (h : Stp w F w' F') {b : Nat} (hb : b < w.heap.size) (hn : ¬ F b) : ¬ F' b := fun hh => (h.sub b hh).elim hn fun h => by omega
theorem blk (h : Stp w F w' F') {g : Nat} {t : TypeId} {cs : List Value} (hb : Blk w g t cs) (hn : ¬ F g) : Blk w' g t cs := hb.ext h.ext hn
/-- new since w0, and stays so -/
theorem old {w0 : World} (h : Stp w F w' F') (e0 : Ext No w0 w) (h0 : ∀ b, F b → w0.heap.size ≤ b) : Ext No w0 w' ∧ ∀ b, F' b → w0.heap.size ≤ b :=
  ⟨e0.fresh h.ext fun b hb => .inr (h0 b hb), fun b hb => (h.sub b hb).elim (h0 b) fun h => by have := e0.size; omega⟩
theorem less {G : Nat → Prop} (h : Stp w F w' F') (hG : ∀ b, F b → G b) : Stp w G w' F' := ⟨h.ext.mono fun b hb _ => hG b hb, fun b hb => (h.sub b hb).imp (hG b) id⟩
end Stp
namespace Star
variable {A B A' B' : Part} {w w' : World} {F FA FB FA' FB' : Nat → Prop}
theorem step1 (sB : Stable B) (hB : B w FB) (hd : ∀ b, FA b → ¬ FB b) (hF : ∀ b, F b ↔ FA b ∨ FB b) (hA' : A' w' FA') (k : Stp w FA w' FA') : Star A' B w' (fun b => FA' b ∨ FB b) ∧ Stp w F w' (fun b => FA' b ∨ FB b) :=
  ⟨⟨FA', FB, hA', sB.ext hB k.ext fun b hb hh => hd b hh hb, fun b hb hh => (k.sub b hb).elim (fun h => hd b h hh) fun h => by have := sB.lt hB hh; omega, fun _ => Iff.rfl⟩,
    k.ext.mono fun b hb _ => (hF b).2 (.inl hb), fun b hb => hb.elim (fun h => (k.sub b h).imp (fun h => (hF b).2 (.inl h)) id) fun h => .inl ((hF b).2 (.inr h))⟩
theorem step2 (sA : Stable A) (hA : A w FA) (hd : ∀ b, FA b → ¬ FB b) (hF : ∀ b, F b ↔ FA b ∨ FB b) (hB' : B' w' FB') (k : Stp w FB w' FB') : Star A B' w' (fun b => FA b ∨ FB' b) ∧ Stp w F w' (fun b => FA b ∨ FB' b) := by
  obtain ⟨h1, h2⟩ := step1 (F := F) sA hA (fun b hb hh => hd b hh hb) (fun b => (hF b).trans or_comm) hB' k
  exact ⟨by obtain ⟨a, b, c, d, e, f⟩ := h1; exact ⟨b, a, d, c, fun x hx hh => e x hh hx, fun x => or_comm.trans ((f x).trans or_comm)⟩, h2.ext, fun b hb => h2.sub b hb.symm⟩
end Star
/-- a slice cut on both sides -/
theorem sl_mid {w : World} {x : Value} {n size : Nat} {xs : List Value} (h : Sl w x n size xs) {i j : Nat} (hij : i ≤ j) (hj : j ≤ n) (k1 k2 : IntKind) :
    ∃ x', sliceV size x (some (.int k1 (i : Int))) (some (.int k2 (j : Int))) = some x' ∧ Sl w x' (j - i) size ((xs.drop (i * size)).take ((j - i) * size)) ∧ ∀ b, x'.ownBlock = some b → x.ownBlock = some b := by
  obtain ⟨A, c, rfl, hl, hc, h0, hA⟩ := h
  have h1 : (0 : Int) ≤ (j : Int) ∧ (j : Int) ≤ (c : Int) := by omega
  have h2 : (0 : Int) ≤ (i : Int) ∧ (i : Int) ≤ (j : Int) := by omega
  refine ⟨.slice (if c = i then A else A.map (·.add (i * size))) (j - i) (c - i), ?_, ?_, ?_⟩
  · simp only [sliceV, boundV]
    rw [if_pos h1]
    simp only [Option.bind_some, Int.toNat_natCast]
    rw [if_pos h2]
    simp
  · refine ⟨_, c - i, rfl, ?_, by omega, fun hn => ?_, fun ad had => ?_⟩
    · rw [List.length_take, List.length_drop, hl]
      have : (j - i) * size ≤ n * size - i * size := by rw [← Nat.sub_mul]; exact Nat.mul_le_mul_right _ (by omega)
      omega
    · split at hn
      · have := h0 hn; omega
      · cases A with
        | none => have := h0 rfl; omega
        | some a => simp at hn
    · split at had
      · have : j - i = 0 := by omega
        rw [this, Nat.zero_mul, List.take_zero]
        exact fun i v hv => by simp at hv
      · cases A with
        | none => simp at had
        | some a =>
          simp only [Option.map_some, Option.some.injEq] at had
          subst had
          exact ((hA a rfl).drop _).take _
  · intro b hb
    split at hb
    · cases A <;> exact hb
    · cases A with
      | none => simp [Value.ownBlock] at hb
      | some a => simpa [Value.ownBlock, Addr.add_block] using hb
end SG
/-! The generic layer, seventh part: a function that puts off one call at its start; a put-off function that recovers. -/
namespace SG
open Go
set_option linter.unusedSimpArgs false
set_option linter.unusedVariables false

def DeferS (P : Program) (g : FuncId) (caps : List Value) (Kres : World → Prop) (X : (World → Prop) → (List PanicEntry → World → Prop) → Prop) : Prop :=
  ∃ (Kr : World → Prop) (Kp : List PanicEntry → World → Prop),
    (∀ w, Kr w → CallsD P g caps.toArray .returning w fun e u' w' => (∃ v, e = .returned v) ∧ u' = .returning ∧ Kres w') ∧
    (∀ ch w, Kp ch w → CallsD P g caps.toArray (.panicking ch) w fun e u' w' => (∃ v, e = .returned v) ∧ settle u' = .returning ∧ Kres w') ∧ X Kr Kp
def Fr.only (fl : List Nat) (F : Fr) : Fr := fun t => cond (fl.contains t) (F t) none
def calleeIs (c : Callee) (d : Nat) : Bool := match c with | .value (.tmp t) => Nat.beq t d | _ => false
def defShape (P : Program) (o1 o2 : Oper) : Option (FuncId × List Operand × Nat) :=
  match o1.op with
  | .makeFunc (.func g) xs ys => (match o1.dst with
    | some d => (match o2.op with
      | .defer c => cond (xs.toList.isEmpty && c.args.toList.isEmpty && calleeIs c.callee d && okFunc P g && o1.guard.isNone && o2.guard.isNone && o2.dst.isNone) (some (g, ys.toList, d)) none
      | _ => none)
    | none => none)
  | _ => none
def denD (P : Program) (fl : List Nat) (rs : List ResultVar) (ops : List Oper) (c2 : Code) (a2 : Ann) (K : Value → World → Prop) (F : Fr) (w : World) : Prop :=
  match ops with
  | [o1, o2] => (match defShape P o1 o2 with
    | some (g, ys, d) => evs F ys fun caps => DeferS P g caps (fun w' => resV P rs (F.only fl) w' fun v => K v w') fun Kr Kp =>
        den P true Kp c2 a2 (fun e _ w' => match e with | .normal => Kr w' | .ret => Kr w' | _ => False) (F.upd d (.func (.func g) #[] caps.toArray)) w
    | none => False)
  | _ => False
def denFnD (P : Program) (c : Code) (rs : Array ResultVar) (fl : List Nat) (ann : Ann) (args : List Value) (K : Value → World → Prop) (w : World) : Prop :=
  match c with
  | .seq c0 (.seq (.region _ ops false) c2) => match ann with
    | .q a0 (.q _ a2) => den P false NoP c0 a0 (fun e F w' => match e with | .normal => denD P fl rs.toList ops.toList c2 a2 K F w' | _ => False) (argF args 0) w
    | _ => False
  | _ => False
def okD (n : Nat) (fl : List Nat) (c : Code) (ann : Ann) : Bool :=
  match c with
  | .seq c0 (.seq (.region _ ops false) c2) => match ann with
    | .q a0 (.q _ a2) => annOk c0 a0 && annOk c2 a2 && dstsOk n c0 && dstsOk n c2 && (dsts c2).all (fun d => !fl.contains d) &&
        ops.toList.all (fun o => match o.dst with | some d => Nat.blt d n && !fl.contains d | none => true)
    | _ => false
  | _ => false

section
variable {P : Program}
theorem callFunc_ok {f : FuncId} (h : okFunc P f = true) (vs : Array Value) (w : World) : (callFunc f vs).run P w = .ok (.enter f vs) w := by
  unfold okFunc at h
  split at h
  · rename_i fn hf
    simp only [Bool.and_eq_true, Bool.not_eq_true'] at h
    obtain ⟨h1, h2⟩ := h
    obtain ⟨c, hb⟩ := Option.isSome_iff_exists.1 h1
    simp only [callFunc, Sem.run_bind, run_program, Result.andThen_ok, hf, h2, hb, Bool.false_eq_true, if_false, Sem.run_pure]
    simp
  · cases h
theorem only_some {fl : List Nat} {F : Fr} {t : Nat} {v : Value} (h : F.only fl t = some v) : fl.contains t = true ∧ F t = some v := by
  unfold Fr.only at h
  cases hb : fl.contains t with
  | true => rw [hb] at h; exact ⟨rfl, h⟩
  | false => rw [hb] at h; cases h
theorem list_isEmpty {α : Type} {xs : Array α} (h : xs.toList.isEmpty = true) : xs = #[] := by
  obtain ⟨l⟩ := xs
  have : l = [] := by simpa using h
  rw [this]

theorem defShape_some {o1 o2 : Oper} {g : FuncId} {ys : List Operand} {d : Nat} (h : defShape P o1 o2 = some (g, ys, d)) :
    ∃ ya cc, o1.op = .makeFunc (.func g) #[] ya ∧ ya.toList = ys ∧ o1.dst = some d ∧ o1.guard = none ∧ o2.op = .defer cc ∧ o2.dst = none ∧ o2.guard = none ∧ cc.args = #[] ∧ cc.callee = .value (.tmp d) ∧ okFunc P g = true := by
  unfold defShape at h
  split at h
  · rename_i g' xs ya he1
    split at h
    · rename_i d' he2
      split at h
      · rename_i cc he4
        cases hb : (xs.toList.isEmpty && cc.args.toList.isEmpty && calleeIs cc.callee d' && okFunc P g' && o1.guard.isNone && o2.guard.isNone && o2.dst.isNone) with
        | false => rw [hb] at h; cases h
        | true =>
          rw [hb] at h
          simp only [cond_true, Option.some.injEq, Prod.mk.injEq] at h
          obtain ⟨rfl, rfl, rfl⟩ := h
          simp only [Bool.and_eq_true] at hb
          obtain ⟨⟨⟨⟨⟨⟨hx, ha⟩, hc⟩, hg⟩, h1⟩, h2⟩, h3⟩ := hb
          have hx0 := list_isEmpty hx
          subst hx0
          have hcal : cc.callee = .value (.tmp d') := by
            unfold calleeIs at hc
            split at hc
            · rename_i t heq
              rw [heq, Nat.eq_of_beq_eq_true hc]
            · cases hc
          exact ⟨ya, cc, he1, rfl, he2, by simpa using h1, he4, by simpa using h3, by simpa using h2, list_isEmpty ha, hcal, hg⟩
      · cases h
    · cases h
  · cases h

theorem fn_defer (hm : P.follows .mixedOrders = true) {f : FuncId} {fn : Func} {c : Code} (hf : P.funcs[f]? = some fn) (hb : fn.body = some c) {ann : Ann} {args : List Value} {rs : Array ResultVar} (hrs : fn.results = rs) {m : Nat} {fl : List Nat}
    (hn : fn.ntmps = args.length + m) (hok : okD (args.length + m) fl c ann = true) {K : Value → World → Prop} {w : World} (h : denFnD P c rs fl ann args K w) : CallS P f args.toArray K w := by
  unfold denFnD at h
  split at h
  rotate_left
  · exact h.elim
  rename_i c0 id ops c2
  cases ann <;> try exact h.elim
  rename_i a0 ann'
  cases ann' <;> try exact h.elim
  rename_i a1 a2
  simp only [okD, Bool.and_eq_true] at hok
  obtain ⟨⟨⟨⟨⟨hk0, hk2⟩, hd0⟩, hd2⟩, hfl⟩, hops⟩ := hok
  refine calls_of_wp_defers hf hb ?_
  have hsz : fn.ntmps - args.toArray.size = m := by simp [hn]
  rw [hsz]
  refine wp_seq (wp_mono (den_sound (n := ⟨args.length + m, [], fun _ => none⟩) hm c0 a0 _ _ _ w hk0 (dstsOk_mem hd0) (argF_agree args m) h) fun e a' w' he => ?_)
  cases e with
  | exit id => obtain ⟨F, _, _, hQ⟩ := he; exact hQ.elim
  | goto l => obtain ⟨F, _, _, hQ⟩ := he; exact hQ.elim
  | ret => obtain ⟨F, _, _, hQ⟩ := he; exact hQ.elim
  | panic ch => exact he.2.elim
  | outgrown => exact he.elim
  | normal =>
    obtain ⟨F, ha, _, hD⟩ := he
    rcases hol : ops.toList with _ | ⟨o1, _ | ⟨o2, _ | ⟨o3, r⟩⟩⟩
    · rw [hol] at hD; exact hD.elim
    · rw [hol] at hD; exact hD.elim
    rotate_left
    · rw [hol] at hD; exact hD.elim
    rw [hol] at hD
    unfold denD at hD
    simp only at hD
    cases hsh : defShape P o1 o2 with
    | none => rw [hsh] at hD; exact hD.elim
    | some gyd =>
    obtain ⟨g, yl, d⟩ := gyd
    rw [hsh] at hD
    simp only at hD
    obtain ⟨ys, cc, he1, rfl, he2, he3, he4, he5, he6, hc0, hcallee, hokg⟩ := defShape_some hsh
    have hD' := evs_some (ρ := a'.eval) ha.hρ _ _ hD
    obtain ⟨caps, hcaps⟩ : ∃ caps, ys.toList.map a'.eval = caps := ⟨_, rfl⟩
    rw [hcaps] at hD'
    obtain ⟨Kr, Kp, hret, hpan, hrest⟩ := hD'
    rw [hol] at hops
    simp only [List.all_cons, List.all_nil, Bool.and_true, Bool.and_eq_true, he2] at hops
    obtain ⟨⟨hdn, hdfl⟩, _⟩ := hops
    have hdlt : d < args.length + m := Nat.le_of_ble_eq_true hdn
    have ha1 : Agree ⟨args.length + m, [], fun _ => none⟩ (F.put (some d) (.func (.func g) #[] caps.toArray)) (a'.put (some d) (.func (.func g) #[] caps.toArray)) := ha.put (fun t ht => by cases ht; exact ⟨hdlt, rfl⟩) _
    refine wp_seq (wp_region_list ?_)
    rw [hol]
    have hw1 : Region.wanted o1 (yielded ops a'.tmps) = true := by simp [Region.wanted, he3]
    unfold wpList
    rw [if_pos hw1]
    refine .inl ?_
    unfold Oper.wp
    have hex1 : (execOp a'.eval o1).run P w' = .ok (.value (.func (.func g) #[] caps.toArray)) w' := by
      simp [execOp, he1, Instr.makeFunc, map_arr, hcaps]
    rw [hex1]
    show wpList P ops _ [o2] (a'.put o1.dst _) w'
    rw [he2]
    unfold wpList
    have hw2 : Region.wanted o2 (yielded ops (a'.put (some d) (.func (.func g) #[] caps.toArray)).tmps) = true := by simp [Region.wanted, he6]
    rw [if_pos hw2]
    refine .inl ?_
    unfold Oper.wp
    have hgd : (a'.put (some d) (.func (.func g) #[] caps.toArray)).tmps.getD d undef = .func (.func g) #[] caps.toArray := ha1.vals d _ (by simp [Fr.put, Fr.upd_same])
    have hex2 : (execOp (a'.put (some d) (.func (.func g) #[] caps.toArray)).eval o2).run P w' = .ok (.defer { target := .fn (.func g) caps.toArray, args := #[] }) w' := by
      obtain ⟨callee, cargs, ctys⟩ := cc
      simp only at hcallee hc0
      subst hcallee hc0
      simp only [execOp, he4, resolve, Sem.run_bind, Act.eval, hgd, Deferred.ofValue, Sem.run_pure, Result.andThen_ok, Array.map_empty, Array.append_empty]
    rw [hex2]
    rw [Oper.upon_defer, he5]
    unfold wpList
    simp only [Act.put]
    have hdef : a'.defers = [] := ha.st.defers
    -- the rest
    have ha2 : Agree ⟨args.length + m, [{ target := .fn (.func g) caps.toArray, args := #[] }], F.only fl⟩ (F.upd d (.func (.func g) #[] caps.toArray))
        { tmps := a'.tmps.setIfInBounds d (.func (.func g) #[] caps.toArray), defers := { target := .fn (.func g) caps.toArray, args := #[] } :: a'.defers } := by
      refine ⟨⟨ha1.st.size, by simp [hdef], fun t v hv => ?_⟩, fun t v hv => ha1.vals t v hv⟩
      obtain ⟨hc, hF⟩ := only_some hv
      have hne : t ≠ d := fun e => by rw [e] at hc; rw [hc] at hdfl; simp at hdfl
      exact ha1.vals t v (by simp [Fr.put, Fr.upd_ne _ _ hne, hF])
    have hd2' : ∀ t ∈ dsts c2, (⟨args.length + m, [{ target := .fn (.func g) caps.toArray, args := #[] }], F.only fl⟩ : Stat).wr t := fun t ht => by
      refine ⟨(dstsOk_mem hd2 t ht).1, ?_⟩
      have := List.all_eq_true.1 hfl t ht
      have hb : fl.contains t = false := by simpa using this
      show F.only fl t = none
      unfold Fr.only
      rw [hb]; rfl
    refine wp_mono (den_sound hm c2 a2 _ _ _ w' hk2 hd2' ha2 hrest) fun e a3 w3 he => ?_
    have hfin : ∀ (u : FrameMode) w'', Stands ⟨args.length + m, [{ target := .fn (.func g) caps.toArray, args := #[] }], F.only fl⟩ a3 → u ≠ .run →
        CallsD P g caps.toArray u w'' (fun e u' w' => (∃ v, e = .returned v) ∧ settle u' = .returning ∧ resV P rs.toList (F.only fl) w' fun v => K v w') →
        Leaves P fn a3.tmps (fun e w' => match e with | .returned v => K v w' | _ => False) a3.defers u w'' := fun u w'' hst hu hcd => by
      rw [hst.defers]
      refine leaves_cons hu (f := g) (args := caps.toArray) ?_ (hcd.mono fun e u' w4 ⟨⟨v, hv⟩, hs, hr⟩ => ?_)
      · simp only [invoke]
        rw [show (#[] : Array Value) ++ caps.toArray = caps.toArray by simp]
        exact callFunc_ok hokg _ _
      · subst hv
        show Leaves P fn a3.tmps _ [] (settle u') w4
        rw [hs]
        have hag : Agree ⟨args.length + m, [{ target := .fn (.func g) caps.toArray, args := #[] }], F.only fl⟩ (F.only fl) a3 := ⟨hst, fun t v hv => hst.fix t v hv⟩
        obtain ⟨v', hv', hK'⟩ := resV_run (P := P) hag w4 fn hrs hr
        exact ⟨v', hv', hK'⟩
    cases e with
    | exit id => obtain ⟨F, _, _, hQ⟩ := he; exact hQ.elim
    | goto l => obtain ⟨F, _, _, hQ⟩ := he; exact hQ.elim
    | outgrown => exact he.elim
    | normal =>
      obtain ⟨F3, ha3, _, hQ⟩ := he
      exact hfin .returning w3 ha3.st (by simp) ((hret w3 hQ).mono fun e u' w4 ⟨h1, h2, h3⟩ => ⟨h1, by rw [h2]; rfl, h3⟩)
    | ret =>
      obtain ⟨F3, ha3, _, hQ⟩ := he
      exact hfin .returning w3 ha3.st (by simp) ((hret w3 hQ).mono fun e u' w4 ⟨h1, h2, h3⟩ => ⟨h1, by rw [h2]; rfl, h3⟩)
    | panic ch => exact hfin (.panicking ch) w3 he.1 (by simp) (hpan ch w3 he.2)

/-! ### a put-off function that asks for the panic -/
def recV (u : FrameMode) : Value × FrameMode := match u with
  | .panicking ({ v, recovered := false, goexit := false } :: older) => (v, .panicking ({ v, recovered := true } :: older))
  | u => (.nilIface, u)
def isRecover (o : Op) : Bool := match o with | .call c => (match c.callee with | .builtin .recover => true | _ => false) | _ => false
def assigns (o : Op) (d : Nat) : Bool := match o with | .assign (.tmp t) => Nat.beq t d | _ => false
def denFnR (P : Program) (c : Code) (ann : Ann) (args : List Value) (x : Value) (K : World → Prop) (w : World) : Prop :=
  match c with
  | .seq (.region _ ops false) c1 => match ann with
    | .q _ a1 => (match ops.toList with
      | [o1, o2] => (match o1.dst, o1.guard, o2.dst, o2.guard with
        | some d1, none, some d2, none => cond (isRecover o1.op && assigns o2.op d1)
            (den P true NoP c1 a1 (fun e _ w' => match e with | .normal => K w' | .ret => K w' | _ => False) (((argF args 0).upd d1 x).upd d2 x) w) False
        | _, _, _, _ => False)
      | _ => False)
    | _ => False
  | _ => False
def okR (n : Nat) (c : Code) (ann : Ann) : Bool :=
  match c with
  | .seq (.region _ ops false) c1 => match ann with
    | .q _ a1 => annOk c1 a1 && dstsOk n c1 && ops.toList.all (fun o => match o.dst with | some d => Nat.blt d n | none => true)
    | _ => false
  | _ => false
theorem recoverD_mode {c₀ : Frame} {cs : List Frame} {u : FrameMode} (hu : c₀.mode = u) :
    (recoverD (c₀ :: cs) = some ((recV u).1, { c₀ with mode := (recV u).2 } :: cs)) ∨ (recoverD (c₀ :: cs) = none ∧ recV u = (.nilIface, u)) := by
  subst hu
  unfold recoverD recV
  split
  · rename_i c rest heq
    simp only [List.cons.injEq] at heq
    obtain ⟨rfl, rfl⟩ := heq
    split
    · rename_i v older hm
      left
      rw [hm]
    · rename_i hne
      right
      refine ⟨rfl, ?_⟩
      split
      · rename_i v older hm
        exact absurd hm (hne v older)
      · rfl
  · rename_i heq; cases heq
theorem run_recover {o : Oper} (h : isRecover o.op = true) (ρ : Operand → Value) (w : World) : (execOp ρ o).run P w = .ok .recover w := by
  obtain ⟨dst, op, type, guard, after⟩ := o
  simp only at h ⊢
  unfold isRecover at h
  split at h
  · rename_i c
    obtain ⟨callee, args, tys⟩ := c
    simp only at h
    split at h
    · simp [execOp, resolve, invoke, builtin]
    · cases h
  · cases h
theorem fn_recover (hm : P.follows .mixedOrders = true) {f : FuncId} {fn : Func} {c : Code} (hf : P.funcs[f]? = some fn) (hb : fn.body = some c) {ann : Ann} {args : List Value} (hrs : fn.results = #[]) {m : Nat}
    (hn : fn.ntmps = args.length + m) (hok : okR (args.length + m) c ann = true) {u : FrameMode} {K : World → Prop} {w : World} (h : denFnR P c ann args (recV u).1 K w) :
    CallsD P f args.toArray u w fun e u' w' => (∃ v, e = .returned v) ∧ u' = (recV u).2 ∧ K w' := by
  unfold denFnR at h
  split at h
  rotate_left
  · exact h.elim
  rename_i id ops c1
  cases ann <;> try exact h.elim
  rename_i a0 a1
  simp only at h
  split at h
  rotate_left
  · exact h.elim
  rename_i o1 o2 hol
  split at h
  rotate_left
  · exact h.elim
  rename_i d1 d2 he1 he2 he3 he4
  obtain ⟨hshape, h⟩ := cond_true_of h
  simp only [Bool.and_eq_true] at hshape
  obtain ⟨hrec, hasg⟩ := hshape
  simp only [okR, Bool.and_eq_true] at hok
  obtain ⟨⟨hk1, hd1⟩, hops⟩ := hok
  rw [hol] at hops
  simp only [List.all_cons, List.all_nil, Bool.and_true, Bool.and_eq_true, he1, he3] at hops
  have hl1 : d1 < args.length + m := Nat.le_of_ble_eq_true hops.1
  have hl2 : d2 < args.length + m := Nat.le_of_ble_eq_true hops.2
  have hsz : fn.ntmps - args.toArray.size = m := by simp [hn]
  have hos : ops = #[o1, o2] := by
    have := congrArg List.toArray hol
    simpa using this
  refine callsD_of_wpS hf hb fun c₀ cs hu => ?_
  rw [hsz]
  apply wpS_seq
  apply wpS_region
  obtain ⟨a, hadef⟩ : ∃ a : Act, ({ tmps := args.toArray ++ Array.replicate m undef, defers := [] } : Act) = a := ⟨_, rfl⟩
  have ha : Agree ⟨args.length + m, [], fun _ => none⟩ (argF args 0) a := hadef ▸ argF_agree args m
  rw [hadef]
  -- what is handed back
  have hgo : ∀ cs', cs' = { c₀ with mode := (recV u).2 } :: cs → wpOpsS P ops (Exit.thenS (c1.wpS P (bodyPostS P fn c₀ cs fun e u' w' => (∃ v, e = .returned v) ∧ u' = (recV u).2 ∧ K w'))
      (bodyPostS P fn c₀ cs fun e u' w' => (∃ v, e = .returned v) ∧ u' = (recV u).2 ∧ K w')) [1] (a.put (some d1) (recV u).1) cs' w := by
    intro cs' hcs
    have ha1 : Agree ⟨args.length + m, [], fun _ => none⟩ ((argF args 0).put (some d1) (recV u).1) (a.put (some d1) (recV u).1) := ha.put (fun t ht => by cases ht; exact ⟨hl1, rfl⟩) _
    have hgd : (a.put (some d1) (recV u).1).tmps.getD d1 undef = (recV u).1 := ha1.vals d1 _ (by simp [Fr.put, Fr.upd_same])
    have ha2 := ha1.put (d := some d2) (fun t ht => by cases ht; exact ⟨hl2, rfl⟩) (recV u).1
    have hw2 : Region.wanted o2 (yielded ops (a.put (some d1) (recV u).1).tmps) = true := by simp [Region.wanted, he4]
    have hx : (execOp (a.put (some d1) (recV u).1).eval o2).run P w = .ok (.value (recV u).1) w := by
      unfold assigns at hasg
      split at hasg
      · rename_i t heq
        have ht := Nat.eq_of_beq_eq_true hasg
        subst ht
        simp only [execOp, heq, Act.eval, hgd, Sem.run_pure]
      · cases hasg
    have h1 : ops[1]? = some o2 := by rw [hos]; rfl
    simp only [wpOpsS, h1, hw2, if_true, hx, Oper.upon, he3, Exit.thenS]
    refine wpS_of_wp (wp_mono (den_sound hm c1 a1 _ _ _ w hk1 (dstsOk_mem hd1) ha2 h) fun e a' w' he => ?_)
    have hfin : ∀ F, Agree ⟨args.length + m, [], fun _ => none⟩ F a' → K w' → a'.defers = [] ∧ ∃ u', cs' = { c₀ with mode := u' } :: cs ∧ ∃ v, (results fn a'.tmps).run P w' = .ok v w' ∧ (∃ v', (Ending.returned v) = .returned v') ∧ u' = (recV u).2 ∧ K w' := fun F ha hK => by
      refine ⟨ha.st.defers, (recV u).2, hcs, .tuple #[], ?_, ⟨_, rfl⟩, rfl, hK⟩
      simp [results, hrs]
    cases e with
    | exit id => obtain ⟨F, _, _, hQ⟩ := he; exact hQ.elim
    | goto l => obtain ⟨F, _, _, hQ⟩ := he; exact hQ.elim
    | outgrown => exact he.elim
    | panic ch => exact he.2.elim
    | normal => obtain ⟨F, ha, _, hQ⟩ := he; exact hfin F ha hQ
    | ret => obtain ⟨F, ha, _, hQ⟩ := he; exact hfin F ha hQ
  have h0 : ops[0]? = some o1 := by rw [hos]; rfl
  have hr : List.range ops.size = [0, 1] := by rw [hos]; rfl
  have hw1 : Region.wanted o1 (yielded ops a.tmps) = true := by simp [Region.wanted, he2]
  rw [hr]
  unfold wpOpsS
  simp only [h0, hw1, if_true, run_recover hrec, he1]
  rcases recoverD_mode (c₀ := c₀) (cs := cs) hu with hh | ⟨hh, hn'⟩
  · rw [hh]; exact hgo _ rfl
  · rw [hh]
    simp only
    have := hgo (c₀ :: cs) (by rw [hn']; cases c₀; simp_all)
    rw [hn'] at this
    simpa [hn'] using this
end
end SG
/-! The generic layer, eighth part: a range over a function, its rounds; iterators. -/
namespace SG
open Go Go.RowKit
set_option linter.unusedSimpArgs false
set_option linter.unusedVariables false

/-- an operation that hands one slot on to another -/
def asg1 (o : Oper) : Option (Nat × Nat) :=
  match o.op with
  | .assign (.tmp t) => (match o.dst with | some d => cond o.guard.isNone (some (t, d)) none | none => none)
  | _ => none
def asgF : List Oper → Fr → Option Fr
  | [], F => some F
  | o :: r, F => match asg1 o with
    | some (t, d) => (match F t with | some v => asgF r (F.upd d v) | none => none)
    | none => none
def asgA : List Oper → Act → Act
  | [], a => a
  | o :: r, a => match asg1 o with
    | some (t, d) => asgA r (a.put (some d) (a.tmps.getD t undef))
    | none => a
def paramF : List Tmp → List Value → Fr → Fr
  | p :: ps, v :: vs, F => paramF ps vs (F.upd p v)
  | _, _, F => F
def paramG : Nat → List Tmp → List Value → Fr → Fr
  | _, [], _, F => F
  | i, p :: ps, vs, F => paramG (i + 1) ps vs (F.upd p (vs.getD i undef))
theorem paramG_eq : ∀ (ps : List Tmp) (i : Nat) (vs : List Value) (F : Fr), vs.length = i + ps.length → paramG i ps vs F = paramF ps (vs.drop i) F
  | [], i, vs, F, h => by simp [paramG, paramF]
  | p :: ps, i, vs, F, h => by
    simp only [List.length_cons] at h
    have hi : i < vs.length := by omega
    rw [List.drop_eq_getElem_cons hi]
    have e : vs.getD i undef = vs[i] := by simp [List.getD, List.getElem?_eq_getElem hi]
    simp only [paramG, paramF, e]
    exact paramG_eq ps (i + 1) vs _ (by omega)
def RangeS (P : Program) (v : Value) (np : Nat) (rnd : List Value → (World → Prop) → World → Prop) (after : Nat → World → Prop) (w : World) : Prop :=
  match v with
  | .func (.func gf) first lb => first = #[] ∧ okFunc P gf = true ∧ ∃ (α : Type) (encs : α → List Value) (Kp : World → World → Prop) (S Sp : List α → Prop) (N : Nat) (I : List α → World → Prop),
      SeqStopsK Fence.wide 0 P gf lb (fun x => (encs x).toArray) Kp S Sp N w ∧ (∀ x, (encs x).length = np) ∧ (∀ A B C : World, Kp A B → Kp B C → Kp A C) ∧
      (∀ (W : World) (l : Nat) (o o' : Obj), w.heap.size ≤ l → W.heap[l]? = some o → o.isCells = false → o.isWalk = false → Kp W (W.putObj l o')) ∧ OwnFrom w.heap.size I ∧ I [] w ∧
      (∀ pre x W, I pre W → pre.length < N → rnd (encs x) (fun W' => KeepsFrom w.heap.size W W' ∧ Kp W W' ∧ I (pre ++ [x]) W') W) ∧
      (∀ D xs W, w.heap.size ≤ D → S xs → I xs W → W.heap[D]? = some (.deferred (some [])) → after D W)
  | _ => False
def isRange (c : Code) : Option (Code × Nat × Operand × Array Tmp × Nat × Array Oper × Code) :=
  match c with
  | .seq b0 (.block id (.rangeFunc g ps (.region rid ops false) bd)) => some (b0, id, g, ps, rid, ops, bd)
  | _ => none
theorem isRange_some {c b0 bd : Code} {id rid : Nat} {g : Operand} {ps : Array Tmp} {ops : Array Oper} (h : isRange c = some (b0, id, g, ps, rid, ops, bd)) : c = .seq b0 (.block id (.rangeFunc g ps (.region rid ops false) bd)) := by
  unfold isRange at h
  split at h
  · simp only [Option.some.injEq, Prod.mk.injEq] at h
    obtain ⟨rfl, rfl, rfl, rfl, rfl, rfl, rfl⟩ := h
    rfl
  · cases h
def denG (P : Program) (rs : List ResultVar) (K : Value → World → Prop) : Code → Ann → Fr → World → Prop
  | .seq a rest, ann, F, w => match ann with
    | .q x y => (match isRange a with
      | some (b0, _, g, ps, _, ops, bd) => (match x with
        | .q xb xd => den P false NoP b0 xb (fun e F' w' => match e with
            | .normal => withV (F'.ev g) fun v => RangeS P v ps.size
                (fun vs KW W => match asgF ops.toList (paramG 0 ps.toList vs F') with
                  | some F2 => den P false NoP bd xd (fun e _ W' => match e with | .normal => KW W' | _ => False) F2 W
                  | none => False)
                (fun D W => den P false NoP rest y (fun e F'' w'' => match e with
                  | .normal => w''.heap[D]? = some (.deferred (some [])) ∧ resV P rs F'' (w''.putObj D (.deferred none)) fun v => K v (w''.putObj D (.deferred none))
                  | .ret => w''.heap[D]? = some (.deferred (some [])) ∧ resV P rs F'' (w''.putObj D (.deferred none)) fun v => K v (w''.putObj D (.deferred none))
                  | _ => False) F' W) w'
            | _ => False) F w
        | _ => False)
      | none => den P false NoP a x (fun e F' w' => match e with | .normal => denG P rs K rest y F' w' | .ret => resV P rs F' w' fun v => K v w' | _ => False) F w)
    | _ => False
  | _, _, _, _ => False
def okG (n : Nat) : Code → Ann → Bool
  | .seq a rest, ann => match ann with
    | .q x y => (match isRange a with
      | some (b0, _, g, ps, _, ops, bd) => (match x with
        | .q xb xd => annOk b0 xb && dstsOk n b0 && annOk bd xd && dstsOk n bd && noDraw bd && annOk rest y && dstsOk n rest && ps.toList.all (fun p => Nat.blt p n) &&
            ops.toList.all (fun o => match asg1 o with | some (_, d) => Nat.blt d n | none => false)
        | _ => false)
      | none => annOk a x && dstsOk n a && okG n rest y)
    | _ => false
  | _, _ => false

section
variable {P : Program}
theorem asg1_some {o : Oper} {t d : Nat} (h : asg1 o = some (t, d)) : o.op = .assign (.tmp t) ∧ o.dst = some d ∧ o.guard = none := by
  unfold asg1 at h
  split at h
  · rename_i t' he
    split at h
    · rename_i d' hd
      cases hg : o.guard.isNone with
      | false => rw [hg] at h; cases h
      | true =>
        rw [hg] at h
        simp only [cond_true, Option.some.injEq, Prod.mk.injEq] at h
        obtain ⟨rfl, rfl⟩ := h
        exact ⟨he, hd, by simpa using hg⟩
    · cases h
  · cases h
theorem asg_wp {r : Option Nat} {fu : Nat} {ops : Array Oper} {Q : Exit → Act → World → Prop} : ∀ (l : List Oper) (a : Act) (w : World), (∀ o ∈ l, (asg1 o).isSome = true) → Q .normal (asgA l a) w → wpListIn (FR r) fu P ops Q l a w
  | [], a, w, _, h => h
  | o :: l, a, w, hl, h => by
    obtain ⟨⟨t, d⟩, htd⟩ := Option.isSome_iff_exists.1 (hl o (by simp))
    obtain ⟨h1, h2, h3⟩ := asg1_some htd
    unfold wpListIn
    have hw : Region.wanted o (yielded ops a.tmps) = true := by simp [Region.wanted, h3]
    rw [if_pos hw]
    refine ⟨fun _ _ => trivial, ?_⟩
    rw [Oper.semAt_eq _ _ _ (fun c hc => by rw [h1] at hc; cases hc)]
    have hex : (execOp a.eval o).run P w = .ok (.value (a.tmps.getD t undef)) w := by simp [execOp, h1, Act.eval]
    rw [hex]
    show wpListIn (FR r) fu P ops Q l (a.put o.dst _) w
    rw [h2]
    refine asg_wp l _ w (fun o ho => hl o (by simp [ho])) ?_
    simp only [asgA, htd] at h
    exact h
theorem asg_agree {n : Stat} : ∀ (l : List Oper) (F F2 : Fr) (a : Act), (∀ o ∈ l, ∀ t d, asg1 o = some (t, d) → n.wr d) → Agree n F a → asgF l F = some F2 → Agree n F2 (asgA l a)
  | [], F, F2, a, _, ha, h => by simp only [asgF, Option.some.injEq] at h; subst h; exact ha
  | o :: l, F, F2, a, hd, ha, h => by
    unfold asgF at h
    unfold asgA
    cases htd : asg1 o with
    | none => rw [htd] at h; cases h
    | some td =>
      obtain ⟨t, d⟩ := td
      rw [htd] at h
      simp only at h ⊢
      cases hF : F t with
      | none => rw [hF] at h; cases h
      | some v =>
        rw [hF] at h
        simp only at h
        have hv := ha.vals t v hF
        have := ha.put (d := some d) (fun t' ht' => by cases ht'; exact hd o (by simp) t d htd) v
        rw [hv]
        exact asg_agree l _ F2 _ (fun o ho => hd o (by simp [ho])) this h
theorem param_agree {N : Nat} : ∀ (ps : List Tmp) (vs : List Value) (F : Fr) (tm : Array Value), (∀ p ∈ ps, p < N) → Agree ⟨N, [], fun _ => none⟩ F { tmps := tm, defers := [] } →
    Agree ⟨N, [], fun _ => none⟩ (paramF ps vs F) { tmps := (ps.zip vs).foldl (fun t (p, v) => t.setIfInBounds p v) tm, defers := [] }
  | [], vs, F, tm, _, h => by simpa [paramF] using h
  | p :: ps, [], F, tm, _, h => by simpa [paramF] using h
  | p :: ps, v :: vs, F, tm, hp, h => by
    have := h.put (d := some p) (fun t ht => by cases ht; exact ⟨hp p (by simp), rfl⟩) v
    exact param_agree ps vs _ _ (fun q hq => hp q (by simp [hq])) this

theorem denG_sound (hm : P.follows .mixedOrders = true) {fn : Func} {rs : Array ResultVar} (hrs : fn.results = rs) {N : Nat} {K : Value → World → Prop} : ∀ (c : Code) (ann : Ann) (F : Fr) (a : Act) (w : World), okG N c ann = true → Agree ⟨N, [], fun _ => none⟩ F a → denG P rs.toList K c ann F w →
    c.wpIn Fence.wide 1 P (bodyPostM Fence.wide 1 P fn fun e w' => match e with | .returned v => K v w' | _ => False) a w := by
  intro c
  induction c with
  | seq x rest _ ih =>
    intro ann F a w hok ha h
    cases ann <;> try exact h.elim
    rename_i ax ay
    unfold denG at h
    unfold okG at hok
    simp only at h hok
    have hres : ∀ F' a' w', Agree ⟨N, [], fun _ => none⟩ F' a' → resV P rs.toList F' w' (fun v => K v w') → LeavesInM Fence.wide 1 P fn a'.tmps (fun e w' => match e with | .returned v => K v w' | _ => False) a'.defers .returning w' := fun F' a' w' ha' hr => by
      rw [ha'.st.defers]
      obtain ⟨v, hv, hK⟩ := resV_run (P := P) ha' w' fn hrs hr
      exact ⟨v, hv, hK⟩
    cases hir : isRange x with
    | none =>
      rw [hir] at h hok
      simp only [Bool.and_eq_true] at h hok
      obtain ⟨⟨h1, h2⟩, h3⟩ := hok
      refine wpIn_seq (wpIn_mono (wpIn_wide.2 (den_sound hm x ax _ F a w h1 (dstsOk_mem h2) ha h)) fun e a' w' he => ?_)
      cases e with
      | normal => obtain ⟨F', ha', _, hQ⟩ := he; exact ih ay F' a' w' h3 ha' hQ
      | ret => obtain ⟨F', ha', _, hQ⟩ := he; exact hres F' a' w' ha' hQ
      | exit id => obtain ⟨F', ha', _, hQ⟩ := he; exact hQ.elim
      | goto l => obtain ⟨F', ha', _, hQ⟩ := he; exact hQ.elim
      | panic ch => exact he.2.elim
      | outgrown => exact he.elim
    | some tup =>
      obtain ⟨b0, id, g, ps, rid, ops, bd⟩ := tup
      rw [hir] at h hok
      obtain rfl := isRange_some hir
      simp only at h hok
      cases ax <;> try exact h.elim
      rename_i xb xd
      simp only [Bool.and_eq_true] at hok
      obtain ⟨⟨⟨⟨⟨⟨⟨⟨k1, k2⟩, k3⟩, k4⟩, k5⟩, k6⟩, k7⟩, k8⟩, k9⟩ := hok
      refine wpIn_seq (wpIn_seq (wpIn_mono (wpIn_wide.2 (den_sound hm b0 xb _ F a w k1 (dstsOk_mem k2) ha h)) fun e a' w' he => ?_))
      cases e with
      | ret => obtain ⟨F', ha', _, hQ⟩ := he; exact hQ.elim
      | exit id => obtain ⟨F', ha', _, hQ⟩ := he; exact hQ.elim
      | goto l => obtain ⟨F', ha', _, hQ⟩ := he; exact hQ.elim
      | panic ch => exact he.2.elim
      | outgrown => exact he.elim
      | normal =>
        obtain ⟨F', ha', _, hQ⟩ := he
        obtain ⟨v, hv, hR⟩ := withV_some hQ
        unfold RangeS at hR
        split at hR
        rotate_left
        · exact hR.elim
        rename_i gf first lb
        obtain ⟨rfl, hokf, α, encs, Kp, S, Sp, M, I, hseq, hlen, hKt, hKb, hI, hI0, hrnd, haft⟩ := hR
        have hg := ha'.ev hv
        have hasg : ∀ o ∈ ops.toList, (asg1 o).isSome = true ∧ ∀ t d, asg1 o = some (t, d) → d < N := fun o ho => by
          have := List.all_eq_true.1 k9 o ho
          cases h1 : asg1 o with
          | none => rw [h1] at this; cases this
          | some td =>
            rw [h1] at this
            exact ⟨rfl, fun t d hh => by cases hh; exact Nat.le_of_ble_eq_true this⟩
        refine wpIn_block (wpIn_rangeFunc_ownG (n := 1) (encs := fun x => (encs x).toArray) (Kp := Kp) (S := S) (Sp := Sp) (N := M) (w0 := w') rfl (Nat.le_refl _) hg trivial (fun args w => callFunc_ok hokf args w) hseq (fun {A B C} => hKt A B C) hKb (Below.refl _ _)
          (fun x => by simp [hlen x]) I (fun _ _ _ => False) hI (fun _ _ _ _ _ hh _ _ => hh) hI0
          (fun x => asgA ops.toList { tmps := (ps.zip (encs x).toArray).foldl (fun t (p, v) => t.setIfInBounds p v) a'.tmps, defers := [] }) ?_ ?_ ?_ ?_)
        · intro l x W KK hKK
          exact wpIn_region_list (asg_wp (r := some l) ops.toList _ W (fun o ho => (hasg o ho).1) hKK)
        · intro l pre x W hi hlt
          have hr : (match asgF ops.toList (paramG 0 ps.toList (encs x) F') with | some F2 => den P false NoP bd xd (fun e _ W' => match e with | .normal => (KeepsFrom w'.heap.size W W' ∧ Kp W W' ∧ I (pre ++ [x]) W') | _ => False) F2 W | none => False) := hrnd pre x W hi hlt
          have hpa : Agree ⟨N, [], fun _ => none⟩ (paramF ps.toList (encs x) F') { tmps := (ps.zip (encs x).toArray).foldl (fun t (p, v) => t.setIfInBounds p v) a'.tmps, defers := [] } := by
            have hbase : Agree ⟨N, [], fun _ => none⟩ F' { tmps := a'.tmps, defers := [] } := ⟨⟨ha'.st.size, rfl, ha'.st.fix⟩, ha'.vals⟩
            have := param_agree ps.toList (encs x) F' a'.tmps (fun p hp => Nat.le_of_ble_eq_true (List.all_eq_true.1 k8 p hp)) hbase
            have e : (ps.zip (encs x).toArray).foldl (fun t (p, v) => t.setIfInBounds p v) a'.tmps = (ps.toList.zip (encs x)).foldl (fun t (p, v) => t.setIfInBounds p v) a'.tmps := by
              rw [← Array.foldl_toList, Array.toList_zip]
            rw [e]
            exact this
          rw [paramG_eq ps.toList 0 (encs x) F' (by rw [hlen x]; simp), List.drop_zero] at hr
          split at hr
          · rename_i F2 hF2
            have ha2 := asg_agree ops.toList _ F2 _ (fun o ho t d hh => ⟨(hasg o ho).2 t d hh, rfl⟩) hpa hF2
            refine wpIn_mono (den_soundIn (rd := some l) (fu := 0) hm bd xd _ F2 _ W (.inr k5) k3 (dstsOk_mem k4) ha2 hr) fun e a3 W3 he => ?_
            cases e with
            | normal => obtain ⟨_, _, _, hh⟩ := he; exact hh
            | ret => obtain ⟨F', ha', _, hQ⟩ := he; exact hQ.elim
            | exit id => obtain ⟨F', ha', _, hQ⟩ := he; exact hQ.elim
            | goto l => obtain ⟨F', ha', _, hQ⟩ := he; exact hQ.elim
            | panic ch => exact he.2.elim
            | outgrown => exact he.elim
          · exact hr.elim
        · intro D xs W hD hS hi hmk
          have hd := haft D xs W hD hS hi hmk
          have hsa : Agree ⟨N, [{ target := .collected D, args := #[] }], fun _ => none⟩ F' { a' with defers := { target := .collected D, args := #[] } :: a'.defers } :=
            ⟨⟨ha'.st.size, by simp [ha'.st.defers], ha'.st.fix⟩, ha'.vals⟩
          have hwr : ∀ d ∈ dsts rest, (⟨N, [{ target := .collected D, args := #[] }], fun _ => none⟩ : Stat).wr d := fun d hd => ⟨(dstsOk_mem k7 d hd).1, rfl⟩
          refine wpIn_mono (wpIn_wide.2 (den_sound hm rest ay _ F' _ W k6 hwr hsa hd)) fun e a3 W3 he => ?_
          have hfin : ∀ F3, Agree ⟨N, [{ target := .collected D, args := #[] }], fun _ => none⟩ F3 a3 → (W3.heap[D]? = some (.deferred (some [])) ∧ resV P rs.toList F3 (W3.putObj D (.deferred none)) fun v => K v (W3.putObj D (.deferred none))) →
              LeavesInM Fence.wide 1 P fn a3.tmps (fun e w' => match e with | .returned v => K v w' | _ => False) a3.defers .returning W3 := fun F3 ha3 ⟨hD3, hr3⟩ => by
            rw [ha3.st.defers]
            refine ⟨by simp, .inl ⟨D, _, rfl, run_takeDeferred hD3, ?_⟩⟩
            obtain ⟨v, hv, hK⟩ := resV_run (P := P) ha3 _ fn hrs hr3
            exact ⟨v, hv, hK⟩
          cases e with
          | normal => obtain ⟨F3, ha3, _, hh⟩ := he; exact hfin F3 ha3 hh
          | ret => obtain ⟨F3, ha3, _, hh⟩ := he; exact hfin F3 ha3 hh
          | exit id => obtain ⟨F', ha', _, hQ⟩ := he; exact hQ.elim
          | goto l => obtain ⟨F', ha', _, hQ⟩ := he; exact hQ.elim
          | panic ch => exact he.2.elim
          | outgrown => exact he.elim
        · intro D c pre W _ _ hh; exact hh.elim
  | _ => intro ann F a w hok; cases ann <;> cases hok

theorem fn_range (hm : P.follows .mixedOrders = true) {f : FuncId} {fn : Func} {c : Code} (hf : P.funcs[f]? = some fn) (hb : fn.body = some c) {ann : Ann} {args : List Value} {rs : Array ResultVar} (hrs : fn.results = rs) {m : Nat}
    (hn : fn.ntmps = args.length + m) (hok : okG (args.length + m) c ann = true) {K : Value → World → Prop} {w : World} (h : denG P rs.toList K c ann (argF args 0) w) : CallS P f args.toArray K w := by
  refine callsIn_wide.1 (callsIn_of_wp_marks (n := 1) hf hb trivial ?_ rfl)
  have hsz : fn.ntmps - args.toArray.size = m := by simp [hn]
  rw [hsz]
  exact denG_sound hm hrs c ann _ _ w hok (argF_agree args m) h

/-- an iterator's contract, from its walk -/
theorem stops_of {α : Type} {gf : Nat} {lb : Array Value} {encs : α → List Value} {Kp : World → World → Prop} {S Sp : List α → Prop} {N : Nat} {w : World}
    (h : ∀ (l : Nat) (J Jx : List α → World → Prop) (W : World), Below w.heap.size w W → AbidesFrom W.heap.size J →
      (∀ pre x W1 (K : Value → World → Prop), J pre W1 → pre.length < N → (∀ W', J (pre ++ [x]) W' → Kp W1 W' → K (.bool true) W') → (∀ W', Jx (pre ++ [x]) W' → K (.bool false) W') → YieldS P l (encs x).toArray K W1) →
      J [] W → CallS P gf (#[.func (.yield l) #[] #[]] ++ lb) (fun _ W' => (∃ xs, S xs ∧ J xs W') ∨ (∃ pre, Sp pre ∧ Jx pre W')) W) :
    SeqStopsK Fence.wide 0 P gf lb (fun x => (encs x).toArray) Kp S Sp N w := by
  intro l J Jx W hW hJ hJx hY h0
  refine callsIn_wide.2 (Calls.mono (h l J Jx W hW hJ ?_ h0) fun e W' he => ?_)
  · intro pre x W1 K hJ1 hlt ht hf
    obtain ⟨fn, tmps, assign, body, h1, h2⟩ := hY pre x W1 hJ1 hlt
    refine ⟨fn, tmps, assign, body, h1, h2.mono fun e W' he => ?_⟩
    rcases he with ⟨rfl, hh, hk⟩ | ⟨rfl, hh⟩
    · exact ht W' hh hk
    · exact hf W' hh
  · cases e with
    | returned v => exact ⟨⟨v, rfl⟩, he⟩
    | _ => exact he.elim
theorem callY {l : Nat} {args : List Value} {K : Value → World → Prop} {Kp : List PanicEntry → World → Prop} {w : World} (h : YieldS P l args.toArray K w) : CallV' P false (.func (.yield l) #[] #[]) args Kp K w := by
  show cond true (YieldS P l (#[] ++ args.toArray) K w) False
  simpa using h
end
end SG
