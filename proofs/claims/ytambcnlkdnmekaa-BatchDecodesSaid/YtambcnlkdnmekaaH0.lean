/- Rules for reasoning over laid-out functions: blocks, what has changed, joins, loops, reads, writes. No program stands here. -/
import Derived.Test.YtambcnlkdnmekaaG5
import Derived.Below
import Derived.Laws.AppendOwn
import Derived.Maps.AppendAt
import Derived.Lib.AppendStr
import Derived.OwnWalk
import Derived.Laws.StructEq
namespace SG
open Go Go.RowKit
set_option linter.unusedVariables false

/-! ### what has changed -/
structure Ext (S : Nat → Prop) (w w' : World) : Prop where
  os : w'.os = w.os
  tape : w'.tape = w.tape
  output : w'.output = w.output
  size : w.heap.size ≤ w'.heap.size
  blk : ∀ b, b < w.heap.size → ¬ S b → w'.heap[b]? = w.heap[b]?
def No : Nat → Prop := fun _ => False
def At1 (g : Nat) : Nat → Prop := fun b => b = g
namespace Ext
variable {S S' S'' : Nat → Prop} {w w' w'' : World}
theorem refl (S : Nat → Prop) (w : World) : Ext S w w := ⟨rfl, rfl, rfl, Nat.le_refl _, fun _ _ _ => rfl⟩
theorem trans' (h : Ext S w w') (k : Ext S' w' w'') (h1 : ∀ b, S b → b < w.heap.size → S'' b) (h2 : ∀ b, S' b → b < w.heap.size → S'' b) : Ext S'' w w'' :=
  ⟨k.os.trans h.os, k.tape.trans h.tape, k.output.trans h.output, Nat.le_trans h.size k.size,
    fun b hb hS => (k.blk b (Nat.lt_of_lt_of_le hb h.size) fun hh => hS (h2 b hh hb)).trans (h.blk b hb fun hh => hS (h1 b hh hb))⟩
theorem trans (h : Ext S w w') (k : Ext S w' w'') : Ext S w w'' := h.trans' k (fun _ h _ => h) (fun _ h _ => h)
theorem mono (h : Ext S w w') (hS : ∀ b, S b → b < w.heap.size → S' b) : Ext S' w w' := ⟨h.os, h.tape, h.output, h.size, fun b hb hn => h.blk b hb fun hh => hn (hS b hh hb)⟩
theorem no (h : Ext No w w') : Ext S w w' := h.mono fun _ hh _ => hh.elim
theorem drew (w : World) : Ext S w w.drew := ⟨rfl, rfl, rfl, Nat.le_refl _, fun _ _ _ => rfl⟩
theorem alloc (w : World) (o : Obj) : Ext S w (w.alloc o) := ⟨rfl, rfl, rfl, by simp, fun b hb _ => Below.heap_alloc w o b hb⟩
theorem setCell (w : World) (a : Addr) (v : Value) (h : S a.block) : Ext S w (w.setCell a v) :=
  ⟨rfl, rfl, rfl, by simp, fun b hb hn => Below.heap_setCell w a v b fun e => hn (e ▸ h)⟩
theorem grown {row : Option Nat} (h : w.grownBy w' row) (hS : ∀ b, row = some b → S b) : Ext S w w' :=
  ⟨h.os, h.tape, h.output, h.size, fun b hb hn => h.block b hb fun e => hn (hS b e.symm)⟩
theorem to_grown {g : Nat} (h : Ext (At1 g) w w') : w.grownBy w' (some g) := ⟨h.os, h.tape, h.output, h.size, fun b hb hn => h.blk b hb fun e => hn (by rw [show b = g from e])⟩
theorem to_grown_none (h : Ext No w w') (row : Option Nat) : w.grownBy w' row := ⟨h.os, h.tape, h.output, h.size, fun b hb _ => h.blk b hb fun e => e⟩
theorem below {B : Nat} (h : Ext S w w') (hB : B ≤ w.heap.size) (hS : ∀ b, S b → B ≤ b) : Below B w w' :=
  ⟨h.os, h.tape, h.output, h.size, fun b hb => h.blk b (Nat.lt_of_lt_of_le hb hB) fun hh => absurd (hS b hh) (Nat.not_le.2 hb)⟩
theorem of_below (h : Below w.heap.size w w') : Ext S w w' := ⟨h.os, h.tape, h.output, h.size, fun b hb _ => h.block b hb⟩
/-- blocks that are new count for nothing -/
theorem fresh (h : Ext S w w') (k : Ext S' w' w'') (h2 : ∀ b, S' b → S b ∨ w.heap.size ≤ b) : Ext S w w'' :=
  h.trans' k (fun _ h _ => h) (fun b hb hlt => (h2 b hb).resolve_right (by omega))
theorem lt (h : Ext S w w') {b : Nat} (hb : b < w.heap.size) : b < w'.heap.size := Nat.lt_of_lt_of_le hb h.size
theorem cell (h : Ext S w w') {a : Addr} (hb : a.block < w.heap.size) (hn : ¬ S a.block) : w'.cell? a = w.cell? a := World.cell?_of_block (w := w) (h.blk _ hb hn)
end Ext

/-! ### a block that is known whole -/
def Blk (w : World) (g : Nat) (t : TypeId) (cs : List Value) : Prop := w.heap[g]? = some (.cells cs.toArray t (0, 0))
namespace Blk
variable {S : Nat → Prop} {w w' : World} {g : Nat} {t : TypeId} {cs : List Value}
theorem lt (h : Blk w g t cs) : g < w.heap.size := (Array.getElem?_eq_some_iff.1 h).1
theorem ext (h : Blk w g t cs) (e : Ext S w w') (hn : ¬ S g) : Blk w' g t cs := (e.blk g h.lt hn).trans h
theorem no (h : Blk w g t cs) (e : Ext No w w') : Blk w' g t cs := h.ext e fun e => e
theorem cell (h : Blk w g t cs) (i : Nat) : w.cell? ⟨g, i, none⟩ = cs[i]? := by
  unfold Blk at h
  simp [World.cell?, h]
theorem frozen (h : Blk w g t cs) (i : Nat) : w.frozen? ⟨g, i, none⟩ = false := by
  unfold Blk at h
  simp [World.frozen?, h]
theorem set (h : Blk w g t cs) (i : Nat) (v : Value) : Blk (w.setCell ⟨g, i, none⟩ v) g t (cs.set i v) := by
  unfold Blk at h ⊢
  simp [World.setCell, Array.getElem?_modify, h]
theorem new (w : World) (cs : List Value) (t : TypeId) : Blk (w.alloc (.cells cs.toArray t)) w.heap.size t cs := heap_alloc_new w _
end Blk
/-- cells from an address on -/
def At (w : World) (a : Addr) (xs : List Value) : Prop := ∀ i v, xs[i]? = some v → w.cell? (a.add i) = some v
theorem Addr.add_mk (b o n : Nat) : (⟨b, o, none⟩ : Addr).add n = ⟨b, o + n, none⟩ := Go.Addr.add_lit b o n
theorem Addr.add_block (a : Addr) (n : Nat) : (a.add n).block = a.block := by unfold Addr.add; split <;> rfl
theorem Addr.add_add (a : Addr) (i j : Nat) : (a.add i).add j = a.add (i + j) := by
  unfold Addr.add
  by_cases hi : i = 0 <;> by_cases hj : j = 0 <;> simp [hi, hj, Nat.add_assoc]
theorem At.blk {w : World} {g o : Nat} {t : TypeId} {cs xs : List Value} (h : Blk w g t cs) (hx : ∀ i v, xs[i]? = some v → cs[o + i]? = some v) : At w ⟨g, o, none⟩ xs :=
  fun i v hv => by rw [Addr.add_mk, h.cell]; exact hx i v hv
theorem At.of_blk {w : World} {g : Nat} {t : TypeId} {cs : List Value} (h : Blk w g t cs) : At w ⟨g, 0, none⟩ cs := At.blk h fun i v hv => by rw [Nat.zero_add]; exact hv
theorem At.ext {S : Nat → Prop} {w w' : World} {a : Addr} {xs : List Value} (h : At w a xs) (e : Ext S w w') (hb : a.block < w.heap.size) (hn : ¬ S a.block) : At w' a xs :=
  fun i v hv => by rw [e.cell (by rw [Addr.add_block]; exact hb) (by rw [Addr.add_block]; exact hn)]; exact h i v hv
theorem At.drop {w : World} {a : Addr} {xs : List Value} (h : At w a xs) (n : Nat) : At w (a.add n) (xs.drop n) := fun i v hv => by
  rw [Addr.add_add]; exact h _ v (by rwa [List.getElem?_drop] at hv)
theorem At.take {w : World} {a : Addr} {xs : List Value} (h : At w a xs) (n : Nat) : At w a (xs.take n) := fun i v hv => by
  rw [List.getElem?_take] at hv
  split at hv
  · exact h i v hv
  · cases hv

/-! ### rules -/
theorem PureS_some (v : Value) (K : Value → Prop) : PureS (some v) K = K v := rfl
theorem CondS_bool (b : Bool) (X Y : Prop) : CondS (.bool b) X Y = if b = true then X else Y := rfl
theorem condT {b : Bool} {X Y : Prop} (hb : b = true) (h : X) : CondS (.bool b) X Y := by rw [CondS_bool, if_pos hb]; exact h
theorem condF {b : Bool} {X Y : Prop} (hb : b = false) (h : Y) : CondS (.bool b) X Y := by rw [CondS_bool, if_neg (by rw [hb]; simp)]; exact h
theorem condD {p : Prop} [Decidable p] {X Y : Prop} (hx : p → X) (hy : ¬ p → Y) : CondS (.bool (decide p)) X Y := by
  by_cases hp : p
  · exact condT (by simp [hp]) (hx hp)
  · exact condF (by simp [hp]) (hy hp)
theorem condN {p : Prop} [Decidable p] {X Y : Prop} (hx : ¬ p → X) (hy : p → Y) : CondS (.bool (!decide p)) X Y := by
  by_cases hp : p
  · exact condF (by simp [hp]) (hy hp)
  · exact condT (by simp [hp]) (hx hp)
theorem condB {b : Bool} {X Y : Prop} (hx : b = true → X) (hy : b = false → Y) : CondS (.bool b) X Y := by
  cases b
  · exact condF rfl (hy rfl)
  · exact condT rfl (hx rfl)
theorem ifB_eq (b want : Bool) (X Y : Prop) : IfB (.bool b) want X Y = if b = want then X else Y := by
  unfold IfB isB
  cases b <;> cases want <;> simp
theorem load {S : Nat → Prop} {w : World} {a : Addr} {v : Value} {K : Value → World → Prop} (h : w.cell? a = some v) (hK : K v w) : LoadC (.pointer (some a)) K w := by
  unfold LoadC; simp only [h]; exact hK
theorem loadB {w : World} {g i : Nat} {t : TypeId} {cs : List Value} {v : Value} {K : Value → World → Prop} (h : Blk w g t cs) (hv : cs[i]? = some v) (hK : K v w) : LoadC (.pointer (some ⟨g, i, none⟩)) K w :=
  load (S := No) ((h.cell i).trans hv) hK
theorem loadA {w : World} {a : Addr} {xs : List Value} {n : Nat} {K : Value → World → Prop} (h : At w a xs) (hl : xs.length = n) (hK : K (.agg xs.toArray) w) : LoadA n (.pointer (some a)) K w :=
  ⟨xs, hl, h, hK⟩
theorem heldC {S : World → Prop} {a : Addr} {v : Value} {K : Value → Prop} (h : ∀ w, S w → w.cell? a = some v) (hK : K v) : HeldC S (.pointer (some a)) K := ⟨v, h, hK⟩
theorem heldA {S : World → Prop} {a : Addr} {xs : List Value} {n : Nat} {K : Value → Prop} (h : ∀ w, S w → At w a xs) (hl : xs.length = n) (hK : K (.agg xs.toArray)) : HeldA n S (.pointer (some a)) K :=
  ⟨xs, hl, h, hK⟩
theorem storeB {w : World} {g i : Nat} {t : TypeId} {cs : List Value} {v : Value} {K : World → Prop} (h : Blk w g t cs) (hi : i < cs.length) (hv : v.oneCell' = true)
    (hK : ∀ w', Blk w' g t (cs.set i v) → Ext (At1 g) w w' → w'.heap.size = w.heap.size → K w') : StoreC (.pointer (some ⟨g, i, none⟩)) v K w :=
  ⟨hv, by rw [h.cell, List.getElem?_eq_getElem hi]; rfl, h.frozen i, hK _ (h.set i v) (Ext.setCell w _ v rfl) (by simp)⟩
theorem box {w : World} {t : TypeId} {v : Value} {K : Value → World → Prop} (hK : ∀ w', Blk w' w.heap.size t v.cells.toList → Ext No w w' → w'.heap.size = w.heap.size + 1 → K (.pointer (some ⟨w.heap.size, 0, none⟩)) w') : BoxS t v K w := by
  unfold BoxS
  refine hK _ ?_ (Ext.alloc w _) (by simp)
  have := Blk.new w v.cells.toList t
  simpa using this
theorem setCells_blk : ∀ (vs : List Value) (i : Nat) (w : World) (g o : Nat) (t : TypeId) (cs : List Value), Blk w g t cs → i + vs.length + o ≤ cs.length →
    Blk (setCells w ⟨g, o, none⟩ i vs) g t (cs.take (o + i) ++ vs ++ cs.drop (o + i + vs.length)) ∧ Ext (At1 g) w (setCells w ⟨g, o, none⟩ i vs) ∧ (setCells w ⟨g, o, none⟩ i vs).heap.size = w.heap.size
  | [], i, w, g, o, t, cs, h, _ => ⟨by simpa [setCells] using h, Ext.refl _ w, rfl⟩
  | v :: vs, i, w, g, o, t, cs, h, hl => by
    have h1 := h.set (o + i) v
    rw [← Addr.add_mk] at h1
    obtain ⟨h2, h3, h4⟩ := setCells_blk vs (i + 1) _ g o t _ h1 (by simp only [List.length_cons] at hl; simp; omega)
    refine ⟨?_, (Ext.setCell w _ v (by rw [Addr.add_block]; rfl)).trans h3, by rw [show setCells w ⟨g, o, none⟩ i (v :: vs) = setCells (w.setCell ((⟨g, o, none⟩ : Addr).add i) v) ⟨g, o, none⟩ (i + 1) vs from rfl, h4]; simp⟩
    have hlt : o + i < cs.length := by simp only [List.length_cons] at hl; omega
    have e : (cs.set (o + i) v).take (o + (i + 1)) ++ vs ++ (cs.set (o + i) v).drop (o + (i + 1) + vs.length) = cs.take (o + i) ++ (v :: vs) ++ cs.drop (o + i + (v :: vs).length) := by
      rw [List.take_set, List.drop_set_of_lt (by omega)]
      rw [show o + (i + 1) = o + i + 1 by omega, List.take_succ_eq_append_getElem hlt]
      rw [List.set_append_right _ _ (by simp; omega)]
      simp [Nat.min_eq_left (Nat.le_of_lt hlt)]
      omega
    rw [e] at h2
    exact h2
theorem storeA {w : World} {g o n : Nat} {t : TypeId} {cs vs : List Value} {K : World → Prop} (h : Blk w g t cs) (hl : vs.length = n) (hn : n + o ≤ cs.length) (hv : ∀ v ∈ vs, v.oneCell' = true)
    (hK : ∀ w', Blk w' g t (cs.take o ++ vs ++ cs.drop (o + n)) → Ext (At1 g) w w' → w'.heap.size = w.heap.size → K w') : StoreA n (.pointer (some ⟨g, o, none⟩)) (.agg vs.toArray) K w := by
  refine ⟨by simp [hl], by simpa using hv, fun i hi => ?_, ?_⟩
  · rw [Addr.add_mk, h.cell, h.frozen]
    exact ⟨by rw [List.getElem?_eq_getElem (by omega)]; rfl, rfl⟩
  · obtain ⟨h1, h2, h3⟩ := setCells_blk vs 0 w g o t cs h (by omega)
    simp only [Nat.add_zero, hl] at h1
    exact hK _ h1 h2 h3
/-- a whole struct is written -/
theorem storeAll {w : World} {g n : Nat} {t : TypeId} {cs vs : List Value} {K : World → Prop} (h : Blk w g t cs) (hl : vs.length = n) (hn : cs.length = n) (hv : ∀ v ∈ vs, v.oneCell' = true)
    (hK : ∀ w', Blk w' g t vs → Ext (At1 g) w w' → w'.heap.size = w.heap.size → K w') : StoreA n (.pointer (some ⟨g, 0, none⟩)) (.agg vs.toArray) K w :=
  storeA h hl (by omega) hv fun w' hb he hs => hK w' (by simpa [← hn] using hb) he hs
theorem runS {P : Program} {s : Sem Value} {K : Value → World → Prop} {w w' : World} {v : Value} (h : s.run P w = .ok v w') (hK : K v w') : RunS P s K w := by
  unfold RunS; rw [h]; exact hK
theorem runU {P : Program} {s : Sem Unit} {K : World → Prop} {w w' : World} (h : s.run P w = .ok () w') (hK : K w') : RunU P s K w := by
  unfold RunU; rw [h]; exact hK
theorem callS {P : Program} {f : FuncId} {args : Array Value} {K K' : Value → World → Prop} {w : World} (h : CallS P f args K w) (hK : ∀ v w', K v w' → K' v w') : CallS P f args K' w :=
  Calls.mono h fun e w' he => by cases e <;> first | exact hK _ _ he | exact he
theorem drawT {w : World} {X : (World → Prop) → Prop} (h : X fun _ => True) : DrawS fun S => S w ∧ X S := ⟨fun _ => True, trivial, h⟩
theorem draw {w : World} {X : (World → Prop) → Prop} (S : World → Prop) (h0 : S w) (h : X S) : DrawS fun S => S w ∧ X S := ⟨S, h0, h⟩

/-! ### joins -/
theorem join0 {Z : World → Prop} {X : (World → Prop) → Prop} (I : World → Prop) (hZ : ∀ w, I w → Z w) (hX : ∀ J : World → Prop, (∀ w, I w → J w) → X J) : JoinS Z X := hX Z hZ
theorem join1 {Z : Value → World → Prop} {X : (Value → World → Prop) → Prop} (I : Value → World → Prop) (hZ : ∀ a w, I a w → Z a w) (hX : ∀ J : Value → World → Prop, (∀ a w, I a w → J a w) → X J) : JoinS Z X := hX Z hZ
theorem join2 {Z : Value → Value → World → Prop} {X : (Value → Value → World → Prop) → Prop} (I : Value → Value → World → Prop) (hZ : ∀ a b w, I a b w → Z a b w)
    (hX : ∀ J : Value → Value → World → Prop, (∀ a b w, I a b w → J a b w) → X J) : JoinS Z X := hX Z hZ
theorem join3 {Z : Value → Value → Value → World → Prop} {X : (Value → Value → Value → World → Prop) → Prop} (I : Value → Value → Value → World → Prop) (hZ : ∀ a b c w, I a b c w → Z a b c w)
    (hX : ∀ J : Value → Value → Value → World → Prop, (∀ a b c w, I a b c w → J a b c w) → X J) : JoinS Z X := hX Z hZ
theorem join4 {Z : Value → Value → Value → Value → World → Prop} {X : (Value → Value → Value → Value → World → Prop) → Prop} (I : Value → Value → Value → Value → World → Prop) (hZ : ∀ a b c d w, I a b c d w → Z a b c d w)
    (hX : ∀ J : Value → Value → Value → Value → World → Prop, (∀ a b c d w, I a b c d w → J a b c d w) → X J) : JoinS Z X := hX Z hZ

/-! ### loops, with a state that nobody computes -/
theorem least {p : Nat → Prop} (h : ∃ n, p n) : ∃ n, p n ∧ ∀ m, p m → n ≤ m := by
  obtain ⟨n, hn⟩ := h
  induction n using Nat.strongRecOn with
  | _ n ih =>
    by_cases hh : ∃ m, m < n ∧ p m
    · obtain ⟨m, hm, hp⟩ := hh
      exact ih m hm hp
    · exact ⟨n, hn, fun m hm => Nat.le_of_not_lt fun hlt => hh ⟨m, hlt, hm⟩⟩
theorem loopL {σ : Type} {n : Nat} {body : Cur n → Cur n} (inv : σ → List Value → World → Prop) (μ : σ → Nat) {vs : List Value} {w : World} (s : σ) (h0 : inv s vs w)
    (h : ∀ s vs w, vs.length = n → inv s vs w → ∀ L : Cur n, (∀ s' vs' w', vs'.length = n → inv s' vs' w' → μ s' < μ s → app n L vs' w') → app n (body L) vs w) : LoopL n body vs w := by
  classical
  have hex : ∀ vs w, (∃ s, inv s vs w) → ∃ k, (∃ s, inv s vs w ∧ μ s = k) ∧ ∀ m, (∃ s, inv s vs w ∧ μ s = m) → k ≤ m := fun vs w ⟨s, hs⟩ => least ⟨μ s, s, hs, rfl⟩
  refine ⟨fun vs w => ∃ s, inv s vs w, fun vs w => if hh : ∃ s, inv s vs w then (hex vs w hh).choose else 0, ⟨s, h0⟩, fun vs w hl hI => ?_⟩
  have hI' : ∃ s, inv s vs w := hI
  simp only [dif_pos hI']
  obtain ⟨s1, hs1, hm⟩ := (hex vs w hI').choose_spec.1
  refine h s1 vs w hl hs1 _ fun s' vs' w' hl' hs' hlt => ?_
  rw [app_curry _ _ _ _ hl']
  refine ⟨⟨s', hs'⟩, ?_⟩
  rw [dif_pos (⟨s', hs'⟩ : ∃ s, inv s vs' w')]
  exact Nat.lt_of_le_of_lt ((hex vs' w' ⟨s', hs'⟩).choose_spec.2 _ ⟨s', hs', rfl⟩) (by omega)
theorem loop0 {σ : Type} {body : (World → Prop) → World → Prop} (inv : σ → World → Prop) (μ : σ → Nat) {w : World} (s : σ) (h0 : inv s w)
    (h : ∀ s w, inv s w → ∀ L : World → Prop, (∀ s' w', inv s' w' → μ s' < μ s → L w') → body L w) : LoopS 0 body w :=
  (app_curry 0 _ [] w rfl).2 (loopL (n := 0) (fun s _ w => inv s w) μ s h0 fun s vs w _ hi L hL => h s w hi L fun s' w' hi' hlt => hL s' [] w' rfl hi' hlt)
theorem loop1 {σ : Type} {body : (Value → World → Prop) → Value → World → Prop} (inv : σ → Value → World → Prop) (μ : σ → Nat) {a : Value} {w : World} (s : σ) (h0 : inv s a w)
    (h : ∀ s a w, inv s a w → ∀ L : Value → World → Prop, (∀ s' a' w', inv s' a' w' → μ s' < μ s → L a' w') → body L a w) : LoopS 1 body a w :=
  (app_curry 1 _ [a] w rfl).2 (loopL (n := 1) (fun s vs w => ∃ a, vs = [a] ∧ inv s a w) μ s ⟨a, rfl, h0⟩ fun s vs w _ ⟨a, hv, hi⟩ L hL => by
    subst hv; exact h s a w hi L fun s' a' w' hi' hlt => hL s' [a'] w' rfl ⟨a', rfl, hi'⟩ hlt)
theorem loop2 {σ : Type} {body : (Value → Value → World → Prop) → Value → Value → World → Prop} (inv : σ → Value → Value → World → Prop) (μ : σ → Nat) {a b : Value} {w : World} (s : σ) (h0 : inv s a b w)
    (h : ∀ s a b w, inv s a b w → ∀ L : Value → Value → World → Prop, (∀ s' a' b' w', inv s' a' b' w' → μ s' < μ s → L a' b' w') → body L a b w) : LoopS 2 body a b w :=
  (app_curry 2 _ [a, b] w rfl).2 (loopL (n := 2) (fun s vs w => ∃ a b, vs = [a, b] ∧ inv s a b w) μ s ⟨a, b, rfl, h0⟩ fun s vs w _ ⟨a, b, hv, hi⟩ L hL => by
    subst hv; exact h s a b w hi L fun s' a' b' w' hi' hlt => hL s' [a', b'] w' rfl ⟨a', b', rfl, hi'⟩ hlt)
theorem loop3 {σ : Type} {body : (Value → Value → Value → World → Prop) → Value → Value → Value → World → Prop} (inv : σ → Value → Value → Value → World → Prop) (μ : σ → Nat) {a b c : Value} {w : World} (s : σ) (h0 : inv s a b c w)
    (h : ∀ s a b c w, inv s a b c w → ∀ L : Value → Value → Value → World → Prop, (∀ s' a' b' c' w', inv s' a' b' c' w' → μ s' < μ s → L a' b' c' w') → body L a b c w) : LoopS 3 body a b c w :=
  (app_curry 3 _ [a, b, c] w rfl).2 (loopL (n := 3) (fun s vs w => ∃ a b c, vs = [a, b, c] ∧ inv s a b c w) μ s ⟨a, b, c, rfl, h0⟩ fun s vs w _ ⟨a, b, c, hv, hi⟩ L hL => by
    subst hv; exact h s a b c w hi L fun s' a' b' c' w' hi' hlt => hL s' [a', b', c'] w' rfl ⟨a', b', c', rfl, hi'⟩ hlt)
end SG
