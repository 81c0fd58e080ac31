/- Several texts of ours, laid one behind the other. -/
import Derived.Test.YtambcnlkdnmekaaMA0
import Derived.Below
import Derived.Laws.AppendOwn
import Derived.Maps.AppendAt
import Derived.Lib.AppendStr
import Derived.OwnWalk
import Derived.Laws.StructEq
import Derived.Test.YtambcnlkdnmekaaProg
/-! Rules for reasoning over laid-out functions: blocks, what has changed, joins, loops, reads, writes. No program stands here. -/
namespace SG
open Go Go.RowKit
set_option linter.unusedVariables false

/-! ### what has changed -/
structure Ext (S : Nat → Prop) (w w' : World) : Prop where
  os : w'.os = w.os
  tape : w'.tape = w.tape
  output : w'.output = w.output
  size : w.heap.size ≤ w'.heap.size
  blk : ∀ b, b < w.heap.size → ¬ S b → w'.heap[b]? = w.heap[b]?
def No : Nat → Prop := fun _ => False
def At1 (g : Nat) : Nat → Prop := fun b => b = g
namespace Ext
variable {S S' S'' : Nat → Prop} {w w' w'' : World}
theorem refl (S : Nat → Prop) (w : World) : Ext S w w := ⟨rfl, rfl, rfl, Nat.le_refl _, fun _ _ _ => rfl⟩
theorem trans' (h : Ext S w w') (k : Ext S' w' w'') (h1 : ∀ b, S b → b < w.heap.size → S'' b) (h2 : ∀ b, S' b → b < w.heap.size → S'' b) : Ext S'' w w'' :=
  ⟨k.os.trans h.os, k.tape.trans h.tape, k.output.trans h.output, Nat.le_trans h.size k.size,
    fun b hb hS => (k.blk b (Nat.lt_of_lt_of_le hb h.size) fun hh => hS (h2 b hh hb)).trans (h.blk b hb fun hh => hS (h1 b hh hb))⟩
theorem trans (h : Ext S w w') (k : Ext S w' w'') : Ext S w w'' := h.trans' k (fun _ h _ => h) (fun _ h _ => h)
theorem mono (h : Ext S w w') (hS : ∀ b, S b → b < w.heap.size → S' b) : Ext S' w w' := ⟨h.os, h.tape, h.output, h.size, fun b hb hn => h.blk b hb fun hh => hn (hS b hh hb)⟩
theorem no (h : Ext No w w') : Ext S w w' := h.mono fun _ hh _ => hh.elim
theorem drew (w : World) : Ext S w w.drew := ⟨rfl, rfl, rfl, Nat.le_refl _, fun _ _ _ => rfl⟩
theorem alloc (w : World) (o : Obj) : Ext S w (w.alloc o) := ⟨rfl, rfl, rfl, by simp, fun b hb _ => Below.heap_alloc w o b hb⟩
theorem setCell (w : World) (a : Addr) (v : Value) (h : S a.block) : Ext S w (w.setCell a v) :=
  ⟨rfl, rfl, rfl, by simp, fun b hb hn => Below.heap_setCell w a v b fun e => hn (e ▸ h)⟩
theorem grown {row : Option Nat} (h : w.grownBy w' row) (hS : ∀ b, row = some b → S b) : Ext S w w' :=
  ⟨h.os, h.tape, h.output, h.size, fun b hb hn => h.block b hb fun e => hn (hS b e.symm)⟩
theorem to_grown {g : Nat} (h : Ext (At1 g) w w') : w.grownBy w' (some g) := ⟨h.os, h.tape, h.output, h.size, fun b hb hn => h.blk b hb fun e => hn (by rw [show b = g from e])⟩
theorem to_grown_none (h : Ext No w w') (row : Option Nat) : w.grownBy w' row := ⟨h.os, h.tape, h.output, h.size, fun b hb _ => h.blk b hb fun e => e⟩
theorem below {B : Nat} (h : Ext S w w') (hB : B ≤ w.heap.size) (hS : ∀ b, S b → B ≤ b) : Below B w w' :=
  ⟨h.os, h.tape, h.output, h.size, fun b hb => h.blk b (Nat.lt_of_lt_of_le hb hB) fun hh => absurd (hS b hh) (Nat.not_le.2 hb)⟩
theorem of_below (h : Below w.heap.size w w') : Ext S w w' := ⟨h.os, h.tape, h.output, h.size, fun b hb _ => h.block b hb⟩
/-- blocks that are new count for nothing -/
theorem fresh (h : Ext S w w') (k : Ext S' w' w'') (h2 : ∀ b, S' b → S b ∨ w.heap.size ≤ b) : Ext S w w'' :=
  h.trans' k (fun _ h _ => h) (fun b hb hlt => (h2 b hb).resolve_right (by omega))
theorem lt (h : Ext S w w') {b : Nat} (hb : b < w.heap.size) : b < w'.heap.size := Nat.lt_of_lt_of_le hb h.size
theorem cell (h : Ext S w w') {a : Addr} (hb : a.block < w.heap.size) (hn : ¬ S a.block) : w'.cell? a = w.cell? a := World.cell?_of_block (w := w) (h.blk _ hb hn)
end Ext

/-! ### a block that is known whole -/
def Blk (w : World) (g : Nat) (t : TypeId) (cs : List Value) : Prop := w.heap[g]? = some (.cells cs.toArray t (0, 0))
namespace Blk
variable {S : Nat → Prop} {w w' : World} {g : Nat} {t : TypeId} {cs : List Value}
theorem lt (h : Blk w g t cs) : g < w.heap.size := (Array.getElem?_eq_some_iff.1 h).1
theorem ext (h : Blk w g t cs) (e : Ext S w w') (hn : ¬ S g) : Blk w' g t cs := (e.blk g h.lt hn).trans h
theorem no (h : Blk w g t cs) (e : Ext No w w') : Blk w' g t cs := h.ext e fun e => e
theorem cell (h : Blk w g t cs) (i : Nat) : w.cell? ⟨g, i, none⟩ = cs[i]? := by
  unfold Blk at h
  simp [World.cell?, h]
theorem frozen (h : Blk w g t cs) (i : Nat) : w.frozen? ⟨g, i, none⟩ = false := by
  unfold Blk at h
  simp [World.frozen?, h]
theorem set (h : Blk w g t cs) (i : Nat) (v : Value) : Blk (w.setCell ⟨g, i, none⟩ v) g t (cs.set i v) := by
  unfold Blk at h ⊢
  simp [World.setCell, Array.getElem?_modify, h]
theorem new (w : World) (cs : List Value) (t : TypeId) : Blk (w.alloc (.cells cs.toArray t)) w.heap.size t cs := heap_alloc_new w _
end Blk
/-- cells from an address on -/
def At (w : World) (a : Addr) (xs : List Value) : Prop := ∀ i v, xs[i]? = some v → w.cell? (a.add i) = some v
theorem Addr.add_mk (b o n : Nat) : (⟨b, o, none⟩ : Addr).add n = ⟨b, o + n, none⟩ := Go.Addr.add_lit b o n
theorem Addr.add_block (a : Addr) (n : Nat) : (a.add n).block = a.block := by unfold Addr.add; split <;> rfl
theorem Addr.add_add (a : Addr) (i j : Nat) : (a.add i).add j = a.add (i + j) := by
  unfold Addr.add
  by_cases hi : i = 0 <;> by_cases hj : j = 0 <;> simp [hi, hj, Nat.add_assoc]
theorem At.blk {w : World} {g o : Nat} {t : TypeId} {cs xs : List Value} (h : Blk w g t cs) (hx : ∀ i v, xs[i]? = some v → cs[o + i]? = some v) : At w ⟨g, o, none⟩ xs :=
  fun i v hv => by rw [Addr.add_mk, h.cell]; exact hx i v hv
theorem At.of_blk {w : World} {g : Nat} {t : TypeId} {cs : List Value} (h : Blk w g t cs) : At w ⟨g, 0, none⟩ cs := At.blk h fun i v hv => by rw [Nat.zero_add]; exact hv
theorem At.ext {S : Nat → Prop} {w w' : World} {a : Addr} {xs : List Value} (h : At w a xs) (e : Ext S w w') (hb : a.block < w.heap.size) (hn : ¬ S a.block) : At w' a xs :=
  fun i v hv => by rw [e.cell (by rw [Addr.add_block]; exact hb) (by rw [Addr.add_block]; exact hn)]; exact h i v hv
theorem At.drop {w : World} {a : Addr} {xs : List Value} (h : At w a xs) (n : Nat) : At w (a.add n) (xs.drop n) := fun i v hv => by
  rw [Addr.add_add]; exact h _ v (by rwa [List.getElem?_drop] at hv)
theorem At.take {w : World} {a : Addr} {xs : List Value} (h : At w a xs) (n : Nat) : At w a (xs.take n) := fun i v hv => by
  rw [List.getElem?_take] at hv
  split at hv
  · exact h i v hv
  · cases hv

/-! ### rules -/
theorem PureS_some (v : Value) (K : Value → Prop) : PureS (some v) K = K v := rfl
theorem CondS_bool (b : Bool) (X Y : Prop) : CondS (.bool b) X Y = if b = true then X else Y := rfl
theorem condT {b : Bool} {X Y : Prop} (hb : b = true) (h : X) : CondS (.bool b) X Y := by rw [CondS_bool, if_pos hb]; exact h
theorem condF {b : Bool} {X Y : Prop} (hb : b = false) (h : Y) : CondS (.bool b) X Y := by rw [CondS_bool, if_neg (by rw [hb]; simp)]; exact h
theorem condD {p : Prop} [Decidable p] {X Y : Prop} (hx : p → X) (hy : ¬ p → Y) : CondS (.bool (decide p)) X Y := by
  by_cases hp : p
  · exact condT (by simp [hp]) (hx hp)
  · exact condF (by simp [hp]) (hy hp)
theorem condN {p : Prop} [Decidable p] {X Y : Prop} (hx : ¬ p → X) (hy : p → Y) : CondS (.bool (!decide p)) X Y := by
  by_cases hp : p
  · exact condF (by simp [hp]) (hy hp)
  · exact condT (by simp [hp]) (hx hp)
theorem condB {b : Bool} {X Y : Prop} (hx : b = true → X) (hy : b = false → Y) : CondS (.bool b) X Y := by
  cases b
  · exact condF rfl (hy rfl)
  · exact condT rfl (hx rfl)
theorem ifB_eq (b want : Bool) (X Y : Prop) : IfB (.bool b) want X Y = if b = want then X else Y := by
  unfold IfB isB
  cases b <;> cases want <;> simp
theorem load {S : Nat → Prop} {w : World} {a : Addr} {v : Value} {K : Value → World → Prop} (h : w.cell? a = some v) (hK : K v w) : LoadC (.pointer (some a)) K w := by
  unfold LoadC; simp only [h]; exact hK
theorem loadB {w : World} {g i : Nat} {t : TypeId} {cs : List Value} {v : Value} {K : Value → World → Prop} (h : Blk w g t cs) (hv : cs[i]? = some v) (hK : K v w) : LoadC (.pointer (some ⟨g, i, none⟩)) K w :=
  load (S := No) ((h.cell i).trans hv) hK
theorem loadA {w : World} {a : Addr} {xs : List Value} {n : Nat} {K : Value → World → Prop} (h : At w a xs) (hl : xs.length = n) (hK : K (.agg xs.toArray) w) : LoadA n (.pointer (some a)) K w :=
  ⟨xs, hl, h, hK⟩
theorem heldC {S : World → Prop} {a : Addr} {v : Value} {K : Value → Prop} (h : ∀ w, S w → w.cell? a = some v) (hK : K v) : HeldC S (.pointer (some a)) K := ⟨v, h, hK⟩
theorem heldA {S : World → Prop} {a : Addr} {xs : List Value} {n : Nat} {K : Value → Prop} (h : ∀ w, S w → At w a xs) (hl : xs.length = n) (hK : K (.agg xs.toArray)) : HeldA n S (.pointer (some a)) K :=
  ⟨xs, hl, h, hK⟩
theorem storeB {w : World} {g i : Nat} {t : TypeId} {cs : List Value} {v : Value} {K : World → Prop} (h : Blk w g t cs) (hi : i < cs.length) (hv : v.oneCell' = true)
    (hK : ∀ w', Blk w' g t (cs.set i v) → Ext (At1 g) w w' → w'.heap.size = w.heap.size → K w') : StoreC (.pointer (some ⟨g, i, none⟩)) v K w :=
  ⟨hv, by rw [h.cell, List.getElem?_eq_getElem hi]; rfl, h.frozen i, hK _ (h.set i v) (Ext.setCell w _ v rfl) (by simp)⟩
theorem box {w : World} {t : TypeId} {v : Value} {K : Value → World → Prop} (hK : ∀ w', Blk w' w.heap.size t v.cells.toList → Ext No w w' → w'.heap.size = w.heap.size + 1 → K (.pointer (some ⟨w.heap.size, 0, none⟩)) w') : BoxS t v K w := by
  unfold BoxS
  refine hK _ ?_ (Ext.alloc w _) (by simp)
  have := Blk.new w v.cells.toList t
  simpa using this
theorem setCells_blk : ∀ (vs : List Value) (i : Nat) (w : World) (g o : Nat) (t : TypeId) (cs : List Value), Blk w g t cs → i + vs.length + o ≤ cs.length →
    Blk (setCells w ⟨g, o, none⟩ i vs) g t (cs.take (o + i) ++ vs ++ cs.drop (o + i + vs.length)) ∧ Ext (At1 g) w (setCells w ⟨g, o, none⟩ i vs) ∧ (setCells w ⟨g, o, none⟩ i vs).heap.size = w.heap.size
  | [], i, w, g, o, t, cs, h, _ => ⟨by simpa [setCells] using h, Ext.refl _ w, rfl⟩
  | v :: vs, i, w, g, o, t, cs, h, hl => by
    have h1 := h.set (o + i) v
    rw [← Addr.add_mk] at h1
    obtain ⟨h2, h3, h4⟩ := setCells_blk vs (i + 1) _ g o t _ h1 (by simp only [List.length_cons] at hl; simp; omega)
    refine ⟨?_, (Ext.setCell w _ v (by rw [Addr.add_block]; rfl)).trans h3, by rw [show setCells w ⟨g, o, none⟩ i (v :: vs) = setCells (w.setCell ((⟨g, o, none⟩ : Addr).add i) v) ⟨g, o, none⟩ (i + 1) vs from rfl, h4]; simp⟩
    have hlt : o + i < cs.length := by simp only [List.length_cons] at hl; omega
    have e : (cs.set (o + i) v).take (o + (i + 1)) ++ vs ++ (cs.set (o + i) v).drop (o + (i + 1) + vs.length) = cs.take (o + i) ++ (v :: vs) ++ cs.drop (o + i + (v :: vs).length) := by
      rw [List.take_set, List.drop_set_of_lt (by omega)]
      rw [show o + (i + 1) = o + i + 1 by omega, List.take_succ_eq_append_getElem hlt]
      rw [List.set_append_right _ _ (by simp; omega)]
      simp [Nat.min_eq_left (Nat.le_of_lt hlt)]
      omega
    rw [e] at h2
    exact h2
theorem storeA {w : World} {g o n : Nat} {t : TypeId} {cs vs : List Value} {K : World → Prop} (h : Blk w g t cs) (hl : vs.length = n) (hn : n + o ≤ cs.length) (hv : ∀ v ∈ vs, v.oneCell' = true)
    (hK : ∀ w', Blk w' g t (cs.take o ++ vs ++ cs.drop (o + n)) → Ext (At1 g) w w' → w'.heap.size = w.heap.size → K w') : StoreA n (.pointer (some ⟨g, o, none⟩)) (.agg vs.toArray) K w := by
  refine ⟨by simp [hl], by simpa using hv, fun i hi => ?_, ?_⟩
  · rw [Addr.add_mk, h.cell, h.frozen]
    exact ⟨by rw [List.getElem?_eq_getElem (by omega)]; rfl, rfl⟩
  · obtain ⟨h1, h2, h3⟩ := setCells_blk vs 0 w g o t cs h (by omega)
    simp only [Nat.add_zero, hl] at h1
    exact hK _ h1 h2 h3
/-- a whole struct is written -/
theorem storeAll {w : World} {g n : Nat} {t : TypeId} {cs vs : List Value} {K : World → Prop} (h : Blk w g t cs) (hl : vs.length = n) (hn : cs.length = n) (hv : ∀ v ∈ vs, v.oneCell' = true)
    (hK : ∀ w', Blk w' g t vs → Ext (At1 g) w w' → w'.heap.size = w.heap.size → K w') : StoreA n (.pointer (some ⟨g, 0, none⟩)) (.agg vs.toArray) K w :=
  storeA h hl (by omega) hv fun w' hb he hs => hK w' (by simpa [← hn] using hb) he hs
theorem runS {P : Program} {s : Sem Value} {K : Value → World → Prop} {w w' : World} {v : Value} (h : s.run P w = .ok v w') (hK : K v w') : RunS P s K w := by
  unfold RunS; rw [h]; exact hK
theorem runU {P : Program} {s : Sem Unit} {K : World → Prop} {w w' : World} (h : s.run P w = .ok () w') (hK : K w') : RunU P s K w := by
  unfold RunU; rw [h]; exact hK
theorem callS {P : Program} {f : FuncId} {args : Array Value} {K K' : Value → World → Prop} {w : World} (h : CallS P f args K w) (hK : ∀ v w', K v w' → K' v w') : CallS P f args K' w :=
  Calls.mono h fun e w' he => by cases e <;> first | exact hK _ _ he | exact he
theorem drawT {w : World} {X : (World → Prop) → Prop} (h : X fun _ => True) : DrawS fun S => S w ∧ X S := ⟨fun _ => True, trivial, h⟩
theorem draw {w : World} {X : (World → Prop) → Prop} (S : World → Prop) (h0 : S w) (h : X S) : DrawS fun S => S w ∧ X S := ⟨S, h0, h⟩

/-! ### joins -/
theorem join0 {Z : World → Prop} {X : (World → Prop) → Prop} (I : World → Prop) (hZ : ∀ w, I w → Z w) (hX : ∀ J : World → Prop, (∀ w, I w → J w) → X J) : JoinS Z X := hX Z hZ
theorem join1 {Z : Value → World → Prop} {X : (Value → World → Prop) → Prop} (I : Value → World → Prop) (hZ : ∀ a w, I a w → Z a w) (hX : ∀ J : Value → World → Prop, (∀ a w, I a w → J a w) → X J) : JoinS Z X := hX Z hZ
theorem join2 {Z : Value → Value → World → Prop} {X : (Value → Value → World → Prop) → Prop} (I : Value → Value → World → Prop) (hZ : ∀ a b w, I a b w → Z a b w)
    (hX : ∀ J : Value → Value → World → Prop, (∀ a b w, I a b w → J a b w) → X J) : JoinS Z X := hX Z hZ
theorem join3 {Z : Value → Value → Value → World → Prop} {X : (Value → Value → Value → World → Prop) → Prop} (I : Value → Value → Value → World → Prop) (hZ : ∀ a b c w, I a b c w → Z a b c w)
    (hX : ∀ J : Value → Value → Value → World → Prop, (∀ a b c w, I a b c w → J a b c w) → X J) : JoinS Z X := hX Z hZ
theorem join4 {Z : Value → Value → Value → Value → World → Prop} {X : (Value → Value → Value → Value → World → Prop) → Prop} (I : Value → Value → Value → Value → World → Prop) (hZ : ∀ a b c d w, I a b c d w → Z a b c d w)
    (hX : ∀ J : Value → Value → Value → Value → World → Prop, (∀ a b c d w, I a b c d w → J a b c d w) → X J) : JoinS Z X := hX Z hZ

/-! ### loops, with a state that nobody computes -/
theorem least {p : Nat → Prop} (h : ∃ n, p n) : ∃ n, p n ∧ ∀ m, p m → n ≤ m := by
  obtain ⟨n, hn⟩ := h
  induction n using Nat.strongRecOn with
  | _ n ih =>
    by_cases hh : ∃ m, m < n ∧ p m
    · obtain ⟨m, hm, hp⟩ := hh
      exact ih m hm hp
    · exact ⟨n, hn, fun m hm => Nat.le_of_not_lt fun hlt => hh ⟨m, hlt, hm⟩⟩
theorem loopL {σ : Type} {n : Nat} {body : Cur n → Cur n} (inv : σ → List Value → World → Prop) (μ : σ → Nat) {vs : List Value} {w : World} (s : σ) (h0 : inv s vs w)
    (h : ∀ s vs w, vs.length = n → inv s vs w → ∀ L : Cur n, (∀ s' vs' w', vs'.length = n → inv s' vs' w' → μ s' < μ s → app n L vs' w') → app n (body L) vs w) : LoopL n body vs w := by
  classical
  have hex : ∀ vs w, (∃ s, inv s vs w) → ∃ k, (∃ s, inv s vs w ∧ μ s = k) ∧ ∀ m, (∃ s, inv s vs w ∧ μ s = m) → k ≤ m := fun vs w ⟨s, hs⟩ => least ⟨μ s, s, hs, rfl⟩
  refine ⟨fun vs w => ∃ s, inv s vs w, fun vs w => if hh : ∃ s, inv s vs w then (hex vs w hh).choose else 0, ⟨s, h0⟩, fun vs w hl hI => ?_⟩
  have hI' : ∃ s, inv s vs w := hI
  simp only [dif_pos hI']
  obtain ⟨s1, hs1, hm⟩ := (hex vs w hI').choose_spec.1
  refine h s1 vs w hl hs1 _ fun s' vs' w' hl' hs' hlt => ?_
  rw [app_curry _ _ _ _ hl']
  refine ⟨⟨s', hs'⟩, ?_⟩
  rw [dif_pos (⟨s', hs'⟩ : ∃ s, inv s vs' w')]
  exact Nat.lt_of_le_of_lt ((hex vs' w' ⟨s', hs'⟩).choose_spec.2 _ ⟨s', hs', rfl⟩) (by omega)
theorem loop0 {σ : Type} {body : (World → Prop) → World → Prop} (inv : σ → World → Prop) (μ : σ → Nat) {w : World} (s : σ) (h0 : inv s w)
    (h : ∀ s w, inv s w → ∀ L : World → Prop, (∀ s' w', inv s' w' → μ s' < μ s → L w') → body L w) : LoopS 0 body w :=
  (app_curry 0 _ [] w rfl).2 (loopL (n := 0) (fun s _ w => inv s w) μ s h0 fun s vs w _ hi L hL => h s w hi L fun s' w' hi' hlt => hL s' [] w' rfl hi' hlt)
theorem loop1 {σ : Type} {body : (Value → World → Prop) → Value → World → Prop} (inv : σ → Value → World → Prop) (μ : σ → Nat) {a : Value} {w : World} (s : σ) (h0 : inv s a w)
    (h : ∀ s a w, inv s a w → ∀ L : Value → World → Prop, (∀ s' a' w', inv s' a' w' → μ s' < μ s → L a' w') → body L a w) : LoopS 1 body a w :=
  (app_curry 1 _ [a] w rfl).2 (loopL (n := 1) (fun s vs w => ∃ a, vs = [a] ∧ inv s a w) μ s ⟨a, rfl, h0⟩ fun s vs w _ ⟨a, hv, hi⟩ L hL => by
    subst hv; exact h s a w hi L fun s' a' w' hi' hlt => hL s' [a'] w' rfl ⟨a', rfl, hi'⟩ hlt)
theorem loop2 {σ : Type} {body : (Value → Value → World → Prop) → Value → Value → World → Prop} (inv : σ → Value → Value → World → Prop) (μ : σ → Nat) {a b : Value} {w : World} (s : σ) (h0 : inv s a b w)
    (h : ∀ s a b w, inv s a b w → ∀ L : Value → Value → World → Prop, (∀ s' a' b' w', inv s' a' b' w' → μ s' < μ s → L a' b' w') → body L a b w) : LoopS 2 body a b w :=
  (app_curry 2 _ [a, b] w rfl).2 (loopL (n := 2) (fun s vs w => ∃ a b, vs = [a, b] ∧ inv s a b w) μ s ⟨a, b, rfl, h0⟩ fun s vs w _ ⟨a, b, hv, hi⟩ L hL => by
    subst hv; exact h s a b w hi L fun s' a' b' w' hi' hlt => hL s' [a', b'] w' rfl ⟨a', b', rfl, hi'⟩ hlt)
theorem loop3 {σ : Type} {body : (Value → Value → Value → World → Prop) → Value → Value → Value → World → Prop} (inv : σ → Value → Value → Value → World → Prop) (μ : σ → Nat) {a b c : Value} {w : World} (s : σ) (h0 : inv s a b c w)
    (h : ∀ s a b c w, inv s a b c w → ∀ L : Value → Value → Value → World → Prop, (∀ s' a' b' c' w', inv s' a' b' c' w' → μ s' < μ s → L a' b' c' w') → body L a b c w) : LoopS 3 body a b c w :=
  (app_curry 3 _ [a, b, c] w rfl).2 (loopL (n := 3) (fun s vs w => ∃ a b c, vs = [a, b, c] ∧ inv s a b c w) μ s ⟨a, b, c, rfl, h0⟩ fun s vs w _ ⟨a, b, c, hv, hi⟩ L hL => by
    subst hv; exact h s a b c w hi L fun s' a' b' c' w' hi' hlt => hL s' [a', b', c'] w' rfl ⟨a', b', c', rfl, hi'⟩ hlt)
end SG
/-! Rules: numbers, slices as lists, append, slice literals. No program stands here. -/
namespace SG
open Go Go.RowKit Go.Lib
set_option linter.unusedSimpArgs false
set_option linter.unusedVariables false

/-! ### numbers -/
theorem wi64 {n : Int} (h0 : -9223372036854775808 ≤ n) (h1 : n ≤ 9223372036854775807) : IntKind.i64.wrap n = n := by
  simp [IntKind.wrap, IntKind.signed, IntKind.bits]; omega
theorem wu64 {n : Int} (h0 : 0 ≤ n) (h1 : n ≤ 18446744073709551615) : IntKind.u64.wrap n = n := by
  simp [IntKind.wrap, IntKind.signed, IntKind.bits]; omega
theorem wu32 {n : Int} (h0 : 0 ≤ n) (h1 : n ≤ 4294967295) : IntKind.u32.wrap n = n := by
  simp [IntKind.wrap, IntKind.signed, IntKind.bits]; omega
theorem wu8 {n : Int} (h0 : 0 ≤ n) (h1 : n ≤ 255) : IntKind.u8.wrap n = n := by
  simp [IntKind.wrap, IntKind.signed, IntKind.bits]; omega
theorem wu8_mod (n : Int) : IntKind.u8.wrap n = n % 256 := by
  simp [IntKind.wrap, IntKind.signed, IntKind.bits]
theorem wu64_mod (n : Int) : IntKind.u64.wrap n = n % 18446744073709551616 := by
  simp [IntKind.wrap, IntKind.signed, IntKind.bits]
theorem wu32_mod (n : Int) : IntKind.u32.wrap n = n % 4294967296 := by
  simp [IntKind.wrap, IntKind.signed, IntKind.bits]

section
variable (a b : Int) (k : IntKind)
theorem bin_add : binV .add (.int k a) (.int k b) = some (.int k (k.wrap (a + b))) := by simp [binV, intV]
theorem bin_sub : binV .sub (.int k a) (.int k b) = some (.int k (k.wrap (a - b))) := by simp [binV, intV]
theorem bin_mul : binV .mul (.int k a) (.int k b) = some (.int k (k.wrap (a * b))) := by simp [binV, intV]
theorem bin_eql : binV .eql (.int k a) (.int k b) = some (.bool (decide (a = b))) := by simp [binV, intV]
theorem bin_neq : binV .neq (.int k a) (.int k b) = some (.bool (!decide (a = b))) := by simp [binV, intV]
theorem bin_lss : binV .lss (.int k a) (.int k b) = some (.bool (decide (a < b))) := by simp [binV, intV]
theorem bin_leq : binV .leq (.int k a) (.int k b) = some (.bool (decide (a ≤ b))) := by simp [binV, intV]
theorem bin_gtr : binV .gtr (.int k a) (.int k b) = some (.bool (decide (b < a))) := by simp [binV, intV]
theorem bin_geq : binV .geq (.int k a) (.int k b) = some (.bool (decide (b ≤ a))) := by simp [binV, intV]
theorem bin_or : binV .or (.int k a) (.int k b) = some (.int k (bits .or k a b)) := by simp [binV, intV]
theorem bin_and : binV .and (.int k a) (.int k b) = some (.int k (bits .and k a b)) := by simp [binV, intV]
theorem bin_xor : binV .xor (.int k a) (.int k b) = some (.int k (bits .xor k a b)) := by simp [binV, intV]
theorem bin_quo (h : b ≠ 0) : binV .quo (.int k a) (.int k b) = some (.int k (k.wrap (a.tdiv b))) := by simp [binV, intV, h]
theorem bin_rem (h : b ≠ 0) : binV .rem (.int k a) (.int k b) = some (.int k (a.tmod b)) := by simp [binV, intV, h]
theorem conv_int (k' : IntKind) : convIntV k' (.int k a) = some (.int k' (k'.wrap a)) := rfl
theorem max_int (k' : IntKind) : maxV (.int k a) (.int k' b) = some (.int k (if b > a then b else a)) := rfl
theorem min_int (k' : IntKind) : minV (.int k a) (.int k' b) = some (.int k (if b < a then b else a)) := rfl
end
theorem bin_shr {k k' : IntKind} {a b : Int} (h0 : 0 ≤ b) (h1 : b ≤ k.bits) : binV .shr (.int k a) (.int k' b) = some (.int k (a.fdiv (2 ^ b.toNat))) := by
  have : min b.toNat k.bits = b.toNat := by omega
  simp [binV, shiftV, h0, this]
theorem bin_shl {k k' : IntKind} {a b : Int} (h0 : 0 ≤ b) (h1 : b ≤ k.bits) : binV .shl (.int k a) (.int k' b) = some (.int k (k.wrap (a * 2 ^ b.toNat))) := by
  have : min b.toNat k.bits = b.toNat := by omega
  simp [binV, shiftV, h0, this]
theorem nil_ptr (a : Addr) : nilV (.pointer (some a)) = some (.pointer (some a)) := rfl
theorem field_ptr (g o n : Nat) : fieldAddrV n (.pointer (some ⟨g, o, none⟩)) = some (.pointer (some ⟨g, o + n, none⟩)) := by simp [fieldAddrV, Addr.add_mk]
theorem len_sl (a : Option Addr) (n c : Nat) : lenSliceV (.slice a n c) = some (.int .i64 n) := rfl
theorem len_str (s : ByteArray) : lenStrV (.string s) = some (.int .i64 s.size) := rfl
theorem pick_b (t : Bool) (x y : Value) : pickV (.bool t) x y = some (if t then x else y) := rfl
theorem not_b (t : Bool) : notV (.bool t) = some (.bool (!t)) := rfl
theorem bool_eql (a b : Bool) : boolV .eql (.bool a) (.bool b) = some (.bool (a == b)) := rfl
theorem bool_neq (a b : Bool) : boolV .neq (.bool a) (.bool b) = some (.bool (!(a == b))) := rfl
theorem index_sl {a : Addr} {len cap size : Nat} {k : IntKind} {i : Int} (h : 0 ≤ i ∧ i < (len : Int)) : indexAddrV size (.slice (some a) len cap) (.int k i) = some (.pointer (some (a.add (i.toNat * size)))) := by
  simp [indexAddrV, h]
theorem str_eql (a b : ByteArray) : binV .eql (.string a) (.string b) = some (.bool (a.toList == b.toList)) := rfl
theorem str_neq (a b : ByteArray) : binV .neq (.string a) (.string b) = some (.bool (!(a.toList == b.toList))) := rfl
theorem str_lss (a b : ByteArray) : binV .lss (.string a) (.string b) = some (.bool (Op.bytesLess a.toList b.toList)) := rfl
theorem extract_0 (a : Value) (l : List Value) : extractV 0 (.tuple (a :: l).toArray) = some a := by simp [extractV]
theorem extract_1 (a b : Value) (l : List Value) : extractV 1 (.tuple (a :: b :: l).toArray) = some b := by simp [extractV]
theorem extract_2 (a b c : Value) (l : List Value) : extractV 2 (.tuple (a :: b :: c :: l).toArray) = some c := by simp [extractV]

theorem pur {r : Option Value} {v : Value} {K : Value → Prop} (h : r = some v) (hK : K v) : PureS r K := by rw [h]; exact hK
theorem add64 {a b c : Int} (h : a + b = c) (h0 : -9223372036854775808 ≤ c) (h1 : c ≤ 9223372036854775807) : binV .add (.int .i64 a) (.int .i64 b) = some (.int .i64 c) := by rw [bin_add, h, wi64 h0 h1]
theorem sub64 {a b c : Int} (h : a - b = c) (h0 : -9223372036854775808 ≤ c) (h1 : c ≤ 9223372036854775807) : binV .sub (.int .i64 a) (.int .i64 b) = some (.int .i64 c) := by rw [bin_sub, h, wi64 h0 h1]
theorem conv64u {k : IntKind} {a : Int} (h0 : 0 ≤ a) (h1 : a ≤ 18446744073709551615) : convIntV .u64 (.int k a) = some (.int .u64 a) := by rw [conv_int, wu64 h0 h1]
theorem conv64 {k : IntKind} {a : Int} (h0 : -9223372036854775808 ≤ a) (h1 : a ≤ 9223372036854775807) : convIntV .i64 (.int k a) = some (.int .i64 a) := by rw [conv_int, wi64 h0 h1]
theorem conv32u {k : IntKind} {a : Int} (h0 : 0 ≤ a) (h1 : a ≤ 4294967295) : convIntV .u32 (.int k a) = some (.int .u32 a) := by rw [conv_int, wu32 h0 h1]
theorem conv8u {k : IntKind} {a : Int} : convIntV .u8 (.int k a) = some (.int .u8 (a % 256)) := by rw [conv_int, wu8_mod]

/-! ### a slice that reads as cells -/
def Sl (w : World) (x : Value) (m size : Nat) (xs : List Value) : Prop :=
  ∃ A c, x = .slice A m c ∧ xs.length = m * size ∧ m ≤ c ∧ (A = none → m = 0) ∧ ∀ ad, A = some ad → At w ad xs
namespace Sl
variable {S : Nat → Prop} {w w' : World} {x : Value} {m size : Nat} {xs : List Value}
theorem nil_ (w : World) (size : Nat) : Sl w (.slice none 0 0) 0 size [] := ⟨none, 0, rfl, by simp, Nat.le_refl _, fun _ => rfl, fun _ h => by cases h⟩
theorem ext (h : Sl w x m size xs) (e : Ext S w w') (hn : ∀ g, x.ownBlock = some g → ¬ S g) : Sl w' x m size xs := by
  obtain ⟨A, c, rfl, hl, hc, h0, hA⟩ := h
  refine ⟨A, c, rfl, hl, hc, h0, fun ad hA' i v hv => ?_⟩
  subst hA'
  have hcell := hA ad rfl i v hv
  have hlt := World.block_lt_of_cell? _ _ hcell
  rw [Addr.add_block] at hlt
  rw [e.cell (by rw [Addr.add_block]; exact hlt) (by rw [Addr.add_block]; exact hn _ rfl)]
  exact hcell
theorem no (h : Sl w x m size xs) (e : Ext No w w') : Sl w' x m size xs := h.ext e fun _ _ hh => hh
theorem len (h : Sl w x m size xs) : lenSliceV x = some (.int .i64 m) := by obtain ⟨A, c, rfl, _⟩ := h; rfl
theorem length (h : Sl w x m size xs) : xs.length = m * size := by obtain ⟨A, c, rfl, hl, _⟩ := h; exact hl
/-- the i-th element's address, and its cells -/
theorem at_ (h : Sl w x m size xs) {i : Nat} (hi : i < m) : ∃ ad, indexAddrV size x (.int .i64 (i : Int)) = some (.pointer (some ad)) ∧ At w ad ((xs.drop (i * size)).take size) ∧ (x.ownBlock = some ad.block) := by
  obtain ⟨A, c, rfl, hl, hc, h0, hA⟩ := h
  cases A with
  | none => have := h0 rfl; omega
  | some ad =>
    refine ⟨ad.add (i * size), ?_, ((hA ad rfl).drop _).take _, by simp [Value.ownBlock, Addr.add_block]⟩
    rw [index_sl ⟨by omega, by omega⟩]; simp
theorem own {base : Nat} {e : TypeId} (h : w.ownsRow base e size x m xs) : Sl w x m size xs := by
  refine ⟨x.ownBlock.map fun g => ⟨g, 0, none⟩, ?_⟩
  have hc := fun g hg => h.cells (g := g) hg
  rcases h.2 with ⟨rfl, rfl⟩ | ⟨g, cap, cur, rfl, hb, hg, hnc, _⟩
  · exact ⟨0, rfl, h.1, Nat.le_refl _, fun _ => rfl, fun _ h => by cases h⟩
  · refine ⟨cap, rfl, h.1, hnc, (fun h => by cases h), (fun ad had => ?_)⟩
    simp only [Value.ownBlock, Option.map_some, Option.some.injEq] at had
    subst had
    exact fun i v hv => hc g rfl i v hv
end Sl
def flat {α : Type} (f : α → List Value) (l : List α) : List Value := l.flatMap f
theorem flat_nil {α : Type} (f : α → List Value) : flat f [] = [] := rfl
theorem flat_append {α : Type} (f : α → List Value) (l r : List α) : flat f (l ++ r) = flat f l ++ flat f r := by simp [flat]
theorem flat_one {α : Type} (f : α → List Value) (a : α) : flat f [a] = f a := by simp [flat]
theorem flat_length {α : Type} (f : α → List Value) {size : Nat} (hf : ∀ a, (f a).length = size) (l : List α) : (flat f l).length = l.length * size := by
  induction l with
  | nil => simp [flat]
  | cons a l ih => simp only [flat, List.flatMap_cons, List.length_append, hf, List.length_cons] at ih ⊢; rw [ih, Nat.add_mul]; omega
theorem flat_at {α : Type} (f : α → List Value) {size : Nat} (hf : ∀ a, (f a).length = size) : ∀ (l : List α) (i : Nat) (a : α), l[i]? = some a → ((flat f l).drop (i * size)).take size = f a
  | [], i, a, h => by simp at h
  | x :: l, 0, a, h => by
    simp only [List.getElem?_cons_zero, Option.some.injEq] at h
    subst h
    have : flat f (x :: l) = f x ++ flat f l := by simp [flat]
    rw [this]
    simp [← hf x]
  | x :: l, i + 1, a, h => by
    have : flat f (x :: l) = f x ++ flat f l := by simp [flat]
    rw [this, show (i + 1) * size = (f x).length + i * size by rw [hf, Nat.add_mul]; omega, List.drop_append]
    simp only [List.drop_length_add_append, Nat.add_sub_cancel_left]
    have h0 : (f x).drop ((f x).length + i * size) = [] := by simp
    rw [h0, List.nil_append]
    exact flat_at f hf l i a (by simpa using h)
theorem flat_take {α : Type} (f : α → List Value) {size : Nat} (hf : ∀ a, (f a).length = size) : ∀ (l : List α) (i : Nat), (flat f l).take (i * size) = flat f (l.take i)
  | [], i => by simp [flat]
  | x :: l, 0 => by simp [flat]
  | x :: l, i + 1 => by
    have : flat f (x :: l) = f x ++ flat f l := by simp [flat]
    have h2 : flat f ((x :: l).take (i + 1)) = f x ++ flat f (l.take i) := by simp [flat]
    rw [this, h2, show (i + 1) * size = (f x).length + i * size by rw [hf, Nat.add_mul]; omega, List.take_length_add_append, flat_take f hf l i]
theorem flat_drop {α : Type} (f : α → List Value) {size : Nat} (hf : ∀ a, (f a).length = size) : ∀ (l : List α) (i : Nat), (flat f l).drop (i * size) = flat f (l.drop i)
  | [], i => by simp [flat]
  | x :: l, 0 => by simp [flat]
  | x :: l, i + 1 => by
    have : flat f (x :: l) = f x ++ flat f l := by simp [flat]
    have h2 : flat f ((x :: l).drop (i + 1)) = flat f (l.drop i) := by simp [flat]
    rw [this, h2, show (i + 1) * size = (f x).length + i * size by rw [hf, Nat.add_mul]; omega, List.drop_length_add_append, flat_drop f hf l i]

/-! ### append -/
/-- what a type is good for, off a program's table -/
structure ElemT (P : Program) (t e : TypeId) (size bytes : Nat) (z : Value) : Prop where
  under : P.underlying t = some (.slice e)
  info : (P.info? e).map (fun i => (i.zero, i.size, i.bytes)) = some (some z, size, bytes)
  zs : z.cells.size = size
  pos : 0 < size
  small : size ≤ 1000
section
variable {P : Program} {t e : TypeId} {size bytes : Nat} {z : Value}
theorem run_append_none (hT : ElemT P t e size bytes z) (ty : TypeId) {w : World} {base n c : Nat} {v : Value} {xs : List Value} (hown : w.ownsRow base e size v n xs) :
    (Builtin.append_ #[t, t] ty #[v, .slice none 0 c]).run P w = .ok v w := by
  obtain ⟨i, hi, hz, hs, hb⟩ := info_parts hT.info
  rcases hown.2 with ⟨rfl, rfl⟩ | ⟨g, cap, cur, rfl, _, _, hnc, _⟩
  · simp [Builtin.append_, run_underlying hT.under, Go.sizeOf, typeInfo, hi, Builtin.lenOf, Builtin.firstCells]
  · simp [Builtin.append_, run_underlying hT.under, Go.sizeOf, typeInfo, hi, Builtin.lenOf, Builtin.firstCells, hnc, storeCells]
theorem append_sl (hT : ElemT P t e size bytes z) (ty : TypeId) {w : World} {base n m : Nat} {v x : Value} {xs news : List Value} {K : Value → World → Prop} (hown : w.ownsRow base e size v n xs)
    (hs : Sl w x m size news) (h1 : ∀ u ∈ news, u.oneCell' = true) (hbytes : (n + m) * bytes ≤ 140737488355328) (h63 : n + m ≤ 140737488355328) (hbase : base ≤ w.heap.size)
    (hK : ∀ v' w', w'.ownsRow base e size v' (n + m) (xs ++ news) → w.grownBy w' v.ownBlock → (v'.ownBlock = v.ownBlock ∨ v'.ownBlock = some w.heap.size) → K v' w') :
    RunS P (Builtin.append_ #[t, t] ty [v, x].toArray) K w := by
  obtain ⟨i, hi, hz, hsz, hb⟩ := info_parts hT.info
  obtain ⟨A, c, rfl, hl, hc, h0, hA⟩ := hs
  cases A with
  | none =>
    have hm := h0 rfl
    subst hm
    have hn : news = [] := List.eq_nil_of_length_eq_zero (by simpa using hl)
    subst hn
    exact runS (run_append_none hT ty hown) (hK v w (by simpa using hown) (World.grownBy.refl w _) (.inl rfl))
  | some ad =>
    obtain ⟨v', w', hrun, h2, h3, _, h5⟩ := run_append_own_at (P := P) w base t ty e i z size bytes hT.under hi hz hsz hb hT.zs hT.pos v n xs hown ad m c news hl (hA ad rfl) h1 (by unfold maxLen; omega) hbytes hbase
    exact runS hrun (hK v' w' h2 h3 h5)
theorem append_str (hT : ElemT P t e 1 1 (.int .u8 0)) {u : TypeId} (hu : P.underlying u = some .string) (ty : TypeId) {w : World} {base n : Nat} {v : Value} {s : ByteArray} {xs : List Value} {K : Value → World → Prop} (hown : w.ownsRow base e 1 v n xs)
    (h63 : n + s.size ≤ 140737488355328) (hbase : base ≤ w.heap.size)
    (hK : ∀ v' w', w'.ownsRow base e 1 v' (n + s.size) (xs ++ strCells s) → w.grownBy w' v.ownBlock → K v' w') :
    RunS P (Builtin.append_ #[t, u] ty [v, .string s].toArray) K w := by
  obtain ⟨i, hi, hz, hsz, hb⟩ := info_parts hT.info
  obtain ⟨v', w', hrun, h2, h3, _⟩ := run_append_own_string (P := P) w base t u ty e i hT.under hu hi hz hsz hb v n xs hown s (by unfold maxLen; omega) h63 hbase
  exact runS hrun (hK v' w' h2 h3)

theorem fill_foldl : ∀ (l : List Value) (k : Nat) (acc : Array Value), acc.size = k + l.length → ((l.zipIdx k).foldl (fun cs (p : Value × Nat) => cs.setIfInBounds (0 + p.2) p.1) acc).toList = acc.toList.take k ++ l
  | [], k, acc, h => by
    have hk : acc.toList.length ≤ k := by simp at h; simp [h]
    simp [List.take_of_length_le hk]
  | x :: l, k, acc, h => by
    simp only [List.length_cons] at h
    rw [List.zipIdx_cons, List.foldl_cons, fill_foldl l (k + 1) _ (by simp; omega)]
    simp only [Array.toList_setIfInBounds, Nat.zero_add]
    have hk : k < acc.toList.length := by simp; omega
    rw [List.take_succ_eq_append_getElem (by simpa using hk), List.take_set]
    have : (List.take k acc.toList).set k x = List.take k acc.toList := List.set_eq_of_length_le (by simp; omega)
    simp [this]
theorem fill_one {size : Nat} {cells : Array Value} {v : Value} (hv : v.cells.size = size) (hc : cells.size = size) : Instr.fill (fun i => some (i * size, size)) cells [(0, v)] = some v.cells := by
  have h1 : (v.cells.zipIdx.foldl (fun cs (p : Value × Nat) => cs.setIfInBounds (0 + p.2) p.1) cells) = v.cells := by
    apply Array.ext'
    rw [← Array.foldl_toList, Array.toList_zipIdx, fill_foldl _ 0 cells (by simp [hc, hv])]
    simp
  simp only [Instr.fill, Nat.zero_mul, hv, hc]
  simp
  simpa using h1
theorem build1 (hT : ElemT P t e size bytes z) {v : Value} (hv : v.cells.size = size) {w : World} {K : Value → World → Prop}
    (hK : ∀ w', Blk w' w.heap.size e v.cells.toList → Ext No w w' → w'.heap.size = w.heap.size + 1 → K (.slice (some ⟨w.heap.size, 0, none⟩) 1 1) w') :
    RunS P (Instr.buildSlice t 1 [(0, v)].toArray) K w := by
  obtain ⟨i, hi, hz, hsz, hb⟩ := info_parts hT.info
  have hs := hT.small
  have hpos := hT.pos
  refine runS (v := .slice (some ⟨w.heap.size, 0, none⟩) 1 1) (w' := w.alloc (.cells v.cells e)) ?_ (hK _ ?_ (Ext.alloc w _) (by simp))
  · have hne : size ≠ 0 := by omega
    have hle : ¬ 16777216 < size := by omega
    simp [Instr.buildSlice, run_underlying hT.under, Go.sizeOf, typeInfo, hi, hsz, zeroValue, hz, hne, hle, newRow]
    rw [fill_one hv (by simp)]
    rfl
  · have := Blk.new w v.cells.toList e
    simpa using this
theorem build0 (hT : ElemT P t e size bytes z) {w : World} {K : Value → World → Prop}
    (hK : ∀ w', Blk w' w.heap.size e [] → Ext No w w' → w'.heap.size = w.heap.size + 1 → K (.slice (some ⟨w.heap.size, 0, none⟩) 0 0) w') :
    RunS P (Instr.buildSlice t 0 [].toArray) K w := by
  obtain ⟨i, hi, hz, hsz, hb⟩ := info_parts hT.info
  refine runS (v := .slice (some ⟨w.heap.size, 0, none⟩) 0 0) (w' := w.alloc (.cells #[] e)) ?_ (hK _ (Blk.new w [] e) (Ext.alloc w _) (by simp))
  simp [Instr.buildSlice, run_underlying hT.under, Go.sizeOf, typeInfo, hi, hsz, newRow, Instr.fill, Array.range_zero']
end
theorem Blk.sl {w : World} {g : Nat} {t : TypeId} {cs : List Value} (h : Blk w g t cs) {n c size : Nat} (hn : n * size = cs.length) (hc : n ≤ c) : Sl w (.slice (some ⟨g, 0, none⟩) n c) n size cs :=
  ⟨some ⟨g, 0, none⟩, c, rfl, hn.symm, hc, (fun h => by cases h), (fun ad had => by cases had; exact At.of_blk h)⟩
theorem Blk.owns {w : World} {g : Nat} {t : TypeId} {cs : List Value} (h : Blk w g t cs) {n size base : Nat} (hn : n * size = cs.length) (hb : base ≤ g) (hm : n ≤ 140737488355328) : w.ownsRow base t size (.slice (some ⟨g, 0, none⟩) n n) n cs :=
  ⟨hn.symm, .inr ⟨g, n, cs.toArray, rfl, hb, h, Nat.le_refl _, by unfold maxLen; omega, by simp [hn], by simp [hn]⟩⟩
theorem owns_ext {S : Nat → Prop} {w w' : World} {base : Nat} {e : TypeId} {size n : Nat} {v : Value} {xs : List Value} (h : w.ownsRow base e size v n xs) (k : Ext S w w') (hn : ∀ g, v.ownBlock = some g → ¬ S g) : w'.ownsRow base e size v n xs := by
  refine ⟨h.1, ?_⟩
  rcases h.2 with h0 | ⟨g, cap, cur, rfl, hb, hg, rest⟩
  · exact .inl h0
  · exact .inr ⟨g, cap, cur, rfl, hb, (k.blk g (Array.getElem?_eq_some_iff.1 hg).1 (hn g rfl)).trans hg, rest⟩
theorem owns_base {w : World} {base base' : Nat} {e : TypeId} {size n : Nat} {v : Value} {xs : List Value} (h : w.ownsRow base e size v n xs) (hb : ∀ g, v.ownBlock = some g → base' ≤ g) : w.ownsRow base' e size v n xs := by
  refine ⟨h.1, ?_⟩
  rcases h.2 with h0 | ⟨g, cap, cur, rfl, _, hg, rest⟩
  · exact .inl h0
  · exact .inr ⟨g, cap, cur, rfl, hb g rfl, hg, rest⟩

/-! ### bytes -/
def byteCells (l : List UInt8) : List Value := l.map fun b => .int .u8 (b.toNat : Int)
theorem byteCells_append (l r : List UInt8) : byteCells (l ++ r) = byteCells l ++ byteCells r := by simp [byteCells]
theorem byteCells_length (l : List UInt8) : (byteCells l).length = l.length := by simp [byteCells]
theorem byteCells_one (l : List UInt8) : ∀ u ∈ byteCells l, u.oneCell' = true := by
  intro u hu
  simp only [byteCells, List.mem_map] at hu
  obtain ⟨b, _, rfl⟩ := hu
  rfl
theorem strCells_eq (s : ByteArray) : strCells s = byteCells s.data.toList := rfl
end SG
/-! Laid out by a program of ours: what each function of the cut comes to, over named values; and that it is so. -/
namespace Go.Proofs.Ytambcnlkdnmekaa
set_option linter.unusedVariables false
set_option maxRecDepth 100000
open Go SG

/-! number 3 -/
def a3 : Ann :=
 (.q (.r [.plain 1]) (.q (.r [.plain 9]) (.j [] 68719345936 (.q (.r [.plain 1]) (.b (.l [8] 68719345936 (.q (.q (.r [.plain 4]) (.c .s .s)) (.q (.b (.q (.d [0, 0, 0, 6, 14, 31, 0, 0, 0, 384, 896, 2047, 4095] (.pur 0 (.pur 1 (.pur 2 (.pur 3 (.pur 6 (.pur 7 (.pur 8 (.pur 9 (.hld 4 (.hld 10 (.act 5 (.act 11 (.pur 12 .fin)))))))))))))) (.c (.q (.r [.plain 1]) .s) .s))) (.r [.plain 3]))))))
  (.j [] 37778931862888442234384 (.q (.r [.plain 1]) (.b (.l [9] 37778931862888442234384 (.q (.q (.r [.plain 4]) (.c .s .s)) (.q (.b (.q (.r [.plain 7]) (.q (.r [.plain 3, .grp 7 [57] 285978576338026496, .plain 1]) (.c (.q (.d [0, 1, 3, 7, 15, 31, 63, 127, 63, 63, 831, 1855, 4095, 8191, 16383, 32767, 65535] (.pur 0 (.act 1 (.pur 2 (.pur 3 (.pur 4 (.pur 5 (.ite 5 (.skp 6 (.skp 7 (.skp 8 (.skp 9 (.skp 10 (.skp 11 (.skp 12 (.skp 13 (.skp 14 (.pur 15 (.pur 16 .fin))))))))))) (.pur 6 (.pur 8 (.pur 9 (.pur 10 (.hld 11 (.act 7 (.act 12 (.pur 13 (.pur 14 (.pur 15 (.pur 16 .fin))))))))))))))))))) .s) .s)))) (.r [.plain 3]))))))
  (.q (.r [.plain 5, .grp 5 [84] 37476700408053504415891456, .plain 2, .grp 5 [91] 4797017652230848565234106368, .plain 2, .grp 1 [94] 19807040628566084398385987584, .plain 2]) .s)))))
def s3 (a0 b1 : Value) (K : Value → World → Prop) (w : World) : Prop :=
 RunS Try.prog (Instr.build 26 [].toArray) (fun t11 w =>
 BoxS 26 t11 (fun t12 w =>
 RunS Try.prog (Instr.build 26 [].toArray) (fun t13 w =>
 BoxS 26 t13 (fun t14 w =>
 RunS Try.prog (Instr.build 26 [].toArray) (fun t15 w =>
 BoxS 26 t15 (fun t16 w =>
 JoinS (fun (w : World) =>
 JoinS (fun (w : World) =>
 CallS Try.prog 12 [t12, t14].toArray (fun t77 w =>
 PureS (binV .eql t77 (Value.int .i64 0)) fun t78 =>
 JoinS (fun (t84 : Value) (w : World) =>
 PureS (pickV t78 t84 (Value.bool false)) fun t85 =>
 JoinS (fun (t91 : Value) (w : World) =>
 PureS (pickV t85 t91 (Value.bool false)) fun t92 =>
 JoinS (fun (t94 : Value) (w : World) =>
 PureS (pickV t92 t94 (Value.bool false)) fun t95 =>
 K t95 w
 ) fun J4 =>
 IfB t92 true (
 CallS Try.prog 14 [].toArray (fun t94_1 w =>
 J4 t94_1 w
 ) w
 ) (
 J4 undef w
 )
 ) fun J3 =>
 IfB t85 true (
 CallS Try.prog 10 [t12].toArray (fun t88 w =>
 CallS Try.prog 10 [t16].toArray (fun t90 w =>
 PureS (binV .eql t88 t90) fun t91_1 =>
 J3 t91_1 w
 ) w
 ) w
 ) (
 J3 undef w
 )
 ) fun J2 =>
 IfB t78 true (
 CallS Try.prog 9 [t12].toArray (fun t81 w =>
 CallS Try.prog 9 [t16].toArray (fun t83 w =>
 CallS Try.prog 13 [t81, t83].toArray (fun t84_1 w =>
 J2 t84_1 w
 ) w
 ) w
 ) w
 ) (
 J2 undef w
 )
 ) w
 ) fun J1 =>
 LoopS 1 (fun L5 (i9 : Value) (w : World) =>
 PureS (lenSliceV b1) fun t38 =>
 PureS (binV .lss i9 t38) fun t39 =>
 CondS t39 (
 PureS (indexAddrV 4 b1 i9) fun t45 =>
 LoadA 4 t45 (fun t46 w =>
 CallS Try.prog 8 [t14, t46].toArray (fun t47 w =>
 PureS (binV .eql t47 (Value.int .i64 0)) fun t49 =>
 JoinS (fun (t57 : Value) (w : World) =>
 PureS (pickV t49 t57 (Value.bool false)) fun t58 =>
 CondS t58 (
 DrawS fun S7 => S7 w.drew ∧ (
 CallS Try.prog 9 [t16].toArray (fun t60 w =>
 S7 w ∧ (
 PureS (lenSliceV t60) fun t61 =>
 PureS (binV .add t61 (Value.int .i64 1)) fun t62 =>
 PureS (binV .gtr t62 (Value.int .i64 4096)) fun t63 =>
 CondS t63 (
 PureS (pickV (Value.bool true) (Value.bool true) undef) fun t74 =>
 K t74 w
 ) (
 PureS (indexAddrV 4 b1 i9) fun t69 =>
 HeldA 4 S7 t69 (fun t70 =>
 CallS Try.prog 10 [t16].toArray (fun t66 w =>
 S7 w ∧ (
 CallS Try.prog 11 [t70].toArray (fun t71 w =>
 PureS (binV .add t66 t71) fun t72 =>
 PureS (binV .gtr t72 (Value.int .i64 4194304)) fun t73 =>
 PureS (pickV (Value.bool false) (Value.bool true) t73) fun t74_1 =>
 K t74_1 w
 ) w
 )
 ) w
 )
 )
 )
 ) w.drew
 )
 ) (
 PureS (binV .add i9 (Value.int .i64 1)) fun t41 =>
 L5 t41 w
 )
 ) fun J6 =>
 IfB t49 true (
 PureS (indexAddrV 4 b1 i9) fun t54 =>
 LoadA 4 t54 (fun t55 w =>
 CallS Try.prog 8 [t16, t55].toArray (fun t56 w =>
 PureS (binV .neq t56 (Value.int .i64 0)) fun t57_1 =>
 J6 t57_1 w
 ) w
 ) w
 ) (
 J6 undef w
 )
 ) w
 ) w
 ) (
 J1 w
 )
 ) (Value.int .i64 0) w
 ) fun J0 =>
 LoopS 1 (fun L8 (i8 : Value) (w : World) =>
 PureS (lenSliceV a0) fun t19 =>
 PureS (binV .lss i8 t19) fun t20 =>
 CondS t20 (
 DrawS fun S9 => S9 w.drew ∧ (
 PureS (indexAddrV 4 a0 i8) fun t26 =>
 PureS (indexAddrV 4 a0 i8) fun t32 =>
 HeldA 4 S9 t26 (fun t27 =>
 HeldA 4 S9 t32 (fun t33 =>
 CallS Try.prog 8 [t12, t27].toArray (fun t28 w =>
 S9 w ∧ (
 CallS Try.prog 8 [t16, t33].toArray (fun t34 w =>
 PureS (binV .neq t28 t34) fun t35 =>
 CondS t35 (
 K (Value.bool false) w
 ) (
 PureS (binV .add i8 (Value.int .i64 1)) fun t22 =>
 L8 t22 w
 )
 ) w
 )
 ) w.drew
 )
 )
 )
 ) (
 J0 w
 )
 ) (Value.int .i64 0) w
 ) w
 ) w
 ) w
 ) w
 ) w
 ) w
theorem s3_den (a0 b1 : Value) (K : Value → World → Prop) (w : World) : denFn Try.prog false (bodyOf Try.f3) Try.f3.results a3 [a0, b1] K NoP w = s3 a0 b1 K w := by kernel_rfl
theorem s3_dst : dstsOk (2 + 94) (bodyOf Try.f3) = true := by kernel_rfl
theorem s3_ann : annOk (bodyOf Try.f3) a3 = true := by kernel_rfl
theorem s3_call {a0 b1 : Value} {K : Value → World → Prop} {w : World} (hm : Try.prog.follows .mixedOrders = true) (h : s3 a0 b1 K w) : CallS Try.prog 3 #[a0, b1] K w :=
  fn_call (args := [a0, b1]) (m := 94) hm Try.func3 (by kernel_rfl) (rs := Try.f3.results) rfl Try.ntmps3 s3_dst s3_ann (by rw [s3_den]; exact h)

/-! number 4 -/
def a4 : Ann :=
 (.q (.r [.plain 1]) (.q (.r [.plain 3]) (.j [] 16773184 (.q (.r [.plain 1]) (.b (.l [6] 16773184 (.q (.q (.r [.plain 4]) (.c .s .s)) (.q (.b (.r [.plain 6])) (.r [.plain 3]))))))
  (.q (.r [.plain 6]) (.q (.r [.plain 2]) (.j [] 4396972769792 (.q (.r [.plain 1]) (.b (.l [9] 4396972769792 (.q (.q (.r [.plain 4]) (.c .s .s)) (.q (.b (.r [.plain 6])) (.r [.plain 3]))))))
  (.q (.r [.plain 4, .grp 4 [49] 1055531162664960, .plain 2, .grp 4 [55] 67553994410557440, .plain 2, .grp 3 [60] 2017612633061982208, .plain 2, .grp 1 [63] 9223372036854775808, .plain 2]) .s)))))))
def s4 (l0 more1 : Value) (K : Value → World → Prop) (w : World) : Prop :=
 RunS Try.prog (Instr.build 26 [].toArray) (fun t10 w =>
 BoxS 26 t10 (fun t11 w =>
 JoinS (fun (w : World) =>
 CallS Try.prog 9 [t11].toArray (fun t25 w =>
 CallS Try.prog 10 [t11].toArray (fun t27 w =>
 CallS Try.prog 15 [t11].toArray (fun t29 w =>
 JoinS (fun (w : World) =>
 CallS Try.prog 16 [t11].toArray (fun t43 w =>
 PureS (binV .eql t43 (Value.int .i64 0)) fun t44 =>
 JoinS (fun (t49 : Value) (w : World) =>
 PureS (pickV t44 t49 (Value.bool false)) fun t50 =>
 JoinS (fun (t55 : Value) (w : World) =>
 PureS (pickV t50 t55 (Value.bool false)) fun t56 =>
 JoinS (fun (t60 : Value) (w : World) =>
 PureS (pickV t56 t60 (Value.bool false)) fun t61 =>
 JoinS (fun (t63 : Value) (w : World) =>
 PureS (pickV t61 t63 (Value.bool false)) fun t64 =>
 K t64 w
 ) fun J5 =>
 IfB t61 true (
 CallS Try.prog 14 [].toArray (fun t63_1 w =>
 J5 t63_1 w
 ) w
 ) (
 J5 undef w
 )
 ) fun J4 =>
 IfB t56 true (
 CallS Try.prog 16 [t11].toArray (fun t59 w =>
 PureS (binV .eql t59 (Value.int .i64 6)) fun t60_1 =>
 J4 t60_1 w
 ) w
 ) (
 J4 undef w
 )
 ) fun J3 =>
 IfB t50 true (
 CallS Try.prog 10 [t11].toArray (fun t53 w =>
 PureS (binV .eql t53 t27) fun t55_1 =>
 J3 t55_1 w
 ) w
 ) (
 J3 undef w
 )
 ) fun J2 =>
 IfB t44 true (
 CallS Try.prog 9 [t11].toArray (fun t47 w =>
 CallS Try.prog 13 [t47, t25].toArray (fun t49_1 w =>
 J2 t49_1 w
 ) w
 ) w
 ) (
 J2 undef w
 )
 ) w
 ) fun J1 =>
 LoopS 1 (fun L6 (i9 : Value) (w : World) =>
 PureS (lenSliceV more1) fun t32 =>
 PureS (binV .lss i9 t32) fun t33 =>
 CondS t33 (
 PureS (indexAddrV 4 more1 i9) fun t39 =>
 LoadA 4 t39 (fun t40 w =>
 CallS Try.prog 8 [t11, t40].toArray (fun t41 w =>
 PureS (binV .add i9 (Value.int .i64 1)) fun t35 =>
 L6 t35 w
 ) w
 ) w
 ) (
 J1 w
 )
 ) (Value.int .i64 0) w
 ) w
 ) w
 ) w
 ) fun J0 =>
 LoopS 1 (fun L7 (i6 : Value) (w : World) =>
 PureS (lenSliceV l0) fun t14 =>
 PureS (binV .lss i6 t14) fun t15 =>
 CondS t15 (
 PureS (indexAddrV 4 l0 i6) fun t21 =>
 LoadA 4 t21 (fun t22 w =>
 CallS Try.prog 8 [t11, t22].toArray (fun t23 w =>
 PureS (binV .add i6 (Value.int .i64 1)) fun t17 =>
 L7 t17 w
 ) w
 ) w
 ) (
 J0 w
 )
 ) (Value.int .i64 0) w
 ) w
 ) w
theorem s4_den (l0 more1 : Value) (K : Value → World → Prop) (w : World) : denFn Try.prog false (bodyOf Try.f4) Try.f4.results a4 [l0, more1] K NoP w = s4 l0 more1 K w := by kernel_rfl
theorem s4_dst : dstsOk (2 + 63) (bodyOf Try.f4) = true := by kernel_rfl
theorem s4_ann : annOk (bodyOf Try.f4) a4 = true := by kernel_rfl
theorem s4_call {l0 more1 : Value} {K : Value → World → Prop} {w : World} (hm : Try.prog.follows .mixedOrders = true) (h : s4 l0 more1 K w) : CallS Try.prog 4 #[l0, more1] K w :=
  fn_call (args := [l0, more1]) (m := 63) hm Try.func4 (by kernel_rfl) (rs := Try.f4.results) rfl Try.ntmps4 s4_dst s4_ann (by rw [s4_den]; exact h)

/-! number 5 -/
def a5 : Ann :=
 (.q (.r [.plain 1]) (.q (.r [.plain 10]) (.q (.r [.plain 8]) (.q (.q (.r [.plain 4, .grp 5 [35] 66571993088, .plain 1]) (.c (.q (.r [.plain 1]) .s) .s)) (.j [] 18014261070529040 (.q (.r [.plain 1]) (.b (.l [9] 18014261070529040 (.q (.q (.r [.plain 4]) (.c .s .s)) (.q (.b (.q (.d [0, 0, 3, 7, 15, 0, 0, 96, 224, 511, 1023] (.pur 0 (.pur 1 (.pur 2 (.pur 5 (.pur 6 (.pur 7 (.hld 3 (.hld 8 (.act 4 (.act 9 (.pur 10 .fin)))))))))))) (.c (.q (.r [.plain 1]) .s) .s))) (.r [.plain 3]))))))
  (.q (.q (.r [.plain 2]) (.c (.q (.r [.plain 2]) .s) .s)) (.q (.r [.plain 9]) (.q (.r [.plain 4, .grp 2 [68] 442721857769029238784, .plain 2, .grp 4 [74] 35417748621522339102720, .plain 2, .grp 1 [77] 151115727451828646838272, .plain 2]) .s))))))))
def s5 (seq0 l1 : Value) (K : Value → World → Prop) (w : World) : Prop :=
 RunS Try.prog (Instr.buildSlice 22 0 [].toArray) (fun t15 w =>
 RunS Try.prog (Builtin.append_ #[22, 22] 22 [t15, l1].toArray) (fun t17 w =>
 CallS Try.prog 17 [seq0, t17].toArray (fun t18 w =>
 PureS (extractV 0 t18) fun t19 =>
 PureS (extractV 1 t18) fun t20 =>
 CallS Try.prog 18 [seq0, l1].toArray (fun t24 w =>
 PureS (extractV 0 t24) fun t25 =>
 PureS (extractV 1 t24) fun t26 =>
 PureS (binV .neq t20 t26) fun t29 =>
 JoinS (fun (t35 : Value) (w : World) =>
 PureS (pickV t29 (Value.bool true) t35) fun t36 =>
 CondS t36 (
 K (Value.bool false) w
 ) (
 JoinS (fun (w : World) =>
 PureS (binV .neq t20 (Value.int .i64 0)) fun t55 =>
 CondS t55 (
 CallS Try.prog 14 [].toArray (fun t56 w =>
 K t56 w
 ) w
 ) (
 CallS Try.prog 21 [t19].toArray (fun t59 w =>
 PureS (extractV 0 t59) fun t60 =>
 PureS (extractV 1 t59) fun t61 =>
 PureS (extractV 2 t59) fun t62 =>
 PureS (binV .eql t60 seq0) fun t65 =>
 JoinS (fun (t68 : Value) (w : World) =>
 PureS (pickV t65 t68 (Value.bool false)) fun t69 =>
 JoinS (fun (t74 : Value) (w : World) =>
 PureS (pickV t69 t74 (Value.bool false)) fun t75 =>
 JoinS (fun (t77 : Value) (w : World) =>
 PureS (pickV t75 t77 (Value.bool false)) fun t78 =>
 K t78 w
 ) fun J4 =>
 IfB t75 true (
 CallS Try.prog 14 [].toArray (fun t77_1 w =>
 J4 t77_1 w
 ) w
 ) (
 J4 undef w
 )
 ) fun J3 =>
 IfB t69 true (
 CallS Try.prog 22 [l1].toArray (fun t73 w =>
 CallS Try.prog 13 [t61, t73].toArray (fun t74_1 w =>
 J3 t74_1 w
 ) w
 ) w
 ) (
 J3 undef w
 )
 ) fun J2 =>
 IfB t65 true (
 PureS (binV .eql t62 (Value.int .i64 0)) fun t68_1 =>
 J2 t68_1 w
 ) (
 J2 undef w
 )
 ) w
 )
 ) fun J1 =>
 LoopS 1 (fun L5 (i9 : Value) (w : World) =>
 PureS (lenSliceV l1) fun t39 =>
 PureS (binV .lss i9 t39) fun t40 =>
 CondS t40 (
 DrawS fun S6 => S6 w.drew ∧ (
 PureS (indexAddrV 4 l1 i9) fun t45 =>
 PureS (indexAddrV 4 l1 i9) fun t50 =>
 HeldA 4 S6 t45 (fun t46 =>
 HeldA 4 S6 t50 (fun t51 =>
 CallS Try.prog 19 [t46].toArray (fun t47 w =>
 S6 w ∧ (
 CallS Try.prog 20 [t51].toArray (fun t52 w =>
 PureS (binV .neq t47 t52) fun t53 =>
 CondS t53 (
 K (Value.bool false) w
 ) (
 PureS (binV .add i9 (Value.int .i64 1)) fun t42 =>
 L5 t42 w
 )
 ) w
 )
 ) w.drew
 )
 )
 )
 ) (
 J1 w
 )
 ) (Value.int .i64 0) w
 )
 ) fun J0 =>
 IfB t29 false (
 RunS Try.prog (convert 40 9 t19) (fun t32 w =>
 RunS Try.prog (convert 40 9 t25) (fun t34 w =>
 PureS (binV .neq t32 t34) fun t35_1 =>
 J0 t35_1 w
 ) w
 ) w
 ) (
 J0 undef w
 )
 ) w
 ) w
 ) w
 ) w
theorem s5_den (seq0 l1 : Value) (K : Value → World → Prop) (w : World) : denFn Try.prog false (bodyOf Try.f5) Try.f5.results a5 [seq0, l1] K NoP w = s5 seq0 l1 K w := by kernel_rfl
theorem s5_dst : dstsOk (2 + 77) (bodyOf Try.f5) = true := by kernel_rfl
theorem s5_ann : annOk (bodyOf Try.f5) a5 = true := by kernel_rfl
theorem s5_call {seq0 l1 : Value} {K : Value → World → Prop} {w : World} (hm : Try.prog.follows .mixedOrders = true) (h : s5 seq0 l1 K w) : CallS Try.prog 5 #[seq0, l1] K w :=
  fn_call (args := [seq0, l1]) (m := 77) hm Try.func5 (by kernel_rfl) (rs := Try.f5.results) rfl Try.ntmps5 s5_dst s5_ann (by rw [s5_den]; exact h)

/-! number 6 -/
def a6 : Ann :=
 (.q (.r [.plain 1]) (.q (.r [.plain 11]) (.q (.r [.plain 9]) (.q (.q (.r [.plain 4, .grp 3 [31] 3758096384, .plain 2, .grp 4 [37] 257698037760, .plain 1]) (.c (.q (.r [.plain 1]) .s) .s)) (.q (.q (.r [.plain 2]) (.c (.q (.r [.plain 2]) .s) .s)) (.q (.r [.plain 8]) (.q (.r [.plain 3, .grp 5 [55] 69805794224242688, .plain 2, .grp 1 [58] 288230376151711744, .plain 2]) .s)))))))
def s6 (b0 : Value) (K : Value → World → Prop) (w : World) : Prop :=
 RunS Try.prog (Instr.buildSlice 40 0 [].toArray) (fun t12 w =>
 RunS Try.prog (Builtin.append_ #[40, 40] 40 [t12, b0].toArray) (fun t14 w =>
 CallS Try.prog 21 [t14].toArray (fun t15 w =>
 PureS (extractV 0 t15) fun t16 =>
 PureS (extractV 1 t15) fun t17 =>
 PureS (extractV 2 t15) fun t18 =>
 CallS Try.prog 23 [b0].toArray (fun t21 w =>
 PureS (extractV 0 t21) fun t22 =>
 PureS (extractV 1 t21) fun t23 =>
 PureS (extractV 2 t21) fun t24 =>
 PureS (binV .neq t16 t22) fun t27 =>
 JoinS (fun (t31 : Value) (w : World) =>
 PureS (pickV t27 (Value.bool true) t31) fun t32 =>
 JoinS (fun (t37 : Value) (w : World) =>
 PureS (pickV t32 (Value.bool true) t37) fun t38 =>
 CondS t38 (
 K (Value.bool false) w
 ) (
 PureS (binV .neq t18 (Value.int .i64 0)) fun t40 =>
 CondS t40 (
 CallS Try.prog 14 [].toArray (fun t41 w =>
 K t41 w
 ) w
 ) (
 CallS Try.prog 17 [t16, t17].toArray (fun t45 w =>
 PureS (extractV 0 t45) fun t46 =>
 PureS (extractV 1 t45) fun t47 =>
 PureS (binV .eql t47 (Value.int .i64 0)) fun t49 =>
 JoinS (fun (t55 : Value) (w : World) =>
 PureS (pickV t49 t55 (Value.bool false)) fun t56 =>
 JoinS (fun (t58 : Value) (w : World) =>
 PureS (pickV t56 t58 (Value.bool false)) fun t59 =>
 K t59 w
 ) fun J3 =>
 IfB t56 true (
 CallS Try.prog 14 [].toArray (fun t58_1 w =>
 J3 t58_1 w
 ) w
 ) (
 J3 undef w
 )
 ) fun J2 =>
 IfB t49 true (
 RunS Try.prog (convert 40 9 t46) (fun t52 w =>
 RunS Try.prog (convert 40 9 b0) (fun t54 w =>
 PureS (binV .eql t52 t54) fun t55_1 =>
 J2 t55_1 w
 ) w
 ) w
 ) (
 J2 undef w
 )
 ) w
 )
 )
 ) fun J1 =>
 IfB t32 false (
 CallS Try.prog 13 [t17, t23].toArray (fun t36 w =>
 PureS (notV t36) fun t37_1 =>
 J1 t37_1 w
 ) w
 ) (
 J1 undef w
 )
 ) fun J0 =>
 IfB t27 false (
 PureS (binV .neq t18 t24) fun t31_1 =>
 J0 t31_1 w
 ) (
 J0 undef w
 )
 ) w
 ) w
 ) w
 ) w
theorem s6_den (b0 : Value) (K : Value → World → Prop) (w : World) : denFn Try.prog false (bodyOf Try.f6) Try.f6.results a6 [b0] K NoP w = s6 b0 K w := by kernel_rfl
theorem s6_dst : dstsOk (1 + 59) (bodyOf Try.f6) = true := by kernel_rfl
theorem s6_ann : annOk (bodyOf Try.f6) a6 = true := by kernel_rfl
theorem s6_call {b0 : Value} {K : Value → World → Prop} {w : World} (hm : Try.prog.follows .mixedOrders = true) (h : s6 b0 K w) : CallS Try.prog 6 #[b0] K w :=
  fn_call (args := [b0]) (m := 59) hm Try.func6 (by kernel_rfl) (rs := Try.f6.results) rfl Try.ntmps6 s6_dst s6_ann (by rw [s6_den]; exact h)

/-! number 7 -/
def a7 : Ann :=
 (.q (.r [.plain 1]) (.q (.r [.plain 7]) (.j [] 8589933588 (.q (.r [.plain 1]) (.b (.l [4] 8589933588 (.q (.q (.r [.plain 4]) (.c .s .s)) (.q (.b (.j [32] 8589869056 (.d [0, 0, 0, 6, 14, 31, 63, 127, 255, 511, 1023, 2047, 4095, 8191, 16383, 32767, 65535] (.pur 1 (.pur 2 (.pur 3 (.hld 0 (.hld 4 (.act 5 (.pur 6 (.pur 7 (.ite 7 (.skp 8 (.skp 9 (.skp 10 (.skp 11 (.skp 12 (.skp 13 (.skp 14 (.skp 15 (.pur 16 .fin))))))))) (.pur 8 (.pur 9 (.pur 10 (.pur 11 (.ite 11 (.hld 12 (.act 13 (.pur 14 (.pur 15 (.pur 16 .fin))))) (.skp 12 (.skp 13 (.skp 14 (.pur 15 (.pur 16 .fin))))))))))))))))))))
  (.c (.q (.r [.plain 1]) .s) .s))) (.r [.plain 3]))))))
  (.q (.r [.plain 3, .grp 2 [37] 206158430208, .plain 2, .grp 1 [40] 1099511627776, .plain 2]) .s))))
def s7 (acts0 : Value) (K : Value → World → Prop) (w : World) : Prop :=
 RunS Try.prog (Instr.build 26 [].toArray) (fun t5 w =>
 BoxS 26 t5 (fun t6 w =>
 RunS Try.prog (Instr.build 51 [].toArray) (fun t7 w =>
 BoxS 51 t7 (fun t8 w =>
 RunS Try.prog (Instr.build 53 [(0, t6), (1, t8)].toArray) (fun t9 w =>
 BoxS 53 (Value.agg #[(Value.pointer none), (Value.pointer none)]) (fun x3 w =>
 StoreA 2 x3 t9 (fun w =>
 JoinS (fun (w : World) =>
 LoadA 2 x3 (fun t33 w =>
 CallS Try.prog 25 [t33].toArray (fun t34 w =>
 JoinS (fun (t37 : Value) (w : World) =>
 PureS (pickV t34 t37 (Value.bool false)) fun t38 =>
 JoinS (fun (t40 : Value) (w : World) =>
 PureS (pickV t38 t40 (Value.bool false)) fun t41 =>
 K t41 w
 ) fun J2 =>
 IfB t38 true (
 CallS Try.prog 14 [].toArray (fun t40_1 w =>
 J2 t40_1 w
 ) w
 ) (
 J2 undef w
 )
 ) fun J1 =>
 IfB t34 true (
 LoadA 2 x3 (fun t36 w =>
 CallS Try.prog 25 [t36].toArray (fun t37_1 w =>
 J1 t37_1 w
 ) w
 ) w
 ) (
 J1 undef w
 )
 ) w
 ) w
 ) fun J0 =>
 LoopS 1 (fun L3 (i4 : Value) (w : World) =>
 PureS (lenSliceV acts0) fun t12 =>
 PureS (binV .lss i4 t12) fun t13 =>
 CondS t13 (
 JoinS (fun (t32 : Value) (w : World) =>
 CondS t32 (
 K (Value.bool false) w
 ) (
 PureS (binV .add i4 (Value.int .i64 1)) fun t15 =>
 L3 t15 w
 )
 ) fun J4 =>
 DrawS fun S5 => S5 w.drew ∧ (
 PureS (indexAddrV 7 acts0 i4) fun t19 =>
 HeldA 2 S5 x3 (fun t16 =>
 HeldA 7 S5 t19 (fun t20 =>
 CallS Try.prog 24 [t16, t20].toArray (fun t21 w =>
 S5 w ∧ (
 PureS (notV t21) fun t22 =>
 CondS t22 (
 PureS (pickV (Value.bool true) (Value.bool true) undef) fun t32_1 =>
 J4 t32_1 w
 ) (
 PureS (binV .rem i4 (Value.int .i64 3)) fun t25 =>
 PureS (binV .eql t25 (Value.int .i64 2)) fun t26 =>
 CondS t26 (
 HeldA 2 S5 x3 (fun t28 =>
 CallS Try.prog 25 [t28].toArray (fun t29 w =>
 PureS (notV t29) fun t30 =>
 PureS (pickV (Value.bool true) t30 (Value.bool false)) fun t31 =>
 PureS (pickV (Value.bool false) (Value.bool true) t31) fun t32_2 =>
 J4 t32_2 w
 ) w
 )
 ) (
 PureS (pickV (Value.bool false) undef (Value.bool false)) fun t31_1 =>
 PureS (pickV (Value.bool false) (Value.bool true) t31_1) fun t32_3 =>
 J4 t32_3 w
 )
 )
 )
 ) w.drew
 )
 )
 )
 ) (
 J0 w
 )
 ) (Value.int .i64 0) w
 ) w
 ) w
 ) w
 ) w
 ) w
 ) w
 ) w
theorem s7_den (acts0 : Value) (K : Value → World → Prop) (w : World) : denFn Try.prog false (bodyOf Try.f7) Try.f7.results a7 [acts0] K NoP w = s7 acts0 K w := by kernel_rfl
theorem s7_dst : dstsOk (1 + 41) (bodyOf Try.f7) = true := by kernel_rfl
theorem s7_ann : annOk (bodyOf Try.f7) a7 = true := by kernel_rfl
theorem s7_call {acts0 : Value} {K : Value → World → Prop} {w : World} (hm : Try.prog.follows .mixedOrders = true) (h : s7 acts0 K w) : CallS Try.prog 7 #[acts0] K w :=
  fn_call (args := [acts0]) (m := 41) hm Try.func7 (by kernel_rfl) (rs := Try.f7.results) rfl Try.ntmps7 s7_dst s7_ann (by rw [s7_den]; exact h)

/-! number 8 -/
def a8 : Ann :=
 (.q (.r [.plain 2]) (.q (.r [.plain 5]) .s))
def s8 (b0 r1 : Value) (K : Value → World → Prop) (w : World) : Prop :=
 BoxS 31 r1 (fun r3 w =>
 LoadA 4 r3 (fun t6 w =>
 RunS Try.prog (Instr.buildSlice 22 1 [(0, t6)].toArray) (fun t7 w =>
 CallS Try.prog 26 [b0, t7].toArray (fun t8 w =>
 K t8 w
 ) w
 ) w
 ) w
 ) w
theorem s8_den (b0 r1 : Value) (K : Value → World → Prop) (w : World) : denFn Try.prog false (bodyOf Try.f8) Try.f8.results a8 [b0, r1] K NoP w = s8 b0 r1 K w := by kernel_rfl
theorem s8_dst : dstsOk (2 + 7) (bodyOf Try.f8) = true := by kernel_rfl
theorem s8_ann : annOk (bodyOf Try.f8) a8 = true := by kernel_rfl
theorem s8_call {b0 r1 : Value} {K : Value → World → Prop} {w : World} (hm : Try.prog.follows .mixedOrders = true) (h : s8 b0 r1 K w) : CallS Try.prog 8 #[b0, r1] K w :=
  fn_call (args := [b0, r1]) (m := 7) hm Try.func8 (by kernel_rfl) (rs := Try.f8.results) rfl Try.ntmps8 s8_dst s8_ann (by rw [s8_den]; exact h)

/-! number 9 -/
def a9 : Ann :=
 (.q (.r [.plain 1]) (.q (.r [.plain 6]) .s))
def s9 (b0 : Value) (K : Value → World → Prop) (w : World) : Prop :=
 PureS (nilV b0) fun t4 =>
 PureS (fieldAddrV 0 t4) fun t5 =>
 LoadC t5 (fun t6 w =>
 CallS Try.prog 27 [t6].toArray (fun t7 w =>
 K t7 w
 ) w
 ) w
theorem s9_den (b0 : Value) (K : Value → World → Prop) (w : World) : denFn Try.prog false (bodyOf Try.f9) Try.f9.results a9 [b0] K NoP w = s9 b0 K w := by kernel_rfl
theorem s9_dst : dstsOk (1 + 7) (bodyOf Try.f9) = true := by kernel_rfl
theorem s9_ann : annOk (bodyOf Try.f9) a9 = true := by kernel_rfl
theorem s9_call {b0 : Value} {K : Value → World → Prop} {w : World} (hm : Try.prog.follows .mixedOrders = true) (h : s9 b0 K w) : CallS Try.prog 9 #[b0] K w :=
  fn_call (args := [b0]) (m := 7) hm Try.func9 (by kernel_rfl) (rs := Try.f9.results) rfl Try.ntmps9 s9_dst s9_ann (by rw [s9_den]; exact h)

/-! number 10 -/
def a10 : Ann :=
 (.q (.r [.plain 1]) (.q (.r [.plain 6]) .s))
def s10 (b0 : Value) (K : Value → World → Prop) (w : World) : Prop :=
 PureS (nilV b0) fun t4 =>
 PureS (fieldAddrV 1 t4) fun t5 =>
 LoadC t5 (fun t6 w =>
 PureS (maxV t6 (Value.int .i64 12)) fun t7 =>
 K t7 w
 ) w
theorem s10_den (b0 : Value) (K : Value → World → Prop) (w : World) : denFn Try.prog false (bodyOf Try.f10) Try.f10.results a10 [b0] K NoP w = s10 b0 K w := by kernel_rfl
theorem s10_dst : dstsOk (1 + 7) (bodyOf Try.f10) = true := by kernel_rfl
theorem s10_ann : annOk (bodyOf Try.f10) a10 = true := by kernel_rfl
theorem s10_call {b0 : Value} {K : Value → World → Prop} {w : World} (hm : Try.prog.follows .mixedOrders = true) (h : s10 b0 K w) : CallS Try.prog 10 #[b0] K w :=
  fn_call (args := [b0]) (m := 7) hm Try.func10 (by kernel_rfl) (rs := Try.f10.results) rfl Try.ntmps10 s10_dst s10_ann (by rw [s10_den]; exact h)

/-! number 11 -/
def a11 : Ann :=
 (.q (.r [.plain 2]) (.q (.d [0, 1, 3, 7, 15, 31, 0, 64, 192, 448, 975, 1999, 4095, 0, 8192, 24576, 65535, 131071] (.pur 0 (.pur 6 (.pur 13 (.hld 1 (.pur 2 (.hld 7 (.pur 8 (.pur 9 (.hld 14 (.pur 15 (.act 3 (.pur 4 (.pur 5 (.act 10 (.pur 11 (.pur 12 (.pur 16 (.pur 17 .fin))))))))))))))))))) (.j [3] 68717379592 (.q (.r [.plain 3]) (.c (.d [0, 0, 2, 6, 14, 30, 62, 127, 0, 256, 768, 2047, 4095] (.pur 0 (.pur 1 (.pur 8 (.hld 2 (.pur 3 (.pur 4 (.hld 9 (.pur 10 (.act 5 (.pur 6 (.pur 7 (.pur 11 (.pur 12 .fin)))))))))))))) .s))
  (.q (.r [.plain 2]) .s))))
def s11 (r0 : Value) (K : Value → World → Prop) (w : World) : Prop :=
 BoxS 31 r0 (fun r1 w =>
 DrawS fun S0 => S0 w.drew ∧ (
 PureS (fieldAddrV 0 r1) fun t4 =>
 PureS (fieldAddrV 2 r1) fun t10 =>
 PureS (fieldAddrV 2 r1) fun t17 =>
 HeldC S0 t4 (fun t5 =>
 PureS (convIntV .u64 t5) fun t6 =>
 HeldC S0 t10 (fun t11 =>
 PureS (lenStrV t11) fun t12 =>
 PureS (convIntV .u64 t12) fun t13 =>
 HeldC S0 t17 (fun t18 =>
 PureS (lenStrV t18) fun t19 =>
 CallS Try.prog 28 [t6].toArray (fun t7 w =>
 S0 w ∧ (
 PureS (lenSliceV t7) fun t8 =>
 PureS (binV .add (Value.int .i64 1) t8) fun t9 =>
 CallS Try.prog 28 [t13].toArray (fun t14 w =>
 S0 w ∧ (
 PureS (lenSliceV t14) fun t15 =>
 PureS (binV .add t9 t15) fun t16 =>
 PureS (binV .add t16 t19) fun t20 =>
 JoinS (fun (n3 : Value) (w : World) =>
 K n3 w
 ) fun J1 =>
 PureS (fieldAddrV 1 r1) fun t21 =>
 LoadC t21 (fun t22 w =>
 PureS (binV .neq t22 (Value.int .i64 0)) fun t23 =>
 CondS t23 (
 DrawS fun S2 => S2 w.drew ∧ (
 PureS (fieldAddrV 3 r1) fun t25 =>
 PureS (fieldAddrV 3 r1) fun t32 =>
 HeldC S2 t25 (fun t26 =>
 PureS (lenStrV t26) fun t27 =>
 PureS (convIntV .u64 t27) fun t28 =>
 HeldC S2 t32 (fun t33 =>
 PureS (lenStrV t33) fun t34 =>
 CallS Try.prog 28 [t28].toArray (fun t29 w =>
 S2 w ∧ (
 PureS (lenSliceV t29) fun t30 =>
 PureS (binV .add t20 t30) fun t31 =>
 PureS (binV .add t31 t34) fun t35 =>
 J1 t35 w
 )
 ) w.drew
 )
 )
 )
 ) (
 J1 t20 w
 )
 ) w
 )
 ) w
 )
 ) w.drew
 )
 )
 )
 )
 ) w
theorem s11_den (r0 : Value) (K : Value → World → Prop) (w : World) : denFn Try.prog false (bodyOf Try.f11) Try.f11.results a11 [r0] K NoP w = s11 r0 K w := by kernel_rfl
theorem s11_dst : dstsOk (1 + 36) (bodyOf Try.f11) = true := by kernel_rfl
theorem s11_ann : annOk (bodyOf Try.f11) a11 = true := by kernel_rfl
theorem s11_call {r0 : Value} {K : Value → World → Prop} {w : World} (hm : Try.prog.follows .mixedOrders = true) (h : s11 r0 K w) : CallS Try.prog 11 #[r0] K w :=
  fn_call (args := [r0]) (m := 36) hm Try.func11 (by kernel_rfl) (rs := Try.f11.results) rfl Try.ntmps11 s11_dst s11_ann (by rw [s11_den]; exact h)

/-! number 12 -/
def a12 : Ann :=
 (.q (.r [.plain 1]) (.q (.q (.r [.plain 2]) (.c (.q (.r [.plain 1]) .s) .s)) (.q (.r [.plain 8]) .s)))
def s12 (b0 o1 : Value) (K : Value → World → Prop) (w : World) : Prop :=
 RunS Try.prog (do eqGuard .eql 23 (Operand.tmp 5) (Operand.const (Value.pointer none)) o1 (Value.pointer none); binOp .eql 23 o1 (Value.pointer none)) (fun t6 w =>
 CondS t6 (
 K (Value.int .i64 1) w
 ) (
 PureS (nilV o1) fun t9 =>
 PureS (fieldAddrV 0 t9) fun t10 =>
 LoadC t10 (fun t11 w =>
 CallS Try.prog 27 [t11].toArray (fun t12 w =>
 CallS Try.prog 26 [b0, t12].toArray (fun t13 w =>
 K t13 w
 ) w
 ) w
 ) w
 )
 ) w
theorem s12_den (b0 o1 : Value) (K : Value → World → Prop) (w : World) : denFn Try.prog false (bodyOf Try.f12) Try.f12.results a12 [b0, o1] K NoP w = s12 b0 o1 K w := by kernel_rfl
theorem s12_dst : dstsOk (2 + 12) (bodyOf Try.f12) = true := by kernel_rfl
theorem s12_ann : annOk (bodyOf Try.f12) a12 = true := by kernel_rfl
theorem s12_call {b0 o1 : Value} {K : Value → World → Prop} {w : World} (hm : Try.prog.follows .mixedOrders = true) (h : s12 b0 o1 K w) : CallS Try.prog 12 #[b0, o1] K w :=
  fn_call (args := [b0, o1]) (m := 12) hm Try.func12 (by kernel_rfl) (rs := Try.f12.results) rfl Try.ntmps12 s12_dst s12_ann (by rw [s12_den]; exact h)

/-! number 13 -/
def a13 : Ann :=
 (.q (.r [.plain 1]) (.q (.q (.r [.plain 5]) (.c (.q (.r [.plain 1]) .s) .s)) (.j [] 67106864 (.q (.r [.plain 1]) (.b (.l [5] 67106864 (.q (.q (.r [.plain 4]) (.c .s .s)) (.q (.b (.q (.d [0, 0, 3, 7, 0, 0, 48, 112, 255] (.pur 0 (.pur 1 (.pur 2 (.pur 4 (.pur 5 (.pur 6 (.hld 3 (.hld 7 (.hld 8 .fin)))))))))) (.c (.q (.r [.plain 1]) .s) .s))) (.r [.plain 3]))))))
  (.q (.r [.plain 1]) .s))))
def s13 (a0 b1 : Value) (K : Value → World → Prop) (w : World) : Prop :=
 PureS (lenSliceV a0) fun t7 =>
 PureS (lenSliceV b1) fun t9 =>
 PureS (binV .neq t7 t9) fun t10 =>
 CondS t10 (
 K (Value.bool false) w
 ) (
 JoinS (fun (w : World) =>
 K (Value.bool true) w
 ) fun J0 =>
 LoopS 1 (fun L1 (i5 : Value) (w : World) =>
 PureS (lenSliceV a0) fun t13 =>
 PureS (binV .lss i5 t13) fun t14 =>
 CondS t14 (
 DrawS fun S2 => S2 w.drew ∧ (
 PureS (indexAddrV 4 a0 i5) fun t19 =>
 PureS (indexAddrV 4 b1 i5) fun t23 =>
 HeldA 4 S2 t19 (fun t20 =>
 HeldA 4 S2 t23 (fun t24 =>
 HeldR Try.prog S2 (do eqGuard .neq 31 (Operand.tmp 20) (Operand.tmp 24) t20 t24; binOp .neq 31 t20 t24) (fun t25 =>
 CondS t25 (
 K (Value.bool false) w.drew
 ) (
 PureS (binV .add i5 (Value.int .i64 1)) fun t16 =>
 L1 t16 w.drew
 )
 )
 )
 )
 )
 ) (
 J0 w
 )
 ) (Value.int .i64 0) w
 )
theorem s13_den (a0 b1 : Value) (K : Value → World → Prop) (w : World) : denFn Try.prog false (bodyOf Try.f13) Try.f13.results a13 [a0, b1] K NoP w = s13 a0 b1 K w := by kernel_rfl
theorem s13_dst : dstsOk (2 + 24) (bodyOf Try.f13) = true := by kernel_rfl
theorem s13_ann : annOk (bodyOf Try.f13) a13 = true := by kernel_rfl
theorem s13_call {a0 b1 : Value} {K : Value → World → Prop} {w : World} (hm : Try.prog.follows .mixedOrders = true) (h : s13 a0 b1 K w) : CallS Try.prog 13 #[a0, b1] K w :=
  fn_call (args := [a0, b1]) (m := 24) hm Try.func13 (by kernel_rfl) (rs := Try.f13.results) rfl Try.ntmps13 s13_dst s13_ann (by rw [s13_den]; exact h)

/-! number 14 -/
def a14 : Ann :=
 (.q (.r [.plain 1]) (.q (.r [.plain 3]) (.q (.r [.plain 3]) (.q (.r [.plain 8]) (.q (.r [.plain 3, .grp 2 [19] 786432, .plain 2, .grp 3 [24] 29360128, .plain 2, .grp 3 [29] 939524096, .plain 2]) .s)))))
def s14 (K : Value → World → Prop) (w : World) : Prop :=
 RunS Try.prog (Instr.build 26 [].toArray) (fun t5 w =>
 BoxS 26 t5 (fun t6 w =>
 CallS Try.prog 29 [t6, (Value.int .u32 0), (Value.string ⟨#[97]⟩), (Value.string ⟨#[98]⟩)].toArray (fun t8 w =>
 CallS Try.prog 9 [t6].toArray (fun t11 w =>
 CallS Try.prog 17 [(Value.int .u64 5), t11].toArray (fun t12 w =>
 PureS (extractV 0 t12) fun t13 =>
 PureS (extractV 1 t12) fun t14 =>
 PureS (binV .eql t8 (Value.int .i64 0)) fun t16 =>
 JoinS (fun (t19 : Value) (w : World) =>
 PureS (pickV t16 t19 (Value.bool false)) fun t20 =>
 JoinS (fun (t24 : Value) (w : World) =>
 PureS (pickV t20 t24 (Value.bool false)) fun t25 =>
 JoinS (fun (t29 : Value) (w : World) =>
 PureS (pickV t25 t29 (Value.bool false)) fun t30 =>
 K t30 w
 ) fun J2 =>
 IfB t25 true (
 RunS Try.prog (convert 40 9 t13) (fun t28 w =>
 PureS (binV .eql t28 (Value.string ⟨#[5, 0, 0, 0, 0, 0, 0, 0, 1, 0, 0, 0, 1, 0, 1, 97, 1, 98]⟩)) fun t29_1 =>
 J2 t29_1 w
 ) w
 ) (
 J2 undef w
 )
 ) fun J1 =>
 IfB t20 true (
 CallS Try.prog 10 [t6].toArray (fun t23 w =>
 PureS (binV .eql t23 (Value.int .i64 18)) fun t24_1 =>
 J1 t24_1 w
 ) w
 ) (
 J1 undef w
 )
 ) fun J0 =>
 IfB t16 true (
 PureS (binV .eql t14 (Value.int .i64 0)) fun t19_1 =>
 J0 t19_1 w
 ) (
 J0 undef w
 )
 ) w
 ) w
 ) w
 ) w
 ) w
theorem s14_den (K : Value → World → Prop) (w : World) : denFn Try.prog false (bodyOf Try.f14) Try.f14.results a14 [] K NoP w = s14 K w := by kernel_rfl
theorem s14_dst : dstsOk (0 + 31) (bodyOf Try.f14) = true := by kernel_rfl
theorem s14_ann : annOk (bodyOf Try.f14) a14 = true := by kernel_rfl
theorem s14_call {K : Value → World → Prop} {w : World} (hm : Try.prog.follows .mixedOrders = true) (h : s14 K w) : CallS Try.prog 14 #[] K w :=
  fn_call (args := []) (m := 31) hm Try.func14 (by kernel_rfl) (rs := Try.f14.results) rfl Try.ntmps14 s14_dst s14_ann (by rw [s14_den]; exact h)

/-! number 15 -/
def a15 : Ann :=
 (.d [0, 0, 2, 6, 14, 0, 32, 96, 224, 480, 992, 2046, 4095, 8191, 16383] (.pur 0 (.pur 1 (.pur 2 (.pur 3 (.pur 5 (.pur 6 (.pur 7 (.hld 4 (.hld 8 (.pur 9 (.act 10 (.act 11 (.pur 12 (.pur 13 (.act 14 .fin))))))))))))))))
def s15 (b0 : Value) (K : Value → World → Prop) (w : World) : Prop :=
 DrawS fun S0 => S0 w.drew ∧ (
 PureS (nilV b0) fun t4 =>
 PureS (fieldAddrV 2 t4) fun t5 =>
 PureS (nilV b0) fun t8 =>
 PureS (fieldAddrV 0 t8) fun t9 =>
 HeldC S0 t5 (fun t6 =>
 HeldC S0 t9 (fun t10 =>
 PureS (lenSliceV t10) fun t11 =>
 RunS Try.prog (Instr.buildSlice 24 1 [(0, t11)].toArray) (fun t12 w =>
 S0 w ∧ (
 RunS Try.prog (Builtin.append_ #[24, 24] 24 [t6, t12].toArray) (fun t13 w =>
 PureS (nilV b0) fun t14 =>
 PureS (fieldAddrV 2 t14) fun t15 =>
 StoreC t15 t13 (fun w =>
 K (Value.tuple [].toArray) w
 ) w
 ) w
 )
 ) w.drew
 )
 )
 )
theorem s15_den (b0 : Value) (K : Value → World → Prop) (w : World) : denFn Try.prog false (bodyOf Try.f15) Try.f15.results a15 [b0] K NoP w = s15 b0 K w := by kernel_rfl
theorem s15_dst : dstsOk (1 + 15) (bodyOf Try.f15) = true := by kernel_rfl
theorem s15_ann : annOk (bodyOf Try.f15) a15 = true := by kernel_rfl
theorem s15_call {b0 : Value} {K : Value → World → Prop} {w : World} (hm : Try.prog.follows .mixedOrders = true) (h : s15 b0 K w) : CallS Try.prog 15 #[b0] K w :=
  fn_call (args := [b0]) (m := 15) hm Try.func15 (by kernel_rfl) (rs := Try.f15.results) rfl Try.ntmps15 s15_dst s15_ann (by rw [s15_den]; exact h)

/-! number 16 -/
def a16 : Ann :=
 (.q (.r [.plain 1]) (.q (.q (.r [.plain 6]) (.c (.q (.r [.plain 1]) .s) .s)) (.q (.d [0, 1, 3, 7, 0, 16, 48, 112, 240, 496, 1023, 2047, 4095] (.pur 0 (.pur 1 (.pur 2 (.pur 4 (.pur 5 (.pur 6 (.hld 3 (.hld 7 (.pur 8 (.pur 9 (.pur 10 (.hld 11 (.pur 12 .fin)))))))))))))) (.j [] 70368727400480 (.q (.r [.plain 8]) (.b (.l [31] 70366596694048 (.q (.r [.plain 1]) (.q (.c .s .s) (.q (.b (.q (.r [.plain 4]) (.d [0, 1, 3, 7, 0, 16, 48, 127, 255, 511, 1023] (.pur 0 (.pur 1 (.pur 2 (.hld 3 (.hld 4 (.act 5 (.pur 6 (.pur 7 (.pur 8 (.pur 9 (.act 10 .fin)))))))))))))) (.r [.plain 2])))))))
  (.q (.r [.plain 10]) (.q (.r [.plain 3]) .s))))))
def s16 (b0 : Value) (K : Value → World → Prop) (w : World) : Prop :=
 PureS (nilV b0) fun t7 =>
 PureS (fieldAddrV 2 t7) fun t8 =>
 LoadC t8 (fun t9 w =>
 PureS (lenSliceV t9) fun t10 =>
 PureS (binV .eql t10 (Value.int .i64 0)) fun t11 =>
 CondS t11 (
 K (Value.int .i64 6) w
 ) (
 DrawS fun S0 => S0 w.drew ∧ (
 PureS (nilV b0) fun t13 =>
 PureS (fieldAddrV 2 t13) fun t14 =>
 PureS (nilV b0) fun t17 =>
 PureS (fieldAddrV 2 t17) fun t18 =>
 HeldC S0 t14 (fun t15 =>
 HeldC S0 t18 (fun t19 =>
 PureS (lenSliceV t19) fun t20 =>
 PureS (binV .sub t20 (Value.int .i64 1)) fun t21 =>
 PureS (indexAddrV 1 t15 t21) fun t22 =>
 HeldC S0 t22 (fun t23 =>
 JoinS (fun (w : World) =>
 PureS (nilV b0) fun t48 =>
 PureS (fieldAddrV 0 t48) fun t49 =>
 LoadC t49 (fun t50 w =>
 PureS (sliceV 4 t50 none (some t23)) fun t52 =>
 PureS (nilV b0) fun t53 =>
 PureS (fieldAddrV 0 t53) fun t54 =>
 StoreC t54 t52 (fun w =>
 CallS Try.prog 31 [b0].toArray (fun t56 w =>
 K t56 w
 ) w
 ) w
 ) w
 ) fun J1 =>
 PureS (nilV b0) fun t25 =>
 PureS (fieldAddrV 0 t25) fun t26 =>
 LoadC t26 (fun t27 w =>
 PureS (sliceV 4 t27 (some t23) none) fun t29 =>
 PureS (lenSliceV t29) fun t30 =>
 LoopS 1 (fun L2 (t31 : Value) (w : World) =>
 PureS (binV .lss t31 t30) fun t32 =>
 CondS t32 (
 PureS (indexAddrV 4 t29 t31) fun t33 =>
 LoadA 4 t33 (fun t34 w =>
 BoxS 31 (Value.agg #[(Value.int .u32 0), (Value.int .i64 0), (Value.string ⟨#[]⟩), (Value.string ⟨#[]⟩)]) (fun r5 w =>
 StoreA 4 r5 t34 (fun w =>
 DrawS fun S3 => S3 w.drew ∧ (
 PureS (nilV b0) fun t36 =>
 PureS (fieldAddrV 1 t36) fun t37 =>
 HeldC S3 t37 (fun t38 =>
 HeldA 4 S3 r5 (fun t39 =>
 CallS Try.prog 30 [t39].toArray (fun t40 w =>
 S3 w ∧ (
 PureS (lenSliceV t40) fun t41 =>
 PureS (binV .sub t38 t41) fun t42 =>
 PureS (nilV b0) fun t43 =>
 PureS (fieldAddrV 1 t43) fun t44 =>
 StoreC t44 t42 (fun w =>
 PureS (binV .add t31 (Value.int .i64 1)) fun t45 =>
 L2 t45 w
 ) w
 )
 ) w.drew
 )
 )
 )
 ) w
 ) w
 ) w
 ) (
 J1 w
 )
 ) (Value.int .i64 0) w
 ) w.drew
 )
 )
 )
 )
 )
 ) w
theorem s16_den (b0 : Value) (K : Value → World → Prop) (w : World) : denFn Try.prog false (bodyOf Try.f16) Try.f16.results a16 [b0] K NoP w = s16 b0 K w := by kernel_rfl
theorem s16_dst : dstsOk (1 + 56) (bodyOf Try.f16) = true := by kernel_rfl
theorem s16_ann : annOk (bodyOf Try.f16) a16 = true := by kernel_rfl
theorem s16_call {b0 : Value} {K : Value → World → Prop} {w : World} (hm : Try.prog.follows .mixedOrders = true) (h : s16 b0 K w) : CallS Try.prog 16 #[b0] K w :=
  fn_call (args := [b0]) (m := 56) hm Try.func16 (by kernel_rfl) (rs := Try.f16.results) rfl Try.ntmps16 s16_dst s16_ann (by rw [s16_den]; exact h)

/-! number 17 -/
def a17 : Ann :=
 (.q (.r [.plain 2]) (.q (.b (.q (.r [.plain 6]) (.c (.q (.r [.plain 2]) .s) (.q (.r [.plain 4]) (.c (.q (.r [.plain 2]) .s) .s))))) (.q (.r [.plain 8]) (.j [6] 70368609960816 (.q (.r [.plain 3]) (.b (.l [6, 29] 70368207307632 (.q (.r [.plain 1]) (.q (.c .s .s) (.j [6] 35182224606064 (.b (.q (.r [.plain 4]) (.q (.q (.r [.plain 3]) (.q (.r [.plain 2]) (.c (.q (.r [.plain 3]) .s) .s))) (.q (.r [.plain 3]) (.c (.r [.plain 5]) .s)))))
  (.r [.plain 2])))))))
  (.q (.q (.r [.plain 3]) (.c (.q (.r [.plain 2]) .s) .s)) (.q (.r [.plain 3]) .s))))))
def s17 (seq0 l1 : Value) (K : Value → World → Prop) (w : World) : Prop :=
 PureS (lenSliceV l1) fun t13 =>
 CallS Try.prog 32 [seq0, t13].toArray (fun t14 w =>
 PureS (notV t14) fun t15 =>
 CondS t15 (
 K (Value.tuple [(Value.slice none 0 0), (Value.int .i64 1)].toArray) w
 ) (
 PureS (lenSliceV l1) fun t18 =>
 PureS (binV .gtr t18 (Value.int .i64 4096)) fun t19 =>
 CondS t19 (
 K (Value.tuple [(Value.slice none 0 0), (Value.int .i64 2)].toArray) w
 ) (
 CallS Try.prog 33 [seq0].toArray (fun t21 w =>
 PureS (lenSliceV l1) fun t23 =>
 PureS (convIntV .u32 t23) fun t24 =>
 CallS Try.prog 34 [t24].toArray (fun t25 w =>
 RunS Try.prog (Builtin.append_ #[40, 40] 40 [t21, t25].toArray) (fun t26 w =>
 JoinS (fun (b6 : Value) (w : World) =>
 PureS (lenSliceV b6) fun t47 =>
 PureS (binV .gtr t47 (Value.int .i64 4194304)) fun t48 =>
 CondS t48 (
 K (Value.tuple [(Value.slice none 0 0), (Value.int .i64 2)].toArray) w
 ) (
 K (Value.tuple [b6, (Value.int .i64 0)].toArray) w
 )
 ) fun J0 =>
 PureS (lenSliceV l1) fun t28 =>
 LoopS 2 (fun L1 (b6_1 t29 : Value) (w : World) =>
 PureS (binV .lss t29 t28) fun t30 =>
 CondS t30 (
 JoinS (fun (b6_2 : Value) (w : World) =>
 PureS (binV .add t29 (Value.int .i64 1)) fun t45 =>
 L1 b6_2 t45 w
 ) fun J2 =>
 PureS (indexAddrV 4 l1 t29) fun t31 =>
 LoadA 4 t31 (fun t32 w =>
 BoxS 31 (Value.agg #[(Value.int .u32 0), (Value.int .i64 0), (Value.string ⟨#[]⟩), (Value.string ⟨#[]⟩)]) (fun r8 w =>
 StoreA 4 r8 t32 (fun w =>
 LoadA 4 r8 (fun t33 w =>
 CallS Try.prog 19 [t33].toArray (fun t34 w =>
 PureS (binV .neq t34 (Value.int .i64 0)) fun t36 =>
 CondS t36 (
 K (Value.tuple [(Value.slice none 0 0), t34].toArray) w
 ) (
 PureS (lenSliceV b6_1) fun t39 =>
 PureS (binV .leq t39 (Value.int .i64 4194304)) fun t40 =>
 CondS t40 (
 LoadA 4 r8 (fun t42 w =>
 CallS Try.prog 30 [t42].toArray (fun t43 w =>
 RunS Try.prog (Builtin.append_ #[40, 40] 40 [b6_1, t43].toArray) (fun t44 w =>
 J2 t44 w
 ) w
 ) w
 ) w
 ) (
 J2 b6_1 w
 )
 )
 ) w
 ) w
 ) w
 ) w
 ) w
 ) (
 J0 b6_1 w
 )
 ) t26 (Value.int .i64 0) w
 ) w
 ) w
 ) w
 )
 )
 ) w
theorem s17_den (seq0 l1 : Value) (K : Value → World → Prop) (w : World) : denFn Try.prog false (bodyOf Try.f17) Try.f17.results a17 [seq0, l1] K NoP w = s17 seq0 l1 K w := by kernel_rfl
theorem s17_dst : dstsOk (2 + 48) (bodyOf Try.f17) = true := by kernel_rfl
theorem s17_ann : annOk (bodyOf Try.f17) a17 = true := by kernel_rfl
theorem s17_call {seq0 l1 : Value} {K : Value → World → Prop} {w : World} (hm : Try.prog.follows .mixedOrders = true) (h : s17 seq0 l1 K w) : CallS Try.prog 17 #[seq0, l1] K w :=
  fn_call (args := [seq0, l1]) (m := 48) hm Try.func17 (by kernel_rfl) (rs := Try.f17.results) rfl Try.ntmps17 s17_dst s17_ann (by rw [s17_den]; exact h)

/-! number 18 -/
def a18 : Ann :=
 (.q (.r [.plain 2]) (.q (.q (.r [.plain 5]) (.c (.q (.r [.plain 2]) .s) .s)) (.q (.q (.r [.plain 3]) (.c (.q (.r [.plain 2]) .s) .s)) (.j [] 8589410544 (.q (.r [.plain 1]) (.b (.l [6] 8589410544 (.q (.q (.r [.plain 4]) (.c .s .s)) (.q (.b (.q (.r [.plain 6]) (.q (.r [.plain 2]) (.c (.q (.r [.plain 3]) .s) .s)))) (.r [.plain 3]))))))
  (.q (.q (.r [.plain 3]) (.c (.q (.r [.plain 2]) .s) .s)) (.q (.r [.plain 8]) (.j [8] 154742504910663738269370112 (.q (.r [.plain 1]) (.b (.l [8, 9] 154742504910663738269370112 (.q (.q (.r [.plain 4]) (.c .s .s)) (.j [8] 154742504910109584408970496 (.b (.q (.r [.plain 6]) (.q (.d [0, 0, 2, 6, 14, 31, 0, 64, 192, 511, 1023, 2047] (.pur 0 (.pur 1 (.pur 6 (.hld 2 (.pur 3 (.hld 7 (.pur 8 (.act 4 (.act 5 (.act 9 (.act 10 (.pur 11 .fin))))))))))))) (.q (.d [0, 0, 2, 6, 14, 30, 63, 0, 128, 511, 1023] (.pur 0 (.pur 1 (.pur 7 (.hld 2 (.pur 3 (.pur 4 (.hld 8 (.act 5 (.act 6 (.act 9 (.pur 10 .fin)))))))))))) (.q (.r [.plain 3]) (.c (.d [0, 0, 2, 6, 14, 30, 63, 0, 128, 511, 1023] (.pur 0 (.pur 1 (.pur 7 (.hld 2 (.pur 3 (.pur 4 (.hld 8 (.act 5 (.act 6 (.act 9 (.pur 10 .fin)))))))))))) .s))))))
  (.r [.plain 3]))))))
  (.q (.r [.plain 3]) .s))))))))
def s18 (seq0 l1 : Value) (K : Value → World → Prop) (w : World) : Prop :=
 PureS (lenSliceV l1) fun t13 =>
 CallS Try.prog 35 [seq0, t13].toArray (fun t14 w =>
 PureS (notV t14) fun t15 =>
 CondS t15 (
 K (Value.tuple [(Value.slice none 0 0), (Value.int .i64 1)].toArray) w
 ) (
 PureS (lenSliceV l1) fun t17 =>
 PureS (binV .gtr t17 (Value.int .i64 4096)) fun t18 =>
 CondS t18 (
 K (Value.tuple [(Value.slice none 0 0), (Value.int .i64 2)].toArray) w
 ) (
 JoinS (fun (w : World) =>
 CallS Try.prog 36 [l1].toArray (fun t34 w =>
 PureS (binV .gtr t34 (Value.int .i64 4194304)) fun t35 =>
 CondS t35 (
 K (Value.tuple [(Value.slice none 0 0), (Value.int .i64 2)].toArray) w
 ) (
 CallS Try.prog 37 [seq0, (Value.int .i64 8)].toArray (fun t37 w =>
 PureS (lenSliceV l1) fun t39 =>
 PureS (convIntV .u64 t39) fun t40 =>
 CallS Try.prog 37 [t40, (Value.int .i64 4)].toArray (fun t41 w =>
 RunS Try.prog (Builtin.append_ #[40, 40] 40 [t37, t41].toArray) (fun t42 w =>
 JoinS (fun (b8 : Value) (w : World) =>
 K (Value.tuple [b8, (Value.int .i64 0)].toArray) w
 ) fun J1 =>
 LoopS 2 (fun L2 (b8_1 i9 : Value) (w : World) =>
 PureS (lenSliceV l1) fun t45 =>
 PureS (binV .lss i9 t45) fun t46 =>
 CondS t46 (
 JoinS (fun (b8_2 : Value) (w : World) =>
 PureS (binV .add i9 (Value.int .i64 1)) fun t48 =>
 L2 b8_2 t48 w
 ) fun J3 =>
 PureS (indexAddrV 4 l1 i9) fun t51 =>
 LoadA 4 t51 (fun t52 w =>
 BoxS 31 (Value.agg #[(Value.int .u32 0), (Value.int .i64 0), (Value.string ⟨#[]⟩), (Value.string ⟨#[]⟩)]) (fun r10 w =>
 StoreA 4 r10 t52 (fun w =>
 DrawS fun S4 => S4 w.drew ∧ (
 PureS (fieldAddrV 1 r10) fun t54 =>
 PureS (fieldAddrV 0 r10) fun t59 =>
 HeldC S4 t54 (fun t55 =>
 PureS (convIntV .u8 t55) fun t56 =>
 HeldC S4 t59 (fun t60 =>
 PureS (convIntV .u64 t60) fun t61 =>
 RunS Try.prog (Instr.buildSlice 40 1 [(0, t56)].toArray) (fun t57 w =>
 S4 w ∧ (
 RunS Try.prog (Builtin.append_ #[40, 40] 40 [b8_1, t57].toArray) (fun t58 w =>
 S4 w ∧ (
 CallS Try.prog 28 [t61].toArray (fun t62 w =>
 RunS Try.prog (Builtin.append_ #[40, 40] 40 [t58, t62].toArray) (fun t63 w =>
 DrawS fun S5 => S5 w.drew ∧ (
 PureS (fieldAddrV 2 r10) fun t65 =>
 PureS (fieldAddrV 2 r10) fun t71 =>
 HeldC S5 t65 (fun t66 =>
 PureS (lenStrV t66) fun t67 =>
 PureS (convIntV .u64 t67) fun t68 =>
 HeldC S5 t71 (fun t72 =>
 CallS Try.prog 28 [t68].toArray (fun t69 w =>
 S5 w ∧ (
 RunS Try.prog (Builtin.append_ #[40, 40] 40 [t63, t69].toArray) (fun t70 w =>
 S5 w ∧ (
 RunS Try.prog (Builtin.append_ #[40, 9] 40 [t70, t72].toArray) (fun t73 w =>
 PureS (fieldAddrV 1 r10) fun t74 =>
 LoadC t74 (fun t75 w =>
 PureS (binV .neq t75 (Value.int .i64 0)) fun t76 =>
 CondS t76 (
 DrawS fun S6 => S6 w.drew ∧ (
 PureS (fieldAddrV 3 r10) fun t78 =>
 PureS (fieldAddrV 3 r10) fun t84 =>
 HeldC S6 t78 (fun t79 =>
 PureS (lenStrV t79) fun t80 =>
 PureS (convIntV .u64 t80) fun t81 =>
 HeldC S6 t84 (fun t85 =>
 CallS Try.prog 28 [t81].toArray (fun t82 w =>
 S6 w ∧ (
 RunS Try.prog (Builtin.append_ #[40, 40] 40 [t73, t82].toArray) (fun t83 w =>
 S6 w ∧ (
 RunS Try.prog (Builtin.append_ #[40, 9] 40 [t83, t85].toArray) (fun t86 w =>
 J3 t86 w
 ) w
 )
 ) w
 )
 ) w.drew
 )
 )
 )
 ) (
 J3 t73 w
 )
 ) w
 ) w
 )
 ) w
 )
 ) w.drew
 )
 )
 )
 ) w
 ) w
 )
 ) w
 )
 ) w.drew
 )
 )
 )
 ) w
 ) w
 ) w
 ) (
 J1 b8_1 w
 )
 ) t42 (Value.int .i64 0) w
 ) w
 ) w
 ) w
 )
 ) w
 ) fun J0 =>
 LoopS 1 (fun L7 (i6 : Value) (w : World) =>
 PureS (lenSliceV l1) fun t21 =>
 PureS (binV .lss i6 t21) fun t22 =>
 CondS t22 (
 PureS (indexAddrV 4 l1 i6) fun t27 =>
 LoadA 4 t27 (fun t28 w =>
 CallS Try.prog 20 [t28].toArray (fun t29 w =>
 PureS (binV .neq t29 (Value.int .i64 0)) fun t31 =>
 CondS t31 (
 K (Value.tuple [(Value.slice none 0 0), t29].toArray) w
 ) (
 PureS (binV .add i6 (Value.int .i64 1)) fun t24 =>
 L7 t24 w
 )
 ) w
 ) w
 ) (
 J0 w
 )
 ) (Value.int .i64 0) w
 )
 )
 ) w
theorem s18_den (seq0 l1 : Value) (K : Value → World → Prop) (w : World) : denFn Try.prog false (bodyOf Try.f18) Try.f18.results a18 [seq0, l1] K NoP w = s18 seq0 l1 K w := by kernel_rfl
theorem s18_dst : dstsOk (2 + 86) (bodyOf Try.f18) = true := by kernel_rfl
theorem s18_ann : annOk (bodyOf Try.f18) a18 = true := by kernel_rfl
theorem s18_call {seq0 l1 : Value} {K : Value → World → Prop} {w : World} (hm : Try.prog.follows .mixedOrders = true) (h : s18 seq0 l1 K w) : CallS Try.prog 18 #[seq0, l1] K w :=
  fn_call (args := [seq0, l1]) (m := 86) hm Try.func18 (by kernel_rfl) (rs := Try.f18.results) rfl Try.ntmps18 s18_dst s18_ann (by rw [s18_den]; exact h)

/-! number 19 -/
def a19 : Ann :=
 (.q (.r [.plain 2]) (.q (.r [.plain 1]) (.j [3] 32764 (.q (.r [.plain 2]) (.b (.q (.r [.plain 2]) (.c (.r [.plain 4]) (.q (.r [.plain 2]) (.c (.r [.plain 1]) (.q (.r [.plain 2]) (.c (.r [.plain 1]) (.q (.r [.plain 1]) .s)))))))))
  (.q (.q (.r [.plain 5, .grp 5 [24] 32505856, .plain 1]) (.c (.q (.r [.plain 1]) .s) .s)) (.q (.r [.plain 1]) .s)))))
def s19 (r0 : Value) (K : Value → World → Prop) (w : World) : Prop :=
 BoxS 31 r0 (fun r1 w =>
 JoinS (fun (most3 : Value) (w : World) =>
 PureS (fieldAddrV 2 r1) fun t15 =>
 LoadC t15 (fun t16 w =>
 PureS (lenStrV t16) fun t17 =>
 PureS (binV .gtr t17 (Value.int .i64 1024)) fun t18 =>
 JoinS (fun (t24 : Value) (w : World) =>
 PureS (pickV t18 (Value.bool true) t24) fun t25 =>
 CondS t25 (
 K (Value.int .i64 2) w
 ) (
 K (Value.int .i64 0) w
 )
 ) fun J1 =>
 IfB t18 false (
 PureS (fieldAddrV 3 r1) fun t20 =>
 LoadC t20 (fun t21 w =>
 PureS (lenStrV t21) fun t22 =>
 PureS (binV .gtr t22 most3) fun t24_1 =>
 J1 t24_1 w
 ) w
 ) (
 J1 undef w
 )
 ) w
 ) fun J0 =>
 PureS (fieldAddrV 1 r1) fun t4 =>
 LoadC t4 (fun t5 w =>
 PureS (binV .eql t5 (Value.int .i64 0)) fun t7 =>
 CondS t7 (
 PureS (fieldAddrV 3 r1) fun t8 =>
 LoadC t8 (fun t9 w =>
 PureS (lenStrV t9) fun t10 =>
 J0 t10 w
 ) w
 ) (
 PureS (binV .eql t5 (Value.int .i64 1)) fun t12 =>
 CondS t12 (
 J0 (Value.int .i64 16384) w
 ) (
 PureS (binV .eql t5 (Value.int .i64 2)) fun t14 =>
 CondS t14 (
 J0 (Value.int .i64 1024) w
 ) (
 K (Value.int .i64 1) w
 )
 )
 )
 ) w
 ) w
theorem s19_den (r0 : Value) (K : Value → World → Prop) (w : World) : denFn Try.prog false (bodyOf Try.f19) Try.f19.results a19 [r0] K NoP w = s19 r0 K w := by kernel_rfl
theorem s19_dst : dstsOk (1 + 25) (bodyOf Try.f19) = true := by kernel_rfl
theorem s19_ann : annOk (bodyOf Try.f19) a19 = true := by kernel_rfl
theorem s19_call {r0 : Value} {K : Value → World → Prop} {w : World} (hm : Try.prog.follows .mixedOrders = true) (h : s19 r0 K w) : CallS Try.prog 19 #[r0] K w :=
  fn_call (args := [r0]) (m := 25) hm Try.func19 (by kernel_rfl) (rs := Try.f19.results) rfl Try.ntmps19 s19_dst s19_ann (by rw [s19_den]; exact h)

/-! number 20 -/
def a20 : Ann :=
 (.q (.r [.plain 2]) (.q (.q (.r [.plain 4, .grp 3 [9] 896, .plain 1]) (.c (.q (.r [.plain 1]) .s) .s)) (.q (.j [23] 16775168 (.d [0, 1, 3, 7, 15, 31, 63, 127, 31, 287, 799, 2047, 4095] (.pur 0 (.hld 1 (.pur 2 (.pur 3 (.pur 4 (.ite 4 (.skp 5 (.skp 6 (.skp 7 (.skp 8 (.skp 9 (.skp 10 (.skp 11 (.pur 12 .fin)))))))) (.pur 5 (.pur 8 (.hld 6 (.pur 7 (.hld 9 (.act 10 (.pur 11 (.pur 12 .fin)))))))))))))))
  (.c (.q (.r [.plain 1]) .s) .s)) (.q (.r [.plain 1]) .s))))
def s20 (r0 : Value) (K : Value → World → Prop) (w : World) : Prop :=
 BoxS 31 r0 (fun r1 w =>
 PureS (fieldAddrV 1 r1) fun t3 =>
 LoadC t3 (fun t4 w =>
 PureS (binV .lss t4 (Value.int .i64 0)) fun t5 =>
 JoinS (fun (t9 : Value) (w : World) =>
 PureS (pickV t5 (Value.bool true) t9) fun t10 =>
 CondS t10 (
 K (Value.int .i64 1) w
 ) (
 JoinS (fun (t23 : Value) (w : World) =>
 CondS t23 (
 K (Value.int .i64 2) w
 ) (
 K (Value.int .i64 0) w
 )
 ) fun J1 =>
 DrawS fun S2 => S2 w.drew ∧ (
 PureS (fieldAddrV 2 r1) fun t11 =>
 HeldC S2 t11 (fun t12 =>
 PureS (lenStrV t12) fun t13 =>
 PureS (binV .gtr t13 (Value.int .i64 1024)) fun t14 =>
 CondS t14 (
 PureS (pickV (Value.bool true) (Value.bool true) undef) fun t23_1 =>
 J1 t23_1 w.drew
 ) (
 PureS (fieldAddrV 3 r1) fun t16 =>
 PureS (fieldAddrV 1 r1) fun t19 =>
 HeldC S2 t16 (fun t17 =>
 PureS (lenStrV t17) fun t18 =>
 HeldC S2 t19 (fun t20 =>
 CallS Try.prog 38 [t20].toArray (fun t21 w =>
 S2 w ∧ (
 PureS (binV .gtr t18 t21) fun t22 =>
 PureS (pickV (Value.bool false) (Value.bool true) t22) fun t23_2 =>
 J1 t23_2 w
 )
 ) w.drew
 )
 )
 )
 )
 )
 )
 ) fun J0 =>
 IfB t5 false (
 PureS (fieldAddrV 1 r1) fun t7 =>
 LoadC t7 (fun t8 w =>
 PureS (binV .gtr t8 (Value.int .i64 2)) fun t9_1 =>
 J0 t9_1 w
 ) w
 ) (
 J0 undef w
 )
 ) w
 ) w
theorem s20_den (r0 : Value) (K : Value → World → Prop) (w : World) : denFn Try.prog false (bodyOf Try.f20) Try.f20.results a20 [r0] K NoP w = s20 r0 K w := by kernel_rfl
theorem s20_dst : dstsOk (1 + 23) (bodyOf Try.f20) = true := by kernel_rfl
theorem s20_ann : annOk (bodyOf Try.f20) a20 = true := by kernel_rfl
theorem s20_call {r0 : Value} {K : Value → World → Prop} {w : World} (hm : Try.prog.follows .mixedOrders = true) (h : s20 r0 K w) : CallS Try.prog 20 #[r0] K w :=
  fn_call (args := [r0]) (m := 23) hm Try.func20 (by kernel_rfl) (rs := Try.f20.results) rfl Try.ntmps20 s20_dst s20_ann (by rw [s20_den]; exact h)

/-! number 22 -/
def a22 : Ann :=
 (.q (.r [.plain 1]) (.q (.r [.plain 2]) (.j [3] 1048536 (.q (.r [.plain 1]) (.b (.l [3, 4] 1048536 (.q (.q (.r [.plain 4]) (.c .s .s)) (.q (.b (.r [.plain 9])) (.r [.plain 3]))))))
  (.q (.r [.plain 2]) .s))))
def s22 (l0 : Value) (K : Value → World → Prop) (w : World) : Prop :=
 RunS Try.prog (Instr.buildSlice 22 0 [].toArray) (fun t5 w =>
 JoinS (fun (out3 : Value) (w : World) =>
 K out3 w
 ) fun J0 =>
 LoopS 2 (fun L1 (out3_1 i4 : Value) (w : World) =>
 PureS (lenSliceV l0) fun t8 =>
 PureS (binV .lss i4 t8) fun t9 =>
 CondS t9 (
 PureS (indexAddrV 4 l0 i4) fun t15 =>
 LoadA 4 t15 (fun t16 w =>
 CallS Try.prog 43 [t16].toArray (fun t17 w =>
 RunS Try.prog (Instr.buildSlice 22 1 [(0, t17)].toArray) (fun t18 w =>
 RunS Try.prog (Builtin.append_ #[22, 22] 22 [out3_1, t18].toArray) (fun t19 w =>
 PureS (binV .add i4 (Value.int .i64 1)) fun t11 =>
 L1 t19 t11 w
 ) w
 ) w
 ) w
 ) w
 ) (
 J0 out3_1 w
 )
 ) t5 (Value.int .i64 0) w
 ) w
theorem s22_den (l0 : Value) (K : Value → World → Prop) (w : World) : denFn Try.prog false (bodyOf Try.f22) Try.f22.results a22 [l0] K NoP w = s22 l0 K w := by kernel_rfl
theorem s22_dst : dstsOk (1 + 20) (bodyOf Try.f22) = true := by kernel_rfl
theorem s22_ann : annOk (bodyOf Try.f22) a22 = true := by kernel_rfl
theorem s22_call {l0 : Value} {K : Value → World → Prop} {w : World} (hm : Try.prog.follows .mixedOrders = true) (h : s22 l0 K w) : CallS Try.prog 22 #[l0] K w :=
  fn_call (args := [l0]) (m := 20) hm Try.func22 (by kernel_rfl) (rs := Try.f22.results) rfl Try.ntmps22 s22_dst s22_ann (by rw [s22_den]; exact h)

/-! number 23 -/
def a23 : Ann :=
 (.q (.r [.plain 3]) (.q (.q (.r [.plain 3]) (.c (.q (.r [.plain 3]) .s) .s)) (.q (.r [.plain 7]) (.q (.q (.r [.plain 2]) (.c (.q (.r [.plain 4]) .s) .s)) (.q (.q (.r [.plain 2]) (.c (.q (.r [.plain 3]) .s) .s)) (.q (.r [.plain 8]) (.q (.q (.r [.plain 2]) (.c (.q (.r [.plain 4]) .s) .s)) (.q (.q (.r [.plain 3, .grp 5 [41] 4260607557632, .plain 1]) (.c (.q (.r [.plain 3]) .s) .s)) (.q (.r [.plain 7]) (.j [9] 590295528883728944668 (.q (.r [.plain 1]) (.b (.l [9, 10] 590295528883728944668 (.q (.q (.r [.plain 4]) (.c .s .s)) (.q (.b (.q (.r [.plain 4]) (.q (.q (.r [.plain 5]) (.c (.q (.d [0, 1, 3, 7, 0, 16, 63] (.pur 0 (.pur 1 (.pur 2 (.pur 4 (.pur 5 (.hld 3 (.pur 6 .fin)))))))) .s) .s)) (.r [.plain 5])))) (.r [.plain 3]))))))
  (.q (.q (.r [.plain 6]) (.c (.q (.r [.plain 3]) .s) .s)) (.q (.r [.plain 5]) .s))))))))))))
def s23 (b0 : Value) (K : Value → World → Prop) (w : World) : Prop :=
 PureS (lenSliceV b0) fun t13 =>
 PureS (binV .gtr t13 (Value.int .i64 4194304)) fun t14 =>
 CondS t14 (
 K (Value.tuple [(Value.int .u64 0), (Value.slice none 0 0), (Value.int .i64 2)].toArray) w
 ) (
 CallS Try.prog 44 [b0, (Value.int .i64 8)].toArray (fun t17 w =>
 PureS (extractV 0 t17) fun t18 =>
 PureS (extractV 1 t17) fun t19 =>
 PureS (binV .neq t19 (Value.int .i64 0)) fun t21 =>
 CondS t21 (
 K (Value.tuple [(Value.int .u64 0), (Value.slice none 0 0), t19].toArray) w
 ) (
 PureS (binV .gtr t18 (Value.int .u64 72057594037927935)) fun t24 =>
 CondS t24 (
 K (Value.tuple [(Value.int .u64 0), (Value.slice none 0 0), (Value.int .i64 3)].toArray) w
 ) (
 PureS (sliceV 1 b0 (some (Value.int .i64 8)) none) fun t27 =>
 CallS Try.prog 44 [t27, (Value.int .i64 4)].toArray (fun t28 w =>
 PureS (extractV 0 t28) fun t29 =>
 PureS (extractV 1 t28) fun t30 =>
 PureS (binV .neq t30 (Value.int .i64 0)) fun t32 =>
 CondS t32 (
 K (Value.tuple [(Value.int .u64 0), (Value.slice none 0 0), t30].toArray) w
 ) (
 PureS (binV .gtr t29 (Value.int .u64 4096)) fun t35 =>
 JoinS (fun (t41 : Value) (w : World) =>
 PureS (pickV t35 (Value.bool true) t41) fun t42 =>
 CondS t42 (
 K (Value.tuple [(Value.int .u64 0), (Value.slice none 0 0), (Value.int .i64 3)].toArray) w
 ) (
 PureS (sliceV 1 b0 (some (Value.int .i64 12)) none) fun t44 =>
 RunS Try.prog (Instr.build 80 [(0, t44)].toArray) (fun t45 w =>
 BoxS 80 t45 (fun t46 w =>
 RunS Try.prog (Instr.buildSlice 22 0 [].toArray) (fun t47 w =>
 JoinS (fun (l9 : Value) (w : World) =>
 PureS (nilV t46) fun t70 =>
 PureS (fieldAddrV 0 t70) fun t71 =>
 LoadC t71 (fun t72 w =>
 PureS (lenSliceV t72) fun t73 =>
 PureS (binV .gtr t73 (Value.int .i64 0)) fun t74 =>
 CondS t74 (
 K (Value.tuple [(Value.int .u64 0), (Value.slice none 0 0), (Value.int .i64 5)].toArray) w
 ) (
 K (Value.tuple [t18, l9, (Value.int .i64 0)].toArray) w
 )
 ) w
 ) fun J1 =>
 LoopS 2 (fun L2 (l9_1 i10 : Value) (w : World) =>
 PureS (convIntV .i64 t29) fun t50 =>
 PureS (binV .lss i10 t50) fun t51 =>
 CondS t51 (
 CallS Try.prog 45 [t46].toArray (fun t55 w =>
 BoxS 31 (Value.agg #[(Value.int .u32 0), (Value.int .i64 0), (Value.string ⟨#[]⟩), (Value.string ⟨#[]⟩)]) (fun x11 w =>
 StoreA 4 x11 t55 (fun w =>
 PureS (nilV t46) fun t57 =>
 PureS (fieldAddrV 1 t57) fun t58 =>
 LoadC t58 (fun t59 w =>
 PureS (binV .neq t59 (Value.int .i64 0)) fun t60 =>
 CondS t60 (
 DrawS fun S3 => S3 w.drew ∧ (
 PureS (nilV t46) fun t62 =>
 PureS (fieldAddrV 1 t62) fun t63 =>
 HeldC S3 t63 (fun t64 =>
 K (Value.tuple [(Value.int .u64 0), (Value.slice none 0 0), t64].toArray) w.drew
 )
 )
 ) (
 LoadA 4 x11 (fun t66 w =>
 RunS Try.prog (Instr.buildSlice 22 1 [(0, t66)].toArray) (fun t67 w =>
 RunS Try.prog (Builtin.append_ #[22, 22] 22 [l9_1, t67].toArray) (fun t68 w =>
 PureS (binV .add i10 (Value.int .i64 1)) fun t53 =>
 L2 t68 t53 w
 ) w
 ) w
 ) w
 )
 ) w
 ) w
 ) w
 ) w
 ) (
 J1 l9_1 w
 )
 ) t47 (Value.int .i64 0) w
 ) w
 ) w
 ) w
 )
 ) fun J0 =>
 IfB t35 false (
 PureS (convIntV .i64 t29) fun t39 =>
 CallS Try.prog 35 [t18, t39].toArray (fun t40 w =>
 PureS (notV t40) fun t41_1 =>
 J0 t41_1 w
 ) w
 ) (
 J0 undef w
 )
 )
 ) w
 )
 )
 ) w
 )
theorem s23_den (b0 : Value) (K : Value → World → Prop) (w : World) : denFn Try.prog false (bodyOf Try.f23) Try.f23.results a23 [b0] K NoP w = s23 b0 K w := by kernel_rfl
theorem s23_dst : dstsOk (1 + 76) (bodyOf Try.f23) = true := by kernel_rfl
theorem s23_ann : annOk (bodyOf Try.f23) a23 = true := by kernel_rfl
theorem s23_call {b0 : Value} {K : Value → World → Prop} {w : World} (hm : Try.prog.follows .mixedOrders = true) (h : s23 b0 K w) : CallS Try.prog 23 #[b0] K w :=
  fn_call (args := [b0]) (m := 76) hm Try.func23 (by kernel_rfl) (rs := Try.f23.results) rfl Try.ntmps23 s23_dst s23_ann (by rw [s23_den]; exact h)
end Go.Proofs.Ytambcnlkdnmekaa
