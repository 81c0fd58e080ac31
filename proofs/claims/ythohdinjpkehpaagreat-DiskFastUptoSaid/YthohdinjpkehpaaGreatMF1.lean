/- Several texts of ours, laid one behind the other. -/
import Derived.Test.YthohdinjpkehpaaGreatMF0
import Derived.Below
import Derived.Laws.AppendOwn
import Derived.Maps.AppendAt
import Derived.Lib.AppendStr
import Derived.OwnWalk
import Derived.Laws.StructEq
import Derived.Laws.OwnMore
import Derived.Laws.BytesString
import Derived.Laws.IdiomStrings
import Derived.LaidEqlPtr
import Derived.Laws.CopyRow
import Derived.Defers
import Derived.Recover
import Derived.Test.YthohdinjpkehpaaGreatProg
namespace SG
open Go Go.RowKit
set_option linter.unusedVariables false

structure Ext (S : Nat → Prop) (w w' : World) : Prop where
  os : w'.os = w.os
  tape : w'.tape = w.tape
  output : w'.output = w.output
  size : w.heap.size ≤ w'.heap.size
  blk : ∀ b, b < w.heap.size → ¬ S b → w'.heap[b]? = w.heap[b]?
def No : Nat → Prop := fun _ => False
def At1 (g : Nat) : Nat → Prop := fun b => b = g
namespace Ext
variable {S S' S'' : Nat → Prop} {w w' w'' : World}
theorem refl (S : Nat → Prop) (w : World) : Ext S w w := ⟨rfl, rfl, rfl, Nat.le_refl _, fun _ _ _ => rfl⟩
theorem trans' (h : Ext S w w') (k : Ext S' w' w'') (h1 : ∀ b, S b → b < w.heap.size → S'' b) (h2 : ∀ b, S' b → b < w.heap.size → S'' b) : Ext S'' w w'' :=
  ⟨k.os.trans h.os, k.tape.trans h.tape, k.output.trans h.output, Nat.le_trans h.size k.size,
    fun b hb hS => (k.blk b (Nat.lt_of_lt_of_le hb h.size) fun hh => hS (h2 b hh hb)).trans (h.blk b hb fun hh => hS (h1 b hh hb))⟩
theorem trans (h : Ext S w w') (k : Ext S w' w'') : Ext S w w'' := h.trans' k (fun _ h _ => h) (fun _ h _ => h)
theorem mono (h : Ext S w w') (hS : ∀ b, S b → b < w.heap.size → S' b) : Ext S' w w' := ⟨h.os, h.tape, h.output, h.size, fun b hb hn => h.blk b hb fun hh => hn (hS b hh hb)⟩
theorem no (h : Ext No w w') : Ext S w w' := h.mono fun _ hh _ => hh.elim
theorem drew (w : World) : Ext S w w.drew := ⟨rfl, rfl, rfl, Nat.le_refl _, fun _ _ _ => rfl⟩
theorem alloc (w : World) (o : Obj) : Ext S w (w.alloc o) := ⟨rfl, rfl, rfl, by simp, fun b hb _ => Below.heap_alloc w o b hb⟩
theorem setCell (w : World) (a : Addr) (v : Value) (h : S a.block) : Ext S w (w.setCell a v) :=
  ⟨rfl, rfl, rfl, by simp, fun b hb hn => Below.heap_setCell w a v b fun e => hn (e ▸ h)⟩
theorem grown {row : Option Nat} (h : w.grownBy w' row) (hS : ∀ b, row = some b → S b) : Ext S w w' :=
  ⟨h.os, h.tape, h.output, h.size, fun b hb hn => h.block b hb fun e => hn (hS b e.symm)⟩
theorem to_grown {g : Nat} (h : Ext (At1 g) w w') : w.grownBy w' (some g) := ⟨h.os, h.tape, h.output, h.size, fun b hb hn => h.blk b hb fun e => hn (by rw [show b = g from e])⟩
theorem to_grown_none (h : Ext No w w') (row : Option Nat) : w.grownBy w' row := ⟨h.os, h.tape, h.output, h.size, fun b hb _ => h.blk b hb fun e => e⟩
theorem below {B : Nat} (h : Ext S w w') (hB : B ≤ w.heap.size) (hS : ∀ b, S b → B ≤ b) : Below B w w' :=
  ⟨h.os, h.tape, h.output, h.size, fun b hb => h.blk b (Nat.lt_of_lt_of_le hb hB) fun hh => absurd (hS b hh) (Nat.not_le.2 hb)⟩
theorem of_below (h : Below w.heap.size w w') : Ext S w w' := ⟨h.os, h.tape, h.output, h.size, fun b hb _ => h.block b hb⟩
theorem fresh (h : Ext S w w') (k : Ext S' w' w'') (h2 : ∀ b, S' b → S b ∨ w.heap.size ≤ b) : Ext S w w'' :=
  h.trans' k (fun _ h _ => h) (fun b hb hlt => (h2 b hb).resolve_right (by omega))
theorem lt (h : Ext S w w') {b : Nat} (hb : b < w.heap.size) : b < w'.heap.size := Nat.lt_of_lt_of_le hb h.size
theorem cell (h : Ext S w w') {a : Addr} (hb : a.block < w.heap.size) (hn : ¬ S a.block) : w'.cell? a = w.cell? a := World.cell?_of_block (w := w) (h.blk _ hb hn)
end Ext

def Blk (w : World) (g : Nat) (t : TypeId) (cs : List Value) : Prop := w.heap[g]? = some (.cells cs.toArray t (0, 0))
namespace Blk
variable {S : Nat → Prop} {w w' : World} {g : Nat} {t : TypeId} {cs : List Value}
theorem lt (h : Blk w g t cs) : g < w.heap.size := (Array.getElem?_eq_some_iff.1 h).1
theorem ext (h : Blk w g t cs) (e : Ext S w w') (hn : ¬ S g) : Blk w' g t cs := (e.blk g h.lt hn).trans h
theorem no (h : Blk w g t cs) (e : Ext No w w') : Blk w' g t cs := h.ext e fun e => e
theorem cell (h : Blk w g t cs) (i : Nat) : w.cell? ⟨g, i, none⟩ = cs[i]? := by
  unfold Blk at h
  simp [World.cell?, h]
theorem frozen (h : Blk w g t cs) (i : Nat) : w.frozen? ⟨g, i, none⟩ = false := by
  unfold Blk at h
  simp [World.frozen?, h]
theorem set (h : Blk w g t cs) (i : Nat) (v : Value) : Blk (w.setCell ⟨g, i, none⟩ v) g t (cs.set i v) := by
  unfold Blk at h ⊢
  simp [World.setCell, Array.getElem?_modify, h]
theorem new (w : World) (cs : List Value) (t : TypeId) : Blk (w.alloc (.cells cs.toArray t)) w.heap.size t cs := heap_alloc_new w _
end Blk
def At (w : World) (a : Addr) (xs : List Value) : Prop := ∀ i v, xs[i]? = some v → w.cell? (a.add i) = some v
theorem Addr.add_mk (b o n : Nat) : (⟨b, o, none⟩ : Addr).add n = ⟨b, o + n, none⟩ := Go.Addr.add_lit b o n
theorem Addr.add_block (a : Addr) (n : Nat) : (a.add n).block = a.block := by unfold Addr.add; split <;> rfl
theorem Addr.add_add (a : Addr) (i j : Nat) : (a.add i).add j = a.add (i + j) := by
  unfold Addr.add
  by_cases hi : i = 0 <;> by_cases hj : j = 0 <;> simp [hi, hj, Nat.add_assoc]
theorem At.blk {w : World} {g o : Nat} {t : TypeId} {cs xs : List Value} (h : Blk w g t cs) (hx : ∀ i v, xs[i]? = some v → cs[o + i]? = some v) : At w ⟨g, o, none⟩ xs :=
  fun i v hv => by rw [Addr.add_mk, h.cell]; exact hx i v hv
theorem At.of_blk {w : World} {g : Nat} {t : TypeId} {cs : List Value} (h : Blk w g t cs) : At w ⟨g, 0, none⟩ cs := At.blk h fun i v hv => by rw [Nat.zero_add]; exact hv
theorem At.ext {S : Nat → Prop} {w w' : World} {a : Addr} {xs : List Value} (h : At w a xs) (e : Ext S w w') (hb : a.block < w.heap.size) (hn : ¬ S a.block) : At w' a xs :=
  fun i v hv => by rw [e.cell (by rw [Addr.add_block]; exact hb) (by rw [Addr.add_block]; exact hn)]; exact h i v hv
theorem At.drop {w : World} {a : Addr} {xs : List Value} (h : At w a xs) (n : Nat) : At w (a.add n) (xs.drop n) := fun i v hv => by
  rw [Addr.add_add]; exact h _ v (by rwa [List.getElem?_drop] at hv)
theorem At.take {w : World} {a : Addr} {xs : List Value} (h : At w a xs) (n : Nat) : At w a (xs.take n) := fun i v hv => by
  rw [List.getElem?_take] at hv
  split at hv
  · exact h i v hv
  · cases hv

theorem CondS_bool (b : Bool) (X Y : Prop) : CondS (.bool b) X Y = if b = true then X else Y := rfl
theorem condT {b : Bool} {X Y : Prop} (hb : b = true) (h : X) : CondS (.bool b) X Y := by rw [CondS_bool, if_pos hb]; exact h
theorem condF {b : Bool} {X Y : Prop} (hb : b = false) (h : Y) : CondS (.bool b) X Y := by rw [CondS_bool, if_neg (by rw [hb]; simp)]; exact h
theorem condD {p : Prop} [Decidable p] {X Y : Prop} (hx : p → X) (hy : ¬ p → Y) : CondS (.bool (decide p)) X Y := by
  by_cases hp : p
  · exact condT (by simp [hp]) (hx hp)
  · exact condF (by simp [hp]) (hy hp)
theorem condN {p : Prop} [Decidable p] {X Y : Prop} (hx : ¬ p → X) (hy : p → Y) : CondS (.bool (!decide p)) X Y := by
  by_cases hp : p
  · exact condF (by simp [hp]) (hy hp)
  · exact condT (by simp [hp]) (hx hp)
theorem condB {b : Bool} {X Y : Prop} (hx : b = true → X) (hy : b = false → Y) : CondS (.bool b) X Y := by
  cases b
  · exact condF rfl (hy rfl)
  · exact condT rfl (hx rfl)
theorem ifB_eq (b want : Bool) (X Y : Prop) : IfB (.bool b) want X Y = if b = want then X else Y := by
  unfold IfB isB
  cases b <;> cases want <;> simp
theorem load {S : Nat → Prop} {w : World} {a : Addr} {v : Value} {K : Value → World → Prop} (h : w.cell? a = some v) (hK : K v w) : LoadC (.pointer (some a)) K w := by
  unfold LoadC; simp only [h]; exact hK
theorem loadB {w : World} {g i : Nat} {t : TypeId} {cs : List Value} {v : Value} {K : Value → World → Prop} (h : Blk w g t cs) (hv : cs[i]? = some v) (hK : K v w) : LoadC (.pointer (some ⟨g, i, none⟩)) K w :=
  load (S := No) ((h.cell i).trans hv) hK
theorem loadA {w : World} {a : Addr} {xs : List Value} {n : Nat} {K : Value → World → Prop} (h : At w a xs) (hl : xs.length = n) (hK : K (.agg xs.toArray) w) : LoadA n (.pointer (some a)) K w :=
  ⟨xs, hl, h, hK⟩
theorem heldC {S : World → Prop} {a : Addr} {v : Value} {K : Value → Prop} (h : ∀ w, S w → w.cell? a = some v) (hK : K v) : HeldC S (.pointer (some a)) K := ⟨v, h, hK⟩
theorem heldA {S : World → Prop} {a : Addr} {xs : List Value} {n : Nat} {K : Value → Prop} (h : ∀ w, S w → At w a xs) (hl : xs.length = n) (hK : K (.agg xs.toArray)) : HeldA n S (.pointer (some a)) K :=
  ⟨xs, hl, h, hK⟩
theorem storeB {w : World} {g i : Nat} {t : TypeId} {cs : List Value} {v : Value} {K : World → Prop} (h : Blk w g t cs) (hi : i < cs.length) (hv : v.oneCell' = true)
    (hK : ∀ w', Blk w' g t (cs.set i v) → Ext (At1 g) w w' → w'.heap.size = w.heap.size → K w') : StoreC (.pointer (some ⟨g, i, none⟩)) v K w :=
  ⟨hv, by rw [h.cell, List.getElem?_eq_getElem hi]; rfl, h.frozen i, hK _ (h.set i v) (Ext.setCell w _ v rfl) (by simp)⟩
theorem box {w : World} {t : TypeId} {v : Value} {K : Value → World → Prop} (hK : ∀ w', Blk w' w.heap.size t v.cells.toList → Ext No w w' → w'.heap.size = w.heap.size + 1 → K (.pointer (some ⟨w.heap.size, 0, none⟩)) w') : BoxS t v K w := by
  unfold BoxS
  refine hK _ ?_ (Ext.alloc w _) (by simp)
  have := Blk.new w v.cells.toList t
  simpa using this
theorem setCells_blk : ∀ (vs : List Value) (i : Nat) (w : World) (g o : Nat) (t : TypeId) (cs : List Value), Blk w g t cs → i + vs.length + o ≤ cs.length →
    Blk (setCells w ⟨g, o, none⟩ i vs) g t (cs.take (o + i) ++ vs ++ cs.drop (o + i + vs.length)) ∧ Ext (At1 g) w (setCells w ⟨g, o, none⟩ i vs) ∧ (setCells w ⟨g, o, none⟩ i vs).heap.size = w.heap.size
  | [], i, w, g, o, t, cs, h, _ => ⟨by simpa [setCells] using h, Ext.refl _ w, rfl⟩
  | v :: vs, i, w, g, o, t, cs, h, hl => by
    have h1 := h.set (o + i) v
    rw [← Addr.add_mk] at h1
    obtain ⟨h2, h3, h4⟩ := setCells_blk vs (i + 1) _ g o t _ h1 (by simp only [List.length_cons] at hl; simp; omega)
    refine ⟨?_, (Ext.setCell w _ v (by rw [Addr.add_block]; rfl)).trans h3, by rw [show setCells w ⟨g, o, none⟩ i (v :: vs) = setCells (w.setCell ((⟨g, o, none⟩ : Addr).add i) v) ⟨g, o, none⟩ (i + 1) vs from rfl, h4]; simp⟩
    have hlt : o + i < cs.length := by simp only [List.length_cons] at hl; omega
    have e : (cs.set (o + i) v).take (o + (i + 1)) ++ vs ++ (cs.set (o + i) v).drop (o + (i + 1) + vs.length) = cs.take (o + i) ++ (v :: vs) ++ cs.drop (o + i + (v :: vs).length) := by
      rw [List.take_set, List.drop_set_of_lt (by omega)]
      rw [show o + (i + 1) = o + i + 1 by omega, List.take_succ_eq_append_getElem hlt]
      rw [List.set_append_right _ _ (by simp; omega)]
      simp [Nat.min_eq_left (Nat.le_of_lt hlt)]
      omega
    rw [e] at h2
    exact h2
theorem storeA {w : World} {g o n : Nat} {t : TypeId} {cs vs : List Value} {K : World → Prop} (h : Blk w g t cs) (hl : vs.length = n) (hn : n + o ≤ cs.length) (hv : ∀ v ∈ vs, v.oneCell' = true)
    (hK : ∀ w', Blk w' g t (cs.take o ++ vs ++ cs.drop (o + n)) → Ext (At1 g) w w' → w'.heap.size = w.heap.size → K w') : StoreA n (.pointer (some ⟨g, o, none⟩)) (.agg vs.toArray) K w := by
  refine ⟨by simp [hl], by simpa using hv, fun i hi => ?_, ?_⟩
  · rw [Addr.add_mk, h.cell, h.frozen]
    exact ⟨by rw [List.getElem?_eq_getElem (by omega)]; rfl, rfl⟩
  · obtain ⟨h1, h2, h3⟩ := setCells_blk vs 0 w g o t cs h (by omega)
    simp only [Nat.add_zero, hl] at h1
    exact hK _ h1 h2 h3
theorem storeAll {w : World} {g n : Nat} {t : TypeId} {cs vs : List Value} {K : World → Prop} (h : Blk w g t cs) (hl : vs.length = n) (hn : cs.length = n) (hv : ∀ v ∈ vs, v.oneCell' = true)
    (hK : ∀ w', Blk w' g t vs → Ext (At1 g) w w' → w'.heap.size = w.heap.size → K w') : StoreA n (.pointer (some ⟨g, 0, none⟩)) (.agg vs.toArray) K w :=
  storeA h hl (by omega) hv fun w' hb he hs => hK w' (by simpa [← hn] using hb) he hs
theorem runS {P : Program} {s : Sem Value} {K : Value → World → Prop} {w w' : World} {v : Value} (h : s.run P w = .ok v w') (hK : K v w') : RunS P s K w := by
  unfold RunS; rw [h]; exact hK
theorem runU {P : Program} {s : Sem Unit} {K : World → Prop} {w w' : World} (h : s.run P w = .ok () w') (hK : K w') : RunU P s K w := by
  unfold RunU; rw [h]; exact hK
theorem callS {P : Program} {f : FuncId} {args : Array Value} {K K' : Value → World → Prop} {w : World} (h : CallS P f args K w) (hK : ∀ v w', K v w' → K' v w') : CallS P f args K' w :=
  Calls.mono h fun e w' he => by cases e <;> first | exact hK _ _ he | exact he
theorem draw {w : World} {X : (World → Prop) → Prop} (S : World → Prop) (h0 : S w) (h : X S) : DrawS fun S => S w ∧ X S := ⟨S, h0, h⟩

theorem join0 {Z : World → Prop} {X : (World → Prop) → Prop} (I : World → Prop) (hZ : ∀ w, I w → Z w) (hX : ∀ J : World → Prop, (∀ w, I w → J w) → X J) : JoinS Z X := ⟨hX Z hZ⟩
theorem join1 {Z : Value → World → Prop} {X : (Value → World → Prop) → Prop} (I : Value → World → Prop) (hZ : ∀ a w, I a w → Z a w) (hX : ∀ J : Value → World → Prop, (∀ a w, I a w → J a w) → X J) : JoinS Z X := ⟨hX Z hZ⟩
theorem join2 {Z : Value → Value → World → Prop} {X : (Value → Value → World → Prop) → Prop} (I : Value → Value → World → Prop) (hZ : ∀ a b w, I a b w → Z a b w)
    (hX : ∀ J : Value → Value → World → Prop, (∀ a b w, I a b w → J a b w) → X J) : JoinS Z X := ⟨hX Z hZ⟩
theorem join3 {Z : Value → Value → Value → World → Prop} {X : (Value → Value → Value → World → Prop) → Prop} (I : Value → Value → Value → World → Prop) (hZ : ∀ a b c w, I a b c w → Z a b c w)
    (hX : ∀ J : Value → Value → Value → World → Prop, (∀ a b c w, I a b c w → J a b c w) → X J) : JoinS Z X := ⟨hX Z hZ⟩
theorem least {p : Nat → Prop} (h : ∃ n, p n) : ∃ n, p n ∧ ∀ m, p m → n ≤ m := by
  obtain ⟨n, hn⟩ := h
  induction n using Nat.strongRecOn with
  | _ n ih =>
    by_cases hh : ∃ m, m < n ∧ p m
    · obtain ⟨m, hm, hp⟩ := hh
      exact ih m hm hp
    · exact ⟨n, hn, fun m hm => Nat.le_of_not_lt fun hlt => hh ⟨m, hlt, hm⟩⟩
theorem loopL {σ : Type} {n : Nat} {body : Cur n → Cur n} (inv : σ → List Value → World → Prop) (μ : σ → Nat) {vs : List Value} {w : World} (s : σ) (h0 : inv s vs w)
    (h : ∀ s vs w, vs.length = n → inv s vs w → ∀ L : Cur n, (∀ s' vs' w', vs'.length = n → inv s' vs' w' → μ s' < μ s → app n L vs' w') → app n (body L) vs w) : LoopL n body vs w := by
  classical
  have hex : ∀ vs w, (∃ s, inv s vs w) → ∃ k, (∃ s, inv s vs w ∧ μ s = k) ∧ ∀ m, (∃ s, inv s vs w ∧ μ s = m) → k ≤ m := fun vs w ⟨s, hs⟩ => least ⟨μ s, s, hs, rfl⟩
  refine ⟨fun vs w => ∃ s, inv s vs w, fun vs w => if hh : ∃ s, inv s vs w then (hex vs w hh).choose else 0, ⟨s, h0⟩, fun vs w hl hI => ?_⟩
  have hI' : ∃ s, inv s vs w := hI
  simp only [dif_pos hI']
  obtain ⟨s1, hs1, hm⟩ := (hex vs w hI').choose_spec.1
  refine h s1 vs w hl hs1 _ fun s' vs' w' hl' hs' hlt => ?_
  rw [app_curry _ _ _ _ hl']
  refine ⟨⟨s', hs'⟩, ?_⟩
  rw [dif_pos (⟨s', hs'⟩ : ∃ s, inv s vs' w')]
  exact Nat.lt_of_le_of_lt ((hex vs' w' ⟨s', hs'⟩).choose_spec.2 _ ⟨s', hs', rfl⟩) (by omega)
theorem loop0 {σ : Type} {body : (World → Prop) → World → Prop} (inv : σ → World → Prop) (μ : σ → Nat) {w : World} (s : σ) (h0 : inv s w)
    (h : ∀ s w, inv s w → ∀ L : World → Prop, (∀ s' w', inv s' w' → μ s' < μ s → L w') → body L w) : LoopS 0 body w :=
  (app_curry 0 _ [] w rfl).2 (loopL (n := 0) (fun s _ w => inv s w) μ s h0 fun s vs w _ hi L hL => h s w hi L fun s' w' hi' hlt => hL s' [] w' rfl hi' hlt)
theorem loop1 {σ : Type} {body : (Value → World → Prop) → Value → World → Prop} (inv : σ → Value → World → Prop) (μ : σ → Nat) {a : Value} {w : World} (s : σ) (h0 : inv s a w)
    (h : ∀ s a w, inv s a w → ∀ L : Value → World → Prop, (∀ s' a' w', inv s' a' w' → μ s' < μ s → L a' w') → body L a w) : LoopS 1 body a w :=
  (app_curry 1 _ [a] w rfl).2 (loopL (n := 1) (fun s vs w => ∃ a, vs = [a] ∧ inv s a w) μ s ⟨a, rfl, h0⟩ fun s vs w _ ⟨a, hv, hi⟩ L hL => by
    subst hv; exact h s a w hi L fun s' a' w' hi' hlt => hL s' [a'] w' rfl ⟨a', rfl, hi'⟩ hlt)
theorem loop2 {σ : Type} {body : (Value → Value → World → Prop) → Value → Value → World → Prop} (inv : σ → Value → Value → World → Prop) (μ : σ → Nat) {a b : Value} {w : World} (s : σ) (h0 : inv s a b w)
    (h : ∀ s a b w, inv s a b w → ∀ L : Value → Value → World → Prop, (∀ s' a' b' w', inv s' a' b' w' → μ s' < μ s → L a' b' w') → body L a b w) : LoopS 2 body a b w :=
  (app_curry 2 _ [a, b] w rfl).2 (loopL (n := 2) (fun s vs w => ∃ a b, vs = [a, b] ∧ inv s a b w) μ s ⟨a, b, rfl, h0⟩ fun s vs w _ ⟨a, b, hv, hi⟩ L hL => by
    subst hv; exact h s a b w hi L fun s' a' b' w' hi' hlt => hL s' [a', b'] w' rfl ⟨a', b', rfl, hi'⟩ hlt)
theorem loop3 {σ : Type} {body : (Value → Value → Value → World → Prop) → Value → Value → Value → World → Prop} (inv : σ → Value → Value → Value → World → Prop) (μ : σ → Nat) {a b c : Value} {w : World} (s : σ) (h0 : inv s a b c w)
    (h : ∀ s a b c w, inv s a b c w → ∀ L : Value → Value → Value → World → Prop, (∀ s' a' b' c' w', inv s' a' b' c' w' → μ s' < μ s → L a' b' c' w') → body L a b c w) : LoopS 3 body a b c w :=
  (app_curry 3 _ [a, b, c] w rfl).2 (loopL (n := 3) (fun s vs w => ∃ a b c, vs = [a, b, c] ∧ inv s a b c w) μ s ⟨a, b, c, rfl, h0⟩ fun s vs w _ ⟨a, b, c, hv, hi⟩ L hL => by
    subst hv; exact h s a b c w hi L fun s' a' b' c' w' hi' hlt => hL s' [a', b', c'] w' rfl ⟨a', b', c', rfl, hi'⟩ hlt)
end SG

namespace SG
open Go Go.RowKit Go.Lib
set_option linter.unusedSimpArgs false
set_option linter.unusedVariables false

theorem wi64 {n : Int} (h0 : -9223372036854775808 ≤ n) (h1 : n ≤ 9223372036854775807) : IntKind.i64.wrap n = n := by
  simp [IntKind.wrap, IntKind.signed, IntKind.bits]; omega
theorem wu64 {n : Int} (h0 : 0 ≤ n) (h1 : n ≤ 18446744073709551615) : IntKind.u64.wrap n = n := by
  simp [IntKind.wrap, IntKind.signed, IntKind.bits]; omega
section
variable (a b : Int) (k : IntKind)
theorem bin_add : binV .add (.int k a) (.int k b) = some (.int k (k.wrap (a + b))) := by simp [binV, intV]
theorem bin_sub : binV .sub (.int k a) (.int k b) = some (.int k (k.wrap (a - b))) := by simp [binV, intV]
theorem bin_mul : binV .mul (.int k a) (.int k b) = some (.int k (k.wrap (a * b))) := by simp [binV, intV]
theorem bin_eql : binV .eql (.int k a) (.int k b) = some (.bool (decide (a = b))) := by simp [binV, intV]
theorem bin_neq : binV .neq (.int k a) (.int k b) = some (.bool (!decide (a = b))) := by simp [binV, intV]
theorem bin_lss : binV .lss (.int k a) (.int k b) = some (.bool (decide (a < b))) := by simp [binV, intV]
theorem bin_leq : binV .leq (.int k a) (.int k b) = some (.bool (decide (a ≤ b))) := by simp [binV, intV]
theorem bin_gtr : binV .gtr (.int k a) (.int k b) = some (.bool (decide (b < a))) := by simp [binV, intV]
theorem bin_geq : binV .geq (.int k a) (.int k b) = some (.bool (decide (b ≤ a))) := by simp [binV, intV]
theorem bin_and : binV .and (.int k a) (.int k b) = some (.int k (bits .and k a b)) := by simp [binV, intV]
theorem bin_xor : binV .xor (.int k a) (.int k b) = some (.int k (bits .xor k a b)) := by simp [binV, intV]
theorem bin_quo (h : b ≠ 0) : binV .quo (.int k a) (.int k b) = some (.int k (k.wrap (a.tdiv b))) := by simp [binV, intV, h]
theorem bin_rem (h : b ≠ 0) : binV .rem (.int k a) (.int k b) = some (.int k (a.tmod b)) := by simp [binV, intV, h]
theorem conv_int (k' : IntKind) : convIntV k' (.int k a) = some (.int k' (k'.wrap a)) := rfl
theorem max_int (k' : IntKind) : maxV (.int k a) (.int k' b) = some (.int k (if b > a then b else a)) := rfl
theorem min_int (k' : IntKind) : minV (.int k a) (.int k' b) = some (.int k (if b < a then b else a)) := rfl
end
theorem bin_shr {k k' : IntKind} {a b : Int} (h0 : 0 ≤ b) (h1 : b ≤ k.bits) : binV .shr (.int k a) (.int k' b) = some (.int k (a.fdiv (2 ^ b.toNat))) := by
  have : min b.toNat k.bits = b.toNat := by omega
  simp [binV, shiftV, h0, this]
theorem bin_shl {k k' : IntKind} {a b : Int} (h0 : 0 ≤ b) (h1 : b ≤ k.bits) : binV .shl (.int k a) (.int k' b) = some (.int k (k.wrap (a * 2 ^ b.toNat))) := by
  have : min b.toNat k.bits = b.toNat := by omega
  simp [binV, shiftV, h0, this]
theorem nil_ptr (a : Addr) : nilV (.pointer (some a)) = some (.pointer (some a)) := rfl
theorem field_ptr (g o n : Nat) : fieldAddrV n (.pointer (some ⟨g, o, none⟩)) = some (.pointer (some ⟨g, o + n, none⟩)) := by simp [fieldAddrV, Addr.add_mk]
theorem len_str (s : ByteArray) : lenStrV (.string s) = some (.int .i64 s.size) := rfl
theorem pick_b (t : Bool) (x y : Value) : pickV (.bool t) x y = some (if t then x else y) := rfl
theorem not_b (t : Bool) : notV (.bool t) = some (.bool (!t)) := rfl
theorem bool_eql (a b : Bool) : boolV .eql (.bool a) (.bool b) = some (.bool (a == b)) := rfl
theorem bool_neq (a b : Bool) : boolV .neq (.bool a) (.bool b) = some (.bool (!(a == b))) := rfl
theorem index_sl {a : Addr} {len cap size : Nat} {k : IntKind} {i : Int} (h : 0 ≤ i ∧ i < (len : Int)) : indexAddrV size (.slice (some a) len cap) (.int k i) = some (.pointer (some (a.add (i.toNat * size)))) := by
  simp [indexAddrV, h]
theorem str_eql (a b : ByteArray) : binV .eql (.string a) (.string b) = some (.bool (a.toList == b.toList)) := rfl
theorem str_neq (a b : ByteArray) : binV .neq (.string a) (.string b) = some (.bool (!(a.toList == b.toList))) := rfl
theorem str_lss (a b : ByteArray) : binV .lss (.string a) (.string b) = some (.bool (Op.bytesLess a.toList b.toList)) := rfl
theorem extract_0 (a : Value) (l : List Value) : extractV 0 (.tuple (a :: l).toArray) = some a := by simp [extractV]
theorem extract_1 (a b : Value) (l : List Value) : extractV 1 (.tuple (a :: b :: l).toArray) = some b := by simp [extractV]
theorem extract_2 (a b c : Value) (l : List Value) : extractV 2 (.tuple (a :: b :: c :: l).toArray) = some c := by simp [extractV]

theorem pur {r : Option Value} {v : Value} {K : Value → Prop} (h : r = some v) (hK : K v) : PureS r K := by rw [h]; exact hK
theorem add64 {a b c : Int} (h : a + b = c) (h0 : -9223372036854775808 ≤ c) (h1 : c ≤ 9223372036854775807) : binV .add (.int .i64 a) (.int .i64 b) = some (.int .i64 c) := by rw [bin_add, h, wi64 h0 h1]
theorem sub64 {a b c : Int} (h : a - b = c) (h0 : -9223372036854775808 ≤ c) (h1 : c ≤ 9223372036854775807) : binV .sub (.int .i64 a) (.int .i64 b) = some (.int .i64 c) := by rw [bin_sub, h, wi64 h0 h1]
theorem conv64u {k : IntKind} {a : Int} (h0 : 0 ≤ a) (h1 : a ≤ 18446744073709551615) : convIntV .u64 (.int k a) = some (.int .u64 a) := by rw [conv_int, wu64 h0 h1]
def Sl (w : World) (x : Value) (m size : Nat) (xs : List Value) : Prop :=
  ∃ A c, x = .slice A m c ∧ xs.length = m * size ∧ m ≤ c ∧ (A = none → m = 0) ∧ ∀ ad, A = some ad → At w ad xs
namespace Sl
variable {S : Nat → Prop} {w w' : World} {x : Value} {m size : Nat} {xs : List Value}
theorem nil_ (w : World) (size : Nat) : Sl w (.slice none 0 0) 0 size [] := ⟨none, 0, rfl, by simp, Nat.le_refl _, fun _ => rfl, fun _ h => by cases h⟩
theorem ext (h : Sl w x m size xs) (e : Ext S w w') (hn : ∀ g, x.ownBlock = some g → ¬ S g) : Sl w' x m size xs := by
  obtain ⟨A, c, rfl, hl, hc, h0, hA⟩ := h
  refine ⟨A, c, rfl, hl, hc, h0, fun ad hA' i v hv => ?_⟩
  subst hA'
  have hcell := hA ad rfl i v hv
  have hlt := World.block_lt_of_cell? _ _ hcell
  rw [Addr.add_block] at hlt
  rw [e.cell (by rw [Addr.add_block]; exact hlt) (by rw [Addr.add_block]; exact hn _ rfl)]
  exact hcell
theorem no (h : Sl w x m size xs) (e : Ext No w w') : Sl w' x m size xs := h.ext e fun _ _ hh => hh
theorem len (h : Sl w x m size xs) : lenSliceV x = some (.int .i64 m) := by obtain ⟨A, c, rfl, _⟩ := h; rfl
theorem length (h : Sl w x m size xs) : xs.length = m * size := by obtain ⟨A, c, rfl, hl, _⟩ := h; exact hl
theorem at_ (h : Sl w x m size xs) {i : Nat} (hi : i < m) : ∃ ad, indexAddrV size x (.int .i64 (i : Int)) = some (.pointer (some ad)) ∧ At w ad ((xs.drop (i * size)).take size) ∧ (x.ownBlock = some ad.block) := by
  obtain ⟨A, c, rfl, hl, hc, h0, hA⟩ := h
  cases A with
  | none => have := h0 rfl; omega
  | some ad =>
    refine ⟨ad.add (i * size), ?_, ((hA ad rfl).drop _).take _, by simp [Value.ownBlock, Addr.add_block]⟩
    rw [index_sl ⟨by omega, by omega⟩]; simp
theorem own {base : Nat} {e : TypeId} (h : w.ownsRow base e size x m xs) : Sl w x m size xs := by
  refine ⟨x.ownBlock.map fun g => ⟨g, 0, none⟩, ?_⟩
  have hc := fun g hg => h.cells (g := g) hg
  rcases h.2 with ⟨rfl, rfl⟩ | ⟨g, cap, cur, rfl, hb, hg, hnc, _⟩
  · exact ⟨0, rfl, h.1, Nat.le_refl _, fun _ => rfl, fun _ h => by cases h⟩
  · refine ⟨cap, rfl, h.1, hnc, (fun h => by cases h), (fun ad had => ?_)⟩
    simp only [Value.ownBlock, Option.map_some, Option.some.injEq] at had
    subst had
    exact fun i v hv => hc g rfl i v hv
end Sl
def flat {α : Type} (f : α → List Value) (l : List α) : List Value := l.flatMap f
theorem flat_append {α : Type} (f : α → List Value) (l r : List α) : flat f (l ++ r) = flat f l ++ flat f r := by simp [flat]
theorem flat_one {α : Type} (f : α → List Value) (a : α) : flat f [a] = f a := by simp [flat]
theorem flat_length {α : Type} (f : α → List Value) {size : Nat} (hf : ∀ a, (f a).length = size) (l : List α) : (flat f l).length = l.length * size := by
  induction l with
  | nil => simp [flat]
  | cons a l ih => simp only [flat, List.flatMap_cons, List.length_append, hf, List.length_cons] at ih ⊢; rw [ih, Nat.add_mul]; omega
theorem flat_at {α : Type} (f : α → List Value) {size : Nat} (hf : ∀ a, (f a).length = size) : ∀ (l : List α) (i : Nat) (a : α), l[i]? = some a → ((flat f l).drop (i * size)).take size = f a
  | [], i, a, h => by simp at h
  | x :: l, 0, a, h => by
    simp only [List.getElem?_cons_zero, Option.some.injEq] at h
    subst h
    have : flat f (x :: l) = f x ++ flat f l := by simp [flat]
    rw [this]
    simp [← hf x]
  | x :: l, i + 1, a, h => by
    have : flat f (x :: l) = f x ++ flat f l := by simp [flat]
    rw [this, show (i + 1) * size = (f x).length + i * size by rw [hf, Nat.add_mul]; omega, List.drop_append]
    simp only [List.drop_length_add_append, Nat.add_sub_cancel_left]
    have h0 : (f x).drop ((f x).length + i * size) = [] := by simp
    rw [h0, List.nil_append]
    exact flat_at f hf l i a (by simpa using h)
theorem flat_take {α : Type} (f : α → List Value) {size : Nat} (hf : ∀ a, (f a).length = size) : ∀ (l : List α) (i : Nat), (flat f l).take (i * size) = flat f (l.take i)
  | [], i => by simp [flat]
  | x :: l, 0 => by simp [flat]
  | x :: l, i + 1 => by
    have : flat f (x :: l) = f x ++ flat f l := by simp [flat]
    have h2 : flat f ((x :: l).take (i + 1)) = f x ++ flat f (l.take i) := by simp [flat]
    rw [this, h2, show (i + 1) * size = (f x).length + i * size by rw [hf, Nat.add_mul]; omega, List.take_length_add_append, flat_take f hf l i]
theorem flat_drop {α : Type} (f : α → List Value) {size : Nat} (hf : ∀ a, (f a).length = size) : ∀ (l : List α) (i : Nat), (flat f l).drop (i * size) = flat f (l.drop i)
  | [], i => by simp [flat]
  | x :: l, 0 => by simp [flat]
  | x :: l, i + 1 => by
    have : flat f (x :: l) = f x ++ flat f l := by simp [flat]
    have h2 : flat f ((x :: l).drop (i + 1)) = flat f (l.drop i) := by simp [flat]
    rw [this, h2, show (i + 1) * size = (f x).length + i * size by rw [hf, Nat.add_mul]; omega, List.drop_length_add_append, flat_drop f hf l i]

structure ElemT (P : Program) (t e : TypeId) (size bytes : Nat) (z : Value) : Prop where
  under : P.underlying t = some (.slice e)
  info : (P.info? e).map (fun i => (i.zero, i.size, i.bytes)) = some (some z, size, bytes)
  zs : z.cells.size = size
  pos : 0 < size
  small : size ≤ 1000
section
variable {P : Program} {t e : TypeId} {size bytes : Nat} {z : Value}
theorem run_append_none (hT : ElemT P t e size bytes z) (ty : TypeId) {w : World} {base n c : Nat} {v : Value} {xs : List Value} (hown : w.ownsRow base e size v n xs) :
    (Builtin.append_ #[t, t] ty #[v, .slice none 0 c]).run P w = .ok v w := by
  obtain ⟨i, hi, hz, hs, hb⟩ := info_parts hT.info
  rcases hown.2 with ⟨rfl, rfl⟩ | ⟨g, cap, cur, rfl, _, _, hnc, _⟩
  · simp [Builtin.append_, run_underlying hT.under, Go.sizeOf, typeInfo, hi, Builtin.lenOf, Builtin.firstCells]
  · simp [Builtin.append_, run_underlying hT.under, Go.sizeOf, typeInfo, hi, Builtin.lenOf, Builtin.firstCells, hnc, storeCells]
theorem append_sl (hT : ElemT P t e size bytes z) (ty : TypeId) {w : World} {base n m : Nat} {v x : Value} {xs news : List Value} {K : Value → World → Prop} (hown : w.ownsRow base e size v n xs)
    (hs : Sl w x m size news) (h1 : ∀ u ∈ news, u.oneCell' = true) (hbytes : (n + m) * bytes ≤ 140737488355328) (h63 : n + m ≤ 140737488355328) (hbase : base ≤ w.heap.size)
    (hK : ∀ v' w', w'.ownsRow base e size v' (n + m) (xs ++ news) → w.grownBy w' v.ownBlock → (v'.ownBlock = v.ownBlock ∨ v'.ownBlock = some w.heap.size) → K v' w') :
    RunS P (Builtin.append_ #[t, t] ty [v, x].toArray) K w := by
  obtain ⟨i, hi, hz, hsz, hb⟩ := info_parts hT.info
  obtain ⟨A, c, rfl, hl, hc, h0, hA⟩ := hs
  cases A with
  | none =>
    have hm := h0 rfl
    subst hm
    have hn : news = [] := List.eq_nil_of_length_eq_zero (by simpa using hl)
    subst hn
    exact runS (run_append_none hT ty hown) (hK v w (by simpa using hown) (World.grownBy.refl w _) (.inl rfl))
  | some ad =>
    obtain ⟨v', w', hrun, h2, h3, _, h5⟩ := run_append_own_at (P := P) w base t ty e i z size bytes hT.under hi hz hsz hb hT.zs hT.pos v n xs hown ad m c news hl (hA ad rfl) h1 (by unfold maxLen; omega) hbytes hbase
    exact runS hrun (hK v' w' h2 h3 h5)
theorem fill_foldl : ∀ (l : List Value) (k : Nat) (acc : Array Value), acc.size = k + l.length → ((l.zipIdx k).foldl (fun cs (p : Value × Nat) => cs.setIfInBounds (0 + p.2) p.1) acc).toList = acc.toList.take k ++ l
  | [], k, acc, h => by
    have hk : acc.toList.length ≤ k := by simp at h; simp [h]
    simp [List.take_of_length_le hk]
  | x :: l, k, acc, h => by
    simp only [List.length_cons] at h
    rw [List.zipIdx_cons, List.foldl_cons, fill_foldl l (k + 1) _ (by simp; omega)]
    simp only [Array.toList_setIfInBounds, Nat.zero_add]
    have hk : k < acc.toList.length := by simp; omega
    rw [List.take_succ_eq_append_getElem (by simpa using hk), List.take_set]
    have : (List.take k acc.toList).set k x = List.take k acc.toList := List.set_eq_of_length_le (by simp; omega)
    simp [this]
theorem fill_one {size : Nat} {cells : Array Value} {v : Value} (hv : v.cells.size = size) (hc : cells.size = size) : Instr.fill (fun i => some (i * size, size)) cells [(0, v)] = some v.cells := by
  have h1 : (v.cells.zipIdx.foldl (fun cs (p : Value × Nat) => cs.setIfInBounds (0 + p.2) p.1) cells) = v.cells := by
    apply Array.ext'
    rw [← Array.foldl_toList, Array.toList_zipIdx, fill_foldl _ 0 cells (by simp [hc, hv])]
    simp
  simp only [Instr.fill, Nat.zero_mul, hv, hc]
  simp
  simpa using h1
theorem build1 (hT : ElemT P t e size bytes z) {v : Value} (hv : v.cells.size = size) {w : World} {K : Value → World → Prop}
    (hK : ∀ w', Blk w' w.heap.size e v.cells.toList → Ext No w w' → w'.heap.size = w.heap.size + 1 → K (.slice (some ⟨w.heap.size, 0, none⟩) 1 1) w') :
    RunS P (Instr.buildSlice t 1 [(0, v)].toArray) K w := by
  obtain ⟨i, hi, hz, hsz, hb⟩ := info_parts hT.info
  have hs := hT.small
  have hpos := hT.pos
  refine runS (v := .slice (some ⟨w.heap.size, 0, none⟩) 1 1) (w' := w.alloc (.cells v.cells e)) ?_ (hK _ ?_ (Ext.alloc w _) (by simp))
  · have hne : size ≠ 0 := by omega
    have hle : ¬ 16777216 < size := by omega
    simp [Instr.buildSlice, run_underlying hT.under, Go.sizeOf, typeInfo, hi, hsz, zeroValue, hz, hne, hle, newRow]
    rw [fill_one hv (by simp)]
    rfl
  · have := Blk.new w v.cells.toList e
    simpa using this
theorem build0 (hT : ElemT P t e size bytes z) {w : World} {K : Value → World → Prop}
    (hK : ∀ w', Blk w' w.heap.size e [] → Ext No w w' → w'.heap.size = w.heap.size + 1 → K (.slice (some ⟨w.heap.size, 0, none⟩) 0 0) w') :
    RunS P (Instr.buildSlice t 0 [].toArray) K w := by
  obtain ⟨i, hi, hz, hsz, hb⟩ := info_parts hT.info
  refine runS (v := .slice (some ⟨w.heap.size, 0, none⟩) 0 0) (w' := w.alloc (.cells #[] e)) ?_ (hK _ (Blk.new w [] e) (Ext.alloc w _) (by simp))
  simp [Instr.buildSlice, run_underlying hT.under, Go.sizeOf, typeInfo, hi, hsz, newRow, Instr.fill, Array.range_zero']
end
theorem Blk.sl {w : World} {g : Nat} {t : TypeId} {cs : List Value} (h : Blk w g t cs) {n c size : Nat} (hn : n * size = cs.length) (hc : n ≤ c) : Sl w (.slice (some ⟨g, 0, none⟩) n c) n size cs :=
  ⟨some ⟨g, 0, none⟩, c, rfl, hn.symm, hc, (fun h => by cases h), (fun ad had => by cases had; exact At.of_blk h)⟩
theorem Blk.owns {w : World} {g : Nat} {t : TypeId} {cs : List Value} (h : Blk w g t cs) {n size base : Nat} (hn : n * size = cs.length) (hb : base ≤ g) (hm : n ≤ 140737488355328) : w.ownsRow base t size (.slice (some ⟨g, 0, none⟩) n n) n cs :=
  ⟨hn.symm, .inr ⟨g, n, cs.toArray, rfl, hb, h, Nat.le_refl _, by unfold maxLen; omega, by simp [hn], by simp [hn]⟩⟩
theorem owns_ext {S : Nat → Prop} {w w' : World} {base : Nat} {e : TypeId} {size n : Nat} {v : Value} {xs : List Value} (h : w.ownsRow base e size v n xs) (k : Ext S w w') (hn : ∀ g, v.ownBlock = some g → ¬ S g) : w'.ownsRow base e size v n xs := by
  refine ⟨h.1, ?_⟩
  rcases h.2 with h0 | ⟨g, cap, cur, rfl, hb, hg, rest⟩
  · exact .inl h0
  · exact .inr ⟨g, cap, cur, rfl, hb, (k.blk g (Array.getElem?_eq_some_iff.1 hg).1 (hn g rfl)).trans hg, rest⟩
theorem owns_base {w : World} {base base' : Nat} {e : TypeId} {size n : Nat} {v : Value} {xs : List Value} (h : w.ownsRow base e size v n xs) (hb : ∀ g, v.ownBlock = some g → base' ≤ g) : w.ownsRow base' e size v n xs := by
  refine ⟨h.1, ?_⟩
  rcases h.2 with h0 | ⟨g, cap, cur, rfl, _, hg, rest⟩
  · exact .inl h0
  · exact .inr ⟨g, cap, cur, rfl, hb g rfl, hg, rest⟩

def byteCells (l : List UInt8) : List Value := l.map fun b => .int .u8 (b.toNat : Int)
theorem byteCells_append (l r : List UInt8) : byteCells (l ++ r) = byteCells l ++ byteCells r := by simp [byteCells]
theorem byteCells_length (l : List UInt8) : (byteCells l).length = l.length := by simp [byteCells]
theorem byteCells_one (l : List UInt8) : ∀ u ∈ byteCells l, u.oneCell' = true := by
  intro u hu
  simp only [byteCells, List.mem_map] at hu
  obtain ⟨b, _, rfl⟩ := hu
  rfl
end SG

namespace SG
open Go Go.RowKit Go.Lib
set_option linter.unusedSimpArgs false
set_option linter.unusedVariables false

section
variable {P : Program}
theorem eq_nil_slice {t e : TypeId} (h : P.underlying t = some (.slice e)) {x y : Operand} {a : Option Addr} {n c : Nat} {w : World} {K : Value → World → Prop} (hK : K (.bool a.isNone) w) :
    RunS P (do eqGuard .eql t x y (.slice a n c) (.slice none 0 0); binOp .eql t (.slice a n c) (.slice none 0 0)) K w := by
  refine runS (v := .bool a.isNone) (w' := w) ?_ hK
  rw [eqGuard_at_slice]
  have hin : ∀ d, (Op.equalIn (d + 1) t (.slice a n c) (.slice none 0 0)).run P w = .ok a.isNone w := fun d => by
    cases a <;> simp [Op.equalIn, run_underlying h]
  have : (Op.equal t (.slice a n c) (.slice none 0 0)).run P w = .ok a.isNone w := hin 9999
  simp [binOp, this]
theorem run_ptr_nil {t e : TypeId} (h : P.underlying t = some (.pointer e)) (a : Option Addr) (w : World) : (Op.equal t (.pointer a) (.pointer none)).run P w = .ok a.isNone w := by
  have hin : ∀ d, (Op.equalIn (d + 1) t (.pointer a) (.pointer none)).run P w = .ok a.isNone w := fun d => by
    cases a <;> simp [Op.equalIn, run_underlying h]
  exact hin 9999
theorem eq_nil_ptr {t e : TypeId} (h : P.underlying t = some (.pointer e)) {x y : Operand} {a : Option Addr} {w : World} {K : Value → World → Prop} (hK : K (.bool a.isNone) w) :
    RunS P (do eqGuard .eql t x y (.pointer a) (.pointer none); binOp .eql t (.pointer a) (.pointer none)) K w := by
  refine runS (v := .bool a.isNone) (w' := w) ?_ hK
  rw [eqGuard_at_pointer]
  simp [binOp, run_ptr_nil h]
theorem bytes_str {src dst e : TypeId} (hs : P.underlying src = some (.slice e)) (hd : P.underlying dst = some .string) (he : P.underlying e = some (.int .u8)) {w : World} {x : Value} {l : List UInt8}
    (hx : Sl w x l.length 1 (byteCells l)) : (convert src dst x).run P w = .ok (.string ⟨l.toArray⟩) w := by
  obtain ⟨A, c, rfl, hl, hc, h0, hA⟩ := hx
  have hcv : (convert src dst (.slice A l.length c)).run P w = (Conv.bytesToString (.slice A l.length c)).run P w := by
    simp [convert, run_underlying hs, run_underlying hd, run_underlying he]
  rw [hcv]
  cases A with
  | none =>
    have : l = [] := List.eq_nil_of_length_eq_zero (h0 rfl)
    subst this
    simp [Conv.bytesToString]
    rfl
  | some ad =>
    rw [← hcv]
    exact run_convert_bytes_back w src dst e ad c l hs he hd fun j hj => hA ad rfl j _ (by simp [byteCells, List.getElem?_eq_getElem hj])
end
end SG

namespace SG
open Go Go.RowKit Go.Lib
set_option linter.unusedSimpArgs false
set_option linter.unusedVariables false

theorem sl_drop {w : World} {x : Value} {n size : Nat} {xs : List Value} (h : Sl w x n size xs) {k : Nat} (hk : k ≤ n) (kd : IntKind) :
    ∃ x', sliceV size x (some (.int kd (k : Int))) none = some x' ∧ Sl w x' (n - k) size (xs.drop (k * size)) ∧ ∀ b, x'.ownBlock = some b → x.ownBlock = some b := by
  obtain ⟨A, c, rfl, hl, hc, h0, hA⟩ := h
  have h1 : (0 : Int) ≤ (k : Int) ∧ (k : Int) ≤ (n : Int) := by omega
  refine ⟨.slice (if c = k then A else A.map (·.add (k * size))) (n - k) (c - k), by simp only [sliceV, boundV, Option.bind_some]; rw [if_pos h1]; simp, ?_, ?_⟩
  · refine ⟨_, c - k, rfl, ?_, by omega, fun hn => ?_, fun ad had => ?_⟩
    · rw [List.length_drop, hl, Nat.sub_mul]
    · split at hn
      · have := h0 hn; omega
      · cases A with
        | none => have := h0 rfl; omega
        | some a => simp at hn
    · split at had
      · have hd : xs.drop (k * size) = [] := List.drop_eq_nil_of_le (by rw [hl]; exact Nat.mul_le_mul_right _ (by omega))
        rw [hd]
        exact fun i v hv => by simp at hv
      · cases A with
        | none => simp at had
        | some a =>
          simp only [Option.map_some, Option.some.injEq] at had
          subst had
          exact (hA a rfl).drop _
  · intro b hb
    split at hb
    · cases A <;> exact hb
    · cases A with
      | none => simp [Value.ownBlock] at hb
      | some a => simpa [Value.ownBlock, Addr.add_block] using hb
theorem sl_take {w : World} {x : Value} {n size : Nat} {xs : List Value} (h : Sl w x n size xs) {k : Nat} (hk : k ≤ n) (kd : IntKind) :
    ∃ x', sliceV size x none (some (.int kd (k : Int))) = some x' ∧ Sl w x' k size (xs.take (k * size)) ∧ ∀ b, x'.ownBlock = some b → x.ownBlock = some b := by
  obtain ⟨A, c, rfl, hl, hc, h0, hA⟩ := h
  have h1 : (0 : Int) ≤ (k : Int) ∧ (k : Int) ≤ (c : Int) := by omega
  refine ⟨.slice (if c = 0 then A else A.map (·.add (0 * size))) (k - 0) (c - 0), by simp only [sliceV, boundV]; rw [if_pos h1]; simp [boundV], ?_, ?_⟩
  · refine ⟨(if c = 0 then A else A.map (·.add (0 * size))), c, rfl, ?_, by omega, fun hn => ?_, fun ad had => ?_⟩
    · rw [List.length_take, hl]
      exact Nat.min_eq_left (Nat.mul_le_mul_right _ hk)
    · split at hn
      · have := h0 hn; omega
      · cases A with
        | none => have := h0 rfl; omega
        | some a => simp at hn
    · have hat : ∀ a, A = some a → At w a (xs.take (k * size)) := fun a ha => (hA a ha).take _
      split at had
      · exact hat ad had
      · cases A with
        | none => simp at had
        | some a =>
          simp only [Option.map_some, Option.some.injEq, Nat.zero_mul, Addr.add_zero'] at had
          subst had
          exact hat a rfl
  · intro b hb
    split at hb
    · cases A <;> exact hb
    · cases A with
      | none => simp [Value.ownBlock] at hb
      | some a => simpa [Value.ownBlock, Addr.add_block] using hb
end SG

namespace SG
open Go Go.RowKit Go.Lib
set_option linter.unusedSimpArgs false
set_option linter.unusedVariables false

theorem setRow_blk {w : World} {g : Nat} {t : TypeId} {cs : List Value} (h : Blk w g t cs) (cs' : List Value) : Blk (w.setRow g cs'.toArray) g t cs' ∧ Ext (At1 g) w (w.setRow g cs'.toArray) ∧ (w.setRow g cs'.toArray).heap.size = w.heap.size :=
  ⟨setRow_heap w g _ _ t (0, 0) h, ⟨rfl, rfl, rfl, by simp, fun b _ hn => setRow_other w g b _ fun e => hn (by rw [e]; rfl)⟩, by simp⟩
theorem store_cells {P : Program} {w : World} {g o : Nat} {t : TypeId} {cs vs : List Value} (h : Blk w g t cs) (hl : o + vs.length ≤ cs.length) (h1 : ∀ v ∈ vs, v.oneCell' = true) :
    ∃ w', (storeCells ⟨g, o, none⟩ vs).run P w = .ok () w' ∧ Blk w' g t (cs.take o ++ vs ++ cs.drop (o + vs.length)) ∧ Ext (At1 g) w w' ∧ w'.heap.size = w.heap.size := by
  have hr := run_storeCells_at P g o t vs 0 cs.toArray w h (by simpa using hl) h1
  simp only [Nat.add_zero] at hr
  obtain ⟨a, b, c⟩ := setRow_blk h (cs.take o ++ vs ++ cs.drop (o + vs.length))
  exact ⟨_, hr, a, b, c⟩
theorem zeroCells_one (z : Value) (n : Nat) : (Builtin.zeroCells #[z] n).toList = List.replicate n z := by
  rw [List.eq_replicate_iff]
  refine ⟨by simp [Builtin.zeroCells], fun v hv => ?_⟩
  simp only [Builtin.zeroCells, Array.toList_map, List.mem_map] at hv
  obtain ⟨i, _, rfl⟩ := hv
  simp [Nat.mod_one]
end SG

namespace SG
open Go Go.RowKit Go.Lib
set_option linter.unusedSimpArgs false
set_option linter.unusedVariables false

theorem Sl.one {w : World} {x : Value} {m size : Nat} {xs : List Value} (h : Sl w x m size xs) : x.oneCell' = true := by obtain ⟨A, c, rfl, _⟩ := h; rfl
theorem sl_idx1 {w : World} {x : Value} {n : Nat} {xs : List Value} (h : Sl w x n 1 xs) {i : Nat} {v : Value} (hv : xs[i]? = some v) (k : IntKind) :
    ∃ ad, indexAddrV 1 x (.int k (i : Int)) = some (.pointer (some ad)) ∧ x.ownBlock = some ad.block ∧ ∀ w', Sl w' x n 1 xs → w'.cell? ad = some v := by
  have hi : i < n := by
    have := (List.getElem?_eq_some_iff.1 hv).1
    have := h.length
    omega
  obtain ⟨A, c, rfl, hl, hc, h0, hA⟩ := h
  cases A with
  | none => have := h0 rfl; omega
  | some a =>
    refine ⟨a.add (i * 1), ?_, by simp [Value.ownBlock, Addr.add_block], fun w' h' => ?_⟩
    · rw [index_sl ⟨by omega, by omega⟩]; simp
    · obtain ⟨A', c', he, _, _, _, hA'⟩ := h'
      cases he
      rw [Nat.mul_one]
      exact hA' a rfl i v hv
theorem flat_set {α : Type} (f : α → List Value) {size : Nat} (hf : ∀ a, (f a).length = size) (l : List α) {i : Nat} (hi : i < l.length) (a : α) (rest : List Value) :
    (flat f l ++ rest).take (i * size) ++ f a ++ (flat f l ++ rest).drop (i * size + size) = flat f (l.set i a) ++ rest := by
  have hl := flat_length f hf l
  have h1 : i * size + size ≤ (flat f l).length := by rw [hl, ← Nat.succ_mul]; exact Nat.mul_le_mul_right _ hi
  rw [List.take_append_of_le_length (by omega), List.drop_append_of_le_length h1, flat_take f hf, show i * size + size = (i + 1) * size by rw [Nat.succ_mul], flat_drop f hf, List.set_eq_take_append_cons_drop, if_pos hi]
  rw [show l.take i ++ a :: l.drop (i + 1) = (l.take i ++ [a]) ++ l.drop (i + 1) by simp, flat_append, flat_append, flat_one]
  simp only [List.append_assoc]
theorem row_set {α : Type} {f : α → List Value} {size : Nat} (hf : ∀ a, (f a).length = size) {w : World} {g : Nat} {t : TypeId} {l : List α} {rest : List Value} (h : Blk w g t (flat f l ++ rest)) {i : Nat} (hi : i < l.length) {a : α} (hone : ∀ v ∈ f a, v.oneCell' = true) {K : World → Prop}
    (hK : ∀ w', Blk w' g t (flat f (l.set i a) ++ rest) → Ext (At1 g) w w' → w'.heap.size = w.heap.size → K w') : StoreA size (.pointer (some ⟨g, i * size, none⟩)) (.agg (f a).toArray) K w := by
  have hl := flat_length f hf l
  have h1 : i * size + size ≤ (flat f l).length := by rw [hl, ← Nat.succ_mul]; exact Nat.mul_le_mul_right _ hi
  refine storeA h (hf a) (by rw [List.length_append]; omega) hone fun w' b e z => hK w' ?_ e z
  rwa [flat_set f hf l hi a rest] at b
end SG

namespace SG
open Go Go.RowKit Go.Lib
set_option linter.unusedSimpArgs false
set_option linter.unusedVariables false

abbrev Part := World → (Nat → Prop) → Prop
structure Stable (R : Part) : Prop where
  ext : ∀ {w w' : World} {S F : Nat → Prop}, R w F → Ext S w w' → (∀ b, F b → ¬ S b) → R w' F
  lt : ∀ {w : World} {F : Nat → Prop} {b : Nat}, R w F → F b → b < w.heap.size
theorem Stable.no {R : Part} (s : Stable R) {w w' : World} {F : Nat → Prop} (h : R w F) (e : Ext No w w') : R w' F := s.ext h e fun _ _ hh => hh
def Bk (g : Nat) (t : TypeId) (cs : List Value) : Part := fun w F => Blk w g t cs ∧ F = At1 g
theorem Bk.st (g : Nat) (t : TypeId) (cs : List Value) : Stable (Bk g t cs) :=
  ⟨fun {w w' S F} h e hn => ⟨h.1.ext e (hn g (by rw [h.2]; rfl)), h.2⟩, fun {w F b} h hb => by rw [h.2] at hb; rw [show b = g from hb]; exact h.1.lt⟩
def Emp : Part := fun _ F => ∀ b, ¬ F b
theorem Emp.st : Stable Emp := ⟨fun h _ _ => h, fun h hb => absurd hb (h _)⟩
def Star (A B : Part) : Part := fun w F => ∃ FA FB, A w FA ∧ B w FB ∧ (∀ b, FA b → ¬ FB b) ∧ ∀ b, F b ↔ FA b ∨ FB b
theorem Star.st {A B : Part} (sA : Stable A) (sB : Stable B) : Stable (Star A B) :=
  ⟨fun {w w' S F} h e hn => by
    obtain ⟨FA, FB, hA, hB, hd, hF⟩ := h
    exact ⟨FA, FB, sA.ext hA e fun b hb => hn b ((hF b).2 (.inl hb)), sB.ext hB e fun b hb => hn b ((hF b).2 (.inr hb)), hd, hF⟩,
  fun {w F b} h hb => by
    obtain ⟨FA, FB, hA, hB, hd, hF⟩ := h
    rcases (hF b).1 hb with h | h
    · exact sA.lt hA h
    · exact sB.lt hB h⟩
namespace Star
variable {A B : Part} {w w' : World} {F : Nat → Prop}
theorem op {G : Prop} (h : Star A B w F) (sB : Stable B) (hop : ∀ FA, A w FA → (∀ b, FA b → F b) → (∀ (A' : Part) w' FA', A' w' FA' → Ext FA w w' → (∀ b, FA' b → FA b ∨ w.heap.size ≤ b) →
    ∃ F', Star A' B w' F' ∧ Ext F w w' ∧ (∀ b, F' b → F b ∨ w.heap.size ≤ b)) → G) : G := by
  obtain ⟨FA, FB, hA, hB, hd, hF⟩ := h
  refine hop FA hA (fun b hb => (hF b).2 (.inl hb)) fun A' w' FA' h1 e1 f1 => ⟨fun b => FA' b ∨ FB b, ⟨FA', FB, h1, sB.ext hB e1 fun b hb hh => hd b hh hb, fun b hb hh => ?_, fun _ => Iff.rfl⟩, e1.mono fun b hb _ => (hF b).2 (.inl hb), fun b hb => ?_⟩
  · rcases f1 b hb with h | h
    · exact hd b h hh
    · have := sB.lt hB hh; omega
  · rcases hb with hb | hb
    · exact (f1 b hb).imp (fun h => (hF b).2 (.inl h)) id
    · exact .inl ((hF b).2 (.inr hb))
theorem new (h : B w F) (sB : Stable B) (e : Ext No w w') {FA : Nat → Prop} (hA : A w' FA) (hf : ∀ b, FA b → w.heap.size ≤ b) : Star A B w' (fun b => FA b ∨ F b) :=
  ⟨FA, F, hA, sB.no h e, fun b hb hh => by have := hf b hb; have := sB.lt h hh; omega, fun _ => Iff.rfl⟩
end Star

structure Stp (w : World) (F : Nat → Prop) (w' : World) (F' : Nat → Prop) : Prop where
  ext : Ext F w w'
  sub : ∀ b, F' b → F b ∨ w.heap.size ≤ b
namespace Stp
variable {w w' w'' : World} {F F' F'' : Nat → Prop}
theorem refl (w : World) (F : Nat → Prop) : Stp w F w F := ⟨Ext.refl _ _, fun _ h => .inl h⟩
theorem no (e : Ext No w w') : Stp w F w' F := ⟨e.no, fun _ h => .inl h⟩
theorem trans (h : Stp w F w' F') (k : Stp w' F' w'' F'') : Stp w F w'' F'' :=
  ⟨h.ext.trans' k.ext (fun _ h _ => h) fun b hb hlt => (h.sub b hb).resolve_right (by omega), fun b hb => by
    rcases k.sub b hb with h1 | h1
    · exact h.sub b h1
    · right; have := h.ext.size; omega⟩
theorem out (h : Stp w F w' F') {b : Nat} (hb : b < w.heap.size) (hn : ¬ F b) : ¬ F' b := fun hh => (h.sub b hh).elim hn fun h => by omega
theorem blk (h : Stp w F w' F') {g : Nat} {t : TypeId} {cs : List Value} (hb : Blk w g t cs) (hn : ¬ F g) : Blk w' g t cs := hb.ext h.ext hn
theorem old {w0 : World} (h : Stp w F w' F') (e0 : Ext No w0 w) (h0 : ∀ b, F b → w0.heap.size ≤ b) : Ext No w0 w' ∧ ∀ b, F' b → w0.heap.size ≤ b :=
  ⟨e0.fresh h.ext fun b hb => .inr (h0 b hb), fun b hb => (h.sub b hb).elim (h0 b) fun h => by have := e0.size; omega⟩
end Stp
namespace Star
variable {A B A' B' : Part} {w w' : World} {F FA FB FA' FB' : Nat → Prop}
end Star
end SG

namespace SG
open Go
set_option linter.unusedSimpArgs false
set_option linter.unusedVariables false

def Fr.only (fl : List Nat) (F : Fr) : Fr := fun t => cond (fl.contains t) (F t) none
section
variable {P : Program}
theorem callFunc_ok {f : FuncId} (h : okFunc P f = true) (vs : Array Value) (w : World) : (callFunc f vs).run P w = .ok (.enter f vs) w := by
  unfold okFunc at h
  split at h
  · rename_i fn hf
    simp only [Bool.and_eq_true, Bool.not_eq_true'] at h
    obtain ⟨h1, h2⟩ := h
    obtain ⟨c, hb⟩ := Option.isSome_iff_exists.1 h1
    simp only [callFunc, Sem.run_bind, run_program, Result.andThen_ok, hf, h2, hb, Bool.false_eq_true, if_false, Sem.run_pure]
    simp
  · cases h
end
end SG

namespace SG
open Go Go.RowKit
set_option linter.unusedSimpArgs false
set_option linter.unusedVariables false

def asg1 (o : Oper) : Option (Nat × Nat) :=
  match o.op with
  | .assign (.tmp t) => (match o.dst with | some d => cond o.guard.isNone (some (t, d)) none | none => none)
  | _ => none
def asgF : List Oper → Fr → Option Fr
  | [], F => some F
  | o :: r, F => match asg1 o with
    | some (t, d) => (match F t with | some v => asgF r (F.upd d v) | none => none)
    | none => none
def asgA : List Oper → Act → Act
  | [], a => a
  | o :: r, a => match asg1 o with
    | some (t, d) => asgA r (a.put (some d) (a.tmps.getD t undef))
    | none => a
def paramF : List Tmp → List Value → Fr → Fr
  | p :: ps, v :: vs, F => paramF ps vs (F.upd p v)
  | _, _, F => F
def paramG : Nat → List Tmp → List Value → Fr → Fr
  | _, [], _, F => F
  | i, p :: ps, vs, F => paramG (i + 1) ps vs (F.upd p (vs.getD i undef))
theorem paramG_eq : ∀ (ps : List Tmp) (i : Nat) (vs : List Value) (F : Fr), vs.length = i + ps.length → paramG i ps vs F = paramF ps (vs.drop i) F
  | [], i, vs, F, h => by simp [paramG, paramF]
  | p :: ps, i, vs, F, h => by
    simp only [List.length_cons] at h
    have hi : i < vs.length := by omega
    rw [List.drop_eq_getElem_cons hi]
    have e : vs.getD i undef = vs[i] := by simp [List.getD, List.getElem?_eq_getElem hi]
    simp only [paramG, paramF, e]
    exact paramG_eq ps (i + 1) vs _ (by omega)
def RangeS (P : Program) (v : Value) (np : Nat) (rnd : List Value → (World → Prop) → World → Prop) (after : Nat → World → Prop) (w : World) : Prop :=
  match v with
  | .func (.func gf) first lb => first = #[] ∧ okFunc P gf = true ∧ ∃ (α : Type) (encs : α → List Value) (Kp : World → World → Prop) (S Sp : List α → Prop) (N : Nat) (I : List α → World → Prop),
      SeqStopsK Fence.wide 0 P gf lb (fun x => (encs x).toArray) Kp S Sp N w ∧ (∀ x, (encs x).length = np) ∧ (∀ A B C : World, Kp A B → Kp B C → Kp A C) ∧
      (∀ (W : World) (l : Nat) (o o' : Obj), w.heap.size ≤ l → W.heap[l]? = some o → o.isCells = false → o.isWalk = false → Kp W (W.putObj l o')) ∧ OwnFrom w.heap.size I ∧ I [] w ∧
      (∀ pre x W, I pre W → pre.length < N → rnd (encs x) (fun W' => KeepsFrom w.heap.size W W' ∧ Kp W W' ∧ I (pre ++ [x]) W') W) ∧
      (∀ D xs W, w.heap.size ≤ D → S xs → I xs W → W.heap[D]? = some (.deferred (some [])) → after D W)
  | _ => False
def isRange (c : Code) : Option (Code × Nat × Operand × Array Tmp × Nat × Array Oper × Code) :=
  match c with
  | .seq b0 (.block id (.rangeFunc g ps (.region rid ops false) bd)) => some (b0, id, g, ps, rid, ops, bd)
  | _ => none
theorem isRange_some {c b0 bd : Code} {id rid : Nat} {g : Operand} {ps : Array Tmp} {ops : Array Oper} (h : isRange c = some (b0, id, g, ps, rid, ops, bd)) : c = .seq b0 (.block id (.rangeFunc g ps (.region rid ops false) bd)) := by
  unfold isRange at h
  split at h
  · simp only [Option.some.injEq, Prod.mk.injEq] at h
    obtain ⟨rfl, rfl, rfl, rfl, rfl, rfl, rfl⟩ := h
    rfl
  · cases h
def denG (P : Program) (rs : List ResultVar) (K : Value → World → Prop) : Code → Ann → Fr → World → Prop
  | .seq a rest, ann, F, w => match ann with
    | .q x y => (match isRange a with
      | some (b0, _, g, ps, _, ops, bd) => (match x with
        | .q xb xd => den P false NoP b0 xb (fun e F' w' => match e with
            | .normal => withV (F'.ev g) fun v => RangeS P v ps.size
                (fun vs KW W => match asgF ops.toList (paramG 0 ps.toList vs F') with
                  | some F2 => den P false NoP bd xd (fun e _ W' => match e with | .normal => KW W' | _ => False) F2 W
                  | none => False)
                (fun D W => den P false NoP rest y (fun e F'' w'' => match e with
                  | .normal => w''.heap[D]? = some (.deferred (some [])) ∧ resV P rs F'' (w''.putObj D (.deferred none)) fun v => K v (w''.putObj D (.deferred none))
                  | .ret => w''.heap[D]? = some (.deferred (some [])) ∧ resV P rs F'' (w''.putObj D (.deferred none)) fun v => K v (w''.putObj D (.deferred none))
                  | _ => False) F' W) w'
            | _ => False) F w
        | _ => False)
      | none => den P false NoP a x (fun e F' w' => match e with | .normal => denG P rs K rest y F' w' | .ret => resV P rs F' w' fun v => K v w' | _ => False) F w)
    | _ => False
  | _, _, _, _ => False
def okG (n : Nat) : Code → Ann → Bool
  | .seq a rest, ann => match ann with
    | .q x y => (match isRange a with
      | some (b0, _, g, ps, _, ops, bd) => (match x with
        | .q xb xd => annOk b0 xb && dstsOk n b0 && annOk bd xd && dstsOk n bd && noDraw bd && annOk rest y && dstsOk n rest && ps.toList.all (fun p => Nat.blt p n) &&
            ops.toList.all (fun o => match asg1 o with | some (_, d) => Nat.blt d n | none => false)
        | _ => false)
      | none => annOk a x && dstsOk n a && okG n rest y)
    | _ => false
  | _, _ => false

section
variable {P : Program}
theorem asg1_some {o : Oper} {t d : Nat} (h : asg1 o = some (t, d)) : o.op = .assign (.tmp t) ∧ o.dst = some d ∧ o.guard = none := by
  unfold asg1 at h
  split at h
  · rename_i t' he
    split at h
    · rename_i d' hd
      cases hg : o.guard.isNone with
      | false => rw [hg] at h; cases h
      | true =>
        rw [hg] at h
        simp only [cond_true, Option.some.injEq, Prod.mk.injEq] at h
        obtain ⟨rfl, rfl⟩ := h
        exact ⟨he, hd, by simpa using hg⟩
    · cases h
  · cases h
theorem asg_wp {r : Option Nat} {fu : Nat} {ops : Array Oper} {Q : Exit → Act → World → Prop} : ∀ (l : List Oper) (a : Act) (w : World), (∀ o ∈ l, (asg1 o).isSome = true) → Q .normal (asgA l a) w → wpListIn (FR r) fu P ops Q l a w
  | [], a, w, _, h => h
  | o :: l, a, w, hl, h => by
    obtain ⟨⟨t, d⟩, htd⟩ := Option.isSome_iff_exists.1 (hl o (by simp))
    obtain ⟨h1, h2, h3⟩ := asg1_some htd
    unfold wpListIn
    have hw : Region.wanted o (yielded ops a.tmps) = true := by simp [Region.wanted, h3]
    rw [if_pos hw]
    refine ⟨fun _ _ => trivial, ?_⟩
    rw [Oper.semAt_eq _ _ _ (fun c hc => by rw [h1] at hc; cases hc)]
    have hex : (execOp a.eval o).run P w = .ok (.value (a.tmps.getD t undef)) w := by simp [execOp, h1, Act.eval]
    rw [hex]
    show wpListIn (FR r) fu P ops Q l (a.put o.dst _) w
    rw [h2]
    refine asg_wp l _ w (fun o ho => hl o (by simp [ho])) ?_
    simp only [asgA, htd] at h
    exact h
theorem asg_agree {n : Stat} : ∀ (l : List Oper) (F F2 : Fr) (a : Act), (∀ o ∈ l, ∀ t d, asg1 o = some (t, d) → n.wr d) → Agree n F a → asgF l F = some F2 → Agree n F2 (asgA l a)
  | [], F, F2, a, _, ha, h => by simp only [asgF, Option.some.injEq] at h; subst h; exact ha
  | o :: l, F, F2, a, hd, ha, h => by
    unfold asgF at h
    unfold asgA
    cases htd : asg1 o with
    | none => rw [htd] at h; cases h
    | some td =>
      obtain ⟨t, d⟩ := td
      rw [htd] at h
      simp only at h ⊢
      cases hF : F t with
      | none => rw [hF] at h; cases h
      | some v =>
        rw [hF] at h
        simp only at h
        have hv := ha.vals t v hF
        have := ha.put (d := some d) (fun t' ht' => by cases ht'; exact hd o (by simp) t d htd) v
        rw [hv]
        exact asg_agree l _ F2 _ (fun o ho => hd o (by simp [ho])) this h
theorem param_agree {N : Nat} : ∀ (ps : List Tmp) (vs : List Value) (F : Fr) (tm : Array Value), (∀ p ∈ ps, p < N) → Agree ⟨N, [], fun _ => none⟩ F { tmps := tm, defers := [] } →
    Agree ⟨N, [], fun _ => none⟩ (paramF ps vs F) { tmps := (ps.zip vs).foldl (fun t (p, v) => t.setIfInBounds p v) tm, defers := [] }
  | [], vs, F, tm, _, h => by simpa [paramF] using h
  | p :: ps, [], F, tm, _, h => by simpa [paramF] using h
  | p :: ps, v :: vs, F, tm, hp, h => by
    have := h.put (d := some p) (fun t ht => by cases ht; exact ⟨hp p (by simp), rfl⟩) v
    exact param_agree ps vs _ _ (fun q hq => hp q (by simp [hq])) this

theorem denG_sound (hm : P.follows .mixedOrders = true) {fn : Func} {rs : Array ResultVar} (hrs : fn.results = rs) {N : Nat} {K : Value → World → Prop} : ∀ (c : Code) (ann : Ann) (F : Fr) (a : Act) (w : World), okG N c ann = true → Agree ⟨N, [], fun _ => none⟩ F a → denG P rs.toList K c ann F w →
    c.wpIn Fence.wide 1 P (bodyPostM Fence.wide 1 P fn fun e w' => match e with | .returned v => K v w' | _ => False) a w := by
  intro c
  induction c with
  | seq x rest _ ih =>
    intro ann F a w hok ha h
    cases ann <;> try exact h.elim
    rename_i ax ay
    unfold denG at h
    unfold okG at hok
    simp only at h hok
    have hres : ∀ F' a' w', Agree ⟨N, [], fun _ => none⟩ F' a' → resV P rs.toList F' w' (fun v => K v w') → LeavesInM Fence.wide 1 P fn a'.tmps (fun e w' => match e with | .returned v => K v w' | _ => False) a'.defers .returning w' := fun F' a' w' ha' hr => by
      rw [ha'.st.defers]
      obtain ⟨v, hv, hK⟩ := resV_run (P := P) ha' w' fn hrs hr
      exact ⟨v, hv, hK⟩
    cases hir : isRange x with
    | none =>
      rw [hir] at h hok
      simp only [Bool.and_eq_true] at h hok
      obtain ⟨⟨h1, h2⟩, h3⟩ := hok
      refine wpIn_seq (wpIn_mono (wpIn_wide.2 (den_sound hm x ax _ F a w h1 (dstsOk_mem h2) ha h)) fun e a' w' he => ?_)
      cases e with
      | normal => obtain ⟨F', ha', _, hQ⟩ := he; exact ih ay F' a' w' h3 ha' hQ
      | ret => obtain ⟨F', ha', _, hQ⟩ := he; exact hres F' a' w' ha' hQ
      | exit id => obtain ⟨F', ha', _, hQ⟩ := he; exact hQ.elim
      | goto l => obtain ⟨F', ha', _, hQ⟩ := he; exact hQ.elim
      | panic ch => exact he.2.elim
      | outgrown => exact he.elim
    | some tup =>
      obtain ⟨b0, id, g, ps, rid, ops, bd⟩ := tup
      rw [hir] at h hok
      obtain rfl := isRange_some hir
      simp only at h hok
      cases ax <;> try exact h.elim
      rename_i xb xd
      simp only [Bool.and_eq_true] at hok
      obtain ⟨⟨⟨⟨⟨⟨⟨⟨k1, k2⟩, k3⟩, k4⟩, k5⟩, k6⟩, k7⟩, k8⟩, k9⟩ := hok
      refine wpIn_seq (wpIn_seq (wpIn_mono (wpIn_wide.2 (den_sound hm b0 xb _ F a w k1 (dstsOk_mem k2) ha h)) fun e a' w' he => ?_))
      cases e with
      | ret => obtain ⟨F', ha', _, hQ⟩ := he; exact hQ.elim
      | exit id => obtain ⟨F', ha', _, hQ⟩ := he; exact hQ.elim
      | goto l => obtain ⟨F', ha', _, hQ⟩ := he; exact hQ.elim
      | panic ch => exact he.2.elim
      | outgrown => exact he.elim
      | normal =>
        obtain ⟨F', ha', _, hQ⟩ := he
        obtain ⟨v, hv, hR⟩ := withV_some hQ
        unfold RangeS at hR
        split at hR
        rotate_left
        · exact hR.elim
        rename_i gf first lb
        obtain ⟨rfl, hokf, α, encs, Kp, S, Sp, M, I, hseq, hlen, hKt, hKb, hI, hI0, hrnd, haft⟩ := hR
        have hg := ha'.ev hv
        have hasg : ∀ o ∈ ops.toList, (asg1 o).isSome = true ∧ ∀ t d, asg1 o = some (t, d) → d < N := fun o ho => by
          have := List.all_eq_true.1 k9 o ho
          cases h1 : asg1 o with
          | none => rw [h1] at this; cases this
          | some td =>
            rw [h1] at this
            exact ⟨rfl, fun t d hh => by cases hh; exact Nat.le_of_ble_eq_true this⟩
        refine wpIn_block (wpIn_rangeFunc_ownG (n := 1) (encs := fun x => (encs x).toArray) (Kp := Kp) (S := S) (Sp := Sp) (N := M) (w0 := w') rfl (Nat.le_refl _) hg trivial (fun args w => callFunc_ok hokf args w) hseq (fun {A B C} => hKt A B C) hKb (Below.refl _ _)
          (fun x => by simp [hlen x]) I (fun _ _ _ => False) hI (fun _ _ _ _ _ hh _ _ => hh) hI0
          (fun x => asgA ops.toList { tmps := (ps.zip (encs x).toArray).foldl (fun t (p, v) => t.setIfInBounds p v) a'.tmps, defers := [] }) ?_ ?_ ?_ ?_)
        · intro l x W KK hKK
          exact wpIn_region_list (asg_wp (r := some l) ops.toList _ W (fun o ho => (hasg o ho).1) hKK)
        · intro l pre x W hi hlt
          have hr : (match asgF ops.toList (paramG 0 ps.toList (encs x) F') with | some F2 => den P false NoP bd xd (fun e _ W' => match e with | .normal => (KeepsFrom w'.heap.size W W' ∧ Kp W W' ∧ I (pre ++ [x]) W') | _ => False) F2 W | none => False) := hrnd pre x W hi hlt
          have hpa : Agree ⟨N, [], fun _ => none⟩ (paramF ps.toList (encs x) F') { tmps := (ps.zip (encs x).toArray).foldl (fun t (p, v) => t.setIfInBounds p v) a'.tmps, defers := [] } := by
            have hbase : Agree ⟨N, [], fun _ => none⟩ F' { tmps := a'.tmps, defers := [] } := ⟨⟨ha'.st.size, rfl, ha'.st.fix⟩, ha'.vals⟩
            have := param_agree ps.toList (encs x) F' a'.tmps (fun p hp => Nat.le_of_ble_eq_true (List.all_eq_true.1 k8 p hp)) hbase
            have e : (ps.zip (encs x).toArray).foldl (fun t (p, v) => t.setIfInBounds p v) a'.tmps = (ps.toList.zip (encs x)).foldl (fun t (p, v) => t.setIfInBounds p v) a'.tmps := by
              rw [← Array.foldl_toList, Array.toList_zip]
            rw [e]
            exact this
          rw [paramG_eq ps.toList 0 (encs x) F' (by rw [hlen x]; simp), List.drop_zero] at hr
          split at hr
          · rename_i F2 hF2
            have ha2 := asg_agree ops.toList _ F2 _ (fun o ho t d hh => ⟨(hasg o ho).2 t d hh, rfl⟩) hpa hF2
            refine wpIn_mono (den_soundIn (rd := some l) (fu := 0) hm bd xd _ F2 _ W (.inr k5) k3 (dstsOk_mem k4) ha2 hr) fun e a3 W3 he => ?_
            cases e with
            | normal => obtain ⟨_, _, _, hh⟩ := he; exact hh
            | ret => obtain ⟨F', ha', _, hQ⟩ := he; exact hQ.elim
            | exit id => obtain ⟨F', ha', _, hQ⟩ := he; exact hQ.elim
            | goto l => obtain ⟨F', ha', _, hQ⟩ := he; exact hQ.elim
            | panic ch => exact he.2.elim
            | outgrown => exact he.elim
          · exact hr.elim
        · intro D xs W hD hS hi hmk
          have hd := haft D xs W hD hS hi hmk
          have hsa : Agree ⟨N, [{ target := .collected D, args := #[] }], fun _ => none⟩ F' { a' with defers := { target := .collected D, args := #[] } :: a'.defers } :=
            ⟨⟨ha'.st.size, by simp [ha'.st.defers], ha'.st.fix⟩, ha'.vals⟩
          have hwr : ∀ d ∈ dsts rest, (⟨N, [{ target := .collected D, args := #[] }], fun _ => none⟩ : Stat).wr d := fun d hd => ⟨(dstsOk_mem k7 d hd).1, rfl⟩
          refine wpIn_mono (wpIn_wide.2 (den_sound hm rest ay _ F' _ W k6 hwr hsa hd)) fun e a3 W3 he => ?_
          have hfin : ∀ F3, Agree ⟨N, [{ target := .collected D, args := #[] }], fun _ => none⟩ F3 a3 → (W3.heap[D]? = some (.deferred (some [])) ∧ resV P rs.toList F3 (W3.putObj D (.deferred none)) fun v => K v (W3.putObj D (.deferred none))) →
              LeavesInM Fence.wide 1 P fn a3.tmps (fun e w' => match e with | .returned v => K v w' | _ => False) a3.defers .returning W3 := fun F3 ha3 ⟨hD3, hr3⟩ => by
            rw [ha3.st.defers]
            refine ⟨by simp, .inl ⟨D, _, rfl, run_takeDeferred hD3, ?_⟩⟩
            obtain ⟨v, hv, hK⟩ := resV_run (P := P) ha3 _ fn hrs hr3
            exact ⟨v, hv, hK⟩
          cases e with
          | normal => obtain ⟨F3, ha3, _, hh⟩ := he; exact hfin F3 ha3 hh
          | ret => obtain ⟨F3, ha3, _, hh⟩ := he; exact hfin F3 ha3 hh
          | exit id => obtain ⟨F', ha', _, hQ⟩ := he; exact hQ.elim
          | goto l => obtain ⟨F', ha', _, hQ⟩ := he; exact hQ.elim
          | panic ch => exact he.2.elim
          | outgrown => exact he.elim
        · intro D c pre W _ _ hh; exact hh.elim
  | _ => intro ann F a w hok; cases ann <;> cases hok

theorem fn_range (hm : P.follows .mixedOrders = true) {f : FuncId} {fn : Func} {c : Code} (hf : P.funcs[f]? = some fn) (hb : fn.body = some c) {ann : Ann} {args : List Value} {rs : Array ResultVar} (hrs : fn.results = rs) {m : Nat}
    (hn : fn.ntmps = args.length + m) (hok : okG (args.length + m) c ann = true) {K : Value → World → Prop} {w : World} (h : denG P rs.toList K c ann (argF args 0) w) : CallS P f args.toArray K w := by
  refine callsIn_wide.1 (callsIn_of_wp_marks (n := 1) hf hb trivial ?_ rfl)
  have hsz : fn.ntmps - args.toArray.size = m := by simp [hn]
  rw [hsz]
  exact denG_sound hm hrs c ann _ _ w hok (argF_agree args m) h

theorem stops_of {α : Type} {gf : Nat} {lb : Array Value} {encs : α → List Value} {Kp : World → World → Prop} {S Sp : List α → Prop} {N : Nat} {w : World}
    (h : ∀ (l : Nat) (J Jx : List α → World → Prop) (W : World), Below w.heap.size w W → AbidesFrom W.heap.size J →
      (∀ pre x W1 (K : Value → World → Prop), J pre W1 → pre.length < N → (∀ W', J (pre ++ [x]) W' → Kp W1 W' → K (.bool true) W') → (∀ W', Jx (pre ++ [x]) W' → K (.bool false) W') → YieldS P l (encs x).toArray K W1) →
      J [] W → CallS P gf (#[.func (.yield l) #[] #[]] ++ lb) (fun _ W' => (∃ xs, S xs ∧ J xs W') ∨ (∃ pre, Sp pre ∧ Jx pre W')) W) :
    SeqStopsK Fence.wide 0 P gf lb (fun x => (encs x).toArray) Kp S Sp N w := by
  intro l J Jx W hW hJ hJx hY h0
  refine callsIn_wide.2 (Calls.mono (h l J Jx W hW hJ ?_ h0) fun e W' he => ?_)
  · intro pre x W1 K hJ1 hlt ht hf
    obtain ⟨fn, tmps, assign, body, h1, h2⟩ := hY pre x W1 hJ1 hlt
    refine ⟨fn, tmps, assign, body, h1, h2.mono fun e W' he => ?_⟩
    rcases he with ⟨rfl, hh, hk⟩ | ⟨rfl, hh⟩
    · exact ht W' hh hk
    · exact hf W' hh
  · cases e with
    | returned v => exact ⟨⟨v, rfl⟩, he⟩
    | _ => exact he.elim
theorem callY {l : Nat} {args : List Value} {K : Value → World → Prop} {Kp : List PanicEntry → World → Prop} {w : World} (h : YieldS P l args.toArray K w) : CallV' P false (.func (.yield l) #[] #[]) args Kp K w := by
  show cond true (YieldS P l (#[] ++ args.toArray) K w) False
  simpa using h
end
end SG

namespace Go.Proofs.YthohdinjpkehpaaGreat
set_option linter.unusedVariables false
set_option maxRecDepth 100000
open Go SG

def a3 : Ann :=
 (.q (.r [.plain 1]) (.q (.q (.r [.plain 2]) (.c (.q (.r [.plain 1]) .s) .s)) (.q (.r [.plain 8]) (.q (.q (.r [.plain 2]) (.c (.q (.r [.plain 2]) .s) .s)) (.q (.r [.plain 4]) (.q (.r [.plain 3]) (.q (.r [.plain 4]) (.q (.q (.r [.plain 5]) (.c (.q (.r [.plain 1]) .s) .s)) (.j [] 18446741874686313472 (.q (.r [.plain 1]) (.b (.l [14] 18446741874686313472 (.q (.q (.r [.plain 4]) (.c .s .s)) (.q (.b (.q (.r [.plain 9]) (.q (.r [.plain 8]) (.c (.q (.r [.plain 1]) .s) .s)))) (.r [.plain 3]))))))
  (.q (.q (.r [.plain 3]) (.c (.q (.r [.plain 1]) .s) .s)) (.q (.r [.plain 3]) (.q (.r [.plain 4]) (.q (.r [.plain 5]) .s)))))))))))))
def s3 (quota0 acts1 keeps2 names3 more4 : Value) (K : Value → World → Prop) (w : World) : Prop :=
 CallS Tryz.prog 6 [].toArray (fun t15 w =>
 PureS (notV t15) fun t16 =>
 CondS t16 (
 K (Value.bool false) w
 ) (
 CallS Tryz.prog 7 [quota0, acts1].toArray (fun t20 w =>
 PureS (extractV 0 t20) fun t21 =>
 PureS (extractV 1 t20) fun t22 =>
 RunS Tryz.prog (do eqGuard .eql 25 (Operand.tmp 23) (Operand.const (Value.pointer none)) t21 (Value.pointer none); binOp .eql 25 t21 (Value.pointer none)) (fun t24 w =>
 CondS t24 (
 K t22 w
 ) (
 CallS Tryz.prog 8 [t21, keeps2, names3].toArray (fun t29 w =>
 CallS Tryz.prog 9 [t21].toArray (fun t31 w =>
 CallS Tryz.prog 8 [t21, more4, more4].toArray (fun t35 w =>
 CallS Tryz.prog 9 [t21].toArray (fun t38 w =>
 CallS Tryz.prog 10 [t31, t38].toArray (fun t39 w =>
 PureS (notV t39) fun t40 =>
 CondS t40 (
 K (Value.bool false) w
 ) (
 JoinS (fun (w : World) =>
 CallS Tryz.prog 13 [t21].toArray (fun t65 w =>
 PureS (notV t65) fun t66 =>
 CondS t66 (
 K (Value.bool false) w
 ) (
 CallS Tryz.prog 9 [t21].toArray (fun t68 w =>
 CallS Tryz.prog 8 [t21, more4, more4].toArray (fun t72 w =>
 CallS Tryz.prog 9 [t21].toArray (fun t75 w =>
 CallS Tryz.prog 10 [t68, t75].toArray (fun t76 w =>
 K t76 w
 ) w
 ) w
 ) w
 ) w
 )
 ) w
 ) fun J0 =>
 LoopS 1 (fun L1 (i14 : Value) (w : World) =>
 PureS (lenSliceV t31) fun t43 =>
 PureS (binV .lss i14 t43) fun t44 =>
 CondS t44 (
 PureS (indexAddrV 4 t31 i14) fun t50 =>
 PureS (fieldAddrV 0 t50) fun t51 =>
 LoadC t51 (fun t52 w =>
 RunS Tryz.prog (Instr.buildSlice 34 1 [(0, (Value.int .u8 120))].toArray) (fun t53 w =>
 RunS Tryz.prog (convert 34 34 t53) (fun t54 w =>
 CallS Tryz.prog 11 [t21, t52, t54].toArray (fun t55 w =>
 PureS (indexAddrV 4 t31 i14) fun t59 =>
 PureS (fieldAddrV 0 t59) fun t60 =>
 LoadC t60 (fun t61 w =>
 CallS Tryz.prog 12 [t21, t61].toArray (fun t62 w =>
 PureS (binV .neq t62 (Value.int .i64 0)) fun t63 =>
 CondS t63 (
 K (Value.bool false) w
 ) (
 PureS (binV .add i14 (Value.int .i64 1)) fun t46 =>
 L1 t46 w
 )
 ) w
 ) w
 ) w
 ) w
 ) w
 ) w
 ) (
 J0 w
 )
 ) (Value.int .i64 0) w
 )
 ) w
 ) w
 ) w
 ) w
 ) w
 )
 ) w
 ) w
 )
 ) w
def a4 : Ann :=
 (.q (.r [.plain 1]) (.q (.r [.plain 7]) (.q (.q (.r [.plain 2]) (.c (.q (.r [.plain 2]) .s) .s)) (.q (.r [.plain 3]) (.j [7] 2361183241434820510640 (.q (.r [.plain 1]) (.b (.l [5, 7, 8] 2361183241434820510640 (.q (.q (.r [.plain 4]) (.c .s .s)) (.q (.b (.j [5, 7] 576460752169206448 (.q (.r [.plain 6]) (.c (.q (.r [.plain 6]) (.q (.q (.r [.plain 3, .grp 3 [43] 15393162788864, .plain 1]) (.c (.q (.r [.plain 3]) .s) .s)) (.q (.r [.plain 9]) (.r [.plain 5])))) .s))
  (.q (.r [.plain 8, .grp 3 [69] 1033017668127734890496, .plain 1]) (.c (.q (.r [.plain 1]) .s) .s)))) (.r [.plain 3]))))))
  (.j [] 9669045373675598575043600 (.q (.r [.plain 1]) (.b (.l [10] 9669045373675598575043600 (.q (.q (.r [.plain 4]) (.c .s .s)) (.q (.b (.q (.r [.plain 6]) (.c (.q (.r [.plain 1]) .s) .s))) (.r [.plain 3]))))))
  (.q (.r [.plain 1]) .s)))))))
def s4 (quota0 acts1 : Value) (K : Value → World → Prop) (w : World) : Prop :=
 CallS Tryz.prog 14 [quota0].toArray (fun t13 w =>
 PureS (extractV 0 t13) fun t14 =>
 PureS (extractV 1 t13) fun t15 =>
 RunS Tryz.prog (do eqGuard .eql 40 (Operand.tmp 16) (Operand.const (Value.pointer none)) t14 (Value.pointer none); binOp .eql 40 t14 (Value.pointer none)) (fun t17 w =>
 CondS t17 (
 K t15 w
 ) (
 RunS Tryz.prog (Instr.buildSlice 43 1 [(0, t14)].toArray) (fun t20 w =>
 JoinS (fun (all7 : Value) (w : World) =>
 JoinS (fun (w : World) =>
 K (Value.bool true) w
 ) fun J1 =>
 LoopS 1 (fun L2 (i10 : Value) (w : World) =>
 PureS (lenSliceV all7) fun t73 =>
 PureS (binV .lss i10 t73) fun t74 =>
 CondS t74 (
 PureS (indexAddrV 1 all7 i10) fun t79 =>
 LoadC t79 (fun t80 w =>
 CallS Tryz.prog 18 [t80].toArray (fun t81 w =>
 PureS (notV t81) fun t82 =>
 CondS t82 (
 K (Value.bool false) w
 ) (
 PureS (binV .add i10 (Value.int .i64 1)) fun t76 =>
 L2 t76 w
 )
 ) w
 ) w
 ) (
 J1 w
 )
 ) (Value.int .i64 0) w
 ) fun J0 =>
 LoopS 3 (fun L3 (x5 all7_1 i8 : Value) (w : World) =>
 PureS (lenSliceV acts1) fun t23 =>
 PureS (binV .lss i8 t23) fun t24 =>
 CondS t24 (
 JoinS (fun (x5_1 all7_2 : Value) (w : World) =>
 PureS (indexAddrV 8 acts1 i8) fun t62 =>
 LoadA 8 t62 (fun t63 w =>
 CallS Tryz.prog 17 [x5_1, t63].toArray (fun t64 w =>
 PureS (notV t64) fun t65 =>
 JoinS (fun (t69 : Value) (w : World) =>
 PureS (pickV t65 (Value.bool true) t69) fun t70 =>
 CondS t70 (
 K (Value.bool false) w
 ) (
 PureS (binV .add i8 (Value.int .i64 1)) fun t26 =>
 L3 x5_1 all7_2 t26 w
 )
 ) fun J5 =>
 IfB t65 false (
 CallS Tryz.prog 18 [x5_1].toArray (fun t68 w =>
 PureS (notV t68) fun t69_1 =>
 J5 t69_1 w
 ) w
 ) (
 J5 undef w
 )
 ) w
 ) w
 ) fun J4 =>
 PureS (indexAddrV 8 acts1 i8) fun t29 =>
 PureS (fieldAddrV 0 t29) fun t30 =>
 LoadC t30 (fun t31 w =>
 PureS (binV .eql t31 (Value.int .i64 16)) fun t32 =>
 CondS t32 (
 PureS (nilV x5) fun t34 =>
 PureS (fieldAddrV 0 t34) fun t35 =>
 LoadC t35 (fun t36 w =>
 CallS Tryz.prog 15 [t36].toArray (fun t37 w =>
 RunS Tryz.prog (do eqGuard .eql 25 (Operand.tmp 38) (Operand.const (Value.pointer none)) t37 (Value.pointer none); binOp .eql 25 t37 (Value.pointer none)) (fun t39 w =>
 JoinS (fun (t43 : Value) (w : World) =>
 PureS (pickV t39 (Value.bool true) t43) fun t44 =>
 CondS t44 (
 RunS Tryz.prog (do eqGuard .neq 25 (Operand.tmp 45) (Operand.const (Value.pointer none)) t37 (Value.pointer none); binOp .neq 25 t37 (Value.pointer none)) (fun t46 w =>
 K t46 w
 ) w
 ) (
 PureS (nilV x5) fun t49 =>
 PureS (fieldAddrV 1 t49) fun t50 =>
 LoadC t50 (fun t51 w =>
 CallS Tryz.prog 16 [t51].toArray (fun t52 w =>
 RunS Tryz.prog (Instr.build 48 [(0, t37), (1, t52)].toArray) (fun t53 w =>
 BoxS 48 t53 (fun t54 w =>
 RunS Tryz.prog (Instr.buildSlice 43 1 [(0, t54)].toArray) (fun t57 w =>
 RunS Tryz.prog (Builtin.append_ #[43, 43] 43 [all7_1, t57].toArray) (fun t58 w =>
 J4 t54 t58 w
 ) w
 ) w
 ) w
 ) w
 ) w
 ) w
 )
 ) fun J6 =>
 IfB t39 false (
 PureS (lenSliceV all7_1) fun t42 =>
 PureS (binV .gtr t42 (Value.int .i64 20)) fun t43_1 =>
 J6 t43_1 w
 ) (
 J6 undef w
 )
 ) w
 ) w
 ) w
 ) (
 J4 x5 all7_1 w
 )
 ) w
 ) (
 J0 all7_1 w
 )
 ) t14 t20 (Value.int .i64 0) w
 ) w
 )
 ) w
 ) w
def a5 : Ann :=
 (.q (.r [.plain 1]) (.q (.q (.r [.plain 2]) (.c (.q (.r [.plain 1]) .s) .s)) (.q (.r [.plain 8]) (.q (.q (.r [.plain 2]) (.c (.q (.r [.plain 2]) .s) .s)) (.q (.q (.r [.plain 3]) (.c (.q (.r [.plain 1]) .s) .s)) (.q (.r [.plain 3]) (.q (.r [.plain 4]) (.q (.r [.plain 3]) (.q (.q (.r [.plain 5]) (.c (.q (.r [.plain 1]) .s) .s)) (.j [] 5070602400912917603787789574400 (.q (.r [.plain 1]) (.b (.l [13] 5070602400912917603787789574400 (.q (.q (.r [.plain 4]) (.c .s .s)) (.q (.b (.j [101] 5070602400912917465249324466176 (.d [0, 0, 3, 7, 15, 0, 0, 96, 224, 480, 1023, 2047, 4095, 4095, 16383, 32767, 65535, 4095, 4095, 397311, 921599, 1970175, 4194303, 8388607, 16777215, 33554431, 33554431, 134217727, 268435455, 536870911, 1073741823, 2147483647, 4294967295, 8589934591, 8589934591, 34359738367, 68719476735, 137438953471, 274877906943, 549755813887, 1099511627775, 1099511627775, 4398046511103, 8796093022207, 17592186044415, 35184372088831, 1099511627775, 1099511627775, 212205744160767, 493680720871423, 1056630674292735, 2182530581135359, 4503599627370495, 9007199254740991, 18014398509481983] (.pur 0 (.pur 1 (.pur 2 (.pur 3 (.pur 5 (.pur 6 (.pur 7 (.pur 8 (.hld 4 (.hld 9 (.pur 10 (.pur 11 (.ite 11 (.skp 12 (.skp 13 (.skp 14 (.skp 15 (.skp 16 (.skp 17 (.skp 18 (.skp 19 (.skp 20 (.skp 21 (.skp 22 (.pur 23 (.pur 24 (.ite 24 (.skp 25 (.skp 26 (.skp 27 (.skp 28 (.skp 29 (.skp 30 (.pur 31 (.pur 32 (.ite 32 (.skp 33 (.skp 34 (.skp 35 (.skp 36 (.skp 37 (.skp 38 (.skp 39 (.skp 40 (.skp 41 (.skp 42 (.skp 43 (.skp 44 (.skp 45 (.skp 46 (.skp 47 (.skp 48 (.skp 49 (.skp 50 (.skp 51 (.skp 52 (.skp 53 (.pur 54 .fin)))))))))))))))))))))) (.pur 33 (.pur 34 (.pur 35 (.pur 36 (.hld 37 (.pur 38 (.pur 39 (.ite 39 (.pur 40 (.pur 41 (.pur 42 (.pur 43 (.pur 46 (.pur 47 (.pur 48 (.pur 49 (.hld 44 (.hld 45 (.hld 50 (.hld 51 (.pur 52 (.pur 53 (.pur 54 .fin))))))))))))))) (.skp 40 (.skp 41 (.skp 42 (.skp 43 (.skp 44 (.skp 45 (.skp 46 (.skp 47 (.skp 48 (.skp 49 (.skp 50 (.skp 51 (.skp 52 (.pur 53 (.pur 54 .fin)))))))))))))))))))))))))))))))) (.pur 25 (.pur 26 (.pur 27 (.pur 28 (.hld 29 (.pur 30 (.pur 31 (.pur 32 (.ite 32 (.skp 33 (.skp 34 (.skp 35 (.skp 36 (.skp 37 (.skp 38 (.skp 39 (.skp 40 (.skp 41 (.skp 42 (.skp 43 (.skp 44 (.skp 45 (.skp 46 (.skp 47 (.skp 48 (.skp 49 (.skp 50 (.skp 51 (.skp 52 (.skp 53 (.pur 54 .fin)))))))))))))))))))))) (.pur 33 (.pur 34 (.pur 35 (.pur 36 (.hld 37 (.pur 38 (.pur 39 (.ite 39 (.pur 40 (.pur 41 (.pur 42 (.pur 43 (.pur 46 (.pur 47 (.pur 48 (.pur 49 (.hld 44 (.hld 45 (.hld 50 (.hld 51 (.pur 52 (.pur 53 (.pur 54 .fin))))))))))))))) (.skp 40 (.skp 41 (.skp 42 (.skp 43 (.skp 44 (.skp 45 (.skp 46 (.skp 47 (.skp 48 (.skp 49 (.skp 50 (.skp 51 (.skp 52 (.pur 53 (.pur 54 .fin)))))))))))))))))))))))))))))))))))))))))))))) (.pur 12 (.pur 13 (.pur 14 (.pur 15 (.pur 17 (.pur 18 (.pur 19 (.pur 20 (.hld 16 (.hld 21 (.pur 22 (.pur 23 (.pur 24 (.ite 24 (.skp 25 (.skp 26 (.skp 27 (.skp 28 (.skp 29 (.skp 30 (.pur 31 (.pur 32 (.ite 32 (.skp 33 (.skp 34 (.skp 35 (.skp 36 (.skp 37 (.skp 38 (.skp 39 (.skp 40 (.skp 41 (.skp 42 (.skp 43 (.skp 44 (.skp 45 (.skp 46 (.skp 47 (.skp 48 (.skp 49 (.skp 50 (.skp 51 (.skp 52 (.skp 53 (.pur 54 .fin)))))))))))))))))))))) (.pur 33 (.pur 34 (.pur 35 (.pur 36 (.hld 37 (.pur 38 (.pur 39 (.ite 39 (.pur 40 (.pur 41 (.pur 42 (.pur 43 (.pur 46 (.pur 47 (.pur 48 (.pur 49 (.hld 44 (.hld 45 (.hld 50 (.hld 51 (.pur 52 (.pur 53 (.pur 54 .fin))))))))))))))) (.skp 40 (.skp 41 (.skp 42 (.skp 43 (.skp 44 (.skp 45 (.skp 46 (.skp 47 (.skp 48 (.skp 49 (.skp 50 (.skp 51 (.skp 52 (.pur 53 (.pur 54 .fin)))))))))))))))))))))))))))))))) (.pur 25 (.pur 26 (.pur 27 (.pur 28 (.hld 29 (.pur 30 (.pur 31 (.pur 32 (.ite 32 (.skp 33 (.skp 34 (.skp 35 (.skp 36 (.skp 37 (.skp 38 (.skp 39 (.skp 40 (.skp 41 (.skp 42 (.skp 43 (.skp 44 (.skp 45 (.skp 46 (.skp 47 (.skp 48 (.skp 49 (.skp 50 (.skp 51 (.skp 52 (.skp 53 (.pur 54 .fin)))))))))))))))))))))) (.pur 33 (.pur 34 (.pur 35 (.pur 36 (.hld 37 (.pur 38 (.pur 39 (.ite 39 (.pur 40 (.pur 41 (.pur 42 (.pur 43 (.pur 46 (.pur 47 (.pur 48 (.pur 49 (.hld 44 (.hld 45 (.hld 50 (.hld 51 (.pur 52 (.pur 53 (.pur 54 .fin))))))))))))))) (.skp 40 (.skp 41 (.skp 42 (.skp 43 (.skp 44 (.skp 45 (.skp 46 (.skp 47 (.skp 48 (.skp 49 (.skp 50 (.skp 51 (.skp 52 (.pur 53 (.pur 54 .fin))))))))))))))))))))))))))))))))))))))))))))))))))))))))))))
  (.c (.q (.r [.plain 1]) .s) .s))) (.r [.plain 3]))))))
  (.q (.r [.plain 1]) .s)))))))))))
def s5 (quota0 acts1 keeps2 names3 : Value) (K : Value → World → Prop) (w : World) : Prop :=
 CallS Tryz.prog 6 [].toArray (fun t14 w =>
 PureS (notV t14) fun t15 =>
 CondS t15 (
 K (Value.bool false) w
 ) (
 CallS Tryz.prog 7 [quota0, acts1].toArray (fun t19 w =>
 PureS (extractV 0 t19) fun t20 =>
 PureS (extractV 1 t19) fun t21 =>
 RunS Tryz.prog (do eqGuard .eql 25 (Operand.tmp 22) (Operand.const (Value.pointer none)) t20 (Value.pointer none); binOp .eql 25 t20 (Value.pointer none)) (fun t23 w =>
 CondS t23 (
 K t21 w
 ) (
 CallS Tryz.prog 13 [t20].toArray (fun t26 w =>
 PureS (notV t26) fun t27 =>
 CondS t27 (
 K (Value.bool false) w
 ) (
 CallS Tryz.prog 9 [t20].toArray (fun t29 w =>
 CallS Tryz.prog 8 [t20, keeps2, names3].toArray (fun t33 w =>
 CallS Tryz.prog 9 [t20].toArray (fun t35 w =>
 PureS (lenSliceV t29) fun t37 =>
 PureS (lenSliceV t35) fun t39 =>
 PureS (binV .neq t37 t39) fun t40 =>
 CondS t40 (
 K (Value.bool false) w
 ) (
 JoinS (fun (w : World) =>
 K (Value.bool true) w
 ) fun J0 =>
 LoopS 1 (fun L1 (i13 : Value) (w : World) =>
 PureS (lenSliceV t29) fun t43 =>
 PureS (binV .lss i13 t43) fun t44 =>
 CondS t44 (
 JoinS (fun (t101 : Value) (w : World) =>
 CondS t101 (
 K (Value.bool false) w
 ) (
 PureS (binV .add i13 (Value.int .i64 1)) fun t46 =>
 L1 t46 w
 )
 ) fun J2 =>
 DrawS fun S3 => S3 w.drew ∧ (
 PureS (indexAddrV 4 t35 i13) fun t49 =>
 PureS (fieldAddrV 0 t49) fun t50 =>
 PureS (indexAddrV 4 t29 i13) fun t54 =>
 PureS (fieldAddrV 0 t54) fun t55 =>
 HeldC S3 t50 (fun t51 =>
 HeldC S3 t55 (fun t56 =>
 PureS (binV .neq t51 t56) fun t57 =>
 CondS t57 (
 PureS (pickV (Value.bool true) (Value.bool true) undef) fun t70 =>
 CondS t70 (
 PureS (pickV (Value.bool true) (Value.bool true) undef) fun t78 =>
 CondS t78 (
 PureS (pickV (Value.bool true) (Value.bool true) undef) fun t101_1 =>
 J2 t101_1 w.drew
 ) (
 PureS (indexAddrV 4 t29 i13) fun t82 =>
 PureS (fieldAddrV 2 t82) fun t83 =>
 HeldC S3 t83 (fun t84 =>
 PureS (binV .eql t84 (Value.int .i64 0)) fun t85 =>
 CondS t85 (
 PureS (indexAddrV 4 t35 i13) fun t89 =>
 PureS (fieldAddrV 1 t89) fun t90 =>
 PureS (indexAddrV 4 t29 i13) fun t95 =>
 PureS (fieldAddrV 1 t95) fun t96 =>
 HeldC S3 t90 (fun t91 =>
 HeldR Tryz.prog S3 (convert 34 9 t91) (fun t92 =>
 HeldC S3 t96 (fun t97 =>
 HeldR Tryz.prog S3 (convert 34 9 t97) (fun t98 =>
 PureS (binV .neq t92 t98) fun t99 =>
 PureS (pickV (Value.bool true) t99 (Value.bool false)) fun t100 =>
 PureS (pickV (Value.bool false) (Value.bool true) t100) fun t101_2 =>
 J2 t101_2 w.drew
 )
 )
 )
 )
 ) (
 PureS (pickV (Value.bool false) undef (Value.bool false)) fun t100_1 =>
 PureS (pickV (Value.bool false) (Value.bool true) t100_1) fun t101_3 =>
 J2 t101_3 w.drew
 )
 )
 )
 ) (
 PureS (indexAddrV 4 t35 i13) fun t74 =>
 PureS (fieldAddrV 2 t74) fun t75 =>
 HeldC S3 t75 (fun t76 =>
 PureS (binV .neq t76 (Value.int .i64 0)) fun t77 =>
 PureS (pickV (Value.bool false) (Value.bool true) t77) fun t78_1 =>
 CondS t78_1 (
 PureS (pickV (Value.bool true) (Value.bool true) undef) fun t101_4 =>
 J2 t101_4 w.drew
 ) (
 PureS (indexAddrV 4 t29 i13) fun t82_1 =>
 PureS (fieldAddrV 2 t82_1) fun t83_1 =>
 HeldC S3 t83_1 (fun t84_1 =>
 PureS (binV .eql t84_1 (Value.int .i64 0)) fun t85_1 =>
 CondS t85_1 (
 PureS (indexAddrV 4 t35 i13) fun t89_1 =>
 PureS (fieldAddrV 1 t89_1) fun t90_1 =>
 PureS (indexAddrV 4 t29 i13) fun t95_1 =>
 PureS (fieldAddrV 1 t95_1) fun t96_1 =>
 HeldC S3 t90_1 (fun t91_1 =>
 HeldR Tryz.prog S3 (convert 34 9 t91_1) (fun t92_1 =>
 HeldC S3 t96_1 (fun t97_1 =>
 HeldR Tryz.prog S3 (convert 34 9 t97_1) (fun t98_1 =>
 PureS (binV .neq t92_1 t98_1) fun t99_1 =>
 PureS (pickV (Value.bool true) t99_1 (Value.bool false)) fun t100_2 =>
 PureS (pickV (Value.bool false) (Value.bool true) t100_2) fun t101_5 =>
 J2 t101_5 w.drew
 )
 )
 )
 )
 ) (
 PureS (pickV (Value.bool false) undef (Value.bool false)) fun t100_3 =>
 PureS (pickV (Value.bool false) (Value.bool true) t100_3) fun t101_6 =>
 J2 t101_6 w.drew
 )
 )
 )
 )
 )
 ) (
 PureS (indexAddrV 4 t35 i13) fun t61 =>
 PureS (fieldAddrV 3 t61) fun t62 =>
 PureS (indexAddrV 4 t29 i13) fun t66 =>
 PureS (fieldAddrV 3 t66) fun t67 =>
 HeldC S3 t62 (fun t63 =>
 HeldC S3 t67 (fun t68 =>
 PureS (binV .neq t63 t68) fun t69 =>
 PureS (pickV (Value.bool false) (Value.bool true) t69) fun t70_1 =>
 CondS t70_1 (
 PureS (pickV (Value.bool true) (Value.bool true) undef) fun t78_2 =>
 CondS t78_2 (
 PureS (pickV (Value.bool true) (Value.bool true) undef) fun t101_7 =>
 J2 t101_7 w.drew
 ) (
 PureS (indexAddrV 4 t29 i13) fun t82_2 =>
 PureS (fieldAddrV 2 t82_2) fun t83_2 =>
 HeldC S3 t83_2 (fun t84_2 =>
 PureS (binV .eql t84_2 (Value.int .i64 0)) fun t85_2 =>
 CondS t85_2 (
 PureS (indexAddrV 4 t35 i13) fun t89_2 =>
 PureS (fieldAddrV 1 t89_2) fun t90_2 =>
 PureS (indexAddrV 4 t29 i13) fun t95_2 =>
 PureS (fieldAddrV 1 t95_2) fun t96_2 =>
 HeldC S3 t90_2 (fun t91_2 =>
 HeldR Tryz.prog S3 (convert 34 9 t91_2) (fun t92_2 =>
 HeldC S3 t96_2 (fun t97_2 =>
 HeldR Tryz.prog S3 (convert 34 9 t97_2) (fun t98_2 =>
 PureS (binV .neq t92_2 t98_2) fun t99_2 =>
 PureS (pickV (Value.bool true) t99_2 (Value.bool false)) fun t100_4 =>
 PureS (pickV (Value.bool false) (Value.bool true) t100_4) fun t101_8 =>
 J2 t101_8 w.drew
 )
 )
 )
 )
 ) (
 PureS (pickV (Value.bool false) undef (Value.bool false)) fun t100_5 =>
 PureS (pickV (Value.bool false) (Value.bool true) t100_5) fun t101_9 =>
 J2 t101_9 w.drew
 )
 )
 )
 ) (
 PureS (indexAddrV 4 t35 i13) fun t74_1 =>
 PureS (fieldAddrV 2 t74_1) fun t75_1 =>
 HeldC S3 t75_1 (fun t76_1 =>
 PureS (binV .neq t76_1 (Value.int .i64 0)) fun t77_1 =>
 PureS (pickV (Value.bool false) (Value.bool true) t77_1) fun t78_3 =>
 CondS t78_3 (
 PureS (pickV (Value.bool true) (Value.bool true) undef) fun t101_10 =>
 J2 t101_10 w.drew
 ) (
 PureS (indexAddrV 4 t29 i13) fun t82_3 =>
 PureS (fieldAddrV 2 t82_3) fun t83_3 =>
 HeldC S3 t83_3 (fun t84_3 =>
 PureS (binV .eql t84_3 (Value.int .i64 0)) fun t85_3 =>
 CondS t85_3 (
 PureS (indexAddrV 4 t35 i13) fun t89_3 =>
 PureS (fieldAddrV 1 t89_3) fun t90_3 =>
 PureS (indexAddrV 4 t29 i13) fun t95_3 =>
 PureS (fieldAddrV 1 t95_3) fun t96_3 =>
 HeldC S3 t90_3 (fun t91_3 =>
 HeldR Tryz.prog S3 (convert 34 9 t91_3) (fun t92_3 =>
 HeldC S3 t96_3 (fun t97_3 =>
 HeldR Tryz.prog S3 (convert 34 9 t97_3) (fun t98_3 =>
 PureS (binV .neq t92_3 t98_3) fun t99_3 =>
 PureS (pickV (Value.bool true) t99_3 (Value.bool false)) fun t100_6 =>
 PureS (pickV (Value.bool false) (Value.bool true) t100_6) fun t101_11 =>
 J2 t101_11 w.drew
 )
 )
 )
 )
 ) (
 PureS (pickV (Value.bool false) undef (Value.bool false)) fun t100_7 =>
 PureS (pickV (Value.bool false) (Value.bool true) t100_7) fun t101_12 =>
 J2 t101_12 w.drew
 )
 )
 )
 )
 )
 )
 )
 )
 )
 )
 )
 ) (
 J0 w
 )
 ) (Value.int .i64 0) w
 )
 ) w
 ) w
 ) w
 )
 ) w
 )
 ) w
 ) w
 )
 ) w
theorem s5_den (quota0 acts1 keeps2 names3 : Value) (K : Value → World → Prop) (w : World) : denFn Tryz.prog false (bodyOf Tryz.f5) Tryz.f5.results a5 [quota0, acts1, keeps2, names3] K NoP w = s5 quota0 acts1 keeps2 names3 K w := by kernel_rfl
theorem s5_dst : dstsOk (4 + 98) (bodyOf Tryz.f5) = true := by kernel_rfl
theorem s5_ann : annOk (bodyOf Tryz.f5) a5 = true := by kernel_rfl
theorem s5_call {quota0 acts1 keeps2 names3 : Value} {K : Value → World → Prop} {w : World} (hm : Tryz.prog.follows .mixedOrders = true) (h : s5 quota0 acts1 keeps2 names3 K w) : CallS Tryz.prog 5 #[quota0, acts1, keeps2, names3] K w :=
  fn_call (args := [quota0, acts1, keeps2, names3]) (m := 98) hm Tryz.func5 (by kernel_rfl) (rs := Tryz.f5.results) rfl Tryz.ntmps5 s5_dst s5_ann (by rw [s5_den]; exact h)

def a6 : Ann :=
 (.q (.r [.plain 1]) (.q (.r [.plain 6]) (.q (.q (.r [.plain 3, .grp 2 [13] 12288, .plain 2, .grp 3 [18] 458752, .plain 2, .grp 3 [23] 14680064, .plain 2, .grp 5 [30] 2080374784, .plain 2, .grp 3 [35] 60129542144, .plain 2, .grp 5 [42] 8521215115264, .plain 2, .grp 3 [47] 246290604621824, .plain 1]) (.c (.q (.r [.plain 1]) .s) .s)) (.q (.r [.plain 3]) (.q (.r [.plain 7]) (.q (.r [.plain 3, .grp 3 [62] 8070450532247928832, .plain 2]) .s))))))
def s6 (K : Value → World → Prop) (w : World) : Prop :=
 CallS Tryz.prog 19 [(Value.int .i64 100)].toArray (fun t6 w =>
 PureS (extractV 0 t6) fun t7 =>
 PureS (extractV 1 t6) fun t8 =>
 PureS (binV .neq t8 (Value.int .i64 0)) fun t10 =>
 JoinS (fun (t13 : Value) (w : World) =>
 PureS (pickV t10 (Value.bool true) t13) fun t14 =>
 JoinS (fun (t18 : Value) (w : World) =>
 PureS (pickV t14 (Value.bool true) t18) fun t19 =>
 JoinS (fun (t23 : Value) (w : World) =>
 PureS (pickV t19 (Value.bool true) t23) fun t24 =>
 JoinS (fun (t30 : Value) (w : World) =>
 PureS (pickV t24 (Value.bool true) t30) fun t31 =>
 JoinS (fun (t35 : Value) (w : World) =>
 PureS (pickV t31 (Value.bool true) t35) fun t36 =>
 JoinS (fun (t42 : Value) (w : World) =>
 PureS (pickV t36 (Value.bool true) t42) fun t43 =>
 JoinS (fun (t47 : Value) (w : World) =>
 PureS (pickV t43 (Value.bool true) t47) fun t48 =>
 CondS t48 (
 K (Value.bool false) w
 ) (
 RunS Tryz.prog (Instr.buildSlice 23 1 [(0, (Value.int .i64 1))].toArray) (fun t50 w =>
 CallS Tryz.prog 8 [t7, t50, (Value.slice none 0 0)].toArray (fun t51 w =>
 CallS Tryz.prog 24 [t7, (Value.string ⟨#[100, 47, 97]⟩)].toArray (fun t54 w =>
 PureS (extractV 0 t54) fun t55 =>
 PureS (extractV 1 t54) fun t56 =>
 PureS (binV .eql t56 (Value.int .i64 0)) fun t58 =>
 JoinS (fun (t62 : Value) (w : World) =>
 PureS (pickV t58 t62 (Value.bool false)) fun t63 =>
 K t63 w
 ) fun J7 =>
 IfB t58 true (
 RunS Tryz.prog (convert 34 9 t55) (fun t61 w =>
 PureS (binV .eql t61 (Value.string ⟨#[120, 85, 122]⟩)) fun t62_1 =>
 J7 t62_1 w
 ) w
 ) (
 J7 undef w
 )
 ) w
 ) w
 ) w
 )
 ) fun J6 =>
 IfB t43 false (
 CallS Tryz.prog 23 [t7, (Value.string ⟨#[100]⟩)].toArray (fun t46 w =>
 PureS (binV .neq t46 (Value.int .i64 0)) fun t47_1 =>
 J6 t47_1 w
 ) w
 ) (
 J6 undef w
 )
 ) fun J5 =>
 IfB t36 false (
 RunS Tryz.prog (Instr.buildSlice 34 2 [(0, (Value.int .u8 85)), (1, (Value.int .u8 86))].toArray) (fun t39 w =>
 RunS Tryz.prog (convert 34 34 t39) (fun t40 w =>
 CallS Tryz.prog 22 [t7, (Value.string ⟨#[100, 47, 97]⟩), (Value.int .i64 1), t40].toArray (fun t41 w =>
 PureS (binV .neq t41 (Value.int .i64 0)) fun t42_1 =>
 J5 t42_1 w
 ) w
 ) w
 ) w
 ) (
 J5 undef w
 )
 ) fun J4 =>
 IfB t31 false (
 CallS Tryz.prog 12 [t7, (Value.string ⟨#[100, 47, 97]⟩)].toArray (fun t34 w =>
 PureS (binV .neq t34 (Value.int .i64 0)) fun t35_1 =>
 J4 t35_1 w
 ) w
 ) (
 J4 undef w
 )
 ) fun J3 =>
 IfB t24 false (
 RunS Tryz.prog (Instr.buildSlice 34 3 [(0, (Value.int .u8 120)), (1, (Value.int .u8 121)), (2, (Value.int .u8 122))].toArray) (fun t27 w =>
 RunS Tryz.prog (convert 34 34 t27) (fun t28 w =>
 CallS Tryz.prog 11 [t7, (Value.string ⟨#[100, 47, 97]⟩), t28].toArray (fun t29 w =>
 PureS (binV .neq t29 (Value.int .i64 0)) fun t30_1 =>
 J3 t30_1 w
 ) w
 ) w
 ) w
 ) (
 J3 undef w
 )
 ) fun J2 =>
 IfB t19 false (
 CallS Tryz.prog 21 [t7, (Value.string ⟨#[100, 47, 97]⟩)].toArray (fun t22 w =>
 PureS (binV .neq t22 (Value.int .i64 0)) fun t23_1 =>
 J2 t23_1 w
 ) w
 ) (
 J2 undef w
 )
 ) fun J1 =>
 IfB t14 false (
 CallS Tryz.prog 20 [t7, (Value.string ⟨#[100]⟩)].toArray (fun t17 w =>
 PureS (binV .neq t17 (Value.int .i64 0)) fun t18_1 =>
 J1 t18_1 w
 ) w
 ) (
 J1 undef w
 )
 ) fun J0 =>
 IfB t10 false (
 RunS Tryz.prog (do eqGuard .eql 25 (Operand.tmp 12) (Operand.const (Value.pointer none)) t7 (Value.pointer none); binOp .eql 25 t7 (Value.pointer none)) (fun t13_1 w =>
 J0 t13_1 w
 ) w
 ) (
 J0 undef w
 )
 ) w
theorem s6_den (K : Value → World → Prop) (w : World) : denFn Tryz.prog false (bodyOf Tryz.f6) Tryz.f6.results a6 [] K NoP w = s6 K w := by kernel_rfl
theorem s6_dst : dstsOk (0 + 64) (bodyOf Tryz.f6) = true := by kernel_rfl
theorem s6_ann : annOk (bodyOf Tryz.f6) a6 = true := by kernel_rfl
theorem s6_call {K : Value → World → Prop} {w : World} (hm : Tryz.prog.follows .mixedOrders = true) (h : s6 K w) : CallS Tryz.prog 6 #[] K w :=
  fn_call (args := []) (m := 64) hm Tryz.func6 (by kernel_rfl) (rs := Tryz.f6.results) rfl Tryz.ntmps6 s6_dst s6_ann (by rw [s6_den]; exact h)

def a7 : Ann :=
 (.q (.r [.plain 2]) (.q (.r [.plain 7]) (.q (.q (.r [.plain 2]) (.c (.q (.r [.plain 3]) .s) .s)) (.j [] 274877776176 (.q (.r [.plain 1]) (.b (.l [8] 274877776176 (.q (.q (.r [.plain 4]) (.c .s .s)) (.q (.b (.q (.r [.plain 7, .grp 7 [36] 136365211648, .plain 1]) (.c (.q (.r [.plain 2]) .s) .s))) (.r [.plain 3]))))))
  (.q (.r [.plain 6]) .s)))))
def s7 (quota0 acts1 : Value) (K : Value → World → Prop) (w : World) : Prop :=
 CallS Tryz.prog 14 [quota0].toArray (fun t11 w =>
 PureS (extractV 0 t11) fun t12 =>
 PureS (extractV 1 t11) fun t13 =>
 RunS Tryz.prog (do eqGuard .eql 40 (Operand.tmp 14) (Operand.const (Value.pointer none)) t12 (Value.pointer none); binOp .eql 40 t12 (Value.pointer none)) (fun t15 w =>
 CondS t15 (
 K (Value.tuple [(Value.pointer none), t13].toArray) w
 ) (
 JoinS (fun (w : World) =>
 PureS (nilV t12) fun t39 =>
 PureS (fieldAddrV 0 t39) fun t40 =>
 LoadC t40 (fun t41 w =>
 K (Value.tuple [t41, (Value.bool true)].toArray) w
 ) w
 ) fun J0 =>
 LoopS 1 (fun L1 (i8 : Value) (w : World) =>
 PureS (lenSliceV acts1) fun t19 =>
 PureS (binV .lss i8 t19) fun t20 =>
 CondS t20 (
 PureS (indexAddrV 8 acts1 i8) fun t25 =>
 PureS (fieldAddrV 0 t25) fun t26 =>
 LoadC t26 (fun t27 w =>
 PureS (binV .neq t27 (Value.int .i64 16)) fun t28 =>
 JoinS (fun (t36 : Value) (w : World) =>
 PureS (pickV t28 t36 (Value.bool false)) fun t37 =>
 CondS t37 (
 K (Value.tuple [(Value.pointer none), (Value.bool false)].toArray) w
 ) (
 PureS (binV .add i8 (Value.int .i64 1)) fun t22 =>
 L1 t22 w
 )
 ) fun J2 =>
 IfB t28 true (
 PureS (indexAddrV 8 acts1 i8) fun t33 =>
 LoadA 8 t33 (fun t34 w =>
 CallS Tryz.prog 17 [t12, t34].toArray (fun t35 w =>
 PureS (notV t35) fun t36_1 =>
 J2 t36_1 w
 ) w
 ) w
 ) (
 J2 undef w
 )
 ) w
 ) (
 J0 w
 )
 ) (Value.int .i64 0) w
 )
 ) w
 ) w
theorem s7_den (quota0 acts1 : Value) (K : Value → World → Prop) (w : World) : denFn Tryz.prog false (bodyOf Tryz.f7) Tryz.f7.results a7 [quota0, acts1] K NoP w = s7 quota0 acts1 K w := by kernel_rfl
theorem s7_dst : dstsOk (2 + 40) (bodyOf Tryz.f7) = true := by kernel_rfl
theorem s7_ann : annOk (bodyOf Tryz.f7) a7 = true := by kernel_rfl
theorem s7_call {quota0 acts1 : Value} {K : Value → World → Prop} {w : World} (hm : Tryz.prog.follows .mixedOrders = true) (h : s7 quota0 acts1 K w) : CallS Tryz.prog 7 #[quota0, acts1] K w :=
  fn_call (args := [quota0, acts1]) (m := 40) hm Tryz.func7 (by kernel_rfl) (rs := Tryz.f7.results) rfl Tryz.ntmps7 s7_dst s7_ann (by rw [s7_den]; exact h)

def a8 : Ann :=
 (.q (.r [.plain 7]) (.j [] 36893488147419041280 (.q (.r [.plain 4]) (.b (.l [19] 36893488147418582528 (.q (.r [.plain 1]) (.q (.c .s .s) (.j [] 18446744073707458048 (.b (.q (.r [.plain 3]) (.q (.r [.plain 7]) (.q (.q (.r [.plain 6]) (.c .s .s)) (.j [] 2305842974853957632 (.q (.d [0, 1, 0, 4, 12, 28, 60, 124, 255, 511] (.pur 0 (.pur 2 (.pur 3 (.pur 4 (.hld 5 (.pur 6 (.pur 7 (.act 1 (.pur 8 (.pur 9 .fin))))))))))) (.q (.r [.plain 7]) (.c (.r [.plain 11]) .s)))
  (.r [.plain 4]))))))
  (.r [.plain 2])))))))
  (.q (.r [.plain 3]) (.r [.plain 10]))))
def s8 (f0 keeps1 changes2 : Value) (K : Value → World → Prop) (w : World) : Prop :=
 CallS Tryz.prog 25 [keeps1].toArray (fun t13 w =>
 CallS Tryz.prog 25 [changes2].toArray (fun t15 w =>
 BoxS 59 Value.nilFunc (fun keep6 w =>
 StoreC keep6 t13 (fun w =>
 JoinS (fun (w : World) =>
 CallS Tryz.prog 27 [f0, (Value.func (Fn.func 28) [].toArray [keep6].toArray)].toArray (fun t67 w =>
 RunS Tryz.prog (Instr.build 66 [].toArray) (fun t70 w =>
 RunS Tryz.prog (Instr.build 66 [].toArray) (fun t71 w =>
 PureS (nilV f0) fun t72 =>
 PureS (fieldAddrV 2 t72) fun t73 =>
 StoreA 3 t73 t70 (fun w =>
 PureS (nilV f0) fun t74 =>
 PureS (fieldAddrV 5 t74) fun t75 =>
 StoreA 3 t75 t71 (fun w =>
 K (Value.tuple [].toArray) w
 ) w
 ) w
 ) w
 ) w
 ) w
 ) fun J0 =>
 CallS Tryz.prog 26 [f0].toArray (fun t17 w =>
 PureS (lenSliceV t17) fun t18 =>
 LoopS 1 (fun L1 (t19 : Value) (w : World) =>
 PureS (binV .lss t19 t18) fun t20 =>
 CondS t20 (
 JoinS (fun (w : World) =>
 PureS (binV .add t19 (Value.int .i64 1)) fun t64 =>
 L1 t64 w
 ) fun J2 =>
 PureS (indexAddrV 1 t17 t19) fun t21 =>
 LoadC t21 (fun t22 w =>
 PureS (nilV f0) fun t24 =>
 PureS (fieldAddrV 1 t24) fun t25 =>
 LoadC t25 (fun t26 w =>
 RunS Tryz.prog (Instr.lookup 64 t26 t22 false) (fun t28 w =>
 PureS (nilV t28) fun t30 =>
 PureS (fieldAddrV 1 t30) fun t31 =>
 LoadC t31 (fun t32 w =>
 PureS (lenSliceV t32) fun t33 =>
 PureS (binV .eql t33 (Value.int .i64 0)) fun t34 =>
 CondS t34 (
 J2 w
 ) (
 JoinS (fun (w : World) =>
 PureS (nilV t28) fun t62 =>
 PureS (fieldAddrV 1 t62) fun t63 =>
 StoreC t63 (Value.slice none 0 0) (fun w =>
 J2 w
 ) w
 ) fun J3 =>
 DrawS fun S4 => S4 w.drew ∧ (
 PureS (nilV t28) fun t38 =>
 PureS (fieldAddrV 1 t38) fun t39 =>
 HeldC S4 t39 (fun t40 =>
 PureS (lenSliceV t40) fun t41 =>
 PureS (binV .add t41 (Value.int .i64 1)) fun t42 =>
 CallW' Tryz.prog false t15 [] NoP (fun t36 w =>
 S4 w ∧ (
 PureS (binV .rem t36 t42) fun t43 =>
 PureS (nilV t28) fun t46 =>
 PureS (fieldAddrV 1 t46) fun t47 =>
 LoadC t47 (fun t48 w =>
 PureS (lenSliceV t48) fun t49 =>
 PureS (binV .lss t43 t49) fun t50 =>
 CondS t50 (
 PureS (nilV t28) fun t53 =>
 PureS (fieldAddrV 1 t53) fun t54 =>
 LoadC t54 (fun t55 w =>
 PureS (indexAddrV 1 t55 t43) fun t57 =>
 LoadC t57 (fun t58 w =>
 PureS (nilV t28) fun t59 =>
 PureS (fieldAddrV 0 t59) fun t60 =>
 StoreC t60 t58 (fun w =>
 J3 w
 ) w
 ) w
 ) w
 ) (
 J3 w
 )
 ) w
 )
 ) w.drew
 )
 )
 )
 ) w
 ) w
 ) w
 ) w
 ) (
 J0 w
 )
 ) (Value.int .i64 0) w
 ) w
 ) w
 ) w
 ) w
 ) w
theorem s8_den (f0 keeps1 changes2 : Value) (K : Value → World → Prop) (w : World) : denFn Tryz.prog false (bodyOf Tryz.f8) Tryz.f8.results a8 [f0, keeps1, changes2] K NoP w = s8 f0 keeps1 changes2 K w := by kernel_rfl
theorem s8_dst : dstsOk (3 + 73) (bodyOf Tryz.f8) = true := by kernel_rfl
theorem s8_ann : annOk (bodyOf Tryz.f8) a8 = true := by kernel_rfl
theorem s8_call {f0 keeps1 changes2 : Value} {K : Value → World → Prop} {w : World} (hm : Tryz.prog.follows .mixedOrders = true) (h : s8 f0 keeps1 changes2 K w) : CallS Tryz.prog 8 #[f0, keeps1, changes2] K w :=
  fn_call (args := [f0, keeps1, changes2]) (m := 73) hm Tryz.func8 (by kernel_rfl) (rs := Tryz.f8.results) rfl Tryz.ntmps8 s8_dst s8_ann (by rw [s8_den]; exact h)

def a9 : Ann :=
 (.q (.r [.plain 1]) (.q (.r [.plain 1]) (.q (.r [.plain 3]) (.q (.r [.plain 3]) (.q (.r [.plain 2]) .s)))))
def s9 (f0 : Value) (K : Value → World → Prop) (w : World) : Prop :=
 BoxS 29 (Value.slice none 0 0) (fun l3 w =>
 RunS Tryz.prog (Instr.makeMap 78 none) (fun t5 w =>
 BoxS 78 (Value.map none) (fun firsts4 w =>
 StoreC firsts4 t5 (fun w =>
 CallS Tryz.prog 27 [f0, (Value.func (Fn.func 31) [].toArray [firsts4, l3].toArray)].toArray (fun t8 w =>
 LoadC l3 (fun t9 w =>
 K t9 w
 ) w
 ) w
 ) w
 ) w
 ) w
 ) w
theorem s9_den (f0 : Value) (K : Value → World → Prop) (w : World) : denFn Tryz.prog false (bodyOf Tryz.f9) Tryz.f9.results a9 [f0] K NoP w = s9 f0 K w := by kernel_rfl
theorem s9_dst : dstsOk (1 + 9) (bodyOf Tryz.f9) = true := by kernel_rfl
theorem s9_ann : annOk (bodyOf Tryz.f9) a9 = true := by kernel_rfl
theorem s9_call {f0 : Value} {K : Value → World → Prop} {w : World} (hm : Tryz.prog.follows .mixedOrders = true) (h : s9 f0 K w) : CallS Tryz.prog 9 #[f0] K w :=
  fn_call (args := [f0]) (m := 9) hm Tryz.func9 (by kernel_rfl) (rs := Tryz.f9.results) rfl Tryz.ntmps9 s9_dst s9_ann (by rw [s9_den]; exact h)

def a10 : Ann :=
 (.q (.r [.plain 1]) (.q (.q (.r [.plain 5]) (.c (.q (.r [.plain 1]) .s) .s)) (.j [] 590295810358705649712 (.q (.r [.plain 1]) (.b (.l [5] 590295810358705649712 (.q (.q (.r [.plain 4]) (.c .s .s)) (.q (.b (.j [68] 590295810358705520640 (.d [0, 0, 3, 7, 15, 0, 0, 96, 224, 480, 1023, 2047, 4095, 4095, 16383, 32767, 65535, 4095, 4095, 397311, 921599, 1970175, 4194303, 8388607, 16777215, 33554431, 33554431, 134217727, 268435455, 536870911, 33554431, 33554431, 3254779903, 7549747199, 16139681791, 34359738367, 68719476735, 137438953471, 274877906943, 274877906943, 1099511627775, 2199023255551, 4398046511103, 8796093022207, 274877906943, 274877906943, 53051436040191, 123420180217855, 264157668573183, 545632645283839, 1125899906842623, 2251799813685247] (.pur 0 (.pur 1 (.pur 2 (.pur 3 (.pur 5 (.pur 6 (.pur 7 (.pur 8 (.hld 4 (.hld 9 (.pur 10 (.pur 11 (.ite 11 (.skp 12 (.skp 13 (.skp 14 (.skp 15 (.skp 16 (.skp 17 (.skp 18 (.skp 19 (.skp 20 (.skp 21 (.skp 22 (.pur 23 (.pur 24 (.ite 24 (.skp 25 (.skp 26 (.skp 27 (.skp 28 (.skp 29 (.skp 30 (.skp 31 (.skp 32 (.skp 33 (.skp 34 (.skp 35 (.pur 36 (.pur 37 (.ite 37 (.skp 38 (.skp 39 (.skp 40 (.skp 41 (.skp 42 (.skp 43 (.skp 44 (.skp 45 (.skp 46 (.skp 47 (.skp 48 (.skp 49 (.skp 50 (.pur 51 .fin)))))))))))))) (.pur 38 (.pur 39 (.pur 40 (.pur 41 (.pur 44 (.pur 45 (.pur 46 (.pur 47 (.hld 42 (.hld 43 (.hld 48 (.hld 49 (.pur 50 (.pur 51 .fin)))))))))))))))))))))))))))) (.pur 25 (.pur 26 (.pur 27 (.pur 28 (.pur 30 (.pur 31 (.pur 32 (.pur 33 (.hld 29 (.hld 34 (.pur 35 (.pur 36 (.pur 37 (.ite 37 (.skp 38 (.skp 39 (.skp 40 (.skp 41 (.skp 42 (.skp 43 (.skp 44 (.skp 45 (.skp 46 (.skp 47 (.skp 48 (.skp 49 (.skp 50 (.pur 51 .fin)))))))))))))) (.pur 38 (.pur 39 (.pur 40 (.pur 41 (.pur 44 (.pur 45 (.pur 46 (.pur 47 (.hld 42 (.hld 43 (.hld 48 (.hld 49 (.pur 50 (.pur 51 .fin)))))))))))))))))))))))))))))))))))))))))) (.pur 12 (.pur 13 (.pur 14 (.pur 15 (.pur 17 (.pur 18 (.pur 19 (.pur 20 (.hld 16 (.hld 21 (.pur 22 (.pur 23 (.pur 24 (.ite 24 (.skp 25 (.skp 26 (.skp 27 (.skp 28 (.skp 29 (.skp 30 (.skp 31 (.skp 32 (.skp 33 (.skp 34 (.skp 35 (.pur 36 (.pur 37 (.ite 37 (.skp 38 (.skp 39 (.skp 40 (.skp 41 (.skp 42 (.skp 43 (.skp 44 (.skp 45 (.skp 46 (.skp 47 (.skp 48 (.skp 49 (.skp 50 (.pur 51 .fin)))))))))))))) (.pur 38 (.pur 39 (.pur 40 (.pur 41 (.pur 44 (.pur 45 (.pur 46 (.pur 47 (.hld 42 (.hld 43 (.hld 48 (.hld 49 (.pur 50 (.pur 51 .fin)))))))))))))))))))))))))))) (.pur 25 (.pur 26 (.pur 27 (.pur 28 (.pur 30 (.pur 31 (.pur 32 (.pur 33 (.hld 29 (.hld 34 (.pur 35 (.pur 36 (.pur 37 (.ite 37 (.skp 38 (.skp 39 (.skp 40 (.skp 41 (.skp 42 (.skp 43 (.skp 44 (.skp 45 (.skp 46 (.skp 47 (.skp 48 (.skp 49 (.skp 50 (.pur 51 .fin)))))))))))))) (.pur 38 (.pur 39 (.pur 40 (.pur 41 (.pur 44 (.pur 45 (.pur 46 (.pur 47 (.hld 42 (.hld 43 (.hld 48 (.hld 49 (.pur 50 (.pur 51 .fin))))))))))))))))))))))))))))))))))))))))))))))))))))))))
  (.c (.q (.r [.plain 1]) .s) .s))) (.r [.plain 3]))))))
  (.q (.r [.plain 1]) .s))))
def a11 : Ann :=
 (.q (.r [.plain 1]) (.q (.r [.plain 8]) (.q (.q (.r [.plain 2]) (.c (.q (.r [.plain 2]) .s) .s)) (.q (.r [.plain 10]) .s))))
def s11 (f0 path1 b2 : Value) (K : Value → World → Prop) (w : World) : Prop :=
 CallS Tryz.prog 33 [f0, path1].toArray (fun t12 w =>
 PureS (extractV 0 t12) fun t13 =>
 PureS (extractV 1 t12) fun t14 =>
 PureS (binV .neq t14 (Value.int .i64 0)) fun t16 =>
 CondS t16 (
 K t14 w
 ) (
 PureS (nilV t13) fun t21 =>
 PureS (fieldAddrV 2 t21) fun t22 =>
 LoadC t22 (fun t23 w =>
 PureS (lenSliceV t23) fun t24 =>
 CallS Tryz.prog 34 [f0, t13, t24, b2].toArray (fun t26 w =>
 K t26 w
 ) w
 ) w
 )
 ) w
theorem s11_den (f0 path1 b2 : Value) (K : Value → World → Prop) (w : World) : denFn Tryz.prog false (bodyOf Tryz.f11) Tryz.f11.results a11 [f0, path1, b2] K NoP w = s11 f0 path1 b2 K w := by kernel_rfl
theorem s11_dst : dstsOk (3 + 24) (bodyOf Tryz.f11) = true := by kernel_rfl
theorem s11_ann : annOk (bodyOf Tryz.f11) a11 = true := by kernel_rfl
theorem s11_call {f0 path1 b2 : Value} {K : Value → World → Prop} {w : World} (hm : Tryz.prog.follows .mixedOrders = true) (h : s11 f0 path1 b2 K w) : CallS Tryz.prog 11 #[f0, path1, b2] K w :=
  fn_call (args := [f0, path1, b2]) (m := 24) hm Tryz.func11 (by kernel_rfl) (rs := Tryz.f11.results) rfl Tryz.ntmps11 s11_dst s11_ann (by rw [s11_den]; exact h)

def a12 : Ann :=
 (.q (.r [.plain 1]) (.q (.r [.plain 8]) (.q (.q (.r [.plain 2]) (.c (.q (.r [.plain 2]) .s) .s)) (.q (.q (.r [.plain 7]) (.q (.r [.plain 2]) (.c (.q (.r [.plain 2]) .s) .s))) (.q (.r [.plain 12]) (.q (.r [.plain 1]) .s))))))
def s12 (f0 path1 : Value) (K : Value → World → Prop) (w : World) : Prop :=
 CallS Tryz.prog 33 [f0, path1].toArray (fun t12 w =>
 PureS (extractV 0 t12) fun t13 =>
 PureS (extractV 1 t12) fun t14 =>
 PureS (binV .neq t14 (Value.int .i64 0)) fun t16 =>
 CondS t16 (
 K t14 w
 ) (
 CallS Tryz.prog 35 [f0].toArray (fun t20 w =>
 PureS (extractV 0 t20) fun t21 =>
 PureS (extractV 1 t20) fun t22 =>
 PureS (binV .neq t21 (Value.int .i64 0)) fun t24 =>
 CondS t24 (
 K t21 w
 ) (
 PureS (nilV t13) fun t29 =>
 PureS (fieldAddrV 2 t29) fun t30 =>
 LoadC t30 (fun t31 w =>
 PureS (nilV t13) fun t32 =>
 PureS (fieldAddrV 0 t32) fun t33 =>
 StoreC t33 t31 (fun w =>
 PureS (nilV t13) fun t34 =>
 PureS (fieldAddrV 1 t34) fun t35 =>
 StoreC t35 (Value.slice none 0 0) (fun w =>
 K (Value.int .i64 0) w
 ) w
 ) w
 ) w
 )
 ) w
 )
 ) w
theorem s12_den (f0 path1 : Value) (K : Value → World → Prop) (w : World) : denFn Tryz.prog false (bodyOf Tryz.f12) Tryz.f12.results a12 [f0, path1] K NoP w = s12 f0 path1 K w := by kernel_rfl
theorem s12_dst : dstsOk (2 + 34) (bodyOf Tryz.f12) = true := by kernel_rfl
theorem s12_ann : annOk (bodyOf Tryz.f12) a12 = true := by kernel_rfl
theorem s12_call {f0 path1 : Value} {K : Value → World → Prop} {w : World} (hm : Tryz.prog.follows .mixedOrders = true) (h : s12 f0 path1 K w) : CallS Tryz.prog 12 #[f0, path1] K w :=
  fn_call (args := [f0, path1]) (m := 34) hm Tryz.func12 (by kernel_rfl) (rs := Tryz.f12.results) rfl Tryz.ntmps12 s12_dst s12_ann (by rw [s12_den]; exact h)

def a13 : Ann :=
 (.q (.r [.plain 1]) (.q (.r [.plain 2]) (.q (.r [.plain 2]) (.q (.r [.plain 3]) (.j [] 16775188 (.q (.r [.plain 1]) (.b (.l [4] 16775188 (.q (.q (.r [.plain 4]) (.c .s .s)) (.q (.b (.q (.r [.plain 7]) (.c (.q (.r [.plain 1]) .s) .s))) (.r [.plain 3]))))))
  (.q (.r [.plain 1]) .s))))))
def s13 (f0 : Value) (K : Value → World → Prop) (w : World) : Prop :=
 CallS Tryz.prog 36 [f0, (Value.int .i64 0), (Value.int .i64 0)].toArray (fun t6 w =>
 CallS Tryz.prog 37 [f0, (Value.int .i64 0)].toArray (fun t8 w =>
 CallS Tryz.prog 38 [f0].toArray (fun t10 w =>
 JoinS (fun (w : World) =>
 K (Value.bool true) w
 ) fun J0 =>
 LoopS 1 (fun L1 (i4 : Value) (w : World) =>
 PureS (lenSliceV t10) fun t13 =>
 PureS (binV .lss i4 t13) fun t14 =>
 CondS t14 (
 PureS (indexAddrV 1 t10 i4) fun t20 =>
 LoadC t20 (fun t21 w =>
 CallS Tryz.prog 23 [f0, t21].toArray (fun t22 w =>
 PureS (binV .neq t22 (Value.int .i64 0)) fun t23 =>
 CondS t23 (
 K (Value.bool false) w
 ) (
 PureS (binV .add i4 (Value.int .i64 1)) fun t16 =>
 L1 t16 w
 )
 ) w
 ) w
 ) (
 J0 w
 )
 ) (Value.int .i64 0) w
 ) w
 ) w
 ) w
theorem s13_den (f0 : Value) (K : Value → World → Prop) (w : World) : denFn Tryz.prog false (bodyOf Tryz.f13) Tryz.f13.results a13 [f0] K NoP w = s13 f0 K w := by kernel_rfl
theorem s13_dst : dstsOk (1 + 23) (bodyOf Tryz.f13) = true := by kernel_rfl
theorem s13_ann : annOk (bodyOf Tryz.f13) a13 = true := by kernel_rfl
theorem s13_call {f0 : Value} {K : Value → World → Prop} {w : World} (hm : Tryz.prog.follows .mixedOrders = true) (h : s13 f0 K w) : CallS Tryz.prog 13 #[f0] K w :=
  fn_call (args := [f0]) (m := 23) hm Tryz.func13 (by kernel_rfl) (rs := Tryz.f13.results) rfl Tryz.ntmps13 s13_dst s13_ann (by rw [s13_den]; exact h)

def a14 : Ann :=
 (.q (.r [.plain 2]) (.q (.r [.plain 7]) (.q (.r [.plain 7]) (.q (.q (.r [.plain 4, .grp 5 [26] 130023424, .plain 1]) (.c (.q (.r [.plain 2]) .s) .s)) (.q (.q (.r [.plain 2]) (.c (.q (.r [.plain 2]) .s) .s)) (.q (.r [.plain 6]) .s))))))
def s14 (quota0 : Value) (K : Value → World → Prop) (w : World) : Prop :=
 CallS Tryz.prog 19 [quota0].toArray (fun t10 w =>
 PureS (extractV 0 t10) fun t11 =>
 PureS (extractV 1 t10) fun t12 =>
 CallS Tryz.prog 39 [quota0].toArray (fun t15 w =>
 PureS (extractV 0 t15) fun t16 =>
 PureS (extractV 1 t15) fun t17 =>
 PureS (binV .neq t12 t17) fun t20 =>
 JoinS (fun (t26 : Value) (w : World) =>
 PureS (pickV t20 (Value.bool true) t26) fun t27 =>
 CondS t27 (
 K (Value.tuple [(Value.pointer none), (Value.bool false)].toArray) w
 ) (
 RunS Tryz.prog (do eqGuard .eql 25 (Operand.tmp 28) (Operand.const (Value.pointer none)) t11 (Value.pointer none); binOp .eql 25 t11 (Value.pointer none)) (fun t29 w =>
 CondS t29 (
 K (Value.tuple [(Value.pointer none), (Value.bool true)].toArray) w
 ) (
 RunS Tryz.prog (Instr.build 48 [(0, t11), (1, t16)].toArray) (fun t32 w =>
 BoxS 48 t32 (fun t33 w =>
 K (Value.tuple [t33, (Value.bool true)].toArray) w
 ) w
 ) w
 )
 ) w
 )
 ) fun J0 =>
 IfB t20 false (
 RunS Tryz.prog (do eqGuard .eql 25 (Operand.tmp 22) (Operand.const (Value.pointer none)) t11 (Value.pointer none); binOp .eql 25 t11 (Value.pointer none)) (fun t23 w =>
 RunS Tryz.prog (do eqGuard .eql 46 (Operand.tmp 24) (Operand.const (Value.pointer none)) t16 (Value.pointer none); binOp .eql 46 t16 (Value.pointer none)) (fun t25 w =>
 PureS (boolV .neq t23 t25) fun t26_1 =>
 J0 t26_1 w
 ) w
 ) w
 ) (
 J0 undef w
 )
 ) w
 ) w
theorem s14_den (quota0 : Value) (K : Value → World → Prop) (w : World) : denFn Tryz.prog false (bodyOf Tryz.f14) Tryz.f14.results a14 [quota0] K NoP w = s14 quota0 K w := by kernel_rfl
theorem s14_dst : dstsOk (1 + 33) (bodyOf Tryz.f14) = true := by kernel_rfl
theorem s14_ann : annOk (bodyOf Tryz.f14) a14 = true := by kernel_rfl
theorem s14_call {quota0 : Value} {K : Value → World → Prop} {w : World} (hm : Tryz.prog.follows .mixedOrders = true) (h : s14 quota0 K w) : CallS Tryz.prog 14 #[quota0] K w :=
  fn_call (args := [quota0]) (m := 33) hm Tryz.func14 (by kernel_rfl) (rs := Tryz.f14.results) rfl Tryz.ntmps14 s14_dst s14_ann (by rw [s14_den]; exact h)

end Go.Proofs.YthohdinjpkehpaaGreat

