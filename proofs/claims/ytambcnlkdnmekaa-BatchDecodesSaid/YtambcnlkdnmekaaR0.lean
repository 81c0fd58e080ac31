/- Rules for a row's own step: arguments opened as lists, their weights. No program stands here. -/
import Derived.Test.YtambcnlkdnmekaaH2
import Derived.WalkKit
import Derived.ProofKit
import Derived.OpenShut
import Derived.ShutString
import Derived.ChangeOld
import Derived.Below
import Derived.SizedLaws
import Derived.Deep.Slices
import Derived.Deep.Fields
import Derived.ChangeSame
namespace SG
open Go Go.RowKit Go.ChangeShapes Go.WideShapes Go.Deep
set_option linter.unusedVariables false
set_option linter.unusedSimpArgs false

theorem list_of {α : Type} {Q : Nat → α → Prop} : ∀ (n : Nat), (∀ i, i < n → ∃ a, Q i a) → ∃ l : List α, l.length = n ∧ ∀ i a, l[i]? = some a → Q i a
  | 0, _ => ⟨[], rfl, fun i a h => by simp at h⟩
  | n + 1, h => by
    obtain ⟨l, hl, hQ⟩ := list_of n fun i hi => h i (by omega)
    obtain ⟨a, ha⟩ := h n (by omega)
    refine ⟨l ++ [a], by simp [hl], fun i b hb => ?_⟩
    by_cases hi : i < l.length
    · rw [List.getElem?_append_left hi] at hb
      exact hQ i b hb
    · rw [List.getElem?_append_right (by omega)] at hb
      have h0 : i - l.length = 0 := by
        rcases Nat.eq_zero_or_pos (i - l.length) with h | h
        · exact h
        · rw [List.getElem?_eq_none (by simp; omega)] at hb; cases hb
      rw [h0] at hb
      simp only [List.getElem?_cons_zero, Option.some.injEq] at hb
      subst hb
      have : i = n := by omega
      rw [this]; exact ha
theorem At.flat {α : Type} {f : α → List Value} {size : Nat} (hf : ∀ a, (f a).length = size) {w : World} : ∀ (l : List α) (ad : Addr), (∀ i a, l[i]? = some a → At w (ad.add (i * size)) (f a)) → At w ad (SG.flat f l)
  | [], ad, h => fun i v hv => by simp [SG.flat] at hv
  | x :: l, ad, h => by
    have hrec := At.flat hf l (ad.add size) fun i a ha => by
      have := h (i + 1) a (by simpa using ha)
      rw [Addr.add_add, Nat.add_comm size, ← Nat.succ_mul]
      exact this
    intro i v hv
    have e : SG.flat f (x :: l) = f x ++ SG.flat f l := by simp [SG.flat]
    rw [e] at hv
    by_cases hi : i < (f x).length
    · rw [List.getElem?_append_left hi] at hv
      have := h 0 x rfl i v hv
      simpa [Addr.add_zero'] using this
    · rw [List.getElem?_append_right (by omega), hf] at hv
      have h1 := hrec (i - size) v hv
      rw [Addr.add_add] at h1
      rw [hf] at hi
      rwa [show size + (i - size) = i by omega] at h1

section
variable {H : Type} {P : Program}
theorem weights_all_mem : ∀ {l : List (DataW H)} {e : TypeId} {d : DataW H} {n : Nat}, d ∈ l → n ∈ d.weights P e → n ∈ DataW.weightsAll P e l
  | a :: l, e, d, n, hd, hn => by
    simp only [DataW.weightsAll, List.mem_append]
    rcases List.mem_cons.1 hd with rfl | hd
    · exact .inl hn
    · exact .inr (weights_all_mem hd hn)
theorem weights_elem {t e : TypeId} {elems spare : List (DataW H)} {d : DataW H} {n : Nat} (ht : P.underlying t = some (.slice e)) (hd : d ∈ elems) (hn : n ∈ d.weights P e) : n ∈ (DataW.slice elems spare).weights P t := by
  simp only [DataW.weights, ht, List.mem_cons, List.mem_append]
  exact .inr (.inl (weights_all_mem hd hn))
theorem weights_row {t e : TypeId} {elems spare : List (DataW H)} (ht : P.underlying t = some (.slice e)) : (elems.length + spare.length) * P.bytesOf e ∈ (DataW.slice elems spare).weights P t := by
  simp [DataW.weights, ht]
/-- the arguments' weights, one argument's -/
theorem weights_le {ts : List TypeId} {ds : List (DataW H)} (h : (DataW.weightsEach P ts ds).all (· ≤ reachBytes) = true) {j : Nat} {t : TypeId} {d : DataW H} (ht : ts[j]? = some t) (hd : ds[j]? = some d) : ∀ n ∈ d.weights P t, n ≤ reachBytes := fun n hn => by
  have := List.all_eq_true.1 h _ (DataW.weights_mem_each ht hd n hn)
  simpa using this
end

section
variable {H : Type} {enc : TypeId × Value → H} {P : Program} {w : World} {base : Nat} {spare : Nat → Bool} {held : Bool}
/-- a struct of one-cell fields -/
theorem open_struct {e : TypeId} {fs : Array Field} {fuel : Nat} {cs : List Value} {x : DataW H × List MemPlace} (he : P.underlying e = some (.struct fs))
    (hone : oneCellFields P fs = true) (hC : P.cellsOf e = fs.size) (hcl : cs.length = fs.size) (h : DataW.trod enc P w base spare held fuel e cs = some x) :
    ∃ (ys : List (DataW H × List MemPlace)) (n : Nat), x.1 = .agg (ys.map (·.1)) ∧ ys.length = fs.size ∧
        ∀ (j : Nat) (f : Field), fs[j]? = some f → ∃ (v : Value) (y : DataW H × List MemPlace), cs[j]? = some v ∧ ys[j]? = some y ∧ DataW.trod enc P w base spare held n f.type [v] = some y := by
  obtain ⟨ys, n', hn', hy, hlen, hyl, hf⟩ := DataW.trod_struct he h
  refine ⟨ys, n', by rw [hy], hyl, fun j f hj => ?_⟩
  obtain ⟨ho, hk⟩ := hone_of hone j f hj
  have hjl : j < fs.size := (Array.getElem?_eq_some_iff.1 hj).1
  have hv : cs[j]? = some (cs[j]'(by omega)) := List.getElem?_eq_getElem (by omega)
  have h1 := hf j f hj
  rw [ho, hk] at h1
  have hone' : (cs.drop j).take 1 = [cs[j]'(by omega)] := by
    rw [List.drop_eq_getElem_cons (by omega)]
    rfl
  rw [hone'] at h1
  have hys : ys[j]? = some (ys[j]'(by omega)) := List.getElem?_eq_getElem (by omega)
  exact ⟨_, _, hv, hys, h1.trans hys⟩
/-- a slice as it came in, read as a list: what each element is good for -/
theorem open_list {α : Type} {f : α → List Value} {size : Nat} (hf : ∀ a, (f a).length = size) {Q : DataW H → α → Prop} {t e : TypeId} {v : Value} {d : DataW H} {p : List MemPlace} {fuel : Nat} (ht : P.underlying t = some (.slice e)) (hC : P.cellsOf e = size)
    (hopen : ∀ (n : Nat) (cs : List Value) (x : DataW H × List MemPlace), DataW.trod enc P w base spare held n e cs = some x → cs.length = size → ∃ a, cs = f a ∧ Q x.1 a)
    (h : DataW.trod enc P w base spare held fuel t [v] = some (d, p)) :
    ∃ l : List α, Sl w v l.length size (flat f l) ∧ ((l = [] ∧ d = .nil) ∨ ∃ elems sp : List (DataW H), d = .slice elems sp ∧ elems.length = l.length ∧ ∀ (i : Nat) (a : α), l[i]? = some a → ∃ x, elems[i]? = some x ∧ Q x a) := by
  rcases open_slice ht h with ⟨hcs, hx⟩ | ⟨a, len, cap, m, n, D, Pl, hcs, hb, hl, hm, hmm, hx, hi⟩
  · simp only [List.cons.injEq, and_true] at hcs
    subst hcs
    exact ⟨[], Sl.nil_ w size, .inl ⟨rfl, by simpa using congrArg Prod.fst hx⟩⟩
  · simp only [List.cons.injEq, and_true] at hcs
    subst hcs
    have hlm : len ≤ m := by rw [hmm]; split <;> omega
    obtain ⟨l, hll, hQ⟩ := list_of (Q := fun i (b : α) => At w (a.add (i * size)) (f b) ∧ Q (D i) b) len fun i hil => by
      obtain ⟨cs', hc, htr⟩ := hi i (by omega)
      rw [hC] at hc
      obtain ⟨_, hcl, hat⟩ := World.cells?_some hc
      obtain ⟨b, rfl, hq⟩ := hopen n cs' _ htr hcl
      refine ⟨b, fun j u hj => ?_, hq⟩
      have hjl : j < size := by rw [← hf b]; exact (List.getElem?_eq_some_iff.1 hj).1
      rw [hat j hjl, hj]
    refine ⟨l, ⟨some a, cap, by rw [hll], flat_length f hf l, by omega, (fun h => by cases h), (fun ad had => ?_)⟩, .inr ⟨_, _, congrArg Prod.fst hx, by simp [hll], fun i b hb => ⟨D i, ?_, (hQ i b hb).2⟩⟩⟩
    · cases had
      exact At.flat hf l _ fun i b hb => (hQ i b hb).1
    · have : i < l.length := (List.getElem?_eq_some_iff.1 hb).1
      simp [List.getElem?_range (show i < len by omega)]
end
end SG
