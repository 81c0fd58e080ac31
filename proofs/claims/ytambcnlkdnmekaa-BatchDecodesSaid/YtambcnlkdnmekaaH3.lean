/- Rules: slices cut, panics. No program stands here. -/
import Derived.Test.YtambcnlkdnmekaaH2
namespace SG
open Go Go.RowKit Go.Lib
set_option linter.unusedSimpArgs false
set_option linter.unusedVariables false

theorem sl_drop {w : World} {x : Value} {n size : Nat} {xs : List Value} (h : Sl w x n size xs) {k : Nat} (hk : k ≤ n) (kd : IntKind) :
    ∃ x', sliceV size x (some (.int kd (k : Int))) none = some x' ∧ Sl w x' (n - k) size (xs.drop (k * size)) ∧ ∀ b, x'.ownBlock = some b → x.ownBlock = some b := by
  obtain ⟨A, c, rfl, hl, hc, h0, hA⟩ := h
  have h1 : (0 : Int) ≤ (k : Int) ∧ (k : Int) ≤ (n : Int) := by omega
  refine ⟨.slice (if c = k then A else A.map (·.add (k * size))) (n - k) (c - k), by simp only [sliceV, boundV, Option.bind_some]; rw [if_pos h1]; simp, ?_, ?_⟩
  · refine ⟨_, c - k, rfl, ?_, by omega, fun hn => ?_, fun ad had => ?_⟩
    · rw [List.length_drop, hl, Nat.sub_mul]
    · split at hn
      · have := h0 hn; omega
      · cases A with
        | none => have := h0 rfl; omega
        | some a => simp at hn
    · split at had
      · have hd : xs.drop (k * size) = [] := List.drop_eq_nil_of_le (by rw [hl]; exact Nat.mul_le_mul_right _ (by omega))
        rw [hd]
        exact fun i v hv => by simp at hv
      · cases A with
        | none => simp at had
        | some a =>
          simp only [Option.map_some, Option.some.injEq] at had
          subst had
          exact (hA a rfl).drop _
  · intro b hb
    split at hb
    · cases A <;> exact hb
    · cases A with
      | none => simp [Value.ownBlock] at hb
      | some a => simpa [Value.ownBlock, Addr.add_block] using hb
theorem sl_take {w : World} {x : Value} {n size : Nat} {xs : List Value} (h : Sl w x n size xs) {k : Nat} (hk : k ≤ n) (kd : IntKind) :
    ∃ x', sliceV size x none (some (.int kd (k : Int))) = some x' ∧ Sl w x' k size (xs.take (k * size)) ∧ ∀ b, x'.ownBlock = some b → x.ownBlock = some b := by
  obtain ⟨A, c, rfl, hl, hc, h0, hA⟩ := h
  have h1 : (0 : Int) ≤ (k : Int) ∧ (k : Int) ≤ (c : Int) := by omega
  refine ⟨.slice (if c = 0 then A else A.map (·.add (0 * size))) (k - 0) (c - 0), by simp only [sliceV, boundV]; rw [if_pos h1]; simp [boundV], ?_, ?_⟩
  · refine ⟨(if c = 0 then A else A.map (·.add (0 * size))), c, rfl, ?_, by omega, fun hn => ?_, fun ad had => ?_⟩
    · rw [List.length_take, hl]
      exact Nat.min_eq_left (Nat.mul_le_mul_right _ hk)
    · split at hn
      · have := h0 hn; omega
      · cases A with
        | none => have := h0 rfl; omega
        | some a => simp at hn
    · have hat : ∀ a, A = some a → At w a (xs.take (k * size)) := fun a ha => (hA a ha).take _
      split at had
      · exact hat ad had
      · cases A with
        | none => simp at had
        | some a =>
          simp only [Option.map_some, Option.some.injEq, Nat.zero_mul, Addr.add_zero'] at had
          subst had
          exact hat a rfl
  · intro b hb
    split at hb
    · cases A <;> exact hb
    · cases A with
      | none => simp [Value.ownBlock] at hb
      | some a => simpa [Value.ownBlock, Addr.add_block] using hb
theorem callP_of {P : Program} {f : FuncId} {args : Array Value} {K : Value → World → Prop} {Kp : List PanicEntry → World → Prop} {w : World} (h : CallS P f args K w) : CallP P f args K Kp w :=
  Calls.mono h fun e w' he => by cases e <;> first | exact he | exact he.elim
def panE (t : TypeId) (v : Value) : List PanicEntry := [{ v := .iface t v, recovered := false }]
theorem panicI {P : Program} {t : TypeId} {v : Value} {Kp : List PanicEntry → World → Prop} {w : World} (h : Kp (panE t v) w) : PanicS P (.iface t v) Kp w := by
  unfold PanicS
  have : (Instr.panic (.iface t v)).run P w = .halt (.panic (.iface t v)) w := rfl
  rw [this]; exact h
end SG
