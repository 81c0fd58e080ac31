/- Batches: a number as it comes in. -/
import Derived.Test.YtambcnlkdnmekaaB19
import Derived.Test.YtambcnlkdnmekaaB11
namespace Go.Proofs.Ytambcnlkdnmekaa
open Go SG Go.ChangeShapes Go.WideShapes Go.ChangeAt Go.RowKit Go.Lib
set_option linter.unusedVariables false
set_option maxRecDepth 100000

section
variable {H : Type} {enc : TypeId × Value → H} {w : World} {base : Nat} {spare : Nat → Bool} {held : Bool}
theorem open_u64 {v : Value} {d : DataW H} {p : List MemPlace} {b0 : Nat} (h : DataW.Trod enc Try.prog w base spare held 39 v d p) (hv : Value.okWide Try.prog w .any b0 39 v) : ∃ n : Nat, v = .int .u64 (n : Int) ∧ n < 18446744073709551616 := by
  obtain ⟨a, rfl, _, _, wa⟩ := open_int Try.underlying39 hv h
  have wa' : (0 : Int) ≤ a ∧ a ≤ 18446744073709551615 := by
    have h1 : IntKind.u64.min = 0 := by decide
    have h2 : IntKind.u64.max = 18446744073709551615 := by decide
    simp only [Lit.wf, Bool.and_eq_true, decide_eq_true_eq, h1, h2] at wa
    exact wa
  exact ⟨a.toNat, by rw [Int.toNat_of_nonneg wa'.1], by omega⟩
theorem flat_bytes : ∀ (l : List UInt8), flat (fun b : UInt8 => [Value.int .u8 (b.toNat : Int)]) l = byteCells l
  | [] => rfl
  | b :: l => by
    have := flat_bytes l
    unfold flat byteCells at this ⊢
    rw [List.flatMap_cons, List.map_cons, this]
    rfl
/-- bytes that came in -/
theorem open_bytes {v : Value} {d : DataW H} {p : List MemPlace} (h : DataW.Trod enc Try.prog w base spare held 40 v d p) (hone : ∃ a n c, v = .slice a n c) (hw : ∀ n ∈ d.weights Try.prog 40, n ≤ reachBytes) :
    ∃ l : List UInt8, Sl w v l.length 1 (byteCells l) ∧ True ∧ l.length ≤ 140737488351232 := by
  obtain ⟨fuel, h⟩ := h
  obtain ⟨a, n, c, rfl⟩ := hone
  obtain ⟨l, hs, hc⟩ := open_list (f := fun b : UInt8 => [Value.int .u8 (b.toNat : Int)]) (fun _ => rfl) Try.underlying40 (by kernel_rfl) (Q := fun _ _ => True) (fun n cs x h hl => by
    obtain ⟨b, rfl, _, wb⟩ := DataW.trod_int Try.underlying5 h
    have wb' : (0 : Int) ≤ b ∧ b ≤ 255 := by simpa [Lit.wf, IntKind.min, IntKind.max, IntKind.signed, IntKind.bits] using wb
    refine ⟨UInt8.ofNat b.toNat, ?_, trivial⟩
    rw [ofNat_toNat8 (by omega), Int.toNat_of_nonneg wb'.1]) h
  rw [flat_bytes] at hs
  rcases hc with ⟨rfl, _⟩ | ⟨elems, sp, rfl, hel, _⟩
  · exact ⟨[], hs, trivial, by simp⟩
  · have hrow := hw _ (weights_row Try.underlying40)
    have hb : Try.prog.bytesOf 5 = 1 := by kernel_rfl
    rw [hb] at hrow
    have hr0 : reachBytes = 140737488351232 := rfl
    exact ⟨l, hs, trivial, by omega⟩
end
end Go.Proofs.Ytambcnlkdnmekaa
