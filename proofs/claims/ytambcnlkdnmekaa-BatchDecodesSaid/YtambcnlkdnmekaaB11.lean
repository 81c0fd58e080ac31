/- Batches: records as they come in. -/
import Derived.Test.YtambcnlkdnmekaaB10
import Derived.Test.YtambcnlkdnmekaaR0
import Derived.Test.YtambcnlkdnmekaaRows
namespace Go.Proofs.Ytambcnlkdnmekaa
open Go SG Go.ChangeShapes Go.WideShapes Go.ChangeAt Go.RowKit Go.Lib
set_option linter.unusedVariables false
set_option maxRecDepth 4000
set_option linter.unusedSimpArgs false

theorem own : ownKnob Try.prog.godebug = none := by kernel_rfl
theorem laidOut : laidOutB Try.prog = true := by kernel_rfl
/-- what a record's datum says -/
def RecD {H : Type} (d : DataW H) (r : Rec) : Prop := d = .agg [.lit (.int .u32 (r.fam : Int)), .lit (.int .i64 r.kind), .lit (.string r.key.data.toList), .lit (.string r.val.data.toList)] ∧ r.fam < 4294967296
section
variable {H : Type} {enc : TypeId × Value → H} {w : World} {base : Nat} {spare : Nat → Bool} {held : Bool}
theorem open_rec (n : Nat) (cs : List Value) (x : DataW H × List MemPlace) (h : DataW.trod enc Try.prog w base spare held n 31 cs = some x) (hl : cs.length = 4) : ∃ r : Rec, cs = r.cells ∧ RecD x.1 r := by
  obtain ⟨ys, n', hx, hyl, hf⟩ := open_struct Try.underlying31 (by kernel_rfl) (by kernel_rfl) hl h
  obtain ⟨v0, y0, c0, z0, t0⟩ := hf 0 _ rfl
  obtain ⟨v1, y1, c1, z1, t1⟩ := hf 1 _ rfl
  obtain ⟨v2, y2, c2, z2, t2⟩ := hf 2 _ rfl
  obtain ⟨v3, y3, c3, z3, t3⟩ := hf 3 _ rfl
  obtain ⟨a, h1, rfl, wa⟩ := DataW.trod_int Try.underlying29 t0
  obtain ⟨b, h2, rfl, wb⟩ := DataW.trod_int Try.underlying3 t1
  obtain ⟨k, h3, rfl, _⟩ := DataW.trod_string Try.underlying9 t2
  obtain ⟨v, h4, rfl, _⟩ := DataW.trod_string Try.underlying9 t3
  simp only [List.cons.injEq, and_true] at h1 h2 h3 h4
  subst h1 h2 h3 h4
  have wa' : (0 : Int) ≤ a ∧ a ≤ 4294967295 := by simpa [Lit.wf, IntKind.min, IntKind.max, IntKind.signed, IntKind.bits] using wa
  match cs, hl, ys, hyl with
  | [d0, d1, d2, d3], _, [e0, e1, e2, e3], _ =>
    simp only [List.getElem?_cons_zero, List.getElem?_cons_succ, Option.some.injEq] at c0 c1 c2 c3 z0 z1 z2 z3
    subst c0 c1 c2 c3 z0 z1 z2 z3
    refine ⟨⟨a.toNat, b, k, v⟩, ?_, ?_, ?_⟩
    · simp only [Rec.cells]; rw [Int.toNat_of_nonneg wa'.1]
    · rw [hx]; simp only [List.map_cons, List.map_nil]; rw [Int.toNat_of_nonneg wa'.1]
    · simp only; omega
/-- records that came in -/
theorem open_recs {v : Value} {d : DataW H} {p : List MemPlace} (h : DataW.Trod enc Try.prog w base spare held 22 v d p) (hone : ∃ a n c, v = .slice a n c) (hw : ∀ n ∈ d.weights Try.prog 22, n ≤ reachBytes) :
    ∃ rs : List Rec, Sl w v rs.length 4 (flat Rec.cells rs) ∧ AllOk rs ∧ rs.length ≤ 2932031007402 := by
  obtain ⟨fuel, h⟩ := h
  obtain ⟨a, n, c, rfl⟩ := hone
  obtain ⟨rs, hs, hc⟩ := open_list Rec.cells_len Try.underlying22 (by kernel_rfl) (Q := RecD) (fun n cs x h hl => open_rec n cs x h hl) h
  rcases hc with ⟨rfl, _⟩ | ⟨elems, sp, rfl, hel, hQ⟩
  · exact ⟨[], hs, (fun r hr => by cases hr), by simp⟩
  · have hrow := hw _ (weights_row Try.underlying22)
    have hb : Try.prog.bytesOf 31 = 48 := by kernel_rfl
    rw [hb] at hrow
    have hr0 : reachBytes = 140737488351232 := rfl
    refine ⟨rs, hs, fun r hr => ?_, by omega⟩
    obtain ⟨i, hi⟩ := List.getElem?_of_mem hr
    obtain ⟨x, hx, hd, hf⟩ := hQ i r hi
    have hmem : x ∈ elems := List.mem_of_getElem? hx
    have hwt : x.weights Try.prog 31 = [r.key.data.toList.length, r.val.data.toList.length] := by
      rw [hd]
      simp [DataW.weights, DataW.weightsEach, Try.underlying31]
    have h1 := hw r.key.data.toList.length (weights_elem Try.underlying22 hmem (by rw [hwt]; simp))
    have h2 := hw r.val.data.toList.length (weights_elem Try.underlying22 hmem (by rw [hwt]; simp))
    rw [size_data] at h1 h2
    exact ⟨hf, by omega, by omega⟩
end

end Go.Proofs.Ytambcnlkdnmekaa
