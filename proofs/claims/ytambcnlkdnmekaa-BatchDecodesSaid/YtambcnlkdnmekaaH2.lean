/- Rules: made rows, comparisons with nil, bytes as a string. No program stands here. -/
import Derived.Test.YtambcnlkdnmekaaH1
import Derived.Laws.OwnMore
import Derived.Laws.BytesString
import Derived.Laws.IdiomStrings
import Derived.LaidEqlPtr
namespace SG
open Go Go.RowKit Go.Lib
set_option linter.unusedSimpArgs false
set_option linter.unusedVariables false

section
variable {P : Program}
theorem makeB {t e : TypeId} {size bytes : Nat} {z : Value} (hT : ElemT P t e size bytes z) {kl kc : IntKind} {n : Nat} (hb : bytes * n ≤ 281474976710656) (hn : n ≤ 281474976710656) {w : World} {K : Value → World → Prop}
    (hK : ∀ w', Blk w' w.heap.size e (madeCells z.cells (n * size)).toList → Ext No w w' → w'.heap.size = w.heap.size + 1 → K (.slice (some ⟨w.heap.size, 0, none⟩) n n) w') :
    RunS P (Instr.makeSlice t (.int kl (n : Int)) (.int kc (n : Int))) K w := by
  obtain ⟨i, hi, hz, hsz, hby⟩ := info_parts hT.info
  have hb' : (i.bytes : Int) * (n : Int) ≤ 281474976710656 := by
    rw [hby]
    have h : ((bytes * n : Nat) : Int) ≤ 281474976710656 := by omega
    rwa [Int.natCast_mul] at h
  have hr := run_make (P := P) w t e i z hT.under hi hz kl kc n n (by omega) (Int.le_refl _) hb' (by omega)
  simp only [Int.toNat_natCast, hsz] at hr
  refine runS hr (hK _ ?_ (Ext.alloc w _) (by simp))
  have := Blk.new w (madeCells z.cells (n * size)).toList e
  simpa using this
theorem madeCells_one (z : Value) (n : Nat) : (madeCells #[z] n).toList = List.replicate n z := toList_madeCells_one z n

theorem eq_nil_slice {t e : TypeId} (h : P.underlying t = some (.slice e)) {x y : Operand} {a : Option Addr} {n c : Nat} {w : World} {K : Value → World → Prop} (hK : K (.bool a.isNone) w) :
    RunS P (do eqGuard .eql t x y (.slice a n c) (.slice none 0 0); binOp .eql t (.slice a n c) (.slice none 0 0)) K w := by
  refine runS (v := .bool a.isNone) (w' := w) ?_ hK
  rw [eqGuard_at_slice]
  have hin : ∀ d, (Op.equalIn (d + 1) t (.slice a n c) (.slice none 0 0)).run P w = .ok a.isNone w := fun d => by
    cases a <;> simp [Op.equalIn, run_underlying h]
  have : (Op.equal t (.slice a n c) (.slice none 0 0)).run P w = .ok a.isNone w := hin 9999
  simp [binOp, this]
theorem ne_nil_slice {t e : TypeId} (h : P.underlying t = some (.slice e)) {x y : Operand} {a : Option Addr} {n c : Nat} {w : World} {K : Value → World → Prop} (hK : K (.bool (!a.isNone)) w) :
    RunS P (do eqGuard .neq t x y (.slice a n c) (.slice none 0 0); binOp .neq t (.slice a n c) (.slice none 0 0)) K w := by
  refine runS (v := .bool (!a.isNone)) (w' := w) ?_ hK
  rw [eqGuard_at_slice]
  have hin : ∀ d, (Op.equalIn (d + 1) t (.slice a n c) (.slice none 0 0)).run P w = .ok a.isNone w := fun d => by
    cases a <;> simp [Op.equalIn, run_underlying h]
  have : (Op.equal t (.slice a n c) (.slice none 0 0)).run P w = .ok a.isNone w := hin 9999
  simp [binOp, this]
theorem run_ptr_nil {t e : TypeId} (h : P.underlying t = some (.pointer e)) (a : Option Addr) (w : World) : (Op.equal t (.pointer a) (.pointer none)).run P w = .ok a.isNone w := by
  have hin : ∀ d, (Op.equalIn (d + 1) t (.pointer a) (.pointer none)).run P w = .ok a.isNone w := fun d => by
    cases a <;> simp [Op.equalIn, run_underlying h]
  exact hin 9999
theorem eq_nil_ptr {t e : TypeId} (h : P.underlying t = some (.pointer e)) {x y : Operand} {a : Option Addr} {w : World} {K : Value → World → Prop} (hK : K (.bool a.isNone) w) :
    RunS P (do eqGuard .eql t x y (.pointer a) (.pointer none); binOp .eql t (.pointer a) (.pointer none)) K w := by
  refine runS (v := .bool a.isNone) (w' := w) ?_ hK
  rw [eqGuard_at_pointer]
  simp [binOp, run_ptr_nil h]
theorem ne_nil_ptr {t e : TypeId} (h : P.underlying t = some (.pointer e)) {x y : Operand} {a : Option Addr} {w : World} {K : Value → World → Prop} (hK : K (.bool (!a.isNone)) w) :
    RunS P (do eqGuard .neq t x y (.pointer a) (.pointer none); binOp .neq t (.pointer a) (.pointer none)) K w := by
  refine runS (v := .bool (!a.isNone)) (w' := w) ?_ hK
  rw [eqGuard_at_pointer]
  simp [binOp, run_ptr_nil h]

theorem bytes_str {src dst e : TypeId} (hs : P.underlying src = some (.slice e)) (hd : P.underlying dst = some .string) (he : P.underlying e = some (.int .u8)) {w : World} {x : Value} {l : List UInt8}
    (hx : Sl w x l.length 1 (byteCells l)) : (convert src dst x).run P w = .ok (.string ⟨l.toArray⟩) w := by
  obtain ⟨A, c, rfl, hl, hc, h0, hA⟩ := hx
  have hcv : (convert src dst (.slice A l.length c)).run P w = (Conv.bytesToString (.slice A l.length c)).run P w := by
    simp [convert, run_underlying hs, run_underlying hd, run_underlying he]
  rw [hcv]
  cases A with
  | none =>
    have : l = [] := List.eq_nil_of_length_eq_zero (h0 rfl)
    subst this
    simp [Conv.bytesToString]
    rfl
  | some ad =>
    rw [← hcv]
    exact run_convert_bytes_back w src dst e ad c l hs he hd fun j hj => hA ad rfl j _ (by simp [byteCells, List.getElem?_eq_getElem hj])
end
end SG
