/- Batches: Encode; Same; what lives. -/
import Derived.Test.YtambcnlkdnmekaaB4
namespace Go.Proofs.Ytambcnlkdnmekaa
open Go SG Go.RowKit Go.Lib
set_option linter.unusedVariables false
set_option maxRecDepth 4000
set_option linter.unusedSimpArgs false

def fixedL (n size : Nat) : List UInt8 := (List.range size).map fun i => UInt8.ofNat (n / 256 ^ i)
theorem fixedL_len (n size : Nat) : (fixedL n size).length = size := by simp [fixedL]
theorem shr8 (n i : Nat) (hi : i ≤ 8) : (n : Int).fdiv (2 ^ ((8 * (i : Int))).toNat) = ((n / 256 ^ i : Nat) : Int) := by
  rw [Int.fdiv_eq_ediv_of_nonneg _ (by exact_mod_cast Nat.zero_le _)]
  have : (8 * (i : Int)).toNat = 8 * i := by omega
  rw [this, show (2 : Int) ^ (8 * i) = ((256 ^ i : Nat) : Int) by rw [Int.pow_mul]; norm_cast]
  norm_cast

theorem c57 (n size : Nat) (hs : size ≤ 8) {K : Value → World → Prop} {w : World}
    (hK : ∀ v w', w'.ownsRow w.heap.size 5 1 v size (byteCells (fixedL n size)) → Ext No w w' → K v w') : CallS Try.prog 57 #[.int .u64 (n : Int), .int .i64 (size : Int)] K w := by
  refine s57_call hm ?_
  unfold s57
  refine makeB T40 (by omega) (by omega) fun w1 b1 e1 z1 => ?_
  have b : Blk w1 w.heap.size 5 (List.replicate size (.int .u8 0)) := by
    have := madeCells_one (.int .u8 0) size
    simp only [Nat.mul_one] at b1
    rw [show (Value.int .u8 0).cells = #[.int .u8 0] from rfl, this] at b1
    exact b1
  have hsl : ∀ {w'}, Blk w' w.heap.size 5 (byteCells (fixedL n size)) → w'.ownsRow w.heap.size 5 1 (.slice (some ⟨w.heap.size, 0, none⟩) size size) size (byteCells (fixedL n size)) := fun hb =>
    hb.owns (by simp [byteCells_length, fixedL_len]) (Nat.le_refl _) (by omega)
  refine join0 (fun w' => Blk w' w.heap.size 5 (byteCells (fixedL n size)) ∧ Ext No w w') (fun w' ⟨hb, he⟩ => hK _ w' (hsl hb) he) fun J hJ => ?_
  refine pur (len_sl _ _ _) ?_
  refine loop1 (σ := Nat) (fun i a w' => a = .int .i64 (i : Int) ∧ i ≤ size ∧ Blk w' w.heap.size 5 (byteCells ((fixedL n size).take i) ++ List.replicate (size - i) (.int .u8 0)) ∧ Ext No w w') (fun i => size - i) 0
    ⟨rfl, by omega, by simpa [byteCells] using b, e1⟩ ?_
  rintro i a w2 ⟨rfl, hi, b2, e2⟩ L hL
  refine pur (bin_lss _ _ _) (condD (fun hlt => ?_) (fun hge => ?_))
  · have hlt' : i < size := by omega
    refine pur ((bin_mul _ _ _).trans (by rw [wi64 (by omega) (by omega)])) (pur ((bin_shr (by omega) (by simp only [IntKind.bits]; omega)).trans (by rw [shr8 n i (by omega)])) (pur conv8u (pur (index_sl ⟨by omega, by omega⟩) ?_)))
    rw [Addr.add_mk]
    have hl : (byteCells ((fixedL n size).take i)).length = i := by rw [byteCells_length, List.length_take, fixedL_len]; omega
    refine storeB b2 (by simp [hl]; omega) rfl fun w3 b3 e3 _ => ?_
    refine pur (add64 (c := ((i + 1 : Nat) : Int)) (by omega) (by omega) (by omega)) ?_
    refine hL (i + 1) _ _ ⟨rfl, by omega, ?_, e2.fresh e3 fun b hb => .inr (by rw [show b = w.heap.size from hb]; exact Nat.le_refl _)⟩ (by omega)
    have hget : (fixedL n size)[i]? = some (UInt8.ofNat (n / 256 ^ i)) := by simp [fixedL, hlt']
    rw [List.take_add_one, hget, byteCells_append]
    have hr : List.replicate (size - i) (Value.int .u8 0) = .int .u8 0 :: List.replicate (size - (i + 1)) (.int .u8 0) := by
      rw [← List.replicate_succ]; congr 1; omega
    have hv : Value.int .u8 (((n / 256 ^ i : Nat) : Int) % 256) = .int .u8 ((UInt8.ofNat (n / 256 ^ i)).toNat : Int) := by simp
    rw [hr, hv] at b3
    have : (0 + (i : Int).toNat * 1) = i := by omega
    rw [this, List.set_append_right _ _ (by omega), hl, Nat.sub_self] at b3
    simpa [byteCells] using b3
  · have : (fixedL n size).take i = fixedL n size := List.take_of_length_le (by rw [fixedL_len]; omega)
    rw [this, show size - i = 0 by omega] at b2
    exact hJ _ ⟨by simpa using b2, e2⟩

theorem ifB_undef (want : Bool) (X Y : Prop) : IfB undef want X Y = Y := by unfold IfB isB undef; simp
def fitsB (seq n : Nat) : Bool := decide (seq ≤ 72057594037927935) && (decide (n = 0) || decide (n - 1 ≤ 72057594037927935 - seq))
theorem c32 (seq n : Nat) (hs : seq < 18446744073709551616) (hn : n ≤ 140737488355328) {K : Value → World → Prop} {w : World} (hK : K (.bool (fitsB seq n)) w) : CallS Try.prog 32 #[.int .u64 (seq : Int), .int .i64 (n : Int)] K w := by
  refine s32_call hm ?_
  unfold s32
  refine pur (bin_leq _ _ _) ?_
  by_cases h1 : seq ≤ 72057594037927935
  · have h1' : (seq : Int) ≤ 72057594037927935 := by omega
    refine join1 (fun a w' => w = w' ∧ a = .bool (decide (n = 0))) ?_ fun J hJ => ?_
    · rintro a w' ⟨rfl, rfl⟩
      refine join1 (fun a w' => w = w' ∧ (n = 0 ∨ a = .bool (decide (n - 1 ≤ 72057594037927935 - seq)))) ?_ fun J hJ => ?_
      · rintro a w' ⟨rfl, ha⟩
        refine join1 (fun a w' => w = w' ∧ a = .bool (fitsB seq n)) ?_ fun J hJ => ?_
        · rintro a w' ⟨rfl, rfl⟩
          refine pur (pick_b _ _ _) ?_
          rw [if_pos (by simpa using h1')]; exact hK
        · rw [ifB_eq, if_pos (by simpa using h1')]
          refine pur (pick_b _ _ _) (hJ _ _ ⟨rfl, ?_⟩)
          by_cases h0 : n = 0
          · simp [h0, fitsB, h1]
          · obtain rfl := ha.resolve_left h0
            simp [h0, fitsB, h1]
      · rw [ifB_eq]
        by_cases h0 : n = 0
        · rw [if_neg (by simp [h0])]
          exact hJ _ _ ⟨rfl, .inl h0⟩
        · rw [if_pos (by simp [h0])]
          refine pur (sub64 (c := ((n - 1 : Nat) : Int)) (by omega) (by omega) (by omega)) (pur (conv64u (by omega) (by omega)) (pur ((bin_sub _ _ _).trans (by rw [wu64 (by omega) (by omega)])) (pur (bin_leq _ _ _) (hJ _ _ ⟨rfl, .inr ?_⟩))))
          congr 1
          rw [Bool.eq_iff_iff]; simp; omega
    · rw [ifB_eq, if_pos (by simpa using h1')]
      refine pur (bin_eql _ _ _) (hJ _ _ ⟨rfl, ?_⟩)
      congr 1
      rw [Bool.eq_iff_iff]; simp
  · have h1' : ¬ (seq : Int) ≤ 72057594037927935 := by omega
    refine join1 (fun a w' => w = w' ∧ a = undef) ?_ fun J hJ => ?_
    · rintro a w' ⟨rfl, rfl⟩
      refine join1 (fun a w' => w = w') ?_ fun J hJ => ?_
      · rintro a w' rfl
        refine join1 (fun a w' => w = w') ?_ fun J hJ => ?_
        · rintro a w' rfl
          refine pur (pick_b _ _ _) ?_
          rw [if_neg (by simpa using h1')]
          have : fitsB seq n = false := by simp [fitsB, h1]
          rw [this] at hK; exact hK
        · rw [ifB_eq, if_neg (by simpa using h1')]
          exact hJ _ _ rfl
      · rw [ifB_undef]
        exact hJ _ _ rfl
    · rw [ifB_eq, if_neg (by simpa using h1')]
      exact hJ _ _ ⟨rfl, rfl⟩
end Go.Proofs.Ytambcnlkdnmekaa
