/- Batches: numbers as bytes. -/
import Derived.Test.YtambcnlkdnmekaaH1
import Derived.Test.YtambcnlkdnmekaaF0
import Derived.Test.YtambcnlkdnmekaaF1
import Derived.Test.YtambcnlkdnmekaaF2
import Derived.Test.YtambcnlkdnmekaaF3
import Derived.Test.YtambcnlkdnmekaaChecked
import Derived.Eval
namespace Go.Proofs.Ytambcnlkdnmekaa
open Go SG Go.RowKit Go.Lib
set_option linter.unusedVariables false
set_option maxRecDepth 4000

theorem hm : Try.prog.follows .mixedOrders = true := Checked.mixed Try.checked
theorem T40 : ElemT Try.prog 40 5 1 1 (.int .u8 0) := ⟨Try.underlying40, by kernel_rfl, rfl, by decide, by decide⟩
theorem T24 : ElemT Try.prog 24 3 1 8 (.int .i64 0) := ⟨Try.underlying24, by kernel_rfl, rfl, by decide, by decide⟩

/-! ### numbers as bytes -/
def varint (n : Nat) : List UInt8 := if n < 128 then [UInt8.ofNat n] else UInt8.ofNat (n % 128 + 128) :: varint (n / 128)
  termination_by n
  decreasing_by omega
theorem varint_small {n : Nat} (h : n < 128) : varint n = [UInt8.ofNat n] := by rw [varint, if_pos h]
theorem varint_big {n : Nat} (h : 128 ≤ n) : varint n = UInt8.ofNat (n % 128 + 128) :: varint (n / 128) := by rw [varint, if_neg (by omega)]
theorem varint_length (k : Nat) : ∀ n, n < 128 ^ (k + 1) → 1 ≤ (varint n).length ∧ (varint n).length ≤ k + 1 := by
  induction k with
  | zero => intro n h; rw [varint_small (by simpa using h)]; simp
  | succ k ih =>
    intro n h
    by_cases hn : n < 128
    · rw [varint_small hn]; simp
    · rw [varint_big (by omega)]
      have := ih (n / 128) (by rw [Nat.div_lt_iff_lt_mul (by omega)]; rw [Nat.pow_succ] at h; exact h)
      simp; omega
theorem varint_len {n : Nat} (h : n < 18446744073709551616) : 1 ≤ (varint n).length ∧ (varint n).length ≤ 10 := varint_length 9 n (by omega)

theorem or128 : ∀ a : Fin 256, bits .or .u8 (a.val : Int) 128 = ((a.val % 128 + 128 : Nat) : Int) := by decide +kernel
theorem or128' (n : Nat) : bits .or .u8 ((n : Int) % 256) 128 = ((n % 128 + 128 : Nat) : Int) := by
  have h := or128 ⟨n % 256, Nat.mod_lt _ (by omega)⟩
  simp only [Nat.mod_mod_of_dvd n (show 128 ∣ 256 by decide)] at h
  rw [← h]
  simp
theorem toNat_ofNat8 {n : Nat} (h : n < 256) : ((UInt8.ofNat n).toNat : Int) = (n : Int) := by simp [Nat.mod_eq_of_lt h]
theorem byteCells_one' {n : Nat} (h : n < 256) : byteCells [UInt8.ofNat n] = [Value.int .u8 (n : Int)] := by simp [byteCells, Nat.mod_eq_of_lt h]
theorem shr7 (n : Nat) : (n : Int).fdiv (2 ^ (7 : Int).toNat) = ((n / 128 : Nat) : Int) := by
  rw [Int.fdiv_eq_ediv_of_nonneg _ (by decide)]
  simp
theorem and127 (n : Nat) (h : n < 18446744073709551616) : bits .and .u64 (n : Int) 127 = ((n % 128 : Nat) : Int) := by
  have e : n &&& 127 = n % 128 := Nat.and_two_pow_sub_one_eq_mod n 7
  have h1 : (BitVec.ofInt 64 (n : Int)).toNat = n := by rw [BitVec.ofInt_natCast, BitVec.toNat_ofNat]; exact Nat.mod_eq_of_lt (by omega)
  have h2 : (BitVec.ofInt 64 127).toNat = 127 := by decide
  show IntKind.u64.wrap ((BitVec.ofInt 64 (n : Int) &&& BitVec.ofInt 64 127).toNat : Int) = _
  rw [BitVec.toNat_and, h1, h2, e, wu64 (by omega) (by omega)]

/-- a byte is appended to a row of the call's own -/
theorem append_byte {w : World} {base n : Nat} {v : Value} {l : List UInt8} {b : UInt8} {K : Value → World → Prop} (ho : w.ownsRow base 5 1 v n (byteCells l)) (hn : n = l.length) (hb : base ≤ w.heap.size) (hl : l.length ≤ 1000000000)
    {x : Value} (hx : x = .int .u8 (b.toNat : Int))
    (hK : ∀ v' w', w'.ownsRow base 5 1 v' (n + 1) (byteCells (l ++ [b])) → Ext (fun g => some g = v.ownBlock) w w' → K v' w') :
    RunS Try.prog (Instr.buildSlice 40 1 [(0, x)].toArray) (fun t w => RunS Try.prog (Builtin.append_ #[40, 40] 40 [v, t].toArray) K w) w := by
  subst hx
  refine build1 T40 rfl fun w1 b1 e1 s1 => ?_
  have ho1 := owns_ext ho e1 fun _ _ hh => hh
  refine append_sl T40 40 ho1 (b1.sl (n := 1) (c := 1) (size := 1) rfl (by omega)) (by simp [Value.cells, Value.oneCell']) (by omega) (by omega) (by omega) fun v' w2 ho2 hg _ => ?_
  refine hK v' w2 (by rw [byteCells_append]; exact ho2) ?_
  exact e1.no.trans (Ext.grown hg fun b hb => hb.symm)

set_option maxHeartbeats 400000 in
theorem c55 (n : Nat) (hn : n < 18446744073709551616) {K : Value → World → Prop} {w : World}
    (hK : ∀ v w', w'.ownsRow w.heap.size 5 1 v (varint n).length (byteCells (varint n)) → Ext No w w' → K v w') : CallS Try.prog 55 #[.int .u64 (n : Int)] K w := by
  refine s55_call hm ?_
  unfold s55
  have hfresh : ∀ {v : Value} {w1 w2 : World} {k : Nat} {xs : List Value}, w1.ownsRow w.heap.size 5 1 v k xs → Ext No w w1 → Ext (fun g => some g = v.ownBlock) w1 w2 → Ext No w w2 := fun ho e1 e2 =>
    e1.fresh e2 fun b hb => .inr ((ho.lt b hb.symm).1)
  refine join2 (fun a b w' => ∃ (m : Nat) (l : List UInt8), a = .int .u64 (m : Int) ∧ m < 128 ∧ w'.ownsRow w.heap.size 5 1 b l.length (byteCells l) ∧ Ext No w w' ∧ l ++ [UInt8.ofNat m] = varint n) ?_ ?_
  · rintro a b w' ⟨m, l, rfl, hm, ho, he, hl⟩
    refine pur conv8u ?_
    have hlen : l.length ≤ 10 := by have := (varint_len hn).2; rw [← hl] at this; simp at this; omega
    refine append_byte (b := UInt8.ofNat m) ho rfl he.size (by omega) (by rw [toNat_ofNat8 (by omega)]; congr 1; omega) fun v' w2 ho2 e2 => ?_
    rw [hl] at ho2
    refine hK v' w2 (by rw [← hl]; simpa using (by rw [← hl] at ho2; exact ho2)) (hfresh ho he e2)
  · intro J hJ
    refine loop2 (σ := Nat × List UInt8) (fun s a b w' => a = .int .u64 (s.1 : Int) ∧ s.1 < 18446744073709551616 ∧ w'.ownsRow w.heap.size 5 1 b s.2.length (byteCells s.2) ∧ Ext No w w' ∧ s.2 ++ varint s.1 = varint n) (fun s => s.1)
      (n, []) ⟨rfl, hn, World.ownsRow_nil w _ _ _, Ext.refl _ w, rfl⟩ ?_
    rintro ⟨m, l⟩ a b w' ⟨rfl, hm, ho, he, hl⟩ L hL
    simp only at hm ho hl hL
    have hlen : l.length ≤ 10 := by have := (varint_len hn).2; rw [← hl] at this; simp at this; omega
    refine pur (bin_geq _ _ _) (condD (fun hge => ?_) (fun hlt => ?_))
    · have hge' : 128 ≤ m := by omega
      refine pur conv8u (pur (bin_or _ _ _) ?_)
      refine append_byte (b := UInt8.ofNat (m % 128 + 128)) ho rfl he.size (by omega) (by rw [or128', toNat_ofNat8 (by omega)]) fun v' w2 ho2 e2 => ?_
      refine pur ((bin_shr (by decide) (by decide)).trans (by rw [shr7])) ?_
      refine hL (m / 128, l ++ [UInt8.ofNat (m % 128 + 128)]) _ _ _ ⟨rfl, by simp only; omega, by simpa using ho2, hfresh ho he e2, ?_⟩ (by simp only; omega)
      rw [← hl, varint_big hge']; simp
    · refine hJ _ _ _ ⟨m, l, rfl, by omega, ho, he, ?_⟩
      rw [← hl, varint_small (by omega)]
end Go.Proofs.Ytambcnlkdnmekaa
