/- Batches: numbers read back. -/
import Derived.Test.YtambcnlkdnmekaaB12
namespace Go.Proofs.Ytambcnlkdnmekaa
open Go SG Go.RowKit Go.Lib
set_option linter.unusedVariables false
set_option maxRecDepth 4000
set_option linter.unusedSimpArgs false

theorem byteCells_at (l : List UInt8) (i : Nat) : (byteCells l)[i]? = (l[i]?).map fun b => .int .u8 (b.toNat : Int) := by simp [byteCells]
/-- one byte of a slice -/
theorem byte_at {w : World} {x : Value} {l : List UInt8} (hs : Sl w x l.length 1 (byteCells l)) {i : Nat} {c : UInt8} (hc : l[i]? = some c) : ∃ ad, indexAddrV 1 x (.int .i64 (i : Int)) = some (.pointer (some ad)) ∧ w.cell? ad = some (.int .u8 (c.toNat : Int)) := by
  have hi : i < l.length := (List.getElem?_eq_some_iff.1 hc).1
  obtain ⟨ad, h1, h2, _⟩ := hs.at_ hi
  refine ⟨ad, h1, ?_⟩
  have := h2 0 (.int .u8 (c.toNat : Int)) (by
    rw [List.getElem?_take, if_pos (by omega), List.getElem?_drop]
    simp [byteCells_at, hc])
  simpa [Addr.add] using this
theorem and8 : ∀ a : Fin 256, bits .and .u8 (a.val : Int) 127 = ((a.val % 128 : Nat) : Int) := by decide +kernel
theorem and8' (c : UInt8) : bits .and .u8 (c.toNat : Int) 127 = ((c.toNat % 128 : Nat) : Int) := and8 ⟨c.toNat, c.toNat_lt⟩
theorem or64 {a b : Nat} (ha : a < 18446744073709551616) (hb : b < 18446744073709551616) : bits .or .u64 (a : Int) (b : Int) = ((a ||| b : Nat) : Int) := by
  have h1 : (BitVec.ofInt 64 (a : Int)).toNat = a := by rw [BitVec.ofInt_natCast, BitVec.toNat_ofNat]; exact Nat.mod_eq_of_lt (by omega)
  have h2 : (BitVec.ofInt 64 (b : Int)).toNat = b := by rw [BitVec.ofInt_natCast, BitVec.toNat_ofNat]; exact Nat.mod_eq_of_lt (by omega)
  have hlt : a ||| b < 2 ^ 64 := Nat.or_lt_two_pow (by omega) (by omega)
  show IntKind.u64.wrap ((BitVec.ofInt 64 (a : Int) ||| BitVec.ofInt 64 (b : Int)).toNat : Int) = _
  rw [BitVec.toNat_or, h1, h2, wu64 (by omega) (by omega)]
theorem or_add {n y s : Nat} (h : n < 2 ^ s) : n ||| (y * 2 ^ s) = n + y * 2 ^ s := by
  have := Nat.shiftLeft_add_eq_or_of_lt h y
  rw [Nat.shiftLeft_eq] at this
  rw [Nat.or_comm, ← this, Nat.add_comm]
theorem p128 (i : Nat) : (2 : Nat) ^ (7 * i) = 128 ^ i := by rw [Nat.pow_mul]
/-- a digit is put on -/
theorem digit {n c i : Nat} (hi : i ≤ 9) (hn : n < 128 ^ i) (hc : c < 256) (h9 : i = 9 → c ≤ 1) :
    IntKind.u64.wrap (((c % 128 : Nat) : Int) * 2 ^ ((7 * (i : Int)).toNat)) = ((c % 128 * 128 ^ i : Nat) : Int) ∧ bits .or .u64 (n : Int) ((c % 128 * 128 ^ i : Nat) : Int) = ((n + c % 128 * 128 ^ i : Nat) : Int) ∧ n + c % 128 * 128 ^ i < 18446744073709551616 ∧
      n + c % 128 * 128 ^ i < 128 ^ (i + 1) := by
  have hp : (128 : Nat) ^ (i + 1) = 128 ^ i * 128 := Nat.pow_succ ..
  have hm : c % 128 < 128 := Nat.mod_lt _ (by decide)
  have hx : c % 128 * 128 ^ i ≤ 127 * 128 ^ i := Nat.mul_le_mul_right _ (by omega)
  have hsum : n + c % 128 * 128 ^ i < 128 ^ (i + 1) := by rw [hp]; omega
  have hlt : n + c % 128 * 128 ^ i < 18446744073709551616 := by
    by_cases h : i = 9
    · have hc1 := h9 h
      subst h
      rw [p9] at *
      have : c % 128 ≤ 1 := by omega
      have : c % 128 * 9223372036854775808 ≤ 1 * 9223372036854775808 := Nat.mul_le_mul_right _ this
      omega
    · have h1 : (128 : Nat) ^ (i + 1) ≤ 128 ^ 9 := Nat.pow_le_pow_right (by decide) (by omega)
      rw [p9] at h1
      omega
  have ht : (7 * (i : Int)).toNat = 7 * i := by omega
  refine ⟨?_, ?_, hlt, hsum⟩
  · rw [ht]
    have e : (((c % 128 : Nat) : Int) * 2 ^ (7 * i)) = ((c % 128 * 128 ^ i : Nat) : Int) := by
      rw [← p128, Int.natCast_mul, Int.natCast_pow]; rfl
    rw [e, wu64 (by omega) (by omega)]
  · rw [or64 (by omega) (by omega)]
    have := or_add (n := n) (y := c % 128) (s := 7 * i) (by rw [p128]; exact hn)
    rw [p128] at this
    rw [this]
def tupV (r : Int × Nat × Nat) : Value := .tuple [.int .u64 (r.2.1 : Int), .int .i64 (r.2.2 : Int), .int .i64 r.1].toArray

set_option maxHeartbeats 400000 in
theorem c69 {w : World} {x : Value} {l : List UInt8} (hs : Sl w x l.length 1 (byteCells l)) (hl : l.length ≤ 140737488355328) {K : Value → World → Prop} (hK : K (tupV (rv l)) w) : CallS Try.prog 69 #[x] K w := by
  refine s69_call hm ?_
  unfold s69
  refine join0 (fun w' => w = w' ∧ rv l = (4, 0, 0)) ?_ fun J0 hJ0 => ?_
  · rintro w' ⟨rfl, h⟩
    rw [h] at hK; exact hK
  refine pur hs.len ?_
  refine loop2 (σ := Nat × Nat) (fun s a b w' => w = w' ∧ a = .int .u64 (s.2 : Int) ∧ b = .int .i64 (s.1 : Int) ∧ s.1 ≤ 9 ∧ s.1 ≤ l.length ∧ s.2 < 128 ^ s.1 ∧ rvGo (l.drop s.1) s.1 s.2 = rv l) (fun s => l.length - s.1)
    (0, 0) ⟨rfl, rfl, rfl, by simp, by simp, by simp, by simp [rv]⟩ ?_
  rintro ⟨i, n⟩ _ _ w' ⟨rfl, rfl, rfl, hi9, hi, hn, hgo⟩ L hL
  simp only at hi9 hi hn hgo hL
  refine pur (bin_lss _ _ _) (condD (fun hlt => ?_) (fun hge => ?_))
  · have hlt' : i < l.length := by omega
    obtain ⟨c, hc⟩ : ∃ c, l[i]? = some c := ⟨l[i], List.getElem?_eq_getElem hlt'⟩
    have hcl := c.toNat_lt
    have hdrop : l.drop i = c :: l.drop (i + 1) := by
      rw [List.drop_eq_getElem_cons hlt']
      congr 1
      rw [List.getElem?_eq_getElem hlt'] at hc
      exact Option.some.inj hc
    rw [hdrop] at hgo
    unfold rvGo at hgo
    obtain ⟨ad, h1, h2⟩ := byte_at hs hc
    refine pur h1 (SG.load (S := No) h2 ?_)
    refine join1 (fun a w' => w = w' ∧ a = .bool (decide ((i = 9 ∧ 1 < c.toNat) ∨ (0 < i ∧ c.toNat = 0)))) ?_ fun J2 hJ2 => ?_
    · rintro a w' ⟨rfl, rfl⟩
      refine condD (fun hb => ?_) (fun hb => ?_)
      · rw [if_pos hb] at hgo
        rw [← hgo] at hK; exact hK
      · rw [if_neg hb] at hgo
        obtain ⟨d1, d2, d3, d4⟩ := digit hi9 hn hcl (fun h => by omega)
        refine pur ((bin_and _ _ _).trans (by rw [and8'])) (pur (conv64u (by omega) (by omega)) (pur ((bin_mul _ _ _).trans (by rw [wi64 (by omega) (by omega)])) ?_))
        refine pur ((bin_shl (by omega) (by simp only [IntKind.bits]; omega)).trans (by rw [d1])) (pur ((bin_or _ _ _).trans (by rw [d2])) ?_)
        refine pur (bin_lss _ _ _) (condD (fun h128 => ?_) (fun h128 => ?_))
        · rw [if_pos (by omega)] at hgo
          refine pur (add64 (c := ((i + 1 : Nat) : Int)) (by omega) (by omega) (by omega)) ?_
          rw [← hgo] at hK; exact hK
        · rw [if_neg (by omega)] at hgo
          refine pur (add64 (c := ((i + 1 : Nat) : Int)) (by omega) (by omega) (by omega)) ?_
          exact hL (i + 1, n + c.toNat % 128 * 128 ^ i) _ _ _ ⟨rfl, rfl, rfl, by simp only; omega, by simp only; omega, d4, hgo⟩ (by simp only; omega)
    · refine pur (bin_eql _ _ _) ?_
      refine join1 (fun a w' => w = w' ∧ (i = 9 → a = .bool (decide (1 < c.toNat)))) ?_ fun J3 hJ3 => ?_
      · rintro a w' ⟨rfl, ha⟩
        by_cases h9 : i = 9
        · obtain rfl := ha h9
          refine pur (v := .bool (decide (1 < c.toNat))) ((pick_b _ _ _).trans (by rw [if_pos (by simp; omega)])) (condD (fun hb => ?_) (fun hb => ?_))
          · refine hJ2 _ _ ⟨rfl, ?_⟩
            simp [h9, hb]
          · refine pur (bin_gtr _ _ _) ?_
            refine join1 (fun a w' => w = w' ∧ a = .bool (decide (c.toNat = 0))) ?_ fun J4 hJ4 => ?_
            · rintro a w' ⟨rfl, rfl⟩
              refine pur (v := .bool (decide (c.toNat = 0))) ((pick_b _ _ _).trans (by rw [if_pos (by simp; omega)])) (hJ2 _ _ ⟨rfl, ?_⟩)
              congr 1; rw [Bool.eq_iff_iff]; simp only [decide_eq_true_eq]; omega
            · rw [ifB_eq, if_pos (by simp; omega)]
              refine pur (bin_eql _ _ _) (hJ4 _ _ ⟨rfl, ?_⟩)
              congr 1; rw [Bool.eq_iff_iff]; simp only [decide_eq_true_eq]; omega
        · refine pur (v := .bool false) ((pick_b _ _ _).trans (by rw [if_neg (by simp; omega)])) (condF rfl ?_)
          refine pur (bin_gtr _ _ _) ?_
          refine join1 (fun a w' => w = w' ∧ (0 < i → a = .bool (decide (c.toNat = 0)))) ?_ fun J4 hJ4 => ?_
          · rintro a w' ⟨rfl, ha⟩
            by_cases h0 : 0 < i
            · obtain rfl := ha h0
              refine pur (v := .bool (decide (c.toNat = 0))) ((pick_b _ _ _).trans (by rw [if_pos (by simp; omega)])) (hJ2 _ _ ⟨rfl, ?_⟩)
              congr 1; rw [Bool.eq_iff_iff]; simp only [decide_eq_true_eq]; omega
            · refine pur (v := .bool false) ((pick_b _ _ _).trans (by rw [if_neg (by simp; omega)])) (hJ2 _ _ ⟨rfl, ?_⟩)
              congr 1; rw [Bool.eq_iff_iff]; simp only [decide_eq_true_eq]
              constructor
              · intro h; cases h
              · omega
          · rw [ifB_eq]
            by_cases h0 : 0 < i
            · rw [if_pos (by simp; omega)]
              refine pur (bin_eql _ _ _) (hJ4 _ _ ⟨rfl, fun _ => ?_⟩)
              congr 1; rw [Bool.eq_iff_iff]; simp only [decide_eq_true_eq]; omega
            · rw [if_neg (by simp; omega)]
              exact hJ4 _ _ ⟨rfl, fun h => absurd h h0⟩
      · rw [ifB_eq]
        by_cases h9 : i = 9
        · rw [if_pos (by simp; omega)]
          refine pur (bin_gtr _ _ _) (hJ3 _ _ ⟨rfl, fun _ => ?_⟩)
          congr 1; rw [Bool.eq_iff_iff]; simp only [decide_eq_true_eq]; omega
        · rw [if_neg (by simp; omega)]
          exact hJ3 _ _ ⟨rfl, fun h => absurd h h9⟩
  · have hnil : l.drop i = [] := List.drop_eq_nil_of_le (by omega)
    rw [hnil] at hgo
    refine hJ0 _ ⟨rfl, ?_⟩
    rw [← hgo]; rfl

set_option maxHeartbeats 400000 in
theorem c70 {w : World} {x : Value} {l : List UInt8} (hs : Sl w x l.length 1 (byteCells l)) (hl : l.length ≤ 140737488355328) {K : Value → World → Prop} (hK : K (tupV (rv l)) w) : CallS Try.prog 70 #[x] K w := by
  refine s70_call hm ?_
  unfold s70
  refine join0 (fun w' => w = w' ∧ rv l = (4, 0, 0)) ?_ fun J0 hJ0 => ?_
  · rintro w' ⟨rfl, h⟩
    rw [h] at hK; exact hK
  refine loop2 (σ := Nat × Nat) (fun s a b w' => w = w' ∧ a = .int .u64 (s.2 : Int) ∧ b = .int .i64 (s.1 : Int) ∧ s.1 ≤ 9 ∧ s.1 ≤ l.length ∧ s.2 < 128 ^ s.1 ∧ rvGo (l.drop s.1) s.1 s.2 = rv l) (fun s => l.length - s.1)
    (0, 0) ⟨rfl, rfl, rfl, by simp, by simp, by simp, by simp [rv]⟩ ?_
  rintro ⟨i, n⟩ _ _ w' ⟨rfl, rfl, rfl, hi9, hi, hn, hgo⟩ L hL
  simp only at hi9 hi hn hgo hL
  refine pur hs.len (pur (bin_lss _ _ _) (condD (fun hlt => ?_) (fun hge => ?_)))
  · have hlt' : i < l.length := by omega
    obtain ⟨c, hc⟩ : ∃ c, l[i]? = some c := ⟨l[i], List.getElem?_eq_getElem hlt'⟩
    have hcl := c.toNat_lt
    have hdrop : l.drop i = c :: l.drop (i + 1) := by
      rw [List.drop_eq_getElem_cons hlt']
      congr 1
      rw [List.getElem?_eq_getElem hlt'] at hc
      exact Option.some.inj hc
    rw [hdrop] at hgo
    unfold rvGo at hgo
    obtain ⟨ad, h1, h2⟩ := byte_at hs hc
    refine pur h1 (SG.load (S := No) h2 (pur (conv64u (by omega) (by omega)) (pur (bin_eql _ _ _) ?_)))
    refine join1 (fun a w' => w = w' ∧ (i = 9 → a = .bool (decide (1 < c.toNat)))) ?_ fun J2 hJ2 => ?_
    · rintro a w' ⟨rfl, ha⟩
      refine pur (v := .bool (decide (i = 9 ∧ 1 < c.toNat))) ((pick_b _ _ _).trans ?_) ?_
      · by_cases h9 : i = 9
        · rw [if_pos (by simp; omega), ha h9]; simp [h9]
        · rw [if_neg (by simp; omega)]; simp [h9]
      refine join1 (fun a w' => w = w' ∧ (¬ (i = 9 ∧ 1 < c.toNat) → a = .bool (decide (0 < i)))) ?_ fun J3 hJ3 => ?_
      · rintro a w' ⟨rfl, ha⟩
        refine join1 (fun b w' => w = w' ∧ (¬ (i = 9 ∧ 1 < c.toNat) → 0 < i → b = .bool (decide (c.toNat = 0)))) ?_ fun J4 hJ4 => ?_
        · rintro b w' ⟨rfl, hb⟩
          refine join1 (fun d w' => w = w' ∧ (¬ (i = 9 ∧ 1 < c.toNat) → d = .bool (decide (0 < i ∧ c.toNat = 0)))) ?_ fun J5 hJ5 => ?_
          · rintro d w' ⟨rfl, hd⟩
            refine pur (v := .bool (decide ((i = 9 ∧ 1 < c.toNat) ∨ (0 < i ∧ c.toNat = 0)))) ((pick_b _ _ _).trans ?_) (condD (fun hb => ?_) (fun hb => ?_))
            · by_cases hh : i = 9 ∧ 1 < c.toNat
              · rw [if_pos (by simpa using hh)]; simp [hh]
              · rw [if_neg (by simpa using hh), hd hh]; simp [hh]
            · rw [if_pos hb] at hgo
              rw [← hgo] at hK; exact hK
            · rw [if_neg hb] at hgo
              obtain ⟨d1, d2, d3, d4⟩ := digit hi9 hn hcl (fun h => by omega)
              refine pur ((bin_and _ _ _).trans (by rw [and127 _ (by omega)])) (pur ((bin_mul _ _ _).trans (by rw [wi64 (by omega) (by omega)])) (pur (conv64u (by omega) (by omega)) ?_))
              refine pur ((bin_shl (by omega) (by simp only [IntKind.bits]; omega)).trans (by rw [d1])) (pur ((bin_or _ _ _).trans (by rw [d2])) ?_)
              refine pur (bin_lss _ _ _) (condD (fun h128 => ?_) (fun h128 => ?_))
              · rw [if_pos (by omega)] at hgo
                refine pur (add64 (c := ((i + 1 : Nat) : Int)) (by omega) (by omega) (by omega)) ?_
                rw [← hgo] at hK; exact hK
              · rw [if_neg (by omega)] at hgo
                refine pur (add64 (c := ((i + 1 : Nat) : Int)) (by omega) (by omega) (by omega)) ?_
                exact hL (i + 1, n + c.toNat % 128 * 128 ^ i) _ _ _ ⟨rfl, rfl, rfl, by simp only; omega, by simp only; omega, d4, hgo⟩ (by simp only; omega)
          · rw [ifB_eq]
            by_cases hh : i = 9 ∧ 1 < c.toNat
            · rw [if_neg (by simpa using hh)]
              exact hJ5 _ _ ⟨rfl, fun h => absurd hh h⟩
            · rw [if_pos (by simpa using hh), ha hh]
              refine pur (v := .bool (decide (0 < i ∧ c.toNat = 0))) ((pick_b _ _ _).trans ?_) (hJ5 _ _ ⟨rfl, fun _ => rfl⟩)
              by_cases h0 : 0 < i
              · rw [if_pos (by simpa using h0), hb hh h0]; simp [h0]
              · rw [if_neg (by simpa using h0)]; simp [h0]
        · by_cases hh : i = 9 ∧ 1 < c.toNat
          · -- whatever stands there
            by_cases hia : isB a true = true
            · unfold IfB
              rw [if_pos hia]
              exact pur (bin_eql _ _ _) (hJ4 _ _ ⟨rfl, fun h => absurd hh h⟩)
            · unfold IfB
              rw [if_neg hia]
              exact hJ4 _ _ ⟨rfl, fun h => absurd hh h⟩
          · rw [ha hh, ifB_eq]
            by_cases h0 : 0 < i
            · rw [if_pos (by simpa using h0)]
              refine pur (bin_eql _ _ _) (hJ4 _ _ ⟨rfl, fun _ _ => ?_⟩)
              congr 1; rw [Bool.eq_iff_iff]; simp only [decide_eq_true_eq]; omega
            · rw [if_neg (by simpa using h0)]
              exact hJ4 _ _ ⟨rfl, fun _ h => absurd h h0⟩
      · rw [ifB_eq]
        by_cases hh : i = 9 ∧ 1 < c.toNat
        · rw [if_neg (by simpa using hh)]
          exact hJ3 _ _ ⟨rfl, fun h => absurd hh h⟩
        · rw [if_pos (by simpa using hh)]
          refine pur (bin_gtr _ _ _) (hJ3 _ _ ⟨rfl, fun _ => ?_⟩)
          congr 1; rw [Bool.eq_iff_iff]; simp only [decide_eq_true_eq]; omega
    · rw [ifB_eq]
      by_cases h9 : i = 9
      · rw [if_pos (by simp; omega)]
        refine pur (bin_gtr _ _ _) (hJ2 _ _ ⟨rfl, fun _ => ?_⟩)
        congr 1; rw [Bool.eq_iff_iff]; simp only [decide_eq_true_eq]; omega
      · rw [if_neg (by simp; omega)]
        exact hJ2 _ _ ⟨rfl, fun h => absurd h h9⟩
  · have hnil : l.drop i = [] := List.drop_eq_nil_of_le (by omega)
    rw [hnil] at hgo
    refine hJ0 _ ⟨rfl, ?_⟩
    rw [← hgo]; rfl
end Go.Proofs.Ytambcnlkdnmekaa
