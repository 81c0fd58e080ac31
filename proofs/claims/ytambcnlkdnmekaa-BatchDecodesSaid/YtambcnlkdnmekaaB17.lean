/- Batches: the reference's Check, Plain, Fixed, Sizes, Encode. -/
import Derived.Test.YtambcnlkdnmekaaB16
import Derived.Test.YtambcnlkdnmekaaB10
namespace Go.Proofs.Ytambcnlkdnmekaa
open Go SG Go.RowKit Go.Lib
set_option linter.unusedVariables false
set_option maxRecDepth 4000
set_option linter.unusedSimpArgs false

def mostI (k : Int) : Int := if k = 1 then 16384 else if k = 2 then 1024 else 9223372036854775807
theorem c38 {w : World} {k : Int} {K : Value → World → Prop} (hK : K (.int .i64 (mostI k)) w) : CallS Try.prog 38 #[.int .i64 k] K w := by
  refine s38_call hm ?_
  unfold s38
  unfold mostI at hK
  refine pur (bin_eql _ _ _) (condD (fun h1 => ?_) (fun h1 => ?_))
  · rw [if_pos h1] at hK; exact hK
  · rw [if_neg h1] at hK
    refine pur (bin_eql _ _ _) (condD (fun h2 => ?_) (fun h2 => ?_))
    · rw [if_pos h2] at hK; exact hK
    · rw [if_neg h2] at hK; exact hK
set_option maxHeartbeats 400000 in
theorem c20 (r : Rec) (hr : r.Ok) {K : Value → World → Prop} {w : World} (hK : ∀ w', Ext No w w' → K (.int .i64 (chk r)) w') : CallS Try.prog 20 #[r.agg] K w := by
  have hk1 := hr.key
  have hk2 := hr.val
  refine s20_call hm ?_
  unfold s20
  refine box fun w1 b1 e1 z1 => ?_
  have b : Blk w1 w.heap.size 31 r.cells := b1
  refine pur (field_ptr _ _ _) (loadB b (v := .int .i64 r.kind) rfl (pur (bin_lss _ _ _) ?_))
  refine join1 (fun a w' => w1 = w' ∧ (0 ≤ r.kind → a = .bool (decide (2 < r.kind)))) ?_ fun J0 hJ0 => ?_
  · rintro a w' ⟨rfl, ha⟩
    refine pur (v := .bool (decide (r.kind < 0 ∨ 2 < r.kind))) ((pick_b _ _ _).trans ?_) (condD (fun hb => ?_) (fun hb => ?_))
    · by_cases h : r.kind < 0
      · rw [if_pos (by simpa using h)]; simp [h]
      · rw [if_neg (by simpa using h), ha (by omega)]; simp [h]
    · have := hK w1 e1
      rw [show chk r = 1 by unfold chk; rw [if_neg (by omega), if_neg (by omega), if_neg (by omega)]] at this
      exact this
    · have hchk : chk r = if (1024 : Int) < r.key.size ∨ mostI r.kind < r.val.size then 2 else 0 := by
        by_cases h0 : r.kind = 0
        · have hm : mostI r.kind = 9223372036854775807 := by unfold mostI; rw [if_neg (by omega), if_neg (by omega)]
          unfold chk
          rw [if_pos h0, hm]
          split <;> split <;> first | rfl | omega
        · by_cases h1 : r.kind = 1
          · have hm : mostI r.kind = 16384 := by unfold mostI; rw [if_pos h1]
            unfold chk
            rw [if_neg h0, if_pos h1, hm]
            split <;> split <;> first | rfl | omega
          · have h2 : r.kind = 2 := by omega
            have hm : mostI r.kind = 1024 := by unfold mostI; rw [if_neg h1, if_pos h2]
            unfold chk
            rw [if_neg h0, if_neg h1, if_pos h2, hm]
            split <;> split <;> first | rfl | omega
      refine join1 (fun a w' => a = .bool (decide ((1024 : Int) < r.key.size ∨ mostI r.kind < r.val.size)) ∧ Ext No w w') ?_ fun J1 hJ1 => ?_
      · rintro _ w' ⟨rfl, e⟩
        refine condD (fun hb => ?_) (fun hb => ?_)
        · have := hK w' e
          rw [hchk, if_pos hb] at this; exact this
        · have := hK w' e
          rw [hchk, if_neg hb] at this; exact this
      · refine draw (fun w' => Blk w' w.heap.size 31 r.cells) b ?_
        have e1d := e1.trans (Ext.drew w1)
        refine pur (field_ptr _ _ _) (heldC (v := .string r.key) (fun w' hh => hh.cell 2) (pur (len_str _) (pur (bin_gtr _ _ _) (condD (fun hk => ?_) (fun hk => ?_)))))
        · exact pur (pick_b _ _ _) (hJ1 _ _ ⟨by simp [hk], e1d⟩)
        · refine pur (field_ptr _ _ _) (pur (field_ptr _ _ _) (heldC (v := .string r.val) (fun w' hh => hh.cell 3) (pur (len_str _) (heldC (v := .int .i64 r.kind) (fun w' hh => hh.cell 1) ?_))))
          refine c38 ⟨b, pur (bin_gtr _ _ _) (pur (pick_b _ _ _) (hJ1 _ _ ⟨by simp [hk], e1d⟩))⟩
  · rw [ifB_eq]
    by_cases h : r.kind < 0
    · rw [if_neg (by simpa using h)]
      exact hJ0 _ _ ⟨rfl, fun h' => absurd h (by omega)⟩
    · rw [if_pos (by simpa using h)]
      exact pur (field_ptr _ _ _) (loadB b (v := .int .i64 r.kind) rfl (pur (bin_gtr _ _ _) (hJ0 _ _ ⟨rfl, fun _ => rfl⟩)))

theorem c35 (seq n : Nat) (hs : seq < 18446744073709551616) (hn : n ≤ 140737488355328) {K : Value → World → Prop} {w : World} (hK : K (.bool (fitsB seq n)) w) : CallS Try.prog 35 #[.int .u64 (seq : Int), .int .i64 (n : Int)] K w := by
  refine s35_call hm ?_
  unfold s35
  refine pur (bin_leq _ _ _) ?_
  by_cases h1 : seq ≤ 72057594037927935
  · have hd1 : decide ((seq : Int) ≤ 72057594037927935) = true := by simp; omega
    rw [hd1]
    refine join1 (fun a w' => w = w' ∧ a = .bool (decide (n = 0))) ?_ fun J hJ => ?_
    · rintro a w' ⟨rfl, rfl⟩
      refine join1 (fun a w' => w = w' ∧ (n ≠ 0 → a = .bool (decide (n - 1 ≤ 72057594037927935 - seq)))) ?_ fun J hJ => ?_
      · rintro a w' ⟨rfl, ha⟩
        refine join1 (fun a w' => w = w' ∧ a = .bool (fitsB seq n)) ?_ fun J hJ => ?_
        · rintro a w' ⟨rfl, rfl⟩
          exact pur (pick_b _ _ _) hK
        · refine ifT _ _ (pur (v := .bool (fitsB seq n)) ((pick_b _ _ _).trans ?_) (hJ _ _ ⟨rfl, rfl⟩))
          by_cases h0 : n = 0
          · rw [if_pos (by simpa using h0)]; simp [fitsB, h0, h1]
          · rw [if_neg (by simpa using h0), ha h0]; simp [fitsB, h0, h1]
      · rw [ifB_eq]
        by_cases h0 : n = 0
        · rw [if_neg (by simp [h0])]
          exact hJ _ _ ⟨rfl, fun h => absurd h0 h⟩
        · rw [if_pos (by simp [h0])]
          refine pur (sub64 (c := ((n - 1 : Nat) : Int)) (by omega) (by omega) (by omega)) (pur (conv64u (by omega) (by omega)) (pur ((bin_sub _ _ _).trans (by rw [wu64 (by omega) (by omega)])) (pur (bin_leq _ _ _) (hJ _ _ ⟨rfl, fun _ => ?_⟩))))
          congr 1
          rw [Bool.eq_iff_iff]; simp; omega
    · refine ifT _ _ (pur (bin_eql _ _ _) (hJ _ _ ⟨rfl, ?_⟩))
      congr 1
      rw [Bool.eq_iff_iff]; simp
  · have hd1 : decide ((seq : Int) ≤ 72057594037927935) = false := by simp; omega
    rw [hd1]
    refine join1 (fun a w' => w = w' ∧ a = undef) ?_ fun J hJ => ?_
    · rintro a w' ⟨rfl, rfl⟩
      refine join1 (fun a w' => w = w') ?_ fun J hJ => ?_
      · rintro a w' rfl
        refine join1 (fun a w' => w = w') ?_ fun J hJ => ?_
        · rintro a w' rfl
          refine pur (pick_b _ _ _) ?_
          have : fitsB seq n = false := by simp [fitsB, h1]
          rw [this] at hK; exact hK
        · rw [ifB_eq, if_neg (by simp)]
          exact hJ _ _ rfl
      · rw [ifB_undef]
        exact hJ _ _ rfl
    · rw [ifB_eq, if_neg (by simp)]
      exact hJ _ _ ⟨rfl, rfl⟩

theorem c36 {w : World} {x : Value} {rs : List Rec} (hs : Sl w x rs.length 4 (flat Rec.cells rs)) (hg : Good rs) (hl : rs.length ≤ 4096) {K : Value → World → Prop} (hK : ∀ w', Ext No w w' → K (.int .i64 (Sizes rs)) w') : CallS Try.prog 36 #[x] K w := by
  refine s36_call hm ?_
  unfold s36
  refine join1 (fun a w' => a = .int .i64 (Sizes rs) ∧ Ext No w w') (fun a w' ⟨h, e⟩ => by rw [h]; exact hK w' e) fun J hJ => ?_
  refine loop2 (σ := Nat) (fun i a b w' => a = .int .i64 (Sizes (rs.take i)) ∧ b = .int .i64 (i : Int) ∧ i ≤ rs.length ∧ Ext No w w') (fun i => rs.length - i) 0 ⟨rfl, rfl, by omega, Ext.refl _ _⟩ ?_
  rintro i _ _ w1 ⟨rfl, rfl, hi, e1⟩ L hL
  refine pur hs.len (pur (bin_lss _ _ _) (condD (fun hlt => ?_) (fun hge => ?_)))
  · have hlt' : i < rs.length := by omega
    obtain ⟨r, hr⟩ : ∃ r, rs[i]? = some r := ⟨rs[i], List.getElem?_eq_getElem hlt'⟩
    obtain ⟨hrok, hrc⟩ := hg r (List.mem_of_getElem? hr)
    obtain ⟨ad, ha1, ha2, ha3⟩ := recs_at (hs.no e1) hr
    refine pur ha1 (loadA ha2 rfl (c11 r hrok fun w2 e2 => ?_))
    have hgt : Good (rs.take i) := fun r hr => hg r (List.mem_of_mem_take hr)
    have h1 := sumEnc_le hgt
    have h2 := sumEnc_nonneg (rs.take i)
    have h3 := encRec_len hrok hrc
    have h4 : (rs.take i).length = i := by rw [List.length_take]; omega
    have hnext : rs.take (i + 1) = rs.take i ++ [r] := by rw [List.take_add_one, hr]; rfl
    refine pur (add64 (c := Sizes (rs.take (i + 1))) ?_ ?_ ?_) (pur (add64 (c := ((i + 1 : Nat) : Int)) (by omega) (by omega) (by omega)) (hL (i + 1) _ _ _ ⟨rfl, rfl, by omega, e1.trans e2⟩ (by omega)))
    · rw [hnext]; simp only [Sizes, sumEnc_append, sumEnc_one]; omega
    · rw [hnext]; simp only [Sizes, sumEnc_append, sumEnc_one]; omega
    · rw [hnext]; simp only [Sizes, sumEnc_append, sumEnc_one]; omega
  · have : rs.take i = rs := List.take_of_length_le (by omega)
    rw [this]
    exact hJ _ _ ⟨rfl, e1⟩

set_option maxHeartbeats 400000 in
theorem c37 (n many : Nat) (hm' : many ≤ 8) {K : Value → World → Prop} {w : World}
    (hK : ∀ v w', w'.ownsRow w.heap.size 5 1 v many (byteCells (fixedL n many)) → Ext No w w' → K v w') : CallS Try.prog 37 #[.int .u64 (n : Int), .int .i64 (many : Int)] K w := by
  refine s37_call hm ?_
  unfold s37
  refine build0 T40 fun w1 b1 e1 z1 => ?_
  have ho1 : w1.ownsRow w.heap.size 5 1 (.slice (some ⟨w.heap.size, 0, none⟩) 0 0) 0 (byteCells []) := b1.owns rfl (Nat.le_refl _) (by omega)
  refine join1 (fun a w' => w'.ownsRow w.heap.size 5 1 a many (byteCells (fixedL n many)) ∧ Ext No w w') (fun a w' ⟨h, e⟩ => hK a w' h e) fun J hJ => ?_
  refine loop2 (σ := Nat) (fun i a b w' => w'.ownsRow w.heap.size 5 1 a i (byteCells ((fixedL n many).take i)) ∧ b = .int .i64 (i : Int) ∧ i ≤ many ∧ Ext No w w') (fun i => many - i) 0 ⟨by simpa [byteCells] using ho1, rfl, by omega, e1⟩ ?_
  rintro i a _ w2 ⟨ho, rfl, hi, e2⟩ L hL
  refine pur (bin_lss _ _ _) (condD (fun hlt => ?_) (fun hge => ?_))
  · have hlt' : i < many := by omega
    have hlen : ((fixedL n many).take i).length = i := by rw [List.length_take, fixedL_len]; omega
    refine pur ((bin_mul _ _ _).trans (by rw [wi64 (by omega) (by omega)])) (pur (conv64u (by omega) (by omega)) (pur ((bin_shr (by omega) (by simp only [IntKind.bits]; omega)).trans (by rw [shr8 n i (by omega)])) (pur conv8u ?_)))
    refine append_byte (b := UInt8.ofNat (n / 256 ^ i)) ho hlen.symm e2.size (by omega) (by simp) fun v' w3 ho3 e3 => ?_
    refine pur (add64 (c := ((i + 1 : Nat) : Int)) (by omega) (by omega) (by omega)) ?_
    refine hL (i + 1) _ _ _ ⟨?_, rfl, by omega, ext_fr' e2 (ext_own ho e3) (Nat.le_refl _)⟩ (by omega)
    have hget : (fixedL n many)[i]? = some (UInt8.ofNat (n / 256 ^ i)) := by simp [fixedL, hlt']
    rw [List.take_add_one, hget]
    exact ho3
  · have hmi : i = many := by omega
    subst hmi
    have : (fixedL n i).take i = fixedL n i := List.take_of_length_le (by rw [fixedL_len]; omega)
    rw [this] at ho
    exact hJ _ _ ⟨ho, e2⟩

theorem c43 (r : Rec) {K : Value → World → Prop} {w : World} (hK : ∀ w', Ext No w w' → K (plain r).agg w') : CallS Try.prog 43 #[r.agg] K w := by
  refine s43_call hm ?_
  unfold s43
  refine box fun w1 b1 e1 z1 => ?_
  have b : Blk w1 w.heap.size 31 r.cells := b1
  refine box fun w2 b2 e2 z2 => ?_
  have b' := b.no e2
  refine join0 (fun w' => Blk w' w.heap.size 31 (plain r).cells ∧ Ext No w w' ∧ ∃ cs, Blk w' w1.heap.size 31 cs ∧ cs.length = 4) ?_ fun J hJ => ?_
  · rintro w3 ⟨b3, e3, cs, c3, hl⟩
    refine loadA (At.of_blk b3) rfl ?_
    refine storeAll c3 rfl hl (Rec.one _) fun w4 b4 e4 _ => ?_
    refine loadA (At.of_blk b4) rfl ?_
    exact hK w4 (e3.fresh e4 fun b hb => .inr (by rw [show b = w1.heap.size from hb]; exact e1.size))
  · refine pur (field_ptr _ _ _) (loadB b' (v := .int .i64 r.kind) rfl (pur (bin_eql _ _ _) (condD (fun h0 => ?_) (fun h0 => ?_))))
    · refine pur (field_ptr _ _ _) (storeB b' (by simp [Rec.cells]) rfl fun w3 b3 e3 _ => ?_)
      refine hJ _ ⟨?_, (e1.trans e2).fresh e3 fun b hb => .inr (by rw [show b = w.heap.size from hb]; exact Nat.le_refl _), _, b2.ext e3 (fun hh => ?_), rfl⟩
      · have : (plain r).cells = r.cells.set 3 (.string ⟨#[]⟩) := by simp [plain, h0, Rec.cells]
        rw [this]; exact b3
      · have : w1.heap.size = w.heap.size := hh
        omega
    · refine hJ _ ⟨?_, e1.trans e2, _, b2, rfl⟩
      rw [show plain r = r by simp [plain, h0]]; exact b'

theorem c22 {w : World} {x : Value} {rs : List Rec} (hs : Sl w x rs.length 4 (flat Rec.cells rs)) (hrl : rs.length ≤ 2932031007402) {K : Value → World → Prop} (hK : ∀ v w', Ext No w w' → Sl w' v (rs.map plain).length 4 (flat Rec.cells (rs.map plain)) → K v w') : CallS Try.prog 22 #[x] K w := by
  refine s22_call hm ?_
  unfold s22
  refine build0 T22 fun w1 b1 e1 z1 => ?_
  have ho1 : w1.ownsRow w.heap.size 31 4 (.slice (some ⟨w.heap.size, 0, none⟩) 0 0) 0 [] := b1.owns rfl (Nat.le_refl _) (by omega)
  refine join1 (fun a w' => w'.ownsRow w.heap.size 31 4 a rs.length (flat Rec.cells (rs.map plain)) ∧ Ext No w w') (fun a w' ⟨h, e⟩ => hK a w' e (by rw [List.length_map]; exact Sl.own h)) fun J hJ => ?_
  refine loop2 (σ := Nat) (fun i a b w' => w'.ownsRow w.heap.size 31 4 a i (flat Rec.cells ((rs.take i).map plain)) ∧ b = .int .i64 (i : Int) ∧ i ≤ rs.length ∧ Ext No w w') (fun i => rs.length - i) 0 ⟨by simpa [flat] using ho1, rfl, by omega, e1⟩ ?_
  rintro i a _ w2 ⟨ho, rfl, hi, e2⟩ L hL
  refine pur hs.len (pur (bin_lss _ _ _) (condD (fun hlt => ?_) (fun hge => ?_)))
  · have hlt' : i < rs.length := by omega
    obtain ⟨r, hr⟩ : ∃ r, rs[i]? = some r := ⟨rs[i], List.getElem?_eq_getElem hlt'⟩
    obtain ⟨ad, ha1, ha2, ha3⟩ := recs_at (hs.no e2) hr
    refine pur ha1 (loadA ha2 rfl (c43 r fun w3 e3 => ?_))
    refine build1 T22 rfl fun w4 b4 e4 z4 => ?_
    have ho4 := owns_ext ho (e3.trans e4) fun _ _ hh => hh
    have e24 := e2.trans (e3.trans e4)
    refine append_sl T22 22 ho4 (b4.sl (n := 1) (c := 1) (size := 4) rfl (Nat.le_refl _)) (Rec.one _) (by omega) (by omega) e24.size fun v' w5 ho5 hg5 hat => ?_
    refine pur (add64 (c := ((i + 1 : Nat) : Int)) (by omega) (by omega) (by omega)) ?_
    refine hL (i + 1) _ _ _ ⟨?_, rfl, by omega, ext_fr' e24 (ext_grown ho4 hg5) (Nat.le_refl _)⟩ (by omega)
    have hnext : rs.take (i + 1) = rs.take i ++ [r] := by rw [List.take_add_one, hr]; rfl
    rw [hnext, List.map_append, flat_append, List.map_cons, List.map_nil, flat_one]
    simpa [Value.cells, Rec.agg, Rec.cells] using ho5
  · have hil : i = rs.length := by omega
    subst hil
    rw [List.take_length] at ho
    exact hJ _ _ ⟨ho, e2⟩
end Go.Proofs.Ytambcnlkdnmekaa
