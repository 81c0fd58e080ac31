/- Several texts of ours, laid one behind the other. -/
import Derived.Test.YtambcnlkdnmekaaMA4
/-! Batches: savepoints taken back; Encode; Same; what lives. -/
namespace Go.Proofs.Ytambcnlkdnmekaa
open Go SG Go.RowKit Go.Lib
set_option linter.unusedVariables false
set_option maxRecDepth 4000
set_option linter.unusedSimpArgs false

/-- a row cut to its first elements -/
theorem owns_take {w : World} {base : Nat} {e : TypeId} {size n : Nat} {v : Value} {xs : List Value} (h : w.ownsRow base e size v n xs) {m : Nat} (hm : m ≤ n) (size' : Nat) (hs' : size' = size) :
    ∃ v', sliceV size' v none (some (.int .i64 (m : Int))) = some v' ∧ w.ownsRow base e size v' m (xs.take (m * size)) ∧ v'.ownBlock = v.ownBlock := by
  subst hs'
  have hlen : (xs.take (m * size')).length = m * size' := by rw [List.length_take, h.1]; exact Nat.min_eq_left (Nat.mul_le_mul_right _ hm)
  rcases h.2 with ⟨rfl, rfl⟩ | ⟨g, cap, cur, rfl, hb, hg, hnc, hcm, hcs, htake⟩
  · have : m = 0 := by omega
    subst this
    refine ⟨.slice none 0 0, by simp [sliceV, boundV], ⟨by simp, .inl ⟨rfl, rfl⟩⟩, rfl⟩
  · refine ⟨.slice (some ⟨g, 0, none⟩) m cap, ?_, ⟨hlen, .inr ⟨g, cap, cur, rfl, hb, hg, by omega, hcm, hcs, ?_⟩⟩, rfl⟩
    · have h1 : (0 : Int) ≤ (m : Int) ∧ (m : Int) ≤ (cap : Int) := by omega
      by_cases hc : cap = 0
      · have hm0 : m = 0 := by omega
        subst hm0
        simp [sliceV, boundV, hc]
      · simp [sliceV, boundV, h1, hc, Addr.add_zero']
    · rw [← htake, List.take_take, Nat.min_eq_left (Nat.mul_le_mul_right _ hm)]

theorem lastInt {marks : List Nat} {m : Nat} (l : List Nat) (h : marks = l ++ [m]) : (ints marks)[l.length]? = some (.int .i64 (m : Int)) := by
  subst h; simp [ints]

/-- Pop -/
theorem c31 {w : World} {g : Nat} {lv mv : Value} {recs : List Rec} {sz : Int} {marks : List Nat} (hb : BatchIs w g lv mv recs sz marks) (hml : marks.length ≤ 8796093022208) {K : Value → World → Prop}
    (h0 : marks = [] → K (.int .i64 6) w)
    (hK : ∀ l m w' mv', marks = l ++ [m] → BatchIs w' g lv mv' recs sz l → Ext (Foot g lv mv) w w' → mv'.ownBlock = mv.ownBlock → K (.int .i64 0) w') :
    CallS Try.prog 31 #[.pointer (some ⟨g, 0, none⟩)] K w := by
  refine s31_call hm ?_
  unfold s31
  refine pur (nil_ptr _) (pur (field_ptr _ _ _) (loadB hb.at_.blk (v := mv) rfl ?_))
  refine pur (Sl.own hb.at_.mrow).len (pur (bin_eql _ _ _) (condD (fun hz => ?_) (fun hz => ?_)))
  · exact h0 (List.eq_nil_of_length_eq_zero (by omega))
  · obtain ⟨l, m, hlm⟩ : ∃ l m, marks = l ++ [m] := ⟨marks.dropLast, marks.getLast (by intro h; simp [h] at hz), (List.dropLast_concat_getLast _).symm⟩
    have hlen : marks.length = l.length + 1 := by rw [hlm]; simp
    refine draw (fun w' => Blk w' g 26 [lv, .int .i64 sz, mv]) hb.at_.blk ?_
    refine pur (nil_ptr _) (pur (field_ptr _ _ _) (pur (nil_ptr _) (pur (field_ptr _ _ _) ?_)))
    refine heldC (v := mv) (fun w' hh => hh.cell 2) (heldC (v := mv) (fun w' hh => hh.cell 2) ?_)
    refine pur (Sl.own hb.at_.mrow).len (pur (sub64 (c := (l.length : Int)) (by omega) (by omega) (by omega)) ?_)
    obtain ⟨mv', h1, h2, h3⟩ := owns_take hb.at_.mrow (m := l.length) (by omega) 1 rfl
    refine pur h1 (pur (nil_ptr _) (pur (field_ptr _ _ _) ?_))
    have hbd : Blk w.drew g 26 [lv, .int .i64 sz, mv] := hb.at_.blk
    refine storeB hbd (by simp) (by rcases h2.2 with ⟨rfl, _⟩ | ⟨_, _, _, rfl, _⟩ <;> rfl) fun w1 b1 e1 _ => ?_
    have hne1 := own_ne hb.at_.row hb.at_.blk (by decide)
    have hne2 := own_ne h2 hb.at_.blk (by decide)
    refine hK l m w1 mv' hlm ⟨⟨b1, ?_, ?_⟩, hb.sz, hb.good, hb.len, hb.plain⟩ (((Ext.drew (S := Foot g lv mv) w)).trans (e1.mono fun b h _ => .inl h)) h3
    · have : w.drew.ownsRow 0 31 4 lv recs.length (flat Rec.cells recs) := hb.at_.row
      exact owns_ext this e1 fun b hbb hh => hne1 (by rw [hbb, show b = g from hh])
    · have : w.drew.ownsRow 0 3 1 mv' l.length ((ints marks).take (l.length * 1)) := h2
      have := owns_ext this e1 fun b hbb hh => hne2 (by rw [hbb, show b = g from hh])
      rw [hlm] at this
      simpa [ints] using this

/-- marks lie within -/
def MarksOk (recs : List Rec) (marks : List Nat) : Prop := ∀ m ∈ marks, m ≤ recs.length

set_option maxHeartbeats 1000000 in
/-- Back -/
theorem c16 {w : World} {g : Nat} {lv mv : Value} {recs : List Rec} {sz : Int} {marks : List Nat} (hb : BatchIs w g lv mv recs sz marks) (hml : marks.length ≤ 8796093022208) (hmk : MarksOk recs marks) {K : Value → World → Prop}
    (h0 : marks = [] → K (.int .i64 6) w)
    (hK : ∀ l m w' lv' mv' sz', marks = l ++ [m] → BatchIs w' g lv' mv' (recs.take m) sz' l → Ext (Foot g lv mv) w w' → (∀ b, Foot g lv' mv' b → Foot g lv mv b) → K (.int .i64 0) w') :
    CallS Try.prog 16 #[.pointer (some ⟨g, 0, none⟩)] K w := by
  refine s16_call hm ?_
  unfold s16
  refine pur (nil_ptr _) (pur (field_ptr _ _ _) (loadB hb.at_.blk (v := mv) rfl ?_))
  refine pur (Sl.own hb.at_.mrow).len (pur (bin_eql _ _ _) (condD (fun hz => ?_) (fun hz => ?_)))
  · exact h0 (List.eq_nil_of_length_eq_zero (by omega))
  · obtain ⟨l, m, hlm⟩ : ∃ l m, marks = l ++ [m] := ⟨marks.dropLast, marks.getLast (by intro h; simp [h] at hz), (List.dropLast_concat_getLast _).symm⟩
    have hlen : marks.length = l.length + 1 := by rw [hlm]; simp
    have hmle : m ≤ recs.length := hmk m (by rw [hlm]; simp)
    have hrl := hb.len
    obtain ⟨ad, hix, hat, hab⟩ := (Sl.own hb.at_.mrow).at_ (i := l.length) (by omega)
    have hcell : w.cell? ad = some (.int .i64 (m : Int)) := by
      have := hat 0 (.int .i64 (m : Int)) (by
        rw [List.getElem?_take, if_pos (by omega), List.getElem?_drop]
        simpa using lastInt l hlm)
      simpa [Addr.add] using this
    refine draw (fun w' => Blk w' g 26 [lv, .int .i64 sz, mv] ∧ w'.cell? ad = some (.int .i64 (m : Int))) ⟨hb.at_.blk, hcell⟩ ?_
    refine pur (nil_ptr _) (pur (field_ptr _ _ _) (pur (nil_ptr _) (pur (field_ptr _ _ _) ?_)))
    refine heldC (v := mv) (fun w' hh => hh.1.cell 2) (heldC (v := mv) (fun w' hh => hh.1.cell 2) ?_)
    refine pur (Sl.own hb.at_.mrow).len (pur (sub64 (c := (l.length : Int)) (by omega) (by omega) (by omega)) (pur hix ?_))
    refine heldC (v := .int .i64 (m : Int)) (fun w' hh => hh.2) ?_
    have hbd : BatchAt w.drew g lv mv recs sz marks := hb.at_.no (Ext.drew (S := No) w)
    have hgt : Good recs := hb.good
    have hsum := fun n => sumEnc_nonneg (recs.take n)
    -- behind the loop
    refine join0 (fun w' => ∃ sz', BatchAt w' g lv mv recs sz' marks ∧ SzOk sz' (recs.take m) ∧ Ext (At1 g) w.drew w') ?_ ?_
    · rintro w1 ⟨sz', hb1, hsz1, e1⟩
      refine pur (nil_ptr _) (pur (field_ptr _ _ _) (loadB hb1.blk (v := lv) rfl ?_))
      obtain ⟨lv', h1, h2, h3⟩ := owns_take hb1.row hmle 4 rfl
      refine pur h1 (pur (nil_ptr _) (pur (field_ptr _ _ _) (storeB hb1.blk (by simp) (by rcases h2.2 with ⟨rfl, _⟩ | ⟨_, _, _, rfl, _⟩ <;> rfl) fun w2 b2 e2 _ => ?_)))
      have hne1 := own_ne h2 hb1.blk (by decide)
      have hne2 := own_ne hb1.mrow hb1.blk (by decide)
      have hb2 : BatchIs w2 g lv' mv (recs.take m) sz' marks := by
        refine ⟨⟨b2, ?_, owns_ext hb1.mrow e2 fun b hbb hh => hne2 (by rw [hbb, show b = g from hh])⟩, hsz1, fun r hr => hgt r (List.mem_of_mem_take hr), by rw [List.length_take]; omega, fun r hr => hb.plain r (List.mem_of_mem_take hr)⟩
        have := owns_ext h2 e2 fun b hbb hh => hne1 (by rw [hbb, show b = g from hh])
        rw [flat_take Rec.cells Rec.cells_len] at this
        rw [List.length_take, Nat.min_eq_left hmle]
        exact this
      refine c31 hb2 hml (fun he => by rw [hlm] at he; simp at he) fun l' m' w3 mv' hlm' hb3 e3 hmv => ?_
      have hll : l' = l := by rw [hlm] at hlm'; exact ((List.append_inj' hlm' rfl).1).symm
      subst hll
      refine hK _ m w3 lv' mv' sz' hlm hb3 ?_ ?_
      · have ee : Ext (Foot g lv mv) w w2 := ((Ext.drew (S := Foot g lv mv) w).trans (e1.mono fun b h _ => .inl h)).trans (e2.mono fun b h _ => .inl h)
        exact ee.trans' e3 (fun _ h _ => h) fun b hbb _ => by
          rcases hbb with h | h | h
          · exact .inl h
          · rw [h3] at h; exact .inr (.inl h)
          · exact .inr (.inr h)
      · intro b hbb
        rcases hbb with h | h | h
        · exact .inl h
        · rw [h3] at h; exact .inr (.inl h)
        · rw [hmv] at h; exact .inr (.inr h)
    · intro J hJ
      refine pur (nil_ptr _) (pur (field_ptr _ _ _) (loadB hbd.blk (v := lv) rfl ?_))
      -- the records behind the mark
      have hsl : ∃ x, sliceV 4 lv (some (.int .i64 (m : Int))) none = some x ∧ Sl w.drew x (recs.drop m).length 4 (flat Rec.cells (recs.drop m)) ∧ (∀ b, x.ownBlock = some b → lv.ownBlock = some b) := by
        have hrow := hbd.row
        rcases hrow.2 with ⟨rfl, h0'⟩ | ⟨g', cap, cur, rfl, hbb, hg', hnc, hcm, hcs, htake⟩
        · have hnil : recs = [] := List.eq_nil_of_length_eq_zero h0'
          subst hnil
          have : m = 0 := by simpa using hmle
          subst this
          exact ⟨.slice none 0 0, by simp [sliceV, boundV], Sl.nil_ _ 4, fun b hb => by simp [Value.ownBlock] at hb⟩
        · have h1 : (0 : Int) ≤ (m : Int) ∧ (m : Int) ≤ (recs.length : Int) := by omega
          refine ⟨.slice (if cap = m then some ⟨g', 0, none⟩ else (some ⟨g', 0, none⟩ : Option Addr).map (·.add (m * 4))) (recs.length - m) (cap - m), by simp only [sliceV, boundV, Option.bind_some]; rw [if_pos h1]; simp, ?_, ?_⟩
          · refine ⟨_, cap - m, by rw [List.length_drop], flat_length Rec.cells Rec.cells_len _, by simp; omega, fun hn => by split at hn <;> simp at hn, fun ad' had => ?_⟩
            have hcells := fun j u hj => hrow.cells (g := g') rfl j u hj
            split at had
            · rename_i hcap
              have : recs.drop m = [] := List.drop_eq_nil_of_le (by omega)
              rw [this]
              exact fun i v hv => by simp [flat] at hv
            · simp only [Option.map_some, Option.some.injEq] at had
              subst had
              have : At w.drew ⟨g', 0, none⟩ (flat Rec.cells recs) := fun i v hv => hcells i v hv
              have := this.drop (m * 4)
              rw [flat_drop Rec.cells Rec.cells_len] at this
              exact this
          · intro b hb'
            split at hb' <;> simpa [Value.ownBlock, Addr.add_block] using hb'
      obtain ⟨x, hx1, hx2, hx3⟩ := hsl
      have hdl : (recs.drop m).length = recs.length - m := List.length_drop
      refine pur hx1 (pur hx2.len ?_)
      refine loop1 (σ := Nat × Int) (fun s a w' => a = .int .i64 (s.1 : Int) ∧ s.1 ≤ recs.length - m ∧ BatchAt w' g lv mv recs s.2 marks ∧ Ext (At1 g) w.drew w' ∧ s.2 = sz - sumEnc ((recs.drop m).take s.1))
        (fun s => recs.length - m - s.1) (0, sz) ⟨rfl, by omega, hbd, Ext.refl _ _, by simp [sumEnc]⟩ ?_
      rintro ⟨i, szi⟩ a w2 ⟨rfl, hi, hb2, e2, hszi⟩ L hL
      simp only at hi hb2 hszi hL
      have hpre : ∀ n, sumEnc (recs.take m) + sumEnc ((recs.drop m).take n) = sumEnc (recs.take (m + n)) := fun n => by rw [← sumEnc_append, List.take_add]
      have hszc : recs ≠ [] → sz = 12 + sumEnc recs := fun hne => by rcases hb.sz with h | ⟨_, h⟩ <;> first | exact h | exact absurd h hne
      have hall := sumEnc_le hb.good
      have hall0 := sumEnc_nonneg recs
      refine pur (bin_lss _ _ _) (condD (fun hlt => ?_) (fun hge => ?_))
      · have hlt' : i < (recs.drop m).length := by omega
        obtain ⟨r, hr⟩ : ∃ r, (recs.drop m)[i]? = some r := ⟨(recs.drop m)[i], List.getElem?_eq_getElem hlt'⟩
        have hrm : r ∈ recs := List.mem_of_mem_drop (List.mem_of_getElem? hr)
        have hrow_ne := own_ne hb.at_.row hb.at_.blk (by decide)
        have hs2 := hx2.ext e2 fun b hbb hh => hrow_ne (by rw [hx3 b hbb, show b = g from hh])
        obtain ⟨ad', ha1, ha2, ha3⟩ := recs_at hs2 hr
        refine pur ha1 (loadA ha2 rfl (box fun w3 b3 e3 z3 => ?_))
        refine storeAll b3 rfl (by simp [Value.cells]) (Rec.one r) fun w4 b4 e4 z4 => ?_
        have e24 : Ext No w2 w4 := e3.fresh e4 fun b hh => .inr (by rw [show b = w2.heap.size from hh]; exact Nat.le_refl _)
        have hb4 := hb2.no e24
        refine draw (fun w' => Blk w' g 26 [lv, .int .i64 szi, mv] ∧ Blk w' w2.heap.size 31 r.cells) ⟨hb4.blk, b4⟩ ?_
        refine pur (nil_ptr _) (pur (field_ptr _ _ _) ?_)
        refine heldC (v := .int .i64 szi) (fun w' hh => hh.1.cell 1) (heldA (fun w' hh => At.of_blk hh.2) rfl ?_)
        refine c30 r (hb.good r hrm).1 (hb.good r hrm).2 fun v w5 ho5 e5 => ?_
        have e45 : Ext No w4 w5 := (Ext.drew (S := No) w4).trans e5
        have hb5 := hb4.no e45
        refine ⟨⟨hb5.blk, b4.no e45⟩, ?_⟩
        have hne : recs ≠ [] := fun h => by rw [h] at hrm; cases hrm
        have hsz0 := hszc hne
        have hel := encRec_len (hb.good r hrm).1 (hb.good r hrm).2
        have hnext : sumEnc ((recs.drop m).take (i + 1)) = sumEnc ((recs.drop m).take i) + (encRec r).length := by
          rw [List.take_add_one, hr]; simp only [Option.toList_some, sumEnc_append, sumEnc_one]
        have hle : ∀ n, sumEnc (recs.take n) ≤ sumEnc recs := fun n => by
          have := sumEnc_append (recs.take n) (recs.drop n)
          rw [List.take_append_drop] at this
          have := sumEnc_nonneg (recs.drop n)
          omega
        have h1 := hpre i
        have h2 := hpre (i + 1)
        have h3 := hle (m + i)
        have h4 := hle (m + (i + 1))
        have h5 := hsum m
        have h6 := sumEnc_nonneg ((recs.drop m).take i)
        have h7 := sumEnc_nonneg ((recs.drop m).take (i + 1))
        refine pur (Sl.own ho5).len (pur (sub64 (c := szi - (encRec r).length) rfl (by omega) (by omega)) (pur (nil_ptr _) (pur (field_ptr _ _ _) (storeB hb5.blk (by simp) rfl fun w6 b6 e6 _ => ?_))))
        refine pur (add64 (c := ((i + 1 : Nat) : Int)) (by omega) (by omega) (by omega)) ?_
        have hne1 := own_ne hb5.row hb5.blk (by decide)
        have hne2 := own_ne hb5.mrow hb5.blk (by decide)
        refine hL (i + 1, szi - (encRec r).length) _ _ ⟨rfl, by simp only; omega, ⟨b6, owns_ext hb5.row e6 fun b hbb hh => hne1 (by rw [hbb, show b = g from hh]), owns_ext hb5.mrow e6 fun b hbb hh => hne2 (by rw [hbb, show b = g from hh])⟩,
          (e2.trans (e24.trans e45).no).trans e6, by simp only; omega⟩ (by simp only; omega)
      · have htake : (recs.drop m).take i = recs.drop m := List.take_of_length_le (by omega)
        rw [htake] at hszi
        refine hJ _ ⟨szi, hb2, ?_, e2⟩
        have h1 := sumEnc_append (recs.take m) (recs.drop m)
        rw [List.take_append_drop] at h1
        rcases hb.sz with h | ⟨h, h'⟩
        · left; rw [hszi, h]; unfold Sizes; omega
        · right
          subst h'
          exact ⟨by rw [hszi, h]; simp [sumEnc], by simp⟩
end Go.Proofs.Ytambcnlkdnmekaa
/-! Batches: Encode; Same; what lives. -/
namespace Go.Proofs.Ytambcnlkdnmekaa
open Go SG Go.RowKit Go.Lib
set_option linter.unusedVariables false
set_option maxRecDepth 4000
set_option linter.unusedSimpArgs false

def fixedL (n size : Nat) : List UInt8 := (List.range size).map fun i => UInt8.ofNat (n / 256 ^ i)
theorem fixedL_len (n size : Nat) : (fixedL n size).length = size := by simp [fixedL]
theorem shr8 (n i : Nat) (hi : i ≤ 8) : (n : Int).fdiv (2 ^ ((8 * (i : Int))).toNat) = ((n / 256 ^ i : Nat) : Int) := by
  rw [Int.fdiv_eq_ediv_of_nonneg _ (by exact_mod_cast Nat.zero_le _)]
  have : (8 * (i : Int)).toNat = 8 * i := by omega
  rw [this, show (2 : Int) ^ (8 * i) = ((256 ^ i : Nat) : Int) by rw [Int.pow_mul]; norm_cast]
  norm_cast

theorem c57 (n size : Nat) (hs : size ≤ 8) {K : Value → World → Prop} {w : World}
    (hK : ∀ v w', w'.ownsRow w.heap.size 5 1 v size (byteCells (fixedL n size)) → Ext No w w' → K v w') : CallS Try.prog 57 #[.int .u64 (n : Int), .int .i64 (size : Int)] K w := by
  refine s57_call hm ?_
  unfold s57
  refine makeB T40 (by omega) (by omega) fun w1 b1 e1 z1 => ?_
  have b : Blk w1 w.heap.size 5 (List.replicate size (.int .u8 0)) := by
    have := madeCells_one (.int .u8 0) size
    simp only [Nat.mul_one] at b1
    rw [show (Value.int .u8 0).cells = #[.int .u8 0] from rfl, this] at b1
    exact b1
  have hsl : ∀ {w'}, Blk w' w.heap.size 5 (byteCells (fixedL n size)) → w'.ownsRow w.heap.size 5 1 (.slice (some ⟨w.heap.size, 0, none⟩) size size) size (byteCells (fixedL n size)) := fun hb =>
    hb.owns (by simp [byteCells_length, fixedL_len]) (Nat.le_refl _) (by omega)
  refine join0 (fun w' => Blk w' w.heap.size 5 (byteCells (fixedL n size)) ∧ Ext No w w') (fun w' ⟨hb, he⟩ => hK _ w' (hsl hb) he) fun J hJ => ?_
  refine pur (len_sl _ _ _) ?_
  refine loop1 (σ := Nat) (fun i a w' => a = .int .i64 (i : Int) ∧ i ≤ size ∧ Blk w' w.heap.size 5 (byteCells ((fixedL n size).take i) ++ List.replicate (size - i) (.int .u8 0)) ∧ Ext No w w') (fun i => size - i) 0
    ⟨rfl, by omega, by simpa [byteCells] using b, e1⟩ ?_
  rintro i a w2 ⟨rfl, hi, b2, e2⟩ L hL
  refine pur (bin_lss _ _ _) (condD (fun hlt => ?_) (fun hge => ?_))
  · have hlt' : i < size := by omega
    refine pur ((bin_mul _ _ _).trans (by rw [wi64 (by omega) (by omega)])) (pur ((bin_shr (by omega) (by simp only [IntKind.bits]; omega)).trans (by rw [shr8 n i (by omega)])) (pur conv8u (pur (index_sl ⟨by omega, by omega⟩) ?_)))
    rw [Addr.add_mk]
    have hl : (byteCells ((fixedL n size).take i)).length = i := by rw [byteCells_length, List.length_take, fixedL_len]; omega
    refine storeB b2 (by simp [hl]; omega) rfl fun w3 b3 e3 _ => ?_
    refine pur (add64 (c := ((i + 1 : Nat) : Int)) (by omega) (by omega) (by omega)) ?_
    refine hL (i + 1) _ _ ⟨rfl, by omega, ?_, e2.fresh e3 fun b hb => .inr (by rw [show b = w.heap.size from hb]; exact Nat.le_refl _)⟩ (by omega)
    have hget : (fixedL n size)[i]? = some (UInt8.ofNat (n / 256 ^ i)) := by simp [fixedL, hlt']
    rw [List.take_add_one, hget, byteCells_append]
    have hr : List.replicate (size - i) (Value.int .u8 0) = .int .u8 0 :: List.replicate (size - (i + 1)) (.int .u8 0) := by
      rw [← List.replicate_succ]; congr 1; omega
    have hv : Value.int .u8 (((n / 256 ^ i : Nat) : Int) % 256) = .int .u8 ((UInt8.ofNat (n / 256 ^ i)).toNat : Int) := by simp
    rw [hr, hv] at b3
    have : (0 + (i : Int).toNat * 1) = i := by omega
    rw [this, List.set_append_right _ _ (by omega), hl, Nat.sub_self] at b3
    simpa [byteCells] using b3
  · have : (fixedL n size).take i = fixedL n size := List.take_of_length_le (by rw [fixedL_len]; omega)
    rw [this, show size - i = 0 by omega] at b2
    exact hJ _ ⟨by simpa using b2, e2⟩

theorem ifB_undef (want : Bool) (X Y : Prop) : IfB undef want X Y = Y := by unfold IfB isB undef; simp
def fitsB (seq n : Nat) : Bool := decide (seq ≤ 72057594037927935) && (decide (n = 0) || decide (n - 1 ≤ 72057594037927935 - seq))
theorem c32 (seq n : Nat) (hs : seq < 18446744073709551616) (hn : n ≤ 140737488355328) {K : Value → World → Prop} {w : World} (hK : K (.bool (fitsB seq n)) w) : CallS Try.prog 32 #[.int .u64 (seq : Int), .int .i64 (n : Int)] K w := by
  refine s32_call hm ?_
  unfold s32
  refine pur (bin_leq _ _ _) ?_
  by_cases h1 : seq ≤ 72057594037927935
  · have h1' : (seq : Int) ≤ 72057594037927935 := by omega
    refine join1 (fun a w' => w = w' ∧ a = .bool (decide (n = 0))) ?_ fun J hJ => ?_
    · rintro a w' ⟨rfl, rfl⟩
      refine join1 (fun a w' => w = w' ∧ (n = 0 ∨ a = .bool (decide (n - 1 ≤ 72057594037927935 - seq)))) ?_ fun J hJ => ?_
      · rintro a w' ⟨rfl, ha⟩
        refine join1 (fun a w' => w = w' ∧ a = .bool (fitsB seq n)) ?_ fun J hJ => ?_
        · rintro a w' ⟨rfl, rfl⟩
          refine pur (pick_b _ _ _) ?_
          rw [if_pos (by simpa using h1')]; exact hK
        · rw [ifB_eq, if_pos (by simpa using h1')]
          refine pur (pick_b _ _ _) (hJ _ _ ⟨rfl, ?_⟩)
          by_cases h0 : n = 0
          · simp [h0, fitsB, h1]
          · obtain rfl := ha.resolve_left h0
            simp [h0, fitsB, h1]
      · rw [ifB_eq]
        by_cases h0 : n = 0
        · rw [if_neg (by simp [h0])]
          exact hJ _ _ ⟨rfl, .inl h0⟩
        · rw [if_pos (by simp [h0])]
          refine pur (sub64 (c := ((n - 1 : Nat) : Int)) (by omega) (by omega) (by omega)) (pur (conv64u (by omega) (by omega)) (pur ((bin_sub _ _ _).trans (by rw [wu64 (by omega) (by omega)])) (pur (bin_leq _ _ _) (hJ _ _ ⟨rfl, .inr ?_⟩))))
          congr 1
          rw [Bool.eq_iff_iff]; simp; omega
    · rw [ifB_eq, if_pos (by simpa using h1')]
      refine pur (bin_eql _ _ _) (hJ _ _ ⟨rfl, ?_⟩)
      congr 1
      rw [Bool.eq_iff_iff]; simp
  · have h1' : ¬ (seq : Int) ≤ 72057594037927935 := by omega
    refine join1 (fun a w' => w = w' ∧ a = undef) ?_ fun J hJ => ?_
    · rintro a w' ⟨rfl, rfl⟩
      refine join1 (fun a w' => w = w') ?_ fun J hJ => ?_
      · rintro a w' rfl
        refine join1 (fun a w' => w = w') ?_ fun J hJ => ?_
        · rintro a w' rfl
          refine pur (pick_b _ _ _) ?_
          rw [if_neg (by simpa using h1')]
          have : fitsB seq n = false := by simp [fitsB, h1]
          rw [this] at hK; exact hK
        · rw [ifB_eq, if_neg (by simpa using h1')]
          exact hJ _ _ rfl
      · rw [ifB_undef]
        exact hJ _ _ rfl
    · rw [ifB_eq, if_neg (by simpa using h1')]
      exact hJ _ _ ⟨rfl, rfl⟩
end Go.Proofs.Ytambcnlkdnmekaa
/-! Batches: Encode; Same; what lives; the reference's Size. -/
namespace Go.Proofs.Ytambcnlkdnmekaa
open Go SG Go.RowKit Go.Lib
set_option linter.unusedVariables false
set_option maxRecDepth 4000
set_option linter.unusedSimpArgs false

def encBody (rs : List Rec) : List UInt8 := rs.flatMap encRec
theorem encBody_len (rs : List Rec) : ((encBody rs).length : Int) = sumEnc rs := by
  induction rs with
  | nil => rfl
  | cons r l ih => simp only [encBody, List.flatMap_cons, List.length_append, sumEnc, List.map_cons, List.sum_cons] at ih ⊢; omega
def encHead (seq n : Nat) : List UInt8 := fixedL seq 8 ++ fixedL n 4
theorem encHead_len (seq n : Nat) : (encHead seq n).length = 12 := by simp [encHead, fixedL_len]
def encAll (seq : Nat) (rs : List Rec) : List UInt8 := encHead seq rs.length ++ encBody rs
def encErr (seq : Nat) (rs : List Rec) : Int :=
  if fitsB seq rs.length = false then 1 else if 4096 < rs.length then 2 else if firstErr rs ≠ 0 then firstErr rs else if 4194304 < Sizes rs then 2 else 0
theorem firstErr_all : ∀ (l : List Rec), (∀ r ∈ l, chk r = 0) → firstErr l = 0
  | [], _ => rfl
  | r :: l, h => by unfold firstErr; rw [if_pos (h r (by simp))]; exact firstErr_all l fun r hr => h r (by simp [hr])

theorem c33 (n : Nat) {K : Value → World → Prop} {w : World}
    (hK : ∀ v w', w'.ownsRow w.heap.size 5 1 v 8 (byteCells (fixedL n 8)) → Ext No w w' → K v w') : CallS Try.prog 33 #[.int .u64 (n : Int)] K w := by
  refine s33_call hm ?_
  unfold s33
  exact c57 n 8 (by omega) hK
theorem c34 (n : Nat) (hn : n < 4294967296) {K : Value → World → Prop} {w : World}
    (hK : ∀ v w', w'.ownsRow w.heap.size 5 1 v 4 (byteCells (fixedL n 4)) → Ext No w w' → K v w') : CallS Try.prog 34 #[.int .u32 (n : Int)] K w := by
  refine s34_call hm ?_
  unfold s34
  exact pur (conv64u (by omega) (by omega)) (c57 n 4 (by omega) hK)

set_option maxHeartbeats 1000000 in
theorem c17 {w : World} {x : Value} {seq : Nat} {rs : List Rec} (hseq : seq < 18446744073709551616) (hs : Sl w x rs.length 4 (flat Rec.cells rs)) (hrs : AllOk rs) (hrl : rs.length ≤ 2932031007402) {K : Value → World → Prop}
    (hE : ∀ w', encErr seq rs ≠ 0 → Ext No w w' → K (.tuple [.slice none 0 0, .int .i64 (encErr seq rs)].toArray) w')
    (hK : ∀ v w', encErr seq rs = 0 → w'.ownsRow w.heap.size 5 1 v (encAll seq rs).length (byteCells (encAll seq rs)) → Ext No w w' → K (.tuple [v, .int .i64 0].toArray) w') :
    CallS Try.prog 17 #[.int .u64 (seq : Int), x] K w := by
  refine s17_call hm ?_
  unfold s17
  refine pur hs.len (c32 seq rs.length hseq (by omega) (pur (not_b _) (condB (fun hf => ?_) (fun hf => ?_))))
  · have hf' : fitsB seq rs.length = false := by simpa using hf
    have h1 : encErr seq rs = 1 := by unfold encErr; rw [if_pos hf']
    have := hE w (by rw [h1]; decide) (Ext.refl _ w)
    rw [h1] at this; exact this
  · have hf' : fitsB seq rs.length = true := by simpa using hf
    refine pur hs.len (pur (bin_gtr _ _ _) (condD (fun hbig => ?_) (fun hsmall => ?_)))
    · have h1 : encErr seq rs = 2 := by unfold encErr; rw [if_neg (by rw [hf']; simp), if_pos (by omega)]
      have := hE w (by rw [h1]; decide) (Ext.refl _ w)
      rw [h1] at this; exact this
    · have hlen : rs.length ≤ 4096 := by omega
      refine c33 seq fun v1 w1 ho1 e1 => ?_
      refine pur hs.len (pur (conv32u (by omega) (by omega)) ?_)
      refine c34 rs.length (by omega) fun v2 w2 ho2 e2 => ?_
      have ho1' := owns_ext ho1 e2 fun _ _ hh => hh
      refine append_sl T40 40 ho1' (Sl.own ho2) (byteCells_one _) (by omega) (by omega) (Nat.le_trans e1.size e2.size) fun v3 w3 ho3 hg3 _ => ?_
      rw [← byteCells_append] at ho3
      have e3 : Ext No w w3 := ext_fr' (e1.trans e2) (ext_grown ho1' hg3) (Nat.le_refl _)
      have ho3' : w3.ownsRow w.heap.size 5 1 v3 (encHead seq rs.length).length (byteCells (encHead seq rs.length)) := by rw [encHead_len]; exact ho3
      -- behind the loop
      refine join1 (fun a w' => ∃ lst : List UInt8, w'.ownsRow w.heap.size 5 1 a lst.length (byteCells lst) ∧ Ext No w w' ∧ firstErr rs = 0 ∧ (lst = encAll seq rs ∨ (4194304 < lst.length ∧ lst.length ≤ 4300000 ∧ 4194304 < Sizes rs))) ?_ fun J hJ => ?_
      · rintro a w' ⟨lst, ho, he, hfe, hcase⟩
        have hgr : Good rs := fun r hr => ⟨hrs r hr, firstErr_zero rs hfe r hr⟩
        have hb := encBody_len rs
        have hal : ((encAll seq rs).length : Int) = Sizes rs := by simp only [encAll, List.length_append, encHead_len, Sizes]; omega
        have hsl := sumEnc_le hgr
        have herr : encErr seq rs = if 4194304 < Sizes rs then 2 else 0 := by unfold encErr; rw [if_neg (by rw [hf']; simp), if_neg (by omega), if_neg (by simp [hfe])]
        refine pur (Sl.own ho).len (pur (bin_gtr _ _ _) (condD (fun hbig => ?_) (fun hsm => ?_)))
        · have h2 : encErr seq rs = 2 := by
            rw [herr, if_pos]
            rcases hcase with h | h
            · rw [h] at hbig; omega
            · exact h.2.2
          have := hE w' (by rw [h2]; decide) he
          rw [h2] at this; exact this
        · have hl : lst = encAll seq rs := hcase.resolve_right (by omega)
          subst hl
          exact hK a w' (by rw [herr, if_neg (by omega)]) ho he
      · refine pur hs.len ?_
        refine loop2 (σ := Nat × List UInt8) (fun s a b w' => b = .int .i64 (s.1 : Int) ∧ s.1 ≤ rs.length ∧ w'.ownsRow w.heap.size 5 1 a s.2.length (byteCells s.2) ∧ Ext No w w' ∧ (∀ j r, j < s.1 → rs[j]? = some r → chk r = 0) ∧
            (s.2 = encHead seq rs.length ++ encBody (rs.take s.1) ∨ (4194304 < s.2.length ∧ s.2.length ≤ 4300000 ∧ (s.2.length : Int) ≤ Sizes (rs.take s.1))) ∧ s.2.length ≤ 4300000)
          (fun s => rs.length - s.1) (0, encHead seq rs.length) ⟨rfl, by simp, ho3', e3, fun _ _ h => by simp at h, .inl (by simp [encBody]), by rw [encHead_len]; omega⟩ ?_
        rintro ⟨i, lst⟩ a b w4 ⟨rfl, hi, ho, he, hz, hcase, hll⟩ L hL
        simp only at hi ho hz hcase hll hL
        have hgt : Good (rs.take i) := fun r hr => by
          obtain ⟨j, hj⟩ := List.getElem?_of_mem hr
          rw [List.getElem?_take] at hj
          split at hj
          · exact ⟨hrs r (List.mem_of_getElem? hj), hz j r (by assumption) hj⟩
          · cases hj
        refine pur (bin_lss _ _ _) (condD (fun hlt => ?_) (fun hge => ?_))
        · have hlt' : i < rs.length := by omega
          obtain ⟨r, hr⟩ : ∃ r, rs[i]? = some r := ⟨rs[i], List.getElem?_eq_getElem hlt'⟩
          have hrok := hrs r (List.mem_of_getElem? hr)
          have hnext : rs.take (i + 1) = rs.take i ++ [r] := by rw [List.take_add_one, hr]; rfl
          have hsn : sumEnc (rs.take (i + 1)) = sumEnc (rs.take i) + (encRec r).length := by rw [hnext, sumEnc_append, sumEnc_one]
          refine join1 (fun a w' => ∃ lst' : List UInt8, chk r = 0 ∧ w'.ownsRow w.heap.size 5 1 a lst'.length (byteCells lst') ∧ Ext No w w' ∧
              (lst' = encHead seq rs.length ++ encBody (rs.take (i + 1)) ∨ (4194304 < lst'.length ∧ lst'.length ≤ 4300000 ∧ (lst'.length : Int) ≤ Sizes (rs.take (i + 1)))) ∧ lst'.length ≤ 4300000) ?_ fun J2 hJ2 => ?_
          · rintro a' w' ⟨lst', h0, ho', he', hc', hll'⟩
            refine pur (add64 (c := ((i + 1 : Nat) : Int)) (by omega) (by omega) (by omega)) ?_
            refine hL (i + 1, lst') _ _ _ ⟨rfl, by simp only; omega, ho', he', fun j r' hj hr' => ?_, hc', hll'⟩ (by simp only; omega)
            simp only at hj
            by_cases hji : j = i
            · subst hji; rw [hr] at hr'; cases hr'; exact h0
            · exact hz j r' (by omega) hr'
          · obtain ⟨ad, ha1, ha2, ha3⟩ := recs_at (hs.no he) hr
            refine pur ha1 (loadA ha2 rfl (box fun w5 b5 e5 z5 => ?_))
            refine storeAll b5 rfl (by simp [Value.cells]) (Rec.one r) fun w6 b6 e6 z6 => ?_
            have e46 : Ext No w4 w6 := e5.fresh e6 fun b hh => .inr (by rw [show b = w4.heap.size from hh]; exact Nat.le_refl _)
            refine loadA (At.of_blk b6) rfl ?_
            refine c19 r hrok fun w7 e7 => ?_
            have e47 := e46.trans e7
            refine pur (bin_neq _ _ _) (condN (fun hne => ?_) (fun h0 => ?_))
            · have hfe := firstErr_at rs i r hr hz hne
              have h1 : encErr seq rs = chk r := by unfold encErr; rw [if_neg (by rw [hf']; simp), if_neg (by omega), if_pos (by rw [hfe]; exact hne), hfe]
              have := hE w7 (by rw [h1]; exact hne) (he.trans e47)
              rw [h1] at this; exact this
            · have ho7 := owns_ext ho e47 fun _ _ hh => hh
              have hel := encRec_len hrok h0
              refine pur (Sl.own ho7).len (pur (bin_leq _ _ _) (condD (fun hle => ?_) (fun hgt' => ?_)))
              · refine loadA (At.of_blk (b6.no e7)) rfl ?_
                refine c30 r hrok h0 fun v8 w8 ho8 e8 => ?_
                have ho7' := owns_ext ho7 e8 fun _ _ hh => hh
                refine append_sl T40 40 ho7' (Sl.own ho8) (byteCells_one _) (by omega) (by omega) (Nat.le_trans he.size (Nat.le_trans e47.size e8.size)) fun v9 w9 ho9 hg9 _ => ?_
                rw [← byteCells_append] at ho9
                have hl : lst = encHead seq rs.length ++ encBody (rs.take i) := hcase.resolve_right (by omega)
                refine hJ2 _ _ ⟨lst ++ encRec r, h0, by simpa using ho9, ext_fr' (he.trans (e47.trans e8)) (ext_grown ho7' hg9) (Nat.le_refl _), .inl ?_, by simp; omega⟩
                rw [hl, hnext]; simp [encBody]
              · refine hJ2 _ _ ⟨lst, h0, ho7, he.trans e47, .inr ?_, hll⟩
                refine ⟨by omega, by omega, ?_⟩
                have hb := encBody_len (rs.take i)
                have hcur : (lst.length : Int) ≤ Sizes (rs.take i) := by
                  rcases hcase with h | h
                  · rw [h]; simp only [List.length_append, encHead_len, Sizes]; omega
                  · exact h.2.2
                unfold Sizes at hcur ⊢; omega
        · have hall : rs.take i = rs := List.take_of_length_le (by omega)
          rw [hall] at hcase hgt
          refine hJ _ _ ⟨lst, ho, he, firstErr_all rs fun r hr => (hgt r hr).2, ?_⟩
          rcases hcase with h | h
          · exact .inl h
          · exact .inr ⟨h.1, h.2.1, by omega⟩
end Go.Proofs.Ytambcnlkdnmekaa
/-! Batches: Same; what lives; the reference's Size. -/
namespace Go.Proofs.Ytambcnlkdnmekaa
open Go SG Go.RowKit Go.Lib
set_option linter.unusedVariables false
set_option maxRecDepth 4000
set_option linter.unusedSimpArgs false

theorem eq31 (d : Nat) (w : World) (x0 : Int) (x1 : Int) (x2 x3 : ByteArray) :
    (Op.equalIn (d + 2) 31 (.agg #[.int .u32 x0, .int .i64 x1, .string x2, .string x3]) (.agg #[.int .u32 x0, .int .i64 x1, .string x2, .string x3])).run Try.prog w = .ok true w := by
  have hu := Try.underlying31
  have hf : Try.prog.fieldsOf 31 = _ := Program.fieldsOf.eq_1 Try.prog 31 |>.trans (by rw [hu])
  rw [run_equalIn_struct w (d + 1) 31 _ _ (by rw [hf]; exact hu) (by kernel_rfl), hf]
  go_simp
/-- a record is no other than itself -/
theorem neq31 (r : Rec) {x y : Operand} (w : World) : (do eqGuard .neq 31 x y r.agg r.agg; binOp .neq 31 r.agg r.agg : Sem Value).run Try.prog w = .ok (.bool false) w := by
  have h1 : (eqGuard .neq 31 x y r.agg r.agg).run Try.prog w = .ok () w := run_eqGuard_agg w .neq 31 x y _ _ (by kernel_rfl)
  have h2 : (Op.equal 31 r.agg r.agg).run Try.prog w = .ok true w := eq31 9998 w r.fam r.kind r.key r.val
  rw [Sem.run_bind, h1]
  show (binOp .neq 31 r.agg r.agg).run Try.prog w = _
  simp only [Rec.agg, Rec.cells] at h2 ⊢
  simp [binOp, h2]

theorem c13 {w : World} {x y : Value} {rs : List Rec} (hx : Sl w x rs.length 4 (flat Rec.cells rs)) (hy : Sl w y rs.length 4 (flat Rec.cells rs)) (hrl : rs.length ≤ 2932031007402) {K : Value → World → Prop}
    (hK : ∀ w', Ext No w w' → K (.bool true) w') : CallS Try.prog 13 #[x, y] K w := by
  refine s13_call hm ?_
  unfold s13
  refine pur hx.len (pur hy.len (pur (bin_neq _ _ _) (condF (by simp) ?_)))
  refine join0 (fun w' => Ext No w w') (fun w' e => hK w' e) fun J hJ => ?_
  refine loop1 (σ := Nat) (fun i a w' => a = .int .i64 (i : Int) ∧ i ≤ rs.length ∧ Ext No w w') (fun i => rs.length - i) 0 ⟨rfl, by omega, Ext.refl _ _⟩ ?_
  rintro i a w1 ⟨rfl, hi, e1⟩ L hL
  refine pur hx.len (pur (bin_lss _ _ _) (condD (fun hlt => ?_) (fun _ => hJ _ e1)))
  obtain ⟨r, hr⟩ : ∃ r, rs[i]? = some r := ⟨rs[i]'(by omega), List.getElem?_eq_getElem (by omega)⟩
  have e1d : Ext No w w1.drew := e1.trans (Ext.drew w1)
  obtain ⟨ad, ha1, ha2, ha3⟩ := recs_at (hx.no e1d) hr
  obtain ⟨ad', hb1, hb2, hb3⟩ := recs_at (hy.no e1d) hr
  refine draw (fun w' => At w' ad r.cells ∧ At w' ad' r.cells) ⟨ha2, hb2⟩ ?_
  refine pur ha1 (pur hb1 (heldA (fun w' h => h.1) rfl (heldA (fun w' h => h.2) rfl ⟨.bool false, fun w' _ => neq31 r w', condF rfl ?_⟩)))
  exact pur (add64 (c := ((i + 1 : Nat) : Int)) (by omega) (by omega) (by omega)) (hL (i + 1) _ _ ⟨rfl, by omega, e1d⟩ (by omega))

theorem c29 {w : World} {g : Nat} {lv mv : Value} {recs : List Rec} {sz : Int} {marks : List Nat} (hb : BatchIs w g lv mv recs sz marks) (f : Nat) (k v : ByteArray) (hr : (Rec.mk f 1 k v).Ok) {K : Value → World → Prop}
    (hK : ∀ w' lv' sz', BatchIs w' g lv' mv (addAll recs [Rec.mk f 1 k v]).2 sz' marks → Ext (Foot g lv mv) w w' → (∀ b, lv'.ownBlock = some b → lv.ownBlock = some b ∨ w.heap.size ≤ b) →
      K (.int .i64 (addAll recs [Rec.mk f 1 k v]).1) w') :
    CallS Try.prog 29 #[.pointer (some ⟨g, 0, none⟩), .int .u32 (f : Int), .string k, .string v] K w := by
  refine s29_call hm ?_
  unfold s29
  exact runS (build31 w _ _ _ _) (c8 hb hr hK)

theorem BatchIs.new {w : World} {g : Nat} (h : BatchAt w g (.slice none 0 0) (.slice none 0 0) [] 0 []) : BatchIs w g (.slice none 0 0) (.slice none 0 0) [] 0 [] :=
  ⟨h, .inr ⟨rfl, rfl⟩, by simp [Good], by simp, by simp⟩
theorem foot_new {g b : Nat} : Foot g (.slice none 0 0) (.slice none 0 0) b → b = g := by simp [Foot, Value.ownBlock]

def lr : Rec := ⟨0, 1, ⟨#[97]⟩, ⟨#[98]⟩⟩
theorem lr_ok : lr.Ok := ⟨by decide, by decide, by decide⟩
theorem lr_all : encAll 5 [lr] = [5, 0, 0, 0, 0, 0, 0, 0, 1, 0, 0, 0, 1, 0, 1, 97, 1, 98] := by
  simp [encAll, encHead, fixedL, encBody, encRec, lr, varint_small, ByteArray.size]
  decide
theorem lr_size : Sizes [lr] = 18 := by
  have h3 := encBody_len [lr]
  have : (encAll 5 [lr]).length = 18 := by rw [lr_all]; rfl
  simp only [encAll, List.length_append, encHead_len] at this
  unfold Sizes
  omega
theorem lr_add : addAll [] [lr] = (0, [lr]) := by
  have h1 : firstErr [lr] = 0 := by decide
  have h2 : sumEnc [lr] = 6 := by have := lr_size; unfold Sizes at this; omega
  unfold addAll
  rw [if_neg (by simp [h1]), if_neg (by rw [h2, show Sizes [] = 12 from rfl]; decide)]
  rfl

theorem c14 {w : World} {K : Value → World → Prop} (hK : ∀ w', Ext No w w' → K (.bool true) w') : CallS Try.prog 14 #[] K w := by
  refine s14_call hm ?_
  unfold s14
  refine new26 fun w1 b1 e1 z1 => ?_
  refine c29 (BatchIs.new b1) 0 ⟨#[97]⟩ ⟨#[98]⟩ lr_ok fun w2 lv' sz' b2 e2 f2 => ?_
  have hadd : addAll [] [Rec.mk 0 1 ⟨#[97]⟩ ⟨#[98]⟩] = (0, [lr]) := lr_add
  rw [hadd] at b2 ⊢
  have e12 : Ext No w w2 := e1.fresh e2 fun b hb => .inr (by rw [foot_new hb]; exact Nat.le_refl _)
  refine c9 b2 fun v w3 e3 hs3 hv3 => ?_
  have hall : ∀ r ∈ [lr], r.Ok := by intro r hr; simp at hr; subst hr; exact lr_ok
  have herr : encErr 5 [lr] = 0 := by
    have h1 : firstErr [lr] = 0 := by decide
    unfold encErr
    rw [if_neg (by decide), if_neg (by decide), if_neg (by simp [h1]), if_neg (by rw [lr_size]; decide)]
  refine c17 (seq := 5) (by decide) hs3 hall (by simp) (fun w' h => absurd herr h) fun v4 w4 _ ho4 e4 => ?_
  have b4 := b2.no (e3.trans e4)
  have e14 := e12.trans (e3.trans e4)
  refine pur (extract_0 _ _) (pur (extract_1 _ _ _) (pur (bin_eql _ _ _) ?_))
  refine join1 (fun a w' => w4 = w' ∧ a = .bool true) ?_ fun J hJ => ?_
  · rintro a w' ⟨rfl, rfl⟩
    refine pur (pick_b _ _ _) ?_
    refine join1 (fun a w' => w4 = w' ∧ a = .bool true) ?_ fun J hJ => ?_
    · rintro a w' ⟨rfl, rfl⟩
      refine pur (pick_b _ _ _) ?_
      refine join1 (fun a w' => w4 = w' ∧ a = .bool true) ?_ fun J hJ => ?_
      · rintro a w' ⟨rfl, rfl⟩
        exact pur (pick_b _ _ _) (hK _ e14)
      · show IfB (.bool true) true _ _
        rw [ifB_eq, if_pos rfl]
        refine runS (bytes_str Try.underlying40 Try.underlying9 Try.underlying5 (Sl.own ho4)) (pur (str_eql _ _) (hJ _ _ ⟨rfl, ?_⟩))
        rw [lr_all]
        simp
    · show IfB (.bool true) true _ _
      rw [ifB_eq, if_pos rfl]
      refine c10 b4 (pur (bin_eql _ _ _) (hJ _ _ ⟨rfl, ?_⟩))
      rw [lr_size]; rfl
  · rw [ifB_eq, if_pos (by decide)]
    exact pur (bin_eql _ _ _) (hJ _ _ ⟨rfl, rfl⟩)
end Go.Proofs.Ytambcnlkdnmekaa
/-! Batches: a batch with its footprint; the laws of parts and of going back, walked. -/
namespace Go.Proofs.Ytambcnlkdnmekaa
open Go SG Go.RowKit Go.Lib
set_option linter.unusedVariables false
set_option maxRecDepth 4000
set_option linter.unusedSimpArgs false

set_option maxHeartbeats 400000 in
/-- the reference's Size -/
theorem c11 (r : Rec) (hr : r.Ok) {K : Value → World → Prop} {w : World} (hK : ∀ w', Ext No w w' → K (.int .i64 ((encRec r).length : Int)) w') : CallS Try.prog 11 #[r.agg] K w := by
  have hf := hr.fam
  have hk := hr.key
  have hv := hr.val
  have v1 := varint0 r.fam (by omega)
  have v2 := varint0 r.key.size (by omega)
  have v3 := varint0 r.val.size (by omega)
  refine s11_call hm ?_
  unfold s11
  refine box fun w1 b1 e1 z1 => ?_
  have b : Blk w1 w.heap.size 31 r.cells := b1
  refine draw (fun w' => Blk w' w.heap.size 31 r.cells) b ?_
  refine pur (field_ptr _ _ _) (pur (field_ptr _ _ _) (pur (field_ptr _ _ _) ?_))
  refine heldC (v := .int .u32 (r.fam : Int)) (fun w' h => h.cell 0) (pur (conv64u (by omega) (by omega)) ?_)
  refine heldC (v := .string r.key) (fun w' h => h.cell 2) (pur (len_str _) (pur (conv64u (by omega) (by omega)) ?_))
  refine heldC (v := .string r.key) (fun w' h => h.cell 2) (pur (len_str _) ?_)
  refine c28 r.fam (by omega) fun va w2 ho2 e2' => ?_
  have e2 : Ext No w1 w2 := (Ext.drew (S := No) w1).trans e2'
  refine ⟨b.no e2, pur (Sl.own ho2).len (pur (add64 rfl (by omega) (by omega)) ?_)⟩
  refine c28 r.key.size (by omega) fun vb w3 ho3 e3 => ?_
  have b3 := b.no (e2.trans e3)
  refine ⟨b3, pur (Sl.own ho3).len (pur (add64 rfl (by omega) (by omega)) (pur (add64 rfl (by omega) (by omega)) ?_))⟩
  refine join1 (fun a w' => a = .int .i64 ((encRec r).length : Int) ∧ Ext No w w') (fun a w' ⟨h, e⟩ => by rw [h]; exact hK w' e) fun J hJ => ?_
  have e13 := e1.trans (e2.trans e3)
  refine pur (field_ptr _ _ _) (loadB b3 (v := .int .i64 r.kind) rfl (pur (bin_neq _ _ _) (condN (fun h0 => ?_) (fun h0 => ?_))))
  · refine draw (fun w' => Blk w' w.heap.size 31 r.cells) b3 ?_
    refine pur (field_ptr _ _ _) (pur (field_ptr _ _ _) ?_)
    refine heldC (v := .string r.val) (fun w' h => h.cell 3) (pur (len_str _) (pur (conv64u (by omega) (by omega)) ?_))
    refine heldC (v := .string r.val) (fun w' h => h.cell 3) (pur (len_str _) ?_)
    refine c28 r.val.size (by omega) fun vc w4 ho4 e4 => ?_
    refine ⟨b3.no ((Ext.drew w3).trans e4), pur (Sl.own ho4).len (pur (add64 rfl (by omega) (by omega)) (pur (add64 rfl (by omega) (by omega)) (hJ _ _ ⟨?_, e13.trans ((Ext.drew w3).trans e4)⟩)))⟩
    congr 1
    simp only [encRec, if_neg h0, List.length_append, List.length_cons, size_data]
    omega
  · refine hJ _ _ ⟨?_, e13⟩
    congr 1
    simp only [encRec, if_pos h0, List.length_append, List.length_cons, size_data, List.length_nil]
    omega

/-! ### a batch with its footprint -/
def BatchF (w : World) (g : Nat) (recs : List Rec) (marks : List Nat) (F : Nat → Prop) : Prop := ∃ lv mv sz, BatchIs w g lv mv recs sz marks ∧ Foot g lv mv = F
namespace BatchF
variable {w w' : World} {g g' : Nat} {recs recs' rs : List Rec} {marks marks' : List Nat} {F F' S : Nat → Prop} {K : Value → World → Prop}
theorem lt (h : BatchF w g recs marks F) {b : Nat} (hb : F b) : b < w.heap.size := by obtain ⟨lv, mv, sz, h, rfl⟩ := h; exact h.at_.lt hb
theorem ext (h : BatchF w g recs marks F) (e : Ext S w w') (hn : ∀ b, F b → ¬ S b) : BatchF w' g recs marks F := by obtain ⟨lv, mv, sz, h, rfl⟩ := h; exact ⟨lv, mv, sz, h.ext e hn, rfl⟩
theorem no (h : BatchF w g recs marks F) (e : Ext No w w') : BatchF w' g recs marks F := h.ext e fun _ _ hh => hh
theorem len (h : BatchF w g recs marks F) : recs.length ≤ 4096 := by obtain ⟨lv, mv, sz, h, rfl⟩ := h; exact h.len
theorem good (h : BatchF w g recs marks F) : Good recs := by obtain ⟨lv, mv, sz, h, rfl⟩ := h; exact h.good
theorem plain (h : BatchF w g recs marks F) : ∀ r ∈ recs, plain r = r := by obtain ⟨lv, mv, sz, h, rfl⟩ := h; exact h.plain
theorem new (hK : ∀ w', BatchF w' w.heap.size [] [] (At1 w.heap.size) → Ext No w w' → w'.heap.size = w.heap.size + 1 → K (.pointer (some ⟨w.heap.size, 0, none⟩)) w') :
    RunS Try.prog (Instr.build 26 [].toArray) (fun t w => BoxS 26 t K w) w :=
  new26 fun w1 b1 e1 z1 => hK w1 ⟨_, _, _, BatchIs.new b1, by funext b; simp [Foot, At1, Value.ownBlock]⟩ e1 z1
theorem add {r : Rec} (h : BatchF w g recs marks F) (hr : r.Ok)
    (hK : ∀ w' F', BatchF w' g (addAll recs [r]).2 marks F' → Ext F w w' → (∀ b, F' b → F b ∨ w.heap.size ≤ b) → K (.int .i64 (addAll recs [r]).1) w') :
    CallS Try.prog 8 #[.pointer (some ⟨g, 0, none⟩), r.agg] K w := by
  obtain ⟨lv, mv, sz, h, rfl⟩ := h
  refine c8 h hr fun w' lv' sz' h1 h2 h3 => hK w' _ ⟨_, _, _, h1, rfl⟩ h2 fun b hb => ?_
  rcases hb with hb | hb | hb
  · exact .inl (.inl hb)
  · exact (h3 b hb).imp (fun h => .inr (.inl h)) id
  · exact .inl (.inr (.inr hb))
theorem append (h : BatchF w g recs marks F) (h' : BatchF w g' recs' marks' F')
    (hK : ∀ w' F1, BatchF w' g (addAll recs recs').2 marks F1 → Ext F w w' → (∀ b, F1 b → F b ∨ w.heap.size ≤ b) → K (.int .i64 (addAll recs recs').1) w') :
    CallS Try.prog 12 #[.pointer (some ⟨g, 0, none⟩), .pointer (some ⟨g', 0, none⟩)] K w := by
  obtain ⟨lv, mv, sz, h, rfl⟩ := h
  obtain ⟨lv', mv', sz', h', rfl⟩ := h'
  refine c12 h h' fun w' lv1 sz1 h1 h2 h3 => hK w' _ ⟨_, _, _, h1, rfl⟩ h2 fun b hb => ?_
  rcases hb with hb | hb | hb
  · exact .inl (.inl hb)
  · exact (h3 b hb).imp (fun h => .inr (.inl h)) id
  · exact .inl (.inr (.inr hb))
theorem records (h : BatchF w g recs marks F) (hK : ∀ v w', Ext No w w' → Sl w' v recs.length 4 (flat Rec.cells recs) → (∀ b, v.ownBlock = some b → w.heap.size ≤ b ∧ b < w'.heap.size) → K v w') :
    CallS Try.prog 9 #[.pointer (some ⟨g, 0, none⟩)] K w := by
  obtain ⟨lv, mv, sz, h, rfl⟩ := h
  exact c9 h hK
theorem size (h : BatchF w g recs marks F) (hK : K (.int .i64 (Sizes recs)) w) : CallS Try.prog 10 #[.pointer (some ⟨g, 0, none⟩)] K w := by
  obtain ⟨lv, mv, sz, h, rfl⟩ := h
  exact c10 h hK
theorem save (h : BatchF w g recs marks F) (hml : marks.length ≤ 8796093022208) (hK : ∀ w' F', BatchF w' g recs (marks ++ [recs.length]) F' → Ext F w w' → (∀ b, F' b → F b ∨ w.heap.size ≤ b) → K undef w') :
    CallS Try.prog 15 #[.pointer (some ⟨g, 0, none⟩)] K w := by
  obtain ⟨lv, mv, sz, h, rfl⟩ := h
  refine c15 h hml fun w' mv' h1 h2 h3 => hK w' _ ⟨_, _, _, h1, rfl⟩ h2 fun b hb => ?_
  rcases hb with hb | hb | hb
  · exact .inl (.inl hb)
  · exact .inl (.inr (.inl hb))
  · exact (h3 b hb).imp (fun h => .inr (.inr h)) id
theorem back (h : BatchF w g recs marks F) (hml : marks.length ≤ 8796093022208) (hmk : MarksOk recs marks) (h0 : marks = [] → K (.int .i64 6) w)
    (hK : ∀ l m w' F', marks = l ++ [m] → BatchF w' g (recs.take m) l F' → Ext F w w' → (∀ b, F' b → F b) → K (.int .i64 0) w') : CallS Try.prog 16 #[.pointer (some ⟨g, 0, none⟩)] K w := by
  obtain ⟨lv, mv, sz, h, rfl⟩ := h
  exact c16 h hml hmk h0 fun l m w' lv' mv' sz' h1 h2 h3 h4 => hK l m w' _ h1 ⟨_, _, _, h2, rfl⟩ h3 h4
end BatchF

/-! ### what 'all' keeps -/
theorem addAll_sizes {recs rs : List Rec} (h : Sizes recs ≤ 4194304) : Sizes (addAll recs rs).2 ≤ 4194304 := by
  unfold addAll
  split
  · exact h
  · split
    · exact h
    · rename_i hn
      simp only [Sizes, sumEnc_append, sumEnc_plain] at h hn ⊢
      omega
theorem addAll_one_ok {recs : List Rec} {r : Rec} (h : (addAll recs [r]).1 = 0) : chk r = 0 ∧ (addAll recs [r]).2 = recs ++ [plain r] ∧ recs.length + 1 ≤ 4096 ∧ Sizes recs + (encRec r).length ≤ 4194304 := by
  unfold addAll at h ⊢
  have h1 : firstErr [r] = chk r := by unfold firstErr; split <;> simp_all [firstErr]
  rw [h1] at h ⊢
  by_cases h0 : chk r = 0
  · simp only [h0, ne_eq, not_true, if_false, List.length_singleton, sumEnc_one] at h ⊢
    split at h
    · simp at h
    · rename_i hn
      rw [if_neg hn]
      refine ⟨trivial, rfl, by omega, by omega⟩
  · simp [h0] at h
theorem addAll_one_no {recs : List Rec} {r : Rec} (h : (addAll recs [r]).1 ≠ 0) : (addAll recs [r]).2 = recs ∧ (chk r = 0 → 4096 < recs.length + 1 ∨ 4194304 < Sizes recs + (encRec r).length) := by
  unfold addAll at h ⊢
  have h1 : firstErr [r] = chk r := by unfold firstErr; split <;> simp_all [firstErr]
  rw [h1] at h ⊢
  by_cases h0 : chk r = 0
  · simp only [h0, ne_eq, not_true, if_false, List.length_singleton, sumEnc_one] at h ⊢
    split at h
    · rename_i hn
      rw [if_pos hn]
      exact ⟨rfl, fun _ => hn⟩
    · simp at h
  · simp [h0]

/-- three batches that lie apart, all new since w -/
def St3 (w w' : World) (gx gy ga : Nat) (xs ys al : List Rec) : Prop :=
  ∃ Fx Fy Fa, BatchF w' gx xs [] Fx ∧ BatchF w' gy ys [] Fy ∧ BatchF w' ga al [] Fa ∧ (∀ b, Fx b → ¬ Fy b ∧ ¬ Fa b ∧ w.heap.size ≤ b) ∧ (∀ b, Fy b → ¬ Fa b ∧ w.heap.size ≤ b) ∧ (∀ b, Fa b → w.heap.size ≤ b) ∧ Ext No w w'
namespace St3
variable {w w' w'' : World} {gx gy ga : Nat} {xs ys al : List Rec} {K : Value → World → Prop}
theorem e (h : St3 w w' gx gy ga xs ys al) : Ext No w w' := by obtain ⟨_, _, _, _, _, _, _, _, _, e⟩ := h; exact e
theorem no (h : St3 w w' gx gy ga xs ys al) (k : Ext No w' w'') : St3 w w'' gx gy ga xs ys al := by
  obtain ⟨Fx, Fy, Fa, hx, hy, ha, h1, h2, h3, e⟩ := h
  exact ⟨Fx, Fy, Fa, hx.no k, hy.no k, ha.no k, h1, h2, h3, e.trans k⟩
theorem addX {r : Rec} (h : St3 w w' gx gy ga xs ys al) (hr : r.Ok) (hK : ∀ w'', St3 w w'' gx gy ga (addAll xs [r]).2 ys al → K (.int .i64 (addAll xs [r]).1) w'') : CallS Try.prog 8 #[.pointer (some ⟨gx, 0, none⟩), r.agg] K w' := by
  obtain ⟨Fx, Fy, Fa, hx, hy, ha, h1, h2, h3, e⟩ := h
  refine hx.add hr fun w'' F' n1 n2 n3 => hK w'' ⟨F', Fy, Fa, n1, hy.ext n2 fun b hb hh => (h1 b hh).1 hb, ha.ext n2 fun b hb hh => (h1 b hh).2.1 hb, fun b hb => ?_, h2, h3, e.fresh n2 fun b hb => .inr (h1 b hb).2.2⟩
  rcases n3 b hb with h | h
  · exact h1 b h
  · exact ⟨fun hh => by have := hy.lt hh; omega, fun hh => by have := ha.lt hh; omega, by have := e.size; omega⟩
theorem addY {r : Rec} (h : St3 w w' gx gy ga xs ys al) (hr : r.Ok) (hK : ∀ w'', St3 w w'' gx gy ga xs (addAll ys [r]).2 al → K (.int .i64 (addAll ys [r]).1) w'') : CallS Try.prog 8 #[.pointer (some ⟨gy, 0, none⟩), r.agg] K w' := by
  obtain ⟨Fx, Fy, Fa, hx, hy, ha, h1, h2, h3, e⟩ := h
  refine hy.add hr fun w'' F' n1 n2 n3 => hK w'' ⟨Fx, F', Fa, hx.ext n2 fun b hb hh => (h1 b hb).1 hh, n1, ha.ext n2 fun b hb hh => (h2 b hh).1 hb, fun b hb => ⟨fun hh => ?_, (h1 b hb).2⟩, fun b hb => ?_, h3, e.fresh n2 fun b hb => .inr (h2 b hb).2⟩
  · rcases n3 b hh with h | h
    · exact (h1 b hb).1 h
    · have := hx.lt hb; omega
  · rcases n3 b hb with h | h
    · exact h2 b h
    · exact ⟨fun hh => by have := ha.lt hh; omega, by have := e.size; omega⟩
theorem addA {r : Rec} (h : St3 w w' gx gy ga xs ys al) (hr : r.Ok) (hK : ∀ w'', St3 w w'' gx gy ga xs ys (addAll al [r]).2 → K (.int .i64 (addAll al [r]).1) w'') : CallS Try.prog 8 #[.pointer (some ⟨ga, 0, none⟩), r.agg] K w' := by
  obtain ⟨Fx, Fy, Fa, hx, hy, ha, h1, h2, h3, e⟩ := h
  refine ha.add hr fun w'' F' n1 n2 n3 => hK w'' ⟨Fx, Fy, F', hx.ext n2 fun b hb hh => (h1 b hb).2.1 hh, hy.ext n2 fun b hb hh => (h2 b hb).1 hh, n1, fun b hb => ⟨(h1 b hb).1, fun hh => ?_, (h1 b hb).2.2⟩, fun b hb => ⟨fun hh => ?_, (h2 b hb).2⟩, fun b hb => ?_, e.fresh n2 fun b hb => .inr (h3 b hb)⟩
  · rcases n3 b hh with h | h
    · exact (h1 b hb).2.1 h
    · have := hx.lt hb; omega
  · rcases n3 b hh with h | h
    · exact (h2 b hb).1 h
    · have := hy.lt hb; omega
  · rcases n3 b hb with h | h
    · exact h3 b h
    · have := e.size; omega
theorem recsA (h : St3 w w' gx gy ga xs ys al) (hK : ∀ v w'', Ext No w' w'' → Sl w'' v al.length 4 (flat Rec.cells al) → K v w'') : CallS Try.prog 9 #[.pointer (some ⟨ga, 0, none⟩)] K w' := by
  obtain ⟨Fx, Fy, Fa, hx, hy, ha, _⟩ := h
  exact ha.records fun v w1 e s _ => hK v w1 e s
theorem recsX (h : St3 w w' gx gy ga xs ys al) (hK : ∀ v w'', Ext No w' w'' → Sl w'' v xs.length 4 (flat Rec.cells xs) → K v w'') : CallS Try.prog 9 #[.pointer (some ⟨gx, 0, none⟩)] K w' := by
  obtain ⟨Fx, Fy, Fa, hx, hy, ha, _⟩ := h
  exact hx.records fun v w1 e s _ => hK v w1 e s
theorem sizeA (h : St3 w w' gx gy ga xs ys al) (hK : K (.int .i64 (Sizes al)) w') : CallS Try.prog 10 #[.pointer (some ⟨ga, 0, none⟩)] K w' := by
  obtain ⟨Fx, Fy, Fa, hx, hy, ha, _⟩ := h
  exact ha.size hK
theorem sizeX (h : St3 w w' gx gy ga xs ys al) (hK : K (.int .i64 (Sizes xs)) w') : CallS Try.prog 10 #[.pointer (some ⟨gx, 0, none⟩)] K w' := by
  obtain ⟨Fx, Fy, Fa, hx, hy, ha, _⟩ := h
  exact hx.size hK
theorem lens (h : St3 w w' gx gy ga xs ys al) : xs.length ≤ 4096 ∧ ys.length ≤ 4096 ∧ al.length ≤ 4096 := by
  obtain ⟨Fx, Fy, Fa, hx, hy, ha, _⟩ := h
  exact ⟨hx.len, hy.len, ha.len⟩
/-- y put behind x: x becomes what 'all' is -/
theorem join (h : St3 w w' gx gy ga xs ys (xs ++ ys)) (hs : Sizes (xs ++ ys) ≤ 4194304) (hK : ∀ w'', St3 w w'' gx gy ga (xs ++ ys) ys (xs ++ ys) → K (.int .i64 0) w'') :
    CallS Try.prog 12 #[.pointer (some ⟨gx, 0, none⟩), .pointer (some ⟨gy, 0, none⟩)] K w' := by
  obtain ⟨Fx, Fy, Fa, hx, hy, ha, h1, h2, h3, e⟩ := h
  have hpl : ys.map Go.Proofs.Ytambcnlkdnmekaa.plain = ys := (List.map_congr_left hy.plain).trans (List.map_id _)
  have hfe : firstErr ys = 0 := firstErr_all ys fun r hr => (hy.good r hr).2
  have hl := ha.len
  rw [List.length_append] at hl
  have hres : addAll xs ys = (0, xs ++ ys) := by
    simp only [Sizes, sumEnc_append] at hs
    unfold addAll
    rw [if_neg (by simp [hfe]), if_neg (by unfold Sizes; omega), hpl]
  refine hx.append hy fun w'' F' n1 n2 n3 => ?_
  rw [hres] at n1 ⊢
  refine hK w'' ⟨F', Fy, Fa, n1, hy.ext n2 fun b hb hh => (h1 b hh).1 hb, ha.ext n2 fun b hb hh => (h1 b hh).2.1 hb, fun b hb => ?_, h2, h3, e.fresh n2 fun b hb => .inr (h1 b hb).2.2⟩
  rcases n3 b hb with h | h
  · exact h1 b h
  · exact ⟨fun hh => by have := hy.lt hh; omega, fun hh => by have := ha.lt hh; omega, by have := e.size; omega⟩
end St3
end Go.Proofs.Ytambcnlkdnmekaa
/-! Batches: the laws of parts and of going back, walked. -/
namespace Go.Proofs.Ytambcnlkdnmekaa
open Go SG Go.RowKit Go.Lib
set_option linter.unusedVariables false
set_option maxRecDepth 4000
set_option linter.unusedSimpArgs false

theorem At.no {w w' : World} {a : Addr} {xs : List Value} (h : At w a xs) (e : Ext No w w') : At w' a xs := fun j u hj => by
  have hcell := h j u hj
  have hlt := World.block_lt_of_cell? _ _ hcell
  rw [Addr.add_block] at hlt
  rw [e.cell (by rw [Addr.add_block]; exact hlt) (fun h => h)]
  exact hcell
theorem ifT (X Y : Prop) (h : X) : IfB (.bool true) true X Y := by rw [ifB_eq, if_pos rfl]; exact h

set_option maxHeartbeats 1000000 in
theorem parts {w : World} {a b : Value} {la bs : List Rec} (hsa : Sl w a la.length 4 (flat Rec.cells la)) (hsb : Sl w b bs.length 4 (flat Rec.cells bs)) (ha : AllOk la) (hb : AllOk bs) (hal : la.length ≤ 2932031007402) (hbl : bs.length ≤ 2932031007402) :
    CallS Try.prog 3 #[a, b] (fun v w' => v = .bool true ∧ Ext No w w') w := by
  refine s3_call hm ?_
  unfold s3
  refine BatchF.new fun w1 x1 e1 z1 => ?_
  refine BatchF.new fun w2 y2 e2 z2 => ?_
  refine BatchF.new fun w3 a3 e3 z3 => ?_
  have hst : St3 w w3 w.heap.size w1.heap.size w2.heap.size [] [] ([] ++ []) := by
    refine ⟨_, _, _, (x1.no e2).no e3, y2.no e3, a3, fun b hb => ?_, fun b hb => ?_, fun b hb => ?_, e1.trans (e2.trans e3)⟩
    · unfold At1 at *; omega
    · unfold At1 at *; omega
    · unfold At1 at *; omega
  -- behind both loops
  refine join0 (fun w' => ∃ xs, St3 w w' w.heap.size w1.heap.size w2.heap.size xs [] (xs ++ []) ∧ Sizes xs ≤ 4194304) ?_ fun J hJ => ?_
  · rintro w4 ⟨xs, h4, hsz⟩
    refine join0 (fun w' => ∃ ys, St3 w w' w.heap.size w1.heap.size w2.heap.size xs ys (xs ++ ys) ∧ Sizes (xs ++ ys) ≤ 4194304) ?_ fun J hJ => ?_
    · rintro w5 ⟨ys, h5, hsz5⟩
      refine h5.join hsz5 fun w6 h6 => ?_
      refine pur (bin_eql _ _ _) ?_
      refine join1 (fun a w' => a = .bool true ∧ St3 w w' w.heap.size w1.heap.size w2.heap.size (xs ++ ys) ys (xs ++ ys)) ?_ fun J hJ => ?_
      · rintro _ w7 ⟨rfl, h7⟩
        refine pur (pick_b _ _ _) ?_
        refine join1 (fun a w' => a = .bool true ∧ St3 w w' w.heap.size w1.heap.size w2.heap.size (xs ++ ys) ys (xs ++ ys)) ?_ fun J hJ => ?_
        · rintro _ w8 ⟨rfl, h8⟩
          refine pur (pick_b _ _ _) ?_
          refine join1 (fun a w' => a = .bool true ∧ Ext No w w') ?_ fun J hJ => ?_
          · rintro _ w9 ⟨rfl, h9⟩
            exact pur (pick_b _ _ _) ⟨rfl, h9⟩
          · exact ifT _ _ (c14 fun w9 e9 => hJ _ _ ⟨rfl, h8.e.trans e9⟩)
        · refine ifT _ _ (h7.sizeX (h7.sizeA (pur (bin_eql _ _ _) (hJ _ _ ⟨by simp, h7⟩))))
      · refine ifT _ _ (h6.recsX fun v w7 e7 s7 => (h6.no e7).recsA fun v' w8 e8 s8 => ?_)
        have := h6.lens.1
        exact c13 (s7.no e8) s8 (by omega) fun w9 e9 => hJ _ _ ⟨rfl, ((h6.no e7).no e8).no e9⟩
    · refine loop1 (σ := Nat × List Rec) (fun s a w' => a = .int .i64 (s.1 : Int) ∧ s.1 ≤ bs.length ∧ St3 w w' w.heap.size w1.heap.size w2.heap.size xs s.2 (xs ++ s.2) ∧ Sizes (xs ++ s.2) ≤ 4194304)
        (fun s => bs.length - s.1) (0, []) ⟨rfl, by omega, h4, by simpa using hsz⟩ ?_
      rintro ⟨i, ys⟩ _ w5 ⟨rfl, hi, h5, hsz5⟩ L hL
      simp only at hi h5 hsz5 hL
      refine pur hsb.len (pur (bin_lss _ _ _) (condD (fun hlt => ?_) (fun _ => hJ _ ⟨ys, h5, hsz5⟩)))
      have hlt' : i < bs.length := by omega
      obtain ⟨r, hr⟩ : ∃ r, bs[i]? = some r := ⟨bs[i], List.getElem?_eq_getElem hlt'⟩
      have hrok := hb r (List.mem_of_getElem? hr)
      obtain ⟨ad, ha1, ha2, ha3⟩ := recs_at (hsb.no h5.e) hr
      refine pur ha1 (loadA ha2 rfl (h5.addY hrok fun w6 h6 => ?_))
      refine pur (bin_eql _ _ _) ?_
      refine join1 (fun a w' => (((addAll ys [r]).1 ≠ 0 ∨ a = .bool false) ∧ St3 w w' w.heap.size w1.heap.size w2.heap.size xs (addAll ys [r]).2 (xs ++ (addAll ys [r]).2) ∧ Sizes (xs ++ (addAll ys [r]).2) ≤ 4194304) ∨
          (a = .bool true ∧ (addAll ys [r]).1 = 0 ∧ (addAll (xs ++ ys) [r]).1 ≠ 0 ∧ St3 w w' w.heap.size w1.heap.size w2.heap.size xs (addAll ys [r]).2 (xs ++ ys))) ?_ fun J2 hJ2 => ?_
      · rintro t57 w7 hcase
        rcases hcase with ⟨hf, h7, hs7⟩ | ⟨rfl, hy0, ha0, h7⟩
        · refine pur (v := .bool false) ((pick_b _ _ _).trans ?_) (condF rfl ?_)
          · rcases hf with h | rfl
            · rw [if_neg (by simpa using h)]
            · split <;> rfl
          exact pur (add64 (c := ((i + 1 : Nat) : Int)) (by omega) (by omega) (by omega)) (hL (i + 1, _) _ _ ⟨rfl, by simp only; omega, h7, hs7⟩ (by simp only; omega))
        · refine pur (v := .bool true) ((pick_b _ _ _).trans (by rw [if_pos (by simp [hy0])])) (condT rfl ?_)
          obtain ⟨hc0, _, _, _⟩ := addAll_one_ok hy0
          have hlim := (addAll_one_no ha0).2 hc0
          have h7d := h7.no (Ext.drew w7)
          obtain ⟨ad7, hx1, hx2, hx3⟩ := recs_at (hsb.no h7d.e) hr
          refine draw (fun w' => St3 w w' w.heap.size w1.heap.size w2.heap.size xs (addAll ys [r]).2 (xs ++ ys) ∧ At w' ad7 r.cells) ⟨h7d, hx2⟩ ?_
          refine h7d.recsA fun v8 w8 e8 s8 => ?_
          have hla := h7.lens.2.2
          have h8 := h7d.no e8
          have hat : ∀ {w'}, Ext No w7.drew w' → At w' ad7 r.cells := fun e => At.no hx2 e
          refine ⟨⟨h8, hat e8⟩, ?_⟩
          refine pur s8.len (pur (add64 rfl (by omega) (by omega)) (pur (bin_gtr _ _ _) (condD (fun hb => ?_) (fun hn => ?_))))
          · exact pur (pick_b _ _ _) ⟨rfl, h8.e⟩
          · have hlim' : 4194304 < Sizes (xs ++ ys) + (encRec r).length := hlim.resolve_left (by omega)
            refine pur hx1 (heldA (fun w' hh => hh.2) rfl ?_)
            refine h8.sizeA ⟨⟨h8, hat e8⟩, ?_⟩
            have hbnd : (encRec r).length ≤ 20000 := encRec_len hrok hc0
            have hz0 := sumEnc_nonneg (xs ++ ys)
            have hz1 : Sizes (xs ++ ys) ≤ 4194304 := by
              have := hsz5; exact this
            refine c11 r hrok fun w9 e9 => ?_
            refine pur (add64 rfl (by unfold Sizes; omega) (by omega)) (pur (bin_gtr _ _ _) (pur (pick_b _ _ _) ⟨?_, (h8.no e9).e⟩))
            simp [hlim']
      · by_cases hy0 : (addAll ys [r]).1 = 0
        · rw [ifB_eq, if_pos (by simp [hy0])]
          obtain ⟨ad6, hx1, hx2, hx3⟩ := recs_at (hsb.no h6.e) hr
          refine pur hx1 (loadA hx2 rfl (h6.addA hrok fun w7 h7 => ?_))
          refine pur (bin_neq _ _ _) ?_
          obtain ⟨hc0, hye, _, _⟩ := addAll_one_ok hy0
          by_cases ha0 : (addAll (xs ++ ys) [r]).1 = 0
          · obtain ⟨_, hae, _, hsz6⟩ := addAll_one_ok ha0
            refine hJ2 _ _ (.inl ⟨.inr (by simp [ha0]), ?_, ?_⟩)
            · rw [hae, List.append_assoc] at h7
              rw [hye] at h7 ⊢
              exact h7
            · rw [hye, ← List.append_assoc]
              simp only [Sizes, sumEnc_append, sumEnc_one, encRec_plain] at hsz6 ⊢
              omega
          · refine hJ2 _ _ (.inr ⟨by simp [ha0], hy0, ha0, ?_⟩)
            rw [(addAll_one_no ha0).1] at h7
            exact h7
        · rw [ifB_eq, if_neg (by simp [hy0])]
          have hno := (addAll_one_no hy0).1
          exact hJ2 _ _ (.inl ⟨.inl hy0, by rw [hno] at h6 ⊢; exact h6, by rw [hno]; exact hsz5⟩)
  · refine loop1 (σ := Nat × List Rec) (fun s a w' => a = .int .i64 (s.1 : Int) ∧ s.1 ≤ la.length ∧ St3 w w' w.heap.size w1.heap.size w2.heap.size s.2 [] (s.2 ++ []) ∧ Sizes s.2 ≤ 4194304)
      (fun s => la.length - s.1) (0, []) ⟨rfl, by omega, hst, by decide⟩ ?_
    rintro ⟨i, xs⟩ _ w4 ⟨rfl, hi, h4, hsz4⟩ L hL
    simp only at hi h4 hsz4 hL
    refine pur hsa.len (pur (bin_lss _ _ _) (condD (fun hlt => ?_) (fun _ => hJ _ ⟨xs, h4, hsz4⟩)))
    have hlt' : i < la.length := by omega
    obtain ⟨r, hr⟩ : ∃ r, la[i]? = some r := ⟨la[i], List.getElem?_eq_getElem hlt'⟩
    have hrok := ha r (List.mem_of_getElem? hr)
    have h4d := h4.no (Ext.drew w4)
    obtain ⟨ad, ha1, ha2, ha3⟩ := recs_at hsa hr
    refine draw (fun w' => At w' ad r.cells) (At.no ha2 h4d.e) ?_
    refine pur ha1 (pur ha1 (heldA (fun w' hh => hh) rfl (heldA (fun w' hh => hh) rfl ?_)))
    refine h4d.addX hrok fun w5 h5 => ?_
    refine ⟨At.no ha2 h5.e, h5.addA hrok fun w6 h6 => ?_⟩
    rw [List.append_nil] at h6 ⊢
    refine pur (bin_neq _ _ _) (condF (by simp) ?_)
    exact pur (add64 (c := ((i + 1 : Nat) : Int)) (by omega) (by omega) (by omega)) (hL (i + 1, _) _ _ ⟨rfl, by simp only; omega, by rw [List.append_nil]; exact h6, addAll_sizes hsz4⟩ (by simp only; omega))
end Go.Proofs.Ytambcnlkdnmekaa
/-! Batches: the law of going back, walked. -/
namespace Go.Proofs.Ytambcnlkdnmekaa
open Go SG Go.RowKit Go.Lib
set_option linter.unusedVariables false
set_option maxRecDepth 4000
set_option linter.unusedSimpArgs false

theorem addAll_prefix (recs rs : List Rec) : ∃ t, (addAll recs rs).2 = recs ++ t := by
  unfold addAll
  split
  · exact ⟨[], by simp⟩
  · split
    · exact ⟨[], by simp⟩
    · exact ⟨_, rfl⟩

/-- a batch, new since w, that lies apart from what P tells -/
def St1 (w w' : World) (g : Nat) (recs : List Rec) (marks : List Nat) (P : Nat → Prop) : Prop :=
  ∃ F, BatchF w' g recs marks F ∧ (∀ b, F b → ¬ P b ∧ w.heap.size ≤ b) ∧ (∀ b, P b → b < w'.heap.size) ∧ Ext No w w'
namespace St1
variable {w w' w'' : World} {g : Nat} {recs : List Rec} {marks : List Nat} {P : Nat → Prop} {K : Value → World → Prop}
theorem e (h : St1 w w' g recs marks P) : Ext No w w' := by obtain ⟨_, _, _, _, e⟩ := h; exact e
theorem no (h : St1 w w' g recs marks P) (k : Ext No w' w'') : St1 w w'' g recs marks P := by
  obtain ⟨F, h, h1, h2, e⟩ := h
  exact ⟨F, h.no k, h1, fun b hb => Nat.lt_of_lt_of_le (h2 b hb) k.size, e.trans k⟩
theorem add {r : Rec} (h : St1 w w' g recs marks P) (hr : r.Ok) (hK : ∀ v w'', St1 w w'' g (addAll recs [r]).2 marks P → Ext (fun b => ¬ P b) w' w'' → K v w'') : CallS Try.prog 8 #[.pointer (some ⟨g, 0, none⟩), r.agg] K w' := by
  obtain ⟨F, h, h1, h2, e⟩ := h
  refine h.add hr fun w'' F' n1 n2 n3 => hK _ w'' ⟨F', n1, fun b hb => ?_, fun b hb => Nat.lt_of_lt_of_le (h2 b hb) n2.size, e.fresh n2 fun b hb => .inr (h1 b hb).2⟩ (n2.mono fun b hb _ => (h1 b hb).1)
  rcases n3 b hb with h | h
  · exact h1 b h
  · exact ⟨fun hh => by have := h2 b hh; omega, by have := e.size; omega⟩
theorem records (h : St1 w w' g recs marks P) (hK : ∀ v w'', Ext No w' w'' → Sl w'' v recs.length 4 (flat Rec.cells recs) → St1 w w'' g recs marks (fun b => P b ∨ v.ownBlock = some b) → K v w'') : CallS Try.prog 9 #[.pointer (some ⟨g, 0, none⟩)] K w' := by
  obtain ⟨F, h, h1, h2, e⟩ := h
  refine h.records fun v w1 e1 s1 f1 => hK v w1 e1 s1 ⟨F, h.no e1, fun b hb => ⟨fun hh => ?_, (h1 b hb).2⟩, fun b hb => ?_, e.trans e1⟩
  · rcases hh with hh | hh
    · exact (h1 b hb).1 hh
    · have := (f1 b hh).1
      have := h.lt hb
      omega
  · rcases hb with hh | hh
    · exact Nat.lt_of_lt_of_le (h2 b hh) e1.size
    · exact (f1 b hh).2
theorem size (h : St1 w w' g recs marks P) (hK : K (.int .i64 (Sizes recs)) w') : CallS Try.prog 10 #[.pointer (some ⟨g, 0, none⟩)] K w' := by
  obtain ⟨F, h, _⟩ := h
  exact h.size hK
theorem len (h : St1 w w' g recs marks P) : recs.length ≤ 4096 := by
  obtain ⟨F, h, _⟩ := h
  exact h.len
theorem save (h : St1 w w' g recs marks P) (hml : marks.length ≤ 8796093022208) (hK : ∀ w'', St1 w w'' g recs (marks ++ [recs.length]) P → Ext (fun b => ¬ P b) w' w'' → K undef w'') : CallS Try.prog 15 #[.pointer (some ⟨g, 0, none⟩)] K w' := by
  obtain ⟨F, h, h1, h2, e⟩ := h
  refine h.save hml fun w'' F' n1 n2 n3 => hK w'' ⟨F', n1, fun b hb => ?_, fun b hb => Nat.lt_of_lt_of_le (h2 b hb) n2.size, e.fresh n2 fun b hb => .inr (h1 b hb).2⟩ (n2.mono fun b hb _ => (h1 b hb).1)
  rcases n3 b hb with h | h
  · exact h1 b h
  · exact ⟨fun hh => by have := h2 b hh; omega, by have := e.size; omega⟩
theorem back (h : St1 w w' g recs marks P) (hml : marks.length ≤ 8796093022208) (hmk : MarksOk recs marks) (h0 : marks = [] → K (.int .i64 6) w')
    (hK : ∀ l m w'', marks = l ++ [m] → St1 w w'' g (recs.take m) l P → Ext (fun b => ¬ P b) w' w'' → K (.int .i64 0) w'') : CallS Try.prog 16 #[.pointer (some ⟨g, 0, none⟩)] K w' := by
  obtain ⟨F, h, h1, h2, e⟩ := h
  refine h.back hml hmk h0 fun l m w'' F' hlm n1 n2 n3 => hK l m w'' hlm ⟨F', n1, fun b hb => h1 b (n3 b hb), fun b hb => Nat.lt_of_lt_of_le (h2 b hb) n2.size, e.fresh n2 fun b hb => .inr (h1 b hb).2⟩ (n2.mono fun b hb _ => (h1 b hb).1)
end St1

set_option maxHeartbeats 1000000 in
theorem backs {w : World} {a b : Value} {la bs : List Rec} (hsa : Sl w a la.length 4 (flat Rec.cells la)) (hsb : Sl w b bs.length 4 (flat Rec.cells bs)) (ha : AllOk la) (hb : AllOk bs) (hal : la.length ≤ 2932031007402) (hbl : bs.length ≤ 2932031007402) :
    CallS Try.prog 4 #[a, b] (fun v w' => v = .bool true ∧ Ext No w w') w := by
  refine s4_call hm ?_
  unfold s4
  refine BatchF.new fun w1 x1 e1 z1 => ?_
  have hst : St1 w w1 w.heap.size [] [] (fun _ => False) := ⟨_, x1, fun b hb => ⟨id, by unfold At1 at hb; omega⟩, fun b hb => hb.elim, e1⟩
  refine join0 (fun w' => ∃ xs, St1 w w' w.heap.size xs [] (fun _ => False)) ?_ fun J hJ => ?_
  · rintro w2 ⟨xs, h2⟩
    refine h2.records fun v w3 e3 s3 h3 => ?_
    refine h3.size (h3.save (by simp) fun w4 h4 e4 => ?_)
    have s4 : Sl w4 v xs.length 4 (flat Rec.cells xs) := s3.ext e4 fun b hb hh => hh (.inr hb)
    have hlx := h2.len
    refine join0 (fun w' => ∃ ys, St1 w w' w.heap.size (xs ++ ys) [xs.length] (fun b => False ∨ v.ownBlock = some b) ∧ Sl w' v xs.length 4 (flat Rec.cells xs)) ?_ fun J hJ => ?_
    · rintro w5 ⟨ys, h5, s5⟩
      refine h5.back (by simp) (fun m hm => by simp at hm; subst hm; simp) (fun h => by simp at h) fun l m w6 hlm h6 e6 => ?_
      obtain ⟨rfl, rfl⟩ : l = [] ∧ m = xs.length := by
        cases l with
        | nil => simp at hlm; exact ⟨rfl, hlm.symm⟩
        | cons x l => simp at hlm
      rw [List.take_left] at h6
      have s6 := s5.ext e6 fun b hb hh => hh (.inr hb)
      refine pur (bin_eql _ _ _) ?_
      refine join1 (fun a w' => a = .bool true ∧ St1 w w' w.heap.size xs [] (fun b => False ∨ v.ownBlock = some b)) ?_ fun J hJ => ?_
      · rintro _ w7 ⟨rfl, h7⟩
        refine pur (pick_b _ _ _) ?_
        refine join1 (fun a w' => a = .bool true ∧ St1 w w' w.heap.size xs [] (fun b => False ∨ v.ownBlock = some b)) ?_ fun J hJ => ?_
        · rintro _ w8 ⟨rfl, h8⟩
          refine pur (pick_b _ _ _) ?_
          refine join1 (fun a w' => a = .bool true ∧ St1 w w' w.heap.size xs [] (fun b => False ∨ v.ownBlock = some b)) ?_ fun J hJ => ?_
          · rintro _ w9 ⟨rfl, h9⟩
            refine pur (pick_b _ _ _) ?_
            refine join1 (fun a w' => a = .bool true ∧ Ext No w w') ?_ fun J hJ => ?_
            · rintro _ w10 ⟨rfl, e10⟩
              exact pur (pick_b _ _ _) ⟨rfl, e10⟩
            · exact ifT _ _ (c14 fun w10 e10 => hJ _ _ ⟨rfl, h9.e.trans e10⟩)
          · refine ifT _ _ (h8.back (by simp) (fun m hm => by simp at hm) (fun _ => pur (bin_eql _ _ _) (hJ _ _ ⟨rfl, h8⟩)) fun l m w9 hlm => by simp at hlm)
        · exact ifT _ _ (h7.size (pur (bin_eql _ _ _) (hJ _ _ ⟨by simp, h7⟩)))
      · refine ifT _ _ (h6.records fun v' w7 e7 s7 h7 => ?_)
        exact c13 s7 (s6.no e7) (by omega) fun w8 e8 => hJ _ _ ⟨rfl, (h6.no e7).no e8⟩
    · refine loop1 (σ := Nat × List Rec) (fun s a w' => a = .int .i64 (s.1 : Int) ∧ s.1 ≤ bs.length ∧ St1 w w' w.heap.size (xs ++ s.2) [xs.length] (fun b => False ∨ v.ownBlock = some b) ∧ Sl w' v xs.length 4 (flat Rec.cells xs))
        (fun s => bs.length - s.1) (0, []) ⟨rfl, by omega, by simpa using h4, s4⟩ ?_
      rintro ⟨i, ys⟩ _ w5 ⟨rfl, hi, h5, s5⟩ L hL
      simp only at hi h5 hL
      refine pur hsb.len (pur (bin_lss _ _ _) (condD (fun hlt => ?_) (fun _ => hJ _ ⟨ys, h5, s5⟩)))
      have hlt' : i < bs.length := by omega
      obtain ⟨r, hr⟩ : ∃ r, bs[i]? = some r := ⟨bs[i], List.getElem?_eq_getElem hlt'⟩
      have hrok := hb r (List.mem_of_getElem? hr)
      obtain ⟨ad, ha1, ha2, ha3⟩ := recs_at (hsb.no h5.e) hr
      refine pur ha1 (loadA ha2 rfl (h5.add hrok fun v6 w6 h6 e6 => ?_))
      obtain ⟨t, ht⟩ := addAll_prefix (xs ++ ys) [r]
      rw [ht, List.append_assoc] at h6
      exact pur (add64 (c := ((i + 1 : Nat) : Int)) (by omega) (by omega) (by omega)) (hL (i + 1, ys ++ t) _ _ ⟨rfl, by simp only; omega, h6, s5.ext e6 fun b hb hh => hh (.inr hb)⟩ (by simp only; omega))
  · refine loop1 (σ := Nat × List Rec) (fun s a w' => a = .int .i64 (s.1 : Int) ∧ s.1 ≤ la.length ∧ St1 w w' w.heap.size s.2 [] (fun _ => False))
      (fun s => la.length - s.1) (0, []) ⟨rfl, by omega, hst⟩ ?_
    rintro ⟨i, xs⟩ _ w4 ⟨rfl, hi, h4⟩ L hL
    simp only at hi h4 hL
    refine pur hsa.len (pur (bin_lss _ _ _) (condD (fun hlt => ?_) (fun _ => hJ _ ⟨xs, h4⟩)))
    have hlt' : i < la.length := by omega
    obtain ⟨r, hr⟩ : ∃ r, la[i]? = some r := ⟨la[i], List.getElem?_eq_getElem hlt'⟩
    have hrok := ha r (List.mem_of_getElem? hr)
    obtain ⟨ad, ha1, ha2, ha3⟩ := recs_at (hsa.no h4.e) hr
    refine pur ha1 (loadA ha2 rfl (h4.add hrok fun v6 w6 h6 e6 => ?_))
    exact pur (add64 (c := ((i + 1 : Nat) : Int)) (by omega) (by omega) (by omega)) (hL (i + 1, _) _ _ ⟨rfl, by simp only; omega, h6⟩ (by simp only; omega))
end Go.Proofs.Ytambcnlkdnmekaa
/-! Batches: the families; Delete, DeleteRange, Len, Clear. -/
namespace Go.Proofs.Ytambcnlkdnmekaa
open Go SG Go.RowKit Go.Lib
set_option linter.unusedVariables false
set_option maxRecDepth 4000
set_option linter.unusedSimpArgs false

/-- the families of records: rising, each once -/
def FamOf (recs : List Rec) (fs : List Nat) : Prop := fs.Pairwise (· < ·) ∧ ∀ x, x ∈ fs ↔ x ∈ recs.map Rec.fam
theorem FamOf.unique {recs : List Rec} {a b : List Nat} (ha : FamOf recs a) (hb : FamOf recs b) : a = b := rise_unique ha.1 hb.1 fun x => (ha.2 x).trans (hb.2 x).symm
theorem ext_own2 {w w' : World} {base n : Nat} {e : TypeId} {size : Nat} {v : Value} {xs : List Value} (ho : w.ownsRow base e size v n xs) (h : Ext (fun b => v.ownBlock = some b) w w') : Ext (Fr base) w w' :=
  h.mono fun b hb _ => (ho.lt b hb).1

set_option maxHeartbeats 400000 in
/-- Families -/
theorem c51 {w : World} {g : Nat} {lv mv : Value} {recs : List Rec} {sz : Int} {marks : List Nat} (hb : BatchIs w g lv mv recs sz marks) {K : Value → World → Prop}
    (hK : ∀ v w' fs, Ext No w w' → Sl w' v fs.length 1 (fs.map encE) → (∀ b, v.ownBlock = some b → w.heap.size ≤ b) → FamOf recs fs → K v w') : CallS Try.prog 51 #[.pointer (some ⟨g, 0, none⟩)] K w := by
  have hl := hb.len
  refine s51_call hm ?_
  unfold s51
  refine join1 (fun v w' => w'.ownsRow w.heap.size 29 1 v recs.length ((recs.map Rec.fam).map encE) ∧ Ext No w w') ?_ fun J0 hJ0 => ?_
  · rintro v w1 ⟨ho, e1⟩
    refine cSorted (xs := recs.map Rec.fam) ho (by omega) fun w2 ys ho2 hp ha e2 => ?_
    have e02 : Ext No w w2 := ext_fr' e1 (ext_own2 ho e2) (Nat.le_refl _)
    refine cCompacted ho2 (by omega) fun w3 v3 ho3 hv3 e3 => ?_
    have e03 : Ext No w w3 := ext_fr' e02 (ext_own2 ho2 e3) (Nat.le_refl _)
    have hyl : ys.length = recs.length := by have := hp.length_eq; simpa using this
    refine hK v3 w3 (dd ys recs.length) e03 (Sl.own ho3) (fun b hb => (ho3.lt b hb).1) ⟨(dd_rise ha _).imp fun h => (ltE_iff _ _).1 h, fun x => ⟨fun hx => hp.mem_iff.1 (dd_of hx), fun hx => ?_⟩⟩
    obtain ⟨j, hj⟩ := List.getElem?_of_mem (hp.mem_iff.2 hx)
    exact dd_mem (by rw [← hyl]; exact (List.getElem?_eq_some_iff.1 hj).1) hj
  refine pur (nil_ptr _) (pur (field_ptr _ _ _) (loadB hb.at_.blk (v := lv) rfl ?_))
  have hs := Sl.own hb.at_.row
  refine pur hs.len ?_
  refine loop2 (σ := Nat) (fun i v a w' => a = .int .i64 (i : Int) ∧ i ≤ recs.length ∧ w'.ownsRow w.heap.size 29 1 v i (((recs.take i).map Rec.fam).map encE) ∧ Ext No w w') (fun i => recs.length - i) 0
    ⟨rfl, by omega, by simpa using World.ownsRow_nil _ _ _ _, Ext.refl _ _⟩ ?_
  rintro i v _ w1 ⟨rfl, hi, ho, e1⟩ L1 hL1
  refine pur (bin_lss _ _ _) (condD (fun hlt => ?_) (fun hge => ?_))
  · obtain ⟨r, hr⟩ := getN (xs := recs) (i := i) (by omega)
    obtain ⟨ad, ha1, ha2, ha3⟩ := recs_at (hs.no e1) hr
    refine pur ha1 (loadA ha2 rfl (box fun w3 b3 e3 z3 => ?_))
    refine storeAll b3 rfl (by simp [Value.cells]) (Rec.one r) fun w4 b4 e4 z4 => ?_
    have e14 : Ext No w1 w4 := e3.fresh e4 fun b hh => .inr (by rw [show b = w1.heap.size from hh]; exact Nat.le_refl _)
    refine pur (field_ptr _ _ _) (loadB b4 (v := .int .u32 (r.fam : Int)) rfl ?_)
    refine build1 TCE rfl fun w5 b5 e5 z5 => ?_
    have e15 := e14.trans e5
    refine append_sl TCE 82 (owns_ext ho e15 fun _ _ hh => hh) (b5.sl (n := 1) (c := 1) (size := 1) rfl (Nat.le_refl _)) (by simp [Value.cells, Value.oneCell']) (by omega) (by omega) (e1.trans e15).size fun v' w6 ho6 hg6 _ => ?_
    have e06 : Ext No w w6 := ext_fr' (e1.trans e15) (ext_grown (owns_ext ho e15 fun _ _ hh => hh) hg6) (Nat.le_refl _)
    refine pur (add64 (c := ((i + 1 : Nat) : Int)) (by omega) (by omega) (by omega)) (hL1 (i + 1) _ _ _ ⟨rfl, by omega, ?_, e06⟩ (by omega))
    rw [List.take_add_one, hr]
    simpa [Value.cells, encE] using ho6
  · have : i = recs.length := by omega
    subst this
    rw [List.take_length] at ho
    exact hJ0 _ _ ⟨ho, e1⟩

theorem c53 {w : World} {g : Nat} {lv mv : Value} {recs : List Rec} {sz : Int} {marks : List Nat} (hb : BatchIs w g lv mv recs sz marks) {K : Value → World → Prop} (hK : K (.int .i64 (recs.length : Int)) w) : CallS Try.prog 53 #[.pointer (some ⟨g, 0, none⟩)] K w := by
  refine s53_call hm ?_
  unfold s53
  exact pur (nil_ptr _) (pur (field_ptr _ _ _) (loadB hb.at_.blk (v := lv) rfl (pur (Sl.own hb.at_.row).len hK)))
theorem build31d (w : World) (f : Int) (a : ByteArray) : (Instr.build 31 [(0, .int .u32 f), (1, .int .i64 0), (2, .string a)].toArray).run Try.prog w = .ok (.agg #[.int .u32 f, .int .i64 0, .string a, .string ⟨#[]⟩]) w := by kernel_rfl
namespace BatchF
variable {w w' : World} {g g' : Nat} {recs recs' rs : List Rec} {marks marks' : List Nat} {F F' S : Nat → Prop} {K : Value → World → Prop}
theorem families (h : BatchF w g recs marks F) (hK : ∀ v w' fs, Ext No w w' → Sl w' v fs.length 1 (fs.map encE) → (∀ b, v.ownBlock = some b → w.heap.size ≤ b) → FamOf recs fs → K v w') : CallS Try.prog 51 #[.pointer (some ⟨g, 0, none⟩)] K w := by
  obtain ⟨lv, mv, sz, h, rfl⟩ := h
  exact c51 h hK
theorem count (h : BatchF w g recs marks F) (hK : K (.int .i64 (recs.length : Int)) w) : CallS Try.prog 53 #[.pointer (some ⟨g, 0, none⟩)] K w := by
  obtain ⟨lv, mv, sz, h, rfl⟩ := h
  exact c53 h hK
theorem pop (h : BatchF w g recs marks F) (hml : marks.length ≤ 8796093022208) (h0 : marks = [] → K (.int .i64 6) w)
    (hK : ∀ l m w', marks = l ++ [m] → BatchF w' g recs l F → Ext F w w' → K (.int .i64 0) w') : CallS Try.prog 31 #[.pointer (some ⟨g, 0, none⟩)] K w := by
  obtain ⟨lv, mv, sz, h, rfl⟩ := h
  exact c31 h hml h0 fun l m w' mv' h1 h2 h3 h4 => hK l m w' h1 ⟨_, _, _, h2, by funext b; simp [Foot, h4]⟩ h3
theorem put (h : BatchF w g recs marks F) (f : Nat) (k v : ByteArray) (hr : (Rec.mk f 1 k v).Ok)
    (hK : ∀ w' F', BatchF w' g (addAll recs [Rec.mk f 1 k v]).2 marks F' → Ext F w w' → (∀ b, F' b → F b ∨ w.heap.size ≤ b) → K (.int .i64 (addAll recs [Rec.mk f 1 k v]).1) w') :
    CallS Try.prog 29 #[.pointer (some ⟨g, 0, none⟩), .int .u32 (f : Int), .string k, .string v] K w := by
  refine s29_call hm ?_
  unfold s29
  exact runS (build31 w f 1 k v) (BatchF.add (r := Rec.mk f 1 k v) h hr hK)
theorem putRange (h : BatchF w g recs marks F) (f : Nat) (k v : ByteArray) (hr : (Rec.mk f 2 k v).Ok)
    (hK : ∀ w' F', BatchF w' g (addAll recs [Rec.mk f 2 k v]).2 marks F' → Ext F w w' → (∀ b, F' b → F b ∨ w.heap.size ≤ b) → K (.int .i64 (addAll recs [Rec.mk f 2 k v]).1) w') :
    CallS Try.prog 65 #[.pointer (some ⟨g, 0, none⟩), .int .u32 (f : Int), .string k, .string v] K w := by
  refine s65_call hm ?_
  unfold s65
  exact runS (build31 w f 2 k v) (BatchF.add (r := Rec.mk f 2 k v) h hr hK)
theorem delete (h : BatchF w g recs marks F) (f : Nat) (k : ByteArray) (hr : (Rec.mk f 0 k ⟨#[]⟩).Ok)
    (hK : ∀ w' F', BatchF w' g (addAll recs [Rec.mk f 0 k ⟨#[]⟩]).2 marks F' → Ext F w w' → (∀ b, F' b → F b ∨ w.heap.size ≤ b) → K (.int .i64 (addAll recs [Rec.mk f 0 k ⟨#[]⟩]).1) w') :
    CallS Try.prog 64 #[.pointer (some ⟨g, 0, none⟩), .int .u32 (f : Int), .string k] K w := by
  refine s64_call hm ?_
  unfold s64
  exact runS (build31d w f k) (BatchF.add (r := Rec.mk f 0 k ⟨#[]⟩) h hr hK)
/-- Clear -/
theorem clear (h : BatchF w g recs marks F) (hK : ∀ w', BatchF w' g [] [] (At1 g) → Ext F w w' → K (.tuple [].toArray) w') : CallS Try.prog 48 #[.pointer (some ⟨g, 0, none⟩)] K w := by
  obtain ⟨lv, mv, sz, h, rfl⟩ := h
  refine s48_call hm ?_
  unfold s48
  refine runS (build26 w) (pur (nil_ptr _) (storeAll (vs := [.slice none 0 0, .int .i64 0, .slice none 0 0]) h.at_.blk rfl rfl (by simp [Value.oneCell']) fun w1 b1 e1 z1 => ?_))
  exact hK w1 ⟨_, _, _, BatchIs.new ⟨b1, World.ownsRow_nil _ _ _ _, World.ownsRow_nil _ _ _ _⟩, by funext b; simp [Foot, At1, Value.ownBlock]⟩ (e1.mono fun b hb _ => .inl hb)
end BatchF
end Go.Proofs.Ytambcnlkdnmekaa
/-! Batches: bytes read back: the plain law. No walk stands here. -/
namespace Go.Proofs.Ytambcnlkdnmekaa
open Go SG Go.RowKit Go.Lib
set_option linter.unusedVariables false
set_option maxRecDepth 4000
set_option linter.unusedSimpArgs false

def rvGo : List UInt8 → Nat → Nat → Int × Nat × Nat
  | [], _, _ => (4, 0, 0)
  | c :: r, i, n =>
    if (i = 9 ∧ 1 < c.toNat) ∨ (0 < i ∧ c.toNat = 0) then (3, 0, 0)
    else if c.toNat < 128 then (0, n + c.toNat % 128 * 128 ^ i, i + 1)
    else rvGo r (i + 1) (n + c.toNat % 128 * 128 ^ i)
def rv (l : List UInt8) : Int × Nat × Nat := rvGo l 0 0
theorem p9 : (128 : Nat) ^ 9 = 9223372036854775808 := by decide
theorem ofNat_toNat8 {n : Nat} (h : n < 256) : (UInt8.ofNat n).toNat = n := by simp [Nat.mod_eq_of_lt h]
theorem rvGo_varint : ∀ (m : Nat) (r : List UInt8) (i n : Nat), i ≤ 9 → m * 128 ^ i < 18446744073709551616 → (0 < i → m ≠ 0) → rvGo (varint m ++ r) i n = (0, n + m * 128 ^ i, i + (varint m).length) := by
  intro m
  induction m using Nat.strongRecOn with
  | _ m ih =>
    intro r i n hi hm h0
    have h9 : i = 9 → m < 2 := fun h => by subst h; rw [p9] at hm; omega
    by_cases h : m < 128
    · rw [varint_small h]
      show rvGo (UInt8.ofNat m :: r) i n = _
      unfold rvGo
      rw [ofNat_toNat8 (by omega), if_neg (by omega), if_pos h, Nat.mod_eq_of_lt h]
      rfl
    · rw [varint_big (by omega)]
      show rvGo (UInt8.ofNat (m % 128 + 128) :: (varint (m / 128) ++ r)) i n = _
      unfold rvGo
      rw [ofNat_toNat8 (by omega), if_neg (by omega), if_neg (by omega), show (m % 128 + 128) % 128 = m % 128 by omega]
      have hp : (128 : Nat) ^ (i + 1) = 128 ^ i * 128 := Nat.pow_succ ..
      have hle : m / 128 * 128 ^ (i + 1) ≤ m * 128 ^ i := by
        rw [hp, show m / 128 * (128 ^ i * 128) = (m / 128 * 128) * 128 ^ i by rw [Nat.mul_comm (128 ^ i) 128, Nat.mul_assoc]]
        exact Nat.mul_le_mul_right _ (Nat.div_mul_le_self m 128)
      rw [ih (m / 128) (by omega) r (i + 1) _ (by have : i ≠ 9 := fun h' => by have := h9 h'; omega
                                                  omega) (by omega) (by omega)]
      have e : n + m % 128 * 128 ^ i + m / 128 * 128 ^ (i + 1) = n + m * 128 ^ i := by
        rw [hp, show m / 128 * (128 ^ i * 128) = (m / 128 * 128) * 128 ^ i by rw [Nat.mul_comm (128 ^ i) 128, Nat.mul_assoc], Nat.add_assoc, ← Nat.add_mul]
        congr 2
        omega
      rw [e, List.length_cons]
      congr 2
      omega
theorem ofNat_c (c : UInt8) : UInt8.ofNat c.toNat = c := by simp
theorem rvGo_ok : ∀ (l : List UInt8) (i n v k : Nat), i ≤ 9 → rvGo l i n = (0, v, k) → ∃ m r, l = varint m ++ r ∧ v = n + m * 128 ^ i ∧ k = i + (varint m).length ∧ m * 128 ^ i < 18446744073709551616 ∧ (0 < i → m ≠ 0)
  | [], i, n, v, k, _, h => by simp [rvGo] at h
  | c :: r, i, n, v, k, hi, h => by
    unfold rvGo at h
    have hc := c.toNat_lt
    split at h
    · simp at h
    · rename_i hb
      split at h
      · rename_i hlt
        simp only [Prod.mk.injEq, true_and] at h
        refine ⟨c.toNat, r, by rw [varint_small hlt, ofNat_c]; rfl, by rw [← h.1, Nat.mod_eq_of_lt hlt], by rw [varint_small hlt, ← h.2, List.length_singleton], ?_, by omega⟩
        by_cases h9 : i = 9
        · subst h9; rw [p9]; omega
        · have h1 : (128 : Nat) ^ i ≤ 128 ^ 8 := Nat.pow_le_pow_right (by decide) (by omega)
          have h8 : (128 : Nat) ^ 8 = 72057594037927936 := by decide
          have h2 : c.toNat * 128 ^ i ≤ 127 * 128 ^ 8 := Nat.mul_le_mul (by omega) h1
          omega
      · rename_i hge
        have hi9 : i ≠ 9 := by omega
        obtain ⟨m, r', hr, hv, hk, hm, hm0⟩ := rvGo_ok r (i + 1) _ v k (by omega) h
        have hm0' := hm0 (by omega)
        have hbig : 128 ≤ c.toNat % 128 + 128 * m := by omega
        have e1 : (c.toNat % 128 + 128 * m) % 128 = c.toNat % 128 := by omega
        have e2 : (c.toNat % 128 + 128 * m) / 128 = m := by omega
        have hp : (128 : Nat) ^ (i + 1) = 128 ^ i * 128 := Nat.pow_succ ..
        have emul : (c.toNat % 128 + 128 * m) * 128 ^ i = c.toNat % 128 * 128 ^ i + m * 128 ^ (i + 1) := by
          rw [Nat.add_mul, hp]; congr 1; rw [Nat.mul_comm 128 m, Nat.mul_assoc, Nat.mul_comm 128]
        refine ⟨c.toNat % 128 + 128 * m, r', ?_, ?_, ?_, ?_, fun _ => by omega⟩
        · rw [varint_big hbig, e1, e2, show c.toNat % 128 + 128 = c.toNat by omega, ofNat_c, hr]; rfl
        · rw [hv, emul]; omega
        · rw [varint_big hbig, e2, hk, List.length_cons]; omega
        · rw [emul]
          have hmod : c.toNat % 128 < 128 := Nat.mod_lt _ (by decide)
          have hcase : i = 0 ∨ i = 1 ∨ i = 2 ∨ i = 3 ∨ i = 4 ∨ i = 5 ∨ i = 6 ∨ i = 7 ∨ i = 8 := by omega
          obtain ⟨T, hT⟩ : ∃ T : Nat, T * 128 ^ (i + 1) = 18446744073709551616 := by
            rcases hcase with rfl | rfl | rfl | rfl | rfl | rfl | rfl | rfl | rfl
            · exact ⟨2 ^ 57, by decide⟩
            · exact ⟨2 ^ 50, by decide⟩
            · exact ⟨2 ^ 43, by decide⟩
            · exact ⟨2 ^ 36, by decide⟩
            · exact ⟨2 ^ 29, by decide⟩
            · exact ⟨2 ^ 22, by decide⟩
            · exact ⟨2 ^ 15, by decide⟩
            · exact ⟨2 ^ 8, by decide⟩
            · exact ⟨2, by decide⟩
          have hq : 0 < 128 ^ i := Nat.pow_pos (by decide)
          rw [← hT] at hm ⊢
          have h1 : m < T := Nat.lt_of_mul_lt_mul_right hm
          have h2 : (m + 1) * 128 ^ (i + 1) ≤ T * 128 ^ (i + 1) := Nat.mul_le_mul_right _ h1
          have h3 : c.toNat % 128 * 128 ^ i < 128 * 128 ^ i := Nat.mul_lt_mul_of_pos_right hmod hq
          have h4 : 128 * 128 ^ i = 128 ^ (i + 1) := by rw [hp, Nat.mul_comm]
          rw [Nat.add_mul, Nat.one_mul] at h2
          omega
theorem rv_varint {m : Nat} (h : m < 18446744073709551616) (r : List UInt8) : rv (varint m ++ r) = (0, m, (varint m).length) := by
  unfold rv
  rw [rvGo_varint m r 0 0 (by omega) (by simpa using h) (by omega)]
  simp
theorem rv_ok {l : List UInt8} {v k : Nat} (h : rv l = (0, v, k)) : ∃ r, l = varint v ++ r ∧ k = (varint v).length ∧ v < 18446744073709551616 := by
  obtain ⟨m, r, hl, hv, hk, hm, _⟩ := rvGo_ok l 0 0 v k (by omega) h
  have : v = m := by simpa using hv
  subst this
  exact ⟨r, hl, by simpa using hk, by simpa using hm⟩
theorem rvGo_err : ∀ (l : List UInt8) (i n : Nat), (rvGo l i n).1 = 0 ∨ (((rvGo l i n).1 = 3 ∨ (rvGo l i n).1 = 4) ∧ (rvGo l i n).2 = (0, 0))
  | [], i, n => by simp [rvGo]
  | c :: r, i, n => by
    unfold rvGo
    split
    · simp
    · split
      · simp
      · exact rvGo_err r _ _

/-! ### a reader -/
def rdV (most : Nat) (l : List UInt8) : Except Int (Nat × List UInt8) :=
  if (rv l).1 ≠ 0 then .error (rv l).1 else if most < (rv l).2.1 then .error 3 else .ok ((rv l).2.1, l.drop (rv l).2.2)
def rdT (most : Nat) (l : List UInt8) : Except Int (List UInt8 × List UInt8) :=
  match rdV most l with
  | .error e => .error e
  | .ok (n, r) => if r.length < n then .error 4 else .ok (r.take n, r.drop n)
def bA (l : List UInt8) : ByteArray := ⟨l.toArray⟩
def mostV (c : Nat) : Nat := if c = 1 then 16384 else 1024
def rdR (l : List UInt8) : Except Int (Rec × List UInt8) :=
  match l with
  | [] => .error 4
  | c :: l1 =>
    if 2 < c.toNat then .error 3 else
    match rdV 4294967295 l1 with
    | .error e => .error e
    | .ok (f, l2) => match rdT 1024 l2 with
      | .error e => .error e
      | .ok (k, l3) =>
        if c.toNat = 0 then .ok (⟨f, 0, bA k, ⟨#[]⟩⟩, l3) else
        match rdT (mostV c.toNat) l3 with
        | .error e => .error e
        | .ok (v, l4) => .ok (⟨f, (c.toNat : Int), bA k, bA v⟩, l4)
def rdRs : Nat → List UInt8 → Except Int (List Rec × List UInt8)
  | 0, l => .ok ([], l)
  | n + 1, l => match rdR l with
    | .error e => .error e
    | .ok (r, l1) => match rdRs n l1 with
      | .error e => .error e
      | .ok (rs, l2) => .ok (r :: rs, l2)
def leN (l : List UInt8) : Nat := l.foldr (fun c n => c.toNat + 256 * n) 0
def dec (b : List UInt8) : Nat × List Rec × Int :=
  if 4194304 < b.length then (0, [], 2) else
  if b.length < 8 then (0, [], 4) else
  if 72057594037927935 < leN (b.take 8) then (0, [], 3) else
  if b.length < 12 then (0, [], 4) else
  if 4096 < leN ((b.drop 8).take 4) ∨ fitsB (leN (b.take 8)) (leN ((b.drop 8).take 4)) = false then (0, [], 3) else
  match rdRs (leN ((b.drop 8).take 4)) (b.drop 12) with
  | .error e => (0, [], e)
  | .ok (rs, r) => if 0 < r.length then (0, [], 5) else (leN (b.take 8), rs, 0)

theorem rdV_enc {m most : Nat} (h : m < 18446744073709551616) (hm : m ≤ most) (r : List UInt8) : rdV most (varint m ++ r) = .ok (m, r) := by
  unfold rdV
  rw [rv_varint h]
  simp only [ne_eq, not_true, if_false]
  rw [if_neg (by omega), List.drop_left]
theorem rdV_ok {most n : Nat} {l r : List UInt8} (h : rdV most l = .ok (n, r)) : l = varint n ++ r ∧ n ≤ most ∧ n < 18446744073709551616 := by
  unfold rdV at h
  obtain ⟨e, v, k, he⟩ : ∃ e v k, rv l = (e, v, k) := ⟨_, _, _, rfl⟩
  rw [he] at h
  simp only at h
  split at h
  · cases h
  · rename_i h0
    have h0' : e = 0 := by simpa using h0
    subst h0'
    split at h
    · cases h
    · simp only [Except.ok.injEq, Prod.mk.injEq] at h
      obtain ⟨rfl, rfl⟩ := h
      obtain ⟨r', hl, hk, hv⟩ := rv_ok he
      refine ⟨?_, by omega, hv⟩
      rw [hk]
      conv => rhs; rw [hl, List.drop_left]
      exact hl
theorem rdT_enc {s : List UInt8} {most : Nat} (h : s.length < 18446744073709551616) (hm : s.length ≤ most) (r : List UInt8) : rdT most (varint s.length ++ s ++ r) = .ok (s, r) := by
  unfold rdT
  rw [List.append_assoc, rdV_enc h hm]
  simp
theorem rdT_ok {most : Nat} {l s r : List UInt8} (h : rdT most l = .ok (s, r)) : l = varint s.length ++ s ++ r ∧ s.length ≤ most := by
  unfold rdT at h
  split at h
  · cases h
  · rename_i n r' heq
    obtain ⟨h1, h2, h3⟩ := rdV_ok heq
    split at h
    · cases h
    · simp only [Except.ok.injEq, Prod.mk.injEq] at h
      obtain ⟨rfl, rfl⟩ := h
      have : (r'.take n).length = n := by rw [List.length_take]; omega
      rw [this, List.append_assoc, List.take_append_drop]
      exact ⟨h1, h2⟩
theorem bA_data (s : ByteArray) : bA s.data.toList = s := by
  obtain ⟨a⟩ := s
  simp [bA]
theorem bA_size (l : List UInt8) : (bA l).size = l.length := by simp [bA, ByteArray.size]
theorem bA_list (l : List UInt8) : (bA l).data.toList = l := by simp [bA]
theorem rdR_enc {r : Rec} (hr : r.Ok) (hc : chk r = 0) (l : List UInt8) : rdR (encRec r ++ l) = .ok (plain r, l) := by
  obtain ⟨hkind, hkey, hval⟩ := chk_ok hc
  have hf := hr.fam
  have hv2 : r.kind = 2 → r.val.size ≤ 1024 := fun h => by
    unfold chk at hc
    rw [if_neg (by omega), if_neg (by omega), if_pos h] at hc
    split at hc
    · cases hc
    · omega
  have hsz := size_data r.key
  have hsv := size_data r.val
  obtain ⟨kd, hkd⟩ : ∃ kd : Nat, r.kind = kd ∧ kd ≤ 2 := ⟨r.kind.toNat, by omega, by omega⟩
  have hcn : (UInt8.ofNat r.kind.toNat).toNat = kd := by rw [hkd.1, Int.toNat_natCast, ofNat_toNat8 (by omega)]
  have e : encRec r ++ l = UInt8.ofNat r.kind.toNat :: (varint r.fam ++ (varint r.key.data.toList.length ++ r.key.data.toList ++ ((if r.kind = 0 then [] else varint r.val.size ++ r.val.data.toList) ++ l))) := by
    unfold encRec
    rw [hsz]
    split <;> simp
  rw [e]
  unfold rdR
  simp only [hcn]
  rw [if_neg (by omega), rdV_enc (by omega) (by omega)]
  simp only
  rw [rdT_enc (by omega) (by omega)]
  simp only
  by_cases h0 : r.kind = 0
  · have : kd = 0 := by omega
    rw [if_pos this, if_pos h0, bA_data, List.nil_append]
    unfold plain
    rw [if_pos h0]
    obtain ⟨f, k, a, b⟩ := r
    simp only at h0
    subst h0
    rfl
  · rw [if_neg (by omega), if_neg h0, ← hsv, rdT_enc (by have := hval h0; omega) (by unfold mostV; split <;> rw [hsv]
                                                                                     · exact hval h0
                                                                                     · exact hv2 (by omega))]
    simp only
    rw [bA_data, bA_data, ← hkd.1]
    unfold plain
    rw [if_neg h0]
theorem rdR_ok {l l' : List UInt8} {r : Rec} (h : rdR l = .ok (r, l')) : l = encRec r ++ l' ∧ chk r = 0 ∧ r.Ok ∧ plain r = r := by
  unfold rdR at h
  split at h
  · cases h
  · rename_i c l1
    split at h
    · cases h
    · rename_i hc2
      split at h
      · cases h
      · rename_i f l2 hfam
        obtain ⟨e1, hf, _⟩ := rdV_ok hfam
        split at h
        · cases h
        · rename_i k l3 hkey
          obtain ⟨e2, hk⟩ := rdT_ok hkey
          split at h
          · rename_i h0
            simp only [Except.ok.injEq, Prod.mk.injEq] at h
            obtain ⟨rfl, rfl⟩ := h
            have hc0 : c = UInt8.ofNat 0 := by rw [← h0, ofNat_c]
            refine ⟨?_, ?_, ⟨by simp only; omega, by simp only [bA_size]; omega, by simp [ByteArray.size]⟩, by simp [plain]⟩
            · subst hc0
              rw [e1, e2]
              simp [encRec, bA_size, bA_list]
            · unfold chk
              simp only [if_true, bA_size]
              rw [if_neg (by omega)]
          · rename_i h0
            split at h
            · cases h
            · rename_i v l4 hvv
              obtain ⟨e3, hv⟩ := rdT_ok hvv
              simp only [Except.ok.injEq, Prod.mk.injEq] at h
              obtain ⟨rfl, rfl⟩ := h
              have hm : mostV c.toNat ≤ 16384 := by unfold mostV; split <;> omega
              refine ⟨?_, ?_, ⟨by simp only; omega, by simp only [bA_size]; omega, by simp only [bA_size]; omega⟩, by unfold plain; rw [if_neg (by simp only; omega)]⟩
              · rw [e1, e2, e3]
                unfold encRec
                rw [if_neg (by simp only; omega)]
                simp [bA_size, bA_list, ofNat_c]
              · unfold chk
                simp only [bA_size]
                rw [if_neg (by omega)]
                unfold mostV at hv
                by_cases h1 : c.toNat = 1
                · rw [if_pos h1] at hv
                  rw [if_pos (by omega), if_neg (by omega)]
                · rw [if_neg h1] at hv
                  rw [if_neg (by omega), if_pos (by omega), if_neg (by omega)]
theorem rdRs_enc : ∀ {rs : List Rec} (h : Good rs) (l : List UInt8), rdRs rs.length (encBody rs ++ l) = .ok (rs.map plain, l)
  | [], _, l => rfl
  | r :: rs, h, l => by
    have h1 := h r (by simp)
    have e : encBody (r :: rs) ++ l = encRec r ++ (encBody rs ++ l) := by simp [encBody]
    rw [e]
    show rdRs (rs.length + 1) _ = _
    unfold rdRs
    rw [rdR_enc h1.1 h1.2]
    simp only
    rw [rdRs_enc (fun r hr => h r (by simp [hr])) l]
    rfl
theorem rdRs_ok : ∀ (n : Nat) (l l' : List UInt8) (rs : List Rec), rdRs n l = .ok (rs, l') → l = encBody rs ++ l' ∧ rs.length = n ∧ Good rs ∧ ∀ r ∈ rs, plain r = r
  | 0, l, l', rs, h => by
    simp only [rdRs, Except.ok.injEq, Prod.mk.injEq] at h
    obtain ⟨rfl, rfl⟩ := h
    exact ⟨rfl, rfl, by simp [Good], by simp⟩
  | n + 1, l, l', rs, h => by
    unfold rdRs at h
    split at h
    · cases h
    · rename_i r l1 hr
      split at h
      · cases h
      · rename_i rs' l2 hrs
        simp only [Except.ok.injEq, Prod.mk.injEq] at h
        obtain ⟨rfl, rfl⟩ := h
        obtain ⟨e1, hc, ho, hp⟩ := rdR_ok hr
        obtain ⟨e2, hl, hg, hpl⟩ := rdRs_ok n l1 l2 rs' hrs
        refine ⟨by rw [e1, e2]; simp [encBody], by simp [hl], fun r' hr' => ?_, fun r' hr' => ?_⟩
        · rcases List.mem_cons.1 hr' with rfl | h
          · exact ⟨ho, hc⟩
          · exact hg r' h
        · rcases List.mem_cons.1 hr' with rfl | h
          · exact hp
          · exact hpl r' h

theorem rdV_err {most : Nat} {l : List UInt8} {e : Int} (h : rdV most l = .error e) : e = 3 ∨ e = 4 := by
  unfold rdV at h
  have := rvGo_err l 0 0
  split at h
  · rename_i h0
    simp only [Except.error.injEq] at h
    have h1 := this.resolve_left h0
    unfold rv at h
    omega
  · split at h
    · simp only [Except.error.injEq] at h; omega
    · cases h
theorem rdT_err {most : Nat} {l : List UInt8} {e : Int} (h : rdT most l = .error e) : e = 3 ∨ e = 4 := by
  unfold rdT at h
  split at h
  · rename_i e' he
    simp only [Except.error.injEq] at h
    subst h
    exact rdV_err he
  · split at h
    · simp only [Except.error.injEq] at h; omega
    · cases h
theorem rdR_err {l : List UInt8} {e : Int} (h : rdR l = .error e) : e = 3 ∨ e = 4 := by
  unfold rdR at h
  split at h
  · simp only [Except.error.injEq] at h; omega
  · split at h
    · simp only [Except.error.injEq] at h; omega
    · split at h
      · rename_i e' he
        simp only [Except.error.injEq] at h
        subst h; exact rdV_err he
      · split at h
        · rename_i e' he
          simp only [Except.error.injEq] at h
          subst h; exact rdT_err he
        · split at h
          · cases h
          · split at h
            · rename_i e' he
              simp only [Except.error.injEq] at h
              subst h; exact rdT_err he
            · cases h
theorem rdRs_err : ∀ {n : Nat} {l : List UInt8} {e : Int}, rdRs n l = .error e → e = 3 ∨ e = 4
  | 0, l, e, h => by cases h
  | n + 1, l, e, h => by
    unfold rdRs at h
    split at h
    · rename_i e' he
      simp only [Except.error.injEq] at h
      subst h; exact rdR_err he
    · split at h
      · rename_i e' he
        simp only [Except.error.injEq] at h
        subst h; exact rdRs_err he
      · cases h
theorem rdV_le {most n : Nat} {l r : List UInt8} (h : rdV most l = .ok (n, r)) : r.length ≤ l.length := by
  rw [(rdV_ok h).1]; simp
theorem rdT_le {most : Nat} {l s r : List UInt8} (h : rdT most l = .ok (s, r)) : r.length ≤ l.length := by
  rw [(rdT_ok h).1]; simp; omega

/-! ### fixed numbers -/
theorem fixedL_succ (n size : Nat) : fixedL n (size + 1) = UInt8.ofNat n :: fixedL (n / 256) size := by
  unfold fixedL
  rw [List.range_succ_eq_map]
  simp only [List.map_cons, Nat.pow_zero, Nat.div_one, List.map_map, List.cons.injEq, true_and]
  apply List.map_congr_left
  intro i _
  simp only [Function.comp]
  rw [Nat.pow_succ, Nat.mul_comm, Nat.div_div_eq_div_mul]
theorem leN_fixed : ∀ (size n : Nat), n < 256 ^ size → leN (fixedL n size) = n
  | 0, n, h => by
    have : n = 0 := by simpa using h
    subst this; rfl
  | size + 1, n, h => by
    rw [fixedL_succ]
    show (UInt8.ofNat n).toNat + 256 * leN (fixedL (n / 256) size) = n
    rw [leN_fixed size (n / 256) (by rw [Nat.div_lt_iff_lt_mul (by omega)]; rw [Nat.pow_succ] at h; exact h)]
    have : (UInt8.ofNat n).toNat = n % 256 := by simp
    rw [this]; omega
theorem fixed_leN : ∀ (l : List UInt8), fixedL (leN l) l.length = l
  | [] => rfl
  | c :: l => by
    have hc := c.toNat_lt
    show fixedL (c.toNat + 256 * leN l) (l.length + 1) = c :: l
    rw [fixedL_succ, show (c.toNat + 256 * leN l) / 256 = leN l by omega, fixed_leN l]
    congr 1
    have : UInt8.ofNat (c.toNat + 256 * leN l) = UInt8.ofNat c.toNat := by
      apply UInt8.toNat_inj.1
      simp
    rw [this, ofNat_c]
theorem leN_lt : ∀ (l : List UInt8), leN l < 256 ^ l.length
  | [] => by decide
  | c :: l => by
    have hc := c.toNat_lt
    have := leN_lt l
    show c.toNat + 256 * leN l < 256 ^ (l.length + 1)
    rw [Nat.pow_succ]
    omega

/-! ### Encode and Decode -/
theorem fitsB_seq {seq n : Nat} (h : fitsB seq n = true) : seq ≤ 72057594037927935 := by
  unfold fitsB at h
  simp only [Bool.and_eq_true, decide_eq_true_eq] at h
  exact h.1
theorem encErr_zero {seq : Nat} {rs : List Rec} (h : encErr seq rs = 0) : fitsB seq rs.length = true ∧ rs.length ≤ 4096 ∧ firstErr rs = 0 ∧ Sizes rs ≤ 4194304 := by
  unfold encErr at h
  split at h
  · cases h
  · rename_i h1
    split at h
    · cases h
    · split at h
      · rename_i h2; exact absurd h h2
      · rename_i h3
        split at h
        · cases h
        · exact ⟨by simpa using h1, by omega, by simpa using h3, by omega⟩
theorem encAll_len (seq : Nat) (rs : List Rec) : ((encAll seq rs).length : Int) = Sizes rs := by
  have := encBody_len rs
  simp only [encAll, List.length_append, encHead_len, Sizes]
  omega
theorem encAll_take (seq : Nat) (rs : List Rec) : (encAll seq rs).take 8 = fixedL seq 8 ∧ ((encAll seq rs).drop 8).take 4 = fixedL rs.length 4 ∧ (encAll seq rs).drop 12 = encBody rs := by
  have h8 := fixedL_len seq 8
  have h4 := fixedL_len rs.length 4
  have hh := encHead_len seq rs.length
  unfold encAll
  refine ⟨?_, ?_, ?_⟩
  · unfold encHead
    rw [List.append_assoc]
    exact List.take_left' h8
  · unfold encHead
    rw [List.append_assoc]
    have : (fixedL seq 8 ++ (fixedL rs.length 4 ++ encBody rs)).drop 8 = fixedL rs.length 4 ++ encBody rs := List.drop_left' h8
    rw [this]
    exact List.take_left' h4
  · exact List.drop_left' hh
theorem dec_enc {seq : Nat} {rs : List Rec} (hrs : AllOk rs) (h : encErr seq rs = 0) : dec (encAll seq rs) = (seq, rs.map plain, 0) := by
  obtain ⟨h1, h2, h3, h4⟩ := encErr_zero h
  have hg : Good rs := fun r hr => ⟨hrs r hr, firstErr_zero rs h3 r hr⟩
  have hl := encAll_len seq rs
  have hsq := fitsB_seq h1
  have hs0 := sumEnc_nonneg rs
  obtain ⟨t1, t2, t3⟩ := encAll_take seq rs
  unfold dec
  unfold Sizes at hl h4
  rw [t1, t2, t3, leN_fixed 8 seq (by simp only [Nat.reducePow]; omega), leN_fixed 4 rs.length (by simp only [Nat.reducePow]; omega)]
  rw [if_neg (by omega), if_neg (by omega), if_neg (by omega), if_neg (by omega), if_neg (by rw [h1]; simp; omega)]
  have := rdRs_enc hg []
  rw [List.append_nil] at this
  rw [this]
  simp
theorem dec_ok {b : List UInt8} {n : Nat} {rs : List Rec} (h : dec b = (n, rs, 0)) : (encErr n rs = 0 ∧ encAll n rs = b ∧ AllOk rs ∧ n < 18446744073709551616) := by
  unfold dec at h
  split at h
  · simp at h
  rename_i h1
  split at h
  · simp at h
  rename_i h2
  split at h
  · simp at h
  rename_i h3
  split at h
  · simp at h
  rename_i h4
  split at h
  · simp at h
  rename_i h5
  split at h
  · rename_i e he
    simp only [Prod.mk.injEq] at h
    have := rdRs_err he
    omega
  · rename_i rs' r hr
    split at h
    · simp at h
    · rename_i hr0
      simp only [Prod.mk.injEq, and_true] at h
      obtain ⟨rfl, rfl⟩ := h
      obtain ⟨e1, hl, hg, hp⟩ := rdRs_ok _ _ _ _ hr
      have hnil : r = [] := List.eq_nil_of_length_eq_zero (by omega)
      subst hnil
      rw [List.append_nil] at e1
      have h8 : (b.take 8).length = 8 := by rw [List.length_take]; omega
      have h4' : ((b.drop 8).take 4).length = 4 := by rw [List.length_take, List.length_drop]; omega
      have hb : encAll (leN (b.take 8)) rs' = b := by
        unfold encAll encHead
        rw [hl, ← e1]
        have f1 := fixed_leN (b.take 8)
        have f2 := fixed_leN ((b.drop 8).take 4)
        rw [h8] at f1
        rw [h4'] at f2
        rw [f1, f2, List.append_assoc, show b.drop 12 = (b.drop 8).drop 4 by rw [List.drop_drop], List.take_append_drop, List.take_append_drop]
      have hlen := encAll_len (leN (b.take 8)) rs'
      rw [hb] at hlen
      simp only [not_or] at h5
      refine ⟨?_, hb, fun r hr => (hg r hr).1, by omega⟩
      unfold encErr
      rw [hl, if_neg h5.2, if_neg (by omega), if_neg (by simp [firstErr_all _ fun r hr => (hg r hr).2]), if_neg (by omega)]
end Go.Proofs.Ytambcnlkdnmekaa
/-! Batches: numbers read back. -/
namespace Go.Proofs.Ytambcnlkdnmekaa
open Go SG Go.RowKit Go.Lib
set_option linter.unusedVariables false
set_option maxRecDepth 4000
set_option linter.unusedSimpArgs false

theorem byteCells_at (l : List UInt8) (i : Nat) : (byteCells l)[i]? = (l[i]?).map fun b => .int .u8 (b.toNat : Int) := by simp [byteCells]
/-- one byte of a slice -/
theorem byte_at {w : World} {x : Value} {l : List UInt8} (hs : Sl w x l.length 1 (byteCells l)) {i : Nat} {c : UInt8} (hc : l[i]? = some c) : ∃ ad, indexAddrV 1 x (.int .i64 (i : Int)) = some (.pointer (some ad)) ∧ w.cell? ad = some (.int .u8 (c.toNat : Int)) := by
  have hi : i < l.length := (List.getElem?_eq_some_iff.1 hc).1
  obtain ⟨ad, h1, h2, _⟩ := hs.at_ hi
  refine ⟨ad, h1, ?_⟩
  have := h2 0 (.int .u8 (c.toNat : Int)) (by
    rw [List.getElem?_take, if_pos (by omega), List.getElem?_drop]
    simp [byteCells_at, hc])
  simpa [Addr.add] using this
theorem and8 : ∀ a : Fin 256, bits .and .u8 (a.val : Int) 127 = ((a.val % 128 : Nat) : Int) := by decide +kernel
theorem and8' (c : UInt8) : bits .and .u8 (c.toNat : Int) 127 = ((c.toNat % 128 : Nat) : Int) := and8 ⟨c.toNat, c.toNat_lt⟩
theorem or64 {a b : Nat} (ha : a < 18446744073709551616) (hb : b < 18446744073709551616) : bits .or .u64 (a : Int) (b : Int) = ((a ||| b : Nat) : Int) := by
  have h1 : (BitVec.ofInt 64 (a : Int)).toNat = a := by rw [BitVec.ofInt_natCast, BitVec.toNat_ofNat]; exact Nat.mod_eq_of_lt (by omega)
  have h2 : (BitVec.ofInt 64 (b : Int)).toNat = b := by rw [BitVec.ofInt_natCast, BitVec.toNat_ofNat]; exact Nat.mod_eq_of_lt (by omega)
  have hlt : a ||| b < 2 ^ 64 := Nat.or_lt_two_pow (by omega) (by omega)
  show IntKind.u64.wrap ((BitVec.ofInt 64 (a : Int) ||| BitVec.ofInt 64 (b : Int)).toNat : Int) = _
  rw [BitVec.toNat_or, h1, h2, wu64 (by omega) (by omega)]
theorem or_add {n y s : Nat} (h : n < 2 ^ s) : n ||| (y * 2 ^ s) = n + y * 2 ^ s := by
  have := Nat.shiftLeft_add_eq_or_of_lt h y
  rw [Nat.shiftLeft_eq] at this
  rw [Nat.or_comm, ← this, Nat.add_comm]
theorem p128 (i : Nat) : (2 : Nat) ^ (7 * i) = 128 ^ i := by rw [Nat.pow_mul]
/-- a digit is put on -/
theorem digit {n c i : Nat} (hi : i ≤ 9) (hn : n < 128 ^ i) (hc : c < 256) (h9 : i = 9 → c ≤ 1) :
    IntKind.u64.wrap (((c % 128 : Nat) : Int) * 2 ^ ((7 * (i : Int)).toNat)) = ((c % 128 * 128 ^ i : Nat) : Int) ∧ bits .or .u64 (n : Int) ((c % 128 * 128 ^ i : Nat) : Int) = ((n + c % 128 * 128 ^ i : Nat) : Int) ∧ n + c % 128 * 128 ^ i < 18446744073709551616 ∧
      n + c % 128 * 128 ^ i < 128 ^ (i + 1) := by
  have hp : (128 : Nat) ^ (i + 1) = 128 ^ i * 128 := Nat.pow_succ ..
  have hm : c % 128 < 128 := Nat.mod_lt _ (by decide)
  have hx : c % 128 * 128 ^ i ≤ 127 * 128 ^ i := Nat.mul_le_mul_right _ (by omega)
  have hsum : n + c % 128 * 128 ^ i < 128 ^ (i + 1) := by rw [hp]; omega
  have hlt : n + c % 128 * 128 ^ i < 18446744073709551616 := by
    by_cases h : i = 9
    · have hc1 := h9 h
      subst h
      rw [p9] at *
      have : c % 128 ≤ 1 := by omega
      have : c % 128 * 9223372036854775808 ≤ 1 * 9223372036854775808 := Nat.mul_le_mul_right _ this
      omega
    · have h1 : (128 : Nat) ^ (i + 1) ≤ 128 ^ 9 := Nat.pow_le_pow_right (by decide) (by omega)
      rw [p9] at h1
      omega
  have ht : (7 * (i : Int)).toNat = 7 * i := by omega
  refine ⟨?_, ?_, hlt, hsum⟩
  · rw [ht]
    have e : (((c % 128 : Nat) : Int) * 2 ^ (7 * i)) = ((c % 128 * 128 ^ i : Nat) : Int) := by
      rw [← p128, Int.natCast_mul, Int.natCast_pow]; rfl
    rw [e, wu64 (by omega) (by omega)]
  · rw [or64 (by omega) (by omega)]
    have := or_add (n := n) (y := c % 128) (s := 7 * i) (by rw [p128]; exact hn)
    rw [p128] at this
    rw [this]
def tupV (r : Int × Nat × Nat) : Value := .tuple [.int .u64 (r.2.1 : Int), .int .i64 (r.2.2 : Int), .int .i64 r.1].toArray

set_option maxHeartbeats 400000 in
theorem c69 {w : World} {x : Value} {l : List UInt8} (hs : Sl w x l.length 1 (byteCells l)) (hl : l.length ≤ 140737488355328) {K : Value → World → Prop} (hK : K (tupV (rv l)) w) : CallS Try.prog 69 #[x] K w := by
  refine s69_call hm ?_
  unfold s69
  refine join0 (fun w' => w = w' ∧ rv l = (4, 0, 0)) ?_ fun J0 hJ0 => ?_
  · rintro w' ⟨rfl, h⟩
    rw [h] at hK; exact hK
  refine pur hs.len ?_
  refine loop2 (σ := Nat × Nat) (fun s a b w' => w = w' ∧ a = .int .u64 (s.2 : Int) ∧ b = .int .i64 (s.1 : Int) ∧ s.1 ≤ 9 ∧ s.1 ≤ l.length ∧ s.2 < 128 ^ s.1 ∧ rvGo (l.drop s.1) s.1 s.2 = rv l) (fun s => l.length - s.1)
    (0, 0) ⟨rfl, rfl, rfl, by simp, by simp, by simp, by simp [rv]⟩ ?_
  rintro ⟨i, n⟩ _ _ w' ⟨rfl, rfl, rfl, hi9, hi, hn, hgo⟩ L hL
  simp only at hi9 hi hn hgo hL
  refine pur (bin_lss _ _ _) (condD (fun hlt => ?_) (fun hge => ?_))
  · have hlt' : i < l.length := by omega
    obtain ⟨c, hc⟩ : ∃ c, l[i]? = some c := ⟨l[i], List.getElem?_eq_getElem hlt'⟩
    have hcl := c.toNat_lt
    have hdrop : l.drop i = c :: l.drop (i + 1) := by
      rw [List.drop_eq_getElem_cons hlt']
      congr 1
      rw [List.getElem?_eq_getElem hlt'] at hc
      exact Option.some.inj hc
    rw [hdrop] at hgo
    unfold rvGo at hgo
    obtain ⟨ad, h1, h2⟩ := byte_at hs hc
    refine pur h1 (SG.load (S := No) h2 ?_)
    refine join1 (fun a w' => w = w' ∧ a = .bool (decide ((i = 9 ∧ 1 < c.toNat) ∨ (0 < i ∧ c.toNat = 0)))) ?_ fun J2 hJ2 => ?_
    · rintro a w' ⟨rfl, rfl⟩
      refine condD (fun hb => ?_) (fun hb => ?_)
      · rw [if_pos hb] at hgo
        rw [← hgo] at hK; exact hK
      · rw [if_neg hb] at hgo
        obtain ⟨d1, d2, d3, d4⟩ := digit hi9 hn hcl (fun h => by omega)
        refine pur ((bin_and _ _ _).trans (by rw [and8'])) (pur (conv64u (by omega) (by omega)) (pur ((bin_mul _ _ _).trans (by rw [wi64 (by omega) (by omega)])) ?_))
        refine pur ((bin_shl (by omega) (by simp only [IntKind.bits]; omega)).trans (by rw [d1])) (pur ((bin_or _ _ _).trans (by rw [d2])) ?_)
        refine pur (bin_lss _ _ _) (condD (fun h128 => ?_) (fun h128 => ?_))
        · rw [if_pos (by omega)] at hgo
          refine pur (add64 (c := ((i + 1 : Nat) : Int)) (by omega) (by omega) (by omega)) ?_
          rw [← hgo] at hK; exact hK
        · rw [if_neg (by omega)] at hgo
          refine pur (add64 (c := ((i + 1 : Nat) : Int)) (by omega) (by omega) (by omega)) ?_
          exact hL (i + 1, n + c.toNat % 128 * 128 ^ i) _ _ _ ⟨rfl, rfl, rfl, by simp only; omega, by simp only; omega, d4, hgo⟩ (by simp only; omega)
    · refine pur (bin_eql _ _ _) ?_
      refine join1 (fun a w' => w = w' ∧ (i = 9 → a = .bool (decide (1 < c.toNat)))) ?_ fun J3 hJ3 => ?_
      · rintro a w' ⟨rfl, ha⟩
        by_cases h9 : i = 9
        · obtain rfl := ha h9
          refine pur (v := .bool (decide (1 < c.toNat))) ((pick_b _ _ _).trans (by rw [if_pos (by simp; omega)])) (condD (fun hb => ?_) (fun hb => ?_))
          · refine hJ2 _ _ ⟨rfl, ?_⟩
            simp [h9, hb]
          · refine pur (bin_gtr _ _ _) ?_
            refine join1 (fun a w' => w = w' ∧ a = .bool (decide (c.toNat = 0))) ?_ fun J4 hJ4 => ?_
            · rintro a w' ⟨rfl, rfl⟩
              refine pur (v := .bool (decide (c.toNat = 0))) ((pick_b _ _ _).trans (by rw [if_pos (by simp; omega)])) (hJ2 _ _ ⟨rfl, ?_⟩)
              congr 1; rw [Bool.eq_iff_iff]; simp only [decide_eq_true_eq]; omega
            · rw [ifB_eq, if_pos (by simp; omega)]
              refine pur (bin_eql _ _ _) (hJ4 _ _ ⟨rfl, ?_⟩)
              congr 1; rw [Bool.eq_iff_iff]; simp only [decide_eq_true_eq]; omega
        · refine pur (v := .bool false) ((pick_b _ _ _).trans (by rw [if_neg (by simp; omega)])) (condF rfl ?_)
          refine pur (bin_gtr _ _ _) ?_
          refine join1 (fun a w' => w = w' ∧ (0 < i → a = .bool (decide (c.toNat = 0)))) ?_ fun J4 hJ4 => ?_
          · rintro a w' ⟨rfl, ha⟩
            by_cases h0 : 0 < i
            · obtain rfl := ha h0
              refine pur (v := .bool (decide (c.toNat = 0))) ((pick_b _ _ _).trans (by rw [if_pos (by simp; omega)])) (hJ2 _ _ ⟨rfl, ?_⟩)
              congr 1; rw [Bool.eq_iff_iff]; simp only [decide_eq_true_eq]; omega
            · refine pur (v := .bool false) ((pick_b _ _ _).trans (by rw [if_neg (by simp; omega)])) (hJ2 _ _ ⟨rfl, ?_⟩)
              congr 1; rw [Bool.eq_iff_iff]; simp only [decide_eq_true_eq]
              constructor
              · intro h; cases h
              · omega
          · rw [ifB_eq]
            by_cases h0 : 0 < i
            · rw [if_pos (by simp; omega)]
              refine pur (bin_eql _ _ _) (hJ4 _ _ ⟨rfl, fun _ => ?_⟩)
              congr 1; rw [Bool.eq_iff_iff]; simp only [decide_eq_true_eq]; omega
            · rw [if_neg (by simp; omega)]
              exact hJ4 _ _ ⟨rfl, fun h => absurd h h0⟩
      · rw [ifB_eq]
        by_cases h9 : i = 9
        · rw [if_pos (by simp; omega)]
          refine pur (bin_gtr _ _ _) (hJ3 _ _ ⟨rfl, fun _ => ?_⟩)
          congr 1; rw [Bool.eq_iff_iff]; simp only [decide_eq_true_eq]; omega
        · rw [if_neg (by simp; omega)]
          exact hJ3 _ _ ⟨rfl, fun h => absurd h h9⟩
  · have hnil : l.drop i = [] := List.drop_eq_nil_of_le (by omega)
    rw [hnil] at hgo
    refine hJ0 _ ⟨rfl, ?_⟩
    rw [← hgo]; rfl

set_option maxHeartbeats 400000 in
theorem c70 {w : World} {x : Value} {l : List UInt8} (hs : Sl w x l.length 1 (byteCells l)) (hl : l.length ≤ 140737488355328) {K : Value → World → Prop} (hK : K (tupV (rv l)) w) : CallS Try.prog 70 #[x] K w := by
  refine s70_call hm ?_
  unfold s70
  refine join0 (fun w' => w = w' ∧ rv l = (4, 0, 0)) ?_ fun J0 hJ0 => ?_
  · rintro w' ⟨rfl, h⟩
    rw [h] at hK; exact hK
  refine loop2 (σ := Nat × Nat) (fun s a b w' => w = w' ∧ a = .int .u64 (s.2 : Int) ∧ b = .int .i64 (s.1 : Int) ∧ s.1 ≤ 9 ∧ s.1 ≤ l.length ∧ s.2 < 128 ^ s.1 ∧ rvGo (l.drop s.1) s.1 s.2 = rv l) (fun s => l.length - s.1)
    (0, 0) ⟨rfl, rfl, rfl, by simp, by simp, by simp, by simp [rv]⟩ ?_
  rintro ⟨i, n⟩ _ _ w' ⟨rfl, rfl, rfl, hi9, hi, hn, hgo⟩ L hL
  simp only at hi9 hi hn hgo hL
  refine pur hs.len (pur (bin_lss _ _ _) (condD (fun hlt => ?_) (fun hge => ?_)))
  · have hlt' : i < l.length := by omega
    obtain ⟨c, hc⟩ : ∃ c, l[i]? = some c := ⟨l[i], List.getElem?_eq_getElem hlt'⟩
    have hcl := c.toNat_lt
    have hdrop : l.drop i = c :: l.drop (i + 1) := by
      rw [List.drop_eq_getElem_cons hlt']
      congr 1
      rw [List.getElem?_eq_getElem hlt'] at hc
      exact Option.some.inj hc
    rw [hdrop] at hgo
    unfold rvGo at hgo
    obtain ⟨ad, h1, h2⟩ := byte_at hs hc
    refine pur h1 (SG.load (S := No) h2 (pur (conv64u (by omega) (by omega)) (pur (bin_eql _ _ _) ?_)))
    refine join1 (fun a w' => w = w' ∧ (i = 9 → a = .bool (decide (1 < c.toNat)))) ?_ fun J2 hJ2 => ?_
    · rintro a w' ⟨rfl, ha⟩
      refine pur (v := .bool (decide (i = 9 ∧ 1 < c.toNat))) ((pick_b _ _ _).trans ?_) ?_
      · by_cases h9 : i = 9
        · rw [if_pos (by simp; omega), ha h9]; simp [h9]
        · rw [if_neg (by simp; omega)]; simp [h9]
      refine join1 (fun a w' => w = w' ∧ (¬ (i = 9 ∧ 1 < c.toNat) → a = .bool (decide (0 < i)))) ?_ fun J3 hJ3 => ?_
      · rintro a w' ⟨rfl, ha⟩
        refine join1 (fun b w' => w = w' ∧ (¬ (i = 9 ∧ 1 < c.toNat) → 0 < i → b = .bool (decide (c.toNat = 0)))) ?_ fun J4 hJ4 => ?_
        · rintro b w' ⟨rfl, hb⟩
          refine join1 (fun d w' => w = w' ∧ (¬ (i = 9 ∧ 1 < c.toNat) → d = .bool (decide (0 < i ∧ c.toNat = 0)))) ?_ fun J5 hJ5 => ?_
          · rintro d w' ⟨rfl, hd⟩
            refine pur (v := .bool (decide ((i = 9 ∧ 1 < c.toNat) ∨ (0 < i ∧ c.toNat = 0)))) ((pick_b _ _ _).trans ?_) (condD (fun hb => ?_) (fun hb => ?_))
            · by_cases hh : i = 9 ∧ 1 < c.toNat
              · rw [if_pos (by simpa using hh)]; simp [hh]
              · rw [if_neg (by simpa using hh), hd hh]; simp [hh]
            · rw [if_pos hb] at hgo
              rw [← hgo] at hK; exact hK
            · rw [if_neg hb] at hgo
              obtain ⟨d1, d2, d3, d4⟩ := digit hi9 hn hcl (fun h => by omega)
              refine pur ((bin_and _ _ _).trans (by rw [and127 _ (by omega)])) (pur ((bin_mul _ _ _).trans (by rw [wi64 (by omega) (by omega)])) (pur (conv64u (by omega) (by omega)) ?_))
              refine pur ((bin_shl (by omega) (by simp only [IntKind.bits]; omega)).trans (by rw [d1])) (pur ((bin_or _ _ _).trans (by rw [d2])) ?_)
              refine pur (bin_lss _ _ _) (condD (fun h128 => ?_) (fun h128 => ?_))
              · rw [if_pos (by omega)] at hgo
                refine pur (add64 (c := ((i + 1 : Nat) : Int)) (by omega) (by omega) (by omega)) ?_
                rw [← hgo] at hK; exact hK
              · rw [if_neg (by omega)] at hgo
                refine pur (add64 (c := ((i + 1 : Nat) : Int)) (by omega) (by omega) (by omega)) ?_
                exact hL (i + 1, n + c.toNat % 128 * 128 ^ i) _ _ _ ⟨rfl, rfl, rfl, by simp only; omega, by simp only; omega, d4, hgo⟩ (by simp only; omega)
          · rw [ifB_eq]
            by_cases hh : i = 9 ∧ 1 < c.toNat
            · rw [if_neg (by simpa using hh)]
              exact hJ5 _ _ ⟨rfl, fun h => absurd hh h⟩
            · rw [if_pos (by simpa using hh), ha hh]
              refine pur (v := .bool (decide (0 < i ∧ c.toNat = 0))) ((pick_b _ _ _).trans ?_) (hJ5 _ _ ⟨rfl, fun _ => rfl⟩)
              by_cases h0 : 0 < i
              · rw [if_pos (by simpa using h0), hb hh h0]; simp [h0]
              · rw [if_neg (by simpa using h0)]; simp [h0]
        · by_cases hh : i = 9 ∧ 1 < c.toNat
          · -- whatever stands there
            by_cases hia : isB a true = true
            · unfold IfB
              rw [if_pos hia]
              exact pur (bin_eql _ _ _) (hJ4 _ _ ⟨rfl, fun h => absurd hh h⟩)
            · unfold IfB
              rw [if_neg hia]
              exact hJ4 _ _ ⟨rfl, fun h => absurd hh h⟩
          · rw [ha hh, ifB_eq]
            by_cases h0 : 0 < i
            · rw [if_pos (by simpa using h0)]
              refine pur (bin_eql _ _ _) (hJ4 _ _ ⟨rfl, fun _ _ => ?_⟩)
              congr 1; rw [Bool.eq_iff_iff]; simp only [decide_eq_true_eq]; omega
            · rw [if_neg (by simpa using h0)]
              exact hJ4 _ _ ⟨rfl, fun _ h => absurd h h0⟩
      · rw [ifB_eq]
        by_cases hh : i = 9 ∧ 1 < c.toNat
        · rw [if_neg (by simpa using hh)]
          exact hJ3 _ _ ⟨rfl, fun h => absurd hh h⟩
        · rw [if_pos (by simpa using hh)]
          refine pur (bin_gtr _ _ _) (hJ3 _ _ ⟨rfl, fun _ => ?_⟩)
          congr 1; rw [Bool.eq_iff_iff]; simp only [decide_eq_true_eq]; omega
    · rw [ifB_eq]
      by_cases h9 : i = 9
      · rw [if_pos (by simp; omega)]
        refine pur (bin_gtr _ _ _) (hJ2 _ _ ⟨rfl, fun _ => ?_⟩)
        congr 1; rw [Bool.eq_iff_iff]; simp only [decide_eq_true_eq]; omega
      · rw [if_neg (by simp; omega)]
        exact hJ2 _ _ ⟨rfl, fun h => absurd h h9⟩
  · have hnil : l.drop i = [] := List.drop_eq_nil_of_le (by omega)
    rw [hnil] at hgo
    refine hJ0 _ ⟨rfl, ?_⟩
    rw [← hgo]; rfl
end Go.Proofs.Ytambcnlkdnmekaa
