/- Batches: savepoints taken back; Encode; Same; what lives. -/
import Derived.Test.YtambcnlkdnmekaaB3
namespace Go.Proofs.Ytambcnlkdnmekaa
open Go SG Go.RowKit Go.Lib
set_option linter.unusedVariables false
set_option maxRecDepth 4000
set_option linter.unusedSimpArgs false

/-- a row cut to its first elements -/
theorem owns_take {w : World} {base : Nat} {e : TypeId} {size n : Nat} {v : Value} {xs : List Value} (h : w.ownsRow base e size v n xs) {m : Nat} (hm : m ≤ n) (size' : Nat) (hs' : size' = size) :
    ∃ v', sliceV size' v none (some (.int .i64 (m : Int))) = some v' ∧ w.ownsRow base e size v' m (xs.take (m * size)) ∧ v'.ownBlock = v.ownBlock := by
  subst hs'
  have hlen : (xs.take (m * size')).length = m * size' := by rw [List.length_take, h.1]; exact Nat.min_eq_left (Nat.mul_le_mul_right _ hm)
  rcases h.2 with ⟨rfl, rfl⟩ | ⟨g, cap, cur, rfl, hb, hg, hnc, hcm, hcs, htake⟩
  · have : m = 0 := by omega
    subst this
    refine ⟨.slice none 0 0, by simp [sliceV, boundV], ⟨by simp, .inl ⟨rfl, rfl⟩⟩, rfl⟩
  · refine ⟨.slice (some ⟨g, 0, none⟩) m cap, ?_, ⟨hlen, .inr ⟨g, cap, cur, rfl, hb, hg, by omega, hcm, hcs, ?_⟩⟩, rfl⟩
    · have h1 : (0 : Int) ≤ (m : Int) ∧ (m : Int) ≤ (cap : Int) := by omega
      by_cases hc : cap = 0
      · have hm0 : m = 0 := by omega
        subst hm0
        simp [sliceV, boundV, hc]
      · simp [sliceV, boundV, h1, hc, Addr.add_zero']
    · rw [← htake, List.take_take, Nat.min_eq_left (Nat.mul_le_mul_right _ hm)]

theorem lastInt {marks : List Nat} {m : Nat} (l : List Nat) (h : marks = l ++ [m]) : (ints marks)[l.length]? = some (.int .i64 (m : Int)) := by
  subst h; simp [ints]

/-- Pop -/
theorem c31 {w : World} {g : Nat} {lv mv : Value} {recs : List Rec} {sz : Int} {marks : List Nat} (hb : BatchIs w g lv mv recs sz marks) (hml : marks.length ≤ 8796093022208) {K : Value → World → Prop}
    (h0 : marks = [] → K (.int .i64 6) w)
    (hK : ∀ l m w' mv', marks = l ++ [m] → BatchIs w' g lv mv' recs sz l → Ext (Foot g lv mv) w w' → mv'.ownBlock = mv.ownBlock → K (.int .i64 0) w') :
    CallS Try.prog 31 #[.pointer (some ⟨g, 0, none⟩)] K w := by
  refine s31_call hm ?_
  unfold s31
  refine pur (nil_ptr _) (pur (field_ptr _ _ _) (loadB hb.at_.blk (v := mv) rfl ?_))
  refine pur (Sl.own hb.at_.mrow).len (pur (bin_eql _ _ _) (condD (fun hz => ?_) (fun hz => ?_)))
  · exact h0 (List.eq_nil_of_length_eq_zero (by omega))
  · obtain ⟨l, m, hlm⟩ : ∃ l m, marks = l ++ [m] := ⟨marks.dropLast, marks.getLast (by intro h; simp [h] at hz), (List.dropLast_concat_getLast _).symm⟩
    have hlen : marks.length = l.length + 1 := by rw [hlm]; simp
    refine draw (fun w' => Blk w' g 26 [lv, .int .i64 sz, mv]) hb.at_.blk ?_
    refine pur (nil_ptr _) (pur (field_ptr _ _ _) (pur (nil_ptr _) (pur (field_ptr _ _ _) ?_)))
    refine heldC (v := mv) (fun w' hh => hh.cell 2) (heldC (v := mv) (fun w' hh => hh.cell 2) ?_)
    refine pur (Sl.own hb.at_.mrow).len (pur (sub64 (c := (l.length : Int)) (by omega) (by omega) (by omega)) ?_)
    obtain ⟨mv', h1, h2, h3⟩ := owns_take hb.at_.mrow (m := l.length) (by omega) 1 rfl
    refine pur h1 (pur (nil_ptr _) (pur (field_ptr _ _ _) ?_))
    have hbd : Blk w.drew g 26 [lv, .int .i64 sz, mv] := hb.at_.blk
    refine storeB hbd (by simp) (by rcases h2.2 with ⟨rfl, _⟩ | ⟨_, _, _, rfl, _⟩ <;> rfl) fun w1 b1 e1 _ => ?_
    have hne1 := own_ne hb.at_.row hb.at_.blk (by decide)
    have hne2 := own_ne h2 hb.at_.blk (by decide)
    refine hK l m w1 mv' hlm ⟨⟨b1, ?_, ?_⟩, hb.sz, hb.good, hb.len, hb.plain⟩ (((Ext.drew (S := Foot g lv mv) w)).trans (e1.mono fun b h _ => .inl h)) h3
    · have : w.drew.ownsRow 0 31 4 lv recs.length (flat Rec.cells recs) := hb.at_.row
      exact owns_ext this e1 fun b hbb hh => hne1 (by rw [hbb, show b = g from hh])
    · have : w.drew.ownsRow 0 3 1 mv' l.length ((ints marks).take (l.length * 1)) := h2
      have := owns_ext this e1 fun b hbb hh => hne2 (by rw [hbb, show b = g from hh])
      rw [hlm] at this
      simpa [ints] using this

/-- marks lie within -/
def MarksOk (recs : List Rec) (marks : List Nat) : Prop := ∀ m ∈ marks, m ≤ recs.length

set_option maxHeartbeats 1000000 in
/-- Back -/
theorem c16 {w : World} {g : Nat} {lv mv : Value} {recs : List Rec} {sz : Int} {marks : List Nat} (hb : BatchIs w g lv mv recs sz marks) (hml : marks.length ≤ 8796093022208) (hmk : MarksOk recs marks) {K : Value → World → Prop}
    (h0 : marks = [] → K (.int .i64 6) w)
    (hK : ∀ l m w' lv' mv' sz', marks = l ++ [m] → BatchIs w' g lv' mv' (recs.take m) sz' l → Ext (Foot g lv mv) w w' → (∀ b, Foot g lv' mv' b → Foot g lv mv b) → K (.int .i64 0) w') :
    CallS Try.prog 16 #[.pointer (some ⟨g, 0, none⟩)] K w := by
  refine s16_call hm ?_
  unfold s16
  refine pur (nil_ptr _) (pur (field_ptr _ _ _) (loadB hb.at_.blk (v := mv) rfl ?_))
  refine pur (Sl.own hb.at_.mrow).len (pur (bin_eql _ _ _) (condD (fun hz => ?_) (fun hz => ?_)))
  · exact h0 (List.eq_nil_of_length_eq_zero (by omega))
  · obtain ⟨l, m, hlm⟩ : ∃ l m, marks = l ++ [m] := ⟨marks.dropLast, marks.getLast (by intro h; simp [h] at hz), (List.dropLast_concat_getLast _).symm⟩
    have hlen : marks.length = l.length + 1 := by rw [hlm]; simp
    have hmle : m ≤ recs.length := hmk m (by rw [hlm]; simp)
    have hrl := hb.len
    obtain ⟨ad, hix, hat, hab⟩ := (Sl.own hb.at_.mrow).at_ (i := l.length) (by omega)
    have hcell : w.cell? ad = some (.int .i64 (m : Int)) := by
      have := hat 0 (.int .i64 (m : Int)) (by
        rw [List.getElem?_take, if_pos (by omega), List.getElem?_drop]
        simpa using lastInt l hlm)
      simpa [Addr.add] using this
    refine draw (fun w' => Blk w' g 26 [lv, .int .i64 sz, mv] ∧ w'.cell? ad = some (.int .i64 (m : Int))) ⟨hb.at_.blk, hcell⟩ ?_
    refine pur (nil_ptr _) (pur (field_ptr _ _ _) (pur (nil_ptr _) (pur (field_ptr _ _ _) ?_)))
    refine heldC (v := mv) (fun w' hh => hh.1.cell 2) (heldC (v := mv) (fun w' hh => hh.1.cell 2) ?_)
    refine pur (Sl.own hb.at_.mrow).len (pur (sub64 (c := (l.length : Int)) (by omega) (by omega) (by omega)) (pur hix ?_))
    refine heldC (v := .int .i64 (m : Int)) (fun w' hh => hh.2) ?_
    have hbd : BatchAt w.drew g lv mv recs sz marks := hb.at_.no (Ext.drew (S := No) w)
    have hgt : Good recs := hb.good
    have hsum := fun n => sumEnc_nonneg (recs.take n)
    -- behind the loop
    refine join0 (fun w' => ∃ sz', BatchAt w' g lv mv recs sz' marks ∧ SzOk sz' (recs.take m) ∧ Ext (At1 g) w.drew w') ?_ ?_
    · rintro w1 ⟨sz', hb1, hsz1, e1⟩
      refine pur (nil_ptr _) (pur (field_ptr _ _ _) (loadB hb1.blk (v := lv) rfl ?_))
      obtain ⟨lv', h1, h2, h3⟩ := owns_take hb1.row hmle 4 rfl
      refine pur h1 (pur (nil_ptr _) (pur (field_ptr _ _ _) (storeB hb1.blk (by simp) (by rcases h2.2 with ⟨rfl, _⟩ | ⟨_, _, _, rfl, _⟩ <;> rfl) fun w2 b2 e2 _ => ?_)))
      have hne1 := own_ne h2 hb1.blk (by decide)
      have hne2 := own_ne hb1.mrow hb1.blk (by decide)
      have hb2 : BatchIs w2 g lv' mv (recs.take m) sz' marks := by
        refine ⟨⟨b2, ?_, owns_ext hb1.mrow e2 fun b hbb hh => hne2 (by rw [hbb, show b = g from hh])⟩, hsz1, fun r hr => hgt r (List.mem_of_mem_take hr), by rw [List.length_take]; omega, fun r hr => hb.plain r (List.mem_of_mem_take hr)⟩
        have := owns_ext h2 e2 fun b hbb hh => hne1 (by rw [hbb, show b = g from hh])
        rw [flat_take Rec.cells Rec.cells_len] at this
        rw [List.length_take, Nat.min_eq_left hmle]
        exact this
      refine c31 hb2 hml (fun he => by rw [hlm] at he; simp at he) fun l' m' w3 mv' hlm' hb3 e3 hmv => ?_
      have hll : l' = l := by rw [hlm] at hlm'; exact ((List.append_inj' hlm' rfl).1).symm
      subst hll
      refine hK _ m w3 lv' mv' sz' hlm hb3 ?_ ?_
      · have ee : Ext (Foot g lv mv) w w2 := ((Ext.drew (S := Foot g lv mv) w).trans (e1.mono fun b h _ => .inl h)).trans (e2.mono fun b h _ => .inl h)
        exact ee.trans' e3 (fun _ h _ => h) fun b hbb _ => by
          rcases hbb with h | h | h
          · exact .inl h
          · rw [h3] at h; exact .inr (.inl h)
          · exact .inr (.inr h)
      · intro b hbb
        rcases hbb with h | h | h
        · exact .inl h
        · rw [h3] at h; exact .inr (.inl h)
        · rw [hmv] at h; exact .inr (.inr h)
    · intro J hJ
      refine pur (nil_ptr _) (pur (field_ptr _ _ _) (loadB hbd.blk (v := lv) rfl ?_))
      -- the records behind the mark
      have hsl : ∃ x, sliceV 4 lv (some (.int .i64 (m : Int))) none = some x ∧ Sl w.drew x (recs.drop m).length 4 (flat Rec.cells (recs.drop m)) ∧ (∀ b, x.ownBlock = some b → lv.ownBlock = some b) := by
        have hrow := hbd.row
        rcases hrow.2 with ⟨rfl, h0'⟩ | ⟨g', cap, cur, rfl, hbb, hg', hnc, hcm, hcs, htake⟩
        · have hnil : recs = [] := List.eq_nil_of_length_eq_zero h0'
          subst hnil
          have : m = 0 := by simpa using hmle
          subst this
          exact ⟨.slice none 0 0, by simp [sliceV, boundV], Sl.nil_ _ 4, fun b hb => by simp [Value.ownBlock] at hb⟩
        · have h1 : (0 : Int) ≤ (m : Int) ∧ (m : Int) ≤ (recs.length : Int) := by omega
          refine ⟨.slice (if cap = m then some ⟨g', 0, none⟩ else (some ⟨g', 0, none⟩ : Option Addr).map (·.add (m * 4))) (recs.length - m) (cap - m), by simp only [sliceV, boundV, Option.bind_some]; rw [if_pos h1]; simp, ?_, ?_⟩
          · refine ⟨_, cap - m, by rw [List.length_drop], flat_length Rec.cells Rec.cells_len _, by simp; omega, fun hn => by split at hn <;> simp at hn, fun ad' had => ?_⟩
            have hcells := fun j u hj => hrow.cells (g := g') rfl j u hj
            split at had
            · rename_i hcap
              have : recs.drop m = [] := List.drop_eq_nil_of_le (by omega)
              rw [this]
              exact fun i v hv => by simp [flat] at hv
            · simp only [Option.map_some, Option.some.injEq] at had
              subst had
              have : At w.drew ⟨g', 0, none⟩ (flat Rec.cells recs) := fun i v hv => hcells i v hv
              have := this.drop (m * 4)
              rw [flat_drop Rec.cells Rec.cells_len] at this
              exact this
          · intro b hb'
            split at hb' <;> simpa [Value.ownBlock, Addr.add_block] using hb'
      obtain ⟨x, hx1, hx2, hx3⟩ := hsl
      have hdl : (recs.drop m).length = recs.length - m := List.length_drop
      refine pur hx1 (pur hx2.len ?_)
      refine loop1 (σ := Nat × Int) (fun s a w' => a = .int .i64 (s.1 : Int) ∧ s.1 ≤ recs.length - m ∧ BatchAt w' g lv mv recs s.2 marks ∧ Ext (At1 g) w.drew w' ∧ s.2 = sz - sumEnc ((recs.drop m).take s.1))
        (fun s => recs.length - m - s.1) (0, sz) ⟨rfl, by omega, hbd, Ext.refl _ _, by simp [sumEnc]⟩ ?_
      rintro ⟨i, szi⟩ a w2 ⟨rfl, hi, hb2, e2, hszi⟩ L hL
      simp only at hi hb2 hszi hL
      have hpre : ∀ n, sumEnc (recs.take m) + sumEnc ((recs.drop m).take n) = sumEnc (recs.take (m + n)) := fun n => by rw [← sumEnc_append, List.take_add]
      have hszc : recs ≠ [] → sz = 12 + sumEnc recs := fun hne => by rcases hb.sz with h | ⟨_, h⟩ <;> first | exact h | exact absurd h hne
      have hall := sumEnc_le hb.good
      have hall0 := sumEnc_nonneg recs
      refine pur (bin_lss _ _ _) (condD (fun hlt => ?_) (fun hge => ?_))
      · have hlt' : i < (recs.drop m).length := by omega
        obtain ⟨r, hr⟩ : ∃ r, (recs.drop m)[i]? = some r := ⟨(recs.drop m)[i], List.getElem?_eq_getElem hlt'⟩
        have hrm : r ∈ recs := List.mem_of_mem_drop (List.mem_of_getElem? hr)
        have hrow_ne := own_ne hb.at_.row hb.at_.blk (by decide)
        have hs2 := hx2.ext e2 fun b hbb hh => hrow_ne (by rw [hx3 b hbb, show b = g from hh])
        obtain ⟨ad', ha1, ha2, ha3⟩ := recs_at hs2 hr
        refine pur ha1 (loadA ha2 rfl (box fun w3 b3 e3 z3 => ?_))
        refine storeAll b3 rfl (by simp [Value.cells]) (Rec.one r) fun w4 b4 e4 z4 => ?_
        have e24 : Ext No w2 w4 := e3.fresh e4 fun b hh => .inr (by rw [show b = w2.heap.size from hh]; exact Nat.le_refl _)
        have hb4 := hb2.no e24
        refine draw (fun w' => Blk w' g 26 [lv, .int .i64 szi, mv] ∧ Blk w' w2.heap.size 31 r.cells) ⟨hb4.blk, b4⟩ ?_
        refine pur (nil_ptr _) (pur (field_ptr _ _ _) ?_)
        refine heldC (v := .int .i64 szi) (fun w' hh => hh.1.cell 1) (heldA (fun w' hh => At.of_blk hh.2) rfl ?_)
        refine c30 r (hb.good r hrm).1 (hb.good r hrm).2 fun v w5 ho5 e5 => ?_
        have e45 : Ext No w4 w5 := (Ext.drew (S := No) w4).trans e5
        have hb5 := hb4.no e45
        refine ⟨⟨hb5.blk, b4.no e45⟩, ?_⟩
        have hne : recs ≠ [] := fun h => by rw [h] at hrm; cases hrm
        have hsz0 := hszc hne
        have hel := encRec_len (hb.good r hrm).1 (hb.good r hrm).2
        have hnext : sumEnc ((recs.drop m).take (i + 1)) = sumEnc ((recs.drop m).take i) + (encRec r).length := by
          rw [List.take_add_one, hr]; simp only [Option.toList_some, sumEnc_append, sumEnc_one]
        have hle : ∀ n, sumEnc (recs.take n) ≤ sumEnc recs := fun n => by
          have := sumEnc_append (recs.take n) (recs.drop n)
          rw [List.take_append_drop] at this
          have := sumEnc_nonneg (recs.drop n)
          omega
        have h1 := hpre i
        have h2 := hpre (i + 1)
        have h3 := hle (m + i)
        have h4 := hle (m + (i + 1))
        have h5 := hsum m
        have h6 := sumEnc_nonneg ((recs.drop m).take i)
        have h7 := sumEnc_nonneg ((recs.drop m).take (i + 1))
        refine pur (Sl.own ho5).len (pur (sub64 (c := szi - (encRec r).length) rfl (by omega) (by omega)) (pur (nil_ptr _) (pur (field_ptr _ _ _) (storeB hb5.blk (by simp) rfl fun w6 b6 e6 _ => ?_))))
        refine pur (add64 (c := ((i + 1 : Nat) : Int)) (by omega) (by omega) (by omega)) ?_
        have hne1 := own_ne hb5.row hb5.blk (by decide)
        have hne2 := own_ne hb5.mrow hb5.blk (by decide)
        refine hL (i + 1, szi - (encRec r).length) _ _ ⟨rfl, by simp only; omega, ⟨b6, owns_ext hb5.row e6 fun b hbb hh => hne1 (by rw [hbb, show b = g from hh]), owns_ext hb5.mrow e6 fun b hbb hh => hne2 (by rw [hbb, show b = g from hh])⟩,
          (e2.trans (e24.trans e45).no).trans e6, by simp only; omega⟩ (by simp only; omega)
      · have htake : (recs.drop m).take i = recs.drop m := List.take_of_length_le (by omega)
        rw [htake] at hszi
        refine hJ _ ⟨szi, hb2, ?_, e2⟩
        have h1 := sumEnc_append (recs.take m) (recs.drop m)
        rw [List.take_append_drop] at h1
        rcases hb.sz with h | ⟨h, h'⟩
        · left; rw [hszi, h]; unfold Sizes; omega
        · right
          subst h'
          exact ⟨by rw [hszi, h]; simp [sumEnc], by simp⟩
end Go.Proofs.Ytambcnlkdnmekaa
