/- Batches: adding records. -/
import Derived.Test.YtambcnlkdnmekaaB1
namespace Go.Proofs.Ytambcnlkdnmekaa
open Go SG Go.RowKit Go.Lib
set_option linter.unusedVariables false
set_option maxRecDepth 4000
set_option linter.unusedSimpArgs false

theorem own_ne {w : World} {base : Nat} {e t : TypeId} {size n g : Nat} {v : Value} {xs cs : List Value} (h : w.ownsRow base e size v n xs) (hb : Blk w g t cs) (hne : e ≠ t) : v.ownBlock ≠ some g := by
  rcases h.2 with ⟨rfl, _⟩ | ⟨g', cap, cur, rfl, _, hh, _⟩
  · simp [Value.ownBlock]
  · intro he
    have hg : g' = g := by simpa [Value.ownBlock] using he
    subst hg
    unfold Blk at hb
    rw [hh] at hb
    injection hb with hb
    injection hb with _ hb
    exact hne hb
theorem own_own_ne {w : World} {base base' : Nat} {e e' : TypeId} {size size' n n' : Nat} {v v' : Value} {xs xs' : List Value} (h : w.ownsRow base e size v n xs) (h' : w.ownsRow base' e' size' v' n' xs') (hne : e ≠ e') :
    ∀ g, v.ownBlock = some g → v'.ownBlock ≠ some g := by
  intro g hg hg'
  rcases h.2 with ⟨rfl, _⟩ | ⟨g1, cap, cur, rfl, _, hh, _⟩
  · simp [Value.ownBlock] at hg
  · rcases h'.2 with ⟨rfl, _⟩ | ⟨g2, cap2, cur2, rfl, _, hh2, _⟩
    · simp [Value.ownBlock] at hg'
    · simp only [Value.ownBlock, Option.some.injEq] at hg hg'
      subst hg
      subst hg'
      rw [hh] at hh2
      injection hh2 with hh2
      injection hh2 with _ hh2
      exact hne hh2

def ints (l : List Nat) : List Value := l.map fun (n : Nat) => Value.int .i64 (n : Int)
/-- a batch lies at g: its records, its size's cell, its marks -/
structure BatchAt (w : World) (g : Nat) (lv mv : Value) (recs : List Rec) (sz : Int) (marks : List Nat) : Prop where
  blk : Blk w g 26 [lv, .int .i64 sz, mv]
  row : w.ownsRow 0 31 4 lv recs.length (flat Rec.cells recs)
  mrow : w.ownsRow 0 3 1 mv marks.length (ints marks)
def Foot (g : Nat) (lv mv : Value) : Nat → Prop := fun b => b = g ∨ lv.ownBlock = some b ∨ mv.ownBlock = some b
theorem BatchAt.lt {w : World} {g : Nat} {lv mv : Value} {recs : List Rec} {sz : Int} {marks : List Nat} (h : BatchAt w g lv mv recs sz marks) {b : Nat} (hb : Foot g lv mv b) : b < w.heap.size := by
  rcases hb with rfl | hb | hb
  · exact h.blk.lt
  · exact (h.row.lt b hb).2
  · exact (h.mrow.lt b hb).2
theorem BatchAt.ext {S : Nat → Prop} {w w' : World} {g : Nat} {lv mv : Value} {recs : List Rec} {sz : Int} {marks : List Nat} (h : BatchAt w g lv mv recs sz marks) (e : Ext S w w') (hn : ∀ b, Foot g lv mv b → ¬ S b) :
    BatchAt w' g lv mv recs sz marks :=
  ⟨h.blk.ext e (hn g (.inl rfl)), owns_ext h.row e fun b hb => hn b (.inr (.inl hb)), owns_ext h.mrow e fun b hb => hn b (.inr (.inr hb))⟩
theorem BatchAt.no {w w' : World} {g : Nat} {lv mv : Value} {recs : List Rec} {sz : Int} {marks : List Nat} (h : BatchAt w g lv mv recs sz marks) (e : Ext No w w') : BatchAt w' g lv mv recs sz marks :=
  h.ext e fun _ _ hh => hh

def sumEnc (l : List Rec) : Int := (l.map fun r => ((encRec r).length : Int)).sum
theorem sumEnc_nil : sumEnc [] = 0 := rfl
theorem sumEnc_append (a b : List Rec) : sumEnc (a ++ b) = sumEnc a + sumEnc b := by simp [sumEnc]
theorem sumEnc_one (r : Rec) : sumEnc [r] = (encRec r).length := by simp [sumEnc]
def Sizes (l : List Rec) : Int := 12 + sumEnc l
/-- the size's cell -/
def SzOk (sz : Int) (recs : List Rec) : Prop := sz = Sizes recs ∨ (sz = 0 ∧ recs = [])
theorem sumEnc_nonneg (l : List Rec) : 0 ≤ sumEnc l := by
  induction l with
  | nil => simp [sumEnc]
  | cons r l ih => simp only [sumEnc, List.map_cons, List.sum_cons] at ih ⊢; omega
theorem SzOk.max {sz : Int} {recs : List Rec} (h : SzOk sz recs) : (if (12 : Int) > sz then 12 else sz) = Sizes recs := by
  have := sumEnc_nonneg recs
  rcases h with h | ⟨rfl, rfl⟩
  · rw [h]; unfold Sizes; split <;> omega
  · simp [Sizes, sumEnc]
def firstErr : List Rec → Int
  | [] => 0
  | r :: l => if chk r = 0 then firstErr l else chk r
def AllOk (l : List Rec) : Prop := ∀ r ∈ l, r.Ok
def Good (l : List Rec) : Prop := ∀ r ∈ l, r.Ok ∧ chk r = 0
theorem firstErr_zero : ∀ (l : List Rec), firstErr l = 0 → ∀ r ∈ l, chk r = 0
  | [], _, r, h => by cases h
  | a :: l, h, r, hr => by
    unfold firstErr at h
    split at h
    · rename_i h0
      rcases List.mem_cons.1 hr with rfl | hr
      · exact h0
      · exact firstErr_zero l h r hr
    · exact absurd h (by assumption)
theorem firstErr_at : ∀ (l : List Rec) (i : Nat) (r : Rec), l[i]? = some r → (∀ j r', j < i → l[j]? = some r' → chk r' = 0) → chk r ≠ 0 → firstErr l = chk r
  | [], i, r, h, _, _ => by simp at h
  | a :: l, 0, r, h, _, hne => by
    simp only [List.getElem?_cons_zero, Option.some.injEq] at h
    subst h
    unfold firstErr; rw [if_neg hne]
  | a :: l, i + 1, r, h, h0, hne => by
    unfold firstErr
    rw [if_pos (h0 0 a (by omega) rfl)]
    exact firstErr_at l i r (by simpa using h) (fun j r' hj hr' => h0 (j + 1) r' (by omega) (by simpa using hr')) hne
theorem sumEnc_le {l : List Rec} (h : Good l) : sumEnc l ≤ 20000 * l.length := by
  induction l with
  | nil => simp [sumEnc]
  | cons r l ih =>
    have := encRec_len (h r (by simp)).1 (h r (by simp)).2
    have := ih fun r hr => h r (by simp [hr])
    simp only [sumEnc, List.map_cons, List.sum_cons, List.length_cons] at this ⊢
    omega
/-- what 'all' comes to -/
def addAll (recs rs : List Rec) : Int × List Rec :=
  if firstErr rs ≠ 0 then (firstErr rs, recs)
  else if 4096 < recs.length + rs.length ∨ 4194304 < Sizes recs + sumEnc rs then (2, recs)
  else (0, recs ++ rs.map plain)
theorem encRec_plain (r : Rec) : encRec (plain r) = encRec r := by
  unfold plain
  split
  · rename_i h; simp [encRec, h]
  · rfl
theorem sumEnc_plain (l : List Rec) : sumEnc (l.map plain) = sumEnc l := by
  induction l with
  | nil => rfl
  | cons r l ih => simp only [sumEnc, List.map_cons, List.sum_cons, encRec_plain] at ih ⊢; rw [ih]
theorem recs_at {w : World} {x : Value} {rs : List Rec} (hs : Sl w x rs.length 4 (flat Rec.cells rs)) {i : Nat} {r : Rec} (hr : rs[i]? = some r) :
    ∃ ad, indexAddrV 4 x (.int .i64 (i : Int)) = some (.pointer (some ad)) ∧ At w ad r.cells ∧ x.ownBlock = some ad.block := by
  have hi : i < rs.length := (List.getElem?_eq_some_iff.1 hr).1
  obtain ⟨ad, h1, h2, h3⟩ := hs.at_ hi
  rw [flat_at Rec.cells Rec.cells_len rs i r hr] at h2
  exact ⟨ad, h1, h2, h3⟩

set_option maxHeartbeats 1000000 in
theorem c26 {w : World} {g : Nat} {lv mv x : Value} {recs rs : List Rec} {sz : Int} {marks : List Nat} (hb : BatchAt w g lv mv recs sz marks) (hsz : SzOk sz recs) (hgood : Good recs) (hlen : recs.length ≤ 4096)
    (hs : Sl w x rs.length 4 (flat Rec.cells rs)) (hx : ∀ b, x.ownBlock = some b → ¬ Foot g lv mv b) (hxl : ∀ b, x.ownBlock = some b → b < w.heap.size) (hrs : AllOk rs) (hrl : rs.length ≤ 2932031007402) {K : Value → World → Prop}
    (hK : ∀ w' lv' sz', BatchAt w' g lv' mv (addAll recs rs).2 sz' marks → SzOk sz' (addAll recs rs).2 → Ext (Foot g lv mv) w w' → (∀ b, lv'.ownBlock = some b → lv.ownBlock = some b ∨ w.heap.size ≤ b) →
      K (.int .i64 (addAll recs rs).1) w') :
    CallS Try.prog 26 #[.pointer (some ⟨g, 0, none⟩), x] K w := by
  have hsum0 := sumEnc_nonneg recs
  have hsum1 := sumEnc_le hgood
  have hsame : ∀ {w'}, Ext No w w' → (addAll recs rs).2 = recs → K (.int .i64 (addAll recs rs).1) w' := fun e h2 => by
    have := hK _ lv sz (by rw [h2]; exact hb.no e) (by rw [h2]; exact hsz) e.no (fun b hb => .inl hb)
    exact this
  refine s26_call hm ?_
  unfold s26
  refine pur (nil_ptr _) (pur (field_ptr _ _ _) (loadB hb.blk (v := .int .i64 sz) rfl (pur ((max_int _ _ _ _).trans (by rw [hsz.max])) ?_)))
  refine join1 (fun a w' => Ext No w w' ∧ a = .int .i64 (Sizes recs + sumEnc rs) ∧ firstErr rs = 0) ?_ ?_
  · rintro a w1 ⟨e1, rfl, hfe⟩
    have hb1 := hb.no e1
    have hgr : Good rs := fun r hr => ⟨hrs r hr, firstErr_zero rs hfe r hr⟩
    have hsr := sumEnc_le hgr
    have hsr0 := sumEnc_nonneg rs
    have hSz : Sizes recs = 12 + sumEnc recs := rfl
    refine pur (nil_ptr _) (pur (field_ptr _ _ _) (loadB hb1.blk (v := lv) rfl ?_))
    refine pur (Sl.own hb1.row).len (pur hs.len (pur (add64 (c := ((recs.length + rs.length : Nat) : Int)) (by omega) (by omega) (by omega)) (pur (bin_gtr _ _ _) ?_)))
    have hbig : 4096 < recs.length + rs.length ∨ 4194304 < Sizes recs + sumEnc rs → K (.int .i64 2) w1 := fun h => by
      have h2 : addAll recs rs = (2, recs) := by unfold addAll; rw [if_neg (by simp [hfe]), if_pos h]
      have := hsame e1 (by rw [h2])
      rw [h2] at this; exact this
    refine join1 (fun a w' => w1 = w' ∧ ((4096 : Int) < ((recs.length + rs.length : Nat) : Int) ∨ a = .bool (decide (4194304 < Sizes recs + sumEnc rs)))) ?_ ?_
    · rintro a w' ⟨rfl, ha⟩
      by_cases hn : (4096 : Int) < ((recs.length + rs.length : Nat) : Int)
      · refine pur (pick_b _ _ _) ?_
        rw [if_pos (by simpa using hn)]
        exact condT rfl (hbig (.inl (by omega)))
      · obtain rfl := ha.resolve_left hn
        refine pur (pick_b _ _ _) ?_
        rw [if_neg (by simpa using hn)]
        refine condD (fun hv => hbig (.inr hv)) (fun hv => ?_)
        have hres : addAll recs rs = (0, recs ++ rs.map plain) := by unfold addAll; rw [if_neg (by simp [hfe]), if_neg (by omega)]
        -- the records are put behind
        refine join0 (fun w' => ∃ lv', BatchAt w' g lv' mv (recs ++ rs.map plain) sz marks ∧ Ext (Foot g lv mv) w w' ∧ ∀ b, lv'.ownBlock = some b → lv.ownBlock = some b ∨ w.heap.size ≤ b) ?_ ?_
        · rintro w2 ⟨lv', hb2, e2, hfr⟩
          refine pur (nil_ptr _) (pur (field_ptr _ _ _) (storeB hb2.blk (by simp) rfl fun w3 b3 e3 _ => ?_))
          have hne1 := own_ne hb2.row hb2.blk (by decide)
          have hne2 := own_ne hb2.mrow hb2.blk (by decide)
          have := hK w3 lv' (Sizes recs + sumEnc rs) (by
            rw [hres]
            exact ⟨b3, owns_ext hb2.row e3 fun b hbb hh => hne1 (by rw [hbb, show b = g from hh]), owns_ext hb2.mrow e3 fun b hbb hh => hne2 (by rw [hbb, show b = g from hh])⟩)
            (by rw [hres]; left; show _ = 12 + sumEnc _; rw [sumEnc_append, sumEnc_plain]; omega)
            (e2.trans' e3 (fun _ h _ => h) (fun b h _ => .inl h)) hfr
          rw [hres] at this; exact this
        · intro J hJ
          refine pur hs.len ?_
          refine loop1 (σ := Nat × Value) (fun s a w' => a = .int .i64 (s.1 : Int) ∧ s.1 ≤ rs.length ∧ BatchAt w' g s.2 mv (recs ++ (rs.take s.1).map plain) sz marks ∧ Ext (Foot g lv mv) w w' ∧ (∀ b, s.2.ownBlock = some b → lv.ownBlock = some b ∨ w.heap.size ≤ b))
            (fun s => rs.length - s.1) (0, lv) ⟨rfl, by simp, by simpa using hb1, e1.no, fun b h => .inl h⟩ ?_
          rintro ⟨i, lvi⟩ a w2 ⟨rfl, hi, hb2, e2, hfr⟩ L hL
          simp only at hi hb2 hfr hL
          refine pur (bin_lss _ _ _) (condD (fun hlt => ?_) (fun hge => ?_))
          · have hlt' : i < rs.length := by omega
            obtain ⟨r, hr⟩ : ∃ r, rs[i]? = some r := ⟨rs[i], List.getElem?_eq_getElem hlt'⟩
            have hs2 := hs.ext e2 fun b hb => hx b hb
            obtain ⟨ad, ha1, ha2, ha3⟩ := recs_at hs2 hr
            refine pur ha1 (loadA ha2 rfl (box fun w3 b3 e3 z3 => ?_))
            have hb3 := hb2.no e3
            refine storeAll b3 rfl (by simp [Value.cells]) (Rec.one r) fun w4 b4 e4 z4 => ?_
            have hb4 : BatchAt w4 g lvi mv _ sz marks := hb3.ext e4 fun b hbf hh => by
              have := hb2.lt hbf
              rw [show b = w2.heap.size from hh] at this; omega
            have e24 : Ext No w2 w4 := e3.fresh e4 fun b hh => .inr (by rw [show b = w2.heap.size from hh]; exact Nat.le_refl _)
            refine draw (fun w' => Blk w' g 26 [lvi, .int .i64 sz, mv] ∧ Blk w' w2.heap.size 31 r.cells) ⟨hb4.blk, b4⟩ ?_
            refine pur (nil_ptr _) (pur (field_ptr _ _ _) ?_)
            refine heldC (v := lvi) (fun w' hh => hh.1.cell 0) (heldA (fun w' hh => At.of_blk hh.2) rfl ?_)
            refine c54 r fun w5 e5 => ?_
            have e45 : Ext No w4 w5 := (Ext.drew (S := No) w4).trans e5
            refine ⟨⟨hb4.blk.no e45, b4.no e45⟩, ?_⟩
            refine build1 T22 rfl fun w6 b6 e6 z6 => ?_
            have e46 := e45.trans e6
            refine ⟨⟨hb4.blk.no e46, b4.no e46⟩, ?_⟩
            have hb6 := hb4.no e46
            have hl6 : (recs ++ (rs.take i).map plain).length = recs.length + i := by simp [Nat.min_eq_left hi]
            refine append_sl T22 22 hb6.row (b6.sl (n := 1) (c := 1) (size := 4) rfl (Nat.le_refl _)) (Rec.one _) (by rw [hl6]; omega) (by rw [hl6]; omega) (Nat.zero_le _) fun lv' w7 ho7 hg7 hat => ?_
            have e67 : Ext (fun b => lvi.ownBlock = some b) w6 w7 := Ext.grown hg7 fun b hbb => hbb
            have hne1 := own_ne hb6.row hb6.blk (by decide)
            have hbl7 := hb6.blk.ext e67 hne1
            have hm7 := owns_ext hb6.mrow e67 fun b hbb hh => own_own_ne hb6.row hb6.mrow (by decide) b hh hbb
            refine pur (nil_ptr _) (pur (field_ptr _ _ _) (storeB hbl7 (by simp) (by rcases ho7.2 with ⟨rfl, _⟩ | ⟨_, _, _, rfl, _⟩ <;> rfl) fun w8 b8 e8 _ => ?_))
            refine pur (add64 (c := ((i + 1 : Nat) : Int)) (by omega) (by omega) (by omega)) ?_
            have hne7 := own_ne ho7 hbl7 (by decide)
            have hne8 := own_ne hm7 hbl7 (by decide)
            have hrow8 := owns_ext ho7 e8 fun b hbb hh => hne7 (by rw [hbb, show b = g from hh])
            have hm8 := owns_ext hm7 e8 fun b hbb hh => hne8 (by rw [hbb, show b = g from hh])
            have htake : (rs.take (i + 1)).map plain = (rs.take i).map plain ++ [plain r] := by
              rw [List.take_add_one, hr]; simp
            have e26 := (e24.trans e46)
            refine hL (i + 1, lv') _ _ ⟨rfl, by simp only; omega, ⟨b8, ?_, hm8⟩, ?_, ?_⟩ (by simp only; omega)
            · simp only
              rw [htake, ← List.append_assoc, flat_append, flat_one]
              simpa [Value.cells, Rec.agg, Rec.cells, Nat.add_assoc] using hrow8
            · have e28 : Ext (Foot g lvi mv) w2 w8 := (e26.no).trans ((e67.mono fun b hbb _ => .inr (.inl hbb)).trans (e8.mono fun b hbb _ => .inl hbb))
              exact e2.trans' e28 (fun _ h _ => h) fun b hbb hlt => by
                rcases hbb with h | h | h
                · exact .inl h
                · exact .inr (.inl ((hfr b h).resolve_right (by omega)))
                · exact .inr (.inr h)
            · intro b hbb
              rcases hat with h | h
              · rw [h] at hbb; exact hfr b hbb
              · rw [h] at hbb
                have : b = w6.heap.size := by simpa using hbb.symm
                right; have := e2.size; have := e26.size; omega
          · have : rs.take i = rs := List.take_of_length_le (by omega)
            rw [this] at hb2
            exact hJ _ ⟨lvi, hb2, e2, hfr⟩
    · intro J hJ
      rw [ifB_eq]
      by_cases hn : (4096 : Int) < ((recs.length + rs.length : Nat) : Int)
      · rw [if_neg (by simpa using hn)]
        exact hJ _ _ ⟨rfl, .inl hn⟩
      · rw [if_pos (by simpa using hn)]
        exact pur (bin_gtr _ _ _) (hJ _ _ ⟨rfl, .inr rfl⟩)
  · intro J hJ
    refine pur hs.len ?_
    refine loop2 (σ := Nat) (fun i a b w' => b = .int .i64 (i : Int) ∧ i ≤ rs.length ∧ a = .int .i64 (Sizes recs + sumEnc (rs.take i)) ∧ Ext No w w' ∧ ∀ j r, j < i → rs[j]? = some r → chk r = 0)
      (fun i => rs.length - i) 0 ⟨rfl, by omega, by simp [sumEnc], Ext.refl _ w, fun _ _ h => by omega⟩ ?_
    rintro i a b w2 ⟨rfl, hi, rfl, e2, hz⟩ L hL
    have hgt : Good (rs.take i) := fun r hr => by
      obtain ⟨j, hj⟩ := List.getElem?_of_mem hr
      rw [List.getElem?_take] at hj
      split at hj
      · exact ⟨hrs r (List.mem_of_getElem? hj), hz j r (by assumption) hj⟩
      · cases hj
    have hst := sumEnc_le hgt
    have hst0 := sumEnc_nonneg (rs.take i)
    rw [List.length_take] at hst
    refine pur (bin_lss _ _ _) (condD (fun hlt => ?_) (fun hge => ?_))
    · have hlt' : i < rs.length := by omega
      obtain ⟨r, hr⟩ : ∃ r, rs[i]? = some r := ⟨rs[i], List.getElem?_eq_getElem hlt'⟩
      have hrok := hrs r (List.mem_of_getElem? hr)
      obtain ⟨ad, ha1, ha2, ha3⟩ := recs_at (hs.no e2) hr
      refine pur ha1 (loadA ha2 rfl (box fun w3 b3 e3 z3 => ?_))
      refine storeAll b3 rfl (by simp [Value.cells]) (Rec.one r) fun w4 b4 e4 z4 => ?_
      have e24 : Ext No w2 w4 := e3.fresh e4 fun b hh => .inr (by rw [show b = w2.heap.size from hh]; exact Nat.le_refl _)
      refine loadA (At.of_blk b4) rfl ?_
      refine c19 r hrok fun w5 e5 => ?_
      refine pur (bin_neq _ _ _) (condN (fun hne => ?_) (fun h0 => ?_))
      · have hfe := firstErr_at rs i r hr hz hne
        have h2 : addAll recs rs = (chk r, recs) := by unfold addAll; rw [if_pos (by rw [hfe]; exact hne), hfe]
        have := hsame ((e2.trans e24).trans e5) (by rw [h2])
        rw [h2] at this; exact this
      · refine loadA (At.of_blk (b4.no e5)) rfl ?_
        refine c30 r hrok h0 fun v w6 ho6 e6 => ?_
        have hel := encRec_len hrok h0
        have hSz : Sizes recs = 12 + sumEnc recs := rfl
        refine pur (Sl.own ho6).len (pur (add64 (c := Sizes recs + sumEnc (rs.take (i + 1))) ?_ ?_ ?_) (pur (add64 (c := ((i + 1 : Nat) : Int)) (by omega) (by omega) (by omega)) ?_))
        · rw [List.take_add_one, hr]; simp only [Option.toList_some, sumEnc_append, sumEnc_one]; omega
        · rw [List.take_add_one, hr]; simp only [Option.toList_some, sumEnc_append, sumEnc_one]; omega
        · rw [List.take_add_one, hr]; simp only [Option.toList_some, sumEnc_append, sumEnc_one]; omega
        refine hL (i + 1) _ _ _ ⟨rfl, by omega, rfl, ((e2.trans e24).trans e5).trans e6, fun j r' hj hr' => ?_⟩ (by omega)
        by_cases hji : j = i
        · subst hji; rw [hr] at hr'; cases hr'; exact h0
        · exact hz j r' (by omega) hr'
    · have hall : rs.take i = rs := List.take_of_length_le (by omega)
      refine hJ _ _ ⟨e2, by rw [hall], ?_⟩
      have : ∀ (l : List Rec), (∀ r ∈ l, chk r = 0) → firstErr l = 0 := fun l => by
        induction l with
        | nil => intro _; rfl
        | cons r l ih => intro h; unfold firstErr; rw [if_pos (h r (by simp))]; exact ih fun r hr => h r (by simp [hr])
      rw [hall] at hgt
      exact this rs fun r hr => (hgt r hr).2
end Go.Proofs.Ytambcnlkdnmekaa
