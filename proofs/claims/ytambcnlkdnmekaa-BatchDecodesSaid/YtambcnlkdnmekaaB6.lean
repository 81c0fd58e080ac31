/- Batches: Encode; Same; what lives; the reference's Size. -/
import Derived.Test.YtambcnlkdnmekaaB5
namespace Go.Proofs.Ytambcnlkdnmekaa
open Go SG Go.RowKit Go.Lib
set_option linter.unusedVariables false
set_option maxRecDepth 4000
set_option linter.unusedSimpArgs false

def encBody (rs : List Rec) : List UInt8 := rs.flatMap encRec
theorem encBody_len (rs : List Rec) : ((encBody rs).length : Int) = sumEnc rs := by
  induction rs with
  | nil => rfl
  | cons r l ih => simp only [encBody, List.flatMap_cons, List.length_append, sumEnc, List.map_cons, List.sum_cons] at ih ⊢; omega
def encHead (seq n : Nat) : List UInt8 := fixedL seq 8 ++ fixedL n 4
theorem encHead_len (seq n : Nat) : (encHead seq n).length = 12 := by simp [encHead, fixedL_len]
def encAll (seq : Nat) (rs : List Rec) : List UInt8 := encHead seq rs.length ++ encBody rs
def encErr (seq : Nat) (rs : List Rec) : Int :=
  if fitsB seq rs.length = false then 1 else if 4096 < rs.length then 2 else if firstErr rs ≠ 0 then firstErr rs else if 4194304 < Sizes rs then 2 else 0
theorem firstErr_all : ∀ (l : List Rec), (∀ r ∈ l, chk r = 0) → firstErr l = 0
  | [], _ => rfl
  | r :: l, h => by unfold firstErr; rw [if_pos (h r (by simp))]; exact firstErr_all l fun r hr => h r (by simp [hr])

theorem c33 (n : Nat) {K : Value → World → Prop} {w : World}
    (hK : ∀ v w', w'.ownsRow w.heap.size 5 1 v 8 (byteCells (fixedL n 8)) → Ext No w w' → K v w') : CallS Try.prog 33 #[.int .u64 (n : Int)] K w := by
  refine s33_call hm ?_
  unfold s33
  exact c57 n 8 (by omega) hK
theorem c34 (n : Nat) (hn : n < 4294967296) {K : Value → World → Prop} {w : World}
    (hK : ∀ v w', w'.ownsRow w.heap.size 5 1 v 4 (byteCells (fixedL n 4)) → Ext No w w' → K v w') : CallS Try.prog 34 #[.int .u32 (n : Int)] K w := by
  refine s34_call hm ?_
  unfold s34
  exact pur (conv64u (by omega) (by omega)) (c57 n 4 (by omega) hK)

set_option maxHeartbeats 1000000 in
theorem c17 {w : World} {x : Value} {seq : Nat} {rs : List Rec} (hseq : seq < 18446744073709551616) (hs : Sl w x rs.length 4 (flat Rec.cells rs)) (hrs : AllOk rs) (hrl : rs.length ≤ 2932031007402) {K : Value → World → Prop}
    (hE : ∀ w', encErr seq rs ≠ 0 → Ext No w w' → K (.tuple [.slice none 0 0, .int .i64 (encErr seq rs)].toArray) w')
    (hK : ∀ v w', encErr seq rs = 0 → w'.ownsRow w.heap.size 5 1 v (encAll seq rs).length (byteCells (encAll seq rs)) → Ext No w w' → K (.tuple [v, .int .i64 0].toArray) w') :
    CallS Try.prog 17 #[.int .u64 (seq : Int), x] K w := by
  refine s17_call hm ?_
  unfold s17
  refine pur hs.len (c32 seq rs.length hseq (by omega) (pur (not_b _) (condB (fun hf => ?_) (fun hf => ?_))))
  · have hf' : fitsB seq rs.length = false := by simpa using hf
    have h1 : encErr seq rs = 1 := by unfold encErr; rw [if_pos hf']
    have := hE w (by rw [h1]; decide) (Ext.refl _ w)
    rw [h1] at this; exact this
  · have hf' : fitsB seq rs.length = true := by simpa using hf
    refine pur hs.len (pur (bin_gtr _ _ _) (condD (fun hbig => ?_) (fun hsmall => ?_)))
    · have h1 : encErr seq rs = 2 := by unfold encErr; rw [if_neg (by rw [hf']; simp), if_pos (by omega)]
      have := hE w (by rw [h1]; decide) (Ext.refl _ w)
      rw [h1] at this; exact this
    · have hlen : rs.length ≤ 4096 := by omega
      refine c33 seq fun v1 w1 ho1 e1 => ?_
      refine pur hs.len (pur (conv32u (by omega) (by omega)) ?_)
      refine c34 rs.length (by omega) fun v2 w2 ho2 e2 => ?_
      have ho1' := owns_ext ho1 e2 fun _ _ hh => hh
      refine append_sl T40 40 ho1' (Sl.own ho2) (byteCells_one _) (by omega) (by omega) (Nat.le_trans e1.size e2.size) fun v3 w3 ho3 hg3 _ => ?_
      rw [← byteCells_append] at ho3
      have e3 : Ext No w w3 := ext_fr' (e1.trans e2) (ext_grown ho1' hg3) (Nat.le_refl _)
      have ho3' : w3.ownsRow w.heap.size 5 1 v3 (encHead seq rs.length).length (byteCells (encHead seq rs.length)) := by rw [encHead_len]; exact ho3
      -- behind the loop
      refine join1 (fun a w' => ∃ lst : List UInt8, w'.ownsRow w.heap.size 5 1 a lst.length (byteCells lst) ∧ Ext No w w' ∧ firstErr rs = 0 ∧ (lst = encAll seq rs ∨ (4194304 < lst.length ∧ lst.length ≤ 4300000 ∧ 4194304 < Sizes rs))) ?_ fun J hJ => ?_
      · rintro a w' ⟨lst, ho, he, hfe, hcase⟩
        have hgr : Good rs := fun r hr => ⟨hrs r hr, firstErr_zero rs hfe r hr⟩
        have hb := encBody_len rs
        have hal : ((encAll seq rs).length : Int) = Sizes rs := by simp only [encAll, List.length_append, encHead_len, Sizes]; omega
        have hsl := sumEnc_le hgr
        have herr : encErr seq rs = if 4194304 < Sizes rs then 2 else 0 := by unfold encErr; rw [if_neg (by rw [hf']; simp), if_neg (by omega), if_neg (by simp [hfe])]
        refine pur (Sl.own ho).len (pur (bin_gtr _ _ _) (condD (fun hbig => ?_) (fun hsm => ?_)))
        · have h2 : encErr seq rs = 2 := by
            rw [herr, if_pos]
            rcases hcase with h | h
            · rw [h] at hbig; omega
            · exact h.2.2
          have := hE w' (by rw [h2]; decide) he
          rw [h2] at this; exact this
        · have hl : lst = encAll seq rs := hcase.resolve_right (by omega)
          subst hl
          exact hK a w' (by rw [herr, if_neg (by omega)]) ho he
      · refine pur hs.len ?_
        refine loop2 (σ := Nat × List UInt8) (fun s a b w' => b = .int .i64 (s.1 : Int) ∧ s.1 ≤ rs.length ∧ w'.ownsRow w.heap.size 5 1 a s.2.length (byteCells s.2) ∧ Ext No w w' ∧ (∀ j r, j < s.1 → rs[j]? = some r → chk r = 0) ∧
            (s.2 = encHead seq rs.length ++ encBody (rs.take s.1) ∨ (4194304 < s.2.length ∧ s.2.length ≤ 4300000 ∧ (s.2.length : Int) ≤ Sizes (rs.take s.1))) ∧ s.2.length ≤ 4300000)
          (fun s => rs.length - s.1) (0, encHead seq rs.length) ⟨rfl, by simp, ho3', e3, fun _ _ h => by simp at h, .inl (by simp [encBody]), by rw [encHead_len]; omega⟩ ?_
        rintro ⟨i, lst⟩ a b w4 ⟨rfl, hi, ho, he, hz, hcase, hll⟩ L hL
        simp only at hi ho hz hcase hll hL
        have hgt : Good (rs.take i) := fun r hr => by
          obtain ⟨j, hj⟩ := List.getElem?_of_mem hr
          rw [List.getElem?_take] at hj
          split at hj
          · exact ⟨hrs r (List.mem_of_getElem? hj), hz j r (by assumption) hj⟩
          · cases hj
        refine pur (bin_lss _ _ _) (condD (fun hlt => ?_) (fun hge => ?_))
        · have hlt' : i < rs.length := by omega
          obtain ⟨r, hr⟩ : ∃ r, rs[i]? = some r := ⟨rs[i], List.getElem?_eq_getElem hlt'⟩
          have hrok := hrs r (List.mem_of_getElem? hr)
          have hnext : rs.take (i + 1) = rs.take i ++ [r] := by rw [List.take_add_one, hr]; rfl
          have hsn : sumEnc (rs.take (i + 1)) = sumEnc (rs.take i) + (encRec r).length := by rw [hnext, sumEnc_append, sumEnc_one]
          refine join1 (fun a w' => ∃ lst' : List UInt8, chk r = 0 ∧ w'.ownsRow w.heap.size 5 1 a lst'.length (byteCells lst') ∧ Ext No w w' ∧
              (lst' = encHead seq rs.length ++ encBody (rs.take (i + 1)) ∨ (4194304 < lst'.length ∧ lst'.length ≤ 4300000 ∧ (lst'.length : Int) ≤ Sizes (rs.take (i + 1)))) ∧ lst'.length ≤ 4300000) ?_ fun J2 hJ2 => ?_
          · rintro a' w' ⟨lst', h0, ho', he', hc', hll'⟩
            refine pur (add64 (c := ((i + 1 : Nat) : Int)) (by omega) (by omega) (by omega)) ?_
            refine hL (i + 1, lst') _ _ _ ⟨rfl, by simp only; omega, ho', he', fun j r' hj hr' => ?_, hc', hll'⟩ (by simp only; omega)
            simp only at hj
            by_cases hji : j = i
            · subst hji; rw [hr] at hr'; cases hr'; exact h0
            · exact hz j r' (by omega) hr'
          · obtain ⟨ad, ha1, ha2, ha3⟩ := recs_at (hs.no he) hr
            refine pur ha1 (loadA ha2 rfl (box fun w5 b5 e5 z5 => ?_))
            refine storeAll b5 rfl (by simp [Value.cells]) (Rec.one r) fun w6 b6 e6 z6 => ?_
            have e46 : Ext No w4 w6 := e5.fresh e6 fun b hh => .inr (by rw [show b = w4.heap.size from hh]; exact Nat.le_refl _)
            refine loadA (At.of_blk b6) rfl ?_
            refine c19 r hrok fun w7 e7 => ?_
            have e47 := e46.trans e7
            refine pur (bin_neq _ _ _) (condN (fun hne => ?_) (fun h0 => ?_))
            · have hfe := firstErr_at rs i r hr hz hne
              have h1 : encErr seq rs = chk r := by unfold encErr; rw [if_neg (by rw [hf']; simp), if_neg (by omega), if_pos (by rw [hfe]; exact hne), hfe]
              have := hE w7 (by rw [h1]; exact hne) (he.trans e47)
              rw [h1] at this; exact this
            · have ho7 := owns_ext ho e47 fun _ _ hh => hh
              have hel := encRec_len hrok h0
              refine pur (Sl.own ho7).len (pur (bin_leq _ _ _) (condD (fun hle => ?_) (fun hgt' => ?_)))
              · refine loadA (At.of_blk (b6.no e7)) rfl ?_
                refine c30 r hrok h0 fun v8 w8 ho8 e8 => ?_
                have ho7' := owns_ext ho7 e8 fun _ _ hh => hh
                refine append_sl T40 40 ho7' (Sl.own ho8) (byteCells_one _) (by omega) (by omega) (Nat.le_trans he.size (Nat.le_trans e47.size e8.size)) fun v9 w9 ho9 hg9 _ => ?_
                rw [← byteCells_append] at ho9
                have hl : lst = encHead seq rs.length ++ encBody (rs.take i) := hcase.resolve_right (by omega)
                refine hJ2 _ _ ⟨lst ++ encRec r, h0, by simpa using ho9, ext_fr' (he.trans (e47.trans e8)) (ext_grown ho7' hg9) (Nat.le_refl _), .inl ?_, by simp; omega⟩
                rw [hl, hnext]; simp [encBody]
              · refine hJ2 _ _ ⟨lst, h0, ho7, he.trans e47, .inr ?_, hll⟩
                refine ⟨by omega, by omega, ?_⟩
                have hb := encBody_len (rs.take i)
                have hcur : (lst.length : Int) ≤ Sizes (rs.take i) := by
                  rcases hcase with h | h
                  · rw [h]; simp only [List.length_append, encHead_len, Sizes]; omega
                  · exact h.2.2
                unfold Sizes at hcur ⊢; omega
        · have hall : rs.take i = rs := List.take_of_length_le (by omega)
          rw [hall] at hcase hgt
          refine hJ _ _ ⟨lst, ho, he, firstErr_all rs fun r hr => (hgt r hr).2, ?_⟩
          rcases hcase with h | h
          · exact .inl h
          · exact .inr ⟨h.1, h.2.1, by omega⟩
end Go.Proofs.Ytambcnlkdnmekaa
