/- Batches: the laws of parts and of going back, walked. -/
import Derived.Test.YtambcnlkdnmekaaB8
namespace Go.Proofs.Ytambcnlkdnmekaa
open Go SG Go.RowKit Go.Lib
set_option linter.unusedVariables false
set_option maxRecDepth 4000
set_option linter.unusedSimpArgs false

theorem At.no {w w' : World} {a : Addr} {xs : List Value} (h : At w a xs) (e : Ext No w w') : At w' a xs := fun j u hj => by
  have hcell := h j u hj
  have hlt := World.block_lt_of_cell? _ _ hcell
  rw [Addr.add_block] at hlt
  rw [e.cell (by rw [Addr.add_block]; exact hlt) (fun h => h)]
  exact hcell
theorem ifT (X Y : Prop) (h : X) : IfB (.bool true) true X Y := by rw [ifB_eq, if_pos rfl]; exact h

set_option maxHeartbeats 1000000 in
theorem parts {w : World} {a b : Value} {la bs : List Rec} (hsa : Sl w a la.length 4 (flat Rec.cells la)) (hsb : Sl w b bs.length 4 (flat Rec.cells bs)) (ha : AllOk la) (hb : AllOk bs) (hal : la.length ≤ 2932031007402) (hbl : bs.length ≤ 2932031007402) :
    CallS Try.prog 3 #[a, b] (fun v w' => v = .bool true ∧ Ext No w w') w := by
  refine s3_call hm ?_
  unfold s3
  refine BatchF.new fun w1 x1 e1 z1 => ?_
  refine BatchF.new fun w2 y2 e2 z2 => ?_
  refine BatchF.new fun w3 a3 e3 z3 => ?_
  have hst : St3 w w3 w.heap.size w1.heap.size w2.heap.size [] [] ([] ++ []) := by
    refine ⟨_, _, _, (x1.no e2).no e3, y2.no e3, a3, fun b hb => ?_, fun b hb => ?_, fun b hb => ?_, e1.trans (e2.trans e3)⟩
    · unfold At1 at *; omega
    · unfold At1 at *; omega
    · unfold At1 at *; omega
  -- behind both loops
  refine join0 (fun w' => ∃ xs, St3 w w' w.heap.size w1.heap.size w2.heap.size xs [] (xs ++ []) ∧ Sizes xs ≤ 4194304) ?_ fun J hJ => ?_
  · rintro w4 ⟨xs, h4, hsz⟩
    refine join0 (fun w' => ∃ ys, St3 w w' w.heap.size w1.heap.size w2.heap.size xs ys (xs ++ ys) ∧ Sizes (xs ++ ys) ≤ 4194304) ?_ fun J hJ => ?_
    · rintro w5 ⟨ys, h5, hsz5⟩
      refine h5.join hsz5 fun w6 h6 => ?_
      refine pur (bin_eql _ _ _) ?_
      refine join1 (fun a w' => a = .bool true ∧ St3 w w' w.heap.size w1.heap.size w2.heap.size (xs ++ ys) ys (xs ++ ys)) ?_ fun J hJ => ?_
      · rintro _ w7 ⟨rfl, h7⟩
        refine pur (pick_b _ _ _) ?_
        refine join1 (fun a w' => a = .bool true ∧ St3 w w' w.heap.size w1.heap.size w2.heap.size (xs ++ ys) ys (xs ++ ys)) ?_ fun J hJ => ?_
        · rintro _ w8 ⟨rfl, h8⟩
          refine pur (pick_b _ _ _) ?_
          refine join1 (fun a w' => a = .bool true ∧ Ext No w w') ?_ fun J hJ => ?_
          · rintro _ w9 ⟨rfl, h9⟩
            exact pur (pick_b _ _ _) ⟨rfl, h9⟩
          · exact ifT _ _ (c14 fun w9 e9 => hJ _ _ ⟨rfl, h8.e.trans e9⟩)
        · refine ifT _ _ (h7.sizeX (h7.sizeA (pur (bin_eql _ _ _) (hJ _ _ ⟨by simp, h7⟩))))
      · refine ifT _ _ (h6.recsX fun v w7 e7 s7 => (h6.no e7).recsA fun v' w8 e8 s8 => ?_)
        have := h6.lens.1
        exact c13 (s7.no e8) s8 (by omega) fun w9 e9 => hJ _ _ ⟨rfl, ((h6.no e7).no e8).no e9⟩
    · refine loop1 (σ := Nat × List Rec) (fun s a w' => a = .int .i64 (s.1 : Int) ∧ s.1 ≤ bs.length ∧ St3 w w' w.heap.size w1.heap.size w2.heap.size xs s.2 (xs ++ s.2) ∧ Sizes (xs ++ s.2) ≤ 4194304)
        (fun s => bs.length - s.1) (0, []) ⟨rfl, by omega, h4, by simpa using hsz⟩ ?_
      rintro ⟨i, ys⟩ _ w5 ⟨rfl, hi, h5, hsz5⟩ L hL
      simp only at hi h5 hsz5 hL
      refine pur hsb.len (pur (bin_lss _ _ _) (condD (fun hlt => ?_) (fun _ => hJ _ ⟨ys, h5, hsz5⟩)))
      have hlt' : i < bs.length := by omega
      obtain ⟨r, hr⟩ : ∃ r, bs[i]? = some r := ⟨bs[i], List.getElem?_eq_getElem hlt'⟩
      have hrok := hb r (List.mem_of_getElem? hr)
      obtain ⟨ad, ha1, ha2, ha3⟩ := recs_at (hsb.no h5.e) hr
      refine pur ha1 (loadA ha2 rfl (h5.addY hrok fun w6 h6 => ?_))
      refine pur (bin_eql _ _ _) ?_
      refine join1 (fun a w' => (((addAll ys [r]).1 ≠ 0 ∨ a = .bool false) ∧ St3 w w' w.heap.size w1.heap.size w2.heap.size xs (addAll ys [r]).2 (xs ++ (addAll ys [r]).2) ∧ Sizes (xs ++ (addAll ys [r]).2) ≤ 4194304) ∨
          (a = .bool true ∧ (addAll ys [r]).1 = 0 ∧ (addAll (xs ++ ys) [r]).1 ≠ 0 ∧ St3 w w' w.heap.size w1.heap.size w2.heap.size xs (addAll ys [r]).2 (xs ++ ys))) ?_ fun J2 hJ2 => ?_
      · rintro t57 w7 hcase
        rcases hcase with ⟨hf, h7, hs7⟩ | ⟨rfl, hy0, ha0, h7⟩
        · refine pur (v := .bool false) ((pick_b _ _ _).trans ?_) (condF rfl ?_)
          · rcases hf with h | rfl
            · rw [if_neg (by simpa using h)]
            · split <;> rfl
          exact pur (add64 (c := ((i + 1 : Nat) : Int)) (by omega) (by omega) (by omega)) (hL (i + 1, _) _ _ ⟨rfl, by simp only; omega, h7, hs7⟩ (by simp only; omega))
        · refine pur (v := .bool true) ((pick_b _ _ _).trans (by rw [if_pos (by simp [hy0])])) (condT rfl ?_)
          obtain ⟨hc0, _, _, _⟩ := addAll_one_ok hy0
          have hlim := (addAll_one_no ha0).2 hc0
          have h7d := h7.no (Ext.drew w7)
          obtain ⟨ad7, hx1, hx2, hx3⟩ := recs_at (hsb.no h7d.e) hr
          refine draw (fun w' => St3 w w' w.heap.size w1.heap.size w2.heap.size xs (addAll ys [r]).2 (xs ++ ys) ∧ At w' ad7 r.cells) ⟨h7d, hx2⟩ ?_
          refine h7d.recsA fun v8 w8 e8 s8 => ?_
          have hla := h7.lens.2.2
          have h8 := h7d.no e8
          have hat : ∀ {w'}, Ext No w7.drew w' → At w' ad7 r.cells := fun e => At.no hx2 e
          refine ⟨⟨h8, hat e8⟩, ?_⟩
          refine pur s8.len (pur (add64 rfl (by omega) (by omega)) (pur (bin_gtr _ _ _) (condD (fun hb => ?_) (fun hn => ?_))))
          · exact pur (pick_b _ _ _) ⟨rfl, h8.e⟩
          · have hlim' : 4194304 < Sizes (xs ++ ys) + (encRec r).length := hlim.resolve_left (by omega)
            refine pur hx1 (heldA (fun w' hh => hh.2) rfl ?_)
            refine h8.sizeA ⟨⟨h8, hat e8⟩, ?_⟩
            have hbnd : (encRec r).length ≤ 20000 := encRec_len hrok hc0
            have hz0 := sumEnc_nonneg (xs ++ ys)
            have hz1 : Sizes (xs ++ ys) ≤ 4194304 := by
              have := hsz5; exact this
            refine c11 r hrok fun w9 e9 => ?_
            refine pur (add64 rfl (by unfold Sizes; omega) (by omega)) (pur (bin_gtr _ _ _) (pur (pick_b _ _ _) ⟨?_, (h8.no e9).e⟩))
            simp [hlim']
      · by_cases hy0 : (addAll ys [r]).1 = 0
        · rw [ifB_eq, if_pos (by simp [hy0])]
          obtain ⟨ad6, hx1, hx2, hx3⟩ := recs_at (hsb.no h6.e) hr
          refine pur hx1 (loadA hx2 rfl (h6.addA hrok fun w7 h7 => ?_))
          refine pur (bin_neq _ _ _) ?_
          obtain ⟨hc0, hye, _, _⟩ := addAll_one_ok hy0
          by_cases ha0 : (addAll (xs ++ ys) [r]).1 = 0
          · obtain ⟨_, hae, _, hsz6⟩ := addAll_one_ok ha0
            refine hJ2 _ _ (.inl ⟨.inr (by simp [ha0]), ?_, ?_⟩)
            · rw [hae, List.append_assoc] at h7
              rw [hye] at h7 ⊢
              exact h7
            · rw [hye, ← List.append_assoc]
              simp only [Sizes, sumEnc_append, sumEnc_one, encRec_plain] at hsz6 ⊢
              omega
          · refine hJ2 _ _ (.inr ⟨by simp [ha0], hy0, ha0, ?_⟩)
            rw [(addAll_one_no ha0).1] at h7
            exact h7
        · rw [ifB_eq, if_neg (by simp [hy0])]
          have hno := (addAll_one_no hy0).1
          exact hJ2 _ _ (.inl ⟨.inl hy0, by rw [hno] at h6 ⊢; exact h6, by rw [hno]; exact hsz5⟩)
  · refine loop1 (σ := Nat × List Rec) (fun s a w' => a = .int .i64 (s.1 : Int) ∧ s.1 ≤ la.length ∧ St3 w w' w.heap.size w1.heap.size w2.heap.size s.2 [] (s.2 ++ []) ∧ Sizes s.2 ≤ 4194304)
      (fun s => la.length - s.1) (0, []) ⟨rfl, by omega, hst, by decide⟩ ?_
    rintro ⟨i, xs⟩ _ w4 ⟨rfl, hi, h4, hsz4⟩ L hL
    simp only at hi h4 hsz4 hL
    refine pur hsa.len (pur (bin_lss _ _ _) (condD (fun hlt => ?_) (fun _ => hJ _ ⟨xs, h4, hsz4⟩)))
    have hlt' : i < la.length := by omega
    obtain ⟨r, hr⟩ : ∃ r, la[i]? = some r := ⟨la[i], List.getElem?_eq_getElem hlt'⟩
    have hrok := ha r (List.mem_of_getElem? hr)
    have h4d := h4.no (Ext.drew w4)
    obtain ⟨ad, ha1, ha2, ha3⟩ := recs_at hsa hr
    refine draw (fun w' => At w' ad r.cells) (At.no ha2 h4d.e) ?_
    refine pur ha1 (pur ha1 (heldA (fun w' hh => hh) rfl (heldA (fun w' hh => hh) rfl ?_)))
    refine h4d.addX hrok fun w5 h5 => ?_
    refine ⟨At.no ha2 h5.e, h5.addA hrok fun w6 h6 => ?_⟩
    rw [List.append_nil] at h6 ⊢
    refine pur (bin_neq _ _ _) (condF (by simp) ?_)
    exact pur (add64 (c := ((i + 1 : Nat) : Int)) (by omega) (by omega) (by omega)) (hL (i + 1, _) _ _ ⟨rfl, by simp only; omega, by rw [List.append_nil]; exact h6, addAll_sizes hsz4⟩ (by simp only; omega))
end Go.Proofs.Ytambcnlkdnmekaa
