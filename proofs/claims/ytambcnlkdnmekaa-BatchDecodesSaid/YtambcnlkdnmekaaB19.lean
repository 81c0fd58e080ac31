/- Batches: the law of encoding, walked. -/
import Derived.Test.YtambcnlkdnmekaaB18
namespace Go.Proofs.Ytambcnlkdnmekaa
open Go SG Go.RowKit Go.Lib
set_option linter.unusedVariables false
set_option maxRecDepth 4000
set_option linter.unusedSimpArgs false

def encBytes (seq : Nat) (rs : List Rec) : List UInt8 := if encErr seq rs = 0 then encAll seq rs else []
theorem encBytes_len {seq : Nat} {rs : List Rec} : (encBytes seq rs).length ≤ 4194304 := by
  unfold encBytes
  split
  · rename_i h
    have h1 := (encErr_zero h).2.2.2
    have h2 := encAll_len seq rs
    omega
  · simp
theorem c17' {w : World} {x : Value} {seq : Nat} {rs : List Rec} (hseq : seq < 18446744073709551616) (hs : Sl w x rs.length 4 (flat Rec.cells rs)) (hrs : AllOk rs) (hrl : rs.length ≤ 2932031007402) {K : Value → World → Prop}
    (hK : ∀ v w', Sl w' v (encBytes seq rs).length 1 (byteCells (encBytes seq rs)) → (∀ b, v.ownBlock = some b → b < w'.heap.size) → Ext No w w' → K (.tuple [v, .int .i64 (encErr seq rs)].toArray) w') : CallS Try.prog 17 #[.int .u64 (seq : Int), x] K w := by
  refine c17 hseq hs hrs hrl (fun w' hne e => hK _ w' ?_ (fun b hb => by simp [Value.ownBlock] at hb) e) (fun v w' h0 ho e => ?_)
  · unfold encBytes; rw [if_neg hne]; exact Sl.nil_ w' 1
  · have := hK v w' (by unfold encBytes; rw [if_pos h0]; exact Sl.own ho) (fun b hb => (ho.lt b hb).2) e
    rw [h0] at this; exact this
theorem c18' {w : World} {x : Value} {seq : Nat} {rs : List Rec} (hseq : seq < 18446744073709551616) (hs : Sl w x rs.length 4 (flat Rec.cells rs)) (hrs : AllOk rs) (hrl : rs.length ≤ 2932031007402) {K : Value → World → Prop}
    (hK : ∀ v w', Sl w' v (encBytes seq rs).length 1 (byteCells (encBytes seq rs)) → Ext No w w' → K (.tuple [v, .int .i64 (encErr seq rs)].toArray) w') : CallS Try.prog 18 #[.int .u64 (seq : Int), x] K w := by
  refine c18 hseq hs hrs hrl (fun w' hne e => hK _ w' ?_ e) (fun v w' h0 ho e => ?_)
  · unfold encBytes; rw [if_neg hne]; exact Sl.nil_ w' 1
  · have := hK v w' (by unfold encBytes; rw [if_pos h0]; exact Sl.own ho) e
    rw [h0] at this; exact this
/-- append([]Record{}, l...) -/
theorem copy_recs {w : World} {x : Value} {rs : List Rec} (hs : Sl w x rs.length 4 (flat Rec.cells rs)) (hrl : rs.length ≤ 2932031007402) {K : Value → World → Prop} (hK : ∀ v w', Ext No w w' → Sl w' v rs.length 4 (flat Rec.cells rs) → K v w') :
    RunS Try.prog (Instr.buildSlice 22 0 [].toArray) (fun t w => RunS Try.prog (Builtin.append_ #[22, 22] 22 [t, x].toArray) K w) w := by
  refine build0 T22 fun w1 b1 e1 z1 => ?_
  have ho1 : w1.ownsRow w.heap.size 31 4 (.slice (some ⟨w.heap.size, 0, none⟩) 0 0) 0 [] := b1.owns rfl (Nat.le_refl _) (by omega)
  refine append_sl T22 22 ho1 (hs.no e1) (fun u hu => ?_) (by omega) (by omega) e1.size fun v w2 ho2 hg2 _ => ?_
  · simp only [flat, List.mem_flatMap] at hu
    obtain ⟨r, _, hu⟩ := hu
    exact r.one u hu
  · refine hK v w2 (ext_fr' e1 (ext_grown ho1 hg2) (Nat.le_refl _)) ?_
    have := Sl.own ho2
    simpa using this

set_option maxHeartbeats 1000000 in
theorem encodes {w : World} {x : Value} {seq : Nat} {rs : List Rec} (hs : Sl w x rs.length 4 (flat Rec.cells rs)) (hseq : seq < 18446744073709551616) (hrs : AllOk rs) (hrl : rs.length ≤ 2932031007402) :
    CallS Try.prog 5 #[.int .u64 (seq : Int), x] (fun v w' => v = .bool true ∧ Ext No w w') w := by
  refine s5_call hm ?_
  unfold s5
  refine copy_recs hs hrl fun vc w1 e1 sc => ?_
  refine c17' hseq sc hrs hrl fun v2 w2 s2 o2 e2 => ?_
  refine pur (extract_0 _ _) (pur (extract_1 _ _ _) ?_)
  have e02 := e1.trans e2
  refine c18' hseq (hs.no e02) hrs hrl fun v3 w3 s3 e3 => ?_
  refine pur (extract_0 _ _) (pur (extract_1 _ _ _) (pur (bin_neq _ _ _) ?_))
  have e03 := e02.trans e3
  refine join1 (fun a w' => w3 = w' ∧ a = .bool false) ?_ fun J0 hJ0 => ?_
  · rintro _ w' ⟨rfl, rfl⟩
    refine pur (v := .bool false) ((pick_b _ _ _).trans (by simp)) (condF rfl ?_)
    refine join0 (fun w' => Ext No w3 w') ?_ fun J1 hJ1 => ?_
    · intro w4 e4
      have s24 := (s2.no e3).no e4
      have e04 := e03.trans e4
      refine pur (bin_neq _ _ _) (condN (fun hne => ?_) (fun h0 => ?_))
      · exact c14 fun w5 e5 => ⟨rfl, e04.trans e5⟩
      · have heb : encBytes seq rs = encAll seq rs := by unfold encBytes; rw [if_pos h0]
        have hd := dec_enc hrs h0
        have hlen := encBytes_len (seq := seq) (rs := rs)
        refine c21 s24 (by omega) fun v5 w5 e5 s5 o5 => ?_
        rw [heb, hd] at s5 ⊢
        simp only at s5 ⊢
        have e05 := e04.trans e5
        refine pur (extract_0 _ _) (pur (extract_1 _ _ _) (pur (extract_2 _ _ _ _) (pur (bin_eql _ _ _) ?_)))
        refine join1 (fun a w' => w5 = w' ∧ a = .bool true) ?_ fun J2 hJ2 => ?_
        · rintro _ w' ⟨rfl, rfl⟩
          refine pur (v := .bool true) ((pick_b _ _ _).trans (by simp)) ?_
          refine join1 (fun a w' => a = .bool true ∧ Ext No w w') ?_ fun J3 hJ3 => ?_
          · rintro _ w6 ⟨rfl, e6⟩
            refine pur (pick_b _ _ _) ?_
            refine join1 (fun a w' => a = .bool true ∧ Ext No w w') ?_ fun J4 hJ4 => ?_
            · rintro _ w7 ⟨rfl, e7⟩
              exact pur (pick_b _ _ _) ⟨rfl, e7⟩
            · exact ifT _ _ (c14 fun w7 e7 => hJ4 _ _ ⟨rfl, e6.trans e7⟩)
          · refine ifT _ _ (c22 (hs.no e05) hrl fun v6 w6 e6 s6 => ?_)
            refine c13 (s5.no e6) s6 (by rw [List.length_map]; exact hrl) fun w7 e7 => hJ3 _ _ ⟨rfl, (e05.trans e6).trans e7⟩
        · rw [ifB_eq, if_pos (by simp)]
          exact pur (bin_eql _ _ _) (hJ2 _ _ ⟨rfl, rfl⟩)
    · refine loop1 (σ := Nat) (fun i a w' => a = .int .i64 (i : Int) ∧ i ≤ rs.length ∧ Ext No w3 w') (fun i => rs.length - i) 0 ⟨rfl, by omega, Ext.refl _ _⟩ ?_
      rintro i _ w4 ⟨rfl, hi, e4⟩ L hL
      refine pur hs.len (pur (bin_lss _ _ _) (condD (fun hlt => ?_) (fun hge => hJ1 _ e4)))
      have hlt' : i < rs.length := by omega
      obtain ⟨r, hr⟩ : ∃ r, rs[i]? = some r := ⟨rs[i], List.getElem?_eq_getElem hlt'⟩
      have hrok := hrs r (List.mem_of_getElem? hr)
      have e4d : Ext No w3 w4.drew := e4.trans (Ext.drew w4)
      obtain ⟨ad, ha1, ha2, ha3⟩ := recs_at (hs.no (e03.trans e4d)) hr
      refine draw (fun w' => At w' ad r.cells) ha2 ?_
      refine pur ha1 (pur ha1 (heldA (fun w' h => h) rfl (heldA (fun w' h => h) rfl ?_)))
      refine c19 r hrok fun w5 e5 => ⟨At.no ha2 e5, c20 r hrok fun w6 e6 => ?_⟩
      refine pur (bin_neq _ _ _) (condF (by simp) ?_)
      exact pur (add64 (c := ((i + 1 : Nat) : Int)) (by omega) (by omega) (by omega)) (hL (i + 1) _ _ ⟨rfl, by omega, (e4d.trans e5).trans e6⟩ (by omega))
  · rw [ifB_eq, if_pos (by simp)]
    refine runS (bytes_str (l := encBytes seq rs) Try.underlying40 Try.underlying9 Try.underlying5 (s2.no e3)) ?_
    refine runS (bytes_str (l := encBytes seq rs) Try.underlying40 Try.underlying9 Try.underlying5 s3) ?_
    exact pur ((str_neq _ _).trans (by simp)) (hJ0 _ _ ⟨rfl, rfl⟩)
end Go.Proofs.Ytambcnlkdnmekaa
