/- Batches: the reference's Decode; the law of decoding, walked. -/
import Derived.Test.YtambcnlkdnmekaaB22
namespace Go.Proofs.Ytambcnlkdnmekaa
open Go SG Go.RowKit Go.Lib
set_option linter.unusedVariables false
set_option maxRecDepth 4000
set_option linter.unusedSimpArgs false

set_option maxHeartbeats 2000000 in
theorem c23 {w : World} {x : Value} {l : List UInt8} (hs : Sl w x l.length 1 (byteCells l)) (hl : l.length ≤ 140737488355328) {K : Value → World → Prop}
    (hK : ∀ v w', Ext No w w' → Sl w' v (dec l).2.1.length 4 (flat Rec.cells (dec l).2.1) → K (.tuple [.int .u64 ((dec l).1 : Int), v, .int .i64 (dec l).2.2].toArray) w') : CallS Try.prog 23 #[x] K w := by
  have bad : ∀ (e : Int) (w' : World), dec l = (0, [], e) → Ext No w w' → K (.tuple [.int .u64 0, .slice none 0 0, .int .i64 e].toArray) w' := fun e w' hd ee => by
    have := hK (.slice none 0 0) w' ee (by rw [hd]; exact Sl.nil_ w' 4)
    rw [hd] at this; exact this
  refine s23_call hm ?_
  unfold s23
  refine pur hs.len (pur (bin_gtr _ _ _) (condD (fun hbig => ?_) (fun hsm => ?_)))
  · exact bad 2 w (by unfold dec; rw [if_pos (by omega)]) (Ext.refl _ _)
  · refine c44 (many := 8) hs hl (by omega) (by omega) (pur (extract_0 _ _) (pur (extract_1 _ _ _) (pur (bin_neq _ _ _) (condN (fun hne => ?_) (fun h0 => ?_)))))
    · have h8 : l.length < 8 := by
        by_cases h : l.length < 8
        · exact h
        · rw [if_neg h] at hne; exact absurd rfl hne
      rw [if_pos h8]
      exact bad 4 w (by unfold dec; rw [if_neg (by omega), if_pos h8]) (Ext.refl _ _)
    · have h8 : ¬ l.length < 8 := fun h => by rw [if_pos h] at h0; cases h0
      have hx := sl_block hs (by omega)
      rw [if_neg h8]
      have hq := leN_lt (l.take 8)
      have ht8 : (l.take 8).length = 8 := by rw [List.length_take]; omega
      rw [ht8] at hq
      have hp8 : (256 : Nat) ^ 8 = 18446744073709551616 := by decide
      refine pur (bin_gtr _ _ _) (condD (fun hgt => ?_) (fun hle => ?_))
      · exact bad 3 w (by unfold dec; rw [if_neg (by omega), if_neg h8, if_pos (by omega)]) (Ext.refl _ _)
      · obtain ⟨x8, p1, p2, p3⟩ := sl_drop hs (k := 8) (by omega) .i64
        rw [byteCells_drop, ← List.length_drop] at p2
        refine pur p1 (c44 (many := 4) p2 (by rw [List.length_drop]; omega) (by omega) (by omega) (pur (extract_0 _ _) (pur (extract_1 _ _ _) (pur (bin_neq _ _ _) (condN (fun hne => ?_) (fun h0' => ?_))))))
        · have h12 : (l.drop 8).length < 4 := by
            by_cases h : (l.drop 8).length < 4
            · exact h
            · rw [if_neg h] at hne; exact absurd rfl hne
          rw [if_pos h12]
          rw [List.length_drop] at h12
          exact bad 4 w (by unfold dec; rw [if_neg (by omega), if_neg h8, if_neg (by omega), if_pos (by omega)]) (Ext.refl _ _)
        · have h12 : ¬ (l.drop 8).length < 4 := fun h => by rw [if_pos h] at h0'; cases h0'
          rw [if_neg h12]
          have h12' : 12 ≤ l.length := by rw [List.length_drop] at h12; omega
          have hq4 := leN_lt ((l.drop 8).take 4)
          have ht4 : ((l.drop 8).take 4).length = 4 := by rw [List.length_take]; omega
          rw [ht4] at hq4
          have hp4 : (256 : Nat) ^ 4 = 4294967296 := by decide
          obtain ⟨cnt, hcnt⟩ : ∃ cnt, leN ((l.drop 8).take 4) = cnt := ⟨_, rfl⟩
          obtain ⟨seq, hseq⟩ : ∃ seq, leN (l.take 8) = seq := ⟨_, rfl⟩
          rw [hcnt] at hq4 ⊢
          rw [hseq] at hle hq ⊢
          have hdec : dec l = (if 4096 < cnt ∨ fitsB seq cnt = false then (0, [], 3) else match rdRs cnt (l.drop 12) with | .error e => (0, [], e) | .ok (rs, r) => if 0 < r.length then (0, [], 5) else (seq, rs, 0)) := by
            unfold dec
            rw [if_neg (by omega), if_neg h8, if_neg (by rw [hseq]; omega), if_neg (by omega), hcnt, hseq]
            rfl
          refine pur (bin_gtr _ _ _) ?_
          refine join1 (fun a w' => w = w' ∧ (cnt ≤ 4096 → a = .bool (!fitsB seq cnt))) ?_ fun J2 hJ2 => ?_
          · rintro a w' ⟨rfl, ha⟩
            have hpick : pickV (.bool (decide ((4096 : Int) < (cnt : Int)))) (.bool true) a = some (.bool (decide (4096 < cnt ∨ fitsB seq cnt = false))) := by
              refine (pick_b _ _ _).trans ?_
              by_cases h : 4096 < cnt
              · rw [if_pos (by simp; omega)]; simp [h]
              · rw [if_neg (by simp; omega), ha (by omega)]; simp [h]
            refine pur hpick (condD (fun hb => ?_) (fun hok => ?_))
            · exact bad 3 w (by rw [hdec, if_pos hb]) (Ext.refl _ _)
            · rw [if_neg hok] at hdec
              have hc4 : cnt ≤ 4096 := by omega
              obtain ⟨x12, q1, q2, q3⟩ := sl_drop hs (k := 12) (by omega) .i64
              rw [byteCells_drop, ← List.length_drop] at q2
              have hbuild : (Instr.build 80 [(0, x12)].toArray).run Try.prog w = .ok (.agg #[x12, .int .i64 0]) w := by
                obtain ⟨A, c, rfl, _⟩ := q2
                kernel_rfl
              refine pur q1 (runS hbuild (box fun w1 b1 e1 z1 => ?_))
              have hr1 : Rq w1 w.heap.size w.heap.size (l.drop 12) 0 := ⟨x12, b1, q2.no e1, fun b hb => hx b (q3 b hb), by rw [List.length_drop]; omega, Nat.le_refl _⟩
              refine build0 T22 fun w2 b2 e2 z2 => ?_
              have hr2 := hr1.no e2
              have ho2 : w2.ownsRow (w.heap.size + 1) 31 4 (.slice (some ⟨w1.heap.size, 0, none⟩) 0 0) 0 [] := b2.owns rfl (by omega) (by omega)
              have e02 : Ext No w w2 := e1.trans e2
              refine join1 (fun a w' => ∃ rs r, rdRs cnt (l.drop 12) = .ok (rs, r) ∧ Ext No w w' ∧ Sl w' a rs.length 4 (flat Rec.cells rs) ∧ Rq w' w.heap.size w.heap.size r 0) ?_ fun J1 hJ1 => ?_
              · rintro a w3 ⟨rs, r, hrs, e3, sl3, hr3⟩
                rw [hrs] at hdec
                simp only at hdec
                obtain ⟨xr, rb, rsl, _⟩ := hr3
                refine pur (nil_ptr _) (pur (field_ptr _ _ _) (loadB rb (v := xr) rfl (pur rsl.len (pur (bin_gtr _ _ _) (condD (fun hgt => ?_) (fun hz => ?_))))))
                · rw [if_pos (by omega)] at hdec
                  exact bad 5 w3 hdec e3
                · rw [if_neg (by omega)] at hdec
                  have := hK a w3 e3 (by rw [hdec]; exact sl3)
                  rw [hdec] at this
                  exact this
              · refine loop2 (σ := Nat × List Rec × List UInt8) (fun s a b w' => b = .int .i64 (s.1 : Int) ∧ s.1 ≤ cnt ∧ s.2.1.length = s.1 ∧ Ext No w w' ∧ w'.ownsRow (w.heap.size + 1) 31 4 a s.2.1.length (flat Rec.cells s.2.1) ∧ Rq w' w.heap.size w.heap.size s.2.2 0 ∧
                      rdRs cnt (l.drop 12) = (match rdRs (cnt - s.1) s.2.2 with | .error e => .error e | .ok (rs, r) => .ok (s.2.1 ++ rs, r)))
                    (fun s => cnt - s.1) (0, [], l.drop 12) ⟨rfl, by simp, rfl, e02, ho2, hr2, by simp only [Nat.sub_zero, List.nil_append]; cases rdRs cnt (l.drop 12) <;> rfl⟩ ?_
                rintro ⟨i, acc, rest⟩ a _ w3 ⟨rfl, hi, hal, e3, ho3, hr3, hrel⟩ L hL
                simp only at hi hal ho3 hr3 hrel hL
                refine pur (conv64 (by omega) (by omega)) (pur (bin_lss _ _ _) (condD (fun hlt => ?_) (fun hge => ?_)))
                · obtain ⟨k, hk⟩ : ∃ k, cnt - i = k + 1 := ⟨cnt - i - 1, by omega⟩
                  rw [hk, rdRs_succ] at hrel
                  have hog : ∀ g, a.ownBlock = some g → ¬ At1 w.heap.size g := fun g hg hh => by have := (ho3.lt g hg).1; rw [show g = w.heap.size from hh] at this; omega
                  have hfr : ∀ {wa wb : World}, Ext No w wa → Ext (At1 w.heap.size) wa wb → Ext No w wb := fun h k => h.fresh k fun b hb => .inr (by rw [show b = w.heap.size from hb]; exact Nat.le_refl _)
                  refine c45 hr3 (fun r l' e w4 he hne h4 e4 => ?_) (fun r l' w4 hr h4 e4 => ?_)
                  · rw [he] at hrel
                    simp only at hrel
                    rw [hrel] at hdec
                    simp only at hdec
                    refine box fun w5 b5 e5 z5 => storeAll b5 rfl (by simp [Value.cells]) (Rec.one r) fun w6 b6 e6 z6 => ?_
                    have h6 := (h4.no e5).ext e6 (at1_ne (by have := h4.lt; omega)) fun b hb => at1_ne (by have := e3.size; have := e4.size; omega)
                    have e06 : Ext No w w6 := ((hfr e3 e4).trans e5).fresh e6 fun b hb => .inr (by rw [show b = w4.heap.size from hb]; have := (hfr e3 e4).size; omega)
                    obtain ⟨xr, rb, _⟩ := h6
                    refine pur (nil_ptr _) (pur (field_ptr _ _ _) (loadB rb (v := .int .i64 e) rfl (pur (bin_neq _ _ _) (condN (fun _ => ?_) (fun h0 => absurd h0 hne)))))
                    refine draw (fun w' => Blk w' w.heap.size 80 [xr, .int .i64 e]) rb ?_
                    refine pur (nil_ptr _) (pur (field_ptr _ _ _) (heldC (v := .int .i64 e) (fun w' hh => hh.cell 1) ?_))
                    exact bad e _ hdec (e06.trans (Ext.drew w6))
                  · rw [hr] at hrel
                    simp only at hrel
                    refine box fun w5 b5 e5 z5 => storeAll b5 rfl (by simp [Value.cells]) (Rec.one r) fun w6 b6 e6 z6 => ?_
                    have h6 := (h4.no e5).ext e6 (at1_ne (by have := h4.lt; omega)) fun b hb => at1_ne (by have := e3.size; have := e4.size; omega)
                    have e06 : Ext No w w6 := ((hfr e3 e4).trans e5).fresh e6 fun b hb => .inr (by rw [show b = w4.heap.size from hb]; have := (hfr e3 e4).size; omega)
                    have ho6 := owns_ext (owns_ext (owns_ext ho3 e4 hog) e5 fun _ _ hh => hh) e6 fun g hg hh => by have := (ho3.lt g hg).2; have := e4.size; rw [show g = w4.heap.size from hh] at *; omega
                    have h6' := h6
                    obtain ⟨xr, rb, _⟩ := h6'
                    refine pur (nil_ptr _) (pur (field_ptr _ _ _) (loadB rb (v := .int .i64 0) rfl (pur (bin_neq _ _ _) (condF (by simp) ?_))))
                    refine loadA (At.of_blk b6) rfl (build1 T22 rfl fun w7 b7 e7 z7 => ?_)
                    have ho7 := owns_ext ho6 e7 fun _ _ hh => hh
                    refine append_sl T22 22 ho7 (b7.sl (n := 1) (c := 1) (size := 4) rfl (Nat.le_refl _)) (Rec.one r) (by omega) (by omega) (by have := e06.size; have := e7.size; have := rb.lt; omega) fun v' w8 ho8 hg8 hat => ?_
                    have e8 : Ext (fun b => a.ownBlock = some b) w7 w8 := Ext.grown hg8 fun b hb => hb
                    have e08 : Ext No w w8 := (e06.trans e7).fresh e8 fun b hb => .inr (by have := (ho7.lt b hb).1; omega)
                    refine pur (add64 (c := ((i + 1 : Nat) : Int)) (by omega) (by omega) (by omega)) ?_
                    refine hL (i + 1, acc ++ [r], l') _ _ _ ⟨by simp, by simp only; omega, by simp [hal], e08, ?_, ?_, ?_⟩ (by simp only; omega)
                    · simp only
                      rw [flat_append, flat_one]
                      simpa [Value.cells, Rec.agg, Rec.cells] using ho8
                    · exact (h6.no e7).ext e8 (fun hh => hog _ hh rfl) (fun b hb hh => by have := (ho7.lt b hh).1; omega)
                    · simp only
                      rw [hrel, show cnt - (i + 1) = k by omega]
                      cases rdRs k l' with
                      | error e => rfl
                      | ok p => obtain ⟨rs, r'⟩ := p; simp
                · have hci : cnt - i = 0 := by omega
                  rw [hci] at hrel
                  simp only [rdRs, List.append_nil] at hrel
                  exact hJ1 _ _ ⟨acc, rest, hrel, e3, Sl.own ho3, hr3⟩
          · rw [ifB_eq]
            by_cases hc : cnt ≤ 4096
            · rw [if_pos (by simp; omega)]
              refine pur (conv64 (by omega) (by omega)) (c35 seq cnt (by omega) (by omega) (pur (not_b _) (hJ2 _ _ ⟨rfl, fun _ => rfl⟩)))
            · rw [if_neg (by simp; omega)]
              exact hJ2 _ _ ⟨rfl, fun h => absurd h hc⟩

/-- append([]byte{}, b...) -/
theorem copy_bytes {w : World} {x : Value} {l : List UInt8} (hs : Sl w x l.length 1 (byteCells l)) (hl : l.length ≤ 140737488351232) {K : Value → World → Prop} (hK : ∀ v w', Ext No w w' → Sl w' v l.length 1 (byteCells l) → (∀ b, v.ownBlock = some b → b < w'.heap.size) → K v w') :
    RunS Try.prog (Instr.buildSlice 40 0 [].toArray) (fun t w => RunS Try.prog (Builtin.append_ #[40, 40] 40 [t, x].toArray) K w) w := by
  refine build0 T40 fun w1 b1 e1 z1 => ?_
  have ho1 : w1.ownsRow w.heap.size 5 1 (.slice (some ⟨w.heap.size, 0, none⟩) 0 0) 0 [] := b1.owns rfl (Nat.le_refl _) (by omega)
  refine append_sl T40 40 ho1 (hs.no e1) (byteCells_one _) (by omega) (by omega) e1.size fun v w2 ho2 hg2 _ => ?_
  refine hK v w2 (ext_fr' e1 (ext_grown ho1 hg2) (Nat.le_refl _)) ?_ fun b hb => (ho2.lt b hb).2
  have := Sl.own ho2
  simpa using this

theorem dec_len (l : List UInt8) : (dec l).2.1.length ≤ 4096 ∧ (dec l).1 < 18446744073709551616 := by
  by_cases h : (dec l).2.2 = 0
  · obtain ⟨n, rs, e, he⟩ : ∃ n rs e, dec l = (n, rs, e) := ⟨_, _, _, rfl⟩
    rw [he] at h ⊢
    simp only at h ⊢
    subst h
    obtain ⟨h1, _, _, h4⟩ := dec_ok he
    exact ⟨(encErr_zero h1).2.1, h4⟩
  · have hz : (dec l).1 = 0 ∧ (dec l).2.1 = [] := by
      unfold dec at h ⊢
      split
      · exact ⟨rfl, rfl⟩
      · rename_i h1
        rw [if_neg h1] at h
        split
        · exact ⟨rfl, rfl⟩
        · rename_i h2
          rw [if_neg h2] at h
          split
          · exact ⟨rfl, rfl⟩
          · rename_i h3
            rw [if_neg h3] at h
            split
            · exact ⟨rfl, rfl⟩
            · rename_i h4
              rw [if_neg h4] at h
              split
              · exact ⟨rfl, rfl⟩
              · rename_i h5
                rw [if_neg h5] at h
                split
                · exact ⟨rfl, rfl⟩
                · rename_i rs r hr
                  rw [hr] at h
                  simp only at h
                  split
                  · exact ⟨rfl, rfl⟩
                  · rename_i h6
                    rw [if_neg h6] at h
                    exact absurd rfl h
    rw [hz.1, hz.2]
    decide

set_option maxHeartbeats 1000000 in
theorem decodes {w : World} {x : Value} {l : List UInt8} (hs : Sl w x l.length 1 (byteCells l)) (_ : True) (hl : l.length ≤ 140737488351232) :
    CallS Try.prog 6 #[x] (fun v w' => v = .bool true ∧ Ext No w w') w := by
  obtain ⟨dl, dn⟩ := dec_len l
  refine s6_call hm ?_
  unfold s6
  refine copy_bytes hs hl fun vc w1 e1 sc oc => ?_
  refine c21 sc (by omega) fun v2 w2 e2 s2 _ => ?_
  refine pur (extract_0 _ _) (pur (extract_1 _ _ _) (pur (extract_2 _ _ _ _) ?_))
  have e02 := e1.trans e2
  refine c23 (hs.no e02) (by omega) fun v3 w3 e3 s3 => ?_
  refine pur (extract_0 _ _) (pur (extract_1 _ _ _) (pur (extract_2 _ _ _ _) (pur (bin_neq _ _ _) ?_)))
  have e03 := e02.trans e3
  refine join1 (fun a w' => w3 = w' ∧ a = .bool false) ?_ fun J0 hJ0 => ?_
  · rintro _ w' ⟨rfl, rfl⟩
    refine pur (v := .bool false) ((pick_b _ _ _).trans (by simp)) ?_
    refine join1 (fun a w' => a = .bool false ∧ Ext No w3 w') ?_ fun J1 hJ1 => ?_
    · rintro _ w4 ⟨rfl, e4⟩
      refine pur (v := .bool false) ((pick_b _ _ _).trans (by simp)) (condF rfl ?_)
      have e04 := e03.trans e4
      refine pur (bin_neq _ _ _) (condN (fun hne => ?_) (fun h0 => ?_))
      · exact c14 fun w5 e5 => ⟨rfl, e04.trans e5⟩
      · obtain ⟨n, rs, e, he⟩ : ∃ n rs e, dec l = (n, rs, e) := ⟨_, _, _, rfl⟩
        rw [he] at s2 s3 h0 dl dn ⊢
        simp only at s2 s3 h0 dl dn ⊢
        subst h0
        obtain ⟨h1, h2, h3, h4⟩ := dec_ok he
        refine c17' (seq := n) h4 ((s2.no e3).no e4) h3 (by omega) fun v5 w5 s5 _ e5 => ?_
        have hb : encBytes n rs = l := by unfold encBytes; rw [if_pos h1, h2]
        rw [hb] at s5
        rw [h1]
        have e05 := e04.trans e5
        refine pur (extract_0 _ _) (pur (extract_1 _ _ _) (pur (bin_eql _ _ _) ?_))
        refine join1 (fun a w' => w5 = w' ∧ a = .bool true) ?_ fun J2 hJ2 => ?_
        · rintro _ w' ⟨rfl, rfl⟩
          refine pur (v := .bool true) ((pick_b _ _ _).trans (by simp)) ?_
          refine join1 (fun a w' => a = .bool true ∧ Ext No w w') ?_ fun J3 hJ3 => ?_
          · rintro _ w7 ⟨rfl, e7⟩
            exact pur (pick_b _ _ _) ⟨rfl, e7⟩
          · exact ifT _ _ (c14 fun w7 e7 => hJ3 _ _ ⟨rfl, e05.trans e7⟩)
        · rw [ifB_eq, if_pos (by simp)]
          refine runS (bytes_str (l := l) Try.underlying40 Try.underlying9 Try.underlying5 s5) ?_
          refine runS (bytes_str (l := l) Try.underlying40 Try.underlying9 Try.underlying5 (hs.no e05)) ?_
          exact pur ((str_eql _ _).trans (by simp)) (hJ2 _ _ ⟨rfl, rfl⟩)
    · rw [ifB_eq, if_pos rfl]
      refine c13 (s2.no e3) s3 (by omega) fun w4 e4 => pur (not_b _) (hJ1 _ _ ⟨rfl, e4⟩)
  · rw [ifB_eq, if_pos (by simp)]
    exact pur (bin_neq _ _ _) (hJ0 _ _ ⟨rfl, by simp⟩)
end Go.Proofs.Ytambcnlkdnmekaa
