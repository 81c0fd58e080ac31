/- Batches: the reference's Encode; the law of encoding, walked. -/
import Derived.Test.YtambcnlkdnmekaaB17
namespace Go.Proofs.Ytambcnlkdnmekaa
open Go SG Go.RowKit Go.Lib
set_option linter.unusedVariables false
set_option maxRecDepth 4000
set_option linter.unusedSimpArgs false

/-- a row of bytes of the call's own -/
def Row (base : Nat) (w : World) (v : Value) (l : List UInt8) : Prop := w.ownsRow base 5 1 v l.length (byteCells l)
theorem Row.of {base : Nat} {w : World} {v : Value} {l m : List UInt8} (h : w.ownsRow base 5 1 v (l.length + m.length) (byteCells l ++ byteCells m)) : Row base w v (l ++ m) := by
  unfold Row
  rw [List.length_append, byteCells_append]
  exact h
/-- bytes are put behind -/
theorem Row.app {base : Nat} {w : World} {v x : Value} {l m : List UInt8} (h : Row base w v l) (hx : Sl w x m.length 1 (byteCells m)) (hb : base ≤ w.heap.size) (hl : l.length + m.length ≤ 1000000000) {K : Value → World → Prop}
    (hK : ∀ v' w', Row base w' v' (l ++ m) → Ext (Fr base) w w' → K v' w') : RunS Try.prog (Builtin.append_ #[40, 40] 40 [v, x].toArray) K w := by
  refine append_sl T40 40 h hx (byteCells_one _) (by omega) (by omega) hb fun v' w' ho hg _ => hK v' w' ?_ (ext_grown h hg)
  rw [← byteCells_append] at ho
  unfold Row
  rw [List.length_append]; exact ho
theorem Row.str {base : Nat} {w : World} {v : Value} {l : List UInt8} {s : ByteArray} (h : Row base w v l) (hb : base ≤ w.heap.size) (hl : l.length + s.size ≤ 1000000000) {K : Value → World → Prop}
    (hK : ∀ v' w', Row base w' v' (l ++ s.data.toList) → Ext (Fr base) w w' → K v' w') : RunS Try.prog (Builtin.append_ #[40, 9] 40 [v, .string s].toArray) K w := by
  refine append_str T40 Try.underlying9 40 h (by omega) hb fun v' w' ho hg => hK v' w' ?_ (ext_grown h hg)
  rw [strCells_eq, ← byteCells_append] at ho
  unfold Row
  rw [List.length_append, size_data]; exact ho
theorem Row.no {base : Nat} {w w' : World} {v : Value} {l : List UInt8} (h : Row base w v l) (e : Ext No w w') : Row base w' v l := owns_ext h e fun _ _ hh => hh

set_option maxHeartbeats 2000000 in
theorem c18 {w : World} {x : Value} {seq : Nat} {rs : List Rec} (hseq : seq < 18446744073709551616) (hs : Sl w x rs.length 4 (flat Rec.cells rs)) (hrs : AllOk rs) (hrl : rs.length ≤ 2932031007402) {K : Value → World → Prop}
    (hE : ∀ w', encErr seq rs ≠ 0 → Ext No w w' → K (.tuple [.slice none 0 0, .int .i64 (encErr seq rs)].toArray) w')
    (hK : ∀ v w', encErr seq rs = 0 → w'.ownsRow w.heap.size 5 1 v (encAll seq rs).length (byteCells (encAll seq rs)) → Ext No w w' → K (.tuple [v, .int .i64 0].toArray) w') :
    CallS Try.prog 18 #[.int .u64 (seq : Int), x] K w := by
  refine s18_call hm ?_
  unfold s18
  refine pur hs.len (c35 seq rs.length hseq (by omega) (pur (not_b _) (condB (fun hf => ?_) (fun hf => ?_))))
  · have hf' : fitsB seq rs.length = false := by simpa using hf
    have h1 : encErr seq rs = 1 := by unfold encErr; rw [if_pos hf']
    have := hE w (by rw [h1]; decide) (Ext.refl _ w)
    rw [h1] at this; exact this
  · have hf' : fitsB seq rs.length = true := by simpa using hf
    refine pur hs.len (pur (bin_gtr _ _ _) (condD (fun hbig => ?_) (fun hsmall => ?_)))
    · have h1 : encErr seq rs = 2 := by unfold encErr; rw [if_neg (by rw [hf']; simp), if_pos (by omega)]
      have := hE w (by rw [h1]; decide) (Ext.refl _ w)
      rw [h1] at this; exact this
    · have hlen : rs.length ≤ 4096 := by omega
      refine join0 (fun w' => Ext No w w' ∧ firstErr rs = 0) ?_ fun J0 hJ0 => ?_
      · rintro w1 ⟨e1, hfe⟩
        have hg : Good rs := fun r hr => ⟨hrs r hr, firstErr_zero rs hfe r hr⟩
        have herr : encErr seq rs = if 4194304 < Sizes rs then 2 else 0 := by unfold encErr; rw [if_neg (by rw [hf']; simp), if_neg (by omega), if_neg (by simp [hfe])]
        refine c36 (hs.no e1) hg hlen fun w2 e2 => pur (bin_gtr _ _ _) (condD (fun hbig => ?_) (fun hsm => ?_))
        · have h2 : encErr seq rs = 2 := by rw [herr, if_pos hbig]
          have := hE w2 (by rw [h2]; decide) (e1.trans e2)
          rw [h2] at this; exact this
        · have h2 : encErr seq rs = 0 := by rw [herr, if_neg hsm]
          have e12 := e1.trans e2
          refine c37 seq 8 (by omega) fun v3 w3 ho3 e3 => ?_
          refine pur (hs.no (e12.trans e3)).len (pur (conv64u (by omega) (by omega)) ?_)
          refine c37 rs.length 4 (by omega) fun v4 w4 ho4 e4 => ?_
          have hr3 : Row w.heap.size w4 v3 (fixedL seq 8) := by
            unfold Row
            rw [fixedL_len]
            exact owns_base (owns_ext ho3 e4 fun _ _ hh => hh) fun g hg => Nat.le_trans e12.size (ho3.lt g hg).1
          have e14 := e12.trans (e3.trans e4)
          refine hr3.app (m := fixedL rs.length 4) (by rw [fixedL_len]; exact Sl.own ho4) e14.size (by simp [fixedL_len]) fun v5 w5 hr5 e5 => ?_
          have e15 := ext_fr' e14 e5 (Nat.le_refl _)
          refine join1 (fun a w' => Row w.heap.size w' a (encAll seq rs) ∧ Ext No w w') (fun a w' ⟨h, e⟩ => hK a w' h2 h e) fun J1 hJ1 => ?_
          have hsum := sumEnc_le hg
          refine loop2 (σ := Nat) (fun i a b w' => b = .int .i64 (i : Int) ∧ i ≤ rs.length ∧ Row w.heap.size w' a (encHead seq rs.length ++ encBody (rs.take i)) ∧ Ext No w w') (fun i => rs.length - i) 0
            ⟨rfl, by omega, by simpa [encBody, encHead] using hr5, e15⟩ ?_
          rintro i a _ w6 ⟨rfl, hi, hr6, e6⟩ L hL
          refine pur hs.len (pur (bin_lss _ _ _) (condD (fun hlt => ?_) (fun hge => ?_)))
          · have hlt' : i < rs.length := by omega
            obtain ⟨r, hr⟩ : ∃ r, rs[i]? = some r := ⟨rs[i], List.getElem?_eq_getElem hlt'⟩
            obtain ⟨hrok, hrc⟩ := hg r (List.mem_of_getElem? hr)
            obtain ⟨hkind, hkey, hval⟩ := chk_ok hrc
            have hfam := hrok.fam
            have hnext : rs.take (i + 1) = rs.take i ++ [r] := by rw [List.take_add_one, hr]; rfl
            have hpl : (encHead seq rs.length ++ encBody (rs.take i)).length ≤ 82000000 := by
              have h1 := encBody_len (rs.take i)
              have hgt : Good (rs.take i) := fun r hr => hg r (List.mem_of_mem_take hr)
              have h2 := sumEnc_le hgt
              have h3 : (rs.take i).length ≤ 4096 := by rw [List.length_take]; omega
              rw [List.length_append, encHead_len]; omega
            obtain ⟨pre, hpre⟩ : ∃ pre, encHead seq rs.length ++ encBody (rs.take i) = pre := ⟨_, rfl⟩
            have hgoal : encHead seq rs.length ++ encBody (rs.take (i + 1)) = pre ++ encRec r := by rw [hnext, ← hpre]; simp [encBody]
            rw [hpre] at hr6 hpl
            refine join1 (fun a w' => Row w.heap.size w' a (pre ++ encRec r) ∧ Ext No w w') ?_ fun J3 hJ3 => ?_
            · rintro a' w' ⟨h, e⟩
              exact pur (add64 (c := ((i + 1 : Nat) : Int)) (by omega) (by omega) (by omega)) (hL (i + 1) _ _ _ ⟨rfl, by omega, by rw [hgoal]; exact h, e⟩ (by omega))
            · obtain ⟨ad, ha1, ha2, ha3⟩ := recs_at (hs.no e6) hr
              refine pur ha1 (loadA ha2 rfl (box fun w7 b7 e7 z7 => ?_))
              refine storeAll b7 rfl (by simp [Value.cells]) (Rec.one r) fun w8 b8 e8 z8 => ?_
              have e68 : Ext No w6 w8 := e7.fresh e8 fun b hh => .inr (by rw [show b = w6.heap.size from hh]; exact Nat.le_refl _)
              have e68d : Ext No w6 w8.drew := e68.trans (Ext.drew w8)
              have v1 := varint0 r.fam (by omega)
              have v2 := varint0 r.key.size (by omega)
              have hsk := size_data r.key
              have hsv := size_data r.val
              have hbase : w.heap.size ≤ w6.heap.size := e6.size
              -- the record's copy lies apart from the row
              have hap : ∀ {wa wb : World} {v : Value} {l : List UInt8}, Blk wa w6.heap.size 31 r.cells → Row w.heap.size wa v l → Ext (fun b => v.ownBlock = some b) wa wb → Blk wb w6.heap.size 31 r.cells := fun hb hr e => hb.ext e (own_ne hr hb (by decide))
              have hgr : ∀ {wa wb : World} {v : Value} {l : List UInt8}, Row w.heap.size wa v l → wa.grownBy wb v.ownBlock → Ext (fun b => v.ownBlock = some b) wa wb := fun hr hg => Ext.grown hg fun b hb => hb
              refine draw (fun w' => Blk w' w6.heap.size 31 r.cells) b8 ?_
              refine pur (field_ptr _ _ _) (pur (field_ptr _ _ _) (heldC (v := .int .i64 r.kind) (fun w' hh => hh.cell 1) (pur (v := .int .u8 ((UInt8.ofNat r.kind.toNat).toNat : Int)) (conv8u.trans (by rw [toNat_ofNat8 (by omega)]; congr 2; omega))
                (heldC (v := .int .u32 (r.fam : Int)) (fun w' hh => hh.cell 0) (pur (conv64u (by omega) (by omega)) ?_)))))
              refine build1 T40 rfl fun w9 b9 e9 z9 => ?_
              have e69 := e68d.trans e9
              have c9 : Blk w9 w6.heap.size 31 r.cells := b8.no ((Ext.drew w8).trans e9)
              refine ⟨c9, ?_⟩
              have hr9 := hr6.no e69
              refine append_sl T40 40 hr9 (b9.sl (n := 1) (c := 1) (size := 1) rfl (Nat.le_refl _)) (by simp [Value.cells, Value.oneCell']) (by omega) (by omega) (by have := e69.size; omega) fun v10 w10 ho10 hg10 _ => ?_
              have c10 := hap c9 hr9 (hgr hr9 hg10)
              have hr10 : Row w.heap.size w10 v10 (pre ++ [UInt8.ofNat r.kind.toNat]) := by
                unfold Row
                rw [List.length_append, byteCells_append]
                exact ho10
              have e10 : Ext No w w10 := ext_fr' (e6.trans e69) (ext_grown hr9 hg10) (Nat.le_refl _)
              refine ⟨c10, c28 r.fam (by omega) fun v11 w11 ho11 e11 => ?_⟩
              have hr11 := hr10.no e11
              have c11' := c10.no e11
              refine append_sl T40 40 hr11 (Sl.own ho11) (byteCells_one _) (by simp; omega) (by simp; omega) (by have := e11.size; have := e10.size; omega) fun v12 w12 ho12 hg12 _ => ?_
              have c12 := hap c11' hr11 (hgr hr11 hg12)
              have hr12 : Row w.heap.size w12 v12 (pre ++ [UInt8.ofNat r.kind.toNat] ++ varint r.fam) := Row.of ho12
              have e12' : Ext No w w12 := ext_fr' (e10.trans e11) (ext_grown hr11 hg12) (Nat.le_refl _)
              refine draw (fun w' => Blk w' w6.heap.size 31 r.cells) c12 ?_
              refine pur (field_ptr _ _ _) (pur (field_ptr _ _ _) (heldC (v := .string r.key) (fun w' hh => hh.cell 2) (pur (len_str _) (pur (conv64u (by omega) (by omega)) (heldC (v := .string r.key) (fun w' hh => hh.cell 2) ?_)))))
              refine c28 r.key.size (by omega) fun v13 w13 ho13 e13' => ?_
              have e13 : Ext No w12 w13 := (Ext.drew w12).trans e13'
              have hr13 := hr12.no e13
              have c13' := c12.no e13
              refine ⟨c13', append_sl T40 40 hr13 (Sl.own ho13) (byteCells_one _) (by simp; omega) (by simp; omega) (by have := e13.size; have := e12'.size; omega) fun v14 w14 ho14 hg14 _ => ?_⟩
              have c14' := hap c13' hr13 (hgr hr13 hg14)
              have hr14 : Row w.heap.size w14 v14 (pre ++ [UInt8.ofNat r.kind.toNat] ++ varint r.fam ++ varint r.key.size) := Row.of ho14
              have e14' : Ext No w w14 := ext_fr' (e12'.trans e13) (ext_grown hr13 hg14) (Nat.le_refl _)
              refine ⟨c14', append_str T40 Try.underlying9 40 hr14 (by simp; omega) (by have := e14'.size; omega) fun v15 w15 ho15 hg15 => ?_⟩
              have c15' := hap c14' hr14 (hgr hr14 hg15)
              have hr15 : Row w.heap.size w15 v15 (pre ++ [UInt8.ofNat r.kind.toNat] ++ varint r.fam ++ varint r.key.size ++ r.key.data.toList) := by
                rw [strCells_eq, ← hsk] at ho15
                exact Row.of ho15
              have e15' : Ext No w w15 := ext_fr' e14' (ext_grown hr14 hg15) (Nat.le_refl _)
              refine pur (field_ptr _ _ _) (loadB c15' (v := .int .i64 r.kind) rfl (pur (bin_neq _ _ _) (condN (fun h0 => ?_) (fun h0 => ?_))))
              · have v3 := varint0 r.val.size (by have := hval h0; omega)
                have hv16 := hval h0
                refine draw (fun w' => Blk w' w6.heap.size 31 r.cells) c15' ?_
                refine pur (field_ptr _ _ _) (pur (field_ptr _ _ _) (heldC (v := .string r.val) (fun w' hh => hh.cell 3) (pur (len_str _) (pur (conv64u (by omega) (by omega)) (heldC (v := .string r.val) (fun w' hh => hh.cell 3) ?_)))))
                refine c28 r.val.size (by omega) fun v16 w16 ho16 e16' => ?_
                have e16 : Ext No w15 w16 := (Ext.drew w15).trans e16'
                have hr16 := hr15.no e16
                have c16' := c15'.no e16
                refine ⟨c16', append_sl T40 40 hr16 (Sl.own ho16) (byteCells_one _) (by simp; omega) (by simp; omega) (by have := e16.size; have := e15'.size; omega) fun v17 w17 ho17 hg17 _ => ?_⟩
                have c17' := hap c16' hr16 (hgr hr16 hg17)
                have hr17 : Row w.heap.size w17 v17 (pre ++ [UInt8.ofNat r.kind.toNat] ++ varint r.fam ++ varint r.key.size ++ r.key.data.toList ++ varint r.val.size) := Row.of ho17
                have e17' : Ext No w w17 := ext_fr' (e15'.trans e16) (ext_grown hr16 hg17) (Nat.le_refl _)
                refine ⟨c17', hr17.str (by have := e17'.size; omega) (by simp; omega) fun v18 w18 hr18 e18 => ?_⟩
                refine hJ3 _ _ ⟨?_, ext_fr' e17' e18 (Nat.le_refl _)⟩
                have : pre ++ encRec r = pre ++ [UInt8.ofNat r.kind.toNat] ++ varint r.fam ++ varint r.key.size ++ r.key.data.toList ++ varint r.val.size ++ r.val.data.toList := by simp [encRec, h0]
                rw [this]; exact hr18
              · refine hJ3 _ _ ⟨?_, e15'⟩
                have : pre ++ encRec r = pre ++ [UInt8.ofNat r.kind.toNat] ++ varint r.fam ++ varint r.key.size ++ r.key.data.toList := by simp [encRec, h0]
                rw [this]; exact hr15
          · have : rs.take i = rs := List.take_of_length_le (by omega)
            rw [this] at hr6
            exact hJ1 _ _ ⟨hr6, e6⟩
      · refine loop1 (σ := Nat) (fun i a w' => a = .int .i64 (i : Int) ∧ i ≤ rs.length ∧ Ext No w w' ∧ ∀ j r, j < i → rs[j]? = some r → chk r = 0) (fun i => rs.length - i) 0 ⟨rfl, by omega, Ext.refl _ _, fun _ _ h => by omega⟩ ?_
        rintro i _ w1 ⟨rfl, hi, e1, hz⟩ L hL
        refine pur hs.len (pur (bin_lss _ _ _) (condD (fun hlt => ?_) (fun hge => ?_)))
        · have hlt' : i < rs.length := by omega
          obtain ⟨r, hr⟩ : ∃ r, rs[i]? = some r := ⟨rs[i], List.getElem?_eq_getElem hlt'⟩
          have hrok := hrs r (List.mem_of_getElem? hr)
          obtain ⟨ad, ha1, ha2, ha3⟩ := recs_at (hs.no e1) hr
          refine pur ha1 (loadA ha2 rfl (c20 r hrok fun w2 e2 => pur (bin_neq _ _ _) (condN (fun hne => ?_) (fun h0 => ?_))))
          · have hfe := firstErr_at rs i r hr hz hne
            have h1 : encErr seq rs = chk r := by unfold encErr; rw [if_neg (by rw [hf']; simp), if_neg (by omega), if_pos (by rw [hfe]; exact hne), hfe]
            have := hE w2 (by rw [h1]; exact hne) (e1.trans e2)
            rw [h1] at this; exact this
          · refine pur (add64 (c := ((i + 1 : Nat) : Int)) (by omega) (by omega) (by omega)) (hL (i + 1) _ _ ⟨rfl, by omega, e1.trans e2, fun j r' hj hr' => ?_⟩ (by omega))
            by_cases hji : j = i
            · subst hji; rw [hr] at hr'; cases hr'; exact h0
            · exact hz j r' (by omega) hr'
        · refine hJ0 _ ⟨e1, firstErr_all rs fun r hr => ?_⟩
          obtain ⟨j, hj⟩ := List.getElem?_of_mem hr
          have := (List.getElem?_eq_some_iff.1 hj).1
          exact hz j r (by omega) hj
end Go.Proofs.Ytambcnlkdnmekaa
