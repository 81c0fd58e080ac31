/- Batches: records, their bytes, Check, plain. -/
import Derived.Test.YtambcnlkdnmekaaB0
namespace Go.Proofs.Ytambcnlkdnmekaa
open Go SG Go.RowKit Go.Lib
set_option linter.unusedVariables false
set_option maxRecDepth 4000
set_option linter.unusedSimpArgs false

/-! ### rows of the call's own: what lies from 'base' on is ours -/
def Fr (base : Nat) : Nat → Prop := fun g => base ≤ g
theorem ext_own {w w' : World} {base n : Nat} {e : TypeId} {size : Nat} {v : Value} {xs : List Value} (ho : w.ownsRow base e size v n xs) (h : Ext (fun g => some g = v.ownBlock) w w') : Ext (Fr base) w w' :=
  h.mono fun b hb _ => (ho.lt b hb.symm).1
theorem ext_grown {w w' : World} {base n : Nat} {e : TypeId} {size : Nat} {v : Value} {xs : List Value} (ho : w.ownsRow base e size v n xs) (h : w.grownBy w' v.ownBlock) : Ext (Fr base) w w' :=
  Ext.grown h fun b hb => (ho.lt b hb).1
theorem ext_fr {w w' : World} (h : Ext (Fr w.heap.size) w w') : Ext No w w' := h.mono fun b hb hlt => by unfold Fr at hb; omega
theorem ext_fr' {w w' w'' : World} {base : Nat} (h : Ext No w w') (k : Ext (Fr base) w' w'') (hb : w.heap.size ≤ base) : Ext No w w'' := h.fresh k fun b hh => .inr (Nat.le_trans hb hh)

theorem varint0 (n : Nat) (hn : n < 18446744073709551616) : (varint n).length ≤ 10 := (varint_len hn).2

set_option maxHeartbeats 400000 in
/-- the reference's Varint -/
theorem c28 (n : Nat) (hn : n < 18446744073709551616) {K : Value → World → Prop} {w : World}
    (hK : ∀ v w', w'.ownsRow w.heap.size 5 1 v (varint n).length (byteCells (varint n)) → Ext No w w' → K v w') : CallS Try.prog 28 #[.int .u64 (n : Int)] K w := by
  refine s28_call hm ?_
  unfold s28
  refine build0 T40 fun w1 b1 e1 z1 => ?_
  have ho1 : w1.ownsRow w.heap.size 5 1 (.slice (some ⟨w.heap.size, 0, none⟩) 0 0) 0 (byteCells []) := b1.owns rfl (Nat.le_refl _) (by omega)
  have hfresh : ∀ {v : Value} {w1 w2 : World} {k : Nat} {xs : List Value}, w1.ownsRow w.heap.size 5 1 v k xs → Ext No w w1 → Ext (fun g => some g = v.ownBlock) w1 w2 → Ext No w w2 := fun ho e1 e2 =>
    e1.fresh e2 fun b hb => .inr ((ho.lt b hb.symm).1)
  refine join2 (fun a b w' => ∃ (m : Nat) (l : List UInt8), a = .int .u64 (m : Int) ∧ m < 128 ∧ w'.ownsRow w.heap.size 5 1 b l.length (byteCells l) ∧ Ext No w w' ∧ l ++ [UInt8.ofNat m] = varint n) ?_ ?_
  · rintro a b w' ⟨m, l, rfl, hm, ho, he, hl⟩
    refine pur conv8u ?_
    have hlen : l.length ≤ 10 := by have := (varint_len hn).2; rw [← hl] at this; simp at this; omega
    refine append_byte (b := UInt8.ofNat m) ho rfl he.size (by omega) (by rw [toNat_ofNat8 (by omega)]; congr 1; omega) fun v' w2 ho2 e2 => ?_
    rw [hl] at ho2
    refine hK v' w2 (by rw [← hl]; simpa using (by rw [← hl] at ho2; exact ho2)) (hfresh ho he e2)
  · intro J hJ
    refine loop2 (σ := Nat × List UInt8) (fun s a b w' => a = .int .u64 (s.1 : Int) ∧ s.1 < 18446744073709551616 ∧ w'.ownsRow w.heap.size 5 1 b s.2.length (byteCells s.2) ∧ Ext No w w' ∧ s.2 ++ varint s.1 = varint n) (fun s => s.1)
      (n, []) ⟨rfl, hn, ho1, e1, rfl⟩ ?_
    rintro ⟨m, l⟩ a b w' ⟨rfl, hm, ho, he, hl⟩ L hL
    simp only at hm ho hl hL
    have hlen : l.length ≤ 10 := by have := (varint_len hn).2; rw [← hl] at this; simp at this; omega
    refine pur (bin_geq _ _ _) (condD (fun hge => ?_) (fun hlt => ?_))
    · have hge' : 128 ≤ m := by omega
      have e127 : ((m % 128 : Nat) : Int) % 256 = ((m % 128 : Nat) : Int) := by omega
      refine pur ((bin_and _ _ _).trans (by rw [and127 m hm])) (pur (conv8u.trans (by rw [e127])) (pur (bin_or _ _ _) ?_))
      refine append_byte (b := UInt8.ofNat (m % 128 + 128)) ho rfl he.size (by omega) (by
        have := or128' (m % 128)
        rw [e127] at this
        rw [this, toNat_ofNat8 (by omega), Nat.mod_mod]) fun v' w2 ho2 e2 => ?_
      refine pur ((bin_shr (by decide) (by decide)).trans (by rw [shr7])) ?_
      refine hL (m / 128, l ++ [UInt8.ofNat (m % 128 + 128)]) _ _ _ ⟨rfl, by simp only; omega, by simpa using ho2, hfresh ho he e2, ?_⟩ (by simp only; omega)
      rw [← hl, varint_big hge']; simp
    · refine hJ _ _ _ ⟨m, l, rfl, by omega, ho, he, ?_⟩
      rw [← hl, varint_small (by omega)]

/-- text: a length and the bytes are put behind -/
theorem c56 {w : World} {base n : Nat} {v : Value} {l : List UInt8} {s : ByteArray} {K : Value → World → Prop} (ho : w.ownsRow base 5 1 v n (byteCells l)) (hn : n = l.length) (hb : base ≤ w.heap.size) (hl : l.length ≤ 1000000000) (hs : s.size ≤ 1000000000)
    (hK : ∀ v' w', w'.ownsRow base 5 1 v' (l ++ varint s.size ++ s.data.toList).length (byteCells (l ++ varint s.size ++ s.data.toList)) → Ext (Fr base) w w' → K v' w') :
    CallS Try.prog 56 #[v, .string s] K w := by
  subst hn
  refine s56_call hm ?_
  unfold s56
  have hv := varint0 s.size (by omega)
  refine pur (len_str _) (pur (conv64u (by omega) (by omega)) ?_)
  refine c55 s.size (by omega) fun v1 w1 ho1 e1 => ?_
  have hoa := owns_ext ho e1 fun _ _ hh => hh
  have hb1 := e1.size
  refine append_sl T40 40 hoa (Sl.own ho1) (byteCells_one _) (by omega) (by omega) (by omega) fun v2 w2 ho2 hg2 _ => ?_
  rw [← byteCells_append] at ho2
  have e2 : Ext (Fr base) w1 w2 := ext_grown hoa hg2
  refine append_str T40 Try.underlying9 40 ho2 (by omega) (by have := e2.size; omega) fun v3 w3 ho3 hg3 => ?_
  rw [strCells_eq, ← byteCells_append] at ho3
  refine hK v3 w3 (by simpa [Nat.add_assoc] using ho3) (((e1.no).trans e2).trans (ext_grown ho2 hg3))

/-! ### records -/
structure Rec where
  fam : Nat
  kind : Int
  key : ByteArray
  val : ByteArray
def Rec.cells (r : Rec) : List Value := [.int .u32 (r.fam : Int), .int .i64 r.kind, .string r.key, .string r.val]
def Rec.agg (r : Rec) : Value := .agg r.cells.toArray
theorem Rec.cells_len (r : Rec) : r.cells.length = 4 := rfl
theorem Rec.one (r : Rec) : ∀ v ∈ r.cells, v.oneCell' = true := by simp [Rec.cells, Value.oneCell']
structure Rec.Ok (r : Rec) : Prop where
  fam : r.fam < 4294967296
  key : r.key.size ≤ 140737488351232
  val : r.val.size ≤ 140737488351232
def chk (r : Rec) : Int :=
  if r.kind = 0 then (if 1024 < r.key.size then 2 else 0)
  else if r.kind = 1 then (if 1024 < r.key.size ∨ 16384 < r.val.size then 2 else 0)
  else if r.kind = 2 then (if 1024 < r.key.size ∨ 1024 < r.val.size then 2 else 0)
  else 1
theorem chk_ok {r : Rec} (h : chk r = 0) : (r.kind = 0 ∨ r.kind = 1 ∨ r.kind = 2) ∧ r.key.size ≤ 1024 ∧ (r.kind ≠ 0 → r.val.size ≤ 16384) := by
  unfold chk at h
  split at h
  · rename_i h0; split at h <;> first | omega | exact ⟨.inl h0, by omega, fun hh => absurd h0 hh⟩
  · split at h
    · rename_i h1; split at h <;> first | omega | exact ⟨.inr (.inl h1), by omega, fun _ => by omega⟩
    · split at h
      · rename_i h2; split at h <;> first | omega | exact ⟨.inr (.inr h2), by omega, fun _ => by omega⟩
      · omega

theorem T22 : ElemT Try.prog 22 31 4 48 (.agg #[.int .u32 0, .int .i64 0, .string ⟨#[]⟩, .string ⟨#[]⟩]) := ⟨Try.underlying22, by kernel_rfl, rfl, by decide, by decide⟩

theorem c19 (r : Rec) (hr : r.Ok) {K : Value → World → Prop} {w : World} (hK : ∀ w', Ext No w w' → K (.int .i64 (chk r)) w') : CallS Try.prog 19 #[r.agg] K w := by
  have hk1 := hr.key
  have hk2 := hr.val
  refine s19_call hm ?_
  unfold s19
  refine box fun w1 b1 e1 z1 => ?_
  have b : Blk w1 w.heap.size 31 r.cells := b1
  refine join1 (fun a w' => w1 = w' ∧ ((r.kind = 0 ∧ a = .int .i64 (r.val.size : Int)) ∨ (r.kind = 1 ∧ a = .int .i64 16384) ∨ (r.kind = 2 ∧ a = .int .i64 1024))) ?_ ?_
  · rintro a w' ⟨rfl, hcase⟩
    obtain ⟨m, rfl, hm2⟩ : ∃ m : Int, a = .int .i64 m ∧ (chk r = if (1024 : Int) < r.key.size ∨ m < r.val.size then 2 else 0) := by
      rcases hcase with ⟨h, rfl⟩ | ⟨h, rfl⟩ | ⟨h, rfl⟩
      · exact ⟨_, rfl, by unfold chk; rw [if_pos h]; split <;> split <;> first | rfl | omega⟩
      · exact ⟨_, rfl, by unfold chk; rw [if_neg (by omega), if_pos h]; split <;> split <;> first | rfl | omega⟩
      · exact ⟨_, rfl, by unfold chk; rw [if_neg (by omega), if_neg (by omega), if_pos h]; split <;> split <;> first | rfl | omega⟩
    refine pur (field_ptr _ _ _) (loadB b (v := .string r.key) rfl (pur (len_str _) (pur (bin_gtr _ _ _) ?_)))
    refine join1 (fun a w' => w1 = w' ∧ ((1024 : Int) < r.key.size ∨ a = .bool (decide (m < (r.val.size : Int))))) ?_ ?_
    · rintro a w' ⟨rfl, ha⟩
      by_cases hk : (1024 : Int) < r.key.size
      · refine pur (pick_b _ _ _) ?_
        rw [if_pos (by simpa using hk)]
        refine condT rfl ?_
        have := hK _ e1
        rw [hm2, if_pos (.inl hk)] at this
        exact this
      · obtain rfl := ha.resolve_left hk
        refine pur (pick_b _ _ _) ?_
        rw [if_neg (by simpa using hk)]
        refine condD (fun hv => ?_) (fun hv => ?_)
        · have := hK _ e1
          rw [hm2, if_pos (.inr hv)] at this
          exact this
        · have := hK _ e1
          rw [hm2, if_neg (by omega)] at this
          exact this
    · intro J hJ
      rw [ifB_eq]
      by_cases hk : (1024 : Int) < r.key.size
      · rw [if_neg (by simp [hk])]
        exact hJ _ _ ⟨rfl, .inl hk⟩
      · rw [if_pos (by simp [hk])]
        exact pur (field_ptr _ _ _) (loadB b (v := .string r.val) rfl (pur (len_str _) (pur (bin_gtr _ _ _) (hJ _ _ ⟨rfl, .inr rfl⟩))))
  · intro J hJ
    refine pur (field_ptr _ _ _) (loadB b (v := .int .i64 r.kind) rfl (pur (bin_eql _ _ _) (condD (fun h0 => ?_) (fun h0 => ?_))))
    · exact pur (field_ptr _ _ _) (loadB b (v := .string r.val) rfl (pur (len_str _) (hJ _ _ ⟨rfl, .inl ⟨h0, rfl⟩⟩)))
    · refine pur (bin_eql _ _ _) (condD (fun h1 => ?_) (fun h1 => ?_))
      · exact hJ _ _ ⟨rfl, .inr (.inl ⟨h1, rfl⟩)⟩
      · refine pur (bin_eql _ _ _) (condD (fun h2 => ?_) (fun h2 => ?_))
        · exact hJ _ _ ⟨rfl, .inr (.inr ⟨h2, rfl⟩)⟩
        · have := hK _ e1
          rw [show chk r = 1 by simp [chk, h0, h1, h2]] at this
          exact this

/-- a record's bytes -/
def encRec (r : Rec) : List UInt8 :=
  UInt8.ofNat r.kind.toNat :: (varint r.fam ++ (varint r.key.size ++ r.key.data.toList)) ++ (if r.kind = 0 then [] else varint r.val.size ++ r.val.data.toList)
theorem size_data (s : ByteArray) : s.data.toList.length = s.size := by rw [Array.length_toList]; rfl
theorem encRec_len {r : Rec} (hr : r.Ok) (h : chk r = 0) : (encRec r).length ≤ 20000 := by
  obtain ⟨_, h2, h3⟩ := chk_ok h
  have hf := hr.fam
  have v1 := varint0 r.fam (by omega)
  have v2 := varint0 r.key.size (by omega)
  unfold encRec
  split
  · simp [size_data]; omega
  · rename_i h0
    have := h3 h0
    have v3 := varint0 r.val.size (by omega)
    simp [size_data]; omega

set_option maxHeartbeats 400000 in
theorem c30 (r : Rec) (hr : r.Ok) (hc : chk r = 0) {K : Value → World → Prop} {w : World}
    (hK : ∀ v w', w'.ownsRow w.heap.size 5 1 v (encRec r).length (byteCells (encRec r)) → Ext No w w' → K v w') : CallS Try.prog 30 #[r.agg] K w := by
  obtain ⟨hkind, hkey, hval⟩ := chk_ok hc
  have hf := hr.fam
  have v1 := varint0 r.fam (by omega)
  have v2 := varint0 r.key.size (by omega)
  refine s30_call hm ?_
  unfold s30
  refine box fun w1 b1 e1 z1 => ?_
  have b : Blk w1 w.heap.size 31 r.cells := b1
  have hk0 : 0 ≤ r.kind ∧ r.kind ≤ 2 := by omega
  have hkb : r.kind % 256 = ((UInt8.ofNat r.kind.toNat).toNat : Int) := by rw [toNat_ofNat8 (by omega)]; omega
  -- behind the kind and the family
  refine join1 (fun a w' => w'.ownsRow w1.heap.size 5 1 a (UInt8.ofNat r.kind.toNat :: varint r.fam).length (byteCells (UInt8.ofNat r.kind.toNat :: varint r.fam)) ∧ Ext No w1 w') ?_ ?_
  · rintro a w2 ⟨ho, e2⟩
    have b2 := b.no e2
    refine pur (field_ptr _ _ _) (loadB b2 (v := .string r.key) rfl ?_)
    refine c56 ho rfl e2.size (by simp; omega) (by omega) fun v3 w3 ho3 e3 => ?_
    have e13 : Ext No w1 w3 := ext_fr' e2 e3 (Nat.le_refl _)
    have b3 := b.no e13
    refine join1 (fun a w' => w'.ownsRow w1.heap.size 5 1 a (encRec r).length (byteCells (encRec r)) ∧ Ext No w1 w') ?_ ?_
    · rintro a w4 ⟨ho4, e4⟩
      exact hK a w4 (owns_base ho4 fun g hg => by have := (ho4.lt g hg).1; omega) (e1.trans e4)
    · intro J hJ
      refine pur (field_ptr _ _ _) (loadB b3 (v := .int .i64 r.kind) rfl (pur (bin_neq _ _ _) (condN (fun h0 => ?_) (fun h0 => ?_))))
      · have v3 := varint0 r.val.size (by have := hval h0; omega)
        have := hval h0
        refine pur (field_ptr _ _ _) (loadB b3 (v := .string r.val) rfl ?_)
        refine c56 ho3 rfl e13.size (by simp [size_data]; omega) (by omega) fun v4 w4 ho4 e4 => ?_
        refine hJ _ _ ⟨?_, ext_fr' e13 e4 (Nat.le_refl _)⟩
        have : encRec r = (UInt8.ofNat r.kind.toNat :: varint r.fam ++ varint r.key.size ++ r.key.data.toList ++ varint r.val.size ++ r.val.data.toList) := by simp [encRec, h0]
        rw [this]; exact ho4
      · refine hJ _ _ ⟨?_, e13⟩
        have : encRec r = (UInt8.ofNat r.kind.toNat :: varint r.fam ++ varint r.key.size ++ r.key.data.toList) := by simp [encRec, h0]
        rw [this]; exact ho3
  · intro J hJ
    refine draw (fun w' => Blk w' w.heap.size 31 r.cells) b ?_
    refine pur (field_ptr _ _ _) (pur (field_ptr _ _ _) ?_)
    refine heldC (v := .int .i64 r.kind) (fun w' hb => hb.cell 1) (pur (conv8u.trans (by rw [hkb])) ?_)
    refine heldC (v := .int .u32 (r.fam : Int)) (fun w' hb => hb.cell 0) (pur (conv64u (by omega) (by omega)) ⟨?_, ?_⟩)
    · refine build1 T40 rfl fun w2 b2 e2 z2 => ?_
      have e12 : Ext No w1 w2 := (Ext.drew (S := No) w1).trans e2
      refine ⟨b.no e12, ?_⟩
      refine c55 r.fam (by omega) fun v3 w3 ho3 e3 => ?_
      refine ⟨b.no (e12.trans e3), ?_⟩
      have ho2 : w3.ownsRow w1.heap.size 5 1 _ 1 (byteCells [UInt8.ofNat r.kind.toNat]) := owns_ext (b2.owns (n := 1) (size := 1) (base := w1.heap.size) rfl (Nat.le_refl _) (by omega)) e3 fun _ _ hh => hh
      refine append_sl T40 40 ho2 (Sl.own ho3) (byteCells_one _) (by omega) (by omega) (Nat.le_trans e12.size e3.size) fun v4 w4 ho4 hg _ => ?_
      rw [← byteCells_append] at ho4
      exact hJ _ _ ⟨by simpa [Nat.add_comm] using ho4, ext_fr' (e12.trans e3) (ext_grown ho2 hg) (Nat.le_refl _)⟩
    · refine c55 r.fam (by omega) fun v3 w3 ho3 e3 => ?_
      have e13 : Ext No w1 w3 := (Ext.drew (S := No) w1).trans e3
      refine ⟨b.no e13, ?_⟩
      refine build1 T40 rfl fun w2 b2 e2 z2 => ?_
      refine ⟨b.no (e13.trans e2), ?_⟩
      have ho2 : w2.ownsRow w1.heap.size 5 1 _ 1 (byteCells [UInt8.ofNat r.kind.toNat]) := b2.owns (n := 1) (size := 1) (base := w1.heap.size) rfl e13.size (by omega)
      refine append_sl T40 40 ho2 ((Sl.own ho3).no e2) (byteCells_one _) (by omega) (by omega) (e13.trans e2).size fun v4 w4 ho4 hg _ => ?_
      rw [← byteCells_append] at ho4
      exact hJ _ _ ⟨by simpa [Nat.add_comm] using ho4, ext_fr' (e13.trans e2) (ext_grown ho2 hg) (Nat.le_refl _)⟩

/-- a record without what plays no part -/
def plain (r : Rec) : Rec := if r.kind = 0 then { r with val := ⟨#[]⟩ } else r
theorem c54 (r : Rec) {K : Value → World → Prop} {w : World} (hK : ∀ w', Ext No w w' → K (plain r).agg w') : CallS Try.prog 54 #[r.agg] K w := by
  refine s54_call hm ?_
  unfold s54
  refine box fun w1 b1 e1 z1 => ?_
  have b : Blk w1 w.heap.size 31 r.cells := b1
  refine box fun w2 b2 e2 z2 => ?_
  have b' := b.no e2
  refine join0 (fun w' => Blk w' w.heap.size 31 (plain r).cells ∧ Ext No w w' ∧ ∃ cs, Blk w' w1.heap.size 31 cs ∧ cs.length = 4) ?_ ?_
  · rintro w3 ⟨b3, e3, cs, c3, hl⟩
    refine loadA (At.of_blk b3) rfl ?_
    refine storeAll c3 rfl hl (Rec.one _) fun w4 b4 e4 _ => ?_
    refine loadA (At.of_blk b4) rfl ?_
    exact hK w4 (e3.fresh e4 fun b hb => .inr (by rw [show b = w1.heap.size from hb]; exact e1.size))
  · intro J hJ
    refine pur (field_ptr _ _ _) (loadB b' (v := .int .i64 r.kind) rfl (pur (bin_eql _ _ _) (condD (fun h0 => ?_) (fun h0 => ?_))))
    · refine pur (field_ptr _ _ _) (storeB b' (by simp [Rec.cells]) rfl fun w3 b3 e3 _ => ?_)
      refine hJ _ ⟨?_, (e1.trans e2).fresh e3 fun b hb => .inr (by rw [show b = w.heap.size from hb]; exact Nat.le_refl _), _, b2.ext e3 (fun hh => ?_), rfl⟩
      · have : (plain r).cells = r.cells.set 3 (.string ⟨#[]⟩) := by simp [plain, h0, Rec.cells]
        rw [this]; exact b3
      · have : w1.heap.size = w.heap.size := hh
        omega
    · refine hJ _ ⟨?_, e1.trans e2, _, b2, rfl⟩
      rw [show plain r = r by simp [plain, h0]]; exact b'
end Go.Proofs.Ytambcnlkdnmekaa
