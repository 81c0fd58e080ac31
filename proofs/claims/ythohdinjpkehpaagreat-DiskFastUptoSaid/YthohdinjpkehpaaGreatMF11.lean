/- Proved here: Rows.DiskFastUptoSaid: where what it reads is of bulk at most 1048576, the law DiskFast answers true and leaves its arguments as they were. -/
import Derived.Test.YthohdinjpkehpaaGreatMF10
import Derived.WalkKit
import Derived.ProofKit
import Derived.OpenShut
import Derived.ShutString
import Derived.ChangeOld
import Derived.Below
import Derived.SizedLaws
import Derived.Deep.Slices
import Derived.Deep.Fields
import Derived.ChangeSame
import Derived.Test.YthohdinjpkehpaaGreatRows
namespace Go.Proofs.YthohdinjpkehpaaGreat
open Go SG Go.RowKit
set_option linter.unusedVariables false
set_option maxRecDepth 4000
set_option linter.unusedSimpArgs false

def readV (st : Dk) (s : El) : Bys × Int := match st.file s with
  | .error e => ([], e)
  | .ok i => ((st.fi i).now, 0)
def rdV (st : Dk) (s : El) (k m : Int) : Bys × Int := match st.file s with
  | .error e => ([], e)
  | .ok i => match rdAt (st.fi i).now k m with
    | none => ([], 1)
    | some l => (l, 0)
def unV (st : Dk) (s : El) : Int × Int := match st.file s with
  | .error e => (0, e)
  | .ok i => ((st.fi i).openI, 0)
def lsV (st : Dk) (s : El) : List El × Int := match st.findD s with
  | .error e => ([], e)
  | .ok D => (D.now.map (·.1), 0)
def opV (st : Dk) (s : El) : Int × Int := match st.findD s with
  | .error e => (0, e)
  | .ok D => ((D.was.length : Int), 0)
theorem readV_err {st : Dk} {s : El} {e : Int} (h : st.file s = .error e) : readV st s = ([], e) := by unfold readV; rw [h]
theorem readV_ok {st : Dk} {s : El} {i : Nat} (h : st.file s = .ok i) : readV st s = ((st.fi i).now, 0) := by unfold readV; rw [h]
theorem unV_err {st : Dk} {s : El} {e : Int} (h : st.file s = .error e) : unV st s = (0, e) := by unfold unV; rw [h]
theorem unV_ok {st : Dk} {s : El} {i : Nat} (h : st.file s = .ok i) : unV st s = ((st.fi i).openI, 0) := by unfold unV; rw [h]
theorem rdV_err {st : Dk} {s : El} {e k m : Int} (h : st.file s = .error e) : rdV st s k m = ([], e) := by unfold rdV; rw [h]
theorem rdV_bad {st : Dk} {s : El} {i : Nat} {k m : Int} (h : st.file s = .ok i) (h2 : rdAt (st.fi i).now k m = none) : rdV st s k m = ([], 1) := by unfold rdV; rw [h]; simp only; rw [h2]
theorem rdV_ok {st : Dk} {s : El} {i : Nat} {k m : Int} {l : Bys} (h : st.file s = .ok i) (h2 : rdAt (st.fi i).now k m = some l) : rdV st s k m = (l, 0) := by unfold rdV; rw [h]; simp only; rw [h2]
theorem lsV_err {st : Dk} {s : El} {e : Int} (h : st.findD s = .error e) : lsV st s = ([], e) := by unfold lsV; rw [h]
theorem lsV_ok {st : Dk} {s : El} {D : Di} (h : st.findD s = .ok D) : lsV st s = (D.now.map (·.1), 0) := by unfold lsV; rw [h]
theorem opV_err {st : Dk} {s : El} {e : Int} (h : st.findD s = .error e) : opV st s = (0, e) := by unfold opV; rw [h]
theorem opV_ok {st : Dk} {s : El} {D : Di} (h : st.findD s = .ok D) : opV st s = ((D.was.length : Int), 0) := by unfold opV; rw [h]
theorem readV_len {n : Nat} {st : Dk} (hW : DocW n st) (s : El) : (readV st s).1.length ≤ 536870912 := by
  cases h : st.file s with
  | error e => rw [readV_err h]; simp
  | ok i => rw [readV_ok h]; exact (hW.wf.fi i).1.now_len
theorem rdV_len {n : Nat} {st : Dk} (hW : DocW n st) (s : El) (k m : Int) : (rdV st s k m).1.length ≤ 536870912 := by
  cases h : st.file s with
  | error e => rw [rdV_err h]; simp
  | ok i =>
    cases h2 : rdAt (st.fi i).now k m with
    | none => rw [rdV_bad h h2]; simp
    | some l =>
      rw [rdV_ok h h2]
      have h3 := (hW.wf.fi i).1.now_len
      unfold rdAt at h2
      split at h2
      · cases h2
      · injection h2 with h2
        subst h2
        simp; omega
theorem lsV_len {n : Nat} {st : Dk} (hW : DocW n st) (s : El) : (lsV st s).1.length ≤ 1024 := by
  cases h : st.findD s with
  | error e => rw [lsV_err h]; simp
  | ok D => rw [lsV_ok h]; simp only [List.length_map]; exact (hW.wf.now_ D (findD_mem h)).2.1
section
variable {d g n : Nat} {st : Dk} {T : Tags} {w : World} {K : Value → World → Prop}
theorem PRead (hW : DocW n st) (h : Dsk T d w g st) {s : El} (hs : s.length ≤ 9223372036854775806) (hK : ∀ v w', w'.ownsRow w.heap.size 5 1 v (readV st s).1.length (SG.byteCells (readV st s).1) → Ext No w w' → K (.tuple [v, .int .i64 (readV st s).2].toArray) w') : CallS Tryz.prog 24 #[ptrE g, encE s] K w := by
  obtain ⟨md, dm, ad, h⟩ := h
  refine h.Read hW.wf (by decide) hs (fun e w' he _ e1 => ?_) fun i v w' hi ho e1 => ?_
  · rw [readV_err he] at hK; exact hK _ w' (World.ownsRow_nil _ _ _ _) e1
  · rw [readV_ok hi] at hK; exact hK v w' ho e1
theorem DRead (hW : DocW n st) (h : DD T d w g st) {s : El} (hs : s.length ≤ 9223372036854775806) (hK : ∀ v w', w'.ownsRow w.heap.size 5 1 v (readV st s).1.length (SG.byteCells (readV st s).1) → Ext No w w' → K (.tuple [v, .int .i64 (readV st s).2].toArray) w') : CallS Tryz.prog 110 #[ptrE g, encE s] K w := by
  obtain ⟨dv, fv, h⟩ := h
  refine h.Read hW hs (fun e w' he _ e1 => ?_) fun i v w' hi ho e1 => ?_
  · rw [readV_err he] at hK; exact hK _ w' (World.ownsRow_nil _ _ _ _) e1
  · rw [readV_ok hi] at hK; exact hK v w' ho e1
theorem PSize (hW : DocW n st) (h : Dsk T d w g st) {s : El} (hs : s.length ≤ 9223372036854775806) (hK : ∀ w', Ext No w w' → K (.tuple [.int .i64 ((readV st s).1.length : Int), .int .i64 (readV st s).2].toArray) w') : CallS Tryz.prog 111 #[ptrE g, encE s] K w := by
  obtain ⟨md, dm, ad, h⟩ := h
  refine h.Size hs (fun e w' he _ e1 => ?_) fun i w' hi e1 => ?_
  · rw [readV_err he] at hK; exact hK w' e1
  · rw [readV_ok hi] at hK; exact hK w' e1
theorem PReadAt (hW : DocW n st) (h : Dsk T d w g st) {s : El} (hs : s.length ≤ 9223372036854775806) {k m : Int} (hK : ∀ v w', w'.ownsRow w.heap.size 5 1 v (rdV st s k m).1.length (SG.byteCells (rdV st s k m).1) → Ext No w w' → K (.tuple [v, .int .i64 (rdV st s k m).2].toArray) w') : CallS Tryz.prog 112 #[ptrE g, encE s, .int .i64 k, .int .i64 m] K w := by
  obtain ⟨md, dm, ad, h⟩ := h
  refine h.ReadAt hW.wf (by decide) hs (fun e w' he _ e1 => ?_) (fun i w' hi hb e1 => ?_) fun i v l w' hi hl ho e1 => ?_
  · rw [rdV_err he] at hK; exact hK _ w' (World.ownsRow_nil _ _ _ _) e1
  · rw [rdV_bad hi hb] at hK; exact hK _ w' (World.ownsRow_nil _ _ _ _) e1
  · rw [rdV_ok hi hl] at hK; exact hK v w' ho e1
theorem DReadAt (hW : DocW n st) (h : DD T d w g st) {s : El} (hs : s.length ≤ 9223372036854775806) {k m : Int} (hK : ∀ v w', SlB w' v (rdV st s k m).1 → Ext No w w' → K (.tuple [v, .int .i64 (rdV st s k m).2].toArray) w') : CallS Tryz.prog 113 #[ptrE g, encE s, .int .i64 k, .int .i64 m] K w := by
  obtain ⟨dv, fv, h⟩ := h
  refine h.ReadAt hW hs (fun e w' he _ e1 => ?_) (fun i w' hi hb e1 => ?_) fun i v l w' hi hl ho e1 => ?_
  · rw [rdV_err he] at hK; exact hK _ w' (Sl.nil_ _ _) e1
  · rw [rdV_bad hi hb] at hK; exact hK _ w' (Sl.nil_ _ _) e1
  · rw [rdV_ok hi hl] at hK; exact hK v w' ho e1
theorem PUnsynced (hW : DocW n st) (h : Dsk T d w g st) {s : El} (hs : s.length ≤ 9223372036854775806) (hK : ∀ w', Ext No w w' → K (.tuple [.int .i64 (unV st s).1, .int .i64 (unV st s).2].toArray) w') : CallS Tryz.prog 114 #[ptrE g, encE s] K w := by
  obtain ⟨md, dm, ad, h⟩ := h
  refine h.Unsynced hW.wf hW.n2 hs (fun e w' he _ e1 => ?_) fun i w' hi e1 => ?_
  · rw [unV_err he] at hK; exact hK w' e1
  · rw [unV_ok hi] at hK; exact hK w' e1
theorem DUnsynced (hW : DocW n st) (h : DD T d w g st) {s : El} (hs : s.length ≤ 9223372036854775806) (hK : ∀ w', Ext No w w' → K (.tuple [.int .i64 (unV st s).1, .int .i64 (unV st s).2].toArray) w') : CallS Tryz.prog 115 #[ptrE g, encE s] K w := by
  obtain ⟨dv, fv, h⟩ := h
  refine h.Unsynced hW hs (fun e w' he _ e1 => ?_) fun i w' hi e1 => ?_
  · rw [unV_err he] at hK; exact hK w' e1
  · rw [unV_ok hi] at hK; exact hK w' e1
theorem PList (hW : DocW n st) (h : Dsk T d w g st) {s : El} (hK : ∀ v w', w'.ownsRow w.heap.size 9 1 v (lsV st s).1.length ((lsV st s).1.map encE) → Ext No w w' → K (.tuple [v, .int .i64 (lsV st s).2].toArray) w') : CallS Tryz.prog 116 #[ptrE g, encE s] K w := by
  obtain ⟨md, dm, ad, h⟩ := h
  refine h.List_ hW.wf (fun e w' he _ e1 => ?_) fun D v w' hi ho e1 => ?_
  · rw [lsV_err he] at hK; exact hK _ w' (World.ownsRow_nil _ _ _ _) e1
  · rw [lsV_ok hi] at hK; exact hK v w' (by simpa using ho) e1
theorem DList (hW : DocW n st) (h : DD T d w g st) {s : El} (hK : ∀ v w', IcS T w v (lsV st s).1.length 1 ((lsV st s).1.map encE) → Ext No w w' → K (.tuple [v, .int .i64 (lsV st s).2].toArray) w') : CallS Tryz.prog 117 #[ptrE g, encE s] K w := by
  obtain ⟨dv, fv, h⟩ := h
  refine h.List_ hW (fun e he _ => ?_) fun D v w' hi ho e1 => ?_
  · rw [lsV_err he] at hK; exact hK _ w (IcS.nil_ _ _ 1) (Ext.refl _ _)
  · rw [lsV_ok hi] at hK; exact hK v w' (by simpa using ho) e1
theorem POpen (hW : DocW n st) (h : Dsk T d w g st) {s : El} (hK : ∀ w', Ext No w w' → K (.tuple [.int .i64 (opV st s).1, .int .i64 (opV st s).2].toArray) w') : CallS Tryz.prog 67 #[ptrE g, encE s] K w := by
  obtain ⟨md, dm, ad, h⟩ := h
  refine h.Open (fun e w' he _ e1 => ?_) fun D w' hi e1 => ?_
  · rw [opV_err he] at hK; exact hK w' e1
  · rw [opV_ok hi] at hK; exact hK w' e1
theorem DOpen (hW : DocW n st) (h : DD T d w g st) {s : El} (hK : ∀ w', Ext No w w' → K (.tuple [.int .i64 (opV st s).1, .int .i64 (opV st s).2].toArray) w') : CallS Tryz.prog 68 #[ptrE g, encE s] K w := by
  obtain ⟨dv, fv, h⟩ := h
  refine h.Open hW (fun e he _ => ?_) fun D hi => ?_
  · rw [opV_err he] at hK; exact hK w (Ext.refl _ _)
  · rw [opV_ok hi] at hK; exact hK w (Ext.refl _ _)
theorem PSame (hW : DocW n st) (h : Dsk T d w g st) {s t : El} (hs : s.length ≤ 9223372036854775806) (ht : t.length ≤ 9223372036854775806) (hK : ∀ w', Ext No w w' → K (.bool (match st.file s, st.file t with | .ok i, .ok j => decide (i = j) | _, _ => false)) w') : CallS Tryz.prog 118 #[ptrE g, encE s, encE t] K w := by
  obtain ⟨md, dm, ad, h⟩ := h
  exact h.Same hs ht hK
theorem DSame (hW : DocW n st) (h : DD T d w g st) {s t : El} (hs : s.length ≤ 9223372036854775806) (ht : t.length ≤ 9223372036854775806) (hK : ∀ w', Ext No w w' → K (.bool (match st.file s, st.file t with | .ok i, .ok j => decide (i = j) | _, _ => false)) w') : CallS Tryz.prog 119 #[ptrE g, encE s, encE t] K w := by
  obtain ⟨dv, fv, h⟩ := h
  exact h.Same hW hs ht hK
end
end Go.Proofs.YthohdinjpkehpaaGreat

namespace Go.Proofs.YthohdinjpkehpaaGreat
open Go SG Go.RowKit
set_option linter.unusedVariables false
set_option maxRecDepth 4000
set_option linter.unusedSimpArgs false

section
variable {T : Tags} {w : World} {dp dd x g h n : Nat} {st : Dk} {K : Value → World → Prop}
set_option maxHeartbeats 8000000 in
theorem Pr.reads (p : Pr T w dp dd x g h st) (hW : DocW n st) {a : Ac} (ha : AcOk a) {bv kv nv : Value}
    (hK : ∀ w', Ext No w w' → K (.bool true) w') : CallS Tryz.prog 62 #[ptrE x, .agg (acC a bv kv nv).toArray] K w := by
  refine s62_call hm ?_
  unfold s62
  refine box fun w1 b1 e1 z1 => ?_
  have b1' : Blk w1 w.heap.size 45 (acC a bv kv nv) := b1
  have p1 := p.no e1
  have hsz1 := e1.size
  have r0 := readV_len hW a.path
  have rr0 := rdV_len hW a.path a.n a.m
  have ll0 := lsV_len hW a.path
  -- Read, by both; Size
  have d1 := Ext.drew (S := No) w1
  refine draw (fun w' => w' = w1.drew) rfl (pur (nil_ptr _) (pur (field_ptr _ _ _) (pur (field_ptr _ _ _) ?_)))
  refine heldC (v := ptrE g) (fun w' hh => by rw [hh]; exact (p1.blk.no d1).cell 0) (heldC (v := encE a.path) (fun w' hh => by rw [hh]; exact (b1'.no d1).cell 1) ?_)
  refine PRead hW (p1.no d1).dsk ha.path fun v2 w2 ho2 x2 => pur (extract_0 _ _) (pur (extract_1 _ _ _) ?_)
  have f2 : Ext No w1 w2 := d1.trans x2
  have d2 := Ext.drew (S := No) w2
  have g2 := f2.trans d2
  refine draw (fun w' => w' = w2.drew) rfl (pur (nil_ptr _) (pur (field_ptr _ _ _) (pur (field_ptr _ _ _) ?_)))
  refine heldC (v := ptrE h) (fun w' hh => by rw [hh]; exact (p1.blk.no g2).cell 1) (heldC (v := encE a.path) (fun w' hh => by rw [hh]; exact (b1'.no g2).cell 1) ?_)
  refine DRead hW (p1.no g2).doc ha.path fun v3 w3 ho3 x3 => pur (extract_0 _ _) (pur (extract_1 _ _ _) ?_)
  have f3 : Ext No w1 w3 := g2.trans x3
  have d3 := Ext.drew (S := No) w3
  have g3 := f3.trans d3
  refine draw (fun w' => w' = w3.drew) rfl (pur (nil_ptr _) (pur (field_ptr _ _ _) (pur (field_ptr _ _ _) ?_)))
  refine heldC (v := ptrE g) (fun w' hh => by rw [hh]; exact (p1.blk.no g3).cell 0) (heldC (v := encE a.path) (fun w' hh => by rw [hh]; exact (b1'.no g3).cell 1) ?_)
  refine PSize hW (p1.no g3).dsk ha.path fun w4 x4 => pur (extract_0 _ _) (pur (extract_1 _ _ _) ?_)
  have f4 : Ext No w1 w4 := g3.trans x4
  have ho2' := owns_ext ho2 ((d2.trans x3).trans (d3.trans x4)) fun _ _ hh => hh
  have ho3' := owns_ext ho3 (d3.trans x4) fun _ _ hh => hh
  refine runS (str_conv (Sl.own ho2')) (runS (str_conv (Sl.own ho3')) (pur (eqE _ _) ?_))
  refine andT (by simp) (pur (bin_eql _ _ _) (pur (pickT _ _) (andT (by simp) (pur (Sl.own ho3').len (pur (bin_eql _ _ _) (pur (pickT _ _) (andT (by simp) (pur (bin_eql _ _ _) (pur (pickT _ _) ?_)))))))))
  -- what was read is spoilt
  refine cSpoil ho2' (Nat.le_trans d1.size (x2.trans ((d2.trans x3).trans (d3.trans x4))).size) (by omega) fun w5 x5 => ?_
  have f5 : Ext No w1 w5 := f4.fresh x5 fun b hb => .inr (by have := (ho2'.lt b hb).1; have := d1.size; omega)
  -- ReadAt, by both
  have d5 := Ext.drew (S := No) w5
  have g5 := f5.trans d5
  refine draw (fun w' => w' = w5.drew) rfl (pur (nil_ptr _) (pur (field_ptr _ _ _) (pur (field_ptr _ _ _) (pur (field_ptr _ _ _) (pur (field_ptr _ _ _) ?_)))))
  refine heldC (v := ptrE g) (fun w' hh => by rw [hh]; exact (p1.blk.no g5).cell 0) (heldC (v := encE a.path) (fun w' hh => by rw [hh]; exact (b1'.no g5).cell 1) (heldC (v := .int .i64 a.n) (fun w' hh => by rw [hh]; exact (b1'.no g5).cell 4) (heldC (v := .int .i64 a.m) (fun w' hh => by rw [hh]; exact (b1'.no g5).cell 5) ?_)))
  refine PReadAt hW (p1.no g5).dsk ha.path fun v6 w6 ho6 x6 => pur (extract_0 _ _) (pur (extract_1 _ _ _) ?_)
  have f6 : Ext No w1 w6 := g5.trans x6
  have d6 := Ext.drew (S := No) w6
  have g6 := f6.trans d6
  refine draw (fun w' => w' = w6.drew) rfl (pur (nil_ptr _) (pur (field_ptr _ _ _) (pur (field_ptr _ _ _) (pur (field_ptr _ _ _) (pur (field_ptr _ _ _) ?_)))))
  refine heldC (v := ptrE h) (fun w' hh => by rw [hh]; exact (p1.blk.no g6).cell 1) (heldC (v := encE a.path) (fun w' hh => by rw [hh]; exact (b1'.no g6).cell 1) (heldC (v := .int .i64 a.n) (fun w' hh => by rw [hh]; exact (b1'.no g6).cell 4) (heldC (v := .int .i64 a.m) (fun w' hh => by rw [hh]; exact (b1'.no g6).cell 5) ?_)))
  refine DReadAt hW (p1.no g6).doc ha.path fun v7 w7 hs7 x7 => pur (extract_0 _ _) (pur (extract_1 _ _ _) ?_)
  have f7 : Ext No w1 w7 := g6.trans x7
  have ho6' := owns_ext ho6 (d6.trans x7) fun _ _ hh => hh
  refine andT (by simp) (runS (str_conv (Sl.own ho6')) (runS (str_conv hs7) (pur (eqE _ _) (pur (pickT _ _) (andT (by simp) (pur (bin_eql _ _ _) (pur (pickT _ _) ?_)))))))
  refine cSpoil ho6' (Nat.le_trans x6.size (d6.trans x7).size) (by omega) fun w8 x8 => ?_
  have f8 : Ext No w1 w8 := f7.fresh x8 fun b hb => .inr (by have := (ho6'.lt b hb).1; have := g5.size; omega)
  -- Unsynced, by both
  have d8 := Ext.drew (S := No) w8
  have g8 := f8.trans d8
  refine draw (fun w' => w' = w8.drew) rfl (pur (nil_ptr _) (pur (field_ptr _ _ _) (pur (field_ptr _ _ _) ?_)))
  refine heldC (v := ptrE g) (fun w' hh => by rw [hh]; exact (p1.blk.no g8).cell 0) (heldC (v := encE a.path) (fun w' hh => by rw [hh]; exact (b1'.no g8).cell 1) ?_)
  refine PUnsynced hW (p1.no g8).dsk ha.path fun w9 x9 => pur (extract_0 _ _) (pur (extract_1 _ _ _) ?_)
  have f9 : Ext No w1 w9 := g8.trans x9
  have d9 := Ext.drew (S := No) w9
  have g9 := f9.trans d9
  refine draw (fun w' => w' = w9.drew) rfl (pur (nil_ptr _) (pur (field_ptr _ _ _) (pur (field_ptr _ _ _) ?_)))
  refine heldC (v := ptrE h) (fun w' hh => by rw [hh]; exact (p1.blk.no g9).cell 1) (heldC (v := encE a.path) (fun w' hh => by rw [hh]; exact (b1'.no g9).cell 1) ?_)
  refine DUnsynced hW (p1.no g9).doc ha.path fun w10 x10 => pur (extract_0 _ _) (pur (extract_1 _ _ _) ?_)
  have f10 : Ext No w1 w10 := g9.trans x10
  refine andT (by simp) (pur (bin_eql _ _ _) (pur (pickT _ _) (andT (by simp) (pur (bin_eql _ _ _) (pur (pickT _ _) ?_)))))
  -- List, by both
  have d10 := Ext.drew (S := No) w10
  have g10 := f10.trans d10
  refine draw (fun w' => w' = w10.drew) rfl (pur (nil_ptr _) (pur (field_ptr _ _ _) (pur (field_ptr _ _ _) ?_)))
  refine heldC (v := ptrE g) (fun w' hh => by rw [hh]; exact (p1.blk.no g10).cell 0) (heldC (v := encE a.path) (fun w' hh => by rw [hh]; exact (b1'.no g10).cell 1) ?_)
  refine PList hW (p1.no g10).dsk fun v11 w11 ho11 x11 => pur (extract_0 _ _) (pur (extract_1 _ _ _) ?_)
  have f11 : Ext No w1 w11 := g10.trans x11
  have d11 := Ext.drew (S := No) w11
  have g11 := f11.trans d11
  refine draw (fun w' => w' = w11.drew) rfl (pur (nil_ptr _) (pur (field_ptr _ _ _) (pur (field_ptr _ _ _) ?_)))
  refine heldC (v := ptrE h) (fun w' hh => by rw [hh]; exact (p1.blk.no g11).cell 1) (heldC (v := encE a.path) (fun w' hh => by rw [hh]; exact (b1'.no g11).cell 1) ?_)
  -- what is new is nobody's: so the document's names lie elsewhere
  have kff : Gon Nil w1 T w11.drew (Go.Proofs.YthohdinjpkehpaaGreat.ff w1 T) := Gon.ff g11
  have pf := p1.keep kff (fun h => h) (fun _ h => h) fun h => h
  refine DList hW pf.doc fun v12 w12 hi12 x12 => pur (extract_0 _ _) (pur (extract_1 _ _ _) ?_)
  have f12 : Ext No w1 w12 := g11.trans x12
  have ho11' := owns_ext ho11 (d11.trans x12) fun _ _ hh => hh
  have hs12 := hi12.1.no x12
  refine andT (by simp) (cTexts ho11' hs12 (by omega) (fun c hc hh => ?_) fun w13 x13 => pur (pickT _ _) (andT rfl (pur (bin_eql _ _ _) (pur (pickT _ _) ?_))))
  · have h1 := (hi12.2 c hc).2
    have h2 : w1.heap.size ≤ c := by have := (ho11'.lt c hh).1; have := g10.size; omega
    rw [ff_ge h2] at h1; cases h1
  have f13 : Ext No w1 w13 := f12.fresh x13 fun b hb => .inr (by have := (ho11'.lt b hb).1; have := g10.size; omega)
  -- Open, by both
  have d13 := Ext.drew (S := No) w13
  have g13 := f13.trans d13
  refine draw (fun w' => w' = w13.drew) rfl (pur (nil_ptr _) (pur (field_ptr _ _ _) (pur (field_ptr _ _ _) ?_)))
  refine heldC (v := ptrE g) (fun w' hh => by rw [hh]; exact (p1.blk.no g13).cell 0) (heldC (v := encE a.path) (fun w' hh => by rw [hh]; exact (b1'.no g13).cell 1) ?_)
  refine POpen hW (p1.no g13).dsk fun w14 x14 => pur (extract_0 _ _) (pur (extract_1 _ _ _) ?_)
  have f14 : Ext No w1 w14 := g13.trans x14
  have d14 := Ext.drew (S := No) w14
  have g14 := f14.trans d14
  refine draw (fun w' => w' = w14.drew) rfl (pur (nil_ptr _) (pur (field_ptr _ _ _) (pur (field_ptr _ _ _) ?_)))
  refine heldC (v := ptrE h) (fun w' hh => by rw [hh]; exact (p1.blk.no g14).cell 1) (heldC (v := encE a.path) (fun w' hh => by rw [hh]; exact (b1'.no g14).cell 1) ?_)
  refine DOpen hW (p1.no g14).doc fun w15 x15 => pur (extract_0 _ _) (pur (extract_1 _ _ _) ?_)
  have f15 : Ext No w1 w15 := g14.trans x15
  have d15 := Ext.drew (S := No) w15
  have g15 := f15.trans d15
  -- Same, by both
  refine draw (fun w' => Ext No w1 w') g15 (condT (by simp) (pur (bin_eql _ _ _) (pur (pickT _ _) (condT (by simp) (pur (bin_eql _ _ _) (pur (pickT _ _) (condT (by simp) ?_)))))))
  refine pur (nil_ptr _) (pur (field_ptr _ _ _) (pur (field_ptr _ _ _) (pur (field_ptr _ _ _) (pur (nil_ptr _) (pur (field_ptr _ _ _) (pur (field_ptr _ _ _) (pur (field_ptr _ _ _) ?_)))))))
  refine heldC (v := ptrE g) (fun w' hh => (p1.blk.no hh).cell 0) (heldC (v := encE a.path) (fun w' hh => (b1'.no hh).cell 1) (heldC (v := encE a.to) (fun w' hh => (b1'.no hh).cell 2) ?_))
  refine heldC (v := ptrE h) (fun w' hh => (p1.blk.no hh).cell 1) (heldC (v := encE a.path) (fun w' hh => (b1'.no hh).cell 1) (heldC (v := encE a.to) (fun w' hh => (b1'.no hh).cell 2) ?_))
  refine PSame hW (p1.no g15).dsk ha.path ha.to fun w16 x16 => ⟨g15.trans x16, ?_⟩
  refine DSame hW (p1.no (g15.trans x16)).doc ha.path ha.to fun w17 x17 => pur (bool_eql _ _) (pur (pickT _ _) ?_)
  rw [beq_self_eq_true]
  exact hK w17 (e1.trans ((g15.trans x16).trans x17))
end
end Go.Proofs.YthohdinjpkehpaaGreat

namespace Go.Proofs.YthohdinjpkehpaaGreat
open Go SG Go.RowKit
set_option linter.unusedVariables false
set_option maxRecDepth 4000
set_option linter.unusedSimpArgs false

theorem intC_one {l : List Int} : ∀ u ∈ intC l, u.oneCell' = true := by
  intro u hu
  unfold intC at hu
  obtain ⟨c, _, rfl⟩ := List.mem_map.1 hu
  rfl
theorem appI {w0 u : World} (e : Ext No w0 u) {ta tb kv : Value} {m : Nat} {ys : List Value} {l : List Int} (hk : SlI w0 kv l) (hl : l.length ≤ 17592186044416) (ha : u.ownsRow w0.heap.size 3 1 ta 0 []) (hb : u.ownsRow w0.heap.size 3 1 tb m ys) (hne : ∀ b, tb.ownBlock = some b → ta.ownBlock ≠ some b) {K : Value → World → Prop}
    (hK : ∀ v u', u'.ownsRow w0.heap.size 3 1 v l.length (intC l) → u'.ownsRow w0.heap.size 3 1 tb m ys → (∀ b, tb.ownBlock = some b → v.ownBlock ≠ some b) → Ext No w0 u' → K v u') : RunS Tryz.prog (Builtin.append_ #[23, 23] 23 [ta, kv].toArray) K u := by
  refine append_sl TI 23 ha (Sl.no hk e) intC_one (by omega) (by omega) e.size fun v u' ho hg hat => ?_
  have eg : Ext (fun b => ta.ownBlock = some b) u u' := Ext.grown hg fun b hb => hb
  rw [Nat.zero_add, List.nil_append] at ho
  refine hK v u' ho (owns_ext hb eg fun b hb' hh => hne b hb' hh) (fun b hb' hh => ?_) (e.fresh eg fun b hb' => .inr (ha.lt b hb').1)
  rcases hat with h | h
  · exact hne b hb' (by rw [← h]; exact hh)
  · rw [h] at hh
    have h1 : u.heap.size = b := by simpa using hh
    have := (hb.lt b hb').2
    omega
theorem ArgI.row {T : Tags} {w w1 : World} {v : Value} {l : List Int} (h : w1.ownsRow w.heap.size 3 1 v l.length (intC l)) : ArgI (ff w T) w1 v l :=
  ⟨Sl.own h, .inr fun b hb => ⟨(h.lt b hb).2, .inl (ff_ge (h.lt b hb).1)⟩⟩
section
variable {T : Tags} {w : World} {dp dd x g h n : Nat} {st : Dk} {K : Value → World → Prop}
set_option maxHeartbeats 16000000 in
theorem Pr.Does (p : Pr T w dp dd x g h st) (hne : dp ≠ dd) (hW : DocW n st) {a : Ac} (ha : AcOk a) {bv kv nv : Value} (hr : AcR T w a bv kv nv)
    (hK : ∀ w' T', Pr T' w' dp dd x g h (st.does a) → Gon (PD dp dd) w T w' T' → K (.bool true) w') : CallS Tryz.prog 17 #[ptrE x, .agg (acC a bv kv nv).toArray] K w := by
  refine s17_call hm ?_
  unfold s17
  unfold Dk.does at hK
  refine box fun w1 b1 e1 z1 => ?_
  have b1' : Blk w1 w.heap.size 45 (acC a bv kv nv) := b1
  have ki : Gon Nil w T w1 (icf w T) := Gon.icf e1
  have p1 := p.keep ki (fun h => h) (fun _ h => h) fun h => h
  have hr1 := hr.keep ki fun h => h
  have ta : icf w T w.heap.size = .ice := icf_ge (Nat.le_refl _)
  generalize hT1 : icf w T = T1 at *
  have up : ∀ {w' : World} {T' : Tags}, Gon (PD dp dd) w1 T1 w' T' → Gon (PD dp dd) w T w' T' := fun k => (ki.mono fun _ h => h.elim).trans k
  have ed := Ext.drew (S := No) w1
  have upd : ∀ {w' : World} {T' : Tags}, Gon (PD dp dd) w1.drew T1 w' T' → Gon (PD dp dd) w T w' T' := fun k => up ((Gon.no ed).trans k)
  have p1d := p1.no ed
  have b1d := b1'.no ed
  let S : World → Prop := fun w' => Blk w' x 48 [ptrE g, ptrE h] ∧ Blk w' w.heap.size 45 (acC a bv kv nv)
  have hS0 : S w1.drew := ⟨p1d.blk, b1d⟩
  have hS : ∀ T' w', Gon (Ops dp) w1.drew T1 w' T' → S w' := fun T' w' k => ⟨p1d.blk.ext k.ext (by rw [p1d.tag]; exact Ops.ice), b1d.ext k.ext (by rw [ta]; exact Ops.ice)⟩
  refine join0 (fun w' => K (.bool true) w') (fun w' h => h) fun J0 hJ0 => ?_
  refine pur (field_ptr _ _ _) (loadB b1' (v := .int .i64 a.kind) rfl ?_)
  by_cases c0 : a.kind = 0
  · rw [if_pos c0] at hK
    refine pur (bin_eql _ _ _) (condT (by simpa using c0) ?_)
    refine draw S hS0 (pur (nil_ptr _) (pur (field_ptr _ _ _) (pur (field_ptr _ _ _) (pur (nil_ptr _) (pur (field_ptr _ _ _) (pur (field_ptr _ _ _) (?_)))))))
    refine heldC (v := ptrE g) (fun w' hh => hh.1.cell 0) (heldC (v := encE a.path) (fun w' hh => hh.2.cell 1) (heldC (v := ptrE h) (fun w' hh => hh.1.cell 1) (heldC (v := encE a.path) (fun w' hh => hh.2.cell 1) (?_))))
    exact pair_call (Pmkdir hW ) (Dmkdir hW ) hne p1d hS fun w' T' q k => hK w' T' q (upd k)
  rw [if_neg c0] at hK
  refine pur (bin_eql _ _ _) (condF (by simpa using c0) ?_)
  by_cases c1 : a.kind = 1
  · rw [if_pos c1] at hK
    refine pur (bin_eql _ _ _) (condT (by simpa using c1) ?_)
    refine draw S hS0 (pur (nil_ptr _) (pur (field_ptr _ _ _) (pur (field_ptr _ _ _) (pur (nil_ptr _) (pur (field_ptr _ _ _) (pur (field_ptr _ _ _) (?_)))))))
    refine heldC (v := ptrE g) (fun w' hh => hh.1.cell 0) (heldC (v := encE a.path) (fun w' hh => hh.2.cell 1) (heldC (v := ptrE h) (fun w' hh => hh.1.cell 1) (heldC (v := encE a.path) (fun w' hh => hh.2.cell 1) (?_))))
    exact pair_call (Prmdir hW ) (Drmdir hW ) hne p1d hS fun w' T' q k => hK w' T' q (upd k)
  rw [if_neg c1] at hK
  refine pur (bin_eql _ _ _) (condF (by simpa using c1) ?_)
  by_cases c2 : a.kind = 2
  · rw [if_pos c2] at hK
    refine pur (bin_eql _ _ _) (condT (by simpa using c2) ?_)
    refine draw S hS0 (pur (nil_ptr _) (pur (field_ptr _ _ _) (pur (field_ptr _ _ _) (pur (nil_ptr _) (pur (field_ptr _ _ _) (pur (field_ptr _ _ _) (?_)))))))
    refine heldC (v := ptrE g) (fun w' hh => hh.1.cell 0) (heldC (v := encE a.path) (fun w' hh => hh.2.cell 1) (heldC (v := ptrE h) (fun w' hh => hh.1.cell 1) (heldC (v := encE a.path) (fun w' hh => hh.2.cell 1) (?_))))
    exact pair_call (Pcreate hW ha.path) (Dcreate hW ha.path) hne p1d hS fun w' T' q k => hK w' T' q (upd k)
  rw [if_neg c2] at hK
  refine pur (bin_eql _ _ _) (condF (by simpa using c2) ?_)
  refine join1 (fun t w' => w1 = w' ∧ t = .bool (decide (a.kind = 3 ∨ a.kind = 4))) ?_ fun J4 hJ4 => ?_
  rotate_left
  · refine pur (bin_eql _ _ _) (condD (fun h3 => ?_) (fun h3 => ?_))
    · have h3' : a.kind = 3 := h3
      exact hJ4 _ _ ⟨rfl, by simp [h3']⟩
    · have h3' : ¬ a.kind = 3 := h3
      exact pur (bin_eql _ _ _) (hJ4 _ _ ⟨rfl, by simp [h3']⟩)
  rintro _ _ ⟨rfl, rfl⟩
  refine condD (fun h34 => ?_) (fun h34 => ?_)
  · refine loadA (At.of_blk b1') rfl (p1.writes hne hW ha hr1 h34 fun w' T' q k => hK w' T' ?_ (up k))
    by_cases h3 : a.kind = 3
    · rw [if_pos h3] at q ⊢; exact q
    · rw [if_neg h3] at q ⊢; rw [if_pos (h34.resolve_left h3)]; exact q
  rw [if_neg (fun h => h34 (.inl h)), if_neg (fun h => h34 (.inr h))] at hK
  by_cases c5 : a.kind = 5
  · rw [if_pos c5] at hK
    refine pur (bin_eql _ _ _) (condT (by simpa using c5) ?_)
    refine draw S hS0 (pur (nil_ptr _) (pur (field_ptr _ _ _) (pur (field_ptr _ _ _) (pur (field_ptr _ _ _) (pur (nil_ptr _) (pur (field_ptr _ _ _) (pur (field_ptr _ _ _) (pur (field_ptr _ _ _) (?_)))))))))
    refine heldC (v := ptrE g) (fun w' hh => hh.1.cell 0) (heldC (v := encE a.path) (fun w' hh => hh.2.cell 1) (heldC (v := .int .i64 a.n) (fun w' hh => hh.2.cell 4) (heldC (v := ptrE h) (fun w' hh => hh.1.cell 1) (heldC (v := encE a.path) (fun w' hh => hh.2.cell 1) (heldC (v := .int .i64 a.n) (fun w' hh => hh.2.cell 4) (?_))))))
    exact pair_call (Pcut_ hW ha.path ha.n) (Dcut_ hW ha.path ha.n) hne p1d hS fun w' T' q k => hK w' T' q (upd k)
  rw [if_neg c5] at hK
  refine pur (bin_eql _ _ _) (condF (by simpa using c5) ?_)
  by_cases c6 : a.kind = 6
  · rw [if_pos c6] at hK
    refine pur (bin_eql _ _ _) (condT (by simpa using c6) ?_)
    refine draw S hS0 (pur (nil_ptr _) (pur (field_ptr _ _ _) (pur (field_ptr _ _ _) (pur (field_ptr _ _ _) (pur (nil_ptr _) (pur (field_ptr _ _ _) (pur (field_ptr _ _ _) (pur (field_ptr _ _ _) (?_)))))))))
    refine heldC (v := ptrE g) (fun w' hh => hh.1.cell 0) (heldC (v := encE a.path) (fun w' hh => hh.2.cell 1) (heldC (v := encE a.to) (fun w' hh => hh.2.cell 2) (heldC (v := ptrE h) (fun w' hh => hh.1.cell 1) (heldC (v := encE a.path) (fun w' hh => hh.2.cell 1) (heldC (v := encE a.to) (fun w' hh => hh.2.cell 2) (?_))))))
    exact pair_call (Prename hW ha.path ha.to) (Drename hW ha.path ha.to) hne p1d hS fun w' T' q k => hK w' T' q (upd k)
  rw [if_neg c6] at hK
  refine pur (bin_eql _ _ _) (condF (by simpa using c6) ?_)
  by_cases c7 : a.kind = 7
  · rw [if_pos c7] at hK
    refine pur (bin_eql _ _ _) (condT (by simpa using c7) ?_)
    refine draw S hS0 (pur (nil_ptr _) (pur (field_ptr _ _ _) (pur (field_ptr _ _ _) (pur (field_ptr _ _ _) (pur (nil_ptr _) (pur (field_ptr _ _ _) (pur (field_ptr _ _ _) (pur (field_ptr _ _ _) (?_)))))))))
    refine heldC (v := ptrE g) (fun w' hh => hh.1.cell 0) (heldC (v := encE a.path) (fun w' hh => hh.2.cell 1) (heldC (v := encE a.to) (fun w' hh => hh.2.cell 2) (heldC (v := ptrE h) (fun w' hh => hh.1.cell 1) (heldC (v := encE a.path) (fun w' hh => hh.2.cell 1) (heldC (v := encE a.to) (fun w' hh => hh.2.cell 2) (?_))))))
    exact pair_call (Plink hW ha.path ha.to) (Dlink hW ha.path ha.to) hne p1d hS fun w' T' q k => hK w' T' q (upd k)
  rw [if_neg c7] at hK
  refine pur (bin_eql _ _ _) (condF (by simpa using c7) ?_)
  by_cases c8 : a.kind = 8
  · rw [if_pos c8] at hK
    refine pur (bin_eql _ _ _) (condT (by simpa using c8) ?_)
    refine draw S hS0 (pur (nil_ptr _) (pur (field_ptr _ _ _) (pur (field_ptr _ _ _) (pur (nil_ptr _) (pur (field_ptr _ _ _) (pur (field_ptr _ _ _) (?_)))))))
    refine heldC (v := ptrE g) (fun w' hh => hh.1.cell 0) (heldC (v := encE a.path) (fun w' hh => hh.2.cell 1) (heldC (v := ptrE h) (fun w' hh => hh.1.cell 1) (heldC (v := encE a.path) (fun w' hh => hh.2.cell 1) (?_))))
    exact pair_call (Premove hW ha.path) (Dremove hW ha.path) hne p1d hS fun w' T' q k => hK w' T' q (upd k)
  rw [if_neg c8] at hK
  refine pur (bin_eql _ _ _) (condF (by simpa using c8) ?_)
  by_cases c9 : a.kind = 9
  · rw [if_pos c9] at hK
    refine pur (bin_eql _ _ _) (condT (by simpa using c9) ?_)
    refine draw S hS0 (pur (nil_ptr _) (pur (field_ptr _ _ _) (pur (field_ptr _ _ _) (pur (nil_ptr _) (pur (field_ptr _ _ _) (pur (field_ptr _ _ _) (?_)))))))
    refine heldC (v := ptrE g) (fun w' hh => hh.1.cell 0) (heldC (v := encE a.path) (fun w' hh => hh.2.cell 1) (heldC (v := ptrE h) (fun w' hh => hh.1.cell 1) (heldC (v := encE a.path) (fun w' hh => hh.2.cell 1) (?_))))
    exact pair_call (Psync_ hW ha.path) (Dsync_ hW ha.path) hne p1d hS fun w' T' q k => hK w' T' q (upd k)
  rw [if_neg c9] at hK
  refine pur (bin_eql _ _ _) (condF (by simpa using c9) ?_)
  by_cases c10 : a.kind = 10
  · rw [if_pos c10] at hK
    refine pur (bin_eql _ _ _) (condT (by simpa using c10) ?_)
    refine draw S hS0 (pur (nil_ptr _) (pur (field_ptr _ _ _) (pur (field_ptr _ _ _) (pur (nil_ptr _) (pur (field_ptr _ _ _) (pur (field_ptr _ _ _) (?_)))))))
    refine heldC (v := ptrE g) (fun w' hh => hh.1.cell 0) (heldC (v := encE a.path) (fun w' hh => hh.2.cell 1) (heldC (v := ptrE h) (fun w' hh => hh.1.cell 1) (heldC (v := encE a.path) (fun w' hh => hh.2.cell 1) (?_))))
    exact pair_call (PsyncDir hW ) (DsyncDir hW ) hne p1d hS fun w' T' q k => hK w' T' q (upd k)
  rw [if_neg c10] at hK
  refine pur (bin_eql _ _ _) (condF (by simpa using c10) ?_)
  by_cases c11 : a.kind = 11
  · rw [if_pos c11] at hK
    refine pur (bin_eql _ _ _) (condT (by simpa using c11) ?_)
    refine draw S hS0 (pur (nil_ptr _) (pur (field_ptr _ _ _) (pur (field_ptr _ _ _) (pur (field_ptr _ _ _) (?_)))))
    refine heldC (v := ptrE g) (fun w' hh => hh.1.cell 0) (heldC (v := .int .i64 a.n) (fun w' hh => hh.2.cell 4) (heldC (v := .int .i64 a.m) (fun w' hh => hh.2.cell 5) (?_)))
    obtain ⟨md, dm, ad, hx⟩ := p1d.dsk
    refine hx.Fail fun w2 h2 k2 => ?_
    have s2 := hS T1 w2 k2
    have ed2 := Ext.drew (S := No) w2
    have s2d : S w2.drew := ⟨s2.1.no ed2, s2.2.no ed2⟩
    refine draw S s2d (pur (nil_ptr _) (pur (field_ptr _ _ _) (pur (field_ptr _ _ _) (pur (field_ptr _ _ _) (?_)))))
    refine heldC (v := ptrE h) (fun w' hh => hh.1.cell 1) (heldC (v := .int .i64 a.n) (fun w' hh => hh.2.cell 4) (heldC (v := .int .i64 a.m) (fun w' hh => hh.2.cell 5) (?_)))
    obtain ⟨dv, fv, hd⟩ := (p1d.doc.keep k2 Ops.ice (Ops.other hne _)).keep (M := Nil) (Gon.no ed2) (fun h => h) fun h => h
    refine hd.Fail fun w3 h3 k3 => hJ0 w3 ?_
    obtain ⟨q1, q2⟩ := p1d.both hne ⟨_, _, _, h2⟩ k2 ⟨_, _, h3⟩ ((Gon.no ed2).trans k3)
    exact hK w3 T1 q1 (upd q2)
  rw [if_neg c11] at hK
  refine pur (bin_eql _ _ _) (condF (by simpa using c11) ?_)
  by_cases c12 : a.kind = 12
  · rw [if_pos c12] at hK
    refine pur (bin_eql _ _ _) (condT (by simpa using c12) ?_)
    refine draw S hS0 (pur (nil_ptr _) (pur (field_ptr _ _ _) (pur (field_ptr _ _ _) (?_))))
    refine heldC (v := ptrE g) (fun w' hh => hh.1.cell 0) (heldC (v := .int .i64 a.n) (fun w' hh => hh.2.cell 4) (?_))
    obtain ⟨md, dm, ad, hx⟩ := p1d.dsk
    refine hx.Stop fun w2 h2 k2 => ?_
    have s2 := hS T1 w2 k2
    have ed2 := Ext.drew (S := No) w2
    have s2d : S w2.drew := ⟨s2.1.no ed2, s2.2.no ed2⟩
    refine draw S s2d (pur (nil_ptr _) (pur (field_ptr _ _ _) (pur (field_ptr _ _ _) (?_))))
    refine heldC (v := ptrE h) (fun w' hh => hh.1.cell 1) (heldC (v := .int .i64 a.n) (fun w' hh => hh.2.cell 4) (?_))
    obtain ⟨dv, fv, hd⟩ := (p1d.doc.keep k2 Ops.ice (Ops.other hne _)).keep (M := Nil) (Gon.no ed2) (fun h => h) fun h => h
    refine hd.Stop fun w3 h3 k3 => hJ0 w3 ?_
    obtain ⟨q1, q2⟩ := p1d.both hne ⟨_, _, _, h2⟩ k2 ⟨_, _, h3⟩ ((Gon.no ed2).trans k3)
    exact hK w3 T1 q1 (upd q2)
  rw [if_neg c12] at hK
  refine pur (bin_eql _ _ _) (condF (by simpa using c12) ?_)
  by_cases c13 : a.kind = 13
  · rw [if_pos c13] at hK
    refine pur (bin_eql _ _ _) (condT (by simpa using c13) ?_)
    refine draw S hS0 (pur (nil_ptr _) (pur (field_ptr _ _ _) (pur (field_ptr _ _ _) (pur (field_ptr _ _ _) (pur (nil_ptr _) (pur (field_ptr _ _ _) (pur (field_ptr _ _ _) (pur (field_ptr _ _ _) (?_)))))))))
    refine heldC (v := ptrE g) (fun w' hh => hh.1.cell 0) (heldC (v := encE a.path) (fun w' hh => hh.2.cell 1) (heldC (v := .int .i64 a.n) (fun w' hh => hh.2.cell 4) (heldC (v := ptrE h) (fun w' hh => hh.1.cell 1) (heldC (v := encE a.path) (fun w' hh => hh.2.cell 1) (heldC (v := .int .i64 a.n) (fun w' hh => hh.2.cell 4) (?_))))))
    exact pair_call (Pflip_ hW ha.path ha.n) (Dflip_ hW ha.path ha.n) hne p1d hS fun w' T' q k => hK w' T' q (upd k)
  rw [if_neg c13] at hK
  refine pur (bin_eql _ _ _) (condF (by simpa using c13) ?_)
  by_cases c14 : a.kind = 14
  · rw [if_pos c14] at hK
    refine pur (bin_eql _ _ _) (condT (by simpa using c14) ?_)
    refine join0 (fun w' => ∃ T', Dsk T' dp w' g (st.crash a.keeps a.names) ∧ Gon (Ops dp) w1.drew T1 w' T') ?_ fun J16 hJ16 => ?_
    · rintro w2 ⟨T2, h2, k2⟩
      have s2 := hS T2 w2 k2
      have ed2 := Ext.drew (S := No) w2
      have s2d : S w2.drew := ⟨s2.1.no ed2, s2.2.no ed2⟩
      refine draw S s2d (pur (nil_ptr _) (pur (field_ptr _ _ _) (pur (field_ptr _ _ _) (pur (field_ptr _ _ _) ?_))))
      refine heldC (v := ptrE h) (fun w' hh => hh.1.cell 1) (heldC (v := kv) (fun w' hh => hh.2.cell 6) (heldC (v := nv) (fun w' hh => hh.2.cell 7) ?_))
      have k2d : Gon (Ops dp) w1.drew T1 w2.drew T2 := k2.trans (Gon.no ed2)
      have hr2 := (hr1.keep (M := Nil) (Gon.no ed) fun h => h).keep k2d Ops.ice
      obtain ⟨dv, fv, hd⟩ := p1d.doc.keep k2d Ops.ice (Ops.other hne _)
      refine hd.Crash hW hr2.k.arg hr2.n.arg ha.k.1 ha.c.1 (Nat.le_trans ha.k.2 (by decide)) (Nat.le_trans ha.c.2 (by decide)) fun w3 T3 dv3 fv3 h3 k3 => hJ0 w3 ?_
      obtain ⟨q1, q2⟩ := p1d.both hne h2 k2 ⟨_, _, h3⟩ ((Gon.no ed2).trans k3)
      exact hK w3 T3 q1 (upd q2)
    have hrd := hr1.keep (M := Nil) (Gon.no ed) fun h => h
    have fin : ∀ v1 v2 w', w'.ownsRow w1.drew.heap.size 3 1 v1 a.keeps.length (intC a.keeps) → w'.ownsRow w1.drew.heap.size 3 1 v2 a.names.length (intC a.names) → Ext No w1.drew w' → CallS Tryz.prog 8 #[ptrE g, v1, v2] (fun _ w => J16 w) w' := fun v1 v2 w' o1 o2 e => by
      obtain ⟨md, dm, ad, hx⟩ := p1d.dsk
      have kf : Gon Nil w1.drew T1 w' (ff w1.drew T1) := Gon.ff e
      exact (hx.keep kf (fun h => h) fun _ h => h).Crash hW.wf (by decide) hW.n2 (ArgI.row o1) (ArgI.row o2) ha.k.1 ha.c.1 (Nat.le_trans ha.k.2 (by decide)) (Nat.le_trans ha.c.2 (by decide)) fun w3 T3 h3 k3 => hJ16 w3 ⟨T3, ⟨_, _, _, h3⟩, (kf.mono fun _ h => h.elim).trans k3⟩
    refine draw (fun w' => Ext No w1.drew w') (Ext.refl _ _) (pur (nil_ptr _) (pur (field_ptr _ _ _) (pur (field_ptr _ _ _) (pur (field_ptr _ _ _) ?_))))
    refine heldC (v := ptrE g) (fun w' hh => (p1d.blk.no hh).cell 0) (heldC (v := kv) (fun w' hh => (b1d.no hh).cell 6) (heldC (v := nv) (fun w' hh => (b1d.no hh).cell 7) ?_))
    refine ⟨build0 TI fun w2 b2 e2 z2 => ⟨e2, ?_, ?_⟩, build0 TI fun w2 b2 e2 z2 => ⟨e2, build0 TI fun w3 b3 e3 z3 => ⟨e2.trans e3, ?_⟩⟩⟩
    · refine appI e2 hrd.k.1 ha.k.2 (Blk.own0 b2 (Nat.le_refl _)) (World.ownsRow_nil w2 w1.drew.heap.size 3 1) (fun b hb => by simp [Value.ownBlock] at hb) fun v1 w3 o1 _ _ e3 => ⟨e3, build0 TI fun w4 b4 e4 z4 => ⟨e3.trans e4, ?_⟩⟩
      refine appI (e3.trans e4) hrd.n.1 ha.c.2 (Blk.own0 b4 e3.size) (owns_ext o1 e4 fun _ _ hh => hh) (fun b hb hh => ?_) fun v2 w5 o2 o1' _ e5 => ⟨e5, fin v1 v2 w5 o1' o2 e5⟩
      have h1 : w3.heap.size = b := by simpa [Value.ownBlock] using hh
      have := (o1.lt b hb).2
      omega
    · refine build0 TI fun w3 b3 e3 z3 => ⟨e2.trans e3, ?_⟩
      have oA := owns_ext (Blk.own0 b2 (Nat.le_refl _) (size := 1)) e3 fun _ _ hh => hh
      have oB := Blk.own0 b3 e2.size (size := 1)
      refine appI (e2.trans e3) hrd.k.1 ha.k.2 oA oB (fun b hb hh => ?_) fun v1 w4 o1 oB' hne' e4 => ⟨e4, appI e4 hrd.n.1 ha.c.2 oB' o1 (fun b hb hh => hne' b hh hb) fun v2 w5 o2 o1' _ e5 => ⟨e5, fin v1 v2 w5 o1' o2 e5⟩⟩
      have h1 : w2.heap.size = b := by simpa [Value.ownBlock] using hb
      have h2 : w1.drew.heap.size = b := by simpa [Value.ownBlock] using hh
      omega
    · have oA := owns_ext (Blk.own0 b2 (Nat.le_refl _) (size := 1)) e3 fun _ _ hh => hh
      have oB := Blk.own0 b3 e2.size (size := 1)
      refine appI (e2.trans e3) hrd.k.1 ha.k.2 oB oA (fun b hb hh => ?_) fun v1 w4 o1 oA' hne' e4 => ⟨e4, appI e4 hrd.n.1 ha.c.2 oA' o1 (fun b hb hh => hne' b hh hb) fun v2 w5 o2 o1' _ e5 => ⟨e5, fin v1 v2 w5 o1' o2 e5⟩⟩
      have h1 : w2.heap.size = b := by simpa [Value.ownBlock] using hh
      have h2 : w1.drew.heap.size = b := by simpa [Value.ownBlock] using hb
      omega
  rw [if_neg c14] at hK
  refine pur (bin_eql _ _ _) (condF (by simpa using c14) ?_)
  have fin : st.does a = st := by
    unfold Dk.does
    rw [if_neg c0, if_neg c1, if_neg c2, if_neg (fun h => h34 (.inl h)), if_neg (fun h => h34 (.inr h)), if_neg c5, if_neg c6, if_neg c7, if_neg c8, if_neg c9, if_neg c10, if_neg c11, if_neg c12, if_neg c13, if_neg c14]
  refine pur (bin_eql _ _ _) (condD (fun h15 => ?_) (fun h15 => hJ0 w1 (hK w1 T1 p1 (up (Gon.refl _ _)))))
  exact loadA (At.of_blk b1') rfl (p1.reads hW ha fun w' e => hK w' T1 (p1.no e) (up (Gon.no e)))
end
end Go.Proofs.YthohdinjpkehpaaGreat

namespace Go.Proofs.YthohdinjpkehpaaGreat
open Go SG Go.RowKit
set_option linter.unusedVariables false
set_option maxRecDepth 4000
set_option linter.unusedSimpArgs false

theorem buildPair (w : World) (a b : Option Addr) : (Instr.build 48 [(0, .pointer a), (1, .pointer b)].toArray).run Tryz.prog w = .ok (.agg #[.pointer a, .pointer b]) w := by kernel_rfl
abbrev Acv := Ac × Value × Value × Value
def acF (q : Acv) : List Value := acC q.1 q.2.1 q.2.2.1 q.2.2.2
theorem acF_len (q : Acv) : (acF q).length = 8 := rfl
structure ActsC (T : Tags) (w : World) (v : Value) (l : List Acv) : Prop where
  sl : Sl w v l.length 8 (flat acF l)
  ice : l = [] ∨ ∀ b, v.ownBlock = some b → b < w.heap.size ∧ T b = .ice
  ok : ∀ q ∈ l, AcOk q.1 ∧ AcR T w q.1 q.2.1 q.2.2.1 q.2.2.2
theorem ActsC.keep {M : Tag → Prop} {T T' : Tags} {w w' : World} {v : Value} {l : List Acv} (h : ActsC T w v l) (k : Gon M w T w' T') (hi : ¬ M .ice) : ActsC T' w' v l :=
  h.ice.elim (fun h0 => by subst h0; exact ⟨sl_empty h.sl, .inl rfl, fun q hq => by cases hq⟩) fun h2 => ⟨Sl.ext h.sl k.ext fun b hb hh => by simp only [(h2 b hb).2] at hh; exact hi hh, .inr fun b hb => ⟨Nat.lt_of_lt_of_le (h2 b hb).1 k.ext.size, (k.same b (h2 b hb).1).trans (h2 b hb).2⟩, fun q hq => ⟨(h.ok q hq).1, (h.ok q hq).2.keep k hi⟩⟩
section
variable {T : Tags} {w : World} {K : Value → World → Prop}
theorem cBegins {q : Int} (h0 : ∀ w', Ext No w w' → K (.tuple [.pointer none, .bool true].toArray) w')
    (hK : ∀ w' T' x g h, Pr T' w' 0 1 x g h (Dk.new q) → 0 ≤ q → q ≤ 268435456 → Gon Nil w T w' T' → K (.tuple [ptrE x, .bool true].toArray) w') : CallS Tryz.prog 14 #[.int .i64 q] K w := by
  refine s14_call hm ?_
  unfold s14
  refine cNew (T := T) 0 (fun hbad => ?_) fun w1 T1 g md hq0 hq1 hg hx1 k1 => ?_
  · refine pur (extract_0 _ _) (pur (extract_1 _ _ _) (cRNew (T := T) (d := 1) (fun _ => ?_) fun w2 hno => absurd hbad hno))
    refine pur (extract_0 _ _) (pur (extract_1 _ _ _) (pur (bin_neq _ _ _) (orF (by simp) ?_)))
    refine eq_nil_ptr Tryz.underlying25 (eq_nil_ptr Tryz.underlying46 (pur (bool_neq _ _) (pur (pickF _ _) (condF rfl ?_))))
    exact eq_nil_ptr Tryz.underlying25 (condT rfl (h0 w (Ext.refl _ _)))
  · refine pur (extract_0 _ _) (pur (extract_1 _ _ _) (cRNew (T := T1) (d := 1) (fun hbad => by omega) fun w2 _ hd e2 => ?_))
    refine pur (extract_0 _ _) (pur (extract_1 _ _ _) (pur (bin_neq _ _ _) (orF (by simp) ?_)))
    refine eq_nil_ptr Tryz.underlying25 (eq_nil_ptr Tryz.underlying46 (pur (bool_neq _ _) (pur (pickF _ _) (condF rfl ?_))))
    refine eq_nil_ptr Tryz.underlying25 (condF rfl (runS (buildPair w2 _ _) (box fun w3 b3 e3 z3 => ?_)))
    have b3' : Blk w3 w2.heap.size 48 [ptrE g, ptrE w1.heap.size] := b3
    let T2 : Tags := fun b => if b = w1.heap.size then .own 1 .doc else T1 b
    have s2 := e2.size
    have hd' : Doc T2 1 w2 w1.heap.size (Dk.new q) (.slice none 0 0) (.slice none 0 0) := hd
    have hl2 : w1.heap.size < w2.heap.size := hd'.blk.lt
    have k2 : Gon Nil w1 T1 w2 T2 := ⟨e2.no, fun b hb => if_neg (by omega)⟩
    have k3 : Gon Nil w2 T2 w3 (mark T2 w2.heap.size .ice) := (Gon.no e3).mark (Nat.le_refl _) .ice
    have k13 := k2.trans k3
    refine hK w3 (mark T2 w2.heap.size .ice) w2.heap.size g w1.heap.size ⟨b3', mark_at _ _ _, ⟨_, _, _, hx1.keep k13 (fun h => h) fun _ h => h⟩, ⟨_, _, hd'.keep k3 (fun h => h) fun h => h⟩⟩ hq0 hq1 (k1.trans k13)
set_option maxHeartbeats 2000000 in
theorem cPlayed {q : Int} {av : Value} {l : List Acv} (ha : ActsC T w av l) (hl : l.length ≤ 1099511627776) (h0 : ∀ w', Ext No w w' → K (.tuple [.pointer none, .bool true].toArray) w')
    (hK : ∀ w' T' g st, Dsk T' 0 w' g st → DocW l.length st → Gon (PD 0 1) w T w' T' → K (.tuple [ptrE g, .bool true].toArray) w') : CallS Tryz.prog 7 #[.int .i64 q, av] K w := by
  refine s7_call hm ?_
  unfold s7
  refine cBegins (T := T) (fun w1 e1 => ?_) fun w1 T1 x g h p1 hq0 hq1 k1 => ?_
  · exact pur (extract_0 _ _) (pur (extract_1 _ _ _) (eq_nil_ptr Tryz.underlying40 (condT rfl (h0 w1 e1))))
  refine pur (extract_0 _ _) (pur (extract_1 _ _ _) (eq_nil_ptr Tryz.underlying40 (condF rfl ?_)))
  have ki : Gon (PD 0 1) w T w1 T1 := k1.mono fun _ h => h.elim
  refine join0 (fun w' => ∃ T' st, Pr T' w' 0 1 x g h st ∧ DocW l.length st ∧ Gon (PD 0 1) w T w' T') ?_ fun J0 hJ0 => ?_
  · rintro w2 ⟨T2, st, p2, hW, k2⟩
    exact pur (nil_ptr _) (pur (field_ptr _ _ _) (loadB p2.blk (v := ptrE g) rfl (hK w2 T2 g st p2.dsk hW k2)))
  refine loop1 (σ := Nat) (fun i v w' => v = .int .i64 (i : Int) ∧ i ≤ l.length ∧ ∃ T' st, Pr T' w' 0 1 x g h st ∧ DocW i st ∧ Gon (PD 0 1) w T w' T') (fun i => l.length - i) 0 ⟨rfl, Nat.zero_le _, T1, _, p1, DocW.new 0 (by decide) hq0 hq1, ki⟩ ?_
  rintro i _ w2 ⟨rfl, hi, T2, st, p2, hW, k2⟩ L1 hL1
  have ha2 := ha.keep k2 PD.ice
  refine pur ha2.sl.len (pur (bin_lss _ _ _) (condD (fun hlt => ?_) (fun hge => hJ0 _ ⟨T2, st, p2, hW.mono hi (by omega), k2⟩)))
  have hi' : i < l.length := by omega
  obtain ⟨qa, hqa⟩ := getN (xs := l) (i := i) hi'
  obtain ⟨hok, hr⟩ := ha2.ok qa (List.mem_of_getElem? hqa)
  obtain ⟨ad, a1, a2, a3⟩ := ha2.sl.at_ (i := i) hi'
  rw [flat_at acF acF_len l i qa hqa] at a2
  have a2' : At w2 ad (acC qa.1 qa.2.1 qa.2.2.1 qa.2.2.2) := a2
  refine pur a1 (pur (field_ad _ _) (SG.load (S := No) (a2' 0 (.int .i64 qa.1.kind) rfl) (pur (bin_neq _ _ _) ?_)))
  have step : ∀ w' T' st', Pr T' w' 0 1 x g h st' → DocW (i + 1) st' → Gon (PD 0 1) w T w' T' → PureS (binV .add (.int .i64 (i : Int)) (.int .i64 1)) fun t => L1 t w' := fun w' T' st' p' hW' k' => pur (add64 (c := ((i + 1 : Nat) : Int)) (by omega) (by omega) (by omega)) (hL1 (i + 1) _ _ ⟨rfl, by omega, T', st', p', hW', k'⟩ (by omega))
  by_cases h16 : qa.1.kind = 16
  · exact andF (by simpa using h16) (condF rfl (step w2 T2 st p2 (hW.mono (Nat.le_succ i) (by omega)) k2))
  · refine andT (by simpa using h16) (pur a1 (loadA a2' rfl (p2.Does (by decide) hW hok hr fun w3 T3 p3 k3 => pur (not_b _) (pur (pickT _ _) (condF rfl ?_)))))
    exact step w3 T3 _ p3 (hW.does (by omega) qa.1 hok.n hok.m) (k2.trans k3)
end
end Go.Proofs.YthohdinjpkehpaaGreat

namespace Go.Proofs.YthohdinjpkehpaaGreat
open Go SG Go.RowKit
set_option linter.unusedVariables false
set_option maxRecDepth 4000
set_option linter.unusedSimpArgs false

theorem dir_at {st : Dk} (ho : OrdD st.dirs) {D : Di} (hD : D ∈ st.dirs) : st.dir D.name = some D := by
  obtain ⟨i, hi⟩ := List.getElem?_of_mem hD
  cases h : st.dir D.name with
  | none => exact absurd rfl (Dk.dir_none h D hD)
  | some E =>
    obtain ⟨h1, h2⟩ := Dk.dir_some h
    obtain ⟨j, hj⟩ := List.getElem?_of_mem h1
    have hij := (ho.inj hi hj).2 h2.symm
    subst hij
    rw [hi] at hj; exact hj.symm
def Calm (st : Dk) : Prop := st.fail.from_ < 1 ∧ st.stop.from_ < 1
theorem Calm.v {st : Dk} (h : Calm st) : chgV st = (0, false) := by
  unfold chgV
  rw [cnt_off (.inl h.1), cnt_off (.inl h.2)]; rfl
theorem Calm.d {st : Dk} (h : Calm st) : chgD st = st := by
  unfold chgD
  rw [cnt_off (.inl h.1), cnt_off (.inl h.2)]
theorem openI_nil (b : Bys) : (⟨b, []⟩ : Fi).openI = 0 := by unfold Fi.openI; simp [Fi.open, IntKind.wrap_i64]
def Quiet (st : Dk) : Prop := (∀ D ∈ st.dirs, D.was = []) ∧ ∀ i ∈ (items st.dirs).map (·.2), (st.fi i).openI ≤ 0
theorem crashDirs_quiet {l : List Int} : ∀ {a : List Di} {k : Nat}, (∀ D ∈ a, D.was = []) → crashDirs a l k = a
  | [], _, _ => rfl
  | D :: a, k, h => by
    rw [crashDirs, if_pos (h D (by simp)), crashDirs_quiet fun E hE => h E (by simp [hE])]
theorem crashDirs_was {l : List Int} : ∀ {a : List Di} {k : Nat} {E : Di}, E ∈ crashDirs a l k → E.was = []
  | [], _, _, h => by cases h
  | D :: a, k, E, h => by
    rw [crashDirs] at h
    split at h
    · rename_i h0
      rcases List.mem_cons.1 h with rfl | h
      · exact h0
      · exact crashDirs_was h
    · rcases List.mem_cons.1 h with rfl | h
      · rfl
      · exact crashDirs_was h
theorem fiOf_set {fs : List Fi} {i j : Nat} {f : Fi} : fiOf (fs.set i f) j = if j = i ∧ i < fs.length then f else fiOf fs j := by
  unfold fiOf
  by_cases h : j = i
  · subst h
    by_cases hl : j < fs.length
    · rw [List.getElem?_set_self hl, if_pos ⟨rfl, hl⟩]; rfl
    · rw [if_neg (fun h => hl h.2), List.getElem?_eq_none (by simp; omega), List.getElem?_eq_none (by omega)]
  · rw [if_neg (fun hh => h hh.1), List.getElem?_set_ne (fun hh => h hh.symm)]
theorem step_keep {kl : List Int} {s : List Fi × Nat} {i j : Nat} (h : (fiOf s.1 j).openI ≤ 0) : (fiOf (crashStep kl s i).1 j).openI ≤ 0 := by
  unfold crashStep
  split
  · simp only
    rw [fiOf_set]
    split
    · show (Fi.crash _ _ _).openI ≤ 0
      unfold Fi.crash; rw [openI_nil]; exact Int.le_refl _
    · exact h
  · exact h
theorem step_self {kl : List Int} {s : List Fi × Nat} {i : Nat} : (fiOf (crashStep kl s i).1 i).openI ≤ 0 := by
  unfold crashStep
  split
  · rename_i ho
    simp only
    rw [fiOf_set]
    split
    · show (Fi.crash _ _ _).openI ≤ 0
      unfold Fi.crash; rw [openI_nil]; exact Int.le_refl _
    · rename_i hn
      have hl : ¬ i < s.1.length := fun h => hn ⟨rfl, h⟩
      have : fiOf s.1 i = ⟨[], []⟩ := by unfold fiOf; rw [List.getElem?_eq_none (by omega)]; rfl
      rw [this, openI_nil]; exact Int.le_refl _
  · omega
theorem foldC_keep {kl : List Int} {j : Nat} : ∀ {o : List Nat} {s : List Fi × Nat}, (fiOf s.1 j).openI ≤ 0 → (fiOf (o.foldl (crashStep kl) s).1 j).openI ≤ 0
  | [], _, h => h
  | i :: o, s, h => foldC_keep (o := o) (step_keep h)
theorem foldC_quiet {kl : List Int} : ∀ {o : List Nat} {s : List Fi × Nat} {i : Nat}, i ∈ o → (fiOf (o.foldl (crashStep kl) s).1 i).openI ≤ 0
  | [], _, _, h => by cases h
  | a :: o, s, i, h => by
    rw [List.foldl_cons]
    rcases List.mem_cons.1 h with rfl | h
    · exact foldC_keep step_self
    · exact foldC_quiet h
theorem crash_quiet (st : Dk) (kl cl : List Int) : Quiet (st.crash kl cl) :=
  ⟨fun D hD => crashDirs_was hD, fun i hi => by
    have h1 : i ∈ distinct ((items (crashDirs st.dirs cl 0)).map (·.2)) := (distinct_mem _ i).2 hi
    have h2 := foldC_quiet (kl := kl) (s := (st.files, 0)) h1
    exact h2⟩
def settle1 (D : Di) : Di := ⟨D.name, [], D.now⟩
theorem syncDir_calm {B n : Nat} {st : Dk} (hW : Wf B n st) (hc : Calm st) {D : Di} (hD : D ∈ st.dirs) : st.syncDir D.name = (0, st.setD (settle1 D)) := by
  unfold Dk.syncDir Dk.findD
  rw [if_pos (hW.dnm D hD), dir_at hW.ordD hD]
  simp only
  rw [hc.v, hc.d]
  rfl
end Go.Proofs.YthohdinjpkehpaaGreat

namespace Go.Proofs.YthohdinjpkehpaaGreat
open Go SG Go.RowKit
set_option linter.unusedVariables false
set_option maxRecDepth 4000
set_option linter.unusedSimpArgs false

section
variable {T : Tags} {w : World} {d g n : Nat} {st : Dk} {K : Value → World → Prop}
theorem PCrash (hW : DocW n st) (h : Dsk T d w g st) {kv cv : Value} {kl cl : List Int} (hk : ArgCI T w kv kl) (hc : ArgCI T w cv cl) (hki : ∀ n ∈ kl, I64 n) (hci : ∀ n ∈ cl, I64 n) (hkl : kl.length ≤ 17592186044416) (hcl : cl.length ≤ 17592186044416)
    (hK : ∀ v w' T', Dsk T' d w' g (st.crash kl cl) → Gon (Ops d) w T w' T' → K v w') : CallS Tryz.prog 8 #[ptrE g, kv, cv] K w := by
  obtain ⟨md, dm, ad, hx⟩ := h
  exact hx.Crash hW.wf (by decide) hW.n2 hk.arg hc.arg hki hci (Nat.le_trans hkl (by decide)) (Nat.le_trans hcl (by decide)) fun w' T' h' k => hK _ w' T' ⟨_, _, _, h'⟩ k
theorem PImage (hW : DocW n st) (h : Dsk T d w g st) (hK : ∀ v w' T', ImgF T' w' v st.image → Dsk T' d w' g st → Gon (Ops d) w T w' T' → K v w') : CallS Tryz.prog 9 #[ptrE g] K w := by
  obtain ⟨md, dm, ad, hx⟩ := h
  exact hx.Image hW.wf (by decide) hW.n2 fun v w' hi h' k => hK v w' _ hi.free ⟨_, _, _, h'⟩ k.usd
def stI (st : Dk) (i : Nat) : Dk := { st with dirs := (st.dirs.take i).map settle1 ++ st.dirs.drop i }
set_option maxHeartbeats 2000000 in
theorem cSettles (h : Dsk T d w g st) (hW : DocW n st) (hn : n + 64 ≤ 2199023255552)
    (hK : ∀ w' T' st', Dsk T' d w' g st' → DocW (n + 64) st' → st'.dirs = st.dirs.map settle1 → st'.files = st.files → Gon (Ops d) w T w' T' → K (.bool true) w') : CallS Tryz.prog 13 #[ptrE g] K w := by
  refine s13_call hm ?_
  unfold s13
  obtain ⟨md, dm, ad, hx⟩ := h
  refine hx.Fail fun w1 h1 k1 => h1.Stop fun w2 h2 k2 => ?_
  have i0 : I64 0 := ⟨by decide, by decide⟩
  have hW0 : DocW n ((st.fail_ 0 0).stop_ 0) := (hW.fail_ i0 i0).stop_ i0
  have hcalm : ∀ i, Calm (stI ((st.fail_ 0 0).stop_ 0) i) := fun i => ⟨by show (0 : Int) < 1; decide, by show (0 : Int) < 1; decide⟩
  have h2' : Dx T d w2 g ((st.fail_ 0 0).stop_ 0) md dm ad := h2
  have hd0 : ((st.fail_ 0 0).stop_ 0).dirs = st.dirs := rfl
  have hf0 : ((st.fail_ 0 0).stop_ 0).files = st.files := rfl
  generalize (st.fail_ 0 0).stop_ 0 = st0 at *
  have hdl : st0.dirs.length ≤ 64 := hW0.wf.dlen
  refine h2'.Dirs_ hW0.wf fun v w3 ho3 e3 => ?_
  have h3 : Dsk (ff w2 T) d w3 g st0 := ⟨_, _, _, h2'.ff e3⟩
  have hr3 : FrS (ff w2 T) w3 v st0.dirs.length 1 ((st0.dirs.map (·.name)).map encE) := FrS.row ho3
  have k03 : Gon (Ops d) w T w3 (ff w2 T) := (k1.trans k2).trans (Gon.ff e3)
  refine join0 (fun w' => ∃ T', Dsk T' d w' g (stI st0 st0.dirs.length) ∧ DocW (n + st0.dirs.length) (stI st0 st0.dirs.length) ∧ Gon (Ops d) w T w' T') ?_ fun J0 hJ0 => ?_
  · rintro w4 ⟨T4, h4, hW4, k4⟩
    refine hK w4 T4 _ h4 (hW4.mono (by omega) hn) ?_ hf0 k4
    show (st0.dirs.take st0.dirs.length).map settle1 ++ st0.dirs.drop st0.dirs.length = _
    rw [List.take_length, List.drop_length, List.append_nil, hd0]
  have hz : stI st0 0 = st0 := by unfold stI; simp
  refine loop1 (σ := Nat) (fun i a w' => a = .int .i64 (i : Int) ∧ i ≤ st0.dirs.length ∧ ∃ T', Dsk T' d w' g (stI st0 i) ∧ DocW (n + i) (stI st0 i) ∧ FrS T' w' v st0.dirs.length 1 ((st0.dirs.map (·.name)).map encE) ∧ Gon (Ops d) w T w' T') (fun i => st0.dirs.length - i) 0 ⟨rfl, Nat.zero_le _, _, by rw [hz]; exact h3, by rw [hz]; exact hW0, hr3, k03⟩ ?_
  rintro i _ w4 ⟨rfl, hi, T4, h4, hW4, hr4, k4⟩ L1 hL1
  refine pur hr4.1.len (pur (bin_lss _ _ _) (condD (fun hlt => ?_) (fun hge => ?_)))
  rotate_left
  · have : i = st0.dirs.length := by omega
    subst this
    exact hJ0 _ ⟨T4, h4, hW4, k4⟩
  obtain ⟨D, hD⟩ := getN (xs := st0.dirs) (i := i) (by omega)
  obtain ⟨ad1, q1, q2, q3⟩ := sl_idx1 hr4.1 (i := i) (v := encE D.name) (by simp [hD]) .i64
  have hat : (stI st0 i).dirs[i]? = some D := by
    show ((st0.dirs.take i).map settle1 ++ st0.dirs.drop i)[i]? = some D
    have hl : ((st0.dirs.take i).map settle1).length = i := by simp; omega
    rw [List.getElem?_append_right (by omega), hl, Nat.sub_self, List.getElem?_drop, Nat.add_zero]; exact hD
  have hsd := syncDir_calm hW4.wf (hcalm i) (List.mem_of_getElem? hat)
  have hnx : (stI st0 i).setD (settle1 D) = stI st0 (i + 1) := by
    rw [Dk.setD_at (D' := settle1 D) hW4.wf.ordD hat rfl]
    have h1 := List.getElem?_eq_some_iff.1 hD
    have hl : ((st0.dirs.take i).map settle1).length = i := by simp; omega
    have : (stI st0 i).dirs.set i (settle1 D) = (st0.dirs.take (i + 1)).map settle1 ++ st0.dirs.drop (i + 1) := by
      show ((st0.dirs.take i).map settle1 ++ st0.dirs.drop i).set i (settle1 D) = _
      rw [List.set_append_right _ _ (by omega), hl, Nat.sub_self, List.drop_eq_getElem_cons h1.1, List.set_cons_zero, List.take_add_one, hD]
      simp
    rw [this]; rfl
  refine pur q1 (SG.load (S := No) (q3 _ hr4.1) (PsyncDir hW4 (s := D.name) T4 w4 _ h4 fun w5 T5 h5 k5 => ?_))
  have hW5 := hW4.step (sc_syncDir _ D.name) (hW4.wf.syncDir D.name) (by omega)
  rw [hsd] at h5 hW5 ⊢
  rw [hnx] at h5 hW5
  refine pur (bin_neq _ _ _) (condF (by simp) (pur (add64 (c := ((i + 1 : Nat) : Int)) (by omega) (by omega) (by omega)) (hL1 (i + 1) _ _ ⟨rfl, by omega, T5, h5, hW5, hr4.keep k5 Ops.free, k4.trans k5⟩ (by omega))))
end
theorem Gon.input {M : Tag → Prop} {w w' : World} {T T' : Tags} (k : Gon M w T w' T') (hT : ∀ b, T b = .ice) (hi : ¬ M .ice) : Ext No w w' := k.ext.mono fun b hb _ => (hi (by have h : M (T b) := hb; rwa [hT b] at h)).elim
end Go.Proofs.YthohdinjpkehpaaGreat

namespace Go.Proofs.YthohdinjpkehpaaGreat
open Go SG Go.RowKit
set_option linter.unusedVariables false
set_option maxRecDepth 4000
set_option linter.unusedSimpArgs false

theorem openI_nn {n : Nat} {st : Dk} (hW : DocW n st) (hn : n ≤ 4194304) (i : Nat) : 0 ≤ (st.fi i).openI := by
  obtain ⟨⟨h1, h2, h3⟩, h4⟩ := hW.wf.fi i
  generalize st.fi i = f at *
  have hs : f.open ≤ f.ws.length * 536870912 := by
    unfold Fi.open
    have : ∀ ws : List Wr, (∀ p ∈ ws, p.1 + p.2.length ≤ 536870912) → (ws.map fun p => p.2.length).sum ≤ ws.length * 536870912 := by
      intro ws
      induction ws with
      | nil => intro _; simp
      | cons p r ih =>
        intro h
        have h5 := h p (by simp)
        have h6 := ih fun q hq => h q (by simp [hq])
        simp only [List.map_cons, List.sum_cons, List.length_cons]
        omega
    exact this f.ws h3
  unfold Fi.openI
  rw [wi64 (by omega) (by omega)]; omega
theorem foldC_unch {kl : List Int} {j : Nat} : ∀ {o : List Nat} {s : List Fi × Nat}, (fiOf s.1 j).openI ≤ 0 → fiOf (o.foldl (crashStep kl) s).1 j = fiOf s.1 j
  | [], _, _ => rfl
  | i :: o, s, h => by
    have h1 : fiOf (crashStep kl s i).1 j = fiOf s.1 j := by
      unfold crashStep
      split
      · rename_i ho
        simp only
        rw [fiOf_set, if_neg (fun hh => by rw [← hh.1] at ho; omega)]
      · rfl
    rw [List.foldl_cons, foldC_unch (o := o) (by rw [h1]; exact h), h1]
theorem crash_shows {n : Nat} {s : Dk} (hW : DocW n s) (hn : n ≤ 4194304) (hq : ∀ D ∈ s.dirs, D.was = []) (kl cl : List Int) : (s.crash kl cl).image.length = s.image.length ∧
    ∀ (i : Nat) x y, s.image[i]? = some x → (s.crash kl cl).image[i]? = some y → y.path = x.path ∧ y.first = x.first ∧ y.op = 0 ∧ (x.op = 0 → y.b = x.b) := by
  have hd : (s.crash kl cl).dirs = s.dirs := crashDirs_quiet hq
  have hlen : ∀ st : Dk, st.image.length = (items st.dirs).length := fun st => by unfold Dk.image; rw [List.length_map]
  refine ⟨by rw [hlen, hlen, hd], fun i x y hx hy => ?_⟩
  unfold Dk.image at hx hy
  rw [hd] at hy
  rw [List.getElem?_map] at hx hy
  cases hr : (items s.dirs)[i]? with
  | none => rw [hr] at hx; cases hx
  | some q =>
    rw [hr] at hx hy
    simp only [Option.map_some, Option.some.injEq] at hx hy
    subst hx; subst hy
    have hqm := List.mem_of_getElem? hr
    have hW' := hW.crash kl cl
    have h0 := openI_nn hW' hn q.2
    have h1 := (crash_quiet s kl cl).2 q.2 (by rw [hd]; exact List.mem_map.2 ⟨q, hqm, rfl⟩)
    refine ⟨rfl, ?_, ?_, fun hx0 => ?_⟩
    · show firstP (items (s.crash kl cl).dirs) q.2 = firstP (items s.dirs) q.2
      rw [hd]
    · show ((s.crash kl cl).fi q.2).openI = 0
      omega
    · have hx1 : (s.fi q.2).openI = 0 := hx0
      have hx2 : (fiOf ((s.files, 0) : List Fi × Nat).1 q.2).openI ≤ 0 := by
        have : (fiOf s.files q.2).openI = 0 := hx1
        show (fiOf s.files q.2).openI ≤ 0
        omega
      have h2 := foldC_unch (kl := kl) (o := distinct ((items (crashDirs s.dirs cl 0)).map (·.2))) (s := (s.files, 0)) hx2
      have h3 : (s.crash kl cl).fi q.2 = s.fi q.2 := h2
      show ((s.crash kl cl).fi q.2).now = (s.fi q.2).now
      rw [h3]
set_option maxHeartbeats 8000000 in
theorem diskFast {w0 : World} {q : Int} {av kv cv : Value} {l : List Acv} {kl cl : List Int} (ha : ∀ {w : World}, Ext No w0 w → ActsC (fun _ => .ice) w av l) (hk : SlI w0 kv kl) (hc : SlI w0 cv cl) (hll : l.length ≤ 1048576)
    (hki : ∀ n ∈ kl, I64 n) (hci : ∀ n ∈ cl, I64 n) (hkl : kl.length ≤ 17592186044416) (hcl : cl.length ≤ 17592186044416) :
    CallS Tryz.prog 5 #[.int .i64 q, av, kv, cv] (fun v w' => v = .bool true ∧ Ext No w0 w') w0 := by
  refine s5_call hm ?_
  unfold s5
  refine clives fun w1 e1 => pur (not_b _) (condF rfl ?_)
  have hki1 : ArgCI (fun _ => .ice) w1 kv kl := ArgCI.of (Sl.no hk e1) fun _ => rfl
  have hci1 : ArgCI (fun _ => .ice) w1 cv cl := ArgCI.of (Sl.no hc e1) fun _ => rfl
  refine cPlayed (T := fun _ => .ice) (ha e1) (by omega) (fun w2 e2 => ?_) fun w2 T2 g st h2 hW k2 => ?_
  · exact pur (extract_0 _ _) (pur (extract_1 _ _ _) (eq_nil_ptr Tryz.underlying25 (condT rfl ⟨rfl, e1.trans e2⟩)))
  refine pur (extract_0 _ _) (pur (extract_1 _ _ _) (eq_nil_ptr Tryz.underlying25 (condF rfl ?_)))
  have toPD : ∀ {w w' : World} {T T' : Tags}, Gon (Ops 0) w T w' T' → Gon (PD 0 1) w T w' T' := fun k => k.mono fun _ h => .inl h
  have fin : ∀ {w' : World} {T' : Tags}, Gon (PD 0 1) w1 (fun _ => .ice) w' T' → Ext No w0 w' := fun k => e1.trans (Gon.input k (fun _ => rfl) PD.ice)
  refine cSettles h2 hW (by omega) fun w3 T3 s3 h3 hW3 hd3 hf3 k3 => pur (not_b _) (condF rfl ?_)
  have k13 := k2.trans (toPD k3)
  refine PImage hW3 h3 fun v4 w4 T4 hi4 h4 k4 => ?_
  have k14 := k13.trans (toPD k4)
  refine PCrash hW3 h4 (hki1.keep k14 PD.ice) (hci1.keep k14 PD.ice) hki hci hkl hcl fun _ w5 T5 h5 k5 => ?_
  have k15 := k14.trans (toPD k5)
  have hi5 := hi4.keep k5 Ops.free
  have hW5 := hW3.crash kl cl
  obtain ⟨hlen, hsh⟩ := crash_shows hW3 (by omega) (fun D hD => by
    rw [hd3] at hD
    obtain ⟨E, _, rfl⟩ := List.mem_map.1 hD
    rfl) kl cl
  have hil : (items s3.dirs).length ≤ 65536 := hW3.wf.items_le
  have himl : s3.image.length = (items s3.dirs).length := by unfold Dk.image; rw [List.length_map]
  refine PImage hW5 h5 fun v6 w6 T6 hi6 h6 k6 => ?_
  have k16 := k15.trans (toPD k6)
  have hx6 := hi5.keep k6 Ops.free
  generalize s3.image = lx at *
  generalize (s3.crash kl cl).image = ly at *
  refine pur hx6.len (pur hi6.len (pur (bin_neq _ _ _) (condN (fun hne => absurd (by rw [hlen]) hne) (fun _ => ?_))))
  refine join0 (fun w' => Ext No w6 w') (fun w' e => ⟨rfl, fin (k16.trans (Gon.no e))⟩) fun J0 hJ0 => ?_
  refine loop1 (σ := Nat) (fun i v w' => v = .int .i64 (i : Int) ∧ i ≤ lx.length ∧ Ext No w6 w') (fun i => lx.length - i) 0 ⟨rfl, Nat.zero_le _, Ext.refl _ _⟩ ?_
  rintro i _ w7 ⟨rfl, hi, e7⟩ L1 hL1
  refine pur hx6.len (pur (bin_lss _ _ _) (condD (fun hlt => ?_) (fun hge => hJ0 _ e7)))
  obtain ⟨x, hx⟩ := getN (xs := lx) (i := i) (by omega)
  obtain ⟨y, hy⟩ := getN (xs := ly) (i := i) (by omega)
  obtain ⟨s1, s2, s3', s4⟩ := hsh i x y hx hy
  obtain ⟨ax, bx, x1, x2, x3⟩ := hx6.at_ hx
  obtain ⟨ay, by_, y1, y2, y3⟩ := hi6.at_ hy
  have e1d := e7.trans (Ext.drew w7)
  refine join1 (fun t w' => t = .bool false ∧ w' = w7.drew) ?_ fun J2 hJ2 => ?_
  · rintro _ _ ⟨rfl, rfl⟩
    exact condF rfl (pur (add64 (c := ((i + 1 : Nat) : Int)) (by omega) (by omega) (by omega)) (hL1 (i + 1) _ _ ⟨rfl, by omega, e1d⟩ (by omega)))
  have cx : ∀ {w' : World}, w' = w7.drew → At w' ax [encE x.path, bx, .int .i64 x.op, encE x.first] := fun h => by rw [h]; exact At.no' x2 e1d
  have cy : ∀ {w' : World}, w' = w7.drew → At w' ay [encE y.path, by_, .int .i64 y.op, encE y.first] := fun h => by rw [h]; exact At.no' y2 e1d
  refine draw (fun w' => w' = w7.drew) rfl (pur y1 (pur (field_ad _ _) (pur x1 (pur (field_ad _ _) ?_))))
  refine heldC (v := encE y.path) (fun w' hh => cy hh 0 _ rfl) (heldC (v := encE x.path) (fun w' hh => cx hh 0 _ rfl) (pur (neE _ _) (condN (fun h1 => absurd s1 h1) (fun _ => ?_))))
  refine pur y1 (pur (field_ad _ _) (pur x1 (pur (field_ad _ _) ?_)))
  refine heldC (v := encE y.first) (fun w' hh => cy hh 3 _ rfl) (heldC (v := encE x.first) (fun w' hh => cx hh 3 _ rfl) (pur (neE _ _) (pur (pickF _ _) (condN (fun h1 => absurd s2 h1) (fun _ => ?_)))))
  refine pur y1 (pur (field_ad _ _) (heldC (v := .int .i64 y.op) (fun w' hh => cy hh 2 _ rfl) (pur (bin_neq _ _ _) (pur (pickF _ _) (condN (fun h1 => absurd s3' h1) (fun _ => ?_))))))
  refine pur x1 (pur (field_ad _ _) (heldC (v := .int .i64 x.op) (fun w' hh => cx hh 2 _ rfl) (pur (bin_eql _ _ _) (condD (fun h4 => ?_) (fun h4 => ?_)))))
  · refine pur y1 (pur (field_ad _ _) (pur x1 (pur (field_ad _ _) ?_)))
    refine heldC (v := by_) (fun w' hh => cy hh 1 _ rfl) (heldR (v := encE y.b) (fun w' hh => str_conv (by rw [hh]; exact Sl.no y3 e1d)) ?_)
    refine heldC (v := bx) (fun w' hh => cx hh 1 _ rfl) (heldR (v := encE x.b) (fun w' hh => str_conv (by rw [hh]; exact Sl.no x3 e1d)) (pur (neE _ _) (pur (pickT _ _) (pur (pickF _ _) (hJ2 _ _ ⟨?_, rfl⟩)))))
    rw [s4 h4]; simp
  · exact pur (pickF _ _) (pur (pickF _ _) (hJ2 _ _ ⟨rfl, rfl⟩))
end Go.Proofs.YthohdinjpkehpaaGreat

namespace SG
open Go Go.RowKit Go.ChangeShapes Go.WideShapes Go.Deep
set_option linter.unusedVariables false
set_option linter.unusedSimpArgs false

theorem list_of {α : Type} {Q : Nat → α → Prop} : ∀ (n : Nat), (∀ i, i < n → ∃ a, Q i a) → ∃ l : List α, l.length = n ∧ ∀ i a, l[i]? = some a → Q i a
  | 0, _ => ⟨[], rfl, fun i a h => by simp at h⟩
  | n + 1, h => by
    obtain ⟨l, hl, hQ⟩ := list_of n fun i hi => h i (by omega)
    obtain ⟨a, ha⟩ := h n (by omega)
    refine ⟨l ++ [a], by simp [hl], fun i b hb => ?_⟩
    by_cases hi : i < l.length
    · rw [List.getElem?_append_left hi] at hb
      exact hQ i b hb
    · rw [List.getElem?_append_right (by omega)] at hb
      have h0 : i - l.length = 0 := by
        rcases Nat.eq_zero_or_pos (i - l.length) with h | h
        · exact h
        · rw [List.getElem?_eq_none (by simp; omega)] at hb; cases hb
      rw [h0] at hb
      simp only [List.getElem?_cons_zero, Option.some.injEq] at hb
      subst hb
      have : i = n := by omega
      rw [this]; exact ha
theorem At.flat {α : Type} {f : α → List Value} {size : Nat} (hf : ∀ a, (f a).length = size) {w : World} : ∀ (l : List α) (ad : Addr), (∀ i a, l[i]? = some a → At w (ad.add (i * size)) (f a)) → At w ad (SG.flat f l)
  | [], ad, h => fun i v hv => by simp [SG.flat] at hv
  | x :: l, ad, h => by
    have hrec := At.flat hf l (ad.add size) fun i a ha => by
      have := h (i + 1) a (by simpa using ha)
      rw [Addr.add_add, Nat.add_comm size, ← Nat.succ_mul]
      exact this
    intro i v hv
    have e : SG.flat f (x :: l) = f x ++ SG.flat f l := by simp [SG.flat]
    rw [e] at hv
    by_cases hi : i < (f x).length
    · rw [List.getElem?_append_left hi] at hv
      have := h 0 x rfl i v hv
      simpa [Addr.add_zero'] using this
    · rw [List.getElem?_append_right (by omega), hf] at hv
      have h1 := hrec (i - size) v hv
      rw [Addr.add_add] at h1
      rw [hf] at hi
      rwa [show size + (i - size) = i by omega] at h1

section
variable {H : Type} {P : Program}
end

section
variable {H : Type} {enc : TypeId × Value → H} {P : Program} {w : World} {base : Nat} {spare : Nat → Bool} {held : Bool}
theorem open_struct {e : TypeId} {fs : Array Field} {fuel : Nat} {cs : List Value} {x : DataW H × List MemPlace} (he : P.underlying e = some (.struct fs))
    (hone : oneCellFields P fs = true) (hC : P.cellsOf e = fs.size) (hcl : cs.length = fs.size) (h : DataW.trod enc P w base spare held fuel e cs = some x) :
    ∃ (ys : List (DataW H × List MemPlace)) (n : Nat), x.1 = .agg (ys.map (·.1)) ∧ ys.length = fs.size ∧
        ∀ (j : Nat) (f : Field), fs[j]? = some f → ∃ (v : Value) (y : DataW H × List MemPlace), cs[j]? = some v ∧ ys[j]? = some y ∧ DataW.trod enc P w base spare held n f.type [v] = some y := by
  obtain ⟨ys, n', hn', hy, hlen, hyl, hf⟩ := DataW.trod_struct he h
  refine ⟨ys, n', by rw [hy], hyl, fun j f hj => ?_⟩
  obtain ⟨ho, hk⟩ := hone_of hone j f hj
  have hjl : j < fs.size := (Array.getElem?_eq_some_iff.1 hj).1
  have hv : cs[j]? = some (cs[j]'(by omega)) := List.getElem?_eq_getElem (by omega)
  have h1 := hf j f hj
  rw [ho, hk] at h1
  have hone' : (cs.drop j).take 1 = [cs[j]'(by omega)] := by
    rw [List.drop_eq_getElem_cons (by omega)]
    rfl
  rw [hone'] at h1
  have hys : ys[j]? = some (ys[j]'(by omega)) := List.getElem?_eq_getElem (by omega)
  exact ⟨_, _, hv, hys, h1.trans hys⟩
theorem open_list {α : Type} {f : α → List Value} {size : Nat} (hf : ∀ a, (f a).length = size) {Q : DataW H → α → Prop} {t e : TypeId} {v : Value} {d : DataW H} {p : List MemPlace} {fuel : Nat} (ht : P.underlying t = some (.slice e)) (hC : P.cellsOf e = size)
    (hopen : ∀ (n : Nat) (cs : List Value) (x : DataW H × List MemPlace), DataW.trod enc P w base spare held n e cs = some x → cs.length = size → ∃ a, cs = f a ∧ Q x.1 a)
    (h : DataW.trod enc P w base spare held fuel t [v] = some (d, p)) :
    ∃ l : List α, Sl w v l.length size (flat f l) ∧ ((l = [] ∧ d = .nil) ∨ ∃ elems sp : List (DataW H), d = .slice elems sp ∧ elems.length = l.length ∧ ∀ (i : Nat) (a : α), l[i]? = some a → ∃ x, elems[i]? = some x ∧ Q x a) := by
  rcases open_slice ht h with ⟨hcs, hx⟩ | ⟨a, len, cap, m, n, D, Pl, hcs, hb, hl, hm, hmm, hx, hi⟩
  · simp only [List.cons.injEq, and_true] at hcs
    subst hcs
    exact ⟨[], Sl.nil_ w size, .inl ⟨rfl, by simpa using congrArg Prod.fst hx⟩⟩
  · simp only [List.cons.injEq, and_true] at hcs
    subst hcs
    have hlm : len ≤ m := by rw [hmm]; split <;> omega
    obtain ⟨l, hll, hQ⟩ := list_of (Q := fun i (b : α) => At w (a.add (i * size)) (f b) ∧ Q (D i) b) len fun i hil => by
      obtain ⟨cs', hc, htr⟩ := hi i (by omega)
      rw [hC] at hc
      obtain ⟨_, hcl, hat⟩ := World.cells?_some hc
      obtain ⟨b, rfl, hq⟩ := hopen n cs' _ htr hcl
      refine ⟨b, fun j u hj => ?_, hq⟩
      have hjl : j < size := by rw [← hf b]; exact (List.getElem?_eq_some_iff.1 hj).1
      rw [hat j hjl, hj]
    refine ⟨l, ⟨some a, cap, by rw [hll], flat_length f hf l, by omega, (fun h => by cases h), (fun ad had => ?_)⟩, .inr ⟨_, _, congrArg Prod.fst hx, by simp [hll], fun i b hb => ⟨D i, ?_, (hQ i b hb).2⟩⟩⟩
    · cases had
      exact At.flat hf l _ fun i b hb => (hQ i b hb).1
    · have : i < l.length := (List.getElem?_eq_some_iff.1 hb).1
      simp [List.getElem?_range (show i < len by omega)]
end
end SG

namespace Go.Proofs.YthohdinjpkehpaaGreat
open Go SG Go.ChangeShapes Go.WideShapes Go.ChangeAt Go.RowKit Go.Lib
set_option linter.unusedVariables false
set_option maxRecDepth 4000
set_option linter.unusedSimpArgs false

theorem own : ownKnob Tryz.prog.godebug = none := by kernel_rfl
theorem laidOut : laidOutB Tryz.prog = true := by kernel_rfl
theorem flat_bytes (l : List UInt8) : flat (fun b : UInt8 => [Value.int .u8 (b.toNat : Int)]) l = SG.byteCells l := by
  induction l with
  | nil => rfl
  | cons a l ih => simp only [flat, List.flatMap_cons, SG.byteCells, List.map_cons] at ih ⊢; rw [ih]; rfl
theorem flat_ints (l : List Int) : flat (fun b : Int => [Value.int .i64 b]) l = intC l := by
  induction l with
  | nil => rfl
  | cons a l ih => simp only [flat, List.flatMap_cons, intC, List.map_cons] at ih ⊢; rw [ih]; rfl
section
variable {H : Type} {enc : TypeId × Value → H} {w : World} {base : Nat} {spare : Nat → Bool} {held : Bool}
theorem el_byte (n : Nat) (cs : List Value) (x : DataW H × List MemPlace) (h : DataW.trod enc Tryz.prog w base spare held n 5 cs = some x) : ∃ a : UInt8, cs = [Value.int .u8 (a.toNat : Int)] ∧ True := by
  obtain ⟨b, rfl, _, wb⟩ := DataW.trod_int Tryz.underlying5 h
  have wb' : (0 : Int) ≤ b ∧ b ≤ 255 := by simpa [Lit.wf, IntKind.min, IntKind.max, IntKind.signed, IntKind.bits] using wb
  refine ⟨UInt8.ofNat b.toNat, ?_, trivial⟩
  have : (UInt8.ofNat b.toNat).toNat = b.toNat := by simp; omega
  rw [this, Int.toNat_of_nonneg wb'.1]
theorem el_int (n : Nat) (cs : List Value) (x : DataW H × List MemPlace) (h : DataW.trod enc Tryz.prog w base spare held n 3 cs = some x) : ∃ a : Int, cs = [Value.int .i64 a] ∧ I64 a := by
  obtain ⟨b, rfl, _, wb⟩ := DataW.trod_int Tryz.underlying3 h
  have wb' : (-9223372036854775808 : Int) ≤ b ∧ b ≤ 9223372036854775807 := by simpa [Lit.wf, IntKind.min, IntKind.max, IntKind.signed, IntKind.bits] using wb
  exact ⟨b, rfl, wb'⟩
theorem open_i64 {v : Value} {d : DataW H} {p : List MemPlace} {b0 : Nat} (h : DataW.Trod enc Tryz.prog w base spare held 3 v d p) (hv : Value.okWide Tryz.prog w .any b0 3 v) : ∃ n : Int, v = .int .i64 n ∧ I64 n := by
  obtain ⟨a, rfl, _, _, wa⟩ := open_int Tryz.underlying3 hv h
  have wa' : (-9223372036854775808 : Int) ≤ a ∧ a ≤ 9223372036854775807 := by
    have h1 : IntKind.i64.min = -9223372036854775808 := by decide
    have h2 : IntKind.i64.max = 9223372036854775807 := by decide
    simp only [Lit.wf, Bool.and_eq_true, decide_eq_true_eq, h1, h2] at wa
    exact wa
  exact ⟨a, rfl, wa'⟩
end
end Go.Proofs.YthohdinjpkehpaaGreat

namespace Go.Proofs.YthohdinjpkehpaaGreat
open Go SG Go.ChangeShapes Go.WideShapes Go.ChangeAt Go.RowKit Go.Lib
set_option linter.unusedVariables false
set_option maxRecDepth 4000
set_option linter.unusedSimpArgs false

section
variable {H : Type} {enc : TypeId × Value → H} {w : World} {base : Nat} {spare : Nat → Bool} {held : Bool}
def AcIn (w : World) (q : Acv) : Prop := AcOk q.1 ∧ SlB w q.2.1 q.1.b ∧ SlI w q.2.2.1 q.1.keeps ∧ SlI w q.2.2.2 q.1.names
theorem slice_one {t e : TypeId} {fuel : Nat} {v : Value} {y : DataW H × List MemPlace} (ht : Tryz.prog.underlying t = some (.slice e)) (h : DataW.trod enc Tryz.prog w base spare held fuel t [v] = some y) : ∃ a n c, v = .slice a n c := by
  rcases Go.Deep.open_slice ht h with ⟨hcs, hx⟩ | ⟨a, len, cap, m, n, D, Pl, hcs, _⟩
  · simp only [List.cons.injEq, and_true] at hcs
    exact ⟨_, _, _, hcs⟩
  · simp only [List.cons.injEq, and_true] at hcs
    exact ⟨_, _, _, hcs⟩
end
end Go.Proofs.YthohdinjpkehpaaGreat

namespace Go.Proofs.YthohdinjpkehpaaGreat
open Go
theorem bulk_one {H : Type} (d : DataW H) : 1 ≤ Rows.uptoBulk d := by
  cases d with
  | lit l => cases l <;> simp [Rows.uptoBulk]
  | nil => simp [Rows.uptoBulk]
  | ptr d => simp [Rows.uptoBulk]
  | slice elems spare => simp [Rows.uptoBulk]
  | agg parts => simp [Rows.uptoBulk]
  | iface t d => simp [Rows.uptoBulk]
  | map entries => simp [Rows.uptoBulk]
  | held h => simp [Rows.uptoBulk]
theorem bulk_part {H : Type} {d : DataW H} {l : List (DataW H)} (h : d ∈ l) : Rows.uptoBulk d ≤ Rows.uptoBulkAll l := by
  induction l with
  | nil => cases h
  | cons x r ih =>
    simp only [Rows.uptoBulkAll]
    rcases List.mem_cons.1 h with rfl | e
    · omega
    · have := ih e; omega
theorem bulk_len {H : Type} (l : List (DataW H)) : l.length ≤ Rows.uptoBulkAll l := by
  induction l with
  | nil => simp [Rows.uptoBulkAll]
  | cons x r ih => have := bulk_one x; simp only [Rows.uptoBulkAll, List.length_cons]; omega
theorem bulk_slice {H : Type} (elems spare : List (DataW H)) : Rows.uptoBulkAll elems + 1 ≤ Rows.uptoBulk (.slice elems spare) := by
  simp only [Rows.uptoBulk]
  omega
theorem bulk_bound {H : Type} {l : List (DataW H)} (hk : Rows.uptoSmall H l = true) {d : DataW H} (h : d ∈ l) : Rows.uptoBulk d ≤ 1048576 := by
  have : Rows.uptoBulkAll l ≤ 1048576 := by simpa [Rows.uptoSmall] using hk
  exact Nat.le_trans (bulk_part h) this
theorem bulk_agg {H : Type} {d : DataW H} {l : List (DataW H)} (h : d ∈ l) : Rows.uptoBulk d ≤ Rows.uptoBulk (.agg l) := by
  have := bulk_part h
  simp only [Rows.uptoBulk]; omega
end Go.Proofs.YthohdinjpkehpaaGreat

namespace Go.Proofs.YthohdinjpkehpaaGreat
open Go SG Go.ChangeShapes Go.WideShapes Go.ChangeAt Go.RowKit Go.Lib
set_option linter.unusedVariables false
set_option maxRecDepth 4000
set_option linter.unusedSimpArgs false

section
variable {H : Type} {enc : TypeId × Value → H} {w : World} {base : Nat} {spare : Nat → Bool} {held : Bool}
theorem few_bytes {v : Value} {d : DataW H} {p : List MemPlace} (h : DataW.Trod enc Tryz.prog w base spare held 34 v d p) (hone : ∃ a n c, v = .slice a n c) (hw : Rows.uptoBulk d ≤ 1048576) :
    ∃ l : Bys, SlB w v l ∧ True ∧ l.length ≤ 140737488351232 := by
  obtain ⟨fuel, h⟩ := h
  obtain ⟨a, n, c, rfl⟩ := hone
  obtain ⟨l, hs, hc⟩ := open_list (f := fun b : UInt8 => [Value.int .u8 (b.toNat : Int)]) (fun _ => rfl) Tryz.underlying34 (by kernel_rfl) (Q := fun _ _ => True) (fun n cs x h _ => el_byte n cs x h) h
  rw [flat_bytes] at hs
  rcases hc with ⟨rfl, _⟩ | ⟨elems, sp, rfl, hel, _⟩
  · exact ⟨[], hs, trivial, by simp⟩
  · have h1 := bulk_slice elems sp
    have h2 := bulk_len elems
    exact ⟨l, hs, trivial, by omega⟩
theorem few_ints {v : Value} {d : DataW H} {p : List MemPlace} (h : DataW.Trod enc Tryz.prog w base spare held 23 v d p) (hone : ∃ a n c, v = .slice a n c) (hw : Rows.uptoBulk d ≤ 1048576) :
    ∃ l : List Int, SlI w v l ∧ (∀ n ∈ l, I64 n) ∧ l.length ≤ 17592186044416 := by
  obtain ⟨fuel, h⟩ := h
  obtain ⟨a, n, c, rfl⟩ := hone
  obtain ⟨l, hs, hc⟩ := open_list (f := fun b : Int => [Value.int .i64 b]) (fun _ => rfl) Tryz.underlying23 (by kernel_rfl) (Q := fun _ a => I64 a) (fun n cs x h _ => el_int n cs x h) h
  rw [flat_ints] at hs
  rcases hc with ⟨rfl, _⟩ | ⟨elems, sp, rfl, hel, hQ⟩
  · exact ⟨[], hs, (fun n hn => by cases hn), by simp⟩
  · have h1 := bulk_slice elems sp
    have h2 := bulk_len elems
    refine ⟨l, hs, fun n hn => ?_, by omega⟩
    obtain ⟨i, hi⟩ := List.getElem?_of_mem hn
    obtain ⟨x, _, hq⟩ := hQ i n hi
    exact hq
set_option maxHeartbeats 2000000 in
theorem open_act2 (n : Nat) (cs : List Value) (x : DataW H × List MemPlace) (h : DataW.trod enc Tryz.prog w base spare held n 45 cs = some x) (hl : cs.length = 8) : ∃ a : Acv, cs = acF a ∧ ((Rows.uptoBulk x.1 ≤ 1048576) → AcIn w a) := by
  obtain ⟨ys, n', hx, hyl, hf⟩ := open_struct Tryz.underlying45 (by kernel_rfl) (by kernel_rfl) hl h
  obtain ⟨v0, y0, c0, z0, t0⟩ := hf 0 _ rfl
  obtain ⟨v1, y1, c1, z1, t1⟩ := hf 1 _ rfl
  obtain ⟨v2, y2, c2, z2, t2⟩ := hf 2 _ rfl
  obtain ⟨v3, y3, c3, z3, t3⟩ := hf 3 _ rfl
  obtain ⟨v4, y4, c4, z4, t4⟩ := hf 4 _ rfl
  obtain ⟨v5, y5, c5, z5, t5⟩ := hf 5 _ rfl
  obtain ⟨v6, y6, c6, z6, t6⟩ := hf 6 _ rfl
  obtain ⟨v7, y7, c7, z7, t7⟩ := hf 7 _ rfl
  obtain ⟨k, h0, _, _⟩ := DataW.trod_int Tryz.underlying3 t0
  obtain ⟨p, h1, rfl, lp⟩ := DataW.trod_string Tryz.underlying9 t1
  obtain ⟨t, h2, rfl, lt⟩ := DataW.trod_string Tryz.underlying9 t2
  obtain ⟨a4, h4, i4⟩ := el_int _ _ _ t4
  obtain ⟨a5, h5, i5⟩ := el_int _ _ _ t5
  obtain ⟨a3, n3, m3, rfl⟩ := slice_one Tryz.underlying34 t3
  obtain ⟨a6, n6, m6, rfl⟩ := slice_one Tryz.underlying23 t6
  obtain ⟨a7, n7, m7, rfl⟩ := slice_one Tryz.underlying23 t7
  simp only [List.cons.injEq, and_true] at h0 h1 h2 h4 h5
  subst h0 h1 h2 h4 h5
  match cs, hl, ys, hyl with
  | [d0, d1, d2, d3, d4, d5, d6, d7], _, [e0, e1, e2, e3, e4, e5, e6, e7], _ =>
    simp only [List.getElem?_cons_zero, List.getElem?_cons_succ, Option.some.injEq] at c0 c1 c2 c3 c4 c5 c6 c7 z0 z1 z2 z3 z4 z5 z6 z7
    subst c0 c1 c2 c3 c4 c5 c6 c7 z0 z1 z2 z3 z4 z5 z6 z7
    by_cases hw : Rows.uptoBulk x.1 ≤ 1048576
    · have w3 : Rows.uptoBulk e3.1 ≤ 1048576 := Nat.le_trans (by rw [hx]; exact bulk_agg (by simp)) hw
      have w6 : Rows.uptoBulk e6.1 ≤ 1048576 := Nat.le_trans (by rw [hx]; exact bulk_agg (by simp)) hw
      have w7 : Rows.uptoBulk e7.1 ≤ 1048576 := Nat.le_trans (by rw [hx]; exact bulk_agg (by simp)) hw
      obtain ⟨b, s3, _, l3⟩ := few_bytes (d := e3.1) (p := e3.2) ⟨n', t3⟩ ⟨_, _, _, rfl⟩ w3
      obtain ⟨ks, s6, k6, l6⟩ := few_ints (d := e6.1) (p := e6.2) ⟨n', t6⟩ ⟨_, _, _, rfl⟩ w6
      obtain ⟨ns, s7, k7, l7⟩ := few_ints (d := e7.1) (p := e7.2) ⟨n', t7⟩ ⟨_, _, _, rfl⟩ w7
      have q1 : Rows.uptoBulk (DataW.lit (Lit.string p.data.toList) : DataW H) ≤ 1048576 := Nat.le_trans (by rw [hx]; exact bulk_agg (by simp)) hw
      have q2 : Rows.uptoBulk (DataW.lit (Lit.string t.data.toList) : DataW H) ≤ 1048576 := Nat.le_trans (by rw [hx]; exact bulk_agg (by simp)) hw
      simp only [Rows.uptoBulk] at q1 q2
      refine ⟨(⟨k, p.data.toList, t.data.toList, b, a4, a5, ks, ns⟩, _, _, _), ?_, fun _ => ⟨⟨by show p.data.toList.length ≤ _; omega, by show t.data.toList.length ≤ _; omega, l3, i4, i5, ⟨k6, l6⟩, ⟨k7, l7⟩⟩, s3, s6, s7⟩⟩
      unfold acF acC
      rw [← encE_of, ← encE_of]
    · refine ⟨(⟨k, p.data.toList, t.data.toList, [], a4, a5, [], []⟩, .slice a3 n3 m3, .slice a6 n6 m6, .slice a7 n7 m7), ?_, fun hh => absurd hh hw⟩
      unfold acF acC
      rw [← encE_of, ← encE_of]
theorem few_acts {v : Value} {d : DataW H} {p : List MemPlace} (h : DataW.Trod enc Tryz.prog w base spare held 22 v d p) (hone : ∃ a n c, v = .slice a n c) (hw : Rows.uptoBulk d ≤ 1048576) :
    ∃ l : List Acv, Sl w v l.length 8 (flat acF l) ∧ (∀ q ∈ l, AcIn w q) ∧ l.length ≤ 1048576 := by
  obtain ⟨fuel, h⟩ := h
  obtain ⟨a, n, c, rfl⟩ := hone
  obtain ⟨l, hs, hc⟩ := open_list acF_len Tryz.underlying22 (by kernel_rfl) (Q := fun d a => (Rows.uptoBulk d ≤ 1048576) → AcIn w a) (fun n cs x h hl => open_act2 n cs x h hl) h
  rcases hc with ⟨rfl, _⟩ | ⟨elems, sp, rfl, hel, hQ⟩
  · exact ⟨[], hs, (fun r hr => by cases hr), by simp⟩
  · have h1 := bulk_slice elems sp
    have h2 := bulk_len elems
    refine ⟨l, hs, fun q hq => ?_, by omega⟩
    obtain ⟨i, hi⟩ := List.getElem?_of_mem hq
    obtain ⟨x, hx, hh⟩ := hQ i q hi
    have h3 := bulk_part (List.mem_of_getElem? hx)
    exact hh (by omega)
end
theorem fastIn {w0 : World} {q : Int} {av kv cv : Value} {l : List Acv} {kl cl : List Int} (ha : Sl w0 av l.length 8 (flat acF l)) (hk : SlI w0 kv kl) (hc : SlI w0 cv cl) (_ : I64 q) (hai : ∀ q ∈ l, AcIn w0 q)
    (hki : ∀ n ∈ kl, I64 n) (hci : ∀ n ∈ cl, I64 n) (hll : l.length ≤ 1048576) (hkl : kl.length ≤ 17592186044416) (hcl : cl.length ≤ 17592186044416) :
    CallS Tryz.prog 5 #[.int .i64 q, av, kv, cv] (fun v w' => v = .bool true ∧ Ext No w0 w') w0 :=
  diskFast (fun {w} e => ⟨Sl.no ha e, (Classical.em (l = [])).imp id fun hn b hb => ⟨sl_lt (Sl.no ha e) (fun h0 => hn (by cases l; rfl; cases h0)) hb, rfl⟩, fun q hq => by
    obtain ⟨h1, h2, h3, h4⟩ := hai q hq
    exact ⟨h1, ArgC.of (Sl.no h2 e) fun _ => rfl, ArgCI.of (Sl.no h3 e) fun _ => rfl, ArgCI.of (Sl.no h4 e) fun _ => rfl⟩⟩) hk hc hll hki hci hkl hcl
end Go.Proofs.YthohdinjpkehpaaGreat

namespace Go.Proofs.YthohdinjpkehpaaGreat
open Go SG Go.ChangeShapes Go.WideShapes Go.ChangeAt Go.RowKit Go.Lib
set_option linter.unusedVariables false
set_option linter.unusedSimpArgs false

set_option maxRecDepth 100000 in
theorem diskFastUptoLifted (os : Os) (started : os.Started) (H : Type) (enc : TypeId × Value → H) (F : Stop.Interp) :
    ReturnsInHanded {} Tryz.checked os 5 .any ((Rows.OpenSpec.upto Rows.diskFastSpec).pre6 enc Tryz.prog Tryz.f5 Rows.diskFastUptoRow.domain false) (((Rows.OpenSpec.upto Rows.diskFastSpec).at F).post enc Tryz.prog Tryz.f5 false true false false) := by
  refine returnsInHanded_of_cond (C := Tryz.checked) (s := Rows.OpenSpec.upto Rows.diskFastSpec) (k := Rows.uptoSmall) rfl own started (by kernel_rfl) Tryz.func5
    (OpenSpec.witness (enc := enc) (C := Tryz.checked) (s := Rows.OpenSpec.upto Rows.diskFastSpec) (k := Rows.uptoSmall) rfl false ⟨#[], #[.int .i64 0, .slice none 0 0, .slice none 0 0, .slice none 0 0], []⟩ 8 (by kernel_rfl) (by kernel_rfl) (by kernel_rfl)
      (x := ([.lit (.int .i64 0), .nil, .nil, .nil], [], [])) (by kernel_rfl) rfl (by kernel_rfl)) ?_
  intro W base args ds gs before hval0 hW _ hk _
  have hval : ∀ (j : Nat) t v, Tryz.f5.params[j]? = some t → args[j]? = some v → Value.okWide Tryz.prog W .any base t v := hval0
  have hW' := hW
  obtain ⟨p, q, hA0, hV, rfl, hfz, hnd⟩ := hW
  have hA : DataW.TrodAll enc Tryz.prog W 0 (fun _ => true) true Tryz.f5.params.toList args.toList ds p := hA0
  rw [Tryz.params5] at hA hval
  obtain ⟨v0, vs0, d0, ds0, p0, q0, hargs, rfl, rfl, h0, r0⟩ := trodAll_cons hA
  obtain ⟨v1, vs1, d1, ds1, p1, q1, rfl, rfl, rfl, h1, r1⟩ := trodAll_cons r0
  obtain ⟨v2, vs2, d2, ds2, p2, q2, rfl, rfl, rfl, h2, r2⟩ := trodAll_cons r1
  obtain ⟨v3, vs3, d3, ds3, p3, q3, rfl, rfl, rfl, h3, r3⟩ := trodAll_cons r2
  obtain ⟨rfl, rfl, rfl⟩ := trodAll_nil r3
  obtain rfl : args = #[v0, v1, v2, v3] := by cases args; simp_all
  obtain ⟨rfl, rfl⟩ := trodVars_none hV
  have lt0 : ∀ x ∈ p0, x.block < W.heap.size := by obtain ⟨m, hm⟩ := h0; exact DataW.trod_lt m _ _ _ hm
  have lt1 : ∀ x ∈ p1, x.block < W.heap.size := by obtain ⟨m, hm⟩ := h1; exact DataW.trod_lt m _ _ _ hm
  have lt2 : ∀ x ∈ p2, x.block < W.heap.size := by obtain ⟨m, hm⟩ := h2; exact DataW.trod_lt m _ _ _ hm
  have lt3 : ∀ x ∈ p3, x.block < W.heap.size := by obtain ⟨m, hm⟩ := h3; exact DataW.trod_lt m _ _ _ hm
  obtain ⟨a0, rfl, k0⟩ := open_i64 h0 (hval 0 3 v0 rfl rfl)
  obtain ⟨rs1, s1, k1, l1⟩ := few_acts h1 (okWide_slice Tryz.underlying22 (hval 1 22 v1 rfl rfl)) (bulk_bound hk (by simp))
  obtain ⟨rs2, s2, k2, l2⟩ := few_ints h2 (okWide_slice Tryz.underlying23 (hval 2 23 v2 rfl rfl)) (bulk_bound hk (by simp))
  obtain ⟨rs3, s3, k3, l3⟩ := few_ints h3 (okWide_slice Tryz.underlying23 (hval 3 23 v3 rfl rfl)) (bulk_bound hk (by simp))
  clear hA0 hval0
  refine (fastIn s1 s2 s3 k0 k1 k2 k3 l1 l2 l3).mono fun e W' he => ?_
  cases e with
  | returned v =>
    obtain ⟨rfl, ext⟩ := he
    have bel : Below W.heap.size W W' := ext.below (Nat.le_refl _) fun b hb => hb.elim
    exact ⟨_, rfl, _, _, _, [], _, [], hW', trodAll_mk1 (shut_bool Tryz.underlying4 _), (trodAll_cons_mk (Below.trod laidOut (by kernel_rfl) (of_decide_eq_true (by kernel_rfl)) h0 bel lt0) (trodAll_cons_mk (Below.trod laidOut (by kernel_rfl) (of_decide_eq_true (by kernel_rfl)) h1 bel lt1) (trodAll_cons_mk (Below.trod laidOut (by kernel_rfl) (of_decide_eq_true (by kernel_rfl)) h2 bel lt2) (trodAll_cons_mk (Below.trod laidOut (by kernel_rfl) (of_decide_eq_true (by kernel_rfl)) h3 bel lt3) trodAll_mk0)))), rfl, bel.frame _, fun h => by cases h⟩
  | _ => exact he.elim
theorem diskFastUptoHolds : Rows.DiskFastUptoSaid :=
  OpenClaim.holds_of_cond 5 Tryz.f5 rfl rfl rfl rfl rfl rfl rfl ⟨rfl, rfl, rfl, rfl, rfl⟩ rfl rfl rfl rfl rfl (by kernel_rfl) Tryz.func5 (by kernel_rfl)
    (of_decide_eq_true (by kernel_rfl)) (by unfold Func.isWrapper; first | (rw [if_pos (by decide +kernel)]; kernel_rfl) | (rw [if_neg (by decide +kernel)]; exact ⟨rfl, rfl⟩))
    (fun os started H enc _ F => diskFastUptoLifted os started H enc F)
end Go.Proofs.YthohdinjpkehpaaGreat

