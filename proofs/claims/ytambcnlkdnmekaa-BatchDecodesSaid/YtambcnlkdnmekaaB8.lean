/- Batches: a batch with its footprint; the laws of parts and of going back, walked. -/
import Derived.Test.YtambcnlkdnmekaaB7
namespace Go.Proofs.Ytambcnlkdnmekaa
open Go SG Go.RowKit Go.Lib
set_option linter.unusedVariables false
set_option maxRecDepth 4000
set_option linter.unusedSimpArgs false

set_option maxHeartbeats 400000 in
/-- the reference's Size -/
theorem c11 (r : Rec) (hr : r.Ok) {K : Value → World → Prop} {w : World} (hK : ∀ w', Ext No w w' → K (.int .i64 ((encRec r).length : Int)) w') : CallS Try.prog 11 #[r.agg] K w := by
  have hf := hr.fam
  have hk := hr.key
  have hv := hr.val
  have v1 := varint0 r.fam (by omega)
  have v2 := varint0 r.key.size (by omega)
  have v3 := varint0 r.val.size (by omega)
  refine s11_call hm ?_
  unfold s11
  refine box fun w1 b1 e1 z1 => ?_
  have b : Blk w1 w.heap.size 31 r.cells := b1
  refine draw (fun w' => Blk w' w.heap.size 31 r.cells) b ?_
  refine pur (field_ptr _ _ _) (pur (field_ptr _ _ _) (pur (field_ptr _ _ _) ?_))
  refine heldC (v := .int .u32 (r.fam : Int)) (fun w' h => h.cell 0) (pur (conv64u (by omega) (by omega)) ?_)
  refine heldC (v := .string r.key) (fun w' h => h.cell 2) (pur (len_str _) (pur (conv64u (by omega) (by omega)) ?_))
  refine heldC (v := .string r.key) (fun w' h => h.cell 2) (pur (len_str _) ?_)
  refine c28 r.fam (by omega) fun va w2 ho2 e2' => ?_
  have e2 : Ext No w1 w2 := (Ext.drew (S := No) w1).trans e2'
  refine ⟨b.no e2, pur (Sl.own ho2).len (pur (add64 rfl (by omega) (by omega)) ?_)⟩
  refine c28 r.key.size (by omega) fun vb w3 ho3 e3 => ?_
  have b3 := b.no (e2.trans e3)
  refine ⟨b3, pur (Sl.own ho3).len (pur (add64 rfl (by omega) (by omega)) (pur (add64 rfl (by omega) (by omega)) ?_))⟩
  refine join1 (fun a w' => a = .int .i64 ((encRec r).length : Int) ∧ Ext No w w') (fun a w' ⟨h, e⟩ => by rw [h]; exact hK w' e) fun J hJ => ?_
  have e13 := e1.trans (e2.trans e3)
  refine pur (field_ptr _ _ _) (loadB b3 (v := .int .i64 r.kind) rfl (pur (bin_neq _ _ _) (condN (fun h0 => ?_) (fun h0 => ?_))))
  · refine draw (fun w' => Blk w' w.heap.size 31 r.cells) b3 ?_
    refine pur (field_ptr _ _ _) (pur (field_ptr _ _ _) ?_)
    refine heldC (v := .string r.val) (fun w' h => h.cell 3) (pur (len_str _) (pur (conv64u (by omega) (by omega)) ?_))
    refine heldC (v := .string r.val) (fun w' h => h.cell 3) (pur (len_str _) ?_)
    refine c28 r.val.size (by omega) fun vc w4 ho4 e4 => ?_
    refine ⟨b3.no ((Ext.drew w3).trans e4), pur (Sl.own ho4).len (pur (add64 rfl (by omega) (by omega)) (pur (add64 rfl (by omega) (by omega)) (hJ _ _ ⟨?_, e13.trans ((Ext.drew w3).trans e4)⟩)))⟩
    congr 1
    simp only [encRec, if_neg h0, List.length_append, List.length_cons, size_data]
    omega
  · refine hJ _ _ ⟨?_, e13⟩
    congr 1
    simp only [encRec, if_pos h0, List.length_append, List.length_cons, size_data, List.length_nil]
    omega

/-! ### a batch with its footprint -/
def BatchF (w : World) (g : Nat) (recs : List Rec) (marks : List Nat) (F : Nat → Prop) : Prop := ∃ lv mv sz, BatchIs w g lv mv recs sz marks ∧ Foot g lv mv = F
namespace BatchF
variable {w w' : World} {g g' : Nat} {recs recs' rs : List Rec} {marks marks' : List Nat} {F F' S : Nat → Prop} {K : Value → World → Prop}
theorem lt (h : BatchF w g recs marks F) {b : Nat} (hb : F b) : b < w.heap.size := by obtain ⟨lv, mv, sz, h, rfl⟩ := h; exact h.at_.lt hb
theorem ext (h : BatchF w g recs marks F) (e : Ext S w w') (hn : ∀ b, F b → ¬ S b) : BatchF w' g recs marks F := by obtain ⟨lv, mv, sz, h, rfl⟩ := h; exact ⟨lv, mv, sz, h.ext e hn, rfl⟩
theorem no (h : BatchF w g recs marks F) (e : Ext No w w') : BatchF w' g recs marks F := h.ext e fun _ _ hh => hh
theorem len (h : BatchF w g recs marks F) : recs.length ≤ 4096 := by obtain ⟨lv, mv, sz, h, rfl⟩ := h; exact h.len
theorem good (h : BatchF w g recs marks F) : Good recs := by obtain ⟨lv, mv, sz, h, rfl⟩ := h; exact h.good
theorem plain (h : BatchF w g recs marks F) : ∀ r ∈ recs, plain r = r := by obtain ⟨lv, mv, sz, h, rfl⟩ := h; exact h.plain
theorem new (hK : ∀ w', BatchF w' w.heap.size [] [] (At1 w.heap.size) → Ext No w w' → w'.heap.size = w.heap.size + 1 → K (.pointer (some ⟨w.heap.size, 0, none⟩)) w') :
    RunS Try.prog (Instr.build 26 [].toArray) (fun t w => BoxS 26 t K w) w :=
  new26 fun w1 b1 e1 z1 => hK w1 ⟨_, _, _, BatchIs.new b1, by funext b; simp [Foot, At1, Value.ownBlock]⟩ e1 z1
theorem add {r : Rec} (h : BatchF w g recs marks F) (hr : r.Ok)
    (hK : ∀ w' F', BatchF w' g (addAll recs [r]).2 marks F' → Ext F w w' → (∀ b, F' b → F b ∨ w.heap.size ≤ b) → K (.int .i64 (addAll recs [r]).1) w') :
    CallS Try.prog 8 #[.pointer (some ⟨g, 0, none⟩), r.agg] K w := by
  obtain ⟨lv, mv, sz, h, rfl⟩ := h
  refine c8 h hr fun w' lv' sz' h1 h2 h3 => hK w' _ ⟨_, _, _, h1, rfl⟩ h2 fun b hb => ?_
  rcases hb with hb | hb | hb
  · exact .inl (.inl hb)
  · exact (h3 b hb).imp (fun h => .inr (.inl h)) id
  · exact .inl (.inr (.inr hb))
theorem append (h : BatchF w g recs marks F) (h' : BatchF w g' recs' marks' F')
    (hK : ∀ w' F1, BatchF w' g (addAll recs recs').2 marks F1 → Ext F w w' → (∀ b, F1 b → F b ∨ w.heap.size ≤ b) → K (.int .i64 (addAll recs recs').1) w') :
    CallS Try.prog 12 #[.pointer (some ⟨g, 0, none⟩), .pointer (some ⟨g', 0, none⟩)] K w := by
  obtain ⟨lv, mv, sz, h, rfl⟩ := h
  obtain ⟨lv', mv', sz', h', rfl⟩ := h'
  refine c12 h h' fun w' lv1 sz1 h1 h2 h3 => hK w' _ ⟨_, _, _, h1, rfl⟩ h2 fun b hb => ?_
  rcases hb with hb | hb | hb
  · exact .inl (.inl hb)
  · exact (h3 b hb).imp (fun h => .inr (.inl h)) id
  · exact .inl (.inr (.inr hb))
theorem records (h : BatchF w g recs marks F) (hK : ∀ v w', Ext No w w' → Sl w' v recs.length 4 (flat Rec.cells recs) → (∀ b, v.ownBlock = some b → w.heap.size ≤ b ∧ b < w'.heap.size) → K v w') :
    CallS Try.prog 9 #[.pointer (some ⟨g, 0, none⟩)] K w := by
  obtain ⟨lv, mv, sz, h, rfl⟩ := h
  exact c9 h hK
theorem size (h : BatchF w g recs marks F) (hK : K (.int .i64 (Sizes recs)) w) : CallS Try.prog 10 #[.pointer (some ⟨g, 0, none⟩)] K w := by
  obtain ⟨lv, mv, sz, h, rfl⟩ := h
  exact c10 h hK
theorem save (h : BatchF w g recs marks F) (hml : marks.length ≤ 8796093022208) (hK : ∀ w' F', BatchF w' g recs (marks ++ [recs.length]) F' → Ext F w w' → (∀ b, F' b → F b ∨ w.heap.size ≤ b) → K undef w') :
    CallS Try.prog 15 #[.pointer (some ⟨g, 0, none⟩)] K w := by
  obtain ⟨lv, mv, sz, h, rfl⟩ := h
  refine c15 h hml fun w' mv' h1 h2 h3 => hK w' _ ⟨_, _, _, h1, rfl⟩ h2 fun b hb => ?_
  rcases hb with hb | hb | hb
  · exact .inl (.inl hb)
  · exact .inl (.inr (.inl hb))
  · exact (h3 b hb).imp (fun h => .inr (.inr h)) id
theorem back (h : BatchF w g recs marks F) (hml : marks.length ≤ 8796093022208) (hmk : MarksOk recs marks) (h0 : marks = [] → K (.int .i64 6) w)
    (hK : ∀ l m w' F', marks = l ++ [m] → BatchF w' g (recs.take m) l F' → Ext F w w' → (∀ b, F' b → F b) → K (.int .i64 0) w') : CallS Try.prog 16 #[.pointer (some ⟨g, 0, none⟩)] K w := by
  obtain ⟨lv, mv, sz, h, rfl⟩ := h
  exact c16 h hml hmk h0 fun l m w' lv' mv' sz' h1 h2 h3 h4 => hK l m w' _ h1 ⟨_, _, _, h2, rfl⟩ h3 h4
end BatchF

/-! ### what 'all' keeps -/
theorem addAll_sizes {recs rs : List Rec} (h : Sizes recs ≤ 4194304) : Sizes (addAll recs rs).2 ≤ 4194304 := by
  unfold addAll
  split
  · exact h
  · split
    · exact h
    · rename_i hn
      simp only [Sizes, sumEnc_append, sumEnc_plain] at h hn ⊢
      omega
theorem addAll_one_ok {recs : List Rec} {r : Rec} (h : (addAll recs [r]).1 = 0) : chk r = 0 ∧ (addAll recs [r]).2 = recs ++ [plain r] ∧ recs.length + 1 ≤ 4096 ∧ Sizes recs + (encRec r).length ≤ 4194304 := by
  unfold addAll at h ⊢
  have h1 : firstErr [r] = chk r := by unfold firstErr; split <;> simp_all [firstErr]
  rw [h1] at h ⊢
  by_cases h0 : chk r = 0
  · simp only [h0, ne_eq, not_true, if_false, List.length_singleton, sumEnc_one] at h ⊢
    split at h
    · simp at h
    · rename_i hn
      rw [if_neg hn]
      refine ⟨trivial, rfl, by omega, by omega⟩
  · simp [h0] at h
theorem addAll_one_no {recs : List Rec} {r : Rec} (h : (addAll recs [r]).1 ≠ 0) : (addAll recs [r]).2 = recs ∧ (chk r = 0 → 4096 < recs.length + 1 ∨ 4194304 < Sizes recs + (encRec r).length) := by
  unfold addAll at h ⊢
  have h1 : firstErr [r] = chk r := by unfold firstErr; split <;> simp_all [firstErr]
  rw [h1] at h ⊢
  by_cases h0 : chk r = 0
  · simp only [h0, ne_eq, not_true, if_false, List.length_singleton, sumEnc_one] at h ⊢
    split at h
    · rename_i hn
      rw [if_pos hn]
      exact ⟨rfl, fun _ => hn⟩
    · simp at h
  · simp [h0]

/-- three batches that lie apart, all new since w -/
def St3 (w w' : World) (gx gy ga : Nat) (xs ys al : List Rec) : Prop :=
  ∃ Fx Fy Fa, BatchF w' gx xs [] Fx ∧ BatchF w' gy ys [] Fy ∧ BatchF w' ga al [] Fa ∧ (∀ b, Fx b → ¬ Fy b ∧ ¬ Fa b ∧ w.heap.size ≤ b) ∧ (∀ b, Fy b → ¬ Fa b ∧ w.heap.size ≤ b) ∧ (∀ b, Fa b → w.heap.size ≤ b) ∧ Ext No w w'
namespace St3
variable {w w' w'' : World} {gx gy ga : Nat} {xs ys al : List Rec} {K : Value → World → Prop}
theorem e (h : St3 w w' gx gy ga xs ys al) : Ext No w w' := by obtain ⟨_, _, _, _, _, _, _, _, _, e⟩ := h; exact e
theorem no (h : St3 w w' gx gy ga xs ys al) (k : Ext No w' w'') : St3 w w'' gx gy ga xs ys al := by
  obtain ⟨Fx, Fy, Fa, hx, hy, ha, h1, h2, h3, e⟩ := h
  exact ⟨Fx, Fy, Fa, hx.no k, hy.no k, ha.no k, h1, h2, h3, e.trans k⟩
theorem addX {r : Rec} (h : St3 w w' gx gy ga xs ys al) (hr : r.Ok) (hK : ∀ w'', St3 w w'' gx gy ga (addAll xs [r]).2 ys al → K (.int .i64 (addAll xs [r]).1) w'') : CallS Try.prog 8 #[.pointer (some ⟨gx, 0, none⟩), r.agg] K w' := by
  obtain ⟨Fx, Fy, Fa, hx, hy, ha, h1, h2, h3, e⟩ := h
  refine hx.add hr fun w'' F' n1 n2 n3 => hK w'' ⟨F', Fy, Fa, n1, hy.ext n2 fun b hb hh => (h1 b hh).1 hb, ha.ext n2 fun b hb hh => (h1 b hh).2.1 hb, fun b hb => ?_, h2, h3, e.fresh n2 fun b hb => .inr (h1 b hb).2.2⟩
  rcases n3 b hb with h | h
  · exact h1 b h
  · exact ⟨fun hh => by have := hy.lt hh; omega, fun hh => by have := ha.lt hh; omega, by have := e.size; omega⟩
theorem addY {r : Rec} (h : St3 w w' gx gy ga xs ys al) (hr : r.Ok) (hK : ∀ w'', St3 w w'' gx gy ga xs (addAll ys [r]).2 al → K (.int .i64 (addAll ys [r]).1) w'') : CallS Try.prog 8 #[.pointer (some ⟨gy, 0, none⟩), r.agg] K w' := by
  obtain ⟨Fx, Fy, Fa, hx, hy, ha, h1, h2, h3, e⟩ := h
  refine hy.add hr fun w'' F' n1 n2 n3 => hK w'' ⟨Fx, F', Fa, hx.ext n2 fun b hb hh => (h1 b hb).1 hh, n1, ha.ext n2 fun b hb hh => (h2 b hh).1 hb, fun b hb => ⟨fun hh => ?_, (h1 b hb).2⟩, fun b hb => ?_, h3, e.fresh n2 fun b hb => .inr (h2 b hb).2⟩
  · rcases n3 b hh with h | h
    · exact (h1 b hb).1 h
    · have := hx.lt hb; omega
  · rcases n3 b hb with h | h
    · exact h2 b h
    · exact ⟨fun hh => by have := ha.lt hh; omega, by have := e.size; omega⟩
theorem addA {r : Rec} (h : St3 w w' gx gy ga xs ys al) (hr : r.Ok) (hK : ∀ w'', St3 w w'' gx gy ga xs ys (addAll al [r]).2 → K (.int .i64 (addAll al [r]).1) w'') : CallS Try.prog 8 #[.pointer (some ⟨ga, 0, none⟩), r.agg] K w' := by
  obtain ⟨Fx, Fy, Fa, hx, hy, ha, h1, h2, h3, e⟩ := h
  refine ha.add hr fun w'' F' n1 n2 n3 => hK w'' ⟨Fx, Fy, F', hx.ext n2 fun b hb hh => (h1 b hb).2.1 hh, hy.ext n2 fun b hb hh => (h2 b hb).1 hh, n1, fun b hb => ⟨(h1 b hb).1, fun hh => ?_, (h1 b hb).2.2⟩, fun b hb => ⟨fun hh => ?_, (h2 b hb).2⟩, fun b hb => ?_, e.fresh n2 fun b hb => .inr (h3 b hb)⟩
  · rcases n3 b hh with h | h
    · exact (h1 b hb).2.1 h
    · have := hx.lt hb; omega
  · rcases n3 b hh with h | h
    · exact (h2 b hb).1 h
    · have := hy.lt hb; omega
  · rcases n3 b hb with h | h
    · exact h3 b h
    · have := e.size; omega
theorem recsA (h : St3 w w' gx gy ga xs ys al) (hK : ∀ v w'', Ext No w' w'' → Sl w'' v al.length 4 (flat Rec.cells al) → K v w'') : CallS Try.prog 9 #[.pointer (some ⟨ga, 0, none⟩)] K w' := by
  obtain ⟨Fx, Fy, Fa, hx, hy, ha, _⟩ := h
  exact ha.records fun v w1 e s _ => hK v w1 e s
theorem recsX (h : St3 w w' gx gy ga xs ys al) (hK : ∀ v w'', Ext No w' w'' → Sl w'' v xs.length 4 (flat Rec.cells xs) → K v w'') : CallS Try.prog 9 #[.pointer (some ⟨gx, 0, none⟩)] K w' := by
  obtain ⟨Fx, Fy, Fa, hx, hy, ha, _⟩ := h
  exact hx.records fun v w1 e s _ => hK v w1 e s
theorem sizeA (h : St3 w w' gx gy ga xs ys al) (hK : K (.int .i64 (Sizes al)) w') : CallS Try.prog 10 #[.pointer (some ⟨ga, 0, none⟩)] K w' := by
  obtain ⟨Fx, Fy, Fa, hx, hy, ha, _⟩ := h
  exact ha.size hK
theorem sizeX (h : St3 w w' gx gy ga xs ys al) (hK : K (.int .i64 (Sizes xs)) w') : CallS Try.prog 10 #[.pointer (some ⟨gx, 0, none⟩)] K w' := by
  obtain ⟨Fx, Fy, Fa, hx, hy, ha, _⟩ := h
  exact hx.size hK
theorem lens (h : St3 w w' gx gy ga xs ys al) : xs.length ≤ 4096 ∧ ys.length ≤ 4096 ∧ al.length ≤ 4096 := by
  obtain ⟨Fx, Fy, Fa, hx, hy, ha, _⟩ := h
  exact ⟨hx.len, hy.len, ha.len⟩
/-- y put behind x: x becomes what 'all' is -/
theorem join (h : St3 w w' gx gy ga xs ys (xs ++ ys)) (hs : Sizes (xs ++ ys) ≤ 4194304) (hK : ∀ w'', St3 w w'' gx gy ga (xs ++ ys) ys (xs ++ ys) → K (.int .i64 0) w'') :
    CallS Try.prog 12 #[.pointer (some ⟨gx, 0, none⟩), .pointer (some ⟨gy, 0, none⟩)] K w' := by
  obtain ⟨Fx, Fy, Fa, hx, hy, ha, h1, h2, h3, e⟩ := h
  have hpl : ys.map Go.Proofs.Ytambcnlkdnmekaa.plain = ys := (List.map_congr_left hy.plain).trans (List.map_id _)
  have hfe : firstErr ys = 0 := firstErr_all ys fun r hr => (hy.good r hr).2
  have hl := ha.len
  rw [List.length_append] at hl
  have hres : addAll xs ys = (0, xs ++ ys) := by
    simp only [Sizes, sumEnc_append] at hs
    unfold addAll
    rw [if_neg (by simp [hfe]), if_neg (by unfold Sizes; omega), hpl]
  refine hx.append hy fun w'' F' n1 n2 n3 => ?_
  rw [hres] at n1 ⊢
  refine hK w'' ⟨F', Fy, Fa, n1, hy.ext n2 fun b hb hh => (h1 b hh).1 hb, ha.ext n2 fun b hb hh => (h1 b hh).2.1 hb, fun b hb => ?_, h2, h3, e.fresh n2 fun b hb => .inr (h1 b hb).2.2⟩
  rcases n3 b hb with h | h
  · exact h1 b h
  · exact ⟨fun hh => by have := hy.lt hh; omega, fun hh => by have := ha.lt hh; omega, by have := e.size; omega⟩
end St3
end Go.Proofs.Ytambcnlkdnmekaa
