/- Batches: Add, Records, Size, Append, savepoints. -/
import Derived.Test.YtambcnlkdnmekaaB2
import Derived.Test.YtambcnlkdnmekaaH2
namespace Go.Proofs.Ytambcnlkdnmekaa
open Go SG Go.RowKit Go.Lib
set_option linter.unusedVariables false
set_option maxRecDepth 4000
set_option linter.unusedSimpArgs false

theorem build26 (w : World) : (Instr.build 26 [].toArray).run Try.prog w = .ok (.agg #[.slice none 0 0, .int .i64 0, .slice none 0 0]) w := by kernel_rfl
theorem build31 (w : World) (f : Int) (k : Int) (a b : ByteArray) : (Instr.build 31 [(0, .int .u32 f), (1, .int .i64 k), (2, .string a), (3, .string b)].toArray).run Try.prog w = .ok (.agg #[.int .u32 f, .int .i64 k, .string a, .string b]) w := by kernel_rfl

/-- a new batch -/
theorem new26 {w : World} {K : Value → World → Prop} (hK : ∀ w', BatchAt w' w.heap.size (.slice none 0 0) (.slice none 0 0) [] 0 [] → Ext No w w' → w'.heap.size = w.heap.size + 1 → K (.pointer (some ⟨w.heap.size, 0, none⟩)) w') :
    RunS Try.prog (Instr.build 26 [].toArray) (fun t w => BoxS 26 t K w) w := by
  refine runS (build26 w) (box fun w1 b1 e1 z1 => hK w1 ⟨b1, World.ownsRow_nil _ _ _ _, World.ownsRow_nil _ _ _ _⟩ e1 z1)

/-- a batch whose rows lie apart from what is told -/
structure BatchIs (w : World) (g : Nat) (lv mv : Value) (recs : List Rec) (sz : Int) (marks : List Nat) : Prop where
  at_ : BatchAt w g lv mv recs sz marks
  sz : SzOk sz recs
  good : Good recs
  len : recs.length ≤ 4096
  plain : ∀ r ∈ recs, plain r = r
theorem BatchIs.ext {S : Nat → Prop} {w w' : World} {g : Nat} {lv mv : Value} {recs : List Rec} {sz : Int} {marks : List Nat} (h : BatchIs w g lv mv recs sz marks) (e : Ext S w w') (hn : ∀ b, Foot g lv mv b → ¬ S b) :
    BatchIs w' g lv mv recs sz marks := ⟨h.at_.ext e hn, h.sz, h.good, h.len, h.plain⟩
theorem BatchIs.no {w w' : World} {g : Nat} {lv mv : Value} {recs : List Rec} {sz : Int} {marks : List Nat} (h : BatchIs w g lv mv recs sz marks) (e : Ext No w w') : BatchIs w' g lv mv recs sz marks := h.ext e fun _ _ hh => hh
theorem plain_plain (r : Rec) : plain (plain r) = plain r := by
  unfold plain
  split
  · rename_i h; simp [h]
  · rfl
theorem chk_plain {r : Rec} (h : chk r = 0) : chk (plain r) = 0 := by
  unfold plain
  split
  · rename_i h0
    unfold chk at h ⊢
    simp only [h0, if_true] at h ⊢
    exact h
  · exact h
theorem ok_plain {r : Rec} (h : r.Ok) : (plain r).Ok := by
  unfold plain
  split
  · exact ⟨h.fam, h.key, by simp [ByteArray.size]⟩
  · exact h
theorem addAll_good {recs rs : List Rec} (hg : Good recs) (hl : recs.length ≤ 4096) (hp : ∀ r ∈ recs, plain r = r) (hrs : AllOk rs) :
    Good (addAll recs rs).2 ∧ (addAll recs rs).2.length ≤ 4096 ∧ ∀ r ∈ (addAll recs rs).2, plain r = r := by
  unfold addAll
  split
  · exact ⟨hg, hl, hp⟩
  · rename_i hfe
    split
    · exact ⟨hg, hl, hp⟩
    · rename_i hlim
      refine ⟨fun r hr => ?_, by simp; omega, fun r hr => ?_⟩
      · rcases List.mem_append.1 hr with hr | hr
        · exact hg r hr
        · obtain ⟨r', hr', rfl⟩ := List.mem_map.1 hr
          exact ⟨ok_plain (hrs r' hr'), chk_plain (firstErr_zero rs (by simpa using hfe) r' hr')⟩
      · rcases List.mem_append.1 hr with hr | hr
        · exact hp r hr
        · obtain ⟨r', hr', rfl⟩ := List.mem_map.1 hr
          exact plain_plain r'

/-- 'all' of what lies apart -/
theorem c26' {w : World} {g : Nat} {lv mv x : Value} {recs rs : List Rec} {sz : Int} {marks : List Nat} (hb : BatchIs w g lv mv recs sz marks)
    (hs : Sl w x rs.length 4 (flat Rec.cells rs)) (hx : ∀ b, x.ownBlock = some b → ¬ Foot g lv mv b) (hxl : ∀ b, x.ownBlock = some b → b < w.heap.size) (hrs : AllOk rs) (hrl : rs.length ≤ 2932031007402) {K : Value → World → Prop}
    (hK : ∀ w' lv' sz', BatchIs w' g lv' mv (addAll recs rs).2 sz' marks → Ext (Foot g lv mv) w w' → (∀ b, lv'.ownBlock = some b → lv.ownBlock = some b ∨ w.heap.size ≤ b) →
      K (.int .i64 (addAll recs rs).1) w') :
    CallS Try.prog 26 #[.pointer (some ⟨g, 0, none⟩), x] K w := by
  refine c26 hb.at_ hb.sz hb.good hb.len hs hx hxl hrs hrl fun w' lv' sz' h1 h2 h3 h4 => ?_
  obtain ⟨h5, h6, h7⟩ := addAll_good hb.good hb.len hb.plain hrs
  exact hK w' lv' sz' ⟨h1, h2, h5, h6, h7⟩ h3 h4

/-- Add -/
theorem c8 {w : World} {g : Nat} {lv mv : Value} {recs : List Rec} {r : Rec} {sz : Int} {marks : List Nat} (hb : BatchIs w g lv mv recs sz marks) (hr : r.Ok) {K : Value → World → Prop}
    (hK : ∀ w' lv' sz', BatchIs w' g lv' mv (addAll recs [r]).2 sz' marks → Ext (Foot g lv mv) w w' → (∀ b, lv'.ownBlock = some b → lv.ownBlock = some b ∨ w.heap.size ≤ b) →
      K (.int .i64 (addAll recs [r]).1) w') :
    CallS Try.prog 8 #[.pointer (some ⟨g, 0, none⟩), r.agg] K w := by
  refine s8_call hm ?_
  unfold s8
  refine box fun w1 b1 e1 z1 => ?_
  have b : Blk w1 w.heap.size 31 r.cells := b1
  refine loadA (At.of_blk b) rfl ?_
  refine build1 T22 rfl fun w2 b2 e2 z2 => ?_
  have e12 := e1.trans e2
  refine c26' (hb.no e12) (rs := [r]) (by rw [flat_one]; exact b2.sl (n := 1) (c := 1) (size := 4) rfl (Nat.le_refl _)) (fun b hbb hf => ?_) (fun b hbb => ?_) (fun r' hr' => ?_) (by simp) fun w3 lv' sz' h1 h2 h3 => ?_
  · have hlt := hb.at_.lt hf
    have : b = w1.heap.size := by simpa [Value.ownBlock] using hbb.symm
    omega
  · have : b = w1.heap.size := by simpa [Value.ownBlock] using hbb.symm
    omega
  · simp at hr'; subst hr'; exact hr
  · exact hK w3 lv' sz' h1 (e12.no.trans h2) fun b hbb => (h3 b hbb).imp id fun hh => by have := e12.size; omega

/-- slices.Clone of records -/
theorem c27 {w : World} {x : Value} {rs : List Rec} (hs : Sl w x rs.length 4 (flat Rec.cells rs)) (hrl : rs.length ≤ 2932031007402) {K : Value → World → Prop}
    (hK : ∀ v w', Ext No w w' → Sl w' v rs.length 4 (flat Rec.cells rs) → (∀ b, v.ownBlock = some b → w.heap.size ≤ b ∧ b < w'.heap.size) → K v w') : CallS Try.prog 27 #[x] K w := by
  refine s27_call hm ?_
  unfold s27
  have hs' := hs
  obtain ⟨A, c, rfl, hl, hc, h0, hA⟩ := hs'
  refine eq_nil_slice Try.underlying22 (condB (fun hn => ?_) (fun hn => ?_))
  · have : A = none := by simpa using hn
    have hz := h0 this
    have hnil : rs = [] := List.eq_nil_of_length_eq_zero hz
    subst hnil
    exact hK _ w (Ext.refl _ w) (Sl.nil_ w 4) (fun b hb => by simp [Value.ownBlock] at hb)
  · refine build0 T22 fun w1 b1 e1 z1 => ?_
    have ho1 : w1.ownsRow w.heap.size 31 4 (.slice (some ⟨w.heap.size, 0, none⟩) 0 0) 0 [] := b1.owns rfl (Nat.le_refl _) (by omega)
    refine append_sl T22 22 ho1 (hs.no e1) (fun u hu => ?_) (by omega) (by omega) e1.size fun v w2 ho2 hg2 _ => ?_
    · simp only [flat, List.mem_flatMap] at hu
      obtain ⟨r, _, hu⟩ := hu
      exact r.one u hu
    · have e2 := ext_grown ho1 hg2
      refine hK v w2 (ext_fr' e1 e2 (Nat.le_refl _)) ?_ fun b hb => ho2.lt b hb
      have := Sl.own ho2
      simpa using this

/-- Records, Size -/
theorem c9 {w : World} {g : Nat} {lv mv : Value} {recs : List Rec} {sz : Int} {marks : List Nat} (hb : BatchIs w g lv mv recs sz marks) {K : Value → World → Prop}
    (hK : ∀ v w', Ext No w w' → Sl w' v recs.length 4 (flat Rec.cells recs) → (∀ b, v.ownBlock = some b → w.heap.size ≤ b ∧ b < w'.heap.size) → K v w') : CallS Try.prog 9 #[.pointer (some ⟨g, 0, none⟩)] K w := by
  refine s9_call hm ?_
  unfold s9
  refine pur (nil_ptr _) (pur (field_ptr _ _ _) (loadB hb.at_.blk (v := lv) rfl ?_))
  have := hb.len
  exact c27 (Sl.own hb.at_.row) (by omega) hK
theorem c10 {w : World} {g : Nat} {lv mv : Value} {recs : List Rec} {sz : Int} {marks : List Nat} (hb : BatchIs w g lv mv recs sz marks) {K : Value → World → Prop}
    (hK : K (.int .i64 (Sizes recs)) w) : CallS Try.prog 10 #[.pointer (some ⟨g, 0, none⟩)] K w := by
  refine s10_call hm ?_
  unfold s10
  refine pur (nil_ptr _) (pur (field_ptr _ _ _) (loadB hb.at_.blk (v := .int .i64 sz) rfl (pur ((max_int _ _ _ _).trans (by rw [hb.sz.max])) hK)))

/-- Append, another batch or itself -/
theorem c12 {w : World} {g g' : Nat} {lv mv lv' mv' : Value} {recs recs' : List Rec} {sz sz' : Int} {marks marks' : List Nat} (hb : BatchIs w g lv mv recs sz marks) (hb' : BatchIs w g' lv' mv' recs' sz' marks') {K : Value → World → Prop}
    (hK : ∀ w' lv1 sz1, BatchIs w' g lv1 mv (addAll recs recs').2 sz1 marks → Ext (Foot g lv mv) w w' → (∀ b, lv1.ownBlock = some b → lv.ownBlock = some b ∨ w.heap.size ≤ b) →
      K (.int .i64 (addAll recs recs').1) w') :
    CallS Try.prog 12 #[.pointer (some ⟨g, 0, none⟩), .pointer (some ⟨g', 0, none⟩)] K w := by
  refine s12_call hm ?_
  unfold s12
  refine eq_nil_ptr Try.underlying23 (condF rfl ?_)
  refine pur (nil_ptr _) (pur (field_ptr _ _ _) (loadB hb'.at_.blk (v := lv') rfl ?_))
  have hl' := hb'.len
  refine c27 (Sl.own hb'.at_.row) (by omega) fun v w1 e1 hs1 hv1 => ?_
  refine c26' (hb.no e1) hs1 (fun b hbb hf => ?_) (fun b hbb => (hv1 b hbb).2) (fun r hr => (hb'.good r hr).1) (by omega) fun w2 lv1 sz1 h1 h2 h3 => ?_
  · have hlt := hb.at_.lt hf
    have := (hv1 b hbb).1
    omega
  · exact hK w2 lv1 sz1 h1 (e1.no.trans h2) fun b hbb => (h3 b hbb).imp id fun hh => by have := e1.size; omega

/-- Save -/
theorem c15 {w : World} {g : Nat} {lv mv : Value} {recs : List Rec} {sz : Int} {marks : List Nat} (hb : BatchIs w g lv mv recs sz marks) (hml : marks.length ≤ 8796093022208) {K : Value → World → Prop}
    (hK : ∀ w' mv', BatchIs w' g lv mv' recs sz (marks ++ [recs.length]) → Ext (Foot g lv mv) w w' → (∀ b, mv'.ownBlock = some b → mv.ownBlock = some b ∨ w.heap.size ≤ b) → K undef w') :
    CallS Try.prog 15 #[.pointer (some ⟨g, 0, none⟩)] K w := by
  refine s15_call hm ?_
  unfold s15
  refine draw (fun w' => Blk w' g 26 [lv, .int .i64 sz, mv]) hb.at_.blk ?_
  refine pur (nil_ptr _) (pur (field_ptr _ _ _) (pur (nil_ptr _) (pur (field_ptr _ _ _) ?_)))
  refine heldC (v := mv) (fun w' hh => hh.cell 2) (heldC (v := lv) (fun w' hh => hh.cell 0) ?_)
  refine pur (Sl.own hb.at_.row).len ?_
  refine build1 T24 rfl fun w1 b1 e1' z1 => ?_
  have e1 : Ext No w w1 := (Ext.drew (S := No) w).trans e1'
  have hb1 := hb.no e1
  refine ⟨hb1.at_.blk, ?_⟩
  refine append_sl T24 24 hb1.at_.mrow (b1.sl (n := 1) (c := 1) (size := 1) rfl (Nat.le_refl _)) (by simp [Value.cells, Value.oneCell']) (by omega) (by omega) (Nat.zero_le _) fun mv' w2 ho2 hg2 hat => ?_
  have e2 : Ext (fun b => mv.ownBlock = some b) w1 w2 := Ext.grown hg2 fun b hbb => hbb
  have hne := own_ne hb1.at_.mrow hb1.at_.blk (by decide)
  have hbl2 := hb1.at_.blk.ext e2 hne
  have hrow2 := owns_ext hb1.at_.row e2 fun b hbb hh => own_own_ne hb1.at_.mrow hb1.at_.row (by decide) b hh hbb
  refine pur (nil_ptr _) (pur (field_ptr _ _ _) (storeB hbl2 (by simp) (by rcases ho2.2 with ⟨rfl, _⟩ | ⟨_, _, _, rfl, _⟩ <;> rfl) fun w3 b3 e3 _ => ?_))
  have hne1 := own_ne hrow2 hbl2 (by decide)
  have hne2 := own_ne ho2 hbl2 (by decide)
  refine hK w3 mv' ⟨⟨b3, owns_ext hrow2 e3 fun b hbb hh => hne1 (by rw [hbb, show b = g from hh]), ?_⟩, hb.sz, hb.good, hb.len, hb.plain⟩ ?_ ?_
  · have := owns_ext ho2 e3 fun b hbb hh => hne2 (by rw [hbb, show b = g from hh])
    simpa [ints, Value.cells] using this
  · exact (e1.no).trans ((e2.mono fun b h _ => .inr (.inr h)).trans (e3.mono fun b h _ => .inl h))
  · intro b hbb
    rcases hat with h | h
    · rw [h] at hbb; exact .inl hbb
    · rw [h] at hbb
      have : b = w1.heap.size := by simpa using hbb.symm
      right; have := e1.size; omega
end Go.Proofs.Ytambcnlkdnmekaa
