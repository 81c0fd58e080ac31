/- Batches: the law of going back, walked. -/
import Derived.Test.YtambcnlkdnmekaaB9
namespace Go.Proofs.Ytambcnlkdnmekaa
open Go SG Go.RowKit Go.Lib
set_option linter.unusedVariables false
set_option maxRecDepth 4000
set_option linter.unusedSimpArgs false

theorem addAll_prefix (recs rs : List Rec) : ∃ t, (addAll recs rs).2 = recs ++ t := by
  unfold addAll
  split
  · exact ⟨[], by simp⟩
  · split
    · exact ⟨[], by simp⟩
    · exact ⟨_, rfl⟩

/-- a batch, new since w, that lies apart from what P tells -/
def St1 (w w' : World) (g : Nat) (recs : List Rec) (marks : List Nat) (P : Nat → Prop) : Prop :=
  ∃ F, BatchF w' g recs marks F ∧ (∀ b, F b → ¬ P b ∧ w.heap.size ≤ b) ∧ (∀ b, P b → b < w'.heap.size) ∧ Ext No w w'
namespace St1
variable {w w' w'' : World} {g : Nat} {recs : List Rec} {marks : List Nat} {P : Nat → Prop} {K : Value → World → Prop}
theorem e (h : St1 w w' g recs marks P) : Ext No w w' := by obtain ⟨_, _, _, _, e⟩ := h; exact e
theorem no (h : St1 w w' g recs marks P) (k : Ext No w' w'') : St1 w w'' g recs marks P := by
  obtain ⟨F, h, h1, h2, e⟩ := h
  exact ⟨F, h.no k, h1, fun b hb => Nat.lt_of_lt_of_le (h2 b hb) k.size, e.trans k⟩
theorem add {r : Rec} (h : St1 w w' g recs marks P) (hr : r.Ok) (hK : ∀ v w'', St1 w w'' g (addAll recs [r]).2 marks P → Ext (fun b => ¬ P b) w' w'' → K v w'') : CallS Try.prog 8 #[.pointer (some ⟨g, 0, none⟩), r.agg] K w' := by
  obtain ⟨F, h, h1, h2, e⟩ := h
  refine h.add hr fun w'' F' n1 n2 n3 => hK _ w'' ⟨F', n1, fun b hb => ?_, fun b hb => Nat.lt_of_lt_of_le (h2 b hb) n2.size, e.fresh n2 fun b hb => .inr (h1 b hb).2⟩ (n2.mono fun b hb _ => (h1 b hb).1)
  rcases n3 b hb with h | h
  · exact h1 b h
  · exact ⟨fun hh => by have := h2 b hh; omega, by have := e.size; omega⟩
theorem records (h : St1 w w' g recs marks P) (hK : ∀ v w'', Ext No w' w'' → Sl w'' v recs.length 4 (flat Rec.cells recs) → St1 w w'' g recs marks (fun b => P b ∨ v.ownBlock = some b) → K v w'') : CallS Try.prog 9 #[.pointer (some ⟨g, 0, none⟩)] K w' := by
  obtain ⟨F, h, h1, h2, e⟩ := h
  refine h.records fun v w1 e1 s1 f1 => hK v w1 e1 s1 ⟨F, h.no e1, fun b hb => ⟨fun hh => ?_, (h1 b hb).2⟩, fun b hb => ?_, e.trans e1⟩
  · rcases hh with hh | hh
    · exact (h1 b hb).1 hh
    · have := (f1 b hh).1
      have := h.lt hb
      omega
  · rcases hb with hh | hh
    · exact Nat.lt_of_lt_of_le (h2 b hh) e1.size
    · exact (f1 b hh).2
theorem size (h : St1 w w' g recs marks P) (hK : K (.int .i64 (Sizes recs)) w') : CallS Try.prog 10 #[.pointer (some ⟨g, 0, none⟩)] K w' := by
  obtain ⟨F, h, _⟩ := h
  exact h.size hK
theorem len (h : St1 w w' g recs marks P) : recs.length ≤ 4096 := by
  obtain ⟨F, h, _⟩ := h
  exact h.len
theorem save (h : St1 w w' g recs marks P) (hml : marks.length ≤ 8796093022208) (hK : ∀ w'', St1 w w'' g recs (marks ++ [recs.length]) P → Ext (fun b => ¬ P b) w' w'' → K undef w'') : CallS Try.prog 15 #[.pointer (some ⟨g, 0, none⟩)] K w' := by
  obtain ⟨F, h, h1, h2, e⟩ := h
  refine h.save hml fun w'' F' n1 n2 n3 => hK w'' ⟨F', n1, fun b hb => ?_, fun b hb => Nat.lt_of_lt_of_le (h2 b hb) n2.size, e.fresh n2 fun b hb => .inr (h1 b hb).2⟩ (n2.mono fun b hb _ => (h1 b hb).1)
  rcases n3 b hb with h | h
  · exact h1 b h
  · exact ⟨fun hh => by have := h2 b hh; omega, by have := e.size; omega⟩
theorem back (h : St1 w w' g recs marks P) (hml : marks.length ≤ 8796093022208) (hmk : MarksOk recs marks) (h0 : marks = [] → K (.int .i64 6) w')
    (hK : ∀ l m w'', marks = l ++ [m] → St1 w w'' g (recs.take m) l P → Ext (fun b => ¬ P b) w' w'' → K (.int .i64 0) w'') : CallS Try.prog 16 #[.pointer (some ⟨g, 0, none⟩)] K w' := by
  obtain ⟨F, h, h1, h2, e⟩ := h
  refine h.back hml hmk h0 fun l m w'' F' hlm n1 n2 n3 => hK l m w'' hlm ⟨F', n1, fun b hb => h1 b (n3 b hb), fun b hb => Nat.lt_of_lt_of_le (h2 b hb) n2.size, e.fresh n2 fun b hb => .inr (h1 b hb).2⟩ (n2.mono fun b hb _ => (h1 b hb).1)
end St1

set_option maxHeartbeats 1000000 in
theorem backs {w : World} {a b : Value} {la bs : List Rec} (hsa : Sl w a la.length 4 (flat Rec.cells la)) (hsb : Sl w b bs.length 4 (flat Rec.cells bs)) (ha : AllOk la) (hb : AllOk bs) (hal : la.length ≤ 2932031007402) (hbl : bs.length ≤ 2932031007402) :
    CallS Try.prog 4 #[a, b] (fun v w' => v = .bool true ∧ Ext No w w') w := by
  refine s4_call hm ?_
  unfold s4
  refine BatchF.new fun w1 x1 e1 z1 => ?_
  have hst : St1 w w1 w.heap.size [] [] (fun _ => False) := ⟨_, x1, fun b hb => ⟨id, by unfold At1 at hb; omega⟩, fun b hb => hb.elim, e1⟩
  refine join0 (fun w' => ∃ xs, St1 w w' w.heap.size xs [] (fun _ => False)) ?_ fun J hJ => ?_
  · rintro w2 ⟨xs, h2⟩
    refine h2.records fun v w3 e3 s3 h3 => ?_
    refine h3.size (h3.save (by simp) fun w4 h4 e4 => ?_)
    have s4 : Sl w4 v xs.length 4 (flat Rec.cells xs) := s3.ext e4 fun b hb hh => hh (.inr hb)
    have hlx := h2.len
    refine join0 (fun w' => ∃ ys, St1 w w' w.heap.size (xs ++ ys) [xs.length] (fun b => False ∨ v.ownBlock = some b) ∧ Sl w' v xs.length 4 (flat Rec.cells xs)) ?_ fun J hJ => ?_
    · rintro w5 ⟨ys, h5, s5⟩
      refine h5.back (by simp) (fun m hm => by simp at hm; subst hm; simp) (fun h => by simp at h) fun l m w6 hlm h6 e6 => ?_
      obtain ⟨rfl, rfl⟩ : l = [] ∧ m = xs.length := by
        cases l with
        | nil => simp at hlm; exact ⟨rfl, hlm.symm⟩
        | cons x l => simp at hlm
      rw [List.take_left] at h6
      have s6 := s5.ext e6 fun b hb hh => hh (.inr hb)
      refine pur (bin_eql _ _ _) ?_
      refine join1 (fun a w' => a = .bool true ∧ St1 w w' w.heap.size xs [] (fun b => False ∨ v.ownBlock = some b)) ?_ fun J hJ => ?_
      · rintro _ w7 ⟨rfl, h7⟩
        refine pur (pick_b _ _ _) ?_
        refine join1 (fun a w' => a = .bool true ∧ St1 w w' w.heap.size xs [] (fun b => False ∨ v.ownBlock = some b)) ?_ fun J hJ => ?_
        · rintro _ w8 ⟨rfl, h8⟩
          refine pur (pick_b _ _ _) ?_
          refine join1 (fun a w' => a = .bool true ∧ St1 w w' w.heap.size xs [] (fun b => False ∨ v.ownBlock = some b)) ?_ fun J hJ => ?_
          · rintro _ w9 ⟨rfl, h9⟩
            refine pur (pick_b _ _ _) ?_
            refine join1 (fun a w' => a = .bool true ∧ Ext No w w') ?_ fun J hJ => ?_
            · rintro _ w10 ⟨rfl, e10⟩
              exact pur (pick_b _ _ _) ⟨rfl, e10⟩
            · exact ifT _ _ (c14 fun w10 e10 => hJ _ _ ⟨rfl, h9.e.trans e10⟩)
          · refine ifT _ _ (h8.back (by simp) (fun m hm => by simp at hm) (fun _ => pur (bin_eql _ _ _) (hJ _ _ ⟨rfl, h8⟩)) fun l m w9 hlm => by simp at hlm)
        · exact ifT _ _ (h7.size (pur (bin_eql _ _ _) (hJ _ _ ⟨by simp, h7⟩)))
      · refine ifT _ _ (h6.records fun v' w7 e7 s7 h7 => ?_)
        exact c13 s7 (s6.no e7) (by omega) fun w8 e8 => hJ _ _ ⟨rfl, (h6.no e7).no e8⟩
    · refine loop1 (σ := Nat × List Rec) (fun s a w' => a = .int .i64 (s.1 : Int) ∧ s.1 ≤ bs.length ∧ St1 w w' w.heap.size (xs ++ s.2) [xs.length] (fun b => False ∨ v.ownBlock = some b) ∧ Sl w' v xs.length 4 (flat Rec.cells xs))
        (fun s => bs.length - s.1) (0, []) ⟨rfl, by omega, by simpa using h4, s4⟩ ?_
      rintro ⟨i, ys⟩ _ w5 ⟨rfl, hi, h5, s5⟩ L hL
      simp only at hi h5 hL
      refine pur hsb.len (pur (bin_lss _ _ _) (condD (fun hlt => ?_) (fun _ => hJ _ ⟨ys, h5, s5⟩)))
      have hlt' : i < bs.length := by omega
      obtain ⟨r, hr⟩ : ∃ r, bs[i]? = some r := ⟨bs[i], List.getElem?_eq_getElem hlt'⟩
      have hrok := hb r (List.mem_of_getElem? hr)
      obtain ⟨ad, ha1, ha2, ha3⟩ := recs_at (hsb.no h5.e) hr
      refine pur ha1 (loadA ha2 rfl (h5.add hrok fun v6 w6 h6 e6 => ?_))
      obtain ⟨t, ht⟩ := addAll_prefix (xs ++ ys) [r]
      rw [ht, List.append_assoc] at h6
      exact pur (add64 (c := ((i + 1 : Nat) : Int)) (by omega) (by omega) (by omega)) (hL (i + 1, ys ++ t) _ _ ⟨rfl, by simp only; omega, h6, s5.ext e6 fun b hb hh => hh (.inr hb)⟩ (by simp only; omega))
  · refine loop1 (σ := Nat × List Rec) (fun s a w' => a = .int .i64 (s.1 : Int) ∧ s.1 ≤ la.length ∧ St1 w w' w.heap.size s.2 [] (fun _ => False))
      (fun s => la.length - s.1) (0, []) ⟨rfl, by omega, hst⟩ ?_
    rintro ⟨i, xs⟩ _ w4 ⟨rfl, hi, h4⟩ L hL
    simp only at hi h4 hL
    refine pur hsa.len (pur (bin_lss _ _ _) (condD (fun hlt => ?_) (fun _ => hJ _ ⟨xs, h4⟩)))
    have hlt' : i < la.length := by omega
    obtain ⟨r, hr⟩ : ∃ r, la[i]? = some r := ⟨la[i], List.getElem?_eq_getElem hlt'⟩
    have hrok := ha r (List.mem_of_getElem? hr)
    obtain ⟨ad, ha1, ha2, ha3⟩ := recs_at (hsa.no h4.e) hr
    refine pur ha1 (loadA ha2 rfl (h4.add hrok fun v6 w6 h6 e6 => ?_))
    exact pur (add64 (c := ((i + 1 : Nat) : Int)) (by omega) (by omega) (by omega)) (hL (i + 1, _) _ _ ⟨rfl, by simp only; omega, h6⟩ (by simp only; omega))
end Go.Proofs.Ytambcnlkdnmekaa
