/- Batches: the reference's reader. -/
import Derived.Test.YtambcnlkdnmekaaB19
namespace Go.Proofs.Ytambcnlkdnmekaa
open Go SG Go.RowKit Go.Lib
set_option linter.unusedVariables false
set_option maxRecDepth 4000
set_option linter.unusedSimpArgs false

set_option maxHeartbeats 400000 in
theorem c44 {w : World} {x : Value} {l : List UInt8} {many : Nat} (hs : Sl w x l.length 1 (byteCells l)) (hl : l.length ≤ 140737488355328) (hm1 : 1 ≤ many) (hm8 : many ≤ 8) {K : Value → World → Prop} (hK : K (rd58 many l) w) :
    CallS Try.prog 44 #[x, .int .i64 (many : Int)] K w := by
  refine s44_call hm ?_
  unfold s44
  refine pur hs.len (pur (bin_lss _ _ _) (condD (fun hlt => ?_) (fun hge => ?_)))
  · unfold rd58 at hK
    rw [if_pos (by omega), if_pos (by omega)] at hK
    exact hK
  · have hge' : ¬ l.length < many := by omega
    unfold rd58 at hK
    rw [if_neg hge', if_neg hge'] at hK
    have hlen : (l.take many).length = many := by rw [List.length_take]; omega
    refine join1 (fun a w' => w = w' ∧ a = .int .u64 (leN (l.take many) : Int)) (fun a w' ⟨h1, h2⟩ => by subst h1 h2; exact hK) fun J hJ => ?_
    refine pur (sub64 (c := (many : Int) - 1) rfl (by omega) (by omega)) ?_
    refine loop2 (σ := Nat) (fun k a b w' => w = w' ∧ k ≤ many ∧ a = .int .u64 (valB ((l.take many).reverse.take k) : Int) ∧ b = .int .i64 ((many : Int) - 1 - k)) (fun k => many - k) 0 ⟨rfl, by omega, by simp [valB], by simp⟩ ?_
    rintro k _ _ w' ⟨rfl, hk, rfl, rfl⟩ L hL
    refine pur (bin_geq _ _ _) (condD (fun hge2 => ?_) (fun hlt2 => ?_))
    · have hk' : k < many := by omega
      have hkl : k < (l.take many).length := by omega
      have htk := take_rev hkl
      have hidx : (l.take many).length - 1 - k = many - 1 - k := by omega
      obtain ⟨c, hc⟩ : ∃ c, l[many - 1 - k]? = some c := ⟨_, List.getElem?_eq_getElem (show many - 1 - k < l.length by omega)⟩
      have hcc : (l.take many)[(l.take many).length - 1 - k]'(by omega) = c := by
        have : (l.take many)[(l.take many).length - 1 - k]? = some c := by
          rw [hidx, List.getElem?_take, if_pos (by omega)]; exact hc
        rw [List.getElem?_eq_getElem (by omega)] at this
        exact Option.some.inj this
      rw [hcc] at htk
      have hcl := c.toNat_lt
      have hv := valB_lt k ((l.take many).reverse.take k) (by rw [List.length_take, List.length_reverse, hlen]; omega)
      have hp7 : (256 : Nat) ^ k ≤ 256 ^ 7 := Nat.pow_le_pow_right (by decide) (by omega)
      have h7 : (256 : Nat) ^ 7 = 72057594037927936 := by decide
      obtain ⟨ad, h1, h2⟩ := byte_at hs hc
      have hix : (many : Int) - 1 - k = ((many - 1 - k : Nat) : Int) := by omega
      refine pur (v := .int .u64 ((valB ((l.take many).reverse.take k) * 256 : Nat) : Int)) ((bin_shl (by omega) (by decide)).trans ?_) ?_
      · have : ((valB ((l.take many).reverse.take k) : Nat) : Int) * 2 ^ (8 : Int).toNat = ((valB ((l.take many).reverse.take k) * 256 : Nat) : Int) := by simp
        rw [this, wu64 (by omega) (by omega)]
      · rw [hix]
        refine pur h1 (SG.load (S := No) h2 (pur (v := .int .u64 (c.toNat : Int)) (conv64u (by omega) (by omega)) (pur (v := .int .u64 ((valB ((l.take many).reverse.take k) * 256 + c.toNat : Nat) : Int)) ((bin_or _ _ _).trans ?_) ?_)))
        · rw [or64 (by omega) (by omega)]
          have := or_add (n := c.toNat) (y := valB ((l.take many).reverse.take k)) (s := 8) (by omega)
          rw [Nat.or_comm, this, Nat.add_comm]
        · refine pur (sub64 (c := (many : Int) - 1 - ((k + 1 : Nat) : Int)) (by omega) (by omega) (by omega)) ?_
          refine hL (k + 1) _ _ _ ⟨rfl, by omega, by rw [htk, valB_snoc], rfl⟩ (by omega)
    · have hkm : k = many := by omega
      have : (l.take many).reverse.take k = (l.take many).reverse := List.take_of_length_le (by rw [List.length_reverse, hlen]; omega)
      rw [this, valB_rev]
      exact hJ _ _ ⟨rfl, rfl⟩

/-- the reference's reader lies at g: what is left, and its error -/
def Rq (w : World) (g B : Nat) (l : List UInt8) (e : Int) : Prop := ∃ x, Blk w g 80 [x, .int .i64 e] ∧ Sl w x l.length 1 (byteCells l) ∧ (∀ b, x.ownBlock = some b → b < B) ∧ l.length ≤ 140737488355328 ∧ B ≤ g
theorem Rq.lt {w : World} {g B : Nat} {l : List UInt8} {e : Int} (h : Rq w g B l e) : g < w.heap.size := by obtain ⟨x, hb, _⟩ := h; exact hb.lt
theorem Rq.B {w : World} {g B : Nat} {l : List UInt8} {e : Int} (h : Rq w g B l e) : B ≤ g := by obtain ⟨x, _, _, _, _, h⟩ := h; exact h
theorem Rq.ext {S : Nat → Prop} {w w' : World} {g B : Nat} {l : List UInt8} {er : Int} (h : Rq w g B l er) (e : Ext S w w') (hg : ¬ S g) (hB : ∀ b, b < B → ¬ S b) : Rq w' g B l er := by
  obtain ⟨x, hb, hs, ho, hl, hBg⟩ := h
  exact ⟨x, hb.ext e hg, hs.ext e fun b hh => hB b (ho b hh), ho, hl, hBg⟩
theorem Rq.no {w w' : World} {g B : Nat} {l : List UInt8} {er : Int} (h : Rq w g B l er) (e : Ext No w w') : Rq w' g B l er := h.ext e (fun h => h) fun _ _ h => h
theorem Rq.err {w : World} {g B : Nat} {l : List UInt8} {e : Int} (h : Rq w g B l e) (e' : Int) {K : World → Prop} (hK : ∀ w', Rq w' g B l e' → Ext (At1 g) w w' → w'.heap.size = w.heap.size → K w') : StoreC (.pointer (some ⟨g, 0 + 1, none⟩)) (.int .i64 e') K w := by
  obtain ⟨x, hb, hs, ho, hl, hBg⟩ := h
  exact storeB hb (by simp) rfl fun w' b' e1 z1 => hK w' ⟨x, b', hs.ext e1 fun b hh hb' => by have := ho b hh; rw [show b = g from hb'] at this; omega, ho, hl, hBg⟩ e1 z1
theorem Rq.move {w : World} {g B : Nat} {l : List UInt8} {e : Int} {x : Value} (hb : Blk w g 80 [x, .int .i64 e]) (hs : Sl w x l.length 1 (byteCells l)) (ho : ∀ b, x.ownBlock = some b → b < B) (hl : l.length ≤ 140737488355328) (hBg : B ≤ g) {k : Nat} (hk : k ≤ l.length) (kd : IntKind)
    {K : World → Prop} (hK : ∀ w', Rq w' g B (l.drop k) e → Ext (At1 g) w w' → w'.heap.size = w.heap.size → K w') :
    ∃ x', sliceV 1 x (some (.int kd (k : Int))) none = some x' ∧ StoreC (.pointer (some ⟨g, 0, none⟩)) x' K w := by
  obtain ⟨x', h1, h2, h3⟩ := sl_drop hs hk kd
  refine ⟨x', h1, storeB hb (by simp) (sl_one h2) fun w' b' e' z' => hK w' ⟨x', b', ?_, fun b hh => ho b (h3 b hh), by rw [List.length_drop]; omega, hBg⟩ e' z'⟩
  rw [byteCells_drop] at h2
  rw [List.length_drop]
  exact h2.ext e' fun b hh hb' => by have := ho b (h3 b hh); rw [show b = g from hb'] at this; omega

theorem rv_le' (l : List UInt8) : (rv l).2.2 ≤ l.length := by
  by_cases h : (rv l).1 = 0
  · exact rv_le h
  · have := (rvGo_err l 0 0).resolve_left h
    unfold rv
    rw [this.2]; simp
theorem c62 {w : World} {g B : Nat} {l : List UInt8} {e : Int} (h : Rq w g B l e) {K : Value → World → Prop} (h1 : e ≠ 0 → K (.int .u64 0) w)
    (hK : ∀ w', e = 0 → Rq w' g B (l.drop (rv l).2.2) (rv l).1 → Ext (At1 g) w w' → w'.heap.size = w.heap.size → K (.int .u64 ((rv l).2.1 : Int)) w') : CallS Try.prog 62 #[.pointer (some ⟨g, 0, none⟩)] K w := by
  have h' := h
  obtain ⟨x, hb, hs, ho, hl, hBg⟩ := h'
  refine s62_call hm ?_
  unfold s62
  refine pur (nil_ptr _) (pur (field_ptr _ _ _) (loadB hb (v := .int .i64 e) rfl (pur (bin_neq _ _ _) (condN h1 (fun h0 => ?_)))))
  refine pur (nil_ptr _) (pur (field_ptr _ _ _) (loadB hb (v := x) rfl (c70 hs hl (pur (extract_0 _ _) (pur (extract_1 _ _ _) (pur (extract_2 _ _ _ _) ?_))))))
  refine pur (nil_ptr _) (pur (field_ptr _ _ _) (h.err _ fun w1 hr1 e1 z1 => ?_))
  obtain ⟨x1, hb1, hs1, ho1, hl1, hBg1⟩ := hr1
  refine pur (nil_ptr _) (pur (field_ptr _ _ _) (loadB hb1 (v := x1) rfl ?_))
  obtain ⟨x', h3, h4⟩ := Rq.move hb1 hs1 ho1 hl1 hBg1 (k := (rv l).2.2) (rv_le' l) .i64 (K := fun w' => K (.int .u64 ((rv l).2.1 : Int)) w') fun w' hr e' z => hK w' h0 hr (e1.trans e') (by omega)
  exact pur h3 (pur (nil_ptr _) (pur (field_ptr _ _ _) h4))

theorem rv_lt (l : List UInt8) : (rv l).2.1 < 18446744073709551616 := by
  by_cases hz : (rv l).1 = 0
  · obtain ⟨a, b, c, he⟩ : ∃ a b c, rv l = (a, b, c) := ⟨_, _, _, rfl⟩
    rw [he] at hz ⊢
    simp only at hz ⊢
    subst hz
    exact (rv_ok he).choose_spec.2.2
  · have := (rvGo_err l 0 0).resolve_left hz
    unfold rv; rw [this.2]; decide
theorem rdT_def {most : Nat} {l : List UInt8} (hz : (rv l).1 = 0) : rdT most l = (if most < (rv l).2.1 then .error 3 else if (l.drop (rv l).2.2).length < (rv l).2.1 then .error 4 else .ok ((l.drop (rv l).2.2).take (rv l).2.1, (l.drop (rv l).2.2).drop (rv l).2.1)) := by
  unfold rdT rdV
  rw [if_neg (by simp [hz])]
  split
  · rename_i e' he
    split at he
    · rename_i hlt
      rw [if_pos hlt]
      simp only [Except.error.injEq] at he
      rw [he]
    · cases he
  · rename_i n' r' he
    split at he
    · cases he
    · rename_i hlt
      simp only [Except.ok.injEq, Prod.mk.injEq] at he
      obtain ⟨rfl, rfl⟩ := he
      rw [if_neg hlt]
theorem c62u {w : World} {g B : Nat} {l : List UInt8} {e : Int} (h : Rq w g B l e) {K : Value → World → Prop}
    (hK : ∀ (n : Nat) l1 e1 w', n < 18446744073709551616 → Rq w' g B l1 e1 → Ext (At1 g) w w' → (e ≠ 0 → e1 = e) → (e = 0 → e1 = (rv l).1 ∧ l1 = l.drop (rv l).2.2 ∧ n = (rv l).2.1) → K (.int .u64 (n : Int)) w') : CallS Try.prog 62 #[.pointer (some ⟨g, 0, none⟩)] K w :=
  c62 h (fun hne => hK 0 l e w (by decide) h (Ext.refl _ _) (fun _ => rfl) (fun h => absurd h hne)) fun w1 h0 hr1 ee1 z1 => hK _ _ _ w1 (rv_lt l) hr1 ee1 (fun h => absurd h0 h) fun _ => ⟨rfl, rfl, rfl⟩

set_option maxHeartbeats 1000000 in
theorem c63 {w : World} {g B most : Nat} {l : List UInt8} {e : Int} (h : Rq w g B l e) (hm' : most < 9223372036854775808) {K : Value → World → Prop}
    (hErr : ∀ w' l' e', e' ≠ 0 → (e ≠ 0 → e' = e) → (e = 0 → rdT most l = .error e') → Rq w' g B l' e' → Ext (At1 g) w w' → K (.string ⟨#[]⟩) w')
    (hOk : ∀ s r w', e = 0 → rdT most l = .ok (s, r) → Rq w' g B r 0 → Ext (At1 g) w w' → K (.string (bA s)) w') : CallS Try.prog 63 #[.pointer (some ⟨g, 0, none⟩), .int .i64 (most : Int)] K w := by
  refine s63_call hm ?_
  unfold s63
  refine c62u h fun n l1 e1 w1 hn hr1 ee1 hne0 hz0 => ?_
  have hbad : e1 ≠ 0 → (e ≠ 0 → e1 = e) ∧ (e = 0 → rdT most l = .error e1) := fun hne => ⟨hne0, fun h => by
    obtain ⟨h1, h2, h3⟩ := hz0 h
    unfold rdT rdV
    rw [h1] at hne ⊢
    rw [if_pos hne]⟩
  have hgood : e1 = 0 → e = 0 ∧ rdT most l = (if most < n then .error 3 else if l1.length < n then .error 4 else .ok (l1.take n, l1.drop n)) := fun hz => by
    have he0 : e = 0 := by
      by_cases h : e = 0
      · exact h
      · have := hne0 h; omega
    obtain ⟨h1, h2, h3⟩ := hz0 he0
    rw [h2, h3]
    exact ⟨he0, rdT_def (by rw [← h1, hz])⟩
  -- what stands behind the two tests
  refine join0 (fun w' => ∃ e2, Rq w' g B l1 e2 ∧ Ext (At1 g) w w' ∧ (e2 ≠ 0 → (e ≠ 0 → e2 = e) ∧ (e = 0 → rdT most l = .error e2)) ∧ (e2 = 0 → e = 0 ∧ rdT most l = (if l1.length < n then .error 4 else .ok (l1.take n, l1.drop n)))) ?_ fun J0 hJ0 => ?_
  · rintro w2 ⟨e2, hr2, ee2, hb2, hg2⟩
    refine join0 (fun w' => ∃ e3, Rq w' g B l1 e3 ∧ Ext (At1 g) w w' ∧ (e3 ≠ 0 → (e ≠ 0 → e3 = e) ∧ (e = 0 → rdT most l = .error e3)) ∧ (e3 = 0 → e = 0 ∧ n ≤ l1.length ∧ rdT most l = .ok (l1.take n, l1.drop n))) ?_ fun J1 hJ1 => ?_
    · rintro w3 ⟨e3, hr3, ee3, hb3, hg3⟩
      have hr3' := hr3
      obtain ⟨x, hb, hs, ho, hl, hBg⟩ := hr3'
      refine pur (nil_ptr _) (pur (field_ptr _ _ _) (loadB hb (v := .int .i64 e3) rfl (pur (bin_neq _ _ _) (condN (fun hne => ?_) (fun h0 => ?_)))))
      · exact hErr w3 l1 e3 hne (hb3 hne).1 (hb3 hne).2 hr3 ee3
      · obtain ⟨he0, hle, hrd⟩ := hg3 h0
        refine pur (nil_ptr _) (pur (field_ptr _ _ _) (loadB hb (v := x) rfl ?_))
        obtain ⟨x', h1, h2, _⟩ := sl_take hs hle .u64
        rw [byteCells_take] at h2
        have hlen : (l1.take n).length = n := by rw [List.length_take]; omega
        refine pur h1 (runS (bytes_str (l := l1.take n) Try.underlying40 Try.underlying9 Try.underlying5 (by rw [hlen]; exact h2)) ?_)
        refine pur (nil_ptr _) (pur (field_ptr _ _ _) (loadB hb (v := x) rfl ?_))
        obtain ⟨x'', h3, h4⟩ := Rq.move hb hs ho hl hBg (k := n) hle .u64 (K := fun w' => K (.string (bA (l1.take n))) w') fun w' hr ee z => hOk _ _ w' he0 hrd (by rw [h0] at hr; exact hr) (ee3.trans ee)
        exact pur h3 (pur (nil_ptr _) (pur (field_ptr _ _ _) h4))
    · have hr2' := hr2
      obtain ⟨x, hb, hs, ho, hl, hBg⟩ := hr2'
      refine pur (nil_ptr _) (pur (field_ptr _ _ _) (loadB hb (v := .int .i64 e2) rfl (pur (bin_eql _ _ _) ?_)))
      refine join1 (fun a w' => w2 = w' ∧ (e2 = 0 → a = .bool (decide (l1.length < n)))) ?_ fun J2 hJ2 => ?_
      · rintro a w' ⟨rfl, ha⟩
        refine pur (v := .bool (decide (e2 = 0 ∧ l1.length < n))) ((pick_b _ _ _).trans ?_) (condD (fun hh => ?_) (fun hh => ?_))
        · by_cases h : e2 = 0
          · rw [if_pos (by simpa using h), ha h]; simp [h]
          · rw [if_neg (by simpa using h)]; simp [h]
        · refine pur (nil_ptr _) (pur (field_ptr _ _ _) (hr2.err 4 fun w3 hr3 ee3 z3 => hJ1 _ ⟨4, hr3, ee2.trans ee3, fun _ => ⟨fun hne => absurd (hg2 hh.1).1 hne, fun _ => by rw [(hg2 hh.1).2, if_pos hh.2]⟩, fun h => by cases h⟩))
        · refine hJ1 _ ⟨e2, hr2, ee2, hb2, fun h => ?_⟩
          have hle : ¬ l1.length < n := fun hlt => hh ⟨h, hlt⟩
          have h3 := hg2 h
          rw [if_neg hle] at h3
          exact ⟨h3.1, by omega, h3.2⟩
      · rw [ifB_eq]
        by_cases h : e2 = 0
        · rw [if_pos (by simpa using h)]
          refine pur (nil_ptr _) (pur (field_ptr _ _ _) (loadB hb (v := x) rfl (pur hs.len (pur (conv64u (by omega) (by omega)) (pur (bin_gtr _ _ _) (hJ2 _ _ ⟨rfl, fun _ => ?_⟩))))))
          congr 1; rw [Bool.eq_iff_iff]; simp only [decide_eq_true_eq]; omega
        · rw [if_neg (by simpa using h)]
          exact hJ2 _ _ ⟨rfl, fun h' => absurd h' h⟩
  · have hr1' := hr1
    obtain ⟨x, hb, hs, ho, hl, hBg⟩ := hr1'
    refine pur (nil_ptr _) (pur (field_ptr _ _ _) (loadB hb (v := .int .i64 e1) rfl (pur (bin_eql _ _ _) ?_)))
    refine join1 (fun a w' => w1 = w' ∧ (e1 = 0 → a = .bool (decide (most < n)))) ?_ fun J3 hJ3 => ?_
    · rintro a w' ⟨rfl, ha⟩
      refine pur (v := .bool (decide (e1 = 0 ∧ most < n))) ((pick_b _ _ _).trans ?_) (condD (fun hh => ?_) (fun hh => ?_))
      · by_cases h : e1 = 0
        · rw [if_pos (by simpa using h), ha h]; simp [h]
        · rw [if_neg (by simpa using h)]; simp [h]
      · refine pur (nil_ptr _) (pur (field_ptr _ _ _) (hr1.err 3 fun w3 hr3 ee3 z3 => hJ0 _ ⟨3, hr3, ee1.trans ee3, fun _ => ⟨fun hne => absurd (hgood hh.1).1 hne, fun _ => by rw [(hgood hh.1).2, if_pos hh.2]⟩, fun h => by cases h⟩))
      · refine hJ0 _ ⟨e1, hr1, ee1, hbad, fun h => ?_⟩
        have hle : ¬ most < n := fun hlt => hh ⟨h, hlt⟩
        have h3 := hgood h
        rw [if_neg hle] at h3
        exact h3
    · rw [ifB_eq]
      by_cases h : e1 = 0
      · rw [if_pos (by simpa using h)]
        refine pur (conv64u (by omega) (by omega)) (pur (bin_gtr _ _ _) (hJ3 _ _ ⟨rfl, fun _ => ?_⟩))
        congr 1; rw [Bool.eq_iff_iff]; simp only [decide_eq_true_eq]; omega
      · rw [if_neg (by simpa using h)]
        exact hJ3 _ _ ⟨rfl, fun h' => absurd h' h⟩
end Go.Proofs.Ytambcnlkdnmekaa
