/- Several texts of ours, laid one behind the other. -/
import Derived.Test.YthohdinjpkehpaaGreatMF8
namespace Go.Proofs.YthohdinjpkehpaaGreat
open Go SG Go.RowKit
set_option linter.unusedVariables false
set_option maxRecDepth 4000
set_option linter.unusedSimpArgs false

theorem overB_set {b l : Bys} {k i : Nat} {c : UInt8} (hk : k ≤ b.length) (hl : l.length = i) (h : k + i < b.length) : (overB b k l).set (k + i) c = overB b k (l ++ [c]) := by
  unfold overB
  rw [hl, List.set_append_right _ _ (by simp; omega)]
  have e0 : k + i - (b.take k ++ l).length = 0 := by simp; omega
  rw [e0, List.drop_eq_getElem_cons h, List.set_cons_zero]
  simp only [List.length_append, List.length_cons, List.length_nil, hl]
  rw [show k + (i + (0 + 1)) = k + i + 1 by omega]
  simp
theorem overB_push {b l : Bys} {k i : Nat} {c : UInt8} (hk : k ≤ b.length) (hl : l.length = i) (h : b.length ≤ k + i) : overB b k l ++ [c] = overB b k (l ++ [c]) := by
  unfold overB
  rw [hl, List.drop_of_length_le h, List.drop_of_length_le (by simp; omega)]
  simp
theorem wsOk_at : ∀ {ws : List Wr} {b : Bys} {i : Nat} {p : Wr}, wsOk b ws → ws[i]? = some p → p.1 ≤ (nowB b (ws.take i)).length ∧ 0 < p.2.length
  | (k, l) :: r, b, 0, p, h, hp => by
    simp only [List.getElem?_cons_zero, Option.some.injEq] at hp
    subst hp
    exact ⟨h.1, h.2.1⟩
  | (k, l) :: r, b, i + 1, p, h, hp => by
    have := wsOk_at (b := overB b k l) (i := i) h.2.2 (by simpa using hp)
    exact this
  | [], b, i, p, h, hp => by simp at hp
theorem wsOk_take : ∀ {ws : List Wr} {b : Bys} (i : Nat), wsOk b ws → wsOk b (ws.take i)
  | [], b, i, h => by simp [wsOk]
  | (k, l) :: r, b, 0, h => trivial
  | (k, l) :: r, b, i + 1, h => ⟨h.1, h.2.1, wsOk_take i h.2.2⟩
section
variable {T : Tags} {w : World} {K : Value → World → Prop}
set_option maxHeartbeats 1000000 in
theorem cOmade {bv lv : Value} {b l : Bys} {k : Nat} (hb : SlB w bv b) (hl : SlB w lv l) (hk : k ≤ b.length) (h1 : b.length ≤ 35184372088832) (h2 : k + l.length ≤ 35184372088832)
    (hK : ∀ v' w', w'.ownsRow w.heap.size 5 1 v' (overB b k l).length (byteCells (overB b k l)) → Ext No w w' → K v' w') : CallS Tryz.prog 131 #[bv, .agg [.int .i64 (k : Int), lv].toArray] K w := by
  refine s131_call hm ?_
  unfold s131
  refine box fun w1 b1 e1 z1 => ?_
  have b1' : Blk w1 w.heap.size 160 [.int .i64 (k : Int), lv] := b1
  refine copy_row TB (Sl.no hb e1) (byteCells_one _) (by omega) (by omega) fun v2 w2 ho2 e2 => ?_
  have e02 := e1.trans e2
  refine join1 (fun v w' => w'.ownsRow w.heap.size 5 1 v (overB b k l).length (byteCells (overB b k l)) ∧ Ext No w w') (fun v w' h => hK v w' h.1 h.2) fun J0 hJ0 => ?_
  refine loop2 (σ := Nat) (fun i v a w' => a = .int .i64 (i : Int) ∧ i ≤ l.length ∧ w'.ownsRow w1.heap.size 5 1 v (overB b k (l.take i)).length (byteCells (overB b k (l.take i))) ∧ Ext No w1 w') (fun i => l.length - i) 0
    ⟨rfl, Nat.zero_le _, by rw [List.take_zero]; unfold overB; simp; simpa using ho2, e2⟩ ?_
  rintro i v _ w3 ⟨rfl, hi, ho3, e3⟩ L1 hL1
  have b3 := b1'.no e3
  have hl3 := (Sl.no hl e1).no e3
  have e03 := e1.trans e3
  have hcl := overB_len (b := b) (l := l.take i) hk
  have htl : (l.take i).length = i := by simp; omega
  refine pur (field_ptr _ _ _) (loadB b3 (v := lv) rfl (pur hl3.len (pur (bin_lss _ _ _) (condD (fun hlt => ?_) (fun hge => hJ0 _ _ ⟨?_, e03⟩)))))
  rotate_left
  · rw [List.take_of_length_le (by omega)] at ho3
    exact owns_base ho3 fun g hg => by have := (ho3.lt g hg).1; have := e1.size; omega
  obtain ⟨c, hc⟩ := getN (xs := l) (i := i) (by omega)
  have hts : l.take (i + 1) = l.take i ++ [c] := by rw [List.take_add_one, hc]; rfl
  have hcc : (byteCells l)[i]? = some (.int .u8 (c.toNat : Int)) := by unfold byteCells; rw [List.getElem?_map, hc]; rfl
  refine join1 (fun v w' => w'.ownsRow w1.heap.size 5 1 v (overB b k (l.take (i + 1))).length (byteCells (overB b k (l.take (i + 1)))) ∧ Ext No w1 w') (fun v w' h => pur (add64 (c := ((i + 1 : Nat) : Int)) (by omega) (by omega) (by omega)) (hL1 (i + 1) _ _ _ ⟨rfl, by omega, h.1, h.2⟩ (by omega))) fun J2 hJ2 => ?_
  refine pur (field_ptr _ _ _) (loadB b3 (v := .int .i64 (k : Int)) rfl (pur (add64 (c := ((k + i : Nat) : Int)) (by omega) (by omega) (by omega)) (pur (Sl.own ho3).len (pur (bin_lss _ _ _) (condD (fun hin => ?_) (fun hout => ?_))))))
  · have ed := Ext.drew (S := No) w3
    have b3d := b3.no ed
    have hl3d := hl3.no ed
    have ho3d := owns_ext ho3 ed fun _ _ hh => hh
    obtain ⟨a1, r1, r2, r3⟩ := sl_idx1 hl3d hcc .i64
    obtain ⟨x, hx⟩ := getN (xs := byteCells (overB b k (l.take i))) (i := k + i) (by rw [byteCells_length]; omega)
    obtain ⟨gg, q0, q1, _, q3⟩ := Own.at1 ho3d hx .i64
    refine draw (fun w' => w' = w3.drew) rfl (pur (field_ptr _ _ _) (pur (field_ptr _ _ _) ?_))
    refine heldC (v := .int .i64 (k : Int)) (fun w' hh => by rw [hh]; exact b3d.cell 0) (pur (add64 (c := ((k + i : Nat) : Int)) (by omega) (by omega) (by omega)) ?_)
    refine heldC (v := lv) (fun w' hh => by rw [hh]; exact b3d.cell 1) (pur r1 (heldC (v := .int .u8 (c.toNat : Int)) (fun w' hh => by rw [hh]; exact r3 _ hl3d) (pur q1 ?_)))
    refine q3 _ rfl fun w4 ho4 e4 z4 => hJ2 _ _ ⟨?_, (e3.trans ed).fresh e4 fun g hg => .inr (by rw [show g = gg from hg]; exact (ho3d.lt gg q0).1)⟩
    have hbl : k + i < b.length := by omega
    rw [hts, ← overB_set hk htl hbl]
    have e5 : (byteCells (overB b k (l.take i))).set (k + i) (.int .u8 (c.toNat : Int)) = byteCells ((overB b k (l.take i)).set (k + i) c) := by unfold byteCells; rw [List.map_set]
    rw [List.length_set, ← e5]
    exact ho4
  · obtain ⟨a1, r1, r2, r3⟩ := sl_idx1 hl3 hcc .i64
    refine pur (field_ptr _ _ _) (loadB b3 (v := lv) rfl (pur r1 (SG.load (S := No) (r3 _ hl3) ?_)))
    refine row_one TB ho3 (u := .int .u8 (c.toNat : Int)) rfl (by simp [Value.cells, Value.oneCell']) (by omega) (by omega) e3.size fun v4 w4 ho4 e4 _ => hJ2 _ _ ⟨?_, e3.fresh e4 fun g hg => .inr (ho3.lt g hg).1⟩
    rw [hts, ← overB_push hk htl (by omega)]
    have e5 : byteCells (overB b k (l.take i) ++ [c]) = byteCells (overB b k (l.take i)) ++ [.int .u8 (c.toNat : Int)] := by rw [byteCells_append]; rfl
    rw [List.length_append, e5]
    exact ho4
theorem cXbytes {p : P2} {f : Fi} (h : FilI T w p f) {B : Nat} (hf : FiOk B f) (hB : B ≤ 536870912) (hn : f.ws.length ≤ 2199023255552) (hK : ∀ v' w', w'.ownsRow w.heap.size 5 1 v' f.now.length (byteCells f.now) → Ext No w w' → K v' w') : CallS Tryz.prog 95 #[.agg [p.1, p.2].toArray] K w := by
  refine s95_call hm ?_
  unfold s95
  obtain ⟨hf1, hf2, hf3⟩ := hf
  refine box fun w1 b1 e1 z1 => ?_
  have b1' : Blk w1 w.heap.size 135 [p.1, p.2] := b1
  have hfl : f.fast.length ≤ 536870912 := Nat.le_trans hf1 hB
  have hnow : ∀ i, (nowB f.fast (f.ws.take i)).length ≤ B := fun i => (nowB_len (f.ws.take i) f.fast hf1 (wsOk_take i hf2) fun p hp => hf3 p (List.mem_of_mem_take hp)).1
  have h1 : SlB w1 p.1 f.fast := Sl.no h.1.1 e1
  refine build0 TB fun w2 b2 e2 z2 => pur (field_ptr _ _ _) (loadB (b1'.no e2) (v := p.1) rfl ?_)
  refine app_own (w := w1) TB e2 (Blk.own0 b2 (Nat.le_refl _)) (Sl.no h1 e2) (byteCells_one _) (by omega) (by omega) fun v3 w3 ho3 e3 => ?_
  have hws := h.2
  have hlen : lenSliceV p.2 = some (.int .i64 (f.ws.length : Int)) := by obtain ⟨qs, _, h2, _⟩ := hws; exact h2.1.len
  refine join1 (fun v w' => w'.ownsRow w1.heap.size 5 1 v f.now.length (byteCells f.now) ∧ Ext No w1 w') (fun v w' h => hK v w' (owns_base h.1 fun g hg => by have := (h.1.lt g hg).1; have := e1.size; omega) (e1.trans h.2)) fun J0 hJ0 => ?_
  refine loop2 (σ := Nat) (fun i v a w' => a = .int .i64 (i : Int) ∧ i ≤ f.ws.length ∧ w'.ownsRow w1.heap.size 5 1 v (nowB f.fast (f.ws.take i)).length (byteCells (nowB f.fast (f.ws.take i))) ∧ Ext No w1 w') (fun i => f.ws.length - i) 0 ⟨rfl, Nat.zero_le _, by simpa [nowB] using ho3, e3⟩ ?_
  rintro i v _ w4 ⟨rfl, hi, ho4, e4⟩ L1 hL1
  have b4 := b1'.no e4
  refine pur (field_ptr _ _ _) (loadB b4 (v := p.2) rfl (pur hlen (pur (bin_lss _ _ _) (condD (fun hlt => ?_) (fun hge => hJ0 _ _ ⟨?_, e4⟩)))))
  rotate_left
  · rw [List.take_of_length_le (by omega)] at ho4
    exact ho4
  obtain ⟨q, hq⟩ := getN (xs := f.ws) (i := i) (by omega)
  obtain ⟨ad, bv, r1, r2, r3⟩ := hws.at_ hq
  have hok := wsOk_at hf2 hq
  have hql := hf3 q (List.mem_of_getElem? hq)
  have hni := hnow i
  refine pur (field_ptr _ _ _) (loadB b4 (v := p.2) rfl (pur r1 (loadA (At.no' r2 (e1.trans e4)) rfl ?_)))
  refine cOmade (b := nowB f.fast (f.ws.take i)) (l := q.2) (k := q.1) (Sl.own ho4) (Sl.no r3.1 (e1.trans e4)) hok.1 (by omega) (by omega) fun v5 w5 ho5 e5 => ?_
  refine pur (add64 (c := ((i + 1 : Nat) : Int)) (by omega) (by omega) (by omega)) (hL1 (i + 1) _ _ _ ⟨rfl, by omega, ?_, e4.trans e5⟩ (by omega))
  have e6 : nowB f.fast (f.ws.take (i + 1)) = overB (nowB f.fast (f.ws.take i)) q.1 q.2 := by rw [List.take_add_one, hq]; exact nowB_app _ _ q
  rw [e6]
  exact owns_base ho5 fun g hg => by have := (ho5.lt g hg).1; have := e4.size; omega
theorem cXopen {p : P2} {f : Fi} (h : FilI T w p f) (hn : f.ws.length ≤ 2199023255552) (hK : ∀ w', Ext No w w' → K (.int .i64 f.openI) w') : CallS Tryz.prog 108 #[.agg [p.1, p.2].toArray] K w := by
  refine s108_call hm ?_
  unfold s108
  refine box fun w1 b1 e1 z1 => ?_
  have b1' : Blk w1 w.heap.size 135 [p.1, p.2] := b1
  have hws := h.2
  have hlen : lenSliceV p.2 = some (.int .i64 (f.ws.length : Int)) := by obtain ⟨qs, _, h2, _⟩ := hws; exact h2.1.len
  refine join1 (fun v w' => v = .int .i64 f.openI ∧ w1 = w') (fun v w' h => by obtain ⟨rfl, rfl⟩ := h; exact hK w1 e1) fun J0 hJ0 => ?_
  refine loop2 (σ := Nat) (fun i v a w' => a = .int .i64 (i : Int) ∧ i ≤ f.ws.length ∧ v = .int .i64 (IntKind.i64.wrap (((f.ws.take i).map fun p => p.2.length).sum : Nat)) ∧ w1 = w') (fun i => f.ws.length - i) 0 ⟨rfl, Nat.zero_le _, rfl, rfl⟩ ?_
  rintro i _ _ _ ⟨rfl, hi, rfl, rfl⟩ L1 hL1
  refine pur (field_ptr _ _ _) (loadB b1' (v := p.2) rfl (pur hlen (pur (bin_lss _ _ _) (condD (fun hlt => ?_) (fun hge => hJ0 _ _ ⟨by rw [List.take_of_length_le (by omega)]; rfl, rfl⟩)))))
  obtain ⟨q, hq⟩ := getN (xs := f.ws) (i := i) (by omega)
  obtain ⟨ad, bv, r1, r2, r3⟩ := hws.at_ hq
  have r2' := At.no' r2 e1
  refine pur (field_ptr _ _ _) (loadB b1' (v := p.2) rfl (pur r1 (pur (field_ad _ _) (SG.load (S := No) (r2' 1 _ rfl) (pur r3.1.len (pur (bin_add _ _ _) (pur (add64 (c := ((i + 1 : Nat) : Int)) (by omega) (by omega) (by omega)) (hL1 (i + 1) _ _ _ ⟨rfl, by omega, ?_, rfl⟩ (by omega)))))))))
  rw [wrap_add, List.take_add_one, hq]
  congr 2
  simp
theorem keptB_step {c : Bys} {k : Nat} {l : Bys} {r : List Wr} {n : Nat} (hn : 0 < n) (hl : 0 < l.length) : keptB c ((k, l) :: r) n = keptB (overB c k (l.take (min n l.length))) r (n - min n l.length) := by
  show keptB (if 0 < min n l.length then _ else _) r _ = _
  rw [if_pos (by omega)]
theorem buildFilB (w : World) (a : Option Addr) (n c : Nat) : (Instr.build 135 [(0, .slice a n c)].toArray).run Tryz.prog w = .ok (.agg #[.slice a n c, .slice none 0 0]) w := by kernel_rfl
set_option maxHeartbeats 2000000 in
theorem cXkept {p : P2} {f : Fi} (h : FilI T w p f) {B n : Nat} (hf : FiOk B f) (hB : B ≤ 536870912) (hn : f.ws.length ≤ 2199023255552) (hnn : n ≤ 9223372036854775807) (hK : ∀ v' w', w'.ownsRow w.heap.size 5 1 v' (keptB f.fast f.ws n).length (byteCells (keptB f.fast f.ws n)) → Ext No w w' → K (.agg [v', .slice none 0 0].toArray) w') : CallS Tryz.prog 109 #[.agg [p.1, p.2].toArray, .int .i64 (n : Int)] K w := by
  refine s109_call hm ?_
  unfold s109
  obtain ⟨hf1, hf2, hf3⟩ := hf
  have hfl : f.fast.length ≤ 536870912 := Nat.le_trans hf1 hB
  refine box fun w0 b0 e0 z0 => box fun w1 b1 e1' z1 => ?_
  have e1 := e0.trans e1'
  have b0' : Blk w1 w.heap.size 135 [p.1, p.2] := Blk.no (cs := [p.1, p.2]) b0 e1'
  have b1' : Blk w1 w0.heap.size 135 [.slice none 0 0, .slice none 0 0] := b1
  have hws := h.2
  have hlen : lenSliceV p.2 = some (.int .i64 (f.ws.length : Int)) := by obtain ⟨qs, _, h2, _⟩ := hws; exact h2.1.len
  refine build0 TB fun w2 b2 e2 z2 => pur (field_ptr _ _ _) (loadB (b0'.no e2) (v := p.1) rfl ?_)
  refine app_own (w := w1) TB e2 (Blk.own0 b2 (Nat.le_refl _)) (Sl.no (Sl.no h.1.1 e1) e2) (byteCells_one _) (by omega) (by omega) fun v3 w3 ho3 e3 => ?_
  refine join1 (fun v w' => w'.ownsRow w1.heap.size 5 1 v (keptB f.fast f.ws n).length (byteCells (keptB f.fast f.ws n)) ∧ Ext No w1 w') ?_ fun J0 hJ0 => ?_
  · rintro v w4 ⟨ho4, e4⟩
    have hv : ∃ a n c, v = .slice a n c := by
      rcases ho4.2 with ⟨rfl, _⟩ | ⟨_, _, _, rfl, _⟩ <;> exact ⟨_, _, _, rfl⟩
    obtain ⟨va, vn, vc, rfl⟩ := hv
    refine runS (buildFilB w4 va vn vc) (storeAll (b1'.no e4) rfl rfl (by simp [Value.oneCell']) fun w5 b5 e5 z5 => loadA (At.of_blk b5) rfl (hK _ w5 ?_ ((e1.trans e4).fresh e5 fun g hg => .inr (by rw [show g = w0.heap.size from hg]; exact e0.size))))
    have hne := Own.ne_blk ho4 (b1'.no e4) (by decide)
    exact owns_base (owns_ext ho4 e5 fun g hg hh => hne (by rw [hg, show g = w0.heap.size from hh])) fun g hg => by have := (ho4.lt g hg).1; have := e1.size; omega
  refine loop3 (σ := Nat × Nat × Bys) (fun s m v a w' => a = .int .i64 (s.1 : Int) ∧ s.1 ≤ f.ws.length ∧ m = .int .i64 (s.2.1 : Int) ∧ s.2.1 ≤ n ∧ w'.ownsRow w1.heap.size 5 1 v s.2.2.length (byteCells s.2.2) ∧ Ext No w1 w' ∧ s.2.2.length ≤ B ∧ (s.2.1 = 0 ∨ wsOk s.2.2 (f.ws.drop s.1)) ∧ keptB s.2.2 (f.ws.drop s.1) s.2.1 = keptB f.fast f.ws n) (fun s => f.ws.length - s.1) (0, n, f.fast)
    ⟨rfl, Nat.zero_le _, rfl, Nat.le_refl _, by simpa using ho3, e3, hf1, .inr hf2, rfl⟩ ?_
  rintro ⟨j, m, c⟩ _ v _ w4 ⟨rfl, hj, rfl, hmn, ho4, e4, hcB, hok, hkb⟩ L1 hL1
  simp only at hj hmn ho4 hcB hok hkb hL1 ⊢
  have b4 := b0'.no e4
  have stop : (m = 0 ∨ f.ws.length ≤ j) → J0 v w4 := fun hst => hJ0 _ _ ⟨by
    have : keptB c (f.ws.drop j) m = c := by
      rcases hst with h0 | h0
      · rw [h0, keptB_zero]
      · rw [List.drop_of_length_le h0]; rfl
    rw [← hkb, this]; exact ho4, e4⟩
  refine pur (field_ptr _ _ _) (loadB b4 (v := p.2) rfl (pur hlen (pur (bin_lss _ _ _) ?_)))
  by_cases hjl : j < f.ws.length
  rotate_left
  · exact andF (by rw [decide_eq_false_iff_not]; omega) (condF rfl (stop (.inr (by omega))))
  refine andT (by rw [decide_eq_true_iff]; omega) (pur (bin_gtr _ _ _) (pur (pickT _ _) (condD (fun hm0 => ?_) (fun hm0 => stop (.inl (by omega))))))
  obtain ⟨⟨k, l⟩, hq⟩ := getN (xs := f.ws) (i := j) hjl
  obtain ⟨ad, bv, r1, r2, r3⟩ := hws.at_ hq
  have hdr : f.ws.drop j = (k, l) :: f.ws.drop (j + 1) := by
    have := (List.getElem?_eq_some_iff.1 hq)
    rw [List.drop_eq_getElem_cons this.1, this.2]
  rw [hdr] at hok hkb
  have hok' := hok.resolve_left (by omega)
  have hql := hf3 (k, l) (List.mem_of_getElem? hq)
  simp only at hql r2 r3
  rw [keptB_step (by omega) hok'.2.1] at hkb
  refine pur (field_ptr _ _ _) (loadB b4 (v := p.2) rfl (pur r1 (loadA (At.no' r2 (e1.trans e4)) rfl ?_)))
  refine box fun w5 b5 e5 z5 => storeAll b5 rfl (by simp [Value.cells]) (by
    intro u hu
    simp only [List.mem_cons, List.not_mem_nil, or_false] at hu
    rcases hu with rfl | rfl
    · rfl
    · exact r3.one) fun w6 b6 e6 z6 => ?_
  have e46 : Ext No w4 w6 := e5.fresh e6 fun g hg => .inr (by rw [show g = w4.heap.size from hg]; exact Nat.le_refl _)
  have ho6 := owns_ext ho4 e46 fun _ _ hh => hh
  have hs6 : SlB w6 bv l := Sl.no r3.1 ((e1.trans e4).trans e46)
  -- behind the cutting
  refine join0 (fun w' => ∃ lv, Blk w' w4.heap.size 160 [.int .i64 (k : Int), lv] ∧ SlB w' lv (l.take (min m l.length)) ∧ Ext No w4 w') ?_ fun J3 hJ3 => ?_
  · rintro w7 ⟨lv, b7, s7, e47⟩
    have ho7 := owns_ext ho4 e47 fun _ _ hh => hh
    refine loadA (At.of_blk b7) rfl (cOmade (b := c) (l := l.take (min m l.length)) (k := k) (Sl.own ho7) s7 hok'.1 (by omega) (by simp; omega) fun v8 w8 ho8 e8 => ?_)
    have hmin : (l.take (min m l.length)).length = min m l.length := by simp
    refine pur (field_ptr _ _ _) (loadB (b7.no e8) (v := lv) rfl (pur (Sl.no s7 e8).len (pur (sub64 (c := ((m - min m l.length : Nat) : Int)) (by rw [hmin]; omega) (by omega) (by omega)) (pur (add64 (c := ((j + 1 : Nat) : Int)) (by omega) (by omega) (by omega)) (hL1 (j + 1, m - min m l.length, overB c k (l.take (min m l.length))) _ _ _ _ ⟨rfl, by simp only; omega, rfl, by simp only; omega, ?_, (e4.trans e47).trans e8, ?_, ?_, hkb⟩ (by simp only; omega))))))
    · exact owns_base ho8 fun g hg => by have := (ho8.lt g hg).1; have := (e4.trans e47).size; omega
    · show (overB c k (l.take (min m l.length))).length ≤ B
      rw [overB_len hok'.1]; simp; omega
    · show m - min m l.length = 0 ∨ wsOk (overB c k (l.take (min m l.length))) (f.ws.drop (j + 1))
      by_cases hml : m ≤ l.length
      · left; omega
      · right
        rw [List.take_of_length_le (by omega)]
        exact hok'.2.2
  · refine pur (field_ptr _ _ _) (loadB b6 (v := bv) rfl (pur hs6.len (pur (bin_gtr _ _ _) (condD (fun hgt => ?_) (fun hle => hJ3 _ ⟨bv, b6, by rw [List.take_of_length_le (by omega)]; exact hs6, e46⟩)))))
    obtain ⟨v', t1, t2, t3⟩ := sl_takeB hs6 (n := m) (by omega) .i64
    have hone' : v'.oneCell' = true := Sl.one t2
    refine pur (field_ptr _ _ _) (loadB b6 (v := bv) rfl (pur t1 (pur (field_ptr _ _ _) (storeB b6 (by simp) hone' fun w7 b7 e7 z7 => hJ3 _ ⟨v', b7, ?_, e46.fresh e7 fun g hg => .inr (by rw [show g = w4.heap.size from hg]; exact Nat.le_refl _)⟩))))
    rw [Nat.min_eq_left (by omega)]
    refine Sl.ext t2 e7 fun g hg hh => ?_
    have hs4 := (e1.trans e4).size
    rcases t3 with t3 | t3
    · have := (r3.2 g (by rw [← t3]; exact hg)).1
      have h2 : g = w4.heap.size := hh
      omega
    · rw [t3] at hg; cases hg
end
end Go.Proofs.YthohdinjpkehpaaGreat

namespace Go.Proofs.YthohdinjpkehpaaGreat
open Go SG Go.RowKit
set_option linter.unusedVariables false
set_option maxRecDepth 4000
set_option linter.unusedSimpArgs false

def numC (l : List Nat) : List Value := l.map fun (n : Nat) => .int .i64 (n : Int)
theorem numC_app (a b : List Nat) : numC (a ++ b) = numC a ++ numC b := by unfold numC; rw [List.map_append]
def idsD (D : Di) : List Nat := D.now.map (·.2)
theorem items_ids (l : List Di) : (items l).map (·.2) = l.flatMap idsD := by
  induction l with
  | nil => rfl
  | cons D l ih =>
    have : items (D :: l) = itemsD D ++ items l := by simp [items]
    rw [this, List.map_append, ih, List.flatMap_cons]
    congr 1
    unfold itemsD idsD
    rw [List.map_map]; rfl
theorem fldN0 (w : World) (a b : Value) : (Instr.field 129 (.agg [a, b].toArray) 0).run Tryz.prog w = .ok a w := by kernel_rfl
theorem fldN1 (w : World) (a b : Value) : (Instr.field 129 (.agg [a, b].toArray) 1).run Tryz.prog w = .ok b w := by kernel_rfl
section
variable {T : Tags} {w : World} {d g : Nat} {st : Dk} {dv fv : Value} {K : Value → World → Prop}
theorem cOhas {v : Value} {l : List Nat} (h : Sl w v l.length 1 (numC l)) (hl : l.length ≤ 9007199254740992) {n : Nat} (hK : K (.bool (decide (n ∈ l))) w) : CallS Tryz.prog 132 #[v, .int .i64 (n : Int)] K w := by
  refine s132_call hm ?_
  unfold s132
  refine join0 (fun w' => w = w' ∧ n ∉ l) (fun w' hh => by obtain ⟨rfl, hh⟩ := hh; rw [decide_eq_false hh] at hK; exact hK) fun J0 hJ0 => ?_
  refine loop1 (σ := Nat) (fun i a w' => a = .int .i64 (i : Int) ∧ w = w' ∧ i ≤ l.length ∧ n ∉ l.take i) (fun i => l.length - i) 0 ⟨rfl, rfl, Nat.zero_le _, by simp⟩ ?_
  rintro i _ _ ⟨rfl, rfl, hi, hno⟩ L1 hL1
  refine pur h.len (pur (bin_lss _ _ _) (condD (fun hlt => ?_) (fun hge => hJ0 _ ⟨rfl, by rwa [List.take_of_length_le (by omega)] at hno⟩)))
  obtain ⟨m, hm0⟩ := getN (xs := l) (i := i) (by omega)
  obtain ⟨ad, q1, q2, q3⟩ := sl_idx1 h (i := i) (v := .int .i64 (m : Int)) (by unfold numC; rw [List.getElem?_map, hm0]; rfl) .i64
  refine pur q1 (SG.load (S := No) (q3 _ h) (pur (bin_eql _ _ _) (condD (fun he => ?_) (fun hne => ?_))))
  · have : n ∈ l := by
      have h2 : m = n := by omega
      rw [← h2]; exact List.mem_of_getElem? hm0
    rw [decide_eq_true this] at hK; exact hK
  · refine pur (add64 (c := ((i + 1 : Nat) : Int)) (by omega) (by omega) (by omega)) (hL1 (i + 1) _ _ ⟨rfl, rfl, by omega, fun hh => ?_⟩ (by omega))
    rw [List.take_add_one, hm0] at hh
    rcases List.mem_append.1 hh with hh | hh
    · exact hno hh
    · simp at hh; omega
set_option maxHeartbeats 1000000 in
theorem Doc.all (h : Doc T d w g st dv fv) {B n : Nat} (hW : Wf B n st) (hn : n ≤ 2199023255552) (hK : ∀ v w', w'.ownsRow w.heap.size 3 1 v (distinct ((items st.dirs).map (·.2))).length (numC (distinct ((items st.dirs).map (·.2)))) → Ext No w w' → K v w') : CallS Tryz.prog 107 #[ptrE g] K w := by
  refine s107_call hm ?_
  unfold s107
  have hdl := hW.dlen
  have hil := hW.items_le
  rw [items_ids] at hK
  have hids : (st.dirs.flatMap idsD).length ≤ 65536 := by rw [← items_ids, List.length_map]; exact hil
  have hlen : lenSliceV dv = some (.int .i64 (st.dirs.length : Int)) := by obtain ⟨qs, _, h2, _⟩ := h.dirs; exact h2.1.len
  refine join1 (fun v w' => w'.ownsRow w.heap.size 3 1 v (distinct (st.dirs.flatMap idsD)).length (numC (distinct (st.dirs.flatMap idsD))) ∧ Ext No w w') (fun v w' h => hK v w' h.1 h.2) fun J0 hJ0 => ?_
  refine loop2 (σ := Nat) (fun i v a w' => a = .int .i64 (i : Int) ∧ i ≤ st.dirs.length ∧ w'.ownsRow w.heap.size 3 1 v (distinct ((st.dirs.take i).flatMap idsD)).length (numC (distinct ((st.dirs.take i).flatMap idsD))) ∧ Ext No w w') (fun i => st.dirs.length - i) 0 ⟨rfl, Nat.zero_le _, by simpa [distinct, numC] using World.ownsRow_nil w w.heap.size 3 1, Ext.refl _ _⟩ ?_
  rintro i v _ w1 ⟨rfl, hi, ho1, e1⟩ L1 hL1
  refine (h.no e1).ld (k := 1) rfl (pur hlen (pur (bin_lss _ _ _) (condD (fun hlt => ?_) (fun hge => hJ0 _ _ ⟨?_, e1⟩))))
  rotate_left
  · rw [List.take_of_length_le (by omega)] at ho1; exact ho1
  obtain ⟨D, hD⟩ := getN (xs := st.dirs) (i := i) (by omega)
  have hDm := List.mem_of_getElem? hD
  have hts : (st.dirs.take (i + 1)).flatMap idsD = (st.dirs.take i).flatMap idsD ++ idsD D := by rw [List.take_add_one, hD, List.flatMap_append]; simp
  have hpre : ((st.dirs.take i).flatMap idsD ++ idsD D).length ≤ 65536 := by
    rw [← hts]
    have : ((st.dirs.take (i + 1)).flatMap idsD).length ≤ (st.dirs.flatMap idsD).length := by
      conv => rhs; rw [← List.take_append_drop (i + 1) st.dirs, List.flatMap_append, List.length_append]
      omega
    omega
  have hwl := hW.wlen D hDm
  refine join1 (fun v w' => w'.ownsRow w.heap.size 3 1 v (distinct ((st.dirs.take (i + 1)).flatMap idsD)).length (numC (distinct ((st.dirs.take (i + 1)).flatMap idsD))) ∧ Ext No w w') (fun v w' h => pur (add64 (c := ((i + 1 : Nat) : Int)) (by omega) (by omega) (by omega)) (hL1 (i + 1) _ _ _ ⟨rfl, by omega, h.1, h.2⟩ (by omega))) fun J2 hJ2 => ?_
  refine h.now e1 hD (by omega) fun p w2 hp e2 => runS (fldN1 w2 p.1 p.2) ?_
  have hidl : (idsD D).length = D.now.length := by unfold idsD; simp
  have hidn : (idsD D).length ≤ 1024 := by rw [hidl]; exact (hW.now_ D hDm).2.1
  have e02 := e1.trans e2
  have hs2 : Sl w p.2 (idsD D).length 1 (numC (idsD D)) := by
    rw [hidl]
    have := hp.2.1
    unfold numC idsD
    rw [List.map_map]; exact this
  have ho2 := owns_ext ho1 e2 fun _ _ hh => hh
  refine loop2 (σ := Nat) (fun k v a w' => a = .int .i64 (k : Int) ∧ k ≤ (idsD D).length ∧ w'.ownsRow w.heap.size 3 1 v (distinct ((st.dirs.take i).flatMap idsD ++ (idsD D).take k)).length (numC (distinct ((st.dirs.take i).flatMap idsD ++ (idsD D).take k))) ∧ Ext No w w') (fun k => (idsD D).length - k) 0 ⟨rfl, Nat.zero_le _, by rw [List.take_zero, List.append_nil]; exact ho2, e02⟩ ?_
  rintro k v _ w3 ⟨rfl, hk, ho3, e3⟩ L3 hL3
  have hs3 := hs2.no e3
  have e03 := e3
  refine pur hs3.len (pur (bin_lss _ _ _) (condD (fun hlt2 => ?_) (fun hge2 => hJ2 _ _ ⟨?_, e03⟩)))
  rotate_left
  · rw [List.take_of_length_le (l := idsD D) (by omega), ← hts] at ho3; exact ho3
  obtain ⟨m, hm0⟩ := getN (xs := idsD D) (i := k) (by omega)
  obtain ⟨ad, q1, q2, q3⟩ := sl_idx1 hs3 (i := k) (v := .int .i64 (m : Int)) (by unfold numC; rw [List.getElem?_map, hm0]; rfl) .i64
  have htk : (st.dirs.take i).flatMap idsD ++ (idsD D).take (k + 1) = ((st.dirs.take i).flatMap idsD ++ (idsD D).take k) ++ [m] := by rw [List.take_add_one, hm0]; simp
  have hdl3 : (distinct ((st.dirs.take i).flatMap idsD ++ (idsD D).take k)).length ≤ 65536 := by
    have h1 := distinct_len ((st.dirs.take i).flatMap idsD ++ (idsD D).take k)
    rw [List.length_append] at h1 hpre
    have : ((idsD D).take k).length ≤ (idsD D).length := by simp; omega
    omega
  refine join1 (fun v w' => w'.ownsRow w.heap.size 3 1 v (distinct ((st.dirs.take i).flatMap idsD ++ (idsD D).take (k + 1))).length (numC (distinct ((st.dirs.take i).flatMap idsD ++ (idsD D).take (k + 1)))) ∧ Ext No w w') (fun v w' h => pur (add64 (c := ((k + 1 : Nat) : Int)) (by omega) (by omega) (by omega)) (hL3 (k + 1) _ _ _ ⟨rfl, by omega, h.1, h.2⟩ (by omega))) fun J4 hJ4 => ?_
  refine pur q1 (SG.load (S := No) (q3 _ hs3) (cOhas (Sl.own ho3) (by omega) (pur (not_b _) (condB (fun hc => ?_) (fun hc => ?_)))))
  · have hni : ¬ m ∈ distinct ((st.dirs.take i).flatMap idsD ++ (idsD D).take k) := by simpa using hc
    refine pur q1 (SG.load (S := No) (q3 _ hs3) (row_one TI ho3 (u := .int .i64 (m : Int)) rfl (by simp [Value.cells, Value.oneCell']) (by omega) (by omega) e03.size fun v4 w4 ho4 e4 _ => hJ4 _ _ ⟨?_, ?_⟩))
    · rw [htk, distinct_app, if_neg hni, numC_app, List.length_append]
      exact ho4
    · exact e3.fresh e4 fun g hg => .inr (ho3.lt g hg).1
  · have hi' : m ∈ distinct ((st.dirs.take i).flatMap idsD ++ (idsD D).take k) := by simpa using hc
    refine hJ4 _ _ ⟨?_, e3⟩
    rw [htk, distinct_app, if_pos hi']
    exact ho3
theorem Doc.Used (h : Doc T d w g st dv fv) {B n : Nat} (hW : Wf B n st) (hB : B ≤ 536870912) (hn : n ≤ 2199023255552) (hK : ∀ w', Ext No w w' → K (.int .i64 (st.used : Int)) w') : CallS Tryz.prog 64 #[ptrE g] K w := by
  refine s64_call hm ?_
  unfold s64
  refine h.all hW hn fun v w1 ho1 e1 => ?_
  have hil := hW.items_le
  have hu : (distinct ((items st.dirs).map (·.2))).length ≤ 65536 := Nat.le_trans (distinct_len _) (by rw [List.length_map]; exact hil)
  unfold Dk.used usedL at hK
  generalize hO : distinct ((items st.dirs).map (·.2)) = o at *
  have hov : ∀ i ∈ o, i < st.files.length := fun i hi => by
    rw [← hO] at hi
    have h2 := (distinct_mem _ i).1 hi
    obtain ⟨q, hq, rfl⟩ := List.mem_map.1 h2
    obtain ⟨D, hD, hqD⟩ := List.mem_flatMap.1 hq
    obtain ⟨r, hr, rfl⟩ := List.mem_map.1 hqD
    exact ((hW.now_ D hD).2.2 r hr).2
  refine join1 (fun v w' => v = .int .i64 (((o.map (lenAt st.files)).sum : Nat) : Int) ∧ Ext No w w') (fun v w' h => by obtain ⟨rfl, e⟩ := h; exact hK _ e) fun J0 hJ0 => ?_
  refine loop2 (σ := Nat) (fun i s a w' => a = .int .i64 (i : Int) ∧ i ≤ o.length ∧ s = .int .i64 ((((o.take i).map (lenAt st.files)).sum : Nat) : Int) ∧ Ext No w1 w') (fun i => o.length - i) 0 ⟨rfl, Nat.zero_le _, rfl, Ext.refl _ _⟩ ?_
  rintro i _ _ w2 ⟨rfl, hi, rfl, e2⟩ L1 hL1
  have hs2 := Sl.no (Sl.own ho1) e2
  refine pur hs2.len (pur (bin_lss _ _ _) (condD (fun hlt => ?_) (fun hge => hJ0 _ _ ⟨by rw [List.take_of_length_le (by omega)], e1.trans e2⟩)))
  obtain ⟨m, hm0⟩ := getN (xs := o) (i := i) (by omega)
  obtain ⟨f, hf⟩ := getN (xs := st.files) (i := m) (hov m (List.mem_of_getElem? hm0))
  have hfo := hW.fil f (List.mem_of_getElem? hf)
  have hnl := hfo.1.now_len
  have e12d : Ext No w1 w2.drew := e2.trans (Ext.drew w2)
  have hsd := Sl.no (Sl.own ho1) e12d
  have hd := h.no (e1.trans e12d)
  obtain ⟨ad, q1, q2, q3⟩ := sl_idx1 hsd (i := i) (v := .int .i64 (m : Int)) (by unfold numC; rw [List.getElem?_map, hm0]; rfl) .i64
  obtain ⟨ad2, p, r1, r2, r3⟩ := hd.files.at_ hf
  refine draw (fun w' => w' = w2.drew) rfl (pur (nil_ptr _) (pur (field_ptr _ _ _) (pur q1 ?_)))
  refine heldC (v := fv) (fun w' hh => by rw [hh]; exact hd.blk.cell 2) (heldC (v := .int .i64 (m : Int)) (fun w' hh => by rw [hh]; exact q3 _ hsd) (pur r1 ?_))
  refine heldA (xs := [p.1, p.2]) (fun w' hh => by rw [hh]; exact r2) rfl (cXbytes r3 hfo.1 hB (by omega) fun v3 w3 ho3 e3 => pur (Sl.own ho3).len ?_)
  have hla : lenAt st.files m = f.now.length := by unfold lenAt; rw [hf]; rfl
  have hsum : ((o.take (i + 1)).map (lenAt st.files)).sum = ((o.take i).map (lenAt st.files)).sum + f.now.length := by rw [List.take_add_one, hm0, List.map_append, List.sum_append]; simp [hla]
  have hbd : ((o.take (i + 1)).map (lenAt st.files)).sum ≤ 65536 * B := by
    have h1 := sum_le_mul (o.take (i + 1)) B (lenAt st.files) fun j _ => hW.flen_le j
    exact Nat.le_trans h1 (Nat.mul_le_mul_right _ (by simp; omega))
  refine pur (add64 (c := ((((o.take (i + 1)).map (lenAt st.files)).sum : Nat) : Int)) (by rw [hsum]; simp) (by omega) (by omega)) (pur (add64 (c := ((i + 1 : Nat) : Int)) (by omega) (by omega) (by omega)) (hL1 (i + 1) _ _ _ ⟨rfl, by omega, rfl, e12d.trans e3⟩ (by omega)))
end
end Go.Proofs.YthohdinjpkehpaaGreat

namespace SG
open Go Go.RowKit Go.Lib
set_option linter.unusedSimpArgs false
set_option linter.unusedVariables false

def Put2 (P : Program) (t1 t2 y1 y2 : TypeId) (S J : World → Prop) (o : Nat) (x y a b : Value) (w : World) : Prop :=
    ((RunS P (Instr.buildSlice t1 1 [(0, a)].toArray) (fun t33 w => S w ∧ ((RunS P (Builtin.append_ #[t1, t1] y1 [x, t33].toArray) (fun t34 w => S w ∧ PureS (fieldAddrV 0 (.pointer (some ⟨o, 0, none⟩))) fun t40 => RunS P (Instr.buildSlice t2 1 [(0, b)].toArray) (fun t38 w => S w ∧ RunS P (Builtin.append_ #[t2, t2] y2 [y, t38].toArray) (fun t39 w => StoreC t40 t34 (fun w => PureS (fieldAddrV 1 (.pointer (some ⟨o, 0, none⟩))) fun t41 => StoreC t41 t39 (fun w => J w) w) w) w) w) w) ∧
      (RunS P (Instr.buildSlice t2 1 [(0, b)].toArray) (fun t38 w => S w ∧ RunS P (Builtin.append_ #[t1, t1] y1 [x, t33].toArray) (fun t34 w => S w ∧ PureS (fieldAddrV 0 (.pointer (some ⟨o, 0, none⟩))) fun t40 => RunS P (Builtin.append_ #[t2, t2] y2 [y, t38].toArray) (fun t39 w => StoreC t40 t34 (fun w => PureS (fieldAddrV 1 (.pointer (some ⟨o, 0, none⟩))) fun t41 => StoreC t41 t39 (fun w => J w) w) w) w) w) w))) w) ∧
    (RunS P (Instr.buildSlice t2 1 [(0, b)].toArray) (fun t38 w => S w ∧ RunS P (Instr.buildSlice t1 1 [(0, a)].toArray) (fun t33 w => S w ∧ RunS P (Builtin.append_ #[t1, t1] y1 [x, t33].toArray) (fun t34 w => S w ∧ PureS (fieldAddrV 0 (.pointer (some ⟨o, 0, none⟩))) fun t40 => RunS P (Builtin.append_ #[t2, t2] y2 [y, t38].toArray) (fun t39 w => StoreC t40 t34 (fun w => PureS (fieldAddrV 1 (.pointer (some ⟨o, 0, none⟩))) fun t41 => StoreC t41 t39 (fun w => J w) w) w) w) w) w) w))
section
variable {P : Program} {t1 e1 t2 e2 tn : TypeId} {by1 by2 : Nat} {z1 z2 : Value}
set_option maxHeartbeats 1000000 in
theorem put_two (h1 : ElemT P t1 e1 1 by1 z1) (h2 : ElemT P t2 e2 1 by2 z2) {y1 y2 : TypeId} (h12 : e1 ≠ e2) (h1n : e1 ≠ tn) (h2n : e2 ≠ tn) {S J : World → Prop} {w : World} {base n m o : Nat} {x y a b : Value} {xs ys : List Value}
    (hx : w.ownsRow base e1 1 x n xs) (hy : w.ownsRow base e2 1 y m ys) (ho : Blk w o tn [x, y]) (ha : a.oneCell' = true) (hac : a.cells = #[a]) (hb : b.oneCell' = true) (hbc : b.cells = #[b]) (hbase : base ≤ w.heap.size) (hn : (n + 1) * by1 ≤ 140737488355328) (hn' : n + 1 ≤ 140737488355328) (hm : (m + 1) * by2 ≤ 140737488355328) (hm' : m + 1 ≤ 140737488355328)
    (hS : ∀ w', Ext (fun g => x.ownBlock = some g ∨ y.ownBlock = some g) w w' → S w')
    (hJ : ∀ x' y' w', w'.ownsRow base e1 1 x' (n + 1) (xs ++ [a]) → w'.ownsRow base e2 1 y' (m + 1) (ys ++ [b]) → Blk w' o tn [x', y'] → Ext (fun g => x.ownBlock = some g ∨ y.ownBlock = some g ∨ g = o) w w' → J w') :
    Put2 P t1 t2 y1 y2 S J o x y a b w := by
  have hxy : ∀ g, x.ownBlock = some g → y.ownBlock ≠ some g := Own.ne_own hx hy h12
  have hxo := Own.ne_blk hx ho h1n
  have hyo := Own.ne_blk hy ho h2n
  have no : ∀ {w1 w2 : World}, Ext No w1 w2 → Ext (fun g => x.ownBlock = some g ∨ y.ownBlock = some g) w1 w2 := fun e => e.no
  have fin : ∀ {w2 : World} {x' y' : Value}, w2.ownsRow base e1 1 x' (n + 1) (xs ++ [a]) → w2.ownsRow base e2 1 y' (m + 1) (ys ++ [b]) → Blk w2 o tn [x, y] → Ext (fun g => x.ownBlock = some g ∨ y.ownBlock = some g) w w2 →
      StoreC (.pointer (some ⟨o, 0 + 0, none⟩)) x' (fun w => PureS (fieldAddrV 1 (.pointer (some ⟨o, 0, none⟩))) fun t41 => StoreC t41 y' (fun w => J w) w) w2 := fun {w2 x' y'} hx' hy' ho' e => by
    refine storeB ho' (by simp) (Own.one hx') fun w3 b3 e3 z3 => pur (field_ptr _ _ _) (storeB b3 (by simp) (Own.one hy') fun w4 b4 e4 z4 => ?_)
    have e24 : Ext (At1 o) w2 w4 := e3.trans e4
    refine hJ x' y' w4 (owns_ext hx' e24 fun g hg hh => Own.ne_blk hx' ho' h1n (by rw [hg, show g = o from hh])) (owns_ext hy' e24 fun g hg hh => Own.ne_blk hy' ho' h2n (by rw [hg, show g = o from hh])) b4 ?_
    exact e.trans' e24 (fun g hg _ => hg.imp id .inl) fun g hg _ => .inr (.inr hg)
  have apx : ∀ {w1 : World} {gl : Nat} {K : Value → World → Prop}, w1.ownsRow base e1 1 x n xs → Blk w1 gl e1 [a] → base ≤ w1.heap.size → (∀ x' w2, w2.ownsRow base e1 1 x' (n + 1) (xs ++ [a]) → Ext (fun g => x.ownBlock = some g) w1 w2 → K x' w2) → RunS P (Builtin.append_ #[t1, t1] y1 [x, .slice (some ⟨gl, 0, none⟩) 1 1].toArray) K w1 := fun {w1 gl K} hx1 hl hb1 hK =>
    append_sl h1 y1 hx1 (hl.sl (n := 1) (c := 1) (size := 1) rfl (Nat.le_refl _)) (by simp [ha]) hn hn' hb1 fun v' w' ho' hg' _ => hK v' w' ho' (Ext.grown hg' fun g hg => hg)
  have apy : ∀ {w1 : World} {gl : Nat} {K : Value → World → Prop}, w1.ownsRow base e2 1 y m ys → Blk w1 gl e2 [b] → base ≤ w1.heap.size → (∀ y' w2, w2.ownsRow base e2 1 y' (m + 1) (ys ++ [b]) → Ext (fun g => y.ownBlock = some g) w1 w2 → K y' w2) → RunS P (Builtin.append_ #[t2, t2] y2 [y, .slice (some ⟨gl, 0, none⟩) 1 1].toArray) K w1 := fun {w1 gl K} hy1 hl hb1 hK =>
    append_sl h2 y2 hy1 (hl.sl (n := 1) (c := 1) (size := 1) rfl (Nat.le_refl _)) (by simp [hb]) hm hm' hb1 fun v' w' ho' hg' _ => hK v' w' ho' (Ext.grown hg' fun g hg => hg)
  have la : ∀ {w1 w2 : World} {g : Nat}, Blk w1 g e1 a.cells.toList → Ext No w1 w2 → Blk w2 g e1 [a] := fun {w1 w2 g} h e => by rw [hac] at h; exact Blk.no (cs := [a]) h e
  have lb : ∀ {w1 w2 : World} {g : Nat}, Blk w1 g e2 b.cells.toList → Ext No w1 w2 → Blk w2 g e2 [b] := fun {w1 w2 g} h e => by rw [hbc] at h; exact Blk.no (cs := [b]) h e
  have xn : ∀ {w1 : World}, Ext No w w1 → w1.ownsRow base e1 1 x n xs := fun e => owns_ext hx e fun _ _ hh => hh
  have yn : ∀ {w1 : World}, Ext No w w1 → w1.ownsRow base e2 1 y m ys := fun e => owns_ext hy e fun _ _ hh => hh
  -- x has grown: what stays
  have keep : ∀ {w1 w2 : World}, Ext No w w1 → Ext (fun g => x.ownBlock = some g) w1 w2 → w2.ownsRow base e2 1 y m ys ∧ Blk w2 o tn [x, y] ∧ Ext (fun g => x.ownBlock = some g ∨ y.ownBlock = some g) w w2 := fun {w1 w2} e e' =>
    ⟨owns_ext (yn e) e' fun g hg hh => hxy g hh hg, (ho.no e).ext e' fun hh => hxo hh, (no e).trans (e'.mono fun g hg _ => .inl hg)⟩
  have keep2 : ∀ {w1 w2 : World} {x' : Value}, w1.ownsRow base e1 1 x' (n + 1) (xs ++ [a]) → w1.ownsRow base e2 1 y m ys → Blk w1 o tn [x, y] → Ext (fun g => x.ownBlock = some g ∨ y.ownBlock = some g) w w1 → Ext (fun g => y.ownBlock = some g) w1 w2 → w2.ownsRow base e1 1 x' (n + 1) (xs ++ [a]) ∧ Blk w2 o tn [x, y] ∧ Ext (fun g => x.ownBlock = some g ∨ y.ownBlock = some g) w w2 := fun {w1 w2 x'} hx' hy1 ho1 e e' =>
    ⟨owns_ext hx' e' fun g hg hh => Own.ne_own hx' hy1 h12 g hg hh, ho1.ext e' fun hh => hyo hh, e.trans (e'.mono fun g hg _ => .inr hg)⟩
  unfold Put2
  refine ⟨build1 h1 (by rw [hac]; rfl) fun w1 b1 f1 q1 => ⟨hS _ (no f1), ?_, ?_⟩, build1 h2 (by rw [hbc]; rfl) fun w1 b1 f1 q1 => ⟨hS _ (no f1), build1 h1 (by rw [hac]; rfl) fun w2 b2 f2 q2 => ⟨hS _ (no (f1.trans f2)), ?_⟩⟩⟩
  · refine apx (xn f1) (la b1 (Ext.refl _ _)) (Nat.le_trans hbase f1.size) fun x' w2 hx' e2 => ?_
    obtain ⟨ky, ko, ke⟩ := keep f1 e2
    refine ⟨hS _ ke, pur (field_ptr _ _ _) (build1 h2 (by rw [hbc]; rfl) fun w3 b3 f3 q3 => ⟨hS _ (ke.trans (no f3)), ?_⟩)⟩
    have ky3 := owns_ext ky f3 fun _ _ hh => hh
    have hx3 := owns_ext hx' f3 fun _ _ hh => hh
    refine apy ky3 (lb b3 (Ext.refl _ _)) (Nat.le_trans hbase (ke.trans (no f3)).size) fun y' w4 hy' e4 => ?_
    obtain ⟨kx, ko4, ke4⟩ := keep2 hx3 ky3 (ko.no f3) (ke.trans (no f3)) e4
    exact fin kx hy' ko4 ke4
  · refine build1 h2 (by rw [hbc]; rfl) fun w2 b2 f2 q2 => ⟨hS _ (no (f1.trans f2)), ?_⟩
    refine apx (xn (f1.trans f2)) (la b1 f2) (Nat.le_trans hbase (f1.trans f2).size) fun x' w3 hx' e3 => ?_
    obtain ⟨ky, ko, ke⟩ := keep (f1.trans f2) e3
    have hl := lb b2 (Ext.refl _ _)
    have hl3 : Blk w3 w1.heap.size e2 [b] := hl.ext e3 fun hh => Own.ne_blk (xn (f1.trans f2)) hl h12 hh
    refine ⟨hS _ ke, pur (field_ptr _ _ _) (apy ky hl3 (Nat.le_trans hbase ke.size) fun y' w4 hy' e4 => ?_)⟩
    obtain ⟨kx, ko4, ke4⟩ := keep2 hx' ky ko ke e4
    exact fin kx hy' ko4 ke4
  · refine apx (xn (f1.trans f2)) (la b2 (Ext.refl _ _)) (Nat.le_trans hbase (f1.trans f2).size) fun x' w3 hx' e3 => ?_
    obtain ⟨ky, ko, ke⟩ := keep (f1.trans f2) e3
    have hl := lb b1 f2
    have hl3 : Blk w3 w.heap.size e2 [b] := hl.ext e3 fun hh => Own.ne_blk (xn (f1.trans f2)) hl h12 hh
    refine ⟨hS _ ke, pur (field_ptr _ _ _) (apy ky hl3 (Nat.le_trans hbase ke.size) fun y' w4 hy' e4 => ?_)⟩
    obtain ⟨kx, ko4, ke4⟩ := keep2 hx' ky ko ke e4
    exact fin kx hy' ko4 ke4
end
end SG

namespace Go.Proofs.YthohdinjpkehpaaGreat
open Go SG Go.RowKit
set_option linter.unusedVariables false
set_option maxRecDepth 4000
set_option linter.unusedSimpArgs false

def withL (x : El) (i : Nat) : Bool → Way → Way
  | put, [] => if put then [] else [(x, i)]
  | put, (y, j) :: r => (if put = false ∧ ltE y x = false then [(x, i)] else []) ++ ((if y = x then [] else [(y, j)]) ++ withL x i (put || !ltE y x) r)
theorem withL_true (x : El) (i : Nat) : ∀ (l : Way), withL x i true l = mdel l x
  | [] => rfl
  | (y, j) :: r => by
    have ih := withL_true x i r
    unfold withL
    rw [if_neg (by simp), Bool.true_or, ih, List.nil_append]
    unfold mdel
    rw [List.filter_cons]
    by_cases h : y = x
    · rw [if_pos h, if_neg (by simpa using h)]; rfl
    · rw [if_neg h, if_pos (by simpa using h)]; rfl
theorem mdel_none {l : Way} {x : El} (h : ∀ p ∈ l, p.1 ≠ x) : mdel l x = l := mdel_out fun hm' => by
  obtain ⟨p, hp, he⟩ := List.mem_map.1 hm'
  exact h p hp he
theorem withL_put {l : Way} (h : Ord l) (x : El) (i : Nat) : withL x i false l = wput l x i := by
  induction l with
  | nil => rfl
  | cons q r ih =>
    obtain ⟨y, j⟩ := q
    have h' := List.pairwise_cons.1 h
    unfold withL wput
    rw [Bool.false_or]
    by_cases h1 : ltE x y = true
    · have h2 : ltE y x = false := by
        cases hh : ltE y x with
        | false => rfl
        | true => have := lt_trans h1 hh; rw [lt_irr] at this; cases this
      rw [if_pos ⟨rfl, h2⟩, if_neg (fun he => ltE_ne h1 he.symm), if_pos h1, h2]
      show [(x, i)] ++ ([(y, j)] ++ withL x i true r) = _
      rw [withL_true, mdel_none fun p hp he => by have := lt_trans h1 (h'.1 p hp); rw [he, lt_irr] at this; cases this]
      rfl
    · rw [if_neg h1]
      by_cases h3 : x = y
      · subst h3
        rw [if_pos ⟨rfl, lt_irr x⟩, if_pos rfl, if_pos rfl, lt_irr]
        show [(x, i)] ++ ([] ++ withL x i true r) = _
        rw [withL_true, mdel_none fun p hp he => by have := h'.1 p hp; rw [he, lt_irr] at this; cases this]
        rfl
      · have h2 : ltE y x = true := by
          cases hh : ltE y x with
          | true => rfl
          | false => exact absurd (lt_tot (by simpa using h1) hh) h3
        rw [if_neg (by simp [h2]), if_neg (fun he => h3 he.symm), if_neg h3, h2]
        show [] ++ ([(y, j)] ++ withL x i false r) = _
        rw [ih h'.2]; rfl
def withR (l : Way) (x : El) (fi : Int) : Way := if fi < 0 then mdel l x else wput l x fi.toNat
theorem withR_eq {l : Way} (h : Ord l) (x : El) (fi : Int) : withL x fi.toNat (decide (fi < 0)) l = withR l x fi := by
  unfold withR
  by_cases hf : fi < 0
  · rw [if_pos hf, decide_eq_true hf]; exact withL_true _ _ _
  · rw [if_neg hf, decide_eq_false hf]; exact withL_put h _ _
def nmV (l : Way) : List Value := l.map fun q => encE q.1
def fiV (l : Way) : List Value := l.map fun q => .int .i64 (q.2 : Int)
theorem TST : ElemT Tryz.prog 61 9 1 16 (.string ⟨#[]⟩) := ⟨Tryz.underlying61, by kernel_rfl, rfl, by decide, by decide⟩
section
variable {T : Tags} {w : World} {K : Value → World → Prop}
set_option maxHeartbeats 4000000 in
theorem cNwith {w0 : World} {p : P2} {l : Way} (hp : NmR T w0 p l) (e0 : Ext No w0 w) (ho : Ord l) (hl : l.length ≤ 1024) {x : El} {fi : Int} (hK : ∀ xv yv w', w'.ownsRow w.heap.size 9 1 xv (withR l x fi).length (nmV (withR l x fi)) → w'.ownsRow w.heap.size 3 1 yv (withR l x fi).length (fiV (withR l x fi)) → Ext No w w' → K (.agg [xv, yv].toArray) w') :
    CallS Tryz.prog 90 #[.agg [p.1, p.2].toArray, encE x, .int .i64 fi] K w := by
  refine s90_call hm ?_
  unfold s90
  refine box fun w1 b1 e1 z1 => box fun w2 b2 e2 z2 => box fun w3 b3 e3 z3 => ?_
  have e03 := (e1.trans e2).trans e3
  have bn3 : Blk w3 w.heap.size 129 [p.1, p.2] := Blk.no (cs := [p.1, p.2]) b1 (e2.trans e3)
  have bt3 : Blk w3 w1.heap.size 129 [.slice none 0 0, .slice none 0 0] := Blk.no (cs := [.slice none 0 0, .slice none 0 0]) b2 e3
  have bo3 : Blk w3 w2.heap.size 129 [.slice none 0 0, .slice none 0 0] := b3
  have hp1 : Sl w p.1 l.length 1 (nmV l) := hp.1.1.no e0
  have hp2 : Sl w p.2 l.length 1 (fiV l) := hp.2.1.no e0
  have hz1 : w1.heap.size = w.heap.size + 1 := z1
  have hz2 : w2.heap.size = w.heap.size + 2 := by omega
  generalize hR : withR l x fi = R at *
  have hRL := withR_eq ho x fi
  rw [hR] at hRL
  -- what is known in the loop: rows of what is out
  let St : Way → World → Prop := fun res w' => ∃ xv yv, w'.ownsRow w.heap.size 9 1 xv res.length (nmV res) ∧ w'.ownsRow w.heap.size 3 1 yv res.length (fiV res) ∧ Blk w' w2.heap.size 129 [xv, yv] ∧ Blk w' w.heap.size 129 [p.1, p.2] ∧ Blk w' w1.heap.size 129 [.slice none 0 0, .slice none 0 0] ∧ Ext No w w'
  -- one entry more
  have grow : ∀ {res : Way} {w' : World} {y : El} {j : Nat} {S J : World → Prop} {xv yv : Value}, w'.ownsRow w.heap.size 9 1 xv res.length (nmV res) → w'.ownsRow w.heap.size 3 1 yv res.length (fiV res) → Blk w' w2.heap.size 129 [xv, yv] → Blk w' w.heap.size 129 [p.1, p.2] → Blk w' w1.heap.size 129 [.slice none 0 0, .slice none 0 0] → Ext No w w' → res.length ≤ 2048 →
      (∀ w'', Ext (fun g => xv.ownBlock = some g ∨ yv.ownBlock = some g) w' w'' → S w'') → (∀ w'', St (res ++ [(y, j)]) w'' → J w'') → Put2 Tryz.prog 61 23 61 23 S J w2.heap.size xv yv (encE y) (.int .i64 (j : Int)) w' := fun {res w' y j S J xv yv} hx hy hbo hbn hbt he hrl hS hJ =>
    put_two (P := Tryz.prog) (y1 := 61) (y2 := 23) TST TI (by decide) (by decide) (by decide) (S := S) (J := J) (a := encE y) (b := .int .i64 (j : Int)) hx hy hbo rfl rfl rfl rfl he.size (by omega) (by omega) (by omega) (by omega) hS fun x' y' w'' hx' hy' ho' e' => hJ w'' (by
      have hne : ∀ {gg : Nat} {cs : List Value}, Blk w' gg 129 cs → gg ≠ w2.heap.size → Blk w'' gg 129 cs := fun {gg cs} hb hg => hb.ext e' fun hh => by
        rcases hh with hh | hh | hh
        · exact Own.ne_blk hx hb (by decide) hh
        · exact Own.ne_blk hy hb (by decide) hh
        · exact hg hh
      refine ⟨x', y', ?_, ?_, ho', hne hbn (by omega), hne hbt (by omega), he.fresh e' fun g hg => ?_⟩
      · have : nmV (res ++ [(y, j)]) = nmV res ++ [encE y] := by unfold nmV; rw [List.map_append]; rfl
        rw [this, List.length_append]; exact hx'
      · have : fiV (res ++ [(y, j)]) = fiV res ++ [.int .i64 (j : Int)] := by unfold fiV; rw [List.map_append]; rfl
        rw [this, List.length_append]; exact hy'
      · rcases hg with hg | hg | hg
        · exact .inr (hx.lt g hg).1
        · exact .inr (hy.lt g hg).1
        · right; omega)
  have hs0 : St [] w3 := ⟨_, _, World.ownsRow_nil _ _ _ _, World.ownsRow_nil _ _ _ _, bo3, bn3, bt3, e03⟩
  refine pur (bin_lss _ _ _) ?_
  refine join1 (fun v w' => ∃ (b : Bool) (res : Way), v = .bool b ∧ (b = false → 0 ≤ fi) ∧ res ++ withL x fi.toNat b [] = R ∧ res.length ≤ 2048 ∧ St res w') ?_ fun J0 hJ0 => ?_
  · rintro _ w4 ⟨b, res, rfl, hbf, hres, hrl, hst⟩
    refine join0 (St R) ?_ fun J1 hJ1 => ?_
    · rintro w5 ⟨xv, yv, hx, hy, hbo, hbn, hbt, he⟩
      refine loadA (At.of_blk hbo) rfl (storeAll hbt rfl rfl (by
        intro u hu
        simp only [List.mem_cons, List.not_mem_nil, or_false] at hu
        rcases hu with rfl | rfl
        · exact Own.one hx
        · exact Own.one hy) fun w6 b6 e6 z6 => loadA (At.of_blk b6) rfl ?_)
      refine hK xv yv w6 (owns_ext hx e6 fun g hg hh => Own.ne_blk hx hbt (by decide) (by rw [hg, show g = w1.heap.size from hh])) (owns_ext hy e6 fun g hg hh => Own.ne_blk hy hbt (by decide) (by rw [hg, show g = w1.heap.size from hh])) (he.fresh e6 fun g hg => .inr (by rw [show g = w1.heap.size from hg]; omega))
    · refine pur (not_b _) (condB (fun hb => ?_) (fun hb => ?_))
      · have hb' : b = false := by simpa using hb
        subst hb'
        have hf := hbf rfl
        obtain ⟨xv, yv, hx, hy, hbo, hbn, hbt, he⟩ := hst
        have ed := Ext.drew (S := No) w4
        refine draw (fun w' => Ext (fun g => xv.ownBlock = some g ∨ yv.ownBlock = some g) w4.drew w') (Ext.refl _ _) (pur (field_ptr _ _ _) (pur (field_ptr _ _ _) ?_))
        have hxd := owns_ext hx ed fun _ _ hh => hh
        have hyd := owns_ext hy ed fun _ _ hh => hh
        have hold : ∀ (w' : World), Ext (fun g => xv.ownBlock = some g ∨ yv.ownBlock = some g) w4.drew w' → Blk w' w2.heap.size 129 [xv, yv] := fun w' e => (hbo.no ed).ext e fun hh => hh.elim (Own.ne_blk hxd (hbo.no ed) (by decide)) (Own.ne_blk hyd (hbo.no ed) (by decide))
        refine heldC (v := xv) (fun w' hh => (hold w' hh).cell 0) (heldC (v := yv) (fun w' hh => (hold w' hh).cell 1) ?_)
        have := grow (y := x) (j := fi.toNat) (S := fun w' => Ext (fun g => xv.ownBlock = some g ∨ yv.ownBlock = some g) w4.drew w') (J := J1) hxd hyd (hbo.no ed) (hbn.no ed) (hbt.no ed) (he.trans ed) hrl (fun w'' e => e) fun w'' h => hJ1 _ (by rw [← hres]; exact h)
        rw [Int.toNat_of_nonneg hf] at this
        exact this
      · have hb' : b = true := by simpa using hb
        subst hb'
        refine hJ1 _ ?_
        rw [← hres]
        show St (res ++ []) w4
        rw [List.append_nil]; exact hst
  refine loop2 (σ := Nat × Bool × Way) (fun s v a w' => a = .int .i64 (s.1 : Int) ∧ v = .bool s.2.1 ∧ s.1 ≤ l.length ∧ (s.2.1 = false → 0 ≤ fi) ∧ s.2.2 ++ withL x fi.toNat s.2.1 (l.drop s.1) = R ∧ s.2.2.length ≤ 2 * s.1 ∧ St s.2.2 w') (fun s => l.length - s.1) (0, decide (fi < 0), [])
    ⟨rfl, rfl, Nat.zero_le _, fun h => by have := of_decide_eq_false h; omega, by rw [List.drop_zero, List.nil_append]; exact hRL, by simp, hs0⟩ ?_
  rintro ⟨i, b, res⟩ _ _ w4 ⟨rfl, rfl, hi, hbf, hres, hrl, hst⟩ L3 hL3
  simp only at hi hbf hres hrl hst hL3 ⊢
  obtain ⟨xv, yv, hx, hy, hbo, hbn, hbt, he⟩ := hst
  refine pur (field_ptr _ _ _) (loadB hbn (v := p.1) rfl (pur hp1.len (pur (bin_lss _ _ _) (condD (fun hlt => ?_) (fun hge => hJ0 _ _ ⟨b, res, rfl, hbf, by rw [List.drop_of_length_le (by omega)] at hres; exact hres, by omega, xv, yv, hx, hy, hbo, hbn, hbt, he⟩)))))
  obtain ⟨⟨y, j⟩, hq⟩ := getN (xs := l) (i := i) (by omega)
  have hdr : l.drop i = (y, j) :: l.drop (i + 1) := by
    have := List.getElem?_eq_some_iff.1 hq
    rw [List.drop_eq_getElem_cons this.1, this.2]
  rw [hdr] at hres
  unfold withL at hres
  obtain ⟨a1, r1, r2, r3⟩ := sl_idx1 hp1 (i := i) (v := encE y) (by unfold nmV; rw [List.getElem?_map, hq]; rfl) .i64
  obtain ⟨a2, s1, s2, s3⟩ := sl_idx1 hp2 (i := i) (v := .int .i64 (j : Int)) (by unfold fiV; rw [List.getElem?_map, hq]; rfl) .i64
  -- behind the entry
  refine join1 (fun v w' => ∃ (b' : Bool) (res' : Way), v = .bool b' ∧ (b' = false → 0 ≤ fi) ∧ res' ++ withL x fi.toNat b' (l.drop (i + 1)) = R ∧ res'.length ≤ 2 * (i + 1) ∧ St res' w') (fun v w' h => by
    obtain ⟨b', res', rfl, q1, q2, q3, q4⟩ := h
    exact pur (add64 (c := ((i + 1 : Nat) : Int)) (by omega) (by omega) (by omega)) (hL3 (i + 1, b', res') _ _ _ ⟨rfl, rfl, by simp only; omega, q1, q2, q3, q4⟩ (by simp only; omega))) fun J4 hJ4 => ?_
  -- behind the putting
  refine join1 (fun v w' => ∃ (b' : Bool) (res' : Way), v = .bool b' ∧ (b' = false → 0 ≤ fi) ∧ res' ++ ((if y = x then [] else [(y, j)]) ++ withL x fi.toNat b' (l.drop (i + 1))) = R ∧ res'.length ≤ 2 * i + 1 ∧ St res' w') ?_ fun J5 hJ5 => ?_
  · rintro _ w5 ⟨b', res', rfl, q1, q2, q3, xv, yv, hx, hy, hbo, hbn, hbt, he⟩
    have hp1' := hp1.no he
    have hp2' := hp2.no he
    refine pur (field_ptr _ _ _) (loadB hbn (v := p.1) rfl (pur r1 (SG.load (S := No) (r3 _ hp1') (pur (neE _ _) (condN (fun hne => ?_) (fun heq => ?_))))))
    · have hne' : ¬ y = x := hne
      rw [if_neg hne', ← List.append_assoc] at q2
      have ed := Ext.drew (S := No) w5
      refine draw (fun w' => Ext (fun g => xv.ownBlock = some g ∨ yv.ownBlock = some g) w5.drew w') (Ext.refl _ _) (pur (field_ptr _ _ _) (pur (field_ptr _ _ _) (pur (field_ptr _ _ _) (pur (field_ptr _ _ _) ?_))))
      have hxd := owns_ext hx ed fun _ _ hh => hh
      have hyd := owns_ext hy ed fun _ _ hh => hh
      have hold : ∀ {gg : Nat} {cs : List Value}, Blk w5 gg 129 cs → ∀ (w' : World), Ext (fun g => xv.ownBlock = some g ∨ yv.ownBlock = some g) w5.drew w' → Blk w' gg 129 cs := fun {gg cs} hb w' e => (hb.no ed).ext e fun hh => hh.elim (Own.ne_blk hxd (hb.no ed) (by decide)) (Own.ne_blk hyd (hb.no ed) (by decide))
      have hwe : ∀ (w' : World), Ext (fun g => xv.ownBlock = some g ∨ yv.ownBlock = some g) w5.drew w' → Ext No w w' := fun w' e => (he.trans ed).fresh e fun g hg => hg.elim (fun h => .inr (hx.lt g h).1) fun h => .inr (hy.lt g h).1
      refine heldC (v := xv) (fun w' hh => (hold hbo w' hh).cell 0) (heldC (v := p.1) (fun w' hh => (hold hbn w' hh).cell 0) (pur r1 (heldC (v := encE y) (fun w' hh => r3 _ (hp1.no (hwe w' hh))) ?_)))
      refine heldC (v := yv) (fun w' hh => (hold hbo w' hh).cell 1) (heldC (v := p.2) (fun w' hh => (hold hbn w' hh).cell 1) (pur s1 (heldC (v := .int .i64 (j : Int)) (fun w' hh => s3 _ (hp2.no (hwe w' hh))) ?_)))
      exact grow (y := y) (j := j) (S := fun w' => Ext (fun g => xv.ownBlock = some g ∨ yv.ownBlock = some g) w5.drew w') (J := fun w => J4 (.bool b') w) hxd hyd (hbo.no ed) (hbn.no ed) (hbt.no ed) (he.trans ed) (by omega) (fun w'' e => e) fun w'' h => hJ4 _ _ ⟨b', res' ++ [(y, j)], rfl, q1, q2, by simp; omega, h⟩
    · have heq' : y = x := heq
      rw [if_pos heq', List.nil_append] at q2
      exact hJ4 _ _ ⟨b', res', rfl, q1, q2, by omega, xv, yv, hx, hy, hbo, hbn, hbt, he⟩
  have hp1' := hp1.no he
  refine pur (not_b _) ?_
  refine join1 (fun t w' => w4 = w' ∧ (b = false → t = .bool (!ltE y x))) ?_ fun J7 hJ7 => ?_
  · rintro t _ ⟨rfl, ht⟩
    refine pur (v := .bool (!b && !ltE y x)) ((pick_b _ _ _).trans (by
      cases b with
      | true => rfl
      | false => rw [ht rfl]; rfl)) (condB (fun hc => ?_) (fun hc => ?_))
    · have hb0 : b = false := by cases b <;> simp at hc ⊢
      have hlt0 : ltE y x = false := by rw [hb0] at hc; simpa using hc
      subst hb0
      have hf := hbf rfl
      rw [if_pos ⟨rfl, hlt0⟩, hlt0, ← List.append_assoc] at hres
      refine join0 (St (res ++ [(x, fi.toNat)])) (fun w' h => hJ5 _ _ ⟨true, res ++ [(x, fi.toNat)], rfl, (fun h => by cases h), hres, by rw [List.length_append]; simp only [List.length_cons, List.length_nil]; omega, h⟩) fun J8 hJ8 => ?_
      have ed := Ext.drew (S := No) w4
      have hxd := owns_ext hx ed fun _ _ hh => hh
      have hyd := owns_ext hy ed fun _ _ hh => hh
      refine draw (fun w' => Ext (fun g => xv.ownBlock = some g ∨ yv.ownBlock = some g) w4.drew w') (Ext.refl _ _) (pur (field_ptr _ _ _) (pur (field_ptr _ _ _) ?_))
      have hold : ∀ (w' : World), Ext (fun g => xv.ownBlock = some g ∨ yv.ownBlock = some g) w4.drew w' → Blk w' w2.heap.size 129 [xv, yv] := fun w' e => (hbo.no ed).ext e fun hh => hh.elim (Own.ne_blk hxd (hbo.no ed) (by decide)) (Own.ne_blk hyd (hbo.no ed) (by decide))
      refine heldC (v := xv) (fun w' hh => (hold w' hh).cell 0) (heldC (v := yv) (fun w' hh => (hold w' hh).cell 1) ?_)
      have := grow (y := x) (j := fi.toNat) (S := fun w' => Ext (fun g => xv.ownBlock = some g ∨ yv.ownBlock = some g) w4.drew w') (J := J8) hxd hyd (hbo.no ed) (hbn.no ed) (hbt.no ed) (he.trans ed) (by omega) (fun w'' e => e) fun w'' h => hJ8 _ h
      rw [Int.toNat_of_nonneg hf] at this
      exact this
    · have hno : ¬ (b = false ∧ ltE y x = false) := fun h => by rw [h.1, h.2] at hc; cases hc
      have hbb : (b || !ltE y x) = b := by
        cases b with
        | true => rfl
        | false => simp at hc; rw [hc]; rfl
      rw [if_neg hno, hbb, List.nil_append] at hres
      exact hJ5 _ _ ⟨b, res, rfl, hbf, hres, by omega, xv, yv, hx, hy, hbo, hbn, hbt, he⟩
  · rw [ifB_eq]
    cases hb : b with
    | true => rw [if_neg (by simp)]; exact hJ7 _ _ ⟨rfl, fun h => by rw [hb] at h; cases h⟩
    | false =>
      rw [if_pos (by simp)]
      exact pur (field_ptr _ _ _) (loadB hbn (v := p.1) rfl (pur r1 (SG.load (S := No) (r3 _ hp1') (pur (geE _ _) (hJ7 _ _ ⟨rfl, fun _ => rfl⟩)))))
end
end Go.Proofs.YthohdinjpkehpaaGreat

namespace Go.Proofs.YthohdinjpkehpaaGreat
open Go SG Go.RowKit
set_option linter.unusedVariables false
set_option maxRecDepth 4000
set_option linter.unusedSimpArgs false

theorem flat_split {α : Type} (f : α → List Value) {l : List α} {i : Nat} {q : α} (h : l[i]? = some q) : flat f l = flat f (l.take i) ++ (f q ++ flat f (l.drop (i + 1))) := by
  have h1 := List.getElem?_eq_some_iff.1 h
  conv => lhs; rw [← List.take_append_drop i l, List.drop_eq_getElem_cons h1.1, h1.2]
  rw [flat_append]
  simp [flat]
theorem flat_get {α : Type} (f : α → List Value) {size : Nat} (hf : ∀ a, (f a).length = size) {l : List α} {i k : Nat} {q : α} {v : Value} (h : l[i]? = some q) (hk : (f q)[k]? = some v) : (flat f l)[i * size + k]? = some v := by
  have h1 := List.getElem?_eq_some_iff.1 h
  have hkl := (List.getElem?_eq_some_iff.1 hk).1
  rw [flat_split f h, List.getElem?_append_right (by rw [flat_length f hf]; simp; exact Nat.le_trans (Nat.mul_le_mul_right _ (Nat.min_le_left _ _)) (Nat.le_add_right _ _)), flat_length f hf]
  have e : i * size + k - (l.take i).length * size = k := by simp [Nat.min_eq_left (Nat.le_of_lt h1.1)]
  rw [e, List.getElem?_append_left hkl]; exact hk
theorem flat_set1 {α : Type} (f : α → List Value) {size : Nat} (hf : ∀ a, (f a).length = size) {l : List α} {i k : Nat} {q a : α} {v : Value} (h : l[i]? = some q) (hk : k < size) (ha : f a = (f q).set k v) : (flat f l).set (i * size + k) v = flat f (l.set i a) := by
  have h1 := List.getElem?_eq_some_iff.1 h
  have e1 : l.set i a = l.take i ++ a :: l.drop (i + 1) := by rw [List.set_eq_take_append_cons_drop, if_pos h1.1]
  rw [flat_split f h, e1, flat_append]
  have hl : (flat f (l.take i)).length = i * size := by rw [flat_length f hf]; simp [Nat.min_eq_left (Nat.le_of_lt h1.1)]
  rw [List.set_append_right _ _ (by omega), hl, Nat.add_sub_cancel_left, List.set_append_left _ _ (by rw [hf]; exact hk), ← ha]
  simp [flat]
def icf (w : World) (T : Tags) : Tags := fun b => if b < w.heap.size then T b else .ice
theorem icf_lt {w : World} {T : Tags} {b : Nat} (h : b < w.heap.size) : icf w T b = T b := if_pos h
theorem icf_ge {w : World} {T : Tags} {b : Nat} (h : w.heap.size ≤ b) : icf w T b = .ice := if_neg (by omega)
theorem Gon.icf {M : Tag → Prop} {w w' : World} {T : Tags} (e : Ext No w w') : Gon M w T w' (icf w T) := ⟨e.no, fun b hb => icf_lt hb⟩
theorem IcS.row {T : Tags} {w w' : World} {e : TypeId} {size n : Nat} {v : Value} {xs : List Value} (h : w'.ownsRow w.heap.size e size v n xs) : IcS (icf w T) w' v n size xs := ⟨Sl.own h, fun b hb => ⟨(h.lt b hb).2, icf_ge (h.lt b hb).1⟩⟩
theorem TRD : ElemT Tryz.prog 96 127 2 40 (.agg #[.string ⟨#[]⟩, .slice none 0 0]) := ⟨Tryz.underlying96, by kernel_rfl, rfl, by decide, by decide⟩
theorem TRN : ElemT Tryz.prog 125 129 2 48 (.agg #[.slice none 0 0, .slice none 0 0]) := ⟨Tryz.underlying125, by kernel_rfl, rfl, by decide, by decide⟩
theorem TRF : ElemT Tryz.prog 97 135 2 48 (.agg #[.slice none 0 0, .slice none 0 0]) := ⟨Tryz.underlying97, by kernel_rfl, rfl, by decide, by decide⟩
theorem TRW : ElemT Tryz.prog 133 160 2 32 (.agg #[.int .i64 0, .slice none 0 0]) := ⟨Tryz.underlying133, by kernel_rfl, rfl, by decide, by decide⟩
theorem flat_one1 {α : Type} {f : α → List Value} {l : List α} (h : ∀ a ∈ l, ∀ u ∈ f a, u.oneCell' = true) : ∀ u ∈ flat f l, u.oneCell' = true := by
  intro u hu
  obtain ⟨a, ha, hu⟩ := List.mem_flatMap.1 hu
  exact h a ha u hu
section
variable {T T1 : Tags} {w w1 : World} {d g : Nat} {st : Dk} {dv fv : Value} {K : Value → World → Prop}
theorem WaysR.one {v : Value} {ys : List Way} (h : WaysR T w v ys) : v.oneCell' = true := by obtain ⟨_, _, h, _⟩ := h; exact h.one
theorem WrsR.one {v : Value} {ys : List Wr} (h : WrsR T w v ys) : v.oneCell' = true := by obtain ⟨_, _, h, _⟩ := h; exact h.one
theorem FilI.one {p : P2} {f : Fi} (h : FilI T w p f) : p.1.oneCell' = true ∧ p.2.oneCell' = true := ⟨h.1.one, h.2.one⟩
theorem NmR.one {p : P2} {y : Way} (h : NmR T w p y) : p.1.oneCell' = true ∧ p.2.oneCell' = true := ⟨h.1.one, h.2.one⟩
theorem Doc.putDirs (h : Doc T d w g st dv fv) {lv : Value} {dirs' : List Di} (k1 : Gon Nil w T w1 T1) (hr : DirsR T1 w1 lv dirs') {K : World → Prop} (hK : ∀ w', Doc T1 d w' g { st with dirs := dirs' } lv fv → Gon (DocT d) w T w' T1 → K w') :
    PureS (nilV (ptrE g)) fun t => PureS (fieldAddrV 1 t) fun t => StoreC t lv (fun w => K w) w1 := by
  have h1 := h.keep k1 (fun h => h) fun h => h
  have hone : lv.oneCell' = true := by obtain ⟨_, _, h, _⟩ := hr; exact h.one
  refine pur (nil_ptr _) (pur (field_ptr _ _ _) (storeB h1.blk (by simp [docC]) hone fun w2 b2 e2 z2 => ?_))
  have k2 : Gon (DocT d) w1 T1 w2 T1 := Gon.at1 e2 h1.tag rfl
  exact hK w2 ⟨h1.tag, b2, hr.keep k2 (fun h => by cases h), h1.files.keep k2 (fun h => by cases h)⟩ ((k1.mono fun _ h => h.elim).trans k2)
theorem Doc.putFiles (h : Doc T d w g st dv fv) {lv : Value} {files' : List Fi} (k1 : Gon Nil w T w1 T1) (hr : FilesR T1 w1 lv files') {K : World → Prop} (hK : ∀ w', Doc T1 d w' g { st with files := files' } dv lv → Gon (DocT d) w T w' T1 → K w') :
    PureS (nilV (ptrE g)) fun t => PureS (fieldAddrV 2 t) fun t => StoreC t lv (fun w => K w) w1 := by
  have h1 := h.keep k1 (fun h => h) fun h => h
  have hone : lv.oneCell' = true := by obtain ⟨_, _, h, _⟩ := hr; exact h.one
  refine pur (nil_ptr _) (pur (field_ptr _ _ _) (storeB h1.blk (by simp [docC]) hone fun w2 b2 e2 z2 => ?_))
  have k2 : Gon (DocT d) w1 T1 w2 T1 := Gon.at1 e2 h1.tag rfl
  exact hK w2 ⟨h1.tag, b2, h1.dirs.keep k2 (fun h => by cases h), hr.keep k2 (fun h => by cases h)⟩ ((k1.mono fun _ h => h.elim).trans k2)
set_option maxHeartbeats 1000000 in
theorem Doc.changes (h : Doc T d w g st dv fv) {i : Nat} {D : Di} (hD : st.dirs[i]? = some D) (hdl : st.dirs.length ≤ 64) (hwl : D.was.length ≤ 2199023255552) {p : P2} {y : Way} (hp : NmR T w p y)
    (hK : ∀ w' T' dv', Doc T' d w' g { st with dirs := st.dirs.set i (D.chg y) } dv' fv → Gon (DocT d) w T w' T' → K (.tuple [].toArray) w') : CallS Tryz.prog 89 #[ptrE g, .int .i64 (i : Int), .agg [p.1, p.2].toArray] K w := by
  refine s89_call hm ?_
  unfold s89
  refine box fun w1 b1 e1 z1 => build0 TRD fun w2 b2 e2 z2 => ?_
  have bn : Blk w1 w.heap.size 129 [p.1, p.2] := b1
  have h2 := h.no (e1.trans e2)
  refine h2.ld (k := 1) rfl ?_
  obtain ⟨qs, hq1, hq2, hq3⟩ := h.dirs
  have hql : qs.length = st.dirs.length := by rw [← hq1]; simp
  obtain ⟨q, hq⟩ := getN (xs := qs) (i := i) (by have := (List.getElem?_eq_some_iff.1 hD).1; omega)
  have hqD : q.1 = D := by
    have : (qs.map (·.1))[i]? = some q.1 := by rw [List.getElem?_map, hq]; rfl
    rw [hq1, hD] at this; exact (Option.some.inj this).symm
  subst hqD
  have hil : i < st.dirs.length := (List.getElem?_eq_some_iff.1 hD).1
  have hone : ∀ u ∈ flat dirC qs, u.oneCell' = true := flat_one1 fun a ha u hu => by
    simp only [dirC, List.mem_cons, List.not_mem_nil, or_false] at hu
    rcases hu with rfl | rfl
    · rfl
    · exact (hq3 a ha).one
  refine app_own (w := w1) TRD e2 (Blk.own0 b2 (Nat.le_refl _)) (Sl.no hq2.1 (e1.trans e2)) hone (by omega) (by omega) fun lv w3 ho3 e3 => ?_
  rw [Nat.zero_add, List.nil_append] at ho3
  have e03 := e1.trans e3
  have ed := Ext.drew (S := No) w3
  have e03d := e03.trans ed
  have bnd := (bn.no e3).no ed
  have hod := owns_ext ho3 ed fun _ _ hh => hh
  obtain ⟨gl, q0, q1, q2, q3⟩ := Own.field hod (i := i) (k := 1) hil (by decide) .i64
  obtain ⟨rs, hr1, hr2, hr3⟩ := hq3 q (List.mem_of_getElem? hq)
  -- behind the ways
  refine join0 (fun w' => ∃ v', w'.ownsRow w1.heap.size 127 2 lv st.dirs.length (flat dirC (qs.set i (q.1.chg y, v'))) ∧ w'.ownsRow w.heap.size 129 2 v' (q.1.was.length + 1 + 1) (flat nmC rs ++ [p.1, p.2]) ∧ Ext No w w') ?_ fun J0 hJ0 => ?_
  · rintro w5 ⟨v', hl5, hv5, e05⟩
    have k5 : Gon Nil w T w5 (icf w T) := Gon.icf e05
    refine h.putDirs (dirs' := st.dirs.set i (q.1.chg y)) k5 ⟨qs.set i (q.1.chg y, v'), by rw [List.map_set, hq1], ?_, fun r hr => ?_⟩ (K := fun w => K (.tuple [].toArray) w) fun w6 h6 k6 => hK w6 (icf w T) lv h6 k6
    · rw [List.length_set]
      exact IcS.row (owns_base hl5 fun b hb => by have := (hl5.lt b hb).1; have := e1.size; omega)
    · rcases List.mem_or_eq_of_mem_set hr with hr | rfl
      · exact (hq3 r hr).keep k5 fun h => h
      · refine ⟨rs ++ [(y, p)], ?_, ?_, fun s hs => ?_⟩
        · rw [List.map_append, hr1]; rfl
        · rw [flat_append, flat_one]
          have e : ((q.1.chg y).was ++ [(q.1.chg y).now]).length = q.1.was.length + 1 + 1 := by simp [Di.chg]
          show IcS _ _ v' ((q.1.chg y).was ++ [(q.1.chg y).now]).length 2 _
          rw [e]; exact IcS.row hv5
        · rcases List.mem_append.1 hs with hs | hs
          · exact (hr3 s hs).keep k5 fun h => h
          · rw [List.mem_singleton.1 hs]; exact hp.keep k5 fun h => h
  refine draw (fun w' => Ext No w3.drew w') (Ext.refl _ _) (pur q1 (pur (field_ptr _ _ _) ?_))
  have hcell : (flat dirC qs)[i * 2 + 1]? = some q.2 := flat_get dirC dirC_len hq rfl
  refine heldC (v := q.2) (fun w' hh => q2 w' _ (owns_ext hod hh fun _ _ h => h) hcell) (heldA (xs := [p.1, p.2]) (fun w' hh => At.of_blk (bnd.no hh)) rfl ?_)
  have hwl2 : (q.1.was ++ [q.1.now]).length = q.1.was.length + 1 := by simp
  rw [hwl2] at hr2
  refine copy_one TRN (n := q.1.was.length + 1) (xs := flat nmC rs) (u := .agg [p.1, p.2].toArray) (S := fun w' => Ext No w3.drew w') (Sl.no hr2.1 e03d) (flat_one1 fun a ha u hu => by
    simp only [nmC, List.mem_cons, List.not_mem_nil, or_false] at hu
    rcases hu with rfl | rfl
    · exact (hr3 a ha).one.1
    · exact (hr3 a ha).one.2) rfl (by
    intro c hc
    have hc' : c ∈ [p.1, p.2] := hc
    simp only [List.mem_cons, List.not_mem_nil, or_false] at hc'
    rcases hc' with rfl | rfl
    · exact hp.one.1
    · exact hp.one.2) (by omega) (by omega) (fun w' e => e) fun v' w4 ho4 e4 => ?_
  have hl4 := owns_ext hod e4 fun _ _ hh => hh
  obtain ⟨gl', q0', q1', q2', q3'⟩ := Own.field hl4 (i := i) (k := 1) hil (by decide) .i64
  refine pur q1' (pur (field_ptr _ _ _) (by
    refine q3' v' (Own.one ho4) fun w5 ho5 e5 z5 => hJ0 _ ⟨v', ?_, ?_, (e03d.trans e4).fresh e5 fun b hb => .inr (by rw [show b = gl' from hb]; have := (hl4.lt gl' q0').1; have := e1.size; omega)⟩
    · rw [flat_set1 dirC dirC_len hq (a := (q.1.chg y, v')) (by decide) rfl] at ho5
      exact ho5
    · have hne : ∀ b, v'.ownBlock = some b → b ≠ gl' := fun b hb hh => Own.ne_own hl4 ho4 (by decide) gl' q0' (by rw [← hh]; exact hb)
      exact owns_base (owns_ext ho4 e5 fun b hb hh => hne b hb hh) fun b hb => by have := (ho4.lt b hb).1; have := e03d.size; omega))
end
end Go.Proofs.YthohdinjpkehpaaGreat

namespace Go.Proofs.YthohdinjpkehpaaGreat
open Go SG Go.RowKit
set_option linter.unusedVariables false
set_option maxRecDepth 4000
set_option linter.unusedSimpArgs false

section
variable {T T1 : Tags} {w w1 : World} {d g : Nat} {st : Dk} {dv fv : Value} {K : Value → World → Prop}
set_option maxHeartbeats 1000000 in
theorem Doc.set (h : Doc T d w g st dv fv) {i : Nat} (hi : i < st.files.length) (hfl : st.files.length ≤ 2199023255552) {p : P2} {f : Fi} (hp : FilI T w p f)
    (hK : ∀ w' T' fv', Doc T' d w' g (st.setF i f) dv fv' → Gon (DocT d) w T w' T' → K (.tuple [].toArray) w') : CallS Tryz.prog 96 #[ptrE g, .int .i64 (i : Int), .agg [p.1, p.2].toArray] K w := by
  refine s96_call hm ?_
  unfold s96
  refine box fun w1 b1 e1 z1 => build0 TRF fun w2 b2 e2 z2 => ?_
  have bx : Blk w1 w.heap.size 135 [p.1, p.2] := b1
  have h2 := h.no (e1.trans e2)
  refine h2.ld (k := 2) rfl ?_
  obtain ⟨qs, hq1, hq2, hq3⟩ := h.files
  have hql : qs.length = st.files.length := by rw [← hq1]; simp
  have hone : ∀ u ∈ flat filC qs, u.oneCell' = true := flat_one1 fun a ha u hu => by
    simp only [filC, List.mem_cons, List.not_mem_nil, or_false] at hu
    rcases hu with rfl | rfl
    · exact (hq3 a ha).one.1
    · exact (hq3 a ha).one.2
  refine app_own (w := w1) TRF e2 (Blk.own0 b2 (Nat.le_refl _)) (Sl.no hq2.1 (e1.trans e2)) hone (by omega) (by omega) fun lv w3 ho3 e3 => ?_
  rw [Nat.zero_add, List.nil_append] at ho3
  have e03 := e1.trans e3
  have hgl := h.blk.lt
  have b3 := h.blk.no e03
  refine pur (nil_ptr _) (pur (field_ptr _ _ _) (storeB b3 (by simp [docC]) (Own.one ho3) fun w4 b4 e4 z4 => ?_))
  have b4' : Blk w4 g 99 (docC st dv lv) := b4
  have hlg : ∀ b, lv.ownBlock = some b → b ≠ g := fun b hb => by have := (ho3.lt b hb).1; have := e1.size; omega
  have ho4 := owns_ext ho3 e4 fun b hb hh => hlg b hb hh
  have bx4 : Blk w4 w.heap.size 135 [p.1, p.2] := (bx.no e3).ext e4 fun hh => by have : w.heap.size = g := hh; omega
  have ed := Ext.drew (S := No) w4
  have b4d := b4'.no ed
  have bxd := bx4.no ed
  have hod := owns_ext ho4 ed fun _ _ hh => hh
  have hpone : ∀ u ∈ filC (f, p), u.oneCell' = true := by
    intro u hu
    simp only [filC, List.mem_cons, List.not_mem_nil, or_false] at hu
    rcases hu with rfl | rfl
    · exact hp.one.1
    · exact hp.one.2
  obtain ⟨gl, q0, q1, q2⟩ := Own.elem (f := filC) filC_len hod (i := i) (by omega) hql (a := (f, p)) hpone .i64
  refine draw (fun w' => w' = w4.drew) rfl (pur (nil_ptr _) (pur (field_ptr _ _ _) ?_))
  refine heldC (v := lv) (fun w' hh => by rw [hh]; exact b4d.cell 2) (heldA (xs := [p.1, p.2]) (fun w' hh => by rw [hh]; exact At.of_blk bxd) rfl (pur q1 ?_))
  refine q2 fun w5 ho5 e5 z5 => ?_
  have hgg : gl ≠ g := hlg gl q0
  have kx : Ext (fun b => DocT d (T b)) w w5 := (e03.no.trans (e4.mono fun b hb _ => by rw [show b = g from hb]; exact h.tag)).trans' (ed.no.trans e5) (fun b hb _ => hb) fun b hb hlt => by
    have h1 := (hod.lt gl q0).1
    have h2 := e1.size
    have : b = gl := hb
    omega
  have k : Gon (DocT d) w T w5 (icf w T) := ⟨kx, fun b hb => icf_lt hb⟩
  have hni : ¬ DocT d .ice := fun h => by cases h
  refine hK w5 (icf w T) lv ⟨(icf_lt hgl).trans h.tag, b4d.ext e5 (fun hh => hgg hh.symm), h.dirs.keep k hni, qs.set i (f, p), ?_, ?_, fun r hr => ?_⟩ k
  · show _ = st.files.set i f
    rw [List.map_set, hq1]
  · show IcS _ _ lv (st.files.set i f).length 2 _
    rw [List.length_set]
    exact IcS.row (owns_base ho5 fun b hb => by have := (ho5.lt b hb).1; have := e1.size; omega)
  · rcases List.mem_or_eq_of_mem_set hr with hr | rfl
    · exact (hq3 r hr).keep k hni
    · exact hp.keep k hni
set_option maxHeartbeats 1000000 in
theorem Doc.settle (h : Doc T d w g st dv fv) {i m : Nat} {D : Di} {y : Way} (hD : st.dirs[i]? = some D) (hdl : st.dirs.length ≤ 64) (hy : (D.was ++ [D.now])[m]? = some y)
    (hK : ∀ w' T' dv', Doc T' d w' g { st with dirs := st.dirs.set i ⟨D.name, [], y⟩ } dv' fv → Gon (DocT d) w T w' T' → K (.tuple [].toArray) w') : CallS Tryz.prog 105 #[ptrE g, .int .i64 (i : Int), .int .i64 (m : Int)] K w := by
  refine s105_call hm ?_
  unfold s105
  refine build0 TRD fun w2 b2 e2 z2 => ?_
  have h2 := h.no e2
  refine h2.ld (k := 1) rfl ?_
  obtain ⟨qs, hq1, hq2, hq3⟩ := h.dirs
  have hql : qs.length = st.dirs.length := by rw [← hq1]; simp
  obtain ⟨q, hq⟩ := getN (xs := qs) (i := i) (by have := (List.getElem?_eq_some_iff.1 hD).1; omega)
  have hqD : q.1 = D := by
    have : (qs.map (·.1))[i]? = some q.1 := by rw [List.getElem?_map, hq]; rfl
    rw [hq1, hD] at this; exact (Option.some.inj this).symm
  subst hqD
  have hil : i < st.dirs.length := (List.getElem?_eq_some_iff.1 hD).1
  have hone : ∀ u ∈ flat dirC qs, u.oneCell' = true := flat_one1 fun a ha u hu => by
    simp only [dirC, List.mem_cons, List.not_mem_nil, or_false] at hu
    rcases hu with rfl | rfl
    · rfl
    · exact (hq3 a ha).one
  refine app_own (w := w) TRD e2 (Blk.own0 b2 (Nat.le_refl _)) (Sl.no hq2.1 e2) hone (by omega) (by omega) fun lv w3 ho3 e3 => ?_
  rw [Nat.zero_add, List.nil_append] at ho3
  obtain ⟨gl, q0, q1, q2, _⟩ := Own.field ho3 (i := i) (k := 1) hil (by decide) .i64
  have hway := hq3 q (List.mem_of_getElem? hq)
  obtain ⟨ad, p, r1, r2, r3⟩ := hway.at_ hy
  have hcell : (flat dirC qs)[i * 2 + 1]? = some q.2 := flat_get dirC dirC_len hq rfl
  refine pur q1 (pur (field_ptr _ _ _) (SG.load (S := No) (q2 w3 _ ho3 hcell) (pur r1 (loadA (At.no' r2 e3) rfl ?_))))
  refine build1 TRN (v := .agg [p.1, p.2].toArray) rfl fun w4 b4 e4 z4 => ?_
  have e04 := e3.trans e4
  have b4' : Blk w4 w3.heap.size 129 [p.1, p.2] := b4
  have ho4 := owns_ext ho3 e4 fun _ _ hh => hh
  obtain ⟨gl', q0', q1', _, q3'⟩ := Own.field ho4 (i := i) (k := 1) hil (by decide) .i64
  refine pur q1' (pur (field_ptr _ _ _) (q3' _ rfl fun w5 ho5 e5 z5 => ?_))
  have e05 : Ext No w w5 := e04.fresh e5 fun b hb => .inr (by rw [show b = gl' from hb]; exact (ho4.lt gl' q0').1)
  have hne : w3.heap.size ≠ gl' := fun hh => Own.ne_blk ho4 b4' (by decide) (by rw [q0', hh])
  have b5 := b4'.ext e5 hne
  rw [flat_set1 dirC dirC_len hq (a := ((⟨q.1.name, [], y⟩ : Di), Value.slice (some ⟨w3.heap.size, 0, none⟩) 1 1)) (by decide) rfl] at ho5
  have k5 : Gon Nil w T w5 (icf w T) := Gon.icf e05
  refine h.putDirs (dirs' := st.dirs.set i ⟨q.1.name, [], y⟩) k5 ⟨qs.set i ((⟨q.1.name, [], y⟩ : Di), Value.slice (some ⟨w3.heap.size, 0, none⟩) 1 1), by rw [List.map_set, hq1], ?_, fun r hr => ?_⟩ (K := fun w => K (.tuple [].toArray) w) fun w6 h6 k6 => hK w6 (icf w T) lv h6 k6
  · rw [List.length_set]
    exact IcS.row ho5
  · rcases List.mem_or_eq_of_mem_set hr with hr | rfl
    · exact (hq3 r hr).keep k5 fun h => h
    · refine ⟨[(y, p)], rfl, ?_, fun s hs => ?_⟩
      · have hb5 : Blk w5 w3.heap.size 129 (flat nmC [(y, p)]) := b5
        exact ⟨hb5.sl (n := 1) (c := 1) (size := 2) rfl (Nat.le_refl _), fun b hb => by
          have : b = w3.heap.size := by simpa [Value.ownBlock] using hb.symm
          rw [this]; exact ⟨b5.lt, icf_ge e3.size⟩⟩
      · rw [List.mem_singleton.1 hs]; exact r3.keep k5 fun h => h
theorem cOnext {v : Value} {l : List Int} (hs : SlI w v l) (hl : l.length ≤ 4611686018427387904) (hi : ∀ n ∈ l, I64 n) {k : Nat} (hk : k ≤ 4611686018427387904) {n : Int} (hn : IntKind.i64.wrap (n + 1) ≠ 0) (hK : K (.int .i64 ((turnV l k).tmod (IntKind.i64.wrap (n + 1)))) w) : CallS Tryz.prog 106 #[v, .int .i64 (k : Int), .int .i64 n] K w := by
  refine s106_call hm ?_
  unfold s106
  refine pur hs.len (pur (bin_eql _ _ _) ?_)
  by_cases hz : l.length = 0
  · have h0 : l = [] := List.length_eq_zero_iff.1 hz
    refine orT (by rw [decide_eq_true_iff]; omega) (condT rfl ?_)
    rw [h0, turnV_nil] at hK
    simpa using hK
  have hpos : 0 < l.length := by omega
  have hlt : k % l.length < l.length := Nat.mod_lt _ hpos
  obtain ⟨x, hx⟩ := getN (xs := l) (i := k % l.length) hlt
  obtain ⟨ad, q1, q2, q3⟩ := sl_idx1 hs (i := k % l.length) (v := .int .i64 x) (by unfold intC; rw [List.getElem?_map, hx]; rfl) .i64
  have hrem : binV .rem (.int .i64 (k : Int)) (.int .i64 (l.length : Int)) = some (.int .i64 ((k % l.length : Nat) : Int)) := (bin_rem _ _ _ (by omega)).trans (by congr 2)
  refine orF (by rw [decide_eq_false_iff_not]; omega) (pur hs.len (pur hrem (pur q1 (SG.load (S := No) (q3 _ hs) (pur (bin_lss _ _ _) (pur (pickF _ _) (condD (fun hneg => ?_) (fun hnn => ?_))))))))
  · have : turnV l k = 0 := by unfold turnV; rw [hx]; simp only [Option.getD_some]; omega
    rw [this] at hK
    simpa using hK
  · have : turnV l k = x := by unfold turnV; rw [hx]; simp only [Option.getD_some]; omega
    rw [this] at hK
    exact pur hs.len (pur hrem (pur q1 (SG.load (S := No) (q3 _ hs) (pur (bin_add _ _ _) (pur (bin_rem _ _ _ hn) hK)))))
end
end Go.Proofs.YthohdinjpkehpaaGreat

namespace Go.Proofs.YthohdinjpkehpaaGreat
open Go SG Go.RowKit
set_option linter.unusedVariables false
set_option maxRecDepth 4000
set_option linter.unusedSimpArgs false

theorem setD_set {l : List Di} {i : Nat} {D D' : Di} (ho : OrdD l) (h : l[i]? = some D) (hn : D'.name = D.name) : (l.map fun E => if E.name = D'.name then D' else E) = l.set i D' := by
  have h1 := List.getElem?_eq_some_iff.1 h
  have e1 : l = l.take i ++ D :: l.drop (i + 1) := by
    conv => lhs; rw [← List.take_append_drop i l, List.drop_eq_getElem_cons h1.1, h1.2]
  have e2 : l.set i D' = l.take i ++ D' :: l.drop (i + 1) := by rw [List.set_eq_take_append_cons_drop, if_pos h1.1]
  rw [e2]
  have hnd := ho.nodup
  rw [e1] at hnd
  conv => lhs; rw [e1]
  exact setD_mid hn hnd
theorem Dk.setD_at {st : Dk} {i : Nat} {D D' : Di} (ho : OrdD st.dirs) (h : st.dirs[i]? = some D) (hn : D'.name = D.name) : st.setD D' = { st with dirs := st.dirs.set i D' } := by
  unfold Dk.setD
  rw [setD_set ho h hn]
theorem withR_pos (l : Way) (x : El) (i : Nat) : withR l x (i : Int) = wput l x i := by unfold withR; rw [if_neg (by omega)]; simp
theorem withR_neg (l : Way) (x : El) : withR l x (-1) = mdel l x := by unfold withR; rw [if_pos (by decide)]
theorem NmR.rows {T : Tags} {w w' : World} {xv yv : Value} {y : Way} (h1 : w'.ownsRow w.heap.size 9 1 xv y.length (nmV y)) (h2 : w'.ownsRow w.heap.size 3 1 yv y.length (fiV y)) : NmR (icf w T) w' (xv, yv) y := ⟨IcS.row h1, IcS.row h2⟩
structure DocW (n : Nat) (st : Dk) : Prop where
  wf : Wf 536870912 n st
  sc : ScD st
  fm : st.fail.many ≤ 9223372036854775807
  n2 : n ≤ 2199023255552
section
variable {T T1 : Tags} {w w1 : World} {d g n : Nat} {st : Dk} {dv fv : Value} {K : Value → World → Prop}
theorem Doc.nowWith {w0 : World} (h : Doc T d w0 g st dv fv) (e0 : Ext No w0 w) {i : Nat} {D : Di} (hD : st.dirs[i]? = some D) (hwl : D.was.length ≤ 2199023255552) (ho : Ord D.now) (hl : D.now.length ≤ 1024) {x : El} {fi : Int}
    (hK : ∀ p w', NmR (icf w T) w' p (withR D.now x fi) → Ext No w w' → K (.agg [p.1, p.2].toArray) w') : CallS Tryz.prog 86 #[ptrE g, .int .i64 (i : Int)] (fun t w => CallS Tryz.prog 90 #[t, encE x, .int .i64 fi] K w) w := by
  refine h.now e0 hD (by omega) fun p w1 hp e1 => cNwith hp (e0.trans e1) ho hl fun xv yv w2 hx hy e2 => ?_
  have hb : ∀ {v : Value} {e : TypeId} {m : Nat} {xs : List Value}, w2.ownsRow w1.heap.size e 1 v m xs → w2.ownsRow w.heap.size e 1 v m xs := fun h => owns_base h fun b hb => by have := (h.lt b hb).1; have := e1.size; omega
  exact hK (xv, yv) w2 (NmR.rows (hb hx) (hb hy)) (e1.trans e2)
theorem Doc.chgWith (h : Doc T d w g st dv fv) {i : Nat} {D : Di} (hD : st.dirs[i]? = some D) (hdl : st.dirs.length ≤ 64) (hwl : D.was.length ≤ 2199023255552) (ho : Ord D.now) (hl : D.now.length ≤ 1024) {x : El} {fi : Int}
    (hK : ∀ v w' T' dv', Doc T' d w' g { st with dirs := st.dirs.set i (D.chg (withR D.now x fi)) } dv' fv → Gon (DocT d) w T w' T' → K v w') :
    CallS Tryz.prog 86 #[ptrE g, .int .i64 (i : Int)] (fun t w => CallS Tryz.prog 90 #[t, encE x, .int .i64 fi] (fun t2 w => CallS Tryz.prog 89 #[ptrE g, .int .i64 (i : Int), t2] K w) w) w := by
  refine h.nowWith (Ext.refl _ _) hD hwl ho hl fun p w1 hp e1 => ?_
  have k1 : Gon Nil w T w1 (icf w T) := Gon.icf e1
  exact (h.keep k1 (fun h => h) fun h => h).changes hD hdl hwl hp fun w2 T2 dv2 h2 k2 => hK _ w2 T2 dv2 h2 ((k1.mono fun _ h => h.elim).trans k2)
theorem Doc.Link (h : Doc T d w g st dv fv) (hW : DocW n st) {a b : El} (ha : a.length ≤ 9223372036854775806) (hb : b.length ≤ 9223372036854775806)
    (hK : ∀ w' T' dv', Doc T' d w' g (st.link a b).2 dv' fv → Gon (DocT d) w T w' T' → K (.int .i64 (st.link a b).1) w') : CallS Tryz.prog 52 #[ptrE g, encE a, encE b] K w := by
  refine s52_call hm ?_
  unfold s52
  unfold Dk.link at hK
  have hW1 := hW.wf
  have hn2 := hW.n2
  refine h.two hW1 hW.n2 ha hb (fun e v1 v2 v3 v4 v5 w1 he hne e1 => ?_) fun i j A m D x f w1 h2 hi hj e1 => ?_
  · rw [he] at hK
    exact pur (extract_0 _ _) (pur (extract_1 _ _ _) (pur (extract_2 _ _ _ _) (pur (v := v4) rfl (pur (v := v5) rfl (pur (v := .int .i64 e) rfl (pur (bin_neq _ _ _) (condT (by simpa using hne) (hK w1 T dv (h.no e1) (Gon.no e1)))))))))
  rw [h2] at hK
  simp only at hK
  have hD := List.mem_of_getElem? hj
  have hwl := hW1.wlen D hD
  have hway := hW1.now_ D hD
  have hnl := hway.2.1
  refine pur (extract_0 _ _) (pur (extract_1 _ _ _) (pur (extract_2 _ _ _ _) (pur (v := encE x) rfl (pur (v := .int .i64 (f : Int)) rfl (pur (v := .int .i64 0) rfl (pur (bin_neq _ _ _) (condF (by simp) ?_)))))))
  refine h.now e1 hj (by omega) fun p w2 hp2 e2 => cNfind (hp2.no (e1.trans e2)) (by omega) fun w3 e3 => pur (bin_geq _ _ _) ?_
  have e03 := (e1.trans e2).trans e3
  cases hx : mget D.now x with
  | some q =>
    rw [fnum_some hx]
    rw [hx] at hK
    exact condT (by rw [decide_eq_true_iff]; omega) (hK w3 T dv (h.no e03) (Gon.no e03))
  | none =>
    rw [fnum_none hx]
    rw [hx] at hK
    simp only [Option.isSome_none, Bool.false_eq_true, if_false] at hK
    refine condF (by decide) (h.now e03 hj (by omega) fun p4 w4 hp4 e4 => runS (fldN0 w4 p4.1 p4.2) ?_)
    have e04 := e03.trans e4
    refine pur (hp4.1.1.no e04).len (pur (bin_geq _ _ _) (condD (fun hlong => ?_) (fun hroom => ?_)))
    · rw [if_pos (by omega)] at hK
      exact hK w4 T dv (h.no e04) (Gon.no e04)
    rw [if_neg (by omega)] at hK
    refine (h.no e04).stops hW1.fail hW1.stop hW.sc hW.fm fun w5 h5 k5 => ?_
    have k05 : Gon (DocT d) w T w5 T := (Gon.no e04).trans k5
    refine join0 (fun w' => K (.int .i64 (chgV st).1) w') (fun w' h => h) fun J0 hJ0 => pur (bin_eql _ _ _) (condD (fun heq => ?_) (fun hne => ?_))
    · rw [if_neg (by simpa using heq)] at hK
      refine h5.chgWith hj hW1.dlen (by omega) hway.1 hnl (x := x) (fi := (f : Int)) fun v w6 T6 dv6 h6 k6 => hJ0 _ ?_
      rw [heq]
      refine hK w6 T6 dv6 ?_ (k05.trans k6)
      rw [withR_pos] at h6
      rw [Dk.setD_at (st := chgD st) (i := j) (D := D) (D' := D.chg (wput D.now x f)) hW1.ordD hj rfl]
      exact h6
    · rw [if_pos (by simpa using hne)] at hK
      exact hJ0 _ (hK w5 T dv h5 k05)
theorem Doc.Remove (h : Doc T d w g st dv fv) (hW : DocW n st) {s : El} (hs : s.length ≤ 9223372036854775806)
    (hK : ∀ w' T' dv', Doc T' d w' g (st.remove s).2 dv' fv → Gon (DocT d) w T w' T' → K (.int .i64 (st.remove s).1) w') : CallS Tryz.prog 54 #[ptrE g, encE s] K w := by
  refine s54_call hm ?_
  unfold s54
  unfold Dk.remove at hK
  have hW1 := hW.wf
  have hn2 := hW.n2
  refine h.file hW1 hW.n2 hs (fun e w1 he hne e1 => ?_) fun i w1 hi e1 => ?_
  · rw [he] at hK
    exact pur (extract_0 _ _) (pur (extract_1 _ _ _) (pur (bin_neq _ _ _) (condT (by simpa using hne) (hK w1 T dv (h.no e1) (Gon.no e1)))))
  rw [hi] at hK
  simp only at hK
  refine pur (extract_0 _ _) (pur (extract_1 _ _ _) (pur (bin_neq _ _ _) (condF (by simp) ?_)))
  refine (h.no e1).stops hW1.fail hW1.stop hW.sc hW.fm fun w2 h2 k2 => ?_
  have k02 : Gon (DocT d) w T w2 T := (Gon.no e1).trans k2
  obtain ⟨D, x, hp, hg⟩ := file_path hi
  rw [hp] at hK
  simp only at hK
  refine join0 (fun w' => K (.int .i64 (chgV st).1) w') (fun w' h => h) fun J0 hJ0 => pur (bin_eql _ _ _) (condD (fun heq => ?_) (fun hne => ?_))
  · rw [if_neg (by simpa using heq)] at hK
    refine h2.place (st := chgD st) hW1.dlen hs (fun e w3 he hne e3 => (ok_err (x := st.path s) hp he).elim) fun j D' x' w3 hp' hj e3 => ?_
    have hpp : (D, x) = (D', x') := ok_inj (x := st.path s) hp hp'
    injection hpp with h3 h4
    subst h3; subst h4
    have hD := List.mem_of_getElem? hj
    have hway := hW1.now_ D hD
    refine pur (extract_0 _ _) (pur (extract_1 _ _ _) (pur (extract_2 _ _ _ _) ?_))
    have hwl := hW1.wlen D hD
    refine (h2.no e3).chgWith hj hW1.dlen (by omega) hway.1 hway.2.1 (x := x) (fi := -1) fun v w6 T6 dv6 h6 k6 => hJ0 _ ?_
    rw [heq]
    refine hK w6 T6 dv6 ?_ ((k02.trans (Gon.no e3)).trans k6)
    rw [withR_neg] at h6
    rw [Dk.setD_at (st := chgD st) (i := j) (D := D) (D' := D.chg (mdel D.now x)) hW1.ordD hj rfl]
    exact h6
  · rw [if_pos (by simpa using hne)] at hK
    exact hJ0 _ (hK w2 T dv h2 k02)
theorem Doc.SyncDir (h : Doc T d w g st dv fv) (hW : DocW n st) {s : El}
    (hK : ∀ w' T' dv', Doc T' d w' g (st.syncDir s).2 dv' fv → Gon (DocT d) w T w' T' → K (.int .i64 (st.syncDir s).1) w') : CallS Tryz.prog 56 #[ptrE g, encE s] K w := by
  refine s56_call hm ?_
  unfold s56
  unfold Dk.syncDir at hK
  have hW1 := hW.wf
  have hn2 := hW.n2
  refine h.directory hW1.dlen (fun e he hne => ?_) fun i D hi hj => ?_
  · rw [he] at hK
    exact pur (extract_0 _ _) (pur (extract_1 _ _ _) (pur (bin_neq _ _ _) (condT (by simpa using hne) (hK w T dv h (Gon.refl _ _)))))
  rw [hi] at hK
  simp only at hK
  have hD := List.mem_of_getElem? hj
  have hwl := hW1.wlen D hD
  refine pur (extract_0 _ _) (pur (extract_1 _ _ _) (pur (bin_neq _ _ _) (condF (by simp) ?_)))
  refine h.stops hW1.fail hW1.stop hW.sc hW.fm fun w2 h2 k2 => ?_
  refine join0 (fun w' => K (.int .i64 (chgV st).1) w') (fun w' h => h) fun J0 hJ0 => pur (bin_eql _ _ _) (condD (fun heq => ?_) (fun hne => ?_))
  · rw [if_neg (by simpa using heq)] at hK
    obtain ⟨ad, wv, a1, a2, a3, _⟩ := h2.dirs.at_ hj
    have hlen : lenSliceV wv = some (.int .i64 ((D.was.length + 1 : Nat) : Int)) := by obtain ⟨qs, _, h3, _⟩ := a3; have := h3.1.len; simpa using this
    refine h2.ld (k := 1) rfl (pur a1 (pur (field_ad _ _) (SG.load (S := No) (a2 1 _ rfl) (pur hlen (pur (sub64 (c := (D.was.length : Int)) (by omega) (by omega) (by omega)) ?_)))))
    refine h2.settle (m := D.was.length) (y := D.now) hj hW1.dlen (by simp) fun w3 T3 dv3 h3 k3 => hJ0 _ ?_
    rw [heq]
    refine hK w3 T3 dv3 ?_ (k2.trans k3)
    rw [Dk.setD_at (st := chgD st) (i := i) (D := D) (D' := ⟨D.name, [], D.now⟩) hW1.ordD hj rfl]
    exact h3
  · rw [if_pos (by simpa using hne)] at hK
    exact hJ0 _ (hK w2 T dv h2 k2)
end
end Go.Proofs.YthohdinjpkehpaaGreat

namespace Go.Proofs.YthohdinjpkehpaaGreat
open Go SG Go.RowKit
set_option linter.unusedVariables false
set_option maxRecDepth 4000
set_option linter.unusedSimpArgs false

theorem OrdD.inj {l : List Di} (ho : OrdD l) {i j : Nat} {A D : Di} (hi : l[i]? = some A) (hj : l[j]? = some D) : i = j ↔ A.name = D.name := by
  constructor
  · rintro rfl
    rw [hi] at hj; cases hj; rfl
  · intro h
    have h1 := List.getElem?_eq_some_iff.1 hi
    have h2 := List.getElem?_eq_some_iff.1 hj
    have hp := List.pairwise_iff_getElem.1 ho
    rcases Nat.lt_trichotomy i j with hlt | heq | hgt
    · have := hp i j h1.1 h2.1 hlt
      rw [h1.2, h2.2, h, lt_irr] at this; cases this
    · exact heq
    · have := hp j i h2.1 h1.1 hgt
      rw [h1.2, h2.2, h, lt_irr] at this; cases this
theorem buildFil0 (w : World) : (Instr.build 135 [].toArray).run Tryz.prog w = .ok (.agg #[.slice none 0 0, .slice none 0 0]) w := by kernel_rfl
theorem IcS.nil_ (T : Tags) (w : World) (size : Nat) : IcS T w (.slice none 0 0) 0 size [] := ⟨Sl.nil_ _ _, fun b hb => by simp [Value.ownBlock] at hb⟩
theorem FilI.nil_ (T : Tags) (w : World) : FilI T w (.slice none 0 0, .slice none 0 0) ⟨[], []⟩ := ⟨IcS.nil_ T w 1, [], rfl, IcS.nil_ T w 2, fun q hq => by cases hq⟩
section
variable {T T1 : Tags} {w w1 : World} {d g n : Nat} {st : Dk} {dv fv : Value} {K : Value → World → Prop}
set_option maxHeartbeats 2000000 in
theorem Doc.Create (h : Doc T d w g st dv fv) (hW : DocW n st) {s : El} (hs : s.length ≤ 9223372036854775806)
    (hK : ∀ w' T' dv' fv', Doc T' d w' g (st.create s).2 dv' fv' → Gon (DocT d) w T w' T' → K (.int .i64 (st.create s).1) w') : CallS Tryz.prog 45 #[ptrE g, encE s] K w := by
  refine s45_call hm ?_
  unfold s45
  unfold Dk.create at hK
  have hW1 := hW.wf
  have hn2 := hW.n2
  refine h.place hW1.dlen hs (fun e w1 he hne e1 => ?_) fun i D x w1 hp hi e1 => ?_
  · rw [he] at hK
    exact pur (extract_0 _ _) (pur (extract_1 _ _ _) (pur (extract_2 _ _ _ _) (pur (bin_neq _ _ _) (condT (by simpa using hne) (hK w1 T dv fv (h.no e1) (Gon.no e1))))))
  rw [hp] at hK
  simp only at hK
  have hD := List.mem_of_getElem? hi
  have hwl := hW1.wlen D hD
  have hway := hW1.now_ D hD
  have hnl := hway.2.1
  have hfl := hW1.flen
  refine pur (extract_0 _ _) (pur (extract_1 _ _ _) (pur (extract_2 _ _ _ _) (pur (bin_neq _ _ _) (condF (by simp) ?_))))
  refine h.now e1 hi (by omega) fun p w2 hp2 e2 => cNfind (hp2.no (e1.trans e2)) (by omega) fun w3 e3 => pur (bin_geq _ _ _) ?_
  have e03 := (e1.trans e2).trans e3
  cases hx : mget D.now x with
  | some q =>
    rw [fnum_some hx]
    rw [hx] at hK
    exact condT (by rw [decide_eq_true_iff]; omega) (hK w3 T dv fv (h.no e03) (Gon.no e03))
  | none =>
    rw [fnum_none hx]
    rw [hx] at hK
    simp only [Option.isSome_none, Bool.false_eq_true, if_false] at hK
    refine condF (by decide) (h.now e03 hi (by omega) fun p4 w4 hp4 e4 => runS (fldN0 w4 p4.1 p4.2) ?_)
    have e04 := e03.trans e4
    refine pur (hp4.1.1.no e04).len (pur (bin_geq _ _ _) (condD (fun hlong => ?_) (fun hroom => ?_)))
    · rw [if_pos (by omega)] at hK
      exact hK w4 T dv fv (h.no e04) (Gon.no e04)
    rw [if_neg (by omega)] at hK
    refine (h.no e04).stops hW1.fail hW1.stop hW.sc hW.fm fun w5 h5 k5 => pur (bin_neq _ _ _) (condN (fun hne => ?_) (fun heq => ?_))
    · rw [if_pos hne] at hK
      exact hK w5 T dv fv h5 ((Gon.no e04).trans k5)
    rw [if_neg (by simpa using heq)] at hK
    have k05 : Gon (DocT d) w T w5 T := (Gon.no e04).trans k5
    obtain ⟨qs, hq1, hq2, hq3⟩ := h5.files
    have hql : qs.length = st.files.length := by rw [← List.length_map (f := fun q : Fi × P2 => q.1), hq1]; rfl
    have hone : ∀ u ∈ flat filC qs, u.oneCell' = true := flat_one1 fun a ha u hu => by
      simp only [filC, List.mem_cons, List.not_mem_nil, or_false] at hu
      rcases hu with rfl | rfl
      · exact (hq3 a ha).one.1
      · exact (hq3 a ha).one.2
    have hcf : (chgD st).files.length = st.files.length := rfl
    refine build0 TRF fun w6 b6 e6 z6 => (h5.no e6).ld (k := 2) rfl ?_
    refine app_own (w := w5) TRF e6 (Blk.own0 b6 (Nat.le_refl _)) (Sl.no hq2.1 e6) hone (by omega) (by omega) fun l1 w7 ho7 e7 => runS (buildFil0 w7) ?_
    rw [Nat.zero_add, List.nil_append] at ho7
    refine row_one TRF ho7 (u := .agg #[.slice none 0 0, .slice none 0 0]) rfl (by
      intro c hc
      have hc' : c ∈ [Value.slice none 0 0, Value.slice none 0 0] := hc
      simp only [List.mem_cons, List.not_mem_nil, or_false] at hc'
      rcases hc' with rfl | rfl <;> rfl) (by omega) (by omega) e7.size fun lv w8 ho8 e8' _ => ?_
    have e8 : Ext No w5 w8 := e7.fresh e8' fun b hb => .inr (ho7.lt b hb).1
    have k8 : Gon Nil w5 T w8 (icf w5 T) := Gon.icf e8
    refine h5.putFiles (files' := st.files ++ [⟨[], []⟩]) k8 ⟨qs ++ [(⟨[], []⟩, (.slice none 0 0, .slice none 0 0))], by rw [List.map_append, hq1]; rfl, ?_, fun r hr => ?_⟩ fun w9 h9 k9 => ?_
    · rw [flat_append, flat_one, List.length_append]
      exact IcS.row ho8
    · rcases List.mem_append.1 hr with hr | hr
      · exact (hq3 r hr).keep k8 fun h => h
      · rw [List.mem_singleton.1 hr]; exact FilI.nil_ _ _
    have ed := Ext.drew (S := No) w9
    have h9d := h9.no ed
    refine draw (fun w' => Blk w' g 99 (docC { chgD st with files := st.files ++ [⟨[], []⟩] } dv lv)) h9d.blk (pur (nil_ptr _) (pur (field_ptr _ _ _) ?_))
    have hlen : lenSliceV lv = some (.int .i64 ((st.files.length + 1 : Nat) : Int)) := (Sl.own ho8).len
    refine heldC (v := lv) (fun w' hh => hh.cell 2) (pur hlen (pur (sub64 (c := (st.files.length : Int)) (by omega) (by omega) (by omega)) ?_))
    refine h9.now ed hi (by omega) fun p10 w10 hp10 e10 => ⟨(h9d.no e10).blk, ?_⟩
    refine cNwith hp10 (ed.trans e10) hway.1 hnl fun xv yv w11 hx11 hy11 e11 => ?_
    have e911 := (ed.trans e10).trans e11
    have hb : ∀ {v : Value} {e : TypeId} {m : Nat} {xs : List Value}, w11.ownsRow w10.heap.size e 1 v m xs → w11.ownsRow w9.heap.size e 1 v m xs := fun h => owns_base h fun b hb => by have := (h.lt b hb).1; have := (ed.trans e10).size; omega
    have k11 : Gon Nil w9 (icf w5 T) w11 (icf w9 (icf w5 T)) := Gon.icf e911
    rw [withR_pos] at hx11 hy11
    refine (h9.keep k11 (fun h => h) fun h => h).changes hi hW1.dlen (by omega) (p := (xv, yv)) (y := wput D.now x st.files.length) (NmR.rows (hb hx11) (hb hy11)) fun w12 T12 dv12 h12 k12 => ?_
    refine hK w12 T12 dv12 lv ?_ (((k05.trans k9).trans (k11.mono fun _ h => h.elim)).trans k12)
    rw [Dk.setD_at (st := chgD st) (i := i) (D := D) (D' := D.chg (wput D.now x st.files.length)) hW1.ordD hi rfl]
    exact h12
set_option maxHeartbeats 2000000 in
theorem Doc.Rename (h : Doc T d w g st dv fv) (hW : DocW n st) {a b : El} (ha : a.length ≤ 9223372036854775806) (hb : b.length ≤ 9223372036854775806)
    (hK : ∀ w' T' dv', Doc T' d w' g (st.rename a b).2 dv' fv → Gon (DocT d) w T w' T' → K (.int .i64 (st.rename a b).1) w') : CallS Tryz.prog 50 #[ptrE g, encE a, encE b] K w := by
  refine s50_call hm ?_
  unfold s50
  unfold Dk.rename at hK
  have hW1 := hW.wf
  have hn2 := hW.n2
  refine h.two hW1 hW.n2 ha hb (fun e v1 v2 v3 v4 v5 w1 he hne e1 => ?_) fun i j A m D x f w1 h2 hi hj e1 => ?_
  · rw [he] at hK
    exact pur (extract_0 _ _) (pur (extract_1 _ _ _) (pur (extract_2 _ _ _ _) (pur (v := v4) rfl (pur (v := v5) rfl (pur (v := .int .i64 e) rfl (pur (bin_neq _ _ _) (condT (by simpa using hne) (hK w1 T dv (h.no e1) (Gon.no e1)))))))))
  rw [h2] at hK
  simp only at hK
  have hD := List.mem_of_getElem? hj
  have hA := List.mem_of_getElem? hi
  have hwD := hW1.wlen D hD
  have hwA := hW1.wlen A hA
  have hwayD := hW1.now_ D hD
  have hwayA := hW1.now_ A hA
  have hnD := hwayD.2.1
  have hnA := hwayA.2.1
  have hij := hW1.ordD.inj hi hj
  have hdl := hW1.dlen
  refine pur (extract_0 _ _) (pur (extract_1 _ _ _) (pur (extract_2 _ _ _ _) (pur (v := encE x) rfl (pur (v := .int .i64 (f : Int)) rfl (pur (v := .int .i64 0) rfl (pur (bin_neq _ _ _) (condF (by simp) ?_)))))))
  refine pur (bin_neq _ _ _) ?_
  refine join1 (fun t w' => Ext No w w' ∧ (¬ i = j → t = .bool (decide (mget D.now x = none)))) ?_ fun J0 hJ0 => ?_
  rotate_left
  · rw [ifB_eq]
    by_cases hh : i = j
    · rw [if_neg (by simp [hh])]; exact hJ0 _ _ ⟨e1, fun h => absurd hh h⟩
    · rw [if_pos (by simp; omega)]
      refine h.now e1 hj (by omega) fun p w2 hp2 e2 => cNfind (hp2.no (e1.trans e2)) (by omega) fun w3 e3 => pur (bin_lss _ _ _) (hJ0 _ _ ⟨(e1.trans e2).trans e3, fun _ => ?_⟩)
      congr 1
      rw [decide_eq_decide]; exact fnum_lt
  rintro t w2 ⟨e2, ht⟩
  refine pur (v := .bool (decide (mget D.now x = none ∧ A.name ≠ D.name))) ((pick_b _ _ _).trans ?_) ?_
  · by_cases hh : i = j
    · have := hij.1 hh
      simp [hh, this]
    · have hnn : ¬ A.name = D.name := fun h => hh (hij.2 h)
      rw [ht hh, if_pos (by simp; omega)]
      simp [hnn]
  refine join1 (fun t w' => Ext No w w' ∧ (mget D.now x = none ∧ A.name ≠ D.name → t = .bool (decide (1024 ≤ D.now.length)))) ?_ fun J1 hJ1 => ?_
  rotate_left
  · rw [ifB_eq]
    by_cases hh : mget D.now x = none ∧ A.name ≠ D.name
    · rw [if_pos (by simpa using hh)]
      refine h.now e2 hj (by omega) fun p w3 hp3 e3 => runS (fldN0 w3 p.1 p.2) (pur (hp3.1.1.no (e2.trans e3)).len (pur (bin_geq _ _ _) (hJ1 _ _ ⟨e2.trans e3, fun _ => by congr 1; rw [decide_eq_decide]; omega⟩)))
    · rw [if_neg (by simpa using hh)]
      exact hJ1 _ _ ⟨e2, fun h' => absurd h' hh⟩
  rintro t w3 ⟨e3, ht3⟩
  refine pur (v := .bool (decide (mget D.now x = none ∧ A.name ≠ D.name ∧ 1024 ≤ D.now.length))) ((pick_b _ _ _).trans ?_) (condD (fun hlong => ?_) (fun hroom => ?_))
  · by_cases hh : mget D.now x = none ∧ A.name ≠ D.name
    · rw [ht3 hh]; simp [hh]
    · rw [if_neg (by simpa using hh)]
      congr 2
      rw [eq_comm, decide_eq_false_iff_not]
      exact fun hk => hh ⟨hk.1, hk.2.1⟩
  · rw [if_pos hlong] at hK
    exact hK w3 T dv (h.no e3) (Gon.no e3)
  rw [if_neg hroom] at hK
  refine (h.no e3).stops hW1.fail hW1.stop hW.sc hW.fm fun w5 h5 k5 => pur (bin_neq _ _ _) ?_
  have k05 : Gon (DocT d) w T w5 T := (Gon.no e3).trans k5
  refine join1 (fun t w' => w5 = w' ∧ ((chgV st).1 = 0 → t = .bool (decide (a = b)))) ?_ fun J3 hJ3 => ?_
  rotate_left
  · rw [ifB_eq]
    by_cases hh : (chgV st).1 = 0
    · rw [if_pos (by simp [hh])]
      exact pur (eqE a b) (hJ3 _ _ ⟨rfl, fun _ => rfl⟩)
    · rw [if_neg (by simp [hh])]
      exact hJ3 _ _ ⟨rfl, fun h' => absurd h' hh⟩
  rintro t _ ⟨rfl, ht5⟩
  refine pur (v := .bool (decide ((chgV st).1 ≠ 0 ∨ a = b))) ((pick_b _ _ _).trans ?_) (condD (fun hstop => ?_) (fun hgo => ?_))
  · by_cases hh : (chgV st).1 = 0
    · rw [ht5 hh]; simp [hh]
    · simp [hh]
  · by_cases hh : (chgV st).1 = 0
    · rw [if_neg (by simpa using hh), if_pos (hstop.resolve_left (by simpa using hh))] at hK
      rw [hh]; exact hK w5 T dv h5 k05
    · rw [if_pos hh] at hK
      exact hK w5 T dv h5 k05
  have hc0 : (chgV st).1 = 0 := Classical.byContradiction fun h => hgo (.inl h)
  have hab : ¬ a = b := fun h => hgo (.inr h)
  rw [if_neg (by simpa using hc0), if_neg hab] at hK
  refine pur (bin_eql _ _ _) (condD (fun heq => ?_) (fun hne => ?_))
  · have hij' : i = j := by omega
    have hnm : A.name = D.name := hij.1 hij'
    rw [if_pos hnm] at hK
    refine h5.nowWith (Ext.refl _ _) hi (by omega) hwayA.1 hnA (x := m) (fi := -1) fun p w6 hp6 e6 => ?_
    rw [withR_neg] at hp6
    have hdel := hwayA.1.del m
    have hdl2 : (mdel A.now m).length ≤ 1024 := Nat.le_trans (List.length_filter_le _ _) hnA
    refine cNwith hp6 (Ext.refl _ _) hdel hdl2 fun xv yv w7 hx7 hy7 e7 => ?_
    rw [withR_pos] at hx7 hy7
    have e57 := e6.trans e7
    have hb' : ∀ {v : Value} {e : TypeId} {m : Nat} {xs : List Value}, w7.ownsRow w6.heap.size e 1 v m xs → w7.ownsRow w5.heap.size e 1 v m xs := fun h => owns_base h fun b hb => by have := (h.lt b hb).1; have := e6.size; omega
    have k7 : Gon Nil w5 T w7 (icf w5 T) := Gon.icf e57
    refine (h5.keep k7 (fun h => h) fun h => h).changes hi hdl (by omega) (p := (xv, yv)) (y := wput (mdel A.now m) x f) (NmR.rows (hb' hx7) (hb' hy7)) fun w8 T8 dv8 h8 k8 => ?_
    refine hK w8 T8 dv8 ?_ ((k05.trans (k7.mono fun _ h => h.elim)).trans k8)
    rw [Dk.setD_at (st := chgD st) (i := i) (D := A) (D' := A.chg (wput (mdel A.now m) x f)) hW1.ordD hi rfl]
    exact h8
  · have hij' : ¬ i = j := by omega
    have hnm : ¬ A.name = D.name := fun h => hij' (hij.2 h)
    rw [if_neg hnm] at hK
    refine h5.chgWith hj hdl (by omega) hwayD.1 hnD (x := x) (fi := (f : Int)) fun v w6 T6 dv6 h6 k6 => ?_
    rw [withR_pos] at h6
    have hi6 : ((chgD st).dirs.set j (D.chg (wput D.now x f)))[i]? = some A := by rw [List.getElem?_set_ne (fun h => hij' h.symm)]; exact hi
    refine h6.chgWith (i := i) (D := A) hi6 (by show ((chgD st).dirs.set j _).length ≤ 64; rw [List.length_set]; exact hdl) (by omega) hwayA.1 hnA (x := m) (fi := -1) fun v w7 T7 dv7 h7 k7 => ?_
    rw [withR_neg] at h7
    refine hK w7 T7 dv7 ?_ ((k05.trans k6).trans k7)
    have ho6 : OrdD ((chgD st).dirs.set j (D.chg (wput D.now x f))) := by
      have h1 := OrdD.setD (l := (chgD st).dirs) hW1.ordD (D.chg (wput D.now x f))
      rwa [setD_set (D := D) (i := j) (D' := D.chg (wput D.now x f)) (l := (chgD st).dirs) hW1.ordD hj rfl] at h1
    rw [Dk.setD_at (st := chgD st) (i := j) (D := D) (D' := D.chg (wput D.now x f)) hW1.ordD hj rfl,
      Dk.setD_at (st := { chgD st with dirs := (chgD st).dirs.set j (D.chg (wput D.now x f)) }) (i := i) (D := A) (D' := A.chg (mdel A.now m)) ho6 hi6 rfl]
    exact h7
end
end Go.Proofs.YthohdinjpkehpaaGreat

namespace Go.Proofs.YthohdinjpkehpaaGreat
open Go SG Go.RowKit
set_option linter.unusedVariables false
set_option maxRecDepth 4000
set_option linter.unusedSimpArgs false

def Dk.rmdir (st : Dk) (x : El) : Int × Dk := match st.findD x with
  | .error e => (e, st)
  | .ok D => if 0 < D.now.length then (8, st) else if (chgV st).1 ≠ 0 then ((chgV st).1, chgD st) else (0, { chgD st with dirs := st.dirs.filter fun E => decide (E.name ≠ x) })
def Dk.cut (st : Dk) (i : Nat) (n : Int) : Int × Dk :=
  if n < 0 ∨ ((st.fi i).now.length : Int) < n then (1, st) else if (chgV st).1 ≠ 0 then ((chgV st).1, chgD st) else (0, (chgD st).setF i ⟨(st.fi i).now.take n.toNat, []⟩)
theorem xorC : ∀ (a : Fin 256) (k : Fin 8), 0 ≤ bits .xor .u8 (a.val : Int) ((2 ^ k.val : Nat) : Int) ∧ bits .xor .u8 (a.val : Int) ((2 ^ k.val : Nat) : Int) < 256 := by decide +kernel
def flipV (c : UInt8) (k : Nat) : UInt8 := UInt8.ofNat (bits .xor .u8 (c.toNat : Int) ((2 ^ k : Nat) : Int)).toNat
theorem flipV_eq (c : UInt8) {k : Nat} (hk : k < 8) : bits .xor .u8 (c.toNat : Int) ((2 ^ k : Nat) : Int) = ((flipV c k).toNat : Int) := by
  have h12 : 0 ≤ bits .xor .u8 (c.toNat : Int) ((2 ^ k : Nat) : Int) ∧ bits .xor .u8 (c.toNat : Int) ((2 ^ k : Nat) : Int) < 256 := xorC ⟨c.toNat, c.toNat_lt⟩ ⟨k, hk⟩
  unfold flipV
  generalize bits .xor .u8 (c.toNat : Int) ((2 ^ k : Nat) : Int) = z at *
  have : (UInt8.ofNat z.toNat).toNat = z.toNat := by simp; omega
  rw [this]; omega
def flipB (b : Bys) (n : Nat) : Bys := b.set (n / 8) (flipV ((b[n / 8]?).getD 0) (n % 8))
theorem flipB_len (b : Bys) (n : Nat) : (flipB b n).length = b.length := by unfold flipB; simp
def Dk.flip (st : Dk) (i : Nat) (n : Int) : Int × Dk :=
  if 0 < (st.fi i).ws.length then (8, st) else if n < 0 ∨ 8 * ((st.fi i).fast.length : Int) ≤ n then (1, st) else (0, st.setF i ⟨flipB (st.fi i).fast n.toNat, []⟩)
def Dk.fail_ (st : Dk) (n m : Int) : Dk := { st with fail := ⟨n, max m 0, 0⟩ }
def Dk.stop_ (st : Dk) (n : Int) : Dk := { st with stop := ⟨n, -1, 0⟩ }
theorem Dk.rmdir_mem {st : Dk} {x : El} {E : Di} (h : E ∈ st.dirs.filter fun E => decide (E.name ≠ x)) : E ∈ st.dirs ∧ E.name ≠ x := by
  obtain ⟨h1, h2⟩ := List.mem_filter.1 h
  exact ⟨h1, of_decide_eq_true h2⟩
theorem findD_name {st : Dk} {s : El} {D : Di} (h : st.findD s = .ok D) : st.dir s = some D ∧ D.name = s := by
  unfold Dk.findD at h
  split at h
  · split at h
    · cases h
    · rename_i hd; injection h with h; subst h; exact ⟨hd, (Dk.dir_some hd).2⟩
  · cases h
theorem mdel_lenG {κ ν : Type} [DecidableEq κ] {m : List (κ × ν)} (hk : Keys m) (x : κ) : (mdel m x).length = if (mget m x).isSome then m.length - 1 else m.length := by
  cases hg : mget m x with
  | none => rw [mdel_out (mget_none.1 hg)]; simp
  | some v =>
    have hx : x ∈ m.map (·.1) := mget_isSome.1 (by rw [hg]; rfl)
    obtain ⟨i, hi⟩ := List.getElem?_of_mem hx
    rw [mdel_at hk hi]
    have hl := (List.getElem?_eq_some_iff.1 hi).1
    rw [List.length_eraseIdx]
    simp at hl ⊢
    omega
theorem filter_one {l : List Di} (ho : OrdD l) {D : Di} (hD : D ∈ l) : (l.filter fun E => decide (E.name ≠ D.name)).length + 1 = l.length := by
  induction l with
  | nil => cases hD
  | cons E r ih =>
    have h' := List.pairwise_cons.1 ho
    rw [List.filter_cons]
    rcases List.mem_cons.1 hD with rfl | hD
    · rw [if_neg (by simp)]
      have : r.filter (fun E => decide (E.name ≠ D.name)) = r := List.filter_eq_self.2 fun F hF => by
        rw [decide_eq_true_iff]
        exact fun he => ltE_ne (h'.1 F hF) he.symm
      rw [this]; rfl
    · rw [if_pos (by rw [decide_eq_true_iff]; exact ltE_ne (h'.1 D hD)), List.length_cons, ih h'.2 hD]; rfl
section
variable {B n : Nat} {st : Dk}
theorem Wf.rmdir (h : Wf B n st) (x : El) : Wf B (n + 1) (st.rmdir x).2 := by
  unfold Dk.rmdir
  split
  · exact h.mono (by omega)
  split
  · exact h.mono (by omega)
  split
  · exact h.chgD
  have hc := h.chgD
  exact {
    ordD := List.Pairwise.sublist List.filter_sublist h.ordD
    dlen := Nat.le_trans (List.length_filter_le _ _) h.dlen
    dnm := fun E hE => hc.dnm E (Dk.rmdir_mem hE).1
    now_ := fun E hE => hc.now_ E (Dk.rmdir_mem hE).1
    was_ := fun E hE => hc.was_ E (Dk.rmdir_mem hE).1
    wlen := fun E hE => hc.wlen E (Dk.rmdir_mem hE).1
    fil := hc.fil
    flen := hc.flen
    fail := hc.fail
    stop := hc.stop
    quo := hc.quo }
theorem Wf.cut (h : Wf B n st) (i : Nat) (k : Int) : Wf B (n + 1) (st.cut i k).2 := by
  unfold Dk.cut
  split
  · exact h.mono (by omega)
  split
  · exact h.chgD
  · exact h.chgD.setF ⟨by have := (h.fi i).1.now_len; simp; omega, trivial, fun p hp => by cases hp⟩ (Nat.zero_le _)
theorem Wf.flip (h : Wf B n st) (i : Nat) (k : Int) : Wf B n (st.flip i k).2 := by
  unfold Dk.flip
  split
  · exact h
  split
  · exact h
  · exact h.setF ⟨by show (flipB _ _).length ≤ B; rw [flipB_len]; exact (h.fi i).1.1, trivial, fun p hp => by cases hp⟩ (Nat.zero_le _)
theorem Wf.fail_ (h : Wf B n st) {a : Int} (ha : I64 a) (b : Int) : Wf B n (st.fail_ a b) := { h with fail := ⟨ha.1, ha.2, Int.le_refl _, by show (0 : Int) ≤ (n : Int); omega⟩ }
theorem Wf.stop_ (h : Wf B n st) {a : Int} (ha : I64 a) : Wf B n (st.stop_ a) := { h with stop := ⟨ha.1, ha.2, Int.le_refl _, by show (0 : Int) ≤ (n : Int); omega⟩ }
end
section
variable {T : Tags} {w : World} {d g : Nat} {st : Dk} {md : Nat} {dm : List (El × Nat)} {ad : Nat → Option Nat} {K : Value → World → Prop}
theorem Dx.Rmdir (hx : Dx T d w g st md dm ad) {B n : Nat} (hW : Wf B n st) (hn : n ≤ 2199023255552) {x : El}
    (hK : ∀ w' dm', Dx T d w' g (st.rmdir x).2 md dm' ad → Gon (Ops d) w T w' T → K (.int .i64 (st.rmdir x).1) w') : CallS Tryz.prog 43 #[ptrE g, encE x] K w := by
  refine s43_call hm ?_
  unfold s43
  unfold Dk.rmdir at hK
  refine hx.find (fun e w1 he hne e1 => ?_) fun D gd w1 hp hgd hDR e1 => ?_
  · rw [he] at hK
    exact pur (extract_0 _ _) (pur (extract_1 _ _ _) (pur (bin_neq _ _ _) (condT (by simpa using hne) (hK w1 dm (hx.no e1) (Gon.no e1)))))
  rw [hp] at hK
  simp only at hK
  have hD := findD_mem hp
  have hnm := (findD_name hp).2
  refine pur (extract_0 _ _) (pur (extract_1 _ _ _) (pur (v := .bool false) ((bin_neq _ _ _).trans (by simp)) (condF rfl ?_)))
  obtain ⟨_, mn, wv, bs, hbk, hN, _⟩ := hDR
  refine pur (nil_ptr _) (pur (field_ptr _ _ _) (loadB hbk (v := .map (some mn)) rfl (hN.len_ (pur (bin_gtr _ _ _) (condD (fun hfull => ?_) (fun hempty => ?_))))))
  · rw [if_pos (by omega)] at hK
    exact hK w1 dm (hx.no e1) (Gon.no e1)
  rw [if_neg (by omega)] at hK
  refine (hx.no e1).change hW.fail hW.stop (by omega) fun w2 hx2 k2 => pur (extract_0 _ _) (pur (extract_1 _ _ _) (pur (bin_neq _ _ _) (condN (fun hne => ?_) (fun heq => ?_))))
  · rw [if_pos hne] at hK
    exact hK w2 dm hx2 ((Gon.no e1).trans k2.hdr)
  rw [if_neg (by simpa using heq)] at hK
  refine hx2.ldDirs (hx2.body.mdR.delete MTdir x fun w3 hm3 e3 z3 => ?_)
  have k3 : Gon (Dirs d) w2 T w3 T := Gon.at1 e3 hx2.body.mdT rfl
  have hi : ¬ Dirs d .ice := fun h => by cases h
  have hxx : mget dm x = some gd := by rw [← hnm]; exact hgd
  refine hK w3 (mdel dm x) ⟨hx2.tag, hx2.blk.ext k3.ext (by rw [hx2.tag]; intro h; cases h), hx2.body.mdT, hm3, fun E hE => ?_, fun y hy => ?_, ?_, fun j gj hj => ?_⟩ (((Gon.no e1).trans k2.hdr).trans (k3.mono fun t h => .inr (.inr ⟨_, h⟩)))
  · obtain ⟨h1, h2⟩ := Dk.rmdir_mem hE
    obtain ⟨ge, h3, h4⟩ := hx2.body.some_ E h1
    exact ⟨ge, by rw [mget_del, if_neg h2]; exact h3, h4.keep k3 hi (fun h => by cases h)⟩
  · rw [mget_del]
    by_cases hyx : y = x
    · rw [if_pos hyx]
    · rw [if_neg hyx]
      refine hx2.body.none_ y fun E hE he => hy E (List.mem_filter.2 ⟨hE, ?_⟩) he
      rw [decide_eq_true_iff, he]; exact hyx
  · rw [mdel_lenG hx2.body.mdR.keys, hxx]
    have h1 := filter_one hW.ordD hD
    rw [hnm] at h1
    have h2 : dm.length = st.dirs.length := hx2.body.len
    show dm.length - 1 = (st.dirs.filter _).length
    omega
  · obtain ⟨f, h1, h2⟩ := hx2.body.fil j gj hj
    exact ⟨f, h1, h2.keep k3 hi (fun h => by cases h)⟩
set_option maxHeartbeats 1000000 in
theorem Dx.Cut (hx : Dx T d w g st md dm ad) {B n : Nat} (hW : Wf B n st) (hB : B ≤ 536870912) (hn : n ≤ 2199023255552) {s : El} (hs : s.length ≤ 9223372036854775806) {k : Int}
    (h0 : ∀ e w', st.file s = .error e → Ext No w w' → K (.int .i64 e) w')
    (hK : ∀ i w' T', st.file s = .ok i → Dx T' d w' g (st.cut i k).2 md dm ad → Gon (Ops d) w T w' T' → K (.int .i64 (st.cut i k).1) w') : CallS Tryz.prog 47 #[ptrE g, encE s, .int .i64 k] K w := by
  refine s47_call hm ?_
  unfold s47
  refine hx.file hs (fun e w1 he e1 hne => ?_) fun i gf f w1 hi hg hf hF e1 => ?_
  · exact pur (extract_0 _ _) (pur (extract_1 _ _ _) (pur (bin_neq _ _ _) (condT (by simpa using hne) (h0 e w1 he e1))))
  have hK' := hK i
  unfold Dk.cut at hK'
  obtain ⟨hfi, hF1⟩ := (hx.no e1).fi hg
  obtain ⟨nv, hnv, hld⟩ := hF1.nowV
  have hnl := (hW.fil _ (List.mem_of_getElem? hfi)).1.now_len
  have k1 : Gon (Ops d) w T w1 T := Gon.no e1
  refine pur (extract_0 _ _) (pur (extract_1 _ _ _) (pur (v := .bool false) ((bin_neq _ _ _).trans (by simp)) (condF rfl (pur (bin_lss _ _ _) ?_))))
  by_cases hneg : k < 0
  · refine orT (by simpa using hneg) (condT rfl ?_)
    have := hK' w1 T hi
    rw [if_pos (.inl hneg)] at this
    exact this (hx.no e1) k1
  refine orF (by simpa using hneg) (hld (Ext.refl _ _) (pur hnv.sl.len (pur (bin_gtr _ _ _) (pur (pickF _ _) (condD (fun hbig => ?_) (fun hfit => ?_))))))
  · have := hK' w1 T hi
    rw [if_pos (.inr hbig)] at this
    exact this (hx.no e1) k1
  have hno : ¬ (k < 0 ∨ ((st.fi i).now.length : Int) < k) := fun h => h.elim hneg hfit
  refine (hx.no e1).change hW.fail hW.stop (by omega) fun w2 hx2 k2 => pur (extract_0 _ _) (pur (extract_1 _ _ _) (pur (bin_neq _ _ _) (condN (fun hne => ?_) (fun heq => ?_))))
  · have := hK' w2 T hi
    rw [if_neg hno, if_pos hne] at this
    exact this hx2 (k1.trans k2.hdr)
  obtain ⟨_, hF2⟩ := hx2.fi hg
  have hff : (chgD st).fi i = st.fi i := rfl
  rw [hff] at hF2
  obtain ⟨hT, fv, ov, nv2, qs, hb, hfv, hnv2, _⟩ := hF2
  obtain ⟨kn, rfl⟩ : ∃ kn : Nat, k = (kn : Int) := ⟨k.toNat, by omega⟩
  obtain ⟨v', t1, t2, t3⟩ := sl_takeB hnv2.sl (n := kn) (by omega) .i64
  refine pur (nil_ptr _) (pur (field_ptr _ _ _) (loadB hb (v := nv2) rfl (pur t1 (cCLB t2 (by simp; omega) fun v3 w3 ho3 e3 => ?_))))
  have hb3 := hb.no e3
  refine pur (nil_ptr _) (pur (field_ptr _ _ _) (storeB hb3 (by simp) (Own.one ho3) fun w4 b4 e4 z4 => ?_))
  refine pur (nil_ptr _) (pur (field_ptr _ _ _) (loadB b4 (v := v3) rfl ?_))
  refine pur (nil_ptr _) (pur (field_ptr _ _ _) (storeB b4 (by simp) (Own.one ho3) fun w5 b5 e5 z5 => ?_))
  refine pur (nil_ptr _) (pur (field_ptr _ _ _) (storeB b5 (by simp) rfl fun w6 b6 e6 z6 => ?_))
  have b6' : Blk w6 gf 82 [v3, .slice none 0 0, v3] := b6
  have e36 : Ext (At1 gf) w3 w6 := e4.trans (e5.trans e6)
  have hne3 := Own.ne_blk ho3 hb3 (by decide)
  let T' : Tags := fun b => if v3.ownBlock = some b then .ice else T b
  have hTs : ∀ b, b < w2.heap.size → T' b = T b := fun b hb' => if_neg fun hh => by have := (ho3.lt b hh).1; omega
  have k6 : Gon (Filt d i) w2 T w6 T' := ⟨e3.no.trans (e36.mono fun b hb' _ => by rw [show b = gf from hb']; exact hT), hTs⟩
  have hby : Byt T' w6 v3 ((st.fi i).now.take kn) := ⟨owns_base (owns_ext ho3 e36 fun b hb' hh => hne3 (by rw [hb', show b = gf from hh])) fun _ _ => Nat.zero_le _, fun b hb' => if_pos hb'⟩
  have := hK' w6 T' hi
  rw [if_neg hno, if_neg (by simpa using heq)] at this
  refine this (hx2.setF hg k6 ⟨(hTs gf hb.lt).trans hT, v3, _, v3, [], b6', ?_, ?_, rfl, World.ownsRow_nil _ _ _ _, fun b hb' => by simp [Value.ownBlock] at hb', fun q hq => by cases hq⟩) ((k1.trans k2.hdr).trans k6.filt)
  · rw [Int.toNat_natCast]; exact hby
  · rw [Int.toNat_natCast]; exact hby
end
end Go.Proofs.YthohdinjpkehpaaGreat

namespace Go.Proofs.YthohdinjpkehpaaGreat
open Go SG Go.RowKit
set_option linter.unusedVariables false
set_option maxRecDepth 4000
set_option linter.unusedSimpArgs false

theorem shl8 : ∀ m : Fin 8, IntKind.u8.wrap (1 * 2 ^ m.val) = ((2 ^ m.val : Nat) : Int) := by decide +kernel
def rdAt (b : Bys) (k n : Int) : Option Bys := if n < 0 ∨ k < 0 ∨ (b.length : Int) < k then none else some ((b.drop k.toNat).take n.toNat)
section
variable {T : Tags} {w : World} {d g : Nat} {st : Dk} {md : Nat} {dm : List (El × Nat)} {ad : Nat → Option Nat} {K : Value → World → Prop}
theorem bitQ {n : Nat} (h : n ≤ 9223372036854775807) : binV .quo (.int .i64 (n : Int)) (.int .i64 8) = some (.int .i64 ((n / 8 : Nat) : Int)) := by
  refine (bin_quo _ _ _ (by decide)).trans ?_
  have : ((n : Int)).tdiv 8 = ((n / 8 : Nat) : Int) := by
    rw [Int.tdiv_eq_ediv_of_nonneg (by omega)]; omega
  rw [this, wi64 (by omega) (by omega)]
theorem bitR (n : Nat) : binV .rem (.int .i64 (n : Int)) (.int .i64 8) = some (.int .i64 ((n % 8 : Nat) : Int)) := (bin_rem _ _ _ (by decide)).trans (by congr 2)
theorem bitS {k : IntKind} {m : Nat} (h : m < 8) : binV .shl (.int .u8 1) (.int k (m : Int)) = some (.int .u8 ((2 ^ m : Nat) : Int)) := by
  rw [bin_shl (by omega) (by simp only [IntKind.bits]; omega), Int.toNat_natCast, shl8 ⟨m, h⟩]
theorem bitX {c : UInt8} {m : Nat} (h : m < 8) : binV .xor (.int .u8 (c.toNat : Int)) (.int .u8 ((2 ^ m : Nat) : Int)) = some (.int .u8 ((flipV c m).toNat : Int)) := by rw [bin_xor, flipV_eq c h]
theorem flipC {b : Bys} {n : Nat} {c : UInt8} (hc : b[n / 8]? = some c) : (SG.byteCells b).set (n / 8) (.int .u8 ((flipV c (n % 8)).toNat : Int)) = SG.byteCells (flipB b n) := by
  unfold flipB SG.byteCells
  rw [hc, List.map_set]; rfl
set_option maxHeartbeats 1000000 in
theorem Dx.Flip (hx : Dx T d w g st md dm ad) {B n : Nat} (hW : Wf B n st) (hB : B ≤ 536870912) (hn : n ≤ 2199023255552) {s : El} (hs : s.length ≤ 9223372036854775806) {k : Int}
    (h0 : ∀ e w', st.file s = .error e → Ext No w w' → K (.int .i64 e) w')
    (hK : ∀ i w' T', st.file s = .ok i → Dx T' d w' g (st.flip i k).2 md dm ad → Gon (Ops d) w T w' T' → K (.int .i64 (st.flip i k).1) w') : CallS Tryz.prog 59 #[ptrE g, encE s, .int .i64 k] K w := by
  refine s59_call hm ?_
  unfold s59
  refine hx.file hs (fun e w1 he e1 hne => ?_) fun i gf f w1 hi hg hf hF e1 => ?_
  · exact pur (extract_0 _ _) (pur (extract_1 _ _ _) (pur (bin_neq _ _ _) (condT (by simpa using hne) (h0 e w1 he e1))))
  have hK' := hK i
  unfold Dk.flip at hK'
  have hx1 := hx.no e1
  obtain ⟨hfi, hF1⟩ := hx1.fi hg
  have hfo := hW.fil _ (List.mem_of_getElem? hfi)
  have k1 : Gon (Ops d) w T w1 T := Gon.no e1
  obtain ⟨hT, fv, ov, nv, qs, hb, hfv, hnv, hqs, hrow, hoT, hqb⟩ := hF1
  refine pur (extract_0 _ _) (pur (extract_1 _ _ _) (pur (v := .bool false) ((bin_neq _ _ _).trans (by simp)) (condF rfl ?_)))
  refine pur (nil_ptr _) (pur (field_ptr _ _ _) (loadB hb (v := ov) rfl (pur (Sl.own hrow).len (pur (bin_gtr _ _ _) (condD (fun hopen => ?_) (fun hno => ?_))))))
  · have := hK' w1 T hi
    rw [if_pos (by omega)] at this
    exact this hx1 k1
  have hws : (st.fi i).ws = [] := List.length_eq_zero_iff.1 (by omega)
  have hnow : (st.fi i).now = (st.fi i).fast := by unfold Fi.now; rw [hws]; rfl
  rw [hnow] at hnv
  have hfl := hfo.1.1
  have e0 : ¬ 0 < (st.fi i).ws.length := by omega
  refine pur (bin_lss _ _ _) ?_
  have bad : (k < 0 ∨ 8 * ((st.fi i).fast.length : Int) ≤ k) → K (.int .i64 1) w1 := fun h => by
    have := hK' w1 T hi
    rw [if_neg e0, if_pos h] at this
    exact this hx1 k1
  by_cases hneg : k < 0
  · exact orT (by simpa using hneg) (condT rfl (bad (.inl hneg)))
  refine orF (by simpa using hneg) ?_
  refine pur (nil_ptr _) (pur (field_ptr _ _ _) (loadB hb (v := nv) rfl (pur hnv.sl.len (pur ((bin_mul _ _ _).trans (by rw [wi64 (by omega) (by omega)])) (pur (bin_geq _ _ _) (pur (pickF _ _) (condD (fun hbig => bad (.inr hbig)) (fun hfit => ?_))))))))
  have hno2 : ¬ (k < 0 ∨ 8 * ((st.fi i).fast.length : Int) ≤ k) := fun h => h.elim hneg hfit
  obtain ⟨kn, rfl⟩ : ∃ kn : Nat, k = (kn : Int) := ⟨k.toNat, by omega⟩
  have hkl : kn / 8 < (st.fi i).fast.length := by omega
  obtain ⟨c, hc⟩ := getN (xs := (st.fi i).fast) (i := kn / 8) hkl
  refine pur (nil_ptr _) (pur (field_ptr _ _ _) (loadB hb (v := nv) rfl (cCLB hnv.sl (by omega) fun v2 w2 ho2 e2 => ?_)))
  have hb2 := hb.no e2
  refine pur (nil_ptr _) (pur (field_ptr _ _ _) (storeB hb2 (by simp) (Own.one ho2) fun w3 b3 e3 z3 => ?_))
  have b3' : Blk w3 gf 82 [fv, ov, v2] := b3
  have hne2 := Own.ne_blk ho2 hb2 (by decide)
  have ho3 := owns_ext ho2 e3 fun b hb' hh => hne2 (by rw [hb', show b = gf from hh])
  have ed := Ext.drew (S := No) w3
  have b3d := b3'.no ed
  have ho3d := owns_ext ho3 ed fun _ _ hh => hh
  have hcc : (SG.byteCells (st.fi i).fast)[kn / 8]? = some (.int .u8 (c.toNat : Int)) := by unfold SG.byteCells; rw [List.getElem?_map, hc]; rfl
  obtain ⟨gg, q0, q1, q2, q3⟩ := Own.at1 ho3d hcc .i64
  have h8 : kn % 8 < 8 := Nat.mod_lt _ (by decide)
  refine draw (fun w' => w' = w3.drew) rfl (pur (nil_ptr _) (pur (field_ptr _ _ _) (pur (bitQ (by omega)) (pur (bitR kn) (pur (bitS h8) ?_)))))
  refine heldC (v := v2) (fun w' hh => by rw [hh]; exact b3d.cell 2) (pur q1 (heldC (v := .int .u8 (c.toNat : Int)) (fun w' hh => by rw [hh]; exact q2) (pur (bitX h8) (pur q1 ?_))))
  refine q3 _ rfl fun w4 ho4 e4 z4 => ?_
  rw [flipC hc] at ho4
  have hgg : gg ≠ gf := fun hh => hne2 (by rw [q0, hh])
  have b4 := b3d.ext e4 fun hh => hgg (by rw [show gf = gg from hh])
  refine pur (nil_ptr _) (pur (field_ptr _ _ _) (loadB b4 (v := v2) rfl ?_))
  refine pur (nil_ptr _) (pur (field_ptr _ _ _) (storeB b4 (by simp) (Own.one ho2) fun w5 b5 e5 z5 => ?_))
  have b5' : Blk w5 gf 82 [v2, ov, v2] := b5
  let T' : Tags := fun b => if v2.ownBlock = some b then .ice else T b
  have hTs : ∀ b, b < w1.heap.size → T' b = T b := fun b hb' => if_neg fun hh => by have := (ho2.lt b hh).1; omega
  have hgf := hb.lt
  have kx : Ext (fun b => Filt d i (T b)) w1 w5 := by
    have a1 : Ext (fun b => Filt d i (T b)) w1 w3.drew := (e2.no.trans (e3.mono fun b hb' _ => by rw [show b = gf from hb']; exact hT)).trans ed.no
    have a2 : Ext (fun b => Filt d i (T b)) w1 w4 := a1.fresh e4 fun b hb' => .inr (by rw [show b = gg from hb']; exact (ho3d.lt gg q0).1)
    exact a2.trans (e5.mono fun b hb' _ => by rw [show b = gf from hb']; exact hT)
  have k5 : Gon (Filt d i) w1 T w5 T' := ⟨kx, hTs⟩
  have ho5 := owns_ext ho4 e5 fun b hb' hh => Own.ne_blk ho4 b4 (by decide) (by rw [hb', show b = gf from hh])
  have hby : Byt T' w5 v2 (flipB (st.fi i).fast kn) := ⟨by rw [flipB_len]; exact owns_base ho5 fun _ _ => Nat.zero_le _, fun b hb' => if_pos hb'⟩
  have hov5 : w5.ownsRow 0 94 2 ov 0 [] := by
    rw [hws] at hrow
    have hq0 : qs = [] := by rw [hws] at hqs; exact List.map_eq_nil_iff.1 hqs
    rw [hq0] at hrow
    have hgo := Own.ne_blk hrow hb (by decide)
    have hv2 : v2.ownBlock ≠ none → ∀ b, ov.ownBlock = some b → b ≠ gg := fun _ b hb' hh => by
      have h2 := owns_ext hrow e2 fun _ _ h => h
      exact Own.ne_own h2 ho2 (by decide) b hb' (by rw [hh]; exact q0)
    have r4 := owns_ext (owns_ext (owns_ext (owns_ext hrow e2 fun _ _ h => h) e3 fun b hb' hh => hgo (by rw [hb', show b = gf from hh])) ed fun _ _ h => h) e4 fun b hb' hh => hv2 (by rw [q0]; simp) b hb' hh
    exact owns_ext r4 e5 fun b hb' hh => hgo (by rw [hb', show b = gf from hh])
  have := hK' w5 T' hi
  rw [if_neg e0, if_neg hno2] at this
  refine this (hx1.setF hg k5 ⟨(hTs gf hgf).trans hT, v2, ov, v2, [], b5', ?_, ?_, rfl, hov5, fun b hb' => ?_, fun q hq => by cases hq⟩) (k1.trans k5.filt)
  · rw [Int.toNat_natCast]; exact hby
  · rw [Int.toNat_natCast]; exact hby
  · rw [hTs b (hrow.lt b hb').2]; exact hoT b hb'
theorem Dx.Fail (hx : Dx T d w g st md dm ad) {k m : Int} (hK : ∀ w', Dx T d w' g (st.fail_ k m) md dm ad → Gon (Ops d) w T w' T → K (.tuple #[]) w') : CallS Tryz.prog 36 #[ptrE g, .int .i64 k, .int .i64 m] K w := by
  refine s36_call hm ?_
  unfold s36
  refine pur (v := .int .i64 (max m 0)) ((max_int _ _ _ _).trans (by congr 2; split <;> omega)) (runS (buildScr w k (max m 0)) (pur (nil_ptr _) (pur (field_ptr _ _ _) (storeA (vs := [.int .i64 k, .int .i64 (max m 0), .int .i64 0]) hx.blk rfl (by simp [hdrC, scrC]) (by simp [Value.oneCell']) fun w1 b1 e1 z1 => ?_))))
  have k1 : Gon (Hdr d) w T w1 T := Gon.at1 e1 hx.tag rfl
  exact hK w1 ⟨hx.tag, b1, hx.body.keep k1 (by intro h; cases h) (by intro h; cases h) (fun _ h => by cases h) fun _ h => by cases h⟩ k1.hdr
theorem Dx.Open (hx : Dx T d w g st md dm ad) {s : El} (h0 : ∀ e w', st.findD s = .error e → e ≠ 0 → Ext No w w' → K (.tuple [.int .i64 0, .int .i64 e].toArray) w')
    (hK : ∀ D w', st.findD s = .ok D → Ext No w w' → K (.tuple [.int .i64 (D.was.length : Int), .int .i64 0].toArray) w') : CallS Tryz.prog 67 #[ptrE g, encE s] K w := by
  refine s67_call hm ?_
  unfold s67
  refine hx.find (fun e w1 he hne e1 => ?_) fun D gd w1 hp hgd hDR e1 => ?_
  · exact pur (extract_0 _ _) (pur (extract_1 _ _ _) (pur (bin_neq _ _ _) (condT (by simpa using hne) (h0 e w1 he hne e1))))
  · obtain ⟨_, mn, wv, bs, hbk, hN, hbs, hrow, _⟩ := hDR
    exact pur (extract_0 _ _) (pur (extract_1 _ _ _) (pur (v := .bool false) ((bin_neq _ _ _).trans (by simp)) (condF rfl (pur (nil_ptr _) (pur (field_ptr _ _ _) (loadB hbk (v := wv) rfl (pur (Sl.own hrow).len (hK D w1 hp e1))))))))
theorem Dx.List_ (hx : Dx T d w g st md dm ad) {B n : Nat} (hW : Wf B n st) {s : El} (h0 : ∀ e w', st.findD s = .error e → e ≠ 0 → Ext No w w' → K (.tuple [.slice none 0 0, .int .i64 e].toArray) w')
    (hK : ∀ D v w', st.findD s = .ok D → w'.ownsRow w.heap.size 9 1 v D.now.length ((D.now.map (·.1)).map encE) → Ext No w w' → K (.tuple [v, .int .i64 0].toArray) w') : CallS Tryz.prog 116 #[ptrE g, encE s] K w := by
  refine s116_call hm ?_
  unfold s116
  refine hx.find (fun e w1 he hne e1 => ?_) fun D gd w1 hp hgd hDR e1 => ?_
  · exact pur (extract_0 _ _) (pur (extract_1 _ _ _) (pur (bin_neq _ _ _) (condT (by simpa using hne) (h0 e w1 he hne e1))))
  · have hD := findD_mem hp
    obtain ⟨_, mn, wv, bs, hbk, hN, _⟩ := hDR
    have hway := hW.now_ D hD
    refine pur (extract_0 _ _) (pur (extract_1 _ _ _) (pur (v := .bool false) ((bin_neq _ _ _).trans (by simp)) (condF rfl (pur (nil_ptr _) (pur (field_ptr _ _ _) (loadB hbk (v := .map (some mn)) rfl ?_))))))
    refine callS (hN.sorted (K := fun v w2 => w2.ownsRow w1.heap.size 9 1 v D.now.length ((D.now.map (·.1)).map encE) ∧ Ext No w1 w2) hway.1 (by have := hway.2.1; omega) fun v w2 h e => ⟨h, e⟩) ?_
    intro t29 w2' h29
    refine callS h29 ?_
    rintro v w2 ⟨ho, e2⟩
    exact hK D v w2 hp (owns_base ho fun b hb => by have := (ho.lt b hb).1; have := e1.size; omega) (e1.trans e2)
theorem Dx.Dirs_ (hx : Dx T d w g st md dm ad) {B n : Nat} (hW : Wf B n st) (hK : ∀ v w', w'.ownsRow w.heap.size 9 1 v st.dirs.length ((st.dirs.map (·.name)).map encE) → Ext No w w' → K v w') : CallS Tryz.prog 38 #[ptrE g] K w := by
  refine s38_call hm ?_
  unfold s38
  exact hx.all hW.ordD hW.dlen hK
theorem Dx.Size (hx : Dx T d w g st md dm ad) {s : El} (hs : s.length ≤ 9223372036854775806) (h0 : ∀ e w', st.file s = .error e → e ≠ 0 → Ext No w w' → K (.tuple [.int .i64 0, .int .i64 e].toArray) w')
    (hK : ∀ i w', st.file s = .ok i → Ext No w w' → K (.tuple [.int .i64 ((st.fi i).now.length : Int), .int .i64 0].toArray) w') : CallS Tryz.prog 111 #[ptrE g, encE s] K w := by
  refine s111_call hm ?_
  unfold s111
  refine hx.file hs (fun e w1 he e1 hne => ?_) fun i gf f w1 hi hg hf hF e1 => ?_
  · exact pur (extract_0 _ _) (pur (extract_1 _ _ _) (pur (bin_neq _ _ _) (condT (by simpa using hne) (h0 e w1 he hne e1))))
  · obtain ⟨nv, hnv, hld⟩ := ((hx.no e1).fi hg).2.nowV
    exact pur (extract_0 _ _) (pur (extract_1 _ _ _) (pur (v := .bool false) ((bin_neq _ _ _).trans (by simp)) (condF rfl (hld (Ext.refl _ _) (pur hnv.sl.len (hK i w1 hi e1))))))
theorem Dx.Unsynced (hx : Dx T d w g st md dm ad) {B n : Nat} (hW : Wf B n st) (hn : n ≤ 2199023255552) {s : El} (hs : s.length ≤ 9223372036854775806) (h0 : ∀ e w', st.file s = .error e → e ≠ 0 → Ext No w w' → K (.tuple [.int .i64 0, .int .i64 e].toArray) w')
    (hK : ∀ i w', st.file s = .ok i → Ext No w w' → K (.tuple [.int .i64 (st.fi i).openI, .int .i64 0].toArray) w') : CallS Tryz.prog 114 #[ptrE g, encE s] K w := by
  refine s114_call hm ?_
  unfold s114
  refine hx.file hs (fun e w1 he e1 hne => ?_) fun i gf f w1 hi hg hf hF e1 => ?_
  · exact pur (extract_0 _ _) (pur (extract_1 _ _ _) (pur (bin_neq _ _ _) (condT (by simpa using hne) (h0 e w1 he hne e1))))
  · obtain ⟨hfi, hF1⟩ := (hx.no e1).fi hg
    have hwl := (hW.fil _ (List.mem_of_getElem? hfi)).2
    exact pur (extract_0 _ _) (pur (extract_1 _ _ _) (pur (v := .bool false) ((bin_neq _ _ _).trans (by simp)) (condF rfl (cunsynced hF1 (by omega) fun w2 e2 => hK i w2 hi (e1.trans e2)))))
theorem Dx.ReadAt (hx : Dx T d w g st md dm ad) {B n : Nat} (hW : Wf B n st) (hB : B ≤ 536870912) {s : El} (hs : s.length ≤ 9223372036854775806) {k m : Int} (h0 : ∀ e w', st.file s = .error e → e ≠ 0 → Ext No w w' → K (.tuple [.slice none 0 0, .int .i64 e].toArray) w')
    (h1 : ∀ i w', st.file s = .ok i → rdAt (st.fi i).now k m = none → Ext No w w' → K (.tuple [.slice none 0 0, .int .i64 1].toArray) w')
    (hK : ∀ i v l w', st.file s = .ok i → rdAt (st.fi i).now k m = some l → w'.ownsRow w.heap.size 5 1 v l.length (SG.byteCells l) → Ext No w w' → K (.tuple [v, .int .i64 0].toArray) w') : CallS Tryz.prog 112 #[ptrE g, encE s, .int .i64 k, .int .i64 m] K w := by
  refine s112_call hm ?_
  unfold s112
  refine hx.file hs (fun e w1 he e1 hne => ?_) fun i gf f w1 hi hg hf hF e1 => ?_
  · exact pur (extract_0 _ _) (pur (extract_1 _ _ _) (pur (bin_neq _ _ _) (condT (by simpa using hne) (h0 e w1 he hne e1))))
  obtain ⟨nv, hnv, hld⟩ := ((hx.no e1).fi hg).2.nowV
  have hnl := (hW.fil _ (List.mem_of_getElem? (hx.fi hg).1)).1.now_len
  have bad : (m < 0 ∨ k < 0 ∨ ((st.fi i).now.length : Int) < k) → K (.tuple [.slice none 0 0, .int .i64 1].toArray) w1 := fun h => h1 i w1 hi (if_pos h) e1
  refine pur (extract_0 _ _) (pur (extract_1 _ _ _) (pur (v := .bool false) ((bin_neq _ _ _).trans (by simp)) (condF rfl (pur (bin_lss _ _ _) ?_))))
  by_cases c1 : m < 0
  · exact orT (by simpa using c1) (orT rfl (condT rfl (bad (.inl c1))))
  refine orF (by simpa using c1) (pur (bin_lss _ _ _) (pur (pickF _ _) ?_))
  by_cases c2 : k < 0
  · exact orT (by simpa using c2) (condT rfl (bad (.inr (.inl c2))))
  refine orF (by simpa using c2) (hld (Ext.refl _ _) (pur hnv.sl.len (pur (bin_gtr _ _ _) (pur (pickF _ _) (condD (fun c3 => bad (.inr (.inr c3))) (fun c3 => ?_))))))
  have hno : ¬ (m < 0 ∨ k < 0 ∨ ((st.fi i).now.length : Int) < k) := fun h => h.elim c1 fun h => h.elim c2 c3
  obtain ⟨kn, rfl⟩ : ∃ kn : Nat, k = (kn : Int) := ⟨k.toNat, by omega⟩
  obtain ⟨mn, rfl⟩ : ∃ mn : Nat, m = (mn : Int) := ⟨m.toNat, by omega⟩
  obtain ⟨v1, t1, t2, _⟩ := sl_drop hnv.sl (k := kn) (by omega) .i64
  have t2' : SlB w1 v1 ((st.fi i).now.drop kn) := by
    unfold SlB
    rw [byteCells_drop, List.length_drop]
    simpa using t2
  refine hld (Ext.refl _ _) (pur t1 (pur t2'.len (pur (v := .int .i64 ((min mn ((st.fi i).now.drop kn).length : Nat) : Int)) ((min_int _ _ _ _).trans (by congr 2; split <;> omega)) ?_)))
  obtain ⟨v2, t3, t4, _⟩ := sl_takeB t2' (n := min mn ((st.fi i).now.drop kn).length) (Nat.min_le_right _ _) .i64
  refine pur t3 (cCLB t4 (by simp; omega) fun v3 w3 ho3 e3 => ?_)
  have e4 : ((st.fi i).now.drop kn).take (min mn ((st.fi i).now.drop kn).length) = ((st.fi i).now.drop kn).take mn := by
    rw [← List.take_take, List.take_length]
  rw [e4] at ho3
  exact hK i v3 _ w3 hi (by unfold rdAt; rw [if_neg hno, Int.toNat_natCast, Int.toNat_natCast]) (owns_base ho3 fun b hb => by have := (ho3.lt b hb).1; have := e1.size; omega) (e1.trans e3)
end
end Go.Proofs.YthohdinjpkehpaaGreat

