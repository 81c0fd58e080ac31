/- Several texts of ours, laid one behind the other. -/
import Derived.Test.YthohdinjpkehpaaGreatMF5
namespace Go.Proofs.YthohdinjpkehpaaGreat
open Go SG Go.RowKit
set_option linter.unusedVariables false
set_option maxRecDepth 4000
set_option linter.unusedSimpArgs false

def wsOk : Bys → List Wr → Prop
  | _, [] => True
  | b, (k, l) :: r => k ≤ b.length ∧ 0 < l.length ∧ wsOk (overB b k l) r
def FiOk (B : Nat) (f : Fi) : Prop := f.fast.length ≤ B ∧ wsOk f.fast f.ws ∧ ∀ p ∈ f.ws, p.1 + p.2.length ≤ B
def keptB : Bys → List Wr → Nat → Bys
  | b, [], _ => b
  | b, (k, l) :: r, n => keptB (if 0 < min n l.length then overB b k (l.take (min n l.length)) else b) r (n - min n l.length)
theorem keptB_zero (b : Bys) : ∀ ws, keptB b ws 0 = b
  | [] => rfl
  | (k, l) :: r => by
    unfold keptB
    rw [Nat.zero_min, if_neg (by omega)]
    exact keptB_zero b r
theorem nowB_len {B : Nat} : ∀ (ws : List Wr) (b : Bys), b.length ≤ B → wsOk b ws → (∀ p ∈ ws, p.1 + p.2.length ≤ B) → (nowB b ws).length ≤ B ∧ b.length ≤ (nowB b ws).length
  | [], b, h, _, _ => ⟨h, Nat.le_refl _⟩
  | (k, l) :: r, b, h, ho, hp => by
    have h1 : (overB b k l).length = max b.length (k + l.length) := overB_len ho.1
    have h2 := hp (k, l) (by simp)
    simp only at h2
    have := nowB_len r (overB b k l) (by omega) ho.2.2 fun p hp' => hp p (List.mem_cons_of_mem _ hp')
    unfold nowB at this ⊢
    simp only [List.foldl_cons]
    omega
theorem keptB_len {B : Nat} : ∀ (ws : List Wr) (b : Bys) (n : Nat), b.length ≤ B → (n = 0 ∨ wsOk b ws) → (∀ p ∈ ws, p.1 + p.2.length ≤ B) → (keptB b ws n).length ≤ B
  | [], b, n, h, _, _ => h
  | (k, l) :: r, b, n, h, ho, hp => by
    rcases Nat.eq_zero_or_pos n with rfl | hn
    · rw [keptB_zero]; exact h
    have ho := ho.resolve_left (by omega)
    have h2 := hp (k, l) (by simp)
    simp only at h2
    have hr := fun p hp' => hp p (List.mem_cons_of_mem _ hp')
    have hl := ho.2.1
    unfold keptB
    rw [if_pos (by omega)]
    have h1 : (overB b k (l.take (min n l.length))).length ≤ B := by rw [overB_len ho.1]; simp; omega
    by_cases hnl : n ≤ l.length
    · exact keptB_len r _ _ h1 (.inl (by omega)) hr
    · have : l.take (min n l.length) = l := List.take_of_length_le (by omega)
      rw [this] at h1 ⊢
      exact keptB_len r _ _ h1 (.inr ho.2.2) hr
theorem wrap_add (a b : Int) : IntKind.i64.wrap (IntKind.i64.wrap a + b) = IntKind.i64.wrap (a + b) := by
  rw [IntKind.wrap_i64, IntKind.wrap_i64, IntKind.wrap_i64]; omega
def Fi.openI (f : Fi) : Int := IntKind.i64.wrap (f.open : Int)
def Filt (d i : Nat) : Tag → Prop := fun t => t = .own d (.file i)
section
variable {T : Tags} {w : World} {d i g : Nat} {f : Fi} {K : Value → World → Prop}
theorem FilR.wr (h : FilR T d i w g f) : ∃ (ov : Value) (qs : List (Wr × Value)), qs.map (·.1) = f.ws ∧ Sl w ov f.ws.length 2 (flat wrC qs) ∧ (∀ q ∈ qs, Byt T w q.2 q.1.2) ∧ (∀ {K' : Value → World → Prop} {w' : World}, Ext No w w' → K' ov w' → PureS (nilV (ptrE g)) fun t => PureS (fieldAddrV 1 t) fun t => LoadC t K' w') ∧
    ∀ {j : Nat} {q : Wr × Value}, qs[j]? = some q → ∃ ad, indexAddrV 2 ov (.int .i64 (j : Int)) = some (.pointer (some ad)) ∧ At w ad (wrC q) := by
  obtain ⟨h0, fv, ov, nv, qs, h1, h2, h3, h4, h5, h6, h7⟩ := h
  have hql : qs.length = f.ws.length := by rw [← h4]; simp
  refine ⟨ov, qs, h4, Sl.own h5, h7, fun {K' w'} e hK => pur (nil_ptr _) (pur (field_ptr _ _ _) (loadB (h1.no e) rfl hK)), fun {j q} hq => ?_⟩
  obtain ⟨ad, q1, q2, _⟩ := (Sl.own h5).at_ (i := j) (by have := (List.getElem?_eq_some_iff.1 hq).1; omega)
  rw [flat_at wrC wrC_len qs j q hq] at q2
  exact ⟨ad, q1, q2⟩
theorem At.no' {w w' : World} {a : Addr} {xs : List Value} (h : At w a xs) (e : Ext No w w') : At w' a xs := fun j u hj => by
  have hcell := h j u hj
  have hlt := World.block_lt_of_cell? _ _ hcell
  rw [Addr.add_block] at hlt
  rw [e.cell (by rw [Addr.add_block]; exact hlt) (fun h => h)]
  exact hcell
theorem buildWr (w : World) (k : Int) (a : Option Addr) (n c : Nat) : (Instr.build 94 [(0, .int .i64 k), (1, .slice a n c)].toArray).run Tryz.prog w = .ok (.agg #[.int .i64 k, .slice a n c]) w := by kernel_rfl
theorem cunsynced (h : FilR T d i w g f) (hl : f.ws.length ≤ 4398046511104) (hK : ∀ w', Ext No w w' → K (.int .i64 f.openI) w') : CallS Tryz.prog 29 #[ptrE g] K w := by
  obtain ⟨ov, qs, hqs, hsl, hby, hld, hat⟩ := h.wr
  have hql : qs.length = f.ws.length := by rw [← hqs]; simp
  refine s29_call hm ?_
  unfold s29
  refine join1 (fun v w' => v = .int .i64 f.openI ∧ Ext No w w') (fun v w' hh => by obtain ⟨rfl, e⟩ := hh; exact hK _ e) fun J0 hJ0 => ?_
  refine hld (Ext.refl _ _) (pur hsl.len ?_)
  refine loop2 (σ := Nat) (fun j v a w' => a = .int .i64 (j : Int) ∧ j ≤ f.ws.length ∧ v = .int .i64 (IntKind.i64.wrap (((f.ws.take j).map fun p => p.2.length).sum : Nat)) ∧ Ext No w w') (fun j => f.ws.length - j) 0 ⟨rfl, Nat.zero_le _, rfl, Ext.refl _ _⟩ ?_
  rintro j _ _ w1 ⟨rfl, hj, rfl, e1⟩ L1 hL1
  refine pur (bin_lss _ _ _) (condD (fun hlt => ?_) (fun hge => hJ0 _ _ ⟨by rw [List.take_of_length_le (by omega)]; rfl, e1⟩))
  obtain ⟨q, hq⟩ := getN (xs := qs) (i := j) (by omega)
  obtain ⟨ad, a1, a2⟩ := hat hq
  have hw : f.ws[j]? = some q.1 := by rw [← hqs, List.getElem?_map, hq]; rfl
  have hb := hby q (List.mem_of_getElem? hq)
  refine pur a1 (loadA (At.no' a2 e1) rfl (box fun w2 b2 e2 z2 => storeAll b2 rfl (by simp [Value.cells]) (by
    intro u hu
    simp only [wrC, List.mem_cons, List.not_mem_nil, or_false] at hu
    rcases hu with rfl | rfl
    · rfl
    · exact Own.one hb.1) fun w3 b3 e3 z3 => ?_))
  have e13 : Ext No w w3 := (e1.trans e2).fresh e3 fun b hb => .inr (by rw [show b = w1.heap.size from hb]; exact e1.size)
  refine pur (field_ptr _ _ _) (loadB b3 (v := q.2) rfl (pur hb.sl.len (pur (bin_add _ _ _) (pur (add64 (c := ((j + 1 : Nat) : Int)) (by omega) (by omega) (by omega)) (hL1 (j + 1) _ _ _ ⟨rfl, by omega, ?_, e13⟩ (by omega))))))
  rw [wrap_add, List.take_add_one, hw]
  congr 2
  simp
set_option maxHeartbeats 1000000 in
theorem ckept (h : FilR T d i w g f) {B n : Nat} (hf : FiOk B f) (hB : B ≤ 35184372088832) (hl : f.ws.length ≤ 4398046511104) (hn : n ≤ 9223372036854775807)
    (hK : ∀ w' T', FilR T' d i w' g ⟨keptB f.fast f.ws n, []⟩ → Gon (Filt d i) w T w' T' → K (.tuple #[]) w') : CallS Tryz.prog 30 #[ptrE g, .int .i64 (n : Int)] K w := by
  obtain ⟨ov, qs, hqs, hsl, hby, hld, hat⟩ := h.wr
  have hql : qs.length = f.ws.length := by rw [← hqs]; simp
  obtain ⟨hT, fv, _, nv, _, hb, hfv, hnv, _⟩ := h
  obtain ⟨hf1, hf2, hf3⟩ := hf
  refine s30_call hm ?_
  unfold s30
  refine pur (nil_ptr _) (pur (field_ptr _ _ _) (loadB hb (v := fv) rfl ?_))
  refine join1 (fun v w' => w'.ownsRow 0 5 1 v (keptB f.fast f.ws n).length (byteCells (keptB f.fast f.ws n)) ∧ (∀ b, v.ownBlock = some b → T b = .ice ∨ w.heap.size ≤ b) ∧ Ext No w w') ?_ fun J0 hJ0 => ?_
  · rintro v w1 ⟨ho1, hT1, e1⟩
    have hb1 := hb.no e1
    have hvg := Own.ne_blk ho1 hb1 (by decide)
    refine pur (nil_ptr _) (pur (field_ptr _ _ _) (storeB hb1 (by simp) (Own.one ho1) fun w2 b2 e2 z2 => ?_))
    refine pur (nil_ptr _) (pur (field_ptr _ _ _) (storeB b2 (by simp) rfl fun w3 b3 e3 z3 => ?_))
    refine pur (nil_ptr _) (pur (field_ptr _ _ _) (storeB b3 (by simp) (Own.one ho1) fun w4 b4 e4 z4 => ?_))
    have b4' : Blk w4 g 82 [v, .slice none 0 0, v] := b4
    have e14 : Ext (At1 g) w1 w4 := e2.trans (e3.trans e4)
    let T' : Tags := fun b => if v.ownBlock = some b then .ice else T b
    have hTs : ∀ b, b < w.heap.size → T' b = T b := fun b hb' => by
      show (if v.ownBlock = some b then _ else _) = _
      split
      · rename_i hh
        rcases hT1 b hh with h | h
        · exact h.symm
        · omega
      · rfl
    have hby' : Byt T' w4 v (keptB f.fast f.ws n) := ⟨owns_ext ho1 e14 fun b hb' hh => hvg (by rw [hb', show b = g from hh]), fun b hb' => if_pos hb'⟩
    refine hK w4 T' ⟨(hTs g hb.lt).trans hT, v, _, v, [], b4', hby', hby', rfl, World.ownsRow_nil _ _ _ _, fun b hb' => by simp [Value.ownBlock] at hb', fun q hq => by cases hq⟩ ⟨e1.no.trans (e14.mono fun b hb' _ => by rw [show b = g from hb']; exact hT), hTs⟩
  · refine hld (Ext.refl _ _) (pur hsl.len ?_)
    refine loop3 (σ := Nat × Nat × Bys) (fun s k v a w' => a = .int .i64 (s.1 : Int) ∧ s.1 ≤ f.ws.length ∧ k = .int .i64 (s.2.1 : Int) ∧ s.2.1 ≤ n ∧ w'.ownsRow 0 5 1 v s.2.2.length (byteCells s.2.2) ∧ (∀ b, v.ownBlock = some b → T b = .ice ∨ w.heap.size ≤ b) ∧ Ext No w w' ∧ s.2.2.length ≤ B ∧ (s.2.1 = 0 ∨ wsOk s.2.2 (f.ws.drop s.1)) ∧ keptB s.2.2 (f.ws.drop s.1) s.2.1 = keptB f.fast f.ws n) (fun s => f.ws.length - s.1) (0, n, f.fast)
      ⟨rfl, Nat.zero_le _, rfl, Nat.le_refl _, hfv.1, fun b hb' => .inl (hfv.2 b hb'), Ext.refl _ _, hf1, .inr hf2, rfl⟩ ?_
    rintro ⟨j, m, c⟩ _ v _ w1 ⟨rfl, hj, rfl, hmn, ho1, hT1, e1, hcB, hok, hkb⟩ L1 hL1
    simp only at hj hmn ho1 hcB hok hkb hL1 ⊢
    refine pur (bin_lss _ _ _) (condD (fun hlt => ?_) (fun hge => hJ0 _ _ ?_))
    · obtain ⟨q, hq⟩ := getN (xs := qs) (i := j) (by omega)
      obtain ⟨ad, a1, a2⟩ := hat hq
      have hw : f.ws[j]? = some q.1 := by rw [← hqs, List.getElem?_map, hq]; rfl
      have hdr : f.ws.drop j = q.1 :: f.ws.drop (j + 1) := by
        have := (List.getElem?_eq_some_iff.1 hw)
        rw [List.drop_eq_getElem_cons this.1, this.2]
      have hbq := hby q (List.mem_of_getElem? hq)
      have hone : ∀ u ∈ wrC q, u.oneCell' = true := by
        intro u hu
        simp only [wrC, List.mem_cons, List.not_mem_nil, or_false] at hu
        rcases hu with rfl | rfl
        · rfl
        · exact Own.one hbq.1
      have hqB := hf3 q.1 (List.mem_of_getElem? hw)
      refine pur a1 (loadA (At.no' a2 e1) rfl (box fun w2 b2 e2 z2 => storeAll b2 rfl (by simp [Value.cells]) hone fun w3 b3 e3 z3 => ?_))
      have e23 : Ext No w1 w3 := e2.fresh e3 fun b hb => .inr (by rw [show b = w1.heap.size from hb]; exact Nat.le_refl _)
      have e13 : Ext No w w3 := e1.trans e23
      rw [hdr] at hok hkb
      obtain ⟨⟨k, l⟩, qv⟩ := q
      simp only at hbq hqB hok hkb
      refine pur (field_ptr _ _ _) (loadB b3 (v := qv) rfl (pur hbq.sl.len (pur (v := .int .i64 ((min m l.length : Nat) : Int)) ((min_int _ _ _ _).trans (by congr 2; split <;> omega)) ?_)))
      refine join1 (fun v w' => ∃ c' : Bys, w'.ownsRow 0 5 1 v c'.length (byteCells c') ∧ (∀ b, v.ownBlock = some b → T b = .ice ∨ w.heap.size ≤ b) ∧ Ext No w w' ∧ c' = (if 0 < min m l.length then overB c k (l.take (min m l.length)) else c)) ?_ fun J2 hJ2 => ?_
      · rintro v' w4 ⟨c', ho4, hT4, e4, rfl⟩
        refine pur (sub64 (c := ((m - min m l.length : Nat) : Int)) (by omega) (by omega) (by omega)) (pur (add64 (c := ((j + 1 : Nat) : Int)) (by omega) (by omega) (by omega)) (hL1 (j + 1, m - min m l.length, _) _ _ _ _ ⟨rfl, by simp only; omega, rfl, by simp only; omega, ho4, hT4, e4, ?_, ?_, hkb⟩ (by simp only; omega)))
        · show (if 0 < min m l.length then overB c k (l.take (min m l.length)) else c).length ≤ B
          by_cases hpos : 0 < min m l.length
          · rw [if_pos hpos]
            have hk := hok.resolve_left (by omega)
            rw [overB_len hk.1]; simp; omega
          · rw [if_neg hpos]; exact hcB
        · show m - min m l.length = 0 ∨ wsOk (if 0 < min m l.length then overB c k (l.take (min m l.length)) else c) (f.ws.drop (j + 1))
          by_cases hml : m ≤ l.length
          · left; omega
          · right
            have hk := hok.resolve_left (by omega)
            have hlp := hk.2.1
            rw [if_pos (by omega), List.take_of_length_le (by omega)]
            exact hk.2.2
      · refine pur (bin_gtr _ _ _) (condD (fun hpos => ?_) (fun hz => hJ2 _ _ ⟨c, owns_ext ho1 e23 fun _ _ hh => hh, hT1, e13, by rw [if_neg (by omega)]⟩))
        have hk := hok.resolve_left (by omega)
        have e3d := Ext.drew (S := No) w3
        have b3d := b3.no e3d
        have hs3 : SlB w3.drew qv l := (hbq.sl.no e13).no e3d
        obtain ⟨v', t1, t2, _⟩ := sl_takeB hs3 (Nat.min_le_right m l.length) .i64
        have hone' : v'.oneCell' = true := Sl.one t2
        refine draw (fun w' => w' = w3.drew) rfl (pur (field_ptr _ _ _) (pur (field_ptr _ _ _) (heldC (v := .int .i64 (k : Int)) (fun w' hh => by rw [hh]; exact b3d.cell 0) (heldC (v := qv) (fun w' hh => by rw [hh]; exact b3d.cell 1) (pur t1 ?_)))))
        refine runS (v := .agg #[.int .i64 (k : Int), v']) (w' := w3.drew) ?_ ?_
        · have hv1 : ∃ a n c, v' = .slice a n c := by obtain ⟨a, c, rfl, _⟩ := t2; exact ⟨_, _, _, rfl⟩
          obtain ⟨a, n', c', rfl⟩ := hv1
          exact buildWr _ _ _ _ _
        · refine cover (b := c) (l := l.take (min m l.length)) ((Sl.own (owns_ext ho1 e23 fun _ _ hh => hh)).no e3d) t2 hone' hk.1 (by simp; omega) (by omega) (by simp; omega) fun v4 w4 ho4 e4 => hJ2 _ _ ⟨_, owns_base ho4 fun _ _ => Nat.zero_le _, fun b hb' => .inr ?_, e13.trans (e3d.trans e4), by rw [if_pos (by omega)]⟩
          have := (ho4.lt b hb').1
          have hs := (e13.trans e3d).size
          omega
    · rw [List.drop_of_length_le (by omega)] at hkb
      have : c = keptB f.fast f.ws n := hkb
      rw [← this]
      exact ⟨ho1, hT1, e1⟩
end
end Go.Proofs.YthohdinjpkehpaaGreat

namespace Go.Proofs.YthohdinjpkehpaaGreat
open Go SG Go.RowKit Go.Lib
set_option linter.unusedVariables false
set_option maxRecDepth 4000
set_option linter.unusedSimpArgs false

structure InsI (a i j : Nat) (zs : List El) : Prop where
  rest : ∀ p q u v, a ≤ p → p < q → q ≤ i → p ≠ j → q ≠ j → zs[p]? = some u → zs[q]? = some v → ltE v u = false
  beh : ∀ q u v, j < q → q ≤ i → zs[j]? = some u → zs[q]? = some v → ltE v u = false
theorem InsI.done {a i j : Nat} {zs : List El} (h : InsI a i j zs) (haj : a ≤ j) (hji : j ≤ i) (hi : i < zs.length) (hx : a < j → ∀ u v, zs[j - 1]? = some u → zs[j]? = some v → ltE v u = false) : Srt ltE a (i + 1) zs := by
  intro p q u v h1 h2 h3 hu hv
  by_cases hp : p = j
  · subst hp; exact h.beh q u v h2 (by omega) hu hv
  · by_cases hq : q = j
    · subst hq
      by_cases hpq : p = q - 1
      · subst hpq; exact hx (by omega) u v hu hv
      · obtain ⟨x, hxx⟩ := getN (xs := zs) (i := q - 1) (by omega)
        exact linE.le_tr (h.rest p (q - 1) u x h1 (by omega) (by omega) hp (by omega) hu hxx) (hx (by omega) x v hxx hv)
    · exact h.rest p q u v h1 h2 (by omega) hp hq hu hv
theorem InsI.next {a i j : Nat} {zs : List El} (h : InsI a i j zs) (haj : a < j) (hji : j ≤ i) (hi : i < zs.length) {u v : El} (hu : zs[j - 1]? = some u) (hv : zs[j]? = some v) (hlt : ltE v u = true) : InsI a i (j - 1) (swp zs j (j - 1)) := by
  have g : ∀ k, (swp zs j (j - 1))[k]? = if k = j - 1 then zs[j]? else if k = j then zs[j - 1]? else zs[k]? := fun k => swp_get (by omega) (by omega) k
  refine ⟨fun p q x y h1 h2 h3 h4 h5 hx hy => ?_, fun q x y h1 h2 hx hy => ?_⟩
  · rw [g, if_neg h4] at hx
    rw [g, if_neg h5] at hy
    by_cases hp : p = j
    · rw [if_pos hp] at hx
      rw [if_neg (by omega)] at hy
      exact h.rest (j - 1) q x y (by omega) (by omega) h3 (by omega) (by omega) hx hy
    · rw [if_neg hp] at hx
      by_cases hq : q = j
      · rw [if_pos hq] at hy
        exact h.rest p (j - 1) x y h1 (by omega) (by omega) hp (by omega) hx hy
      · rw [if_neg hq] at hy
        exact h.rest p q x y h1 h2 h3 hp hq hx hy
  · rw [g, if_pos rfl, hv] at hx
    cases hx
    rw [g, if_neg (by omega)] at hy
    by_cases hq : q = j
    · rw [if_pos hq, hu] at hy
      cases hy
      exact linE.asym hlt
    · rw [if_neg hq] at hy
      exact h.beh q v y (by omega) h2 hv hy

set_option maxHeartbeats 1000000 in
theorem cIns {L : Lcn El} (hE : L.enc = encE) {w : World} {xs : List El} (hd : Dt L w xs) {a b : Nat} (hab : a ≤ b) (hb : b ≤ L.n) {K : Value → World → Prop}
    (hK : ∀ w' ys, Dt L w' ys → Sw a b xs ys → Srt ltE a b ys → Ext (At1 L.g) w w' → K (.tuple [].toArray) w') : CallS Tryz.prog 140 #[L.v, .int .i64 (a : Int), .int .i64 (b : Int)] K w := by
  have hbig := L.big
  refine s140_call hm ?_
  unfold s140
  refine pur (add64 (c := ((a + 1 : Nat) : Int)) (by omega) (by omega) (by omega)) ?_
  refine loop1 (σ := Nat × List El) (fun s v w' => v = .int .i64 (s.1 : Int) ∧ a + 1 ≤ s.1 ∧ (s.1 ≤ b ∨ s.1 = a + 1) ∧ Dt L w' s.2 ∧ Sw a b xs s.2 ∧ Srt ltE a s.1 s.2 ∧ Ext (At1 L.g) w w') (fun s => b - s.1) (a + 1, xs)
    ⟨rfl, by simp, .inr rfl, hd, .refl, Srt.nil (by simp), Ext.refl _ _⟩ ?_
  rintro ⟨i, ys⟩ _ w1 ⟨rfl, hi1, hi2, hd1, hs1, ho1, e1⟩ L0 hL0
  simp only at hi1 hi2 hd1 hs1 ho1 hL0
  have hyl := hd1.len
  have hxl := hs1.len
  refine pur (bin_lss _ _ _) (condD (fun hlt => ?_) (fun hge => ?_))
  · refine join0 (fun w' => ∃ zs, Dt L w' zs ∧ Sw a b xs zs ∧ Srt ltE a (i + 1) zs ∧ Ext (At1 L.g) w w') ?_ fun J1 hJ1 => ?_
    · rintro w2 ⟨zs, hd2, hs2, ho2, e2⟩
      exact pur (add64 (c := ((i + 1 : Nat) : Int)) (by omega) (by omega) (by omega)) (hL0 (i + 1, zs) _ _ ⟨rfl, by simp only; omega, .inl (by simp only; omega), hd2, hs2, ho2, e2⟩ (by simp only; omega))
    · refine loop1 (σ := Nat × List El) (fun s v w' => v = .int .i64 (s.1 : Int) ∧ a ≤ s.1 ∧ s.1 ≤ i ∧ Dt L w' s.2 ∧ Sw a b xs s.2 ∧ InsI a i s.1 s.2 ∧ Ext (At1 L.g) w w') (fun s => s.1) (i, ys)
        ⟨rfl, by simp only; omega, Nat.le_refl _, hd1, hs1, ⟨fun p q u v h1 h2 h3 h4 h5 => ho1 p q u v h1 h2 (by omega), fun q u v h1 h2 => by omega⟩, e1⟩ ?_
      rintro ⟨j, zs⟩ _ w2 ⟨rfl, hj1, hj2, hd2, hs2, hi3, e2⟩ L2 hL2
      simp only at hj1 hj2 hd2 hs2 hi3 hL2
      have hzl := hd2.len
      obtain ⟨v, hv⟩ := getN (xs := zs) (i := j) (by omega)
      refine join1 (fun t w' => w2.drew = w' ∧ ((t = .bool true ∧ a < j ∧ ∃ u, zs[j - 1]? = some u ∧ ltE v u = true) ∨ (t = .bool false ∧ (a < j → ∃ u, zs[j - 1]? = some u ∧ ltE v u = false)))) ?_ fun J3 hJ3 => ?_
      · rintro t w' ⟨rfl, hcase⟩
        rcases hcase with ⟨rfl, haj, u, hu, hlt2⟩ | ⟨rfl, hno⟩
        · refine condT rfl (draw (fun w' => Dt L w' zs) hd2.drew.drew ?_)
          refine pur (sub64 (c := ((j - 1 : Nat) : Int)) (by omega) (by omega) (by omega)) (pur (sub64 (c := ((j - 1 : Nat) : Int)) (by omega) (by omega) (by omega)) ?_)
          refine pur (hd2.idx (by omega)) (pur (hd2.idx (by omega)) (heldC (fun w' h => h.cell hu) (heldC (fun w' h => h.cell hv) ?_)))
          refine hd2.drew.drew.swap hv hu fun w3 hd3 e3 => ?_
          refine pur (sub64 (c := ((j - 1 : Nat) : Int)) (by omega) (by omega) (by omega)) ?_
          exact hL2 (j - 1, swp zs j (j - 1)) _ _ ⟨rfl, by simp only; omega, by simp only; omega, hd3, hs2.trans (Sw.one (by omega) (by omega) (by omega) (by omega) (by omega)), hi3.next haj hj2 (by omega) hu hv hlt2,
            (e2.trans ((Ext.drew _).trans (Ext.drew _))).trans e3⟩ (by simp only; omega)
        · refine condF rfl (hJ1 _ ⟨zs, hd2.drew, hs2, hi3.done hj1 hj2 (by omega) (fun haj u' v' hu' hv' => ?_), e2.trans (Ext.drew _)⟩)
          obtain ⟨u, hu, hlt2⟩ := hno haj
          rw [hu] at hu'; cases hu'
          rw [hv] at hv'; cases hv'
          exact hlt2
      · refine draw (fun w' => Dt L w' zs) hd2.drew (pur (bin_gtr _ _ _) (condD (fun hgt => ?_) (fun hle => ?_)))
        · obtain ⟨u, hu⟩ := getN (xs := zs) (i := j - 1) (by omega)
          refine pur (hd2.idx (by omega)) (pur (sub64 (c := ((j - 1 : Nat) : Int)) (by omega) (by omega) (by omega)) (pur (hd2.idx (by omega)) (heldC (fun w' h => h.cell hv) (heldC (fun w' h => h.cell hu) ?_))))
          rw [hE]
          refine cless (pur (pick_b _ _ _) ?_)
          cases hc : ltE v u with
          | true => exact hJ3 _ _ ⟨rfl, .inl ⟨rfl, by omega, u, hu, hc⟩⟩
          | false => exact hJ3 _ _ ⟨rfl, .inr ⟨rfl, fun _ => ⟨u, hu, hc⟩⟩⟩
        · exact pur (pick_b _ _ _) (hJ3 _ _ ⟨rfl, .inr ⟨rfl, fun h => by omega⟩⟩)
  · have hib : i = b ∨ b ≤ a + 1 := by omega
    refine hK w1 ys hd1 hs1 ?_ e1
    rcases hib with rfl | h
    · exact ho1
    · exact Srt.nil h

theorem cRev {L : Lcn El} (hE : L.enc = encE) {w : World} {xs : List El} (hd : Dt L w xs) {a b : Nat} (hab : a ≤ b) (hb : b ≤ L.n) {K : Value → World → Prop}
    (hK : ∀ w' ys, Dt L w' ys → Sw a b xs ys → Ext (At1 L.g) w w' → K (.tuple [].toArray) w') : CallS Tryz.prog 144 #[L.v, .int .i64 (a : Int), .int .i64 (b : Int)] K w := by
  have hbig := L.big
  refine s144_call hm ?_
  unfold s144
  refine pur (sub64 (c := (b : Int) - 1) rfl (by omega) (by omega)) ?_
  refine loop2 (σ := Nat × List El) (fun s v v' w' => v = .int .i64 ((a : Int) + s.1) ∧ v' = .int .i64 ((b : Int) - 1 - s.1) ∧ Dt L w' s.2 ∧ Sw a b xs s.2 ∧ Ext (At1 L.g) w w') (fun s => b - a - 2 * s.1) (0, xs)
    ⟨by simp, by simp, hd, .refl, Ext.refl _ _⟩ ?_
  rintro ⟨k, ys⟩ _ _ w1 ⟨rfl, rfl, hd1, hs1, e1⟩ L0 hL0
  simp only at hd1 hs1 hL0
  have hyl := hd1.len
  have hxl := hs1.len
  refine pur (bin_lss _ _ _) (condD (fun hlt => ?_) (fun hge => hK w1 ys hd1 hs1 e1))
  have hi : (a : Int) + k = ((a + k : Nat) : Int) := by omega
  have hj : (b : Int) - 1 - k = ((b - 1 - k : Nat) : Int) := by omega
  obtain ⟨u, hu⟩ := getN (xs := ys) (i := a + k) (by omega)
  obtain ⟨v, hv⟩ := getN (xs := ys) (i := b - 1 - k) (by omega)
  rw [hi, hj]
  refine draw (fun w' => Dt L w' ys) hd1.drew ?_
  refine pur (hd1.idx (by omega)) (pur (hd1.idx (by omega)) (heldC (fun w' h => h.cell hv) (heldC (fun w' h => h.cell hu) ?_)))
  refine hd1.drew.swap hu hv fun w2 hd2 e2 => ?_
  refine pur (add64 (c := (a : Int) + ((k + 1 : Nat) : Int)) (by omega) (by omega) (by omega)) (pur (sub64 (c := (b : Int) - 1 - ((k + 1 : Nat) : Int)) (by omega) (by omega) (by omega)) ?_)
  exact hL0 (k + 1, _) _ _ _ ⟨rfl, rfl, hd2, hs1.trans (Sw.one (by omega) (by omega) (by omega) (by omega) (by omega)), (e1.trans (Ext.drew _)).trans e2⟩ (by simp only; omega)
end Go.Proofs.YthohdinjpkehpaaGreat

namespace Go.Proofs.YthohdinjpkehpaaGreat
open Go SG Go.RowKit Go.Lib
set_option linter.unusedVariables false
set_option maxRecDepth 4000
set_option linter.unusedSimpArgs false

theorem at1_off {g b : Nat} (h : b ≠ g) : ¬ At1 g b := h
theorem quoN (a d : Nat) (hd : d ≠ 0) (ha : a ≤ 9223372036854775807) : binV .quo (.int .i64 (a : Int)) (.int .i64 (d : Int)) = some (.int .i64 ((a / d : Nat) : Int)) := by
  have h : ((a : Int)).tdiv (d : Int) = ((a / d : Nat) : Int) := (Int.ofNat_tdiv a d).symm
  have hle : a / d ≤ a := Nat.div_le_self a d
  rw [bin_quo _ _ _ (by omega), h]
  generalize a / d = q at *
  rw [wi64 (by omega) (by omega)]
theorem mulN (a d : Nat) (ha : a * d ≤ 9223372036854775807) : binV .mul (.int .i64 (a : Int)) (.int .i64 (d : Int)) = some (.int .i64 ((a * d : Nat) : Int)) := by
  rw [bin_mul, ← Int.natCast_mul, wi64 (by omega) (by omega)]

theorem cOrd2 {L : Lcn El} (hE : L.enc = encE) {w : World} {xs : List El} (hd : Dt L w xs) {gs : Nat} {c : Int} (hs : Blk w gs 3 [.int .i64 c]) (hg : gs ≠ L.g) {a b : Nat} (ha : a < L.n) (hb : b < L.n) {K : Value → World → Prop}
    (hK : ∀ w' c', Dt L w' xs → Blk w' gs 3 [.int .i64 c'] → Ext (At1 gs) w w' → (K (.tuple [.int .i64 (a : Int), .int .i64 (b : Int)].toArray) w' ∧ K (.tuple [.int .i64 (b : Int), .int .i64 (a : Int)].toArray) w')) :
    CallS Tryz.prog 163 #[L.v, .int .i64 (a : Int), .int .i64 (b : Int), .pointer (some ⟨gs, 0, none⟩)] K w := by
  refine s163_call hm ?_
  unfold s163
  have hl := hd.len
  obtain ⟨u, hu⟩ := getN (xs := xs) (i := a) (by omega)
  obtain ⟨v, hv⟩ := getN (xs := xs) (i := b) (by omega)
  refine draw (fun w' => Dt L w' xs) hd.drew ?_
  refine pur (hd.idx hb) (pur (hd.idx ha) (heldC (fun w' h => h.cell hv) (heldC (fun w' h => h.cell hu) ?_)))
  rw [hE]
  refine cless (condB (fun _ => ?_) (fun _ => ?_))
  · have hs1 : Blk w.drew gs 3 [.int .i64 c] := hs.no (Ext.drew w)
    refine pur (nil_ptr _) (loadB hs1 (v := .int .i64 c) rfl (pur (bin_add _ _ _) (pur (nil_ptr _) (storeB hs1 (by simp) rfl fun w1 b1 e1 _ => ?_))))
    exact (hK w1 _ (hd.drew.ext e1 (at1_off (Ne.symm hg))) b1 ((Ext.drew w).trans e1)).2
  · exact (hK w.drew c hd.drew (hs.no (Ext.drew w)) (Ext.drew w)).1

theorem cMed {L : Lcn El} (hE : L.enc = encE) {w : World} {xs : List El} (hd : Dt L w xs) {gs : Nat} {c : Int} (hs : Blk w gs 3 [.int .i64 c]) (hg : gs ≠ L.g) {i j k : Nat} (hi : i < L.n) (hj : j < L.n) (hk : k < L.n) {P : Nat → Prop} (h1 : P i) (h2 : P j) (h3 : P k) {K : Value → World → Prop}
    (hK : ∀ w' c' (m : Nat), Dt L w' xs → Blk w' gs 3 [.int .i64 c'] → Ext (At1 gs) w w' → P m → m < L.n → K (.int .i64 (m : Int)) w') :
    CallS Tryz.prog 159 #[L.v, .int .i64 (i : Int), .int .i64 (j : Int), .int .i64 (k : Int), .pointer (some ⟨gs, 0, none⟩)] K w := by
  refine s159_call hm ?_
  unfold s159
  have main : ∀ (p q : Nat) w1 c1, Dt L w1 xs → Blk w1 gs 3 [.int .i64 c1] → Ext (At1 gs) w w1 → p < L.n → q < L.n → P p → P q →
      CallS Tryz.prog 163 #[L.v, .int .i64 (q : Int), .int .i64 (k : Int), .pointer (some ⟨gs, 0, none⟩)] (fun t24 w => PureS (extractV 0 t24) fun t25 => PureS (extractV 1 t24) fun t26 => CallS Tryz.prog 163 #[L.v, .int .i64 (p : Int), t25, .pointer (some ⟨gs, 0, none⟩)] (fun t32 w => PureS (extractV 0 t32) fun t33 => PureS (extractV 1 t32) fun t34 => K t34 w) w) w1 := by
    intro p q w1 c1 hd1 hs1 e1 hp hq hPp hPq
    have last : ∀ (r : Nat) w2 c2, Dt L w2 xs → Blk w2 gs 3 [.int .i64 c2] → Ext (At1 gs) w w2 → r < L.n → P r →
        CallS Tryz.prog 163 #[L.v, .int .i64 (p : Int), .int .i64 (r : Int), .pointer (some ⟨gs, 0, none⟩)] (fun t32 w => PureS (extractV 0 t32) fun t33 => PureS (extractV 1 t32) fun t34 => K t34 w) w2 := fun r w2 c2 hd2 hs2 e2 hr hPr =>
      cOrd2 hE hd2 hs2 hg hp hr fun w3 c3 hd3 hs3 e3 =>
        ⟨pur (extract_0 _ _) (pur (extract_1 _ _ _) (hK w3 c3 r hd3 hs3 (e2.trans e3) hPr hr)), pur (extract_0 _ _) (pur (extract_1 _ _ _) (hK w3 c3 p hd3 hs3 (e2.trans e3) hPp hp))⟩
    exact cOrd2 hE hd1 hs1 hg hq hk fun w2 c2 hd2 hs2 e2 =>
      ⟨pur (extract_0 _ _) (pur (extract_1 _ _ _) (last q w2 c2 hd2 hs2 (e1.trans e2) hq hPq)), pur (extract_0 _ _) (pur (extract_1 _ _ _) (last k w2 c2 hd2 hs2 (e1.trans e2) hk h3))⟩
  exact cOrd2 hE hd hs hg hi hj fun w1 c1 hd1 hs1 e1 =>
    ⟨pur (extract_0 _ _) (pur (extract_1 _ _ _) (main i j w1 c1 hd1 hs1 e1 hi hj h1 h2)), pur (extract_0 _ _) (pur (extract_1 _ _ _) (main j i w1 c1 hd1 hs1 e1 hj hi h2 h1))⟩

theorem cMadj {L : Lcn El} (hE : L.enc = encE) {w : World} {xs : List El} (hd : Dt L w xs) {gs : Nat} {c : Int} (hs : Blk w gs 3 [.int .i64 c]) (hg : gs ≠ L.g) {i : Nat} (h0 : 1 ≤ i) (hi : i + 1 < L.n) {P : Nat → Prop} (h1 : P (i - 1)) (h2 : P i) (h3 : P (i + 1)) {K : Value → World → Prop}
    (hK : ∀ w' c' (m : Nat), Dt L w' xs → Blk w' gs 3 [.int .i64 c'] → Ext (At1 gs) w w' → P m → m < L.n → K (.int .i64 (m : Int)) w') :
    CallS Tryz.prog 158 #[L.v, .int .i64 (i : Int), .pointer (some ⟨gs, 0, none⟩)] K w := by
  have hbig := L.big
  refine s158_call hm ?_
  unfold s158
  refine pur (sub64 (c := ((i - 1 : Nat) : Int)) (by omega) (by omega) (by omega)) (pur (add64 (c := ((i + 1 : Nat) : Int)) (by omega) (by omega) (by omega)) ?_)
  exact cMed hE hd hs hg (by omega) (by omega) hi h1 h2 h3 hK

set_option maxHeartbeats 400000 in
theorem cPiv {L : Lcn El} (hE : L.enc = encE) {w : World} {xs : List El} (hd : Dt L w xs) {a b : Nat} (hab : a + 8 ≤ b) (hb : b ≤ L.n) {K : Value → World → Prop}
    (hK : ∀ w' (p : Nat) (h : Int), Dt L w' xs → Ext No w w' → a ≤ p → p < b → K (.tuple [.int .i64 (p : Int), .int .i64 h].toArray) w') : CallS Tryz.prog 143 #[L.v, .int .i64 (a : Int), .int .i64 (b : Int)] K w := by
  have hbig := L.big
  refine s143_call hm ?_
  unfold s143
  obtain ⟨l, hl⟩ : ∃ l, b - a = l := ⟨_, rfl⟩
  have hq : l / 4 * 4 ≤ l := Nat.div_mul_le_self l 4
  have hq2 : 2 ≤ l / 4 := by omega
  refine pur (sub64 (c := (l : Int)) (by omega) (by omega) (by omega)) (box fun w1 b1 e1 z1 => ?_)
  have hs1 : Blk w1 w.heap.size 3 [.int .i64 0] := b1
  have hd1 := hd.no e1
  have hg : w.heap.size ≠ L.g := by have := hd.blk.lt; omega
  have hfr : ∀ {wa wb : World}, Ext No w wa → Ext (At1 w.heap.size) wa wb → Ext No w wb := fun h k => h.fresh k fun b hb => .inr (by rw [show b = w.heap.size from hb]; exact Nat.le_refl _)
  refine pur (quoN l 4 (by decide) (by omega)) (pur (mulN (l / 4) 1 (by omega)) (pur (add64 (c := ((a + l / 4 * 1 : Nat) : Int)) (by omega) (by omega) (by omega)) ?_))
  refine pur (quoN l 4 (by decide) (by omega)) (pur (mulN (l / 4) 2 (by omega)) (pur (add64 (c := ((a + l / 4 * 2 : Nat) : Int)) (by omega) (by omega) (by omega)) ?_))
  refine pur (quoN l 4 (by decide) (by omega)) (pur (mulN (l / 4) 3 (by omega)) (pur (add64 (c := ((a + l / 4 * 3 : Nat) : Int)) (by omega) (by omega) (by omega)) ?_))
  refine join1 (fun v w' => ∃ (m : Nat) (c : Int), v = .int .i64 (m : Int) ∧ a ≤ m ∧ m < b ∧ Dt L w' xs ∧ Blk w' w.heap.size 3 [.int .i64 c] ∧ Ext No w w') ?_ fun J0 hJ0 => ?_
  · rintro _ w2 ⟨m, c, rfl, hm1, hm2, hd2, hs2, e2⟩
    refine loadB hs2 (v := .int .i64 c) rfl (pur (bin_eql _ _ _) (condD (fun _ => hK w2 m 1 hd2 e2 hm1 hm2) (fun _ => pur (bin_eql _ _ _) (condD (fun _ => hK w2 m 2 hd2 e2 hm1 hm2) (fun _ => hK w2 m 0 hd2 e2 hm1 hm2)))))
  · refine pur (bin_geq _ _ _) (condD (fun _ => ?_) (fun h => absurd h (by omega)))
    refine join3 (fun x y z w' => ∃ (i j k : Nat) (c : Int), x = .int .i64 (i : Int) ∧ y = .int .i64 (j : Int) ∧ z = .int .i64 (k : Int) ∧ (a ≤ i ∧ i < b) ∧ (a ≤ j ∧ j < b) ∧ (a ≤ k ∧ k < b) ∧ Dt L w' xs ∧ Blk w' w.heap.size 3 [.int .i64 c] ∧ Ext No w w') ?_ fun J1 hJ1 => ?_
    · rintro _ _ _ w2 ⟨i, j, k, c, rfl, rfl, rfl, hi, hj, hk, hd2, hs2, e2⟩
      exact cMed hE hd2 hs2 hg (P := fun m => a ≤ m ∧ m < b) (by omega) (by omega) (by omega) hi hj hk fun w3 c3 m hd3 hs3 e3 hPm _ => hJ0 _ _ ⟨m, c3, rfl, hPm.1, hPm.2, hd3, hs3, hfr e2 e3⟩
    · refine pur (bin_geq _ _ _) (condD (fun hge => ?_) (fun _ => ?_))
      · refine cMadj hE hd1 hs1 hg (P := fun m => a ≤ m ∧ m < b) (by omega) (by omega) (by omega) (by omega) (by omega) fun w2 c2 i hd2 hs2 e2 hi _ => ?_
        refine cMadj hE hd2 hs2 hg (P := fun m => a ≤ m ∧ m < b) (by omega) (by omega) (by omega) (by omega) (by omega) fun w3 c3 j hd3 hs3 e3 hj _ => ?_
        refine cMadj hE hd3 hs3 hg (P := fun m => a ≤ m ∧ m < b) (by omega) (by omega) (by omega) (by omega) (by omega) fun w4 c4 k hd4 hs4 e4 hk _ => ?_
        exact hJ1 _ _ _ _ ⟨i, j, k, c4, rfl, rfl, rfl, hi, hj, hk, hd4, hs4, hfr (hfr (hfr e1 e2) e3) e4⟩
      · exact hJ1 _ _ _ _ ⟨_, _, _, 0, rfl, rfl, rfl, by omega, by omega, by omega, hd1, hs1, e1⟩
end Go.Proofs.YthohdinjpkehpaaGreat

namespace Go.Proofs.YthohdinjpkehpaaGreat
open Go SG Go.RowKit Go.Lib
set_option linter.unusedVariables false
set_option maxRecDepth 4000
set_option linter.unusedSimpArgs false

def okTab (s : ByteArray) : Bool := (List.range 256).all fun y => match s[y]? with
  | some c => decide ((y = 0 ∨ 2 ^ c.toNat ≤ 2 * y) ∧ c.toNat ≤ 8)
  | none => false
theorem tabOf {s : ByteArray} (h : okTab s = true) {y : Nat} (h1 : 1 ≤ y) (h2 : y < 256) : ∃ v : Nat, indexStrV (.string s) (.int .u8 (y : Int)) = some (.int .u8 (v : Int)) ∧ 2 ^ v ≤ 2 * y ∧ v ≤ 8 := by
  have := List.all_eq_true.1 h y (by simpa using h2)
  cases hc : s[y]? with
  | none => rw [hc] at this; cases this
  | some c =>
    rw [hc] at this
    have h3 := of_decide_eq_true this
    refine ⟨c.toNat, ?_, by rcases h3.1 with h4 | h4 <;> omega, h3.2⟩
    simp only [indexStrV]
    rw [if_pos (by omega), Int.toNat_natCast, hc]
    rfl
theorem tabOf0 {s : ByteArray} (h : okTab s = true) : ∃ v : Nat, indexStrV (.string s) (.int .u8 0) = some (.int .u8 (v : Int)) ∧ v ≤ 8 := by
  have := List.all_eq_true.1 h 0 (by simp)
  cases hc : s[0]? with
  | none => rw [hc] at this; cases this
  | some c =>
    rw [hc] at this
    have h3 := of_decide_eq_true this
    refine ⟨c.toNat, ?_, h3.2⟩
    simp only [indexStrV]
    rw [if_pos (by omega), show (0 : Int).toNat = 0 from rfl, hc]
    rfl
theorem wu8' {n : Int} (h0 : 0 ≤ n) (h1 : n ≤ 255) : IntKind.u8.wrap n = n := by
  simp only [IntKind.wrap, IntKind.bits, IntKind.signed]
  simp
  omega
theorem shrN (a b : Nat) : (a : Int).fdiv (2 ^ (b : Int).toNat) = ((a / 2 ^ b : Nat) : Int) := by
  rw [Int.fdiv_eq_ediv_of_nonneg _ (by exact_mod_cast Nat.zero_le _)]
  simp

theorem cLenC (x : Nat) (h1 : 1 ≤ x) (h2 : x < 18446744073709551616) {K : Value → World → Prop} {w : World} (hK : ∀ l : Nat, 2 ^ l ≤ 2 * x → K (.int .i64 (l : Int)) w) : CallS Tryz.prog 150 #[.int .u64 (x : Int)] K w := by
  refine s150_call hm ?_
  unfold s150
  refine join2 (fun p q w' => w = w' ∧ ∃ y n : Nat, p = .int .u64 (y : Int) ∧ q = .int .i64 (n : Int) ∧ 1 ≤ y ∧ y < 4294967296 ∧ n ≤ 32 ∧ 2 ^ n * y ≤ x) ?_ fun J0 hJ0 => ?_
  · rintro _ _ _ ⟨rfl, y, n, rfl, rfl, hy, hlt, hn, hle⟩
    refine join2 (fun p q w' => w = w' ∧ ∃ y n : Nat, p = .int .u64 (y : Int) ∧ q = .int .i64 (n : Int) ∧ 1 ≤ y ∧ y < 65536 ∧ n ≤ 48 ∧ 2 ^ n * y ≤ x) ?_ fun J1 hJ1 => ?_
    · rintro _ _ _ ⟨rfl, y, n, rfl, rfl, hy, hlt, hn, hle⟩
      refine join2 (fun p q w' => w = w' ∧ ∃ y n : Nat, p = .int .u64 (y : Int) ∧ q = .int .i64 (n : Int) ∧ 1 ≤ y ∧ y < 256 ∧ n ≤ 56 ∧ 2 ^ n * y ≤ x) ?_ fun J2 hJ2 => ?_
      · rintro _ _ _ ⟨rfl, y, n, rfl, rfl, hy, hlt, hn, hle⟩
        refine pur ((conv_int _ _ _).trans (by rw [wu8' (by omega) (by omega)])) ?_
        obtain ⟨v, hv, hv1, hv2⟩ := tabOf (s := _) (by kernel_rfl) hy hlt
        refine pur hv (pur ((conv_int _ _ _).trans (by rw [wi64 (by omega) (by omega)])) (pur (add64 (c := ((n + v : Nat) : Int)) (by omega) (by omega) (by omega)) (hK _ ?_)))
        calc 2 ^ (n + v) = 2 ^ n * 2 ^ v := Nat.pow_add _ _ _
          _ ≤ 2 ^ n * (2 * y) := Nat.mul_le_mul_left _ hv1
          _ = 2 * (2 ^ n * y) := by rw [Nat.mul_left_comm]
          _ ≤ 2 * x := Nat.mul_le_mul_left _ hle
      · refine pur (bin_geq _ _ _) (condD (fun h => ?_) (fun h => hJ2 _ _ _ ⟨rfl, y, n, rfl, rfl, hy, by omega, by omega, hle⟩))
        refine pur (bin_shr (by decide) (by decide)) (pur (add64 (c := ((n + 8 : Nat) : Int)) (by omega) (by omega) (by omega)) (hJ2 _ _ _ ⟨rfl, y / 2 ^ 8, n + 8, by rw [← shrN y 8]; rfl, rfl, by omega, by omega, by omega, ?_⟩))
        rw [Nat.pow_add, Nat.mul_assoc]
        exact Nat.le_trans (Nat.mul_le_mul_left _ (Nat.mul_div_le _ _)) hle
    · refine pur (bin_geq _ _ _) (condD (fun h => ?_) (fun h => hJ1 _ _ _ ⟨rfl, y, n, rfl, rfl, hy, by omega, by omega, hle⟩))
      refine pur (bin_shr (by decide) (by decide)) (pur (add64 (c := ((n + 16 : Nat) : Int)) (by omega) (by omega) (by omega)) (hJ1 _ _ _ ⟨rfl, y / 2 ^ 16, n + 16, by rw [← shrN y 16]; rfl, rfl, by omega, by omega, by omega, ?_⟩))
      rw [Nat.pow_add, Nat.mul_assoc]
      exact Nat.le_trans (Nat.mul_le_mul_left _ (Nat.mul_div_le _ _)) hle
  · refine pur (bin_geq _ _ _) (condD (fun h => ?_) (fun h => hJ0 _ _ _ ⟨rfl, x, 0, rfl, rfl, h1, by omega, by omega, by omega⟩))
    refine pur (bin_shr (by decide) (by decide)) (hJ0 _ _ _ ⟨rfl, x / 2 ^ 32, 32, by rw [← shrN x 32]; rfl, rfl, by omega, by omega, by omega, Nat.mul_div_le _ _⟩)

theorem cLen (x : Nat) (h1 : 1 ≤ x) (h2 : x < 18446744073709551616) {K : Value → World → Prop} {w : World} (hK : ∀ l : Nat, 2 ^ l ≤ 2 * x → K (.int .i64 (l : Int)) w) : CallS Tryz.prog 138 #[.int .u64 (x : Int)] K w := by
  refine s138_call hm ?_
  unfold s138
  exact condB (fun h => by cases h) (fun _ => cLenC x h1 h2 hK)

theorem cNpt (x : Nat) (h1 : 1 ≤ x) (h2 : x ≤ 4611686018427387904) {K : Value → World → Prop} {w : World} (hK : ∀ m : Nat, 1 ≤ m → m ≤ 2 * x → K (.int .u64 (m : Int)) w) : CallS Tryz.prog 156 #[.int .i64 (x : Int)] K w := by
  refine s156_call hm ?_
  unfold s156
  refine pur ((conv_int _ _ _).trans (by rw [wu64 (by omega) (by omega)])) (cLen x h1 (by omega) fun l hl => ?_)
  have hl2 : l ≤ 64 := by
    refine Nat.le_of_not_lt fun h => ?_
    have : 2 ^ 65 ≤ 2 ^ l := Nat.pow_le_pow_right (by decide) h
    omega
  have hp : 1 ≤ 2 ^ l := Nat.one_le_two_pow
  refine pur ((bin_shl (by omega) (by simp [IntKind.bits]; omega)).trans ?_) (hK (2 ^ l) hp hl)
  rw [Int.one_mul, Int.toNat_natCast, show (2 : Int) ^ l = ((2 ^ l : Nat) : Int) by simp, wu64 (by omega) (by omega)]
theorem andLe (x : Int) (m : Nat) (h : m < 18446744073709551616) : ∃ r : Nat, bits .and .u64 x (m : Int) = (r : Int) ∧ r ≤ m := by
  have h1 : (BitVec.ofInt 64 (m : Int)).toNat = m := by rw [BitVec.ofInt_natCast, BitVec.toNat_ofNat]; exact Nat.mod_eq_of_lt (by omega)
  refine ⟨(BitVec.ofInt 64 x).toNat &&& m, ?_, Nat.and_le_right⟩
  show IntKind.u64.wrap ((BitVec.ofInt 64 x &&& BitVec.ofInt 64 (m : Int)).toNat : Int) = _
  have h2 : (BitVec.ofInt 64 x).toNat &&& m ≤ m := Nat.and_le_right
  rw [BitVec.toNat_and, h1, wu64 (by omega) (by omega)]

theorem cXor {w : World} {gr : Nat} {c : Int} (hs : Blk w gr 183 [.int .u64 c]) {K : Value → World → Prop} (hK : ∀ w' c', Blk w' gr 183 [.int .u64 c'] → Ext (At1 gr) w w' → K (.int .u64 c') w') : CallS Tryz.prog 157 #[.pointer (some ⟨gr, 0, none⟩)] K w := by
  refine s157_call hm ?_
  unfold s157
  have cl : ∀ {w' : World} {d : Int}, Blk w' gr 183 [.int .u64 d] → w'.cell? ⟨gr, 0, none⟩ = some (.int .u64 d) := fun h => by rw [h.cell]; rfl
  refine draw (fun w' => Blk w' gr 183 [.int .u64 c]) (hs.no (Ext.drew w)) (pur (nil_ptr _) (pur (nil_ptr _) (heldC (fun w' h => cl h) (heldC (fun w' h => cl h) (pur (bin_shl (by decide) (by decide)) (pur (bin_xor _ _ _) (pur (nil_ptr _) (storeB (hs.no (Ext.drew w)) (by simp) rfl fun w1 b1 e1 _ => ?_))))))))
  simp only [List.set_cons_zero] at b1
  obtain ⟨c1, hc1⟩ : ∃ c1 : Int, Blk w1 gr 183 [.int .u64 c1] := ⟨_, b1⟩
  refine draw (fun w' => Blk w' gr 183 [.int .u64 c1]) (hc1.no (Ext.drew w1)) (pur (nil_ptr _) (pur (nil_ptr _) (heldC (fun w' h => cl h) (heldC (fun w' h => cl h) (pur (bin_shr (by decide) (by decide)) (pur (bin_xor _ _ _) (pur (nil_ptr _) (storeB (hc1.no (Ext.drew w1)) (by simp) rfl fun w2 b2 e2 _ => ?_))))))))
  simp only [List.set_cons_zero] at b2
  obtain ⟨c2, hc2⟩ : ∃ c2 : Int, Blk w2 gr 183 [.int .u64 c2] := ⟨_, b2⟩
  refine draw (fun w' => Blk w' gr 183 [.int .u64 c2]) (hc2.no (Ext.drew w2)) (pur (nil_ptr _) (pur (nil_ptr _) (heldC (fun w' h => cl h) (heldC (fun w' h => cl h) (pur (bin_shl (by decide) (by decide)) (pur (bin_xor _ _ _) (pur (nil_ptr _) (storeB (hc2.no (Ext.drew w2)) (by simp) rfl fun w3 b3 e3 _ => ?_))))))))
  simp only [List.set_cons_zero] at b3
  refine pur (nil_ptr _) (loadB b3 rfl (hK w3 _ b3 ?_))
  exact ((Ext.drew w).trans e1).trans (((Ext.drew w1).trans e2).trans ((Ext.drew w2).trans e3))
end Go.Proofs.YthohdinjpkehpaaGreat

namespace Go.Proofs.YthohdinjpkehpaaGreat
open Go SG Go.RowKit Go.Lib
set_option linter.unusedVariables false
set_option maxRecDepth 4000
set_option linter.unusedSimpArgs false

set_option maxHeartbeats 400000 in
theorem cBrk {L : Lcn El} (hE : L.enc = encE) {w : World} {xs : List El} (hd : Dt L w xs) {a b : Nat} (hab : a ≤ b) (hb : b ≤ L.n) {K : Value → World → Prop}
    (hK : ∀ w' xs', Dt L w' xs' → Sw a b xs xs' → Ext (At1 L.g) w w' → K (.tuple [].toArray) w') : CallS Tryz.prog 142 #[L.v, .int .i64 (a : Int), .int .i64 (b : Int)] K w := by
  have hbig := L.big
  have hlen := hd.len
  refine s142_call hm ?_
  unfold s142
  obtain ⟨l, hl⟩ : ∃ l, b - a = l := ⟨_, rfl⟩
  refine pur (sub64 (c := (l : Int)) (by omega) (by omega) (by omega)) (pur (bin_geq _ _ _) (condD (fun h8 => ?_) (fun _ => hK w xs hd .refl (Ext.refl _ _))))
  refine pur ((conv_int _ _ _).trans (by rw [wu64 (by omega) (by omega)])) (box fun w1 b1 e1 z1 => storeB b1 (by simp [Value.cells, Value.oneCell']) rfl fun w2 b2 e2 _ => ?_)
  have hs2 : Blk w2 w.heap.size 183 [.int .u64 (l : Int)] := b2
  have hg : w.heap.size ≠ L.g := by have := hd.blk.lt; omega
  have hd2 : Dt L w2 xs := (hd.no e1).ext e2 (at1_off (Ne.symm hg))
  have e02 : Ext No w w2 := e1.fresh e2 fun b hb => .inr (by rw [show b = w.heap.size from hb]; exact Nat.le_refl _)
  have hz2 : w.heap.size < w2.heap.size := hs2.lt
  refine cNpt l (by omega) (by omega) fun m hm1 hm2 => ?_
  have hq : l / 4 * 4 ≤ l := Nat.div_mul_le_self l 4
  have hq2 : 2 ≤ l / 4 := by omega
  refine pur (quoN l 4 (by decide) (by omega)) (pur (mulN (l / 4) 2 (by omega)) (pur (add64 (c := ((a + l / 4 * 2 : Nat) : Int)) (by omega) (by omega) (by omega)) (pur (sub64 (c := ((a + l / 4 * 2 - 1 : Nat) : Int)) (by omega) (by omega) (by omega)) ?_)))
  refine loop1 (fun (i : Nat) v w' => v = .int .i64 (i : Int) ∧ a ≤ i ∧ ∃ (c : Int) (ys : List El), Dt L w' ys ∧ Sw a b xs ys ∧ Blk w' w.heap.size 183 [.int .u64 c] ∧ Ext (At1 L.g) w w') (fun i => b - i) (a + l / 4 * 2 - 1) ⟨rfl, by omega, _, xs, hd2, .refl, hs2, e02.no⟩ fun i v w3 hi J hJ => ?_
  obtain ⟨rfl, hai, c, ys, hd3, hsw, hs3, e3⟩ := hi
  have hly := hd3.len
  refine pur (quoN l 4 (by decide) (by omega)) (pur (mulN (l / 4) 2 (by omega)) (pur (add64 (c := ((a + l / 4 * 2 : Nat) : Int)) (by omega) (by omega) (by omega)) (pur (add64 (c := ((a + l / 4 * 2 + 1 : Nat) : Int)) (by omega) (by omega) (by omega)) (pur (bin_leq _ _ _) (condD (fun hle => ?_) (fun _ => hK w3 ys hd3 hsw e3))))))
  have hib : i < b := by omega
  refine cXor hs3 fun w4 c4 hs4 e4 => ?_
  have hd4 : Dt L w4 ys := hd3.ext e4 (at1_off (Ne.symm hg))
  have e04 : Ext (At1 L.g) w w4 := e3.fresh e4 fun b hb => .inr (by rw [show b = w.heap.size from hb]; exact Nat.le_refl _)
  obtain ⟨r, hr, hrm⟩ := andLe c4 (m - 1) (by omega)
  refine pur ((bin_sub _ _ _).trans (by rw [show ((m : Int) - 1) = ((m - 1 : Nat) : Int) by omega, wu64 (by omega) (by omega)])) (pur ((bin_and _ _ _).trans (by rw [hr])) (pur ((conv_int _ _ _).trans (by rw [wi64 (by omega) (by omega)])) ?_))
  refine join1 (fun v w' => w4 = w' ∧ ∃ o : Nat, v = .int .i64 (o : Int) ∧ o < l) ?_ fun J1 hJ1 => ?_
  · rintro _ _ ⟨rfl, o, rfl, ho⟩
    obtain ⟨u, hu⟩ := getN (xs := ys) (i := i) (by omega)
    obtain ⟨v, hv⟩ := getN (xs := ys) (i := a + o) (by omega)
    refine draw (fun w' => Dt L w' ys) hd4.drew ?_
    refine pur (add64 (c := ((a + o : Nat) : Int)) (by omega) (by omega) (by omega)) (pur (add64 (c := ((a + o : Nat) : Int)) (by omega) (by omega) (by omega)) (pur (hd.idx (by omega)) (pur (hd.idx (by omega)) (heldC (fun w' h => h.cell hv) (heldC (fun w' h => h.cell hu) ?_)))))
    refine hd4.drew.swap hu hv fun w5 hd5 e5 => ?_
    refine pur (add64 (c := ((i + 1 : Nat) : Int)) (by omega) (by omega) (by omega)) (hJ (i + 1) _ _ ⟨rfl, by omega, c4, _, hd5, .step i (a + o) hai hib (by omega) (by omega) (by omega) hsw, (hs4.no (Ext.drew w4)).ext e5 (at1_off hg), e04.trans ((Ext.drew w4).trans e5)⟩ (by omega))
  · refine pur (bin_geq _ _ _) (condD (fun h => ?_) (fun h => hJ1 _ _ ⟨rfl, r, rfl, by omega⟩))
    exact pur (sub64 (c := ((r - l : Nat) : Int)) (by omega) (by omega) (by omega)) (hJ1 _ _ ⟨rfl, r - l, rfl, by omega⟩)
end Go.Proofs.YthohdinjpkehpaaGreat

namespace Go.Proofs.YthohdinjpkehpaaGreat
open Go SG Go.RowKit Go.Lib
set_option linter.unusedVariables false
set_option maxRecDepth 4000
set_option linter.unusedSimpArgs false

theorem scUp {L : Lcn El} (hE : L.enc = encE) {w : World} {xs : List El} (hd : Dt L w xs) {a i j : Nat} {pv : El} (hpv : xs[a]? = some pv) (hij : i ≤ j + 1) (hj : j < L.n) {J : Value → World → Prop}
    (hK : ∀ (i' : Nat) w', Dt L w' xs → Ext No w w' → i ≤ i' → i' ≤ j + 1 → (∀ k u, i ≤ k → k < i' → xs[k]? = some u → ltE u pv = true) → (i' ≤ j → ∃ u, xs[i']? = some u ∧ ltE u pv = false) → J (.int .i64 (i' : Int)) w') :
    LoopS 1 (fun L0 (x : Value) (w : World) => JoinS (fun (t : Value) (w : World) => CondS t (PureS (binV .add x (.int .i64 1)) fun t => L0 t w) (J x w)) fun JJ =>
      DrawS fun S => S w.drew ∧ (PureS (binV .leq x (.int .i64 (j : Int))) fun t => CondS t (PureS (indexAddrV 1 L.v x) fun p => PureS (indexAddrV 1 L.v (.int .i64 (a : Int))) fun q => HeldC S p (fun u => HeldC S q (fun v =>
        CallS Tryz.prog 146 [u, v].toArray (fun t w => PureS (pickV (.bool true) t (.bool false)) fun t => JJ t w) w.drew))) (PureS (pickV (.bool false) undef (.bool false)) fun t => JJ t w.drew))) (.int .i64 (i : Int)) w := by
  have hbig := L.big
  have ha := (List.getElem?_eq_some_iff.1 hpv).1
  have hlen := hd.len
  refine loop1 (fun (i' : Nat) v w' => v = .int .i64 (i' : Int) ∧ i ≤ i' ∧ i' ≤ j + 1 ∧ Dt L w' xs ∧ Ext No w w' ∧ ∀ k u, i ≤ k → k < i' → xs[k]? = some u → ltE u pv = true) (fun i' => j + 1 - i') i ⟨rfl, Nat.le_refl _, hij, hd, Ext.refl _ _, fun k u h1 h2 => by omega⟩ fun i' v w1 hi L1 hL => ?_
  obtain ⟨rfl, h1, h2, hd1, e1, hall⟩ := hi
  refine join1 (fun t w' => w' = w1.drew ∧ ∃ c : Bool, t = .bool c ∧ (c = true → i' ≤ j ∧ ∃ u, xs[i']? = some u ∧ ltE u pv = true) ∧ (c = false → i' ≤ j → ∃ u, xs[i']? = some u ∧ ltE u pv = false)) ?_ fun JJ hJJ => ?_
  · rintro _ _ ⟨rfl, c, rfl, hc1, hc2⟩
    refine condB (fun h => ?_) (fun h => hK i' _ hd1.drew (e1.trans (Ext.drew w1)) h1 h2 hall (hc2 h))
    obtain ⟨hle, u, hu, hlt⟩ := hc1 h
    refine pur (add64 (c := ((i' + 1 : Nat) : Int)) (by omega) (by omega) (by omega)) (hL (i' + 1) _ _ ⟨rfl, by omega, by omega, hd1.drew, e1.trans (Ext.drew w1), fun k v hk1 hk2 hv => ?_⟩ (by omega))
    by_cases hk : k = i'
    · subst hk; rw [hu] at hv; cases hv; exact hlt
    · exact hall k v hk1 (by omega) hv
  · refine draw (fun w' => Dt L w' xs) hd1.drew (pur (bin_leq _ _ _) (condD (fun h => ?_) (fun h => ?_)))
    · obtain ⟨u, hu⟩ := getN (xs := xs) (i := i') (by omega)
      refine pur (hd.idx (by omega)) (pur (hd.idx (by omega)) (heldC (fun w' h => h.cell hu) (heldC (fun w' h => h.cell hpv) ?_)))
      rw [hE]
      refine cless (pur (pick_b _ _ _) (hJJ _ _ ⟨rfl, ltE u pv, by cases ltE u pv <;> rfl, fun h' => ⟨by omega, u, hu, h'⟩, fun h' _ => ⟨u, hu, h'⟩⟩))
    · refine pur (pick_b _ _ _) (hJJ _ _ ⟨rfl, false, by simp, fun h' => (by cases h'), fun _ h' => by omega⟩)
theorem scUpN {L : Lcn El} (hE : L.enc = encE) {w : World} {xs : List El} (hd : Dt L w xs) {a i j : Nat} {pv : El} (hpv : xs[a]? = some pv) (hij : i ≤ j + 1) (hj : j < L.n) {J : Value → World → Prop}
    (hK : ∀ (i' : Nat) w', Dt L w' xs → Ext No w w' → i ≤ i' → i' ≤ j + 1 → (∀ k u, i ≤ k → k < i' → xs[k]? = some u → ltE pv u = false) → (i' ≤ j → ∃ u, xs[i']? = some u ∧ ltE pv u = true) → J (.int .i64 (i' : Int)) w') :
    LoopS 1 (fun L0 (x : Value) (w : World) => JoinS (fun (t : Value) (w : World) => CondS t (PureS (binV .add x (.int .i64 1)) fun t => L0 t w) (J x w)) fun JJ =>
      DrawS fun S => S w.drew ∧ (PureS (binV .leq x (.int .i64 (j : Int))) fun t => CondS t (PureS (indexAddrV 1 L.v (.int .i64 (a : Int))) fun p => PureS (indexAddrV 1 L.v x) fun q => HeldC S p (fun u => HeldC S q (fun v =>
        CallS Tryz.prog 146 [u, v].toArray (fun t w => PureS (notV t) fun t => PureS (pickV (.bool true) t (.bool false)) fun t => JJ t w) w.drew))) (PureS (pickV (.bool false) undef (.bool false)) fun t => JJ t w.drew))) (.int .i64 (i : Int)) w := by
  have hbig := L.big
  have ha := (List.getElem?_eq_some_iff.1 hpv).1
  have hlen := hd.len
  refine loop1 (fun (i' : Nat) v w' => v = .int .i64 (i' : Int) ∧ i ≤ i' ∧ i' ≤ j + 1 ∧ Dt L w' xs ∧ Ext No w w' ∧ ∀ k u, i ≤ k → k < i' → xs[k]? = some u → ltE pv u = false) (fun i' => j + 1 - i') i ⟨rfl, Nat.le_refl _, hij, hd, Ext.refl _ _, fun k u h1 h2 => by omega⟩ fun i' v w1 hi L1 hL => ?_
  obtain ⟨rfl, h1, h2, hd1, e1, hall⟩ := hi
  refine join1 (fun t w' => w' = w1.drew ∧ ∃ c : Bool, t = .bool c ∧ (c = true → i' ≤ j ∧ ∃ u, xs[i']? = some u ∧ ltE pv u = false) ∧ (c = false → i' ≤ j → ∃ u, xs[i']? = some u ∧ ltE pv u = true)) ?_ fun JJ hJJ => ?_
  · rintro _ _ ⟨rfl, c, rfl, hc1, hc2⟩
    refine condB (fun h => ?_) (fun h => hK i' _ hd1.drew (e1.trans (Ext.drew w1)) h1 h2 hall (hc2 h))
    obtain ⟨hle, u, hu, hlt⟩ := hc1 h
    refine pur (add64 (c := ((i' + 1 : Nat) : Int)) (by omega) (by omega) (by omega)) (hL (i' + 1) _ _ ⟨rfl, by omega, by omega, hd1.drew, e1.trans (Ext.drew w1), fun k v hk1 hk2 hv => ?_⟩ (by omega))
    by_cases hk : k = i'
    · subst hk; rw [hu] at hv; cases hv; exact hlt
    · exact hall k v hk1 (by omega) hv
  · refine draw (fun w' => Dt L w' xs) hd1.drew (pur (bin_leq _ _ _) (condD (fun h => ?_) (fun h => ?_)))
    · obtain ⟨u, hu⟩ := getN (xs := xs) (i := i') (by omega)
      refine pur (hd.idx (by omega)) (pur (hd.idx (by omega)) (heldC (fun w' h => h.cell hpv) (heldC (fun w' h => h.cell hu) ?_)))
      rw [hE]
      refine cless (pur (not_b _) (pur (pick_b _ _ _) (hJJ _ _ ⟨rfl, !ltE pv u, by cases ltE pv u <;> rfl, fun h' => ⟨by omega, u, hu, by simpa using h'⟩, fun h' _ => ⟨u, hu, by simpa using h'⟩⟩)))
    · refine pur (pick_b _ _ _) (hJJ _ _ ⟨rfl, false, by simp, fun h' => (by cases h'), fun _ h' => by omega⟩)
theorem scDnN {L : Lcn El} (hE : L.enc = encE) {w : World} {xs : List El} (hd : Dt L w xs) {a i j : Nat} {pv : El} (hpv : xs[a]? = some pv) (h1i : 1 ≤ i) (hij : i ≤ j + 1) (hj : j < L.n) {J : Value → World → Prop}
    (hK : ∀ (j' : Nat) w', Dt L w' xs → Ext No w w' → i ≤ j' + 1 → j' ≤ j → (∀ k u, j' < k → k ≤ j → xs[k]? = some u → ltE u pv = false) → (i ≤ j' → ∃ u, xs[j']? = some u ∧ ltE u pv = true) → J (.int .i64 (j' : Int)) w') :
    LoopS 1 (fun L0 (x : Value) (w : World) => JoinS (fun (t : Value) (w : World) => CondS t (PureS (binV .sub x (.int .i64 1)) fun t => L0 t w) (J x w)) fun JJ =>
      DrawS fun S => S w.drew ∧ (PureS (binV .leq (.int .i64 (i : Int)) x) fun t => CondS t (PureS (indexAddrV 1 L.v x) fun p => PureS (indexAddrV 1 L.v (.int .i64 (a : Int))) fun q =>  HeldC S p (fun u => HeldC S q (fun v =>
        CallS Tryz.prog 146 [u, v].toArray (fun t w => PureS (notV t) fun t => PureS (pickV (.bool true) t (.bool false)) fun t => JJ t w) w.drew))) (PureS (pickV (.bool false) undef (.bool false)) fun t => JJ t w.drew))) (.int .i64 (j : Int)) w := by
  have hbig := L.big
  have ha := (List.getElem?_eq_some_iff.1 hpv).1
  have hlen := hd.len
  refine loop1 (fun (j' : Nat) v w' => v = .int .i64 (j' : Int) ∧ i ≤ j' + 1 ∧ j' ≤ j ∧ Dt L w' xs ∧ Ext No w w' ∧ ∀ k u, j' < k → k ≤ j → xs[k]? = some u → ltE u pv = false) (fun j' => j') j ⟨rfl, hij, Nat.le_refl _, hd, Ext.refl _ _, fun k u h1 h2 => by omega⟩ fun j' v w1 hi L1 hL => ?_
  obtain ⟨rfl, h1, h2, hd1, e1, hall⟩ := hi
  refine join1 (fun t w' => w' = w1.drew ∧ ∃ c : Bool, t = .bool c ∧ (c = true → i ≤ j' ∧ ∃ u, xs[j']? = some u ∧ ltE u pv = false) ∧ (c = false → i ≤ j' → ∃ u, xs[j']? = some u ∧ ltE u pv = true)) ?_ fun JJ hJJ => ?_
  · rintro _ _ ⟨rfl, c, rfl, hc1, hc2⟩
    refine condB (fun h => ?_) (fun h => hK j' _ hd1.drew (e1.trans (Ext.drew w1)) h1 h2 hall (hc2 h))
    obtain ⟨hle, u, hu, hlt⟩ := hc1 h
    refine pur (sub64 (c := ((j' - 1 : Nat) : Int)) (by omega) (by omega) (by omega)) (hL (j' - 1) _ _ ⟨rfl, by omega, by omega, hd1.drew, e1.trans (Ext.drew w1), fun k v hk1 hk2 hv => ?_⟩ (by omega))
    by_cases hk : k = j'
    · subst hk; rw [hu] at hv; cases hv; exact hlt
    · exact hall k v (by omega) hk2 hv
  · refine draw (fun w' => Dt L w' xs) hd1.drew (pur (bin_leq _ _ _) (condD (fun h => ?_) (fun h => ?_)))
    · obtain ⟨u, hu⟩ := getN (xs := xs) (i := j') (by omega)
      refine pur (hd.idx (by omega)) (pur (hd.idx (by omega)) (heldC (fun w' h => h.cell hu) (heldC (fun w' h => h.cell hpv) ?_)))
      rw [hE]
      refine cless (pur (not_b _) (pur (pick_b _ _ _) (hJJ _ _ ⟨rfl, !ltE u pv, by cases ltE u pv <;> rfl, fun h' => ⟨by omega, u, hu, by simpa using h'⟩, fun h' _ => ⟨u, hu, by simpa using h'⟩⟩)))
    · refine pur (pick_b _ _ _) (hJJ _ _ ⟨rfl, false, by simp, fun h' => (by cases h'), fun _ h' => by omega⟩)
theorem scDn {L : Lcn El} (hE : L.enc = encE) {w : World} {xs : List El} (hd : Dt L w xs) {a i j : Nat} {pv : El} (hpv : xs[a]? = some pv) (h1i : 1 ≤ i) (hij : i ≤ j + 1) (hj : j < L.n) {J : Value → World → Prop}
    (hK : ∀ (j' : Nat) w', Dt L w' xs → Ext No w w' → i ≤ j' + 1 → j' ≤ j → (∀ k u, j' < k → k ≤ j → xs[k]? = some u → ltE pv u = true) → (i ≤ j' → ∃ u, xs[j']? = some u ∧ ltE pv u = false) → J (.int .i64 (j' : Int)) w') :
    LoopS 1 (fun L0 (x : Value) (w : World) => JoinS (fun (t : Value) (w : World) => CondS t (PureS (binV .sub x (.int .i64 1)) fun t => L0 t w) (J x w)) fun JJ =>
      DrawS fun S => S w.drew ∧ (PureS (binV .leq (.int .i64 (i : Int)) x) fun t => CondS t (PureS (indexAddrV 1 L.v (.int .i64 (a : Int))) fun p => PureS (indexAddrV 1 L.v x) fun q =>  HeldC S p (fun u => HeldC S q (fun v =>
        CallS Tryz.prog 146 [u, v].toArray (fun t w => PureS (pickV (.bool true) t (.bool false)) fun t => JJ t w) w.drew))) (PureS (pickV (.bool false) undef (.bool false)) fun t => JJ t w.drew))) (.int .i64 (j : Int)) w := by
  have hbig := L.big
  have ha := (List.getElem?_eq_some_iff.1 hpv).1
  have hlen := hd.len
  refine loop1 (fun (j' : Nat) v w' => v = .int .i64 (j' : Int) ∧ i ≤ j' + 1 ∧ j' ≤ j ∧ Dt L w' xs ∧ Ext No w w' ∧ ∀ k u, j' < k → k ≤ j → xs[k]? = some u → ltE pv u = true) (fun j' => j') j ⟨rfl, hij, Nat.le_refl _, hd, Ext.refl _ _, fun k u h1 h2 => by omega⟩ fun j' v w1 hi L1 hL => ?_
  obtain ⟨rfl, h1, h2, hd1, e1, hall⟩ := hi
  refine join1 (fun t w' => w' = w1.drew ∧ ∃ c : Bool, t = .bool c ∧ (c = true → i ≤ j' ∧ ∃ u, xs[j']? = some u ∧ ltE pv u = true) ∧ (c = false → i ≤ j' → ∃ u, xs[j']? = some u ∧ ltE pv u = false)) ?_ fun JJ hJJ => ?_
  · rintro _ _ ⟨rfl, c, rfl, hc1, hc2⟩
    refine condB (fun h => ?_) (fun h => hK j' _ hd1.drew (e1.trans (Ext.drew w1)) h1 h2 hall (hc2 h))
    obtain ⟨hle, u, hu, hlt⟩ := hc1 h
    refine pur (sub64 (c := ((j' - 1 : Nat) : Int)) (by omega) (by omega) (by omega)) (hL (j' - 1) _ _ ⟨rfl, by omega, by omega, hd1.drew, e1.trans (Ext.drew w1), fun k v hk1 hk2 hv => ?_⟩ (by omega))
    by_cases hk : k = j'
    · subst hk; rw [hu] at hv; cases hv; exact hlt
    · exact hall k v (by omega) hk2 hv
  · refine draw (fun w' => Dt L w' xs) hd1.drew (pur (bin_leq _ _ _) (condD (fun h => ?_) (fun h => ?_)))
    · obtain ⟨u, hu⟩ := getN (xs := xs) (i := j') (by omega)
      refine pur (hd.idx (by omega)) (pur (hd.idx (by omega)) (heldC (fun w' h => h.cell hpv) (heldC (fun w' h => h.cell hu) ?_)))
      rw [hE]
      refine cless (pur (pick_b _ _ _) (hJJ _ _ ⟨rfl, ltE pv u, by cases ltE pv u <;> rfl, fun h' => ⟨by omega, u, hu, h'⟩, fun h' _ => ⟨u, hu, h'⟩⟩))
    · refine pur (pick_b _ _ _) (hJJ _ _ ⟨rfl, false, by simp, fun h' => (by cases h'), fun _ h' => by omega⟩)
end Go.Proofs.YthohdinjpkehpaaGreat

namespace Go.Proofs.YthohdinjpkehpaaGreat
open Go SG Go.RowKit Go.Lib
set_option linter.unusedVariables false
set_option maxRecDepth 4000
set_option linter.unusedSimpArgs false

theorem cSwp {L : Lcn El} {w : World} {xs : List El} (hd : Dt L w xs) {i j : Nat} (hi : i < L.n) (hj : j < L.n) {K : World → Prop} (hK : ∀ w', Dt L w' (swp xs i j) → Ext (At1 L.g) w w' → K w') :
    DrawS fun S => S w.drew ∧ (PureS (indexAddrV 1 L.v (.int .i64 (j : Int))) fun p => PureS (indexAddrV 1 L.v (.int .i64 (i : Int))) fun q => HeldC S p (fun v => HeldC S q (fun u =>
      PureS (indexAddrV 1 L.v (.int .i64 (i : Int))) fun t => StoreC t v (fun w => PureS (indexAddrV 1 L.v (.int .i64 (j : Int))) fun t => StoreC t u (fun w => K w) w) w.drew))) := by
  have hlen := hd.len
  obtain ⟨u, hu⟩ := getN (xs := xs) (i := i) (by omega)
  obtain ⟨v, hv⟩ := getN (xs := xs) (i := j) (by omega)
  refine draw (fun w' => Dt L w' xs) hd.drew (pur (hd.idx hj) (pur (hd.idx hi) (heldC (fun w' h => h.cell hv) (heldC (fun w' h => h.cell hu) ?_))))
  exact hd.drew.swap hu hv fun w' h e => hK w' h ((Ext.drew w).trans e)

structure PrtI (a b : Nat) (xs : List El) (pv : El) (i j : Nat) (zs : List El) : Prop where
  sw : Sw a b xs zs
  at_ : zs[a]? = some pv
  lo : ∀ k u, a < k → k < i → zs[k]? = some u → ltE u pv = true
  hi : ∀ k u, j < k → k < b → zs[k]? = some u → ltE u pv = false
  ai : a < i
  ij : i ≤ j + 1
  jb : j < b
theorem PrtI.scan {a b i j i' j' : Nat} {xs zs : List El} {pv : El} (h : PrtI a b xs pv i j zs) (h1 : i ≤ i') (h2 : i' ≤ j' + 1) (h3 : j' ≤ j) (hu : ∀ k u, i ≤ k → k < i' → zs[k]? = some u → ltE u pv = true) (hd : ∀ k u, j' < k → k ≤ j → zs[k]? = some u → ltE u pv = false) : PrtI a b xs pv i' j' zs :=
  ⟨h.sw, h.at_, fun k u k1 k2 hk => by by_cases hc : k < i; exact h.lo k u k1 hc hk; exact hu k u (by omega) k2 hk, fun k u k1 k2 hk => by by_cases hc : j < k; exact h.hi k u hc k2 hk; exact hd k u k1 (by omega) hk, by have := h.ai; omega, h2, by have := h.jb; omega⟩
theorem PrtI.swap {a b i j : Nat} {xs zs : List El} {pv u v : El} (h : PrtI a b xs pv i j zs) (hb : b ≤ xs.length) (hij : i ≤ j) (hu : zs[i]? = some u) (hv : zs[j]? = some v) (hu' : ltE u pv = false) (hv' : ltE v pv = true) : PrtI a b xs pv (i + 1) (j - 1) (swp zs i j) := by
  have hl := h.sw.len
  have h1 := h.ai; have h2 := h.jb
  have hne : i ≠ j := by rintro rfl; rw [hu] at hv; cases hv; rw [hu'] at hv'; cases hv'
  refine ⟨.step i j (by omega) (by omega) (by omega) (by omega) hb h.sw, ?_, ?_, ?_, by omega, by omega, by omega⟩
  · rw [swp_get (by omega) (by omega), if_neg (by omega), if_neg (by omega)]; exact h.at_
  · intro k x k1 k2 hk
    rw [swp_get (by omega) (by omega), if_neg (by omega)] at hk
    split at hk
    · rw [hv] at hk; cases hk; exact hv'
    · exact h.lo k x k1 (by omega) hk
  · intro k x k1 k2 hk
    rw [swp_get (by omega) (by omega)] at hk
    split at hk
    · rw [hu] at hk; cases hk; exact hu'
    · rw [if_neg (by omega)] at hk; exact h.hi k x (by omega) k2 hk
structure Prt (a b : Nat) (xs : List El) (m : Nat) (zs : List El) : Prop where
  sw : Sw a b xs zs
  am : a ≤ m
  mb : m < b
  at_ : ∃ pv, zs[m]? = some pv ∧ (∀ k u, a ≤ k → k < m → zs[k]? = some u → ltE u pv = true) ∧ (∀ k u, m < k → k < b → zs[k]? = some u → ltE u pv = false)
theorem PrtI.done {a b i j : Nat} {xs zs : List El} {pv : El} (h : PrtI a b xs pv i j zs) (hb : b ≤ xs.length) (hij : j < i) : Prt a b xs j (swp zs j a) := by
  have hl := h.sw.len
  have h1 := h.ai; have h2 := h.jb; have h3 := h.ij
  refine ⟨.step j a (by omega) (by omega) (by omega) (by omega) hb h.sw, by omega, by omega, pv, ?_, ?_, ?_⟩
  · rw [swp_get (by omega) (by omega)]
    split
    · rename_i hja; subst hja; exact h.at_
    · rw [if_pos rfl]; exact h.at_
  · intro k u k1 k2 hk
    rw [swp_get (by omega) (by omega)] at hk
    split at hk
    · exact h.lo j u (by omega) (by omega) hk
    · rw [if_neg (by omega)] at hk; exact h.lo k u (by omega) (by omega) hk
  · intro k u k1 k2 hk
    rw [swp_get (by omega) (by omega), if_neg (by omega), if_neg (by omega)] at hk
    exact h.hi k u k1 k2 hk

set_option maxHeartbeats 400000 in
theorem cPart {L : Lcn El} (hE : L.enc = encE) {w : World} {xs : List El} (hd : Dt L w xs) {a b p : Nat} (hap : a ≤ p) (hpb : p < b) (hb : b ≤ L.n) {K : Value → World → Prop}
    (hK : ∀ w' xs' (m : Nat) (c : Bool), Dt L w' xs' → Prt a b xs m xs' → Ext (At1 L.g) w w' → K (.tuple [.int .i64 (m : Int), .bool c].toArray) w') : CallS Tryz.prog 148 #[L.v, .int .i64 (a : Int), .int .i64 (b : Int), .int .i64 (p : Int)] K w := by
  have hbig := L.big
  have hlen := hd.len
  refine s148_call hm ?_
  unfold s148
  refine cSwp hd (by omega) (by omega) fun w1 hd1 e1 => ?_
  obtain ⟨pv, hpv⟩ := getN (xs := swp xs a p) (i := a) (by rw [swp_length]; omega)
  have h0 : PrtI a b xs pv (a + 1) (b - 1) (swp xs a p) := ⟨.one (Nat.le_refl _) (by omega) hap hpb (by omega), hpv, fun k u h1 h2 => by omega, fun k u h1 h2 => by omega, by omega, by omega, by omega⟩
  refine pur (add64 (c := ((a + 1 : Nat) : Int)) (by omega) (by omega) (by omega)) (pur (sub64 (c := ((b - 1 : Nat) : Int)) (by omega) (by omega) (by omega)) ?_)
  have hend : ∀ (i j : Nat) zs w' (c : Bool) {KK : World → Prop}, Dt L w' zs → PrtI a b xs pv i j zs → Ext (At1 L.g) w w' → j < i → (∀ w2 xs2, Dt L w2 xs2 → Prt a b xs j xs2 → Ext (At1 L.g) w w2 → KK w2) → _ := fun i j zs w' c KK hd' hP he hij hKK =>
    cSwp (K := KK) hd' (i := j) (j := a) (by have := hP.jb; omega) (by omega) fun w2 hd2 e2 => hKK w2 _ hd2 (hP.done (by omega) hij) (he.trans e2)
  refine join1 (fun v w' => ∃ i : Nat, v = .int .i64 (i : Int) ∧ Dt L w' (swp xs a p) ∧ PrtI a b xs pv i (b - 1) (swp xs a p) ∧ Ext (At1 L.g) w w' ∧ (i ≤ b - 1 → ∃ u, (swp xs a p)[i]? = some u ∧ ltE u pv = false)) ?_ fun J1 hJ1 => ?_
  · rintro _ w2 ⟨i, rfl, hd2, hP, e2, hst⟩
    refine join1 (fun v w' => ∃ j : Nat, v = .int .i64 (j : Int) ∧ Dt L w' (swp xs a p) ∧ PrtI a b xs pv i j (swp xs a p) ∧ Ext (At1 L.g) w w' ∧ (i ≤ j → ∃ u, (swp xs a p)[j]? = some u ∧ ltE u pv = true)) ?_ fun J2 hJ2 => ?_
    · rintro _ w3 ⟨j, rfl, hd3, hP3, e3, hst3⟩
      refine pur (bin_gtr _ _ _) (condD (fun h => ?_) (fun h => ?_))
      · exact hend i j _ w3 true hd3 hP3 e3 (by omega) fun w4 xs4 hd4 hp4 e4 => hK w4 xs4 j true hd4 hp4 e4
      · have hij : i ≤ j := by omega
        have hjb := hP3.jb; have hai := hP3.ai
        obtain ⟨u, hu, hu'⟩ := hst (by omega)
        obtain ⟨v, hv, hv'⟩ := hst3 hij
        refine cSwp hd3 (i := i) (j := j) (by omega) (by omega) fun w4 hd4 e4 => ?_
        have hP4 := hP3.swap (by omega) hij hu hv hu' hv'
        refine pur (add64 (c := ((i + 1 : Nat) : Int)) (by omega) (by omega) (by omega)) (pur (sub64 (c := ((j - 1 : Nat) : Int)) (by omega) (by omega) (by omega)) ?_)
        refine join1 (fun v w' => ∃ (i j : Nat) (zs : List El), v = .int .i64 (j : Int) ∧ Dt L w' zs ∧ PrtI a b xs pv i j zs ∧ Ext (At1 L.g) w w' ∧ j < i) ?_ fun J5 hJ5 => ?_
        · rintro _ w5 ⟨i5, j5, zs5, rfl, hd5, hP5, e5, hij5⟩
          exact hend i5 j5 _ w5 false hd5 hP5 e5 hij5 fun w4 xs4 hd4 hp4 e4 => hK w4 xs4 j5 false hd4 hp4 e4
        · refine loop2 (fun (s : Nat × Nat) x y w' => x = .int .i64 (s.1 : Int) ∧ y = .int .i64 (s.2 : Int) ∧ ∃ zs, Dt L w' zs ∧ PrtI a b xs pv s.1 s.2 zs ∧ Ext (At1 L.g) w w') (fun s => s.2 + 1 - s.1) (i + 1, j - 1) ⟨rfl, rfl, _, hd4, hP4, e3.trans e4⟩ fun s x y w5 hi L5 hL5 => ?_
          obtain ⟨i5, j5⟩ := s
          obtain ⟨rfl, rfl, zs, hd5, hP5, e5⟩ := hi
          have hai5 := hP5.ai; have hjb5 := hP5.jb; have hij5 := hP5.ij
          simp only at hd5 hP5 hai5 hjb5 hij5 ⊢
          refine join1 (fun v w' => ∃ i' : Nat, v = .int .i64 (i' : Int) ∧ Dt L w' zs ∧ PrtI a b xs pv i' j5 zs ∧ i5 ≤ i' ∧ Ext (At1 L.g) w w' ∧ (i' ≤ j5 → ∃ u, zs[i']? = some u ∧ ltE u pv = false)) ?_ fun J8 hJ8 => ?_
          · rintro _ w6 ⟨i6, rfl, hd6, hP6, hi6, e6, hst6⟩
            have hai6 := hP6.ai; have hij6 := hP6.ij
            refine join1 (fun v w' => ∃ j' : Nat, v = .int .i64 (j' : Int) ∧ Dt L w' zs ∧ PrtI a b xs pv i6 j' zs ∧ j' ≤ j5 ∧ Ext (At1 L.g) w w' ∧ (i6 ≤ j' → ∃ u, zs[j']? = some u ∧ ltE u pv = true)) ?_ fun J9 hJ9 => ?_
            · rintro _ w7 ⟨j7, rfl, hd7, hP7, hj7, e7, hst7⟩
              refine pur (bin_gtr _ _ _) (condD (fun h => hJ5 _ _ ⟨i6, j7, zs, rfl, hd7, hP7, e7, by omega⟩) (fun h => ?_))
              have hij7 : i6 ≤ j7 := by omega
              obtain ⟨u, hu, hu'⟩ := hst6 (by omega)
              obtain ⟨v, hv, hv'⟩ := hst7 hij7
              refine cSwp hd7 (i := i6) (j := j7) (by omega) (by omega) fun w8 hd8 e8 => ?_
              have hP8 := hP7.swap (by omega) hij7 hu hv hu' hv'
              exact pur (add64 (c := ((i6 + 1 : Nat) : Int)) (by omega) (by omega) (by omega)) (pur (sub64 (c := ((j7 - 1 : Nat) : Int)) (by omega) (by omega) (by omega)) (hL5 (i6 + 1, j7 - 1) _ _ _ ⟨rfl, rfl, _, hd8, hP8, e7.trans e8⟩ (by simp only; omega)))
            · exact scDnN hE hd6 hP6.at_ (by omega) hij6 (by omega) fun j' w7 hd7 e7 k1 k2 hall hst => hJ9 _ _ ⟨j', rfl, hd7, hP6.scan (Nat.le_refl _) k1 k2 (fun k u k1 k2 => by omega) hall, k2, e6.trans e7.no, hst⟩
          · exact scUp hE hd5 hP5.at_ hij5 (by omega) fun i' w6 hd6 e6 k1 k2 hall hst => hJ8 _ _ ⟨i', rfl, hd6, hP5.scan k1 k2 (Nat.le_refl _) hall (fun k u k1 k2 => by omega), k1, e5.trans e6.no, hst⟩
    · exact scDnN hE hd2 hP.at_ (by have := hP.ai; omega) hP.ij (by omega) fun j' w7 hd7 e7 k1 k2 hall hst => hJ2 _ _ ⟨j', rfl, hd7, hP.scan (Nat.le_refl _) k1 k2 (fun k u k1 k2 => by omega) hall, e2.trans e7.no, hst⟩
  · exact scUp hE hd1 hpv (by omega) (by omega) fun i' w6 hd6 e6 k1 k2 hall hst => hJ1 _ _ ⟨i', rfl, hd6, h0.scan k1 k2 (Nat.le_refl _) hall (fun k u k1 k2 => by omega), e1.trans e6.no, hst⟩
end Go.Proofs.YthohdinjpkehpaaGreat

namespace Go.Proofs.YthohdinjpkehpaaGreat
open Go SG Go.RowKit Go.Lib
set_option linter.unusedVariables false
set_option maxRecDepth 4000
set_option linter.unusedSimpArgs false

structure PeqI (a b : Nat) (xs : List El) (pv : El) (i j : Nat) (zs : List El) : Prop where
  sw : Sw a b xs zs
  at_ : zs[a]? = some pv
  lo : ∀ k u, a < k → k < i → zs[k]? = some u → ltE pv u = false
  hi : ∀ k u, j < k → k < b → zs[k]? = some u → ltE pv u = true
  ai : a < i
  ij : i ≤ j + 1
  jb : j < b
theorem PeqI.scan {a b i j i' j' : Nat} {xs zs : List El} {pv : El} (h : PeqI a b xs pv i j zs) (h1 : i ≤ i') (h2 : i' ≤ j' + 1) (h3 : j' ≤ j) (hu : ∀ k u, i ≤ k → k < i' → zs[k]? = some u → ltE pv u = false) (hd : ∀ k u, j' < k → k ≤ j → zs[k]? = some u → ltE pv u = true) : PeqI a b xs pv i' j' zs :=
  ⟨h.sw, h.at_, fun k u k1 k2 hk => by by_cases hc : k < i; exact h.lo k u k1 hc hk; exact hu k u (by omega) k2 hk, fun k u k1 k2 hk => by by_cases hc : j < k; exact h.hi k u hc k2 hk; exact hd k u k1 (by omega) hk, by have := h.ai; omega, h2, by have := h.jb; omega⟩
theorem PeqI.swap {a b i j : Nat} {xs zs : List El} {pv u v : El} (h : PeqI a b xs pv i j zs) (hb : b ≤ xs.length) (hij : i ≤ j) (hu : zs[i]? = some u) (hv : zs[j]? = some v) (hu' : ltE pv u = true) (hv' : ltE pv v = false) : PeqI a b xs pv (i + 1) (j - 1) (swp zs i j) := by
  have hl := h.sw.len
  have h1 := h.ai; have h2 := h.jb
  have hne : i ≠ j := by rintro rfl; rw [hu] at hv; cases hv; rw [hu'] at hv'; cases hv'
  refine ⟨.step i j (by omega) (by omega) (by omega) (by omega) hb h.sw, ?_, ?_, ?_, by omega, by omega, by omega⟩
  · rw [swp_get (by omega) (by omega), if_neg (by omega), if_neg (by omega)]; exact h.at_
  · intro k x k1 k2 hk
    rw [swp_get (by omega) (by omega), if_neg (by omega)] at hk
    split at hk
    · rw [hv] at hk; cases hk; exact hv'
    · exact h.lo k x k1 (by omega) hk
  · intro k x k1 k2 hk
    rw [swp_get (by omega) (by omega)] at hk
    split at hk
    · rw [hu] at hk; cases hk; exact hu'
    · rw [if_neg (by omega)] at hk; exact h.hi k x (by omega) k2 hk
structure Peq (a b : Nat) (xs : List El) (pv : El) (m : Nat) (zs : List El) : Prop where
  sw : Sw a b xs zs
  am : a < m
  mb : m ≤ b
  lo : ∀ k u, a ≤ k → k < m → zs[k]? = some u → ltE pv u = false
  hi : ∀ k u, m ≤ k → k < b → zs[k]? = some u → ltE pv u = true
theorem PeqI.done {a b i j : Nat} {xs zs : List El} {pv : El} (h : PeqI a b xs pv i j zs) (hij : j < i) : Peq a b xs pv i zs :=
  ⟨h.sw, h.ai, by have := h.ij; have := h.jb; omega, fun k u h1 h2 hk => by
    by_cases hc : k = a
    · subst hc; rw [h.at_] at hk; cases hk; exact linE.irr _
    · exact h.lo k u (by omega) h2 hk, fun k u h1 h2 hk => h.hi k u (by omega) h2 hk⟩

set_option maxHeartbeats 400000 in
theorem cPeq {L : Lcn El} (hE : L.enc = encE) {w : World} {xs : List El} (hd : Dt L w xs) {a b p : Nat} {pv : El} (hap : a ≤ p) (hpb : p < b) (hb : b ≤ L.n) (hpp : xs[p]? = some pv) {K : Value → World → Prop}
    (hK : ∀ w' xs' (m : Nat), Dt L w' xs' → Peq a b xs pv m xs' → Ext (At1 L.g) w w' → K (.int .i64 (m : Int)) w') : CallS Tryz.prog 147 #[L.v, .int .i64 (a : Int), .int .i64 (b : Int), .int .i64 (p : Int)] K w := by
  have hbig := L.big
  have hlen := hd.len
  refine s147_call hm ?_
  unfold s147
  refine cSwp hd (by omega) (by omega) fun w1 hd1 e1 => ?_
  have hpv : (swp xs a p)[a]? = some pv := by
    rw [swp_get (by omega) (by omega)]
    split
    · rename_i h; rw [h]; exact hpp
    · rw [if_pos rfl]; exact hpp
  have h0 : PeqI a b xs pv (a + 1) (b - 1) (swp xs a p) := ⟨.one (Nat.le_refl _) (by omega) hap hpb (by omega), hpv, fun k u h1 h2 => by omega, fun k u h1 h2 => by omega, by omega, by omega, by omega⟩
  refine pur (add64 (c := ((a + 1 : Nat) : Int)) (by omega) (by omega) (by omega)) (pur (sub64 (c := ((b - 1 : Nat) : Int)) (by omega) (by omega) (by omega)) ?_)
  refine join1 (fun v w' => ∃ (m : Nat) (zs : List El), v = .int .i64 (m : Int) ∧ Dt L w' zs ∧ Peq a b xs pv m zs ∧ Ext (At1 L.g) w w') ?_ fun J5 hJ5 => ?_
  · rintro _ w5 ⟨m, zs5, rfl, hd5, hP5, e5⟩
    exact hK w5 zs5 m hd5 hP5 e5
  · refine loop2 (fun (s : Nat × Nat) x y w' => x = .int .i64 (s.1 : Int) ∧ y = .int .i64 (s.2 : Int) ∧ ∃ zs, Dt L w' zs ∧ PeqI a b xs pv s.1 s.2 zs ∧ Ext (At1 L.g) w w') (fun s => s.2 + 1 - s.1) (a + 1, b - 1) ⟨rfl, rfl, _, hd1, h0, e1⟩ fun s x y w5 hi L5 hL5 => ?_
    obtain ⟨i5, j5⟩ := s
    obtain ⟨rfl, rfl, zs, hd5, hP5, e5⟩ := hi
    have hai5 := hP5.ai; have hjb5 := hP5.jb; have hij5 := hP5.ij
    simp only at hd5 hP5 hai5 hjb5 hij5 ⊢
    refine join1 (fun v w' => ∃ i' : Nat, v = .int .i64 (i' : Int) ∧ Dt L w' zs ∧ PeqI a b xs pv i' j5 zs ∧ i5 ≤ i' ∧ Ext (At1 L.g) w w' ∧ (i' ≤ j5 → ∃ u, zs[i']? = some u ∧ ltE pv u = true)) ?_ fun J8 hJ8 => ?_
    · rintro _ w6 ⟨i6, rfl, hd6, hP6, hi6, e6, hst6⟩
      have hai6 := hP6.ai; have hij6 := hP6.ij
      refine join1 (fun v w' => ∃ j' : Nat, v = .int .i64 (j' : Int) ∧ Dt L w' zs ∧ PeqI a b xs pv i6 j' zs ∧ j' ≤ j5 ∧ Ext (At1 L.g) w w' ∧ (i6 ≤ j' → ∃ u, zs[j']? = some u ∧ ltE pv u = false)) ?_ fun J9 hJ9 => ?_
      · rintro _ w7 ⟨j7, rfl, hd7, hP7, hj7, e7, hst7⟩
        refine pur (bin_gtr _ _ _) (condD (fun h => hJ5 _ _ ⟨i6, zs, rfl, hd7, hP7.done (by omega), e7⟩) (fun h => ?_))
        have hij7 : i6 ≤ j7 := by omega
        obtain ⟨u, hu, hu'⟩ := hst6 (by omega)
        obtain ⟨v, hv, hv'⟩ := hst7 hij7
        refine cSwp hd7 (i := i6) (j := j7) (by omega) (by omega) fun w8 hd8 e8 => ?_
        have hP8 := hP7.swap (by omega) hij7 hu hv hu' hv'
        exact pur (add64 (c := ((i6 + 1 : Nat) : Int)) (by omega) (by omega) (by omega)) (pur (sub64 (c := ((j7 - 1 : Nat) : Int)) (by omega) (by omega) (by omega)) (hL5 (i6 + 1, j7 - 1) _ _ _ ⟨rfl, rfl, _, hd8, hP8, e7.trans e8⟩ (by simp only; omega)))
      · exact scDn hE hd6 hP6.at_ (by omega) hij6 (by omega) fun j' w7 hd7 e7 k1 k2 hall hst => hJ9 _ _ ⟨j', rfl, hd7, hP6.scan (Nat.le_refl _) k1 k2 (fun k u k1 k2 => by omega) hall, k2, e6.trans e7.no, hst⟩
    · exact scUpN hE hd5 hP5.at_ hij5 (by omega) fun i' w6 hd6 e6 k1 k2 hall hst => hJ8 _ _ ⟨i', rfl, hd6, hP5.scan k1 k2 (Nat.le_refl _) hall (fun k u k1 k2 => by omega), k1, e5.trans e6.no, hst⟩
end Go.Proofs.YthohdinjpkehpaaGreat

namespace Go.Proofs.YthohdinjpkehpaaGreat
open Go SG Go.RowKit Go.Lib
set_option linter.unusedVariables false
set_option maxRecDepth 4000
set_option linter.unusedSimpArgs false

set_option maxHeartbeats 1000000 in
theorem cPins {L : Lcn El} (hE : L.enc = encE) {w : World} {xs : List El} (hd : Dt L w xs) {a b : Nat} (hab : a + 2 ≤ b) (hb : b ≤ L.n) (hlow : LeAll ltE (a - 1) a a b xs) {K : Value → World → Prop}
    (hK : ∀ w' ys (c : Bool), Dt L w' ys → Sw a b xs ys → (c = true → Srt ltE a b ys) → Ext (At1 L.g) w w' → K (.bool c) w') : CallS Tryz.prog 145 #[L.v, .int .i64 (a : Int), .int .i64 (b : Int)] K w := by
  have hbig := L.big
  have hlen := hd.len
  refine s145_call hm ?_
  unfold s145
  refine pur (add64 (c := ((a + 1 : Nat) : Int)) (by omega) (by omega) (by omega)) ?_
  refine join0 (fun w' => ∃ ys, Dt L w' ys ∧ Sw a b xs ys ∧ Ext (At1 L.g) w w') (fun w' ⟨ys, h1, h2, h3⟩ => hK w' ys false h1 h2 (by simp) h3) fun J0 hJ0 => ?_
  refine loop2 (σ := Nat × Nat × List El) (fun s x y w' => x = .int .i64 (s.1 : Int) ∧ y = .int .i64 (s.2.1 : Int) ∧ a + 1 ≤ s.1 ∧ s.1 ≤ b ∧ Dt L w' s.2.2 ∧ Sw a b xs s.2.2 ∧ Srt ltE a s.1 s.2.2 ∧ Ext (At1 L.g) w w') (fun s => 5 - s.2.1) (a + 1, 0, xs)
    ⟨rfl, rfl, by simp, by simp only; omega, hd, .refl, Srt.nil (by simp), Ext.refl _ _⟩ ?_
  rintro ⟨i, j, ys⟩ _ _ w1 ⟨rfl, rfl, hi1, hi2, hd1, hs1, ho1, e1⟩ L1 hL1
  simp only at hi1 hi2 hd1 hs1 ho1 hL1 ⊢
  have hyl := hd1.len
  refine pur (bin_lss _ _ _) (condD (fun hlt => ?_) (fun _ => hJ0 _ ⟨ys, hd1, hs1, e1⟩))
  refine join1 (fun v w' => ∃ (i' : Nat) (zs : List El), v = .int .i64 (i' : Int) ∧ a + 1 ≤ i' ∧ i' ≤ b ∧ Dt L w' zs ∧ Sw a b xs zs ∧ Srt ltE a i' zs ∧ Ext (At1 L.g) w w') ?_ fun J2 hJ2 => ?_
  · rintro _ w2 ⟨i', zs, rfl, h1, h2, hd2, hs2, ho2, e2⟩
    exact pur (add64 (c := ((j + 1 : Nat) : Int)) (by omega) (by omega) (by omega)) (hL1 (i', j + 1, zs) _ _ _ ⟨rfl, rfl, h1, h2, hd2, hs2, ho2, e2⟩ (by simp only; omega))
  refine join1 (fun v w' => ∃ i' : Nat, v = .int .i64 (i' : Int) ∧ a + 1 ≤ i' ∧ i' ≤ b ∧ Dt L w' ys ∧ Srt ltE a i' ys ∧ Ext (At1 L.g) w w' ∧ (i' < b → ∃ u v, ys[i' - 1]? = some u ∧ ys[i']? = some v ∧ ltE v u = true)) ?_ fun J3 hJ3 => ?_
  · rintro _ w2 ⟨i, rfl, hi1, hi2, hd2, ho2, e2, hst⟩
    refine pur (bin_eql _ _ _) (condD (fun h => ?_) (fun hne => ?_))
    · have hib : i = b := by omega
      subst hib
      exact hK w2 ys true hd2 hs1 (fun _ => ho2) e2
    refine pur (sub64 (c := ((b - a : Nat) : Int)) (by omega) (by omega) (by omega)) (pur (bin_lss _ _ _) (condD (fun _ => hK w2 ys false hd2 hs1 (by simp) e2) (fun _ => ?_)))
    obtain ⟨u, v, hu, hv, huv⟩ := hst (by omega)
    refine draw (fun w' => Dt L w' ys) hd2.drew ?_
    refine pur (sub64 (c := ((i - 1 : Nat) : Int)) (by omega) (by omega) (by omega)) (pur (sub64 (c := ((i - 1 : Nat) : Int)) (by omega) (by omega) (by omega)) ?_)
    refine pur (hd2.idx (by omega)) (pur (hd2.idx (by omega)) (heldC (fun w' h => h.cell hu) (heldC (fun w' h => h.cell hv) ?_)))
    refine hd2.drew.swap hv hu fun w3 hd3 e3 => ?_
    have hs3 : Sw a b xs (swp ys i (i - 1)) := hs1.trans (Sw.one (by omega) (by omega) (by omega) (by omega) (by omega))
    have e03 : Ext (At1 L.g) w w3 := e2.trans ((Ext.drew _).trans e3)
    have hget : ∀ k, (swp ys i (i - 1))[k]? = if k = i - 1 then ys[i]? else if k = i then ys[i - 1]? else ys[k]? := fun k => swp_get (by omega) (by omega) k
    have hI : InsI a (i - 1) (i - 1) (swp ys i (i - 1)) := by
      refine ⟨fun p q x y h1 h2 h3 h4 h5 hx hy => ?_, fun q x y h1 h2 => by omega⟩
      rw [hget, if_neg h4, if_neg (by omega)] at hx
      rw [hget, if_neg h5, if_neg (by omega)] at hy
      exact ho2 p q x y h1 h2 (by omega) hx hy
    refine join0 (fun w' => ∃ zs, Dt L w' zs ∧ Sw a b xs zs ∧ Srt ltE a i zs ∧ Ext (At1 L.g) w w') ?_ fun J5 hJ5 => ?_
    · rintro w4 ⟨zs, hd4, hs4, ho4, e4⟩
      refine pur (sub64 (c := ((b - i : Nat) : Int)) (by omega) (by omega) (by omega)) (pur (bin_geq _ _ _) (condD (fun _ => ?_) (fun _ => hJ2 _ _ ⟨i, zs, rfl, hi1, hi2, hd4, hs4, ho4, e4⟩)))
      refine pur (add64 (c := ((i + 1 : Nat) : Int)) (by omega) (by omega) (by omega)) ?_
      refine loop1 (σ := Nat × List El) (fun s v w' => v = .int .i64 (s.1 : Int) ∧ i + 1 ≤ s.1 ∧ Dt L w' s.2 ∧ Sw a b xs s.2 ∧ Srt ltE a i s.2 ∧ Ext (At1 L.g) w w') (fun s => b - s.1) (i + 1, zs) ⟨rfl, Nat.le_refl _, hd4, hs4, ho4, e4⟩ ?_
      rintro ⟨j6, zs⟩ _ w5 ⟨rfl, hj6, hd5, hs5, ho5, e5⟩ L6 hL6
      simp only at hj6 hd5 hs5 ho5 hL6 ⊢
      have hzl := hd5.len
      refine pur (bin_lss _ _ _) (condD (fun hjb => ?_) (fun _ => hJ2 _ _ ⟨i, zs, rfl, hi1, hi2, hd5, hs5, ho5, e5⟩))
      obtain ⟨x, hx⟩ := getN (xs := zs) (i := j6) (by omega)
      obtain ⟨y, hy⟩ := getN (xs := zs) (i := j6 - 1) (by omega)
      refine draw (fun w' => Dt L w' zs) hd5.drew (pur (hd5.idx (by omega)) (pur (sub64 (c := ((j6 - 1 : Nat) : Int)) (by omega) (by omega) (by omega)) (pur (hd5.idx (by omega)) (heldC (fun w' h => h.cell hx) (heldC (fun w' h => h.cell hy) ?_)))))
      rw [hE]
      refine cless (pur (not_b _) (condB (fun _ => hJ2 _ _ ⟨i, zs, rfl, hi1, hi2, hd5.drew, hs5, ho5, e5.trans (Ext.drew _)⟩) (fun _ => ?_)))
      refine draw (fun w' => Dt L w' zs) hd5.drew.drew ?_
      refine pur (sub64 (c := ((j6 - 1 : Nat) : Int)) (by omega) (by omega) (by omega)) (pur (sub64 (c := ((j6 - 1 : Nat) : Int)) (by omega) (by omega) (by omega)) ?_)
      refine pur (hd2.idx (by omega)) (pur (hd2.idx (by omega)) (heldC (fun w' h => h.cell hy) (heldC (fun w' h => h.cell hx) ?_)))
      refine hd5.drew.drew.swap hx hy fun w6 hd6 e6 => ?_
      refine pur (add64 (c := ((j6 + 1 : Nat) : Int)) (by omega) (by omega) (by omega)) ?_
      exact hL6 (j6 + 1, swp zs j6 (j6 - 1)) _ _ ⟨rfl, by simp only; omega, hd6, hs5.trans (Sw.one (by omega) (by omega) (by omega) (by omega) (by omega)),
        ho5.same (fun k h1 h2 => by rw [swp_get (by omega) (by omega), if_neg (by omega), if_neg (by omega)]), e5.trans ((Ext.drew _).trans ((Ext.drew _).trans e6))⟩ (by simp only; omega)
    · refine pur (sub64 (c := ((i - a : Nat) : Int)) (by omega) (by omega) (by omega)) (pur (bin_geq _ _ _) (condD (fun hge => ?_) (fun hlt2 => hJ5 _ ⟨_, hd3, hs3, Srt.nil (by omega), e03⟩)))
      refine pur (sub64 (c := ((i - 1 : Nat) : Int)) (by omega) (by omega) (by omega)) ?_
      refine loop1 (σ := Nat × List El) (fun s v w' => v = .int .i64 (s.1 : Int) ∧ a ≤ s.1 ∧ s.1 ≤ i - 1 ∧ Dt L w' s.2 ∧ Sw a b xs s.2 ∧ InsI a (i - 1) s.1 s.2 ∧ Ext (At1 L.g) w w') (fun s => s.1) (i - 1, swp ys i (i - 1)) ⟨rfl, by simp only; omega, Nat.le_refl _, hd3, hs3, hI, e03⟩ ?_
      rintro ⟨j9, zs⟩ _ w5 ⟨rfl, hj1, hj2, hd5, hs5, hI5, e5⟩ L9 hL9
      simp only at hj1 hj2 hd5 hs5 hI5 hL9 ⊢
      have hzl := hd5.len
      obtain ⟨x, hx⟩ := getN (xs := zs) (i := j9) (by omega)
      have hie : i - 1 + 1 = i := by omega
      have fin : (a < j9 → ∀ u v, zs[j9 - 1]? = some u → zs[j9]? = some v → ltE v u = false) → Srt ltE a i zs := fun h => by
        have := hI5.done hj1 hj2 (by omega) h
        rwa [hie] at this
      refine pur (bin_geq _ _ _) (condD (fun hjb => ?_) (fun hjb => hJ5 _ ⟨zs, hd5, hs5, fin (fun h => by omega), e5⟩))
      obtain ⟨y, hy⟩ := getN (xs := zs) (i := j9 - 1) (by omega)
      refine draw (fun w' => Dt L w' zs) hd5.drew (pur (hd5.idx (by omega)) (pur (sub64 (c := ((j9 - 1 : Nat) : Int)) (by omega) (by omega) (by omega)) (pur (hd5.idx (by omega)) (heldC (fun w' h => h.cell hx) (heldC (fun w' h => h.cell hy) ?_)))))
      rw [hE]
      refine cless (pur (not_b _) (condB (fun hc => ?_) (fun hc => ?_)))
      · refine hJ5 _ ⟨zs, hd5.drew, hs5, fin (fun h u' v' hu' hv' => ?_), e5.trans (Ext.drew _)⟩
        rw [hx] at hv'; cases hv'
        rw [hy] at hu'; cases hu'
        simpa using hc
      · have hc' : ltE x y = true := by simpa using hc
        have haj : a < j9 := by
          refine Nat.lt_of_le_of_ne hj1 fun hja => ?_
          subst hja
          have := (hlow.right hs5 (.inl (Nat.le_refl _))) (a - 1) a y x (Nat.le_refl _) (by omega) (Nat.le_refl _) (by omega) hy hx
          rw [hc'] at this; cases this
        refine draw (fun w' => Dt L w' zs) hd5.drew.drew ?_
        refine pur (sub64 (c := ((j9 - 1 : Nat) : Int)) (by omega) (by omega) (by omega)) (pur (sub64 (c := ((j9 - 1 : Nat) : Int)) (by omega) (by omega) (by omega)) ?_)
        refine pur (hd2.idx (by omega)) (pur (hd2.idx (by omega)) (heldC (fun w' h => h.cell hy) (heldC (fun w' h => h.cell hx) ?_)))
        refine hd5.drew.drew.swap hx hy fun w6 hd6 e6 => ?_
        refine pur (sub64 (c := ((j9 - 1 : Nat) : Int)) (by omega) (by omega) (by omega)) ?_
        exact hL9 (j9 - 1, swp zs j9 (j9 - 1)) _ _ ⟨rfl, by simp only; omega, by simp only; omega, hd6, hs5.trans (Sw.one (by omega) (by omega) (by omega) (by omega) (by omega)),
          hI5.next haj hj2 (by omega) hy hx hc', e5.trans ((Ext.drew _).trans ((Ext.drew _).trans e6))⟩ (by simp only; omega)
  · refine loop1 (σ := Nat) (fun i' v w' => v = .int .i64 (i' : Int) ∧ a + 1 ≤ i' ∧ i' ≤ b ∧ Dt L w' ys ∧ Srt ltE a i' ys ∧ Ext (At1 L.g) w w') (fun i' => b - i') i ⟨rfl, hi1, hi2, hd1, ho1, e1⟩ ?_
    rintro i' _ w2 ⟨rfl, h1, h2, hd2, ho2, e2⟩ L12 hL12
    refine join1 (fun t w' => w2.drew = w' ∧ ((t = .bool true ∧ i' < b ∧ Srt ltE a (i' + 1) ys) ∨ (t = .bool false ∧ (i' < b → ∃ u v, ys[i' - 1]? = some u ∧ ys[i']? = some v ∧ ltE v u = true)))) ?_ fun J13 hJ13 => ?_
    · rintro _ _ ⟨rfl, h⟩
      rcases h with ⟨rfl, hlt2, ho3⟩ | ⟨rfl, hst⟩
      · exact condT rfl (pur (add64 (c := ((i' + 1 : Nat) : Int)) (by omega) (by omega) (by omega)) (hL12 (i' + 1) _ _ ⟨rfl, by omega, by omega, hd2.drew, ho3, e2.trans (Ext.drew _)⟩ (by omega)))
      · exact condF rfl (hJ3 _ _ ⟨i', rfl, h1, h2, hd2.drew, ho2, e2.trans (Ext.drew _), hst⟩)
    · refine draw (fun w' => Dt L w' ys) hd2.drew (pur (bin_lss _ _ _) (condD (fun hlt2 => ?_) (fun hge => ?_)))
      · obtain ⟨x, hx⟩ := getN (xs := ys) (i := i') (by omega)
        obtain ⟨y, hy⟩ := getN (xs := ys) (i := i' - 1) (by omega)
        refine pur (hd2.idx (by omega)) (pur (sub64 (c := ((i' - 1 : Nat) : Int)) (by omega) (by omega) (by omega)) (pur (hd2.idx (by omega)) (heldC (fun w' h => h.cell hx) (heldC (fun w' h => h.cell hy) ?_))))
        rw [hE]
        refine cless (pur (not_b _) (pur (pick_b _ _ _) ?_))
        cases hc : ltE x y with
        | true => exact hJ13 _ _ ⟨rfl, .inr ⟨rfl, fun _ => ⟨y, x, hy, hx, hc⟩⟩⟩
        | false =>
          refine hJ13 _ _ ⟨rfl, .inl ⟨rfl, by omega, ?_⟩⟩
          refine ho2.join (m := i') (Srt.nil (by omega)) fun p q u v k1 k2 k3 k4 hu hv => ?_
          have hq : q = i' := by omega
          subst hq
          rw [hx] at hv; cases hv
          by_cases hp : p = q - 1
          · subst hp; rw [hy] at hu; cases hu; exact hc
          · exact linE.le_tr (ho2 p (q - 1) u y k1 (by omega) (by omega) hu hy) hc
      · exact pur (pick_b _ _ _) (hJ13 _ _ ⟨rfl, .inr ⟨rfl, fun h => by omega⟩⟩)
end Go.Proofs.YthohdinjpkehpaaGreat

namespace Go.Proofs.YthohdinjpkehpaaGreat
open Go SG Go.RowKit Go.Lib
set_option linter.unusedVariables false
set_option maxRecDepth 4000
set_option linter.unusedSimpArgs false

def Kid (p c : Nat) : Prop := c = 2 * p + 1 ∨ c = 2 * p + 2
def Hp (f lo hi : Nat) (zs : List El) : Prop := ∀ p c u v, lo ≤ p → Kid p c → c < hi → zs[f + p]? = some u → zs[f + c]? = some v → ltE u v = false
structure HpI (f lo hi r : Nat) (zs : List El) : Prop where
  rest : ∀ p c u v, lo ≤ p → p ≠ r → Kid p c → c < hi → zs[f + p]? = some u → zs[f + c]? = some v → ltE u v = false
  over : ∀ p c u v, lo ≤ p → Kid p r → Kid r c → c < hi → zs[f + p]? = some u → zs[f + c]? = some v → ltE u v = false
theorem HpI.next {f lo hi r c : Nat} {zs : List El} (h : HpI f lo hi r zs) (hlen : f + hi ≤ zs.length) (hr : lo ≤ r) (hc : Kid r c) (hch : c < hi) {u v : El} (hu : zs[f + r]? = some u) (hv : zs[f + c]? = some v) (huv : ltE u v = true)
    (hmax : ∀ d x, Kid r d → d < hi → zs[f + d]? = some x → ltE v x = false) : HpI f lo hi c (swp zs (f + r) (f + c)) := by
  have hrc : r < c := by rcases hc with h | h <;> omega
  have g : ∀ k, (swp zs (f + r) (f + c))[k]? = if k = f + c then zs[f + r]? else if k = f + r then zs[f + c]? else zs[k]? := fun k => swp_get (by omega) (by omega) k
  refine ⟨fun p d x y h1 h2 h3 h4 hx hy => ?_, fun p d x y h1 h2 h3 h4 hx hy => ?_⟩
  · have hpd : p < d := by rcases h3 with h | h <;> omega
    rw [g, if_neg (by omega)] at hx
    by_cases hp : p = r
    · subst hp
      rw [if_pos rfl, hv] at hx
      cases hx
      rw [g] at hy
      split at hy
      · rw [hu] at hy; cases hy; exact linE.asym huv
      · rw [if_neg (by omega)] at hy
        exact hmax d y h3 h4 hy
    · rw [if_neg (by omega)] at hx
      rw [g] at hy
      split at hy
      · rename_i hdc
        have : d = c := by omega
        subst this
        have : p = r := by rcases h3 with h | h <;> rcases hc with h' | h' <;> omega
        exact absurd this hp
      · split at hy
        · have : d = r := by omega
          subst this
          rw [hv] at hy; cases hy
          exact h.over p c x v h1 h3 hc hch hx hv
        · exact h.rest p d x y h1 hp h3 h4 hx hy
  · have hp : p = r := by rcases h2 with h | h <;> rcases hc with h' | h' <;> omega
    have hcd : c < d := by rcases h3 with h | h <;> omega
    subst hp
    rw [g, if_neg (by omega), if_pos rfl, hv] at hx
    cases hx
    rw [g, if_neg (by omega), if_neg (by omega)] at hy
    exact h.rest c d v y (by omega) (by omega) h3 h4 hv hy
theorem Hp.ini {f lo hi : Nat} {zs : List El} (h : Hp f (lo + 1) hi zs) : HpI f lo hi lo zs :=
  ⟨fun p c u v h1 h2 h3 h4 hu hv => h p c u v (by omega) h3 h4 hu hv, fun p c u v h1 h2 => by rcases h2 with h | h <;> omega⟩
theorem HpI.done {f lo hi r : Nat} {zs : List El} (h : HpI f lo hi r zs) (hx : ∀ c u v, Kid r c → c < hi → zs[f + r]? = some u → zs[f + c]? = some v → ltE u v = false) : Hp f lo hi zs := fun p c u v h1 h2 h3 hu hv => by
  by_cases hp : p = r
  · subst hp; exact hx c u v h2 h3 hu hv
  · exact h.rest p c u v h1 hp h2 h3 hu hv
theorem Hp.root {f hi : Nat} {zs : List El} (h : Hp f 0 hi zs) (hlen : f + hi ≤ zs.length) {u : El} (hu : zs[f]? = some u) : ∀ c v, c < hi → zs[f + c]? = some v → ltE u v = false := by
  intro c
  induction c using Nat.strongRecOn with
  | _ c ih =>
    intro v hc hv
    by_cases h0 : c = 0
    · subst h0
      rw [Nat.add_zero, hu] at hv; cases hv; exact linE.irr _
    · have hk : Kid ((c - 1) / 2) c := by unfold Kid; omega
      obtain ⟨x, hx⟩ := getN (xs := zs) (i := f + (c - 1) / 2) (by omega)
      exact linE.le_tr (h _ c x v (by omega) hk hc hx hv) (ih _ (by omega) x (by omega) hx)

set_option maxHeartbeats 400000 in
theorem cSift {L : Lcn El} (hE : L.enc = encE) {w : World} {xs : List El} (hd : Dt L w xs) {f lo hi : Nat} (hb : f + hi ≤ L.n) (hlo : lo < hi ∨ lo = 0) (hp : Hp f (lo + 1) hi xs) {K : Value → World → Prop}
    (hK : ∀ w' ys, Dt L w' ys → Sw f (f + hi) xs ys → Hp f lo hi ys → Ext (At1 L.g) w w' → K (.tuple [].toArray) w') : CallS Tryz.prog 155 #[L.v, .int .i64 (lo : Int), .int .i64 (hi : Int), .int .i64 (f : Int)] K w := by
  have hbig := L.big
  have hlen := hd.len
  refine s155_call hm ?_
  unfold s155
  refine loop1 (σ := Nat × List El) (fun s v w' => v = .int .i64 (s.1 : Int) ∧ lo ≤ s.1 ∧ (s.1 < hi ∨ s.1 = 0) ∧ Dt L w' s.2 ∧ Sw f (f + hi) xs s.2 ∧ HpI f lo hi s.1 s.2 ∧ Ext (At1 L.g) w w') (fun s => hi - s.1) (lo, xs)
    ⟨rfl, Nat.le_refl _, hlo, hd, .refl, hp.ini, Ext.refl _ _⟩ ?_
  rintro ⟨r, ys⟩ _ w1 ⟨rfl, hr1, hr2, hd1, hs1, hI, e1⟩ L0 hL0
  simp only at hr1 hr2 hd1 hs1 hI hL0 ⊢
  have hyl := hd1.len
  refine pur (mulN 2 r (by omega)) (pur (add64 (c := ((2 * r + 1 : Nat) : Int)) (by omega) (by omega) (by omega)) (pur (bin_geq _ _ _) (condD (fun hge => ?_) (fun hlt => ?_))))
  · exact hK w1 ys hd1 hs1 (hI.done fun c u v hc hch => by rcases hc with h | h <;> omega) e1
  have hc0 : 2 * r + 1 < hi := by omega
  obtain ⟨u, hu⟩ := getN (xs := ys) (i := f + r) (by omega)
  refine join1 (fun v w' => ∃ (c : Nat) (x : El), v = .int .i64 (c : Int) ∧ Kid r c ∧ c < hi ∧ ys[f + c]? = some x ∧ (∀ d y, Kid r d → d < hi → ys[f + d]? = some y → ltE x y = false) ∧ Dt L w' ys ∧ Ext (At1 L.g) w w') ?_ fun J1 hJ1 => ?_
  · rintro _ w2 ⟨c, x, rfl, hk, hch, hx, hmax, hd2, e2⟩
    have hrc : r < c := by rcases hk with h | h <;> omega
    refine draw (fun w' => Dt L w' ys) hd2.drew ?_
    refine pur (add64 (c := ((f + r : Nat) : Int)) (by omega) (by omega) (by omega)) (pur (hd2.idx (by omega)) (pur (add64 (c := ((f + c : Nat) : Int)) (by omega) (by omega) (by omega)) (pur (hd2.idx (by omega)) (heldC (fun w' h => h.cell hu) (heldC (fun w' h => h.cell hx) ?_)))))
    rw [hE]
    refine cless (pur (not_b _) (condB (fun hc => ?_) (fun hc => ?_)))
    · refine hK _ ys hd2.drew hs1 (hI.done fun d u' v' hd' hdh hu' hv' => ?_) (e2.trans (Ext.drew _))
      rw [hu] at hu'; cases hu'
      have h1 : ltE u x = false := by simpa using hc
      exact linE.le_tr (hmax d v' hd' hdh hv') h1
    · have h1 : ltE u x = true := by simpa using hc
      refine draw (fun w' => Dt L w' ys) hd2.drew.drew ?_
      refine pur (add64 (c := ((f + r : Nat) : Int)) (by omega) (by omega) (by omega)) (pur (add64 (c := ((f + c : Nat) : Int)) (by omega) (by omega) (by omega)) (pur (add64 (c := ((f + c : Nat) : Int)) (by omega) (by omega) (by omega)) ?_))
      refine pur (hd2.idx (by omega)) (pur (add64 (c := ((f + r : Nat) : Int)) (by omega) (by omega) (by omega)) (pur (hd2.idx (by omega)) (heldC (fun w' h => h.cell hx) (heldC (fun w' h => h.cell hu) ?_))))
      refine hd2.drew.drew.swap hu hx fun w3 hd3 e3 => ?_
      exact hL0 (c, swp ys (f + r) (f + c)) _ _ ⟨rfl, by simp only; omega, .inl hch, hd3, hs1.trans (Sw.one (by omega) (by omega) (by omega) (by omega) (by omega)), hI.next (by omega) hr1 hk hch hu hx h1 hmax,
        e2.trans ((Ext.drew _).trans ((Ext.drew _).trans e3))⟩ (by simp only; omega)
  · obtain ⟨x, hx⟩ := getN (xs := ys) (i := f + (2 * r + 1)) (by omega)
    refine join1 (fun t w' => w1.drew = w' ∧ ((t = .bool true ∧ 2 * r + 2 < hi ∧ ∃ y, ys[f + (2 * r + 2)]? = some y ∧ ltE x y = true) ∨ (t = .bool false ∧ (2 * r + 2 < hi → ∃ y, ys[f + (2 * r + 2)]? = some y ∧ ltE x y = false)))) ?_ fun J4 hJ4 => ?_
    · rintro _ _ ⟨rfl, h⟩
      rcases h with ⟨rfl, hlt2, y, hy, hxy⟩ | ⟨rfl, hst⟩
      · refine condT rfl (pur (add64 (c := ((2 * r + 2 : Nat) : Int)) (by omega) (by omega) (by omega)) (hJ1 _ _ ⟨2 * r + 2, y, rfl, .inr rfl, hlt2, hy, fun d z hd' hdh hz => ?_, hd1.drew, e1.trans (Ext.drew _)⟩))
        rcases hd' with rfl | rfl
        · rw [hx] at hz; cases hz; exact linE.asym hxy
        · rw [hy] at hz; cases hz; exact linE.irr _
      · refine condF rfl (hJ1 _ _ ⟨2 * r + 1, x, rfl, .inl rfl, hc0, hx, fun d z hd' hdh hz => ?_, hd1.drew, e1.trans (Ext.drew _)⟩)
        rcases hd' with rfl | rfl
        · rw [hx] at hz; cases hz; exact linE.irr _
        · obtain ⟨y, hy, hxy⟩ := hst hdh
          rw [hy] at hz; cases hz; exact hxy
    · refine draw (fun w' => Dt L w' ys) hd1.drew (pur (add64 (c := ((2 * r + 2 : Nat) : Int)) (by omega) (by omega) (by omega)) (pur (bin_lss _ _ _) (condD (fun hlt2 => ?_) (fun hge2 => ?_))))
      · obtain ⟨y, hy⟩ := getN (xs := ys) (i := f + (2 * r + 2)) (by omega)
        refine pur (add64 (c := ((f + (2 * r + 1) : Nat) : Int)) (by omega) (by omega) (by omega)) (pur (hd1.idx (by omega)) (pur (add64 (c := ((f + (2 * r + 1) : Nat) : Int)) (by omega) (by omega) (by omega)) ?_))
        refine pur (add64 (c := ((f + (2 * r + 2) : Nat) : Int)) (by omega) (by omega) (by omega)) (pur (hd1.idx (by omega)) (heldC (fun w' h => h.cell hx) (heldC (fun w' h => h.cell hy) ?_)))
        rw [hE]
        refine cless (pur (pick_b _ _ _) ?_)
        cases hc : ltE x y with
        | true => exact hJ4 _ _ ⟨rfl, .inl ⟨rfl, by omega, y, hy, hc⟩⟩
        | false => exact hJ4 _ _ ⟨rfl, .inr ⟨rfl, fun _ => ⟨y, hy, hc⟩⟩⟩
      · exact pur (pick_b _ _ _) (hJ4 _ _ ⟨rfl, .inr ⟨rfl, fun h => by omega⟩⟩)

set_option maxHeartbeats 400000 in
theorem cHeap {L : Lcn El} (hE : L.enc = encE) {w : World} {xs : List El} (hd : Dt L w xs) {a b : Nat} (hab : a < b) (hb : b ≤ L.n) {K : Value → World → Prop}
    (hK : ∀ w' ys, Dt L w' ys → Sw a b xs ys → Srt ltE a b ys → Ext (At1 L.g) w w' → K (.tuple [].toArray) w') : CallS Tryz.prog 141 #[L.v, .int .i64 (a : Int), .int .i64 (b : Int)] K w := by
  have hbig := L.big
  have hlen := hd.len
  refine s141_call hm ?_
  unfold s141
  obtain ⟨n, hn⟩ : ∃ n, b - a = n := ⟨_, rfl⟩
  have hbn : a + n = b := by omega
  refine pur (sub64 (c := (n : Int)) (by omega) (by omega) (by omega)) ?_
  refine join0 (fun w' => ∃ ys, Dt L w' ys ∧ Sw a b xs ys ∧ Hp a 0 n ys ∧ Ext (At1 L.g) w w') ?_ fun J0 hJ0 => ?_
  · rintro w1 ⟨ys, hd1, hs1, hp1, e1⟩
    refine pur (sub64 (c := (n : Int) - 1) rfl (by omega) (by omega)) ?_
    refine loop1 (σ := Nat × List El) (fun s v w' => v = .int .i64 ((s.1 : Int) - 1) ∧ s.1 ≤ n ∧ Dt L w' s.2 ∧ Sw a b xs s.2 ∧ Hp a 0 s.1 s.2 ∧ Srt ltE (a + s.1) b s.2 ∧ LeAll ltE a (a + s.1) (a + s.1) b s.2 ∧ Ext (At1 L.g) w w') (fun s => s.1) (n, ys)
      ⟨rfl, Nat.le_refl _, hd1, hs1, hp1, Srt.nil (by simp only; omega), fun i j u v h1 h2 h3 h4 => by simp only at h2 h3; omega, e1⟩ ?_
    rintro ⟨k, zs⟩ _ w2 ⟨rfl, hk, hd2, hs2, hp2, ho2, hl2, e2⟩ L1 hL1
    simp only at hk hd2 hs2 hp2 ho2 hl2 hL1 ⊢
    have hzl := hd2.len
    refine pur (bin_geq _ _ _) (condD (fun hge => ?_) (fun hlt => ?_))
    · have hk1 : 1 ≤ k := by omega
      rw [show (k : Int) - 1 = ((k - 1 : Nat) : Int) by omega]
      obtain ⟨u, hu⟩ := getN (xs := zs) (i := a) (by omega)
      obtain ⟨v, hv⟩ := getN (xs := zs) (i := a + (k - 1)) (by omega)
      refine draw (fun w' => Dt L w' zs) hd2.drew ?_
      refine pur (add64 (c := ((a + (k - 1) : Nat) : Int)) (by omega) (by omega) (by omega)) (pur (add64 (c := ((a + (k - 1) : Nat) : Int)) (by omega) (by omega) (by omega)) ?_)
      refine pur (hd2.idx (by omega)) (pur (hd2.idx (by omega)) (heldC (fun w' h => h.cell hv) (heldC (fun w' h => h.cell hu) ?_)))
      refine hd2.drew.swap hu hv fun w3 hd3 e3 => ?_
      have hget : ∀ j, (swp zs a (a + (k - 1)))[j]? = if j = a + (k - 1) then zs[a]? else if j = a then zs[a + (k - 1)]? else zs[j]? := fun j => swp_get (by omega) (by omega) j
      have hsw : Sw a (a + k) zs (swp zs a (a + (k - 1))) := Sw.one (by omega) (by omega) (by omega) (by omega) (by omega)
      have hroot := hp2.root (by omega) hu
      have hmax : ∀ j x, a ≤ j → j < a + k → (swp zs a (a + (k - 1)))[j]? = some x → ltE u x = false :=
        hsw.all (P := fun x => ltE u x = false) fun j x h1 h2 hx => hroot (j - a) x (by omega) (by rw [show a + (j - a) = j by omega]; exact hx)
      have hl3 : LeAll ltE a (a + k) (a + k) b (swp zs a (a + (k - 1))) := hl2.left hsw (.inl (Nat.le_refl _))
      have hl4 : LeAll ltE a (a + (k - 1)) (a + (k - 1)) b (swp zs a (a + (k - 1))) := fun i j x y h1 h2 h3 h4 hx hy => by
        by_cases hj : j = a + (k - 1)
        · subst hj
          rw [hget, if_pos rfl, hu] at hy; cases hy
          exact hmax i x h1 (by omega) hx
        · exact hl3 i j x y h1 (by omega) (by omega) h4 hx hy
      have ho4 : Srt ltE (a + (k - 1)) b (swp zs a (a + (k - 1))) := by
        refine Srt.join (m := a + k) (Srt.nil (by omega)) (ho2.same fun j h1 h2 => hsw.out (.inr h1)) fun i j x y h1 h2 h3 h4 hx hy => hl3 i j x y (by omega) h2 h3 h4 hx hy
      have hp3 : Hp a 1 (k - 1) (swp zs a (a + (k - 1))) := fun p c x y h1 h2 h3 hx hy => by
        have hpc : p < c := by rcases h2 with h | h <;> omega
        rw [hget, if_neg (by omega), if_neg (by omega)] at hx hy
        exact hp2 p c x y (by omega) h2 (by omega) hx hy
      refine cSift hE (lo := 0) hd3 (f := a) (hi := k - 1) (by omega) (.inr rfl) hp3 fun w4 ys4 hd4 hs4 hp4 e4 => ?_
      refine pur (sub64 (c := ((k - 1 : Nat) : Int) - 1) rfl (by omega) (by omega)) ?_
      refine hL1 (k - 1, ys4) _ _ ⟨rfl, by simp only; omega, hd4, (hs2.trans (hsw.mono (Nat.le_refl _) (by omega) (by omega))).trans (hs4.mono (Nat.le_refl _) (by omega) (by rw [swp_length]; omega)), hp4, ?_, ?_, e2.trans ((Ext.drew _).trans (e3.trans e4))⟩ (by simp only; omega)
      · exact ho4.same fun j h1 h2 => hs4.out (.inr (by simpa using h1))
      · exact hl4.left hs4 (.inl (Nat.le_refl _))
    · have hk0 : k = 0 := by omega
      subst hk0
      exact hK w2 zs hd2 hs2 (by simpa using ho2) e2
  · refine pur (sub64 (c := ((n - 1 : Nat) : Int)) (by omega) (by omega) (by omega)) (pur (quoN (n - 1) 2 (by decide) (by omega)) ?_)
    refine loop1 (σ := Nat × List El) (fun s v w' => v = .int .i64 ((s.1 : Int) - 1) ∧ s.1 ≤ (n - 1) / 2 + 1 ∧ Dt L w' s.2 ∧ Sw a b xs s.2 ∧ Hp a s.1 n s.2 ∧ Ext (At1 L.g) w w') (fun s => s.1) ((n - 1) / 2 + 1, xs)
      ⟨by simp only; congr 1; omega, Nat.le_refl _, hd, .refl, fun p c u v h1 h2 h3 => by rcases h2 with h | h <;> omega, Ext.refl _ _⟩ ?_
    rintro ⟨k, zs⟩ _ w2 ⟨rfl, hk, hd2, hs2, hp2, e2⟩ L3 hL3
    simp only at hk hd2 hs2 hp2 hL3 ⊢
    have hzl := hd2.len
    refine pur (bin_geq _ _ _) (condD (fun hge => ?_) (fun hlt => ?_))
    · have hk1 : 1 ≤ k := by omega
      rw [show (k : Int) - 1 = ((k - 1 : Nat) : Int) by omega]
      refine cSift hE hd2 (f := a) (lo := k - 1) (hi := n) (by omega) (.inl (by omega)) (by rw [show k - 1 + 1 = k by omega]; exact hp2) fun w4 ys4 hd4 hs4 hp4 e4 => ?_
      refine pur (sub64 (c := ((k - 1 : Nat) : Int) - 1) rfl (by omega) (by omega)) ?_
      exact hL3 (k - 1, ys4) _ _ ⟨rfl, by simp only; omega, hd4, hs2.trans (hs4.mono (Nat.le_refl _) (by omega) (by omega)), hp4, e2.trans e4⟩ (by simp only; omega)
    · have hk0 : k = 0 := by omega
      subst hk0
      exact hJ0 _ ⟨zs, hd2, hs2, hp2, e2⟩
end Go.Proofs.YthohdinjpkehpaaGreat

namespace SG
open Go
theorem loop5 {σ : Type} {body : (Value → Value → Value → Value → Value → World → Prop) → Value → Value → Value → Value → Value → World → Prop} (inv : σ → Value → Value → Value → Value → Value → World → Prop) (μ : σ → Nat) {a b c d f : Value} {w : World} (s : σ) (h0 : inv s a b c d f w)
    (h : ∀ s a b c d f w, inv s a b c d f w → ∀ L : Value → Value → Value → Value → Value → World → Prop, (∀ s' a' b' c' d' f' w', inv s' a' b' c' d' f' w' → μ s' < μ s → L a' b' c' d' f' w') → body L a b c d f w) : LoopS 5 body a b c d f w :=
  (app_curry 5 _ [a, b, c, d, f] w rfl).2 (loopL (n := 5) (fun s vs w => ∃ a b c d f, vs = [a, b, c, d, f] ∧ inv s a b c d f w) μ s ⟨a, b, c, d, f, rfl, h0⟩ fun s vs w _ ⟨a, b, c, d, f, hv, hi⟩ L hL => by
    subst hv; exact h s a b c d f w hi L fun s' a' b' c' d' f' w' hi' hlt => hL s' [a', b', c', d', f'] w' rfl ⟨a', b', c', d', f', rfl, hi'⟩ hlt)
end SG
namespace Go.Proofs.YthohdinjpkehpaaGreat
open Go SG Go.RowKit Go.Lib
set_option linter.unusedVariables false
set_option maxRecDepth 4000
set_option linter.unusedSimpArgs false

structure PdI (a b : Nat) (xs : List El) (a' b' : Nat) (ys : List El) : Prop where
  sw : Sw a b xs ys
  aa : a ≤ a'
  ab : a' ≤ b'
  bb : b' ≤ b
  lo : LeAll ltE (a - 1) a' a' b ys
  hi : LeAll ltE a b' b' b ys
  sl : Srt ltE a a' ys
  sh : Srt ltE b' b ys
theorem PdI.step {a b a' b' : Nat} {xs ys zs : List El} (h : PdI a b xs a' b' ys) (hb : b ≤ xs.length) (hs : Sw a' b' ys zs) : PdI a b xs a' b' zs := by
  have hl := h.sw.len
  have h1 := h.aa; have h2 := h.ab; have h3 := h.bb
  refine ⟨h.sw.trans (hs.mono h1 h3 (by omega)), h1, h2, h3, h.lo.right (hs.mono (Nat.le_refl _) h3 (by omega)) (.inl (Nat.le_refl _)), h.hi.left (hs.mono h1 (Nat.le_refl _) (by omega)) (.inl (Nat.le_refl _)),
    h.sl.same fun k k1 k2 => hs.out (.inl k2), h.sh.same fun k k1 k2 => hs.out (.inr k1)⟩
theorem PdI.done {a b a' b' : Nat} {xs zs : List El} (h : PdI a b xs a' b' zs) (ho : Srt ltE a' b' zs) : Srt ltE a b zs := by
  have h1 := h.aa; have h2 := h.ab; have h3 := h.bb
  refine Srt.join (m := b') (Srt.join (m := a') h.sl ho fun i j u v k1 k2 k3 k4 => h.lo i j u v (by omega) k2 k3 (by omega)) h.sh h.hi
def PAt (a b m : Nat) (zs : List El) : Prop := ∃ pv, zs[m]? = some pv ∧ (∀ k u, a ≤ k → k < m → zs[k]? = some u → ltE pv u = false) ∧ (∀ k u, m + 1 ≤ k → k < b → zs[k]? = some u → ltE u pv = false)
theorem Prt.pat {a b m : Nat} {xs zs : List El} (h : Prt a b xs m zs) : PAt a b m zs := by
  obtain ⟨pv, h1, h2, h3⟩ := h.at_
  exact ⟨pv, h1, fun k u k1 k2 hu => linE.asym (h2 k u k1 k2 hu), fun k u k1 k2 hu => h3 k u (by omega) k2 hu⟩
theorem PAt.left {a b m : Nat} {ys zs : List El} (h : PAt a b m ys) (hs : Sw a m ys zs) : PAt a b m zs := by
  obtain ⟨pv, h1, h2, h3⟩ := h
  exact ⟨pv, by rw [hs.out (.inr (Nat.le_refl _))]; exact h1, hs.all (P := fun u => ltE pv u = false) h2, fun k u k1 k2 hu => h3 k u k1 k2 (by rw [hs.out (.inr (by omega))] at hu; exact hu)⟩
theorem PAt.right {a b m : Nat} {ys zs : List El} (h : PAt a b m ys) (hs : Sw (m + 1) b ys zs) : PAt a b m zs := by
  obtain ⟨pv, h1, h2, h3⟩ := h
  exact ⟨pv, by rw [hs.out (.inl (by omega))]; exact h1, fun k u k1 k2 hu => h2 k u k1 k2 (by rw [hs.out (.inl (by omega))] at hu; exact hu), hs.all (P := fun u => ltE u pv = false) h3⟩
theorem PdI.left {a b a' b' m : Nat} {xs zs : List El} (h : PdI a b xs a' b' zs) (hm1 : a' ≤ m) (hm2 : m < b') (hp : PAt a' b' m zs) (ho : Srt ltE a' m zs) : PdI a b xs (m + 1) b' zs := by
  obtain ⟨pv, p1, p2, p3⟩ := hp
  have h1 := h.aa; have h2 := h.ab; have h3 := h.bb
  refine ⟨h.sw, by omega, by omega, h3, fun i j u v k1 k2 k3 k4 hu hv => ?_, h.hi, ?_, h.sh⟩
  · by_cases hi : i < a'
    · exact h.lo i j u v k1 hi (by omega) k4 hu hv
    · by_cases hj : j < b'
      · have hv' := p3 j v k3 hj hv
        by_cases him : i = m
        · subst him; rw [p1] at hu; cases hu; exact hv'
        · exact linE.le_tr (p2 i u (by omega) (by omega) hu) hv'
      · exact h.hi i j u v (by omega) (by omega) (by omega) k4 hu hv
  · refine Srt.join (m := a') h.sl (Srt.join (m := m) ho (Srt.nil (by omega)) fun i j u v k1 k2 k3 k4 hu hv => ?_) fun i j u v k1 k2 k3 k4 => h.lo i j u v (by omega) k2 k3 (by omega)
    have : j = m := by omega
    subst this
    rw [p1] at hv; cases hv
    exact p2 i u k1 k2 hu
theorem PdI.right {a b a' b' m : Nat} {xs zs : List El} (h : PdI a b xs a' b' zs) (hm1 : a' ≤ m) (hm2 : m < b') (hp : PAt a' b' m zs) (ho : Srt ltE (m + 1) b' zs) : PdI a b xs a' m zs := by
  obtain ⟨pv, p1, p2, p3⟩ := hp
  have h1 := h.aa; have h2 := h.ab; have h3 := h.bb
  refine ⟨h.sw, h1, hm1, by omega, h.lo, fun i j u v k1 k2 k3 k4 hu hv => ?_, h.sl, ?_⟩
  · by_cases hj : j < b'
    · by_cases hi : i < a'
      · exact h.lo i j u v (by omega) hi (by omega) k4 hu hv
      · have hu' := p2 i u (by omega) k2 hu
        by_cases hjm : j = m
        · subst hjm; rw [p1] at hv; cases hv; exact hu'
        · exact linE.le_tr hu' (p3 j v (by omega) hj hv)
    · exact h.hi i j u v k1 (by omega) (by omega) k4 hu hv
  · refine Srt.join (m := b') (Srt.join (m := m + 1) (Srt.nil (by omega)) ho fun i j u v k1 k2 k3 k4 hu hv => ?_) h.sh fun i j u v k1 k2 k3 k4 => h.hi i j u v (by omega) k2 k3 k4
    have : i = m := by omega
    subst this
    rw [p1] at hu; cases hu
    exact p3 j v k3 k4 hv
theorem PdI.same {a b a' b' m : Nat} {xs ys zs : List El} {pv x : El} (h : PdI a b xs a' b' ys) (hb : b ≤ xs.length) (h0 : 0 < a') (hx : ys[a' - 1]? = some x) (hxp : ltE x pv = false) (hpv : ∃ p, a' ≤ p ∧ p < b' ∧ ys[p]? = some pv) (hq : Peq a' b' ys pv m zs) : PdI a b xs m b' zs := by
  have hz := h.step hb hq.sw
  have h1 := h.aa; have h2 := h.ab; have h3 := h.bb
  have h4 := hq.am; have h5 := hq.mb
  obtain ⟨p, hp1, hp2, hp⟩ := hpv
  have hge : ∀ k u, a' ≤ k → k < m → zs[k]? = some u → ltE u pv = false := fun k u k1 k2 hu => by
    have hx' : zs[a' - 1]? = some x := by rw [hq.sw.out (.inl (by omega))]; exact hx
    exact linE.le_tr hxp (hz.lo (a' - 1) k x u (by omega) (by omega) k1 (by omega) hx' hu)
  have heq : ∀ k u, a' ≤ k → k < m → zs[k]? = some u → u = pv := fun k u k1 k2 hu => linE.tri _ _ (hge k u k1 k2 hu) (hq.lo k u k1 k2 hu)
  refine ⟨hz.sw, by omega, h5, h3, fun i j u v k1 k2 k3 k4 hu hv => ?_, hz.hi, ?_, hz.sh⟩
  · by_cases hi : i < a'
    · exact hz.lo i j u v k1 hi (by omega) k4 hu hv
    · by_cases hj : j < b'
      · rw [heq i u (by omega) k2 hu]
        exact linE.asym (hq.hi j v k3 hj hv)
      · exact hz.hi i j u v (by omega) (by omega) (by omega) k4 hu hv
  · refine Srt.join (m := a') hz.sl (fun i j u v k1 k2 k3 hu hv => ?_) fun i j u v k1 k2 k3 k4 => hz.lo i j u v (by omega) k2 k3 (by omega)
    rw [heq i u k1 (by omega) hu, heq j v (by omega) k3 hv]
    exact linE.irr _

theorem LeAll.sub {a b c d a' b' c' d' : Nat} {xs : List El} (h : LeAll ltE a b c d xs) (h1 : a ≤ a') (h2 : b' ≤ b) (h3 : c ≤ c') (h4 : d' ≤ d) : LeAll ltE a' b' c' d' xs := fun i j u v k1 k2 k3 k4 => h i j u v (by omega) (by omega) (by omega) (by omega)

set_option maxHeartbeats 1000000 in
theorem cPdq {L : Lcn El} (hE : L.enc = encE) : ∀ (n : Nat) {w : World} {xs : List El} {a b lim : Nat} {K : Value → World → Prop}, b - a ≤ n → Dt L w xs → a ≤ b → b ≤ L.n → lim ≤ 1000 → LeAll ltE (a - 1) a a b xs →
    (∀ w' ys, Dt L w' ys → Sw a b xs ys → Srt ltE a b ys → Ext (At1 L.g) w w' → K (.tuple [].toArray) w') → CallS Tryz.prog 137 #[L.v, .int .i64 (a : Int), .int .i64 (b : Int), .int .i64 (lim : Int)] K w := by
  have hbig := L.big
  intro n
  induction n with
  | zero =>
    intro w xs a b lim K hn hd hab hb hlim hlow hK
    refine s137_call hm ?_
    unfold s137
    refine loop5 (σ := Unit) (fun _ x y z p q w' => x = .int .i64 (a : Int) ∧ y = .int .i64 (b : Int) ∧ w' = w) (fun _ => 0) () ⟨rfl, rfl, rfl⟩ ?_
    rintro _ _ _ z p q _ ⟨rfl, rfl, rfl⟩ L0 hL0
    refine pur (sub64 (c := ((b - a : Nat) : Int)) (by omega) (by omega) (by omega)) (pur (bin_leq _ _ _) (condD (fun _ => ?_) (fun h => by omega)))
    exact cIns hE hd hab hb fun w' ys h1 h2 h3 h4 => hK w' ys h1 h2 h3 h4
  | succ n ih =>
    intro w xs a b lim K hn hd hab hb hlim hlow hK
    have hxl := hd.len
    refine s137_call hm ?_
    unfold s137
    refine loop5 (σ := Nat × Nat × Nat × Bool × Bool × List El) (fun s x y z p q w' => x = .int .i64 (s.1 : Int) ∧ y = .int .i64 (s.2.1 : Int) ∧ z = .int .i64 (s.2.2.1 : Int) ∧ p = .bool s.2.2.2.1 ∧ q = .bool s.2.2.2.2.1 ∧ s.2.2.1 ≤ 1000 ∧ Dt L w' s.2.2.2.2.2 ∧ PdI a b xs s.1 s.2.1 s.2.2.2.2.2 ∧ Ext (At1 L.g) w w') (fun s => s.2.1 - s.1) (a, b, lim, true, true, xs)
      ⟨rfl, rfl, rfl, rfl, rfl, hlim, hd, ⟨.refl, Nat.le_refl _, hab, Nat.le_refl _, hlow, fun i j u v h1 h2 h3 h4 => by simp only at h2 h3; omega, Srt.nil (by simp only; omega), Srt.nil (by simp only; omega)⟩, Ext.refl _ _⟩ ?_
    rintro ⟨a', b', lim', wb, wp, ys⟩ _ _ _ _ _ w1 ⟨rfl, rfl, rfl, rfl, rfl, hlim1, hd1, hI1, e1⟩ L0 hL0
    simp only at hlim1 hd1 hI1 hL0 ⊢
    have h1 := hI1.aa; have h2 := hI1.ab; have h3 := hI1.bb
    have hyl := hd1.len
    have hlast : ∀ {w2 : World} {zs : List El}, Dt L w2 zs → PdI a b xs a' b' zs → Ext (At1 L.g) w w2 → ∀ w' ys', Dt L w' ys' → Sw a' b' zs ys' → Srt ltE a' b' ys' → Ext (At1 L.g) w2 w' → K (.tuple [].toArray) w' :=
      fun hd2 hI2 e2 w' ys' hd' hs' ho' e' => hK w' ys' hd' (hI2.step (by omega) hs').sw ((hI2.step (by omega) hs').done ho') (e2.trans e')
    refine pur (sub64 (c := ((b' - a' : Nat) : Int)) (by omega) (by omega) (by omega)) (pur (bin_leq _ _ _) (condD (fun _ => ?_) (fun hgt => ?_)))
    · exact cIns hE hd1 h2 (by omega) (hlast hd1 hI1 e1)
    have h12 : a' + 13 ≤ b' := by omega
    refine pur (bin_eql _ _ _) (condD (fun _ => ?_) (fun hne => ?_))
    · exact cHeap hE hd1 (by omega) (by omega) (hlast hd1 hI1 e1)
    refine join1 (fun v w' => ∃ (l : Nat) (zs : List El), v = .int .i64 (l : Int) ∧ l ≤ 1000 ∧ Dt L w' zs ∧ PdI a b xs a' b' zs ∧ Ext (At1 L.g) w w') ?_ fun J1 hJ1 => ?_
    · rintro _ w2 ⟨l, zs, rfl, hl, hd2, hI2, e2⟩
      have hzl := hd2.len
      refine cPiv hE hd2 (by omega) (by omega) fun w3 p hint hd3 e3 hp1 hp2 => ?_
      refine pur (extract_0 _ _) (pur (extract_1 _ _ _) ?_)
      refine join2 (fun x y w' => ∃ (p : Nat) (h : Int) (zs : List El), x = .int .i64 (p : Int) ∧ y = .int .i64 h ∧ a' ≤ p ∧ p < b' ∧ Dt L w' zs ∧ PdI a b xs a' b' zs ∧ Ext (At1 L.g) w w') ?_ fun J2 hJ2 => ?_
      · rintro _ _ w4 ⟨p, hint, zs, rfl, rfl, hp1, hp2, hd4, hI4, e4⟩
        have hzl := hd4.len
        refine join0 (fun w' => ∃ zs, Dt L w' zs ∧ PdI a b xs a' b' zs ∧ Ext (At1 L.g) w w') ?_ fun J3 hJ3 => ?_
        · rintro w5 ⟨zs, hd5, hI5, e5⟩
          have hzl := hd5.len
          obtain ⟨pv, hpv⟩ := getN (xs := zs) (i := p) (by omega)
          refine join1 (fun t w' => w5.drew = w' ∧ ∃ c : Bool, t = .bool c ∧ (c = true → 0 < a' ∧ ∃ x, zs[a' - 1]? = some x ∧ ltE x pv = false)) ?_ fun J4 hJ4 => ?_
          · rintro _ _ ⟨rfl, c, rfl, hc⟩
            refine condB (fun h => ?_) (fun h => ?_)
            · obtain ⟨h0, x, hx, hxp⟩ := hc h
              refine cPeq hE hd5.drew hp1 hp2 (by omega) hpv fun w6 zs6 m hd6 hq e6 => ?_
              exact hL0 (m, b', l, wb, wp, zs6) _ _ _ _ _ _ ⟨rfl, rfl, rfl, rfl, rfl, hl, hd6, hI5.same (by omega) h0 hx hxp ⟨p, hp1, hp2, hpv⟩ hq, e5.trans ((Ext.drew _).trans e6)⟩ (by have := hq.am; have := hq.mb; simp only; omega)
            · refine cPart hE hd5.drew hp1 hp2 (by omega) fun w6 zs6 m c hd6 hq e6 => ?_
              have hI6 := hI5.step (by omega) hq.sw
              have hm1 := hq.am; have hm2 := hq.mb
              have hz6 := hd6.len
              have hpa := hq.pat
              have e06 : Ext (At1 L.g) w w6 := e5.trans ((Ext.drew _).trans e6)
              refine pur (extract_0 _ _) (pur (extract_1 _ _ _) ?_)
              refine pur (sub64 (c := ((m - a' : Nat) : Int)) (by omega) (by omega) (by omega)) (pur (sub64 (c := ((b' - m : Nat) : Int)) (by omega) (by omega) (by omega)) (pur (quoN (b' - a') 8 (by decide) (by omega)) (pur (bin_lss _ _ _) (condD (fun hlt => ?_) (fun hge => ?_)))))
              · refine pur (bin_geq _ _ _) ?_
                refine ih (a := a') (b := m) (lim := l) (by omega) hd6 hm1 (by omega) hl (LeAll.sub hI6.lo (by omega) (Nat.le_refl _) (Nat.le_refl _) (by omega)) fun w7 zs7 hd7 hs7 ho7 e7 => ?_
                refine pur (add64 (c := ((m + 1 : Nat) : Int)) (by omega) (by omega) (by omega)) ?_
                exact hL0 (m + 1, b', l, _, c, zs7) _ _ _ _ _ _ ⟨rfl, rfl, rfl, rfl, rfl, hl, hd7, (hI6.step (by omega) (hs7.mono (Nat.le_refl _) (by omega) (by omega))).left hm1 hm2 (hpa.left hs7) ho7, e06.trans e7⟩ (by simp only; omega)
              · refine pur (bin_geq _ _ _) (pur (add64 (c := ((m + 1 : Nat) : Int)) (by omega) (by omega) (by omega)) ?_)
                have hlo2 : LeAll ltE (m + 1 - 1) (m + 1) (m + 1) b' zs6 := fun i j u v k1 k2 k3 k4 hu hv => by
                  obtain ⟨pv', q1, q2, q3⟩ := hpa
                  have : i = m := by omega
                  subst this
                  rw [q1] at hu; cases hu
                  exact q3 j v k3 k4 hv
                refine ih (a := m + 1) (b := b') (lim := l) (by omega) hd6 (by omega) (by omega) hl hlo2 fun w7 zs7 hd7 hs7 ho7 e7 => ?_
                exact hL0 (a', m, l, _, c, zs7) _ _ _ _ _ _ ⟨rfl, rfl, rfl, rfl, rfl, hl, hd7, (hI6.step (by omega) (hs7.mono (by omega) (Nat.le_refl _) (by omega))).right hm1 hm2 (hpa.right hs7) ho7, e06.trans e7⟩ (by simp only; omega)
          · refine draw (fun w' => Dt L w' zs) hd5.drew (pur (bin_gtr _ _ _) (condD (fun h0 => ?_) (fun _ => ?_)))
            · obtain ⟨x, hx⟩ := getN (xs := zs) (i := a' - 1) (by omega)
              refine pur (sub64 (c := ((a' - 1 : Nat) : Int)) (by omega) (by omega) (by omega)) (pur (hd5.idx (by omega)) (pur (hd5.idx (by omega)) (heldC (fun w' h => h.cell hx) (heldC (fun w' h => h.cell hpv) ?_))))
              rw [hE]
              refine cless (pur (not_b _) (pur (pick_b _ _ _) (hJ4 _ _ ⟨rfl, !ltE x pv, by cases ltE x pv <;> rfl, fun h => ⟨by omega, x, hx, by simpa using h⟩⟩)))
            · exact pur (pick_b _ _ _) (hJ4 _ _ ⟨rfl, false, rfl, fun h => by cases h⟩)
        · have hpins : ∀ (c : Bool), CondS (.bool c) (CallS Tryz.prog 145 [L.v, .int .i64 (a' : Int), .int .i64 (b' : Int)].toArray (fun t72 w => CondS t72 (K (Value.tuple [].toArray) w) (J3 w)) w4) (J3 w4) := fun c => by
            refine condB (fun _ => ?_) (fun _ => hJ3 _ ⟨zs, hd4, hI4, e4⟩)
            refine cPins hE hd4 (by omega) (by omega) (LeAll.sub hI4.lo (by omega) (Nat.le_refl _) (Nat.le_refl _) h3) fun w5 zs5 c hd5 hs5 ho5 e5 => condB (fun h => ?_) (fun h => ?_)
            · exact hlast hd4 hI4 e4 w5 zs5 hd5 hs5 (ho5 h) e5
            · exact hJ3 _ ⟨zs5, hd5, hI4.step (by omega) hs5, e4.trans e5⟩
          refine join1 (fun t w' => w4 = w' ∧ (wb = true → t = .bool wp)) ?_ fun J6 hJ6 => ?_
          · rintro t _ ⟨rfl, ht⟩
            refine pur (pick_b _ _ _) ?_
            have hpk : (if wb = true then t else .bool false) = .bool (wb && wp) := by
              cases wb with
              | true => rw [if_pos rfl, ht rfl]; rfl
              | false => rw [if_neg (by simp)]; rfl
            rw [hpk]
            refine join1 (fun t w' => w4 = w' ∧ ((wb && wp) = true → ∃ c : Bool, t = .bool c)) ?_ fun J7 hJ7 => ?_
            · rintro t2 _ ⟨rfl, ht2⟩
              refine pur (pick_b _ _ _) ?_
              cases hwp : (wb && wp) with
              | true =>
                obtain ⟨c, rfl⟩ := ht2 hwp
                rw [if_pos rfl]; exact hpins c
              | false => rw [if_neg (by simp)]; exact hpins false
            · rw [ifB_eq]
              cases hwp : (wb && wp) with
              | true => rw [if_pos rfl]; exact pur (bin_eql _ _ _) (hJ7 _ _ ⟨rfl, fun _ => ⟨_, rfl⟩⟩)
              | false => rw [if_neg (by simp)]; exact hJ7 _ _ ⟨rfl, fun h => by rw [hwp] at h; cases h⟩
          · rw [ifB_eq]
            cases wb with
            | true => rw [if_pos rfl]; exact hJ6 _ _ ⟨rfl, fun _ => rfl⟩
            | false => rw [if_neg (by simp)]; exact hJ6 _ _ ⟨rfl, fun h => by cases h⟩
      · refine pur (bin_eql _ _ _) (condD (fun _ => ?_) (fun _ => hJ2 _ _ _ ⟨p, hint, zs, rfl, rfl, hp1, hp2, hd3, hI2, e2.trans e3.no⟩))
        refine cRev hE hd3 h2 (by omega) fun w4 zs4 hd4 hs4 e4 => ?_
        refine pur (sub64 (c := ((b' - 1 : Nat) : Int)) (by omega) (by omega) (by omega)) (pur (sub64 (c := ((p - a' : Nat) : Int)) (by omega) (by omega) (by omega)) (pur (sub64 (c := ((b' - 1 - (p - a') : Nat) : Int)) (by omega) (by omega) (by omega)) ?_))
        exact hJ2 _ _ _ ⟨b' - 1 - (p - a'), 1, zs4, rfl, rfl, by omega, by omega, hd4, hI2.step (by omega) hs4, e2.trans (e3.no.trans e4)⟩
    · refine pur (not_b _) (condB (fun _ => ?_) (fun _ => hJ1 _ _ ⟨lim', ys, rfl, hlim1, hd1, hI1, e1⟩))
      refine cBrk hE hd1 (by omega) (by omega) fun w2 zs2 hd2 hs2 e2 => ?_
      refine pur (sub64 (c := ((lim' - 1 : Nat) : Int)) (by omega) (by omega) (by omega)) (hJ1 _ _ ⟨lim' - 1, zs2, rfl, by omega, hd2, hI1.step (by omega) hs2, e1.trans e2⟩)
end Go.Proofs.YthohdinjpkehpaaGreat

namespace Go.Proofs.YthohdinjpkehpaaGreat
open Go SG Go.RowKit Go.Lib
set_option linter.unusedVariables false
set_option maxRecDepth 4000
set_option linter.unusedSimpArgs false

theorem cLenC0 {K : Value → World → Prop} {w : World} (hK : ∀ l : Nat, l ≤ 8 → K (.int .i64 (l : Int)) w) : CallS Tryz.prog 150 #[.int .u64 0] K w := by
  refine s150_call hm ?_
  unfold s150
  refine join2 (fun p q w' => w = w' ∧ p = .int .u64 0 ∧ q = .int .i64 0) ?_ fun J0 hJ0 => ?_
  · rintro _ _ _ ⟨rfl, rfl, rfl⟩
    refine join2 (fun p q w' => w = w' ∧ p = .int .u64 0 ∧ q = .int .i64 0) ?_ fun J1 hJ1 => ?_
    · rintro _ _ _ ⟨rfl, rfl, rfl⟩
      refine join2 (fun p q w' => w = w' ∧ p = .int .u64 0 ∧ q = .int .i64 0) ?_ fun J2 hJ2 => ?_
      · rintro _ _ _ ⟨rfl, rfl, rfl⟩
        refine pur ((conv_int _ _ _).trans (by rw [wu8' (by omega) (by omega)])) ?_
        obtain ⟨v, hv, hv2⟩ := tabOf0 (s := _) (by kernel_rfl)
        refine pur hv (pur ((conv_int _ _ _).trans (by rw [wi64 (by omega) (by omega)])) (pur (add64 (c := ((v : Nat) : Int)) (by omega) (by omega) (by omega)) (hK _ hv2)))
      · exact pur (bin_geq _ _ _) (condF (by decide) (hJ2 _ _ _ ⟨rfl, rfl, rfl⟩))
    · exact pur (bin_geq _ _ _) (condF (by decide) (hJ1 _ _ _ ⟨rfl, rfl, rfl⟩))
  · exact pur (bin_geq _ _ _) (condF (by decide) (hJ0 _ _ _ ⟨rfl, rfl, rfl⟩))
theorem cLen0 {K : Value → World → Prop} {w : World} (hK : ∀ l : Nat, l ≤ 8 → K (.int .i64 (l : Int)) w) : CallS Tryz.prog 138 #[.int .u64 0] K w := by
  refine s138_call hm ?_
  unfold s138
  exact condB (fun h => by cases h) (fun _ => cLenC0 hK)
theorem cSort {L : Lcn El} (hE : L.enc = encE) {w : World} {xs : List El} (hd : Dt L w xs) {K : Value → World → Prop}
    (hK : ∀ w' ys, Dt L w' ys → ys.Perm xs → Asc ltE ys → Ext (At1 L.g) w w' → K (.tuple [].toArray) w') : CallS Tryz.prog 125 #[L.v] K w := by
  have hbig := L.big
  have hlen := hd.len
  refine s125_call hm ?_
  unfold s125
  have go : ∀ l : Nat, l ≤ 1000 → CallS Tryz.prog 137 [L.v, .int .i64 0, .int .i64 (L.n : Int), .int .i64 (l : Int)].toArray (fun t10 w => K (Value.tuple [].toArray) w) w := fun l hl => by
    refine cPdq hE (L.n - 0) (a := 0) (lim := l) (Nat.le_refl _) hd (Nat.zero_le _) (Nat.le_refl _) hl (fun i j u v h1 h2 => by omega) fun w' ys h1 h2 h3 h4 => hK w' ys h1 h2.perm ?_ h4
    exact Srt.asc (by rw [h1.len]; exact h3)
  refine pur (v := .int .i64 (L.n : Int)) rfl (pur ((conv_int _ _ _).trans (by rw [wu64 (by omega) (by omega)])) ?_)
  by_cases hn : L.n = 0
  · rw [show ((L.n : Nat) : Int) = 0 by omega]
    have := go
    rw [show ((L.n : Nat) : Int) = 0 by omega] at this
    exact cLen0 fun l hl => this l (by omega)
  · exact cLen L.n (by omega) (by omega) fun l hl => go l (by
      refine Nat.le_of_not_lt fun h => ?_
      have : 2 ^ 65 ≤ 2 ^ l := Nat.pow_le_pow_right (by decide) (by omega)
      omega)
theorem cSort0 {v : Value} (hv : lenSliceV v = some (.int .i64 0)) {w : World} {K : Value → World → Prop} (hK : K (.tuple [].toArray) w) : CallS Tryz.prog 125 #[v] K w := by
  refine s125_call hm ?_
  unfold s125
  refine pur hv (pur ((conv_int _ _ _).trans (by rw [wu64 (by omega) (by omega)])) (cLen0 fun l _ => ?_))
  refine s137_call hm ?_
  unfold s137
  refine loop5 (σ := Unit) (fun _ x y z p q w' => x = .int .i64 0 ∧ y = .int .i64 0 ∧ w = w') (fun _ => 0) () ⟨rfl, rfl, rfl⟩ ?_
  rintro _ _ _ z p q _ ⟨rfl, rfl, rfl⟩ L0 hL0
  refine pur (sub64 (c := 0) (by omega) (by omega) (by omega)) (pur (bin_leq _ _ _) (condT (by decide) ?_))
  refine s140_call hm ?_
  unfold s140
  refine pur (add64 (c := 1) (by omega) (by omega) (by omega)) ?_
  refine loop1 (σ := Unit) (fun _ x w' => x = .int .i64 1 ∧ w' = w) (fun _ => 0) () ⟨rfl, rfl⟩ ?_
  rintro _ _ _ ⟨rfl, rfl⟩ L1 hL1
  exact pur (bin_lss _ _ _) (condF (by decide) hK)
end Go.Proofs.YthohdinjpkehpaaGreat

namespace Go.Proofs.YthohdinjpkehpaaGreat
open Go SG Go.RowKit Go.Lib
set_option linter.unusedVariables false
set_option maxRecDepth 4000
set_option linter.unusedSimpArgs false

theorem encE_one (x : El) : (encE x).oneCell' = true := rfl
theorem own_lcn {w : World} {base n : Nat} {v : Value} {xs : List El} (ho : w.ownsRow base 9 1 v n (xs.map encE)) (hn : n ≤ 4611686018427387904) :
    (v = .slice none 0 0 ∧ xs = [] ∧ n = 0) ∨ ∃ L : Lcn El, L.enc = encE ∧ L.v = v ∧ L.n = n ∧ L.n ≤ L.cap ∧ L.t = 9 ∧ L.pre = [] ∧ base ≤ L.g ∧ L.cap ≤ maxLen ∧ n + L.post.length = L.cap ∧ v.ownBlock = some L.g ∧ Dt L w xs := by
  have hlen : xs.length = n := by have := ho.1; simpa using this
  rcases ho.2 with ⟨rfl, rfl⟩ | ⟨g, cap, cur, rfl, hb, hg, hnc, hcm, hcs, htake⟩
  · exact .inl ⟨rfl, List.eq_nil_of_length_eq_zero hlen, rfl⟩
  · refine .inr ⟨⟨g, 9, [], cur.toList.drop n, encE, n, cap, encE_one, hn⟩, rfl, rfl, rfl, hnc, rfl, rfl, hb, hcm, ?_, rfl, ⟨?_, hlen⟩⟩
    · simp; simp at hcs; omega
    · unfold Blk
      rw [List.nil_append, ← htake, Nat.mul_one, List.take_append_drop]
      simpa using hg
theorem cSorted {w : World} {base n : Nat} {v : Value} {xs : List El} (ho : w.ownsRow base 9 1 v n (xs.map encE)) (hn : n ≤ 4611686018427387904) {K : Value → World → Prop}
    (hK : ∀ w' ys, w'.ownsRow base 9 1 v n (ys.map encE) → ys.Perm xs → Asc ltE ys → Ext (fun b => v.ownBlock = some b) w w' → K (.tuple [].toArray) w') : CallS Tryz.prog 125 #[v] K w := by
  rcases own_lcn ho hn with ⟨rfl, rfl, rfl⟩ | ⟨L, hE, rfl, rfl, hcap, ht, hpre, hb, hcm, hpost, hob, hd⟩
  · exact cSort0 rfl (hK w [] ho (List.Perm.refl _) (by simp [Asc]) (Ext.refl _ _))
  · refine cSort hE hd fun w' ys hd' hp ha he => hK w' ys ?_ hp ha (he.mono fun b h _ => by rw [hob, show b = L.g from h])
    have hl := hd'.len
    have hbk := hd'.blk
    rw [ht, hpre, hE] at hbk
    refine ⟨by simpa using hl, .inr ⟨L.g, L.cap, (ys.map encE ++ L.post).toArray, by unfold Lcn.v; rw [hpre]; rfl, hb, by simpa [Blk] using hbk, hcap, hcm, ?_, ?_⟩⟩
    · simp; omega
    · simp [hl]
end Go.Proofs.YthohdinjpkehpaaGreat

namespace Go.Proofs.YthohdinjpkehpaaGreat
open Go SG Go.RowKit Go.Lib
set_option linter.unusedVariables false
set_option maxRecDepth 4000
set_option linter.unusedSimpArgs false

theorem putObj_ext {w : World} {D : Nat} {o : Obj} : Ext (At1 D) w (w.putObj D o) := ⟨rfl, rfl, rfl, by simp, fun b hb hn => World.putObj_heap_other (fun e => hn (by rw [e]; rfl))⟩

set_option maxHeartbeats 1000000 in
theorem cAppendSeq {α : Type} (h : α → El) {gf N : Nat} {lb : Array Value} {S Sp : List α → Prop} (hokf : okFunc Tryz.prog gf = true) {w : World}
    (hseq : ∀ w', Ext No w w' → SeqStopsK Fence.wide 0 Tryz.prog gf lb (fun x => [encE (h x)].toArray) KpW S Sp N w') (hN : N ≤ 1099511627776) (hS : ∀ xs, S xs → xs.length ≤ N) {K : Value → World → Prop}
    (hK : ∀ v w' xs, S xs → w'.ownsRow w.heap.size 9 1 v xs.length ((xs.map h).map encE) → Ext No w w' → K v w') : CallS Tryz.prog 136 #[.slice none 0 0, .func (.func gf) #[] lb] K w := by
  refine s136_call hm ?_
  unfold s136
  refine box fun w1 b1 e1 z1 => ?_
  have b1' : Blk w1 w.heap.size 61 [.slice none 0 0] := b1
  refine ⟨rfl, hokf, α, fun x => [encE (h x)], KpW, S, Sp, N, fun pre W => (∃ v, Blk W w.heap.size 61 [v] ∧ W.ownsRow w1.heap.size 9 1 v pre.length ((pre.map h).map encE)) ∧ Ext No w W,
    hseq w1 e1, fun _ => rfl, fun A B C h k => h.trans k, ?_, ?_, ⟨⟨_, b1', World.ownsRow_nil _ _ _ _⟩, e1⟩, ?_, ?_⟩
  · intro W l o o' _ ho _ hw
    exact KpW.put ho hw
  · rintro s W W' row ⟨⟨v, hb, ho⟩, he⟩ hg hr
    refine ⟨⟨v, (hg.block _ hb.lt fun e => ?_).trans hb, owns_ext ho (Ext.grown (S := fun b => row = some b) hg fun b h => h) fun g hg' hh => ?_⟩, he.fresh (Ext.grown (S := fun b => row = some b) hg fun b h => h) fun b hb' => .inr ?_⟩
    · obtain ⟨_, o, ho', hc⟩ := hr _ e.symm
      rw [hb] at ho'
      cases ho'; cases hc
    · obtain ⟨_, o, ho', hc⟩ := hr _ hh
      rcases ho.2 with ⟨rfl, _⟩ | ⟨g', cap, cur, rfl, _, hgg, _⟩
      · simp [Value.ownBlock] at hg'
      · simp only [Value.ownBlock, Option.some.injEq] at hg'
        subst hg'
        rw [hgg] at ho'
        cases ho'; cases hc
    · have := (hr b hb').1; omega
  · rintro pre x W ⟨⟨v, hb, ho⟩, he⟩ hlt
    have hlt1 : w.heap.size < w1.heap.size := b1'.lt
    have hWs : w1.heap.size ≤ W.heap.size := by
      have := hb.lt
      have h2 := he.size
      -- the heap has grown since w1: by one block at least
      omega
    refine loadB hb (v := v) rfl (build1 TCE rfl fun w2 b2 e2 z2 => ?_)
    have ho2 := owns_ext ho e2 fun _ _ hh => hh
    refine append_sl TCE 61 ho2 (b2.sl (n := 1) (c := 1) (size := 1) rfl (Nat.le_refl _)) (by simp [Value.cells, encE, Value.oneCell']) (by omega) (by omega) (by have := e2.size; omega) fun v' w3 ho3 hg3 hat => ?_
    have e3 : Ext (fun b => v.ownBlock = some b) w2 w3 := Ext.grown hg3 fun b hbb => hbb
    have hne : v.ownBlock ≠ some w.heap.size := fun hh => by have := (ho2.lt _ hh).1; omega
    have hb3 : Blk w3 w.heap.size 61 [v] := (hb.no e2).ext e3 hne
    have hne3 : v'.ownBlock ≠ some w.heap.size := fun hh => by have := (ho3.lt _ hh).1; omega
    refine storeB hb3 (by simp) (Sl.own ho3).one fun w4 b4 e4 z4 => ?_
    have ho4 := owns_ext ho3 e4 fun b hb' hh => hne3 (by rw [hb', show b = w.heap.size from hh])
    -- what has been written: the row, and the cell
    have eW : Ext (fun b => v.ownBlock = some b ∨ b = w.heap.size) W w4 := (e2.no).trans ((e3.mono fun b hb' _ => .inl hb').trans (e4.mono fun b hb' _ => .inr hb'))
    have hcell : ∀ b, (v.ownBlock = some b ∨ b = w.heap.size) → ∃ c t f, W.heap[b]? = some (.cells c t f) := fun b hb' => by
      rcases hb' with hb' | rfl
      · rcases ho.2 with ⟨rfl, _⟩ | ⟨g', cap, cur, rfl, _, hgg, _⟩
        · simp [Value.ownBlock] at hb'
        · simp only [Value.ownBlock, Option.some.injEq] at hb'
          subst hb'
          exact ⟨_, _, _, hgg⟩
      · exact ⟨_, _, _, hb⟩
    refine ⟨⟨eW.size, fun k o hk ho' hc => ?_⟩, KpW.ext eW fun b o hb' ho' => ?_, ⟨v', b4, ?_⟩, he.fresh eW fun b hb' => .inr ?_⟩
    · refine (eW.blk k (Array.getElem?_eq_some_iff.1 ho').1 fun hh => ?_).trans ho'
      obtain ⟨c, t, f, hcc⟩ := hcell k hh
      rw [hcc] at ho'; cases ho'; cases hc
    · obtain ⟨c, t, f, hcc⟩ := hcell b hb'
      rw [hcc] at ho'; cases ho'; rfl
    · simpa [Value.cells, encE] using ho4
    · rcases hb' with hb' | rfl
      · have := (ho.lt b hb').1; omega
      · exact Nat.le_refl _
  · rintro D xs W hD hSx ⟨⟨v, hb, ho⟩, he⟩ hmk
    refine loadB hb (v := v) rfl ⟨hmk, ?_⟩
    refine hK v _ xs hSx (owns_ext (owns_base ho fun g hg => ?_) putObj_ext fun g hg hh => ?_) (he.fresh putObj_ext fun b hb' => .inr ?_)
    · have := (ho.lt g hg).1
      have := e1.size; omega
    · rw [show g = D from hh] at hg
      rcases ho.2 with ⟨rfl, _⟩ | ⟨g', cap, cur, rfl, _, hgg, _⟩
      · simp [Value.ownBlock] at hg
      · simp only [Value.ownBlock, Option.some.injEq] at hg
        subst hg
        rw [hgg] at hmk; cases hmk
    · rw [show b = D from hb']; have := e1.size; omega
theorem cCollect {α : Type} (h : α → El) {gf N : Nat} {lb : Array Value} {S Sp : List α → Prop} (hokf : okFunc Tryz.prog gf = true) {w : World}
    (hseq : ∀ w', Ext No w w' → SeqStopsK Fence.wide 0 Tryz.prog gf lb (fun x => [encE (h x)].toArray) KpW S Sp N w') (hN : N ≤ 1099511627776) (hS : ∀ xs, S xs → xs.length ≤ N) {K : Value → World → Prop}
    (hK : ∀ v w' xs, S xs → w'.ownsRow w.heap.size 9 1 v xs.length ((xs.map h).map encE) → Ext No w w' → K v w') : CallS Tryz.prog 124 #[.func (.func gf) #[] lb] K w := by
  refine s124_call hm ?_
  unfold s124
  exact cAppendSeq h hokf hseq hN hS hK
theorem cSortedSeq {α : Type} (h : α → El) {gf N : Nat} {lb : Array Value} {S Sp : List α → Prop} (hokf : okFunc Tryz.prog gf = true) {w : World}
    (hseq : ∀ w', Ext No w w' → SeqStopsK Fence.wide 0 Tryz.prog gf lb (fun x => [encE (h x)].toArray) KpW S Sp N w') (hN : N ≤ 1099511627776) (hS : ∀ xs, S xs → xs.length ≤ N) {K : Value → World → Prop}
    (hK : ∀ v w' xs ys, S xs → ys.Perm (xs.map h) → Asc ltE ys → w'.ownsRow w.heap.size 9 1 v ys.length (ys.map encE) → Ext No w w' → K v w') : CallS Tryz.prog 77 #[.func (.func gf) #[] lb] K w := by
  refine s77_call hm ?_
  unfold s77
  refine cCollect h hokf hseq hN hS fun v w1 xs hx ho e1 => ?_
  have := hS xs hx
  refine cSorted (xs := xs.map h) ho (by omega) fun w2 ys ho2 hp ha e2 => ?_
  have hl : ys.length = xs.length := by have := hp.length_eq; simpa using this
  rw [← hl] at ho2
  exact hK v w2 xs ys hx hp ha ho2 (e1.fresh e2 fun b hb => .inr (ho.lt b hb).1)
end Go.Proofs.YthohdinjpkehpaaGreat

