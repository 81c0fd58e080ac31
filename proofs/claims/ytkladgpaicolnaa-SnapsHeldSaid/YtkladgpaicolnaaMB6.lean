/- Proved here: Rows.SnapsHeldSaid: for every input the law SnapsHeld answers true and leaves its arguments as they were. -/
import Derived.Test.YtkladgpaicolnaaMB5
import Derived.Test.YtkladgpaicolnaaRows
/-! Snaps: the law of what is held, walked. -/
namespace Go.Proofs.Ytkladgpaicolnaa
open Go SG Go.RowKit Go.Lib
set_option linter.unusedVariables false
set_option maxRecDepth 4000
set_option linter.unusedSimpArgs false

theorem ListF.bk {w : World} {g : Nat} {m : List (Int × Nat)} {last : Int} {F : Nat → Prop} (h : ListF w g m last F) : F g := by obtain ⟨b, _, _, h⟩ := h; exact (h g).2 (.inl rfl)
theorem any_perm {α : Type} {a b : List α} (h : a.Perm b) (p : α → Bool) : a.any p = b.any p := by
  rw [Bool.eq_iff_iff, List.any_eq_true, List.any_eq_true]
  exact ⟨fun ⟨x, hx, hp⟩ => ⟨x, h.mem_iff.1 hx, hp⟩, fun ⟨x, hx, hp⟩ => ⟨x, h.mem_iff.2 hx, hp⟩⟩

set_option maxHeartbeats 1000000 in
theorem snapsHeld {w0 : World} {x : Value} {l : List Act4} (hs : Sl w0 x l.length 4 (flat Act4.cells l)) {pa pb : Nat} (hl : ∀ a ∈ l, Act4Ok w0 a) (hpa : pa < 18446744073709551616) (hpb : pb < 18446744073709551616) (hn : l.length ≤ 4398046511104 - 2) :
    CallS Try.prog 4 #[x, .int .u64 (pa : Int), .int .u64 (pb : Int)] (fun v w' => v = .bool true ∧ Ext No w0 w') w0 := by
  refine s4_call hm ?_
  unfold s4
  refine c17 fun wl el => pur (not_b _) (condF rfl ?_)
  refine ListF.new fun g w1 F h1 e1 hF => ?_
  have hF : ∀ b, F b → w0.heap.size ≤ b := fun b hb => Nat.le_trans el.size (hF b hb)
  refine eq_nil_ptr Try.underlying43 (condF rfl ?_)
  refine MapR.make encH encE fun w2 h2 e2 z2 => ?_
  have hbF : ¬ F w1.heap.size := fun hh => by have := h1.lt hh; omega
  have hb0 : w0.heap.size ≤ w1.heap.size := (el.trans e1).size
  refine join0 (fun w' => ∃ m last, ListF w' g m last F ∧ MapR w' w1.heap.size encH encE m ∧ m.length ≤ 4096 ∧ Ext No w0 w') ?_ fun J0 hJ0 => ?_
  · rintro w3 ⟨m, last, hL, hM, hml, e3⟩
    have hk := hL.keys
    refine hL.All (by omega) fun va wA fs hr ho eA => ?_
    have hsA := Sl.own ho
    have hLA := hL.no eA
    have hMA := hM.no eA
    have e0A := e3.trans eA
    have hfl : fs.length ≤ 4096 := by have := hr.len (l := m.map (·.2)) fun x hx => hx; simp at this; omega
    have at_ : ∀ {i : Nat} {y : Nat}, fs[i]? = some y → ∀ {w' : World} {K' : Value → World → Prop}, Ext No wA w' → K' (encE y) w' → PureS (indexAddrV 1 va (.int .i64 (i : Int))) fun t => LoadC t K' w' := fun {i y} hy {w' K'} e hk' => by
      obtain ⟨ad, q1, q2, q3⟩ := sl_idx1 (hsA.no e) (i := i) (v := encE y) (by simp [hy]) .i64
      exact pur q1 (SG.load (S := No) (q3 w' (hsA.no e)) hk')
    refine join0 (fun w' => Ext No wA w') ?_ fun J1 hJ1 => ?_
    · intro w4 e4
      refine join2 (fun p q w' => Ext No wA w' ∧ ∃ a b : Nat, p = encE a ∧ q = encE b ∧ a ≤ b) ?_ fun J2 hJ2 => ?_
      · rintro _ _ w5 ⟨e5, a, b, rfl, rfl, hab⟩
        have hex : (m.any fun p => decide (a ≤ p.2) && decide (p.2 < b)) = decide (∃ y ∈ fs, a ≤ y ∧ y < b) := by
          rw [Bool.eq_iff_iff, List.any_eq_true, decide_eq_true_iff]
          constructor
          · rintro ⟨p, hp, hpp⟩
            simp at hpp
            exact ⟨p.2, (hr.2 _).2 (List.mem_map_of_mem (f := (·.2)) hp), hpp.1, hpp.2⟩
          · rintro ⟨y, hy, h3, h4⟩
            obtain ⟨p, hp, rfl⟩ := List.mem_map.1 ((hr.2 y).1 hy)
            exact ⟨p, hp, by simp [h3, h4]⟩
        refine join1 (fun t w' => Ext No wA w' ∧ t = .bool (decide (∃ y ∈ fs, a ≤ y ∧ y < b))) ?_ fun J3 hJ3 => ?_
        · rintro _ w6 ⟨e6, rfl⟩
          obtain ⟨s, c, t, d, hst1, hst2, heq⟩ := stripe_same hr.1 hab
          refine (hLA.no e6).Stripe (by omega) a fun w7 fs' hr' e7 => ?_
          obtain rfl := hr.unique hr'
          rw [hst1]
          refine pur (extract_0 _ _) (pur (extract_1 _ _ _) ?_)
          refine ((hLA.no e6).no e7).Stripe (by omega) b fun w8 fs' hr' e8 => ?_
          obtain rfl := hr.unique hr'
          rw [hst2]
          refine pur (extract_0 _ _) (pur (extract_1 _ _ _) (pur (eqE s t) ?_))
          refine join1 (fun v w' => w8 = w' ∧ (s = t → v = .bool (c == d))) ?_ fun J4 hJ4 => ?_
          · rintro v _ ⟨rfl, hv⟩
            refine pur (v := .bool (decide (s = t) && (c == d))) ((pick_b _ _ _).trans ?_) (pur (not_b _) (pur (bool_eql _ _) ⟨?_, e0A.trans (e6.trans (e7.trans e8))⟩))
            · by_cases hst : s = t
              · rw [if_pos (by simp [hst]), hv hst]; simp [hst]
              · rw [if_neg (by simp [hst])]; simp [hst]
            · congr 1
              rw [heq]; simp
          · rw [ifB_eq]
            by_cases hst : s = t
            · rw [if_pos (by simp [hst])]
              exact pur (bool_eql _ _) (hJ4 _ _ ⟨rfl, fun _ => rfl⟩)
            · rw [if_neg (by simp [hst])]
              exact hJ4 _ _ ⟨rfl, fun h => absurd h hst⟩
        · refine IterR.start Try.underlying45 (hMA.no e5) fun w6 it6 e6 z6 => ?_
          have hrl : wA.heap.size ≤ w5.heap.size := e5.size
          refine iterLoop1 it6 (fun done v w' => v = .bool (done.any fun p => decide (a ≤ p.2) && decide (p.2 < b)) ∧ Ext No wA w') ⟨rfl, e5.trans e6⟩ 0 (fun done v w' w'' h _ e => ⟨h.1, h.2.fresh e fun b hb => .inr (by rw [show b = w5.heap.size from hb]; exact hrl)⟩) (fun done v p w7 hpm hpd it7 hI L hL => ?_) (fun done v w7 hp hI => hJ3 _ _ ⟨hI.2, by rw [hI.1, any_perm hp, hex]⟩)
          obtain ⟨rfl, e7⟩ := hI
          have hget : mget m p.1 = some p.2 := (mget_mem hk).2 hpm
          refine pur (extract_0 _ _) (pur (extract_1 _ _ _) (ListF.seq (x := p.1) (hLA.no e7) (fun h0 => by rw [hget] at h0; cases h0) fun u hu => ?_))
          rw [hget] at hu
          cases hu
          refine pur (extract_0 _ _) (pur (extract_1 _ _ _) ?_)
          refine join1 (fun t w' => w7 = w' ∧ t = .bool true) ?_ fun J6 hJ6 => ?_
          · rintro _ _ ⟨rfl, rfl⟩
            refine pur (v := .bool false) ((bin_neq _ _ _).trans (by simp)) ?_
            refine join1 (fun t w' => w7 = w' ∧ t = .bool false) ?_ fun J7 hJ7 => ifYes' _ _ (pur (v := .bool false) ((neE _ _).trans (by simp)) (hJ7 _ _ ⟨rfl, rfl⟩))
            rintro _ _ ⟨rfl, rfl⟩
            refine pur (pick_b _ _ _) ?_
            refine join1 (fun t w' => w7 = w' ∧ t = .bool false) ?_ fun J8 hJ8 => ifYes' _ _ (pur (not_b _) (hJ8 _ _ ⟨rfl, rfl⟩))
            rintro _ _ ⟨rfl, rfl⟩
            refine pur (pick_b _ _ _) (condF rfl ?_)
            generalize hap : (done.any fun p => decide (a ≤ p.2) && decide (p.2 < b)) = ap
            have hnew : ((done ++ [p]).any fun p => decide (a ≤ p.2) && decide (p.2 < b)) = (ap || (decide (a ≤ p.2) && decide (p.2 < b))) := by rw [List.any_append, hap]; simp
            refine join1 (fun t w' => w7 = w' ∧ (ap = false → t = .bool (decide (a ≤ p.2)))) ?_ fun J9 hJ9 => ?_
            rotate_left
            · cases ap with
              | true => exact ifNo' _ _ (hJ9 _ _ ⟨rfl, fun h => by cases h⟩)
              | false => exact ifYes' _ _ (pur (bin_leq _ _ _) (hJ9 _ _ ⟨rfl, fun _ => by congr 1; rw [decide_eq_decide]; omega⟩))
            rintro t9 _ ⟨rfl, h9⟩
            refine join1 (fun t w' => w7 = w' ∧ (ap = false → a ≤ p.2 → t = .bool (decide (p.2 < b)))) ?_ fun J10 hJ10 => ?_
            rotate_left
            · by_cases ht : isB t9 true = true
              · unfold IfB; rw [if_pos ht]
                exact pur (bin_lss _ _ _) (hJ10 _ _ ⟨rfl, fun _ _ => by congr 1; rw [decide_eq_decide]; exact Int.ofNat_lt⟩)
              · unfold IfB; rw [if_neg ht]
                refine hJ10 _ _ ⟨rfl, fun h hle => ?_⟩
                rw [h9 h, decide_eq_true hle] at ht
                exact absurd rfl ht
            rintro t10 _ ⟨rfl, h10⟩
            refine join1 (fun t w' => w7 = w' ∧ (ap = false → t = .bool (decide (a ≤ p.2) && decide (p.2 < b)))) ?_ fun J11 hJ11 => ?_
            rotate_left
            · cases ap with
              | true => exact ifNo' _ _ (hJ11 _ _ ⟨rfl, fun h => by cases h⟩)
              | false =>
                rw [h9 rfl]
                refine ifYes' _ _ (pur (pick_b _ _ _) (hJ11 _ _ ⟨rfl, fun _ => ?_⟩))
                by_cases hle : a ≤ p.2
                · rw [if_pos (by simpa using hle), h10 rfl hle, decide_eq_true hle]; simp
                · rw [if_neg (by simpa using hle), decide_eq_false hle]; simp
            rintro t11 _ ⟨rfl, h11⟩
            refine pur (pick_b _ _ _) (hL _ _ it7 ⟨?_, e7⟩)
            rw [hnew]
            cases ap with
            | true => rfl
            | false => rw [if_neg (by simp), h11 rfl]; rfl
          · refine loop2 (σ := Nat) (fun i q r w' => w7 = w' ∧ r = .int .i64 (i : Int) ∧ i ≤ fs.length ∧ q = .bool ((fs.take i).any fun y => decide (y = p.2))) (fun i => fs.length - i) 0 ⟨rfl, rfl, by omega, rfl⟩ ?_
            rintro i _ _ _ ⟨rfl, rfl, hi, rfl⟩ L12 hL12
            refine pur hsA.len (pur (bin_lss _ _ _) (condD (fun hlt => ?_) (fun hge => hJ6 _ _ ⟨rfl, ?_⟩)))
            · obtain ⟨y, hy⟩ := getN (xs := fs) (i := i) (by omega)
              generalize hin : ((fs.take i).any fun y => decide (y = p.2)) = inn
              have hnew : ((fs.take (i + 1)).any fun y => decide (y = p.2)) = (inn || decide (y = p.2)) := by rw [List.take_add_one, hy, List.any_append, hin]; simp
              refine join1 (fun t w' => w7 = w' ∧ (inn = false → t = .bool (decide (y = p.2)))) ?_ fun J13 hJ13 => ?_
              · rintro t _ ⟨rfl, ht⟩
                refine pur (pick_b _ _ _) (pur (add64 (c := ((i + 1 : Nat) : Int)) (by omega) (by omega) (by omega)) (hL12 (i + 1) _ _ _ ⟨rfl, rfl, by omega, ?_⟩ (by omega)))
                rw [hnew]
                cases inn with
                | true => rfl
                | false => rw [if_neg (by simp), ht rfl]; rfl
              · cases inn with
                | true => exact ifNo' _ _ (hJ13 _ _ ⟨rfl, fun h => by cases h⟩)
                | false => exact ifYes' _ _ (at_ hy e7 (pur (eqE _ _) (hJ13 _ _ ⟨rfl, fun _ => rfl⟩)))
            · congr 1
              rw [List.take_of_length_le (by omega), List.any_eq_true]
              exact ⟨p.2, (hr.2 _).2 (List.mem_map_of_mem (f := (·.2)) hpm), by simp⟩
      · refine pur (bin_gtr _ _ _) (condD (fun hgt => hJ2 _ _ _ ⟨e4, pb, pa, rfl, rfl, by omega⟩) (fun hle => hJ2 _ _ _ ⟨e4, pa, pb, rfl, rfl, by omega⟩))
    · refine loop1 (σ := Nat) (fun i v w' => v = .int .i64 (i : Int) ∧ i ≤ fs.length ∧ Ext No wA w') (fun i => fs.length - i) 0 ⟨rfl, by omega, Ext.refl _ _⟩ ?_
      rintro i _ w4 ⟨rfl, hi, e4⟩ L14 hL14
      refine pur hsA.len (pur (bin_lss _ _ _) (condD (fun hlt => ?_) (fun hge => hJ1 _ e4)))
      obtain ⟨y, hy⟩ := getN (xs := fs) (i := i) (by omega)
      refine join0 (fun w' => Ext No wA w') (fun w' e => pur (add64 (c := ((i + 1 : Nat) : Int)) (by omega) (by omega) (by omega)) (hL14 (i + 1) _ _ ⟨rfl, by omega, e⟩ (by omega))) fun J15 hJ15 => ?_
      refine join1 (fun t w' => Ext No wA w' ∧ t = .bool true) ?_ fun J16 hJ16 => ?_
      · rintro _ w5 ⟨e5, rfl⟩
        refine join1 (fun t w' => w5.drew = w' ∧ t = .bool false) ?_ fun J17 hJ17 => ?_
        · rintro _ _ ⟨rfl, rfl⟩
          exact condF rfl (hJ15 _ (e5.trans (Ext.drew w5)))
        · have e5d := e5.trans (Ext.drew w5)
          refine draw (fun w' => Ext No wA w') e5d (pur (not_b _) (condF rfl (pur (bin_gtr _ _ _) (condD (fun h0 => ?_) (fun h0 => ?_)))))
          · obtain ⟨z, hz⟩ := getN (xs := fs) (i := i - 1) (by omega)
            obtain ⟨ad, q1, q2, q3⟩ := sl_idx1 (hsA.no e5d) (i := i) (v := encE y) (by simp [hy]) .i64
            obtain ⟨ad', r1, r2, r3⟩ := sl_idx1 (hsA.no e5d) (i := i - 1) (v := encE z) (by simp [hz]) .i64
            refine pur q1 (pur (sub64 (c := ((i - 1 : Nat) : Int)) (by omega) (by omega) (by omega)) (pur r1 (heldC (v := encE y) (fun w' hh => q3 w' (hsA.no hh)) (heldC (v := encE z) (fun w' hh => r3 w' (hsA.no hh)) ?_))))
            have hzy : z < y := by
              have h3 := List.getElem?_eq_some_iff.1 hz
              have h4 := List.getElem?_eq_some_iff.1 hy
              have := List.pairwise_iff_getElem.1 hr.1 (i - 1) i h3.1 h4.1 (by omega)
              rw [h3.2, h4.2] at this; exact this
            refine pur (v := .bool false) ((bin_leq _ _ _).trans (by congr 2; exact decide_eq_false (by omega))) (pur (pick_b _ _ _) (pur (pick_b _ _ _) (hJ17 _ _ ⟨rfl, rfl⟩)))
          · exact pur (pick_b _ _ _) (pur (pick_b _ _ _) (hJ17 _ _ ⟨rfl, rfl⟩))
      · refine IterR.start Try.underlying45 (hMA.no e4) fun w5 it5 e5 z5 => ?_
        have hrl : wA.heap.size ≤ w4.heap.size := e4.size
        refine iterLoop1 it5 (fun done v w' => v = .bool (done.any fun p => decide (p.2 = y)) ∧ Ext No wA w') ⟨rfl, e4.trans e5⟩ 0 (fun done v w' w'' h _ e => ⟨h.1, h.2.fresh e fun b hb => .inr (by rw [show b = w4.heap.size from hb]; exact hrl)⟩) (fun done v p w7 hpm hpd it7 hI L hL => ?_) (fun done v w7 hp hI => hJ16 _ _ ⟨hI.2, ?_⟩)
        · obtain ⟨rfl, e7⟩ := hI
          generalize hin : (done.any fun p => decide (p.2 = y)) = inn
          have hnew : ((done ++ [p]).any fun p => decide (p.2 = y)) = (inn || decide (p.2 = y)) := by rw [List.any_append, hin]; simp
          refine pur (extract_1 _ _ _) ?_
          refine join1 (fun t w' => w7 = w' ∧ (inn = false → t = .bool (decide (p.2 = y)))) ?_ fun J20 hJ20 => ?_
          · rintro t _ ⟨rfl, ht⟩
            refine pur (pick_b _ _ _) (hL _ _ it7 ⟨?_, e7⟩)
            rw [hnew]
            cases inn with
            | true => rfl
            | false => rw [if_neg (by simp), ht rfl]; rfl
          · cases inn with
            | true => exact ifNo' _ _ (hJ20 _ _ ⟨rfl, fun h => by cases h⟩)
            | false => exact ifYes' _ _ (at_ hy e7 (pur (eqE _ _) (hJ20 _ _ ⟨rfl, fun _ => rfl⟩)))
        · rw [hI.1, any_perm hp]
          congr 1
          rw [List.any_eq_true]
          obtain ⟨p, hp1, hp2⟩ := List.mem_map.1 ((hr.2 y).1 (List.mem_of_getElem? hy))
          exact ⟨p, hp1, by simpa using hp2⟩
  · refine loop1 (σ := Nat) (fun i v w' => v = .int .i64 (i : Int) ∧ i ≤ l.length ∧ ∃ m last, ListF w' g m last F ∧ MapR w' w1.heap.size encH encE m ∧ m.length ≤ 4096 ∧ Ext No w0 w' ∧ (∀ p ∈ m, p.1 ≤ last) ∧ 0 ≤ last ∧ last ≤ (i : Int)) (fun i => l.length - i) 0
      ⟨rfl, by omega, [], 0, h1.no e2, h2, by simp, (el.trans e1).trans e2, by simp, by omega, by omega⟩ ?_
    rintro i _ w3 ⟨rfl, hi, m, last, hL, hM, hml, e3, hkl, hl0, hli⟩ L21 hL21
    refine pur hs.len (pur (bin_lss _ _ _) (condD (fun hlt => ?_) (fun _ => hJ0 _ ⟨m, last, hL, hM, hml, e3⟩)))
    obtain ⟨a, ha⟩ := getN (xs := l) (i := i) (by omega)
    have hok := hl a (List.mem_of_getElem? ha)
    have hkey : last + 1 ∉ m.map (·.1) := fun hh => by
      obtain ⟨p, hp, hpe⟩ := List.mem_map.1 hh
      have h3 := hkl p hp
      have h4 : p.1 = last + 1 := hpe
      omega
    refine join0 (fun w' => ∃ m last, ListF w' g m last F ∧ MapR w' w1.heap.size encH encE m ∧ m.length ≤ 4096 ∧ Ext No w0 w' ∧ (∀ p ∈ m, p.1 ≤ last) ∧ 0 ≤ last ∧ last ≤ ((i + 1 : Nat) : Int)) ?_ fun J22 hJ22 => ?_
    · rintro w4 h4
      exact pur (add64 (c := ((i + 1 : Nat) : Int)) (by omega) (by omega) (by omega)) (hL21 (i + 1) _ _ ⟨rfl, by omega, h4⟩ (by omega))
    have fld : ∀ {w' : World} (k : Nat) {v : Value} {K' : Value → World → Prop}, Ext No w0 w' → a.cells[k]? = some v → K' v w' → PureS (indexAddrV 4 x (.int .i64 (i : Int))) fun t => PureS (fieldAddrV k t) fun t => LoadC t K' w' := fun {w'} k {v K'} e hv hk' => by
      obtain ⟨ad, q1, q2⟩ := act4_at hs ha
      exact pur q1 (pur (v := .pointer (some (ad.add k))) rfl (SG.load (S := No) ((At.no q2 e) k v hv) hk'))
    refine fld 0 e3 rfl (pur (bin_eql _ _ _) (condD (fun hk => ?_) (fun _ => ?_)))
    · refine fld 2 e3 rfl (hL.hold (seq := a.s) hl0 (by omega) hkey hok.s (fun h => ?_) (fun _ h => ?_) fun w4 hsq hm4 hL4 e4 => ?_)
      · exact pur (extract_0 _ _) (pur (extract_1 _ _ _) (pur (bin_eql _ _ _) (condF (by decide) (hJ22 _ ⟨m, last, hL, hM, hml, e3, hkl, hl0, by omega⟩))))
      · exact pur (extract_0 _ _) (pur (extract_1 _ _ _) (pur (bin_eql _ _ _) (condF (by decide) (hJ22 _ ⟨m, last, hL, hM, hml, e3, hkl, hl0, by omega⟩))))
      · have e04 : Ext No w0 w4 := e3.fresh e4 fun b hb => .inr (hF b hb)
        have hM4 := hM.ext e4 hbF
        refine pur (extract_0 _ _) (pur (extract_1 _ _ _) (pur (bin_eql _ _ _) (condT (by decide) ?_)))
        refine hM4.lookup2 MT45 (last + 1) ?_
        rw [mget_none.2 hkey]
        refine pur (extract_0 _ _) (pur (extract_1 _ _ _) (condF rfl (fld 2 e04 rfl ?_)))
        refine hM4.update MT45 (last + 1) a.s fun w5 hM5 e5 z5 => ?_
        rw [mput_keys_out hkey] at hM5
        have hLne : ∀ b, F b → ¬ At1 w1.heap.size b := fun b hb hh => hbF (by rw [← show b = w1.heap.size from hh]; exact hb)
        refine hJ22 _ ⟨m ++ [(last + 1, a.s)], last + 1, hL4.ext e5 hLne, hM5, by simp; omega, e04.fresh e5 fun b hb => .inr (by rw [show b = w1.heap.size from hb]; exact hb0), fun p hp => ?_, by omega, by omega⟩
        rcases List.mem_append.1 hp with hp | hp
        · have := hkl p hp; omega
        · simp at hp; subst hp; exact Int.le_refl _
    · refine pur (bin_eql _ _ _) (condD (fun hk => ?_) (fun _ => hJ22 _ ⟨m, last, hL, hM, hml, e3, hkl, hl0, by omega⟩))
      refine fld 1 e3 rfl (hM.lookup2 MT45 a.h (pur (extract_0 _ _) (pur (extract_1 _ _ _) (fld 1 e3 rfl ?_))))
      have hdl : (mdel m a.h).length ≤ 4096 := by
        have := List.length_filter_le (fun p : Int × Nat => decide (p.1 ≠ a.h)) m
        unfold mdel; omega
      have hdk : ∀ p ∈ mdel m a.h, p.1 ≤ last := fun p hp => hkl p (List.mem_filter.1 hp).1
      have hLne : ∀ b, F b → ¬ At1 w1.heap.size b := fun b hb hh => hbF (by rw [← show b = w1.heap.size from hh]; exact hb)
      refine ListF.free (x := a.h) hL (fun h0 => ?_) fun v w4 hv hL4 e4 => ?_
      · rw [h0]
        refine pur (v := .bool false) ((bin_eql _ _ _).trans (by simp)) (pur (bool_neq _ _) (condF rfl (fld 1 e3 rfl (hM.delete MT45 a.h fun w5 hM5 e5 z5 => ?_))))
        have hsame : mdel m a.h = m := mdel_out (mget_none.1 h0)
        refine hJ22 _ ⟨m, last, hL.ext e5 hLne, by rw [hsame] at hM5; exact hM5, hml, e3.fresh e5 fun b hb => .inr (by rw [show b = w1.heap.size from hb]; exact hb0), hkl, hl0, by omega⟩
      · rw [hv]
        have e04 : Ext No w0 w4 := e3.fresh e4 fun b hb => .inr (hF b hb)
        refine pur (v := .bool true) ((bin_eql _ _ _).trans (by simp)) (pur (bool_neq _ _) (condF rfl (fld 1 e04 rfl ((hM.ext e4 hbF).delete MT45 a.h fun w5 hM5 e5 z5 => ?_))))
        exact hJ22 _ ⟨_, last, hL4.ext e5 hLne, hM5, hdl, e04.fresh e5 fun b hb => .inr (by rw [show b = w1.heap.size from hb]; exact hb0), hdk, hl0, by omega⟩
end Go.Proofs.Ytkladgpaicolnaa
/-! Snaps: texts joined. -/
namespace Go.Proofs.Ytkladgpaicolnaa
end Go.Proofs.Ytkladgpaicolnaa
namespace Go.Proofs.Ytkladgpaicolnaa
open Go SG Go.ChangeShapes Go.WideShapes Go.ChangeAt Go.RowKit Go.Lib
set_option linter.unusedVariables false
set_option linter.unusedSimpArgs false

set_option maxRecDepth 100000 in
theorem snapsHeldLifted (os : Os) (started : os.Started) (H : Type) (enc : TypeId × Value → H) :
    ReturnsInHanded {} Try.checked os 4 .any (Rows.snapsHeldSpec.pre6 enc Try.prog Try.f4 Rows.snapsHeldRow.domain false) (Rows.snapsHeldSpec.post enc Try.prog Try.f4 false true false false) := by
  refine returnsInHanded_of_change_sized (C := Try.checked) own started (by kernel_rfl) Try.func4
    (ChangeSpec.witness6 (enc := enc) (C := Try.checked) false ⟨#[], #[.slice none 0 0, .int .u64 0, .int .u64 0], []⟩ 8 (by kernel_rfl) (by kernel_rfl) (by kernel_rfl) (by kernel_rfl)) ?_
  intro W base args ds gs before hval0 hW hcnd hwt0 _
  have hval : ∀ (j : Nat) t v, Try.f4.params[j]? = some t → args[j]? = some v → Value.okWide Try.prog W .any base t v := hval0
  have hwt : (DataW.weightsEach Try.prog (Try.f4.params.toList ++ Rows.snapsHeldSpec.plain.varTypes Try.prog) (ds ++ gs)).all (· ≤ reachBytes) = true := hwt0
  have hW' := hW
  obtain ⟨p, q, hA0, hV, rfl, hfz, hnd⟩ := hW
  have hA : DataW.TrodAll enc Try.prog W 0 (fun _ => true) true Try.f4.params.toList args.toList ds p := hA0
  rw [Try.params4] at hA hval hwt
  obtain ⟨v0, vs0, d0, ds0, p0, q0, hargs, rfl, rfl, h0, r0⟩ := trodAll_cons hA
  obtain ⟨v1, vs1, d1, ds1, p1, q1, rfl, rfl, rfl, h1, r1⟩ := trodAll_cons r0
  obtain ⟨v2, vs2, d2, ds2, p2, q2, rfl, rfl, rfl, h2, r2⟩ := trodAll_cons r1
  obtain ⟨rfl, rfl, rfl⟩ := trodAll_nil r2
  obtain rfl : args = #[v0, v1, v2] := by cases args; simp_all
  obtain ⟨rfl, rfl⟩ := trodVars_none hV
  have lt0 : ∀ x ∈ p0, x.block < W.heap.size := by obtain ⟨m, hm⟩ := h0; exact DataW.trod_lt m _ _ _ hm
  have lt1 : ∀ x ∈ p1, x.block < W.heap.size := by obtain ⟨m, hm⟩ := h1; exact DataW.trod_lt m _ _ _ hm
  have lt2 : ∀ x ∈ p2, x.block < W.heap.size := by obtain ⟨m, hm⟩ := h2; exact DataW.trod_lt m _ _ _ hm
  obtain ⟨rs0, s0, k0, l0⟩ := open_act4s h0 (okWide_slice Try.underlying22 (hval 0 22 v0 rfl rfl)) (weights_le hwt (j := 0) rfl rfl)
  obtain ⟨a1, rfl, k1⟩ := u64_in h1 (hval 1 30 v1 rfl rfl)
  obtain ⟨a2, rfl, k2⟩ := u64_in h2 (hval 2 30 v2 rfl rfl)
  clear hA0 hval0 hwt0
  refine (snapsHeld s0 k0 k1 k2 l0).mono fun e W' he => ?_
  cases e with
  | returned v =>
    obtain ⟨rfl, ext⟩ := he
    have bel : Below W.heap.size W W' := ext.below (Nat.le_refl _) fun b hb => hb.elim
    exact ⟨_, rfl, _, _, _, [], _, [], hW', trodAll_mk1 (shut_bool Try.underlying4 _), (trodAll_cons_mk (Below.trod laidOut (by kernel_rfl) (of_decide_eq_true (by kernel_rfl)) h0 bel lt0) (trodAll_cons_mk (Below.trod laidOut (by kernel_rfl) (of_decide_eq_true (by kernel_rfl)) h1 bel lt1) (trodAll_cons_mk (Below.trod laidOut (by kernel_rfl) (of_decide_eq_true (by kernel_rfl)) h2 bel lt2) trodAll_mk0))), rfl, bel.frame _, fun h => by cases h⟩
  | _ => exact he.elim
/-- the statement -/
theorem snapsHeldHolds : Rows.SnapsHeldSaid :=
  OpenClaim.holds_of_wide 4 Try.f4 rfl rfl rfl rfl rfl rfl rfl ⟨rfl, rfl, rfl, rfl, rfl⟩ rfl rfl rfl rfl rfl (by kernel_rfl) Try.func4 (by kernel_rfl)
    (of_decide_eq_true (by kernel_rfl)) (by unfold Func.isWrapper; first | (rw [if_pos (by decide +kernel)]; kernel_rfl) | (rw [if_neg (by decide +kernel)]; exact ⟨rfl, rfl⟩))
    (fun os started H enc _ => snapsHeldLifted os started H enc)
end Go.Proofs.Ytkladgpaicolnaa
