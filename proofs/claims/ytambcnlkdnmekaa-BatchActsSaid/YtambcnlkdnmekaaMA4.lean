/- Several texts of ours, laid one behind the other. -/
import Derived.Test.YtambcnlkdnmekaaMA3
import Derived.Laws.CopyRow
/-! Sorting in place: equal to the pivot, or above. -/
namespace Go.Proofs.Ytambcnlkdnmekaa
open Go SG Go.RowKit Go.Lib
set_option linter.unusedVariables false
set_option maxRecDepth 4000
set_option linter.unusedSimpArgs false

structure PeqI (a b : Nat) (xs : List El) (pv : El) (i j : Nat) (zs : List El) : Prop where
  sw : Sw a b xs zs
  at_ : zs[a]? = some pv
  lo : ∀ k u, a < k → k < i → zs[k]? = some u → ltE pv u = false
  hi : ∀ k u, j < k → k < b → zs[k]? = some u → ltE pv u = true
  ai : a < i
  ij : i ≤ j + 1
  jb : j < b
theorem PeqI.scan {a b i j i' j' : Nat} {xs zs : List El} {pv : El} (h : PeqI a b xs pv i j zs) (h1 : i ≤ i') (h2 : i' ≤ j' + 1) (h3 : j' ≤ j) (hu : ∀ k u, i ≤ k → k < i' → zs[k]? = some u → ltE pv u = false) (hd : ∀ k u, j' < k → k ≤ j → zs[k]? = some u → ltE pv u = true) : PeqI a b xs pv i' j' zs :=
  ⟨h.sw, h.at_, fun k u k1 k2 hk => by by_cases hc : k < i; exact h.lo k u k1 hc hk; exact hu k u (by omega) k2 hk, fun k u k1 k2 hk => by by_cases hc : j < k; exact h.hi k u hc k2 hk; exact hd k u k1 (by omega) hk, by have := h.ai; omega, h2, by have := h.jb; omega⟩
theorem PeqI.swap {a b i j : Nat} {xs zs : List El} {pv u v : El} (h : PeqI a b xs pv i j zs) (hb : b ≤ xs.length) (hij : i ≤ j) (hu : zs[i]? = some u) (hv : zs[j]? = some v) (hu' : ltE pv u = true) (hv' : ltE pv v = false) : PeqI a b xs pv (i + 1) (j - 1) (swp zs i j) := by
  have hl := h.sw.len
  have h1 := h.ai; have h2 := h.jb
  have hne : i ≠ j := by rintro rfl; rw [hu] at hv; cases hv; rw [hu'] at hv'; cases hv'
  refine ⟨.step i j (by omega) (by omega) (by omega) (by omega) hb h.sw, ?_, ?_, ?_, by omega, by omega, by omega⟩
  · rw [swp_get (by omega) (by omega), if_neg (by omega), if_neg (by omega)]; exact h.at_
  · intro k x k1 k2 hk
    rw [swp_get (by omega) (by omega), if_neg (by omega)] at hk
    split at hk
    · rw [hv] at hk; cases hk; exact hv'
    · exact h.lo k x k1 (by omega) hk
  · intro k x k1 k2 hk
    rw [swp_get (by omega) (by omega)] at hk
    split at hk
    · rw [hu] at hk; cases hk; exact hu'
    · rw [if_neg (by omega)] at hk; exact h.hi k x (by omega) k2 hk
/-- parted before m -/
structure Peq (a b : Nat) (xs : List El) (pv : El) (m : Nat) (zs : List El) : Prop where
  sw : Sw a b xs zs
  am : a < m
  mb : m ≤ b
  lo : ∀ k u, a ≤ k → k < m → zs[k]? = some u → ltE pv u = false
  hi : ∀ k u, m ≤ k → k < b → zs[k]? = some u → ltE pv u = true
theorem PeqI.done {a b i j : Nat} {xs zs : List El} {pv : El} (h : PeqI a b xs pv i j zs) (hij : j < i) : Peq a b xs pv i zs :=
  ⟨h.sw, h.ai, by have := h.ij; have := h.jb; omega, fun k u h1 h2 hk => by
    by_cases hc : k = a
    · subst hc; rw [h.at_] at hk; cases hk; exact linE.irr _
    · exact h.lo k u (by omega) h2 hk, fun k u h1 h2 hk => h.hi k u (by omega) h2 hk⟩

set_option maxHeartbeats 400000 in
theorem cPeq {L : Lcn El} (hE : L.enc = encE) {w : World} {xs : List El} (hd : Dt L w xs) {a b p : Nat} {pv : El} (hap : a ≤ p) (hpb : p < b) (hb : b ≤ L.n) (hpp : xs[p]? = some pv) {K : Value → World → Prop}
    (hK : ∀ w' xs' (m : Nat), Dt L w' xs' → Peq a b xs pv m xs' → Ext (At1 L.g) w w' → K (.int .i64 (m : Int)) w') : CallS Try.prog 81 #[L.v, .int .i64 (a : Int), .int .i64 (b : Int), .int .i64 (p : Int)] K w := by
  have hbig := L.big
  have hlen := hd.len
  refine s81_call hm ?_
  unfold s81
  refine cSwp hd (by omega) (by omega) fun w1 hd1 e1 => ?_
  have hpv : (swp xs a p)[a]? = some pv := by
    rw [swp_get (by omega) (by omega)]
    split
    · rename_i h; rw [h]; exact hpp
    · rw [if_pos rfl]; exact hpp
  have h0 : PeqI a b xs pv (a + 1) (b - 1) (swp xs a p) := ⟨.one (Nat.le_refl _) (by omega) hap hpb (by omega), hpv, fun k u h1 h2 => by omega, fun k u h1 h2 => by omega, by omega, by omega, by omega⟩
  refine pur (add64 (c := ((a + 1 : Nat) : Int)) (by omega) (by omega) (by omega)) (pur (sub64 (c := ((b - 1 : Nat) : Int)) (by omega) (by omega) (by omega)) ?_)
  refine join1 (fun v w' => ∃ (m : Nat) (zs : List El), v = .int .i64 (m : Int) ∧ Dt L w' zs ∧ Peq a b xs pv m zs ∧ Ext (At1 L.g) w w') ?_ fun J5 hJ5 => ?_
  · rintro _ w5 ⟨m, zs5, rfl, hd5, hP5, e5⟩
    exact hK w5 zs5 m hd5 hP5 e5
  · refine loop2 (fun (s : Nat × Nat) x y w' => x = .int .i64 (s.1 : Int) ∧ y = .int .i64 (s.2 : Int) ∧ ∃ zs, Dt L w' zs ∧ PeqI a b xs pv s.1 s.2 zs ∧ Ext (At1 L.g) w w') (fun s => s.2 + 1 - s.1) (a + 1, b - 1) ⟨rfl, rfl, _, hd1, h0, e1⟩ fun s x y w5 hi L5 hL5 => ?_
    obtain ⟨i5, j5⟩ := s
    obtain ⟨rfl, rfl, zs, hd5, hP5, e5⟩ := hi
    have hai5 := hP5.ai; have hjb5 := hP5.jb; have hij5 := hP5.ij
    simp only at hd5 hP5 hai5 hjb5 hij5 ⊢
    refine join1 (fun v w' => ∃ i' : Nat, v = .int .i64 (i' : Int) ∧ Dt L w' zs ∧ PeqI a b xs pv i' j5 zs ∧ i5 ≤ i' ∧ Ext (At1 L.g) w w' ∧ (i' ≤ j5 → ∃ u, zs[i']? = some u ∧ ltE pv u = true)) ?_ fun J8 hJ8 => ?_
    · rintro _ w6 ⟨i6, rfl, hd6, hP6, hi6, e6, hst6⟩
      have hai6 := hP6.ai; have hij6 := hP6.ij
      refine join1 (fun v w' => ∃ j' : Nat, v = .int .i64 (j' : Int) ∧ Dt L w' zs ∧ PeqI a b xs pv i6 j' zs ∧ j' ≤ j5 ∧ Ext (At1 L.g) w w' ∧ (i6 ≤ j' → ∃ u, zs[j']? = some u ∧ ltE pv u = false)) ?_ fun J9 hJ9 => ?_
      · rintro _ w7 ⟨j7, rfl, hd7, hP7, hj7, e7, hst7⟩
        refine pur (bin_gtr _ _ _) (condD (fun h => hJ5 _ _ ⟨i6, zs, rfl, hd7, hP7.done (by omega), e7⟩) (fun h => ?_))
        have hij7 : i6 ≤ j7 := by omega
        obtain ⟨u, hu, hu'⟩ := hst6 (by omega)
        obtain ⟨v, hv, hv'⟩ := hst7 hij7
        refine cSwp hd7 (i := i6) (j := j7) (by omega) (by omega) fun w8 hd8 e8 => ?_
        have hP8 := hP7.swap (by omega) hij7 hu hv hu' hv'
        exact pur (add64 (c := ((i6 + 1 : Nat) : Int)) (by omega) (by omega) (by omega)) (pur (sub64 (c := ((j7 - 1 : Nat) : Int)) (by omega) (by omega) (by omega)) (hL5 (i6 + 1, j7 - 1) _ _ _ ⟨rfl, rfl, _, hd8, hP8, e7.trans e8⟩ (by simp only; omega)))
      · exact scDn hE hd6 hP6.at_ (by omega) hij6 (by omega) fun j' w7 hd7 e7 k1 k2 hall hst => hJ9 _ _ ⟨j', rfl, hd7, hP6.scan (Nat.le_refl _) k1 k2 (fun k u k1 k2 => by omega) hall, k2, e6.trans e7.no, hst⟩
    · exact scUpN hE hd5 hP5.at_ hij5 (by omega) fun i' w6 hd6 e6 k1 k2 hall hst => hJ8 _ _ ⟨i', rfl, hd6, hP5.scan k1 k2 (Nat.le_refl _) hall (fun k u k1 k2 => by omega), k1, e5.trans e6.no, hst⟩
end Go.Proofs.Ytambcnlkdnmekaa
/-! Sorting in place: a few steps of insertion. -/
namespace Go.Proofs.Ytambcnlkdnmekaa
open Go SG Go.RowKit Go.Lib
set_option linter.unusedVariables false
set_option maxRecDepth 4000
set_option linter.unusedSimpArgs false

set_option maxHeartbeats 1000000 in
theorem cPins {L : Lcn El} (hE : L.enc = encE) {w : World} {xs : List El} (hd : Dt L w xs) {a b : Nat} (hab : a + 2 ≤ b) (hb : b ≤ L.n) (hlow : LeAll ltE (a - 1) a a b xs) {K : Value → World → Prop}
    (hK : ∀ w' ys (c : Bool), Dt L w' ys → Sw a b xs ys → (c = true → Srt ltE a b ys) → Ext (At1 L.g) w w' → K (.bool c) w') : CallS Try.prog 79 #[L.v, .int .i64 (a : Int), .int .i64 (b : Int)] K w := by
  have hbig := L.big
  have hlen := hd.len
  refine s79_call hm ?_
  unfold s79
  refine pur (add64 (c := ((a + 1 : Nat) : Int)) (by omega) (by omega) (by omega)) ?_
  refine join0 (fun w' => ∃ ys, Dt L w' ys ∧ Sw a b xs ys ∧ Ext (At1 L.g) w w') (fun w' ⟨ys, h1, h2, h3⟩ => hK w' ys false h1 h2 (by simp) h3) fun J0 hJ0 => ?_
  refine loop2 (σ := Nat × Nat × List El) (fun s x y w' => x = .int .i64 (s.1 : Int) ∧ y = .int .i64 (s.2.1 : Int) ∧ a + 1 ≤ s.1 ∧ s.1 ≤ b ∧ Dt L w' s.2.2 ∧ Sw a b xs s.2.2 ∧ Srt ltE a s.1 s.2.2 ∧ Ext (At1 L.g) w w') (fun s => 5 - s.2.1) (a + 1, 0, xs)
    ⟨rfl, rfl, by simp, by simp only; omega, hd, .refl, Srt.nil (by simp), Ext.refl _ _⟩ ?_
  rintro ⟨i, j, ys⟩ _ _ w1 ⟨rfl, rfl, hi1, hi2, hd1, hs1, ho1, e1⟩ L1 hL1
  simp only at hi1 hi2 hd1 hs1 ho1 hL1 ⊢
  have hyl := hd1.len
  refine pur (bin_lss _ _ _) (condD (fun hlt => ?_) (fun _ => hJ0 _ ⟨ys, hd1, hs1, e1⟩))
  refine join1 (fun v w' => ∃ (i' : Nat) (zs : List El), v = .int .i64 (i' : Int) ∧ a + 1 ≤ i' ∧ i' ≤ b ∧ Dt L w' zs ∧ Sw a b xs zs ∧ Srt ltE a i' zs ∧ Ext (At1 L.g) w w') ?_ fun J2 hJ2 => ?_
  · rintro _ w2 ⟨i', zs, rfl, h1, h2, hd2, hs2, ho2, e2⟩
    exact pur (add64 (c := ((j + 1 : Nat) : Int)) (by omega) (by omega) (by omega)) (hL1 (i', j + 1, zs) _ _ _ ⟨rfl, rfl, h1, h2, hd2, hs2, ho2, e2⟩ (by simp only; omega))
  refine join1 (fun v w' => ∃ i' : Nat, v = .int .i64 (i' : Int) ∧ a + 1 ≤ i' ∧ i' ≤ b ∧ Dt L w' ys ∧ Srt ltE a i' ys ∧ Ext (At1 L.g) w w' ∧ (i' < b → ∃ u v, ys[i' - 1]? = some u ∧ ys[i']? = some v ∧ ltE v u = true)) ?_ fun J3 hJ3 => ?_
  · rintro _ w2 ⟨i, rfl, hi1, hi2, hd2, ho2, e2, hst⟩
    refine pur (bin_eql _ _ _) (condD (fun h => ?_) (fun hne => ?_))
    · have hib : i = b := by omega
      subst hib
      exact hK w2 ys true hd2 hs1 (fun _ => ho2) e2
    refine pur (sub64 (c := ((b - a : Nat) : Int)) (by omega) (by omega) (by omega)) (pur (bin_lss _ _ _) (condD (fun _ => hK w2 ys false hd2 hs1 (by simp) e2) (fun _ => ?_)))
    obtain ⟨u, v, hu, hv, huv⟩ := hst (by omega)
    refine draw (fun w' => Dt L w' ys) hd2.drew ?_
    refine pur (sub64 (c := ((i - 1 : Nat) : Int)) (by omega) (by omega) (by omega)) (pur (sub64 (c := ((i - 1 : Nat) : Int)) (by omega) (by omega) (by omega)) ?_)
    refine pur (hd2.idx (by omega)) (pur (hd2.idx (by omega)) (heldC (fun w' h => h.cell hu) (heldC (fun w' h => h.cell hv) ?_)))
    refine hd2.drew.swap hv hu fun w3 hd3 e3 => ?_
    have hs3 : Sw a b xs (swp ys i (i - 1)) := hs1.trans (Sw.one (by omega) (by omega) (by omega) (by omega) (by omega))
    have e03 : Ext (At1 L.g) w w3 := e2.trans ((Ext.drew _).trans e3)
    have hget : ∀ k, (swp ys i (i - 1))[k]? = if k = i - 1 then ys[i]? else if k = i then ys[i - 1]? else ys[k]? := fun k => swp_get (by omega) (by omega) k
    have hI : InsI a (i - 1) (i - 1) (swp ys i (i - 1)) := by
      refine ⟨fun p q x y h1 h2 h3 h4 h5 hx hy => ?_, fun q x y h1 h2 => by omega⟩
      rw [hget, if_neg h4, if_neg (by omega)] at hx
      rw [hget, if_neg h5, if_neg (by omega)] at hy
      exact ho2 p q x y h1 h2 (by omega) hx hy
    refine join0 (fun w' => ∃ zs, Dt L w' zs ∧ Sw a b xs zs ∧ Srt ltE a i zs ∧ Ext (At1 L.g) w w') ?_ fun J5 hJ5 => ?_
    · rintro w4 ⟨zs, hd4, hs4, ho4, e4⟩
      refine pur (sub64 (c := ((b - i : Nat) : Int)) (by omega) (by omega) (by omega)) (pur (bin_geq _ _ _) (condD (fun _ => ?_) (fun _ => hJ2 _ _ ⟨i, zs, rfl, hi1, hi2, hd4, hs4, ho4, e4⟩)))
      refine pur (add64 (c := ((i + 1 : Nat) : Int)) (by omega) (by omega) (by omega)) ?_
      refine loop1 (σ := Nat × List El) (fun s v w' => v = .int .i64 (s.1 : Int) ∧ i + 1 ≤ s.1 ∧ Dt L w' s.2 ∧ Sw a b xs s.2 ∧ Srt ltE a i s.2 ∧ Ext (At1 L.g) w w') (fun s => b - s.1) (i + 1, zs) ⟨rfl, Nat.le_refl _, hd4, hs4, ho4, e4⟩ ?_
      rintro ⟨j6, zs⟩ _ w5 ⟨rfl, hj6, hd5, hs5, ho5, e5⟩ L6 hL6
      simp only at hj6 hd5 hs5 ho5 hL6 ⊢
      have hzl := hd5.len
      refine pur (bin_lss _ _ _) (condD (fun hjb => ?_) (fun _ => hJ2 _ _ ⟨i, zs, rfl, hi1, hi2, hd5, hs5, ho5, e5⟩))
      obtain ⟨x, hx⟩ := getN (xs := zs) (i := j6) (by omega)
      obtain ⟨y, hy⟩ := getN (xs := zs) (i := j6 - 1) (by omega)
      refine draw (fun w' => Dt L w' zs) hd5.drew (pur (hd5.idx (by omega)) (pur (sub64 (c := ((j6 - 1 : Nat) : Int)) (by omega) (by omega) (by omega)) (pur (hd5.idx (by omega)) (heldC (fun w' h => h.cell hx) (heldC (fun w' h => h.cell hy) ?_)))))
      rw [hE]
      refine cless (pur (not_b _) (condB (fun _ => hJ2 _ _ ⟨i, zs, rfl, hi1, hi2, hd5.drew, hs5, ho5, e5.trans (Ext.drew _)⟩) (fun _ => ?_)))
      refine draw (fun w' => Dt L w' zs) hd5.drew.drew ?_
      refine pur (sub64 (c := ((j6 - 1 : Nat) : Int)) (by omega) (by omega) (by omega)) (pur (sub64 (c := ((j6 - 1 : Nat) : Int)) (by omega) (by omega) (by omega)) ?_)
      refine pur (hd2.idx (by omega)) (pur (hd2.idx (by omega)) (heldC (fun w' h => h.cell hy) (heldC (fun w' h => h.cell hx) ?_)))
      refine hd5.drew.drew.swap hx hy fun w6 hd6 e6 => ?_
      refine pur (add64 (c := ((j6 + 1 : Nat) : Int)) (by omega) (by omega) (by omega)) ?_
      exact hL6 (j6 + 1, swp zs j6 (j6 - 1)) _ _ ⟨rfl, by simp only; omega, hd6, hs5.trans (Sw.one (by omega) (by omega) (by omega) (by omega) (by omega)),
        ho5.same (fun k h1 h2 => by rw [swp_get (by omega) (by omega), if_neg (by omega), if_neg (by omega)]), e5.trans ((Ext.drew _).trans ((Ext.drew _).trans e6))⟩ (by simp only; omega)
    · refine pur (sub64 (c := ((i - a : Nat) : Int)) (by omega) (by omega) (by omega)) (pur (bin_geq _ _ _) (condD (fun hge => ?_) (fun hlt2 => hJ5 _ ⟨_, hd3, hs3, Srt.nil (by omega), e03⟩)))
      refine pur (sub64 (c := ((i - 1 : Nat) : Int)) (by omega) (by omega) (by omega)) ?_
      refine loop1 (σ := Nat × List El) (fun s v w' => v = .int .i64 (s.1 : Int) ∧ a ≤ s.1 ∧ s.1 ≤ i - 1 ∧ Dt L w' s.2 ∧ Sw a b xs s.2 ∧ InsI a (i - 1) s.1 s.2 ∧ Ext (At1 L.g) w w') (fun s => s.1) (i - 1, swp ys i (i - 1)) ⟨rfl, by simp only; omega, Nat.le_refl _, hd3, hs3, hI, e03⟩ ?_
      rintro ⟨j9, zs⟩ _ w5 ⟨rfl, hj1, hj2, hd5, hs5, hI5, e5⟩ L9 hL9
      simp only at hj1 hj2 hd5 hs5 hI5 hL9 ⊢
      have hzl := hd5.len
      obtain ⟨x, hx⟩ := getN (xs := zs) (i := j9) (by omega)
      have hie : i - 1 + 1 = i := by omega
      have fin : (a < j9 → ∀ u v, zs[j9 - 1]? = some u → zs[j9]? = some v → ltE v u = false) → Srt ltE a i zs := fun h => by
        have := hI5.done hj1 hj2 (by omega) h
        rwa [hie] at this
      refine pur (bin_geq _ _ _) (condD (fun hjb => ?_) (fun hjb => hJ5 _ ⟨zs, hd5, hs5, fin (fun h => by omega), e5⟩))
      obtain ⟨y, hy⟩ := getN (xs := zs) (i := j9 - 1) (by omega)
      refine draw (fun w' => Dt L w' zs) hd5.drew (pur (hd5.idx (by omega)) (pur (sub64 (c := ((j9 - 1 : Nat) : Int)) (by omega) (by omega) (by omega)) (pur (hd5.idx (by omega)) (heldC (fun w' h => h.cell hx) (heldC (fun w' h => h.cell hy) ?_)))))
      rw [hE]
      refine cless (pur (not_b _) (condB (fun hc => ?_) (fun hc => ?_)))
      · refine hJ5 _ ⟨zs, hd5.drew, hs5, fin (fun h u' v' hu' hv' => ?_), e5.trans (Ext.drew _)⟩
        rw [hx] at hv'; cases hv'
        rw [hy] at hu'; cases hu'
        simpa using hc
      · have hc' : ltE x y = true := by simpa using hc
        have haj : a < j9 := by
          refine Nat.lt_of_le_of_ne hj1 fun hja => ?_
          subst hja
          have := (hlow.right hs5 (.inl (Nat.le_refl _))) (a - 1) a y x (Nat.le_refl _) (by omega) (Nat.le_refl _) (by omega) hy hx
          rw [hc'] at this; cases this
        refine draw (fun w' => Dt L w' zs) hd5.drew.drew ?_
        refine pur (sub64 (c := ((j9 - 1 : Nat) : Int)) (by omega) (by omega) (by omega)) (pur (sub64 (c := ((j9 - 1 : Nat) : Int)) (by omega) (by omega) (by omega)) ?_)
        refine pur (hd2.idx (by omega)) (pur (hd2.idx (by omega)) (heldC (fun w' h => h.cell hy) (heldC (fun w' h => h.cell hx) ?_)))
        refine hd5.drew.drew.swap hx hy fun w6 hd6 e6 => ?_
        refine pur (sub64 (c := ((j9 - 1 : Nat) : Int)) (by omega) (by omega) (by omega)) ?_
        exact hL9 (j9 - 1, swp zs j9 (j9 - 1)) _ _ ⟨rfl, by simp only; omega, by simp only; omega, hd6, hs5.trans (Sw.one (by omega) (by omega) (by omega) (by omega) (by omega)),
          hI5.next haj hj2 (by omega) hy hx hc', e5.trans ((Ext.drew _).trans ((Ext.drew _).trans e6))⟩ (by simp only; omega)
  · refine loop1 (σ := Nat) (fun i' v w' => v = .int .i64 (i' : Int) ∧ a + 1 ≤ i' ∧ i' ≤ b ∧ Dt L w' ys ∧ Srt ltE a i' ys ∧ Ext (At1 L.g) w w') (fun i' => b - i') i ⟨rfl, hi1, hi2, hd1, ho1, e1⟩ ?_
    rintro i' _ w2 ⟨rfl, h1, h2, hd2, ho2, e2⟩ L12 hL12
    refine join1 (fun t w' => w2.drew = w' ∧ ((t = .bool true ∧ i' < b ∧ Srt ltE a (i' + 1) ys) ∨ (t = .bool false ∧ (i' < b → ∃ u v, ys[i' - 1]? = some u ∧ ys[i']? = some v ∧ ltE v u = true)))) ?_ fun J13 hJ13 => ?_
    · rintro _ _ ⟨rfl, h⟩
      rcases h with ⟨rfl, hlt2, ho3⟩ | ⟨rfl, hst⟩
      · exact condT rfl (pur (add64 (c := ((i' + 1 : Nat) : Int)) (by omega) (by omega) (by omega)) (hL12 (i' + 1) _ _ ⟨rfl, by omega, by omega, hd2.drew, ho3, e2.trans (Ext.drew _)⟩ (by omega)))
      · exact condF rfl (hJ3 _ _ ⟨i', rfl, h1, h2, hd2.drew, ho2, e2.trans (Ext.drew _), hst⟩)
    · refine draw (fun w' => Dt L w' ys) hd2.drew (pur (bin_lss _ _ _) (condD (fun hlt2 => ?_) (fun hge => ?_)))
      · obtain ⟨x, hx⟩ := getN (xs := ys) (i := i') (by omega)
        obtain ⟨y, hy⟩ := getN (xs := ys) (i := i' - 1) (by omega)
        refine pur (hd2.idx (by omega)) (pur (sub64 (c := ((i' - 1 : Nat) : Int)) (by omega) (by omega) (by omega)) (pur (hd2.idx (by omega)) (heldC (fun w' h => h.cell hx) (heldC (fun w' h => h.cell hy) ?_))))
        rw [hE]
        refine cless (pur (not_b _) (pur (pick_b _ _ _) ?_))
        cases hc : ltE x y with
        | true => exact hJ13 _ _ ⟨rfl, .inr ⟨rfl, fun _ => ⟨y, x, hy, hx, hc⟩⟩⟩
        | false =>
          refine hJ13 _ _ ⟨rfl, .inl ⟨rfl, by omega, ?_⟩⟩
          refine ho2.join (m := i') (Srt.nil (by omega)) fun p q u v k1 k2 k3 k4 hu hv => ?_
          have hq : q = i' := by omega
          subst hq
          rw [hx] at hv; cases hv
          by_cases hp : p = q - 1
          · subst hp; rw [hy] at hu; cases hu; exact hc
          · exact linE.le_tr (ho2 p (q - 1) u y k1 (by omega) (by omega) hu hy) hc
      · exact pur (pick_b _ _ _) (hJ13 _ _ ⟨rfl, .inr ⟨rfl, fun h => by omega⟩⟩)
end Go.Proofs.Ytambcnlkdnmekaa
/-! Sorting in place: by a heap. -/
namespace Go.Proofs.Ytambcnlkdnmekaa
open Go SG Go.RowKit Go.Lib
set_option linter.unusedVariables false
set_option maxRecDepth 4000
set_option linter.unusedSimpArgs false

def Kid (p c : Nat) : Prop := c = 2 * p + 1 ∨ c = 2 * p + 2
/-- from node lo on no child is above its parent -/
def Hp (f lo hi : Nat) (zs : List El) : Prop := ∀ p c u v, lo ≤ p → Kid p c → c < hi → zs[f + p]? = some u → zs[f + c]? = some v → ltE u v = false
/-- as above but for node r -/
structure HpI (f lo hi r : Nat) (zs : List El) : Prop where
  rest : ∀ p c u v, lo ≤ p → p ≠ r → Kid p c → c < hi → zs[f + p]? = some u → zs[f + c]? = some v → ltE u v = false
  over : ∀ p c u v, lo ≤ p → Kid p r → Kid r c → c < hi → zs[f + p]? = some u → zs[f + c]? = some v → ltE u v = false
theorem HpI.next {f lo hi r c : Nat} {zs : List El} (h : HpI f lo hi r zs) (hlen : f + hi ≤ zs.length) (hr : lo ≤ r) (hc : Kid r c) (hch : c < hi) {u v : El} (hu : zs[f + r]? = some u) (hv : zs[f + c]? = some v) (huv : ltE u v = true)
    (hmax : ∀ d x, Kid r d → d < hi → zs[f + d]? = some x → ltE v x = false) : HpI f lo hi c (swp zs (f + r) (f + c)) := by
  have hrc : r < c := by rcases hc with h | h <;> omega
  have g : ∀ k, (swp zs (f + r) (f + c))[k]? = if k = f + c then zs[f + r]? else if k = f + r then zs[f + c]? else zs[k]? := fun k => swp_get (by omega) (by omega) k
  refine ⟨fun p d x y h1 h2 h3 h4 hx hy => ?_, fun p d x y h1 h2 h3 h4 hx hy => ?_⟩
  · have hpd : p < d := by rcases h3 with h | h <;> omega
    rw [g, if_neg (by omega)] at hx
    by_cases hp : p = r
    · subst hp
      rw [if_pos rfl, hv] at hx
      cases hx
      rw [g] at hy
      split at hy
      · rw [hu] at hy; cases hy; exact linE.asym huv
      · rw [if_neg (by omega)] at hy
        exact hmax d y h3 h4 hy
    · rw [if_neg (by omega)] at hx
      rw [g] at hy
      split at hy
      · rename_i hdc
        have : d = c := by omega
        subst this
        have : p = r := by rcases h3 with h | h <;> rcases hc with h' | h' <;> omega
        exact absurd this hp
      · split at hy
        · have : d = r := by omega
          subst this
          rw [hv] at hy; cases hy
          exact h.over p c x v h1 h3 hc hch hx hv
        · exact h.rest p d x y h1 hp h3 h4 hx hy
  · have hp : p = r := by rcases h2 with h | h <;> rcases hc with h' | h' <;> omega
    have hcd : c < d := by rcases h3 with h | h <;> omega
    subst hp
    rw [g, if_neg (by omega), if_pos rfl, hv] at hx
    cases hx
    rw [g, if_neg (by omega), if_neg (by omega)] at hy
    exact h.rest c d v y (by omega) (by omega) h3 h4 hv hy
theorem Hp.ini {f lo hi : Nat} {zs : List El} (h : Hp f (lo + 1) hi zs) : HpI f lo hi lo zs :=
  ⟨fun p c u v h1 h2 h3 h4 hu hv => h p c u v (by omega) h3 h4 hu hv, fun p c u v h1 h2 => by rcases h2 with h | h <;> omega⟩
theorem HpI.done {f lo hi r : Nat} {zs : List El} (h : HpI f lo hi r zs) (hx : ∀ c u v, Kid r c → c < hi → zs[f + r]? = some u → zs[f + c]? = some v → ltE u v = false) : Hp f lo hi zs := fun p c u v h1 h2 h3 hu hv => by
  by_cases hp : p = r
  · subst hp; exact hx c u v h2 h3 hu hv
  · exact h.rest p c u v h1 hp h2 h3 hu hv
theorem Hp.root {f hi : Nat} {zs : List El} (h : Hp f 0 hi zs) (hlen : f + hi ≤ zs.length) {u : El} (hu : zs[f]? = some u) : ∀ c v, c < hi → zs[f + c]? = some v → ltE u v = false := by
  intro c
  induction c using Nat.strongRecOn with
  | _ c ih =>
    intro v hc hv
    by_cases h0 : c = 0
    · subst h0
      rw [Nat.add_zero, hu] at hv; cases hv; exact linE.irr _
    · have hk : Kid ((c - 1) / 2) c := by unfold Kid; omega
      obtain ⟨x, hx⟩ := getN (xs := zs) (i := f + (c - 1) / 2) (by omega)
      exact linE.le_tr (h _ c x v (by omega) hk hc hx hv) (ih _ (by omega) x (by omega) hx)

set_option maxHeartbeats 400000 in
theorem cSift {L : Lcn El} (hE : L.enc = encE) {w : World} {xs : List El} (hd : Dt L w xs) {f lo hi : Nat} (hb : f + hi ≤ L.n) (hlo : lo < hi ∨ lo = 0) (hp : Hp f (lo + 1) hi xs) {K : Value → World → Prop}
    (hK : ∀ w' ys, Dt L w' ys → Sw f (f + hi) xs ys → Hp f lo hi ys → Ext (At1 L.g) w w' → K (.tuple [].toArray) w') : CallS Try.prog 85 #[L.v, .int .i64 (lo : Int), .int .i64 (hi : Int), .int .i64 (f : Int)] K w := by
  have hbig := L.big
  have hlen := hd.len
  refine s85_call hm ?_
  unfold s85
  refine loop1 (σ := Nat × List El) (fun s v w' => v = .int .i64 (s.1 : Int) ∧ lo ≤ s.1 ∧ (s.1 < hi ∨ s.1 = 0) ∧ Dt L w' s.2 ∧ Sw f (f + hi) xs s.2 ∧ HpI f lo hi s.1 s.2 ∧ Ext (At1 L.g) w w') (fun s => hi - s.1) (lo, xs)
    ⟨rfl, Nat.le_refl _, hlo, hd, .refl, hp.ini, Ext.refl _ _⟩ ?_
  rintro ⟨r, ys⟩ _ w1 ⟨rfl, hr1, hr2, hd1, hs1, hI, e1⟩ L0 hL0
  simp only at hr1 hr2 hd1 hs1 hI hL0 ⊢
  have hyl := hd1.len
  refine pur (mulN 2 r (by omega)) (pur (add64 (c := ((2 * r + 1 : Nat) : Int)) (by omega) (by omega) (by omega)) (pur (bin_geq _ _ _) (condD (fun hge => ?_) (fun hlt => ?_))))
  · exact hK w1 ys hd1 hs1 (hI.done fun c u v hc hch => by rcases hc with h | h <;> omega) e1
  have hc0 : 2 * r + 1 < hi := by omega
  obtain ⟨u, hu⟩ := getN (xs := ys) (i := f + r) (by omega)
  refine join1 (fun v w' => ∃ (c : Nat) (x : El), v = .int .i64 (c : Int) ∧ Kid r c ∧ c < hi ∧ ys[f + c]? = some x ∧ (∀ d y, Kid r d → d < hi → ys[f + d]? = some y → ltE x y = false) ∧ Dt L w' ys ∧ Ext (At1 L.g) w w') ?_ fun J1 hJ1 => ?_
  · rintro _ w2 ⟨c, x, rfl, hk, hch, hx, hmax, hd2, e2⟩
    have hrc : r < c := by rcases hk with h | h <;> omega
    refine draw (fun w' => Dt L w' ys) hd2.drew ?_
    refine pur (add64 (c := ((f + r : Nat) : Int)) (by omega) (by omega) (by omega)) (pur (hd2.idx (by omega)) (pur (add64 (c := ((f + c : Nat) : Int)) (by omega) (by omega) (by omega)) (pur (hd2.idx (by omega)) (heldC (fun w' h => h.cell hu) (heldC (fun w' h => h.cell hx) ?_)))))
    rw [hE]
    refine cless (pur (not_b _) (condB (fun hc => ?_) (fun hc => ?_)))
    · refine hK _ ys hd2.drew hs1 (hI.done fun d u' v' hd' hdh hu' hv' => ?_) (e2.trans (Ext.drew _))
      rw [hu] at hu'; cases hu'
      have h1 : ltE u x = false := by simpa using hc
      exact linE.le_tr (hmax d v' hd' hdh hv') h1
    · have h1 : ltE u x = true := by simpa using hc
      refine draw (fun w' => Dt L w' ys) hd2.drew.drew ?_
      refine pur (add64 (c := ((f + r : Nat) : Int)) (by omega) (by omega) (by omega)) (pur (add64 (c := ((f + c : Nat) : Int)) (by omega) (by omega) (by omega)) (pur (add64 (c := ((f + c : Nat) : Int)) (by omega) (by omega) (by omega)) ?_))
      refine pur (hd2.idx (by omega)) (pur (add64 (c := ((f + r : Nat) : Int)) (by omega) (by omega) (by omega)) (pur (hd2.idx (by omega)) (heldC (fun w' h => h.cell hx) (heldC (fun w' h => h.cell hu) ?_))))
      refine hd2.drew.drew.swap hu hx fun w3 hd3 e3 => ?_
      exact hL0 (c, swp ys (f + r) (f + c)) _ _ ⟨rfl, by simp only; omega, .inl hch, hd3, hs1.trans (Sw.one (by omega) (by omega) (by omega) (by omega) (by omega)), hI.next (by omega) hr1 hk hch hu hx h1 hmax,
        e2.trans ((Ext.drew _).trans ((Ext.drew _).trans e3))⟩ (by simp only; omega)
  · obtain ⟨x, hx⟩ := getN (xs := ys) (i := f + (2 * r + 1)) (by omega)
    refine join1 (fun t w' => w1.drew = w' ∧ ((t = .bool true ∧ 2 * r + 2 < hi ∧ ∃ y, ys[f + (2 * r + 2)]? = some y ∧ ltE x y = true) ∨ (t = .bool false ∧ (2 * r + 2 < hi → ∃ y, ys[f + (2 * r + 2)]? = some y ∧ ltE x y = false)))) ?_ fun J4 hJ4 => ?_
    · rintro _ _ ⟨rfl, h⟩
      rcases h with ⟨rfl, hlt2, y, hy, hxy⟩ | ⟨rfl, hst⟩
      · refine condT rfl (pur (add64 (c := ((2 * r + 2 : Nat) : Int)) (by omega) (by omega) (by omega)) (hJ1 _ _ ⟨2 * r + 2, y, rfl, .inr rfl, hlt2, hy, fun d z hd' hdh hz => ?_, hd1.drew, e1.trans (Ext.drew _)⟩))
        rcases hd' with rfl | rfl
        · rw [hx] at hz; cases hz; exact linE.asym hxy
        · rw [hy] at hz; cases hz; exact linE.irr _
      · refine condF rfl (hJ1 _ _ ⟨2 * r + 1, x, rfl, .inl rfl, hc0, hx, fun d z hd' hdh hz => ?_, hd1.drew, e1.trans (Ext.drew _)⟩)
        rcases hd' with rfl | rfl
        · rw [hx] at hz; cases hz; exact linE.irr _
        · obtain ⟨y, hy, hxy⟩ := hst hdh
          rw [hy] at hz; cases hz; exact hxy
    · refine draw (fun w' => Dt L w' ys) hd1.drew (pur (add64 (c := ((2 * r + 2 : Nat) : Int)) (by omega) (by omega) (by omega)) (pur (bin_lss _ _ _) (condD (fun hlt2 => ?_) (fun hge2 => ?_))))
      · obtain ⟨y, hy⟩ := getN (xs := ys) (i := f + (2 * r + 2)) (by omega)
        refine pur (add64 (c := ((f + (2 * r + 1) : Nat) : Int)) (by omega) (by omega) (by omega)) (pur (hd1.idx (by omega)) (pur (add64 (c := ((f + (2 * r + 1) : Nat) : Int)) (by omega) (by omega) (by omega)) ?_))
        refine pur (add64 (c := ((f + (2 * r + 2) : Nat) : Int)) (by omega) (by omega) (by omega)) (pur (hd1.idx (by omega)) (heldC (fun w' h => h.cell hx) (heldC (fun w' h => h.cell hy) ?_)))
        rw [hE]
        refine cless (pur (pick_b _ _ _) ?_)
        cases hc : ltE x y with
        | true => exact hJ4 _ _ ⟨rfl, .inl ⟨rfl, by omega, y, hy, hc⟩⟩
        | false => exact hJ4 _ _ ⟨rfl, .inr ⟨rfl, fun _ => ⟨y, hy, hc⟩⟩⟩
      · exact pur (pick_b _ _ _) (hJ4 _ _ ⟨rfl, .inr ⟨rfl, fun h => by omega⟩⟩)

set_option maxHeartbeats 400000 in
theorem cHeap {L : Lcn El} (hE : L.enc = encE) {w : World} {xs : List El} (hd : Dt L w xs) {a b : Nat} (hab : a < b) (hb : b ≤ L.n) {K : Value → World → Prop}
    (hK : ∀ w' ys, Dt L w' ys → Sw a b xs ys → Srt ltE a b ys → Ext (At1 L.g) w w' → K (.tuple [].toArray) w') : CallS Try.prog 75 #[L.v, .int .i64 (a : Int), .int .i64 (b : Int)] K w := by
  have hbig := L.big
  have hlen := hd.len
  refine s75_call hm ?_
  unfold s75
  obtain ⟨n, hn⟩ : ∃ n, b - a = n := ⟨_, rfl⟩
  have hbn : a + n = b := by omega
  refine pur (sub64 (c := (n : Int)) (by omega) (by omega) (by omega)) ?_
  refine join0 (fun w' => ∃ ys, Dt L w' ys ∧ Sw a b xs ys ∧ Hp a 0 n ys ∧ Ext (At1 L.g) w w') ?_ fun J0 hJ0 => ?_
  · rintro w1 ⟨ys, hd1, hs1, hp1, e1⟩
    refine pur (sub64 (c := (n : Int) - 1) rfl (by omega) (by omega)) ?_
    refine loop1 (σ := Nat × List El) (fun s v w' => v = .int .i64 ((s.1 : Int) - 1) ∧ s.1 ≤ n ∧ Dt L w' s.2 ∧ Sw a b xs s.2 ∧ Hp a 0 s.1 s.2 ∧ Srt ltE (a + s.1) b s.2 ∧ LeAll ltE a (a + s.1) (a + s.1) b s.2 ∧ Ext (At1 L.g) w w') (fun s => s.1) (n, ys)
      ⟨rfl, Nat.le_refl _, hd1, hs1, hp1, Srt.nil (by simp only; omega), fun i j u v h1 h2 h3 h4 => by simp only at h2 h3; omega, e1⟩ ?_
    rintro ⟨k, zs⟩ _ w2 ⟨rfl, hk, hd2, hs2, hp2, ho2, hl2, e2⟩ L1 hL1
    simp only at hk hd2 hs2 hp2 ho2 hl2 hL1 ⊢
    have hzl := hd2.len
    refine pur (bin_geq _ _ _) (condD (fun hge => ?_) (fun hlt => ?_))
    · have hk1 : 1 ≤ k := by omega
      rw [show (k : Int) - 1 = ((k - 1 : Nat) : Int) by omega]
      obtain ⟨u, hu⟩ := getN (xs := zs) (i := a) (by omega)
      obtain ⟨v, hv⟩ := getN (xs := zs) (i := a + (k - 1)) (by omega)
      refine draw (fun w' => Dt L w' zs) hd2.drew ?_
      refine pur (add64 (c := ((a + (k - 1) : Nat) : Int)) (by omega) (by omega) (by omega)) (pur (add64 (c := ((a + (k - 1) : Nat) : Int)) (by omega) (by omega) (by omega)) ?_)
      refine pur (hd2.idx (by omega)) (pur (hd2.idx (by omega)) (heldC (fun w' h => h.cell hv) (heldC (fun w' h => h.cell hu) ?_)))
      refine hd2.drew.swap hu hv fun w3 hd3 e3 => ?_
      have hget : ∀ j, (swp zs a (a + (k - 1)))[j]? = if j = a + (k - 1) then zs[a]? else if j = a then zs[a + (k - 1)]? else zs[j]? := fun j => swp_get (by omega) (by omega) j
      have hsw : Sw a (a + k) zs (swp zs a (a + (k - 1))) := Sw.one (by omega) (by omega) (by omega) (by omega) (by omega)
      have hroot := hp2.root (by omega) hu
      have hmax : ∀ j x, a ≤ j → j < a + k → (swp zs a (a + (k - 1)))[j]? = some x → ltE u x = false :=
        hsw.all (P := fun x => ltE u x = false) fun j x h1 h2 hx => hroot (j - a) x (by omega) (by rw [show a + (j - a) = j by omega]; exact hx)
      have hl3 : LeAll ltE a (a + k) (a + k) b (swp zs a (a + (k - 1))) := hl2.left hsw (.inl (Nat.le_refl _))
      have hl4 : LeAll ltE a (a + (k - 1)) (a + (k - 1)) b (swp zs a (a + (k - 1))) := fun i j x y h1 h2 h3 h4 hx hy => by
        by_cases hj : j = a + (k - 1)
        · subst hj
          rw [hget, if_pos rfl, hu] at hy; cases hy
          exact hmax i x h1 (by omega) hx
        · exact hl3 i j x y h1 (by omega) (by omega) h4 hx hy
      have ho4 : Srt ltE (a + (k - 1)) b (swp zs a (a + (k - 1))) := by
        refine Srt.join (m := a + k) (Srt.nil (by omega)) (ho2.same fun j h1 h2 => hsw.out (.inr h1)) fun i j x y h1 h2 h3 h4 hx hy => hl3 i j x y (by omega) h2 h3 h4 hx hy
      have hp3 : Hp a 1 (k - 1) (swp zs a (a + (k - 1))) := fun p c x y h1 h2 h3 hx hy => by
        have hpc : p < c := by rcases h2 with h | h <;> omega
        rw [hget, if_neg (by omega), if_neg (by omega)] at hx hy
        exact hp2 p c x y (by omega) h2 (by omega) hx hy
      refine cSift hE (lo := 0) hd3 (f := a) (hi := k - 1) (by omega) (.inr rfl) hp3 fun w4 ys4 hd4 hs4 hp4 e4 => ?_
      refine pur (sub64 (c := ((k - 1 : Nat) : Int) - 1) rfl (by omega) (by omega)) ?_
      refine hL1 (k - 1, ys4) _ _ ⟨rfl, by simp only; omega, hd4, (hs2.trans (hsw.mono (Nat.le_refl _) (by omega) (by omega))).trans (hs4.mono (Nat.le_refl _) (by omega) (by rw [swp_length]; omega)), hp4, ?_, ?_, e2.trans ((Ext.drew _).trans (e3.trans e4))⟩ (by simp only; omega)
      · exact ho4.same fun j h1 h2 => hs4.out (.inr (by simpa using h1))
      · exact hl4.left hs4 (.inl (Nat.le_refl _))
    · have hk0 : k = 0 := by omega
      subst hk0
      exact hK w2 zs hd2 hs2 (by simpa using ho2) e2
  · refine pur (sub64 (c := ((n - 1 : Nat) : Int)) (by omega) (by omega) (by omega)) (pur (quoN (n - 1) 2 (by decide) (by omega)) ?_)
    refine loop1 (σ := Nat × List El) (fun s v w' => v = .int .i64 ((s.1 : Int) - 1) ∧ s.1 ≤ (n - 1) / 2 + 1 ∧ Dt L w' s.2 ∧ Sw a b xs s.2 ∧ Hp a s.1 n s.2 ∧ Ext (At1 L.g) w w') (fun s => s.1) ((n - 1) / 2 + 1, xs)
      ⟨by simp only; congr 1; omega, Nat.le_refl _, hd, .refl, fun p c u v h1 h2 h3 => by rcases h2 with h | h <;> omega, Ext.refl _ _⟩ ?_
    rintro ⟨k, zs⟩ _ w2 ⟨rfl, hk, hd2, hs2, hp2, e2⟩ L3 hL3
    simp only at hk hd2 hs2 hp2 hL3 ⊢
    have hzl := hd2.len
    refine pur (bin_geq _ _ _) (condD (fun hge => ?_) (fun hlt => ?_))
    · have hk1 : 1 ≤ k := by omega
      rw [show (k : Int) - 1 = ((k - 1 : Nat) : Int) by omega]
      refine cSift hE hd2 (f := a) (lo := k - 1) (hi := n) (by omega) (.inl (by omega)) (by rw [show k - 1 + 1 = k by omega]; exact hp2) fun w4 ys4 hd4 hs4 hp4 e4 => ?_
      refine pur (sub64 (c := ((k - 1 : Nat) : Int) - 1) rfl (by omega) (by omega)) ?_
      exact hL3 (k - 1, ys4) _ _ ⟨rfl, by simp only; omega, hd4, hs2.trans (hs4.mono (Nat.le_refl _) (by omega) (by omega)), hp4, e2.trans e4⟩ (by simp only; omega)
    · have hk0 : k = 0 := by omega
      subst hk0
      exact hJ0 _ ⟨zs, hd2, hs2, hp2, e2⟩
end Go.Proofs.Ytambcnlkdnmekaa
/-! Sorting in place: the whole. -/
namespace SG
open Go
theorem loop5 {σ : Type} {body : (Value → Value → Value → Value → Value → World → Prop) → Value → Value → Value → Value → Value → World → Prop} (inv : σ → Value → Value → Value → Value → Value → World → Prop) (μ : σ → Nat) {a b c d f : Value} {w : World} (s : σ) (h0 : inv s a b c d f w)
    (h : ∀ s a b c d f w, inv s a b c d f w → ∀ L : Value → Value → Value → Value → Value → World → Prop, (∀ s' a' b' c' d' f' w', inv s' a' b' c' d' f' w' → μ s' < μ s → L a' b' c' d' f' w') → body L a b c d f w) : LoopS 5 body a b c d f w :=
  (app_curry 5 _ [a, b, c, d, f] w rfl).2 (loopL (n := 5) (fun s vs w => ∃ a b c d f, vs = [a, b, c, d, f] ∧ inv s a b c d f w) μ s ⟨a, b, c, d, f, rfl, h0⟩ fun s vs w _ ⟨a, b, c, d, f, hv, hi⟩ L hL => by
    subst hv; exact h s a b c d f w hi L fun s' a' b' c' d' f' w' hi' hlt => hL s' [a', b', c', d', f'] w' rfl ⟨a', b', c', d', f', rfl, hi'⟩ hlt)
end SG
namespace Go.Proofs.Ytambcnlkdnmekaa
open Go SG Go.RowKit Go.Lib
set_option linter.unusedVariables false
set_option maxRecDepth 4000
set_option linter.unusedSimpArgs false

/-- what is done of a range: outside of [a', b') it is in order, and parted from it -/
structure PdI (a b : Nat) (xs : List El) (a' b' : Nat) (ys : List El) : Prop where
  sw : Sw a b xs ys
  aa : a ≤ a'
  ab : a' ≤ b'
  bb : b' ≤ b
  lo : LeAll ltE (a - 1) a' a' b ys
  hi : LeAll ltE a b' b' b ys
  sl : Srt ltE a a' ys
  sh : Srt ltE b' b ys
theorem PdI.step {a b a' b' : Nat} {xs ys zs : List El} (h : PdI a b xs a' b' ys) (hb : b ≤ xs.length) (hs : Sw a' b' ys zs) : PdI a b xs a' b' zs := by
  have hl := h.sw.len
  have h1 := h.aa; have h2 := h.ab; have h3 := h.bb
  refine ⟨h.sw.trans (hs.mono h1 h3 (by omega)), h1, h2, h3, h.lo.right (hs.mono (Nat.le_refl _) h3 (by omega)) (.inl (Nat.le_refl _)), h.hi.left (hs.mono h1 (Nat.le_refl _) (by omega)) (.inl (Nat.le_refl _)),
    h.sl.same fun k k1 k2 => hs.out (.inl k2), h.sh.same fun k k1 k2 => hs.out (.inr k1)⟩
theorem PdI.done {a b a' b' : Nat} {xs zs : List El} (h : PdI a b xs a' b' zs) (ho : Srt ltE a' b' zs) : Srt ltE a b zs := by
  have h1 := h.aa; have h2 := h.ab; have h3 := h.bb
  refine Srt.join (m := b') (Srt.join (m := a') h.sl ho fun i j u v k1 k2 k3 k4 => h.lo i j u v (by omega) k2 k3 (by omega)) h.sh h.hi
/-- parted at m -/
def PAt (a b m : Nat) (zs : List El) : Prop := ∃ pv, zs[m]? = some pv ∧ (∀ k u, a ≤ k → k < m → zs[k]? = some u → ltE pv u = false) ∧ (∀ k u, m + 1 ≤ k → k < b → zs[k]? = some u → ltE u pv = false)
theorem Prt.pat {a b m : Nat} {xs zs : List El} (h : Prt a b xs m zs) : PAt a b m zs := by
  obtain ⟨pv, h1, h2, h3⟩ := h.at_
  exact ⟨pv, h1, fun k u k1 k2 hu => linE.asym (h2 k u k1 k2 hu), fun k u k1 k2 hu => h3 k u (by omega) k2 hu⟩
theorem PAt.left {a b m : Nat} {ys zs : List El} (h : PAt a b m ys) (hs : Sw a m ys zs) : PAt a b m zs := by
  obtain ⟨pv, h1, h2, h3⟩ := h
  exact ⟨pv, by rw [hs.out (.inr (Nat.le_refl _))]; exact h1, hs.all (P := fun u => ltE pv u = false) h2, fun k u k1 k2 hu => h3 k u k1 k2 (by rw [hs.out (.inr (by omega))] at hu; exact hu)⟩
theorem PAt.right {a b m : Nat} {ys zs : List El} (h : PAt a b m ys) (hs : Sw (m + 1) b ys zs) : PAt a b m zs := by
  obtain ⟨pv, h1, h2, h3⟩ := h
  exact ⟨pv, by rw [hs.out (.inl (by omega))]; exact h1, fun k u k1 k2 hu => h2 k u k1 k2 (by rw [hs.out (.inl (by omega))] at hu; exact hu), hs.all (P := fun u => ltE u pv = false) h3⟩
theorem PdI.left {a b a' b' m : Nat} {xs zs : List El} (h : PdI a b xs a' b' zs) (hm1 : a' ≤ m) (hm2 : m < b') (hp : PAt a' b' m zs) (ho : Srt ltE a' m zs) : PdI a b xs (m + 1) b' zs := by
  obtain ⟨pv, p1, p2, p3⟩ := hp
  have h1 := h.aa; have h2 := h.ab; have h3 := h.bb
  refine ⟨h.sw, by omega, by omega, h3, fun i j u v k1 k2 k3 k4 hu hv => ?_, h.hi, ?_, h.sh⟩
  · by_cases hi : i < a'
    · exact h.lo i j u v k1 hi (by omega) k4 hu hv
    · by_cases hj : j < b'
      · have hv' := p3 j v k3 hj hv
        by_cases him : i = m
        · subst him; rw [p1] at hu; cases hu; exact hv'
        · exact linE.le_tr (p2 i u (by omega) (by omega) hu) hv'
      · exact h.hi i j u v (by omega) (by omega) (by omega) k4 hu hv
  · refine Srt.join (m := a') h.sl (Srt.join (m := m) ho (Srt.nil (by omega)) fun i j u v k1 k2 k3 k4 hu hv => ?_) fun i j u v k1 k2 k3 k4 => h.lo i j u v (by omega) k2 k3 (by omega)
    have : j = m := by omega
    subst this
    rw [p1] at hv; cases hv
    exact p2 i u k1 k2 hu
theorem PdI.right {a b a' b' m : Nat} {xs zs : List El} (h : PdI a b xs a' b' zs) (hm1 : a' ≤ m) (hm2 : m < b') (hp : PAt a' b' m zs) (ho : Srt ltE (m + 1) b' zs) : PdI a b xs a' m zs := by
  obtain ⟨pv, p1, p2, p3⟩ := hp
  have h1 := h.aa; have h2 := h.ab; have h3 := h.bb
  refine ⟨h.sw, h1, hm1, by omega, h.lo, fun i j u v k1 k2 k3 k4 hu hv => ?_, h.sl, ?_⟩
  · by_cases hj : j < b'
    · by_cases hi : i < a'
      · exact h.lo i j u v (by omega) hi (by omega) k4 hu hv
      · have hu' := p2 i u (by omega) k2 hu
        by_cases hjm : j = m
        · subst hjm; rw [p1] at hv; cases hv; exact hu'
        · exact linE.le_tr hu' (p3 j v (by omega) hj hv)
    · exact h.hi i j u v k1 (by omega) (by omega) k4 hu hv
  · refine Srt.join (m := b') (Srt.join (m := m + 1) (Srt.nil (by omega)) ho fun i j u v k1 k2 k3 k4 hu hv => ?_) h.sh fun i j u v k1 k2 k3 k4 => h.hi i j u v (by omega) k2 k3 k4
    have : i = m := by omega
    subst this
    rw [p1] at hu; cases hu
    exact p3 j v k3 k4 hv
/-- the pivot is as low as what lies before: all that is equal to it is in its place -/
theorem PdI.same {a b a' b' m : Nat} {xs ys zs : List El} {pv x : El} (h : PdI a b xs a' b' ys) (hb : b ≤ xs.length) (h0 : 0 < a') (hx : ys[a' - 1]? = some x) (hxp : ltE x pv = false) (hpv : ∃ p, a' ≤ p ∧ p < b' ∧ ys[p]? = some pv) (hq : Peq a' b' ys pv m zs) : PdI a b xs m b' zs := by
  have hz := h.step hb hq.sw
  have h1 := h.aa; have h2 := h.ab; have h3 := h.bb
  have h4 := hq.am; have h5 := hq.mb
  obtain ⟨p, hp1, hp2, hp⟩ := hpv
  have hge : ∀ k u, a' ≤ k → k < m → zs[k]? = some u → ltE u pv = false := fun k u k1 k2 hu => by
    have hx' : zs[a' - 1]? = some x := by rw [hq.sw.out (.inl (by omega))]; exact hx
    exact linE.le_tr hxp (hz.lo (a' - 1) k x u (by omega) (by omega) k1 (by omega) hx' hu)
  have heq : ∀ k u, a' ≤ k → k < m → zs[k]? = some u → u = pv := fun k u k1 k2 hu => linE.tri _ _ (hge k u k1 k2 hu) (hq.lo k u k1 k2 hu)
  refine ⟨hz.sw, by omega, h5, h3, fun i j u v k1 k2 k3 k4 hu hv => ?_, hz.hi, ?_, hz.sh⟩
  · by_cases hi : i < a'
    · exact hz.lo i j u v k1 hi (by omega) k4 hu hv
    · by_cases hj : j < b'
      · rw [heq i u (by omega) k2 hu]
        exact linE.asym (hq.hi j v k3 hj hv)
      · exact hz.hi i j u v (by omega) (by omega) (by omega) k4 hu hv
  · refine Srt.join (m := a') hz.sl (fun i j u v k1 k2 k3 hu hv => ?_) fun i j u v k1 k2 k3 k4 => hz.lo i j u v (by omega) k2 k3 (by omega)
    rw [heq i u k1 (by omega) hu, heq j v (by omega) k3 hv]
    exact linE.irr _

theorem LeAll.sub {a b c d a' b' c' d' : Nat} {xs : List El} (h : LeAll ltE a b c d xs) (h1 : a ≤ a') (h2 : b' ≤ b) (h3 : c ≤ c') (h4 : d' ≤ d) : LeAll ltE a' b' c' d' xs := fun i j u v k1 k2 k3 k4 => h i j u v (by omega) (by omega) (by omega) (by omega)

set_option maxHeartbeats 1000000 in
theorem cPdq {L : Lcn El} (hE : L.enc = encE) : ∀ (n : Nat) {w : World} {xs : List El} {a b lim : Nat} {K : Value → World → Prop}, b - a ≤ n → Dt L w xs → a ≤ b → b ≤ L.n → lim ≤ 1000 → LeAll ltE (a - 1) a a b xs →
    (∀ w' ys, Dt L w' ys → Sw a b xs ys → Srt ltE a b ys → Ext (At1 L.g) w w' → K (.tuple [].toArray) w') → CallS Try.prog 71 #[L.v, .int .i64 (a : Int), .int .i64 (b : Int), .int .i64 (lim : Int)] K w := by
  have hbig := L.big
  intro n
  induction n with
  | zero =>
    intro w xs a b lim K hn hd hab hb hlim hlow hK
    refine s71_call hm ?_
    unfold s71
    refine loop5 (σ := Unit) (fun _ x y z p q w' => x = .int .i64 (a : Int) ∧ y = .int .i64 (b : Int) ∧ w' = w) (fun _ => 0) () ⟨rfl, rfl, rfl⟩ ?_
    rintro _ _ _ z p q _ ⟨rfl, rfl, rfl⟩ L0 hL0
    refine pur (sub64 (c := ((b - a : Nat) : Int)) (by omega) (by omega) (by omega)) (pur (bin_leq _ _ _) (condD (fun _ => ?_) (fun h => by omega)))
    exact cIns hE hd hab hb fun w' ys h1 h2 h3 h4 => hK w' ys h1 h2 h3 h4
  | succ n ih =>
    intro w xs a b lim K hn hd hab hb hlim hlow hK
    have hxl := hd.len
    refine s71_call hm ?_
    unfold s71
    refine loop5 (σ := Nat × Nat × Nat × Bool × Bool × List El) (fun s x y z p q w' => x = .int .i64 (s.1 : Int) ∧ y = .int .i64 (s.2.1 : Int) ∧ z = .int .i64 (s.2.2.1 : Int) ∧ p = .bool s.2.2.2.1 ∧ q = .bool s.2.2.2.2.1 ∧ s.2.2.1 ≤ 1000 ∧ Dt L w' s.2.2.2.2.2 ∧ PdI a b xs s.1 s.2.1 s.2.2.2.2.2 ∧ Ext (At1 L.g) w w') (fun s => s.2.1 - s.1) (a, b, lim, true, true, xs)
      ⟨rfl, rfl, rfl, rfl, rfl, hlim, hd, ⟨.refl, Nat.le_refl _, hab, Nat.le_refl _, hlow, fun i j u v h1 h2 h3 h4 => by simp only at h2 h3; omega, Srt.nil (by simp only; omega), Srt.nil (by simp only; omega)⟩, Ext.refl _ _⟩ ?_
    rintro ⟨a', b', lim', wb, wp, ys⟩ _ _ _ _ _ w1 ⟨rfl, rfl, rfl, rfl, rfl, hlim1, hd1, hI1, e1⟩ L0 hL0
    simp only at hlim1 hd1 hI1 hL0 ⊢
    have h1 := hI1.aa; have h2 := hI1.ab; have h3 := hI1.bb
    have hyl := hd1.len
    have hlast : ∀ {w2 : World} {zs : List El}, Dt L w2 zs → PdI a b xs a' b' zs → Ext (At1 L.g) w w2 → ∀ w' ys', Dt L w' ys' → Sw a' b' zs ys' → Srt ltE a' b' ys' → Ext (At1 L.g) w2 w' → K (.tuple [].toArray) w' :=
      fun hd2 hI2 e2 w' ys' hd' hs' ho' e' => hK w' ys' hd' (hI2.step (by omega) hs').sw ((hI2.step (by omega) hs').done ho') (e2.trans e')
    refine pur (sub64 (c := ((b' - a' : Nat) : Int)) (by omega) (by omega) (by omega)) (pur (bin_leq _ _ _) (condD (fun _ => ?_) (fun hgt => ?_)))
    · exact cIns hE hd1 h2 (by omega) (hlast hd1 hI1 e1)
    have h12 : a' + 13 ≤ b' := by omega
    refine pur (bin_eql _ _ _) (condD (fun _ => ?_) (fun hne => ?_))
    · exact cHeap hE hd1 (by omega) (by omega) (hlast hd1 hI1 e1)
    refine join1 (fun v w' => ∃ (l : Nat) (zs : List El), v = .int .i64 (l : Int) ∧ l ≤ 1000 ∧ Dt L w' zs ∧ PdI a b xs a' b' zs ∧ Ext (At1 L.g) w w') ?_ fun J1 hJ1 => ?_
    · rintro _ w2 ⟨l, zs, rfl, hl, hd2, hI2, e2⟩
      have hzl := hd2.len
      refine cPiv hE hd2 (by omega) (by omega) fun w3 p hint hd3 e3 hp1 hp2 => ?_
      refine pur (extract_0 _ _) (pur (extract_1 _ _ _) ?_)
      refine join2 (fun x y w' => ∃ (p : Nat) (h : Int) (zs : List El), x = .int .i64 (p : Int) ∧ y = .int .i64 h ∧ a' ≤ p ∧ p < b' ∧ Dt L w' zs ∧ PdI a b xs a' b' zs ∧ Ext (At1 L.g) w w') ?_ fun J2 hJ2 => ?_
      · rintro _ _ w4 ⟨p, hint, zs, rfl, rfl, hp1, hp2, hd4, hI4, e4⟩
        have hzl := hd4.len
        refine join0 (fun w' => ∃ zs, Dt L w' zs ∧ PdI a b xs a' b' zs ∧ Ext (At1 L.g) w w') ?_ fun J3 hJ3 => ?_
        · rintro w5 ⟨zs, hd5, hI5, e5⟩
          have hzl := hd5.len
          obtain ⟨pv, hpv⟩ := getN (xs := zs) (i := p) (by omega)
          refine join1 (fun t w' => w5.drew = w' ∧ ∃ c : Bool, t = .bool c ∧ (c = true → 0 < a' ∧ ∃ x, zs[a' - 1]? = some x ∧ ltE x pv = false)) ?_ fun J4 hJ4 => ?_
          · rintro _ _ ⟨rfl, c, rfl, hc⟩
            refine condB (fun h => ?_) (fun h => ?_)
            · obtain ⟨h0, x, hx, hxp⟩ := hc h
              refine cPeq hE hd5.drew hp1 hp2 (by omega) hpv fun w6 zs6 m hd6 hq e6 => ?_
              exact hL0 (m, b', l, wb, wp, zs6) _ _ _ _ _ _ ⟨rfl, rfl, rfl, rfl, rfl, hl, hd6, hI5.same (by omega) h0 hx hxp ⟨p, hp1, hp2, hpv⟩ hq, e5.trans ((Ext.drew _).trans e6)⟩ (by have := hq.am; have := hq.mb; simp only; omega)
            · refine cPart hE hd5.drew hp1 hp2 (by omega) fun w6 zs6 m c hd6 hq e6 => ?_
              have hI6 := hI5.step (by omega) hq.sw
              have hm1 := hq.am; have hm2 := hq.mb
              have hz6 := hd6.len
              have hpa := hq.pat
              have e06 : Ext (At1 L.g) w w6 := e5.trans ((Ext.drew _).trans e6)
              refine pur (extract_0 _ _) (pur (extract_1 _ _ _) ?_)
              refine pur (sub64 (c := ((m - a' : Nat) : Int)) (by omega) (by omega) (by omega)) (pur (sub64 (c := ((b' - m : Nat) : Int)) (by omega) (by omega) (by omega)) (pur (quoN (b' - a') 8 (by decide) (by omega)) (pur (bin_lss _ _ _) (condD (fun hlt => ?_) (fun hge => ?_)))))
              · refine pur (bin_geq _ _ _) ?_
                refine ih (a := a') (b := m) (lim := l) (by omega) hd6 hm1 (by omega) hl (LeAll.sub hI6.lo (by omega) (Nat.le_refl _) (Nat.le_refl _) (by omega)) fun w7 zs7 hd7 hs7 ho7 e7 => ?_
                refine pur (add64 (c := ((m + 1 : Nat) : Int)) (by omega) (by omega) (by omega)) ?_
                exact hL0 (m + 1, b', l, _, c, zs7) _ _ _ _ _ _ ⟨rfl, rfl, rfl, rfl, rfl, hl, hd7, (hI6.step (by omega) (hs7.mono (Nat.le_refl _) (by omega) (by omega))).left hm1 hm2 (hpa.left hs7) ho7, e06.trans e7⟩ (by simp only; omega)
              · refine pur (bin_geq _ _ _) (pur (add64 (c := ((m + 1 : Nat) : Int)) (by omega) (by omega) (by omega)) ?_)
                have hlo2 : LeAll ltE (m + 1 - 1) (m + 1) (m + 1) b' zs6 := fun i j u v k1 k2 k3 k4 hu hv => by
                  obtain ⟨pv', q1, q2, q3⟩ := hpa
                  have : i = m := by omega
                  subst this
                  rw [q1] at hu; cases hu
                  exact q3 j v k3 k4 hv
                refine ih (a := m + 1) (b := b') (lim := l) (by omega) hd6 (by omega) (by omega) hl hlo2 fun w7 zs7 hd7 hs7 ho7 e7 => ?_
                exact hL0 (a', m, l, _, c, zs7) _ _ _ _ _ _ ⟨rfl, rfl, rfl, rfl, rfl, hl, hd7, (hI6.step (by omega) (hs7.mono (by omega) (Nat.le_refl _) (by omega))).right hm1 hm2 (hpa.right hs7) ho7, e06.trans e7⟩ (by simp only; omega)
          · refine draw (fun w' => Dt L w' zs) hd5.drew (pur (bin_gtr _ _ _) (condD (fun h0 => ?_) (fun _ => ?_)))
            · obtain ⟨x, hx⟩ := getN (xs := zs) (i := a' - 1) (by omega)
              refine pur (sub64 (c := ((a' - 1 : Nat) : Int)) (by omega) (by omega) (by omega)) (pur (hd5.idx (by omega)) (pur (hd5.idx (by omega)) (heldC (fun w' h => h.cell hx) (heldC (fun w' h => h.cell hpv) ?_))))
              rw [hE]
              refine cless (pur (not_b _) (pur (pick_b _ _ _) (hJ4 _ _ ⟨rfl, !ltE x pv, by cases ltE x pv <;> rfl, fun h => ⟨by omega, x, hx, by simpa using h⟩⟩)))
            · exact pur (pick_b _ _ _) (hJ4 _ _ ⟨rfl, false, rfl, fun h => by cases h⟩)
        · have hpins : ∀ (c : Bool), CondS (.bool c) (CallS Try.prog 79 [L.v, .int .i64 (a' : Int), .int .i64 (b' : Int)].toArray (fun t72 w => CondS t72 (K (Value.tuple [].toArray) w) (J3 w)) w4) (J3 w4) := fun c => by
            refine condB (fun _ => ?_) (fun _ => hJ3 _ ⟨zs, hd4, hI4, e4⟩)
            refine cPins hE hd4 (by omega) (by omega) (LeAll.sub hI4.lo (by omega) (Nat.le_refl _) (Nat.le_refl _) h3) fun w5 zs5 c hd5 hs5 ho5 e5 => condB (fun h => ?_) (fun h => ?_)
            · exact hlast hd4 hI4 e4 w5 zs5 hd5 hs5 (ho5 h) e5
            · exact hJ3 _ ⟨zs5, hd5, hI4.step (by omega) hs5, e4.trans e5⟩
          refine join1 (fun t w' => w4 = w' ∧ (wb = true → t = .bool wp)) ?_ fun J6 hJ6 => ?_
          · rintro t _ ⟨rfl, ht⟩
            refine pur (pick_b _ _ _) ?_
            have hpk : (if wb = true then t else .bool false) = .bool (wb && wp) := by
              cases wb with
              | true => rw [if_pos rfl, ht rfl]; rfl
              | false => rw [if_neg (by simp)]; rfl
            rw [hpk]
            refine join1 (fun t w' => w4 = w' ∧ ((wb && wp) = true → ∃ c : Bool, t = .bool c)) ?_ fun J7 hJ7 => ?_
            · rintro t2 _ ⟨rfl, ht2⟩
              refine pur (pick_b _ _ _) ?_
              cases hwp : (wb && wp) with
              | true =>
                obtain ⟨c, rfl⟩ := ht2 hwp
                rw [if_pos rfl]; exact hpins c
              | false => rw [if_neg (by simp)]; exact hpins false
            · rw [ifB_eq]
              cases hwp : (wb && wp) with
              | true => rw [if_pos rfl]; exact pur (bin_eql _ _ _) (hJ7 _ _ ⟨rfl, fun _ => ⟨_, rfl⟩⟩)
              | false => rw [if_neg (by simp)]; exact hJ7 _ _ ⟨rfl, fun h => by rw [hwp] at h; cases h⟩
          · rw [ifB_eq]
            cases wb with
            | true => rw [if_pos rfl]; exact hJ6 _ _ ⟨rfl, fun _ => rfl⟩
            | false => rw [if_neg (by simp)]; exact hJ6 _ _ ⟨rfl, fun h => by cases h⟩
      · refine pur (bin_eql _ _ _) (condD (fun _ => ?_) (fun _ => hJ2 _ _ _ ⟨p, hint, zs, rfl, rfl, hp1, hp2, hd3, hI2, e2.trans e3.no⟩))
        refine cRev hE hd3 h2 (by omega) fun w4 zs4 hd4 hs4 e4 => ?_
        refine pur (sub64 (c := ((b' - 1 : Nat) : Int)) (by omega) (by omega) (by omega)) (pur (sub64 (c := ((p - a' : Nat) : Int)) (by omega) (by omega) (by omega)) (pur (sub64 (c := ((b' - 1 - (p - a') : Nat) : Int)) (by omega) (by omega) (by omega)) ?_))
        exact hJ2 _ _ _ ⟨b' - 1 - (p - a'), 1, zs4, rfl, rfl, by omega, by omega, hd4, hI2.step (by omega) hs4, e2.trans (e3.no.trans e4)⟩
    · refine pur (not_b _) (condB (fun _ => ?_) (fun _ => hJ1 _ _ ⟨lim', ys, rfl, hlim1, hd1, hI1, e1⟩))
      refine cBrk hE hd1 (by omega) (by omega) fun w2 zs2 hd2 hs2 e2 => ?_
      refine pur (sub64 (c := ((lim' - 1 : Nat) : Int)) (by omega) (by omega) (by omega)) (hJ1 _ _ ⟨lim' - 1, zs2, rfl, by omega, hd2, hI1.step (by omega) hs2, e1.trans e2⟩)
end Go.Proofs.Ytambcnlkdnmekaa
/-! Sorting in place: Sort. -/
namespace Go.Proofs.Ytambcnlkdnmekaa
open Go SG Go.RowKit Go.Lib
set_option linter.unusedVariables false
set_option maxRecDepth 4000
set_option linter.unusedSimpArgs false

theorem cLenC0 {K : Value → World → Prop} {w : World} (hK : ∀ l : Nat, l ≤ 8 → K (.int .i64 (l : Int)) w) : CallS Try.prog 84 #[.int .u64 0] K w := by
  refine s84_call hm ?_
  unfold s84
  refine join2 (fun p q w' => w = w' ∧ p = .int .u64 0 ∧ q = .int .i64 0) ?_ fun J0 hJ0 => ?_
  · rintro _ _ _ ⟨rfl, rfl, rfl⟩
    refine join2 (fun p q w' => w = w' ∧ p = .int .u64 0 ∧ q = .int .i64 0) ?_ fun J1 hJ1 => ?_
    · rintro _ _ _ ⟨rfl, rfl, rfl⟩
      refine join2 (fun p q w' => w = w' ∧ p = .int .u64 0 ∧ q = .int .i64 0) ?_ fun J2 hJ2 => ?_
      · rintro _ _ _ ⟨rfl, rfl, rfl⟩
        refine pur ((conv_int _ _ _).trans (by rw [wu8' (by omega) (by omega)])) ?_
        obtain ⟨v, hv, hv2⟩ := tabOf0 (s := _) (by kernel_rfl)
        refine pur hv (pur ((conv_int _ _ _).trans (by rw [wi64 (by omega) (by omega)])) (pur (add64 (c := ((v : Nat) : Int)) (by omega) (by omega) (by omega)) (hK _ hv2)))
      · exact pur (bin_geq _ _ _) (condF (by decide) (hJ2 _ _ _ ⟨rfl, rfl, rfl⟩))
    · exact pur (bin_geq _ _ _) (condF (by decide) (hJ1 _ _ _ ⟨rfl, rfl, rfl⟩))
  · exact pur (bin_geq _ _ _) (condF (by decide) (hJ0 _ _ _ ⟨rfl, rfl, rfl⟩))
theorem cLen0 {K : Value → World → Prop} {w : World} (hK : ∀ l : Nat, l ≤ 8 → K (.int .i64 (l : Int)) w) : CallS Try.prog 72 #[.int .u64 0] K w := by
  refine s72_call hm ?_
  unfold s72
  exact condB (fun h => by cases h) (fun _ => cLenC0 hK)
/-- a row of elements is put in order -/
theorem cSort {L : Lcn El} (hE : L.enc = encE) {w : World} {xs : List El} (hd : Dt L w xs) {K : Value → World → Prop}
    (hK : ∀ w' ys, Dt L w' ys → ys.Perm xs → Asc ltE ys → Ext (At1 L.g) w w' → K (.tuple [].toArray) w') : CallS Try.prog 66 #[L.v] K w := by
  have hbig := L.big
  have hlen := hd.len
  refine s66_call hm ?_
  unfold s66
  have go : ∀ l : Nat, l ≤ 1000 → CallS Try.prog 71 [L.v, .int .i64 0, .int .i64 (L.n : Int), .int .i64 (l : Int)].toArray (fun t10 w => K (Value.tuple [].toArray) w) w := fun l hl => by
    refine cPdq hE (L.n - 0) (a := 0) (lim := l) (Nat.le_refl _) hd (Nat.zero_le _) (Nat.le_refl _) hl (fun i j u v h1 h2 => by omega) fun w' ys h1 h2 h3 h4 => hK w' ys h1 h2.perm ?_ h4
    exact Srt.asc (by rw [h1.len]; exact h3)
  refine pur (v := .int .i64 (L.n : Int)) rfl (pur ((conv_int _ _ _).trans (by rw [wu64 (by omega) (by omega)])) ?_)
  by_cases hn : L.n = 0
  · rw [show ((L.n : Nat) : Int) = 0 by omega]
    have := go
    rw [show ((L.n : Nat) : Int) = 0 by omega] at this
    exact cLen0 fun l hl => this l (by omega)
  · exact cLen L.n (by omega) (by omega) fun l hl => go l (by
      refine Nat.le_of_not_lt fun h => ?_
      have : 2 ^ 65 ≤ 2 ^ l := Nat.pow_le_pow_right (by decide) (by omega)
      omega)
/-- nothing is in order -/
theorem cSort0 {v : Value} (hv : lenSliceV v = some (.int .i64 0)) {w : World} {K : Value → World → Prop} (hK : K (.tuple [].toArray) w) : CallS Try.prog 66 #[v] K w := by
  refine s66_call hm ?_
  unfold s66
  refine pur hv (pur ((conv_int _ _ _).trans (by rw [wu64 (by omega) (by omega)])) (cLen0 fun l _ => ?_))
  refine s71_call hm ?_
  unfold s71
  refine loop5 (σ := Unit) (fun _ x y z p q w' => x = .int .i64 0 ∧ y = .int .i64 0 ∧ w = w') (fun _ => 0) () ⟨rfl, rfl, rfl⟩ ?_
  rintro _ _ _ z p q _ ⟨rfl, rfl, rfl⟩ L0 hL0
  refine pur (sub64 (c := 0) (by omega) (by omega) (by omega)) (pur (bin_leq _ _ _) (condT (by decide) ?_))
  refine s74_call hm ?_
  unfold s74
  refine pur (add64 (c := 1) (by omega) (by omega) (by omega)) ?_
  refine loop1 (σ := Unit) (fun _ x w' => x = .int .i64 1 ∧ w' = w) (fun _ => 0) () ⟨rfl, rfl⟩ ?_
  rintro _ _ _ ⟨rfl, rfl⟩ L1 hL1
  exact pur (bin_lss _ _ _) (condF (by decide) hK)
end Go.Proofs.Ytambcnlkdnmekaa
/-! Rules: cells laid over a part of a block, clear. No program stands here. -/
namespace SG
open Go Go.RowKit Go.Lib
set_option linter.unusedSimpArgs false
set_option linter.unusedVariables false

theorem setRow_blk {w : World} {g : Nat} {t : TypeId} {cs : List Value} (h : Blk w g t cs) (cs' : List Value) : Blk (w.setRow g cs'.toArray) g t cs' ∧ Ext (At1 g) w (w.setRow g cs'.toArray) ∧ (w.setRow g cs'.toArray).heap.size = w.heap.size :=
  ⟨setRow_heap w g _ _ t (0, 0) h, ⟨rfl, rfl, rfl, by simp, fun b _ hn => setRow_other w g b _ fun e => hn (by rw [e]; rfl)⟩, by simp⟩
/-- cells laid over a part of a block -/
theorem store_cells {P : Program} {w : World} {g o : Nat} {t : TypeId} {cs vs : List Value} (h : Blk w g t cs) (hl : o + vs.length ≤ cs.length) (h1 : ∀ v ∈ vs, v.oneCell' = true) :
    ∃ w', (storeCells ⟨g, o, none⟩ vs).run P w = .ok () w' ∧ Blk w' g t (cs.take o ++ vs ++ cs.drop (o + vs.length)) ∧ Ext (At1 g) w w' ∧ w'.heap.size = w.heap.size := by
  have hr := run_storeCells_at P g o t vs 0 cs.toArray w h (by simpa using hl) h1
  simp only [Nat.add_zero] at hr
  obtain ⟨a, b, c⟩ := setRow_blk h (cs.take o ++ vs ++ cs.drop (o + vs.length))
  exact ⟨_, hr, a, b, c⟩
theorem zeroCells_one (z : Value) (n : Nat) : (Builtin.zeroCells #[z] n).toList = List.replicate n z := by
  rw [List.eq_replicate_iff]
  refine ⟨by simp [Builtin.zeroCells], fun v hv => ?_⟩
  simp only [Builtin.zeroCells, Array.toList_map, List.mem_map] at hv
  obtain ⟨i, _, rfl⟩ := hv
  simp [Nat.mod_one]
theorem clearB {P : Program} {t e : TypeId} {bytes : Nat} {z : Value} (hT : ElemT P t e 1 bytes z) (hz1 : z.oneCell' = true) (hzc : z.cells = #[z]) {w : World} {g o n c : Nat} {tt : TypeId} {cs : List Value} (h : Blk w g tt cs) (hl : o + n ≤ cs.length) {ty : TypeId} {K : Value → World → Prop}
    (hK : ∀ w', Blk w' g tt (cs.take o ++ List.replicate n z ++ cs.drop (o + n)) → Ext (At1 g) w w' → w'.heap.size = w.heap.size → K (.tuple #[]) w') : RunS P (Builtin.clear_ #[t] ty [.slice (some ⟨g, o, none⟩) n c].toArray) K w := by
  obtain ⟨i, hi, hz, hsz, hb⟩ := info_parts hT.info
  cases n with
  | zero =>
    refine runS (v := .tuple #[]) (w' := w) (by simp [Builtin.clear_, run_underlying hT.under]) (hK w (by simpa using h) (Ext.refl _ _) rfl)
  | succ n =>
    obtain ⟨w', hr, hb', he, hs⟩ := store_cells (P := P) (o := o) (vs := List.replicate (n + 1) z) h (by simpa using hl) (fun v hv => by rw [List.eq_of_mem_replicate hv]; exact hz1)
    refine runS (v := .tuple #[]) (w' := w') ?_ (hK w' (by simpa using hb') he hs)
    simp [Builtin.clear_, run_underlying hT.under, zeroValue, typeInfo, hi, hz, hzc, zeroCells_one, hr]
end SG
/-! Sorting in place: Compact. -/
namespace Go.Proofs.Ytambcnlkdnmekaa
open Go SG Go.RowKit Go.Lib
set_option linter.unusedVariables false
set_option maxRecDepth 4000
set_option linter.unusedSimpArgs false

/-- of the first i places those that are the first or differ from the one before -/
def dd (xs : List El) (i : Nat) : List El := (List.range i).filterMap fun j => if j = 0 ∨ xs[j]? ≠ xs[j - 1]? then xs[j]? else none
theorem dd_keep {xs : List El} {i : Nat} {x : El} (h : i = 0 ∨ xs[i]? ≠ xs[i - 1]?) (hx : xs[i]? = some x) : dd xs (i + 1) = dd xs i ++ [x] := by
  unfold dd
  rw [List.range_succ, List.filterMap_append]
  congr 1
  simp only [List.filterMap_cons, List.filterMap_nil]
  rw [if_pos h, hx]
theorem dd_skip {xs : List El} {i : Nat} (h0 : i ≠ 0) (h : xs[i]? = xs[i - 1]?) : dd xs (i + 1) = dd xs i := by
  unfold dd
  rw [List.range_succ, List.filterMap_append]
  simp only [List.filterMap_cons, List.filterMap_nil]
  rw [if_neg (by rintro (h' | h'); exact h0 h'; exact h' h)]
  simp
theorem dd_len (xs : List El) (i : Nat) : (dd xs i).length ≤ i := by
  have := List.length_filterMap_le (fun j => if j = 0 ∨ xs[j]? ≠ xs[j - 1]? then xs[j]? else none) (List.range i)
  rwa [List.length_range] at this
/-- all that is there is among those that stay -/
theorem dd_mem {xs : List El} {x : El} : ∀ {i j : Nat}, j < i → xs[j]? = some x → x ∈ dd xs i := by
  intro i j
  induction j with
  | zero =>
    intro h hx
    exact List.mem_filterMap.2 ⟨0, by simpa using h, by rw [if_pos (.inl rfl)]; exact hx⟩
  | succ j ih =>
    intro h hx
    by_cases he : xs[j + 1]? = xs[j]?
    · exact ih (by omega) (by rw [← he]; exact hx)
    · exact List.mem_filterMap.2 ⟨j + 1, by simpa using h, by rw [if_pos (.inr (by simpa using he))]; exact hx⟩
theorem dd_of {xs : List El} {x : El} {i : Nat} (h : x ∈ dd xs i) : x ∈ xs := by
  obtain ⟨j, _, hj⟩ := List.mem_filterMap.1 h
  split at hj
  · exact List.mem_of_getElem? hj
  · cases hj
/-- what stays of a row in order rises -/
theorem dd_rise {xs : List El} (h : Asc ltE xs) (i : Nat) : (dd xs i).Pairwise fun u v => ltE u v = true := by
  unfold dd
  rw [List.pairwise_filterMap]
  refine List.Pairwise.imp_of_mem ?_ (List.pairwise_lt_range (n := i))
  intro a b ha hb hab u hu v hv
  split at hu
  · split at hv
    · rename_i hb2
      have hge : ∀ {p q : Nat} {y z : El}, p ≤ q → xs[p]? = some y → xs[q]? = some z → ltE z y = false := fun {p q y z} hpq hy hz => by
        rcases Nat.lt_or_eq_of_le hpq with hlt | rfl
        · have hq := (List.getElem?_eq_some_iff.1 hz).1
          have := List.pairwise_iff_getElem.1 h p q (by omega) hq hlt
          rw [(List.getElem?_eq_some_iff.1 hy).2, (List.getElem?_eq_some_iff.1 hz).2] at this
          exact this
        · rw [hy] at hz; cases hz; exact linE.irr _
      have hbl := (List.getElem?_eq_some_iff.1 hv).1
      obtain ⟨y, hy⟩ := getN (xs := xs) (i := b - 1) (by omega)
      have h1 : ltE y u = false := hge (show a ≤ b - 1 by omega) hu hy
      have h2 : ltE v y = false := hge (show b - 1 ≤ b by omega) hy hv
      rcases hb2 with h0 | hne
      · omega
      · cases hyv : ltE y v with
        | true => exact linE.le_lt h1 hyv
        | false =>
          have : y = v := linE.tri _ _ hyv h2
          subst this
          rw [hy, hv] at hne; exact absurd rfl hne
    · cases hv
  · cases hu

set_option maxHeartbeats 400000 in
theorem cCompact {L : Lcn El} (hE : L.enc = encE) {w : World} {xs : List El} (hd : Dt L w xs) (hcap : L.n ≤ L.cap) {K : Value → World → Prop}
    (hK : ∀ w' rest, Blk w' L.g L.t (L.pre ++ (dd xs L.n).map L.enc ++ rest) → (dd xs L.n).length + rest.length = L.n + L.post.length → Ext (At1 L.g) w w' → K (.slice (some ⟨L.g, L.pre.length, none⟩) (dd xs L.n).length L.cap) w') :
    CallS Try.prog 67 #[L.v] K w := by
  have hbig := L.big
  have hlen := hd.len
  refine s67_call hm ?_
  unfold s67
  have hlv : lenSliceV L.v = some (.int .i64 (L.n : Int)) := rfl
  have hsame : dd xs L.n = xs → ∀ w', Dt L w' xs → Ext (At1 L.g) w w' → K L.v w' := fun h w' hd' e' => by
    have := hK w' L.post (by rw [h]; exact hd'.blk) (by rw [h]; omega) e'
    rw [h, hlen] at this
    exact this
  refine pur hlv (pur (bin_lss _ _ _) (condD (fun hlt => ?_) (fun hge => ?_)))
  · refine hsame ?_ w hd (Ext.refl _ _)
    rcases Nat.eq_zero_or_pos L.n with h0 | h0
    · have : xs = [] := List.eq_nil_of_length_eq_zero (by omega)
      rw [h0, this]; rfl
    · have h1 : L.n = 1 := by omega
      obtain ⟨x, rfl⟩ : ∃ x, xs = [x] := List.length_eq_one_iff.1 (by omega)
      rw [h1]; rfl
  have hn2 : 2 ≤ L.n := by omega
  refine join0 (fun w' => dd xs L.n = xs ∧ Dt L w' xs ∧ Ext (At1 L.g) w w') (fun w' ⟨h1, h2, h3⟩ => hsame h1 w' h2 h3) fun J0 hJ0 => ?_
  refine loop1 (σ := Nat) (fun k v w' => v = .int .i64 (k : Int) ∧ 1 ≤ k ∧ k ≤ L.n ∧ dd xs k = xs.take k ∧ Dt L w' xs ∧ Ext (At1 L.g) w w') (fun k => L.n - k) 1 ⟨rfl, Nat.le_refl _, by omega, ?_, hd, Ext.refl _ _⟩ ?_
  · obtain ⟨x, hx⟩ := getN (xs := xs) (i := 0) (by omega)
    rw [dd_keep (.inl rfl) hx, List.take_add_one, hx]
    rfl
  rintro k _ w1 ⟨rfl, hk1, hk2, hdd, hd1, e1⟩ L1 hL1
  refine pur hlv (pur (bin_lss _ _ _) (condD (fun hlt => ?_) (fun hge => ?_)))
  · obtain ⟨x, hx⟩ := getN (xs := xs) (i := k) (by omega)
    obtain ⟨y, hy⟩ := getN (xs := xs) (i := k - 1) (by omega)
    refine join1 (fun v w' => w1.drew = w' ∧ v = .int .i64 (k : Int) ∧ x ≠ y) ?_ fun J2 hJ2 => ?_
    · rintro _ _ ⟨rfl, rfl, hxy⟩
      refine pur (add64 (c := ((k + 1 : Nat) : Int)) (by omega) (by omega) (by omega)) (hL1 (k + 1) _ _ ⟨rfl, by omega, by omega, ?_, hd1.drew, e1.trans (Ext.drew _)⟩ (by omega))
      rw [dd_keep (.inr (by rw [hx, hy]; simpa using hxy)) hx, hdd, List.take_add_one, hx]
      rfl
    refine draw (fun w' => Dt L w' xs) hd1.drew (pur (hd1.idx (by omega)) (pur (sub64 (c := ((k - 1 : Nat) : Int)) (by omega) (by omega) (by omega)) (pur (hd1.idx (by omega)) (heldC (fun w' h => h.cell hx) (heldC (fun w' h => h.cell hy) ?_)))))
    rw [hE]
    refine pur (eqE x y) (condD (fun hxy => ?_) (fun hxy => hJ2 _ _ ⟨rfl, rfl, hxy⟩))
    subst hxy
    have hsl : ∀ i : Nat, i < L.n → sliceV 1 L.v (some (.int .i64 (i : Int))) none = some (.slice (some ⟨L.g, L.pre.length + i, none⟩) (L.n - i) (L.cap - i)) := fun i hi => by
      have h1 : (0 : Int) ≤ (i : Int) ∧ (i : Int) ≤ (L.n : Int) := by omega
      unfold Lcn.v
      simp only [sliceV, boundV, Option.bind_some]
      rw [if_pos h1]
      simp only [Option.bind_some, Int.toNat_natCast]
      rw [if_neg (by omega), Option.map_some, Addr.add_mk, Nat.mul_one]
    refine pur (hsl k (by omega)) ?_
    refine join1 (fun v w' => ∃ (m : Nat) (zs : List El), v = .int .i64 (m : Int) ∧ m < L.n ∧ Dt L w' zs ∧ (dd xs L.n) = zs.take m ∧ m = (dd xs L.n).length ∧ Ext (At1 L.g) w w') ?_ fun J4 hJ4 => ?_
    · rintro _ w2 ⟨m, zs, rfl, hm1, hd2, hz1, hz2, e2⟩
      have hzl := hd2.len
      refine pur (hsl m hm1) (clearB TCE rfl rfl hd2.blk (by simp; omega) fun w3 b3 e3 _ => ?_)
      have h1 : (0 : Int) ≤ (m : Int) ∧ (m : Int) ≤ (L.cap : Int) := by omega
      refine pur (v := .slice (some ⟨L.g, L.pre.length, none⟩) m L.cap) ?_ ?_
      · unfold Lcn.v
        simp only [sliceV, boundV, Option.bind_some]
        rw [if_pos h1]
        simp only [Option.bind_some, Int.toNat_natCast, Nat.sub_zero]
        rw [if_neg (by omega), Option.map_some, Addr.add_mk]
        simp
      · rw [hz2]
        have htk : (L.pre ++ zs.map L.enc ++ L.post).take (L.pre.length + m) = L.pre ++ (dd xs L.n).map L.enc := by
          rw [List.append_assoc, List.take_length_add_append, List.take_append_of_le_length (by simp; omega), ← List.map_take, ← hz1]
        rw [htk, List.append_assoc] at b3
        refine hK w3 _ b3 ?_ (e2.trans e3)
        simp; omega
    refine loop2 (σ := Nat × Nat × List El) (fun s a b w' => a = .int .i64 (s.1 : Int) ∧ b = .int .i64 (s.2.1 : Int) ∧ 1 ≤ s.2.1 ∧ k + s.2.1 ≤ L.n ∧ Dt L w' s.2.2 ∧ dd xs (k + s.2.1) = s.2.2.take s.1 ∧ s.1 = (dd xs (k + s.2.1)).length ∧ s.1 < k + s.2.1 ∧ (∀ j, s.1 ≤ j → s.2.2[j]? = xs[j]?) ∧ Ext (At1 L.g) w w') (fun s => L.n - s.2.1) (k, 1, xs)
      ⟨rfl, rfl, Nat.le_refl _, by simp only; omega, hd1.drew, ?_, ?_, by simp, fun _ _ => rfl, e1.trans (Ext.drew _)⟩ ?_
    · simp only; rw [dd_skip (by omega) (by rw [hx, hy]), hdd]
    · simp only; rw [dd_skip (by omega) (by rw [hx, hy]), hdd, List.length_take]; omega
    rintro ⟨m, i, zs⟩ _ _ w2 ⟨rfl, rfl, hi1, hi2, hd2, hz1, hz2, hz3, hz4, e2⟩ L5 hL5
    simp only at hi1 hi2 hd2 hz1 hz2 hz3 hz4 hL5 ⊢
    have hzl := hd2.len
    refine pur (v := .int .i64 ((L.n - k : Nat) : Int)) rfl (pur (bin_lss _ _ _) (condD (fun hlt => ?_) (fun hge => ?_)))
    · obtain ⟨u, hu⟩ := getN (xs := xs) (i := k + i) (by omega)
      obtain ⟨v, hv⟩ := getN (xs := xs) (i := k + i - 1) (by omega)
      have hu' : zs[k + i]? = some u := by rw [hz4 _ (by omega)]; exact hu
      have hv' : zs[k + i - 1]? = some v := by rw [hz4 _ (by omega)]; exact hv
      have hix : ∀ j : Nat, j < L.n - k → indexAddrV 1 (.slice (some ⟨L.g, L.pre.length + k, none⟩) (L.n - k) (L.cap - k)) (.int .i64 (j : Int)) = some (.pointer (some ⟨L.g, L.pre.length + (k + j), none⟩)) := fun j hj => by
        rw [index_sl ⟨by omega, by omega⟩, Addr.add_mk]
        simp [Nat.add_assoc]
      refine join1 (fun a w' => ∃ (m' : Nat) (zs' : List El), a = .int .i64 (m' : Int) ∧ Dt L w' zs' ∧ dd xs (k + i + 1) = zs'.take m' ∧ m' = (dd xs (k + i + 1)).length ∧ m' < k + i + 1 ∧ (∀ j, m' ≤ j → zs'[j]? = xs[j]?) ∧ Ext (At1 L.g) w w') ?_ fun J6 hJ6 => ?_
      · rintro _ w3 ⟨m', zs', rfl, hd3, h1, h2, h3, h4, e3⟩
        exact pur (add64 (c := ((i + 1 : Nat) : Int)) (by omega) (by omega) (by omega)) (hL5 (m', i + 1, zs') _ _ _ ⟨rfl, rfl, by simp only; omega, by simp only; omega, hd3, h1, h2, h3, h4, e3⟩ (by simp only; omega))
      · refine draw (fun w' => Dt L w' zs) hd2.drew (pur (hix i (by omega)) (pur (sub64 (c := ((i - 1 : Nat) : Int)) (by omega) (by omega) (by omega)) (pur (hix (i - 1) (by omega)) (heldC (fun w' h => h.cell hu') (heldC (v := L.enc v) (fun w' h => by rw [show k + (i - 1) = k + i - 1 by omega]; exact h.cell hv') ?_)))))
        rw [hE]
        refine pur (neE u v) (condN (fun hne => ?_) (fun heq => ?_))
        · refine pur (hix i (by omega)) (SG.load (S := No) (hd2.drew.cell hu') (pur (hd2.idx (by omega)) (hd2.drew.store (by omega) fun w3 hd3 e3 z3 => ?_)))
          have hkp : dd xs (k + i + 1) = dd xs (k + i) ++ [u] := dd_keep (.inr (by rw [hu, hv]; simpa using hne)) hu
          refine pur (add64 (c := ((m + 1 : Nat) : Int)) (by omega) (by omega) (by omega)) (hJ6 _ _ ⟨m + 1, zs.set m u, rfl, hd3, ?_, ?_, by omega, fun j hj => ?_, e2.trans ((Ext.drew _).trans e3)⟩)
          · rw [hkp, hz1, List.take_add_one, List.getElem?_set_self (by omega), List.take_set_of_le (Nat.le_refl _)]
            rfl
          · rw [hkp, List.length_append, ← hz2]; rfl
          · rw [List.getElem?_set_ne (by omega)]; exact hz4 j (by omega)
        · subst heq
          have hkp : dd xs (k + i + 1) = dd xs (k + i) := dd_skip (by omega) (by rw [hu, hv])
          exact hJ6 _ _ ⟨m, zs, rfl, hd2.drew, by rw [hkp]; exact hz1, by rw [hkp]; exact hz2, by omega, hz4, e2.trans (Ext.drew _)⟩
    · have hin : k + i = L.n := by omega
      rw [hin] at hz1 hz2 hz3
      exact hJ4 _ _ ⟨m, zs, rfl, hz3, hd2, hz1, hz2, e2⟩
  · have hkn : k = L.n := by omega
    subst hkn
    exact hJ0 _ ⟨by rw [hdd, List.take_of_length_le (by omega)], hd1, e1⟩
/-- of nothing nothing stays -/
theorem cCompact0 {v : Value} (hv : lenSliceV v = some (.int .i64 0)) {w : World} {K : Value → World → Prop} (hK : K v w) : CallS Try.prog 67 #[v] K w := by
  refine s67_call hm ?_
  unfold s67
  exact pur hv (pur (bin_lss _ _ _) (condT (by decide) hK))
end Go.Proofs.Ytambcnlkdnmekaa
/-! Rules: a slice of one-cell elements, read. No program stands here. -/
namespace SG
open Go Go.RowKit Go.Lib
set_option linter.unusedSimpArgs false
set_option linter.unusedVariables false

theorem Sl.one {w : World} {x : Value} {m size : Nat} {xs : List Value} (h : Sl w x m size xs) : x.oneCell' = true := by obtain ⟨A, c, rfl, _⟩ := h; rfl
theorem sl_idx1 {w : World} {x : Value} {n : Nat} {xs : List Value} (h : Sl w x n 1 xs) {i : Nat} {v : Value} (hv : xs[i]? = some v) (k : IntKind) :
    ∃ ad, indexAddrV 1 x (.int k (i : Int)) = some (.pointer (some ad)) ∧ x.ownBlock = some ad.block ∧ ∀ w', Sl w' x n 1 xs → w'.cell? ad = some v := by
  have hi : i < n := by
    have := (List.getElem?_eq_some_iff.1 hv).1
    have := h.length
    omega
  obtain ⟨A, c, rfl, hl, hc, h0, hA⟩ := h
  cases A with
  | none => have := h0 rfl; omega
  | some a =>
    refine ⟨a.add (i * 1), ?_, by simp [Value.ownBlock, Addr.add_block], fun w' h' => ?_⟩
    · rw [index_sl ⟨by omega, by omega⟩]; simp
    · obtain ⟨A', c', he, _, _, _, hA'⟩ := h'
      cases he
      rw [Nat.mul_one]
      exact hA' a rfl i v hv
/-- a list that rises is known by what is in it -/
theorem rise_unique {l r : List Nat} (hl : l.Pairwise (· < ·)) (hr : r.Pairwise (· < ·)) (h : ∀ x, x ∈ l ↔ x ∈ r) : l = r := by
  have h1 : l.Nodup := hl.imp fun h => Nat.ne_of_lt h
  have h2 : r.Nodup := hr.imp fun h => Nat.ne_of_lt h
  exact List.Perm.eq_of_pairwise (le := fun a b => a < b) (fun a b _ _ h k => absurd h (Nat.lt_asymm k)) hl hr ((List.perm_ext_iff_of_nodup h1 h2).2 h)

theorem flat_set {α : Type} (f : α → List Value) {size : Nat} (hf : ∀ a, (f a).length = size) (l : List α) {i : Nat} (hi : i < l.length) (a : α) (rest : List Value) :
    (flat f l ++ rest).take (i * size) ++ f a ++ (flat f l ++ rest).drop (i * size + size) = flat f (l.set i a) ++ rest := by
  have hl := flat_length f hf l
  have h1 : i * size + size ≤ (flat f l).length := by rw [hl, ← Nat.succ_mul]; exact Nat.mul_le_mul_right _ hi
  rw [List.take_append_of_le_length (by omega), List.drop_append_of_le_length h1, flat_take f hf, show i * size + size = (i + 1) * size by rw [Nat.succ_mul], flat_drop f hf, List.set_eq_take_append_cons_drop, if_pos hi]
  rw [show l.take i ++ a :: l.drop (i + 1) = (l.take i ++ [a]) ++ l.drop (i + 1) by simp, flat_append, flat_append, flat_one]
  simp only [List.append_assoc]
/-- an element of a row of structs is written -/
theorem row_set {α : Type} {f : α → List Value} {size : Nat} (hf : ∀ a, (f a).length = size) {w : World} {g : Nat} {t : TypeId} {l : List α} {rest : List Value} (h : Blk w g t (flat f l ++ rest)) {i : Nat} (hi : i < l.length) {a : α} (hone : ∀ v ∈ f a, v.oneCell' = true) {K : World → Prop}
    (hK : ∀ w', Blk w' g t (flat f (l.set i a) ++ rest) → Ext (At1 g) w w' → w'.heap.size = w.heap.size → K w') : StoreA size (.pointer (some ⟨g, i * size, none⟩)) (.agg (f a).toArray) K w := by
  have hl := flat_length f hf l
  have h1 : i * size + size ≤ (flat f l).length := by rw [hl, ← Nat.succ_mul]; exact Nat.mul_le_mul_right _ hi
  refine storeA h (hf a) (by rw [List.length_append]; omega) hone fun w' b e z => hK w' ?_ e z
  rwa [flat_set f hf l hi a rest] at b
theorem idx_row {g n c i size : Nat} {k : IntKind} (hi : i < n) : indexAddrV size (.slice (some ⟨g, 0, none⟩) n c) (.int k (i : Int)) = some (.pointer (some ⟨g, i * size, none⟩)) := by
  rw [index_sl ⟨by omega, by omega⟩, Addr.add_mk]; simp
end SG
/-! Sorting in place: rows that the call has made. -/
namespace Go.Proofs.Ytambcnlkdnmekaa
open Go SG Go.RowKit Go.Lib
set_option linter.unusedVariables false
set_option maxRecDepth 4000
set_option linter.unusedSimpArgs false

theorem encE_one (x : El) : (encE x).oneCell' = true := rfl
theorem own_lcn {w : World} {base n : Nat} {v : Value} {xs : List El} (ho : w.ownsRow base 29 1 v n (xs.map encE)) (hn : n ≤ 4611686018427387904) :
    (v = .slice none 0 0 ∧ xs = [] ∧ n = 0) ∨ ∃ L : Lcn El, L.enc = encE ∧ L.v = v ∧ L.n = n ∧ L.n ≤ L.cap ∧ L.t = 29 ∧ L.pre = [] ∧ base ≤ L.g ∧ L.cap ≤ maxLen ∧ n + L.post.length = L.cap ∧ v.ownBlock = some L.g ∧ Dt L w xs := by
  have hlen : xs.length = n := by have := ho.1; simpa using this
  rcases ho.2 with ⟨rfl, rfl⟩ | ⟨g, cap, cur, rfl, hb, hg, hnc, hcm, hcs, htake⟩
  · exact .inl ⟨rfl, List.eq_nil_of_length_eq_zero hlen, rfl⟩
  · refine .inr ⟨⟨g, 29, [], cur.toList.drop n, encE, n, cap, encE_one, hn⟩, rfl, rfl, rfl, hnc, rfl, rfl, hb, hcm, ?_, rfl, ⟨?_, hlen⟩⟩
    · simp; simp at hcs; omega
    · unfold Blk
      rw [List.nil_append, ← htake, Nat.mul_one, List.take_append_drop]
      simpa using hg
/-- a row of the call's own is put in order -/
theorem cSorted {w : World} {base n : Nat} {v : Value} {xs : List El} (ho : w.ownsRow base 29 1 v n (xs.map encE)) (hn : n ≤ 4611686018427387904) {K : Value → World → Prop}
    (hK : ∀ w' ys, w'.ownsRow base 29 1 v n (ys.map encE) → ys.Perm xs → Asc ltE ys → Ext (fun b => v.ownBlock = some b) w w' → K (.tuple [].toArray) w') : CallS Try.prog 66 #[v] K w := by
  rcases own_lcn ho hn with ⟨rfl, rfl, rfl⟩ | ⟨L, hE, rfl, rfl, hcap, ht, hpre, hb, hcm, hpost, hob, hd⟩
  · exact cSort0 rfl (hK w [] ho (List.Perm.refl _) (by simp [Asc]) (Ext.refl _ _))
  · refine cSort hE hd fun w' ys hd' hp ha he => hK w' ys ?_ hp ha (he.mono fun b h _ => by rw [hob, show b = L.g from h])
    have hl := hd'.len
    have hbk := hd'.blk
    rw [ht, hpre, hE] at hbk
    refine ⟨by simpa using hl, .inr ⟨L.g, L.cap, (ys.map encE ++ L.post).toArray, by unfold Lcn.v; rw [hpre]; rfl, hb, by simpa [Blk] using hbk, hcap, hcm, ?_, ?_⟩⟩
    · simp; omega
    · simp [hl]
/-- .. and each element is there once -/
theorem cCompacted {w : World} {base n : Nat} {v : Value} {xs : List El} (ho : w.ownsRow base 29 1 v n (xs.map encE)) (hn : n ≤ 4611686018427387904) {K : Value → World → Prop}
    (hK : ∀ w' v', w'.ownsRow base 29 1 v' (dd xs n).length ((dd xs n).map encE) → v'.ownBlock = v.ownBlock → Ext (fun b => v.ownBlock = some b) w w' → K v' w') : CallS Try.prog 67 #[v] K w := by
  rcases own_lcn ho hn with ⟨rfl, rfl, rfl⟩ | ⟨L, hE, rfl, rfl, hcap, ht, hpre, hb, hcm, hpost, hob, hd⟩
  · exact cCompact0 rfl (hK w _ ho rfl (Ext.refl _ _))
  · have hle := dd_len xs L.n
    refine cCompact hE hd hcap fun w' rest hbk hr he => hK w' _ ⟨by simp, .inr ⟨L.g, L.cap, ((dd xs L.n).map encE ++ rest).toArray, by rw [hpre]; rfl, hb, ?_, by omega, hcm, ?_, ?_⟩⟩ (by rw [hob]; rfl) (he.mono fun b h _ => by rw [hob, show b = L.g from h])
    · rw [ht, hpre, hE] at hbk
      simpa [Blk] using hbk
    · simp; omega
    · simp
end Go.Proofs.Ytambcnlkdnmekaa
/-! Batches: records, their bytes, Check, plain. -/
namespace Go.Proofs.Ytambcnlkdnmekaa
open Go SG Go.RowKit Go.Lib
set_option linter.unusedVariables false
set_option maxRecDepth 4000
set_option linter.unusedSimpArgs false

/-! ### rows of the call's own: what lies from 'base' on is ours -/
def Fr (base : Nat) : Nat → Prop := fun g => base ≤ g
theorem ext_own {w w' : World} {base n : Nat} {e : TypeId} {size : Nat} {v : Value} {xs : List Value} (ho : w.ownsRow base e size v n xs) (h : Ext (fun g => some g = v.ownBlock) w w') : Ext (Fr base) w w' :=
  h.mono fun b hb _ => (ho.lt b hb.symm).1
theorem ext_grown {w w' : World} {base n : Nat} {e : TypeId} {size : Nat} {v : Value} {xs : List Value} (ho : w.ownsRow base e size v n xs) (h : w.grownBy w' v.ownBlock) : Ext (Fr base) w w' :=
  Ext.grown h fun b hb => (ho.lt b hb).1
theorem ext_fr {w w' : World} (h : Ext (Fr w.heap.size) w w') : Ext No w w' := h.mono fun b hb hlt => by unfold Fr at hb; omega
theorem ext_fr' {w w' w'' : World} {base : Nat} (h : Ext No w w') (k : Ext (Fr base) w' w'') (hb : w.heap.size ≤ base) : Ext No w w'' := h.fresh k fun b hh => .inr (Nat.le_trans hb hh)

theorem varint0 (n : Nat) (hn : n < 18446744073709551616) : (varint n).length ≤ 10 := (varint_len hn).2

set_option maxHeartbeats 400000 in
/-- the reference's Varint -/
theorem c28 (n : Nat) (hn : n < 18446744073709551616) {K : Value → World → Prop} {w : World}
    (hK : ∀ v w', w'.ownsRow w.heap.size 5 1 v (varint n).length (byteCells (varint n)) → Ext No w w' → K v w') : CallS Try.prog 28 #[.int .u64 (n : Int)] K w := by
  refine s28_call hm ?_
  unfold s28
  refine build0 T40 fun w1 b1 e1 z1 => ?_
  have ho1 : w1.ownsRow w.heap.size 5 1 (.slice (some ⟨w.heap.size, 0, none⟩) 0 0) 0 (byteCells []) := b1.owns rfl (Nat.le_refl _) (by omega)
  have hfresh : ∀ {v : Value} {w1 w2 : World} {k : Nat} {xs : List Value}, w1.ownsRow w.heap.size 5 1 v k xs → Ext No w w1 → Ext (fun g => some g = v.ownBlock) w1 w2 → Ext No w w2 := fun ho e1 e2 =>
    e1.fresh e2 fun b hb => .inr ((ho.lt b hb.symm).1)
  refine join2 (fun a b w' => ∃ (m : Nat) (l : List UInt8), a = .int .u64 (m : Int) ∧ m < 128 ∧ w'.ownsRow w.heap.size 5 1 b l.length (byteCells l) ∧ Ext No w w' ∧ l ++ [UInt8.ofNat m] = varint n) ?_ ?_
  · rintro a b w' ⟨m, l, rfl, hm, ho, he, hl⟩
    refine pur conv8u ?_
    have hlen : l.length ≤ 10 := by have := (varint_len hn).2; rw [← hl] at this; simp at this; omega
    refine append_byte (b := UInt8.ofNat m) ho rfl he.size (by omega) (by rw [toNat_ofNat8 (by omega)]; congr 1; omega) fun v' w2 ho2 e2 => ?_
    rw [hl] at ho2
    refine hK v' w2 (by rw [← hl]; simpa using (by rw [← hl] at ho2; exact ho2)) (hfresh ho he e2)
  · intro J hJ
    refine loop2 (σ := Nat × List UInt8) (fun s a b w' => a = .int .u64 (s.1 : Int) ∧ s.1 < 18446744073709551616 ∧ w'.ownsRow w.heap.size 5 1 b s.2.length (byteCells s.2) ∧ Ext No w w' ∧ s.2 ++ varint s.1 = varint n) (fun s => s.1)
      (n, []) ⟨rfl, hn, ho1, e1, rfl⟩ ?_
    rintro ⟨m, l⟩ a b w' ⟨rfl, hm, ho, he, hl⟩ L hL
    simp only at hm ho hl hL
    have hlen : l.length ≤ 10 := by have := (varint_len hn).2; rw [← hl] at this; simp at this; omega
    refine pur (bin_geq _ _ _) (condD (fun hge => ?_) (fun hlt => ?_))
    · have hge' : 128 ≤ m := by omega
      have e127 : ((m % 128 : Nat) : Int) % 256 = ((m % 128 : Nat) : Int) := by omega
      refine pur ((bin_and _ _ _).trans (by rw [and127 m hm])) (pur (conv8u.trans (by rw [e127])) (pur (bin_or _ _ _) ?_))
      refine append_byte (b := UInt8.ofNat (m % 128 + 128)) ho rfl he.size (by omega) (by
        have := or128' (m % 128)
        rw [e127] at this
        rw [this, toNat_ofNat8 (by omega), Nat.mod_mod]) fun v' w2 ho2 e2 => ?_
      refine pur ((bin_shr (by decide) (by decide)).trans (by rw [shr7])) ?_
      refine hL (m / 128, l ++ [UInt8.ofNat (m % 128 + 128)]) _ _ _ ⟨rfl, by simp only; omega, by simpa using ho2, hfresh ho he e2, ?_⟩ (by simp only; omega)
      rw [← hl, varint_big hge']; simp
    · refine hJ _ _ _ ⟨m, l, rfl, by omega, ho, he, ?_⟩
      rw [← hl, varint_small (by omega)]

/-- text: a length and the bytes are put behind -/
theorem c56 {w : World} {base n : Nat} {v : Value} {l : List UInt8} {s : ByteArray} {K : Value → World → Prop} (ho : w.ownsRow base 5 1 v n (byteCells l)) (hn : n = l.length) (hb : base ≤ w.heap.size) (hl : l.length ≤ 1000000000) (hs : s.size ≤ 1000000000)
    (hK : ∀ v' w', w'.ownsRow base 5 1 v' (l ++ varint s.size ++ s.data.toList).length (byteCells (l ++ varint s.size ++ s.data.toList)) → Ext (Fr base) w w' → K v' w') :
    CallS Try.prog 56 #[v, .string s] K w := by
  subst hn
  refine s56_call hm ?_
  unfold s56
  have hv := varint0 s.size (by omega)
  refine pur (len_str _) (pur (conv64u (by omega) (by omega)) ?_)
  refine c55 s.size (by omega) fun v1 w1 ho1 e1 => ?_
  have hoa := owns_ext ho e1 fun _ _ hh => hh
  have hb1 := e1.size
  refine append_sl T40 40 hoa (Sl.own ho1) (byteCells_one _) (by omega) (by omega) (by omega) fun v2 w2 ho2 hg2 _ => ?_
  rw [← byteCells_append] at ho2
  have e2 : Ext (Fr base) w1 w2 := ext_grown hoa hg2
  refine append_str T40 Try.underlying9 40 ho2 (by omega) (by have := e2.size; omega) fun v3 w3 ho3 hg3 => ?_
  rw [strCells_eq, ← byteCells_append] at ho3
  refine hK v3 w3 (by simpa [Nat.add_assoc] using ho3) (((e1.no).trans e2).trans (ext_grown ho2 hg3))

/-! ### records -/
structure Rec where
  fam : Nat
  kind : Int
  key : ByteArray
  val : ByteArray
def Rec.cells (r : Rec) : List Value := [.int .u32 (r.fam : Int), .int .i64 r.kind, .string r.key, .string r.val]
def Rec.agg (r : Rec) : Value := .agg r.cells.toArray
theorem Rec.cells_len (r : Rec) : r.cells.length = 4 := rfl
theorem Rec.one (r : Rec) : ∀ v ∈ r.cells, v.oneCell' = true := by simp [Rec.cells, Value.oneCell']
structure Rec.Ok (r : Rec) : Prop where
  fam : r.fam < 4294967296
  key : r.key.size ≤ 140737488351232
  val : r.val.size ≤ 140737488351232
def chk (r : Rec) : Int :=
  if r.kind = 0 then (if 1024 < r.key.size then 2 else 0)
  else if r.kind = 1 then (if 1024 < r.key.size ∨ 16384 < r.val.size then 2 else 0)
  else if r.kind = 2 then (if 1024 < r.key.size ∨ 1024 < r.val.size then 2 else 0)
  else 1
theorem chk_ok {r : Rec} (h : chk r = 0) : (r.kind = 0 ∨ r.kind = 1 ∨ r.kind = 2) ∧ r.key.size ≤ 1024 ∧ (r.kind ≠ 0 → r.val.size ≤ 16384) := by
  unfold chk at h
  split at h
  · rename_i h0; split at h <;> first | omega | exact ⟨.inl h0, by omega, fun hh => absurd h0 hh⟩
  · split at h
    · rename_i h1; split at h <;> first | omega | exact ⟨.inr (.inl h1), by omega, fun _ => by omega⟩
    · split at h
      · rename_i h2; split at h <;> first | omega | exact ⟨.inr (.inr h2), by omega, fun _ => by omega⟩
      · omega

theorem T22 : ElemT Try.prog 22 31 4 48 (.agg #[.int .u32 0, .int .i64 0, .string ⟨#[]⟩, .string ⟨#[]⟩]) := ⟨Try.underlying22, by kernel_rfl, rfl, by decide, by decide⟩

theorem c19 (r : Rec) (hr : r.Ok) {K : Value → World → Prop} {w : World} (hK : ∀ w', Ext No w w' → K (.int .i64 (chk r)) w') : CallS Try.prog 19 #[r.agg] K w := by
  have hk1 := hr.key
  have hk2 := hr.val
  refine s19_call hm ?_
  unfold s19
  refine box fun w1 b1 e1 z1 => ?_
  have b : Blk w1 w.heap.size 31 r.cells := b1
  refine join1 (fun a w' => w1 = w' ∧ ((r.kind = 0 ∧ a = .int .i64 (r.val.size : Int)) ∨ (r.kind = 1 ∧ a = .int .i64 16384) ∨ (r.kind = 2 ∧ a = .int .i64 1024))) ?_ ?_
  · rintro a w' ⟨rfl, hcase⟩
    obtain ⟨m, rfl, hm2⟩ : ∃ m : Int, a = .int .i64 m ∧ (chk r = if (1024 : Int) < r.key.size ∨ m < r.val.size then 2 else 0) := by
      rcases hcase with ⟨h, rfl⟩ | ⟨h, rfl⟩ | ⟨h, rfl⟩
      · exact ⟨_, rfl, by unfold chk; rw [if_pos h]; split <;> split <;> first | rfl | omega⟩
      · exact ⟨_, rfl, by unfold chk; rw [if_neg (by omega), if_pos h]; split <;> split <;> first | rfl | omega⟩
      · exact ⟨_, rfl, by unfold chk; rw [if_neg (by omega), if_neg (by omega), if_pos h]; split <;> split <;> first | rfl | omega⟩
    refine pur (field_ptr _ _ _) (loadB b (v := .string r.key) rfl (pur (len_str _) (pur (bin_gtr _ _ _) ?_)))
    refine join1 (fun a w' => w1 = w' ∧ ((1024 : Int) < r.key.size ∨ a = .bool (decide (m < (r.val.size : Int))))) ?_ ?_
    · rintro a w' ⟨rfl, ha⟩
      by_cases hk : (1024 : Int) < r.key.size
      · refine pur (pick_b _ _ _) ?_
        rw [if_pos (by simpa using hk)]
        refine condT rfl ?_
        have := hK _ e1
        rw [hm2, if_pos (.inl hk)] at this
        exact this
      · obtain rfl := ha.resolve_left hk
        refine pur (pick_b _ _ _) ?_
        rw [if_neg (by simpa using hk)]
        refine condD (fun hv => ?_) (fun hv => ?_)
        · have := hK _ e1
          rw [hm2, if_pos (.inr hv)] at this
          exact this
        · have := hK _ e1
          rw [hm2, if_neg (by omega)] at this
          exact this
    · intro J hJ
      rw [ifB_eq]
      by_cases hk : (1024 : Int) < r.key.size
      · rw [if_neg (by simp [hk])]
        exact hJ _ _ ⟨rfl, .inl hk⟩
      · rw [if_pos (by simp [hk])]
        exact pur (field_ptr _ _ _) (loadB b (v := .string r.val) rfl (pur (len_str _) (pur (bin_gtr _ _ _) (hJ _ _ ⟨rfl, .inr rfl⟩))))
  · intro J hJ
    refine pur (field_ptr _ _ _) (loadB b (v := .int .i64 r.kind) rfl (pur (bin_eql _ _ _) (condD (fun h0 => ?_) (fun h0 => ?_))))
    · exact pur (field_ptr _ _ _) (loadB b (v := .string r.val) rfl (pur (len_str _) (hJ _ _ ⟨rfl, .inl ⟨h0, rfl⟩⟩)))
    · refine pur (bin_eql _ _ _) (condD (fun h1 => ?_) (fun h1 => ?_))
      · exact hJ _ _ ⟨rfl, .inr (.inl ⟨h1, rfl⟩)⟩
      · refine pur (bin_eql _ _ _) (condD (fun h2 => ?_) (fun h2 => ?_))
        · exact hJ _ _ ⟨rfl, .inr (.inr ⟨h2, rfl⟩)⟩
        · have := hK _ e1
          rw [show chk r = 1 by simp [chk, h0, h1, h2]] at this
          exact this

/-- a record's bytes -/
def encRec (r : Rec) : List UInt8 :=
  UInt8.ofNat r.kind.toNat :: (varint r.fam ++ (varint r.key.size ++ r.key.data.toList)) ++ (if r.kind = 0 then [] else varint r.val.size ++ r.val.data.toList)
theorem size_data (s : ByteArray) : s.data.toList.length = s.size := by rw [Array.length_toList]; rfl
theorem encRec_len {r : Rec} (hr : r.Ok) (h : chk r = 0) : (encRec r).length ≤ 20000 := by
  obtain ⟨_, h2, h3⟩ := chk_ok h
  have hf := hr.fam
  have v1 := varint0 r.fam (by omega)
  have v2 := varint0 r.key.size (by omega)
  unfold encRec
  split
  · simp [size_data]; omega
  · rename_i h0
    have := h3 h0
    have v3 := varint0 r.val.size (by omega)
    simp [size_data]; omega

set_option maxHeartbeats 400000 in
theorem c30 (r : Rec) (hr : r.Ok) (hc : chk r = 0) {K : Value → World → Prop} {w : World}
    (hK : ∀ v w', w'.ownsRow w.heap.size 5 1 v (encRec r).length (byteCells (encRec r)) → Ext No w w' → K v w') : CallS Try.prog 30 #[r.agg] K w := by
  obtain ⟨hkind, hkey, hval⟩ := chk_ok hc
  have hf := hr.fam
  have v1 := varint0 r.fam (by omega)
  have v2 := varint0 r.key.size (by omega)
  refine s30_call hm ?_
  unfold s30
  refine box fun w1 b1 e1 z1 => ?_
  have b : Blk w1 w.heap.size 31 r.cells := b1
  have hk0 : 0 ≤ r.kind ∧ r.kind ≤ 2 := by omega
  have hkb : r.kind % 256 = ((UInt8.ofNat r.kind.toNat).toNat : Int) := by rw [toNat_ofNat8 (by omega)]; omega
  -- behind the kind and the family
  refine join1 (fun a w' => w'.ownsRow w1.heap.size 5 1 a (UInt8.ofNat r.kind.toNat :: varint r.fam).length (byteCells (UInt8.ofNat r.kind.toNat :: varint r.fam)) ∧ Ext No w1 w') ?_ ?_
  · rintro a w2 ⟨ho, e2⟩
    have b2 := b.no e2
    refine pur (field_ptr _ _ _) (loadB b2 (v := .string r.key) rfl ?_)
    refine c56 ho rfl e2.size (by simp; omega) (by omega) fun v3 w3 ho3 e3 => ?_
    have e13 : Ext No w1 w3 := ext_fr' e2 e3 (Nat.le_refl _)
    have b3 := b.no e13
    refine join1 (fun a w' => w'.ownsRow w1.heap.size 5 1 a (encRec r).length (byteCells (encRec r)) ∧ Ext No w1 w') ?_ ?_
    · rintro a w4 ⟨ho4, e4⟩
      exact hK a w4 (owns_base ho4 fun g hg => by have := (ho4.lt g hg).1; omega) (e1.trans e4)
    · intro J hJ
      refine pur (field_ptr _ _ _) (loadB b3 (v := .int .i64 r.kind) rfl (pur (bin_neq _ _ _) (condN (fun h0 => ?_) (fun h0 => ?_))))
      · have v3 := varint0 r.val.size (by have := hval h0; omega)
        have := hval h0
        refine pur (field_ptr _ _ _) (loadB b3 (v := .string r.val) rfl ?_)
        refine c56 ho3 rfl e13.size (by simp [size_data]; omega) (by omega) fun v4 w4 ho4 e4 => ?_
        refine hJ _ _ ⟨?_, ext_fr' e13 e4 (Nat.le_refl _)⟩
        have : encRec r = (UInt8.ofNat r.kind.toNat :: varint r.fam ++ varint r.key.size ++ r.key.data.toList ++ varint r.val.size ++ r.val.data.toList) := by simp [encRec, h0]
        rw [this]; exact ho4
      · refine hJ _ _ ⟨?_, e13⟩
        have : encRec r = (UInt8.ofNat r.kind.toNat :: varint r.fam ++ varint r.key.size ++ r.key.data.toList) := by simp [encRec, h0]
        rw [this]; exact ho3
  · intro J hJ
    refine draw (fun w' => Blk w' w.heap.size 31 r.cells) b ?_
    refine pur (field_ptr _ _ _) (pur (field_ptr _ _ _) ?_)
    refine heldC (v := .int .i64 r.kind) (fun w' hb => hb.cell 1) (pur (conv8u.trans (by rw [hkb])) ?_)
    refine heldC (v := .int .u32 (r.fam : Int)) (fun w' hb => hb.cell 0) (pur (conv64u (by omega) (by omega)) ⟨?_, ?_⟩)
    · refine build1 T40 rfl fun w2 b2 e2 z2 => ?_
      have e12 : Ext No w1 w2 := (Ext.drew (S := No) w1).trans e2
      refine ⟨b.no e12, ?_⟩
      refine c55 r.fam (by omega) fun v3 w3 ho3 e3 => ?_
      refine ⟨b.no (e12.trans e3), ?_⟩
      have ho2 : w3.ownsRow w1.heap.size 5 1 _ 1 (byteCells [UInt8.ofNat r.kind.toNat]) := owns_ext (b2.owns (n := 1) (size := 1) (base := w1.heap.size) rfl (Nat.le_refl _) (by omega)) e3 fun _ _ hh => hh
      refine append_sl T40 40 ho2 (Sl.own ho3) (byteCells_one _) (by omega) (by omega) (Nat.le_trans e12.size e3.size) fun v4 w4 ho4 hg _ => ?_
      rw [← byteCells_append] at ho4
      exact hJ _ _ ⟨by simpa [Nat.add_comm] using ho4, ext_fr' (e12.trans e3) (ext_grown ho2 hg) (Nat.le_refl _)⟩
    · refine c55 r.fam (by omega) fun v3 w3 ho3 e3 => ?_
      have e13 : Ext No w1 w3 := (Ext.drew (S := No) w1).trans e3
      refine ⟨b.no e13, ?_⟩
      refine build1 T40 rfl fun w2 b2 e2 z2 => ?_
      refine ⟨b.no (e13.trans e2), ?_⟩
      have ho2 : w2.ownsRow w1.heap.size 5 1 _ 1 (byteCells [UInt8.ofNat r.kind.toNat]) := b2.owns (n := 1) (size := 1) (base := w1.heap.size) rfl e13.size (by omega)
      refine append_sl T40 40 ho2 ((Sl.own ho3).no e2) (byteCells_one _) (by omega) (by omega) (e13.trans e2).size fun v4 w4 ho4 hg _ => ?_
      rw [← byteCells_append] at ho4
      exact hJ _ _ ⟨by simpa [Nat.add_comm] using ho4, ext_fr' (e13.trans e2) (ext_grown ho2 hg) (Nat.le_refl _)⟩

/-- a record without what plays no part -/
def plain (r : Rec) : Rec := if r.kind = 0 then { r with val := ⟨#[]⟩ } else r
theorem c54 (r : Rec) {K : Value → World → Prop} {w : World} (hK : ∀ w', Ext No w w' → K (plain r).agg w') : CallS Try.prog 54 #[r.agg] K w := by
  refine s54_call hm ?_
  unfold s54
  refine box fun w1 b1 e1 z1 => ?_
  have b : Blk w1 w.heap.size 31 r.cells := b1
  refine box fun w2 b2 e2 z2 => ?_
  have b' := b.no e2
  refine join0 (fun w' => Blk w' w.heap.size 31 (plain r).cells ∧ Ext No w w' ∧ ∃ cs, Blk w' w1.heap.size 31 cs ∧ cs.length = 4) ?_ ?_
  · rintro w3 ⟨b3, e3, cs, c3, hl⟩
    refine loadA (At.of_blk b3) rfl ?_
    refine storeAll c3 rfl hl (Rec.one _) fun w4 b4 e4 _ => ?_
    refine loadA (At.of_blk b4) rfl ?_
    exact hK w4 (e3.fresh e4 fun b hb => .inr (by rw [show b = w1.heap.size from hb]; exact e1.size))
  · intro J hJ
    refine pur (field_ptr _ _ _) (loadB b' (v := .int .i64 r.kind) rfl (pur (bin_eql _ _ _) (condD (fun h0 => ?_) (fun h0 => ?_))))
    · refine pur (field_ptr _ _ _) (storeB b' (by simp [Rec.cells]) rfl fun w3 b3 e3 _ => ?_)
      refine hJ _ ⟨?_, (e1.trans e2).fresh e3 fun b hb => .inr (by rw [show b = w.heap.size from hb]; exact Nat.le_refl _), _, b2.ext e3 (fun hh => ?_), rfl⟩
      · have : (plain r).cells = r.cells.set 3 (.string ⟨#[]⟩) := by simp [plain, h0, Rec.cells]
        rw [this]; exact b3
      · have : w1.heap.size = w.heap.size := hh
        omega
    · refine hJ _ ⟨?_, e1.trans e2, _, b2, rfl⟩
      rw [show plain r = r by simp [plain, h0]]; exact b'
end Go.Proofs.Ytambcnlkdnmekaa
/-! Batches: adding records. -/
namespace Go.Proofs.Ytambcnlkdnmekaa
open Go SG Go.RowKit Go.Lib
set_option linter.unusedVariables false
set_option maxRecDepth 4000
set_option linter.unusedSimpArgs false

theorem own_ne {w : World} {base : Nat} {e t : TypeId} {size n g : Nat} {v : Value} {xs cs : List Value} (h : w.ownsRow base e size v n xs) (hb : Blk w g t cs) (hne : e ≠ t) : v.ownBlock ≠ some g := by
  rcases h.2 with ⟨rfl, _⟩ | ⟨g', cap, cur, rfl, _, hh, _⟩
  · simp [Value.ownBlock]
  · intro he
    have hg : g' = g := by simpa [Value.ownBlock] using he
    subst hg
    unfold Blk at hb
    rw [hh] at hb
    injection hb with hb
    injection hb with _ hb
    exact hne hb
theorem own_own_ne {w : World} {base base' : Nat} {e e' : TypeId} {size size' n n' : Nat} {v v' : Value} {xs xs' : List Value} (h : w.ownsRow base e size v n xs) (h' : w.ownsRow base' e' size' v' n' xs') (hne : e ≠ e') :
    ∀ g, v.ownBlock = some g → v'.ownBlock ≠ some g := by
  intro g hg hg'
  rcases h.2 with ⟨rfl, _⟩ | ⟨g1, cap, cur, rfl, _, hh, _⟩
  · simp [Value.ownBlock] at hg
  · rcases h'.2 with ⟨rfl, _⟩ | ⟨g2, cap2, cur2, rfl, _, hh2, _⟩
    · simp [Value.ownBlock] at hg'
    · simp only [Value.ownBlock, Option.some.injEq] at hg hg'
      subst hg
      subst hg'
      rw [hh] at hh2
      injection hh2 with hh2
      injection hh2 with _ hh2
      exact hne hh2

def ints (l : List Nat) : List Value := l.map fun (n : Nat) => Value.int .i64 (n : Int)
/-- a batch lies at g: its records, its size's cell, its marks -/
structure BatchAt (w : World) (g : Nat) (lv mv : Value) (recs : List Rec) (sz : Int) (marks : List Nat) : Prop where
  blk : Blk w g 26 [lv, .int .i64 sz, mv]
  row : w.ownsRow 0 31 4 lv recs.length (flat Rec.cells recs)
  mrow : w.ownsRow 0 3 1 mv marks.length (ints marks)
def Foot (g : Nat) (lv mv : Value) : Nat → Prop := fun b => b = g ∨ lv.ownBlock = some b ∨ mv.ownBlock = some b
theorem BatchAt.lt {w : World} {g : Nat} {lv mv : Value} {recs : List Rec} {sz : Int} {marks : List Nat} (h : BatchAt w g lv mv recs sz marks) {b : Nat} (hb : Foot g lv mv b) : b < w.heap.size := by
  rcases hb with rfl | hb | hb
  · exact h.blk.lt
  · exact (h.row.lt b hb).2
  · exact (h.mrow.lt b hb).2
theorem BatchAt.ext {S : Nat → Prop} {w w' : World} {g : Nat} {lv mv : Value} {recs : List Rec} {sz : Int} {marks : List Nat} (h : BatchAt w g lv mv recs sz marks) (e : Ext S w w') (hn : ∀ b, Foot g lv mv b → ¬ S b) :
    BatchAt w' g lv mv recs sz marks :=
  ⟨h.blk.ext e (hn g (.inl rfl)), owns_ext h.row e fun b hb => hn b (.inr (.inl hb)), owns_ext h.mrow e fun b hb => hn b (.inr (.inr hb))⟩
theorem BatchAt.no {w w' : World} {g : Nat} {lv mv : Value} {recs : List Rec} {sz : Int} {marks : List Nat} (h : BatchAt w g lv mv recs sz marks) (e : Ext No w w') : BatchAt w' g lv mv recs sz marks :=
  h.ext e fun _ _ hh => hh

def sumEnc (l : List Rec) : Int := (l.map fun r => ((encRec r).length : Int)).sum
theorem sumEnc_nil : sumEnc [] = 0 := rfl
theorem sumEnc_append (a b : List Rec) : sumEnc (a ++ b) = sumEnc a + sumEnc b := by simp [sumEnc]
theorem sumEnc_one (r : Rec) : sumEnc [r] = (encRec r).length := by simp [sumEnc]
def Sizes (l : List Rec) : Int := 12 + sumEnc l
/-- the size's cell -/
def SzOk (sz : Int) (recs : List Rec) : Prop := sz = Sizes recs ∨ (sz = 0 ∧ recs = [])
theorem sumEnc_nonneg (l : List Rec) : 0 ≤ sumEnc l := by
  induction l with
  | nil => simp [sumEnc]
  | cons r l ih => simp only [sumEnc, List.map_cons, List.sum_cons] at ih ⊢; omega
theorem SzOk.max {sz : Int} {recs : List Rec} (h : SzOk sz recs) : (if (12 : Int) > sz then 12 else sz) = Sizes recs := by
  have := sumEnc_nonneg recs
  rcases h with h | ⟨rfl, rfl⟩
  · rw [h]; unfold Sizes; split <;> omega
  · simp [Sizes, sumEnc]
def firstErr : List Rec → Int
  | [] => 0
  | r :: l => if chk r = 0 then firstErr l else chk r
def AllOk (l : List Rec) : Prop := ∀ r ∈ l, r.Ok
def Good (l : List Rec) : Prop := ∀ r ∈ l, r.Ok ∧ chk r = 0
theorem firstErr_zero : ∀ (l : List Rec), firstErr l = 0 → ∀ r ∈ l, chk r = 0
  | [], _, r, h => by cases h
  | a :: l, h, r, hr => by
    unfold firstErr at h
    split at h
    · rename_i h0
      rcases List.mem_cons.1 hr with rfl | hr
      · exact h0
      · exact firstErr_zero l h r hr
    · exact absurd h (by assumption)
theorem firstErr_at : ∀ (l : List Rec) (i : Nat) (r : Rec), l[i]? = some r → (∀ j r', j < i → l[j]? = some r' → chk r' = 0) → chk r ≠ 0 → firstErr l = chk r
  | [], i, r, h, _, _ => by simp at h
  | a :: l, 0, r, h, _, hne => by
    simp only [List.getElem?_cons_zero, Option.some.injEq] at h
    subst h
    unfold firstErr; rw [if_neg hne]
  | a :: l, i + 1, r, h, h0, hne => by
    unfold firstErr
    rw [if_pos (h0 0 a (by omega) rfl)]
    exact firstErr_at l i r (by simpa using h) (fun j r' hj hr' => h0 (j + 1) r' (by omega) (by simpa using hr')) hne
theorem sumEnc_le {l : List Rec} (h : Good l) : sumEnc l ≤ 20000 * l.length := by
  induction l with
  | nil => simp [sumEnc]
  | cons r l ih =>
    have := encRec_len (h r (by simp)).1 (h r (by simp)).2
    have := ih fun r hr => h r (by simp [hr])
    simp only [sumEnc, List.map_cons, List.sum_cons, List.length_cons] at this ⊢
    omega
/-- what 'all' comes to -/
def addAll (recs rs : List Rec) : Int × List Rec :=
  if firstErr rs ≠ 0 then (firstErr rs, recs)
  else if 4096 < recs.length + rs.length ∨ 4194304 < Sizes recs + sumEnc rs then (2, recs)
  else (0, recs ++ rs.map plain)
theorem encRec_plain (r : Rec) : encRec (plain r) = encRec r := by
  unfold plain
  split
  · rename_i h; simp [encRec, h]
  · rfl
theorem sumEnc_plain (l : List Rec) : sumEnc (l.map plain) = sumEnc l := by
  induction l with
  | nil => rfl
  | cons r l ih => simp only [sumEnc, List.map_cons, List.sum_cons, encRec_plain] at ih ⊢; rw [ih]
theorem recs_at {w : World} {x : Value} {rs : List Rec} (hs : Sl w x rs.length 4 (flat Rec.cells rs)) {i : Nat} {r : Rec} (hr : rs[i]? = some r) :
    ∃ ad, indexAddrV 4 x (.int .i64 (i : Int)) = some (.pointer (some ad)) ∧ At w ad r.cells ∧ x.ownBlock = some ad.block := by
  have hi : i < rs.length := (List.getElem?_eq_some_iff.1 hr).1
  obtain ⟨ad, h1, h2, h3⟩ := hs.at_ hi
  rw [flat_at Rec.cells Rec.cells_len rs i r hr] at h2
  exact ⟨ad, h1, h2, h3⟩

set_option maxHeartbeats 1000000 in
theorem c26 {w : World} {g : Nat} {lv mv x : Value} {recs rs : List Rec} {sz : Int} {marks : List Nat} (hb : BatchAt w g lv mv recs sz marks) (hsz : SzOk sz recs) (hgood : Good recs) (hlen : recs.length ≤ 4096)
    (hs : Sl w x rs.length 4 (flat Rec.cells rs)) (hx : ∀ b, x.ownBlock = some b → ¬ Foot g lv mv b) (hxl : ∀ b, x.ownBlock = some b → b < w.heap.size) (hrs : AllOk rs) (hrl : rs.length ≤ 2932031007402) {K : Value → World → Prop}
    (hK : ∀ w' lv' sz', BatchAt w' g lv' mv (addAll recs rs).2 sz' marks → SzOk sz' (addAll recs rs).2 → Ext (Foot g lv mv) w w' → (∀ b, lv'.ownBlock = some b → lv.ownBlock = some b ∨ w.heap.size ≤ b) →
      K (.int .i64 (addAll recs rs).1) w') :
    CallS Try.prog 26 #[.pointer (some ⟨g, 0, none⟩), x] K w := by
  have hsum0 := sumEnc_nonneg recs
  have hsum1 := sumEnc_le hgood
  have hsame : ∀ {w'}, Ext No w w' → (addAll recs rs).2 = recs → K (.int .i64 (addAll recs rs).1) w' := fun e h2 => by
    have := hK _ lv sz (by rw [h2]; exact hb.no e) (by rw [h2]; exact hsz) e.no (fun b hb => .inl hb)
    exact this
  refine s26_call hm ?_
  unfold s26
  refine pur (nil_ptr _) (pur (field_ptr _ _ _) (loadB hb.blk (v := .int .i64 sz) rfl (pur ((max_int _ _ _ _).trans (by rw [hsz.max])) ?_)))
  refine join1 (fun a w' => Ext No w w' ∧ a = .int .i64 (Sizes recs + sumEnc rs) ∧ firstErr rs = 0) ?_ ?_
  · rintro a w1 ⟨e1, rfl, hfe⟩
    have hb1 := hb.no e1
    have hgr : Good rs := fun r hr => ⟨hrs r hr, firstErr_zero rs hfe r hr⟩
    have hsr := sumEnc_le hgr
    have hsr0 := sumEnc_nonneg rs
    have hSz : Sizes recs = 12 + sumEnc recs := rfl
    refine pur (nil_ptr _) (pur (field_ptr _ _ _) (loadB hb1.blk (v := lv) rfl ?_))
    refine pur (Sl.own hb1.row).len (pur hs.len (pur (add64 (c := ((recs.length + rs.length : Nat) : Int)) (by omega) (by omega) (by omega)) (pur (bin_gtr _ _ _) ?_)))
    have hbig : 4096 < recs.length + rs.length ∨ 4194304 < Sizes recs + sumEnc rs → K (.int .i64 2) w1 := fun h => by
      have h2 : addAll recs rs = (2, recs) := by unfold addAll; rw [if_neg (by simp [hfe]), if_pos h]
      have := hsame e1 (by rw [h2])
      rw [h2] at this; exact this
    refine join1 (fun a w' => w1 = w' ∧ ((4096 : Int) < ((recs.length + rs.length : Nat) : Int) ∨ a = .bool (decide (4194304 < Sizes recs + sumEnc rs)))) ?_ ?_
    · rintro a w' ⟨rfl, ha⟩
      by_cases hn : (4096 : Int) < ((recs.length + rs.length : Nat) : Int)
      · refine pur (pick_b _ _ _) ?_
        rw [if_pos (by simpa using hn)]
        exact condT rfl (hbig (.inl (by omega)))
      · obtain rfl := ha.resolve_left hn
        refine pur (pick_b _ _ _) ?_
        rw [if_neg (by simpa using hn)]
        refine condD (fun hv => hbig (.inr hv)) (fun hv => ?_)
        have hres : addAll recs rs = (0, recs ++ rs.map plain) := by unfold addAll; rw [if_neg (by simp [hfe]), if_neg (by omega)]
        -- the records are put behind
        refine join0 (fun w' => ∃ lv', BatchAt w' g lv' mv (recs ++ rs.map plain) sz marks ∧ Ext (Foot g lv mv) w w' ∧ ∀ b, lv'.ownBlock = some b → lv.ownBlock = some b ∨ w.heap.size ≤ b) ?_ ?_
        · rintro w2 ⟨lv', hb2, e2, hfr⟩
          refine pur (nil_ptr _) (pur (field_ptr _ _ _) (storeB hb2.blk (by simp) rfl fun w3 b3 e3 _ => ?_))
          have hne1 := own_ne hb2.row hb2.blk (by decide)
          have hne2 := own_ne hb2.mrow hb2.blk (by decide)
          have := hK w3 lv' (Sizes recs + sumEnc rs) (by
            rw [hres]
            exact ⟨b3, owns_ext hb2.row e3 fun b hbb hh => hne1 (by rw [hbb, show b = g from hh]), owns_ext hb2.mrow e3 fun b hbb hh => hne2 (by rw [hbb, show b = g from hh])⟩)
            (by rw [hres]; left; show _ = 12 + sumEnc _; rw [sumEnc_append, sumEnc_plain]; omega)
            (e2.trans' e3 (fun _ h _ => h) (fun b h _ => .inl h)) hfr
          rw [hres] at this; exact this
        · intro J hJ
          refine pur hs.len ?_
          refine loop1 (σ := Nat × Value) (fun s a w' => a = .int .i64 (s.1 : Int) ∧ s.1 ≤ rs.length ∧ BatchAt w' g s.2 mv (recs ++ (rs.take s.1).map plain) sz marks ∧ Ext (Foot g lv mv) w w' ∧ (∀ b, s.2.ownBlock = some b → lv.ownBlock = some b ∨ w.heap.size ≤ b))
            (fun s => rs.length - s.1) (0, lv) ⟨rfl, by simp, by simpa using hb1, e1.no, fun b h => .inl h⟩ ?_
          rintro ⟨i, lvi⟩ a w2 ⟨rfl, hi, hb2, e2, hfr⟩ L hL
          simp only at hi hb2 hfr hL
          refine pur (bin_lss _ _ _) (condD (fun hlt => ?_) (fun hge => ?_))
          · have hlt' : i < rs.length := by omega
            obtain ⟨r, hr⟩ : ∃ r, rs[i]? = some r := ⟨rs[i], List.getElem?_eq_getElem hlt'⟩
            have hs2 := hs.ext e2 fun b hb => hx b hb
            obtain ⟨ad, ha1, ha2, ha3⟩ := recs_at hs2 hr
            refine pur ha1 (loadA ha2 rfl (box fun w3 b3 e3 z3 => ?_))
            have hb3 := hb2.no e3
            refine storeAll b3 rfl (by simp [Value.cells]) (Rec.one r) fun w4 b4 e4 z4 => ?_
            have hb4 : BatchAt w4 g lvi mv _ sz marks := hb3.ext e4 fun b hbf hh => by
              have := hb2.lt hbf
              rw [show b = w2.heap.size from hh] at this; omega
            have e24 : Ext No w2 w4 := e3.fresh e4 fun b hh => .inr (by rw [show b = w2.heap.size from hh]; exact Nat.le_refl _)
            refine draw (fun w' => Blk w' g 26 [lvi, .int .i64 sz, mv] ∧ Blk w' w2.heap.size 31 r.cells) ⟨hb4.blk, b4⟩ ?_
            refine pur (nil_ptr _) (pur (field_ptr _ _ _) ?_)
            refine heldC (v := lvi) (fun w' hh => hh.1.cell 0) (heldA (fun w' hh => At.of_blk hh.2) rfl ?_)
            refine c54 r fun w5 e5 => ?_
            have e45 : Ext No w4 w5 := (Ext.drew (S := No) w4).trans e5
            refine ⟨⟨hb4.blk.no e45, b4.no e45⟩, ?_⟩
            refine build1 T22 rfl fun w6 b6 e6 z6 => ?_
            have e46 := e45.trans e6
            refine ⟨⟨hb4.blk.no e46, b4.no e46⟩, ?_⟩
            have hb6 := hb4.no e46
            have hl6 : (recs ++ (rs.take i).map plain).length = recs.length + i := by simp [Nat.min_eq_left hi]
            refine append_sl T22 22 hb6.row (b6.sl (n := 1) (c := 1) (size := 4) rfl (Nat.le_refl _)) (Rec.one _) (by rw [hl6]; omega) (by rw [hl6]; omega) (Nat.zero_le _) fun lv' w7 ho7 hg7 hat => ?_
            have e67 : Ext (fun b => lvi.ownBlock = some b) w6 w7 := Ext.grown hg7 fun b hbb => hbb
            have hne1 := own_ne hb6.row hb6.blk (by decide)
            have hbl7 := hb6.blk.ext e67 hne1
            have hm7 := owns_ext hb6.mrow e67 fun b hbb hh => own_own_ne hb6.row hb6.mrow (by decide) b hh hbb
            refine pur (nil_ptr _) (pur (field_ptr _ _ _) (storeB hbl7 (by simp) (by rcases ho7.2 with ⟨rfl, _⟩ | ⟨_, _, _, rfl, _⟩ <;> rfl) fun w8 b8 e8 _ => ?_))
            refine pur (add64 (c := ((i + 1 : Nat) : Int)) (by omega) (by omega) (by omega)) ?_
            have hne7 := own_ne ho7 hbl7 (by decide)
            have hne8 := own_ne hm7 hbl7 (by decide)
            have hrow8 := owns_ext ho7 e8 fun b hbb hh => hne7 (by rw [hbb, show b = g from hh])
            have hm8 := owns_ext hm7 e8 fun b hbb hh => hne8 (by rw [hbb, show b = g from hh])
            have htake : (rs.take (i + 1)).map plain = (rs.take i).map plain ++ [plain r] := by
              rw [List.take_add_one, hr]; simp
            have e26 := (e24.trans e46)
            refine hL (i + 1, lv') _ _ ⟨rfl, by simp only; omega, ⟨b8, ?_, hm8⟩, ?_, ?_⟩ (by simp only; omega)
            · simp only
              rw [htake, ← List.append_assoc, flat_append, flat_one]
              simpa [Value.cells, Rec.agg, Rec.cells, Nat.add_assoc] using hrow8
            · have e28 : Ext (Foot g lvi mv) w2 w8 := (e26.no).trans ((e67.mono fun b hbb _ => .inr (.inl hbb)).trans (e8.mono fun b hbb _ => .inl hbb))
              exact e2.trans' e28 (fun _ h _ => h) fun b hbb hlt => by
                rcases hbb with h | h | h
                · exact .inl h
                · exact .inr (.inl ((hfr b h).resolve_right (by omega)))
                · exact .inr (.inr h)
            · intro b hbb
              rcases hat with h | h
              · rw [h] at hbb; exact hfr b hbb
              · rw [h] at hbb
                have : b = w6.heap.size := by simpa using hbb.symm
                right; have := e2.size; have := e26.size; omega
          · have : rs.take i = rs := List.take_of_length_le (by omega)
            rw [this] at hb2
            exact hJ _ ⟨lvi, hb2, e2, hfr⟩
    · intro J hJ
      rw [ifB_eq]
      by_cases hn : (4096 : Int) < ((recs.length + rs.length : Nat) : Int)
      · rw [if_neg (by simpa using hn)]
        exact hJ _ _ ⟨rfl, .inl hn⟩
      · rw [if_pos (by simpa using hn)]
        exact pur (bin_gtr _ _ _) (hJ _ _ ⟨rfl, .inr rfl⟩)
  · intro J hJ
    refine pur hs.len ?_
    refine loop2 (σ := Nat) (fun i a b w' => b = .int .i64 (i : Int) ∧ i ≤ rs.length ∧ a = .int .i64 (Sizes recs + sumEnc (rs.take i)) ∧ Ext No w w' ∧ ∀ j r, j < i → rs[j]? = some r → chk r = 0)
      (fun i => rs.length - i) 0 ⟨rfl, by omega, by simp [sumEnc], Ext.refl _ w, fun _ _ h => by omega⟩ ?_
    rintro i a b w2 ⟨rfl, hi, rfl, e2, hz⟩ L hL
    have hgt : Good (rs.take i) := fun r hr => by
      obtain ⟨j, hj⟩ := List.getElem?_of_mem hr
      rw [List.getElem?_take] at hj
      split at hj
      · exact ⟨hrs r (List.mem_of_getElem? hj), hz j r (by assumption) hj⟩
      · cases hj
    have hst := sumEnc_le hgt
    have hst0 := sumEnc_nonneg (rs.take i)
    rw [List.length_take] at hst
    refine pur (bin_lss _ _ _) (condD (fun hlt => ?_) (fun hge => ?_))
    · have hlt' : i < rs.length := by omega
      obtain ⟨r, hr⟩ : ∃ r, rs[i]? = some r := ⟨rs[i], List.getElem?_eq_getElem hlt'⟩
      have hrok := hrs r (List.mem_of_getElem? hr)
      obtain ⟨ad, ha1, ha2, ha3⟩ := recs_at (hs.no e2) hr
      refine pur ha1 (loadA ha2 rfl (box fun w3 b3 e3 z3 => ?_))
      refine storeAll b3 rfl (by simp [Value.cells]) (Rec.one r) fun w4 b4 e4 z4 => ?_
      have e24 : Ext No w2 w4 := e3.fresh e4 fun b hh => .inr (by rw [show b = w2.heap.size from hh]; exact Nat.le_refl _)
      refine loadA (At.of_blk b4) rfl ?_
      refine c19 r hrok fun w5 e5 => ?_
      refine pur (bin_neq _ _ _) (condN (fun hne => ?_) (fun h0 => ?_))
      · have hfe := firstErr_at rs i r hr hz hne
        have h2 : addAll recs rs = (chk r, recs) := by unfold addAll; rw [if_pos (by rw [hfe]; exact hne), hfe]
        have := hsame ((e2.trans e24).trans e5) (by rw [h2])
        rw [h2] at this; exact this
      · refine loadA (At.of_blk (b4.no e5)) rfl ?_
        refine c30 r hrok h0 fun v w6 ho6 e6 => ?_
        have hel := encRec_len hrok h0
        have hSz : Sizes recs = 12 + sumEnc recs := rfl
        refine pur (Sl.own ho6).len (pur (add64 (c := Sizes recs + sumEnc (rs.take (i + 1))) ?_ ?_ ?_) (pur (add64 (c := ((i + 1 : Nat) : Int)) (by omega) (by omega) (by omega)) ?_))
        · rw [List.take_add_one, hr]; simp only [Option.toList_some, sumEnc_append, sumEnc_one]; omega
        · rw [List.take_add_one, hr]; simp only [Option.toList_some, sumEnc_append, sumEnc_one]; omega
        · rw [List.take_add_one, hr]; simp only [Option.toList_some, sumEnc_append, sumEnc_one]; omega
        refine hL (i + 1) _ _ _ ⟨rfl, by omega, rfl, ((e2.trans e24).trans e5).trans e6, fun j r' hj hr' => ?_⟩ (by omega)
        by_cases hji : j = i
        · subst hji; rw [hr] at hr'; cases hr'; exact h0
        · exact hz j r' (by omega) hr'
    · have hall : rs.take i = rs := List.take_of_length_le (by omega)
      refine hJ _ _ ⟨e2, by rw [hall], ?_⟩
      have : ∀ (l : List Rec), (∀ r ∈ l, chk r = 0) → firstErr l = 0 := fun l => by
        induction l with
        | nil => intro _; rfl
        | cons r l ih => intro h; unfold firstErr; rw [if_pos (h r (by simp))]; exact ih fun r hr => h r (by simp [hr])
      rw [hall] at hgt
      exact this rs fun r hr => (hgt r hr).2
end Go.Proofs.Ytambcnlkdnmekaa
/-! Batches: Add, Records, Size, Append, savepoints. -/
namespace Go.Proofs.Ytambcnlkdnmekaa
open Go SG Go.RowKit Go.Lib
set_option linter.unusedVariables false
set_option maxRecDepth 4000
set_option linter.unusedSimpArgs false

theorem build26 (w : World) : (Instr.build 26 [].toArray).run Try.prog w = .ok (.agg #[.slice none 0 0, .int .i64 0, .slice none 0 0]) w := by kernel_rfl
theorem build31 (w : World) (f : Int) (k : Int) (a b : ByteArray) : (Instr.build 31 [(0, .int .u32 f), (1, .int .i64 k), (2, .string a), (3, .string b)].toArray).run Try.prog w = .ok (.agg #[.int .u32 f, .int .i64 k, .string a, .string b]) w := by kernel_rfl

/-- a new batch -/
theorem new26 {w : World} {K : Value → World → Prop} (hK : ∀ w', BatchAt w' w.heap.size (.slice none 0 0) (.slice none 0 0) [] 0 [] → Ext No w w' → w'.heap.size = w.heap.size + 1 → K (.pointer (some ⟨w.heap.size, 0, none⟩)) w') :
    RunS Try.prog (Instr.build 26 [].toArray) (fun t w => BoxS 26 t K w) w := by
  refine runS (build26 w) (box fun w1 b1 e1 z1 => hK w1 ⟨b1, World.ownsRow_nil _ _ _ _, World.ownsRow_nil _ _ _ _⟩ e1 z1)

/-- a batch whose rows lie apart from what is told -/
structure BatchIs (w : World) (g : Nat) (lv mv : Value) (recs : List Rec) (sz : Int) (marks : List Nat) : Prop where
  at_ : BatchAt w g lv mv recs sz marks
  sz : SzOk sz recs
  good : Good recs
  len : recs.length ≤ 4096
  plain : ∀ r ∈ recs, plain r = r
theorem BatchIs.ext {S : Nat → Prop} {w w' : World} {g : Nat} {lv mv : Value} {recs : List Rec} {sz : Int} {marks : List Nat} (h : BatchIs w g lv mv recs sz marks) (e : Ext S w w') (hn : ∀ b, Foot g lv mv b → ¬ S b) :
    BatchIs w' g lv mv recs sz marks := ⟨h.at_.ext e hn, h.sz, h.good, h.len, h.plain⟩
theorem BatchIs.no {w w' : World} {g : Nat} {lv mv : Value} {recs : List Rec} {sz : Int} {marks : List Nat} (h : BatchIs w g lv mv recs sz marks) (e : Ext No w w') : BatchIs w' g lv mv recs sz marks := h.ext e fun _ _ hh => hh
theorem plain_plain (r : Rec) : plain (plain r) = plain r := by
  unfold plain
  split
  · rename_i h; simp [h]
  · rfl
theorem chk_plain {r : Rec} (h : chk r = 0) : chk (plain r) = 0 := by
  unfold plain
  split
  · rename_i h0
    unfold chk at h ⊢
    simp only [h0, if_true] at h ⊢
    exact h
  · exact h
theorem ok_plain {r : Rec} (h : r.Ok) : (plain r).Ok := by
  unfold plain
  split
  · exact ⟨h.fam, h.key, by simp [ByteArray.size]⟩
  · exact h
theorem addAll_good {recs rs : List Rec} (hg : Good recs) (hl : recs.length ≤ 4096) (hp : ∀ r ∈ recs, plain r = r) (hrs : AllOk rs) :
    Good (addAll recs rs).2 ∧ (addAll recs rs).2.length ≤ 4096 ∧ ∀ r ∈ (addAll recs rs).2, plain r = r := by
  unfold addAll
  split
  · exact ⟨hg, hl, hp⟩
  · rename_i hfe
    split
    · exact ⟨hg, hl, hp⟩
    · rename_i hlim
      refine ⟨fun r hr => ?_, by simp; omega, fun r hr => ?_⟩
      · rcases List.mem_append.1 hr with hr | hr
        · exact hg r hr
        · obtain ⟨r', hr', rfl⟩ := List.mem_map.1 hr
          exact ⟨ok_plain (hrs r' hr'), chk_plain (firstErr_zero rs (by simpa using hfe) r' hr')⟩
      · rcases List.mem_append.1 hr with hr | hr
        · exact hp r hr
        · obtain ⟨r', hr', rfl⟩ := List.mem_map.1 hr
          exact plain_plain r'

/-- 'all' of what lies apart -/
theorem c26' {w : World} {g : Nat} {lv mv x : Value} {recs rs : List Rec} {sz : Int} {marks : List Nat} (hb : BatchIs w g lv mv recs sz marks)
    (hs : Sl w x rs.length 4 (flat Rec.cells rs)) (hx : ∀ b, x.ownBlock = some b → ¬ Foot g lv mv b) (hxl : ∀ b, x.ownBlock = some b → b < w.heap.size) (hrs : AllOk rs) (hrl : rs.length ≤ 2932031007402) {K : Value → World → Prop}
    (hK : ∀ w' lv' sz', BatchIs w' g lv' mv (addAll recs rs).2 sz' marks → Ext (Foot g lv mv) w w' → (∀ b, lv'.ownBlock = some b → lv.ownBlock = some b ∨ w.heap.size ≤ b) →
      K (.int .i64 (addAll recs rs).1) w') :
    CallS Try.prog 26 #[.pointer (some ⟨g, 0, none⟩), x] K w := by
  refine c26 hb.at_ hb.sz hb.good hb.len hs hx hxl hrs hrl fun w' lv' sz' h1 h2 h3 h4 => ?_
  obtain ⟨h5, h6, h7⟩ := addAll_good hb.good hb.len hb.plain hrs
  exact hK w' lv' sz' ⟨h1, h2, h5, h6, h7⟩ h3 h4

/-- Add -/
theorem c8 {w : World} {g : Nat} {lv mv : Value} {recs : List Rec} {r : Rec} {sz : Int} {marks : List Nat} (hb : BatchIs w g lv mv recs sz marks) (hr : r.Ok) {K : Value → World → Prop}
    (hK : ∀ w' lv' sz', BatchIs w' g lv' mv (addAll recs [r]).2 sz' marks → Ext (Foot g lv mv) w w' → (∀ b, lv'.ownBlock = some b → lv.ownBlock = some b ∨ w.heap.size ≤ b) →
      K (.int .i64 (addAll recs [r]).1) w') :
    CallS Try.prog 8 #[.pointer (some ⟨g, 0, none⟩), r.agg] K w := by
  refine s8_call hm ?_
  unfold s8
  refine box fun w1 b1 e1 z1 => ?_
  have b : Blk w1 w.heap.size 31 r.cells := b1
  refine loadA (At.of_blk b) rfl ?_
  refine build1 T22 rfl fun w2 b2 e2 z2 => ?_
  have e12 := e1.trans e2
  refine c26' (hb.no e12) (rs := [r]) (by rw [flat_one]; exact b2.sl (n := 1) (c := 1) (size := 4) rfl (Nat.le_refl _)) (fun b hbb hf => ?_) (fun b hbb => ?_) (fun r' hr' => ?_) (by simp) fun w3 lv' sz' h1 h2 h3 => ?_
  · have hlt := hb.at_.lt hf
    have : b = w1.heap.size := by simpa [Value.ownBlock] using hbb.symm
    omega
  · have : b = w1.heap.size := by simpa [Value.ownBlock] using hbb.symm
    omega
  · simp at hr'; subst hr'; exact hr
  · exact hK w3 lv' sz' h1 (e12.no.trans h2) fun b hbb => (h3 b hbb).imp id fun hh => by have := e12.size; omega

/-- slices.Clone of records -/
theorem c27 {w : World} {x : Value} {rs : List Rec} (hs : Sl w x rs.length 4 (flat Rec.cells rs)) (hrl : rs.length ≤ 2932031007402) {K : Value → World → Prop}
    (hK : ∀ v w', Ext No w w' → Sl w' v rs.length 4 (flat Rec.cells rs) → (∀ b, v.ownBlock = some b → w.heap.size ≤ b ∧ b < w'.heap.size) → K v w') : CallS Try.prog 27 #[x] K w := by
  refine s27_call hm ?_
  unfold s27
  have hs' := hs
  obtain ⟨A, c, rfl, hl, hc, h0, hA⟩ := hs'
  refine eq_nil_slice Try.underlying22 (condB (fun hn => ?_) (fun hn => ?_))
  · have : A = none := by simpa using hn
    have hz := h0 this
    have hnil : rs = [] := List.eq_nil_of_length_eq_zero hz
    subst hnil
    exact hK _ w (Ext.refl _ w) (Sl.nil_ w 4) (fun b hb => by simp [Value.ownBlock] at hb)
  · refine build0 T22 fun w1 b1 e1 z1 => ?_
    have ho1 : w1.ownsRow w.heap.size 31 4 (.slice (some ⟨w.heap.size, 0, none⟩) 0 0) 0 [] := b1.owns rfl (Nat.le_refl _) (by omega)
    refine append_sl T22 22 ho1 (hs.no e1) (fun u hu => ?_) (by omega) (by omega) e1.size fun v w2 ho2 hg2 _ => ?_
    · simp only [flat, List.mem_flatMap] at hu
      obtain ⟨r, _, hu⟩ := hu
      exact r.one u hu
    · have e2 := ext_grown ho1 hg2
      refine hK v w2 (ext_fr' e1 e2 (Nat.le_refl _)) ?_ fun b hb => ho2.lt b hb
      have := Sl.own ho2
      simpa using this

/-- Records, Size -/
theorem c9 {w : World} {g : Nat} {lv mv : Value} {recs : List Rec} {sz : Int} {marks : List Nat} (hb : BatchIs w g lv mv recs sz marks) {K : Value → World → Prop}
    (hK : ∀ v w', Ext No w w' → Sl w' v recs.length 4 (flat Rec.cells recs) → (∀ b, v.ownBlock = some b → w.heap.size ≤ b ∧ b < w'.heap.size) → K v w') : CallS Try.prog 9 #[.pointer (some ⟨g, 0, none⟩)] K w := by
  refine s9_call hm ?_
  unfold s9
  refine pur (nil_ptr _) (pur (field_ptr _ _ _) (loadB hb.at_.blk (v := lv) rfl ?_))
  have := hb.len
  exact c27 (Sl.own hb.at_.row) (by omega) hK
theorem c10 {w : World} {g : Nat} {lv mv : Value} {recs : List Rec} {sz : Int} {marks : List Nat} (hb : BatchIs w g lv mv recs sz marks) {K : Value → World → Prop}
    (hK : K (.int .i64 (Sizes recs)) w) : CallS Try.prog 10 #[.pointer (some ⟨g, 0, none⟩)] K w := by
  refine s10_call hm ?_
  unfold s10
  refine pur (nil_ptr _) (pur (field_ptr _ _ _) (loadB hb.at_.blk (v := .int .i64 sz) rfl (pur ((max_int _ _ _ _).trans (by rw [hb.sz.max])) hK)))

/-- Append, another batch or itself -/
theorem c12 {w : World} {g g' : Nat} {lv mv lv' mv' : Value} {recs recs' : List Rec} {sz sz' : Int} {marks marks' : List Nat} (hb : BatchIs w g lv mv recs sz marks) (hb' : BatchIs w g' lv' mv' recs' sz' marks') {K : Value → World → Prop}
    (hK : ∀ w' lv1 sz1, BatchIs w' g lv1 mv (addAll recs recs').2 sz1 marks → Ext (Foot g lv mv) w w' → (∀ b, lv1.ownBlock = some b → lv.ownBlock = some b ∨ w.heap.size ≤ b) →
      K (.int .i64 (addAll recs recs').1) w') :
    CallS Try.prog 12 #[.pointer (some ⟨g, 0, none⟩), .pointer (some ⟨g', 0, none⟩)] K w := by
  refine s12_call hm ?_
  unfold s12
  refine eq_nil_ptr Try.underlying23 (condF rfl ?_)
  refine pur (nil_ptr _) (pur (field_ptr _ _ _) (loadB hb'.at_.blk (v := lv') rfl ?_))
  have hl' := hb'.len
  refine c27 (Sl.own hb'.at_.row) (by omega) fun v w1 e1 hs1 hv1 => ?_
  refine c26' (hb.no e1) hs1 (fun b hbb hf => ?_) (fun b hbb => (hv1 b hbb).2) (fun r hr => (hb'.good r hr).1) (by omega) fun w2 lv1 sz1 h1 h2 h3 => ?_
  · have hlt := hb.at_.lt hf
    have := (hv1 b hbb).1
    omega
  · exact hK w2 lv1 sz1 h1 (e1.no.trans h2) fun b hbb => (h3 b hbb).imp id fun hh => by have := e1.size; omega

/-- Save -/
theorem c15 {w : World} {g : Nat} {lv mv : Value} {recs : List Rec} {sz : Int} {marks : List Nat} (hb : BatchIs w g lv mv recs sz marks) (hml : marks.length ≤ 8796093022208) {K : Value → World → Prop}
    (hK : ∀ w' mv', BatchIs w' g lv mv' recs sz (marks ++ [recs.length]) → Ext (Foot g lv mv) w w' → (∀ b, mv'.ownBlock = some b → mv.ownBlock = some b ∨ w.heap.size ≤ b) → K undef w') :
    CallS Try.prog 15 #[.pointer (some ⟨g, 0, none⟩)] K w := by
  refine s15_call hm ?_
  unfold s15
  refine draw (fun w' => Blk w' g 26 [lv, .int .i64 sz, mv]) hb.at_.blk ?_
  refine pur (nil_ptr _) (pur (field_ptr _ _ _) (pur (nil_ptr _) (pur (field_ptr _ _ _) ?_)))
  refine heldC (v := mv) (fun w' hh => hh.cell 2) (heldC (v := lv) (fun w' hh => hh.cell 0) ?_)
  refine pur (Sl.own hb.at_.row).len ?_
  refine build1 T24 rfl fun w1 b1 e1' z1 => ?_
  have e1 : Ext No w w1 := (Ext.drew (S := No) w).trans e1'
  have hb1 := hb.no e1
  refine ⟨hb1.at_.blk, ?_⟩
  refine append_sl T24 24 hb1.at_.mrow (b1.sl (n := 1) (c := 1) (size := 1) rfl (Nat.le_refl _)) (by simp [Value.cells, Value.oneCell']) (by omega) (by omega) (Nat.zero_le _) fun mv' w2 ho2 hg2 hat => ?_
  have e2 : Ext (fun b => mv.ownBlock = some b) w1 w2 := Ext.grown hg2 fun b hbb => hbb
  have hne := own_ne hb1.at_.mrow hb1.at_.blk (by decide)
  have hbl2 := hb1.at_.blk.ext e2 hne
  have hrow2 := owns_ext hb1.at_.row e2 fun b hbb hh => own_own_ne hb1.at_.mrow hb1.at_.row (by decide) b hh hbb
  refine pur (nil_ptr _) (pur (field_ptr _ _ _) (storeB hbl2 (by simp) (by rcases ho2.2 with ⟨rfl, _⟩ | ⟨_, _, _, rfl, _⟩ <;> rfl) fun w3 b3 e3 _ => ?_))
  have hne1 := own_ne hrow2 hbl2 (by decide)
  have hne2 := own_ne ho2 hbl2 (by decide)
  refine hK w3 mv' ⟨⟨b3, owns_ext hrow2 e3 fun b hbb hh => hne1 (by rw [hbb, show b = g from hh]), ?_⟩, hb.sz, hb.good, hb.len, hb.plain⟩ ?_ ?_
  · have := owns_ext ho2 e3 fun b hbb hh => hne2 (by rw [hbb, show b = g from hh])
    simpa [ints, Value.cells] using this
  · exact (e1.no).trans ((e2.mono fun b h _ => .inr (.inr h)).trans (e3.mono fun b h _ => .inl h))
  · intro b hbb
    rcases hat with h | h
    · rw [h] at hbb; exact .inl hbb
    · rw [h] at hbb
      have : b = w1.heap.size := by simpa using hbb.symm
      right; have := e1.size; omega
end Go.Proofs.Ytambcnlkdnmekaa
