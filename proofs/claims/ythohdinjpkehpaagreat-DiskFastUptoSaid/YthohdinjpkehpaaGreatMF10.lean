/- Several texts of ours, laid one behind the other. -/
import Derived.Test.YthohdinjpkehpaaGreatMF9
namespace Go.Proofs.YthohdinjpkehpaaGreat
open Go SG Go.RowKit
set_option linter.unusedVariables false
set_option maxRecDepth 4000
set_option linter.unusedSimpArgs false

theorem buildWrB (w : World) (k : Int) (a : Option Addr) (n c : Nat) : (Instr.build 160 [(0, .int .i64 k), (1, .slice a n c)].toArray).run Tryz.prog w = .ok (.agg #[.int .i64 k, .slice a n c]) w := by kernel_rfl
theorem own_slice {w : World} {base n size : Nat} {e : TypeId} {v : Value} {xs : List Value} (h : w.ownsRow base e size v n xs) : ∃ a m c, v = .slice a m c := by
  rcases h.2 with ⟨rfl, _⟩ | ⟨_, _, _, rfl, _⟩ <;> exact ⟨_, _, _, rfl⟩
theorem Dk.fi_at {st : Dk} {i : Nat} (h : i < st.files.length) : st.files[i]? = some (st.fi i) := by
  unfold Dk.fi
  rw [List.getElem?_eq_getElem h]; rfl
section
variable {T T1 : Tags} {w w1 : World} {d g n : Nat} {st : Dk} {dv fv : Value} {K : Value → World → Prop}
theorem BytI.row {w' : World} {v : Value} {l : Bys} (h : w'.ownsRow w.heap.size 5 1 v l.length (SG.byteCells l)) : BytI (icf w T) w' v l := IcS.row h
theorem Doc.bytesOf {w0 : World} (h : Doc T d w0 g st dv fv) (e0 : Ext No w0 w) (hW : DocW n st) {i : Nat} (hi : i < st.files.length) (hK : ∀ v w', w'.ownsRow w.heap.size 5 1 v (st.fi i).now.length (SG.byteCells (st.fi i).now) → Ext No w w' → K v w') :
    PureS (nilV (ptrE g)) fun t => PureS (fieldAddrV 2 t) fun t => LoadC t (fun t w => PureS (indexAddrV 2 t (.int .i64 (i : Int))) fun t => LoadA 2 t (fun t w => CallS Tryz.prog 95 #[t] K w) w) w := by
  have h1 := h.no e0
  have hfi := Dk.fi_at hi
  obtain ⟨ad, p, r1, r2, r3⟩ := h1.files.at_ hfi
  have hfo := hW.wf.fil _ (List.mem_of_getElem? hfi)
  have hn2 := hW.n2
  exact h1.ld (k := 2) rfl (pur r1 (loadA r2 rfl (cXbytes r3 hfo.1 (by omega) (by omega) hK)))
theorem Doc.Read (h : Doc T d w g st dv fv) (hW : DocW n st) {s : El} (hs : s.length ≤ 9223372036854775806) (h0 : ∀ e w', st.file s = .error e → e ≠ 0 → Ext No w w' → K (.tuple [.slice none 0 0, .int .i64 e].toArray) w')
    (hK : ∀ i v w', st.file s = .ok i → w'.ownsRow w.heap.size 5 1 v (st.fi i).now.length (SG.byteCells (st.fi i).now) → Ext No w w' → K (.tuple [v, .int .i64 0].toArray) w') : CallS Tryz.prog 110 #[ptrE g, encE s] K w := by
  refine s110_call hm ?_
  unfold s110
  refine h.file hW.wf hW.n2 hs (fun e w1 he hne e1 => ?_) fun i w1 hi e1 => ?_
  · exact pur (extract_0 _ _) (pur (extract_1 _ _ _) (pur (bin_neq _ _ _) (condT (by simpa using hne) (h0 e w1 he hne e1))))
  · exact pur (extract_0 _ _) (pur (extract_1 _ _ _) (pur (bin_neq _ _ _) (condF (by simp) (h.bytesOf e1 hW (hW.wf.file_lt hi) fun v w2 ho e2 => hK i v w2 hi (owns_base ho fun b hb => by have := (ho.lt b hb).1; have := e1.size; omega) (e1.trans e2)))))
theorem Doc.ReadAt (h : Doc T d w g st dv fv) (hW : DocW n st) {s : El} (hs : s.length ≤ 9223372036854775806) {k m : Int} (h0 : ∀ e w', st.file s = .error e → e ≠ 0 → Ext No w w' → K (.tuple [.slice none 0 0, .int .i64 e].toArray) w')
    (h1 : ∀ i w', st.file s = .ok i → rdAt (st.fi i).now k m = none → Ext No w w' → K (.tuple [.slice none 0 0, .int .i64 1].toArray) w')
    (hK : ∀ i v l w', st.file s = .ok i → rdAt (st.fi i).now k m = some l → SlB w' v l → Ext No w w' → K (.tuple [v, .int .i64 0].toArray) w') : CallS Tryz.prog 113 #[ptrE g, encE s, .int .i64 k, .int .i64 m] K w := by
  refine s113_call hm ?_
  unfold s113
  refine h.Read hW hs (fun e w1 he hne e1 => ?_) fun i v w1 hi ho e1 => ?_
  · exact pur (extract_0 _ _) (pur (extract_1 _ _ _) (pur (bin_neq _ _ _) (condT (by simpa using hne) (h0 e w1 he hne e1))))
  have hnl := (hW.wf.fi i).1.now_len
  have bad : (m < 0 ∨ k < 0 ∨ ((st.fi i).now.length : Int) < k) → K (.tuple [.slice none 0 0, .int .i64 1].toArray) w1 := fun h => h1 i w1 hi (if_pos h) e1
  refine pur (extract_0 _ _) (pur (extract_1 _ _ _) (pur (bin_neq _ _ _) (condF (by simp) (pur (bin_lss _ _ _) ?_))))
  by_cases c1 : m < 0
  · exact orT (by simpa using c1) (orT rfl (condT rfl (bad (.inl c1))))
  refine orF (by simpa using c1) (pur (bin_lss _ _ _) (pur (pickF _ _) ?_))
  by_cases c2 : k < 0
  · exact orT (by simpa using c2) (condT rfl (bad (.inr (.inl c2))))
  have hs1 : SlB w1 v (st.fi i).now := Sl.own ho
  refine orF (by simpa using c2) (pur hs1.len (pur (bin_gtr _ _ _) (pur (pickF _ _) (condD (fun c3 => bad (.inr (.inr c3))) (fun c3 => ?_)))))
  have hno : ¬ (m < 0 ∨ k < 0 ∨ ((st.fi i).now.length : Int) < k) := fun h => h.elim c1 fun h => h.elim c2 c3
  obtain ⟨kn, rfl⟩ : ∃ kn : Nat, k = (kn : Int) := ⟨k.toNat, by omega⟩
  obtain ⟨mn, rfl⟩ : ∃ mn : Nat, m = (mn : Int) := ⟨m.toNat, by omega⟩
  obtain ⟨v1, t1, t2, _⟩ := sl_drop hs1 (k := kn) (by omega) .i64
  have t2' : SlB w1 v1 ((st.fi i).now.drop kn) := by
    unfold SlB
    rw [byteCells_drop, List.length_drop]
    simpa using t2
  have hrd : rdAt (st.fi i).now (kn : Int) (mn : Int) = some (((st.fi i).now.drop kn).take mn) := by unfold rdAt; rw [if_neg hno, Int.toNat_natCast, Int.toNat_natCast]
  refine pur t1 ?_
  refine join1 (fun v w' => w1 = w' ∧ SlB w1 v (((st.fi i).now.drop kn).take mn)) (fun v w' hh => by obtain ⟨rfl, hh⟩ := hh; exact hK i v _ w1 hi hrd hh e1) fun J2 hJ2 => ?_
  refine pur t2'.len (pur (bin_gtr _ _ _) (condD (fun hgt => ?_) (fun hle => hJ2 _ _ ⟨rfl, by rw [List.take_of_length_le (by omega)]; exact t2'⟩)))
  obtain ⟨v2, t3, t4, _⟩ := sl_takeB t2' (n := mn) (by omega) .i64
  exact pur t3 (hJ2 _ _ ⟨rfl, t4⟩)
theorem Doc.Unsynced (h : Doc T d w g st dv fv) (hW : DocW n st) {s : El} (hs : s.length ≤ 9223372036854775806) (h0 : ∀ e w', st.file s = .error e → e ≠ 0 → Ext No w w' → K (.tuple [.int .i64 0, .int .i64 e].toArray) w')
    (hK : ∀ i w', st.file s = .ok i → Ext No w w' → K (.tuple [.int .i64 (st.fi i).openI, .int .i64 0].toArray) w') : CallS Tryz.prog 115 #[ptrE g, encE s] K w := by
  refine s115_call hm ?_
  unfold s115
  refine h.file hW.wf hW.n2 hs (fun e w1 he hne e1 => ?_) fun i w1 hi e1 => ?_
  · exact pur (extract_0 _ _) (pur (extract_1 _ _ _) (pur (bin_neq _ _ _) (condT (by simpa using hne) (h0 e w1 he hne e1))))
  · have hfi := Dk.fi_at (hW.wf.file_lt hi)
    have h1 := h.no e1
    obtain ⟨ad, p, r1, r2, r3⟩ := h1.files.at_ hfi
    have hfo := hW.wf.fil _ (List.mem_of_getElem? hfi)
    have hn2 := hW.n2
    exact pur (extract_0 _ _) (pur (extract_1 _ _ _) (pur (bin_neq _ _ _) (condF (by simp) (h1.ld (k := 2) rfl (pur r1 (loadA r2 rfl (cXopen r3 (by omega) fun w2 e2 => hK i w2 hi (e1.trans e2))))))))
theorem Doc.Open (h : Doc T d w g st dv fv) (hW : DocW n st) {s : El} (h0 : ∀ e, st.findD s = .error e → e ≠ 0 → K (.tuple [.int .i64 0, .int .i64 e].toArray) w)
    (hK : ∀ D, st.findD s = .ok D → K (.tuple [.int .i64 (D.was.length : Int), .int .i64 0].toArray) w) : CallS Tryz.prog 68 #[ptrE g, encE s] K w := by
  refine s68_call hm ?_
  unfold s68
  have hn2 := hW.n2
  refine h.directory hW.wf.dlen (fun e he hne => ?_) fun i D hi hj => ?_
  · exact pur (extract_0 _ _) (pur (extract_1 _ _ _) (pur (bin_neq _ _ _) (condT (by simpa using hne) (h0 e he hne))))
  · have hwl := hW.wf.wlen D (List.mem_of_getElem? hj)
    obtain ⟨ad, wv, a1, a2, a3, _⟩ := h.dirs.at_ hj
    have hlen : lenSliceV wv = some (.int .i64 ((D.was.length + 1 : Nat) : Int)) := by obtain ⟨qs, _, h3, _⟩ := a3; have := h3.1.len; simpa using this
    exact pur (extract_0 _ _) (pur (extract_1 _ _ _) (pur (bin_neq _ _ _) (condF (by simp) (h.ld (k := 1) rfl (pur a1 (pur (field_ad _ _) (SG.load (S := No) (a2 1 _ rfl) (pur hlen (pur (sub64 (c := (D.was.length : Int)) (by omega) (by omega) (by omega)) (hK D hi))))))))))
theorem Doc.List_ (h : Doc T d w g st dv fv) (hW : DocW n st) {s : El} (h0 : ∀ e, st.findD s = .error e → e ≠ 0 → K (.tuple [.slice none 0 0, .int .i64 e].toArray) w)
    (hK : ∀ D v w', st.findD s = .ok D → IcS T w v D.now.length 1 ((D.now.map (·.1)).map encE) → Ext No w w' → K (.tuple [v, .int .i64 0].toArray) w') : CallS Tryz.prog 117 #[ptrE g, encE s] K w := by
  refine s117_call hm ?_
  unfold s117
  have hn2 := hW.n2
  refine h.directory hW.wf.dlen (fun e he hne => ?_) fun i D hi hj => ?_
  · exact pur (extract_0 _ _) (pur (extract_1 _ _ _) (pur (bin_neq _ _ _) (condT (by simpa using hne) (h0 e he hne))))
  · have hwl := hW.wf.wlen D (List.mem_of_getElem? hj)
    refine pur (extract_0 _ _) (pur (extract_1 _ _ _) (pur (bin_neq _ _ _) (condF (by simp) (h.now (Ext.refl _ _) hj (by omega) fun p w1 hp e1 => runS (fldN0 w1 p.1 p.2) (hK D p.1 w1 hi ?_ e1)))))
    rw [List.map_map]
    exact hp.1
theorem Doc.Same (h : Doc T d w g st dv fv) (hW : DocW n st) {a b : El} (ha : a.length ≤ 9223372036854775806) (hb : b.length ≤ 9223372036854775806)
    (hK : ∀ w', Ext No w w' → K (.bool (match st.file a, st.file b with | .ok i, .ok j => decide (i = j) | _, _ => false)) w') : CallS Tryz.prog 119 #[ptrE g, encE a, encE b] K w := by
  refine s119_call hm ?_
  unfold s119
  refine h.file hW.wf hW.n2 ha (fun e w1 he hne e1 => ?_) fun i w1 hi e1 => ?_
  · refine pur (extract_0 _ _) (pur (extract_1 _ _ _) ((h.no e1).file hW.wf hW.n2 hb (fun e' w2 he' hne' e2 => ?_) fun j w2 hj e2 => ?_))
    · have := hK w2 (e1.trans e2); rw [he, he'] at this
      exact pur (extract_0 _ _) (pur (extract_1 _ _ _) (pur (bin_eql _ _ _) (andF (by simpa using hne) (andF rfl this))))
    · have := hK w2 (e1.trans e2); rw [he, hj] at this
      exact pur (extract_0 _ _) (pur (extract_1 _ _ _) (pur (bin_eql _ _ _) (andF (by simpa using hne) (andF rfl this))))
  · refine pur (extract_0 _ _) (pur (extract_1 _ _ _) ((h.no e1).file hW.wf hW.n2 hb (fun e' w2 he' hne' e2 => ?_) fun j w2 hj e2 => ?_))
    · have := hK w2 (e1.trans e2); rw [hi, he'] at this
      exact pur (extract_0 _ _) (pur (extract_1 _ _ _) (pur (bin_eql _ _ _) (andT (by simp) (pur (bin_eql _ _ _) (pur (pickT _ _) (andF (by simpa using hne') this))))))
    · have := hK w2 (e1.trans e2); rw [hi, hj] at this
      refine pur (extract_0 _ _) (pur (extract_1 _ _ _) (pur (bin_eql _ _ _) (andT (by simp) (pur (bin_eql _ _ _) (pur (pickT _ _) (andT (by simp) (pur (bin_eql _ _ _) (pur (pickT _ _) ?_))))))))
      have e5 : decide ((i : Int) = (j : Int)) = decide (i = j) := by rw [decide_eq_decide]; omega
      rw [e5]; exact this
theorem Doc.Sync (h : Doc T d w g st dv fv) (hW : DocW n st) {s : El} (hs : s.length ≤ 9223372036854775806) (h0 : ∀ e w', st.file s = .error e → Ext No w w' → K (.int .i64 e) w')
    (hK : ∀ i w' T' fv', st.file s = .ok i → Doc T' d w' g (st.sync i).2 dv fv' → Gon (DocT d) w T w' T' → K (.int .i64 (st.sync i).1) w') : CallS Tryz.prog 55 #[ptrE g, encE s] K w := by
  refine s55_call hm ?_
  unfold s55
  have hW1 := hW.wf
  have hn2 := hW.n2
  refine h.file hW1 hW.n2 hs (fun e w1 he hne e1 => ?_) fun i w1 hi e1 => ?_
  · exact pur (extract_0 _ _) (pur (extract_1 _ _ _) (pur (bin_neq _ _ _) (condT (by simpa using hne) (h0 e w1 he e1))))
  have hK' := hK i
  unfold Dk.sync at hK'
  refine pur (extract_0 _ _) (pur (extract_1 _ _ _) (pur (bin_neq _ _ _) (condF (by simp) ?_)))
  refine (h.no e1).stops hW1.fail hW1.stop hW.sc hW.fm fun w2 h2 k2 => ?_
  have k02 : Gon (DocT d) w T w2 T := (Gon.no e1).trans k2
  have hlt := hW1.file_lt hi
  have hfl := hW1.flen
  refine join0 (fun w' => K (.int .i64 (chgV st).1) w') (fun w' h => h) fun J0 hJ0 => pur (bin_eql _ _ _) (condD (fun heq => ?_) (fun hne => ?_))
  rotate_left
  · have := hK' w2 T fv hi
    rw [if_pos (by simpa using hne)] at this
    exact hJ0 _ (this h2 k02)
  have hfi := Dk.fi_at hlt
  obtain ⟨ad, p, r1, r2, r3⟩ := h2.files.at_ (i := i) hfi
  have hfo := hW1.fil _ (List.mem_of_getElem? hfi)
  refine h2.ld (k := 2) rfl (pur r1 (loadA r2 rfl (cXbytes r3 hfo.1 (by omega) (by omega) fun v3 w3 ho3 e3 => ?_)))
  obtain ⟨va, vn, vc, rfl⟩ := own_slice ho3
  refine runS (buildFilB w3 va vn vc) ?_
  have k3 : Gon Nil w2 T w3 (icf w2 T) := Gon.icf e3
  refine (h2.keep k3 (fun h => h) fun h => h).set (i := i) hlt (by show st.files.length ≤ _; omega) (p := (.slice va vn vc, .slice none 0 0)) (f := ⟨(st.fi i).now, []⟩) ⟨BytI.row ho3, [], rfl, IcS.nil_ _ _ 2, fun q hq => by cases hq⟩ fun w4 T4 fv4 h4 k4 => hJ0 _ ?_
  have := hK' w4 T4 fv4 hi
  rw [if_neg (by simpa using heq)] at this
  rw [heq]
  exact this h4 ((k02.trans (k3.mono fun _ h => h.elim)).trans k4)
theorem Doc.Cut (h : Doc T d w g st dv fv) (hW : DocW n st) {s : El} (hs : s.length ≤ 9223372036854775806) {k : Int} (h0 : ∀ e w', st.file s = .error e → Ext No w w' → K (.int .i64 e) w')
    (hK : ∀ i w' T' fv', st.file s = .ok i → Doc T' d w' g (st.cut i k).2 dv fv' → Gon (DocT d) w T w' T' → K (.int .i64 (st.cut i k).1) w') : CallS Tryz.prog 48 #[ptrE g, encE s, .int .i64 k] K w := by
  refine s48_call hm ?_
  unfold s48
  have hW1 := hW.wf
  have hn2 := hW.n2
  refine h.file hW1 hW.n2 hs (fun e w1 he hne e1 => ?_) fun i w1 hi e1 => ?_
  · exact pur (extract_0 _ _) (pur (extract_1 _ _ _) (pur (bin_neq _ _ _) (condT (by simpa using hne) (h0 e w1 he e1))))
  have hK' := hK i
  unfold Dk.cut at hK'
  refine pur (extract_0 _ _) (pur (extract_1 _ _ _) (pur (bin_neq _ _ _) (condF (by simp) ?_)))
  have hlt := hW1.file_lt hi
  have hfl := hW1.flen
  have hnl := (hW1.fi i).1.now_len
  refine h.bytesOf e1 hW hlt fun v2 w2 ho2 e2 => pur (bin_lss _ _ _) ?_
  have e02 := e1.trans e2
  by_cases hneg : k < 0
  · refine orT (by simpa using hneg) (condT rfl ?_)
    have := hK' w2 T fv hi
    rw [if_pos (.inl hneg)] at this
    exact this (h.no e02) (Gon.no e02)
  refine orF (by simpa using hneg) (pur (Sl.own ho2).len (pur (bin_gtr _ _ _) (pur (pickF _ _) (condD (fun hbig => ?_) (fun hfit => ?_)))))
  · have := hK' w2 T fv hi
    rw [if_pos (.inr hbig)] at this
    exact this (h.no e02) (Gon.no e02)
  have hno : ¬ (k < 0 ∨ ((st.fi i).now.length : Int) < k) := fun h => h.elim hneg hfit
  -- the bytes never change from here on
  have kf : Gon Nil w T w2 (icf w T) := Gon.icf e02
  have hby : BytI (icf w T) w2 v2 (st.fi i).now := BytI.row (owns_base ho2 fun b hb => by have := (ho2.lt b hb).1; have := e1.size; omega)
  refine (h.keep kf (fun h => h) fun h => h).stops hW1.fail hW1.stop hW.sc hW.fm fun w3 h3 k3 => ?_
  have k03 : Gon (DocT d) w T w3 (icf w T) := (kf.mono fun _ h => h.elim).trans k3
  refine join0 (fun w' => K (.int .i64 (chgV st).1) w') (fun w' h => h) fun J0 hJ0 => pur (bin_eql _ _ _) (condD (fun heq => ?_) (fun hne => ?_))
  rotate_left
  · have := hK' w3 (icf w T) fv hi
    rw [if_neg hno, if_pos (by simpa using hne)] at this
    exact hJ0 _ (this h3 k03)
  obtain ⟨kn, rfl⟩ : ∃ kn : Nat, k = (kn : Int) := ⟨k.toNat, by omega⟩
  have hby3 := hby.keep k3 (fun h => by cases h)
  obtain ⟨v', t1, t2, t3⟩ := sl_takeB hby3.1 (n := kn) (by omega) .i64
  have hvs : ∃ a m c, v' = .slice a m c := by obtain ⟨a, c, rfl, _⟩ := t2; exact ⟨_, _, _, rfl⟩
  obtain ⟨va, vn, vc, rfl⟩ := hvs
  refine pur t1 (runS (buildFilB w3 va vn vc) ?_)
  refine h3.set (i := i) hlt (by show st.files.length ≤ _; omega) (p := (.slice va vn vc, .slice none 0 0)) (f := ⟨(st.fi i).now.take kn, []⟩) ⟨⟨t2, fun b hb => ?_⟩, [], rfl, IcS.nil_ _ _ 2, fun q hq => by cases hq⟩ fun w4 T4 fv4 h4 k4 => hJ0 _ ?_
  · rcases t3 with t3 | t3
    · exact hby3.2 b (by rw [← t3]; exact hb)
    · rw [t3] at hb; cases hb
  have := hK' w4 T4 fv4 hi
  rw [if_neg hno, if_neg (by simpa using heq), Int.toNat_natCast] at this
  rw [heq]
  exact this h4 (k03.trans k4)
set_option maxHeartbeats 1000000 in
theorem Doc.Flip (h : Doc T d w g st dv fv) (hW : DocW n st) {s : El} (hs : s.length ≤ 9223372036854775806) {k : Int} (hk : I64 k) (h0 : ∀ e w', st.file s = .error e → Ext No w w' → K (.int .i64 e) w')
    (hK : ∀ i w' T' fv', st.file s = .ok i → Doc T' d w' g (st.flip i k).2 dv fv' → Gon (DocT d) w T w' T' → K (.int .i64 (st.flip i k).1) w') : CallS Tryz.prog 60 #[ptrE g, encE s, .int .i64 k] K w := by
  refine s60_call hm ?_
  unfold s60
  have hW1 := hW.wf
  have hn2 := hW.n2
  obtain ⟨hk1, hk2⟩ := hk
  refine h.file hW1 hW.n2 hs (fun e w1 he hne e1 => ?_) fun i w1 hi e1 => ?_
  · exact pur (extract_0 _ _) (pur (extract_1 _ _ _) (pur (bin_neq _ _ _) (condT (by simpa using hne) (h0 e w1 he e1))))
  have hK' := hK i
  unfold Dk.flip at hK'
  refine pur (extract_0 _ _) (pur (extract_1 _ _ _) (pur (bin_neq _ _ _) (condF (by simp) ?_)))
  have hlt := hW1.file_lt hi
  have hfl := hW1.flen
  have hfi := Dk.fi_at hlt
  obtain ⟨ad, p, r1, r2, r3⟩ := h.files.at_ (i := i) hfi
  have hfo := hW1.fil _ (List.mem_of_getElem? hfi)
  have hff := hfo.1.1
  refine (h.no e1).ld (k := 2) rfl (pur r1 (loadA (At.no' r2 e1) rfl (box fun w2 b2 e2 z2 => storeAll b2 rfl (by simp [Value.cells]) (by
    intro u hu
    simp only [List.mem_cons, List.not_mem_nil, or_false] at hu
    rcases hu with rfl | rfl
    · exact r3.one.1
    · exact r3.one.2) fun w3 b3 e3 z3 => ?_)))
  have e13 : Ext No w1 w3 := e2.fresh e3 fun b hb => .inr (by rw [show b = w1.heap.size from hb]; exact Nat.le_refl _)
  have e03 := e1.trans e13
  have hwlen : lenSliceV p.2 = some (.int .i64 ((st.fi i).ws.length : Int)) := by obtain ⟨qs, _, h2, _⟩ := r3.2; exact h2.1.len
  refine pur (field_ptr _ _ _) (loadB b3 (v := p.2) rfl (pur hwlen (pur (bin_gtr _ _ _) (condD (fun hopen => ?_) (fun hno => ?_)))))
  · have := hK' w3 T fv hi
    rw [if_pos (by omega)] at this
    exact this (h.no e03) (Gon.no e03)
  have e0 : ¬ 0 < (st.fi i).ws.length := by omega
  have bad : (k < 0 ∨ 8 * ((st.fi i).fast.length : Int) ≤ k) → ∀ {w'}, Ext No w w' → K (.int .i64 1) w' := fun hh {w'} e => by
    have := hK' w' T fv hi
    rw [if_neg e0, if_pos hh] at this
    exact this (h.no e) (Gon.no e)
  refine pur (bin_lss _ _ _) ?_
  by_cases hneg : k < 0
  · exact orT (by simpa using hneg) (condT rfl (bad (.inl hneg) e03))
  obtain ⟨kn, rfl⟩ : ∃ kn : Nat, k = (kn : Int) := ⟨k.toNat, by omega⟩
  have hf3 : SlB w3 p.1 (st.fi i).fast := Sl.no r3.1.1 e03
  refine orF (by simp) (pur (bitQ (by omega)) (pur (field_ptr _ _ _) (loadB b3 (v := p.1) rfl (pur hf3.len (pur (bin_geq _ _ _) (pur (pickF _ _) (condD (fun hbig => bad (.inr (by omega)) e03) (fun hfit => ?_))))))))
  have hno2 : ¬ ((kn : Int) < 0 ∨ 8 * ((st.fi i).fast.length : Int) ≤ (kn : Int)) := by omega
  have hkl : kn / 8 < (st.fi i).fast.length := by omega
  obtain ⟨c, hc⟩ := getN (xs := (st.fi i).fast) (i := kn / 8) hkl
  have hcc : (SG.byteCells (st.fi i).fast)[kn / 8]? = some (.int .u8 (c.toNat : Int)) := by unfold SG.byteCells; rw [List.getElem?_map, hc]; rfl
  have h8 : kn % 8 < 8 := Nat.mod_lt _ (by decide)
  refine build0 TB fun w4 b4 e4 z4 => pur (field_ptr _ _ _) (loadB (b3.no e4) (v := p.1) rfl ?_)
  refine app_own (w := w3) TB e4 (Blk.own0 b4 (Nat.le_refl _)) (Sl.no hf3 e4) (byteCells_one _) (by omega) (by omega) fun v5 w5 ho5 e5 => ?_
  rw [Nat.zero_add, List.nil_append] at ho5
  obtain ⟨gg, q0, q1, q2, q3⟩ := Own.at1 ho5 hcc .i64
  refine pur (bitQ (by omega)) (pur (bitQ (by omega)) (pur q1 (SG.load (S := No) q2 (pur (bitR kn) (pur (conv64u (by omega) (by omega)) (pur (bitS h8) (pur (bitX h8) (pur q1 ?_))))))))
  refine q3 _ rfl fun w6 ho6 e6 z6 => ?_
  rw [flipC hc] at ho6
  have e36 : Ext No w3 w6 := e5.fresh e6 fun b hb => .inr (by rw [show b = gg from hb]; exact (ho5.lt gg q0).1)
  have e06 := e03.trans e36
  obtain ⟨va, vn, vc, rfl⟩ := own_slice ho6
  refine runS (buildFilB w6 va vn vc) ?_
  have k6 : Gon Nil w T w6 (icf w T) := Gon.icf e06
  have hby : BytI (icf w T) w6 (.slice va vn vc) (flipB (st.fi i).fast kn) := BytI.row (by
    rw [flipB_len]
    exact owns_base ho6 fun b hb => by have := (ho6.lt b hb).1; have := e03.size; omega)
  refine (h.keep k6 (fun h => h) fun h => h).set (i := i) hlt (by omega) (p := (.slice va vn vc, .slice none 0 0)) (f := ⟨flipB (st.fi i).fast kn, []⟩) ⟨hby, [], rfl, IcS.nil_ _ _ 2, fun q hq => by cases hq⟩ fun w7 T7 fv7 h7 k7 => ?_
  have := hK' w7 T7 fv7 hi
  rw [if_neg e0, if_neg hno2, Int.toNat_natCast] at this
  exact this h7 ((k6.mono fun _ h => h.elim).trans k7)
end
end Go.Proofs.YthohdinjpkehpaaGreat

namespace Go.Proofs.YthohdinjpkehpaaGreat
open Go SG Go.RowKit
set_option linter.unusedVariables false
set_option maxRecDepth 4000
set_option linter.unusedSimpArgs false

theorem DocT.free {d : Nat} : ¬ DocT d .free := fun h => by cases h
theorem DocT.ice {d : Nat} : ¬ DocT d .ice := fun h => by cases h
section
variable {T T1 : Tags} {w w1 : World} {d g n : Nat} {st : Dk} {dv fv : Value} {K : Value → World → Prop}
set_option maxHeartbeats 4000000 in
theorem Doc.Write (h : Doc T d w g st dv fv) (hW : DocW n st) {s : El} (hs : s.length ≤ 9223372036854775806) {k : Int} (hk : I64 k) {bv : Value} {b : Bys} (hb : Arg T w bv b) (hbl : b.length ≤ 140737488355328) (h0 : ∀ e w', st.file s = .error e → Ext No w w' → K (.int .i64 e) w')
    (hK : ∀ i w' T' fv', st.file s = .ok i → Doc T' d w' g (st.wr i k b).2 dv fv' → Gon (DocT d) w T w' T' → K (.int .i64 (st.wr i k b).1) w') : CallS Tryz.prog 92 #[ptrE g, encE s, .int .i64 k, bv] K w := by
  refine s92_call hm ?_
  unfold s92
  have hW1 := hW.wf
  have hn2 := hW.n2
  obtain ⟨hk1, hk2⟩ := hk
  have hq := hW1.quo
  refine h.file hW1 hW.n2 hs (fun e w1 he hne e1 => ?_) fun i w1 hi e1 => ?_
  · exact pur (extract_0 _ _) (pur (extract_1 _ _ _) (pur (bin_neq _ _ _) (condT (by simpa using hne) (h0 e w1 he e1))))
  have hK' := hK i
  unfold Dk.wr at hK'
  have hlt := hW1.file_lt hi
  have hfl := hW1.flen
  have hfo := hW1.fi i
  have hnl := hfo.1.now_len
  refine pur (extract_0 _ _) (pur (extract_1 _ _ _) (pur (bin_neq _ _ _) (condF (by simp) ?_)))
  refine h.bytesOf e1 hW hlt fun v2 w2 ho2 e2 => pur (Sl.own ho2).len (pur (bin_lss _ _ _) ?_)
  have e02 := e1.trans e2
  have bad : (k < 0 ∨ ((st.fi i).now.length : Int) < k) → K (.int .i64 1) w2 := fun hh => by
    have := hK' w2 T fv hi
    rw [if_pos hh] at this
    exact this (h.no e02) (Gon.no e02)
  by_cases hneg : k < 0
  · exact orT (by simpa using hneg) (condT rfl (bad (.inl hneg)))
  refine orF (by simpa using hneg) (pur (bin_gtr _ _ _) (pur (pickF _ _) (condD (fun hbig => bad (.inr hbig)) (fun hfit => ?_))))
  have hno : ¬ (k < 0 ∨ ((st.fi i).now.length : Int) < k) := fun h => h.elim hneg hfit
  obtain ⟨kn, rfl⟩ : ∃ kn : Nat, k = (kn : Int) := ⟨k.toNat, by omega⟩
  simp only [Int.toNat_natCast] at hK'
  generalize hF : st.fi i = f at *
  have hb2 : Arg T w2 bv b := hb.keep (M := Nil) (Gon.no e02) (fun h => h) fun h => h
  have h2 := h.no e02
  have hil := hW1.items_le
  have hus : st.used ≤ 65536 * 536870912 := by
    have := hW1.usedL_le (l := (items st.dirs).map (·.2)) (by simpa using hil)
    exact this
  refine pur hb2.1.len (pur (sub64 (c := (f.now.length : Int) - (kn : Int)) rfl (by omega) (by omega)) (pur (sub64 (c := ((kn + b.length : Nat) : Int) - (f.now.length : Int)) (by omega) (by omega) (by omega)) ?_))
  refine join1 (fun t w' => t = .bool (decide (f.now.length < kn + b.length ∧ st.quota < (st.used : Int) + ((kn + b.length - f.now.length : Nat) : Int))) ∧ Ext No w w') ?_ fun J1 hJ1 => ?_
  rotate_left
  · have h2d := h2.no (Ext.drew w2)
    have e02d := e02.trans (Ext.drew w2)
    refine draw (fun w' => w'.cell? ⟨g, 0, none⟩ = some (.int .i64 st.quota)) (h2d.blk.cell 0) (pur (bin_gtr _ _ _) (condD (fun hmore => ?_) (fun hless => ?_)))
    · refine pur (nil_ptr _) (pur (field_ptr _ _ _) (heldC (v := .int .i64 st.quota) (fun w' hh => hh) (pur (bin_gtr _ _ _) (condD (fun hover => ?_) (fun hin => ?_)))))
      · refine pur (pickT _ _) (pur (pickT _ _) (hJ1 _ _ ⟨?_, e02d⟩))
        congr 1
        rw [eq_comm, decide_eq_true_iff]
        omega
      · refine pur (nil_ptr _) (pur (field_ptr _ _ _) (heldC (v := .int .i64 st.quota) (fun w' hh => hh) (pur (sub64 (c := st.quota - (((kn + b.length : Nat) : Int) - (f.now.length : Int))) rfl (by omega) (by omega)) ?_)))
        refine h2d.Used hW1 (by omega) (by omega) fun w3 e3 => ⟨(h2d.no e3).blk.cell 0, pur (bin_gtr _ _ _) (pur (pickF _ _) (pur (pickT _ _) (hJ1 _ _ ⟨?_, e02d.trans e3⟩)))⟩
        congr 1
        rw [decide_eq_decide]
        constructor
        · intro h; exact ⟨by omega, by omega⟩
        · rintro ⟨h1, h2⟩; omega
    · refine pur (pickF _ _) (hJ1 _ _ ⟨?_, e02d⟩)
      congr 1
      rw [eq_comm, decide_eq_false_iff_not]
      omega
  rintro _ w3 ⟨rfl, e03⟩
  refine condD (fun hover => ?_) (fun hroom => ?_)
  · have := hK' w3 T fv hi
    rw [if_neg hno, if_pos hover] at this
    exact this (h.no e03) (Gon.no e03)
  have hbs : b.length ≤ 17592186044416 := by
    by_cases h1 : f.now.length < kn + b.length
    · have : ¬ st.quota < (st.used : Int) + ((kn + b.length - f.now.length : Nat) : Int) := fun h => hroom ⟨h1, h⟩
      omega
    · omega
  refine (h.no e03).script hW1.fail hW1.stop hW.sc hW.fm fun w4 h4 k4 => pur (extract_0 _ _) (pur (extract_1 _ _ _) ?_)
  have k04 : Gon (DocT d) w T w4 T := (Gon.no e03).trans k4
  have hb4 : Arg T w4 bv b := hb.keep k04 DocT.free DocT.ice
  generalize hbe : (if (chgV st).2 = true then b.take (b.length / 2) else b) = b' at *
  have hbl' : b'.length ≤ 17592186044416 := by rw [← hbe]; split; simp; omega; exact hbs
  refine join1 (fun v w' => w4 = w' ∧ Arg T w4 v b') ?_ fun J2 hJ2 => ?_
  rotate_left
  · refine condB (fun hh => ?_) (fun hh => ?_)
    · rw [if_pos hh] at hbe
      refine pur hb4.1.len (pur (v := .int .i64 ((b.length / 2 : Nat) : Int)) ((bin_quo _ _ _ (by decide)).trans (by
        have : ((b.length : Int)).tdiv 2 = ((b.length / 2 : Nat) : Int) := by
          rw [Int.tdiv_eq_ediv_of_nonneg (by omega)]; omega
        rw [this, wi64 (by omega) (by omega)])) ?_)
      obtain ⟨v', t1, t2, t3⟩ := sl_takeB hb4.1 (n := b.length / 2) (by omega) .i64
      refine pur t1 (hJ2 _ _ ⟨rfl, ?_, hb4.2.imp (fun h0 => by rw [← hbe, h0]; rfl) fun h2 x hx' => ?_⟩)
      · rw [← hbe]; exact t2
      · rcases t3 with t3 | t3
        · exact h2 x (by rw [← t3]; exact hx')
        · rw [t3] at hx'; cases hx'
    · rw [if_neg (by simp [hh])] at hbe
      subst hbe
      exact hJ2 _ _ ⟨rfl, hb4⟩
  rintro bv' _ ⟨rfl, hb'⟩
  refine join0 (fun w' => K (.int .i64 (chgV st).1) w') (fun w' h => h) fun J3 hJ3 => ?_
  have noWrite : ¬ (((chgV st).1 = 0 ∨ (chgV st).2 = true) ∧ 0 < b'.length) → K (.int .i64 (chgV st).1) w4 := fun hh => by
    have := hK' w4 T fv hi
    rw [if_neg hno, if_neg hroom, if_neg hh] at this
    exact this h4 k04
  refine pur (bin_eql _ _ _) ?_
  refine join1 (fun t w' => w4 = w' ∧ (¬ (chgV st).1 = 0 → t = .bool (chgV st).2)) ?_ fun J4 hJ4 => ?_
  rotate_left
  · rw [ifB_eq]
    by_cases hh : (chgV st).1 = 0
    · rw [if_neg (by simp [hh])]
      exact hJ4 _ _ ⟨rfl, fun h' => absurd hh h'⟩
    · rw [if_pos (by simp [hh])]
      exact hJ4 _ _ ⟨rfl, fun _ => rfl⟩
  rintro t _ ⟨rfl, ht⟩
  refine pur (v := .bool (decide ((chgV st).1 = 0 ∨ (chgV st).2 = true))) ((pick_b _ _ _).trans ?_) ?_
  · by_cases hh : (chgV st).1 = 0
    · simp [hh]
    · rw [ht hh]; simp [hh]
  refine join1 (fun t w' => w4 = w' ∧ (((chgV st).1 = 0 ∨ (chgV st).2 = true) → t = .bool (decide (0 < b'.length)))) ?_ fun J5 hJ5 => ?_
  rotate_left
  · rw [ifB_eq]
    by_cases hh : (chgV st).1 = 0 ∨ (chgV st).2 = true
    · rw [if_pos (by simpa using hh)]
      exact pur hb'.1.len (pur (bin_gtr _ _ _) (hJ5 _ _ ⟨rfl, fun _ => by congr 1; rw [decide_eq_decide]; omega⟩))
    · rw [if_neg (by simpa using hh)]
      exact hJ5 _ _ ⟨rfl, fun h' => absurd h' hh⟩
  rintro t _ ⟨rfl, ht2⟩
  refine pur (v := .bool (decide (((chgV st).1 = 0 ∨ (chgV st).2 = true) ∧ 0 < b'.length))) ((pick_b _ _ _).trans ?_) (condD (fun hdo => ?_) (fun hno3 => hJ3 _ (noWrite hno3)))
  · by_cases hh : (chgV st).1 = 0 ∨ (chgV st).2 = true
    · rw [ht2 hh]; simp [hh]
    · simp [hh]
  -- the write
  have hfi : (chgD st).files[i]? = some f := by rw [← hF]; exact Dk.fi_at hlt
  obtain ⟨ad, p, r1, r2, r3⟩ := h4.files.at_ hfi
  obtain ⟨qs, hq1, hq2, hq3⟩ := r3.2
  have hwl := hfo.2
  refine h4.ld (k := 2) rfl (pur r1 (loadA r2 rfl (box fun w5 b5 e5 z5 => storeAll b5 rfl (by simp [Value.cells]) (by
    intro u hu
    simp only [List.mem_cons, List.not_mem_nil, or_false] at hu
    rcases hu with rfl | rfl
    · exact r3.one.1
    · exact r3.one.2) fun w6 b6 e6 z6 => ?_)))
  have e46 : Ext No w4 w6 := e5.fresh e6 fun x hx => .inr (by rw [show x = w4.heap.size from hx]; exact Nat.le_refl _)
  refine build0 TRW fun w7 b7 e7 z7 => pur (field_ptr _ _ _) (loadB (b6.no e7) (v := p.2) rfl ?_)
  have hone : ∀ u ∈ flat wrC qs, u.oneCell' = true := flat_one1 fun a ha u hu => by
    simp only [wrC, List.mem_cons, List.not_mem_nil, or_false] at hu
    rcases hu with rfl | rfl
    · rfl
    · exact (hq3 a ha).one
  refine app_own (w := w6) TRW e7 (Blk.own0 b7 (Nat.le_refl _)) (Sl.no hq2.1 (e46.trans e7)) hone (by omega) (by omega) fun ov w8 ho8 e8 => ?_
  rw [Nat.zero_add, List.nil_append] at ho8
  have e48 := e46.trans e8
  refine copy_row TB (v := bv') (Sl.no hb'.1 e48) (byteCells_one _) (by omega) (by omega) fun lv w9 ho9 e9 => ?_
  obtain ⟨va, vn, vc, rfl⟩ := own_slice ho9
  refine runS (buildWrB w9 (kn : Int) va vn vc) ?_
  have ho89 := owns_ext ho8 e9 fun _ _ hh => hh
  refine row_one TRW ho89 (u := .agg #[.int .i64 (kn : Int), .slice va vn vc]) rfl (by
    intro c hc
    have hc' : c ∈ [Value.int .i64 (kn : Int), Value.slice va vn vc] := hc
    simp only [List.mem_cons, List.not_mem_nil, or_false] at hc'
    rcases hc' with rfl | rfl <;> rfl) (by omega) (by omega) (e8.trans e9).size fun ov2 w10 ho10 e10 hat => ?_
  have e610 : Ext No w6 w10 := (e8.trans e9).fresh e10 fun x hx => .inr (ho8.lt x hx).1
  have b10 := b6.no e610
  have hneb := Own.ne_blk ho10 b10 (by decide)
  refine pur (field_ptr _ _ _) (storeB b10 (by simp) (Own.one ho10) fun w11 b11 e11 z11 => loadA (At.of_blk b11) rfl ?_)
  have e411 : Ext No w4 w11 := (e46.trans e610).fresh e11 fun x hx => .inr (by rw [show x = w4.heap.size from hx]; exact Nat.le_refl _)
  have k11 : Gon Nil w4 T w11 (icf w4 T) := Gon.icf e411
  have ho11 := owns_ext ho10 e11 fun x hx hh => hneb (by rw [hx, show x = w4.heap.size from hh])
  have hl11 : BytI (icf w4 T) w11 (.slice va vn vc) b' := by
    have hx1 := owns_ext ho9 e10 fun x hx hh => Own.ne_own ho9 ho89 (by decide) x hx hh
    have hx2 := owns_ext hx1 e11 fun x hx hh => Own.ne_blk hx1 b10 (by decide) (by rw [hx, show x = w4.heap.size from hh])
    exact BytI.row (owns_base hx2 fun x hx => by have := (hx2.lt x hx).1; have := e48.size; omega)
  refine (h4.keep k11 (fun h => h) fun h => h).set (i := i) hlt (by show st.files.length ≤ _; omega) (p := (p.1, ov2)) (f := ⟨f.fast, f.ws ++ [(kn, b')]⟩) ⟨r3.1.keep k11 (fun h => h), qs ++ [((kn, b'), .slice va vn vc)], by rw [List.map_append, hq1]; rfl, ?_, fun q hqm => ?_⟩ fun w12 T12 fv12 h12 k12 => hJ3 _ ?_
  · rw [flat_append, flat_one, List.length_append]
    exact IcS.row (owns_base ho11 fun x hx => by have := (ho11.lt x hx).1; have := e46.size; omega)
  · rcases List.mem_append.1 hqm with hqm | hqm
    · exact (hq3 q hqm).keep k11 fun h => h
    · rw [List.mem_singleton.1 hqm]; exact hl11
  have := hK' w12 T12 fv12 hi
  rw [if_neg hno, if_neg hroom, if_pos hdo] at this
  exact this h12 ((k04.trans (k11.mono fun _ h => h.elim)).trans k12)
theorem Doc.Append (h : Doc T d w g st dv fv) (hW : DocW n st) {s : El} (hs : s.length ≤ 9223372036854775806) {bv : Value} {b : Bys} (hb : Arg T w bv b) (hbl : b.length ≤ 140737488355328) (h0 : ∀ e w', st.file s = .error e → Ext No w w' → K (.int .i64 e) w')
    (hK : ∀ i w' T' fv', st.file s = .ok i → Doc T' d w' g (st.wr i (st.fi i).now.length b).2 dv fv' → Gon (DocT d) w T w' T' → K (.int .i64 (st.wr i (st.fi i).now.length b).1) w') : CallS Tryz.prog 93 #[ptrE g, encE s, bv] K w := by
  refine s93_call hm ?_
  unfold s93
  have hW1 := hW.wf
  refine h.file hW1 hW.n2 hs (fun e w1 he hne e1 => ?_) fun i w1 hi e1 => ?_
  · exact pur (extract_0 _ _) (pur (extract_1 _ _ _) (pur (bin_neq _ _ _) (condT (by simpa using hne) (h0 e w1 he e1))))
  have hlt := hW1.file_lt hi
  have hnl := (hW1.fi i).1.now_len
  refine pur (extract_0 _ _) (pur (extract_1 _ _ _) (pur (bin_neq _ _ _) (condF (by simp) (h.bytesOf e1 hW hlt fun v2 w2 ho2 e2 => pur (Sl.own ho2).len ?_))))
  have e02 := e1.trans e2
  refine (h.no e02).Write hW hs (k := ((st.fi i).now.length : Int)) ⟨by omega, by omega⟩ (hb.keep (M := Nil) (Gon.no e02) (fun h => h) fun h => h) hbl (fun e w' he _ => (ok_err hi he).elim) fun i' w3 T3 fv3 hi' h3 k3 => ?_
  obtain rfl := ok_inj hi hi'
  exact hK i w3 T3 fv3 hi h3 ((Gon.no e02).trans k3)
end
end Go.Proofs.YthohdinjpkehpaaGreat

namespace Go.Proofs.YthohdinjpkehpaaGreat
open Go SG Go.RowKit
set_option linter.unusedVariables false
set_option maxRecDepth 4000
set_option linter.unusedSimpArgs false

theorem dput_split {x : El} : ∀ (l : List Di) (i : Nat), (∀ E ∈ l.take i, ltE E.name x = true) → (∀ E, l[i]? = some E → ltE E.name x = false) → ∀ (D : Di), D.name = x → dput l D = l.take i ++ D :: l.drop i
  | [], i, _, _, D, _ => by simp [dput]
  | F :: r, 0, _, h2, D, hD => by
    simp only [dput, List.take_zero, List.drop_zero, List.nil_append]
    rw [if_neg (by rw [hD, h2 F rfl]; decide)]
  | F :: r, i + 1, h1, h2, D, hD => by
    simp only [dput, List.take_succ_cons, List.drop_succ_cons, List.cons_append]
    rw [if_pos (by rw [hD]; exact h1 F (by simp)), dput_split r i (fun E hE => h1 E (by simp [hE])) (fun E hE => h2 E (by simpa using hE)) D hD]
theorem buildNam0 (w : World) : (Instr.build 129 [].toArray).run Tryz.prog w = .ok (.agg #[.slice none 0 0, .slice none 0 0]) w := by kernel_rfl
theorem buildDir2 (w : World) (b : ByteArray) (a : Option Addr) (n c : Nat) : (Instr.build 127 [(0, .string b), (1, .slice a n c)].toArray).run Tryz.prog w = .ok (.agg #[.string b, .slice a n c]) w := by kernel_rfl
theorem buildRFS (w : World) (q : Int) : (Instr.build 99 [(0, .int .i64 q)].toArray).run Tryz.prog w = .ok (.agg #[.int .i64 q, .slice none 0 0, .slice none 0 0, .int .i64 0, .int .i64 0, .int .i64 0, .bool false]) w := by kernel_rfl
theorem dirC_one {qs : List (Di × Value)} {T : Tags} {w : World} (h : ∀ q ∈ qs, WaysR T w q.2 (q.1.was ++ [q.1.now])) : ∀ u ∈ flat dirC qs, u.oneCell' = true := flat_one1 fun a ha u hu => by
  simp only [dirC, List.mem_cons, List.not_mem_nil, or_false] at hu
  rcases hu with rfl | rfl
  · rfl
  · exact (h a ha).one
section
variable {T T1 : Tags} {w w1 : World} {d g n : Nat} {st : Dk} {dv fv : Value} {K : Value → World → Prop}
theorem Doc.dlen (h : Doc T d w g st dv fv) : lenSliceV dv = some (.int .i64 (st.dirs.length : Int)) := by obtain ⟨qs, _, h2, _⟩ := h.dirs; exact h2.1.len
set_option maxHeartbeats 2000000 in
theorem Doc.Mkdir (h : Doc T d w g st dv fv) (hW : DocW n st) {x : El}
    (hK : ∀ w' T' dv', Doc T' d w' g (st.mkdir x).2 dv' fv → Gon (DocT d) w T w' T' → K (.int .i64 (st.mkdir x).1) w') : CallS Tryz.prog 42 #[ptrE g, encE x] K w := by
  refine s42_call hm ?_
  unfold s42
  unfold Dk.mkdir at hK
  have hW1 := hW.wf
  have hn2 := hW.n2
  have hdl := hW1.dlen
  refine cOName (pur (not_b _) (condB (fun hbad => ?_) (fun hok => ?_)))
  · rw [if_pos (by simpa using hbad)] at hK; exact hK w T dv h (Gon.refl _ _)
  have hnm : nameOk x = true := by simpa using hok
  rw [if_neg (by simp [hnm])] at hK
  refine h.dir hdl (fun hno => ?_) fun i D hi hd => ?_
  rotate_left
  · refine pur (bin_geq _ _ _) (condT (by rw [decide_eq_true_iff]; omega) ?_)
    rw [if_pos (by rw [hd]; rfl)] at hK
    exact hK w T dv h (Gon.refl _ _)
  rw [if_neg (by simp [hno])] at hK
  refine pur (bin_geq _ _ _) (condF (by decide) ?_)
  have hlen := h.dlen
  refine h.ld (k := 1) rfl (pur hlen (pur (bin_geq _ _ _) (condD (fun hfull => ?_) (fun hroom => ?_))))
  · rw [if_pos (by omega)] at hK; exact hK w T dv h (Gon.refl _ _)
  rw [if_neg (by omega)] at hK
  refine h.stops hW1.fail hW1.stop hW.sc hW.fm fun w2 h2 k2 => pur (bin_neq _ _ _) (condN (fun hne => ?_) (fun heq => ?_))
  · rw [if_pos hne] at hK; exact hK w2 T dv h2 k2
  rw [if_neg (by simpa using heq)] at hK
  refine join1 (fun v w' => ∃ i : Nat, v = .int .i64 (i : Int) ∧ w2 = w' ∧ i ≤ st.dirs.length ∧ (∀ E ∈ st.dirs.take i, ltE E.name x = true) ∧ ∀ E, st.dirs[i]? = some E → ltE E.name x = false) ?_ fun J0 hJ0 => ?_
  rotate_left
  · refine loop1 (σ := Nat) (fun i a w' => a = .int .i64 (i : Int) ∧ w2 = w' ∧ i ≤ st.dirs.length ∧ ∀ E ∈ st.dirs.take i, ltE E.name x = true) (fun i => st.dirs.length - i) 0 ⟨rfl, rfl, Nat.zero_le _, fun E hE => by simp at hE⟩ ?_
    rintro i _ _ ⟨rfl, rfl, hi, hall⟩ L1 hL1
    refine h2.ld (k := 1) rfl (pur hlen (pur (bin_lss _ _ _) ?_))
    by_cases hlt : i < st.dirs.length
    · obtain ⟨D, hD⟩ := getN (xs := st.dirs) (i := i) hlt
      obtain ⟨ad, wv, a1, a2, a3, _⟩ := h2.dirs.at_ (i := i) (D := D) hD
      refine andT (by rw [decide_eq_true_iff]; omega) (h2.ld (k := 1) rfl (pur a1 (pur (field_ad _ _) (SG.load (S := No) (a2 0 _ rfl) (pur (lsE _ _) (pur (pickT _ _) (condB (fun hc => ?_) (fun hc => ?_))))))))
      · refine pur (add64 (c := ((i + 1 : Nat) : Int)) (by omega) (by omega) (by omega)) (hL1 (i + 1) _ _ ⟨rfl, rfl, by omega, fun E hE => ?_⟩ (by omega))
        rw [List.take_add_one, hD] at hE
        rcases List.mem_append.1 hE with hE | hE
        · exact hall E hE
        · simp at hE; subst hE; exact hc
      · exact hJ0 _ _ ⟨i, rfl, rfl, hi, hall, fun E hE => by rw [hD] at hE; cases hE; exact hc⟩
    · exact andF (by rw [decide_eq_false_iff_not]; omega) (condF rfl (hJ0 _ _ ⟨i, rfl, rfl, hi, hall, fun E hE => by have := (List.getElem?_eq_some_iff.1 hE).1; omega⟩))
  rintro _ _ ⟨i, rfl, rfl, hi, hall, hst⟩
  obtain ⟨qs, hq1, hq2, hq3⟩ := h2.dirs
  have hq1' : qs.map (·.1) = st.dirs := hq1
  have hql : qs.length = st.dirs.length := by rw [← hq1']; simp
  have hq2' : IcS T w2 dv st.dirs.length 2 (flat dirC qs) := hq2
  obtain ⟨v1, s1, s2, _⟩ := sl_take hq2'.1 (k := i) hi .i64
  rw [flat_take dirC dirC_len] at s2
  obtain ⟨v2, r1, r2, _⟩ := sl_drop hq2'.1 (k := i) hi .i64
  rw [flat_drop dirC dirC_len] at r2
  refine build0 TRD fun w3 b3 e3 z3 => (h2.no e3).ld (k := 1) rfl (pur s1 ?_)
  refine app_own (w := w2) TRD e3 (Blk.own0 b3 (Nat.le_refl _)) (s2.no e3) (dirC_one fun q hq => hq3 q (List.mem_of_mem_take hq)) (by omega) (by omega) fun l1 w4 ho4 e4 => ?_
  rw [Nat.zero_add, List.nil_append] at ho4
  refine runS (buildNam0 w4) (build1 TRN (v := .agg #[.slice none 0 0, .slice none 0 0]) rfl fun w5 b5 e5 z5 => ?_)
  have b5' : Blk w5 w4.heap.size 129 [.slice none 0 0, .slice none 0 0] := b5
  refine runS (buildDir2 w5 _ _ _ _) ?_
  have ho5 := owns_ext ho4 e5 fun _ _ hh => hh
  have e45 := e4.trans e5
  refine row_one TRD ho5 (u := .agg #[encE x, .slice (some ⟨w4.heap.size, 0, none⟩) 1 1]) rfl (by
    intro c hc
    have hc' : c ∈ [encE x, Value.slice (some ⟨w4.heap.size, 0, none⟩) 1 1] := hc
    simp only [List.mem_cons, List.not_mem_nil, or_false] at hc'
    rcases hc' with rfl | rfl <;> rfl) (by omega) (by omega) e45.size fun l2 w6 ho6 e6 _ => ?_
  have e26 : Ext No w2 w6 := e45.fresh e6 fun b hb => .inr (ho5.lt b hb).1
  have hne6 : l1.ownBlock ≠ some w4.heap.size := fun hh => Own.ne_blk ho5 b5' (by decide) hh
  have b6 := b5'.ext e6 hne6
  refine (h2.no e26).ld (k := 1) rfl (pur r1 ?_)
  refine append_sl TRD 96 ho6 (r2.no e26) (dirC_one fun q hq => hq3 q (List.mem_of_mem_drop hq)) (by omega) (by omega) e26.size fun l3 w7 ho7 hg7 _ => ?_
  have e7 : Ext (fun b => l2.ownBlock = some b) w6 w7 := Ext.grown hg7 fun b hb => hb
  have e27 : Ext No w2 w7 := e26.fresh e7 fun b hb => .inr (ho6.lt b hb).1
  have b7 := b6.ext e7 fun hh => Own.ne_blk ho6 b6 (by decide) hh
  have k7 : Gon Nil w2 T w7 (icf w2 T) := Gon.icf e27
  let nq : Di × Value := (⟨x, [], []⟩, .slice (some ⟨w4.heap.size, 0, none⟩) 1 1)
  have hdp := dput_split st.dirs i hall hst ⟨x, [], []⟩ rfl
  have hfl : flat dirC (qs.take i) ++ [encE x, Value.slice (some ⟨w4.heap.size, 0, none⟩) 1 1] ++ flat dirC (qs.drop i) = flat dirC (qs.take i ++ nq :: qs.drop i) := by
    simp [flat_append, flat, dirC, nq]
  have ho7' : w7.ownsRow w2.heap.size 127 2 l3 (i + 1 + (st.dirs.length - i)) (flat dirC (qs.take i) ++ [encE x, Value.slice (some ⟨w4.heap.size, 0, none⟩) 1 1] ++ flat dirC (qs.drop i)) := ho7
  rw [hfl] at ho7'
  refine h2.putDirs (dirs' := dput st.dirs ⟨x, [], []⟩) k7 ⟨qs.take i ++ nq :: qs.drop i, ?_, ?_, fun r hr => ?_⟩ fun w8 h8 k8 => hK w8 _ l3 h8 (k2.trans k8)
  · rw [hdp, ← hq1']; simp [nq, List.map_take, List.map_drop]
  · rw [dput_len, show st.dirs.length + 1 = i + 1 + (st.dirs.length - i) by omega]; exact IcS.row ho7'
  · rcases List.mem_append.1 hr with hr | hr
    · exact (hq3 r (List.mem_of_mem_take hr)).keep k7 fun h => h
    · rcases List.mem_cons.1 hr with rfl | hr
      · refine ⟨[([], (.slice none 0 0, .slice none 0 0))], rfl, ?_, fun s hs => ?_⟩
        · exact ⟨b7.sl (n := 1) (c := 1) (size := 2) rfl (Nat.le_refl _), fun b hb => by
            have : b = w4.heap.size := by simpa [nq, Value.ownBlock] using hb.symm
            rw [this]; exact ⟨b7.lt, icf_ge e4.size⟩⟩
        · rw [List.mem_singleton.1 hs]; exact ⟨IcS.nil_ _ _ 1, IcS.nil_ _ _ 1⟩
      · exact (hq3 r (List.mem_of_mem_drop hr)).keep k7 fun h => h
end
end Go.Proofs.YthohdinjpkehpaaGreat

namespace Go.Proofs.YthohdinjpkehpaaGreat
open Go SG Go.RowKit
set_option linter.unusedVariables false
set_option maxRecDepth 4000
set_option linter.unusedSimpArgs false

theorem filter_cut {l : List Di} (ho : OrdD l) {i : Nat} {D : Di} (h : l[i]? = some D) : (l.filter fun E => decide (E.name ≠ D.name)) = l.take i ++ l.drop (i + 1) := by
  have h1 := List.getElem?_eq_some_iff.1 h
  have e1 : l = l.take i ++ D :: l.drop (i + 1) := by
    conv => lhs; rw [← List.take_append_drop i l, List.drop_eq_getElem_cons h1.1, h1.2]
  have hnd := ho.nodup
  rw [e1, List.map_append, List.map_cons, List.nodup_append] at hnd
  obtain ⟨_, n2, n3⟩ := hnd
  have n2' := List.nodup_cons.1 n2
  conv => lhs; rw [e1]
  rw [List.filter_append, List.filter_cons, if_neg (by simp)]
  congr 1
  · refine List.filter_eq_self.2 fun E hE => ?_
    rw [decide_eq_true_iff]
    exact n3 E.name (List.mem_map_of_mem hE) D.name (by simp)
  · refine List.filter_eq_self.2 fun E hE => ?_
    rw [decide_eq_true_iff]
    intro he
    exact n2'.1 (by rw [← he]; exact List.mem_map_of_mem hE)
section
variable {T T1 : Tags} {w w1 : World} {d g n : Nat} {st : Dk} {dv fv : Value} {K : Value → World → Prop}
set_option maxHeartbeats 2000000 in
theorem Doc.Rmdir (h : Doc T d w g st dv fv) (hW : DocW n st) {x : El}
    (hK : ∀ w' T' dv', Doc T' d w' g (st.rmdir x).2 dv' fv → Gon (DocT d) w T w' T' → K (.int .i64 (st.rmdir x).1) w') : CallS Tryz.prog 44 #[ptrE g, encE x] K w := by
  refine s44_call hm ?_
  unfold s44
  unfold Dk.rmdir Dk.findD at hK
  have hW1 := hW.wf
  have hn2 := hW.n2
  have hdl := hW1.dlen
  refine cOName (pur (not_b _) (condB (fun hbad => ?_) (fun hok => ?_)))
  · rw [if_neg (by simpa using hbad)] at hK; exact hK w T dv h (Gon.refl _ _)
  have hnm : nameOk x = true := by simpa using hok
  rw [if_pos hnm] at hK
  refine h.dir hdl (fun hno => ?_) fun i D hi hd => ?_
  · rw [hno] at hK
    exact pur (bin_lss _ _ _) (condT (by decide) (hK w T dv h (Gon.refl _ _)))
  rw [hd] at hK
  simp only at hK
  have hDm := List.mem_of_getElem? hi
  have hwl := hW1.wlen D hDm
  have hnl := (hW1.now_ D hDm).2.1
  have hxD : D.name = x := (Dk.dir_some hd).2
  have hil := (List.getElem?_eq_some_iff.1 hi).1
  refine pur (bin_lss _ _ _) (condF (by rw [decide_eq_false_iff_not]; omega) ?_)
  refine h.now (Ext.refl _ _) hi (by omega) fun p w1 hp e1 => runS (fldN0 w1 p.1 p.2) (pur (hp.1.1.no e1).len (pur (bin_gtr _ _ _) (condD (fun hfull => ?_) (fun hemp => ?_))))
  · rw [if_pos (by omega)] at hK; exact hK w1 T dv (h.no e1) (Gon.no e1)
  rw [if_neg (by omega)] at hK
  refine (h.no e1).stops hW1.fail hW1.stop hW.sc hW.fm fun w2 h2 k2 => pur (bin_neq _ _ _) (condN (fun hne => ?_) (fun heq => ?_))
  · rw [if_pos hne] at hK; exact hK w2 T dv h2 ((Gon.no e1).trans k2)
  rw [if_neg (by simpa using heq)] at hK
  have k02 : Gon (DocT d) w T w2 T := (Gon.no e1).trans k2
  obtain ⟨qs, hq1, hq2, hq3⟩ := h2.dirs
  have hq1' : qs.map (·.1) = st.dirs := hq1
  have hql : qs.length = st.dirs.length := by rw [← hq1']; simp
  have hq2' : IcS T w2 dv st.dirs.length 2 (flat dirC qs) := hq2
  obtain ⟨v1, s1, s2, _⟩ := sl_take hq2'.1 (k := i) (by omega) .i64
  rw [flat_take dirC dirC_len] at s2
  obtain ⟨v2, r1, r2, _⟩ := sl_drop hq2'.1 (k := i + 1) (by omega) .i64
  rw [flat_drop dirC dirC_len] at r2
  refine build0 TRD fun w3 b3 e3 z3 => (h2.no e3).ld (k := 1) rfl (pur s1 ?_)
  refine app_own (w := w2) TRD e3 (Blk.own0 b3 (Nat.le_refl _)) (s2.no e3) (dirC_one fun q hq => hq3 q (List.mem_of_mem_take hq)) (by omega) (by omega) fun l1 w4 ho4 e4 => ?_
  rw [Nat.zero_add, List.nil_append] at ho4
  refine (h2.no e4).ld (k := 1) rfl (pur (add64 (c := ((i + 1 : Nat) : Int)) (by omega) (by omega) (by omega)) (pur r1 ?_))
  refine app_own (w := w2) TRD e4 ho4 (r2.no e4) (dirC_one fun q hq => hq3 q (List.mem_of_mem_drop hq)) (by omega) (by omega) fun l2 w5 ho5 e5 => ?_
  have k5 : Gon Nil w2 T w5 (icf w2 T) := Gon.icf e5
  rw [← flat_append] at ho5
  have hf := filter_cut hW1.ordD hi
  rw [hxD] at hf
  refine h2.putDirs (dirs' := st.dirs.filter fun E => decide (E.name ≠ x)) k5 ⟨qs.take i ++ qs.drop (i + 1), ?_, ?_, fun r hr => ?_⟩ fun w6 h6 k6 => hK w6 _ l2 h6 (k02.trans k6)
  · rw [hf, ← hq1']; simp [List.map_take, List.map_drop]
  · rw [hf]
    have e : (st.dirs.take i ++ st.dirs.drop (i + 1)).length = i + (st.dirs.length - (i + 1)) := by simp; omega
    rw [e]; exact IcS.row ho5
  · rcases List.mem_append.1 hr with hr | hr
    · exact (hq3 r (List.mem_of_mem_take hr)).keep k5 fun h => h
    · exact (hq3 r (List.mem_of_mem_drop hr)).keep k5 fun h => h
theorem dfi_new (k m : Int) : dfi ⟨k, max m 0, 0⟩ = if 1 ≤ k ∧ 1 ≤ m then (k, m) else (0, 0) := by
  unfold dfi
  simp only
  by_cases h : 1 ≤ k ∧ 1 ≤ m
  · rw [if_neg (by omega), if_pos (by omega), if_pos h]; congr 1 <;> omega
  · rw [if_pos (by omega), if_neg h]
theorem dst_new (k : Int) : dst ⟨k, -1, 0⟩ = if 1 ≤ k then (k, false) else (0, false) := by
  unfold dst
  simp only
  by_cases h : 1 ≤ k
  · rw [if_neg (by omega), if_pos (by omega), if_pos h]; congr 1; omega
  · rw [if_pos (by omega), if_neg h]
theorem Doc.head (h : Doc T d w g st dv fv) {st' : Dk} (e : Ext (At1 g) w w1) (b : Blk w1 g 99 (docC st' dv fv)) (h1 : st'.dirs = st.dirs) (h2 : st'.files = st.files) : Doc T d w1 g st' dv fv ∧ Gon (DocT d) w T w1 T := by
  have k : Gon (DocT d) w T w1 T := Gon.at1 e h.tag rfl
  exact ⟨⟨h.tag, b, by rw [h1]; exact h.dirs.keep k DocT.ice, by rw [h2]; exact h.files.keep k DocT.ice⟩, k⟩
theorem Doc.Fail (h : Doc T d w g st dv fv) {k m : Int} (hK : ∀ w', Doc T d w' g (st.fail_ k m) dv fv → Gon (DocT d) w T w' T → K (.tuple [].toArray) w') : CallS Tryz.prog 57 #[ptrE g, .int .i64 k, .int .i64 m] K w := by
  refine s57_call hm ?_
  unfold s57
  have hd := dfi_new k m
  refine pur (nil_ptr _) (pur (field_ptr _ _ _) (storeB h.blk (by simp [docC]) rfl fun w1 b1 e1 z1 => pur (nil_ptr _) (pur (field_ptr _ _ _) (storeB b1 (by simp [docC]) rfl fun w2 b2 e2 z2 => pur (bin_geq _ _ _) ?_))))
  have e02 : Ext (At1 g) w w2 := e1.trans e2
  have no : ¬ (1 ≤ k ∧ 1 ≤ m) → K (.tuple [].toArray) w2 := fun hn => by
    rw [if_neg hn] at hd
    obtain ⟨q1, q2⟩ := h.head (st' := st.fail_ k m) e02 (by unfold docC Dk.fail_; simp only; rw [hd]; exact b2) rfl rfl
    exact hK w2 q1 q2
  by_cases h1 : 1 ≤ k
  · refine andT (by rw [decide_eq_true_iff]; omega) (pur (bin_geq _ _ _) (pur (pickT _ _) (condD (fun h2 => ?_) (fun h2 => no (fun h => h2 h.2)))))
    refine pur (nil_ptr _) (pur (field_ptr _ _ _) (storeB b2 (by simp [docC]) rfl fun w3 b3 e3 z3 => pur (nil_ptr _) (pur (field_ptr _ _ _) (storeB b3 (by simp [docC]) rfl fun w4 b4 e4 z4 => ?_))))
    rw [if_pos ⟨h1, h2⟩] at hd
    obtain ⟨q1, q2⟩ := h.head (st' := st.fail_ k m) (e02.trans (e3.trans e4)) (by unfold docC Dk.fail_; simp only; rw [hd]; exact b4) rfl rfl
    exact hK w4 q1 q2
  · exact andF (by rw [decide_eq_false_iff_not]; omega) (condF rfl (no fun h => h1 h.1))
theorem Doc.Stop (h : Doc T d w g st dv fv) {k : Int} (hK : ∀ w', Doc T d w' g (st.stop_ k) dv fv → Gon (DocT d) w T w' T → K (.tuple [].toArray) w') : CallS Tryz.prog 58 #[ptrE g, .int .i64 k] K w := by
  refine s58_call hm ?_
  unfold s58
  have hd := dst_new k
  refine pur (nil_ptr _) (pur (field_ptr _ _ _) (storeB h.blk (by simp [docC]) rfl fun w1 b1 e1 z1 => pur (nil_ptr _) (pur (field_ptr _ _ _) (storeB b1 (by simp [docC]) rfl fun w2 b2 e2 z2 => pur (bin_geq _ _ _) (condD (fun h1 => ?_) (fun h1 => ?_))))))
  · refine pur (nil_ptr _) (pur (field_ptr _ _ _) (storeB b2 (by simp [docC]) rfl fun w3 b3 e3 z3 => ?_))
    rw [if_pos h1] at hd
    obtain ⟨q1, q2⟩ := h.head (st' := st.stop_ k) ((e1.trans e2).trans e3) (by unfold docC Dk.stop_; simp only; rw [hd]; exact b3) rfl rfl
    exact hK w3 q1 q2
  · rw [if_neg h1] at hd
    obtain ⟨q1, q2⟩ := h.head (st' := st.stop_ k) (e1.trans e2) (by unfold docC Dk.stop_; simp only; rw [hd]; exact b2) rfl rfl
    exact hK w2 q1 q2
theorem cRNew {q : Int} (h0 : q < 0 ∨ 268435456 < q → K (.tuple [.pointer none, .int .i64 1].toArray) w)
    (hK : ∀ w', ¬ (q < 0 ∨ 268435456 < q) → Doc (fun b => if b = w.heap.size then .own d .doc else T b) d w' w.heap.size (Dk.new q) (.slice none 0 0) (.slice none 0 0) → Ext No w w' → K (.tuple [ptrE w.heap.size, .int .i64 0].toArray) w') : CallS Tryz.prog 39 #[.int .i64 q] K w := by
  refine s39_call hm ?_
  unfold s39
  refine pur (bin_lss _ _ _) ?_
  by_cases h1 : q < 0
  · exact orT (by simpa using h1) (condT rfl (h0 (.inl h1)))
  refine orF (by simpa using h1) (pur (bin_gtr _ _ _) (pur (pickF _ _) (condD (fun h2 => h0 (.inr h2)) (fun h2 => ?_))))
  refine runS (buildRFS w q) (box fun w1 b1 e1 z1 => hK w1 (fun h => h.elim h1 h2) ⟨if_pos rfl, b1, ⟨[], rfl, IcS.nil_ _ _ 2, fun q hq => by cases hq⟩, ⟨[], rfl, IcS.nil_ _ _ 2, fun q hq => by cases hq⟩⟩ e1)
end
end Go.Proofs.YthohdinjpkehpaaGreat

namespace Go.Proofs.YthohdinjpkehpaaGreat
open Go SG Go.RowKit
set_option linter.unusedVariables false
set_option maxRecDepth 4000
set_option linter.unusedSimpArgs false

theorem cntD_app (a b : List Di) : cntD (a ++ b) = cntD a + cntD b := by unfold cntD; rw [List.filter_append, List.length_append]
theorem cntD_one (D : Di) : cntD [D] = if D.was = [] then 0 else 1 := by rw [cntD_cons]; rfl
theorem foldC_len (kl : List Int) : ∀ (o : List Nat) (s : List Fi × Nat), (o.foldl (crashStep kl) s).1.length = s.1.length
  | [], s => rfl
  | i :: o, s => (foldC_len kl o _).trans (crashStep_len kl s i).1
theorem foldC_ok {B n : Nat} (kl : List Int) : ∀ (o : List Nat) (s : List Fi × Nat), (∀ f ∈ s.1, FiOk B f ∧ f.ws.length ≤ n) → ∀ f ∈ (o.foldl (crashStep kl) s).1, FiOk B f ∧ f.ws.length ≤ n
  | [], s, h => h
  | i :: o, s, h => foldC_ok kl o _ (crashStep_ok h i)
theorem foldC_two (kl : List Int) : ∀ (o : List Nat) (s : List Fi × Nat), (o.foldl (crashStep kl) s).2 ≤ s.2 + o.length
  | [], s => Nat.le_refl _
  | i :: o, s => by
    have h1 := foldC_two kl o (crashStep kl s i)
    have h2 := (crashStep_len kl s i).2
    rw [List.foldl_cons, List.length_cons]; omega
theorem items_ok {B n : Nat} {st : Dk} (hW : Wf B n st) : ∀ i ∈ distinct ((items st.dirs).map (·.2)), i < st.files.length := fun i hi => by
  have h2 := (distinct_mem _ i).1 hi
  obtain ⟨q, hq, rfl⟩ := List.mem_map.1 h2
  obtain ⟨D, hD, hqD⟩ := List.mem_flatMap.1 hq
  obtain ⟨r, hr, rfl⟩ := List.mem_map.1 hqD
  exact ((hW.now_ D hD).2.2 r hr).2
section
variable {T T1 : Tags} {w w1 : World} {d g n : Nat} {st : Dk} {dv fv : Value} {K : Value → World → Prop}
theorem Doc.sc (h : Doc T d w g st dv fv) {st' : Dk} (h0 : st'.quota = st.quota) (h1 : st'.dirs = st.dirs) (h2 : st'.files = st.files) (h3 : dfi st'.fail = dfi st.fail) (h4 : dst st'.stop = dst st.stop) : Doc T d w g st' dv fv :=
  ⟨h.tag, by have := h.blk; unfold docC at this ⊢; rw [h0, h3, h4]; exact this, by rw [h1]; exact h.dirs, by rw [h2]; exact h.files⟩
def Dk.calm (st : Dk) (ds : List Di) (fs : List Fi) : Dk := ⟨st.quota, ds, fs, ⟨0, 0, 0⟩, ⟨0, 0, 0⟩⟩
set_option maxHeartbeats 2000000 in
theorem Doc.crash1 (h : Doc T d w g (st.calm st.dirs st.files) dv fv) (hW : DocW n st) {cv : Value} {cl : List Int} (hc : ArgI T w cv cl) (hci : ∀ n ∈ cl, I64 n) (hcl : cl.length ≤ 4611686018427387904) {J : World → Prop}
    (hJ : ∀ w' T' dv', Doc T' d w' g (st.calm (crashDirs st.dirs cl 0) st.files) dv' fv → Gon (DocT d) w T w' T' → J w') :
    LoopS 2 (fun L5 (at6_2 : Value) (i7 : Value) (w : World) => PureS (nilV (ptrE g)) fun t19 => PureS (fieldAddrV 1 t19) fun t20 => LoadC t20 (fun t21 w => PureS (lenSliceV t21) fun t22 => PureS (binV .lss i7 t22) fun t23 => CondS t23 (
      JoinS (fun (at6_3 : Value) (w : World) => PureS (binV .add i7 (.int .i64 1)) fun t25 => L5 at6_3 t25 w) fun J6 => PureS (nilV (ptrE g)) fun t27 => PureS (fieldAddrV 1 t27) fun t28 => LoadC t28 (fun t29 w => PureS (indexAddrV 2 t29 i7) fun t31 => PureS (fieldAddrV 1 t31) fun t32 => LoadC t32 (fun t33 w => PureS (lenSliceV t33) fun t34 => PureS (binV .sub t34 (.int .i64 1)) fun t35 => PureS (binV .gtr t35 (.int .i64 0)) fun t37 => CondS t37 (
        CallS Tryz.prog 106 #[cv, at6_2, t35] (fun t43 w => CallS Tryz.prog 105 #[ptrE g, i7, t43] (fun t44 w => PureS (binV .add at6_2 (.int .i64 1)) fun t46 => J6 t46 w) w) w) (J6 at6_2 w)) w) w) (J w)) w) (.int .i64 0) (.int .i64 0) w := by
  have hW1 := hW.wf
  have hn2 := hW.n2
  have hdl := hW1.dlen
  have hda : ∀ j, (dirsAt st.dirs cl j).length = st.dirs.length := fun j => by unfold dirsAt; rw [List.length_append, crashDirs_len]; simp; omega
  refine loop2 (σ := Nat) (fun j a b w' => b = .int .i64 (j : Int) ∧ a = .int .i64 ((cntD (st.dirs.take j) : Nat) : Int) ∧ j ≤ st.dirs.length ∧ ∃ T' dv', Doc T' d w' g (st.calm (dirsAt st.dirs cl j) st.files) dv' fv ∧ Gon (DocT d) w T w' T') (fun j => st.dirs.length - j) 0 ⟨rfl, rfl, Nat.zero_le _, T, dv, by rw [dirsAt_zero]; exact h, Gon.refl _ _⟩ ?_
  rintro j _ _ w1 ⟨rfl, rfl, hj, T1, dv1, h1, k1⟩ L hL
  have hlen : lenSliceV dv1 = some (.int .i64 (st.dirs.length : Int)) := by have := h1.dlen; rw [show (st.calm (dirsAt st.dirs cl j) st.files).dirs.length = st.dirs.length from hda j] at this; exact this
  refine h1.ld (k := 1) rfl (pur hlen (pur (bin_lss _ _ _) (condD (fun hlt => ?_) (fun hge => ?_))))
  rotate_left
  · rw [dirsAt_all _ _ (by omega)] at h1
    exact hJ w1 T1 dv1 h1 k1
  obtain ⟨D, hD⟩ := getN (xs := st.dirs) (i := j) (by omega)
  obtain ⟨s1, s2⟩ := dirsAt_succ (cl := cl) hD
  have hpl : (crashDirs (st.dirs.take j) cl 0).length = j := by rw [crashDirs_len]; simp; omega
  have hat : (dirsAt st.dirs cl j)[j]? = some D := by rw [s2, List.getElem?_append_right (by omega), hpl]; simp
  have hset : ∀ E, (dirsAt st.dirs cl j).set j E = crashDirs (st.dirs.take j) cl 0 ++ E :: st.dirs.drop (j + 1) := fun E => by rw [s2, List.set_append_right _ _ (by omega), hpl]; simp
  have hcn : cntD (st.dirs.take (j + 1)) = cntD (st.dirs.take j) + if D.was = [] then 0 else 1 := by rw [List.take_add_one, hD, cntD_app]; simp only [Option.toList_some]; rw [cntD_one]
  have hcb : cntD (st.dirs.take j) ≤ 64 := by have := cntD_le (st.dirs.take j); simp at this; omega
  refine join1 (fun a w' => a = .int .i64 ((cntD (st.dirs.take (j + 1)) : Nat) : Int) ∧ ∃ T' dv', Doc T' d w' g (st.calm (dirsAt st.dirs cl (j + 1)) st.files) dv' fv ∧ Gon (DocT d) w T w' T') ?_ fun J6 hJ6 => ?_
  · rintro _ w' ⟨rfl, T', dv', h', k'⟩
    exact pur (add64 (c := ((j + 1 : Nat) : Int)) (by omega) (by omega) (by omega)) (hL (j + 1) _ _ _ ⟨rfl, rfl, by omega, T', dv', h', k'⟩ (by omega))
  have hwl := hW1.wlen D (List.mem_of_getElem? hD)
  obtain ⟨ad, wv, a1, a2, a3, _⟩ := h1.dirs.at_ (i := j) (D := D) hat
  have hlenw : lenSliceV wv = some (.int .i64 ((D.was.length + 1 : Nat) : Int)) := by obtain ⟨qs, _, h3, _⟩ := a3; have := h3.1.len; simpa using this
  refine h1.ld (k := 1) rfl (pur a1 (pur (field_ad _ _) (SG.load (S := No) (a2 1 _ rfl) (pur hlenw (pur (sub64 (c := (D.was.length : Int)) (by omega) (by omega) (by omega)) (pur (bin_gtr _ _ _) (condD (fun hpos => ?_) (fun hz => ?_))))))))
  rotate_left
  · have hw0 : D.was = [] := List.length_eq_zero_iff.1 (by omega)
    refine hJ6 _ _ ⟨by rw [hcn, if_pos hw0]; rfl, T1, dv1, ?_, k1⟩
    rw [s1, if_pos hw0, ← s2]; exact h1
  have hw0 : ¬ D.was = [] := fun hh => by rw [hh] at hpos; simp at hpos
  have hwr : IntKind.i64.wrap ((D.was.length : Int) + 1) = ((D.was.length + 1 : Nat) : Int) := by rw [wi64 (by omega) (by omega)]; omega
  have hc1 := hc.keep k1 DocT.free DocT.ice
  refine cOnext hc1.1 hcl hci (k := cntD (st.dirs.take j)) (by omega) (n := (D.was.length : Int)) (by rw [hwr]; omega) ?_
  rw [hwr]
  have hnn := turnV_nn cl (cntD (st.dirs.take j))
  have hm1 : 0 ≤ (turnV cl (cntD (st.dirs.take j))).tmod ((D.was.length + 1 : Nat) : Int) := Int.tmod_nonneg _ hnn
  have hm2 : (turnV cl (cntD (st.dirs.take j))).tmod ((D.was.length + 1 : Nat) : Int) < ((D.was.length + 1 : Nat) : Int) := Int.tmod_lt_of_pos _ (by omega)
  have hst : (turnV cl (cntD (st.dirs.take j))).tmod ((D.was.length + 1 : Nat) : Int) = ((stayN D cl (cntD (st.dirs.take j)) : Nat) : Int) := by unfold stayN; omega
  have hsl : stayN D cl (cntD (st.dirs.take j)) ≤ D.was.length := by omega
  rw [hst]
  have hy : (D.was ++ [D.now])[stayN D cl (cntD (st.dirs.take j))]? = some (D.crash cl (cntD (st.dirs.take j))).now := by
    show _ = some ((D.was[stayN D cl (cntD (st.dirs.take j))]?).getD D.now)
    by_cases hh : stayN D cl (cntD (st.dirs.take j)) < D.was.length
    · rw [List.getElem?_append_left hh, List.getElem?_eq_getElem hh]; rfl
    · have h3 : stayN D cl (cntD (st.dirs.take j)) = D.was.length := by omega
      rw [h3]; simp
  refine h1.settle (i := j) (D := D) hat (by rw [show (st.calm (dirsAt st.dirs cl j) st.files).dirs.length = st.dirs.length from hda j]; exact hdl) hy fun w2 T2 dv2 h2 k2 => ?_
  have hcn' : cntD (st.dirs.take (j + 1)) = cntD (st.dirs.take j) + 1 := by rw [hcn, if_neg hw0]
  refine pur (add64 (c := ((cntD (st.dirs.take (j + 1)) : Nat) : Int)) (by omega) (by omega) (by omega)) (hJ6 _ _ ⟨rfl, T2, dv2, ?_, k1.trans k2⟩)
  rw [s1, if_neg hw0, ← hset]
  exact h2
set_option maxHeartbeats 2000000 in
theorem Doc.Crash (h : Doc T d w g st dv fv) (hW : DocW n st) {kv cv : Value} {kl cl : List Int} (hk : ArgI T w kv kl) (hc : ArgI T w cv cl) (hki : ∀ n ∈ kl, I64 n) (hci : ∀ n ∈ cl, I64 n) (hkl : kl.length ≤ 4611686018427387904) (hcl : cl.length ≤ 4611686018427387904)
    (hK : ∀ w' T' dv' fv', Doc T' d w' g (st.crash kl cl) dv' fv' → Gon (DocT d) w T w' T' → K (.tuple [].toArray) w') : CallS Tryz.prog 61 #[ptrE g, kv, cv] K w := by
  refine s61_call hm ?_
  unfold s61
  have hW1 := hW.wf
  have hn2 := hW.n2
  refine h.Fail (k := 0) (m := 0) fun w1 h1 k1 => h1.Stop (k := 0) fun w2 h2 k2 => ?_
  have h2' : Doc T d w2 g (st.calm st.dirs st.files) dv fv := h2.sc rfl rfl rfl rfl rfl
  have k02 := k1.trans k2
  have hc2 := hc.keep k02 DocT.free DocT.ice
  refine join0 (fun w' => ∃ T' dv', Doc T' d w' g (st.calm (crashDirs st.dirs cl 0) st.files) dv' fv ∧ Gon (DocT d) w T w' T') ?_ fun J0 hJ0 => h2'.crash1 hW hc2 hci hcl fun w3 T3 dv3 h3 k3 => hJ0 _ ⟨T3, dv3, h3, k02.trans k3⟩
  rintro w3 ⟨T3, dv3, h3, k3⟩
  have hWc : Wf 536870912 n (st.calm (crashDirs st.dirs cl 0) st.files) := by
    have hc := hW1.crashD cl
    exact ⟨hc.ordD, hc.dlen, hc.dnm, hc.now_, hc.was_, hc.wlen, hc.fil, hc.flen, ScrOk.zero n, ScrOk.zero n, hc.quo⟩
  have hov := items_ok hWc
  have hil := hWc.items_le
  refine h3.all hWc hn2 fun v w4 ho4 e4 => ?_
  have hol : (distinct ((items (st.calm (crashDirs st.dirs cl 0) st.files).dirs).map (·.2))).length ≤ 65536 := Nat.le_trans (distinct_len _) (by rw [List.length_map]; exact hil)
  have hfin : (st.crash kl cl) = st.calm (crashDirs st.dirs cl 0) ((distinct ((items (st.calm (crashDirs st.dirs cl 0) st.files).dirs).map (·.2))).foldl (crashStep kl) (st.files, 0)).1 := rfl
  generalize distinct ((items (st.calm (crashDirs st.dirs cl 0) st.files).dirs).map (·.2)) = o at *
  -- the row of the files never changes
  have k4 : Gon Nil w3 T3 w4 (icf w3 T3) := Gon.icf e4
  have hrow : IcS (icf w3 T3) w4 v o.length 1 (numC o) := IcS.row ho4
  have h4 := h3.keep k4 (fun h => h) fun h => h
  have k04 : Gon (DocT d) w T w4 (icf w3 T3) := k3.trans (k4.mono fun _ h => h.elim)
  have hk4 := hk.keep k04 DocT.free DocT.ice
  refine loop2 (σ := Nat) (fun j a b w' => b = .int .i64 (j : Int) ∧ a = .int .i64 ((((o.take j).foldl (crashStep kl) (st.files, 0)).2 : Nat) : Int) ∧ j ≤ o.length ∧ ∃ T' fv', Doc T' d w' g (st.calm (crashDirs st.dirs cl 0) ((o.take j).foldl (crashStep kl) (st.files, 0)).1) dv3 fv' ∧ Gon (DocT d) w4 (icf w3 T3) w' T') (fun j => o.length - j) 0 ⟨rfl, rfl, Nat.zero_le _, _, fv, h4, Gon.refl _ _⟩ ?_
  rintro j _ _ w5 ⟨rfl, rfl, hj, T5, fv5, h5, k5⟩ L hL
  have hr5 := hrow.keep k5 DocT.ice
  refine pur hr5.1.len (pur (bin_lss _ _ _) (condD (fun hlt => ?_) (fun hge => ?_)))
  rotate_left
  · rw [List.take_of_length_le (by omega)] at h5
    exact hK w5 T5 dv3 fv5 (by rw [hfin]; exact h5) (k04.trans k5)
  obtain ⟨m, hm0⟩ := getN (xs := o) (i := j) (by omega)
  have hts : (o.take (j + 1)).foldl (crashStep kl) (st.files, 0) = crashStep kl ((o.take j).foldl (crashStep kl) (st.files, 0)) m := by rw [List.take_add_one, hm0, List.foldl_append]; rfl
  have hfl := foldC_len kl (o.take j) (st.files, 0)
  have hfk := foldC_ok kl (o.take j) (st.files, 0) hW1.fil
  have hf2 := foldC_two kl (o.take j) (st.files, 0)
  generalize hS : (o.take j).foldl (crashStep kl) (st.files, 0) = s at *
  have hf2' : s.2 ≤ 65536 := by simp at hf2; omega
  have hml : m < s.1.length := by rw [hfl]; exact hov m (List.mem_of_getElem? hm0)
  obtain ⟨f, hf⟩ := getN (xs := s.1) (i := m) hml
  have hfo : fiOf s.1 m = f := by unfold fiOf; rw [hf]; rfl
  have hfw := hfk f (List.mem_of_getElem? hf)
  refine join1 (fun a w' => a = .int .i64 (((crashStep kl s m).2 : Nat) : Int) ∧ ∃ T' fv', Doc T' d w' g (st.calm (crashDirs st.dirs cl 0) (crashStep kl s m).1) dv3 fv' ∧ Gon (DocT d) w4 (icf w3 T3) w' T') ?_ fun J2 hJ2 => ?_
  · rintro _ w' ⟨rfl, T', fv', h', k'⟩
    exact pur (add64 (c := ((j + 1 : Nat) : Int)) (by omega) (by omega) (by omega)) (hL (j + 1) _ _ _ ⟨rfl, by rw [hts], by omega, T', fv', by rw [hts]; exact h', k'⟩ (by omega))
  have ed := Ext.drew (S := No) w5
  have h5d := h5.no ed
  obtain ⟨ad2, q1, q2, q3⟩ := sl_idx1 hr5.1 (i := j) (v := .int .i64 (m : Int)) (by unfold numC; rw [List.getElem?_map, hm0]; rfl) .i64
  obtain ⟨ad, p, r1, r2, r3⟩ := h5.files.at_ (i := m) (f := f) hf
  have hpo := r3.one
  refine draw (fun w' => Ext No w5 w') ed (pur (nil_ptr _) (pur (field_ptr _ _ _) (pur q1 ?_)))
  refine heldC (v := fv5) (fun w' hh => (h5.blk.no hh).cell 2) (heldC (v := .int .i64 (m : Int)) (fun w' hh => q3 _ (hr5.1.no hh)) (pur r1 ?_))
  refine heldA (xs := [p.1, p.2]) (fun w' hh => At.no' r2 hh) rfl (box fun w6 b6 e6 z6 => ⟨ed.trans e6, ?_⟩)
  have b6' : Blk w6 w5.drew.heap.size 135 [.slice none 0 0, .slice none 0 0] := b6
  refine storeAll b6' rfl rfl (by
    intro v hv
    simp only [List.mem_cons, List.not_mem_nil, or_false] at hv
    rcases hv with rfl | rfl
    · exact hpo.1
    · exact hpo.2) fun w7 b7 e7 z7 => loadA (At.of_blk b7) rfl ?_
  have e57 : Ext No w5 w7 := (ed.trans e6).fresh e7 fun b hb => .inr (by rw [show b = w5.drew.heap.size from hb]; exact ed.size)
  have ho := openI_le f
  refine cXopen (r3.no e57) (by omega) fun w8 e8 => pur (bin_gtr _ _ _) (condD (fun hop => ?_) (fun hno => ?_))
  rotate_left
  · have e58 := e57.trans e8
    have hst : crashStep kl s m = s := by unfold crashStep; rw [hfo, if_neg hno]
    rw [hst] at hJ2
    exact hJ2 _ _ ⟨rfl, T5, fv5, h5.no e58, k5.trans (Gon.no e58)⟩
  have hst : crashStep kl s m = (s.1.set m (f.crash kl s.2), s.2 + 1) := by unfold crashStep; rw [hfo, if_pos hop]
  rw [hst] at hJ2
  have ed8 := Ext.drew (S := No) w8
  have e58 := (e57.trans e8).trans ed8
  have b8 := (b7.no e8).no ed8
  have hk5 := (hk4.keep k5 DocT.free DocT.ice).keep (M := Nil) (Gon.no e58) (fun h => h) fun h => h
  refine draw (fun w' => Ext No w8.drew w') (Ext.refl _ _) (pur q1 (heldC (v := .int .i64 (m : Int)) (fun w' hh => q3 _ (hr5.1.no (e58.trans hh))) (heldA (xs := [p.1, p.2]) (fun w' hh => At.of_blk (b8.no hh)) rfl ?_)))
  have hw1 : IntKind.i64.wrap (f.openI + 1) ≠ 0 := by rw [IntKind.wrap_i64]; omega
  refine cOnext hk5.1 hkl hki (k := s.2) (by omega) (n := f.openI) hw1 ⟨Ext.refl _ _, ?_⟩
  have hnn := tmod_nn (b := IntKind.i64.wrap (f.openI + 1)) (turnV_nn kl s.2)
  have hle := tmod_le (b := IntKind.i64.wrap (f.openI + 1)) (turnV_nn kl s.2)
  have htl := turnV_le hki s.2
  have hkn : (turnV kl s.2).tmod (IntKind.i64.wrap (f.openI + 1)) = ((keepN f kl s.2 : Nat) : Int) := by unfold keepN; omega
  rw [hkn]
  refine cXkept (r3.no e58) hfw.1 (by decide) (by omega) (n := keepN f kl s.2) (by omega) fun v9 w9 ho9 e9 => ⟨e9, ?_⟩
  have e59 := e58.trans e9
  have k9 : Gon Nil w5 T5 w9 (icf w5 T5) := Gon.icf e59
  have hb9 : BytI (icf w5 T5) w9 v9 (keptB f.fast f.ws (keepN f kl s.2)) := BytI.row (owns_base ho9 fun b hb => by have := (ho9.lt b hb).1; have := e58.size; omega)
  refine (h5.keep k9 (fun h => h) fun h => h).set (i := m) hml (by show s.1.length ≤ _; have := hW1.flen; have : s.1.length = st.files.length := hfl; omega) (p := (v9, .slice none 0 0)) (f := f.crash kl s.2) ⟨hb9, [], rfl, IcS.nil_ _ _ 2, fun q hq => by cases hq⟩ fun w10 T10 fv10 h10 k10 => ?_
  refine pur (add64 (c := ((s.2 + 1 : Nat) : Int)) (by omega) (by omega) (by omega)) (hJ2 _ _ ⟨rfl, T10, fv10, h10, (k5.trans (k9.mono fun _ h => h.elim)).trans k10⟩)
end
end Go.Proofs.YthohdinjpkehpaaGreat

namespace Go.Proofs.YthohdinjpkehpaaGreat
open Go SG Go.RowKit
set_option linter.unusedVariables false
set_option maxRecDepth 4000
set_option linter.unusedSimpArgs false

theorem heldR {P : Program} {S : World → Prop} {s : Sem Value} {v : Value} {K : Value → Prop} (h : ∀ w, S w → s.run P w = .ok v w) (hK : K v) : HeldR P S s K := ⟨v, h, hK⟩
structure Nd where
  path : El
  b : Bys
  op : Int
  first : El
deriving DecidableEq
def ndC (q : Nd × Value) : List Value := [encE q.1.path, q.2, .int .i64 q.1.op, encE q.1.first]
theorem ndC_len (q : Nd × Value) : (ndC q).length = 4 := rfl
def findF (l : List (El × Nat)) (i : Nat) : Option El := (l.find? fun q => decide (q.2 = i)).map (·.1)
theorem findF_app (l : List (El × Nat)) (p : El) (i j : Nat) : findF (l ++ [(p, i)]) j = if (findF l j).isSome then findF l j else if i = j then some p else none := by
  unfold findF
  rw [List.find?_append]
  cases h : l.find? fun q => decide (q.2 = j) with
  | some q => simp
  | none =>
    by_cases hij : i = j
    · simp [hij]
    · simp [hij]
theorem findF_some {l : List (El × Nat)} {i : Nat} : (findF l i).isSome ↔ i ∈ l.map (·.2) := by
  unfold findF
  rw [Option.isSome_map, List.find?_isSome]
  constructor
  · rintro ⟨q, hq, hh⟩
    exact List.mem_map.2 ⟨q, hq, of_decide_eq_true hh⟩
  · intro h
    obtain ⟨q, hq, rfl⟩ := List.mem_map.1 h
    exact ⟨q, hq, by simp⟩
theorem findF_pre {a l : List (El × Nat)} {i : Nat} (h : a <+: l) (hi : i ∈ a.map (·.2)) : findF l i = findF a i := by
  obtain ⟨r, rfl⟩ := h
  have := findF_some.2 hi
  unfold findF at this ⊢
  rw [List.find?_append]
  cases h : a.find? fun q => decide (q.2 = i) with
  | some q => simp
  | none => rw [h] at this; simp at this
def firstP (l : List (El × Nat)) (i : Nat) : El := (findF l i).getD []
def ndOf (st : Dk) (q : El × Nat) : Nd := ⟨q.1, (st.fi q.2).now, (st.fi q.2).openI, firstP (items st.dirs) q.2⟩
def Dk.image (st : Dk) : List Nd := (items st.dirs).map (ndOf st)
theorem TND : ElemT Tryz.prog 29 36 4 64 (.agg #[.string ⟨#[]⟩, .slice none 0 0, .int .i64 0, .string ⟨#[]⟩]) := ⟨Tryz.underlying29, by kernel_rfl, rfl, by decide, by decide⟩
theorem buildNode (w : World) (p q : ByteArray) (k : Int) (a : Option Addr) (n c : Nat) : (Instr.build 36 [(0, .string p), (1, .slice a n c), (2, .int .i64 k), (3, .string q)].toArray).run Tryz.prog w = .ok (.agg #[.string p, .slice a n c, .int .i64 k, .string q]) w := by kernel_rfl
theorem okImage : okFunc Tryz.prog 31 = true := by kernel_rfl
def Fst (ad : Nat → Option Nat) (m : List (Nat × El)) (done : List (El × Nat)) : Prop := ∀ y, (∃ i, ad i = some y ∧ mget m y = findF done i) ∨ (mget m y = none ∧ ∀ i, ad i ≠ some y)
def ImgR (base : Nat) (w : World) (v : Value) (l : List Nd) : Prop := ∃ qs : List (Nd × Value), qs.map (·.1) = l ∧ w.ownsRow base 36 4 v l.length (flat ndC qs) ∧ ∀ q ∈ qs, w.ownsRow base 5 1 q.2 q.1.b.length (byteCells q.1.b)
section
variable {T : Tags} {w : World} {d g : Nat} {st : Dk} {md : Nat} {dm : List (El × Nat)} {ad : Nat → Option Nat} {K : Value → World → Prop}
theorem Dx.isC {w1 : World} {T1 : Tags} {st1 : Dk} (hx : Dx T1 d w1 g st1 md dm ad) {j y : Nat} (hy : ad j = some y) : IsC w1 y := by
  obtain ⟨f, _, hf⟩ := hx.body.fil j y hy
  obtain ⟨_, _, _, _, _, hb, _⟩ := hf
  exact hb.isC
theorem Dx.ad_inj {w1 : World} {T1 : Tags} {st1 : Dk} (hx : Dx T1 d w1 g st1 md dm ad) {i j y : Nat} (hi : ad i = some y) (hj : ad j = some y) : i = j := by
  obtain ⟨_, _, hf1⟩ := hx.body.fil i y hi
  obtain ⟨_, _, hf2⟩ := hx.body.fil j y hj
  have := hf1.1.symm.trans hf2.1
  injection this with _ h; injection h
theorem fstAt {w1 : World} {T1 : Tags} {st1 : Dk} {m : List (Nat × El)} {done : List (El × Nat)} (hx : Dx T1 d w1 g st1 md dm ad) (hs : Fst ad m done) {w2 : World} (e : Ext No w1 w2) {i gf : Nat} (hg : ad i = some gf) :
    MapAt Tryz.prog 78 75 9 ptrE (.string ⟨#[]⟩) w2 m gf := by
  obtain ⟨inf, hi1, hi2⟩ := fileInfo
  have hx2 := hx.no e
  refine MapAt.ptr Tryz.underlying78 Tryz.underlying75 hi1 hi2 (by kernel_rfl) (hx2.isC hg) fun y hy => ?_
  have h1 := mget_isSome.2 hy
  rcases hs y with ⟨j, hj, _⟩ | ⟨h2, _⟩
  · exact hx2.isC hj
  · rw [h2] at h1; cases h1
theorem Fst.at_ {w1 : World} {T1 : Tags} {st1 : Dk} {m : List (Nat × El)} {done : List (El × Nat)} (hx : Dx T1 d w1 g st1 md dm ad) (hs : Fst ad m done) {i gf : Nat} (hg : ad i = some gf) : mget m gf = findF done i := by
  rcases hs gf with ⟨j, hj, hm⟩ | ⟨_, h⟩
  · rw [hx.ad_inj hg hj]; exact hm
  · exact absurd hg (h i)
def ImgI (d g : Nat) (st : Dk) (md : Nat) (dm : List (El × Nat)) (ad : Nat → Option Nat) (a0 a1 a2 base : Nat) (done : List (El × Nat)) (w' : World) (T' : Tags) : Prop :=
  Dx T' d w' g st md dm ad ∧ T' a0 = .tmp ∧ T' a1 = .tmp ∧ T' a2 = .tmp ∧ base ≤ w'.heap.size ∧ Blk w' a2 78 [.map (some a1)] ∧ ∃ (m : List (Nat × El)) (lv : Value) (qs : List (Nd × Value)), MapR w' a1 ptrE encE m ∧ Fst ad m done ∧ Blk w' a0 29 [lv] ∧ qs.map (·.1) = done.map (ndOf st) ∧
    w'.ownsRow base 36 4 lv done.length (flat ndC qs) ∧ (∀ b, lv.ownBlock = some b → T' b = .tmp) ∧ ∀ q ∈ qs, w'.ownsRow base 5 1 q.2 q.1.b.length (byteCells q.1.b) ∧ ∀ b, q.2.ownBlock = some b → T' b = .free
set_option maxHeartbeats 4000000 in
theorem Dx.image1 {B n : Nat} (hW : Wf B n st) (hB : B ≤ 536870912) (hn : n ≤ 2199023255552) {a0 a1 a2 base : Nat} (h01 : a0 < a1) (h12 : a1 < a2) (h2b : a2 < base) {done : List (El × Nat)} {p : El} {i gf : Nat} {w1 : World} {T1 : Tags} {K' : World → Prop}
    (hpre : done ++ [(p, i)] <+: items st.dirs) (hgf : ad i = some gf) (hI : ImgI d g st md dm ad a0 a1 a2 base done w1 T1) (hK' : ∀ w2 T2, ImgI d g st md dm ad a0 a1 a2 base (done ++ [(p, i)]) w2 T2 → Gon Tmp w1 T1 w2 T2 → K' w2) :
    CallV' Tryz.prog false (.func (.func 31) #[] #[ptrE a2, ptrE a0]) [encE p, ptrE gf, .bool (!decide (i ∈ done.map (·.2)))] NoP (fun _ w => K' w) w1 := by
  obtain ⟨hx, t0, t1, t2, hbase, hb2, m, lv, qs, hmp, hs, hb0, hqs, ho, hot, hqb⟩ := hI
  have hlen : (done ++ [(p, i)]).length ≤ 65536 := Nat.le_trans hpre.length_le hW.items_le
  rw [List.length_append] at hlen
  have hlen' : done.length + 1 ≤ 65536 := hlen
  obtain ⟨f, hf, hF⟩ := hx.body.fil i gf hgf
  have hfi : st.fi i = f := by unfold Dk.fi; rw [hf]; rfl
  have hfo := hW.fil f (List.mem_of_getElem? hf)
  have hnl := hfo.1.now_len
  refine callF okImage ?_
  rw [arr3_2]
  refine s31_call hm ?_
  unfold s31
  have hma : mget m gf = findF done i := hs.at_ hx hgf
  refine join0 (fun w' => ∃ m', MapR w' a1 ptrE encE m' ∧ Fst ad m' (done ++ [(p, i)]) ∧ Ext (At1 a1) w1 w') ?_ fun J0 hJ0 => ?_
  rotate_left
  · refine condB (fun hc => ?_) (fun hc => ?_)
    · have hni : ¬ i ∈ done.map (·.2) := by simpa using hc
      refine loadB hb2 rfl (hmp.updateA (fstAt hx hs (Ext.refl _ _) hgf) p fun w2 hm2 e2 z2 => hJ0 _ ⟨_, hm2, fun y => ?_, e2⟩)
      have hnone : findF done i = none := by
        cases hh : findF done i with
        | none => rfl
        | some q => exact absurd (findF_some.1 (by rw [hh]; rfl)) hni
      rcases hs y with ⟨j, hj, hjm⟩ | ⟨h1, h2⟩
      · refine .inl ⟨j, hj, ?_⟩
        rw [mget_put, findF_app]
        by_cases hy : y = gf
        · subst hy
          have : i = j := hx.ad_inj hgf hj
          subst this
          rw [if_pos rfl, hnone]; simp
        · have hij : ¬ i = j := fun hh => hy (by subst hh; rw [hgf] at hj; cases hj; rfl)
          rw [if_neg hy, hjm, if_neg hij]
          cases findF done j <;> rfl
      · refine .inr ⟨?_, h2⟩
        rw [mget_put, if_neg (fun hy => h2 i (by rw [hy]; exact hgf))]; exact h1
    · have hi : i ∈ done.map (·.2) := by simpa using hc
      refine hJ0 _ ⟨m, hmp, fun y => ?_, Ext.refl _ _⟩
      rcases hs y with ⟨j, hj, hjm⟩ | h
      · refine .inl ⟨j, hj, ?_⟩
        rw [hjm, findF_app]
        by_cases hij : i = j
        · subst hij; rw [if_pos (findF_some.2 hi)]
        · rw [if_neg hij]; cases findF done j <;> rfl
      · exact .inr h
  rintro w2 ⟨m2, hm2, hs2, e2⟩
  have k2 : Gon Tmp w1 T1 w2 T1 := Gon.at1 e2 t1 rfl
  have hni : ¬ Tmp Tag.ice := fun h => by cases h
  have hno : ∀ c, ¬ Tmp (Tag.own d c) := fun c h => by cases h
  have hx2 := hx.keep k2 hni hno
  have hF2 := hF.keep k2 hni (fun h => by cases h)
  have hb02 : Blk w2 a0 29 [lv] := hb0.ext e2 (by show ¬ a0 = a1; omega)
  have hb22 : Blk w2 a2 78 [.map (some a1)] := hb2.ext e2 (by show ¬ a2 = a1; omega)
  have hlt2 : ∀ b, lv.ownBlock = some b → ¬ At1 a1 b := fun b hb hh => by have := (ho.lt b hb).1; have : b = a1 := hh; omega
  have ho2 := owns_ext ho e2 hlt2
  obtain ⟨nv, hnv, hld⟩ := hF2.nowV
  obtain ⟨_, fv, ov, nv', qs', hbf, _, hnv', _⟩ := hF2
  have ed := Ext.drew (S := No) w2
  have hv2 : mget m2 gf = some (firstP (items st.dirs) i) := by
    have h1 := hs2.at_ hx hgf
    have hin : i ∈ (done ++ [(p, i)]).map (·.2) := by simp
    have h2 := findF_some.2 hin
    rw [h1]
    unfold firstP
    rw [findF_pre hpre hin]
    cases hh : findF (done ++ [(p, i)]) i with
    | none => rw [hh] at h2; cases h2
    | some q => rfl
  refine draw (fun w' => Ext No w2 w') ed (pur (nil_ptr _) (pur (field_ptr _ _ _) ?_))
  refine heldC (v := lv) (fun w' hh => (hb02.no hh).cell 0) (heldC (v := nv') (fun w' hh => (hbf.no hh).cell 2) (heldC (v := .map (some a1)) (fun w' hh => (hb22.no hh).cell 0) ?_))
  refine heldR (v := encE (firstP (items st.dirs) i)) (fun w' hh => ?_) ?_
  · have h3 : RunS Tryz.prog (Instr.lookup 78 (.map (some a1)) (ptrE gf) false) (fun v w'' => v = encE (firstP (items st.dirs) i) ∧ w'' = w') w' := MapR.lookupA (fstAt hx2 hs2 hh hgf) (hm2.no hh) ⟨by rw [hv2]; rfl, rfl⟩
    unfold RunS at h3
    cases hr : (Instr.lookup 78 (.map (some a1)) (ptrE gf) false).run Tryz.prog w' with
    | ok v w'' => rw [hr] at h3; obtain ⟨rfl, rfl⟩ := h3; rfl
    | halt _ _ => rw [hr] at h3; exact h3.elim
  refine cCLB (Sl.no hnv'.sl ed) (by omega) fun bv w3 ho3 e3 => ⟨ed.trans e3, ?_⟩
  have e23 := ed.trans e3
  have hF3 : FilR T1 d i w3 gf f := (hF.keep k2 hni (fun h => by cases h)).keep (M := Nil) (Gon.no e23) (fun h => h) fun h => h
  refine cunsynced hF3 (by omega) fun w4 e4 => ⟨e23.trans e4, ?_⟩
  have e24 := e23.trans e4
  obtain ⟨va, vn, vc, rfl⟩ := own_slice ho3
  refine runS (buildNode w4 _ _ _ _ _ _) ⟨e24, ?_⟩
  refine build1 TND (v := .agg #[encE p, .slice va vn vc, .int .i64 f.openI, encE (firstP (items st.dirs) i)]) rfl fun w5 b5 e5 z5 => ⟨e24.trans e5, ?_⟩
  have e25 := e24.trans e5
  have b5' : Blk w5 w4.heap.size 36 [encE p, .slice va vn vc, .int .i64 f.openI, encE (firstP (items st.dirs) i)] := b5
  have ho5 := owns_ext ho2 e25 fun _ _ hh => hh
  have hby5 := owns_ext (owns_ext ho3 e4 fun _ _ hh => hh) e5 fun _ _ hh => hh
  have hs12 := e2.size
  refine append_sl TND 29 ho5 (b5'.sl (n := 1) (c := 1) (size := 4) rfl (Nat.le_refl _)) (by
    intro u hu
    simp only [List.mem_cons, List.not_mem_nil, or_false] at hu
    rcases hu with rfl | rfl | rfl | rfl <;> rfl) (by omega) (by omega) (by have := e25.size; omega) fun v' w6 ho6 hg6 hat => ?_
  have e6 : Ext (fun b => lv.ownBlock = some b) w5 w6 := Ext.grown hg6 fun b hb => hb
  have hb05 := hb02.no e25
  have hb06 := hb05.ext e6 fun hh => Own.ne_blk ho5 hb05 (by decide) hh
  refine storeB hb06 (by simp) (Own.one ho6) fun w7 b7 e7 z7 => ?_
  have b7' : Blk w7 a0 29 [v'] := b7
  let T' : Tags := fun b => if b < w1.heap.size then T1 b else if v'.ownBlock = some b then .tmp else .free
  have hx17 : Ext (fun b => Tmp (T1 b)) w1 w7 := by
    have x1 : Ext (fun b => Tmp (T1 b)) w1 w5 := k2.ext.trans e25.no
    have x2 := x1.trans (e6.mono fun b hb _ => hot b hb)
    exact x2.trans (e7.mono fun b hb _ => by rw [show b = a0 from hb]; exact t0)
  have k7 : Gon Tmp w1 T1 w7 T' := ⟨hx17, fun b hb => if_pos hb⟩
  have hbs : base ≤ w7.heap.size := by have := hx17.size; omega
  have ha0 := hb0.lt
  have ha2 := hb2.lt
  have ha1 := hmp.lt
  -- the row and the bytes, behind the store
  have hv'a0 : ∀ b, v'.ownBlock = some b → ¬ At1 a0 b := fun b hb hh => by have := (ho6.lt b hb).1; have : b = a0 := hh; omega
  have ho7 := owns_ext ho6 e7 hv'a0
  have hby6 := owns_ext hby5 e6 fun b hb hh => Own.ne_own ho5 hby5 (by decide) b hh hb
  have hby7 := owns_ext hby6 e7 fun b hb hh => by have := (hby6.lt b hb).1; have := e2.size; have := ed.size; have : b = a0 := hh; omega
  refine hK' w7 T' ⟨hx.keep k7 hni hno, (if_pos ha0).trans t0, (if_pos ha1).trans t1, (if_pos ha2).trans t2, hbs, ?_, m2, v', qs ++ [(ndOf st (p, i), .slice va vn vc)], ?_, hs2, b7', ?_, ?_, ?_, ?_⟩ k7
  · exact ((hb22.no e25).ext e6 fun hh => by have := (ho5.lt a2 hh).1; omega).ext e7 (by show ¬ a2 = a0; omega)
  · exact ((hm2.no e25).ext e6 fun hh => by have := (ho5.lt a1 hh).1; omega).ext e7 (by show ¬ a1 = a0; omega)
  · rw [List.map_append, List.map_append, hqs]; rfl
  · rw [flat_append, flat_one, List.length_append]
    have hnd : ndC (ndOf st (p, i), .slice va vn vc) = [encE p, .slice va vn vc, .int .i64 f.openI, encE (firstP (items st.dirs) i)] := by unfold ndC ndOf; rw [hfi]
    rw [hnd]; exact ho7
  · intro b hb
    by_cases hlt : b < w1.heap.size
    · refine (if_pos hlt).trans ?_
      rcases hat with hh | hh
      · exact hot b (by rw [← hh]; exact hb)
      · rw [hh] at hb
        have : w5.heap.size = b := by simpa using hb
        have := e25.size
        omega
    · exact (if_neg hlt).trans (if_pos hb)
  · intro q hq
    rcases List.mem_append.1 hq with hq | hq
    · obtain ⟨q1, q2⟩ := hqb q hq
      refine ⟨owns_ext q1 hx17 (fun b hb hh => by rw [q2 b hb] at hh; cases hh), fun b hb => (if_pos (q1.lt b hb).2).trans (q2 b hb)⟩
    · rw [List.mem_singleton.1 hq]
      have hnb : (ndOf st (p, i)).b = f.now := by unfold ndOf; rw [hfi]
      refine ⟨?_, fun b hb => ?_⟩
      · show w7.ownsRow base 5 1 (.slice va vn vc) (ndOf st (p, i)).b.length (byteCells (ndOf st (p, i)).b)
        rw [hnb]
        exact owns_base hby7 fun b hb => by have := (hby7.lt b hb).1; have := e2.size; have := ed.size; omega
      · have hge : ¬ b < w1.heap.size := by have := (hby7.lt b hb).1; have := e2.size; have := ed.size; omega
        refine (if_neg hge).trans (if_neg fun hh => ?_)
        exact Own.ne_own ho7 hby7 (by decide) b hh hb
end
end Go.Proofs.YthohdinjpkehpaaGreat

namespace Go.Proofs.YthohdinjpkehpaaGreat
open Go SG Go.RowKit
set_option linter.unusedVariables false
set_option maxRecDepth 4000
set_option linter.unusedSimpArgs false

section
variable {T : Tags} {w : World} {d g : Nat} {st : Dk} {md : Nat} {dm : List (El × Nat)} {ad : Nat → Option Nat} {K : Value → World → Prop}
set_option maxHeartbeats 2000000 in
theorem Dx.Image (hx : Dx T d w g st md dm ad) {B n : Nat} (hW : Wf B n st) (hB : B ≤ 536870912) (hn : n ≤ 2199023255552)
    (hK : ∀ v w', ImgR w.heap.size w' v st.image → Dx (Go.Proofs.YthohdinjpkehpaaGreat.ff w T) d w' g st md dm ad → Gon (fun t => Tmp t ∨ Free t) w T w' (Go.Proofs.YthohdinjpkehpaaGreat.ff w T) → K v w') : CallS Tryz.prog 9 #[ptrE g] K w := by
  refine s9_call hm ?_
  unfold s9
  refine box fun w1 b1 e1 z1 => MapR.make (κ := Nat) (ν := El) ptrE encE fun w2 h2 e2 z2 => box fun w3 b3 e3 z3 => storeB b3 (by simp [Value.cells]) rfl fun w4 b4 e4 z4 => ?_
  have b1' : Blk w1 w.heap.size 29 [.slice none 0 0] := b1
  have b4' : Blk w4 w2.heap.size 78 [.map (some w1.heap.size)] := b4
  have e03 := (e1.trans e2).trans e3
  have e04 : Ext No w w4 := e03.fresh e4 fun b hb => .inr (by rw [show b = w2.heap.size from hb]; omega)
  let T4 : Tags := fun b => if b < w.heap.size then T b else .tmp
  have hT4 : ∀ b, w.heap.size ≤ b → T4 b = .tmp := fun b hb => if_neg (by omega)
  have k4 : Gon (fun t => Tmp t ∨ Free t) w T w4 T4 := ⟨e04.no, fun b hb => if_pos hb⟩
  have hni : ¬ (fun t => Tmp t ∨ Free t) Tag.ice := fun h => h.elim (fun h => by cases h) fun h => by cases h
  have hno : ∀ c, ¬ (fun t => Tmp t ∨ Free t) (Tag.own d c) := fun c h => h.elim (fun h => by cases h) fun h => by cases h
  have hx4 := hx.keep k4 hni hno
  have hI4 : ImgI d g st md dm ad w.heap.size w1.heap.size w2.heap.size w4.heap.size [] w4 T4 := ⟨hx4, hT4 _ (Nat.le_refl _), hT4 _ (by omega), hT4 _ (by omega), Nat.le_refl _, b4', [], .slice none 0 0, [], (h2.no e3).ext e4 (by show ¬ w1.heap.size = w2.heap.size; omega),
    fun y => (Classical.em (∃ i, ad i = some y)).elim (fun ⟨i, hi⟩ => .inl ⟨i, hi, rfl⟩) fun h => .inr ⟨rfl, fun i hi => h ⟨i, hi⟩⟩, ((b1'.no e2).no e3).ext e4 (by show ¬ w.heap.size = w2.heap.size; omega), rfl, World.ownsRow_nil _ _ _ _, fun b hb => by simp [Value.ownBlock] at hb, fun q hq => by cases hq⟩
  refine hx4.each hW (M := Tmp) (fun h => by cases h) (fun h => by cases h) (ImgI d g st md dm ad w.heap.size w1.heap.size w2.heap.size w4.heap.size) hI4 ?_ (fun done w1 T1 h => ⟨st, h.1, rfl⟩) (fun done p i gf w5 T5 K' hpre hgf hI hK' => Dx.image1 hW hB hn (by omega) (by omega) (by omega) hpre hgf hI hK') ?_
  · rintro done w5 T5 w6 T6 ⟨hx5, t0, t1, t2, hbase, hb2, m, lv, qs, hmp, hs, hb0, hqs, ho, hot, hqb⟩ k
    have hf : ¬ Free Tag.tmp := fun h => by cases h
    refine ⟨hx5.keep k (fun h => by cases h) (fun c h => by cases h), (k.same _ hb0.lt).trans t0, (k.same _ hmp.lt).trans t1, (k.same _ hb2.lt).trans t2, Nat.le_trans hbase k.ext.size, hb2.ext k.ext (by rw [t2]; exact hf), m, lv, qs, hmp.ext k.ext (by rw [t1]; exact hf), hs, hb0.ext k.ext (by rw [t0]; exact hf), hqs, owns_ext ho k.ext (fun b hb => by rw [hot b hb]; exact hf), fun b hb => (k.same b (ho.lt b hb).2).trans (hot b hb), fun q hq => ?_⟩
    obtain ⟨q1, q2⟩ := hqb q hq
    exact ⟨owns_ext q1 k.ext (fun b hb hh => by rw [q2 b hb] at hh; cases hh), fun b hb => (k.same b (q1.lt b hb).2).trans (q2 b hb)⟩
  · rintro w5 T5 ⟨hx5, t0, t1, t2, hbase, hb2, m, lv, qs, hmp, hs, hb0, hqs, ho, hot, hqb⟩ k5
    have k05 := k4.trans k5
    have kff : Gon (fun t => Tmp t ∨ Free t) w T w5 (Go.Proofs.YthohdinjpkehpaaGreat.ff w T) := ⟨k05.ext, fun b hb => if_pos hb⟩
    have hsz := e04.size
    refine loadB hb0 rfl (hK lv w5 ⟨qs, hqs, ?_, fun q hq => owns_base (hqb q hq).1 fun b hb => by have := ((hqb q hq).1.lt b hb).1; omega⟩ (hx.keep kff hni hno) kff)
    have : st.image.length = (items st.dirs).length := by unfold Dk.image; rw [List.length_map]
    rw [this]
    exact owns_base ho fun b hb => by have := (ho.lt b hb).1; omega
end
def FrS (T : Tags) (w : World) (v : Value) (n size : Nat) (xs : List Value) : Prop := Sl w v n size xs ∧ ∀ b, v.ownBlock = some b → b < w.heap.size ∧ T b = .free
theorem FrS.keep {M : Tag → Prop} {T T' : Tags} {w w' : World} {v : Value} {n size : Nat} {xs : List Value} (h : FrS T w v n size xs) (k : Gon M w T w' T') (hi : ¬ M .free) : FrS T' w' v n size xs :=
  ⟨h.1.ext k.ext fun b hb hh => by simp only [(h.2 b hb).2] at hh; exact hi hh, fun b hb => ⟨Nat.lt_of_lt_of_le (h.2 b hb).1 k.ext.size, (k.same b (h.2 b hb).1).trans (h.2 b hb).2⟩⟩
theorem FrS.row {T : Tags} {w w' : World} {e : TypeId} {size n : Nat} {v : Value} {xs : List Value} (h : w'.ownsRow w.heap.size e size v n xs) : FrS (ff w T) w' v n size xs := ⟨Sl.own h, fun b hb => ⟨(h.lt b hb).2, ff_ge (h.lt b hb).1⟩⟩
def ImgF (T : Tags) (w : World) (v : Value) (l : List Nd) : Prop := ∃ qs : List (Nd × Value), qs.map (·.1) = l ∧ FrS T w v l.length 4 (flat ndC qs) ∧ ∀ q ∈ qs, FrS T w q.2 q.1.b.length 1 (byteCells q.1.b)
theorem ImgF.keep {M : Tag → Prop} {T T' : Tags} {w w' : World} {v : Value} {l : List Nd} (h : ImgF T w v l) (k : Gon M w T w' T') (hi : ¬ M .free) : ImgF T' w' v l := by
  obtain ⟨qs, h1, h2, h3⟩ := h
  exact ⟨qs, h1, h2.keep k hi, fun q hq => (h3 q hq).keep k hi⟩
theorem ImgR.free {T : Tags} {w w' : World} {v : Value} {l : List Nd} (h : ImgR w.heap.size w' v l) : ImgF (ff w T) w' v l := by
  obtain ⟨qs, h1, h2, h3⟩ := h
  exact ⟨qs, h1, FrS.row h2, fun q hq => FrS.row (h3 q hq)⟩
theorem ImgF.len {T : Tags} {w : World} {v : Value} {l : List Nd} (h : ImgF T w v l) : lenSliceV v = some (.int .i64 (l.length : Int)) := by obtain ⟨_, _, h2, _⟩ := h; exact h2.1.len
theorem ImgF.at_ {T : Tags} {w : World} {v : Value} {l : List Nd} (h : ImgF T w v l) {i : Nat} {x : Nd} (hx : l[i]? = some x) : ∃ (ad : Addr) (bv : Value), indexAddrV 4 v (.int .i64 (i : Int)) = some (.pointer (some ad)) ∧ At w ad [encE x.path, bv, .int .i64 x.op, encE x.first] ∧ SlB w bv x.b := by
  obtain ⟨qs, h1, h2, h3⟩ := h
  have hq : qs.length = l.length := by rw [← h1]; simp
  obtain ⟨q, hq⟩ := getN (xs := qs) (i := i) (by have := (List.getElem?_eq_some_iff.1 hx).1; omega)
  have hqD : q.1 = x := by
    have : (qs.map (·.1))[i]? = some q.1 := by rw [List.getElem?_map, hq]; rfl
    rw [h1, hx] at this; exact (Option.some.inj this).symm
  subst hqD
  obtain ⟨ad, a1, a2, a3⟩ := h2.1.at_ (i := i) (List.getElem?_eq_some_iff.1 hx).1
  rw [flat_at ndC ndC_len qs i q hq] at a2
  exact ⟨ad, q.2, a1, a2, (h3 q (List.mem_of_getElem? hq)).1⟩
section
variable {T : Tags} {w : World} {K : Value → World → Prop}
end
end Go.Proofs.YthohdinjpkehpaaGreat

namespace Go.Proofs.YthohdinjpkehpaaGreat
open Go SG Go.RowKit
set_option linter.unusedVariables false
set_option maxRecDepth 4000
set_option linter.unusedSimpArgs false

structure Ac where
  kind : Int
  path : El
  to : El
  b : Bys
  n : Int
  m : Int
  keeps : List Int
  names : List Int
def Dk.onF (st : Dk) (s : El) (f : Nat → Int × Dk) : Int × Dk := match st.file s with
  | .error e => (e, st)
  | .ok i => f i
theorem Dk.onF_err {st : Dk} {s : El} {f : Nat → Int × Dk} {e : Int} (h : st.file s = .error e) : st.onF s f = (e, st) := by unfold Dk.onF; rw [h]
theorem Dk.onF_ok {st : Dk} {s : El} {f : Nat → Int × Dk} {i : Nat} (h : st.file s = .ok i) : st.onF s f = f i := by unfold Dk.onF; rw [h]
def Dk.write (st : Dk) (s : El) (k : Int) (b : Bys) : Int × Dk := st.onF s fun i => st.wr i k b
def Dk.append_ (st : Dk) (s : El) (b : Bys) : Int × Dk := st.onF s fun i => st.wr i (st.fi i).now.length b
def Dk.sync_ (st : Dk) (s : El) : Int × Dk := st.onF s st.sync
def Dk.cut_ (st : Dk) (s : El) (k : Int) : Int × Dk := st.onF s fun i => st.cut i k
def Dk.flip_ (st : Dk) (s : El) (k : Int) : Int × Dk := st.onF s fun i => st.flip i k
def Dk.does (st : Dk) (a : Ac) : Dk :=
  if a.kind = 0 then (st.mkdir a.path).2 else if a.kind = 1 then (st.rmdir a.path).2 else if a.kind = 2 then (st.create a.path).2
  else if a.kind = 3 then (st.write a.path a.n a.b).2 else if a.kind = 4 then (st.append_ a.path a.b).2 else if a.kind = 5 then (st.cut_ a.path a.n).2
  else if a.kind = 6 then (st.rename a.path a.to).2 else if a.kind = 7 then (st.link a.path a.to).2 else if a.kind = 8 then (st.remove a.path).2
  else if a.kind = 9 then (st.sync_ a.path).2 else if a.kind = 10 then (st.syncDir a.path).2 else if a.kind = 11 then st.fail_ a.n a.m else if a.kind = 12 then st.stop_ a.n
  else if a.kind = 13 then (st.flip_ a.path a.n).2 else if a.kind = 14 then st.crash a.keeps a.names else st
def SameSc (st st' : Dk) : Prop := (st'.fail = st.fail ∨ st'.fail = st.fail.cnt.2) ∧ (st'.stop = st.stop ∨ st'.stop = st.stop.cnt.2)
theorem sc_onF {st : Dk} {s : El} {f : Nat → Int × Dk} (h : ∀ i, SameSc st (f i).2) : SameSc st (st.onF s f).2 := by
  unfold Dk.onF
  split
  · exact ⟨.inl rfl, .inl rfl⟩
  · exact h _
theorem sc_mkdir (st : Dk) (x : El) : SameSc st (st.mkdir x).2 := by
  unfold Dk.mkdir
  repeat' split
  all_goals first | exact ⟨.inl rfl, .inl rfl⟩ | exact ⟨.inr rfl, .inr rfl⟩
theorem sc_rmdir (st : Dk) (x : El) : SameSc st (st.rmdir x).2 := by
  unfold Dk.rmdir
  repeat' split
  all_goals first | exact ⟨.inl rfl, .inl rfl⟩ | exact ⟨.inr rfl, .inr rfl⟩
theorem sc_create (st : Dk) (x : El) : SameSc st (st.create x).2 := by
  unfold Dk.create
  repeat' split
  all_goals first | exact ⟨.inl rfl, .inl rfl⟩ | exact ⟨.inr rfl, .inr rfl⟩
theorem sc_rename (st : Dk) (x y : El) : SameSc st (st.rename x y).2 := by
  unfold Dk.rename
  repeat' split
  all_goals first | exact ⟨.inl rfl, .inl rfl⟩ | exact ⟨.inr rfl, .inr rfl⟩
theorem sc_link (st : Dk) (x y : El) : SameSc st (st.link x y).2 := by
  unfold Dk.link
  repeat' split
  all_goals first | exact ⟨.inl rfl, .inl rfl⟩ | exact ⟨.inr rfl, .inr rfl⟩
theorem sc_remove (st : Dk) (x : El) : SameSc st (st.remove x).2 := by
  unfold Dk.remove
  repeat' split
  all_goals first | exact ⟨.inl rfl, .inl rfl⟩ | exact ⟨.inr rfl, .inr rfl⟩
theorem sc_syncDir (st : Dk) (x : El) : SameSc st (st.syncDir x).2 := by
  unfold Dk.syncDir
  repeat' split
  all_goals first | exact ⟨.inl rfl, .inl rfl⟩ | exact ⟨.inr rfl, .inr rfl⟩
theorem sc_wr (st : Dk) (i : Nat) (k : Int) (b : Bys) : SameSc st (st.wr i k b).2 := by
  unfold Dk.wr
  generalize (if (chgV st).2 then b.take (b.length / 2) else b) = c
  repeat' split
  all_goals first | exact ⟨.inl rfl, .inl rfl⟩ | exact ⟨.inr rfl, .inr rfl⟩
theorem sc_sync (st : Dk) (i : Nat) : SameSc st (st.sync i).2 := by
  unfold Dk.sync
  split <;> exact ⟨.inr rfl, .inr rfl⟩
theorem sc_cut (st : Dk) (i : Nat) (k : Int) : SameSc st (st.cut i k).2 := by
  unfold Dk.cut
  repeat' split
  all_goals first | exact ⟨.inl rfl, .inl rfl⟩ | exact ⟨.inr rfl, .inr rfl⟩
theorem sc_flip (st : Dk) (i : Nat) (k : Int) : SameSc st (st.flip i k).2 := by
  unfold Dk.flip
  repeat' split
  all_goals exact ⟨.inl rfl, .inl rfl⟩
theorem DocW.step {n : Nat} {st st' : Dk} (h : DocW n st) (hs : SameSc st st') (hw : Wf 536870912 (n + 1) st') (hn : n + 1 ≤ 2199023255552) : DocW (n + 1) st' := by
  have hm : ∀ s : Scr, s.cnt.2.many = s.many := fun s => by unfold Scr.cnt; split <;> rfl
  obtain ⟨h1, h2⟩ := hs
  have e1 : st'.fail.many = st.fail.many := by rcases h1 with h1 | h1 <;> rw [h1]; exact hm _
  have e2 : st'.stop.many = st.stop.many := by rcases h2 with h2 | h2 <;> rw [h2]; exact hm _
  exact ⟨hw, ⟨by rw [e1]; exact h.sc.fail, by rw [e2]; exact h.sc.stop⟩, by rw [e1]; exact h.fm, hn⟩
theorem wf_onF {n : Nat} {st : Dk} (h : DocW n st) {s : El} {f : Nat → Int × Dk} (hf : ∀ i, i ∈ (items st.dirs).map (·.2) → Wf 536870912 (n + 1) (f i).2) : Wf 536870912 (n + 1) (st.onF s f).2 := by
  unfold Dk.onF
  split
  · exact h.wf.mono (Nat.le_succ n)
  · rename_i i hi
    exact hf i (file_items hi)
theorem DocW.crash {n : Nat} {st : Dk} (h : DocW n st) (kl cl : List Int) : DocW n (st.crash kl cl) := ⟨h.wf.crash kl cl, ⟨Int.le_refl 0, .inr rfl⟩, by show (0 : Int) ≤ _; decide, h.n2⟩
theorem DocW.fail_ {n : Nat} {st : Dk} (h : DocW n st) {a b : Int} (ha : I64 a) (hb : I64 b) : DocW n (st.fail_ a b) := by
  have h2 := hb.2
  exact ⟨h.wf.fail_ ha b, ⟨by show 0 ≤ max b 0; omega, h.sc.stop⟩, by show max b 0 ≤ _; omega, h.n2⟩
theorem DocW.stop_ {n : Nat} {st : Dk} (h : DocW n st) {a : Int} (ha : I64 a) : DocW n (st.stop_ a) := ⟨h.wf.stop_ ha, ⟨h.sc.fail, .inl rfl⟩, h.fm, h.n2⟩
theorem DocW.mono {n m : Nat} {st : Dk} (h : DocW n st) (hn : n ≤ m) (hm : m ≤ 2199023255552) : DocW m st := ⟨h.wf.mono hn, h.sc, h.fm, hm⟩
theorem DocW.does {n : Nat} {st : Dk} (h : DocW n st) (hn : n + 1 ≤ 2199023255552) (a : Ac) (ha : I64 a.n) (hb : I64 a.m) : DocW (n + 1) (st.does a) := by
  have up : ∀ {st' : Dk}, DocW n st' → DocW (n + 1) st' := fun h => h.mono (Nat.le_succ n) hn
  unfold Dk.does
  by_cases c0 : a.kind = 0
  · rw [if_pos c0]; exact h.step (sc_mkdir _ _) (h.wf.mkdir _) hn
  rw [if_neg c0]
  by_cases c1 : a.kind = 1
  · rw [if_pos c1]; exact h.step (sc_rmdir _ _) (h.wf.rmdir _) hn
  rw [if_neg c1]
  by_cases c2 : a.kind = 2
  · rw [if_pos c2]; exact h.step (sc_create _ _) (h.wf.create _) hn
  rw [if_neg c2]
  by_cases c3 : a.kind = 3
  · rw [if_pos c3]; exact h.step (sc_onF fun i => sc_wr _ _ _ _) (wf_onF h fun i hi => h.wf.wr (by decide) hi _ _) hn
  rw [if_neg c3]
  by_cases c4 : a.kind = 4
  · rw [if_pos c4]; exact h.step (sc_onF fun i => sc_wr _ _ _ _) (wf_onF h fun i hi => h.wf.wr (by decide) hi _ _) hn
  rw [if_neg c4]
  by_cases c5 : a.kind = 5
  · rw [if_pos c5]; exact h.step (sc_onF fun i => sc_cut _ _ _) (wf_onF h fun i hi => h.wf.cut _ _) hn
  rw [if_neg c5]
  by_cases c6 : a.kind = 6
  · rw [if_pos c6]; exact h.step (sc_rename _ _ _) (h.wf.rename _ _) hn
  rw [if_neg c6]
  by_cases c7 : a.kind = 7
  · rw [if_pos c7]; exact h.step (sc_link _ _ _) (h.wf.link _ _) hn
  rw [if_neg c7]
  by_cases c8 : a.kind = 8
  · rw [if_pos c8]; exact h.step (sc_remove _ _) (h.wf.remove _) hn
  rw [if_neg c8]
  by_cases c9 : a.kind = 9
  · rw [if_pos c9]; exact h.step (sc_onF fun i => sc_sync _ _) (wf_onF h fun i hi => h.wf.sync _) hn
  rw [if_neg c9]
  by_cases c10 : a.kind = 10
  · rw [if_pos c10]; exact h.step (sc_syncDir _ _) (h.wf.syncDir _) hn
  rw [if_neg c10]
  by_cases c11 : a.kind = 11
  · rw [if_pos c11]; exact up (h.fail_ ha hb)
  rw [if_neg c11]
  by_cases c12 : a.kind = 12
  · rw [if_pos c12]; exact up (h.stop_ ha)
  rw [if_neg c12]
  by_cases c13 : a.kind = 13
  · rw [if_pos c13]; exact h.step (sc_onF fun i => sc_flip _ _ _) (wf_onF h fun i hi => (h.wf.flip _ _).mono (Nat.le_succ n)) hn
  rw [if_neg c13]
  by_cases c14 : a.kind = 14
  · rw [if_pos c14]; exact up (h.crash _ _)
  rw [if_neg c14]
  exact up h
theorem DocW.new (n : Nat) (hn : n ≤ 2199023255552) {q : Int} (h0 : 0 ≤ q) (h1 : q ≤ 268435456) : DocW n (Dk.new q) := ⟨Wf.new _ n h0 h1, ⟨Int.le_refl 0, .inr rfl⟩, by show (0 : Int) ≤ _; decide, hn⟩
end Go.Proofs.YthohdinjpkehpaaGreat

namespace Go.Proofs.YthohdinjpkehpaaGreat
open Go SG Go.RowKit
set_option linter.unusedVariables false
set_option maxRecDepth 4000
set_option linter.unusedSimpArgs false

section
variable {T : Tags} {w : World} {K : Value → World → Prop}
theorem cOwn {v : Value} {l : Bys} (hs : SlB w v l) (hl : l.length ≤ 140737488351232) (hK : ∀ v' w', w'.ownsRow w.heap.size 5 1 v' l.length (byteCells l) → Ext No w w' → K v' w') : CallS Tryz.prog 91 #[v] K w := by
  refine s91_call hm ?_
  unfold s91
  refine pur hs.len (pur (add64 (c := ((l.length + 2 : Nat) : Int)) (by omega) (by omega) (by omega)) (makeCap TB rfl (by omega) (by omega) fun v1 w1 ho1 hb1 e1 => ?_))
  refine app_own (w := w) TB e1 ho1 (Sl.no hs e1) (by
    intro u hu
    unfold SG.byteCells at hu
    obtain ⟨c, _, rfl⟩ := List.mem_map.1 hu
    rfl) (by omega) (by omega) fun v2 w2 ho2 e2 => ?_
  rw [Nat.zero_add, List.nil_append] at ho2
  exact hK v2 w2 ho2 e2
theorem cSpoil {v : Value} {base n : Nat} {xs : List Value} (ho : w.ownsRow base 5 1 v n xs) (hbase : base ≤ w.heap.size) (hn : n + 1 ≤ 140737488355328) (hK : ∀ w', Ext (fun b => v.ownBlock = some b) w w' → K (.tuple [].toArray) w') : CallS Tryz.prog 70 #[v] K w := by
  refine s70_call hm ?_
  unfold s70
  refine join0 (fun w' => ∃ ys, w'.ownsRow base 5 1 v n ys ∧ Ext (fun b => v.ownBlock = some b) w w') ?_ fun J0 hJ0 => ?_
  · rintro w1 ⟨ys, ho1, e1⟩
    refine build1 TB (v := .int .u8 85) rfl fun w2 b2 e2 z2 => ?_
    refine append_sl TB 34 (owns_ext ho1 e2 fun _ _ hh => hh) (b2.sl (n := 1) (c := 1) (size := 1) rfl (Nat.le_refl _)) (by simp [Value.cells, Value.oneCell']) (by omega) (by omega) (by have := e1.size; have := e2.size; omega) fun v3 w3 ho3 hg3 _ => hK w3 ?_
    exact (e1.trans e2.no).trans (Ext.grown hg3 fun b hb => hb)
  refine loop1 (σ := Nat) (fun i a w' => a = .int .i64 (i : Int) ∧ i ≤ n ∧ ∃ ys, w'.ownsRow base 5 1 v n ys ∧ Ext (fun b => v.ownBlock = some b) w w') (fun i => n - i) 0 ⟨rfl, Nat.zero_le _, xs, ho, Ext.refl _ _⟩ ?_
  rintro i _ w1 ⟨rfl, hi, ys, ho1, e1⟩ L1 hL1
  refine pur (Sl.own ho1).len (pur (bin_lss _ _ _) (condD (fun hlt => ?_) (fun hge => hJ0 _ ⟨ys, ho1, e1⟩)))
  have hyl := ho1.1
  obtain ⟨y, hy⟩ := getN (xs := ys) (i := i) (by omega)
  obtain ⟨gg, q0, q1, q2, q3⟩ := Own.at1 ho1 hy .i64
  refine pur q1 (q3 _ rfl fun w2 ho2 e2 z2 => pur (add64 (c := ((i + 1 : Nat) : Int)) (by omega) (by omega) (by omega)) (hL1 (i + 1) _ _ ⟨rfl, by omega, _, ho2, e1.trans (e2.mono fun b hb _ => by rw [show b = gg from hb]; exact q0)⟩ (by omega)))
theorem cTexts {a b : Value} {base : Nat} {l : List El} (ha : w.ownsRow base 9 1 a l.length (l.map encE)) (hb : Sl w b l.length 1 (l.map encE)) (hl : l.length ≤ 65536) (hne : ∀ c, b.ownBlock = some c → a.ownBlock ≠ some c) (hK : ∀ w', Ext (fun c => a.ownBlock = some c) w w' → K (.bool true) w') : CallS Tryz.prog 65 #[a, b] K w := by
  refine s65_call hm ?_
  unfold s65
  refine pur (Sl.own ha).len (pur hb.len (pur (bin_neq _ _ _) (condN (fun h => absurd rfl h) (fun _ => ?_))))
  refine join0 (fun w' => Ext (fun c => a.ownBlock = some c) w w') (fun w' h => hK w' h) fun J0 hJ0 => ?_
  refine loop1 (σ := Nat) (fun i v w' => v = .int .i64 (i : Int) ∧ i ≤ l.length ∧ Ext (fun c => a.ownBlock = some c) w w' ∧ ∃ ys, w'.ownsRow base 9 1 a l.length ys ∧ ∀ j, i ≤ j → ys[j]? = (l.map encE)[j]?) (fun i => l.length - i) 0 ⟨rfl, Nat.zero_le _, Ext.refl _ _, _, ha, fun j _ => rfl⟩ ?_
  rintro i _ w1 ⟨rfl, hi, e1, ys, ho1, hys⟩ L1 hL1
  refine pur (Sl.own ho1).len (pur (bin_lss _ _ _) (condD (fun hlt => ?_) (fun hge => hJ0 _ e1)))
  obtain ⟨x, hx⟩ := getN (xs := l) (i := i) (by omega)
  have hmx : (l.map encE)[i]? = some (encE x) := by rw [List.getElem?_map, hx]; rfl
  have hb1 : Sl w1 b l.length 1 (l.map encE) := Sl.ext hb e1 fun c hc hh => hne c hc hh
  have ed := Ext.drew (S := No) w1
  have hod := owns_ext ho1 ed fun _ _ hh => hh
  have hbd := hb1.no ed
  obtain ⟨gg, q0, q1, q2, q3⟩ := Own.at1 hod (by rw [hys i (Nat.le_refl _)]; exact hmx) .i64
  obtain ⟨ad, r1, r2, r3⟩ := sl_idx1 hbd (i := i) (v := encE x) hmx .i64
  refine draw (fun w' => w' = w1.drew) rfl (pur q1 (pur r1 (heldC (v := encE x) (fun w' hh => by rw [hh]; exact q2) (heldC (v := encE x) (fun w' hh => by rw [hh]; exact r3 _ hbd) (pur (neE _ _) (condN (fun h => absurd rfl h) (fun _ => pur q1 (q3 _ rfl fun w2 ho2 e2 z2 => ?_))))))))
  refine pur (add64 (c := ((i + 1 : Nat) : Int)) (by omega) (by omega) (by omega)) (hL1 (i + 1) _ _ ⟨rfl, by omega, (e1.trans ed.no).trans (e2.mono fun b hb _ => by rw [show b = gg from hb]; exact q0), _, ho2, fun j hj => ?_⟩ (by omega))
  rw [List.getElem?_set_ne (by omega)]
  exact hys j (by omega)
end
end Go.Proofs.YthohdinjpkehpaaGreat

namespace Go.Proofs.YthohdinjpkehpaaGreat
open Go SG Go.RowKit
set_option linter.unusedVariables false
set_option maxRecDepth 4000
set_option linter.unusedSimpArgs false

def DD (T : Tags) (d : Nat) (w : World) (g : Nat) (st : Dk) : Prop := ∃ dv fv, Doc T d w g st dv fv
theorem DD.keep {M : Tag → Prop} {T T' : Tags} {w w' : World} {d g : Nat} {st : Dk} (h : DD T d w g st) (k : Gon M w T w' T') (hi : ¬ M .ice) (hd : ¬ M (.own d .doc)) : DD T' d w' g st := by
  obtain ⟨dv, fv, h⟩ := h
  exact ⟨dv, fv, h.keep k hi hd⟩
theorem Dsk.keep' {M : Tag → Prop} {T T' : Tags} {w w' : World} {d g : Nat} {st : Dk} (h : Dsk T d w g st) (k : Gon M w T w' T') (hi : ¬ M .ice) (ho : ∀ c, ¬ M (.own d c)) : Dsk T' d w' g st := by
  obtain ⟨md, dm, ad, h⟩ := h
  exact ⟨md, dm, ad, h.keep k hi ho⟩
def POp (d g : Nat) (st : Dk) (fn : Nat) (args : Array Value) (r : Int × Dk) : Prop := ∀ (T : Tags) (w : World) (K : Value → World → Prop), Dsk T d w g st → (∀ w' T', Dsk T' d w' g r.2 → Gon (Ops d) w T w' T' → K (.int .i64 r.1) w') → CallS Tryz.prog fn args K w
def DOp (d g : Nat) (st : Dk) (fn : Nat) (args : Array Value) (r : Int × Dk) : Prop := ∀ (T : Tags) (w : World) (K : Value → World → Prop), DD T d w g st → (∀ w' T', DD T' d w' g r.2 → Gon (DocT d) w T w' T' → K (.int .i64 r.1) w') → CallS Tryz.prog fn args K w
section
variable {d g n : Nat} {st : Dk}
theorem Pmkdir (hW : DocW n st) {s : El} : POp d g st 20 #[ptrE g, encE s] (st.mkdir s) := by
  rintro T w K ⟨md, dm, ad, h⟩ hK
  exact h.Mkdir hW.wf hW.n2 fun w' T' dm' h' k => hK w' T' ⟨_, dm', _, h'⟩ k
theorem Dmkdir (hW : DocW n st) {s : El} : DOp d g st 42 #[ptrE g, encE s] (st.mkdir s) := by
  rintro T w K ⟨dv, fv, h⟩ hK
  exact h.Mkdir hW fun w' T' dv' h' k => hK w' T' ⟨dv', _, h'⟩ k
theorem Prmdir (hW : DocW n st) {s : El} : POp d g st 43 #[ptrE g, encE s] (st.rmdir s) := by
  rintro T w K ⟨md, dm, ad, h⟩ hK
  exact h.Rmdir hW.wf hW.n2 fun w' dm' h' k => hK w' T ⟨_, dm', _, h'⟩ k
theorem Drmdir (hW : DocW n st) {s : El} : DOp d g st 44 #[ptrE g, encE s] (st.rmdir s) := by
  rintro T w K ⟨dv, fv, h⟩ hK
  exact h.Rmdir hW fun w' T' dv' h' k => hK w' T' ⟨dv', _, h'⟩ k
theorem Pcreate (hW : DocW n st) {s : El} (hs : s.length ≤ 9223372036854775806) : POp d g st 21 #[ptrE g, encE s] (st.create s) := by
  rintro T w K ⟨md, dm, ad, h⟩ hK
  exact h.Create hW.wf hW.n2 hs fun w' T' ad' h' k => hK w' T' ⟨_, _, ad', h'⟩ k
theorem Dcreate (hW : DocW n st) {s : El} (hs : s.length ≤ 9223372036854775806) : DOp d g st 45 #[ptrE g, encE s] (st.create s) := by
  rintro T w K ⟨dv, fv, h⟩ hK
  exact h.Create hW hs fun w' T' dv' fv' h' k => hK w' T' ⟨dv', fv', h'⟩ k
theorem Prename (hW : DocW n st) {s t : El} (ha : s.length ≤ 9223372036854775806) (hb : t.length ≤ 9223372036854775806) : POp d g st 49 #[ptrE g, encE s, encE t] (st.rename s t) := by
  rintro T w K ⟨md, dm, ad, h⟩ hK
  exact h.Rename hW.wf hW.n2 ha hb fun w' T' h' k => hK w' T' ⟨_, _, _, h'⟩ k
theorem Drename (hW : DocW n st) {s t : El} (ha : s.length ≤ 9223372036854775806) (hb : t.length ≤ 9223372036854775806) : DOp d g st 50 #[ptrE g, encE s, encE t] (st.rename s t) := by
  rintro T w K ⟨dv, fv, h⟩ hK
  exact h.Rename hW ha hb fun w' T' dv' h' k => hK w' T' ⟨dv', _, h'⟩ k
theorem Plink (hW : DocW n st) {s t : El} (ha : s.length ≤ 9223372036854775806) (hb : t.length ≤ 9223372036854775806) : POp d g st 51 #[ptrE g, encE s, encE t] (st.link s t) := by
  rintro T w K ⟨md, dm, ad, h⟩ hK
  exact h.Link hW.wf hW.n2 ha hb fun w' T' h' k => hK w' T' ⟨_, _, _, h'⟩ k
theorem Dlink (hW : DocW n st) {s t : El} (ha : s.length ≤ 9223372036854775806) (hb : t.length ≤ 9223372036854775806) : DOp d g st 52 #[ptrE g, encE s, encE t] (st.link s t) := by
  rintro T w K ⟨dv, fv, h⟩ hK
  exact h.Link hW ha hb fun w' T' dv' h' k => hK w' T' ⟨dv', _, h'⟩ k
theorem Premove (hW : DocW n st) {s : El} (hs : s.length ≤ 9223372036854775806) : POp d g st 53 #[ptrE g, encE s] (st.remove s) := by
  rintro T w K ⟨md, dm, ad, h⟩ hK
  exact h.Remove hW.wf hW.n2 hs fun w' T' h' k => hK w' T' ⟨_, _, _, h'⟩ k
theorem Dremove (hW : DocW n st) {s : El} (hs : s.length ≤ 9223372036854775806) : DOp d g st 54 #[ptrE g, encE s] (st.remove s) := by
  rintro T w K ⟨dv, fv, h⟩ hK
  exact h.Remove hW hs fun w' T' dv' h' k => hK w' T' ⟨dv', _, h'⟩ k
theorem PsyncDir (hW : DocW n st) {s : El} : POp d g st 23 #[ptrE g, encE s] (st.syncDir s) := by
  rintro T w K ⟨md, dm, ad, h⟩ hK
  exact h.SyncDir hW.wf hW.n2 fun w' T' h' k => hK w' T' ⟨_, _, _, h'⟩ k
theorem DsyncDir (hW : DocW n st) {s : El} : DOp d g st 56 #[ptrE g, encE s] (st.syncDir s) := by
  rintro T w K ⟨dv, fv, h⟩ hK
  exact h.SyncDir hW fun w' T' dv' h' k => hK w' T' ⟨dv', _, h'⟩ k
theorem Psync_ (hW : DocW n st) {s : El} (hs : s.length ≤ 9223372036854775806) : POp d g st 12 #[ptrE g, encE s] (st.sync_ s) := by
  rintro T w K ⟨md, dm, ad, h⟩ hK
  unfold Dk.sync_ at hK
  refine h.Sync hW.wf hW.n2 hs (fun e w' he e1 => ?_) fun i w' T' hi h' k => ?_
  · rw [Dk.onF_err he] at hK; exact hK w' T ⟨md, dm, ad, h.no e1⟩ (Gon.no e1)
  · rw [Dk.onF_ok hi] at hK; exact hK w' T' ⟨_, _, _, h'⟩ k
theorem Dsync_ (hW : DocW n st) {s : El} (hs : s.length ≤ 9223372036854775806) : DOp d g st 55 #[ptrE g, encE s] (st.sync_ s) := by
  rintro T w K ⟨dv, fv, h⟩ hK
  unfold Dk.sync_ at hK
  refine h.Sync hW hs (fun e w' he e1 => ?_) fun i w' T' fv' hi h' k => ?_
  · rw [Dk.onF_err he] at hK; exact hK w' T ⟨dv, fv, h.no e1⟩ (Gon.no e1)
  · rw [Dk.onF_ok hi] at hK; exact hK w' T' ⟨dv, fv', h'⟩ k
theorem Pcut_ (hW : DocW n st) {s : El} (hs : s.length ≤ 9223372036854775806) {k : Int} (hk : I64 k) : POp d g st 47 #[ptrE g, encE s, .int .i64 k] (st.cut_ s k) := by
  rintro T w K ⟨md, dm, ad, h⟩ hK
  unfold Dk.cut_ at hK
  refine h.Cut hW.wf (by decide) hW.n2 hs (fun e w' he e1 => ?_) fun i w' T' hi h' k => ?_
  · rw [Dk.onF_err he] at hK; exact hK w' T ⟨md, dm, ad, h.no e1⟩ (Gon.no e1)
  · rw [Dk.onF_ok hi] at hK; exact hK w' T' ⟨_, _, _, h'⟩ k
theorem Dcut_ (hW : DocW n st) {s : El} (hs : s.length ≤ 9223372036854775806) {k : Int} (hk : I64 k) : DOp d g st 48 #[ptrE g, encE s, .int .i64 k] (st.cut_ s k) := by
  rintro T w K ⟨dv, fv, h⟩ hK
  unfold Dk.cut_ at hK
  refine h.Cut hW hs (fun e w' he e1 => ?_) fun i w' T' fv' hi h' k => ?_
  · rw [Dk.onF_err he] at hK; exact hK w' T ⟨dv, fv, h.no e1⟩ (Gon.no e1)
  · rw [Dk.onF_ok hi] at hK; exact hK w' T' ⟨dv, fv', h'⟩ k
theorem Pflip_ (hW : DocW n st) {s : El} (hs : s.length ≤ 9223372036854775806) {k : Int} (hk : I64 k) : POp d g st 59 #[ptrE g, encE s, .int .i64 k] (st.flip_ s k) := by
  rintro T w K ⟨md, dm, ad, h⟩ hK
  unfold Dk.flip_ at hK
  refine h.Flip hW.wf (by decide) hW.n2 hs (fun e w' he e1 => ?_) fun i w' T' hi h' k => ?_
  · rw [Dk.onF_err he] at hK; exact hK w' T ⟨md, dm, ad, h.no e1⟩ (Gon.no e1)
  · rw [Dk.onF_ok hi] at hK; exact hK w' T' ⟨_, _, _, h'⟩ k
theorem Dflip_ (hW : DocW n st) {s : El} (hs : s.length ≤ 9223372036854775806) {k : Int} (hk : I64 k) : DOp d g st 60 #[ptrE g, encE s, .int .i64 k] (st.flip_ s k) := by
  rintro T w K ⟨dv, fv, h⟩ hK
  unfold Dk.flip_ at hK
  refine h.Flip hW hs hk (fun e w' he e1 => ?_) fun i w' T' fv' hi h' k => ?_
  · rw [Dk.onF_err he] at hK; exact hK w' T ⟨dv, fv, h.no e1⟩ (Gon.no e1)
  · rw [Dk.onF_ok hi] at hK; exact hK w' T' ⟨dv, fv', h'⟩ k
end
structure Pr (T : Tags) (w : World) (dp dd x g h : Nat) (st : Dk) : Prop where
  blk : Blk w x 48 [ptrE g, ptrE h]
  tag : T x = .ice
  dsk : Dsk T dp w g st
  doc : DD T dd w h st
def PD (dp dd : Nat) : Tag → Prop := fun t => Ops dp t ∨ DocT dd t
theorem Ops.other {dp dd : Nat} (hne : dp ≠ dd) (c : Cmp) : ¬ Ops dp (.own dd c) := fun h => by
  rcases h with h | h | ⟨c, h⟩
  · cases h
  · cases h
  · injection h with h _; exact hne h.symm
theorem DocT.other {dp dd : Nat} (hne : dp ≠ dd) (c : Cmp) : ¬ DocT dd (.own dp c) := fun h => by injection h with h _; exact hne h
theorem PD.ice {dp dd : Nat} : ¬ PD dp dd .ice := fun h => h.elim Ops.ice DocT.ice
theorem PD.free {dp dd : Nat} : ¬ PD dp dd .free := fun h => h.elim Ops.free DocT.free
section
variable {T T' : Tags} {w w' : World} {dp dd x g h : Nat} {st : Dk} {K : Value → World → Prop}
theorem Pr.keep {M : Tag → Prop} (p : Pr T w dp dd x g h st) (k : Gon M w T w' T') (hi : ¬ M .ice) (ho : ∀ c, ¬ M (.own dp c)) (hd : ¬ M (.own dd .doc)) : Pr T' w' dp dd x g h st :=
  ⟨p.blk.ext k.ext (by rw [p.tag]; exact hi), (k.same x p.blk.lt).trans p.tag, p.dsk.keep' k hi ho, p.doc.keep k hi hd⟩
theorem Pr.no (p : Pr T w dp dd x g h st) (e : Ext No w w') : Pr T w' dp dd x g h st := p.keep (M := Nil) (Gon.no e) (fun h => h) (fun _ h => h) fun h => h
theorem Pr.both {st1 : Dk} {w1 w2 : World} {T1 T2 : Tags} (p : Pr T w dp dd x g h st) (hne : dp ≠ dd) (h1 : Dsk T1 dp w1 g st1) (k1 : Gon (Ops dp) w T w1 T1) (h2 : DD T2 dd w2 h st1) (k2 : Gon (DocT dd) w1 T1 w2 T2) : Pr T2 w2 dp dd x g h st1 ∧ Gon (PD dp dd) w T w2 T2 := by
  have k : Gon (PD dp dd) w T w2 T2 := (k1.mono fun t h => .inl h).trans (k2.mono fun t h => .inr h)
  exact ⟨⟨p.blk.ext k.ext (by rw [p.tag]; exact PD.ice), (k.same x p.blk.lt).trans p.tag, h1.keep' k2 DocT.ice (fun c => DocT.other hne c), h2⟩, k⟩
theorem pair_call {fp fd : Nat} {aP aD : Array Value} {r : Int × Dk} {S : World → Prop} (hP : POp dp g st fp aP r) (hD : DOp dd h st fd aD r) (hne : dp ≠ dd) (p : Pr T w dp dd x g h st) (hS : ∀ T' w', Gon (Ops dp) w T w' T' → S w')
    (hK : ∀ w' T', Pr T' w' dp dd x g h r.2 → Gon (PD dp dd) w T w' T' → K (.bool true) w') : CallS Tryz.prog fp aP (fun t w => S w ∧ CallS Tryz.prog fd aD (fun t' w => PureS (binV .eql t t') fun t'' => K t'' w) w) w := by
  refine hP T w _ p.dsk fun w1 T1 h1 k1 => ⟨hS T1 w1 k1, hD T1 w1 _ (p.doc.keep k1 Ops.ice (Ops.other hne _)) fun w2 T2 h2 k2 => pur (bin_eql _ _ _) ?_⟩
  obtain ⟨q1, q2⟩ := p.both hne h1 k1 h2 k2
  rw [decide_eq_true rfl]
  exact hK w2 T2 q1 q2
end
end Go.Proofs.YthohdinjpkehpaaGreat

namespace Go.Proofs.YthohdinjpkehpaaGreat
open Go SG Go.RowKit
set_option linter.unusedVariables false
set_option maxRecDepth 4000
set_option linter.unusedSimpArgs false

def acC (a : Ac) (bv kv nv : Value) : List Value := [.int .i64 a.kind, encE a.path, encE a.to, bv, .int .i64 a.n, .int .i64 a.m, kv, nv]
def ArgC (T : Tags) (w : World) (v : Value) (l : Bys) : Prop := SlB w v l ∧ (l = [] ∨ ∀ b, v.ownBlock = some b → b < w.heap.size ∧ T b = .ice)
def ArgCI (T : Tags) (w : World) (v : Value) (l : List Int) : Prop := SlI w v l ∧ (l = [] ∨ ∀ b, v.ownBlock = some b → b < w.heap.size ∧ T b = .ice)
section
variable {M : Tag → Prop} {T T' : Tags} {w w' : World}
theorem ArgC.arg {v : Value} {l : Bys} (h : ArgC T w v l) : Arg T w v l := ⟨h.1, h.2.imp id fun h b hb => ⟨(h b hb).1, .inr (h b hb).2⟩⟩
theorem ArgCI.arg {v : Value} {l : List Int} (h : ArgCI T w v l) : ArgI T w v l := ⟨h.1, h.2.imp id fun h b hb => ⟨(h b hb).1, .inr (h b hb).2⟩⟩
theorem ArgC.keep {v : Value} {l : Bys} (h : ArgC T w v l) (k : Gon M w T w' T') (hi : ¬ M .ice) : ArgC T' w' v l :=
  h.2.elim (fun h0 => by subst h0; exact ⟨sl_empty h.1, .inl rfl⟩) fun h2 => ⟨h.1.ext k.ext fun b hb hh => by simp only [(h2 b hb).2] at hh; exact hi hh, .inr fun b hb => ⟨Nat.lt_of_lt_of_le (h2 b hb).1 k.ext.size, (k.same b (h2 b hb).1).trans (h2 b hb).2⟩⟩
theorem ArgCI.keep {v : Value} {l : List Int} (h : ArgCI T w v l) (k : Gon M w T w' T') (hi : ¬ M .ice) : ArgCI T' w' v l :=
  h.2.elim (fun h0 => by subst h0; exact ⟨sl_empty h.1, .inl rfl⟩) fun h2 => ⟨Sl.ext h.1 k.ext fun b hb hh => by simp only [(h2 b hb).2] at hh; exact hi hh, .inr fun b hb => ⟨Nat.lt_of_lt_of_le (h2 b hb).1 k.ext.size, (k.same b (h2 b hb).1).trans (h2 b hb).2⟩⟩
theorem ArgC.of {v : Value} {l : Bys} (h : SlB w v l) (hT : ∀ b, T b = .ice) : ArgC T w v l := ⟨h, (Classical.em (l = [])).imp id fun hn b hb => ⟨sl_lt h (fun h0 => hn (by cases l; rfl; cases h0)) hb, hT b⟩⟩
theorem ArgCI.of {v : Value} {l : List Int} (h : SlI w v l) (hT : ∀ b, T b = .ice) : ArgCI T w v l := ⟨h, (Classical.em (l = [])).imp id fun hn b hb => ⟨sl_lt h (fun h0 => hn (by cases l; rfl; cases h0)) hb, hT b⟩⟩
end
structure AcR (T : Tags) (w : World) (a : Ac) (bv kv nv : Value) : Prop where
  b : ArgC T w bv a.b
  k : ArgCI T w kv a.keeps
  n : ArgCI T w nv a.names
structure AcOk (a : Ac) : Prop where
  path : a.path.length ≤ 9223372036854775806
  to : a.to.length ≤ 9223372036854775806
  b : a.b.length ≤ 140737488351232
  n : I64 a.n
  m : I64 a.m
  k : (∀ n ∈ a.keeps, I64 n) ∧ a.keeps.length ≤ 17592186044416
  c : (∀ n ∈ a.names, I64 n) ∧ a.names.length ≤ 17592186044416
theorem AcR.keep {M : Tag → Prop} {T T' : Tags} {w w' : World} {a : Ac} {bv kv nv : Value} (h : AcR T w a bv kv nv) (k : Gon M w T w' T') (hi : ¬ M .ice) : AcR T' w' a bv kv nv := ⟨h.b.keep k hi, h.k.keep k hi, h.n.keep k hi⟩
section
variable {d g n : Nat} {st : Dk} {T : Tags} {w : World} {K : Value → World → Prop}
theorem Pwrite (hW : DocW n st) (h : Dsk T d w g st) {s : El} (hs : s.length ≤ 9223372036854775806) {k : Int} (hk : I64 k) {v : Value} {b : Bys} (hb : Arg T w v b) (hbl : b.length ≤ 140737488355328) (hK : ∀ w' T', Dsk T' d w' g (st.write s k b).2 → Gon (Ops d) w T w' T' → K (.int .i64 (st.write s k b).1) w') : CallS Tryz.prog 22 #[ptrE g, encE s, .int .i64 k, v] K w := by
  obtain ⟨md, dm, ad, h⟩ := h
  unfold Dk.write at hK
  refine h.Write hW.wf (by decide) hW.n2 hs hk.1 hk.2 hb hbl (fun e w' he e1 => ?_) fun i w' T' hi h' k => ?_
  · rw [Dk.onF_err he] at hK; exact hK w' T ⟨md, dm, ad, h.no e1⟩ (Gon.no e1)
  · rw [Dk.onF_ok hi] at hK; exact hK w' T' ⟨_, _, _, h'⟩ k
theorem Pappend (hW : DocW n st) (h : Dsk T d w g st) {s : El} (hs : s.length ≤ 9223372036854775806) {v : Value} {b : Bys} (hb : Arg T w v b) (hbl : b.length ≤ 140737488355328) (hK : ∀ w' T', Dsk T' d w' g (st.append_ s b).2 → Gon (Ops d) w T w' T' → K (.int .i64 (st.append_ s b).1) w') : CallS Tryz.prog 11 #[ptrE g, encE s, v] K w := by
  obtain ⟨md, dm, ad, h⟩ := h
  unfold Dk.append_ at hK
  refine h.Append hW.wf (by decide) hW.n2 hs hb hbl (fun e w' he e1 => ?_) fun i w' T' hi h' k => ?_
  · rw [Dk.onF_err he] at hK; exact hK w' T ⟨md, dm, ad, h.no e1⟩ (Gon.no e1)
  · rw [Dk.onF_ok hi] at hK; exact hK w' T' ⟨_, _, _, h'⟩ k
theorem Dwrite (hW : DocW n st) (h : DD T d w g st) {s : El} (hs : s.length ≤ 9223372036854775806) {k : Int} (hk : I64 k) {v : Value} {b : Bys} (hb : Arg T w v b) (hbl : b.length ≤ 140737488355328) (hK : ∀ w' T', DD T' d w' g (st.write s k b).2 → Gon (DocT d) w T w' T' → K (.int .i64 (st.write s k b).1) w') : CallS Tryz.prog 92 #[ptrE g, encE s, .int .i64 k, v] K w := by
  obtain ⟨dv, fv, h⟩ := h
  unfold Dk.write at hK
  refine h.Write hW hs hk hb hbl (fun e w' he e1 => ?_) fun i w' T' fv' hi h' k => ?_
  · rw [Dk.onF_err he] at hK; exact hK w' T ⟨dv, fv, h.no e1⟩ (Gon.no e1)
  · rw [Dk.onF_ok hi] at hK; exact hK w' T' ⟨dv, fv', h'⟩ k
theorem Dappend (hW : DocW n st) (h : DD T d w g st) {s : El} (hs : s.length ≤ 9223372036854775806) {v : Value} {b : Bys} (hb : Arg T w v b) (hbl : b.length ≤ 140737488355328) (hK : ∀ w' T', DD T' d w' g (st.append_ s b).2 → Gon (DocT d) w T w' T' → K (.int .i64 (st.append_ s b).1) w') : CallS Tryz.prog 93 #[ptrE g, encE s, v] K w := by
  obtain ⟨dv, fv, h⟩ := h
  unfold Dk.append_ at hK
  refine h.Append hW hs hb hbl (fun e w' he e1 => ?_) fun i w' T' fv' hi h' k => ?_
  · rw [Dk.onF_err he] at hK; exact hK w' T ⟨dv, fv, h.no e1⟩ (Gon.no e1)
  · rw [Dk.onF_ok hi] at hK; exact hK w' T' ⟨dv, fv', h'⟩ k
end
section
variable {T : Tags} {w : World} {dp dd x g h n : Nat} {st : Dk} {K : Value → World → Prop}
theorem spoilt {T1 T3 : Tags} {w1 w2 w3 w4 : World} {v : Value} {m : Nat} {xs : List Value} (ho : w2.ownsRow w1.heap.size 5 1 v m xs) (e2 : Ext No w1 w2) (k3 : Gon (Ops dp) w2 (ff w1 T1) w3 T3) (e4 : Ext (fun b => v.ownBlock = some b) w3 w4) :
    w3.ownsRow w1.heap.size 5 1 v m xs ∧ Gon (fun t => t = .free) w3 T3 w4 T3 ∧ Gon (Ops dp) w1 T1 w4 T3 := by
  have hT : ∀ b, v.ownBlock = some b → T3 b = .free := fun b hb => (k3.same b (ho.lt b hb).2).trans (ff_ge (ho.lt b hb).1)
  have k0 : Gon (Ops dp) w1 T1 w3 T3 := (Gon.ff (M := Ops dp) e2).trans k3
  exact ⟨owns_ext ho k3.ext fun b hb hh => by rw [ff_ge (ho.lt b hb).1] at hh; exact Ops.free hh, ⟨e4.mono fun b hb _ => hT b hb, fun _ _ => rfl⟩, ⟨k0.ext.fresh e4 fun b hb => .inr (ho.lt b hb).1, k0.same⟩⟩
set_option maxHeartbeats 2000000 in
theorem Pr.writes (p : Pr T w dp dd x g h st) (hne : dp ≠ dd) (hW : DocW n st) {a : Ac} (ha : AcOk a) {bv kv nv : Value} (hr : AcR T w a bv kv nv) (hkd : a.kind = 3 ∨ a.kind = 4)
    (hK : ∀ w' T', Pr T' w' dp dd x g h (if a.kind = 3 then (st.write a.path a.n a.b).2 else (st.append_ a.path a.b).2) → Gon (PD dp dd) w T w' T' → K (.bool true) w') : CallS Tryz.prog 46 #[ptrE x, .agg (acC a bv kv nv).toArray] K w := by
  refine s46_call hm ?_
  unfold s46
  refine box fun w1 b1 e1 z1 => ?_
  have b1' : Blk w1 w.heap.size 45 (acC a bv kv nv) := b1
  have ki : Gon Nil w T w1 (icf w T) := Gon.icf e1
  have p1 := p.keep ki (fun h => h) (fun _ h => h) fun h => h
  have hr1 := hr.keep ki fun h => h
  have ta : icf w T w.heap.size = .ice := icf_ge (Nat.le_refl _)
  generalize hT1 : icf w T = T1 at *
  have hbl := ha.b
  refine pur (field_ptr _ _ _) (loadB b1' (v := bv) rfl (cOwn hr1.b.1 (by omega) fun v w2 ho2 e2 => ?_))
  refine pur (field_ptr _ _ _) (loadB (b1'.no e2) (v := .int .i64 a.kind) rfl (pur (bin_eql _ _ _) ?_))
  have ed := Ext.drew (S := No) w2
  have k2 : Gon Nil w1 T1 w2.drew (ff w1 T1) := Gon.ff (e2.trans ed)
  have p2 := p1.keep k2 (fun h => h) (fun _ h => h) fun h => h
  have ba2 := (b1'.no e2).no ed
  have ho2d := owns_ext ho2 ed fun _ _ hh => hh
  have hav : Arg (ff w1 T1) w2.drew v a.b := Arg.row ho2d
  have up : ∀ {w' : World} {T' : Tags}, Gon (PD dp dd) w1 T1 w' T' → Gon (PD dp dd) w T w' T' := fun k => (ki.mono fun _ h => h.elim).trans k
  -- the document's part
  have fin : ∀ (r : Int × Dk) (w3 : World) (T3 : Tags) (fd : Nat) (aD : Array Value), Dsk T3 dp w3 g r.2 → Gon (Ops dp) w2.drew (ff w1 T1) w3 T3 → (∀ w' T', Pr T' w' dp dd x g h r.2 → Gon (PD dp dd) w T w' T' → K (.bool true) w') →
      ∀ (R : World → Prop), (∀ (w4 : World), Blk w4 x 48 [ptrE g, ptrE h] → Blk w4 w.heap.size 45 (acC a bv kv nv) → DD T3 dd w4 h st → Arg T3 w4 bv a.b → (∀ w5 T5, DD T5 dd w5 h r.2 → Gon (DocT dd) w4 T3 w5 T5 → K (.bool true) w5) → R w4) → CallS Tryz.prog 70 #[v] (fun _ w => R w) w3 := fun r w3 T3 fd aD h3 k3 hK3 R hR => by
    have ho3 := (spoilt ho2d (e2.trans ed) k3 (Ext.refl _ _)).1
    have hsz := Nat.le_trans (e2.trans ed).size k3.ext.size
    refine cSpoil ho3 hsz (by omega) fun w4 e4 => ?_
    obtain ⟨_, kf, k4⟩ := spoilt ho2d (e2.trans ed) k3 e4
    have h4 := h3.keep' kf (fun h => by cases h) fun c h => by cases h
    refine hR w4 (p1.blk.ext k4.ext (by rw [p1.tag]; exact Ops.ice)) (b1'.ext k4.ext (by rw [ta]; exact Ops.ice)) (p1.doc.keep k4 Ops.ice (Ops.other hne _)) (hr1.b.keep k4 Ops.ice).arg fun w5 T5 h5 k5 => ?_
    obtain ⟨q1, q2⟩ := p1.both hne h4 k4 h5 k5
    exact hK3 w5 T5 q1 (up q2)
  refine condD (fun h3 => ?_) (fun h3 => ?_)
  · rw [if_pos h3] at hK
    refine draw (fun w' => w' = w2.drew) rfl (pur (nil_ptr _) (pur (field_ptr _ _ _) (pur (field_ptr _ _ _) (pur (field_ptr _ _ _) ?_))))
    refine heldC (v := ptrE g) (fun w' hh => by rw [hh]; exact p2.blk.cell 0) (heldC (v := encE a.path) (fun w' hh => by rw [hh]; exact ba2.cell 1) (heldC (v := .int .i64 a.n) (fun w' hh => by rw [hh]; exact ba2.cell 4) ?_))
    refine Pwrite hW p2.dsk ha.path ha.n hav (by omega) fun w3 T3 h3 k3 => ?_
    refine fin (st.write a.path a.n a.b) w3 T3 0 #[] h3 k3 hK _ fun w4 bx ba hd hba hK4 => ?_
    have ed4 := Ext.drew (S := No) w4
    have bx4 := bx.no ed4
    have ba4 := ba.no ed4
    refine draw (fun w' => w' = w4.drew) rfl (pur (nil_ptr _) (pur (field_ptr _ _ _) (pur (field_ptr _ _ _) (pur (field_ptr _ _ _) (pur (field_ptr _ _ _) ?_)))))
    refine heldC (v := ptrE h) (fun w' hh => by rw [hh]; exact bx4.cell 1) (heldC (v := encE a.path) (fun w' hh => by rw [hh]; exact ba4.cell 1) (heldC (v := .int .i64 a.n) (fun w' hh => by rw [hh]; exact ba4.cell 4) (heldC (v := bv) (fun w' hh => by rw [hh]; exact ba4.cell 3) ?_)))
    refine Dwrite hW (hd.keep (M := Nil) (Gon.no ed4) (fun h => h) fun h => h) ha.path ha.n (hba.keep (M := Nil) (Gon.no ed4) (fun h => h) fun h => h) (by omega) fun w5 T5 h5 k5 => pur (bin_eql _ _ _) ?_
    rw [decide_eq_true rfl]
    exact hK4 w5 T5 h5 ((Gon.no ed4).trans k5)
  · have hk3 : ¬ a.kind = 3 := h3
    rw [if_neg hk3] at hK
    refine draw (fun w' => w' = w2.drew) rfl (pur (nil_ptr _) (pur (field_ptr _ _ _) (pur (field_ptr _ _ _) ?_)))
    refine heldC (v := ptrE g) (fun w' hh => by rw [hh]; exact p2.blk.cell 0) (heldC (v := encE a.path) (fun w' hh => by rw [hh]; exact ba2.cell 1) ?_)
    refine Pappend hW p2.dsk ha.path hav (by omega) fun w3 T3 h3 k3 => ?_
    refine fin (st.append_ a.path a.b) w3 T3 0 #[] h3 k3 hK _ fun w4 bx ba hd hba hK4 => ?_
    have ed4 := Ext.drew (S := No) w4
    have bx4 := bx.no ed4
    have ba4 := ba.no ed4
    refine draw (fun w' => w' = w4.drew) rfl (pur (nil_ptr _) (pur (field_ptr _ _ _) (pur (field_ptr _ _ _) (pur (field_ptr _ _ _) ?_))))
    refine heldC (v := ptrE h) (fun w' hh => by rw [hh]; exact bx4.cell 1) (heldC (v := encE a.path) (fun w' hh => by rw [hh]; exact ba4.cell 1) (heldC (v := bv) (fun w' hh => by rw [hh]; exact ba4.cell 3) ?_))
    refine Dappend hW (hd.keep (M := Nil) (Gon.no ed4) (fun h => h) fun h => h) ha.path (hba.keep (M := Nil) (Gon.no ed4) (fun h => h) fun h => h) (by omega) fun w5 T5 h5 k5 => pur (bin_eql _ _ _) ?_
    rw [decide_eq_true rfl]
    exact hK4 w5 T5 h5 ((Gon.no ed4).trans k5)
end
end Go.Proofs.YthohdinjpkehpaaGreat

