/- Proved here: Rows.SnapsCountedUptoSaid: for every input of small bulk the law SnapsCounted answers true and leaves its arguments as they were. -/
import Derived.Test.YtkladgpaicolnaaMD5
import Derived.Test.YtkladgpaicolnaaRows
/-! Snaps: files that are needed, by the program. -/
namespace Go.Proofs.Ytkladgpaicolnaa
open Go SG Go.RowKit Go.Lib
set_option linter.unusedVariables false
set_option maxRecDepth 4000
set_option linter.unusedSimpArgs false

abbrev Fl := Value × List Nat
def encF (q : Fl) : Value := q.1
/-- the files' slices lie here -/
def Fls (w : World) (F : Nat → Prop) (ps : List (Fl × Bool)) : Prop := ∀ p ∈ ps, Sl w p.1.1 p.1.2.length 1 (p.1.2.map encE) ∧ ∀ b, p.1.1.ownBlock = some b → F b
def absF (ps : List (Fl × Bool)) : List (List Nat × Bool) := ps.map fun p => (p.1.2, p.2)
/-- files that are needed lie at g -/
def RefsF (w : World) (g : Nat) (hs : List (List Nat × Bool)) (F : Nat → Prop) : Prop :=
  ∃ (bb bt : Nat) (ps : List (Fl × Bool)) (mt : List (Nat × Int)) (G : Nat → Prop), Blk w g 63 [.map (some bb), .map (some bt), .int .i64 (hs.length : Int)] ∧ absF ps = hs ∧ MapR w bb encH encF (mOfB 0 ps) ∧ MapR w bt encE encH mt ∧ (∀ f, mget mt f = tmO hs f) ∧
    Fls w G ps ∧ bb ≠ bt ∧ (∀ b, G b → b < w.heap.size ∧ b ≠ g ∧ b ≠ bb ∧ b ≠ bt) ∧ ∀ b, F b ↔ b = g ∨ b = bb ∨ b = bt ∨ G b
namespace RefsF
variable {w w' : World} {g : Nat} {hs : List (List Nat × Bool)} {F S : Nat → Prop} {K : Value → World → Prop}
theorem ne {κ ν : Type} {w : World} {g b : Nat} {t : TypeId} {cs : List Value} {f : κ → Value} {gg : ν → Value} {m : List (κ × ν)} (h1 : Blk w g t cs) (h2 : MapR w b f gg m) : g ≠ b := fun he => by
  obtain ⟨es, clock, hb, _⟩ := h2
  subst he
  unfold Blk at h1
  rw [h1] at hb; cases hb
theorem lt (h : RefsF w g hs F) {b : Nat} (hb : F b) : b < w.heap.size := by
  obtain ⟨bb, bt, ps, mt, G, h1, h2, h3, h4, h5, h6, h7, h8, h9⟩ := h
  rcases (h9 b).1 hb with rfl | rfl | rfl | hb
  · exact h1.lt
  · exact h3.lt
  · exact h4.lt
  · exact (h8 b hb).1
theorem ext (h : RefsF w g hs F) (e : Ext S w w') (hn : ∀ b, F b → ¬ S b) : RefsF w' g hs F := by
  obtain ⟨bb, bt, ps, mt, G, h1, h2, h3, h4, h5, h6, h7, h8, h9⟩ := h
  exact ⟨bb, bt, ps, mt, G, h1.ext e (hn g ((h9 _).2 (.inl rfl))), h2, h3.ext e (hn bb ((h9 _).2 (.inr (.inl rfl)))), h4.ext e (hn bt ((h9 _).2 (.inr (.inr (.inl rfl))))), h5,
    fun p hp => ⟨(h6 p hp).1.ext e fun b hb => hn b ((h9 _).2 (.inr (.inr (.inr ((h6 p hp).2 b hb))))), (h6 p hp).2⟩, h7, fun b hb => ⟨Nat.lt_of_lt_of_le (h8 b hb).1 e.size, (h8 b hb).2⟩, h9⟩
theorem no (h : RefsF w g hs F) (e : Ext No w w') : RefsF w' g hs F := h.ext e fun _ _ hh => hh
theorem build63 (w : World) (a b : Nat) : (Instr.build 63 [(0, .map (some a)), (1, .map (some b))].toArray).run Try.prog w = .ok (.agg #[.map (some a), .map (some b), .int .i64 0]) w := by kernel_rfl
/-- NewRefs -/
theorem new (hK : ∀ g w' F, RefsF w' g [] F → Ext No w w' → (∀ b, F b → w.heap.size ≤ b) → K (.pointer (some ⟨g, 0, none⟩)) w') : CallS Try.prog 7 #[] K w := by
  refine s7_call hm ?_
  unfold s7
  refine MapR.make (κ := Int) (ν := Fl) encH encF fun w1 h1 e1 z1 => MapR.make (κ := Nat) (ν := Int) encE encH fun w2 h2 e2 z2 => runS (build63 w2 _ _) (box fun w3 b3 e3 z3 => ?_)
  exact hK w2.heap.size w3 (fun b => b = w2.heap.size ∨ b = w.heap.size ∨ b = w1.heap.size ∨ False) ⟨w.heap.size, w1.heap.size, [], [], fun _ => False, b3, rfl, (h1.no e2).no e3, h2.no e3, fun f => by simp [mget, tmO, tm], fun p hp => (by cases hp), by omega, fun b hb => hb.elim, fun b => Iff.rfl⟩
    (e1.trans (e2.trans e3)) fun b hb => by rcases hb with rfl | rfl | rfl | hb <;> first | omega | exact hb.elim
/-- Times -/
theorem times (h : RefsF w g hs F) (f : Nat) (hK : K (.int .i64 (tm hs f : Int)) w) : CallS Try.prog 15 #[.pointer (some ⟨g, 0, none⟩), encE f] K w := by
  obtain ⟨bb, bt, ps, mt, G, h1, h2, h3, h4, h5, h6, h7, h8, h9⟩ := h
  refine s15_call hm ?_
  unfold s15
  refine pur (nil_ptr _) (pur (field_ptr _ _ _) (loadB h1 (v := .map (some bt)) rfl (h4.lookup MT61 f ?_)))
  rw [h5 f]
  unfold tmO
  split
  · rename_i hz; rw [hz] at hK; exact hK
  · exact hK
/-- Needed -/
theorem needed (h : RefsF w g hs F) (hn : ∀ mt : List (Nat × Int), Keys mt → (∀ f, mget mt f = tmO hs f) → mt.length ≤ 1099511627776) (hK : ∀ v w' fs, Rise fs (fun f => 0 < tm hs f) → w'.ownsRow w.heap.size 30 1 v fs.length (fs.map encE) → Ext No w w' → K v w') : CallS Try.prog 13 #[.pointer (some ⟨g, 0, none⟩)] K w := by
  obtain ⟨bb, bt, ps, mt, G, h1, h2, h3, h4, h5, h6, h7, h8, h9⟩ := h
  refine s13_call hm ?_
  unfold s13
  refine pur (nil_ptr _) (pur (field_ptr _ _ _) (loadB h1 (v := .map (some bt)) rfl (c36 rfl fun w1 b1 e1 => ?_)))
  have b1' : Blk w1 w.heap.size 61 [.map (some bt)] := b1
  refine cSortedSeq (α := Nat × Int) (fun p => p.1) (by kernel_rfl) (fun w' e' => keys_stops (b1'.no e') ((h4.no e1).no e')) (hn mt h4.keys h5) (fun xs hx => Nat.le_of_eq hx.length_eq) fun v w2 xs ys hx hp ha ho e2 => ?_
  have hnd : ys.Nodup := hp.nodup_iff.2 ((hx.map (fun p : Nat × Int => p.1)).nodup_iff.2 h4.keys)
  refine hK v w2 ys ⟨?_, fun f => ?_⟩ (owns_base ho fun b hb => by have := (ho.lt b hb).1; have := e1.size; omega) (e1.trans e2)
  · refine List.Pairwise.imp₂ (fun u v h1 h2 => ?_) ha hnd
    have := (ltE_not _ _).1 h1
    exact Nat.lt_of_le_of_ne this h2
  · rw [hp.mem_iff, (hx.map (fun p : Nat × Int => p.1)).mem_iff, ← mget_isSome, h5 f]
    unfold tmO
    split
    · rename_i hz; simp [hz]
    · rename_i hz; simp; omega
end RefsF
end Go.Proofs.Ytkladgpaicolnaa
/-! Snaps: files are added and dropped, by the program. -/
namespace Go.Proofs.Ytkladgpaicolnaa
open Go SG Go.RowKit Go.Lib
set_option linter.unusedVariables false
set_option maxRecDepth 4000
set_option linter.unusedSimpArgs false

def nO (n : Nat) : Option Int := if n = 0 then none else some (n : Int)
theorem nO_get (n : Nat) : ((nO n).map encH).getD (.int .i64 0) = .int .i64 (n : Int) := by
  unfold nO
  split
  · rename_i h; rw [h]; rfl
  · rfl
/-- Clone -/
theorem c32 {w : World} {v : Value} {xs : List El} (hv : Sl w v xs.length 1 (xs.map encE)) (hl : xs.length ≤ 1099511627776) {K : Value → World → Prop}
    (hK : ∀ v' w', w'.ownsRow w.heap.size 30 1 v' xs.length (xs.map encE) → Ext No w w' → K v' w') : CallS Try.prog 32 #[v] K w := by
  refine s32_call hm ?_
  unfold s32
  obtain ⟨A, c, rfl, hlen, hc, h0, hA⟩ := hv
  refine eq_nil_slice Try.underlying31 (condB (fun hn => ?_) (fun hn => ?_))
  · cases A with
    | some a => cases hn
    | none =>
      have hz : xs.length = 0 := h0 rfl
      obtain rfl := List.length_eq_zero_iff.1 hz
      exact hK _ w (World.ownsRow_nil _ _ _ _) (Ext.refl _ _)
  · refine build0 TCE fun w1 b1 e1 z1 => ?_
    have hs : Sl w (.slice A xs.length c) xs.length 1 (xs.map encE) := ⟨A, c, rfl, hlen, hc, h0, hA⟩
    refine append_sl TCE 31 (base := w.heap.size) (b1.owns rfl (Nat.le_refl _) (by omega)) (hs.no e1) (encs_one xs) (by omega) (by omega) e1.size fun v2 w2 ho2 hg2 _ => ?_
    have e2 : Ext No w w2 := e1.fresh (Ext.grown (S := At1 w.heap.size) hg2 fun b hb => by simpa [Value.ownBlock, At1, eq_comm] using hb) fun b hb => .inr (by rw [show b = w.heap.size from hb]; exact Nat.le_refl _)
    exact hK v2 w2 (by simpa using ho2) e2
theorem absF_len {ps : List (Fl × Bool)} {hs : List (List Nat × Bool)} (h : absF ps = hs) : ps.length = hs.length := by rw [← h]; simp [absF]
theorem mOfB_last {β : Type} (xs : List (β × Bool)) : (xs.length : Int) + 1 ∉ (mOfB 0 xs).map (·.1) := fun h => by
  obtain ⟨p, hp, hpe⟩ := List.mem_map.1 h
  have h1 := (mOfB_key hp).2
  have h2 : p.1 = (xs.length : Int) + 1 := hpe
  simp at h1; omega
namespace RefsF
variable {w w' : World} {g : Nat} {hs : List (List Nat × Bool)} {F S : Nat → Prop} {K : Value → World → Prop}
set_option maxHeartbeats 1000000 in
/-- Add -/
theorem add (h : RefsF w g hs F) {v : Value} {fs : List Nat} (hv : Sl w v fs.length 1 (fs.map encE)) (hvF : ∀ b, v.ownBlock = some b → ¬ F b) (hl : hs.length ≤ 4398046511104) (hlt : tot hs + fs.length ≤ 1099511627776)
    (hK : ∀ w' F', RefsF w' g (hs ++ [(fs, true)]) F' → Stp w F w' F' → K (.int .i64 ((hs.length + 1 : Nat) : Int)) w') : CallS Try.prog 8 #[.pointer (some ⟨g, 0, none⟩), v] K w := by
  obtain ⟨bb, bt, ps, mt, G, h1, h2, h3, h4, h5, h6, h7, h8, h9⟩ := h
  have hgb := ne h1 h3
  have hgt := ne h1 h4
  have hFg : F g := (h9 _).2 (.inl rfl)
  have hFb : F bb := (h9 _).2 (.inr (.inl rfl))
  have hFt : F bt := (h9 _).2 (.inr (.inr (.inl rfl)))
  have hpl := absF_len h2
  refine s8_call hm ?_
  unfold s8
  refine pur (nil_ptr _) (pur (field_ptr _ _ _) (loadB h1 (v := .int .i64 (hs.length : Int)) rfl (pur (add64 (c := ((hs.length + 1 : Nat) : Int)) (by omega) (by omega) (by omega)) (pur (nil_ptr _) (pur (field_ptr _ _ _) (storeB h1 (by simp) rfl fun w1 b1 e1 z1 => ?_))))))
  have b1' : Blk w1 g 63 [.map (some bb), .map (some bt), .int .i64 ((hs.length + 1 : Nat) : Int)] := b1
  have eF1 : Ext F w w1 := e1.mono fun b hb _ => by rw [show b = g from hb]; exact hFg
  have e1d : Ext F w w1.drew := eF1.trans (Ext.drew w1)
  have h3d : MapR w1.drew bb encH encF (mOfB 0 ps) := (h3.ext e1 (Ne.symm hgb)).no (Ext.drew w1)
  have h4d : MapR w1.drew bt encE encH mt := (h4.ext e1 (Ne.symm hgt)).no (Ext.drew w1)
  have hvd : Sl w1.drew v fs.length 1 (fs.map encE) := (hv.ext eF1 hvF).no (Ext.drew w1)
  have hGd : ∀ b, G b → ¬ At1 g b := fun b hb hh => (h8 b hb).2.1 hh
  have h6d : Fls w1.drew G ps := fun p hp => ⟨((h6 p hp).1.ext e1 fun b hb => hGd b ((h6 p hp).2 b hb)).no (Ext.drew w1), (h6 p hp).2⟩
  have hz1 : w1.drew.heap.size = w.heap.size := z1
  refine draw (fun w' => Blk w' g 63 [.map (some bb), .map (some bt), .int .i64 ((hs.length + 1 : Nat) : Int)]) (b1'.no (Ext.drew w1)) ?_
  refine pur (nil_ptr _) (pur (field_ptr _ _ _) (pur (nil_ptr _) (pur (field_ptr _ _ _) ?_)))
  refine heldC (v := .map (some bb)) (fun w' hh => hh.cell 0) (heldC (v := .int .i64 ((hs.length + 1 : Nat) : Int)) (fun w' hh => hh.cell 2) ?_)
  refine c32 hvd (by omega) fun v2 w2 ho2 e2 => ⟨(b1'.no (Ext.drew w1)).no e2, ?_⟩
  refine (h3d.no e2).update MT59 ((hs.length + 1 : Nat) : Int) (v2, fs) fun w3 hm3 e3 z3 => ?_
  have hk : ((hs.length + 1 : Nat) : Int) ∉ (mOfB 0 ps).map (·.1) := by have := mOfB_last ps; rw [hpl] at this; simpa using this
  rw [mput_keys_out hk] at hm3
  have hv2n : ∀ b, v2.ownBlock = some b → w.heap.size ≤ b ∧ b < w2.heap.size := fun b hb => by rw [← hz1]; exact ho2.lt b hb
  have hbl := h3.lt
  have htl := h4.lt
  have hgl := h1.lt
  have h23 : Ext F w w3 := e1d.trans (e2.no.trans (e3.mono fun b hb _ => by rw [show b = bb from hb]; exact hFb))
  have b3 : Blk w3 g 63 [.map (some bb), .map (some bt), .int .i64 ((hs.length + 1 : Nat) : Int)] := ((b1'.no (Ext.drew w1)).no e2).ext e3 hgb
  have h43 : MapR w3 bt encE encH mt := (h4d.no e2).ext e3 (Ne.symm h7)
  have hv3 : Sl w3 v fs.length 1 (fs.map encE) := (hvd.no e2).ext e3 fun b hb hh => hvF b hb (by rw [show b = bb from hh]; exact hFb)
  let G' : Nat → Prop := fun b => G b ∨ v2.ownBlock = some b
  have hG' : ∀ b, G' b → b < w3.heap.size ∧ b ≠ g ∧ b ≠ bb ∧ b ≠ bt := fun b hb => by
    have hs3 := h23.size
    rcases hb with hb | hb
    · have := h8 b hb; exact ⟨by omega, this.2⟩
    · have := hv2n b hb; exact ⟨by omega, by omega, by omega, by omega⟩
  have h63 : Fls w3 G' (ps ++ [((v2, fs), true)]) := fun p hp => by
    rcases List.mem_append.1 hp with hp | hp
    · exact ⟨((h6d p hp).1.no e2).ext e3 fun b hb => (h8 b ((h6 p hp).2 b hb)).2.2.1, fun b hb => .inl ((h6 p hp).2 b hb)⟩
    · simp only [List.mem_singleton] at hp
      subst hp
      exact ⟨(Sl.own ho2).ext e3 fun b hb hh => by have := hv2n b hb; rw [show b = bb from hh] at this; omega, fun b hb => .inr hb⟩
  refine join0 (fun w' => ∃ mt', MapR w' bt encE encH mt' ∧ (∀ f, mget mt' f = nO (tm hs f + fs.count f)) ∧ Ext (At1 bt) w3 w') ?_ fun J1 hJ1 => ?_
  · rintro w4 ⟨mt', hm4, hg4, e4⟩
    have b4 := b3.ext e4 hgt
    refine pur (nil_ptr _) (pur (field_ptr _ _ _) (loadB b4 (v := .int .i64 ((hs.length + 1 : Nat) : Int)) rfl ?_))
    refine hK w4 (fun b => b = g ∨ b = bb ∨ b = bt ∨ G' b) ⟨bb, bt, ps ++ [((v2, fs), true)], mt', G', ?_, by simp [absF, ← h2], ?_, hm4, fun f => ?_, fun p hp => ⟨(h63 p hp).1.ext e4 fun b hb => (hG' b ((h63 p hp).2 b hb)).2.2.2, (h63 p hp).2⟩, h7, fun b hb => ⟨Nat.lt_of_lt_of_le (hG' b hb).1 e4.size, (hG' b hb).2⟩, fun b => Iff.rfl⟩ ⟨h23.trans (e4.mono fun b hb _ => by rw [show b = bt from hb]; exact hFt), fun b hb => ?_⟩
    · simpa using b4
    · rw [mOfB_append]
      have := hm3.ext e4 (h7)
      simpa [mOfB, hpl] using this
    · rw [hg4, tmO, tm_append, tm_one, nO]
    · rcases hb with rfl | rfl | rfl | hb | hb
      · exact .inl hFg
      · exact .inl hFb
      · exact .inl hFt
      · exact .inl ((h9 _).2 (.inr (.inr (.inr hb))))
      · exact .inr (hv2n b hb).1
  · refine pur hv3.len ?_
    refine loop1 (σ := Nat) (fun i a w' => a = .int .i64 (i : Int) ∧ i ≤ fs.length ∧ ∃ mt', MapR w' bt encE encH mt' ∧ (∀ f, mget mt' f = nO (tm hs f + (fs.take i).count f)) ∧ Ext (At1 bt) w3 w') (fun i => fs.length - i) 0
      ⟨rfl, Nat.zero_le _, mt, h43, fun f => by rw [h5 f, List.take_zero]; rfl, Ext.refl _ _⟩ ?_
    rintro i _ w4 ⟨rfl, hi, mt', hm4, hg4, e4⟩ L2 hL2
    refine pur (bin_lss _ _ _) (condD (fun hlt => ?_) (fun hge => hJ1 _ ⟨mt', hm4, fun f => by rw [hg4, List.take_of_length_le (by omega)], e4⟩))
    obtain ⟨y, hy⟩ := getN (xs := fs) (i := i) (by omega)
    have hv4 := hv3.ext e4 fun b hb hh => hvF b hb (by rw [show b = bt from hh]; exact hFt)
    obtain ⟨ad, q1, q2, q3⟩ := sl_idx1 hv4 (i := i) (v := encE y) (by simp [hy]) .i64
    have b4 := b3.ext e4 hgt
    refine pur q1 (SG.load (S := No) (q3 _ hv4) (pur (nil_ptr _) (pur (field_ptr _ _ _) (loadB b4 (v := .map (some bt)) rfl (hm4.lookup MT61 y ?_)))))
    rw [hg4 y, nO_get]
    have hc := tm_le hs y
    have hc2 : (fs.take i).count y ≤ i := Nat.le_trans List.count_le_length (by simp; omega)
    refine pur (add64 (c := ((tm hs y + (fs.take i).count y + 1 : Nat) : Int)) (by omega) (by omega) (by omega)) ?_
    refine hm4.update MT61 y ((tm hs y + (fs.take i).count y + 1 : Nat) : Int) fun w5 hm5 e5 z5 => ?_
    refine pur (add64 (c := ((i + 1 : Nat) : Int)) (by omega) (by omega) (by omega)) (hL2 (i + 1) _ _ ⟨rfl, by omega, _, hm5, fun f => ?_, e4.trans e5⟩ (by omega))
    rw [mget_put, count_take_succ hy]
    by_cases hf : f = y
    · subst hf
      rw [if_pos rfl, if_pos rfl, nO, if_neg (by omega)]; rfl
    · rw [if_neg hf, if_neg (fun hh => hf hh.symm), hg4]; rfl
end RefsF
end Go.Proofs.Ytkladgpaicolnaa
/-! Snaps: files are let go, by the program. -/
namespace Go.Proofs.Ytkladgpaicolnaa
open Go SG Go.RowKit Go.Lib
set_option linter.unusedVariables false
set_option maxRecDepth 4000
set_option linter.unusedSimpArgs false

/-- handle h's place, where somebody holds it -/
def hget (hs : List (List Nat × Bool)) (h : Int) : Option Nat := if 1 ≤ h ∧ h ≤ (hs.length : Int) then (match hs[(h - 1).toNat]? with | some (fs, true) => some (h - 1).toNat | _ => none) else none
theorem hget_some {hs : List (List Nat × Bool)} {h : Int} {i : Nat} (hh : hget hs h = some i) : h = ((i + 1 : Nat) : Int) ∧ ∃ fs, hs[i]? = some (fs, true) := by
  unfold hget at hh
  split at hh
  · split at hh
    · rename_i fs he
      cases hh
      exact ⟨by omega, fs, he⟩
    · cases hh
  · cases hh
theorem hget_at {hs : List (List Nat × Bool)} {i : Nat} {fs : List Nat} (h : hs[i]? = some (fs, true)) : hget hs ((i + 1 : Nat) : Int) = some i := by
  have := (List.getElem?_eq_some_iff.1 h).1
  unfold hget
  have e : (((i + 1 : Nat) : Int) - 1).toNat = i := by omega
  rw [if_pos (by omega), e, h]
theorem absF_at {ps : List (Fl × Bool)} {hs : List (List Nat × Bool)} (h : absF ps = hs) {i : Nat} : hs[i]? = (ps[i]?).map fun p => (p.1.2, p.2) := by rw [← h]; simp [absF]
/-- what the program's list tells of a handle -/
theorem mget_h {ps : List (Fl × Bool)} {hs : List (List Nat × Bool)} (h : absF ps = hs) (x : Int) : (hget hs x = none ∧ mget (mOfB 0 ps) x = none) ∨ ∃ i v fs, hget hs x = some i ∧ x = ((i + 1 : Nat) : Int) ∧ ps[i]? = some ((v, fs), true) ∧ hs[i]? = some (fs, true) ∧ mget (mOfB 0 ps) x = some (v, fs) := by
  have hl := absF_len h
  by_cases hx : 1 ≤ x ∧ x ≤ (hs.length : Int)
  · obtain ⟨i, rfl⟩ : ∃ i : Nat, x = ((i + 1 : Nat) : Int) := ⟨(x - 1).toNat, by omega⟩
    obtain ⟨⟨⟨v, fs⟩, c⟩, hp⟩ := getN (xs := ps) (i := i) (by omega)
    have hg := mOfB_get 0 ps i
    rw [show ((0 + 1 + i : Nat) : Int) = ((i + 1 : Nat) : Int) by omega, hp] at hg
    have hh : hs[i]? = some (fs, c) := by rw [absF_at h, hp]; rfl
    cases c with
    | true => exact .inr ⟨i, v, fs, hget_at hh, rfl, hp, hh, by simpa using hg⟩
    | false =>
      refine .inl ⟨?_, by simpa using hg⟩
      unfold hget
      have e : (((i + 1 : Nat) : Int) - 1).toNat = i := by omega
      rw [if_pos hx, e, hh]
  · refine .inl ⟨by unfold hget; rw [if_neg hx], mOfB_out ?_⟩
    omega
/-- files that go with the last that needed them -/
def Gone (hs : List (List Nat × Bool)) (fs : List Nat) (f : Nat) : Prop := f ∈ fs ∧ tm hs f = fs.count f
theorem asc_nodup_rise {ys : List El} {P : Nat → Prop} (ha : Asc ltE ys) (hnd : ys.Nodup) (hm : ∀ f, f ∈ ys ↔ P f) : Rise ys P :=
  ⟨List.Pairwise.imp₂ (fun u v h1 h2 => Nat.lt_of_le_of_ne ((ltE_not _ _).1 h1) h2) ha hnd, hm⟩
namespace RefsF
variable {w w' : World} {g : Nat} {hs : List (List Nat × Bool)} {F S : Nat → Prop} {K : Value → World → Prop}
set_option maxHeartbeats 1000000 in
/-- Drop -/
theorem drop (h : RefsF w g hs F) (x : Int) (hlt : tot hs ≤ 1099511627776) (h0 : hget hs x = none → K (.tuple [.slice none 0 0, .int .i64 220].toArray) w)
    (hK : ∀ i fs v w' gone, hget hs x = some i → hs[i]? = some (fs, true) → Rise gone (Gone hs fs) → w'.ownsRow w.heap.size 30 1 v gone.length (gone.map encE) → RefsF w' g (hs.set i (fs, false)) F → Ext F w w' → K (.tuple [v, .int .i64 0].toArray) w') : CallS Try.prog 10 #[.pointer (some ⟨g, 0, none⟩), encH x] K w := by
  obtain ⟨bb, bt, ps, mt, G, h1, h2, h3, h4, h5, h6, h7, h8, h9⟩ := h
  have hgb := ne h1 h3
  have hgt := ne h1 h4
  have hFb : F bb := (h9 _).2 (.inr (.inl rfl))
  have hFt : F bt := (h9 _).2 (.inr (.inr (.inl rfl)))
  have htl := h4.lt
  refine s10_call hm ?_
  unfold s10
  refine pur (nil_ptr _) (pur (field_ptr _ _ _) (loadB h1 (v := .map (some bb)) rfl (h3.lookup2 MT59 x ?_)))
  rcases mget_h h2 x with ⟨hn, hg⟩ | ⟨i0, v, fs, hi0, rfl, hp, hh, hg⟩
  · rw [hg]
    exact pur (extract_0 _ _) (pur (extract_1 _ _ _) (pur (not_b _) (condT rfl (h0 hn))))
  rw [hg]
  refine pur (extract_0 _ _) (pur (extract_1 _ _ _) (pur (not_b _) (condF rfl ?_)))
  refine pur (nil_ptr _) (pur (field_ptr _ _ _) (loadB h1 (v := .map (some bb)) rfl (h3.delete MT59 ((i0 + 1 : Nat) : Int) fun w1 hm1 e1 z1 => ?_)))
  obtain ⟨hv, hvG⟩ := h6 _ (List.mem_of_getElem? hp)
  simp only at hv hvG
  have b1 := h1.ext e1 hgb
  have h41 := h4.ext e1 (Ne.symm h7)
  have hG1 : ∀ b, G b → ¬ At1 bb b := fun b hb hh => (h8 b hb).2.2.1 hh
  have h61 : Fls w1 G ps := fun p hp => ⟨(h6 p hp).1.ext e1 fun b hb => hG1 b ((h6 p hp).2 b hb), (h6 p hp).2⟩
  have hv1 := hv.ext e1 fun b hb => hG1 b (hvG b hb)
  have hfl : fs.length ≤ tot hs := by
    clear hlt hK h0 hi0 h2 h5
    have key : ∀ (hs : List (List Nat × Bool)) (p : List Nat × Bool), p ∈ hs → p.1.length ≤ tot hs := fun hs => by
      induction hs with
      | nil => intro p hp; cases hp
      | cons q hs ih =>
        intro p hp
        have h2 : tot (q :: hs) = q.1.length + tot hs := by simp [tot]
        rcases List.mem_cons.1 hp with rfl | hp
        · omega
        · have := ih p hp; omega
    exact key hs (fs, true) (List.mem_of_getElem? hh)
  let S2 : Nat → Prop := fun b => b = bt ∨ w.heap.size ≤ b
  have hS2g : ∀ {b}, S2 b → b < w.heap.size → b = bt := fun hb hl => hb.elim id fun h => by omega
  have hgl := h1.lt
  have hbl := h3.lt
  refine join1 (fun gv w' => ∃ (gone : List Nat) (mt' : List (Nat × Int)), w'.ownsRow w.heap.size 30 1 gv gone.length (gone.map encE) ∧ gone.Nodup ∧ (∀ f, f ∈ gone ↔ Gone hs fs f) ∧ gone.length ≤ fs.length ∧ MapR w' bt encE encH mt' ∧ (∀ f, mget mt' f = nO (tm hs f - fs.count f)) ∧ Ext S2 w1 w') ?_ fun J0 hJ0 => ?_
  · rintro gv w2 ⟨gone, mt', ho, hnd, hgm, hgl', hm2, hg2, e2⟩
    refine cSorted ho (by omega) fun w3 ys ho3 hp3 ha3 e3 => ?_
    have hyl : ys.length = gone.length := hp3.length_eq
    have e23 : Ext S2 w1 w3 := e2.trans (e3.mono fun b hb _ => .inr (ho.lt b hb).1)
    have e03 : Ext F w w3 := (e1.mono fun b hb _ => by rw [show b = bb from hb]; exact hFb).trans' e23 (fun b hb _ => hb) fun b hb hl => by rw [hS2g hb hl]; exact hFt
    have hm3 : MapR w3 bt encE encH mt' := hm2.ext e3 fun hh => by have := (ho.lt _ hh).1; omega
    refine hK i0 fs gv w3 ys hi0 hh (asc_nodup_rise ha3 (hp3.nodup_iff.2 hnd) fun f => (hp3.mem_iff).trans (hgm f)) (by rw [hyl]; exact ho3) ?_ e03
    refine ⟨bb, bt, ps.set i0 ((v, fs), false), mt', G, ?_, ?_, ?_, hm3, fun f => ?_, fun p hp => ?_, h7, fun b hb => ⟨Nat.lt_of_lt_of_le (h8 b hb).1 e03.size, (h8 b hb).2⟩, h9⟩
    · have := b1.ext e23 fun hh => hgt (hS2g hh hgl)
      simpa using this
    · rw [← h2]; simp [absF]
    · have := mOfB_free 0 ps i0 (v, fs) hp
      rw [this, show ((0 + 1 + i0 : Nat) : Int) = ((i0 + 1 : Nat) : Int) by omega]
      exact hm1.ext e23 fun hh => h7 (hS2g hh hbl)
    · rw [hg2]
      have := tm_set hh f
      unfold tmO nO
      rw [show tm hs f - fs.count f = tm (hs.set i0 (fs, false)) f by omega]
    · have hmem : ∃ q ∈ ps, q.1 = p.1 := by
        rcases List.mem_or_eq_of_mem_set hp with hp | rfl
        · exact ⟨p, hp, rfl⟩
        · exact ⟨((v, fs), true), List.mem_of_getElem? (by assumption), rfl⟩
      obtain ⟨q, hq, hqe⟩ := hmem
      obtain ⟨s1, s2⟩ := h61 q hq
      rw [hqe] at s1 s2
      exact ⟨s1.ext e23 fun b hb hh => by
        have := h8 b (s2 b hb)
        exact this.2.2.2 (hS2g hh this.1), s2⟩
  · refine pur hv1.len ?_
    refine loop2 (σ := Nat) (fun i gv a w' => a = .int .i64 (i : Int) ∧ i ≤ fs.length ∧ ∃ (gone : List Nat) (mt' : List (Nat × Int)), w'.ownsRow w.heap.size 30 1 gv gone.length (gone.map encE) ∧ gone.Nodup ∧ (∀ f, f ∈ gone ↔ f ∈ fs.take i ∧ tm hs f = (fs.take i).count f) ∧ gone.length ≤ i ∧ MapR w' bt encE encH mt' ∧ (∀ f, mget mt' f = nO (tm hs f - (fs.take i).count f)) ∧ Ext S2 w1 w') (fun i => fs.length - i) 0
      ⟨rfl, Nat.zero_le _, [], mt, World.ownsRow_nil _ _ _ _, List.nodup_nil, by simp, by simp, h41, fun f => by rw [h5 f, List.take_zero]; rfl, Ext.refl _ _⟩ ?_
    rintro i gv _ w2 ⟨rfl, hi, gone, mt', ho, hnd, hgm, hgl', hm2, hg2, e2⟩ L1 hL1
    refine pur (bin_lss _ _ _) (condD (fun hlt' => ?_) (fun hge => hJ0 _ _ ⟨gone, mt', ho, hnd, fun f => by rw [hgm, List.take_of_length_le (by omega)]; rfl, by omega, hm2, fun f => by rw [hg2, List.take_of_length_le (by omega)], e2⟩))
    obtain ⟨y, hy⟩ := getN (xs := fs) (i := i) (by omega)
    have hv2 := hv1.ext e2 fun b hb hh => by
      have := h8 b (hvG b hb)
      exact this.2.2.2 (hS2g hh this.1)
    obtain ⟨ad, q1, q2, q3⟩ := sl_idx1 hv2 (i := i) (v := encE y) (by simp [hy]) .i64
    have b2 := b1.ext e2 fun hh => hgt (hS2g hh hgl)
    have hcs := count_take_succ (f := y) hy
    rw [if_pos rfl] at hcs
    have hcl := count_take_le fs (i + 1) y
    have htg := tm_ge hh y
    have htt := tm_le hs y
    have hcs' : ∀ f, f ≠ y → (fs.take (i + 1)).count f = (fs.take i).count f := fun f hf => by rw [count_take_succ hy, if_neg (fun hh => hf hh.symm)]; rfl
    have hmem' : ∀ f, f ∈ fs.take (i + 1) ↔ f ∈ fs.take i ∨ f = y := fun f => by rw [List.take_add_one, hy]; simp
    have hyn : y ∉ gone := fun hh => by have := ((hgm y).1 hh).2; omega
    refine join1 (fun gv w' => ∃ (gone : List Nat) (mt' : List (Nat × Int)), w'.ownsRow w.heap.size 30 1 gv gone.length (gone.map encE) ∧ gone.Nodup ∧ (∀ f, f ∈ gone ↔ f ∈ fs.take (i + 1) ∧ tm hs f = (fs.take (i + 1)).count f) ∧ gone.length ≤ i + 1 ∧ MapR w' bt encE encH mt' ∧ (∀ f, mget mt' f = nO (tm hs f - (fs.take (i + 1)).count f)) ∧ Ext S2 w1 w') ?_ fun J2 hJ2 => ?_
    · rintro gv3 w3 h3
      exact pur (add64 (c := ((i + 1 : Nat) : Int)) (by omega) (by omega) (by omega)) (hL1 (i + 1) _ _ _ ⟨rfl, by omega, h3⟩ (by omega))
    · refine pur q1 (SG.load (S := No) (q3 _ hv2) (pur (nil_ptr _) (pur (field_ptr _ _ _) (loadB b2 (v := .map (some bt)) rfl (hm2.lookup MT61 y ?_)))))
      rw [hg2 y, nO_get]
      refine pur (sub64 (c := ((tm hs y - (fs.take (i + 1)).count y : Nat) : Int)) (by omega) (by omega) (by omega)) ?_
      refine hm2.update MT61 y ((tm hs y - (fs.take (i + 1)).count y : Nat) : Int) fun w3 hm3 e3 z3 => ?_
      have e23 : Ext S2 w1 w3 := e2.trans (e3.mono fun b hb _ => .inl hb)
      have b3 := b2.ext e3 hgt
      have ho3 := owns_ext ho e3 fun b hb hh => by have := (ho.lt b hb).1; rw [show b = bt from hh] at this; omega
      refine pur (nil_ptr _) (pur (field_ptr _ _ _) (loadB b3 (v := .map (some bt)) rfl (hm3.lookup MT61 y ?_)))
      rw [mget_put, if_pos rfl]
      refine pur (bin_eql _ _ _) (condD (fun hz => ?_) (fun hz => ?_))
      · refine pur (nil_ptr _) (pur (field_ptr _ _ _) (loadB b3 (v := .map (some bt)) rfl (hm3.delete MT61 y fun w4 hm4 e4 z4 => ?_)))
        have e24 : Ext S2 w1 w4 := e23.trans (e4.mono fun b hb _ => .inl hb)
        have ho4 := owns_ext ho3 e4 fun b hb hh => by have := (ho.lt b hb).1; rw [show b = bt from hh] at this; omega
        refine build1 TCE rfl fun w5 b5 e5 z5 => ?_
        have hws : w.heap.size ≤ w5.heap.size := by have := e1.size; have := e24.size; have := e5.size; omega
        refine append_sl TCE 31 (owns_ext ho4 e5 fun _ _ hh => hh) (b5.sl (n := 1) (c := 1) (size := 1) rfl (Nat.le_refl _)) (by simp [encE, Value.oneCell', Value.cells]) (by omega) (by omega) hws fun v6 w6 ho6 hg6 hat => ?_
        have e6 : Ext S2 w5 w6 := Ext.grown hg6 fun b hb => .inr (ho.lt b hb).1
        have hbt6 : gv.ownBlock ≠ some bt := fun hh => by have := (ho.lt _ hh).1; omega
        have hm6 := (hm4.no e5).ext (Ext.grown (S := fun b => gv.ownBlock = some b) hg6 fun b hb => hb) hbt6
        refine hJ2 _ _ ⟨gone ++ [y], _, by rw [List.map_append, List.length_append]; exact ho6, List.nodup_append.2 ⟨hnd, by simp, fun a ha b hb hab => by simp at hb; subst hb; subst hab; exact hyn ha⟩, fun f => ?_, by simp; omega, hm6, fun f => ?_, (e24.trans e5.no).trans e6⟩
        · rw [List.mem_append, hgm, hmem', List.mem_singleton]
          by_cases hf : f = y
          · subst hf
            simp only [or_true, true_and, true_iff]; omega
          · rw [hcs' f hf]; simp [hf]
        · rw [mget_del]
          by_cases hf : f = y
          · subst hf
            rw [if_pos rfl, nO, if_pos (by omega)]
          · rw [if_neg hf, mget_put, if_neg hf, hg2, hcs' f hf]
      · refine hJ2 _ _ ⟨gone, _, ho3, hnd, fun f => ?_, by omega, hm3, fun f => ?_, e23⟩
        · rw [hgm, hmem']
          by_cases hf : f = y
          · subst hf
            constructor
            · rintro ⟨_, h⟩; omega
            · rintro ⟨_, h⟩; exact absurd (by omega) hz
          · rw [hcs' f hf]; simp [hf]
        · rw [mget_put]
          by_cases hf : f = y
          · subst hf
            rw [if_pos rfl, nO, if_neg (fun h => hz (by omega))]
          · rw [if_neg hf, hg2, hcs' f hf]
end RefsF
end Go.Proofs.Ytkladgpaicolnaa
/-! Snaps: files that are needed, by the document; added. -/
namespace Go.Proofs.Ytkladgpaicolnaa
open Go SG Go.RowKit Go.Lib
set_option linter.unusedVariables false
set_option maxRecDepth 4000
set_option linter.unusedSimpArgs false

theorem T26 : ElemT Try.prog 26 31 1 24 (.slice none 0 0) := ⟨Try.underlying26, by kernel_rfl, rfl, by decide, by decide⟩
theorem own_cells {w : World} {base : Nat} {e : TypeId} {size n : Nat} {v : Value} {xs : List Value} (h : w.ownsRow base e size v n xs) : v.cells = #[v] := by
  rcases h.2 with ⟨rfl, _⟩ | ⟨g', cap, cur, rfl, _⟩ <;> rfl
def rowF (ps : List (Fl × Bool)) : List Value := ps.map fun p => p.1.1
def rowB (hs : List (List Nat × Bool)) : List Value := hs.map fun p => .bool p.2
def RefR (w : World) (g : Nat) (hs : List (List Nat × Bool)) (F : Nat → Prop) : Prop :=
  ∃ (lv hv : Value) (ps : List (Fl × Bool)) (G : Nat → Prop), Blk w g 29 [lv, hv] ∧ absF ps = hs ∧ w.ownsRow 0 31 1 lv hs.length (rowF ps) ∧ w.ownsRow 0 4 1 hv hs.length (rowB hs) ∧ Fls w G ps ∧
    (∀ b, G b → b < w.heap.size ∧ b ≠ g ∧ lv.ownBlock ≠ some b ∧ hv.ownBlock ≠ some b) ∧ ∀ b, F b ↔ b = g ∨ lv.ownBlock = some b ∨ hv.ownBlock = some b ∨ G b
theorem Fls.ext {w w' : World} {G S : Nat → Prop} {ps : List (Fl × Bool)} (h : Fls w G ps) (e : Ext S w w') (hn : ∀ b, G b → ¬ S b) : Fls w' G ps := fun p hp => ⟨(h p hp).1.ext e fun b hb => hn b ((h p hp).2 b hb), (h p hp).2⟩
namespace RefR
variable {w w' : World} {g : Nat} {hs : List (List Nat × Bool)} {F S : Nat → Prop} {K : Value → World → Prop}
theorem lt (h : RefR w g hs F) {b : Nat} (hb : F b) : b < w.heap.size := by
  obtain ⟨lv, hv, ps, G, h1, h2, h3, h4, h5, h6, h7⟩ := h
  rcases (h7 b).1 hb with rfl | hb | hb | hb
  · exact h1.lt
  · exact (h3.lt _ hb).2
  · exact (h4.lt _ hb).2
  · exact (h6 b hb).1
theorem ext (h : RefR w g hs F) (e : Ext S w w') (hn : ∀ b, F b → ¬ S b) : RefR w' g hs F := by
  obtain ⟨lv, hv, ps, G, h1, h2, h3, h4, h5, h6, h7⟩ := h
  exact ⟨lv, hv, ps, G, h1.ext e (hn g ((h7 _).2 (.inl rfl))), h2, owns_ext h3 e fun b hb => hn b ((h7 _).2 (.inr (.inl hb))), owns_ext h4 e fun b hb => hn b ((h7 _).2 (.inr (.inr (.inl hb)))),
    h5.ext e fun b hb => hn b ((h7 _).2 (.inr (.inr (.inr hb)))), fun b hb => ⟨Nat.lt_of_lt_of_le (h6 b hb).1 e.size, (h6 b hb).2⟩, h7⟩
theorem no (h : RefR w g hs F) (e : Ext No w w') : RefR w' g hs F := h.ext e fun _ _ hh => hh
theorem build29 (w : World) : (Instr.build 29 [].toArray).run Try.prog w = .ok (.agg #[.slice none 0 0, .slice none 0 0]) w := by kernel_rfl
theorem new {g : Nat} (h : Blk w g 29 [.slice none 0 0, .slice none 0 0]) : RefR w g [] (At1 g) :=
  ⟨_, _, [], fun _ => False, h, rfl, World.ownsRow_nil _ _ _ _, World.ownsRow_nil _ _ _ _, fun p hp => (by cases hp), fun b hb => hb.elim, fun b => by simp [At1, Value.ownBlock]⟩
theorem rowB_app (hs : List (List Nat × Bool)) (fs : List Nat) : rowB (hs ++ [(fs, true)]) = rowB hs ++ [.bool true] := by simp [rowB]
theorem rowF_app (ps : List (Fl × Bool)) (v : Value) (fs : List Nat) : rowF (ps ++ [((v, fs), true)]) = rowF ps ++ [v] := by simp [rowF]
set_option maxHeartbeats 2000000 in
/-- Add -/
theorem add (h : RefR w g hs F) {x : Value} {fs : List Nat} (hx : Sl w x fs.length 1 (fs.map encE)) (hl : hs.length ≤ 1099511627776) (hfl : fs.length ≤ 1099511627776)
    (hK : ∀ w' F', RefR w' g (hs ++ [(fs, true)]) F' → Stp w F w' F' → K (.int .i64 ((hs.length + 1 : Nat) : Int)) w') : CallS Try.prog 9 #[.pointer (some ⟨g, 0, none⟩), x] K w := by
  obtain ⟨lv, hv, ps, G, hb, h2, hrow, hrow2, h5, h6, hF⟩ := h
  have hgs := Own.ne_blk hrow hb (by decide)
  have hgh := Own.ne_blk hrow2 hb (by decide)
  have hsh := Own.ne_own hrow hrow2 (by decide)
  have hhs := Own.ne_own hrow2 hrow (by decide)
  have hgl := hb.lt
  have hg' : F g := (hF g).2 (.inl rfl)
  have hpl := absF_len h2
  refine s9_call hm ?_
  unfold s9
  refine join0 (fun w' => ∃ F', RefR w' g (hs ++ [(fs, true)]) F' ∧ Stp w F w' F') ?_ fun J0 hJ0 => ?_
  · rintro w1 ⟨F', h1, k1⟩
    have hR := h1
    obtain ⟨lv', hv', ps', G', hb', _, ho', _⟩ := h1
    refine pur (nil_ptr _) (pur (field_ptr _ _ _) (loadB hb' (v := lv') rfl (pur (Sl.own ho').len ?_)))
    have := hK w1 F' hR k1
    simpa using this
  -- the files are copied
  have cpS : ∀ {w1 : World} {ga : Nat} {K' : Value → World → Prop}, Ext No w w1 → Blk w1 ga 30 [] → w.heap.size ≤ ga →
      (∀ v w2, Ext No w w2 → Ext (At1 ga) w1 w2 → w2.ownsRow w.heap.size 30 1 v fs.length (fs.map encE) → K' v w2) → RunS Try.prog (Builtin.append_ #[31, 31] 31 [.slice (some ⟨ga, 0, none⟩) 0 0, x].toArray) K' w1 := fun {w1 ga K'} e1 b1 hga hK' => by
    refine append_sl TCE 31 (base := w.heap.size) (b1.owns rfl hga (by omega)) (hx.no e1) (encs_one fs) (by omega) (by omega) e1.size fun v w2 ho2 hg2 _ => ?_
    have e2 : Ext (At1 ga) w1 w2 := Ext.grown hg2 fun b hb => by simpa [Value.ownBlock, At1, eq_comm] using hb
    exact hK' v w2 (e1.fresh e2 fun b hb => .inr (by rw [show b = ga from hb]; exact hga)) e2 (by simpa using ho2)
  -- and noted
  have apS : ∀ {w1 : World} {g1 : Nat} {vc : Value} {K' : Value → World → Prop}, Ext No w w1 → Blk w1 g1 31 [vc] → vc.oneCell' = true →
      (∀ v w2, Ext F w w2 → Ext (fun b => lv.ownBlock = some b) w1 w2 → w2.ownsRow 0 31 1 v (hs.length + 1) (rowF ps ++ [vc]) → (∀ b, v.ownBlock = some b → lv.ownBlock = some b ∨ w.heap.size ≤ b) → K' v w2) →
      RunS Try.prog (Builtin.append_ #[26, 26] 26 [lv, .slice (some ⟨g1, 0, none⟩) 1 1].toArray) K' w1 := fun {w1 g1 vc K'} e1 b1 hone hK' => by
    have ho1 := owns_ext hrow e1 fun _ _ hh => hh
    refine append_sl T26 26 ho1 (b1.sl (n := 1) (c := 1) (size := 1) rfl (Nat.le_refl _)) (by simpa using hone) (by omega) (by omega) (Nat.zero_le _) fun v w2 ho2 hg2 hat => ?_
    have e2 : Ext (fun b => lv.ownBlock = some b) w1 w2 := Ext.grown hg2 fun b hb => hb
    refine hK' v w2 (e1.no.trans (e2.mono fun b hb _ => (hF b).2 (.inr (.inl hb)))) e2 ho2 fun b hb => ?_
    rcases hat with h | h
    · exact .inl (by rw [← h]; exact hb)
    · rw [h] at hb
      have : b = w1.heap.size := by simpa using hb.symm
      right; have := e1.size; omega
  have fin : ∀ {w1 : World} {g1 : Nat} {t vc : Value}, Ext F w w1 → Blk w1 g 29 [lv, hv] → Blk w1 g1 4 [.bool true] → w1.ownsRow w.heap.size 30 1 vc fs.length (fs.map encE) → w1.ownsRow 0 31 1 t (hs.length + 1) (rowF ps ++ [vc]) → (∀ b, t.ownBlock = some b → lv.ownBlock = some b ∨ w.heap.size ≤ b) → w1.ownsRow 0 4 1 hv hs.length (rowB hs) → Fls w1 G ps →
      RunS Try.prog (Builtin.append_ #[27, 27] 27 [hv, .slice (some ⟨g1, 0, none⟩) 1 1].toArray) (fun t27 w => PureS (nilV (.pointer (some ⟨g, 0, none⟩))) fun t28 => PureS (fieldAddrV 0 t28) fun t29 => StoreC t29 t (fun w =>
        PureS (nilV (.pointer (some ⟨g, 0, none⟩))) fun t30 => PureS (fieldAddrV 1 t30) fun t31 => StoreC t31 t27 (fun w => J0 w) w) w) w1 := fun {w1 g1 t vc} e1 hb1 b1 hc1 ht htf hh1 hf1 => by
    refine append_sl T27 27 hh1 (b1.sl (n := 1) (c := 1) (size := 1) rfl (Nat.le_refl _)) (by simp [Value.oneCell']) (by omega) (by omega) (Nat.zero_le _) fun v w2 ho2 hg2 hat => ?_
    have e2 : Ext (fun b => hv.ownBlock = some b) w1 w2 := Ext.grown hg2 fun b hb => hb
    have hb2 := hb1.ext e2 hgh
    have ht2 := owns_ext ht e2 fun b hb hh => Own.ne_own hh1 ht (by decide) b hh hb
    have hc2 := owns_ext hc1 e2 fun b hb hh => Own.ne_own hh1 hc1 (by decide) b hh hb
    refine pur (nil_ptr _) (pur (field_ptr _ _ _) (storeB hb2 (by simp) (Own.one ht2) fun w3 b3 e3 z3 => ?_))
    have b3' : Blk w3 g 29 [t, hv] := b3
    refine pur (nil_ptr _) (pur (field_ptr _ _ _) (storeB b3' (by simp) (Own.one ho2) fun w4 b4 e4 z4 => ?_))
    have b4' : Blk w4 g 29 [t, v] := b4
    have e24 : Ext (At1 g) w2 w4 := e3.trans e4
    have ht4 := owns_ext ht2 e24 fun b hb hh => Own.ne_blk ht2 hb2 (by decide) (by rw [hb, show b = g from hh])
    have ho4 := owns_ext ho2 e24 fun b hb hh => Own.ne_blk ho2 hb2 (by decide) (by rw [hb, show b = g from hh])
    have hc4 := owns_ext hc2 e24 fun b hb hh => Own.ne_blk hc2 hb2 (by decide) (by rw [hb, show b = g from hh])
    have e14 : Ext (fun b => hv.ownBlock = some b ∨ b = g) w1 w4 := e2.trans' e24 (fun b hb _ => .inl hb) (fun b hb _ => .inr hb)
    have hvf : ∀ b, v.ownBlock = some b → hv.ownBlock = some b ∨ w1.heap.size ≤ b := fun b hb => by
      rcases hat with h | h
      · exact .inl (by rw [← h]; exact hb)
      · rw [h] at hb
        have : b = w1.heap.size := by simpa using hb.symm
        right; omega
    refine hJ0 w4 ⟨fun b => b = g ∨ t.ownBlock = some b ∨ v.ownBlock = some b ∨ (G b ∨ vc.ownBlock = some b), ⟨t, v, ps ++ [((vc, fs), true)], fun b => G b ∨ vc.ownBlock = some b, b4', by simp [absF, ← h2], by rw [rowF_app]; simpa using ht4, by rw [rowB_app]; simpa using ho4, fun p hp => ?_, fun b hb => ?_, fun b => Iff.rfl⟩,
      e1.trans' e14 (fun b hb _ => hb) (fun b hb _ => ?_), fun b hb => ?_⟩
    · rcases List.mem_append.1 hp with hp | hp
      · exact ⟨(hf1 p hp).1.ext e14 fun b hb hh => by
          have := h6 b ((hf1 p hp).2 b hb)
          rcases hh with hh | hh
          · exact this.2.2.2 hh
          · exact this.2.1 hh, fun b hb => .inl ((hf1 p hp).2 b hb)⟩
      · simp only [List.mem_singleton] at hp
        subst hp
        exact ⟨Sl.own hc4, fun b hb => .inr hb⟩
    · rcases hb with hb | hb
      · have h := h6 b hb
        have s1 := e1.size
        refine ⟨by have := e14.size; omega, h.2.1, fun hh => ?_, fun hh => ?_⟩
        · rcases htf b hh with hh | hh
          · exact h.2.2.1 hh
          · omega
        · rcases hvf b hh with hh | hh
          · exact h.2.2.2 hh
          · omega
      · exact ⟨(hc4.lt b hb).2, by have := (hc4.lt b hb).1; omega, fun hh => Own.ne_own ht4 hc4 (by decide) b hh hb, fun hh => Own.ne_own ho4 hc4 (by decide) b hh hb⟩
    · rcases hb with hb | hb
      · exact (hF b).2 (.inr (.inr (.inl hb)))
      · exact hb ▸ hg'
    · have s1 := e1.size
      rcases hb with rfl | hb | hb | hb | hb
      · exact .inl hg'
      · exact (htf b hb).imp (fun h => (hF b).2 (.inr (.inl h))) id
      · exact (hvf b hb).imp (fun h => (hF b).2 (.inr (.inr (.inl h)))) fun h => by omega
      · exact .inl ((hF b).2 (.inr (.inr (.inr hb))))
      · exact .inr (hc4.lt b hb).1
  have e0 : Ext No w w.drew := Ext.drew w
  have hGlv : ∀ b, G b → ¬ (lv.ownBlock = some b) := fun b hb => (h6 b hb).2.2.1
  have cl : ∀ {w1 w2 : World} {vc : Value}, Ext (fun b => lv.ownBlock = some b) w1 w2 → w1.ownsRow w.heap.size 30 1 vc fs.length (fs.map encE) → w2.ownsRow w.heap.size 30 1 vc fs.length (fs.map encE) := fun {w1 w2 vc} e hc => owns_ext hc e fun b hb hh => by
    have := (hc.lt b hb).1; have := (hrow.lt b hh).2; omega
  have h4l : ∀ {w1 w2 : World} {g1 : Nat}, Ext (fun b => lv.ownBlock = some b) w1 w2 → w.heap.size ≤ g1 → Blk w1 g1 4 [.bool true] → Blk w2 g1 4 [.bool true] := fun {w1 w2 g1} e hg hb => hb.ext e fun hh => by have := (hrow.lt _ hh).2; omega
  refine draw (fun w' => Blk w' g 29 [lv, hv]) (hb.no e0) ?_
  refine pur (nil_ptr _) (pur (field_ptr _ _ _) (pur (nil_ptr _) (pur (field_ptr _ _ _) (heldC (v := lv) (fun w' hh => hh.cell 0) (heldC (v := hv) (fun w' hh => hh.cell 1) ⟨?_, ?_⟩)))))
  · refine build0 TCE fun w1 b1 e1 z1 => ?_
    have e01 := e0.trans e1
    refine ⟨hb.no e01, ?_, ?_⟩
    · refine cpS e01 b1 e0.size fun vc w2 e02 e12 hc => ⟨hb.no e02, ?_, ?_⟩
      · refine build1 T26 (by rw [own_cells hc]; rfl) fun w3 b3 e3 z3 => ?_
        have e03 := e02.trans e3
        have b3' : Blk w3 w2.heap.size 31 [vc] := by rw [own_cells hc] at b3; exact b3
        have hc3 := owns_ext hc e3 fun _ _ hh => hh
        refine ⟨hb.no e03, ?_, ?_⟩
        · refine apS e03 b3' (Own.one hc) fun t w4 e04 e34 ht htf => ⟨(hb.no e03).ext e34 hgs, ?_⟩
          refine build1 T27 rfl fun w5 b5 e5 z5 => ⟨((hb.no e03).ext e34 hgs).no e5, ?_⟩
          exact fin (e04.trans e5.no) (((hb.no e03).ext e34 hgs).no e5) b5 (owns_ext (cl e34 hc3) e5 fun _ _ hh => hh) (owns_ext ht e5 fun _ _ hh => hh) htf (owns_ext (owns_ext (owns_ext hrow2 e03 fun _ _ hh => hh) e34 fun b hb hh => hsh b hh hb) e5 fun _ _ hh => hh) (((h5.ext e03 fun _ _ hh => hh).ext e34 hGlv).ext e5 fun _ _ hh => hh)
        · refine build1 T27 rfl fun w5 b5 e5 z5 => ⟨hb.no (e03.trans e5), ?_⟩
          refine apS (e03.trans e5) (b3'.no e5) (Own.one hc) fun t w4 e04 e54 ht htf => ⟨(hb.no (e03.trans e5)).ext e54 hgs, ?_⟩
          exact fin e04 ((hb.no (e03.trans e5)).ext e54 hgs) (h4l e54 e03.size b5) (cl e54 (owns_ext hc3 e5 fun _ _ hh => hh)) ht htf (owns_ext (owns_ext hrow2 (e03.trans e5) fun _ _ hh => hh) e54 fun b hb hh => hsh b hh hb) ((h5.ext (e03.trans e5) fun _ _ hh => hh).ext e54 hGlv)
      · refine build1 T27 rfl fun w5 b5 e5 z5 => ⟨hb.no (e02.trans e5), ?_⟩
        have hc5 := owns_ext hc e5 fun _ _ hh => hh
        refine build1 T26 (by rw [own_cells hc]; rfl) fun w3 b3 e3 z3 => ?_
        have e03 := (e02.trans e5).trans e3
        have b3' : Blk w3 w5.heap.size 31 [vc] := by rw [own_cells hc] at b3; exact b3
        refine ⟨hb.no e03, apS e03 b3' (Own.one hc) fun t w4 e04 e34 ht htf => ⟨(hb.no e03).ext e34 hgs, ?_⟩⟩
        exact fin e04 ((hb.no e03).ext e34 hgs) (h4l e34 e02.size (b5.no e3)) (cl e34 (owns_ext hc5 e3 fun _ _ hh => hh)) ht htf (owns_ext (owns_ext hrow2 e03 fun _ _ hh => hh) e34 fun b hb hh => hsh b hh hb) ((h5.ext e03 fun _ _ hh => hh).ext e34 hGlv)
    · refine build1 T27 rfl fun w5 b5 e5 z5 => ⟨hb.no (e01.trans e5), ?_⟩
      refine cpS (e01.trans e5) (b1.no e5) e0.size fun vc w2 e02 e52 hc => ⟨hb.no e02, ?_⟩
      have b52 : Blk w2 w1.heap.size 4 [.bool true] := b5.ext e52 fun hh => by have := b1.lt; rw [show w1.heap.size = w.drew.heap.size from hh] at this; omega
      refine build1 T26 (by rw [own_cells hc]; rfl) fun w3 b3 e3 z3 => ?_
      have e03 := e02.trans e3
      have b3' : Blk w3 w2.heap.size 31 [vc] := by rw [own_cells hc] at b3; exact b3
      refine ⟨hb.no e03, apS e03 b3' (Own.one hc) fun t w4 e04 e34 ht htf => ⟨(hb.no e03).ext e34 hgs, ?_⟩⟩
      exact fin e04 ((hb.no e03).ext e34 hgs) (h4l e34 e01.size (b52.no e3)) (cl e34 (owns_ext hc e3 fun _ _ hh => hh)) ht htf (owns_ext (owns_ext hrow2 e03 fun _ _ hh => hh) e34 fun b hb hh => hsh b hh hb) ((h5.ext e03 fun _ _ hh => hh).ext e34 hGlv)
  · refine build1 T27 rfl fun w5 b5 e5 z5 => ⟨hb.no (e0.trans e5), ?_⟩
    have e05 := e0.trans e5
    refine build0 TCE fun w1 b1 e1 z1 => ?_
    have e01 := e05.trans e1
    refine ⟨hb.no e01, cpS e01 b1 e05.size fun vc w2 e02 e12 hc => ⟨hb.no e02, ?_⟩⟩
    have b52 : Blk w2 w.drew.heap.size 4 [.bool true] := (b5.no e1).ext e12 fun hh => by have := b5.lt; rw [show w.drew.heap.size = w5.heap.size from hh] at this; omega
    refine build1 T26 (by rw [own_cells hc]; rfl) fun w3 b3 e3 z3 => ?_
    have e03 := e02.trans e3
    have b3' : Blk w3 w2.heap.size 31 [vc] := by rw [own_cells hc] at b3; exact b3
    refine ⟨hb.no e03, apS e03 b3' (Own.one hc) fun t w4 e04 e34 ht htf => ⟨(hb.no e03).ext e34 hgs, ?_⟩⟩
    exact fin e04 ((hb.no e03).ext e34 hgs) (h4l e34 e0.size (b52.no e3)) (cl e34 (owns_ext hc e3 fun _ _ hh => hh)) ht htf (owns_ext (owns_ext hrow2 e03 fun _ _ hh => hh) e34 fun b hb hh => hsh b hh hb) ((h5.ext e03 fun _ _ hh => hh).ext e34 hGlv)
end RefR
end Go.Proofs.Ytkladgpaicolnaa
/-! Snaps: files that are needed, by the document; asked and dropped. -/
namespace Go.Proofs.Ytkladgpaicolnaa
open Go SG Go.RowKit Go.Lib
set_option linter.unusedVariables false
set_option maxRecDepth 4000
set_option linter.unusedSimpArgs false

theorem tm_take_succ {hs : List (List Nat × Bool)} {i : Nat} {fs : List Nat} {c : Bool} (h : hs[i]? = some (fs, c)) (f : Nat) : tm (hs.take (i + 1)) f = tm (hs.take i) f + if c then fs.count f else 0 := by
  rw [List.take_add_one, h, tm_append]; simp [tm]
theorem tm_take_le (hs : List (List Nat × Bool)) (i f : Nat) : tm (hs.take i) f ≤ tm hs f := by
  have h := congrArg (fun l => tm l f) (List.take_append_drop i hs)
  simp only [tm_append] at h; omega
def allF (hs : List (List Nat × Bool)) : List Nat := hs.flatMap (·.1)
theorem allF_len (hs : List (List Nat × Bool)) : (allF hs).length = tot hs := by unfold allF tot; rw [List.length_flatMap]
theorem tm_allF {hs : List (List Nat × Bool)} {f : Nat} (h : 0 < tm hs f) : f ∈ allF hs := by
  obtain ⟨p, hp, _, hf⟩ := tm_pos.1 h
  exact List.mem_flatMap.2 ⟨p, hp, hf⟩
/-- how many keys the program's map has -/
theorem keys_le {hs : List (List Nat × Bool)} {mt : List (Nat × Int)} (hk : Keys mt) (hg : ∀ f, mget mt f = tmO hs f) : mt.length ≤ tot hs := by
  have := nodup_len (mt.map fun p : Nat × Int => p.1) (allF hs) hk fun x hx => tm_allF (by
    have := mget_isSome.2 hx
    rw [hg x] at this
    unfold tmO at this
    split at this
    · cases this
    · omega)
  rw [allF_len] at this
  simpa using this
theorem len_le_tot {hs : List (List Nat × Bool)} {p : List Nat × Bool} (h : p ∈ hs) : p.1.length ≤ tot hs := by
  induction hs with
  | nil => cases h
  | cons q hs ih =>
    have h2 : tot (q :: hs) = q.1.length + tot hs := by simp [tot]
    rcases List.mem_cons.1 h with rfl | h
    · omega
    · have := ih h; omega
namespace RefR
variable {w w' : World} {g : Nat} {hs : List (List Nat × Bool)} {F S : Nat → Prop} {K : Value → World → Prop}
/-- the list's length -/
theorem lenL (h : RefR w g hs F) {K' : Value → World → Prop} (hK : K' (.int .i64 (hs.length : Int)) w) :
    PureS (nilV (.pointer (some ⟨g, 0, none⟩))) fun t => PureS (fieldAddrV 0 t) fun t => LoadC t (fun t w => PureS (lenSliceV t) fun t => K' t w) w := by
  obtain ⟨lv, hv, ps, G, h1, h2, h3, h4, h5, h6, h7⟩ := h
  exact pur (nil_ptr _) (pur (field_ptr _ _ _) (loadB h1 (v := lv) rfl (pur (Sl.own h3).len hK)))
/-- one handle's files -/
theorem filesAt (h : RefR w g hs F) {i : Nat} {fs : List Nat} {c : Bool} (hi : hs[i]? = some (fs, c)) : ∃ v, Sl w v fs.length 1 (fs.map encE) ∧ (∀ b, v.ownBlock = some b → F b) ∧
    ∀ {K' : Value → World → Prop}, K' v w → PureS (nilV (.pointer (some ⟨g, 0, none⟩))) fun t => PureS (fieldAddrV 0 t) fun t => LoadC t (fun t w => PureS (indexAddrV 1 t (.int .i64 (i : Int))) fun t => LoadC t K' w) w := by
  obtain ⟨lv, hv, ps, G, h1, h2, h3, h4, h5, h6, h7⟩ := h
  rw [absF_at h2] at hi
  obtain ⟨⟨⟨v, fs'⟩, c'⟩, hp, he⟩ := Option.map_eq_some_iff.1 hi
  simp only [Prod.mk.injEq] at he
  obtain ⟨rfl, rfl⟩ := he
  obtain ⟨s1, s2⟩ := h5 _ (List.mem_of_getElem? hp)
  refine ⟨v, s1, fun b hb => (h7 b).2 (.inr (.inr (.inr (s2 b hb)))), fun {K'} hK => ?_⟩
  obtain ⟨gs, r1, r2, r3, _⟩ := Own.at1 h3 (i := i) (x := v) (by unfold rowF; rw [List.getElem?_map, hp]; rfl) .i64
  exact pur (nil_ptr _) (pur (field_ptr _ _ _) (loadB h1 (v := lv) rfl (pur r2 (SG.load (S := No) r3 hK))))
/-- whether one is held -/
theorem heldAt (h : RefR w g hs F) {i : Nat} {fs : List Nat} {c : Bool} (hi : hs[i]? = some (fs, c)) {K' : Value → World → Prop} (hK : K' (.bool c) w) :
    PureS (nilV (.pointer (some ⟨g, 0, none⟩))) fun t => PureS (fieldAddrV 1 t) fun t => LoadC t (fun t w => PureS (indexAddrV 1 t (.int .i64 (i : Int))) fun t => LoadC t K' w) w := by
  obtain ⟨lv, hv, ps, G, h1, h2, h3, h4, h5, h6, h7⟩ := h
  obtain ⟨gs, r1, r2, r3, _⟩ := Own.at1 h4 (i := i) (x := .bool c) (by unfold rowB; rw [List.getElem?_map, hi]; rfl) .i64
  exact pur (nil_ptr _) (pur (field_ptr _ _ _) (loadB h1 (v := hv) rfl (pur r2 (SG.load (S := No) r3 hK))))
set_option maxHeartbeats 1000000 in
/-- Times -/
theorem times (h : RefR w g hs F) (f : Nat) (hl : hs.length ≤ 1099511627776) (hlt : tot hs ≤ 1099511627776) (hK : K (.int .i64 (tm hs f : Int)) w) : CallS Try.prog 16 #[.pointer (some ⟨g, 0, none⟩), encE f] K w := by
  refine s16_call hm ?_
  unfold s16
  have hbig : ∀ i, tm (hs.take i) f ≤ tot hs := fun i => Nat.le_trans (tm_take_le hs i f) (tm_le hs f)
  refine join1 (fun a w' => w = w' ∧ a = .int .i64 (tm hs f : Int)) (fun a w' hh => by obtain ⟨rfl, rfl⟩ := hh; exact hK) fun J0 hJ0 => ?_
  refine loop2 (σ := Nat) (fun i a b w' => w = w' ∧ a = .int .i64 (tm (hs.take i) f : Int) ∧ b = .int .i64 (i : Int) ∧ i ≤ hs.length) (fun i => hs.length - i) 0 ⟨rfl, rfl, rfl, Nat.zero_le _⟩ ?_
  rintro i _ _ _ ⟨rfl, rfl, rfl, hi⟩ L1 hL1
  refine h.lenL (pur (bin_lss _ _ _) (condD (fun hlt' => ?_) (fun hge => hJ0 _ _ ⟨rfl, by rw [List.take_of_length_le (by omega)]⟩)))
  obtain ⟨⟨fs, c⟩, hp⟩ := getN (xs := hs) (i := i) (by omega)
  have hts := tm_take_succ hp f
  have hb1 := hbig (i + 1)
  obtain ⟨v, sv, _, hat⟩ := h.filesAt hp
  have hfl : fs.length ≤ 1099511627776 := by
    have : fs.length ≤ tot hs := len_le_tot (p := (fs, c)) (List.mem_of_getElem? hp)
    omega
  refine join1 (fun a w' => w = w' ∧ a = .int .i64 (tm (hs.take (i + 1)) f : Int)) ?_ fun J2 hJ2 => ?_
  · rintro _ _ ⟨rfl, rfl⟩
    exact pur (add64 (c := ((i + 1 : Nat) : Int)) (by omega) (by omega) (by omega)) (hL1 (i + 1) _ _ _ ⟨rfl, rfl, rfl, by omega⟩ (by omega))
  refine loop2 (σ := Nat) (fun k a b w' => w = w' ∧ a = .int .i64 ((tm (hs.take i) f + (if c then (fs.take k).count f else 0) : Nat) : Int) ∧ b = .int .i64 (k : Int) ∧ k ≤ fs.length) (fun k => fs.length - k) 0 ⟨rfl, by simp, rfl, Nat.zero_le _⟩ ?_
  rintro k _ _ _ ⟨rfl, rfl, rfl, hk⟩ L3 hL3
  refine hat (pur sv.len (pur (bin_lss _ _ _) ?_))
  by_cases hkl : k < fs.length
  · rw [decide_eq_true (by omega : (k : Int) < (fs.length : Int))]
    refine join1 (fun t w' => w = w' ∧ t = .bool c) ?_ fun J4 hJ4 => ifYes _ _ (h.heldAt hp (hJ4 _ _ ⟨rfl, rfl⟩))
    rintro _ _ ⟨rfl, rfl⟩
    refine pur (pick_b _ _ _) ?_
    rw [if_pos rfl]
    cases c with
    | false => exact condF rfl (hJ2 _ _ ⟨rfl, by rw [hts]; rfl⟩)
    | true =>
      refine condT rfl ?_
      obtain ⟨y, hy⟩ := getN (xs := fs) (i := k) hkl
      obtain ⟨ad, q1, q2, q3⟩ := sl_idx1 sv (i := k) (v := encE y) (by simp [hy]) .i64
      have hcl := count_take_le fs (k + 1) f
      have hcs := count_take_succ (f := f) hy
      simp only [if_true] at hts ⊢
      refine join1 (fun a w' => w = w' ∧ a = .int .i64 ((tm (hs.take i) f + (fs.take (k + 1)).count f : Nat) : Int)) ?_ fun J5 hJ5 => ?_
      · rintro _ _ ⟨rfl, rfl⟩
        exact pur (add64 (c := ((k + 1 : Nat) : Int)) (by omega) (by omega) (by omega)) (hL3 (k + 1) _ _ _ ⟨rfl, rfl, rfl, by omega⟩ (by omega))
      · refine hat (pur q1 (SG.load (S := No) (q3 _ sv) (pur (eqE y f) (condD (fun he => ?_) (fun he => ?_)))))
        · rw [if_pos he] at hcs
          exact pur (add64 (c := ((tm (hs.take i) f + (fs.take (k + 1)).count f : Nat) : Int)) (by omega) (by omega) (by omega)) (hJ5 _ _ ⟨rfl, rfl⟩)
        · rw [if_neg he] at hcs
          exact hJ5 _ _ ⟨rfl, by rw [hcs]; rfl⟩
  · rw [decide_eq_false (by omega : ¬ (k : Int) < (fs.length : Int))]
    refine join1 (fun t w' => w = w' ∧ t = undef) ?_ fun J4 hJ4 => ifNo _ _ (hJ4 _ _ ⟨rfl, rfl⟩)
    rintro _ _ ⟨rfl, rfl⟩
    refine pur (pick_b _ _ _) (condF rfl (hJ2 _ _ ⟨rfl, ?_⟩))
    rw [hts, List.take_of_length_le (l := fs) (by omega)]
set_option maxHeartbeats 1000000 in
/-- Needed -/
theorem needed (h : RefR w g hs F) (hl : hs.length ≤ 1099511627776) (hlt : tot hs ≤ 1099511627775) (hK : ∀ v w' fs, Rise fs (fun f => 0 < tm hs f) → Sl w' v fs.length 1 (fs.map encE) → (∀ b, v.ownBlock = some b → w.heap.size ≤ b) → Ext No w w' → K v w') : CallS Try.prog 14 #[.pointer (some ⟨g, 0, none⟩)] K w := by
  refine s14_call hm ?_
  unfold s14
  let Q : (Nat → Prop) → Value → World → Prop := fun P v w' => ∃ fs : List Nat, Rise fs P ∧ Sl w' v fs.length 1 (fs.map encE) ∧ (∀ b, v.ownBlock = some b → w.heap.size ≤ b) ∧ Ext No w w'
  refine join1 (Q fun f => 0 < tm hs f) (fun v w' ⟨fs, a, b, c, d⟩ => hK v w' fs a b c d) fun J0 hJ0 => ?_
  refine loop2 (σ := Nat) (fun i v a w' => a = .int .i64 (i : Int) ∧ i ≤ hs.length ∧ Q (fun f => 0 < tm (hs.take i) f) v w') (fun i => hs.length - i) 0
    ⟨rfl, Nat.zero_le _, [], ⟨List.Pairwise.nil, by simp [tm]⟩, Sl.nil_ _ _, by simp [Value.ownBlock], Ext.refl _ _⟩ ?_
  rintro i v _ w1 ⟨rfl, hi, hQ⟩ L1 hL1
  have e1 : Ext No w w1 := by obtain ⟨_, _, _, _, e⟩ := hQ; exact e
  refine (h.no e1).lenL (pur (bin_lss _ _ _) (condD (fun hlt' => ?_) (fun hge => hJ0 _ _ (by rw [List.take_of_length_le (by omega)] at hQ; exact hQ))))
  obtain ⟨⟨fs, c⟩, hp⟩ := getN (xs := hs) (i := i) (by omega)
  have hts := tm_take_succ hp
  have hfl : fs.length ≤ tot hs := len_le_tot (p := (fs, c)) (List.mem_of_getElem? hp)
  refine join1 (Q fun f => 0 < tm (hs.take (i + 1)) f) ?_ fun J2 hJ2 => ?_
  · rintro v2 w2 hQ2
    exact pur (add64 (c := ((i + 1 : Nat) : Int)) (by omega) (by omega) (by omega)) (hL1 (i + 1) _ _ _ ⟨rfl, by omega, hQ2⟩ (by omega))
  have hin : ∀ {k f}, (0 < tm (hs.take i) f ∨ c = true ∧ f ∈ fs.take k) → f ∈ allF hs := fun {k f} hh => by
    rcases hh with hh | ⟨rfl, hh⟩
    · exact tm_allF (Nat.lt_of_lt_of_le hh (tm_take_le hs i f))
    · exact List.mem_flatMap.2 ⟨_, List.mem_of_getElem? hp, List.mem_of_mem_take hh⟩
  refine loop2 (σ := Nat) (fun k v b w' => b = .int .i64 (k : Int) ∧ k ≤ fs.length ∧ Q (fun f => 0 < tm (hs.take i) f ∨ c = true ∧ f ∈ fs.take k) v w') (fun k => fs.length - k) 0
    ⟨rfl, Nat.zero_le _, by obtain ⟨out, hr, q⟩ := hQ; exact ⟨out, ⟨hr.1, fun x => by rw [hr.2]; simp⟩, q⟩⟩ ?_
  rintro k v2 _ w2 ⟨rfl, hk, hQ2⟩ L3 hL3
  obtain ⟨out, hr2, s2, f2, e2⟩ := hQ2
  have h2 := h.no e2
  obtain ⟨vf, sv, _, hat⟩ := h2.filesAt hp
  refine hat (pur sv.len (pur (bin_lss _ _ _) ?_))
  have fin : (c = true → fs.length ≤ k) → J2 v2 w2 := fun hc => hJ2 _ _ ⟨out, ⟨hr2.1, fun x => by
    rw [hr2.2]
    show _ ↔ 0 < tm (hs.take (i + 1)) x
    rw [hts]
    cases c with
    | false => simp
    | true =>
      rw [List.take_of_length_le (hc rfl), if_pos rfl]
      have : x ∈ fs ↔ 0 < fs.count x := List.count_pos_iff.symm
      simp only [true_and, this]; omega⟩, s2, f2, e2⟩
  by_cases hkl : k < fs.length
  · rw [decide_eq_true (by omega : (k : Int) < (fs.length : Int))]
    refine join1 (fun t w' => w2 = w' ∧ t = .bool c) ?_ fun J4 hJ4 => ifYes _ _ (h2.heldAt hp (hJ4 _ _ ⟨rfl, rfl⟩))
    rintro _ _ ⟨rfl, rfl⟩
    refine pur (pick_b _ _ _) ?_
    rw [if_pos rfl]
    cases c with
    | false => exact condF rfl (fin fun h => by cases h)
    | true =>
      refine condT rfl ?_
      obtain ⟨y, hy⟩ := getN (xs := fs) (i := k) hkl
      obtain ⟨ad, q1, q2, q3⟩ := sl_idx1 sv (i := k) (v := encE y) (by simp [hy]) .i64
      have hol : out.length ≤ tot hs := by rw [← allF_len]; exact hr2.len fun x hx => hin hx
      refine hat (pur q1 (SG.load (S := No) (q3 _ sv) ?_))
      refine c34 s2 hr2.1 (by omega) fun v3 w3 out' hr3 _ s3 f3 e3 => ?_
      refine pur (add64 (c := ((k + 1 : Nat) : Int)) (by omega) (by omega) (by omega)) (hL3 (k + 1) _ _ _ ⟨rfl, by omega, out', ⟨hr3.1, fun x => (hr3.2 x).trans ?_⟩, s3, fun b hb => ?_, e2.trans e3⟩ (by omega))
      · show x ∈ out ∨ x = y ↔ 0 < tm (hs.take i) x ∨ true = true ∧ x ∈ fs.take (k + 1)
        rw [hr2.2, List.take_add_one, hy]
        simp [or_assoc]
      · rcases f3 b hb with h | h
        · exact f2 b h
        · have := e2.size; omega
  · rw [decide_eq_false (by omega : ¬ (k : Int) < (fs.length : Int))]
    refine join1 (fun t w' => w2 = w' ∧ t = undef) ?_ fun J4 hJ4 => ifNo _ _ (hJ4 _ _ ⟨rfl, rfl⟩)
    rintro _ _ ⟨rfl, rfl⟩
    exact pur (pick_b _ _ _) (condF rfl (fin fun _ => by omega))
end RefR
end Go.Proofs.Ytkladgpaicolnaa
/-! Snaps: files are let go, by the document. -/
namespace Go.Proofs.Ytkladgpaicolnaa
open Go SG Go.RowKit Go.Lib
set_option linter.unusedVariables false
set_option maxRecDepth 4000
set_option linter.unusedSimpArgs false

namespace RefR
variable {w w' : World} {g : Nat} {hs : List (List Nat × Bool)} {F S : Nat → Prop} {K : Value → World → Prop}
set_option maxHeartbeats 1000000 in
/-- Drop -/
theorem drop (h : RefR w g hs F) (x : Int) (hl : hs.length ≤ 1099511627776) (hlt : tot hs ≤ 1099511627775) (h0 : hget hs x = none → K (.tuple [.slice none 0 0, .int .i64 220].toArray) w)
    (hK : ∀ i fs v w' gone, hget hs x = some i → hs[i]? = some (fs, true) → Rise gone (Gone hs fs) → Sl w' v gone.length 1 (gone.map encE) → (∀ b, v.ownBlock = some b → w.heap.size ≤ b) → RefR w' g (hs.set i (fs, false)) F → Ext F w w' → K (.tuple [v, .int .i64 0].toArray) w') : CallS Try.prog 11 #[.pointer (some ⟨g, 0, none⟩), encH x] K w := by
  refine s11_call hm ?_
  unfold s11
  refine pur (bin_lss _ _ _) ?_
  by_cases hx : 1 ≤ x ∧ x ≤ (hs.length : Int)
  · obtain ⟨i, rfl⟩ : ∃ i : Nat, x = ((i + 1 : Nat) : Int) := ⟨(x - 1).toNat, by omega⟩
    obtain ⟨⟨fs, c⟩, hp⟩ := getN (xs := hs) (i := i) (by omega)
    have hsub : binV .sub (encH ((i + 1 : Nat) : Int)) (.int .i64 1) = some (.int .i64 (i : Int)) := sub64 (by omega) (by omega) (by omega)
    have e' : (((i + 1 : Nat) : Int) - 1).toNat = i := by omega
    rw [decide_eq_false (by omega : ¬ ((i + 1 : Nat) : Int) < 1)]
    refine join1 (fun t w' => w = w' ∧ t = .bool false) ?_ fun J0 hJ0 => ifYes' _ _ (h.lenL (pur (bin_gtr _ _ _) (hJ0 _ _ ⟨rfl, by congr 1; exact decide_eq_false (by omega)⟩)))
    rintro _ _ ⟨rfl, rfl⟩
    refine pur (pick_b _ _ _) ?_
    rw [if_neg (by simp)]
    have hld : ∀ {K' : Value → World → Prop}, K' (.bool c) w → PureS (nilV (.pointer (some ⟨g, 0, none⟩))) fun t => PureS (fieldAddrV 1 t) fun t => LoadC t (fun t w => PureS (binV .sub (encH ((i + 1 : Nat) : Int)) (.int .i64 1)) fun j => PureS (indexAddrV 1 t j) fun t => LoadC t K' w) w := fun {K'} hK' => by
      have := h.heldAt hp hK'
      rw [show (PureS (binV .sub (encH ((i + 1 : Nat) : Int)) (.int .i64 1)) : (Value → Prop) → Prop) = PureS (some (.int .i64 (i : Int))) by rw [hsub]]
      exact this
    refine join1 (fun t w' => w = w' ∧ t = .bool (!c)) ?_ fun J1 hJ1 => ifYes' _ _ (hld (pur (not_b _) (hJ1 _ _ ⟨rfl, rfl⟩)))
    rintro _ _ ⟨rfl, rfl⟩
    refine pur (pick_b _ _ _) ?_
    rw [if_neg (by simp)]
    cases c with
    | false =>
      refine condT rfl (h0 ?_)
      unfold hget
      rw [if_pos hx, e', hp]
    | true =>
      refine condF rfl ?_
      have hg := hget_at hp
      obtain ⟨lv, hv, ps, G, h1, h2, h3, h4, h5, h6, h7⟩ := h
      obtain ⟨gs, r1, r2, r3, r4⟩ := Own.at1 h4 (i := i) (x := .bool true) (by unfold rowB; rw [List.getElem?_map, hp]; rfl) .i64
      refine pur (nil_ptr _) (pur (field_ptr _ _ _) (loadB h1 (v := hv) rfl (pur hsub (pur r2 (r4 (.bool false) rfl fun w1 ho1 e1 z1 => ?_)))))
      have hFs : F gs := (h7 gs).2 (.inr (.inr (.inl r1)))
      have hlh : ∀ b, lv.ownBlock = some b → ¬ At1 gs b := fun b hb hh => Own.ne_own h3 h4 (by decide) b hb (by rw [show b = gs from hh]; exact r1)
      have hR1 : RefR w1 g (hs.set i (fs, false)) F := ⟨lv, hv, ps.set i ((((ps[i]?).map (·.1)).getD (lv, fs)), false), G, h1.ext e1 (fun hh => Own.ne_blk h4 h1 (by decide) (by rw [show g = gs from hh]; exact r1)), by
          obtain ⟨⟨q, c⟩, hq⟩ := getN (xs := ps) (i := i) (by have := absF_len h2; have := (List.getElem?_eq_some_iff.1 hp).1; omega)
          rw [hq]
          have := absF_at h2 (i := i)
          rw [hp, hq] at this
          simp only [Option.map_some, Option.some.injEq, Prod.mk.injEq] at this
          rw [← h2]; simp [absF, this.1], by
          obtain ⟨⟨q, c⟩, hq⟩ := getN (xs := ps) (i := i) (by have := absF_len h2; have := (List.getElem?_eq_some_iff.1 hp).1; omega)
          have he : rowF (ps.set i ((((ps[i]?).map (·.1)).getD (lv, fs)), false)) = rowF ps := by
            unfold rowF
            rw [hq, List.map_set]
            refine List.ext_getElem? fun j => ?_
            rw [List.getElem?_set]
            split
            · rename_i hij; subst hij
              rw [List.getElem?_map, hq]; simp
              exact (List.getElem?_eq_some_iff.1 hq).1
            · rfl
          rw [he, List.length_set]
          exact owns_ext h3 e1 hlh, by
          unfold rowB at ho1 ⊢
          rw [List.length_set, List.map_set]; exact ho1, fun p hp' => by
          have hmem : ∃ q ∈ ps, q.1 = p.1 := by
            obtain ⟨⟨q, c⟩, hq⟩ := getN (xs := ps) (i := i) (by have := absF_len h2; have := (List.getElem?_eq_some_iff.1 hp).1; omega)
            rw [hq] at hp'
            rcases List.mem_or_eq_of_mem_set hp' with hp' | rfl
            · exact ⟨p, hp', rfl⟩
            · exact ⟨(q, c), List.mem_of_getElem? hq, rfl⟩
          obtain ⟨q, hq, hqe⟩ := hmem
          obtain ⟨s1, s2⟩ := h5 q hq
          rw [hqe] at s1 s2
          exact ⟨s1.ext e1 fun b hb hh => (h6 b (s2 b hb)).2.2.2 (by rw [show b = gs from hh]; exact r1), s2⟩, fun b hb => ⟨Nat.lt_of_lt_of_le (h6 b hb).1 e1.size, (h6 b hb).2⟩, h7⟩
      clear h1 h2 h3 h4 h5 h6 h7 r2 r3 r4 ho1 hlh hld
      have eF1 : Ext F w w1 := e1.mono fun b hb _ => by rw [show b = gs from hb]; exact hFs
      have hp1 : (hs.set i (fs, false))[i]? = some (fs, false) := by rw [List.getElem?_set_self]; exact (List.getElem?_eq_some_iff.1 hp).1
      have hfl : fs.length ≤ tot hs := len_le_tot (p := (fs, true)) (List.mem_of_getElem? hp)
      have htz : ∀ y, tm (hs.set i (fs, false)) y = 0 ↔ tm hs y = fs.count y := fun y => by have := tm_set hp y; omega
      let P : Nat → Nat → Prop := fun k y => y ∈ fs.take k ∧ tm hs y = fs.count y
      refine join1 (fun v w' => ∃ gone : List Nat, Rise gone (Gone hs fs) ∧ Sl w' v gone.length 1 (gone.map encE) ∧ (∀ b, v.ownBlock = some b → w.heap.size ≤ b) ∧ Ext No w1 w') ?_ fun J2 hJ2 => ?_
      · rintro v w2 ⟨gone, hr, s2, f2, e2⟩
        exact hK i fs v w2 gone hg hp hr s2 f2 (hR1.no e2) (eF1.trans e2.no)
      refine loop2 (σ := Nat) (fun k v b w' => b = .int .i64 (k : Int) ∧ k ≤ fs.length ∧ ∃ gone : List Nat, Rise gone (P k) ∧ gone.length ≤ k ∧ Sl w' v gone.length 1 (gone.map encE) ∧ (∀ b, v.ownBlock = some b → w.heap.size ≤ b) ∧ Ext No w1 w') (fun k => fs.length - k) 0
        ⟨rfl, Nat.zero_le _, [], ⟨List.Pairwise.nil, fun y => by simp [P]⟩, Nat.le_refl _, Sl.nil_ _ _, by simp [Value.ownBlock], Ext.refl _ _⟩ ?_
      rintro k v _ w2 ⟨rfl, hk, gone, hr, hgl, s2, f2, e2⟩ L3 hL3
      have hR2 := hR1.no e2
      have fat : ∀ {w3 : World}, RefR w3 g (hs.set i (fs, false)) F → ∃ v, Sl w3 v fs.length 1 (fs.map encE) ∧
          ∀ {K' : Value → World → Prop}, K' v w3 → PureS (nilV (.pointer (some ⟨g, 0, none⟩))) fun t => PureS (fieldAddrV 0 t) fun t => LoadC t (fun t w => PureS (binV .sub (encH ((i + 1 : Nat) : Int)) (.int .i64 1)) fun j => PureS (indexAddrV 1 t j) fun t => LoadC t K' w) w3 := fun {w3} hR => by
        obtain ⟨v, sv, _, hat⟩ := hR.filesAt hp1
        refine ⟨v, sv, fun {K'} hK' => ?_⟩
        rw [show (PureS (binV .sub (encH ((i + 1 : Nat) : Int)) (.int .i64 1)) : (Value → Prop) → Prop) = PureS (some (.int .i64 (i : Int))) by rw [hsub]]
        exact hat hK'
      obtain ⟨vf, sv, hat⟩ := fat hR2
      refine hat (pur sv.len (pur (bin_lss _ _ _) (condD (fun hlt' => ?_) (fun hge => hJ2 _ _ ⟨gone, ⟨hr.1, fun y => by rw [hr.2]; show _ ∧ _ ↔ _; rw [List.take_of_length_le (by omega)]; rfl⟩, s2, f2, e2⟩))))
      obtain ⟨y, hy⟩ := getN (xs := fs) (i := k) (by omega)
      have hPs : ∀ z, P (k + 1) z ↔ P k z ∨ z = y ∧ tm hs z = fs.count z := fun z => by
        show z ∈ fs.take (k + 1) ∧ _ ↔ (z ∈ fs.take k ∧ _) ∨ _
        rw [List.take_add_one, hy]
        simp [or_and_right]
      refine join1 (fun v w' => ∃ gone : List Nat, Rise gone (P (k + 1)) ∧ gone.length ≤ k + 1 ∧ Sl w' v gone.length 1 (gone.map encE) ∧ (∀ b, v.ownBlock = some b → w.heap.size ≤ b) ∧ Ext No w1 w') ?_ fun J4 hJ4 => ?_
      · rintro v3 w3 h3
        exact pur (add64 (c := ((k + 1 : Nat) : Int)) (by omega) (by omega) (by omega)) (hL3 (k + 1) _ _ _ ⟨rfl, by omega, h3⟩ (by omega))
      obtain ⟨ad, q1, q2, q3⟩ := sl_idx1 sv (i := k) (v := encE y) (by simp [hy]) .i64
      have hlt2 : tot (hs.set i (fs, false)) ≤ 1099511627776 := by rw [tot_set hp]; omega
      refine hat (pur q1 (SG.load (S := No) (q3 _ sv) (hR2.times y (by simpa using hl) hlt2 (pur (bin_eql _ _ _) (condD (fun hz => ?_) (fun hz => ?_))))))
      · have hz' := (htz y).1 (by omega)
        refine hat (pur q1 (SG.load (S := No) (q3 _ sv) ?_))
        refine c34 s2 hr.1 (by omega) fun v3 w3 gone' hr3 hl3 s3 f3 e3 => hJ4 _ _ ⟨gone', ⟨hr3.1, fun z => (hr3.2 z).trans ?_⟩, by omega, s3, fun b hb => ?_, e2.trans e3⟩
        · show z ∈ gone ∨ z = y ↔ _
          rw [hPs, hr.2]
          constructor
          · rintro (h | rfl)
            · exact .inl h
            · exact .inr ⟨rfl, hz'⟩
          · rintro (h | ⟨rfl, _⟩)
            · exact .inl h
            · exact .inr rfl
        · rcases f3 b hb with h | h
          · exact f2 b h
          · have := e1.size; have := e2.size; omega
      · refine hJ4 _ _ ⟨gone, ⟨hr.1, fun z => ?_⟩, by omega, s2, f2, e2⟩
        rw [hPs, hr.2]
        constructor
        · exact .inl
        · rintro (h | ⟨rfl, h⟩)
          · exact h
          · exact absurd (by have := (htz z).2 h; omega) hz
  · have hn : hget hs x = none := by unfold hget; rw [if_neg hx]
    refine join1 (fun t w' => w = w' ∧ (1 ≤ x → t = .bool true)) ?_ fun J0 hJ0 => ?_
    · rintro t _ ⟨rfl, ht⟩
      refine pur (v := .bool true) ((pick_b _ _ _).trans (by
        by_cases h1 : x < 1
        · rw [if_pos (by simpa using h1)]
        · rw [if_neg (by simpa using h1), ht (by omega)])) ?_
      refine join1 (fun t w' => w = w') (fun t w' hh => by subst hh; exact pur (pick_b _ _ _) (by rw [if_pos rfl]; exact condT rfl (h0 hn))) fun J1 hJ1 => ifNo' _ _ (hJ1 _ _ rfl)
    · by_cases h1 : x < 1
      · rw [decide_eq_true h1]
        exact ifNo' _ _ (hJ0 _ _ ⟨rfl, fun h => by omega⟩)
      · rw [decide_eq_false h1]
        exact ifYes' _ _ (h.lenL (pur (bin_gtr _ _ _) (hJ0 _ _ ⟨rfl, fun _ => by congr 1; exact decide_eq_true (by omega)⟩)))
end RefR
end Go.Proofs.Ytkladgpaicolnaa
/-! Rules: a slice made with room. No program stands here. -/
namespace SG
open Go Go.RowKit Go.Lib
set_option linter.unusedSimpArgs false
set_option linter.unusedVariables false
theorem makeCap {P : Program} {t e : TypeId} {size bytes : Nat} {z : Value} (hT : ElemT P t e size bytes z) {kl kc : IntKind} {n : Nat} (hz1 : z.cells.size = size) (hb : bytes * n ≤ 281474976710656) (hn : n ≤ 140737488355328) {w : World} {K : Value → World → Prop}
    (hK : ∀ v w', w'.ownsRow w.heap.size e size v 0 [] → v.ownBlock = some w.heap.size → Ext No w w' → K v w') :
    RunS P (Instr.makeSlice t (.int kl 0) (.int kc (n : Int))) K w := by
  obtain ⟨i, hi, hz, hsz, hby⟩ := info_parts hT.info
  have hb' : (i.bytes : Int) * (n : Int) ≤ 281474976710656 := by
    rw [hby]
    have h : ((bytes * n : Nat) : Int) ≤ 281474976710656 := by omega
    rwa [Int.natCast_mul] at h
  have hr := run_make (P := P) w t e i z hT.under hi hz kl kc 0 n (by omega) (by omega) hb' (by omega)
  simp only [Int.toNat_natCast, hsz] at hr
  refine runS hr (hK _ _ ⟨by simp, .inr ⟨w.heap.size, n, madeCells z.cells (n * size), rfl, Nat.le_refl _, heap_alloc_new w _, Nat.zero_le _, by unfold maxLen; omega, ?_, by simp⟩⟩ rfl (Ext.alloc w _))
  unfold madeCells
  simp
end SG
/-! Snaps: both are told the same of files; the law, walked. -/
namespace Go.Proofs.Ytkladgpaicolnaa
open Go SG Go.RowKit Go.Lib
set_option linter.unusedVariables false
set_option maxRecDepth 4000
set_option linter.unusedSimpArgs false

def sumF (l : List Act4) : Nat := (l.map fun a => a.fs.length).sum
theorem sumF_take_succ {l : List Act4} {i : Nat} {a : Act4} (h : l[i]? = some a) : sumF (l.take (i + 1)) = sumF (l.take i) + a.fs.length := by
  rw [List.take_add_one, h]; simp [sumF]
theorem sumF_take_le (l : List Act4) (i : Nat) : sumF (l.take i) ≤ sumF l := by
  have h := congrArg sumF (List.take_append_drop i l)
  have h2 : sumF (l.take i ++ l.drop i) = sumF (l.take i) + sumF (l.drop i) := by unfold sumF; rw [List.map_append, List.sum_append]
  omega
def Rf (g : Nat) (hs : List (List Nat × Bool)) : Part := fun w F => RefsF w g hs F
def Rr (g : Nat) (hs : List (List Nat × Bool)) : Part := fun w F => RefR w g hs F
theorem Rf.st (g : Nat) (hs : List (List Nat × Bool)) : Stable (Rf g hs) := ⟨fun h e hn => RefsF.ext h e hn, fun h hb => RefsF.lt h hb⟩
theorem Rr.st (g : Nat) (hs : List (List Nat × Bool)) : Stable (Rr g hs) := ⟨fun h e hn => RefR.ext h e hn, fun h hb => RefR.lt h hb⟩
def Rp (g gd : Nat) (hs : List (List Nat × Bool)) : Part := Star (Rf g hs) (Rr gd hs)
theorem Rp.st (g gd : Nat) (hs : List (List Nat × Bool)) : Stable (Rp g gd hs) := Star.st (Rf.st _ _) (Rr.st _ _)
/-- both have gone on -/
theorem bothOn {B A' B' : Part} (sA' : Stable A') (sB : Stable B) {w w5 w6 : World} {F FA FA' FB FB' : Nat → Prop} (hB : B w FB) (hd : ∀ b, FA b → ¬ FB b) (hF : ∀ b, F b ↔ FA b ∨ FB b)
    (hA' : A' w5 FA') (kA : Stp w FA w5 FA') (hB' : B' w6 FB') (kB : Stp w5 FB w6 FB') : ∃ F', Star A' B' w6 F' ∧ Stp w F w6 F' := by
  obtain ⟨h1, h2⟩ := Star.step1 (A' := A') sB hB hd hF hA' kA
  have hd5 : ∀ b, FA' b → ¬ FB b := fun b hb hh => (kA.sub b hb).elim (fun h => hd b h hh) fun h => by have := sB.lt hB hh; omega
  obtain ⟨h3, h4⟩ := Star.step2 (F := fun b => FA' b ∨ FB b) (A := A') (B' := B') sA' hA' hd5 (fun _ => Iff.rfl) hB' kB
  exact ⟨_, h3, h2.trans h4⟩
/-- the program's keys are few -/
theorem neededF {w : World} {g : Nat} {hs : List (List Nat × Bool)} {F : Nat → Prop} {K : Value → World → Prop} (h : RefsF w g hs F) (hlt : tot hs ≤ 1099511627775) (hK : ∀ v w' fs, Rise fs (fun f => 0 < tm hs f) → w'.ownsRow w.heap.size 30 1 v fs.length (fs.map encE) → Ext No w w' → K v w') : CallS Try.prog 13 #[.pointer (some ⟨g, 0, none⟩)] K w :=
  h.needed (fun mt hk hg => by have := keys_le hk hg; omega) hK
theorem rise_need_len {hs : List (List Nat × Bool)} {fs : List Nat} (h : Rise fs fun f => 0 < tm hs f) : fs.length ≤ tot hs := by rw [← allF_len]; exact h.len fun x hx => tm_allF hx
/-- numbers are written over -/
theorem over {w : World} {v : Value} {base n : Nat} {fs : List Nat} (ho : w.ownsRow base 30 1 v n (fs.map encE)) {i : Nat} (hi : i < fs.length) {K : World → Prop}
    (hK : ∀ w', w'.ownsRow base 30 1 v n ((fs.set i 77).map encE) → Ext (fun b => v.ownBlock = some b) w w' → K w') : PureS (indexAddrV 1 v (.int .i64 (i : Int))) fun t => StoreC t (.int .u64 77) K w := by
  obtain ⟨y, hy⟩ := getN (xs := fs) (i := i) hi
  obtain ⟨ga, q1, q2, q3, q4⟩ := Own.at1 ho (i := i) (x := encE y) (by rw [List.getElem?_map, hy]; rfl) .i64
  exact pur q2 (q4 (encE 77) rfl fun w2 ho2 e2 z2 => hK w2 (by rw [List.map_set]; exact ho2) (e2.mono fun b hb _ => by rw [show b = ga from hb]; exact q1))

set_option maxHeartbeats 2000000 in
theorem snapsRefs {w0 : World} {x : Value} {l : List Act4} (hs : Sl w0 x l.length 4 (flat Act4.cells l)) (hl : ∀ a ∈ l, Act4Ok w0 a) (hn : l.length ≤ 1048576) (hsum : sumF l ≤ 1048576) : CallS Try.prog 3 #[x] (fun v w' => v = .bool true ∧ Ext No w0 w') w0 := by
  refine s3_call hm ?_
  unfold s3
  refine RefsF.new fun g w1 FA h1 e1 hFA => ?_
  refine runS (RefR.build29 w1) (box fun w2 b2 e2 z2 => ?_)
  have b2' : Blk w2 w1.heap.size 29 [.slice none 0 0, .slice none 0 0] := b2
  refine eq_nil_ptr Try.underlying23 (condF rfl ?_)
  have hR : RefR w2 w1.heap.size [] (At1 w1.heap.size) := RefR.new b2'
  have hP2 : Rp g w1.heap.size [] w2 (fun b => FA b ∨ At1 w1.heap.size b) := ⟨FA, _, (Rf.st _ _).no h1 e2, hR, fun b hb hh => by have := h1.lt hb; rw [show b = w1.heap.size from hh] at this; omega, fun _ => Iff.rfl⟩
  have hF2 : ∀ b, (FA b ∨ At1 w1.heap.size b) → w0.heap.size ≤ b := fun b hb => hb.elim (hFA b) fun h => by rw [show b = w1.heap.size from h]; exact e1.size
  clear hR b2' b2
  refine join0 (fun w' => ∃ hs F, Rp g w1.heap.size hs w' F ∧ hs.length ≤ 1048576 ∧ tot hs ≤ 1048576 ∧ Ext No w0 w' ∧ ∀ b, F b → w0.heap.size ≤ b) ?_ fun J0 hJ0 => ?_
  · rintro w3 ⟨hs, F, hP, hh, ht, e3, hF⟩
    have hP3 := (Rp.st _ _ _).no hP (Ext.drew w3)
    have e3d := e3.trans (Ext.drew w3)
    obtain ⟨FA, FB, hA, hB, hd, hFF⟩ := hP3
    have hB0 := hB
    obtain ⟨lv, hv, ps, G, c1, c2, c3, c4, c5, c6, c7⟩ := hB
    refine draw (fun w' => Blk w' w1.heap.size 29 [lv, hv]) c1 ?_
    refine pur (nil_ptr _) (pur (field_ptr _ _ _) (heldC (v := lv) (fun w' hh => hh.cell 0) (pur (Sl.own c3).len (pur (add64 (c := ((hs.length + 1 : Nat) : Int)) (by omega) (by omega) (by omega)) ?_))))
    refine build1 TCE rfl fun w4 b4 e4 z4 => ⟨c1.no e4, ?_⟩
    refine RefsF.add (fs := [4]) ((Rf.st _ _).no hA e4) (b4.sl (n := 1) (c := 1) (size := 1) rfl (Nat.le_refl _)) (fun b hb hh => ?_) (by omega) (by simp; omega) fun w5 F5 hA5 k5 => ?_
    · have : b = w3.drew.heap.size := by simpa [Value.ownBlock, eq_comm] using hb
      have := (Rf.st _ _).lt hA hh; omega
    · have hgn : ∀ b, FB b → ¬ FA b := fun b hb hh => hd b hh hb
      refine ⟨(c1.no e4).ext k5.ext (hgn _ ((c7 _).2 (.inl rfl))), ?_⟩
      refine pur (bin_eql _ _ _) (condT (by simp) ?_)
      refine RefsF.times hA5 4 (RefR.times (((Rr.st _ _).no hB0 e4).ext k5.ext hgn) 4 (by omega) (by omega) ?_)
      have htm := tm_le hs 4
      refine pur (add64 (c := ((tm hs 4 + 1 : Nat) : Int)) (by omega) (by omega) (by omega)) (pur (bin_eql _ _ _) (pur (pick_b _ _ _) ⟨?_, ?_⟩))
      · rw [tm_append, tm_one]
        simp
      · exact ((e3d.trans e4).fresh k5.ext fun b hb => .inr (hF b ((hFF b).2 (.inl hb))))
  · refine loop1 (σ := Nat) (fun i v w' => v = .int .i64 (i : Int) ∧ i ≤ l.length ∧ ∃ hs F, Rp g w1.heap.size hs w' F ∧ hs.length ≤ i ∧ tot hs ≤ sumF (l.take i) ∧ Ext No w0 w' ∧ ∀ b, F b → w0.heap.size ≤ b) (fun i => l.length - i) 0
      ⟨rfl, by omega, [], _, hP2, by simp, by simp [tot], e1.trans e2, hF2⟩ ?_
    rintro i _ w3 ⟨rfl, hi, fl, F, hP, hfl, hft, e3, hF⟩ L2 hL2
    have hti := sumF_take_le l i
    refine pur hs.len (pur (bin_lss _ _ _) (condD (fun hlt => ?_) (fun _ => hJ0 _ ⟨fl, F, hP, by omega, by omega, e3, hF⟩)))
    obtain ⟨a, ha⟩ := getN (xs := l) (i := i) (by omega)
    have hok := hl a (List.mem_of_getElem? ha)
    have hts := sumF_take_succ ha
    have hti1 := sumF_take_le l (i + 1)
    obtain ⟨ad, q1, q2⟩ := act4_at hs ha
    refine join0 (fun w' => ∃ hs F, Rp g w1.heap.size hs w' F ∧ hs.length ≤ i + 1 ∧ tot hs ≤ sumF (l.take (i + 1)) ∧ Ext No w0 w' ∧ ∀ b, F b → w0.heap.size ≤ b) ?_ fun J3 hJ3 => ?_
    · rintro w4 h4
      exact pur (add64 (c := ((i + 1 : Nat) : Int)) (by omega) (by omega) (by omega)) (hL2 (i + 1) _ _ ⟨rfl, by omega, h4⟩ (by omega))
    refine pur q1 (loadA (At.no q2 e3) rfl (box fun w4 b4 e4 z4 => storeAll b4 rfl (by simp [Value.cells]) (Act4.one hok) fun w5 b5 e5 z5 => ?_))
    have e35 : Ext No w3 w5 := e4.fresh e5 fun b hb => .inr (by rw [show b = w3.heap.size from hb]; exact Nat.le_refl _)
    have hP5 := (Rp.st _ _ _).no hP e35
    have hn6 : ¬ F w3.heap.size := fun hh => by have := (Rp.st _ _ _).lt hP hh; omega
    have e05 := e3.trans e35
    have hx5 : w3.heap.size < w5.heap.size := b5.lt
    generalize hga : w3.heap.size = ga at *
    clear hP e3 e35 e4 e5 b4 q2
    -- what is told of files
    refine join0 (fun w' => ∃ hs F, Rp g w1.heap.size hs w' F ∧ hs.length ≤ i + 1 ∧ tot hs ≤ sumF (l.take (i + 1)) ∧ Ext No w0 w' ∧ (∀ b, F b → w0.heap.size ≤ b) ∧ Blk w' ga 33 a.cells) ?_ fun J4 hJ4 => ?_
    · clear hP5 hF hn6 b5 hft hfl
      rintro w6 ⟨fl, F, hP, hfl, hft, e6, hF, b6⟩
      refine join1 (fun t w' => t = .bool false ∧ ∃ hs F, Rp g w1.heap.size hs w' F ∧ hs.length ≤ i + 1 ∧ tot hs ≤ sumF (l.take (i + 1)) ∧ Ext No w0 w' ∧ ∀ b, F b → w0.heap.size ≤ b) ?_ fun J5 hJ5 => ?_
      · rintro _ w7 ⟨rfl, h7⟩
        exact condF rfl (hJ3 _ h7)
      have hP6 := (Rp.st _ _ _).no hP (Ext.drew w6)
      have b6d := b6.no (Ext.drew w6)
      have e6d := e6.trans (Ext.drew w6)
      obtain ⟨FA, FB, hA, hB, hd, hFF⟩ := hP6
      refine draw (fun w' => Blk w' ga 33 a.cells) b6d ?_
      refine neededF hA (by omega) fun v7 w7 n7 hr7 ho7 e7 => ⟨b6d.no e7, ?_⟩
      refine RefR.needed ((Rr.st _ _).no hB e7) (by omega) (by omega) fun v8 w8 n8 hr8 hs8 hf8 e8 => ⟨(b6d.no e7).no e8, ?_⟩
      obtain rfl := hr7.unique hr8
      have hn7 := rise_need_len hr7
      refine c12 (owns_ext ho7 e8 fun _ _ hh => hh) hs8 (fun _ b hb hh => by have := hf8 b hh; have := (ho7.lt b hb).2; omega) (by omega) fun w9 e9 => ?_
      have hfr : ∀ b, v7.ownBlock = some b → w6.drew.heap.size ≤ b := fun b hb => (ho7.lt b hb).1
      have e69 : Ext No w6.drew w9 := (e7.trans e8).fresh e9 fun b hb => .inr (hfr b hb)
      refine ⟨b6d.no e69, pur (not_b _) (condF rfl (pur (field_ptr _ _ _) (pur (field_ptr _ _ _) (heldC (v := encE a.s) (fun w' hh => hh.cell 2) (heldC (v := encE a.s) (fun w' hh => hh.cell 2) ?_)))))⟩
      refine RefsF.times ((Rf.st _ _).no hA e69) a.s ⟨b6d.no e69, RefR.times ((Rr.st _ _).no hB e69) a.s (by omega) (by omega) (pur (bin_neq _ _ _) (pur (pick_b _ _ _) (hJ5 _ _ ⟨?_, fl, F, ⟨FA, FB, (Rf.st _ _).no hA e69, (Rr.st _ _).no hB e69, hd, hFF⟩, hfl, hft, e6d.trans e69, hF⟩)))⟩
      simp
    · refine pur (field_ptr _ _ _) (loadB b5 (v := .int .i64 a.kind) rfl (pur (bin_eql _ _ _) (condD (fun hk => ?_) (fun hk => ?_))))
      · -- files are added
        have b5d := b5.no (Ext.drew w5)
        have e5d := e05.trans (Ext.drew w5)
        have hP5d := (Rp.st _ _ _).no hP5 (Ext.drew w5)
        obtain ⟨FA, FB, hA, hB, hd, hFF⟩ := hP5d
        have hfs := hok.f.no e5d
        refine draw (fun w' => Blk w' ga 33 a.cells) b5d (pur (field_ptr _ _ _) (pur (field_ptr _ _ _) ?_))
        refine heldC (v := a.fv) (fun w' hh => hh.cell 3) (pur hfs.len (pur (add64 (c := ((a.fs.length + 1 : Nat) : Int)) (by omega) (by omega) (by omega)) (heldC (v := a.fv) (fun w' hh => hh.cell 3) ?_)))
        refine makeCap TCE rfl (by omega) (by omega) fun v6 w6 ho6 hb6 e6 => ⟨b5d.no e6, ?_⟩
        refine append_sl TCE 31 ho6 (hfs.no e6) (encs_one a.fs) (by omega) (by omega) e6.size fun v7 w7 ho7 hg7 hat => ?_
        have e57 : Ext No w5.drew w7 := e6.fresh (Ext.grown (S := fun b => v6.ownBlock = some b) hg7 fun b hb => hb) fun b hb => .inr (by rw [hb6] at hb; cases hb; exact Nat.le_refl _)
        have hv7 : ∀ b, v7.ownBlock = some b → w5.drew.heap.size ≤ b := fun b hb => (ho7.lt b hb).1
        have ho7' : w7.ownsRow w5.drew.heap.size 30 1 v7 a.fs.length (a.fs.map encE) := by simpa using ho7
        refine RefsF.add (fs := a.fs) ((Rf.st _ _).no hA e57) (Sl.own ho7') (fun b hb hh => by have := hv7 b hb; have := (Rf.st _ _).lt hA hh; omega) (by omega) (by omega) fun w8 F8 hA8 k8 => ?_
        have e58 : Ext FA w5.drew w8 := e57.no.trans k8.ext
        have hgaF : ¬ FA ga := fun hh => hn6 ((hFF _).2 (.inl hh))
        have b8 : Blk w8 ga 33 a.cells := b5d.ext e58 hgaF
        have ho8 := owns_ext ho7' k8.ext fun b hb hh => by have := hv7 b hb; have := (Rf.st _ _).lt hA hh; omega
        have hv8 : ∀ b, v7.ownBlock = some b → ¬ F8 b := fun b hb hh => by
          rcases k8.sub b hh with h | h
          · have := hv7 b hb; have := (Rf.st _ _).lt hA h; omega
          · have := (ho7.lt b hb).2; omega
        have hgl5 : ga < w5.drew.heap.size := hx5
        refine join0 (fun w' => Ext (fun b => v7.ownBlock = some b) w8 w') ?_ fun J8 hJ8 => ?_
        · rintro w9 e9
          have b9 := b8.ext e9 fun hh => by have := hv7 _ hh; omega
          have kA : Stp w5.drew FA w9 F8 := ⟨e58.trans' e9 (fun b hb _ => hb) fun b hb hl => by have := hv7 b hb; omega, fun b hb => (k8.sub b hb).imp id fun h => by have := e57.size; omega⟩
          have hA9 : Rf g (fl ++ [(a.fs, true)]) w9 F8 := (Rf.st _ _).ext hA8 e9 fun b hb hh => hv8 b hh hb
          have e09 : Ext No w0 w9 := e5d.fresh kA.ext fun b hb => .inr (hF b ((hFF b).2 (.inl hb)))
          refine pur (field_ptr _ _ _) (loadB b9 (v := a.fv) rfl ?_)
          refine RefR.add (fs := a.fs) ((Rr.st _ _).ext hB kA.ext fun b hb hh => hd b hh hb) (hok.f.no e09) (by omega) (by omega) fun w10 F10 hB10 k10 => ?_
          obtain ⟨F', hP', k'⟩ := bothOn (A' := Rf g (fl ++ [(a.fs, true)])) (B' := Rr w1.heap.size (fl ++ [(a.fs, true)])) (Rf.st _ _) (Rr.st _ _) hB hd hFF hA9 kA hB10 k10
          obtain ⟨e010, hF'⟩ := k'.old e5d hF
          refine pur (bin_neq _ _ _) (condF (by simp) (hJ4 _ ⟨_, F', hP', by simp; omega, ?_, e010, hF', b5d.ext k'.ext hn6⟩))
          rw [tot_append, hts]
          have : tot [(a.fs, true)] = a.fs.length := by simp [tot]
          omega
        · refine loop1 (σ := Nat × List Nat) (fun s v w' => v = .int .i64 (s.1 : Int) ∧ s.1 ≤ a.fs.length ∧ s.2.length = a.fs.length ∧ w'.ownsRow w5.drew.heap.size 30 1 v7 a.fs.length (s.2.map encE) ∧ Ext (fun b => v7.ownBlock = some b) w8 w') (fun s => a.fs.length - s.1) (0, a.fs)
            ⟨rfl, Nat.zero_le _, rfl, ho8, Ext.refl _ _⟩ ?_
          rintro ⟨k, gs⟩ _ w9 ⟨rfl, hk', hgl, ho9, e9⟩ L9 hL9
          simp only at hk' hgl ho9 hL9 ⊢
          refine pur (Sl.own ho9).len (pur (bin_lss _ _ _) (condD (fun hlt' => ?_) (fun _ => hJ8 _ e9)))
          refine over ho9 (i := k) (by omega) fun w10 ho10 e10 => ?_
          exact pur (add64 (c := ((k + 1 : Nat) : Int)) (by omega) (by omega) (by omega)) (hL9 (k + 1, gs.set k 77) _ _ ⟨rfl, by simp only; omega, by simpa using hgl, ho10, e9.trans e10⟩ (by simp only; omega))
      · refine pur (bin_eql _ _ _) (condD (fun hk4 => ?_) (fun _ => hJ4 _ ⟨fl, F, hP5, by omega, by omega, e05, hF, b5⟩))
        obtain ⟨FA, FB, hA, hB, hd, hFF⟩ := hP5
        have fin : ∀ {va vb : Value} {gone : List Nat} {wa wb : World} {fl' : List (List Nat × Bool)} {F' : Nat → Prop} (e : Int), gone.length ≤ 1048576 → wa.ownsRow w5.heap.size 30 1 va gone.length (gone.map encE) → wb.ownsRow w5.heap.size 30 1 va gone.length (gone.map encE) → Sl wb vb gone.length 1 (gone.map encE) → (∀ b, vb.ownBlock = some b → wa.heap.size ≤ b) →
            Rp g w1.heap.size fl' wb F' → Stp w5 F wb F' → fl'.length ≤ i + 1 → tot fl' ≤ sumF (l.take (i + 1)) → ∀ {K' : Value → World → Prop}, (∀ w', (∃ hs F, Rp g w1.heap.size hs w' F ∧ hs.length ≤ i + 1 ∧ tot hs ≤ sumF (l.take (i + 1)) ∧ Ext No w0 w' ∧ (∀ b, F b → w0.heap.size ≤ b) ∧ Blk w' ga 33 a.cells) → K' (.bool true) w') → (∀ b, va.ownBlock = some b → ¬ F' b) → CallS Try.prog 12 #[va, vb] K' wb :=
          fun {va vb gone wa wb fl' F'} e hgl hoa ho hsb hvb hP' k' hfl' hft' {K'} hK' hva => by
          refine c12 ho hsb (fun _ b hb hh => by have := hvb b hh; have := (hoa.lt b hb).2; omega) (by omega) fun w9 e9 => hK' _ ?_
          obtain ⟨e0b, hF'⟩ := k'.old e05 hF
          have hva0 : ∀ b, va.ownBlock = some b → w5.heap.size ≤ b := fun b hb => (ho.lt b hb).1
          have := e05.size
          exact ⟨fl', F', (Rp.st _ _ _).ext hP' e9 fun b hb hh => hva b hh hb, hfl', hft', e0b.fresh e9 fun b hb => .inr (by have := hva0 b hb; omega), hF', (b5.ext k'.ext hn6).ext e9 fun hh => by have := hva0 _ hh; omega⟩
        refine pur (field_ptr _ _ _) (loadB b5 (v := encH a.h) rfl ?_)
        refine RefsF.drop hA a.h (by omega) (fun h0 => ?_) fun i0 fs va wa gone hi0 hf0 hr0 ho0 hA' eA => ?_
        · refine pur (extract_0 _ _) (pur (extract_1 _ _ _) (pur (field_ptr _ _ _) (loadB b5 (v := encH a.h) rfl ?_)))
          refine RefR.drop hB a.h (by omega) (by omega) (fun _ => ?_) fun i1 fs1 v1 w1' g1 hi1 _ _ _ _ _ _ => (by rw [h0] at hi1; cases hi1)
          refine pur (extract_0 _ _) (pur (extract_1 _ _ _) ?_)
          refine fin (gone := []) (wa := w5) (fl' := fl) (F' := F) 220 (by simp) (World.ownsRow_nil _ _ _ _) (World.ownsRow_nil _ _ _ _) (Sl.nil_ _ _) (by simp [Value.ownBlock]) ⟨FA, FB, hA, hB, hd, hFF⟩ (Stp.refl _ _) (by omega) (by omega) (fun w' h' => ?_) (by simp [Value.ownBlock])
          refine pur (not_b _) (join1 (fun t w'' => w' = w'' ∧ t = .bool false) ?_ fun J10 hJ10 => ifYes' _ _ (pur (v := .bool false) ((bin_neq _ _ _).trans (by simp)) (hJ10 _ _ ⟨rfl, rfl⟩)))
          rintro _ _ ⟨rfl, rfl⟩
          exact pur (pick_b _ _ _) (condF rfl (hJ4 _ h'))
        · have kA : Stp w5 FA wa FA := ⟨eA, fun b hb => .inl hb⟩
          have bA := b5.ext eA fun hh => hn6 ((hFF _).2 (.inl hh))
          refine pur (extract_0 _ _) (pur (extract_1 _ _ _) (pur (field_ptr _ _ _) (loadB bA (v := encH a.h) rfl ?_)))
          have hBa : RefR wa w1.heap.size fl FB := RefR.ext hB eA fun b hb hh => hd b hh hb
          refine RefR.drop hBa a.h (by omega) (by omega) (fun h0 => (by rw [h0] at hi0; cases hi0)) fun i1 fs1 vb wb g1 hi1 hf1 hr1 hs1 hvb hB' eB => ?_
          obtain rfl : i0 = i1 := by rw [hi0] at hi1; exact Option.some.inj hi1
          obtain rfl : fs = fs1 := by rw [hf0] at hf1; simpa using hf1
          obtain rfl := hr0.unique hr1
          have hP' : Rp g w1.heap.size (fl.set i0 (fs, false)) wb F := ⟨FA, FB, (Rf.st _ _).ext hA' eB fun b hb hh => hd b hb hh, hB', hd, hFF⟩
          have k' : Stp w5 F wb F := ⟨(eA.mono fun b hb _ => (hFF b).2 (.inl hb)).trans (eB.mono fun b hb _ => (hFF b).2 (.inr hb)), fun b hb => .inl hb⟩
          have hfsl : fs.length ≤ tot fl := len_le_tot (p := (fs, true)) (List.mem_of_getElem? hf0)
          have hgl : gone.length ≤ fs.length := hr0.len fun x hx => hx.1
          have hvaF : ∀ b, va.ownBlock = some b → ¬ FB b := fun b hb hh => by have := (ho0.lt b hb).1; have := RefR.lt hB hh; omega
          refine pur (extract_0 _ _) (pur (extract_1 _ _ _) ?_)
          refine fin (gone := gone) (wa := wa) 0 (by omega) ho0 (owns_ext ho0 eB hvaF) hs1 hvb hP' k' (by simp; omega) (by rw [tot_set hf0]; omega) (fun w' h' => ?_) (fun b hb hh => ?_)
          · refine pur (not_b _) (join1 (fun t w'' => w' = w'' ∧ t = .bool false) ?_ fun J10 hJ10 => ifYes' _ _ (pur (v := .bool false) ((bin_neq _ _ _).trans (by simp)) (hJ10 _ _ ⟨rfl, rfl⟩)))
            rintro _ _ ⟨rfl, rfl⟩
            exact pur (pick_b _ _ _) (condF rfl (hJ4 _ h'))
          · have h1 := (ho0.lt b hb).1
            rcases (hFF b).1 hh with h | h
            · have := (Rf.st _ _).lt hA h; omega
            · exact hvaF b hb h
end Go.Proofs.Ytkladgpaicolnaa
/-! Readings that are of small bulk. -/
namespace Go.Proofs.Ytkladgpaicolnaa
open Go
theorem bulk_one {H : Type} (d : DataW H) : 1 ≤ Rows.uptoBulk d := by
  cases d with
  | lit l => cases l <;> simp [Rows.uptoBulk]
  | nil => simp [Rows.uptoBulk]
  | ptr d => simp [Rows.uptoBulk]
  | slice elems spare => simp [Rows.uptoBulk]
  | agg parts => simp [Rows.uptoBulk]
  | iface t d => simp [Rows.uptoBulk]
  | map entries => simp [Rows.uptoBulk]
  | held h => simp [Rows.uptoBulk]
theorem bulk_part {H : Type} {d : DataW H} {l : List (DataW H)} (h : d ∈ l) : Rows.uptoBulk d ≤ Rows.uptoBulkAll l := by
  induction l with
  | nil => cases h
  | cons x r ih =>
    simp only [Rows.uptoBulkAll]
    rcases List.mem_cons.1 h with rfl | e
    · omega
    · have := ih e; omega
theorem bulk_len {H : Type} (l : List (DataW H)) : l.length ≤ Rows.uptoBulkAll l := by
  induction l with
  | nil => simp [Rows.uptoBulkAll]
  | cons x r ih => have := bulk_one x; simp only [Rows.uptoBulkAll, List.length_cons]; omega
theorem bulk_slice {H : Type} (elems spare : List (DataW H)) : Rows.uptoBulkAll elems + 1 ≤ Rows.uptoBulk (.slice elems spare) := by
  simp only [Rows.uptoBulk]
  omega
theorem bulk_bound {H : Type} {l : List (DataW H)} (hk : Rows.uptoSmall H l = true) {d : DataW H} (h : d ∈ l) : Rows.uptoBulk d ≤ 1048576 := by
  have : Rows.uptoBulkAll l ≤ 1048576 := by simpa [Rows.uptoSmall] using hk
  exact Nat.le_trans (bulk_part h) this
theorem bulk_agg {H : Type} {d : DataW H} {l : List (DataW H)} (h : d ∈ l) : Rows.uptoBulk d ≤ Rows.uptoBulk (.agg l) := by
  have := bulk_part h
  simp only [Rows.uptoBulk]; omega
/-- what is read of a list, weighed piece by piece -/
theorem bulk_sum {H α : Type} (f : α → Nat) : ∀ (l : List α) (elems : List (DataW H)), elems.length = l.length → (∀ (i : Nat) a, l[i]? = some a → ∃ x, elems[i]? = some x ∧ f a ≤ Rows.uptoBulk x) → (l.map f).sum ≤ Rows.uptoBulkAll elems
  | [], _, _, _ => by simp
  | a :: l, [], h, _ => by simp at h
  | a :: l, x :: r, h, hx => by
    have ih := bulk_sum f l r (by simpa using h) fun i b hb => by simpa using hx (i + 1) b (by simpa using hb)
    obtain ⟨y, hy, h1⟩ := hx 0 a rfl
    simp only [List.getElem?_cons_zero, Option.some.injEq] at hy
    subst hy
    simp only [List.map_cons, List.sum_cons, Rows.uptoBulkAll]
    omega
end Go.Proofs.Ytkladgpaicolnaa
/-! Snaps: acts as they come in, few. -/
namespace Go.Proofs.Ytkladgpaicolnaa
open Go SG Go.ChangeShapes Go.WideShapes Go.ChangeAt Go.RowKit Go.Lib
set_option linter.unusedVariables false
set_option maxRecDepth 4000
set_option linter.unusedSimpArgs false

/-- acts that came in, of small bulk -/
theorem open_few {H : Type} {enc : TypeId × Value → H} {w : World} {base : Nat} {spare : Nat → Bool} {held : Bool} {v : Value} {d : DataW H} {p : List MemPlace} (h : DataW.Trod enc Try.prog w base spare held 22 v d p) (hone : ∃ a n c, v = .slice a n c) (hw : Rows.uptoBulk d ≤ 1048576) :
    ∃ l : List Act4, Sl w v l.length 4 (flat Act4.cells l) ∧ (∀ a ∈ l, Act4Ok w a) ∧ l.length ≤ 1048576 ∧ sumF l ≤ 1048576 := by
  obtain ⟨fuel, h⟩ := h
  obtain ⟨a, n, c, rfl⟩ := hone
  obtain ⟨l, hs, hc⟩ := open_list Act4.cells_len Try.underlying22 (by kernel_rfl) (Q := Act4D w) (fun n cs x h hl => open_act4 n cs x h hl) h
  rcases hc with ⟨rfl, _⟩ | ⟨elems, sp, rfl, hel, hQ⟩
  · exact ⟨[], hs, (fun r hr => by cases hr), by simp, by simp [sumF]⟩
  · have hb := bulk_slice elems sp
    have hlen := bulk_len elems
    have key : ∀ (i : Nat) a, l[i]? = some a → ∃ x, elems[i]? = some x ∧ a.fs.length ≤ Rows.uptoBulk x := fun i a hi => by
      obtain ⟨x, hx, hh, hss, hsl, d0, d1, d2, dl, hd, hdl⟩ := hQ i a hi
      refine ⟨x, hx, ?_⟩
      rw [hd]
      refine Nat.le_trans ?_ (bulk_agg (d := dl) (by simp))
      rcases hdl with ⟨h0, h1⟩ | ⟨el, sp', h1, h2⟩
      · rw [h0]; exact Nat.zero_le _
      · rw [h1]
        have := bulk_slice el sp'
        have := bulk_len el
        omega
    have hsum := bulk_sum (fun a : Act4 => a.fs.length) l elems hel key
    refine ⟨l, hs, fun a ha => ?_, by omega, by unfold sumF; omega⟩
    obtain ⟨i, hi⟩ := List.getElem?_of_mem ha
    obtain ⟨x, hx, hh, hss, hsl, _⟩ := hQ i a hi
    obtain ⟨x', hx', hle⟩ := key i a hi
    have := bulk_part (List.mem_of_getElem? hx')
    exact ⟨hh, hss, hsl, by omega⟩
theorem snapsRefsFew {w0 : World} {x : Value} {l : List Act4} (hs : Sl w0 x l.length 4 (flat Act4.cells l)) (hl : ∀ a ∈ l, Act4Ok w0 a) (hn : l.length ≤ 1048576 ∧ sumF l ≤ 1048576) : CallS Try.prog 3 #[x] (fun v w' => v = .bool true ∧ Ext No w0 w') w0 := snapsRefs hs hl hn.1 hn.2
end Go.Proofs.Ytkladgpaicolnaa
/-! Snaps: files counted: sums. -/
namespace Go.Proofs.Ytkladgpaicolnaa
open Go SG Go.RowKit Go.Lib
set_option linter.unusedVariables false
set_option maxRecDepth 4000
set_option linter.unusedSimpArgs false

theorem sum_add {α : Type} (f g : α → Nat) (l : List α) : (l.map fun x => f x + g x).sum = (l.map f).sum + (l.map g).sum := by
  induction l with
  | nil => rfl
  | cons a l ih => simp only [List.map_cons, List.sum_cons, ih]; omega
theorem sum_zero {α : Type} (l : List α) : (l.map fun _ => 0).sum = 0 := by
  induction l with
  | nil => rfl
  | cons a l ih => simp only [List.map_cons, List.sum_cons, ih]
theorem sum_is {n : List Nat} (hn : n.Nodup) {a : Nat} (ha : a ∈ n) : (n.map fun y => if a = y then 1 else 0).sum = 1 := by
  induction n with
  | nil => cases ha
  | cons b n ih =>
    have hn' := List.nodup_cons.1 hn
    simp only [List.map_cons, List.sum_cons]
    by_cases hab : a = b
    · subst hab
      have : (n.map fun y => if a = y then 1 else 0) = n.map fun _ => 0 := List.map_congr_left fun y hy => if_neg (fun h : a = y => hn'.1 (h ▸ hy))
      rw [this, sum_zero, if_pos rfl]
    · rw [if_neg hab, ih hn'.2 ((List.mem_cons.1 ha).resolve_left hab)]
theorem sum_count {n : List Nat} (hn : n.Nodup) : ∀ (fs : List Nat), (∀ x ∈ fs, x ∈ n) → (n.map fun y => fs.count y).sum = fs.length
  | [], _ => by simpa using sum_zero n
  | a :: fs, h => by
    have ih := sum_count hn fs fun x hx => h x (List.mem_cons_of_mem _ hx)
    have : (n.map fun y => (a :: fs).count y) = n.map fun y => fs.count y + if a = y then 1 else 0 := List.map_congr_left fun y _ => by
      rw [List.count_cons]
      by_cases hay : a = y <;> simp [hay]
    rw [this, sum_add, ih, sum_is hn (h a (by simp)), List.length_cons]
def heldTot (hs : List (List Nat × Bool)) : Nat := (hs.map fun p => if p.2 then p.1.length else 0).sum
theorem heldTot_le (hs : List (List Nat × Bool)) : heldTot hs ≤ tot hs := by
  induction hs with
  | nil => simp [heldTot, tot]
  | cons p hs ih =>
    simp only [heldTot, tot, List.map_cons, List.sum_cons] at ih ⊢
    split <;> omega
/-- each count, summed -/
theorem sum_tm {n : List Nat} (hn : n.Nodup) : ∀ (hs : List (List Nat × Bool)), (∀ p ∈ hs, p.2 = true → ∀ x ∈ p.1, x ∈ n) → (n.map (tm hs)).sum = heldTot hs
  | [], _ => by
    have : n.map (tm []) = n.map fun _ => 0 := List.map_congr_left fun y _ => by simp [tm]
    rw [this, sum_zero]; rfl
  | p :: hs, h => by
    have ih := sum_tm hn hs fun q hq => h q (List.mem_cons_of_mem _ hq)
    have h1 : n.map (tm (p :: hs)) = n.map fun y => (if p.2 then p.1.count y else 0) + tm hs y := List.map_congr_left fun y _ => by simp [tm]
    rw [h1, sum_add, ih]
    have h2 : heldTot (p :: hs) = (if p.2 then p.1.length else 0) + heldTot hs := by simp [heldTot]
    rw [h2]
    cases hp : p.2 with
    | false =>
      simp only [Bool.false_eq_true, if_false]
      rw [sum_zero]
    | true =>
      simp only [if_true]
      rw [sum_count hn p.1 (h p (by simp) hp)]
theorem sum_need {hs : List (List Nat × Bool)} {n : List Nat} (hr : Rise n fun f => 0 < tm hs f) : (n.map (tm hs)).sum = heldTot hs :=
  sum_tm (hr.1.imp fun h => Nat.ne_of_lt h) hs fun p hp hc x hx => (hr.2 x).2 (tm_pos.2 ⟨p, hp, hc, hx⟩)
/-- the caller's files -/
theorem mOfB_mem {β : Type} {k : Nat} : ∀ {xs : List (β × Bool)} {p : Int × β}, p ∈ mOfB k xs → (p.2, true) ∈ xs
  | [], p, h => by simp [mOfB] at h
  | (v, c) :: xs, p, h => by
    simp only [mOfB] at h
    split at h
    · rename_i hc
      rcases List.mem_cons.1 h with rfl | h
      · simp only at hc ⊢; rw [hc]; simp
      · exact List.mem_cons_of_mem _ (mOfB_mem h)
    · exact List.mem_cons_of_mem _ (mOfB_mem h)
theorem sum_mOfB (k : Nat) : ∀ (qs : List (Fl × Bool)), ((mOfB k qs).map fun p => p.2.2.length).sum = heldTot (absF qs)
  | [] => by simp [mOfB, absF, heldTot]
  | (v, c) :: qs => by
    have ih := sum_mOfB (k + 1) qs
    have h2 : heldTot (absF ((v, c) :: qs)) = (if c then v.2.length else 0) + heldTot (absF qs) := by simp [heldTot, absF]
    rw [h2, ← ih]
    simp only [mOfB]
    cases c <;> simp
theorem sum_sub {α : Type} (f : α → Nat) : ∀ (l m : List α), l.Nodup → (∀ x ∈ l, x ∈ m) → (l.map f).sum ≤ (m.map f).sum
  | [], m, _, _ => by simp
  | a :: l, m, hn, hs => by
    have hn' := List.nodup_cons.1 hn
    obtain ⟨s, t, rfl⟩ := List.append_of_mem (hs a (by simp))
    have := sum_sub f l (s ++ t) hn'.2 fun x hx => by
      have h1 := hs x (List.mem_cons_of_mem _ hx)
      rcases List.mem_append.1 h1 with h | h
      · exact List.mem_append_left _ h
      · rcases List.mem_cons.1 h with rfl | h
        · exact absurd hx hn'.1
        · exact List.mem_append_right _ h
    simp only [List.map_append, List.sum_append, List.map_cons, List.sum_cons] at this ⊢
    omega
theorem sum_take_succ {l : List Nat} {f : Nat → Nat} {i y : Nat} (h : l[i]? = some y) : ((l.take (i + 1)).map f).sum = ((l.take i).map f).sum + f y := by
  rw [List.take_add_one, h]; simp only [Option.toList_some, List.map_append, List.sum_append, List.map_cons, List.map_nil, List.sum_cons, List.sum_nil]; omega
theorem any_take_succ {l : List Nat} {p : Nat → Bool} {i y : Nat} (h : l[i]? = some y) : (l.take (i + 1)).any p = ((l.take i).any p || p y) := by
  rw [List.take_add_one, h, List.any_append]; simp
end Go.Proofs.Ytkladgpaicolnaa
/-! Snaps: the law of files counted, walked. -/
namespace Go.Proofs.Ytkladgpaicolnaa
open Go SG Go.RowKit Go.Lib
set_option linter.unusedVariables false
set_option maxRecDepth 4000
set_option linter.unusedSimpArgs false

theorem RefsF.bk {w : World} {g : Nat} {hs : List (List Nat × Bool)} {F : Nat → Prop} (h : RefsF w g hs F) : F g := by obtain ⟨_, _, _, _, _, _, _, _, _, _, _, _, _, h⟩ := h; exact (h g).2 (.inl rfl)
set_option maxHeartbeats 2000000 in
theorem snapsCounted {w0 : World} {x : Value} {l : List Act4} (hs : Sl w0 x l.length 4 (flat Act4.cells l)) (hl : ∀ a ∈ l, Act4Ok w0 a) (hn : l.length ≤ 1048576 ∧ sumF l ≤ 1048576) : CallS Try.prog 6 #[x] (fun v w' => v = .bool true ∧ Ext No w0 w') w0 := by
  obtain ⟨hn, hsum⟩ := hn
  refine s6_call hm ?_
  unfold s6
  refine c17 fun wl el => pur (not_b _) (condF rfl ?_)
  refine RefsF.new fun g w1 F1 h1 e1 hF1 => ?_
  refine eq_nil_ptr Try.underlying23 (condF rfl ?_)
  refine MapR.make (κ := Int) (ν := Fl) encH encF fun w2 h2 e2 z2 => ?_
  generalize hmb : w1.heap.size = mb at *
  have hb0 : w0.heap.size ≤ mb := by rw [← hmb]; exact (el.trans e1).size
  have hF1' : ∀ b, F1 b → w0.heap.size ≤ b ∧ b ≠ mb := fun b hb => ⟨Nat.le_trans el.size (hF1 b hb), fun hh => by have := h1.lt hb; omega⟩
  -- the state
  let St : Nat → World → Prop := fun i w' => ∃ (fl : List (List Nat × Bool)) (qs : List (Fl × Bool)) (F : Nat → Prop), RefsF w' g fl F ∧ absF qs = fl ∧ MapR w' mb encH encF (mOfB 0 qs) ∧ (∀ q ∈ qs, Sl w0 q.1.1 q.1.2.length 1 (q.1.2.map encE)) ∧ (∀ b, F b → w0.heap.size ≤ b ∧ b ≠ mb) ∧ fl.length ≤ i ∧ tot fl ≤ sumF (l.take i) ∧ Ext No w0 w'
  have hSt0 : St 0 w2 := ⟨[], [], F1, h1.no e2, rfl, h2, fun q hq => (by cases hq), hF1', by simp, by simp [tot], (el.trans e1).trans e2⟩
  clear h1 h2 e1 e2 hF1 hF1' z2
  refine join0 (St l.length) ?_ fun J0 hJ0 => ?_
  · rintro w3 ⟨fl, qs, F, hR, hq, hM, hQ, hF, hfl, hft, e3⟩
    have htl := sumF_take_le l l.length
    have hht := heldTot_le fl
    refine join1 (fun v w' => v = .int .i64 (heldTot fl : Int) ∧ RefsF w' g fl F ∧ Ext No w0 w') ?_ fun J1 hJ1 => ?_
    · rintro _ w4 ⟨rfl, hR4, e4⟩
      refine neededF hR4 (by omega) fun va wa n hr ho ea => ?_
      have hsn := sum_need hr
      have hRa := hR4.no ea
      refine join1 (fun v w' => v = .int .i64 0 ∧ Ext No w0 w') (fun v w' hh => by obtain ⟨rfl, e⟩ := hh; exact pur (bin_eql _ _ _) ⟨by simp, e⟩) fun J2 hJ2 => ?_
      refine loop2 (σ := Nat) (fun i v b w' => wa = w' ∧ b = .int .i64 (i : Int) ∧ i ≤ n.length ∧ v = .int .i64 ((heldTot fl : Int) - (((n.take i).map (tm fl)).sum : Nat))) (fun i => n.length - i) 0 ⟨rfl, rfl, Nat.zero_le _, by simp⟩ ?_
      rintro i _ _ _ ⟨rfl, rfl, hi, rfl⟩ L3 hL3
      refine pur (Sl.own ho).len (pur (bin_lss _ _ _) (condD (fun hlt => ?_) (fun hge => hJ2 _ _ ⟨?_, e4.trans ea⟩)))
      · obtain ⟨y, hy⟩ := getN (xs := n) (i := i) (by omega)
        obtain ⟨ad, q1, q2, q3⟩ := sl_idx1 (Sl.own ho) (i := i) (v := encE y) (by simp [hy]) .i64
        have hts := sum_take_succ (f := tm fl) hy
        have hle : ((n.take (i + 1)).map (tm fl)).sum ≤ heldTot fl := by
          rw [← hsn]
          have := congrArg (fun l => (l.map (tm fl)).sum) (List.take_append_drop (i + 1) n)
          simp only [List.map_append, List.sum_append] at this; omega
        refine pur q1 (SG.load (S := No) (q3 _ (Sl.own ho)) (hRa.times y (pur (sub64 (c := (heldTot fl : Int) - (((n.take (i + 1)).map (tm fl)).sum : Nat)) (by omega) (by omega) (by omega)) (pur (add64 (c := ((i + 1 : Nat) : Int)) (by omega) (by omega) (by
          have := rise_need_len hr; omega)) (hL3 (i + 1) _ _ _ ⟨rfl, rfl, by omega, rfl⟩ (by omega))))))
      · rw [List.take_of_length_le (by omega), hsn]; congr 1; omega
    · refine IterR.start Try.underlying59 hM fun w4 it4 e4 z4 => ?_
      refine iterLoop1 it4 (fun done v w' => v = .int .i64 (((done.map fun p => p.2.2.length).sum : Nat) : Int) ∧ Ext No w3 w') ⟨rfl, e4⟩ 0 (fun done v w' w'' h _ e => ⟨h.1, h.2.fresh e fun b hb => .inr (by rw [show b = w3.heap.size from hb]; exact Nat.le_refl _)⟩) (fun done v p w5 hpm hpd it5 hI L hL => ?_) (fun done v w5 hp hI => hJ1 _ _ ⟨?_, hR.no hI.2, e3.trans hI.2⟩)
      · obtain ⟨rfl, e5⟩ := hI
        have hle := sum_sub (fun p : Int × Fl => p.2.2.length) _ _ it5.sub.1 it5.sub.2
        rw [sum_mOfB, hq] at hle
        have hnew : ((done ++ [p]).map fun p => p.2.2.length).sum = (done.map fun p => p.2.2.length).sum + p.2.2.length := by simp
        refine pur (extract_1 _ _ _) (pur (hQ _ (mOfB_mem hpm)).len (pur (add64 (c := ((((done ++ [p]).map fun p => p.2.2.length).sum : Nat) : Int)) (by rw [hnew]; simp) (by omega) (by omega)) (hL _ _ it5 ⟨rfl, e5⟩)))
      · rw [hI.1, (hp.map _).sum_nat, sum_mOfB, hq]
  refine loop1 (σ := Nat) (fun i v w' => v = .int .i64 (i : Int) ∧ i ≤ l.length ∧ St i w') (fun i => l.length - i) 0 ⟨rfl, by omega, hSt0⟩ ?_
  clear hSt0
  rintro i _ w3 ⟨rfl, hi, hSt⟩ L5 hL5
  refine pur hs.len (pur (bin_lss _ _ _) (condD (fun hlt => ?_) (fun hge => hJ0 _ (by rw [show l.length = i by omega]; exact hSt))))
  obtain ⟨fl, qs, F, hR, hq, hM, hQ, hF, hfl, hft, e3⟩ := hSt
  obtain ⟨a, ha⟩ := getN (xs := l) (i := i) (by omega)
  have hok := hl a (List.mem_of_getElem? ha)
  have hts := sumF_take_succ ha
  have hti1 := sumF_take_le l (i + 1)
  have hql := absF_len hq
  refine join0 (St (i + 1)) (fun w' h' => pur (add64 (c := ((i + 1 : Nat) : Int)) (by omega) (by omega) (by omega)) (hL5 (i + 1) _ _ ⟨rfl, by omega, h'⟩ (by omega))) fun J6 hJ6 => ?_
  have fld : ∀ {w' : World} (k : Nat) {v : Value} {K' : Value → World → Prop}, Ext No w0 w' → a.cells[k]? = some v → K' v w' → PureS (indexAddrV 4 x (.int .i64 (i : Int))) fun t => PureS (fieldAddrV k t) fun t => LoadC t K' w' := fun {w'} k {v K'} e hv hk' => by
    obtain ⟨ad, q1, q2⟩ := act4_at hs ha
    exact pur q1 (pur (v := .pointer (some (ad.add k))) rfl (SG.load (S := No) ((At.no q2 e) k v hv) hk'))
  refine fld 0 e3 rfl (pur (bin_eql _ _ _) (condD (fun hk => ?_) (fun hk => ?_)))
  · obtain ⟨ad, q1, q2⟩ := act4_at hs ha
    have e3d := e3.trans (Ext.drew w3)
    refine draw (fun w' => Ext No w0 w') e3d ?_
    refine pur q1 (pur (v := .pointer (some (ad.add 3))) rfl (pur q1 (pur (v := .pointer (some (ad.add 3))) rfl (heldC (v := a.fv) (fun w' hh => (At.no q2 hh) 3 _ rfl) (heldC (v := a.fv) (fun w' hh => (At.no q2 hh) 3 _ rfl) ?_)))))
    refine build0 TCE fun w4 b4 e4 z4 => ⟨e3d.trans e4, ?_⟩
    have hfs := hok.f.no (e3d.trans e4)
    refine append_sl TCE 31 (base := w3.drew.heap.size) (b4.owns rfl (Nat.le_refl _) (by omega)) hfs (encs_one a.fs) (by omega) (by omega) e4.size fun v5 w5 ho5 hg5 hat => ?_
    have e35 : Ext No w3.drew w5 := e4.fresh (Ext.grown (S := At1 w3.drew.heap.size) hg5 fun b hb => by simpa [Value.ownBlock, At1, eq_comm] using hb) fun b hb => .inr (by rw [show b = w3.drew.heap.size from hb]; exact Nat.le_refl _)
    have e05 := e3d.trans e35
    refine ⟨e05, ?_⟩
    have ho5' : w5.ownsRow w3.drew.heap.size 30 1 v5 a.fs.length (a.fs.map encE) := by simpa using ho5
    have hR5 := (hR.no (Ext.drew w3)).no e35
    refine RefsF.add (fs := a.fs) hR5 (Sl.own ho5') (fun b hb hh => ?_) (by omega) (by omega) fun w6 F6 hR6 k6 => ?_
    · have h1 := (ho5.lt b hb).1
      have h2 := (hR.no (Ext.drew w3)).lt hh
      omega
    · have e06 : Ext No w0 w6 := e05.fresh k6.ext fun b hb => .inr (hF b hb).1
      refine ⟨e06, ?_⟩
      have hM6 := ((hM.no (Ext.drew w3)).no e35).ext k6.ext fun hh => (hF _ hh).2 rfl
      refine hM6.update MT59 ((fl.length + 1 : Nat) : Int) (a.fv, a.fs) fun w7 hM7 e7 z7 => ?_
      have hk' : ((fl.length + 1 : Nat) : Int) ∉ (mOfB 0 qs).map (·.1) := by have := mOfB_last qs; rw [hql] at this; simpa using this
      rw [mput_keys_out hk'] at hM7
      have hmlt := ((hM.no (Ext.drew w3)).no e35).lt
      have hF6 : ∀ b, F6 b → w0.heap.size ≤ b ∧ b ≠ mb := fun b hb => by
        rcases k6.sub b hb with h | h
        · exact hF b h
        · have := e05.size; exact ⟨by omega, by omega⟩
      refine hJ6 _ ⟨fl ++ [(a.fs, true)], qs ++ [((a.fv, a.fs), true)], F6, hR6.ext e7 fun b hb hh => (hF6 b hb).2 hh, by simp [absF, ← hq], ?_, fun q hq => ?_, hF6, by simp; omega, ?_, e06.fresh e7 fun b hb => .inr (by rw [show b = mb from hb]; exact hb0)⟩
      · rw [mOfB_append]
        simpa [mOfB, hql] using hM7
      · rcases List.mem_append.1 hq with hq | hq
        · exact hQ q hq
        · simp only [List.mem_singleton] at hq
          subst hq
          exact hok.f
      · rw [tot_append, hts]
        have : tot [(a.fs, true)] = a.fs.length := by simp [tot]
        omega
  · have hlk := mget_h hq a.h
    refine fld 1 e3 rfl (hM.lookup2 MT59 a.h (pur (extract_0 _ _) (pur (extract_1 _ _ _) (fld 0 e3 rfl (pur (bin_neq _ _ _) (condN (fun _ => hJ6 _ ⟨fl, qs, F, hR, hq, hM, hQ, hF, by omega, by omega, e3⟩) (fun hk4 => ?_)))))))
    have hdrop : CallS Try.prog 10 #[.pointer (some ⟨g, 0, none⟩), encH a.h] (fun v w4 => ∃ (va : Value) (c : Int) (gone : List Nat) (fv : Value) (fs : List Nat) (fl' : List (List Nat × Bool)) (qs' : List (Fl × Bool)), v = .tuple [va, .int .i64 c].toArray ∧ decide (c = 0) = (mget (mOfB 0 qs) a.h).isSome ∧ ((mget (mOfB 0 qs) a.h).map encF).getD (.slice none 0 0) = fv ∧
        RefsF w4 g fl' F ∧ absF qs' = fl' ∧ mdel (mOfB 0 qs) a.h = mOfB 0 qs' ∧ (∀ q ∈ qs', Sl w0 q.1.1 q.1.2.length 1 (q.1.2.map encE)) ∧ fl'.length ≤ i + 1 ∧ tot fl' ≤ sumF (l.take (i + 1)) ∧ Ext F w3 w4 ∧ Sl w0 fv fs.length 1 (fs.map encE) ∧ w4.ownsRow w3.heap.size 30 1 va gone.length (gone.map encE) ∧ (∀ y, y ∈ gone ↔ y ∈ fs ∧ tm fl' y = 0) ∧ fs.length ≤ 1048576 ∧ gone.length ≤ 1048576) w3 := by
      rcases hlk with ⟨hn0, hg0⟩ | ⟨i0, v, fs, hi0, hx0, hp0, hf0, hg0⟩
      · refine hR.drop a.h (by omega) (fun _ => ⟨_, 220, [], _, [], fl, qs, rfl, by rw [hg0]; rfl, by rw [hg0]; rfl, hR, hq, mdel_out (mget_none.1 hg0), hQ, by omega, by omega, Ext.refl _ _, Sl.nil_ _ _, World.ownsRow_nil _ _ _ _, by simp, by simp, by simp⟩) fun i1 _ _ _ _ hi1 _ _ _ _ _ => (by rw [hn0] at hi1; cases hi1)
      · refine hR.drop a.h (by omega) (fun h0 => (by rw [h0] at hi0; cases hi0)) fun i1 fs1 va w4 gone hi1 hf1 hr1 ho1 hR1 e1 => ?_
        obtain rfl : i0 = i1 := by rw [hi0] at hi1; exact Option.some.inj hi1
        obtain rfl : fs = fs1 := by rw [hf0] at hf1; simpa using hf1
        have hfl1 : fs.length ≤ tot fl := len_le_tot (p := (fs, true)) (List.mem_of_getElem? hf0)
        have hgl : gone.length ≤ fs.length := hr1.len fun x hx => hx.1
        refine ⟨va, 0, gone, v, fs, fl.set i0 (fs, false), qs.set i0 ((v, fs), false), rfl, by rw [hg0]; rfl, by rw [hg0]; rfl, hR1, by rw [← hq]; simp [absF], ?_, fun q hq' => ?_, by simp; omega, by rw [tot_set hf0]; omega, e1, hQ _ (List.mem_of_getElem? hp0), ho1, fun y => ?_, by omega, by omega⟩
        · rw [mOfB_free 0 qs i0 (v, fs) hp0, hx0, show ((0 + 1 + i0 : Nat) : Int) = ((i0 + 1 : Nat) : Int) by omega]
        · rcases List.mem_or_eq_of_mem_set hq' with h | rfl
          · exact hQ q h
          · exact hQ ((v, fs), true) (List.mem_of_getElem? hp0)
        · rw [hr1.2]
          have := tm_set hf0 y
          show y ∈ fs ∧ tm fl y = fs.count y ↔ _
          constructor
          · rintro ⟨h1, h2⟩; exact ⟨h1, by omega⟩
          · rintro ⟨h1, h2⟩; exact ⟨h1, by omega⟩
    refine fld 1 e3 rfl (callS hdrop ?_)
    clear hdrop hlk hR hts hft hfl
    rintro _ w4 ⟨va, c, gone, fv, fs, fl', qs', rfl, hc, rfl, hR4, hq', hdel, hQ', hfl', hft', e34, hsf, ho4, hgone, hfsl, hgol⟩
    have e04 : Ext No w0 w4 := e3.fresh e34 fun b hb => .inr (hF b hb).1
    have hM4 := hM.ext e34 fun hh => (hF _ hh).2 rfl
    generalize hfv : ((mget (mOfB 0 qs) a.h).map encF).getD (.slice none 0 0) = fv at *
    refine pur (extract_0 _ _) (pur (extract_1 _ _ _) (pur (bin_eql _ _ _) (pur (v := .bool false) ((bool_neq _ _).trans (by rw [hc]; simp)) (condF rfl ?_))))
    refine fld 1 e04 rfl (hM4.delete MT59 a.h fun w5 hM5 e5 z5 => ?_)
    rw [hdel] at hM5
    have e05 : Ext No w0 w5 := e04.fresh e5 fun b hb => .inr (by rw [show b = mb from hb]; exact hb0)
    have hmb3 : mb < w3.heap.size := hM.lt
    have ho5 := owns_ext ho4 e5 fun b hb hh => by have := (ho4.lt b hb).1; rw [show b = mb from hh] at this; omega
    have hR5 := hR4.ext e5 fun b hb hh => (hF b hb).2 hh
    have hsg := Sl.own ho5
    have fin : ∀ {w' : World}, Ext No w5 w' → J6 w' := fun {w'} e => hJ6 _ ⟨fl', qs', F, hR5.no e, hq', hM5.no e, hQ', hF, hfl', hft', e05.trans e⟩
    have tms : ∀ {w' : World} (y : Nat) {K' : Value → World → Prop}, Ext No w5 w' → K' (.int .i64 (tm fl' y : Int)) w' → CallS Try.prog 15 #[.pointer (some ⟨g, 0, none⟩), encE y] K' w' := fun {w'} y {K'} e hk' => (hR5.no e).times y hk'
    have gat : ∀ {k y : Nat}, gone[k]? = some y → ∃ ad, indexAddrV 1 va (.int .i64 (k : Int)) = some (.pointer (some ad)) ∧ ∀ w', Ext No w5 w' → w'.cell? ad = some (encE y) := fun {k y} hy => by
      obtain ⟨ad, q1, q2, q3⟩ := sl_idx1 hsg (i := k) (v := encE y) (by simp [hy]) .i64
      exact ⟨ad, q1, fun w' e => q3 w' (hsg.no e)⟩
    have fat : ∀ {k y : Nat}, fs[k]? = some y → ∃ ad, indexAddrV 1 fv (.int .i64 (k : Int)) = some (.pointer (some ad)) ∧ ∀ w', Ext No w5 w' → w'.cell? ad = some (encE y) := fun {k y} hy => by
      have hsf5 := hsf.no e05
      obtain ⟨ad, q1, q2, q3⟩ := sl_idx1 hsf5 (i := k) (v := encE y) (by simp [hy]) .i64
      exact ⟨ad, q1, fun w' e => q3 w' (hsf5.no e)⟩
    clear_value St
    refine join0 (fun w' => Ext No w5 w') ?_ fun J8 hJ8 => ?_
    · intro w6 e6
      refine loop1 (σ := Nat) (fun j v w' => v = .int .i64 (j : Int) ∧ j ≤ fs.length ∧ Ext No w5 w') (fun j => fs.length - j) 0 ⟨rfl, Nat.zero_le _, e6⟩ ?_
      rintro j _ w7 ⟨rfl, hj, e7⟩ L9 hL9
      refine pur hsf.len (pur (bin_lss _ _ _) (condD (fun hlt' => ?_) (fun _ => fin e7)))
      obtain ⟨y, hy⟩ := getN (xs := fs) (i := j) (by omega)
      obtain ⟨ady, y1, y2⟩ := fat hy
      refine join0 (fun w' => Ext No w5 w') (fun w' e => pur (add64 (c := ((j + 1 : Nat) : Int)) (by omega) (by omega) (by omega)) (hL9 (j + 1) _ _ ⟨rfl, by omega, e⟩ (by omega))) fun J10 hJ10 => ?_
      refine join1 (fun t w' => Ext No w5 w' ∧ t = .bool (decide (y ∈ gone))) ?_ fun J11 hJ11 => ?_
      · rintro _ w8 ⟨e8, rfl⟩
        refine pur y1 (SG.load (S := No) (y2 _ e8) (tms y e8 (pur (bin_eql _ _ _) (pur (v := .bool false) ((bool_neq _ _).trans ?_) (condF rfl (hJ10 _ e8))))))
        have : decide (y ∈ gone) = decide ((tm fl' y : Int) = 0) := by
          rw [decide_eq_decide, hgone]
          have := List.mem_of_getElem? hy
          constructor
          · rintro ⟨_, h⟩; omega
          · intro h; exact ⟨this, by omega⟩
        rw [this]; simp
      · refine loop2 (σ := Nat) (fun k t v w' => v = .int .i64 (k : Int) ∧ k ≤ gone.length ∧ t = .bool ((gone.take k).any fun z => decide (z = y)) ∧ Ext No w5 w') (fun k => gone.length - k) 0 ⟨rfl, Nat.zero_le _, rfl, e7⟩ ?_
        rintro k _ _ w8 ⟨rfl, hk', rfl, e8⟩ L12 hL12
        refine pur hsg.len (pur (bin_lss _ _ _) (condD (fun hlt2 => ?_) (fun hge2 => hJ11 _ _ ⟨e8, ?_⟩)))
        · obtain ⟨z, hz⟩ := getN (xs := gone) (i := k) (by omega)
          obtain ⟨adz, z1, z2⟩ := gat hz
          have hat := any_take_succ (p := fun z => decide (z = y)) hz
          generalize hin : ((gone.take k).any fun z => decide (z = y)) = inn at *
          refine join1 (fun t w' => Ext No w5 w' ∧ t = .bool (inn || decide (z = y))) ?_ fun J13 hJ13 => ?_
          · rintro _ w9 ⟨e9, rfl⟩
            exact pur (add64 (c := ((k + 1 : Nat) : Int)) (by omega) (by omega) (by omega)) (hL12 (k + 1) _ _ _ ⟨rfl, by omega, by rw [hat], e9⟩ (by omega))
          · have e8d := e8.trans (Ext.drew w8)
            refine draw (fun w' => Ext No w5 w') e8d ?_
            cases inn with
            | true => exact condT rfl (pur (pick_b _ _ _) (hJ13 _ _ ⟨e8d, rfl⟩))
            | false => exact condF rfl (pur z1 (pur y1 (heldC (v := encE z) (fun w' hh => z2 _ hh) (heldC (v := encE y) (fun w' hh => y2 _ hh) (pur (eqE z y) (pur (pick_b _ _ _) (hJ13 _ _ ⟨e8d, rfl⟩)))))))
        · rw [List.take_of_length_le (by omega)]
          congr 1
          rw [Bool.eq_iff_iff, List.any_eq_true, decide_eq_true_iff]
          exact ⟨fun ⟨z, hz, h⟩ => by simp at h; exact h ▸ hz, fun h => ⟨y, h, by simp⟩⟩
    · refine loop1 (σ := Nat) (fun k v w' => v = .int .i64 (k : Int) ∧ k ≤ gone.length ∧ Ext No w5 w') (fun k => gone.length - k) 0 ⟨rfl, Nat.zero_le _, Ext.refl _ _⟩ ?_
      rintro k _ w7 ⟨rfl, hk', e7⟩ L15 hL15
      refine pur hsg.len (pur (bin_lss _ _ _) (condD (fun hlt' => ?_) (fun _ => hJ8 _ e7)))
      obtain ⟨y, hy⟩ := getN (xs := gone) (i := k) (by omega)
      obtain ⟨ady, y1, y2⟩ := gat hy
      obtain ⟨hyf, hyt⟩ := (hgone y).1 (List.mem_of_getElem? hy)
      refine join0 (fun w' => Ext No w5 w') (fun w' e => pur (add64 (c := ((k + 1 : Nat) : Int)) (by omega) (by omega) (by omega)) (hL15 (k + 1) _ _ ⟨rfl, by omega, e⟩ (by omega))) fun J16 hJ16 => ?_
      refine join1 (fun t w' => Ext No w5 w' ∧ t = .bool true) ?_ fun J17 hJ17 => ?_
      · rintro _ w8 ⟨e8, rfl⟩
        refine pur (not_b _) ?_
        refine join1 (fun t w' => Ext No w5 w' ∧ t = .bool false) ?_ fun J18 hJ18 => ifYes' _ _ (pur y1 (SG.load (S := No) (y2 _ e8) (tms y e8 (pur (v := .bool false) ((bin_neq _ _ _).trans (by rw [hyt]; simp)) (hJ18 _ _ ⟨e8, rfl⟩)))))
        rintro _ w9 ⟨e9, rfl⟩
        exact pur (pick_b _ _ _) (condF rfl (hJ16 _ e9))
      · refine loop2 (σ := Nat) (fun j t v w' => v = .int .i64 (j : Int) ∧ j ≤ fs.length ∧ t = .bool ((fs.take j).any fun z => decide (z = y)) ∧ Ext No w5 w') (fun j => fs.length - j) 0 ⟨rfl, Nat.zero_le _, rfl, e7⟩ ?_
        rintro j _ _ w8 ⟨rfl, hj, rfl, e8⟩ L19 hL19
        refine pur hsf.len (pur (bin_lss _ _ _) (condD (fun hlt2 => ?_) (fun hge2 => hJ17 _ _ ⟨e8, ?_⟩)))
        · obtain ⟨z, hz⟩ := getN (xs := fs) (i := j) (by omega)
          obtain ⟨adz, z1, z2⟩ := fat hz
          have hat := any_take_succ (p := fun z => decide (z = y)) hz
          generalize hin : ((fs.take j).any fun z => decide (z = y)) = inn at *
          refine join1 (fun t w' => Ext No w5 w' ∧ t = .bool (inn || decide (z = y))) ?_ fun J20 hJ20 => ?_
          · rintro _ w9 ⟨e9, rfl⟩
            exact pur (add64 (c := ((j + 1 : Nat) : Int)) (by omega) (by omega) (by omega)) (hL19 (j + 1) _ _ _ ⟨rfl, by omega, by rw [hat], e9⟩ (by omega))
          · have e8d := e8.trans (Ext.drew w8)
            refine draw (fun w' => Ext No w5 w') e8d ?_
            cases inn with
            | true => exact condT rfl (pur (pick_b _ _ _) (hJ20 _ _ ⟨e8d, rfl⟩))
            | false => exact condF rfl (pur z1 (pur y1 (heldC (v := encE z) (fun w' hh => z2 _ hh) (heldC (v := encE y) (fun w' hh => y2 _ hh) (pur (eqE z y) (pur (pick_b _ _ _) (hJ20 _ _ ⟨e8d, rfl⟩)))))))
        · rw [List.take_of_length_le (by omega)]
          congr 1
          rw [List.any_eq_true]
          exact ⟨y, hyf, by simp⟩
end Go.Proofs.Ytkladgpaicolnaa
namespace Go.Proofs.Ytkladgpaicolnaa
open Go SG Go.ChangeShapes Go.WideShapes Go.ChangeAt Go.RowKit Go.Lib
set_option linter.unusedVariables false
set_option linter.unusedSimpArgs false

set_option maxRecDepth 100000 in
theorem snapsCountedUptoLifted (os : Os) (started : os.Started) (H : Type) (enc : TypeId × Value → H) (F : Stop.Interp) :
    ReturnsInHanded {} Try.checked os 6 .any ((Rows.OpenSpec.upto Rows.snapsCountedSpec).pre6 enc Try.prog Try.f6 Rows.snapsCountedUptoRow.domain false) (((Rows.OpenSpec.upto Rows.snapsCountedSpec).at F).post enc Try.prog Try.f6 false true false false) := by
  refine returnsInHanded_of_cond (C := Try.checked) (s := Rows.OpenSpec.upto Rows.snapsCountedSpec) (k := Rows.uptoSmall) rfl own started (by kernel_rfl) Try.func6
    (OpenSpec.witness (enc := enc) (C := Try.checked) (s := Rows.OpenSpec.upto Rows.snapsCountedSpec) (k := Rows.uptoSmall) rfl false ⟨#[], #[.slice none 0 0], []⟩ 8 (by kernel_rfl) (by kernel_rfl) (by kernel_rfl)
      (x := ([.nil], [], [])) (by kernel_rfl) rfl (by kernel_rfl)) ?_
  intro W base args ds gs before hval0 hW _ hk _
  have hval : ∀ (j : Nat) t v, Try.f6.params[j]? = some t → args[j]? = some v → Value.okWide Try.prog W .any base t v := hval0
  have hW' := hW
  obtain ⟨p, q, hA0, hV, rfl, hfz, hnd⟩ := hW
  have hA : DataW.TrodAll enc Try.prog W 0 (fun _ => true) true Try.f6.params.toList args.toList ds p := hA0
  rw [Try.params6] at hA hval
  obtain ⟨v0, vs0, d0, ds0, p0, q0, hargs, rfl, rfl, h0, r0⟩ := trodAll_cons hA
  obtain ⟨rfl, rfl, rfl⟩ := trodAll_nil r0
  obtain rfl : args = #[v0] := by cases args; simp_all
  obtain ⟨rfl, rfl⟩ := trodVars_none hV
  have lt0 : ∀ x ∈ p0, x.block < W.heap.size := by obtain ⟨m, hm⟩ := h0; exact DataW.trod_lt m _ _ _ hm
  obtain ⟨rs0, s0, k0, l0⟩ := open_few h0 (okWide_slice Try.underlying22 (hval 0 22 v0 rfl rfl)) (bulk_bound hk (by simp))
  clear hA0 hval0
  refine (snapsCounted s0 k0 l0).mono fun e W' he => ?_
  cases e with
  | returned v =>
    obtain ⟨rfl, ext⟩ := he
    have bel : Below W.heap.size W W' := ext.below (Nat.le_refl _) fun b hb => hb.elim
    exact ⟨_, rfl, _, _, _, [], _, [], hW', trodAll_mk1 (shut_bool Try.underlying4 _), (trodAll_cons_mk (Below.trod laidOut (by kernel_rfl) (of_decide_eq_true (by kernel_rfl)) h0 bel lt0) trodAll_mk0), rfl, bel.frame _, fun h => by cases h⟩
  | _ => exact he.elim
/-- the statement -/
theorem snapsCountedUptoHolds : Rows.SnapsCountedUptoSaid :=
  OpenClaim.holds_of_cond 6 Try.f6 rfl rfl rfl rfl rfl rfl rfl ⟨rfl, rfl, rfl, rfl, rfl⟩ rfl rfl rfl rfl rfl (by kernel_rfl) Try.func6 (by kernel_rfl)
    (of_decide_eq_true (by kernel_rfl)) (by unfold Func.isWrapper; first | (rw [if_pos (by decide +kernel)]; kernel_rfl) | (rw [if_neg (by decide +kernel)]; exact ⟨rfl, rfl⟩))
    (fun os started H enc _ F => snapsCountedUptoLifted os started H enc F)
end Go.Proofs.Ytkladgpaicolnaa
