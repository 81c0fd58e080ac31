/- Proved here: Rows.BatchActsSaid: for every input the law BatchActs answers true and leaves its arguments as they were. -/
import Derived.Test.YtambcnlkdnmekaaMA6
import Derived.WalkKit
import Derived.ProofKit
import Derived.OpenShut
import Derived.ShutString
import Derived.ChangeOld
import Derived.Below
import Derived.SizedLaws
import Derived.Deep.Slices
import Derived.Deep.Fields
import Derived.ChangeSame
import Derived.Test.YtambcnlkdnmekaaRows
/-! Batches: the reference's Families. -/
namespace Go.Proofs.Ytambcnlkdnmekaa
open Go SG Go.RowKit Go.Lib
set_option linter.unusedVariables false
set_option maxRecDepth 4000
set_option linter.unusedSimpArgs false

theorem encs_one (l : List El) : ∀ u ∈ l.map encE, u.oneCell' = true := by
  intro u hu
  simp only [List.mem_map] at hu
  obtain ⟨n, _, rfl⟩ := hu
  rfl
/-- a number put into a list that rises -/
theorem rise_ins {L : List Nat} {k f : Nat} (h : L.Pairwise (· < ·)) (h1 : ∀ j x, j < k → L[j]? = some x → x < f) (h2 : ∀ x, L[k]? = some x → f < x) : (L.take k ++ [f] ++ L.drop k).Pairwise (· < ·) := by
  have hlo : ∀ x ∈ L.take k, x < f := fun x hx => by
    obtain ⟨j, hj⟩ := List.getElem?_of_mem hx
    rw [List.getElem?_take] at hj
    split at hj
    · exact h1 j x (by assumption) hj
    · cases hj
  have hhi : ∀ x ∈ L.drop k, f < x := fun x hx => by
    obtain ⟨j, hj⟩ := List.getElem?_of_mem hx
    rw [List.getElem?_drop] at hj
    have hl := (List.getElem?_eq_some_iff.1 hj).1
    obtain ⟨y, hy⟩ := getN (xs := L) (i := k) (by omega)
    have h3 := h2 y hy
    rcases Nat.eq_zero_or_pos j with rfl | h0
    · rw [Nat.add_zero, hy] at hj; cases hj; exact h3
    · have := List.pairwise_iff_getElem.1 h k (k + j) (by omega) hl (by omega)
      rw [(List.getElem?_eq_some_iff.1 hy).2, (List.getElem?_eq_some_iff.1 hj).2] at this
      omega
  have hp := h
  rw [← List.take_append_drop k L, List.pairwise_append] at hp
  rw [List.pairwise_append, List.pairwise_append]
  refine ⟨⟨hp.1, List.pairwise_singleton _ _, fun a ha b hb => ?_⟩, hp.2.1, fun a ha b hb => ?_⟩
  · simp at hb; subst hb; exact hlo a ha
  · rcases List.mem_append.1 ha with ha | ha
    · exact hp.2.2 a ha b hb
    · simp at ha; subst ha; exact hhi b hb

set_option maxHeartbeats 1000000 in
/-- Families -/
theorem c52 {w : World} {x : Value} {recs : List Rec} (hs : Sl w x recs.length 4 (flat Rec.cells recs)) (hl : recs.length ≤ 4096) {K : Value → World → Prop}
    (hK : ∀ v w' fs, Ext No w w' → Sl w' v fs.length 1 (fs.map encE) → FamOf recs fs → fs.length ≤ recs.length → K v w') : CallS Try.prog 52 #[x] K w := by
  refine s52_call hm ?_
  unfold s52
  refine build0 TCE fun w0 b0 e0 z0 => ?_
  refine join1 (fun v w' => ∃ fs : List Nat, Ext No w w' ∧ Sl w' v fs.length 1 (fs.map encE) ∧ FamOf recs fs ∧ fs.length ≤ recs.length) (fun v w' ⟨fs, h1, h2, h3, h4⟩ => hK v w' fs h1 h2 h3 h4) fun J0 hJ0 => ?_
  refine loop2 (σ := Nat × List Nat) (fun s v a w' => a = .int .i64 (s.1 : Int) ∧ s.1 ≤ recs.length ∧ Ext No w w' ∧ Sl w' v s.2.length 1 (s.2.map encE) ∧ FamOf (recs.take s.1) s.2 ∧ s.2.length ≤ s.1) (fun s => recs.length - s.1) (0, [])
    ⟨rfl, by simp, e0, b0.sl (n := 0) (size := 1) rfl (Nat.le_refl _), ⟨List.Pairwise.nil, by simp⟩, by simp⟩ ?_
  rintro ⟨i, fs⟩ v _ w1 ⟨rfl, hi, e1, hv, hf, hfl⟩ L1 hL1
  simp only at hi e1 hv hf hfl hL1 ⊢
  refine pur hs.len (pur (bin_lss _ _ _) (condD (fun hlt => ?_) (fun hge => hJ0 _ _ ⟨fs, e1, hv, by rwa [List.take_of_length_le (by omega)] at hf, by omega⟩)))
  obtain ⟨r, hr⟩ := getN (xs := recs) (i := i) (by omega)
  have htk : ∀ y, y ∈ (recs.take (i + 1)).map Rec.fam ↔ y ∈ (recs.take i).map Rec.fam ∨ y = r.fam := fun y => by
    rw [List.take_add_one, hr]; simp [List.mem_append]
  refine join1 (fun v' w' => ∃ fs' : List Nat, Ext No w w' ∧ Sl w' v' fs'.length 1 (fs'.map encE) ∧ FamOf (recs.take (i + 1)) fs' ∧ fs'.length ≤ i + 1) ?_ fun J2 hJ2 => ?_
  · rintro v' w2 ⟨fs', h1, h2, h3, h4⟩
    exact pur (add64 (c := ((i + 1 : Nat) : Int)) (by omega) (by omega) (by omega)) (hL1 (i + 1, fs') _ _ _ ⟨rfl, by simp only; omega, h1, h2, h3, h4⟩ (by simp only; omega))
  have rec_at : ∀ {w' : World}, Ext No w w' → ∃ ad, indexAddrV 4 x (.int .i64 (i : Int)) = some (.pointer (some ad)) ∧ fieldAddrV 0 (.pointer (some ad)) = some (.pointer (some ad)) ∧ ∀ w'', Ext No w w'' → w''.cell? ad = some (.int .u32 (r.fam : Int)) := fun e => by
    obtain ⟨ad, h1, h2, h3⟩ := recs_at hs hr
    refine ⟨ad, h1, by simp [fieldAddrV, Addr.add_zero'], fun w'' e'' => ?_⟩
    have := (At.no h2 e'') 0 (.int .u32 (r.fam : Int)) rfl
    rwa [Addr.add_zero'] at this
  refine join1 (fun a w' => ∃ k : Nat, a = .int .i64 (k : Int) ∧ k ≤ fs.length ∧ Ext No w1 w' ∧ (∀ j y, j < k → fs[j]? = some y → y < r.fam) ∧ (∀ y, fs[k]? = some y → r.fam ≤ y)) ?_ fun J3 hJ3 => ?_
  · rintro _ w2 ⟨k, rfl, hk, e2, hlo, hhi⟩
    have e3 := e2.trans (Ext.drew w2)
    refine join1 (fun t w' => ∃ c : Bool, t = .bool c ∧ w2.drew = w' ∧ (c = true → fs[k]? = some r.fam) ∧ (c = false → ∀ y, fs[k]? = some y → r.fam < y)) ?_ fun J4 hJ4 => ?_
    · rintro _ _ ⟨c, rfl, rfl, hc1, hc2⟩
      refine condB (fun h => ?_) (fun h => ?_)
      · have hin := hc1 h
        refine hJ2 _ _ ⟨fs, e1.trans e3, hv.no e3, ⟨hf.1, fun y => ?_⟩, by omega⟩
        rw [hf.2, htk]
        constructor
        · exact fun h => .inl h
        · rintro (h | rfl)
          · exact h
          · exact (hf.2 _).1 (List.mem_of_getElem? hin)
      · have hhi2 := hc2 h
        -- the new list
        have hfam : FamOf (recs.take (i + 1)) (fs.take k ++ [r.fam] ++ fs.drop k) := ⟨rise_ins hf.1 hlo hhi2, fun y => by
          rw [htk, ← hf.2]
          have : y ∈ fs ↔ y ∈ fs.take k ∨ y ∈ fs.drop k := by rw [← List.mem_append, List.take_append_drop]
          rw [this]
          simp only [List.mem_append, List.mem_singleton]
          constructor
          · rintro ((h | h) | h)
            · exact .inl (.inl h)
            · exact .inr h
            · exact .inl (.inr h)
          · rintro ((h | h) | h)
            · exact .inl (.inl h)
            · exact .inr h
            · exact .inl (.inr h)⟩
        refine join1 (fun v' w' => w'.ownsRow w1.heap.size 29 1 v' (k + 1) ((fs.take k ++ [r.fam]).map encE) ∧ Ext No w1 w') ?_ fun J5 hJ5 => ?_
        · rintro v' w4 ⟨ho4, e4⟩
          obtain ⟨v5, h1, h2, h3⟩ := sl_drop (hv.no e4) hk .i64
          refine pur h1 (append_sl TCE 82 ho4 h2 (fun u hu => encs_one fs u (List.mem_of_mem_drop hu)) (by omega) (by omega) e4.size fun v6 w6 ho6 hg6 _ => ?_)
          have e6 : Ext No w1 w6 := ext_fr' e4 (ext_grown ho4 hg6) (Nat.le_refl _)
          have hlen : (fs.take k ++ [r.fam] ++ fs.drop k).length = k + 1 + (fs.length - k) := by simp; omega
          refine hJ2 _ _ ⟨fs.take k ++ [r.fam] ++ fs.drop k, e1.trans e6, ?_, hfam, by rw [hlen]; omega⟩
          rw [hlen]
          have := Sl.own ho6
          simpa using this
        · have e4 : Ext No w1 w2.drew.drew := e3.trans (Ext.drew _)
          obtain ⟨v5, h1, h2, h3⟩ := sl_take (hv.no e4) hk .i64
          obtain ⟨ad, hx1, hx2, hx3⟩ := rec_at (e1.trans e4)
          refine draw (fun w' => Ext No w1 w') e4 (pur h1 (pur hx1 (pur hx2 (heldC (v := .int .u32 (r.fam : Int)) (fun w' hh => hx3 w' (e1.trans hh)) ?_))))
          have h2' : ∀ {w'}, Ext No w2.drew.drew w' → Sl w' v5 k 1 ((fs.map encE).take (k * 1)) := fun e => h2.no e
          have hone : ∀ u ∈ (fs.map encE).take (k * 1), u.oneCell' = true := fun u hu => encs_one fs u (List.mem_of_mem_take hu)
          have hsz : w1.heap.size ≤ w2.drew.drew.heap.size := e4.size
          have ap1 : ∀ {w3 : World} {g1 : Nat} {K' : Value → World → Prop}, Ext No w2.drew.drew w3 → Blk w3 g1 29 [] → w2.drew.drew.heap.size ≤ g1 → (∀ v w4, Ext No w2.drew.drew w4 → Ext (At1 g1) w3 w4 → w4.ownsRow w1.heap.size 29 1 v k ((fs.take k).map encE) → K' v w4) →
              RunS Try.prog (Builtin.append_ #[82, 82] 82 [.slice (some ⟨g1, 0, none⟩) 0 0, v5].toArray) K' w3 := fun {w3 g1 K'} e b1 hg1 hK' => by
            have hlt := b1.lt
            refine append_sl TCE 82 (base := g1) (b1.owns rfl (Nat.le_refl _) (by omega)) (h2' e) hone (by omega) (by omega) (by omega) fun v' w4 ho hg _ => ?_
            have e2 : Ext (At1 g1) w3 w4 := Ext.grown hg fun b hb => by simpa [Value.ownBlock, At1, eq_comm] using hb
            refine hK' v' w4 (e.fresh e2 fun b hb => .inr (by rw [show b = g1 from hb]; exact hg1)) e2 (owns_base (by simpa using ho) fun b hb => ?_)
            have := (ho.lt b hb).1; omega
          have ap2 : ∀ {w3 : World} {v' : Value} {g2 : Nat}, Ext No w2.drew.drew w3 → w3.ownsRow w1.heap.size 29 1 v' k ((fs.take k).map encE) → Blk w3 g2 29 [.int .u32 (r.fam : Int)] →
              RunS Try.prog (Builtin.append_ #[82, 82] 82 [v', .slice (some ⟨g2, 0, none⟩) 1 1].toArray) (fun t w => J5 t w) w3 := fun {w3 v' g2} e ho b2 => by
            refine append_sl TCE 82 ho (b2.sl (n := 1) (c := 1) (size := 1) rfl (Nat.le_refl _)) (by simp [Value.oneCell']) (by omega) (by omega) (by have := e.size; omega) fun v6 w4 ho' hg _ => ?_
            exact hJ5 _ _ ⟨by simpa [encE] using ho', ext_fr' (e4.trans e) (ext_grown ho hg) (Nat.le_refl _)⟩
          refine ⟨?_, ?_⟩
          · refine build0 TCE fun w5 b5 e5 z5 => ⟨e4.trans e5, ?_, ?_⟩
            · refine ap1 e5 b5 (Nat.le_refl _) fun v' w6 e6 e56 ho6 => ⟨e4.trans e6, build1 TCE rfl fun w7 b7 e7 z7 => ?_⟩
              exact ap2 (e6.trans e7) (owns_ext ho6 e7 fun _ _ hh => hh) b7
            · refine build1 TCE rfl fun w7 b7 e7 z7 => ap1 (e5.trans e7) (b5.no e7) (Nat.le_refl _) fun v' w6 e6 e56 ho6 => ⟨e4.trans e6, ap2 e6 ho6 (b7.ext e56 fun hh => ?_)⟩
              have : w5.heap.size = w2.drew.drew.heap.size := hh
              omega
          · refine build1 TCE rfl fun w7 b7 e7 z7 => build0 TCE fun w5 b5 e5 z5 => ⟨e4.trans (e7.trans e5), ap1 (e7.trans e5) b5 (by omega) fun v' w6 e6 e56 ho6 => ⟨e4.trans e6, ap2 e6 ho6 ((b7.no e5).ext e56 fun hh => ?_)⟩⟩
            have : w2.drew.drew.heap.size = w7.heap.size := hh
            omega
    · refine draw (fun w' => Ext No w1 w') e3 (pur hv.len (pur (bin_lss _ _ _) (condD (fun hlt2 => ?_) (fun hge2 => ?_))))
      · obtain ⟨y, hy⟩ := getN (xs := fs) (i := k) (by omega)
        obtain ⟨ad, hx1, hx2, hx3⟩ := rec_at (e1.trans e3)
        obtain ⟨ad2, hy1, hy2, hy3⟩ := sl_idx1 hv (i := k) (v := encE y) (by simp [hy]) .i64
        refine pur hy1 (pur hx1 (pur hx2 (heldC (v := encE y) (fun w' hh => hy3 w' (hv.no hh)) (heldC (v := .int .u32 (r.fam : Int)) (fun w' hh => hx3 w' (e1.trans hh)) ?_))))
        refine pur (bin_eql _ _ _) (pur (pick_b _ _ _) (hJ4 _ _ ⟨decide ((y : Int) = (r.fam : Int)), by simp, rfl, fun h => ?_, fun h z hz => ?_⟩))
        · have h2 : (y : Int) = (r.fam : Int) := of_decide_eq_true h
          have : y = r.fam := by omega
          rw [hy, this]
        · rw [hy] at hz; cases hz
          have := hhi y hy
          have h' : ¬ (y : Int) = (r.fam : Int) := of_decide_eq_false h
          omega
      · exact pur (pick_b _ _ _) (hJ4 _ _ ⟨false, rfl, rfl, (fun h => by cases h), fun _ z hz => by have := (List.getElem?_eq_some_iff.1 hz).1; omega⟩)
  · refine loop1 (σ := Nat) (fun k a w' => a = .int .i64 (k : Int) ∧ k ≤ fs.length ∧ Ext No w1 w' ∧ (∀ j y, j < k → fs[j]? = some y → y < r.fam)) (fun k => fs.length - k) 0 ⟨rfl, by omega, Ext.refl _ _, fun _ _ h => by omega⟩ ?_
    rintro k _ w2 ⟨rfl, hk, e2, hlo⟩ L8 hL8
    have e3 := e2.trans (Ext.drew w2)
    refine join1 (fun t w' => ∃ c : Bool, t = .bool c ∧ w2.drew = w' ∧ (c = true → ∃ y, fs[k]? = some y ∧ y < r.fam) ∧ (c = false → ∀ y, fs[k]? = some y → r.fam ≤ y)) ?_ fun J9 hJ9 => ?_
    · rintro _ _ ⟨c, rfl, rfl, hc1, hc2⟩
      refine condB (fun h => ?_) (fun h => hJ3 _ _ ⟨k, rfl, hk, e3, hlo, hc2 h⟩)
      obtain ⟨y, hy, hyf⟩ := hc1 h
      have hkl := (List.getElem?_eq_some_iff.1 hy).1
      refine pur (add64 (c := ((k + 1 : Nat) : Int)) (by omega) (by omega) (by omega)) (hL8 (k + 1) _ _ ⟨rfl, by omega, e3, fun j z hj hz => ?_⟩ (by omega))
      by_cases hjk : j = k
      · subst hjk; rw [hy] at hz; cases hz; exact hyf
      · exact hlo j z (by omega) hz
    · refine draw (fun w' => Ext No w1 w') e3 (pur hv.len (pur (bin_lss _ _ _) (condD (fun hlt2 => ?_) (fun hge2 => ?_))))
      · obtain ⟨y, hy⟩ := getN (xs := fs) (i := k) (by omega)
        obtain ⟨ad, hx1, hx2, hx3⟩ := rec_at (e1.trans e3)
        obtain ⟨ad2, hy1, hy2, hy3⟩ := sl_idx1 hv (i := k) (v := encE y) (by simp [hy]) .i64
        refine pur hy1 (pur hx1 (pur hx2 (heldC (v := encE y) (fun w' hh => hy3 w' (hv.no hh)) (heldC (v := .int .u32 (r.fam : Int)) (fun w' hh => hx3 w' (e1.trans hh)) ?_))))
        refine pur (bin_lss _ _ _) (pur (pick_b _ _ _) (hJ9 _ _ ⟨decide ((y : Int) < (r.fam : Int)), by simp, rfl, fun h => ⟨y, hy, by simpa using h⟩, fun h z hz => ?_⟩))
        rw [hy] at hz; cases hz
        simpa using h
      · exact pur (pick_b _ _ _) (hJ9 _ _ ⟨false, rfl, rfl, (fun h => by cases h), fun _ z hz => by have := (List.getElem?_eq_some_iff.1 hz).1; omega⟩)
end Go.Proofs.Ytambcnlkdnmekaa
/-! Rules: what lies apart (parts of memory, each with the blocks that it has). No program stands here. -/
namespace SG
open Go Go.RowKit Go.Lib
set_option linter.unusedSimpArgs false
set_option linter.unusedVariables false

/-- a part of memory: what holds of a world, of the blocks F -/
abbrev Part := World → (Nat → Prop) → Prop
structure Stable (R : Part) : Prop where
  ext : ∀ {w w' : World} {S F : Nat → Prop}, R w F → Ext S w w' → (∀ b, F b → ¬ S b) → R w' F
  lt : ∀ {w : World} {F : Nat → Prop} {b : Nat}, R w F → F b → b < w.heap.size
theorem Stable.no {R : Part} (s : Stable R) {w w' : World} {F : Nat → Prop} (h : R w F) (e : Ext No w w') : R w' F := s.ext h e fun _ _ hh => hh
def Bk (g : Nat) (t : TypeId) (cs : List Value) : Part := fun w F => Blk w g t cs ∧ F = At1 g
theorem Bk.st (g : Nat) (t : TypeId) (cs : List Value) : Stable (Bk g t cs) :=
  ⟨fun {w w' S F} h e hn => ⟨h.1.ext e (hn g (by rw [h.2]; rfl)), h.2⟩, fun {w F b} h hb => by rw [h.2] at hb; rw [show b = g from hb]; exact h.1.lt⟩
def Emp : Part := fun _ F => ∀ b, ¬ F b
theorem Emp.st : Stable Emp := ⟨fun h _ _ => h, fun h hb => absurd hb (h _)⟩
/-- two parts that lie apart -/
def Star (A B : Part) : Part := fun w F => ∃ FA FB, A w FA ∧ B w FB ∧ (∀ b, FA b → ¬ FB b) ∧ ∀ b, F b ↔ FA b ∨ FB b
theorem Star.st {A B : Part} (sA : Stable A) (sB : Stable B) : Stable (Star A B) :=
  ⟨fun {w w' S F} h e hn => by
    obtain ⟨FA, FB, hA, hB, hd, hF⟩ := h
    exact ⟨FA, FB, sA.ext hA e fun b hb => hn b ((hF b).2 (.inl hb)), sB.ext hB e fun b hb => hn b ((hF b).2 (.inr hb)), hd, hF⟩,
  fun {w F b} h hb => by
    obtain ⟨FA, FB, hA, hB, hd, hF⟩ := h
    rcases (hF b).1 hb with h | h
    · exact sA.lt hA h
    · exact sB.lt hB h⟩
namespace Star
variable {A B : Part} {w w' : World} {F : Nat → Prop}
theorem comm (h : Star A B w F) : Star B A w F := by
  obtain ⟨FA, FB, hA, hB, hd, hF⟩ := h
  exact ⟨FB, FA, hB, hA, fun b hb hh => hd b hh hb, fun b => (hF b).trans or_comm⟩
/-- a step of the first part -/
theorem op {G : Prop} (h : Star A B w F) (sB : Stable B) (hop : ∀ FA, A w FA → (∀ b, FA b → F b) → (∀ (A' : Part) w' FA', A' w' FA' → Ext FA w w' → (∀ b, FA' b → FA b ∨ w.heap.size ≤ b) →
    ∃ F', Star A' B w' F' ∧ Ext F w w' ∧ (∀ b, F' b → F b ∨ w.heap.size ≤ b)) → G) : G := by
  obtain ⟨FA, FB, hA, hB, hd, hF⟩ := h
  refine hop FA hA (fun b hb => (hF b).2 (.inl hb)) fun A' w' FA' h1 e1 f1 => ⟨fun b => FA' b ∨ FB b, ⟨FA', FB, h1, sB.ext hB e1 fun b hb hh => hd b hh hb, fun b hb hh => ?_, fun _ => Iff.rfl⟩, e1.mono fun b hb _ => (hF b).2 (.inl hb), fun b hb => ?_⟩
  · rcases f1 b hb with h | h
    · exact hd b h hh
    · have := sB.lt hB hh; omega
  · rcases hb with hb | hb
    · exact (f1 b hb).imp (fun h => (hF b).2 (.inl h)) id
    · exact .inl ((hF b).2 (.inr hb))
/-- a step of the second part -/
theorem op2 {G : Prop} (h : Star A B w F) (sA : Stable A) (hop : ∀ FB, B w FB → (∀ b, FB b → F b) → (∀ (B' : Part) w' FB', B' w' FB' → Ext FB w w' → (∀ b, FB' b → FB b ∨ w.heap.size ≤ b) →
    ∃ F', Star A B' w' F' ∧ Ext F w w' ∧ (∀ b, F' b → F b ∨ w.heap.size ≤ b)) → G) : G :=
  h.comm.op sA fun FB hB hs back => hop FB hB hs fun B' w' FB' h1 e1 f1 => by
    obtain ⟨F', h2, e2, f2⟩ := back B' w' FB' h1 e1 f1
    exact ⟨F', h2.comm, e2, f2⟩
/-- a new part beside what is there -/
theorem new (h : B w F) (sB : Stable B) (e : Ext No w w') {FA : Nat → Prop} (hA : A w' FA) (hf : ∀ b, FA b → w.heap.size ≤ b) : Star A B w' (fun b => FA b ∨ F b) :=
  ⟨FA, F, hA, sB.no h e, fun b hb hh => by have := hf b hb; have := sB.lt h hh; omega, fun _ => Iff.rfl⟩
end Star

/-- a step: what it may change, and what it has thereafter -/
structure Stp (w : World) (F : Nat → Prop) (w' : World) (F' : Nat → Prop) : Prop where
  ext : Ext F w w'
  sub : ∀ b, F' b → F b ∨ w.heap.size ≤ b
namespace Stp
variable {w w' w'' : World} {F F' F'' : Nat → Prop}
theorem refl (w : World) (F : Nat → Prop) : Stp w F w F := ⟨Ext.refl _ _, fun _ h => .inl h⟩
theorem no (e : Ext No w w') : Stp w F w' F := ⟨e.no, fun _ h => .inl h⟩
theorem trans (h : Stp w F w' F') (k : Stp w' F' w'' F'') : Stp w F w'' F'' :=
  ⟨h.ext.trans' k.ext (fun _ h _ => h) fun b hb hlt => (h.sub b hb).resolve_right (by omega), fun b hb => by
    rcases k.sub b hb with h1 | h1
    · exact h.sub b h1
    · right; have := h.ext.size; omega⟩
theorem out (h : Stp w F w' F') {b : Nat} (hb : b < w.heap.size) (hn : ¬ F b) : ¬ F' b := fun hh => (h.sub b hh).elim hn fun h => by omega
theorem blk (h : Stp w F w' F') {g : Nat} {t : TypeId} {cs : List Value} (hb : Blk w g t cs) (hn : ¬ F g) : Blk w' g t cs := hb.ext h.ext hn
/-- new since w0, and stays so -/
theorem old {w0 : World} (h : Stp w F w' F') (e0 : Ext No w0 w) (h0 : ∀ b, F b → w0.heap.size ≤ b) : Ext No w0 w' ∧ ∀ b, F' b → w0.heap.size ≤ b :=
  ⟨e0.fresh h.ext fun b hb => .inr (h0 b hb), fun b hb => (h.sub b hb).elim (h0 b) fun h => by have := e0.size; omega⟩
theorem less {G : Nat → Prop} (h : Stp w F w' F') (hG : ∀ b, F b → G b) : Stp w G w' F' := ⟨h.ext.mono fun b hb _ => hG b hb, fun b hb => (h.sub b hb).imp (hG b) id⟩
end Stp
namespace Star
variable {A B A' B' : Part} {w w' : World} {F FA FB FA' FB' : Nat → Prop}
theorem step1 (sB : Stable B) (hB : B w FB) (hd : ∀ b, FA b → ¬ FB b) (hF : ∀ b, F b ↔ FA b ∨ FB b) (hA' : A' w' FA') (k : Stp w FA w' FA') : Star A' B w' (fun b => FA' b ∨ FB b) ∧ Stp w F w' (fun b => FA' b ∨ FB b) :=
  ⟨⟨FA', FB, hA', sB.ext hB k.ext fun b hb hh => hd b hh hb, fun b hb hh => (k.sub b hb).elim (fun h => hd b h hh) fun h => by have := sB.lt hB hh; omega, fun _ => Iff.rfl⟩,
    k.ext.mono fun b hb _ => (hF b).2 (.inl hb), fun b hb => hb.elim (fun h => (k.sub b h).imp (fun h => (hF b).2 (.inl h)) id) fun h => .inl ((hF b).2 (.inr h))⟩
theorem step2 (sA : Stable A) (hA : A w FA) (hd : ∀ b, FA b → ¬ FB b) (hF : ∀ b, F b ↔ FA b ∨ FB b) (hB' : B' w' FB') (k : Stp w FB w' FB') : Star A B' w' (fun b => FA b ∨ FB' b) ∧ Stp w F w' (fun b => FA b ∨ FB' b) := by
  obtain ⟨h1, h2⟩ := step1 (F := F) sA hA (fun b hb hh => hd b hh hb) (fun b => (hF b).trans or_comm) hB' k
  exact ⟨by obtain ⟨a, b, c, d, e, f⟩ := h1; exact ⟨b, a, d, c, fun x hx hh => e x hh hx, fun x => or_comm.trans ((f x).trans or_comm)⟩, h2.ext, fun b hb => h2.sub b hb.symm⟩
end Star
/-- a slice cut on both sides -/
theorem sl_mid {w : World} {x : Value} {n size : Nat} {xs : List Value} (h : Sl w x n size xs) {i j : Nat} (hij : i ≤ j) (hj : j ≤ n) (k1 k2 : IntKind) :
    ∃ x', sliceV size x (some (.int k1 (i : Int))) (some (.int k2 (j : Int))) = some x' ∧ Sl w x' (j - i) size ((xs.drop (i * size)).take ((j - i) * size)) ∧ ∀ b, x'.ownBlock = some b → x.ownBlock = some b := by
  obtain ⟨A, c, rfl, hl, hc, h0, hA⟩ := h
  have h1 : (0 : Int) ≤ (j : Int) ∧ (j : Int) ≤ (c : Int) := by omega
  have h2 : (0 : Int) ≤ (i : Int) ∧ (i : Int) ≤ (j : Int) := by omega
  refine ⟨.slice (if c = i then A else A.map (·.add (i * size))) (j - i) (c - i), ?_, ?_, ?_⟩
  · simp only [sliceV, boundV]
    rw [if_pos h1]
    simp only [Option.bind_some, Int.toNat_natCast]
    rw [if_pos h2]
    simp
  · refine ⟨_, c - i, rfl, ?_, by omega, fun hn => ?_, fun ad had => ?_⟩
    · rw [List.length_take, List.length_drop, hl]
      have : (j - i) * size ≤ n * size - i * size := by rw [← Nat.sub_mul]; exact Nat.mul_le_mul_right _ (by omega)
      omega
    · split at hn
      · have := h0 hn; omega
      · cases A with
        | none => have := h0 rfl; omega
        | some a => simp at hn
    · split at had
      · have : j - i = 0 := by omega
        rw [this, Nat.zero_mul, List.take_zero]
        exact fun i v hv => by simp at hv
      · cases A with
        | none => simp at had
        | some a =>
          simp only [Option.map_some, Option.some.injEq] at had
          subst had
          exact ((hA a rfl).drop _).take _
  · intro b hb
    split at hb
    · cases A <;> exact hb
    · cases A with
      | none => simp [Value.ownBlock] at hb
      | some a => simpa [Value.ownBlock, Addr.add_block] using hb
end SG
/-! Batches: a batch by the program and by the document, side by side. -/
namespace Go.Proofs.Ytambcnlkdnmekaa
open Go SG Go.RowKit Go.Lib
set_option linter.unusedVariables false
set_option maxRecDepth 4000
set_option linter.unusedSimpArgs false

def Bt (g : Nat) (recs : List Rec) (marks : List Nat) : Part := fun w F => BatchF w g recs marks F
def Rf (g : Nat) (recs : List Rec) (marks : List Nat) : Part := fun w F => RefF w g recs marks F
theorem Bt.st (g : Nat) (recs : List Rec) (marks : List Nat) : Stable (Bt g recs marks) := ⟨fun h e hn => BatchF.ext h e hn, fun h hb => BatchF.lt h hb⟩
theorem Rf.st (g : Nat) (recs : List Rec) (marks : List Nat) : Stable (Rf g recs marks) := ⟨fun h e hn => RefF.ext h e hn, fun h hb => RefF.lt h hb⟩
def Pr (g gd : Nat) (recs : List Rec) (marks : List Nat) : Part := Star (Bt g recs marks) (Rf gd recs marks)
theorem Pr.st (g gd : Nat) (recs : List Rec) (marks : List Nat) : Stable (Pr g gd recs marks) := Star.st (Bt.st _ _ _) (Rf.st _ _ _)
def ptr (g : Nat) : Value := .pointer (some ⟨g, 0, none⟩)
def pairV (g gd : Nat) : Value := .agg #[ptr g, ptr gd]

structure ActD where
  kind : Int
  how : Bool
  r : Rec
  lv : Value
  l : List Rec
def ActD.cells (a : ActD) : List Value := [.int .i64 a.kind, .bool a.how, .int .u32 (a.r.fam : Int), .int .i64 a.r.kind, .string a.r.key, .string a.r.val, a.lv]
def ActD.agg (a : ActD) : Value := .agg a.cells.toArray
theorem ActD.cells_len (a : ActD) : a.cells.length = 7 := rfl
theorem addAll_del {recs : List Rec} {r : Rec} (h : r.kind = 0) : addAll recs [Rec.mk r.fam 0 r.key ⟨#[]⟩] = addAll recs [r] := by
  have h1 : firstErr [Rec.mk r.fam 0 r.key ⟨#[]⟩] = firstErr [r] := by simp [firstErr, chk, h]
  have h2 : sumEnc [Rec.mk r.fam 0 r.key ⟨#[]⟩] = sumEnc [r] := by simp [sumEnc, encRec, h]
  have h3 : [Rec.mk r.fam 0 r.key ⟨#[]⟩].map plain = [r].map plain := by
    cases r; simp at h; subst h; simp [plain]
  unfold addAll
  rw [h1, h2, h3]
  rfl
theorem pr_good {g gd : Nat} {recs : List Rec} {marks : List Nat} {w : World} {F : Nat → Prop} (h : Pr g gd recs marks w F) : Good recs ∧ recs.length ≤ 4096 ∧ ∀ r ∈ recs, plain r = r := by
  obtain ⟨FA, FB, hA, hB, _⟩ := h
  exact ⟨BatchF.good hA, BatchF.len hA, BatchF.plain hA⟩

set_option maxHeartbeats 1000000 in
/-- pair.add -/
theorem c46 {w : World} {g gd : Nat} {recs : List Rec} {marks : List Nat} {F : Nat → Prop} (h : Pr g gd recs marks w F) {a : ActD} (ha : a.r.Ok) (hlv : a.lv.oneCell' = true) {K : Value → World → Prop}
    (hK : ∀ w' F', Pr g gd (addAll recs [a.r]).2 marks w' F' → Ext F w w' → (∀ b, F' b → F b ∨ w.heap.size ≤ b) → K (.bool true) w') : CallS Try.prog 46 #[pairV g gd, a.agg] K w := by
  obtain ⟨hg, hl, hpl⟩ := pr_good h
  refine s46_call hm ?_
  unfold s46
  refine box fun w1 b1 e1 z1 => box fun w2 b2' e2 z2 => ?_
  have b1' : Blk w2 w.heap.size 53 [ptr g, ptr gd] := b1.no e2
  have b2 : Blk w2 w1.heap.size 56 a.cells := b2'
  have e02 := e1.trans e2
  refine pur (field_ptr _ _ _) (loadB b1' (v := ptr gd) rfl (pur (field_ptr _ _ _) (loadA (xs := a.r.cells) (At.blk b2 fun i v hv => ?_) rfl ?_)))
  · match i, hv with
    | 0, hv => exact hv
    | 1, hv => exact hv
    | 2, hv => exact hv
    | 3, hv => exact hv
    | n + 4, hv => simp [Rec.cells] at hv
  refine build1 T22 rfl fun w3 b3 e3 z3 => ?_
  have e03 := e02.trans e3
  have h3 : Pr g gd recs marks w3 F := (Pr.st _ _ _ _).no h e03
  have hFlt : ∀ b, F b → b < w.heap.size := fun b hb => (Pr.st _ _ _ _).lt h hb
  -- the document's
  refine h3.op2 (Bt.st _ _ _) fun FB hB hsB back => ?_
  have hrs1 : AllOk [a.r] := fun r' hr' => by simp at hr'; subst hr'; exact ha
  refine RefF.add (rs := [a.r]) hB hg hl hpl (by rw [flat_one]; exact b3.sl (n := 1) (c := 1) (size := 4) rfl (Nat.le_refl _)) hrs1 (by simp) (fun hh => ?_) fun w4 FB' hR4 e4' f4 => ?_
  · obtain ⟨lv, mv, hbb, _⟩ := hB
    have : w2.heap.size = gd := by simpa [Value.ownBlock] using hh
    have h1 := hFlt gd (hsB gd (RefF.get ⟨lv, mv, hbb, by assumption⟩).choose_spec.choose_spec.2.2.2)
    have := e02.size; omega
  have e4 : Ext FB w3 w4 := e4'.mono fun b hb _ => by
    obtain ⟨lv, mv, _, _, _, hg'⟩ := RefF.get hB
    rw [show b = gd from hb]; exact hg'
  obtain ⟨F4, h4, e4F, f4F⟩ := back (Rf gd (addAll recs [a.r]).2 marks) w4 FB' hR4 e4 f4
  have hn1 : ¬ F w.heap.size := fun hh => by have := hFlt _ hh; omega
  have hn2 : ¬ F w1.heap.size := fun hh => by have := hFlt _ hh; omega
  have b14 : Blk w4 w.heap.size 53 [ptr g, ptr gd] := (b1'.no e3).ext e4F hn1
  have b24 : Blk w4 w1.heap.size 56 a.cells := (b2.no e3).ext e4F hn2
  have e04 : Ext F w w4 := e03.no.trans e4F
  have hsub : ∀ {F' : Nat → Prop} {w5 : World}, (∀ b, F' b → F4 b ∨ w4.heap.size ≤ b) → ∀ b, F' b → F b ∨ w.heap.size ≤ b := fun hh b hb => by
    rcases hh b hb with h | h
    · rcases f4F b h with h | h
      · exact .inl h
      · right; have := e03.size; omega
    · right; have := e04.size; omega
  have hF4 : ∀ b, b < w.heap.size → F4 b → F b := fun b hb hh => (f4F b hh).resolve_right (by have := e03.size; omega)
  refine join1 (fun v w' => v = .int .i64 (addAll recs [a.r]).1 ∧ ∃ F', Pr g gd (addAll recs [a.r]).2 marks w' F' ∧ Ext F4 w4 w' ∧ ∀ b, F' b → F4 b ∨ w4.heap.size ≤ b) ?_ fun J0 hJ0 => ?_
  · rintro _ w5 ⟨rfl, F5, h5, e5, f5⟩
    refine pur ((bin_eql _ _ _).trans (by rw [decide_eq_true rfl])) (hK w5 F5 h5 ?_ (hsub (w5 := w5) f5))
    exact e04.trans' e5 (fun _ h _ => h) fun b hb hlt => hF4 b hlt hb
  -- a call of the program's
  have done : ∀ (G : Prop), (∀ FA, BatchF w4 g recs marks FA → (∀ w' FA', BatchF w' g (addAll recs [a.r]).2 marks FA' → Ext FA w4 w' → (∀ b, FA' b → FA b ∨ w4.heap.size ≤ b) → J0 (.int .i64 (addAll recs [a.r]).1) w') → G) → G := fun G hop =>
    h4.op (Rf.st _ _ _) fun FA hA hsA back4 => hop FA hA fun w' FA' n1 n2 n3 => by
      obtain ⟨F', m1, m2, m3⟩ := back4 (Bt g (addAll recs [a.r]).2 marks) w' FA' n1 n2 n3
      exact hJ0 _ _ ⟨rfl, F', m1, m2, m3⟩
  have ldr : ∀ {K' : Value → World → Prop} (off : Nat) (v : Value), a.cells[2 + off]? = some v → K' v w4 → PureS (fieldAddrV 2 (.pointer (some ⟨w1.heap.size, 0, none⟩))) fun t => PureS (fieldAddrV off t) fun t => LoadC t K' w4 := fun off v hv hk =>
    pur (field_ptr _ _ _) (pur (field_ptr _ _ _) (loadB b24 (by simpa [Nat.zero_add] using hv) hk))
  have last : PureS (fieldAddrV 0 (.pointer (some ⟨w.heap.size, 0, none⟩))) fun t13 => LoadC t13 (fun t14 w => PureS (fieldAddrV 2 (.pointer (some ⟨w1.heap.size, 0, none⟩))) fun t15 => LoadA 4 t15 (fun t16 w => CallS Try.prog 8 [t14, t16].toArray (fun t17 w => J0 t17 w) w) w) w4 := by
    refine pur (field_ptr _ _ _) (loadB b14 (v := ptr g) rfl (pur (field_ptr _ _ _) (loadA (xs := a.r.cells) (At.blk b24 fun i v hv => ?_) rfl ?_)))
    · match i, hv with
      | 0, hv => exact hv
      | 1, hv => exact hv
      | 2, hv => exact hv
      | 3, hv => exact hv
      | n + 4, hv => simp [Rec.cells] at hv
    · exact done _ fun FA hA hk => BatchF.add hA ha hk
  have hkd : ∀ {K' : Value → World → Prop}, K' (.int .i64 a.r.kind) w4 → PureS (fieldAddrV 2 (.pointer (some ⟨w1.heap.size, 0, none⟩))) fun t => PureS (fieldAddrV 1 t) fun t => LoadC t K' w4 := fun hk => ldr 1 _ rfl hk
  have hhow : ∀ {K' : Value → World → Prop}, K' (.bool a.how) w4 → PureS (fieldAddrV 1 (.pointer (some ⟨w1.heap.size, 0, none⟩))) fun t => LoadC t K' w4 := fun hk => pur (field_ptr _ _ _) (loadB b24 (v := .bool a.how) rfl hk)
  refine hhow ?_
  refine join1 (fun t w' => w4 = w' ∧ (a.how = true → t = .bool (decide (a.r.kind = 1)))) ?_ fun J1 hJ1 => ?_
  · rintro t _ ⟨rfl, ht⟩
    refine pur (v := .bool (a.how && decide (a.r.kind = 1))) ((pick_b _ _ _).trans ?_) (condB (fun hc => ?_) (fun _ => ?_))
    · cases hh : a.how with
      | true => rw [if_pos rfl, ht hh]; rfl
      | false => rw [if_neg (by simp)]; rfl
    · have hk1 : a.r.kind = 1 := by simp at hc; exact hc.2
      have hr1 : a.r = Rec.mk a.r.fam 1 a.r.key a.r.val := by rw [← hk1]
      refine pur (field_ptr _ _ _) (loadB b14 (v := ptr g) rfl (ldr 0 _ rfl (ldr 2 _ rfl (ldr 3 _ rfl ?_))))
      exact done _ fun FA hA hk => BatchF.put hA a.r.fam a.r.key a.r.val (by rw [← hr1]; exact ha) (by rw [← hr1]; exact hk)
    refine hhow ?_
    refine join1 (fun t w' => w4 = w' ∧ (a.how = true → t = .bool (decide (a.r.kind = 0)))) ?_ fun J2 hJ2 => ?_
    · rintro t _ ⟨rfl, ht⟩
      refine pur (v := .bool (a.how && decide (a.r.kind = 0))) ((pick_b _ _ _).trans ?_) (condB (fun hc => ?_) (fun _ => ?_))
      · cases hh : a.how with
        | true => rw [if_pos rfl, ht hh]; rfl
        | false => rw [if_neg (by simp)]; rfl
      · have hk1 : a.r.kind = 0 := by simp at hc; exact hc.2
        refine pur (field_ptr _ _ _) (loadB b14 (v := ptr g) rfl (ldr 0 _ rfl (ldr 2 _ rfl ?_)))
        exact done _ fun FA hA hk => BatchF.delete hA a.r.fam a.r.key ⟨ha.fam, ha.key, by simp [ByteArray.size]⟩ (by rw [addAll_del hk1]; exact hk)
      refine hhow ?_
      refine join1 (fun t w' => w4 = w' ∧ (a.how = true → t = .bool (decide (a.r.kind = 2)))) ?_ fun J3 hJ3 => ?_
      · rintro t _ ⟨rfl, ht⟩
        refine pur (v := .bool (a.how && decide (a.r.kind = 2))) ((pick_b _ _ _).trans ?_) (condB (fun hc => ?_) (fun _ => last))
        · cases hh : a.how with
          | true => rw [if_pos rfl, ht hh]; rfl
          | false => rw [if_neg (by simp)]; rfl
        · have hk1 : a.r.kind = 2 := by simp at hc; exact hc.2
          have hr1 : a.r = Rec.mk a.r.fam 2 a.r.key a.r.val := by rw [← hk1]
          refine pur (field_ptr _ _ _) (loadB b14 (v := ptr g) rfl (ldr 0 _ rfl (ldr 2 _ rfl (ldr 3 _ rfl ?_))))
          exact done _ fun FA hA hk => BatchF.putRange hA a.r.fam a.r.key a.r.val (by rw [← hr1]; exact ha) (by rw [← hr1]; exact hk)
      · rw [ifB_eq]
        split
        · exact hkd (pur (bin_eql _ _ _) (hJ3 _ _ ⟨rfl, fun _ => rfl⟩))
        · rename_i hh; exact hJ3 _ _ ⟨rfl, fun h => absurd h hh⟩
    · rw [ifB_eq]
      split
      · exact hkd (pur (bin_eql _ _ _) (hJ2 _ _ ⟨rfl, fun _ => rfl⟩))
      · rename_i hh; exact hJ2 _ _ ⟨rfl, fun h => absurd h hh⟩
  · rw [ifB_eq]
    split
    · exact hkd (pur (bin_eql _ _ _) (hJ1 _ _ ⟨rfl, fun _ => rfl⟩))
    · rename_i hh; exact hJ1 _ _ ⟨rfl, fun h => absurd h hh⟩
end Go.Proofs.Ytambcnlkdnmekaa
/-! Batches: each call, by the program and by the document. -/
namespace Go.Proofs.Ytambcnlkdnmekaa
open Go SG Go.RowKit Go.Lib
set_option linter.unusedVariables false
set_option maxRecDepth 4000
set_option linter.unusedSimpArgs false

theorem RefF.stp {w w' : World} {g : Nat} {recs : List Rec} {marks : List Nat} {F F' : Nat → Prop} (h : RefF w g recs marks F) (e : Ext (At1 g) w w') (f : ∀ b, F' b → F b ∨ w.heap.size ≤ b) : Stp w F w' F' :=
  ⟨e.mono fun b hb _ => by obtain ⟨lv, mv, _, _, _, hg⟩ := h.get; rw [show b = g from hb]; exact hg, f⟩
/-- both have gone on -/
theorem Pr.both {w w5 w6 : World} {g gd : Nat} {r r' : List Rec} {m m' : List Nat} {F FA FA' FB FB' : Nat → Prop} (hB : RefF w gd r m FB) (hd : ∀ b, FA b → ¬ FB b) (hF : ∀ b, F b ↔ FA b ∨ FB b)
    (hA' : BatchF w5 g r' m' FA') (kA : Stp w FA w5 FA') (hB' : RefF w6 gd r' m' FB') (kB : Stp w5 FB w6 FB') : ∃ F', Pr g gd r' m' w6 F' ∧ Stp w F w6 F' := by
  obtain ⟨h1, h2⟩ := Star.step1 (A' := Bt g r' m') (Rf.st gd r m) hB hd hF hA' kA
  obtain ⟨FA2, FB2, a, b, c, d⟩ := h1
  have hd5 : ∀ b, FA' b → ¬ FB b := fun b hb hh => (kA.sub b hb).elim (fun h => hd b h hh) fun h => by have := hB.lt hh; omega
  obtain ⟨h3, h4⟩ := Star.step2 (F := fun b => FA' b ∨ FB b) (A := Bt g r' m') (B' := Rf gd r' m') (Bt.st _ _ _) hA' hd5 (fun _ => Iff.rfl) hB' kB
  exact ⟨_, h3, h2.trans h4⟩
/-- marks: none beyond the records, none below one that is older -/
structure MInv (recs : List Rec) (marks : List Nat) : Prop where
  ok : MarksOk recs marks
  up : marks.Pairwise (· ≤ ·)
theorem MInv.nil (recs : List Rec) : MInv recs [] := ⟨fun m h => absurd h (by simp), List.Pairwise.nil⟩
theorem MInv.add {recs rs : List Rec} {marks : List Nat} (h : MInv recs marks) : MInv (addAll recs rs).2 marks := by
  obtain ⟨t, ht⟩ := addAll_prefix recs rs
  exact ⟨fun m hm => by rw [ht, List.length_append]; have := h.ok m hm; omega, h.up⟩
theorem MInv.save {recs : List Rec} {marks : List Nat} (h : MInv recs marks) : MInv recs (marks ++ [recs.length]) :=
  ⟨fun m hm => by
    rcases List.mem_append.1 hm with hm | hm
    · exact h.ok m hm
    · simp at hm; omega,
  List.pairwise_append.2 ⟨h.up, List.pairwise_singleton _ _, fun a ha b hb => by simp at hb; subst hb; exact h.ok a ha⟩⟩
theorem MInv.pop {recs : List Rec} {l : List Nat} {m : Nat} (h : MInv recs (l ++ [m])) : MInv recs l := ⟨fun a ha => h.ok a (List.mem_append_left _ ha), (List.pairwise_append.1 h.up).1⟩
theorem MInv.back {recs : List Rec} {l : List Nat} {m : Nat} (h : MInv recs (l ++ [m])) : MInv (recs.take m) l :=
  ⟨fun a ha => by
    rw [List.length_take]
    have h1 := (List.pairwise_append.1 h.up).2.2 a ha m (by simp)
    have h2 := h.ok a (List.mem_append_left _ ha)
    omega, (List.pairwise_append.1 h.up).1⟩
theorem c12nil {w : World} {p : Value} {K : Value → World → Prop} (hK : K (.int .i64 1) w) : CallS Try.prog 12 #[p, .pointer none] K w := by
  refine s12_call hm ?_
  unfold s12
  exact eq_nil_ptr Try.underlying23 (condT rfl hK)

set_option maxHeartbeats 1000000 in
/-- pair.does, but a batch put behind -/
theorem c24 {w0 w : World} {g gd : Nat} {recs : List Rec} {marks : List Nat} {F : Nat → Prop} (h : Pr g gd recs marks w F) (hmi : MInv recs marks) (hml : marks.length ≤ 8796093022208) (e0 : Ext No w0 w) (hF0 : ∀ b, F b → w0.heap.size ≤ b)
    {a : ActD} (ha : a.r.Ok) (hs : Sl w0 a.lv a.l.length 4 (flat Rec.cells a.l)) (hal : AllOk a.l) (hll : a.l.length ≤ 2932031007402) {K : Value → World → Prop}
    (hK : ∀ w' F' recs' marks', Pr g gd recs' marks' w' F' → MInv recs' marks' → marks'.length ≤ marks.length + 1 → Stp w F w' F' → K (.bool true) w') : CallS Try.prog 24 #[pairV g gd, a.agg] K w := by
  obtain ⟨hg, hl, hpl⟩ := pr_good h
  refine s24_call hm ?_
  unfold s24
  refine box fun w1 b1 e1 z1 => box fun w2 b2' e2 z2 => ?_
  have b1' : Blk w2 w.heap.size 53 [ptr g, ptr gd] := b1.no e2
  have b2 : Blk w2 w1.heap.size 56 a.cells := b2'
  have e02 := e1.trans e2
  have h2 : Pr g gd recs marks w2 F := (Pr.st _ _ _ _).no h e02
  have hFlt : ∀ b, F b → b < w.heap.size := fun b hb => (Pr.st _ _ _ _).lt h hb
  have hn1 : ¬ F w.heap.size := fun hh => by have := hFlt _ hh; omega
  have s02 : Stp w F w2 F := Stp.no e02
  refine join0 (fun w' => ∃ F' recs' marks', Pr g gd recs' marks' w' F' ∧ MInv recs' marks' ∧ marks'.length ≤ marks.length + 1 ∧ Stp w F w' F') (fun w' ⟨F', r', m', n1, n2, n3, n4⟩ => hK w' F' r' m' n1 n2 n3 n4) fun J0 hJ0 => ?_
  obtain ⟨FA, FB, hA, hB, hd, hF⟩ := h2
  have hA : BatchF w2 g recs marks FA := hA
  have hB : RefF w2 gd recs marks FB := hB
  have hxA : ¬ FA w.heap.size := fun hh => hn1 ((hF _).2 (.inl hh))
  have hxB : ¬ FB w.heap.size := fun hh => hn1 ((hF _).2 (.inr hh))
  refine pur (field_ptr _ _ _) (loadB b2 (v := .int .i64 a.kind) rfl (pur (bin_eql _ _ _) (condD (fun hk => ?_) (fun _ => ?_))))
  · refine loadA (xs := [ptr g, ptr gd]) (At.of_blk b1') rfl (loadA (xs := a.cells) (At.of_blk b2) rfl ?_)
    exact c46 ⟨FA, FB, hA, hB, hd, hF⟩ ha hs.one fun w' F' n1 n2 n3 => hK w' F' _ marks n1 hmi.add (by omega) (s02.trans ⟨n2, n3⟩)
  refine pur (bin_eql _ _ _) (condD (fun hk => ?_) (fun _ => ?_))
  · -- another one
    have hFlt2 : ∀ b, F b → b < w2.heap.size := fun b hb => by have := hFlt b hb; have := e02.size; omega
    refine BatchF.new fun w3 hO3 e3 z3 => ?_
    refine RefF.new fun w4 hD4 e4 z4 => ?_
    have hO4 := hO3.no e4
    have e24 := e3.trans e4
    have hOD : Pr w2.heap.size w3.heap.size [] [] w4 (fun b => At1 w2.heap.size b ∨ At1 w3.heap.size b) := ⟨_, _, hO4, hD4, fun b h h' => by unfold At1 at h h'; omega, fun _ => Iff.rfl⟩
    refine join0 (fun w' => ∃ os FO, Pr w2.heap.size w3.heap.size os [] w' FO ∧ Ext No w2 w' ∧ ∀ b, FO b → w2.heap.size ≤ b) ?_ fun J1 hJ1 => ?_
    · rintro w5 ⟨os, FO, hOD5, e25, hFO⟩
      obtain ⟨hgo, hlo, hplo⟩ := pr_good hOD5
      obtain ⟨FOA, FOB, hO5, hD5, hdo, hFOe⟩ := hOD5
      have hO5 : BatchF w5 w2.heap.size os [] FOA := hO5
      have hD5 : RefF w5 w3.heap.size os [] FOB := hD5
      have e5 : Ext No w5 w5.drew := Ext.drew w5
      obtain ⟨lvd, mvd, hbd, hsd, hFd, hFdd⟩ := (hD5.no e5).get
      have hdg : w2.heap.size ≤ w3.heap.size := e3.size
      have hx5 := b1'.no (e25.trans e5)
      have hA5 := hA.no (e25.trans e5)
      have hB5 := hB.no (e25.trans e5)
      refine draw (fun w' => Blk w' w.heap.size 53 [ptr g, ptr gd] ∧ Blk w' w3.heap.size 51 [lvd, mvd]) ⟨hx5, hbd⟩ ?_
      refine pur (field_ptr _ _ _) (pur (field_ptr _ _ _) (pur (nil_ptr _) (pur (field_ptr _ _ _) ?_)))
      refine heldC (v := ptr g) (fun w' hh => hh.1.cell 0) (heldC (v := ptr gd) (fun w' hh => hh.1.cell 1) (heldC (v := lvd) (fun w' hh => hh.2.cell 0) ?_))
      refine hA5.append (hO5.no e5) fun w6 FA' hA6 n2 n3 => ?_
      have k6 : Stp w5.drew FA w6 FA' := ⟨n2, n3⟩
      have hFA : ∀ b, FA b → b < w2.heap.size := fun b hb => hFlt2 b ((hF b).2 (.inl hb))
      have hFB : ∀ b, FB b → b < w2.heap.size := fun b hb => hFlt2 b ((hF b).2 (.inr hb))
      have hx6 := k6.blk hx5 hxA
      have hbd6 := k6.blk hbd fun hh => by have := hFA _ hh; omega
      have hB6 := hB5.ext n2 fun b hb hh => hd b hh hb
      refine ⟨⟨hx6, hbd6⟩, ?_⟩
      refine hB6.add (rs := os) hg hl hpl (hsd.ext n2 fun b hb hh => by have := hFA b hh; have := hFO b ((hFOe b).2 (.inr (hFd b hb))); omega) (fun r hr => (hgo r hr).1) hlo (fun hh => ?_) fun w7 FB' hB7 n4 n5 => ?_
      · obtain ⟨_, _, _, _, _, hgd⟩ := hB.get
        have := hFB _ hgd
        have := hFO _ ((hFOe _).2 (.inr (hFd _ hh))); omega
      have k7 := hB6.stp n4 n5
      have hx7 := k7.blk hx6 hxB
      have hbd7 := k7.blk hbd6 fun hh => by have := hFB _ hh; omega
      have hO7 : BatchF w7 w2.heap.size os [] FOA := ((hO5.no e5).ext n2 fun b hb hh => by have := hFA b hh; have := hFO b ((hFOe b).2 (.inl hb)); omega).ext k7.ext fun b hb hh => by have := hFB b hh; have := hFO b ((hFOe b).2 (.inl hb)); omega
      have hsd7 : Sl w7 lvd os.length 4 (flat Rec.cells os) := (hsd.ext n2 fun b hb hh => by have := hFA b hh; have := hFO b ((hFOe b).2 (.inr (hFd b hb))); omega).ext k7.ext fun b hb hh => by have := hFB b hh; have := hFO b ((hFOe b).2 (.inr (hFd b hb))); omega
      obtain ⟨F', hP, hS⟩ := Pr.both hB5 hd hF hA6 k6 hB7 k7
      refine ⟨⟨hx7, hbd7⟩, pur ((bin_eql _ _ _).trans (by rw [decide_eq_true rfl])) (condT rfl (pur (nil_ptr _) (pur (field_ptr _ _ _) (heldC (v := lvd) (fun w' hh => hh.2.cell 0) ?_))))⟩
      refine hO7.records fun v w8 e8 s8 f8 => ⟨⟨hx7.no e8, hbd7.no e8⟩, ?_⟩
      refine c13 s8 (hsd7.no e8) (by omega) fun w9 e9 => pur (pick_b _ _ _) (hK w9 F' _ marks ((Pr.st _ _ _ _).no hP (e8.trans e9)) hmi.add (by omega) ?_)
      exact s02.trans ((Stp.no (e25.trans e5)).trans (hS.trans (Stp.no (e8.trans e9))))
    · refine loop1 (σ := Nat × List Rec) (fun s v w' => v = .int .i64 (s.1 : Int) ∧ s.1 ≤ a.l.length ∧ ∃ FO, Pr w2.heap.size w3.heap.size s.2 [] w' FO ∧ Ext No w2 w' ∧ ∀ b, FO b → w2.heap.size ≤ b) (fun s => a.l.length - s.1) (0, [])
        ⟨rfl, by simp, _, hOD, e24, fun b hb => by unfold At1 at hb; have := e3.size; omega⟩ ?_
      rintro ⟨i, os⟩ _ w5 ⟨rfl, hi, FO, hOD5, e25, hFO⟩ L3 hL3
      simp only at hi hOD5 hL3 ⊢
      obtain ⟨hgo, hlo, hplo⟩ := pr_good hOD5
      have e05 : Ext No w0 w5 := e0.trans (e02.trans e25)
      refine pur (field_ptr _ _ _) (loadB (b2.no e25) (v := a.lv) rfl (pur hs.len (pur (bin_lss _ _ _) (condD (fun hlt => ?_) (fun hge => hJ1 _ ⟨os, FO, hOD5, e25, hFO⟩)))))
      obtain ⟨r, hr⟩ := getN (xs := a.l) (i := i) (by omega)
      have hrok := hal r (List.mem_of_getElem? hr)
      have e5 : Ext No w5 w5.drew := Ext.drew w5
      obtain ⟨ad, ha1, ha2, ha3⟩ := recs_at hs hr
      refine draw (fun w' => Blk w' w1.heap.size 56 a.cells ∧ Ext No w0 w') ⟨b2.no (e25.trans e5), e05.trans e5⟩ ?_
      refine pur (field_ptr _ _ _) (pur (field_ptr _ _ _) (pur (add64 (c := ((i + 1 : Nat) : Int)) (by omega) (by omega) (by omega)) ?_))
      refine heldC (v := a.lv) (fun w' hh => hh.1.cell 6) (pur ha1 (heldA (fun w' hh => At.no ha2 hh.2) rfl (heldC (v := a.lv) (fun w' hh => hh.1.cell 6) ?_)))
      obtain ⟨x', hx1, hx2, hx3⟩ := sl_mid hs (i := i) (j := i + 1) (by omega) (by omega) .i64 .i64
      refine pur hx1 ?_
      obtain ⟨FOA, FOB, hO5, hD5, hdo, hFOe⟩ := hOD5
      have hO5 : BatchF w5 w2.heap.size os [] FOA := hO5
      have hD5 : RefF w5 w3.heap.size os [] FOB := hD5
      refine (hO5.no e5).add hrok fun w6 FA' hA6 n2 n3 => ?_
      have k6 : Stp w5.drew FOA w6 FA' := ⟨n2, n3⟩
      have e06 := (k6.old (e05.trans e5) fun b hb => by have := hFO b ((hFOe b).2 (.inl hb)); have := (e0.trans e02).size; omega).1
      have hb6 : Blk w6 w1.heap.size 56 a.cells := k6.blk (b2.no (e25.trans e5)) fun hh => by have := hFO _ ((hFOe _).2 (.inl hh)); omega
      refine ⟨⟨hb6, e06⟩, ?_⟩
      have hB6 := (hD5.no e5).ext n2 fun b hb hh => hdo b hh hb
      have hsl : Sl w6 x' [r].length 4 (flat Rec.cells [r]) := by
        have := hx2.no e06
        rw [show i + 1 - i = 1 by omega, Nat.one_mul, flat_at Rec.cells Rec.cells_len a.l i r hr] at this
        simpa [flat] using this
      refine hB6.add (rs := [r]) hgo hlo hplo hsl (fun r' hr' => by simp at hr'; subst hr'; exact hrok) (by simp) (fun hh => ?_) fun w7 FB' hB7 n4 n5 => ?_
      · have h3 := hx3 _ hh
        rw [ha3] at h3
        have hc := ha2 0 (.int .u32 (r.fam : Int)) rfl
        have hlt0 := World.block_lt_of_cell? _ _ hc
        rw [Addr.add_block] at hlt0
        have h4 : ad.block = w3.heap.size := by simpa using h3
        have := (e0.trans e02).size
        have := e3.size; omega
      have k7 := hB6.stp n4 n5
      obtain ⟨F', hP, hS⟩ := Pr.both (hD5.no e5) hdo hFOe hA6 k6 hB7 k7
      refine pur ((bin_neq _ _ _).trans (by rw [decide_eq_true rfl]; rfl)) (condF rfl (pur (add64 (c := ((i + 1 : Nat) : Int)) (by omega) (by omega) (by omega)) ?_))
      obtain ⟨h1, h2⟩ := hS.old (e25.trans e5) hFO
      exact hL3 (i + 1, _) _ _ ⟨rfl, by simp only; omega, F', hP, h1, h2⟩ (by simp only; omega)
  have e3 : Ext No w2 w2.drew := Ext.drew w2
  refine pur (bin_eql _ _ _) (condD (fun hk => ?_) (fun _ => ?_))
  · -- itself
    obtain ⟨lv, mv, hb, hsl, hms, hne1, hne2, hF1, hF2, hFg, hFl⟩ := id hB
    refine draw (fun w' => Blk w' w.heap.size 53 [ptr g, ptr gd]) (b1'.no e3) ?_
    refine pur (field_ptr _ _ _) (pur (field_ptr _ _ _) (pur (field_ptr _ _ _) (pur (field_ptr _ _ _) ?_)))
    refine heldC (v := ptr g) (fun w' hh => hh.cell 0) (heldC (v := ptr g) (fun w' hh => hh.cell 0) (heldC (v := ptr gd) (fun w' hh => hh.cell 1) (heldC (v := ptr gd) (fun w' hh => hh.cell 1) ?_)))
    refine pur (nil_ptr _) (pur (field_ptr _ _ _) ?_)
    have hgdA : ¬ FA gd := fun hh => hd _ hh hFg
    have tail : ∀ (w4 : World) FA', BatchF w4 g (addAll recs recs).2 marks FA' → Stp w2.drew FA w4 FA' → ∀ {K' : Value → World → Prop}, (∀ w5, Blk w5 w.heap.size 53 [ptr g, ptr gd] → (K (.bool true) w5) → K' (.int .i64 (addAll recs recs).1) w5) → CallS Try.prog 47 #[ptr gd, lv] K' w4 := fun w4 FA' hA4 k4 K' hK' => by
      have hx4 := k4.blk (b1'.no e3) hxA
      have hB4 := (hB.no e3).ext k4.ext fun b hb hh => hd b hh hb
      refine hB4.add (rs := recs) hg hl hpl ((hsl.no e3).ext k4.ext fun b hb hh => hd b hh (hF1 b hb)) (fun r hr => (hg r hr).1) hl hne1 fun w5 FB' hB5 n4 n5 => ?_
      have k5 := hB4.stp n4 n5
      obtain ⟨F', hP, hS⟩ := Pr.both (hB.no e3) hd hF hA4 k4 hB5 k5
      exact hK' w5 (k5.blk hx4 hxB) (hK _ F' _ marks hP hmi.add (by omega) (s02.trans ((Stp.no e3).trans hS)))
    refine ⟨?_, ?_⟩
    · refine (hA.no e3).append (hA.no e3) fun w4 FA' hA4 n2 n3 => ?_
      have k4 : Stp w2.drew FA w4 FA' := ⟨n2, n3⟩
      refine ⟨k4.blk (b1'.no e3) hxA, loadB (k4.blk (hb.no e3) hgdA) (v := lv) rfl ⟨k4.blk (b1'.no e3) hxA, tail w4 FA' hA4 k4 fun w5 hx5 hk5 => ⟨hx5, ?_⟩⟩⟩
      refine pur ((bin_eql _ _ _).trans (by rw [decide_eq_true rfl])) (condT rfl (pur (field_ptr _ _ _) (heldC (v := ptr g) (fun w' hh => hh.cell 0) (c12nil ?_))))
      exact pur (bin_eql _ _ _) (pur (pick_b _ _ _) hk5)
    · refine loadB (hb.no e3) (v := lv) rfl ⟨b1'.no e3, (hA.no e3).append (hA.no e3) fun w4 FA' hA4 n2 n3 => ?_⟩
      have k4 : Stp w2.drew FA w4 FA' := ⟨n2, n3⟩
      refine ⟨k4.blk (b1'.no e3) hxA, tail w4 FA' hA4 k4 fun w5 hx5 hk5 => ⟨hx5, ?_⟩⟩
      refine pur ((bin_eql _ _ _).trans (by rw [decide_eq_true rfl])) (condT rfl (pur (field_ptr _ _ _) (heldC (v := ptr g) (fun w' hh => hh.cell 0) (c12nil ?_))))
      exact pur (bin_eql _ _ _) (pur (pick_b _ _ _) hk5)
  refine pur (bin_eql _ _ _) (condD (fun hk => ?_) (fun _ => ?_))
  · -- Clear
    refine pur (field_ptr _ _ _) (loadB b1' (v := ptr g) rfl (hA.clear fun w4 hA4 n2 => ?_))
    have hgA : FA g := by obtain ⟨lv, mv, sz, _, rfl⟩ := hA; exact .inl rfl
    have k4 : Stp w2 FA w4 (At1 g) := ⟨n2, fun b hb => .inl (by rw [show b = g from hb]; exact hgA)⟩
    have hx4 := k4.blk b1' hxA
    have hB4 := hB.ext n2 fun b hb hh => hd b hh hb
    obtain ⟨lv, mv, hb, hsl, hms, hne1, hne2, hF1, hF2, hFg, hFl⟩ := hB4
    have e4 : Ext No w4 w4.drew := Ext.drew w4
    have hgx : gd ≠ w.heap.size := fun hh => hxB (by rw [← hh]; exact hFg)
    refine draw (fun w' => Blk w' w.heap.size 53 [ptr g, ptr gd]) (hx4.no e4) ?_
    refine pur (field_ptr _ _ _) (pur (field_ptr _ _ _) (heldC (v := ptr gd) (fun w' hh => hh.cell 1) (pur (nil_ptr _) (pur (field_ptr _ _ _) (heldC (v := ptr gd) (fun w' hh => hh.cell 1) ?_)))))
    refine storeB (hb.no e4) (by simp) rfl fun w5 b5 e5 _ => ⟨(hx4.no e4).ext e5 fun hh => hgx hh.symm, ?_⟩
    refine pur (nil_ptr _) (pur (field_ptr _ _ _) (storeB b5 (by simp) rfl fun w6 b6 e6 _ => ?_))
    have hB6 : RefF w6 gd [] [] (At1 gd) := ⟨.slice none 0 0, .slice none 0 0, b6, Sl.nil_ _ _, Sl.nil_ _ _, by simp [Value.ownBlock], by simp [Value.ownBlock], by simp [Value.ownBlock], by simp [Value.ownBlock], rfl,
      fun b hb => by rw [show b = gd from hb]; exact b6.lt⟩
    have k6 : Stp w4 FB w6 (At1 gd) := ⟨e4.no.trans ((e5.trans e6).mono fun b hb _ => by rw [show b = gd from hb]; exact hFg), fun b hb => .inl (by rw [show b = gd from hb]; exact hFg)⟩
    obtain ⟨F', hP, hS⟩ := Pr.both hB hd hF hA4 k4 hB6 k6
    exact hJ0 _ ⟨F', _, _, hP, MInv.nil _, by simp, s02.trans hS⟩
  refine pur (bin_eql _ _ _) (condD (fun hk => ?_) (fun _ => ?_))
  · -- Save
    refine pur (field_ptr _ _ _) (loadB b1' (v := ptr g) rfl (hA.save hml fun w4 FA' hA4 n2 n3 => ?_))
    have k4 : Stp w2 FA w4 FA' := ⟨n2, n3⟩
    have hx4 := k4.blk b1' hxA
    have hB4 := hB.ext n2 fun b hb hh => hd b hh hb
    refine pur (field_ptr _ _ _) (loadB hx4 (v := ptr gd) rfl (hB4.save hml fun w5 FB' hB5 n4 n5 => ?_))
    obtain ⟨F', hP, hS⟩ := Pr.both hB hd hF hA4 k4 hB5 (hB4.stp n4 n5)
    exact hJ0 _ ⟨F', _, _, hP, hmi.save, by simp, s02.trans hS⟩
  refine pur (bin_eql _ _ _) (condD (fun hk => ?_) (fun _ => ?_))
  · -- Back
    refine draw (fun w' => Blk w' w.heap.size 53 [ptr g, ptr gd]) (b1'.no e3) ?_
    refine pur (field_ptr _ _ _) (pur (field_ptr _ _ _) (heldC (v := ptr g) (fun w' hh => hh.cell 0) (heldC (v := ptr gd) (fun w' hh => hh.cell 1) ?_)))
    refine (hA.no e3).back hml hmi.ok (fun hz => ?_) fun l m w4 FA' hlm hA4 n2 n3 => ?_
    · refine ⟨b1'.no e3, (hB.no e3).pop hml hmi.ok true (fun _ => ?_) fun l m w' hh => by rw [hz] at hh; simp at hh⟩
      refine pur ((bin_eql _ _ _).trans (by rw [decide_eq_true rfl])) ?_
      exact hK _ F recs marks ((Pr.st _ _ _ _).no ⟨FA, FB, hA, hB, hd, hF⟩ e3) hmi (by omega) (s02.trans (Stp.no e3))
    · have k4 : Stp w2.drew FA w4 FA' := ⟨n2, fun b hb => .inl (n3 b hb)⟩
      have hB4 := (hB.no e3).ext n2 fun b hb hh => hd b hh hb
      refine ⟨k4.blk (b1'.no e3) hxA, hB4.pop hml hmi.ok true (fun hz => by rw [hz] at hlm; simp at hlm) fun l' m' w5 hlm' hB5 n4 => ?_⟩
      have hsame : l ++ [m] = l' ++ [m'] := by rw [← hlm, ← hlm']
      obtain ⟨h3, h4⟩ := List.append_inj' hsame rfl
      simp only [List.cons.injEq, and_true] at h4
      subst h3 h4
      simp only [if_true] at hB5
      obtain ⟨F', hP, hS⟩ := Pr.both (hB.no e3) hd hF hA4 k4 hB5 (hB4.stp n4 fun b hb => .inl hb)
      refine pur ((bin_eql _ _ _).trans (by rw [decide_eq_true rfl])) ?_
      subst hlm
      exact hK _ F' _ _ hP hmi.back (by simp; omega) (s02.trans ((Stp.no e3).trans hS))
  refine pur (bin_eql _ _ _) (condD (fun hk => ?_) (fun _ => ?_))
  · -- Pop
    refine draw (fun w' => Blk w' w.heap.size 53 [ptr g, ptr gd]) (b1'.no e3) ?_
    refine pur (field_ptr _ _ _) (pur (field_ptr _ _ _) (heldC (v := ptr g) (fun w' hh => hh.cell 0) (heldC (v := ptr gd) (fun w' hh => hh.cell 1) ?_)))
    refine (hA.no e3).pop hml (fun hz => ?_) fun l m w4 hlm hA4 n2 => ?_
    · refine ⟨b1'.no e3, (hB.no e3).pop hml hmi.ok false (fun _ => ?_) fun l m w' hh => by rw [hz] at hh; simp at hh⟩
      refine pur ((bin_eql _ _ _).trans (by rw [decide_eq_true rfl])) ?_
      exact hK _ F recs marks ((Pr.st _ _ _ _).no ⟨FA, FB, hA, hB, hd, hF⟩ e3) hmi (by omega) (s02.trans (Stp.no e3))
    · have k4 : Stp w2.drew FA w4 FA := ⟨n2, fun b hb => .inl hb⟩
      have hB4 := (hB.no e3).ext n2 fun b hb hh => hd b hh hb
      refine ⟨k4.blk (b1'.no e3) hxA, hB4.pop hml hmi.ok false (fun hz => by rw [hz] at hlm; simp at hlm) fun l' m' w5 hlm' hB5 n4 => ?_⟩
      have hsame : l ++ [m] = l' ++ [m'] := by rw [← hlm, ← hlm']
      obtain ⟨h3, h4⟩ := List.append_inj' hsame rfl
      simp only [List.cons.injEq, and_true] at h4
      subst h3 h4
      simp only [Bool.false_eq_true, if_false] at hB5
      obtain ⟨F', hP, hS⟩ := Pr.both (hB.no e3) hd hF hA4 k4 hB5 (hB4.stp n4 fun b hb => .inl hb)
      refine pur ((bin_eql _ _ _).trans (by rw [decide_eq_true rfl])) ?_
      subst hlm
      exact hK _ F' _ _ hP hmi.pop (by simp; omega) (s02.trans ((Stp.no e3).trans hS))
  · exact hJ0 _ ⟨F, recs, marks, ⟨FA, FB, hA, hB, hd, hF⟩, hmi, by omega, s02⟩
end Go.Proofs.Ytambcnlkdnmekaa
/-! Batches: what a batch tells; the law of acts, walked. -/
namespace Go.Proofs.Ytambcnlkdnmekaa
open Go SG Go.RowKit Go.Lib
set_option linter.unusedVariables false
set_option maxRecDepth 4000
set_option linter.unusedSimpArgs false

/-- slices.Clone of records: a row of its own -/
theorem c27o {w : World} {x : Value} {rs : List Rec} (hs : Sl w x rs.length 4 (flat Rec.cells rs)) (hrl : rs.length ≤ 2932031007402) {K : Value → World → Prop}
    (hK : ∀ v w', Ext No w w' → w'.ownsRow w.heap.size 31 4 v rs.length (flat Rec.cells rs) → K v w') : CallS Try.prog 27 #[x] K w := by
  refine s27_call hm ?_
  unfold s27
  have hs' := hs
  obtain ⟨A, c, rfl, hl, hc, h0, hA⟩ := hs'
  refine eq_nil_slice Try.underlying22 (condB (fun hn => ?_) (fun hn => ?_))
  · have : A = none := by simpa using hn
    have hz := h0 this
    have hnil : rs = [] := List.eq_nil_of_length_eq_zero hz
    subst hnil
    exact hK _ w (Ext.refl _ w) (World.ownsRow_nil _ _ _ _)
  · refine build0 T22 fun w1 b1 e1 z1 => ?_
    have ho1 : w1.ownsRow w.heap.size 31 4 (.slice (some ⟨w.heap.size, 0, none⟩) 0 0) 0 [] := b1.owns rfl (Nat.le_refl _) (by omega)
    refine append_sl T22 22 ho1 (hs.no e1) (fun u hu => ?_) (by omega) (by omega) e1.size fun v w2 ho2 hg2 _ => ?_
    · simp only [flat, List.mem_flatMap] at hu
      obtain ⟨r, _, hu⟩ := hu
      exact r.one u hu
    · have e2 := ext_grown ho1 hg2
      exact hK v w2 (ext_fr' e1 e2 (Nat.le_refl _)) (by simpa using ho2)
theorem BatchF.recordsO {w : World} {g : Nat} {recs : List Rec} {marks : List Nat} {F : Nat → Prop} (h : BatchF w g recs marks F) {K : Value → World → Prop} (hK : ∀ v w', Ext No w w' → w'.ownsRow w.heap.size 31 4 v recs.length (flat Rec.cells recs) → K v w') :
    CallS Try.prog 9 #[ptr g] K w := by
  obtain ⟨lv, mv, sz, hb, rfl⟩ := h
  refine s9_call hm ?_
  unfold s9
  refine pur (nil_ptr _) (pur (field_ptr _ _ _) (loadB hb.at_.blk (v := lv) rfl ?_))
  have := hb.len
  exact c27o (Sl.own hb.at_.row) (by omega) hK
theorem build31s (w : World) (s : ByteArray) : (Instr.build 31 [(2, .string s)].toArray).run Try.prog w = .ok (.agg #[.int .u32 0, .int .i64 0, .string s, .string ⟨#[]⟩]) w := by kernel_rfl

set_option maxHeartbeats 1000000 in
/-- pair.tells -/
theorem c25 {w : World} {g gd : Nat} {recs : List Rec} {marks : List Nat} {F : Nat → Prop} (h : Pr g gd recs marks w F) {K : Value → World → Prop} (hK : ∀ w', Ext No w w' → K (.bool true) w') : CallS Try.prog 25 #[pairV g gd] K w := by
  obtain ⟨hg, hl, hpl⟩ := pr_good h
  refine s25_call hm ?_
  unfold s25
  refine box fun w1 b1' e1 z1 => ?_
  have b1 : Blk w1 w.heap.size 53 [ptr g, ptr gd] := b1'
  obtain ⟨FA, FB, hA, hB, hd, hF⟩ := (Pr.st _ _ _ _).no h e1
  have hA : BatchF w1 g recs marks FA := hA
  have hB : RefF w1 gd recs marks FB := hB
  obtain ⟨lvd, mvd, hbd, hsd, hFd, hFdd⟩ := hB.get
  refine pur (field_ptr _ _ _) (loadB b1 (v := ptr g) rfl (hA.recordsO fun v2 w2 e2 ho2 => ?_))
  have e2d : Ext No w1 w2.drew := e2.trans (Ext.drew w2)
  refine draw (fun w' => Blk w' w.heap.size 53 [ptr g, ptr gd] ∧ Blk w' gd 51 [lvd, mvd]) ⟨b1.no e2d, hbd.no e2d⟩ ?_
  refine pur (field_ptr _ _ _) (pur (field_ptr _ _ _) (heldC (v := ptr g) (fun w' hh => hh.1.cell 0) (heldC (v := ptr gd) (fun w' hh => hh.1.cell 1) (pur (nil_ptr _) (pur (field_ptr _ _ _) (heldC (v := lvd) (fun w' hh => hh.2.cell 0) ?_))))))
  refine (hA.no e2d).families fun v3 w3 fs e3 hs3 hb3 hf3 => ?_
  have e13 := e2d.trans e3
  refine ⟨⟨b1.no e13, hbd.no e13⟩, ?_⟩
  refine c52 (hsd.no e13) hl fun v4 w4 fs' e4 hs4 hf4 hfl => ?_
  obtain rfl := hf3.unique hf4
  have e14 := e13.trans e4
  have ho4 : w4.ownsRow w1.heap.size 31 4 v2 recs.length (flat Rec.cells recs) := owns_ext ho2 ((Ext.drew w2).trans (e3.trans e4)) fun _ _ hh => hh
  have hs34 := hs3.no e4
  refine join1 (fun t w' => t = .bool false ∧ Ext No w4 w') ?_ fun J1 hJ1 => ?_
  · rintro _ w5 ⟨rfl, e5⟩
    refine condF rfl ?_
    have hs35 := hs34.no e5
    have hs45 := hs4.no e5
    have ho5 := owns_ext ho4 e5 fun _ _ hh => hh
    have e15 := e14.trans e5
    have e05 : Ext No w w5 := e1.trans e15
    refine join0 (fun w' => Ext No w5 w') ?_ fun J2 hJ2 => ?_
    · intro w6 e6
      refine join0 (fun w' => Ext No w w') (fun w' e => hK w' e) fun J3 hJ3 => ?_
      have ho6 := owns_ext ho5 e6 fun _ _ hh => hh
      refine loop1 (σ := Nat) (fun i a w' => a = .int .i64 (i : Int) ∧ i ≤ recs.length ∧ Ext No w w' ∧ ∃ xs : List Rec, xs.length = recs.length ∧ w'.ownsRow w1.heap.size 31 4 v2 recs.length (flat Rec.cells xs)) (fun i => recs.length - i) 0
        ⟨rfl, by omega, e05.trans e6, recs, rfl, ho6⟩ ?_
      rintro i _ w7 ⟨rfl, hi, e7, xs, hxl, ho7⟩ L4 hL4
      refine pur (Sl.own ho7).len (pur (bin_lss _ _ _) (condD (fun hlt => ?_) (fun _ => hJ3 _ e7)))
      refine runS (build31s w7 _) ?_
      rcases ho7.2 with ⟨rfl, hz⟩ | ⟨gv, cap, cur, rfl, hbv, hgv, hnc, hcm, hcs, htake⟩
      · exact absurd hz (by omega)
      · refine pur (idx_row (by omega)) ?_
        have hbk : Blk w7 gv 31 (flat Rec.cells xs ++ cur.toList.drop (recs.length * 4)) := by
          unfold Blk
          rw [← htake, List.take_append_drop]
          simpa using hgv
        refine row_set (a := Rec.mk 0 0 ⟨#[115, 112, 111, 105, 108, 116]⟩ ⟨#[]⟩) Rec.cells_len hbk (by omega) (Rec.one _) fun w8 b8 e8 z8 => ?_
        refine pur (add64 (c := ((i + 1 : Nat) : Int)) (by omega) (by omega) (by omega)) (hL4 (i + 1) _ _ ⟨rfl, by omega, e7.fresh e8 fun b hb => .inr ?_, xs.set i (Rec.mk 0 0 ⟨#[115, 112, 111, 105, 108, 116]⟩ ⟨#[]⟩), by simpa using hxl, ⟨?_, .inr ⟨gv, cap, _, rfl, hbv, b8, hnc, hcm, ?_, ?_⟩⟩⟩ (by omega))
        · rw [show b = gv from hb]; have := e1.size; omega
        · rw [flat_length Rec.cells Rec.cells_len]; simp; omega
        · simp only [List.size_toArray, List.length_append, flat_length Rec.cells Rec.cells_len, List.length_drop, List.length_set, Array.length_toList]
          omega
        · have hl8 : (flat Rec.cells (xs.set i (Rec.mk 0 0 ⟨#[115, 112, 111, 105, 108, 116]⟩ ⟨#[]⟩))).length = recs.length * 4 := by
            rw [flat_length Rec.cells Rec.cells_len]; simp; omega
          rw [← hl8]; simp
    · refine loop1 (σ := Nat) (fun i a w' => a = .int .i64 (i : Int) ∧ i ≤ fs.length ∧ Ext No w5 w') (fun i => fs.length - i) 0 ⟨rfl, by omega, Ext.refl _ _⟩ ?_
      rintro i _ w6 ⟨rfl, hi, e6⟩ L5 hL5
      refine pur hs35.len (pur (bin_lss _ _ _) (condD (fun hlt => ?_) (fun _ => hJ2 _ e6)))
      have e6d : Ext No w5 w6.drew := e6.trans (Ext.drew w6)
      obtain ⟨y, hy⟩ := getN (xs := fs) (i := i) (by omega)
      obtain ⟨ad, ha1, ha2, ha3⟩ := sl_idx1 hs35 (i := i) (v := encE y) (by simp [hy]) .i64
      obtain ⟨ad', hb1, hb2, hb3⟩ := sl_idx1 hs45 (i := i) (v := encE y) (by simp [hy]) .i64
      refine draw (fun w' => Ext No w5 w') e6d (pur ha1 (pur hb1 (heldC (v := encE y) (fun w' hh => ha3 w' (hs35.no hh)) (heldC (v := encE y) (fun w' hh => hb3 w' (hs45.no hh)) ?_))))
      refine pur (neE y y) (condF (by simp) (pur (add64 (c := ((i + 1 : Nat) : Int)) (by omega) (by omega) (by omega)) (hL5 (i + 1) _ _ ⟨rfl, by omega, e6d⟩ (by omega))))
  · have e4d : Ext No w4 w4.drew := Ext.drew w4
    have hb14 := b1.no (e14.trans e4d)
    have hbd4 := hbd.no (e14.trans e4d)
    refine draw (fun w' => Blk w' w.heap.size 53 [ptr g, ptr gd] ∧ Blk w' gd 51 [lvd, mvd]) ⟨hb14, hbd4⟩ ?_
    refine pur (field_ptr _ _ _) (heldC (v := ptr gd) (fun w' hh => hh.1.cell 1) (pur (nil_ptr _) (pur (field_ptr _ _ _) (heldC (v := lvd) (fun w' hh => hh.2.cell 0) ?_))))
    refine c13 (Sl.own (owns_ext ho4 e4d fun _ _ hh => hh)) (hsd.no (e14.trans e4d)) (by omega) fun w5 e5 => ?_
    have e45 := e4d.trans e5
    refine ⟨⟨hb14.no e5, hbd4.no e5⟩, pur (not_b _) (condF rfl ?_)⟩
    refine pur (field_ptr _ _ _) (pur (field_ptr _ _ _) (heldC (v := ptr g) (fun w' hh => hh.1.cell 0) (heldC (v := ptr gd) (fun w' hh => hh.1.cell 1) (pur (nil_ptr _) (pur (field_ptr _ _ _) (heldC (v := lvd) (fun w' hh => hh.2.cell 0) ?_))))))
    refine pur hsd.len ((hA.no (e14.trans e45)).count ⟨⟨hb14.no e5, hbd4.no e5⟩, ?_⟩)
    refine pur (v := .bool false) ((bin_neq _ _ _).trans (by simp)) (pur (v := .bool false) (pick_b _ _ _) (condF rfl ?_))
    refine pur (field_ptr _ _ _) (pur (field_ptr _ _ _) (heldC (v := ptr g) (fun w' hh => hh.1.cell 0) (heldC (v := ptr gd) (fun w' hh => hh.1.cell 1) (pur (nil_ptr _) (pur (field_ptr _ _ _) (heldC (v := lvd) (fun w' hh => hh.2.cell 0) ?_))))))
    refine (hA.no (e14.trans e45)).size ⟨⟨hb14.no e5, hbd4.no e5⟩, ?_⟩
    refine c36 (hsd.no (e14.trans e45)) hg hl fun w6 e6 => ?_
    refine pur (v := .bool false) ((bin_neq _ _ _).trans (by simp)) (pur (v := .bool false) (pick_b _ _ _) (condF rfl ?_))
    refine pur hs34.len (pur hs4.len (pur (v := .bool false) ((bin_neq _ _ _).trans (by simp)) (pur (v := .bool false) (pick_b _ _ _) (hJ1 _ _ ⟨rfl, e45.trans e6⟩))))

/-- what the acts are good for -/
structure ActOk (w0 : World) (a : ActD) : Prop where
  r : a.r.Ok
  s : Sl w0 a.lv a.l.length 4 (flat Rec.cells a.l)
  l : AllOk a.l
  n : a.l.length ≤ 2932031007402
theorem acts_at {w : World} {x : Value} {l : List ActD} (hs : Sl w x l.length 7 (flat ActD.cells l)) {i : Nat} {a : ActD} (hr : l[i]? = some a) :
    ∃ ad, indexAddrV 7 x (.int .i64 (i : Int)) = some (.pointer (some ad)) ∧ At w ad a.cells := by
  have hi : i < l.length := (List.getElem?_eq_some_iff.1 hr).1
  obtain ⟨ad, h1, h2, h3⟩ := hs.at_ hi
  rw [flat_at ActD.cells ActD.cells_len l i a hr] at h2
  exact ⟨ad, h1, h2⟩
theorem build53r (w : World) (g gd : Nat) : (Instr.build 53 [(0, ptr g), (1, ptr gd)].toArray).run Try.prog w = .ok (pairV g gd) w := by kernel_rfl

set_option maxHeartbeats 1000000 in
theorem acts {w0 : World} {x : Value} {l : List ActD} (hs : Sl w0 x l.length 7 (flat ActD.cells l)) (hl : ∀ a ∈ l, ActOk w0 a) (hn : l.length ≤ 8796093022208) : CallS Try.prog 7 #[x] (fun v w' => v = .bool true ∧ Ext No w0 w') w0 := by
  refine s7_call hm ?_
  unfold s7
  refine BatchF.new fun w1 h1 e1 z1 => RefF.new fun w2 h2 e2 z2 => ?_
  refine runS (build53r w2 w0.heap.size w1.heap.size) (box fun w3 b3 e3 z3 => ?_)
  refine storeAll (vs := [ptr w0.heap.size, ptr w1.heap.size]) b3 rfl rfl (by simp [ptr, Value.oneCell']) fun w4 b4 e4 z4 => ?_
  have hP4 : Pr w0.heap.size w1.heap.size [] [] w4 (fun b => At1 w0.heap.size b ∨ At1 w1.heap.size b) := by
    refine ⟨_, _, BatchF.ext ((h1.no e2).no e3) e4 fun b hb hh => ?_, RefF.ext (h2.no e3) e4 fun b hb hh => ?_, fun b h h' => ?_, fun _ => Iff.rfl⟩ <;> unfold At1 at * <;> omega
  have e04 : Ext No w0 w4 := (e1.trans (e2.trans e3)).fresh e4 fun b hb => .inr (by rw [show b = w2.heap.size from hb]; omega)
  refine join0 (fun w' => ∃ recs marks F, Pr w0.heap.size w1.heap.size recs marks w' F ∧ Blk w' w2.heap.size 53 [ptr w0.heap.size, ptr w1.heap.size] ∧ Ext No w0 w') ?_ fun J0 hJ0 => ?_
  · rintro w5 ⟨recs, marks, F, hP, hb, e5⟩
    refine loadA (xs := [ptr w0.heap.size, ptr w1.heap.size]) (At.of_blk hb) rfl (c25 hP fun w6 e6 => ?_)
    refine join1 (fun t w' => t = .bool true ∧ Ext No w0 w') ?_ fun J1 hJ1 => ?_
    · rintro _ w7 ⟨rfl, e7⟩
      refine pur (pick_b _ _ _) ?_
      refine join1 (fun t w' => t = .bool true ∧ Ext No w0 w') (fun t w' ⟨h, e⟩ => by subst h; exact pur (pick_b _ _ _) ⟨rfl, e⟩) fun J2 hJ2 => ?_
      exact ifT _ _ (c14 fun w8 e8 => hJ2 _ _ ⟨rfl, e7.trans e8⟩)
    · exact ifT _ _ (loadA (xs := [ptr w0.heap.size, ptr w1.heap.size]) (At.of_blk (hb.no e6)) rfl (c25 ((Pr.st _ _ _ _).no hP e6) fun w7 e7 => hJ1 _ _ ⟨rfl, e5.trans (e6.trans e7)⟩))
  · refine loop1 (σ := Nat) (fun i v w' => v = .int .i64 (i : Int) ∧ i ≤ l.length ∧ ∃ recs marks F, Pr w0.heap.size w1.heap.size recs marks w' F ∧ MInv recs marks ∧ marks.length ≤ i ∧ Blk w' w2.heap.size 53 [ptr w0.heap.size, ptr w1.heap.size] ∧ ¬ F w2.heap.size ∧ Ext No w0 w' ∧ ∀ b, F b → w0.heap.size ≤ b) (fun i => l.length - i) 0
      ⟨rfl, by omega, [], [], _, hP4, MInv.nil _, by simp, b4, by unfold At1; omega, e04, fun b hb => by unfold At1 at hb; omega⟩ ?_
    rintro i _ w5 ⟨rfl, hi, recs, marks, F, hP, hmi, hml, hb, hnx, e5, hF⟩ L3 hL3
    refine pur hs.len (pur (bin_lss _ _ _) (condD (fun hlt => ?_) (fun _ => hJ0 _ ⟨recs, marks, F, hP, hb, e5⟩)))
    obtain ⟨a, ha⟩ := getN (xs := l) (i := i) (by omega)
    have hok := hl a (List.mem_of_getElem? ha)
    refine join1 (fun t w' => t = .bool false ∧ ∃ recs marks F, Pr w0.heap.size w1.heap.size recs marks w' F ∧ MInv recs marks ∧ marks.length ≤ i + 1 ∧ Blk w' w2.heap.size 53 [ptr w0.heap.size, ptr w1.heap.size] ∧ ¬ F w2.heap.size ∧ Ext No w0 w' ∧ ∀ b, F b → w0.heap.size ≤ b) ?_ fun J4 hJ4 => ?_
    · rintro _ w6 ⟨rfl, h6⟩
      exact condF rfl (pur (add64 (c := ((i + 1 : Nat) : Int)) (by omega) (by omega) (by omega)) (hL3 (i + 1) _ _ ⟨rfl, by omega, h6⟩ (by omega)))
    · obtain ⟨ad, hx1, hx2⟩ := acts_at hs ha
      have e5d : Ext No w5 w5.drew := Ext.drew w5
      refine draw (fun w' => Blk w' w2.heap.size 53 [ptr w0.heap.size, ptr w1.heap.size] ∧ Ext No w0 w') ⟨hb.no e5d, e5.trans e5d⟩ ?_
      refine pur hx1 (heldA (xs := [ptr w0.heap.size, ptr w1.heap.size]) (fun w' hh => At.of_blk hh.1) rfl (heldA (xs := a.cells) (fun w' hh => At.no hx2 hh.2) rfl ?_))
      refine c24 (w0 := w0) ((Pr.st _ _ _ _).no hP e5d) hmi (by omega) (e5.trans e5d) hF hok.r hok.s hok.l hok.n fun w6 F' recs' marks' h6 m6 l6 k6 => ?_
      obtain ⟨e06, hF6⟩ := k6.old (e5.trans e5d) hF
      have hlt2 : w2.heap.size < w5.drew.heap.size := (hb.no e5d).lt
      have hb6 := k6.blk (hb.no e5d) hnx
      have hn6 := k6.out hlt2 hnx
      refine ⟨⟨hb6, e06⟩, pur (not_b _) (condF rfl (pur (bin_rem _ _ _ (by decide)) (pur (bin_eql _ _ _) (condB (fun _ => ?_) (fun _ => ?_)))))⟩
      · refine heldA (xs := [ptr w0.heap.size, ptr w1.heap.size]) (fun w' hh => At.of_blk hh.1) rfl (c25 h6 fun w7 e7 => ?_)
        exact pur (not_b _) (pur (pick_b _ _ _) (pur (pick_b _ _ _) (hJ4 _ _ ⟨rfl, recs', marks', F', (Pr.st _ _ _ _).no h6 e7, m6, by omega, hb6.no e7, hn6, e06.trans e7, hF6⟩)))
      · exact pur (pick_b _ _ _) (pur (pick_b _ _ _) (hJ4 _ _ ⟨rfl, recs', marks', F', h6, m6, by omega, hb6, hn6, e06, hF6⟩))
end Go.Proofs.Ytambcnlkdnmekaa
/-! Rules for a row's own step: arguments opened as lists, their weights. No program stands here. -/
namespace SG
open Go Go.RowKit Go.ChangeShapes Go.WideShapes Go.Deep
set_option linter.unusedVariables false
set_option linter.unusedSimpArgs false

theorem list_of {α : Type} {Q : Nat → α → Prop} : ∀ (n : Nat), (∀ i, i < n → ∃ a, Q i a) → ∃ l : List α, l.length = n ∧ ∀ i a, l[i]? = some a → Q i a
  | 0, _ => ⟨[], rfl, fun i a h => by simp at h⟩
  | n + 1, h => by
    obtain ⟨l, hl, hQ⟩ := list_of n fun i hi => h i (by omega)
    obtain ⟨a, ha⟩ := h n (by omega)
    refine ⟨l ++ [a], by simp [hl], fun i b hb => ?_⟩
    by_cases hi : i < l.length
    · rw [List.getElem?_append_left hi] at hb
      exact hQ i b hb
    · rw [List.getElem?_append_right (by omega)] at hb
      have h0 : i - l.length = 0 := by
        rcases Nat.eq_zero_or_pos (i - l.length) with h | h
        · exact h
        · rw [List.getElem?_eq_none (by simp; omega)] at hb; cases hb
      rw [h0] at hb
      simp only [List.getElem?_cons_zero, Option.some.injEq] at hb
      subst hb
      have : i = n := by omega
      rw [this]; exact ha
theorem At.flat {α : Type} {f : α → List Value} {size : Nat} (hf : ∀ a, (f a).length = size) {w : World} : ∀ (l : List α) (ad : Addr), (∀ i a, l[i]? = some a → At w (ad.add (i * size)) (f a)) → At w ad (SG.flat f l)
  | [], ad, h => fun i v hv => by simp [SG.flat] at hv
  | x :: l, ad, h => by
    have hrec := At.flat hf l (ad.add size) fun i a ha => by
      have := h (i + 1) a (by simpa using ha)
      rw [Addr.add_add, Nat.add_comm size, ← Nat.succ_mul]
      exact this
    intro i v hv
    have e : SG.flat f (x :: l) = f x ++ SG.flat f l := by simp [SG.flat]
    rw [e] at hv
    by_cases hi : i < (f x).length
    · rw [List.getElem?_append_left hi] at hv
      have := h 0 x rfl i v hv
      simpa [Addr.add_zero'] using this
    · rw [List.getElem?_append_right (by omega), hf] at hv
      have h1 := hrec (i - size) v hv
      rw [Addr.add_add] at h1
      rw [hf] at hi
      rwa [show size + (i - size) = i by omega] at h1

section
variable {H : Type} {P : Program}
theorem weights_all_mem : ∀ {l : List (DataW H)} {e : TypeId} {d : DataW H} {n : Nat}, d ∈ l → n ∈ d.weights P e → n ∈ DataW.weightsAll P e l
  | a :: l, e, d, n, hd, hn => by
    simp only [DataW.weightsAll, List.mem_append]
    rcases List.mem_cons.1 hd with rfl | hd
    · exact .inl hn
    · exact .inr (weights_all_mem hd hn)
theorem weights_elem {t e : TypeId} {elems spare : List (DataW H)} {d : DataW H} {n : Nat} (ht : P.underlying t = some (.slice e)) (hd : d ∈ elems) (hn : n ∈ d.weights P e) : n ∈ (DataW.slice elems spare).weights P t := by
  simp only [DataW.weights, ht, List.mem_cons, List.mem_append]
  exact .inr (.inl (weights_all_mem hd hn))
theorem weights_row {t e : TypeId} {elems spare : List (DataW H)} (ht : P.underlying t = some (.slice e)) : (elems.length + spare.length) * P.bytesOf e ∈ (DataW.slice elems spare).weights P t := by
  simp [DataW.weights, ht]
/-- the arguments' weights, one argument's -/
theorem weights_le {ts : List TypeId} {ds : List (DataW H)} (h : (DataW.weightsEach P ts ds).all (· ≤ reachBytes) = true) {j : Nat} {t : TypeId} {d : DataW H} (ht : ts[j]? = some t) (hd : ds[j]? = some d) : ∀ n ∈ d.weights P t, n ≤ reachBytes := fun n hn => by
  have := List.all_eq_true.1 h _ (DataW.weights_mem_each ht hd n hn)
  simpa using this
end

section
variable {H : Type} {enc : TypeId × Value → H} {P : Program} {w : World} {base : Nat} {spare : Nat → Bool} {held : Bool}
/-- a struct of one-cell fields -/
theorem open_struct {e : TypeId} {fs : Array Field} {fuel : Nat} {cs : List Value} {x : DataW H × List MemPlace} (he : P.underlying e = some (.struct fs))
    (hone : oneCellFields P fs = true) (hC : P.cellsOf e = fs.size) (hcl : cs.length = fs.size) (h : DataW.trod enc P w base spare held fuel e cs = some x) :
    ∃ (ys : List (DataW H × List MemPlace)) (n : Nat), x.1 = .agg (ys.map (·.1)) ∧ ys.length = fs.size ∧
        ∀ (j : Nat) (f : Field), fs[j]? = some f → ∃ (v : Value) (y : DataW H × List MemPlace), cs[j]? = some v ∧ ys[j]? = some y ∧ DataW.trod enc P w base spare held n f.type [v] = some y := by
  obtain ⟨ys, n', hn', hy, hlen, hyl, hf⟩ := DataW.trod_struct he h
  refine ⟨ys, n', by rw [hy], hyl, fun j f hj => ?_⟩
  obtain ⟨ho, hk⟩ := hone_of hone j f hj
  have hjl : j < fs.size := (Array.getElem?_eq_some_iff.1 hj).1
  have hv : cs[j]? = some (cs[j]'(by omega)) := List.getElem?_eq_getElem (by omega)
  have h1 := hf j f hj
  rw [ho, hk] at h1
  have hone' : (cs.drop j).take 1 = [cs[j]'(by omega)] := by
    rw [List.drop_eq_getElem_cons (by omega)]
    rfl
  rw [hone'] at h1
  have hys : ys[j]? = some (ys[j]'(by omega)) := List.getElem?_eq_getElem (by omega)
  exact ⟨_, _, hv, hys, h1.trans hys⟩
/-- a slice as it came in, read as a list: what each element is good for -/
theorem open_list {α : Type} {f : α → List Value} {size : Nat} (hf : ∀ a, (f a).length = size) {Q : DataW H → α → Prop} {t e : TypeId} {v : Value} {d : DataW H} {p : List MemPlace} {fuel : Nat} (ht : P.underlying t = some (.slice e)) (hC : P.cellsOf e = size)
    (hopen : ∀ (n : Nat) (cs : List Value) (x : DataW H × List MemPlace), DataW.trod enc P w base spare held n e cs = some x → cs.length = size → ∃ a, cs = f a ∧ Q x.1 a)
    (h : DataW.trod enc P w base spare held fuel t [v] = some (d, p)) :
    ∃ l : List α, Sl w v l.length size (flat f l) ∧ ((l = [] ∧ d = .nil) ∨ ∃ elems sp : List (DataW H), d = .slice elems sp ∧ elems.length = l.length ∧ ∀ (i : Nat) (a : α), l[i]? = some a → ∃ x, elems[i]? = some x ∧ Q x a) := by
  rcases open_slice ht h with ⟨hcs, hx⟩ | ⟨a, len, cap, m, n, D, Pl, hcs, hb, hl, hm, hmm, hx, hi⟩
  · simp only [List.cons.injEq, and_true] at hcs
    subst hcs
    exact ⟨[], Sl.nil_ w size, .inl ⟨rfl, by simpa using congrArg Prod.fst hx⟩⟩
  · simp only [List.cons.injEq, and_true] at hcs
    subst hcs
    have hlm : len ≤ m := by rw [hmm]; split <;> omega
    obtain ⟨l, hll, hQ⟩ := list_of (Q := fun i (b : α) => At w (a.add (i * size)) (f b) ∧ Q (D i) b) len fun i hil => by
      obtain ⟨cs', hc, htr⟩ := hi i (by omega)
      rw [hC] at hc
      obtain ⟨_, hcl, hat⟩ := World.cells?_some hc
      obtain ⟨b, rfl, hq⟩ := hopen n cs' _ htr hcl
      refine ⟨b, fun j u hj => ?_, hq⟩
      have hjl : j < size := by rw [← hf b]; exact (List.getElem?_eq_some_iff.1 hj).1
      rw [hat j hjl, hj]
    refine ⟨l, ⟨some a, cap, by rw [hll], flat_length f hf l, by omega, (fun h => by cases h), (fun ad had => ?_)⟩, .inr ⟨_, _, congrArg Prod.fst hx, by simp [hll], fun i b hb => ⟨D i, ?_, (hQ i b hb).2⟩⟩⟩
    · cases had
      exact At.flat hf l _ fun i b hb => (hQ i b hb).1
    · have : i < l.length := (List.getElem?_eq_some_iff.1 hb).1
      simp [List.getElem?_range (show i < len by omega)]
end
end SG
/-! Batches: records as they come in. -/
namespace Go.Proofs.Ytambcnlkdnmekaa
open Go SG Go.ChangeShapes Go.WideShapes Go.ChangeAt Go.RowKit Go.Lib
set_option linter.unusedVariables false
set_option maxRecDepth 4000
set_option linter.unusedSimpArgs false

theorem own : ownKnob Try.prog.godebug = none := by kernel_rfl
theorem laidOut : laidOutB Try.prog = true := by kernel_rfl
/-- what a record's datum says -/
def RecD {H : Type} (d : DataW H) (r : Rec) : Prop := d = .agg [.lit (.int .u32 (r.fam : Int)), .lit (.int .i64 r.kind), .lit (.string r.key.data.toList), .lit (.string r.val.data.toList)] ∧ r.fam < 4294967296
section
variable {H : Type} {enc : TypeId × Value → H} {w : World} {base : Nat} {spare : Nat → Bool} {held : Bool}
theorem open_rec (n : Nat) (cs : List Value) (x : DataW H × List MemPlace) (h : DataW.trod enc Try.prog w base spare held n 31 cs = some x) (hl : cs.length = 4) : ∃ r : Rec, cs = r.cells ∧ RecD x.1 r := by
  obtain ⟨ys, n', hx, hyl, hf⟩ := open_struct Try.underlying31 (by kernel_rfl) (by kernel_rfl) hl h
  obtain ⟨v0, y0, c0, z0, t0⟩ := hf 0 _ rfl
  obtain ⟨v1, y1, c1, z1, t1⟩ := hf 1 _ rfl
  obtain ⟨v2, y2, c2, z2, t2⟩ := hf 2 _ rfl
  obtain ⟨v3, y3, c3, z3, t3⟩ := hf 3 _ rfl
  obtain ⟨a, h1, rfl, wa⟩ := DataW.trod_int Try.underlying29 t0
  obtain ⟨b, h2, rfl, wb⟩ := DataW.trod_int Try.underlying3 t1
  obtain ⟨k, h3, rfl, _⟩ := DataW.trod_string Try.underlying9 t2
  obtain ⟨v, h4, rfl, _⟩ := DataW.trod_string Try.underlying9 t3
  simp only [List.cons.injEq, and_true] at h1 h2 h3 h4
  subst h1 h2 h3 h4
  have wa' : (0 : Int) ≤ a ∧ a ≤ 4294967295 := by simpa [Lit.wf, IntKind.min, IntKind.max, IntKind.signed, IntKind.bits] using wa
  match cs, hl, ys, hyl with
  | [d0, d1, d2, d3], _, [e0, e1, e2, e3], _ =>
    simp only [List.getElem?_cons_zero, List.getElem?_cons_succ, Option.some.injEq] at c0 c1 c2 c3 z0 z1 z2 z3
    subst c0 c1 c2 c3 z0 z1 z2 z3
    refine ⟨⟨a.toNat, b, k, v⟩, ?_, ?_, ?_⟩
    · simp only [Rec.cells]; rw [Int.toNat_of_nonneg wa'.1]
    · rw [hx]; simp only [List.map_cons, List.map_nil]; rw [Int.toNat_of_nonneg wa'.1]
    · simp only; omega
/-- records that came in -/
theorem open_recs {v : Value} {d : DataW H} {p : List MemPlace} (h : DataW.Trod enc Try.prog w base spare held 22 v d p) (hone : ∃ a n c, v = .slice a n c) (hw : ∀ n ∈ d.weights Try.prog 22, n ≤ reachBytes) :
    ∃ rs : List Rec, Sl w v rs.length 4 (flat Rec.cells rs) ∧ AllOk rs ∧ rs.length ≤ 2932031007402 := by
  obtain ⟨fuel, h⟩ := h
  obtain ⟨a, n, c, rfl⟩ := hone
  obtain ⟨rs, hs, hc⟩ := open_list Rec.cells_len Try.underlying22 (by kernel_rfl) (Q := RecD) (fun n cs x h hl => open_rec n cs x h hl) h
  rcases hc with ⟨rfl, _⟩ | ⟨elems, sp, rfl, hel, hQ⟩
  · exact ⟨[], hs, (fun r hr => by cases hr), by simp⟩
  · have hrow := hw _ (weights_row Try.underlying22)
    have hb : Try.prog.bytesOf 31 = 48 := by kernel_rfl
    rw [hb] at hrow
    have hr0 : reachBytes = 140737488351232 := rfl
    refine ⟨rs, hs, fun r hr => ?_, by omega⟩
    obtain ⟨i, hi⟩ := List.getElem?_of_mem hr
    obtain ⟨x, hx, hd, hf⟩ := hQ i r hi
    have hmem : x ∈ elems := List.mem_of_getElem? hx
    have hwt : x.weights Try.prog 31 = [r.key.data.toList.length, r.val.data.toList.length] := by
      rw [hd]
      simp [DataW.weights, DataW.weightsEach, Try.underlying31]
    have h1 := hw r.key.data.toList.length (weights_elem Try.underlying22 hmem (by rw [hwt]; simp))
    have h2 := hw r.val.data.toList.length (weights_elem Try.underlying22 hmem (by rw [hwt]; simp))
    rw [size_data] at h1 h2
    exact ⟨hf, by omega, by omega⟩
end

end Go.Proofs.Ytambcnlkdnmekaa
/-! Batches: acts as they come in. -/
namespace Go.Proofs.Ytambcnlkdnmekaa
open Go SG Go.ChangeShapes Go.WideShapes Go.ChangeAt Go.RowKit Go.Lib
set_option linter.unusedVariables false
set_option maxRecDepth 4000
set_option linter.unusedSimpArgs false

section
variable {H : Type} {enc : TypeId × Value → H} {w : World} {base : Nat} {spare : Nat → Bool} {held : Bool}
def RecsD {H : Type} (d : DataW H) (rs : List Rec) : Prop := (rs = [] ∧ d = .nil) ∨ ∃ elems sp : List (DataW H), d = .slice elems sp ∧ elems.length = rs.length ∧ ∀ (i : Nat) (a : Rec), rs[i]? = some a → ∃ x, elems[i]? = some x ∧ RecD x a
theorem recs_ok {d : DataW H} {rs : List Rec} (h : RecsD d rs) (hw : ∀ n ∈ d.weights Try.prog 22, n ≤ reachBytes) : AllOk rs ∧ rs.length ≤ 2932031007402 := by
  rcases h with ⟨rfl, _⟩ | ⟨elems, sp, rfl, hel, hQ⟩
  · exact ⟨(fun r hr => by cases hr), by simp⟩
  · have hrow := hw _ (weights_row Try.underlying22)
    have hb : Try.prog.bytesOf 31 = 48 := by kernel_rfl
    rw [hb] at hrow
    have hr0 : reachBytes = 140737488351232 := rfl
    refine ⟨fun r hr => ?_, by omega⟩
    obtain ⟨i, hi⟩ := List.getElem?_of_mem hr
    obtain ⟨x, hx, hd, hf⟩ := hQ i r hi
    have hmem : x ∈ elems := List.mem_of_getElem? hx
    have hwt : x.weights Try.prog 31 = [r.key.data.toList.length, r.val.data.toList.length] := by
      rw [hd]
      simp [DataW.weights, DataW.weightsEach, Try.underlying31]
    have h1 := hw r.key.data.toList.length (weights_elem Try.underlying22 hmem (by rw [hwt]; simp))
    have h2 := hw r.val.data.toList.length (weights_elem Try.underlying22 hmem (by rw [hwt]; simp))
    rw [size_data] at h1 h2
    exact ⟨hf, by omega, by omega⟩
/-- what an act's datum says -/
def ActDat {H : Type} (w : World) (d : DataW H) (a : ActD) : Prop :=
  ∃ dr dl, d = .agg [.lit (.int .i64 a.kind), .lit (.bool a.how), dr, dl] ∧ RecD dr a.r ∧ RecsD dl a.l ∧ Sl w a.lv a.l.length 4 (flat Rec.cells a.l)
theorem open_act (n : Nat) (cs : List Value) (x : DataW H × List MemPlace) (h : DataW.trod enc Try.prog w base spare held n 56 cs = some x) (hl : cs.length = 7) : ∃ a : ActD, cs = a.cells ∧ ActDat w x.1 a := by
  obtain ⟨ys, n', hn', hy, hlen, hyl, hf⟩ := DataW.trod_struct Try.underlying56 h
  have c3 : Try.prog.cellsOf 3 = 1 := by kernel_rfl
  have c4 : Try.prog.cellsOf 4 = 1 := by kernel_rfl
  have c31 : Try.prog.cellsOf 31 = 4 := by kernel_rfl
  have c22 : Try.prog.cellsOf 22 = 1 := by kernel_rfl
  match cs, hl, ys, hyl with
  | [d0, d1, d2, d3, d4, d5, d6], _, [e0, e1, e2, e3], _ =>
    have t0 : DataW.trod enc Try.prog w base spare held n' 3 (([d0, d1, d2, d3, d4, d5, d6].drop 0).take (Try.prog.cellsOf 3)) = some e0 := hf 0 _ rfl
    have t1 : DataW.trod enc Try.prog w base spare held n' 4 (([d0, d1, d2, d3, d4, d5, d6].drop 1).take (Try.prog.cellsOf 4)) = some e1 := hf 1 _ rfl
    have t2 : DataW.trod enc Try.prog w base spare held n' 31 (([d0, d1, d2, d3, d4, d5, d6].drop 2).take (Try.prog.cellsOf 31)) = some e2 := hf 2 _ rfl
    have t3 : DataW.trod enc Try.prog w base spare held n' 22 (([d0, d1, d2, d3, d4, d5, d6].drop 6).take (Try.prog.cellsOf 22)) = some e3 := hf 3 _ rfl
    rw [c3] at t0
    rw [c4] at t1
    rw [c31] at t2
    rw [c22] at t3
    simp only [List.drop_zero, List.drop_succ_cons, List.take_succ_cons, List.take_zero] at t0 t1 t2 t3
    obtain ⟨k, h0, h0', wk⟩ := DataW.trod_int Try.underlying3 t0
    obtain ⟨hb, h1, h1'⟩ := DataW.trod_bool Try.underlying4 t1
    obtain ⟨r, h2, hr⟩ := open_rec _ _ _ t2 rfl
    obtain ⟨rs, hs, hc⟩ := open_list Rec.cells_len Try.underlying22 (by kernel_rfl) (Q := RecD) (fun n cs x h hl => open_rec n cs x h hl) t3
    simp only [List.cons.injEq, and_true] at h0 h1
    subst h0 h1
    refine ⟨⟨k, hb, r, d6, rs⟩, ?_, e2.1, e3.1, ?_, hr, hc, hs⟩
    · simp only [ActD.cells, List.cons.injEq, true_and, and_true]
      simp only [Rec.cells, List.cons.injEq, and_true] at h2
      exact h2
    · rw [hy]
      simp [h0', h1']
/-- acts that came in -/
theorem open_acts {v : Value} {d : DataW H} {p : List MemPlace} (h : DataW.Trod enc Try.prog w base spare held 48 v d p) (hone : ∃ a n c, v = .slice a n c) (hw : ∀ n ∈ d.weights Try.prog 48, n ≤ reachBytes) :
    ∃ l : List ActD, Sl w v l.length 7 (flat ActD.cells l) ∧ (∀ a ∈ l, ActOk w a) ∧ l.length ≤ 8796093022208 := by
  obtain ⟨fuel, h⟩ := h
  obtain ⟨a, n, c, rfl⟩ := hone
  obtain ⟨l, hs, hc⟩ := open_list ActD.cells_len Try.underlying48 (by kernel_rfl) (Q := ActDat w) (fun n cs x h hl => open_act n cs x h hl) h
  rcases hc with ⟨rfl, _⟩ | ⟨elems, sp, rfl, hel, hQ⟩
  · exact ⟨[], hs, (fun r hr => by cases hr), by simp⟩
  · have hrow := hw _ (weights_row Try.underlying48)
    have hb : Try.prog.bytesOf 56 = 88 := by kernel_rfl
    rw [hb] at hrow
    have hr0 : reachBytes = 140737488351232 := rfl
    refine ⟨l, hs, fun a ha => ?_, by omega⟩
    obtain ⟨i, hi⟩ := List.getElem?_of_mem ha
    obtain ⟨x, hx, dr, dl, hd, hrd, hld, hsl⟩ := hQ i a hi
    have hmem : x ∈ elems := List.mem_of_getElem? hx
    have hwt : x.weights Try.prog 56 = dr.weights Try.prog 31 ++ dl.weights Try.prog 22 := by
      rw [hd]
      simp [DataW.weights, DataW.weightsEach, Try.underlying56]
    have hall : ∀ n ∈ dr.weights Try.prog 31 ++ dl.weights Try.prog 22, n ≤ reachBytes := fun n hn => hw n (weights_elem Try.underlying48 hmem (by rw [hwt]; exact hn))
    have hwr : dr.weights Try.prog 31 = [a.r.key.data.toList.length, a.r.val.data.toList.length] := by
      rw [hrd.1]
      simp [DataW.weights, DataW.weightsEach, Try.underlying31]
    have h1 := hall a.r.key.data.toList.length (by rw [hwr]; simp)
    have h2 := hall a.r.val.data.toList.length (by rw [hwr]; simp)
    rw [size_data] at h1 h2
    obtain ⟨h3, h4⟩ := recs_ok hld fun n hn => hall n (List.mem_append_right _ hn)
    exact ⟨⟨hrd.2, by omega, by omega⟩, hsl, h3, h4⟩
end
end Go.Proofs.Ytambcnlkdnmekaa
namespace Go.Proofs.Ytambcnlkdnmekaa
open Go SG Go.ChangeShapes Go.WideShapes Go.ChangeAt Go.RowKit Go.Lib
set_option linter.unusedVariables false
set_option linter.unusedSimpArgs false

set_option maxRecDepth 100000 in
theorem batchActsLifted (os : Os) (started : os.Started) (H : Type) (enc : TypeId × Value → H) :
    ReturnsInHanded {} Try.checked os 7 .any (Rows.batchActsSpec.pre6 enc Try.prog Try.f7 Rows.batchActsRow.domain false) (Rows.batchActsSpec.post enc Try.prog Try.f7 false true false false) := by
  refine returnsInHanded_of_change_sized (C := Try.checked) own started (by kernel_rfl) Try.func7
    (ChangeSpec.witness6 (enc := enc) (C := Try.checked) false ⟨#[], #[.slice none 0 0], []⟩ 8 (by kernel_rfl) (by kernel_rfl) (by kernel_rfl) (by kernel_rfl)) ?_
  intro W base args ds gs before hval0 hW hcnd hwt0 _
  have hval : ∀ (j : Nat) t v, Try.f7.params[j]? = some t → args[j]? = some v → Value.okWide Try.prog W .any base t v := hval0
  have hwt : (DataW.weightsEach Try.prog (Try.f7.params.toList ++ Rows.batchActsSpec.plain.varTypes Try.prog) (ds ++ gs)).all (· ≤ reachBytes) = true := hwt0
  have hW' := hW
  obtain ⟨p, q, hA0, hV, rfl, hfz, hnd⟩ := hW
  have hA : DataW.TrodAll enc Try.prog W 0 (fun _ => true) true Try.f7.params.toList args.toList ds p := hA0
  rw [Try.params7] at hA hval hwt
  obtain ⟨v0, vs0, d0, ds0, p0, q0, hargs, rfl, rfl, h0, r0⟩ := trodAll_cons hA
  obtain ⟨rfl, rfl, rfl⟩ := trodAll_nil r0
  obtain rfl : args = #[v0] := by cases args; simp_all
  obtain ⟨rfl, rfl⟩ := trodVars_none hV
  have lt0 : ∀ x ∈ p0, x.block < W.heap.size := by obtain ⟨m, hm⟩ := h0; exact DataW.trod_lt m _ _ _ hm
  obtain ⟨rs0, s0, k0, l0⟩ := open_acts h0 (okWide_slice Try.underlying48 (hval 0 48 v0 rfl rfl)) (weights_le hwt (j := 0) rfl rfl)
  clear hA0 hval0 hwt0
  refine (acts s0 k0 l0).mono fun e W' he => ?_
  cases e with
  | returned v =>
    obtain ⟨rfl, ext⟩ := he
    have bel : Below W.heap.size W W' := ext.below (Nat.le_refl _) fun b hb => hb.elim
    exact ⟨_, rfl, _, _, _, [], _, [], hW', trodAll_mk1 (shut_bool Try.underlying4 _), (trodAll_cons_mk (Below.trod laidOut (by kernel_rfl) (of_decide_eq_true (by kernel_rfl)) h0 bel lt0) trodAll_mk0), rfl, bel.frame _, fun h => by cases h⟩
  | _ => exact he.elim
/-- the statement -/
theorem batchActsHolds : Rows.BatchActsSaid :=
  OpenClaim.holds_of_wide 7 Try.f7 rfl rfl rfl rfl rfl rfl rfl ⟨rfl, rfl, rfl, rfl, rfl⟩ rfl rfl rfl rfl rfl (by kernel_rfl) Try.func7 (by kernel_rfl)
    (of_decide_eq_true (by kernel_rfl)) (by unfold Func.isWrapper; first | (rw [if_pos (by decide +kernel)]; kernel_rfl) | (rw [if_neg (by decide +kernel)]; exact ⟨rfl, rfl⟩))
    (fun os started H enc _ => batchActsLifted os started H enc)
end Go.Proofs.Ytambcnlkdnmekaa
