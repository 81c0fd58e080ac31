/- Batches: readers. -/
import Derived.Test.YtambcnlkdnmekaaB13
import Derived.Test.YtambcnlkdnmekaaH3
namespace Go.Proofs.Ytambcnlkdnmekaa
open Go SG Go.RowKit Go.Lib
set_option linter.unusedVariables false
set_option maxRecDepth 4000
set_option linter.unusedSimpArgs false

def errP (e : Int) : List PanicEntry := panE 27 (.int .i64 e)
/-- a reader lies at g: what is left -/
def Rd (w : World) (g B : Nat) (l : List UInt8) : Prop := ∃ x, Blk w g 74 [x] ∧ Sl w x l.length 1 (byteCells l) ∧ (∀ b, x.ownBlock = some b → b < B) ∧ l.length ≤ 140737488355328 ∧ B ≤ g
theorem Rd.lt {w : World} {g B : Nat} {l : List UInt8} (h : Rd w g B l) : g < w.heap.size := by obtain ⟨x, hb, _⟩ := h; exact hb.lt
theorem Rd.B {w : World} {g B : Nat} {l : List UInt8} (h : Rd w g B l) : B ≤ g := by obtain ⟨x, _, _, _, _, h⟩ := h; exact h
theorem Rd.ext {S : Nat → Prop} {w w' : World} {g B : Nat} {l : List UInt8} (h : Rd w g B l) (e : Ext S w w') (hg : ¬ S g) (hB : ∀ b, b < B → ¬ S b) : Rd w' g B l := by
  obtain ⟨x, hb, hs, ho, hl, hBg⟩ := h
  exact ⟨x, hb.ext e hg, hs.ext e fun b hh => hB b (ho b hh), ho, hl, hBg⟩
theorem Rd.no {w w' : World} {g B : Nat} {l : List UInt8} (h : Rd w g B l) (e : Ext No w w') : Rd w' g B l := h.ext e (fun h => h) fun _ _ h => h
theorem byteCells_drop (l : List UInt8) (k : Nat) : (byteCells l).drop (k * 1) = byteCells (l.drop k) := by simp [byteCells]
theorem byteCells_take (l : List UInt8) (k : Nat) : (byteCells l).take (k * 1) = byteCells (l.take k) := by simp [byteCells]
theorem sl_one {w : World} {x : Value} {n size : Nat} {xs : List Value} (h : Sl w x n size xs) : x.oneCell' = true := by obtain ⟨A, c, rfl, _⟩ := h; rfl

/-- the reader moves on by k bytes -/
theorem Rd.move {w : World} {g B : Nat} {l : List UInt8} {x : Value} (hb : Blk w g 74 [x]) (hs : Sl w x l.length 1 (byteCells l)) (ho : ∀ b, x.ownBlock = some b → b < B) (hl : l.length ≤ 140737488355328) (hBg : B ≤ g) {k : Nat} (hk : k ≤ l.length) (kd : IntKind)
    {K : World → Prop} (hK : ∀ w', Rd w' g B (l.drop k) → Ext (At1 g) w w' → w'.heap.size = w.heap.size → K w') :
    ∃ x', sliceV 1 x (some (.int kd (k : Int))) none = some x' ∧ StoreC (.pointer (some ⟨g, 0, none⟩)) x' K w := by
  obtain ⟨x', h1, h2, h3⟩ := sl_drop hs hk kd
  refine ⟨x', h1, storeB hb (by simp) (sl_one h2) fun w' b' e' z' => hK w' ⟨x', b', ?_, fun b hh => ho b (h3 b hh), by rw [List.length_drop]; omega, hBg⟩ e' z'⟩
  rw [byteCells_drop] at h2
  rw [List.length_drop]
  exact h2.ext e' fun b hh hb' => by have := ho b (h3 b hh); rw [show b = g from hb'] at this; omega

theorem c59 {w : World} {g B : Nat} {l : List UInt8} (h : Rd w g B l) {K : Value → World → Prop} {Kp : List PanicEntry → World → Prop} (h0 : l = [] → Kp (errP 4) w)
    (hK : ∀ c r w', l = c :: r → Rd w' g B r → Ext (At1 g) w w' → w'.heap.size = w.heap.size → K (.int .u8 (c.toNat : Int)) w') : CallP Try.prog 59 #[.pointer (some ⟨g, 0, none⟩)] K Kp w := by
  obtain ⟨x, hb, hs, ho, hl, hBg⟩ := h
  refine s59_call hm ?_
  unfold s59
  refine join0 (fun w' => w = w' ∧ l ≠ []) ?_ fun J hJ => ?_
  · rintro w' ⟨rfl, hne⟩
    obtain ⟨c, r, rfl⟩ : ∃ c r, l = c :: r := by cases l with | nil => exact absurd rfl hne | cons c r => exact ⟨c, r, rfl⟩
    obtain ⟨ad, h1, h2⟩ := byte_at hs (i := 0) (c := c) rfl
    refine pur (nil_ptr _) (pur (field_ptr _ _ _) (loadB hb rfl (pur h1 (SG.load (S := No) h2 (pur (nil_ptr _) (pur (field_ptr _ _ _) (loadB hb rfl ?_)))))))
    obtain ⟨x', h3, h4⟩ := Rd.move hb hs ho hl hBg (k := 1) (by simp) .i64 (K := fun w' => K (.int .u8 (c.toNat : Int)) w') fun w' hr e z => hK c r w' rfl hr e z
    exact pur h3 (pur (nil_ptr _) (pur (field_ptr _ _ _) h4))
  · refine pur (nil_ptr _) (pur (field_ptr _ _ _) (loadB hb rfl (pur hs.len (pur (bin_eql _ _ _) (condD (fun hz => ?_) (fun hz => ?_))))))
    · exact panicI (h0 (List.eq_nil_of_length_eq_zero (by omega)))
    · exact hJ _ ⟨rfl, fun hn => hz (by rw [hn]; rfl)⟩

theorem rv_le {l : List UInt8} (h : (rv l).1 = 0) : (rv l).2.2 ≤ l.length := by
  obtain ⟨e, v, k, he⟩ : ∃ e v k, rv l = (e, v, k) := ⟨_, _, _, rfl⟩
  rw [he] at h ⊢
  simp only at h ⊢
  subst h
  obtain ⟨r, hl, hk, _⟩ := rv_ok he
  rw [hk, hl]; simp
theorem c60 {w : World} {g B most : Nat} {l : List UInt8} (h : Rd w g B l) (hm' : most < 18446744073709551616) {K : Value → World → Prop} {Kp : List PanicEntry → World → Prop} (hE : ∀ e, rdV most l = .error e → Kp (errP e) w)
    (hK : ∀ n r w', rdV most l = .ok (n, r) → Rd w' g B r → Ext (At1 g) w w' → w'.heap.size = w.heap.size → K (.int .u64 (n : Int)) w') : CallP Try.prog 60 #[.pointer (some ⟨g, 0, none⟩), .int .u64 (most : Int)] K Kp w := by
  obtain ⟨x, hb, hs, ho, hl, hBg⟩ := h
  refine s60_call hm ?_
  unfold s60
  refine pur (nil_ptr _) (pur (field_ptr _ _ _) (loadB hb rfl (callP_of (c69 hs hl ?_))))
  refine pur (extract_0 _ _) (pur (extract_1 _ _ _) (pur (extract_2 _ _ _ _) ?_))
  refine join0 (fun w' => w = w' ∧ (rv l).1 = 0 ∧ (rv l).2.1 ≤ most) ?_ fun J hJ => ?_
  · rintro w' ⟨rfl, h0, h1⟩
    have hrd : rdV most l = .ok ((rv l).2.1, l.drop (rv l).2.2) := by unfold rdV; rw [if_neg (by simp [h0]), if_neg (by omega)]
    refine pur (nil_ptr _) (pur (field_ptr _ _ _) (loadB hb rfl ?_))
    obtain ⟨x', h3, h4⟩ := Rd.move hb hs ho hl hBg (k := (rv l).2.2) (rv_le h0) .i64 (K := fun w' => K (.int .u64 ((rv l).2.1 : Int)) w') fun w' hr e z => hK _ _ w' hrd hr e z
    exact pur h3 (pur (nil_ptr _) (pur (field_ptr _ _ _) h4))
  · refine pur (bin_neq _ _ _) (condN (fun hne => ?_) (fun h0 => ?_))
    · exact panicI (hE _ (by unfold rdV; rw [if_pos hne]))
    · refine pur (bin_gtr _ _ _) (condD (fun hgt => ?_) (fun hle => ?_))
      · exact panicI (hE 3 (by unfold rdV; rw [if_neg (by simp [h0]), if_pos (by omega)]))
      · exact hJ _ ⟨rfl, h0, by omega⟩

theorem c61 {w : World} {g B most : Nat} {l : List UInt8} (h : Rd w g B l) (hm' : most < 18446744073709551616) {K : Value → World → Prop} {Kp : List PanicEntry → World → Prop} (hE : ∀ e w', rdT most l = .error e → Ext (At1 g) w w' → Kp (errP e) w')
    (hK : ∀ s r w', rdT most l = .ok (s, r) → Rd w' g B r → Ext (At1 g) w w' → K (.string (bA s)) w') : CallP Try.prog 61 #[.pointer (some ⟨g, 0, none⟩), .int .u64 (most : Int)] K Kp w := by
  refine s61_call hm ?_
  unfold s61
  refine c60 h hm' (fun e he => hE e w (by unfold rdT; rw [he]) (Ext.refl _ _)) fun n r w1 hv hr1 e1 z1 => ?_
  obtain ⟨x, hb, hs, ho, hl, hBg⟩ := hr1
  have hn := (rdV_ok hv).2.2
  refine join0 (fun w' => w1 = w' ∧ n ≤ r.length) ?_ fun J hJ => ?_
  · rintro w' ⟨rfl, hle⟩
    have hrd : rdT most l = .ok (r.take n, r.drop n) := by unfold rdT; rw [hv]; simp only; rw [if_neg (by omega)]
    refine pur (nil_ptr _) (pur (field_ptr _ _ _) (loadB hb rfl ?_))
    obtain ⟨x', h1, h2, _⟩ := sl_take hs hle .u64
    rw [byteCells_take] at h2
    have hlen : (r.take n).length = n := by rw [List.length_take]; omega
    refine pur h1 (runS (bytes_str (l := r.take n) Try.underlying40 Try.underlying9 Try.underlying5 (by rw [hlen]; exact h2)) ?_)
    refine pur (nil_ptr _) (pur (field_ptr _ _ _) (loadB hb rfl ?_))
    obtain ⟨x'', h3, h4⟩ := Rd.move hb hs ho hl hBg (k := n) hle .u64 (K := fun w' => K (.string (bA (r.take n))) w') fun w' hr e z => hK _ _ w' hrd hr (e1.trans e)
    exact pur h3 (pur (nil_ptr _) (pur (field_ptr _ _ _) h4))
  · refine pur (nil_ptr _) (pur (field_ptr _ _ _) (loadB hb rfl (pur hs.len (pur (conv64u (by omega) (by omega)) (pur (bin_gtr _ _ _) (condD (fun hgt => ?_) (fun hle => ?_)))))))
    · exact panicI (hE 4 w1 (by unfold rdT; rw [hv]; simp only; rw [if_pos (by omega)]) e1)
    · exact hJ _ ⟨rfl, by omega⟩

theorem build31k (w : World) (k : Int) : (Instr.build 31 [(1, .int .i64 k)].toArray).run Try.prog w = .ok (.agg #[.int .u32 0, .int .i64 k, .string ⟨#[]⟩, .string ⟨#[]⟩]) w := by kernel_rfl
theorem at1_ne {g b : Nat} (h : b ≠ g) : ¬ At1 g b := h
set_option maxHeartbeats 1000000 in
theorem c42 {w : World} {g B : Nat} {l : List UInt8} (h : Rd w g B l) {K : Value → World → Prop} {Kp : List PanicEntry → World → Prop} (hE : ∀ e w', rdR l = .error e → Ext (At1 g) w w' → Kp (errP e) w')
    (hK : ∀ r l' w', rdR l = .ok (r, l') → Rd w' g B l' → Ext (At1 g) w w' → K r.agg w') : CallP Try.prog 42 #[.pointer (some ⟨g, 0, none⟩)] K Kp w := by
  have hglt := h.lt
  have hBg := h.B
  refine s42_call hm ?_
  unfold s42
  refine box fun w1 b1 e1 z1 => ?_
  have h1 := h.no e1
  refine c59 h1 (fun hn => hE 4 w1 (by rw [hn]; rfl) e1.no) fun c l1 w2 hl2 h2 e2 z2 => ?_
  subst hl2
  have hcl := c.toNat_lt
  have b2 := b1.ext e2 (at1_ne (by omega))
  refine pur (conv64 (by omega) (by omega)) (runS (build31k w2 _) (box fun w3 b3 e3 z3 => ?_))
  have b2' := b2.no e3
  have h3 := h2.no e3
  refine storeAll b3 rfl (by simp [Value.cells]) (by simp [Value.oneCell']) fun w4 b4 e4 z4 => ?_
  have h4 := h3.ext e4 (at1_ne (by omega)) fun b hb => at1_ne (by omega)
  have b2'' := b2'.ext e4 (at1_ne (by omega))
  have e04 : Ext (At1 g) w w4 := (e1.no.trans e2).trans' (e3.fresh e4 (S := No) fun b hb => .inr (by rw [show b = w2.heap.size from hb]; exact Nat.le_refl _)) (fun _ h _ => h) (fun _ h _ => h.elim)
  refine join0 (fun w' => w4 = w' ∧ c.toNat ≤ 2) ?_ fun J0 hJ0 => ?_
  · rintro w' ⟨rfl, hc2⟩
    refine c60 (most := 4294967295) h4 (by decide) (fun e he => hE e w4 (by unfold rdR; simp only; rw [if_neg (by omega), he]) e04) fun f l2 w5 hv h5 e5 z5 => ?_
    have hf := (rdV_ok hv).2.1
    have b5 := b4.ext e5 (at1_ne (by omega))
    have b25 := b2''.ext e5 (at1_ne (by omega))
    refine pur (conv32u (by omega) (by omega)) (pur (field_ptr _ _ _) (storeB b5 (by simp) rfl fun w6 b6 e6 z6 => ?_))
    have h6 := h5.ext e6 (at1_ne (by omega)) fun b hb => at1_ne (by omega)
    have b26 := b25.ext e6 (at1_ne (by omega))
    have e06 : Ext (At1 g) w w6 := (e04.trans e5).trans' e6 (fun _ h _ => h) (fun b hb hlt => by have : b = w2.heap.size := hb; omega)
    refine c61 (most := 1024) h6 (by decide) (fun e w' he ee => hE e w' (by unfold rdR; simp only; rw [if_neg (by omega), hv]; simp only; rw [he]) (e06.trans ee)) fun k l3 w7 hk h7 e7 => ?_
    have b7 := b6.ext e7 (at1_ne (by omega))
    have b27 := b26.ext e7 (at1_ne (by omega))
    have s7 := e7.size
    refine pur (field_ptr _ _ _) (storeB b7 (by simp) rfl fun w8 b8 e8 z8 => ?_)
    have h8 := h7.ext e8 (at1_ne (by omega)) fun b hb => at1_ne (by omega)
    have b28 := b27.ext e8 (at1_ne (by omega))
    have e08 : Ext (At1 g) w w8 := (e06.trans e7).trans' e8 (fun _ h _ => h) (fun b hb hlt => by have : b = w2.heap.size := hb; omega)
    have hx8 : Blk w8 w2.heap.size 31 (Rec.mk f (c.toNat : Int) (bA k) ⟨#[]⟩).cells := b8
    -- behind the value
    refine join0 (fun w' => ∃ r l', rdR (c :: l1) = .ok (r, l') ∧ Blk w' w2.heap.size 31 r.cells ∧ Rd w' g B l' ∧ Ext (At1 g) w w' ∧ ∃ cs, Blk w' w.heap.size 31 cs ∧ cs.length = 4) ?_ fun J1 hJ1 => ?_
    · rintro w9 ⟨r, l', hrd, b9, h9, e9, cs, bz, hz⟩
      refine loadA (At.of_blk b9) rfl (storeAll bz rfl hz (Rec.one r) fun w10 b10 e10 z10 => loadA (At.of_blk b10) rfl ?_)
      exact hK r l' w10 hrd (h9.ext e10 (at1_ne (by omega)) fun b hb => at1_ne (by omega)) (e9.trans' e10 (fun _ h _ => h) (fun b hb hlt => by have : b = w.heap.size := hb; omega))
    · have hpre : ∀ (most : Nat), (c.toNat ≠ 0) → mostV c.toNat = most → (∀ e w', rdT most l3 = .error e → Ext (At1 g) w8 w' → Kp (errP e) w') ∧
          (∀ v l4 w9, rdT most l3 = .ok (v, l4) → Rd w9 g B l4 → Ext (At1 g) w8 w9 → PureS (fieldAddrV 3 (.pointer (some ⟨w2.heap.size, 0, none⟩))) fun t => StoreC t (.string (bA v)) (fun w => J1 w) w9) := by
        intro most hne hmost
        refine ⟨fun e w' he ee => hE e w' (by unfold rdR; simp only; rw [if_neg (by omega), hv]; simp only; rw [hk]; simp only; rw [if_neg hne, hmost, he]) (e08.trans ee), fun v l4 w9 hvv h9 e9 => ?_⟩
        have b9 := hx8.ext e9 (at1_ne (by omega))
        have s9 := e9.size
        refine pur (field_ptr _ _ _) (storeB b9 (by simp [Rec.cells]) rfl fun w10 b10 e10 z10 => ?_)
        refine hJ1 _ ⟨⟨f, (c.toNat : Int), bA k, bA v⟩, l4, ?_, b10, h9.ext e10 (at1_ne (by omega)) (fun b hb => at1_ne (by omega)), (e08.trans e9).trans' e10 (fun _ h _ => h) (fun b hb hlt => by have : b = w2.heap.size := hb; omega), _, (b28.ext e9 (at1_ne (by omega))).ext e10 (at1_ne (by omega)), rfl⟩
        unfold rdR; simp only; rw [if_neg (by omega), hv]; simp only; rw [hk]; simp only; rw [if_neg hne, hmost, hvv]
      refine pur (field_ptr _ _ _) (loadB hx8 (v := .int .i64 (c.toNat : Int)) rfl (pur (bin_eql _ _ _) (condD (fun h1' => ?_) (fun h1' => ?_))))
      · obtain ⟨p1, p2⟩ := hpre 16384 (by omega) (by unfold mostV; rw [if_pos (by omega)])
        exact c61 (most := 16384) h8 (by decide) p1 p2
      · refine pur (bin_eql _ _ _) (condD (fun h2' => ?_) (fun h2' => ?_))
        · obtain ⟨p1, p2⟩ := hpre 1024 (by omega) (by unfold mostV; rw [if_neg (by omega)])
          exact c61 (most := 1024) h8 (by decide) p1 p2
        · have hc0 : c.toNat = 0 := by omega
          refine hJ1 _ ⟨⟨f, (c.toNat : Int), bA k, ⟨#[]⟩⟩, l3, ?_, hx8, h8, e08, _, b28, rfl⟩
          unfold rdR; simp only; rw [if_neg (by omega), hv]; simp only; rw [hk]; simp only; rw [if_pos hc0, hc0]; rfl
  · refine pur (field_ptr _ _ _) (loadB b4 (v := .int .i64 (c.toNat : Int)) rfl (pur (bin_gtr _ _ _) (condD (fun hgt => ?_) (fun hle => ?_))))
    · exact panicI (hE 3 w4 (by unfold rdR; simp only; rw [if_pos (by omega)]) e04)
    · exact hJ0 _ ⟨rfl, by omega⟩
end Go.Proofs.Ytambcnlkdnmekaa
