/- Batches: the reference's Decode. -/
import Derived.Test.YtambcnlkdnmekaaB21
namespace Go.Proofs.Ytambcnlkdnmekaa
open Go SG Go.RowKit Go.Lib
set_option linter.unusedVariables false
set_option maxRecDepth 4000
set_option linter.unusedSimpArgs false

theorem build31z (w : World) : (Instr.build 31 [].toArray).run Try.prog w = .ok (.agg #[.int .u32 0, .int .i64 0, .string ⟨#[]⟩, .string ⟨#[]⟩]) w := by kernel_rfl
def zRec : Rec := ⟨0, 0, ⟨#[]⟩, ⟨#[]⟩⟩
theorem ret4 {w : World} {z : Nat} {r : Rec} {cs : List Value} {K : Value → World → Prop} (h : Blk w z 31 cs) (hl : cs.length = 4) (hk : ∀ w', Ext (At1 z) w w' → K r.agg w') :
    StoreA 4 (.pointer (some ⟨z, 0, none⟩)) r.agg (fun w => LoadA 4 (.pointer (some ⟨z, 0, none⟩)) (fun v _ => K v w) w) w :=
  storeAll h rfl hl (Rec.one r) fun w2 b2 e2 _ => loadA (At.of_blk b2) rfl (hk w2 e2)
theorem Rq.mv {w : World} {g B : Nat} {l : List UInt8} {e : Int} {x : Value} (hb : Blk w g 80 [x, .int .i64 e]) (hs : Sl w x l.length 1 (byteCells l)) (ho : ∀ b, x.ownBlock = some b → b < B) (hl : l.length ≤ 140737488355328) (hBg : B ≤ g) {k : Nat} (hk : k ≤ l.length) (kd : IntKind) :
    ∃ x', sliceV 1 x (some (.int kd (k : Int))) none = some x' ∧ ∀ K : World → Prop, (∀ w', Rq w' g B (l.drop k) e → Ext (At1 g) w w' → w'.heap.size = w.heap.size → K w') → StoreC (.pointer (some ⟨g, 0, none⟩)) x' K w := by
  obtain ⟨x', h1, h2, h3⟩ := sl_drop hs hk kd
  refine ⟨x', h1, fun K hK => storeB hb (by simp) (sl_one h2) fun w' b' e' z' => hK w' ⟨x', b', ?_, fun b hh => ho b (h3 b hh), by rw [List.length_drop]; omega, hBg⟩ e' z'⟩
  rw [byteCells_drop] at h2
  rw [List.length_drop]
  exact h2.ext e' fun b hh hb' => by have := ho b (h3 b hh); rw [show b = g from hb'] at this; omega

set_option maxHeartbeats 2000000 in
theorem c45 {w : World} {g B : Nat} {l : List UInt8} (h : Rq w g B l 0) {K : Value → World → Prop} (hE : ∀ (r : Rec) l' e w', rdR l = .error e → e ≠ 0 → Rq w' g B l' e → Ext (At1 g) w w' → K r.agg w')
    (hK : ∀ r l' w', rdR l = .ok (r, l') → Rq w' g B l' 0 → Ext (At1 g) w w' → K r.agg w') : CallS Try.prog 45 #[.pointer (some ⟨g, 0, none⟩)] K w := by
  have hglt := h.lt
  have hBg := h.B
  refine s45_call hm ?_
  unfold s45
  refine box fun w1 b1 e1 z1 => ?_
  have h1 := h.no e1
  have h1' := h1
  obtain ⟨x, hb, hs, ho, hl, _⟩ := h1'
  refine pur (nil_ptr _) (pur (field_ptr _ _ _) (loadB hb (v := x) rfl (pur hs.len (pur (bin_eql _ _ _) (condD (fun hz => ?_) (fun hz => ?_))))))
  · have hnil : l = [] := List.eq_nil_of_length_eq_zero (by omega)
    refine pur (nil_ptr _) (pur (field_ptr _ _ _) (h1.err 4 fun w2 h2 e2 z2 => runS (build31z w2) ?_))
    refine ret4 (r := zRec) (b1.ext e2 (at1_ne (by omega))) rfl fun w3 e3 => ?_
    refine hE zRec l 4 w3 (by rw [hnil]; rfl) (by decide) (h2.ext e3 (at1_ne (by omega)) fun b hb => at1_ne (by omega)) ((e1.no.trans e2).trans' e3 (fun _ h _ => h) fun b hb hlt => by have : b = w.heap.size := hb; omega)
  · obtain ⟨c, l1, rfl⟩ : ∃ c l1, l = c :: l1 := by cases l with | nil => exact absurd rfl hz | cons c l1 => exact ⟨c, l1, rfl⟩
    have hcl := c.toNat_lt
    obtain ⟨ad, p1, p2⟩ := byte_at hs (i := 0) (c := c) rfl
    refine pur (nil_ptr _) (pur (field_ptr _ _ _) (loadB hb (v := x) rfl (pur p1 (SG.load (S := No) p2 (pur (conv64 (by omega) (by omega)) (runS (build31k w1 _) (box fun w2 b2 e2 z2 => ?_)))))))
    have h2 := h1.no e2
    refine storeAll b2 rfl (by simp [Value.cells]) (by simp [Value.oneCell']) fun w3 b3 e3 z3 => ?_
    have h3 := h2.ext e3 (at1_ne (by omega)) fun b hb => at1_ne (by omega)
    have bz3 := (b1.no e2).ext e3 (at1_ne (by omega))
    have e03 : Ext (At1 g) w w3 := e1.no.trans' (e2.fresh e3 (S := No) fun b hb => .inr (by rw [show b = w1.heap.size from hb]; exact Nat.le_refl _)) (fun _ h _ => h) (fun _ h _ => h.elim)
    have h3' := h3
    obtain ⟨x3, hb3, hs3, ho3, hl3, _⟩ := h3'
    refine pur (nil_ptr _) (pur (field_ptr _ _ _) (loadB hb3 (v := x3) rfl ?_))
    obtain ⟨x', q1, q2⟩ := Rq.mv hb3 hs3 ho3 hl3 hBg (k := 1) (by simp) .i64
    refine pur q1 (pur (nil_ptr _) (pur (field_ptr _ _ _) (q2 _ fun w4 h4 e4 z4 => ?_)))
    have h4' : Rq w4 g B l1 0 := h4
    have b4 := b3.ext e4 (at1_ne (by omega))
    have bz4 := bz3.ext e4 (at1_ne (by omega))
    have e04 := e03.trans e4
    refine pur (field_ptr _ _ _) (loadB b4 (v := .int .i64 (c.toNat : Int)) rfl (pur (bin_gtr _ _ _) (condD (fun hgt => ?_) (fun hle => ?_))))
    · refine pur (nil_ptr _) (pur (field_ptr _ _ _) (h4'.err 3 fun w5 h5 e5 z5 => ?_))
      have b5 : Blk w5 w1.heap.size 31 (Rec.mk 0 (c.toNat : Int) ⟨#[]⟩ ⟨#[]⟩).cells := b4.ext e5 (at1_ne (by omega))
      refine loadA (At.of_blk b5) rfl (ret4 (r := Rec.mk 0 (c.toNat : Int) ⟨#[]⟩ ⟨#[]⟩) (bz4.ext e5 (at1_ne (by omega))) rfl fun w6 e6 => ?_)
      refine hE _ l1 3 w6 (by unfold rdR; simp only; rw [if_pos (by omega)]) (by decide) (h5.ext e6 (at1_ne (by omega)) fun b hb => at1_ne (by omega)) ((e04.trans e5).trans' e6 (fun _ h _ => h) fun b hb hlt => by have : b = w.heap.size := hb; omega)
    · have hc2 : ¬ 2 < c.toNat := by omega
      refine c62u h4' fun f l2 er w5 hf64 h5 e5 _ hz0 => ?_
      obtain ⟨he1, hl2, hfv⟩ := hz0 rfl
      have b5 := b4.ext e5 (at1_ne (by omega))
      have bz5 := bz4.ext e5 (at1_ne (by omega))
      have e05 := e04.trans e5
      have s5 := e5.size
      -- the family's own test
      refine join0 (fun w' => ∃ e6, Rq w' g B l2 e6 ∧ Ext (At1 g) w w' ∧ Blk w' w1.heap.size 31 (Rec.mk 0 (c.toNat : Int) ⟨#[]⟩ ⟨#[]⟩).cells ∧ (∃ cs, Blk w' w.heap.size 31 cs ∧ cs.length = 4) ∧
          (e6 ≠ 0 → rdV 4294967295 l1 = .error e6) ∧ (e6 = 0 → rdV 4294967295 l1 = .ok (f, l2))) ?_ fun J0 hJ0 => ?_
      · rintro w6 ⟨e6, h6, e06, b6, ⟨cz, bz6, hz6⟩, hv1, hv2⟩
        have hlt6 := h6.lt
        have hblt := b6.lt
        have hfw : convIntV .u32 (.int .u64 (f : Int)) = some (.int .u32 ((f % 4294967296 : Nat) : Int)) := by rw [conv_int, wu32_mod]; congr 2
        refine pur hfw (pur (field_ptr _ _ _) (storeB b6 (by simp [Rec.cells]) rfl fun w7 b7 e7 z7 => ?_))
        have h7 := h6.ext e7 (at1_ne (by omega)) fun b hb => at1_ne (by omega)
        have bz7 := bz6.ext e7 (at1_ne (by omega))
        have e07 : Ext (At1 g) w w7 := e06.trans' e7 (fun _ h _ => h) fun b hb hlt => by have : b = w1.heap.size := hb; omega
        have b7' : Blk w7 w1.heap.size 31 (Rec.mk (f % 4294967296) (c.toNat : Int) ⟨#[]⟩ ⟨#[]⟩).cells := b7
        -- behind the key
        have hkey : ∀ (k : ByteArray) (l3 : List UInt8) (e8 : Int) (w8 : World), Rq w8 g B l3 e8 → Ext (At1 g) w7 w8 → (e8 ≠ 0 → rdR (c :: l1) = .error e8) →
            (e8 = 0 → e6 = 0 ∧ ∃ s, k = bA s ∧ rdT 1024 l2 = .ok (s, l3)) → (fun (t56 : Value) (w : World) => PureS (fieldAddrV 2 (.pointer (some ⟨w1.heap.size, 0, none⟩))) fun t57 => StoreC t57 t56 (fun w => JoinS (fun (w : World) =>
 LoadA 4 (.pointer (some ⟨w1.heap.size, 0, none⟩)) (fun t67 w =>
 StoreA 4 (.pointer (some ⟨w1.heap.size - 1, 0, none⟩)) t67 (fun w =>
 LoadA 4 (.pointer (some ⟨w1.heap.size - 1, 0, none⟩)) (fun t2_3 _ =>
 K t2_3 w
 ) w
 ) w
 ) w
 ) fun J1 =>
 PureS (fieldAddrV 1 (.pointer (some ⟨w1.heap.size, 0, none⟩))) fun t58 =>
 LoadC t58 (fun t59 w =>
 PureS (binV .neq t59 (Value.int .i64 0)) fun t60 =>
 CondS t60 (
 PureS (fieldAddrV 1 (.pointer (some ⟨w1.heap.size, 0, none⟩))) fun t62 =>
 LoadC t62 (fun t63 w =>
 CallS Try.prog 38 [t63].toArray (fun t64 w =>
 CallS Try.prog 63 [(.pointer (some ⟨g, 0, none⟩)), t64].toArray (fun t65 w =>
 PureS (fieldAddrV 3 (.pointer (some ⟨w1.heap.size, 0, none⟩))) fun t66 =>
 StoreC t66 t65 (fun w =>
 J1 w
 ) w
 ) w
 ) w
 ) w
 ) (
 J1 w
 )
 ) w) w) (.string k) w8 := by
          intro k l3 e8 w8 h8 e78 hbad hgood
          show PureS _ _
          have b8 := b7'.ext e78 (at1_ne (by omega))
          have bz8 := bz7.ext e78 (at1_ne (by omega))
          have e08 := e07.trans e78
          have s8 := e78.size
          refine pur (field_ptr _ _ _) (storeB b8 (by simp [Rec.cells]) rfl fun w9 b9 e9 z9 => ?_)
          have b9' : Blk w9 w1.heap.size 31 (Rec.mk (f % 4294967296) (c.toNat : Int) k ⟨#[]⟩).cells := b9
          have h9 := h8.ext e9 (at1_ne (by omega)) fun b hb => at1_ne (by omega)
          have bz9 := bz8.ext e9 (at1_ne (by omega))
          have e09 : Ext (At1 g) w w9 := e08.trans' e9 (fun _ h _ => h) fun b hb hlt => by have : b = w1.heap.size := hb; omega
          have hgd : e8 = 0 → f % 4294967296 = f ∧ ∃ s, k = bA s ∧ rdT 1024 l2 = .ok (s, l3) ∧ rdV 4294967295 l1 = .ok (f, l2) := fun h0 => by
            obtain ⟨h60, s, hs1, hs2⟩ := hgood h0
            have hv := hv2 h60
            have := (rdV_ok hv).2.1
            exact ⟨Nat.mod_eq_of_lt (by omega), s, hs1, hs2, hv⟩
          refine join0 (fun w' => ∃ (r : Rec) (l' : List UInt8) (e : Int), Blk w' w1.heap.size 31 r.cells ∧ Rq w' g B l' e ∧ Ext (At1 g) w w' ∧ (∃ cs, Blk w' w.heap.size 31 cs ∧ cs.length = 4) ∧ (e ≠ 0 → rdR (c :: l1) = .error e) ∧ (e = 0 → rdR (c :: l1) = .ok (r, l'))) ?_ fun J1 hJ1 => ?_
          · rintro w10 ⟨r, l', e, b10, h10, e010, ⟨cs, bz10, hz10⟩, g1, g2⟩
            have hlt10 := bz10.lt
            have hz1 : w1.heap.size - 1 = w.heap.size := by omega
            rw [hz1]
            refine loadA (At.of_blk b10) rfl (ret4 bz10 hz10 fun w11 e11 => ?_)
            have h11 := h10.ext e11 (at1_ne (by omega)) fun b hb => at1_ne (by omega)
            have e011 : Ext (At1 g) w w11 := e010.trans' e11 (fun _ h _ => h) fun b hb hlt => by have : b = w.heap.size := hb; omega
            by_cases he : e = 0
            · subst he
              exact hK r l' w11 (g2 rfl) h11 e011
            · exact hE r l' e w11 (g1 he) he h11 e011
          · refine pur (field_ptr _ _ _) (loadB b9' (v := .int .i64 (c.toNat : Int)) rfl (pur (bin_neq _ _ _) (condN (fun hne => ?_) (fun h0 => ?_))))
            · refine pur (field_ptr _ _ _) (loadB b9' (v := .int .i64 (c.toNat : Int)) rfl (c38 ?_))
              have hmost : mostI (c.toNat : Int) = ((mostV c.toNat : Nat) : Int) := by
                unfold mostI mostV
                by_cases h : c.toNat = 1
                · rw [if_pos (by omega), if_pos h]; rfl
                · rw [if_neg (by omega), if_pos (by omega), if_neg h]; rfl
              rw [hmost]
              have hstore : ∀ (v : ByteArray) (l4 : List UInt8) (e10 : Int) (w10 : World), Rq w10 g B l4 e10 → Ext (At1 g) w9 w10 → (e10 ≠ 0 → rdR (c :: l1) = .error e10) → (e10 = 0 → rdR (c :: l1) = .ok (⟨f % 4294967296, (c.toNat : Int), k, v⟩, l4)) →
                  PureS (fieldAddrV 3 (.pointer (some ⟨w1.heap.size, 0, none⟩))) fun t66 => StoreC t66 (.string v) (fun w => J1 w) w10 := by
                intro v l4 e10 w10 h10 e910 g1 g2
                have b10 := b9'.ext e910 (at1_ne (by omega))
                have s10 := e910.size
                refine pur (field_ptr _ _ _) (storeB b10 (by simp [Rec.cells]) rfl fun w11 b11 e11 z11 => ?_)
                exact hJ1 _ ⟨⟨f % 4294967296, (c.toNat : Int), k, v⟩, l4, e10, b11, h10.ext e11 (at1_ne (by omega)) (fun b hb => at1_ne (by omega)), (e09.trans e910).trans' e11 (fun _ h _ => h) (fun b hb hlt => by have : b = w1.heap.size := hb; omega),
                  ⟨_, (bz9.ext e910 (at1_ne (by omega))).ext e11 (at1_ne (by omega)), hz6⟩, g1, g2⟩
              refine c63 (most := mostV c.toNat) h9 (by unfold mostV; split <;> decide) (fun w10 l4 e10 hne10 hold hnew h10 e910 => ?_) (fun s r w10 h80 hrd h10 e910 => ?_)
              · refine hstore ⟨#[]⟩ l4 e10 w10 h10 e910 (fun _ => ?_) (fun h => absurd h hne10)
                by_cases h80 : e8 = 0
                · obtain ⟨_, s, hs1, hs2, hv⟩ := hgd h80
                  unfold rdR; simp only; rw [if_neg hc2, hv]; simp only; rw [hs2]; simp only; rw [if_neg (by omega), hnew h80]
                · rw [hold h80]; exact hbad h80
              · refine hstore (bA s) r 0 w10 h10 e910 (fun h => absurd rfl h) (fun _ => ?_)
                obtain ⟨hf, s', hs1, hs2, hv⟩ := hgd h80
                unfold rdR; simp only; rw [if_neg hc2, hv]; simp only; rw [hs2]; simp only; rw [if_neg (by omega), hrd]
                simp only [hf, hs1]
            · refine hJ1 _ ⟨⟨f % 4294967296, (c.toNat : Int), k, ⟨#[]⟩⟩, l3, e8, b9', h9, e09, ⟨_, bz9, hz6⟩, hbad, fun h80 => ?_⟩
              obtain ⟨hf, s', hs1, hs2, hv⟩ := hgd h80
              have hc0 : c.toNat = 0 := by omega
              unfold rdR; simp only; rw [if_neg hc2, hv]; simp only; rw [hs2]; simp only; rw [if_pos hc0]
              simp only [hf, hs1, hc0]; rfl
        have hz1 : w1.heap.size - 1 = w.heap.size := by omega
        rw [hz1] at hkey
        refine c63 (most := 1024) h7 (by decide) (fun w8 l3 e8 hne8 hold hnew h8 e78 => ?_) (fun s r w8 h60 hrd h8 e78 => ?_)
        · refine hkey ⟨#[]⟩ l3 e8 w8 h8 e78 (fun _ => ?_) (fun h => absurd h hne8)
          by_cases h60 : e6 = 0
          · unfold rdR; simp only; rw [if_neg hc2, hv2 h60]; simp only; rw [hnew h60]
          · rw [hold h60]
            unfold rdR; simp only; rw [if_neg hc2, hv1 h60]
        · exact hkey (bA s) r 0 w8 h8 e78 (fun h => absurd rfl h) (fun _ => ⟨h60, s, rfl, hrd⟩)
      · have h5' := h5
        obtain ⟨x5, hb5, _⟩ := h5'
        refine pur (nil_ptr _) (pur (field_ptr _ _ _) (loadB hb5 (v := .int .i64 er) rfl (pur (bin_eql _ _ _) ?_)))
        have hb5r : Blk w5 w1.heap.size 31 (Rec.mk 0 (c.toNat : Int) ⟨#[]⟩ ⟨#[]⟩).cells := b5
        refine join1 (fun a w' => w5 = w' ∧ (er = 0 → a = .bool (decide (4294967296 ≤ f)))) ?_ fun J2 hJ2 => ?_
        · rintro a w' ⟨rfl, ha⟩
          refine pur (v := .bool (decide (er = 0 ∧ 4294967296 ≤ f))) ((pick_b _ _ _).trans ?_) (condD (fun hh => ?_) (fun hh => ?_))
          · by_cases h : er = 0
            · rw [if_pos (by simpa using h), ha h]; simp [h]
            · rw [if_neg (by simpa using h)]; simp [h]
          · refine pur (nil_ptr _) (pur (field_ptr _ _ _) (h5.err 3 fun w6 h6 e6 z6 => hJ0 _ ⟨3, h6, e05.trans e6, hb5r.ext e6 (at1_ne (by omega)), ⟨_, bz5.ext e6 (at1_ne (by omega)), rfl⟩, fun _ => ?_, fun h => by cases h⟩))
            unfold rdV
            rw [if_neg (by rw [← he1]; simp [hh.1]), if_pos (by rw [← hfv]; omega)]
          · refine hJ0 _ ⟨er, h5, e05, hb5r, ⟨_, bz5, rfl⟩, fun hne => ?_, fun h0 => ?_⟩
            · unfold rdV
              rw [← he1, if_pos hne]
            · have hlt : ¬ 4294967296 ≤ f := fun h => hh ⟨h0, h⟩
              unfold rdV
              rw [← he1, if_neg (by simp [h0]), ← hfv, if_neg (by omega), hl2]
        · rw [ifB_eq]
          by_cases h : er = 0
          · rw [if_pos (by simpa using h)]
            refine pur (bin_geq _ _ _) (hJ2 _ _ ⟨rfl, fun _ => ?_⟩)
            congr 1; rw [Bool.eq_iff_iff]; simp only [decide_eq_true_eq]; omega
          · rw [if_neg (by simpa using h)]
            exact hJ2 _ _ ⟨rfl, fun h' => absurd h' h⟩
end Go.Proofs.Ytambcnlkdnmekaa
