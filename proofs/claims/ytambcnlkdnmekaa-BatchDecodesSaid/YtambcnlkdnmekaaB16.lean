/- Batches: Decode, with its put-off function that asks for the panic. -/
import Derived.Test.YtambcnlkdnmekaaB15
namespace Go.Proofs.Ytambcnlkdnmekaa
open Go SG Go.RowKit Go.Lib
set_option linter.unusedVariables false
set_option maxRecDepth 4000
set_option linter.unusedSimpArgs false

theorem c40 {w : World} {x : Value} {l : List UInt8} (hs : Sl w x l.length 1 (byteCells l)) (hl : l.length ≤ 140737488355328) {K : Value → World → Prop} (hK : ∀ w', Ext No w w' → K (rd58 8 l) w') : CallS Try.prog 40 #[x] K w := by
  refine s40_call hm ?_
  unfold s40
  refine c58 (size := 8) hs hl (by omega) (by omega) fun w1 e1 => ?_
  exact pur (extract_0 _ _) (pur (extract_1 _ _ _) (hK w1 e1))
def rd32 (l : List UInt8) : Value := .tuple [.int .u32 ((if l.length < 4 then 0 else leN (l.take 4) : Nat) : Int), .int .i64 (if l.length < 4 then 4 else 0)].toArray
theorem c41 {w : World} {x : Value} {l : List UInt8} (hs : Sl w x l.length 1 (byteCells l)) (hl : l.length ≤ 140737488355328) {K : Value → World → Prop} (hK : ∀ w', Ext No w w' → K (rd32 l) w') : CallS Try.prog 41 #[x] K w := by
  refine s41_call hm ?_
  unfold s41
  refine c58 (size := 4) hs hl (by omega) (by omega) fun w1 e1 => ?_
  refine pur (extract_0 _ _) (pur (extract_1 _ _ _) (pur (conv32u (by omega) ?_) (hK w1 e1)))
  split
  · decide
  · have h1 := leN_lt (l.take 4)
    have h2 : (l.take 4).length = 4 := by rw [List.length_take]; omega
    rw [h2] at h1
    have : (256 : Nat) ^ 4 = 4294967296 := by decide
    omega

theorem neq20n (w : World) : (do eqGuard .neq 20 (Operand.tmp 7) (Operand.const Value.nilIface) Value.nilIface Value.nilIface; binOp .neq 20 Value.nilIface Value.nilIface : Sem Value).run Try.prog w = .ok (.bool false) w := by kernel_rfl
theorem neq20e (e : Int) (w : World) : (do eqGuard .neq 20 (Operand.tmp 7) (Operand.const Value.nilIface) (.iface 27 (.int .i64 e)) Value.nilIface; binOp .neq 20 (.iface 27 (.int .i64 e)) Value.nilIface : Sem Value).run Try.prog w = .ok (.bool true) w := by kernel_rfl
theorem assert27 (e : Int) (w : World) : (Instr.typeAssert (.iface 27 (.int .i64 e)) 20 27 true).run Try.prog w = .ok (.tuple #[.int .i64 e, .bool true]) w := by kernel_rfl
theorem c39_ret {t0 t1 t2 : Value} {w : World} {K : World → Prop} (hK : K w) : CallsD Try.prog 39 #[t0, t1, t2] .returning w fun e u' w' => (∃ v, e = .returned v) ∧ u' = .returning ∧ K w' := by
  refine s39_call (u := .returning) hm ?_
  show s39 t0 t1 t2 .nilIface K w
  unfold s39
  exact runS (neq20n w) (condF rfl hK)
theorem c39_pan {w : World} {g2 g3 g4 : Nat} {a b c : Value} (h2 : Blk w g2 39 [a]) (h3 : Blk w g3 22 [b]) (h4 : Blk w g4 27 [c]) (e : Int) {K : World → Prop}
    (hK : ∀ w', Blk w' g2 39 [.int .u64 0] → Blk w' g3 22 [.slice none 0 0] → Blk w' g4 27 [.int .i64 e] → Ext (fun b => b = g2 ∨ b = g3 ∨ b = g4) w w' → K w') :
    CallsD Try.prog 39 #[.pointer (some ⟨g2, 0, none⟩), .pointer (some ⟨g3, 0, none⟩), .pointer (some ⟨g4, 0, none⟩)] (.panicking (errP e)) w fun e u' w' => (∃ v, e = .returned v) ∧ settle u' = .returning ∧ K w' := by
  have h23 : g2 ≠ g3 := fun h => by subst h; unfold Blk at h2 h3; rw [h2] at h3; cases h3
  have h24 : g2 ≠ g4 := fun h => by subst h; unfold Blk at h2 h4; rw [h2] at h4; cases h4
  have h34 : g3 ≠ g4 := fun h => by subst h; unfold Blk at h3 h4; rw [h3] at h4; cases h4
  refine (s39_call (u := .panicking (errP e)) (K := K) hm ?_).mono fun e' u' w' ⟨h1, h2, h3⟩ => ⟨h1, by rw [h2]; rfl, h3⟩
  show s39 _ _ _ (.iface 27 (.int .i64 e)) K w
  unfold s39
  refine runS (neq20e e w) (condT rfl (runS (assert27 e w) (pur (extract_0 _ _) (pur (extract_1 _ _ _) ?_))))
  refine join0 (fun w' => w = w') ?_ fun J hJ => pur (not_b _) (condF rfl (hJ w rfl))
  rintro w' rfl
  refine storeB h2 (by simp) rfl fun w1 b1 e1 _ => ?_
  refine storeB (h3.ext e1 (at1_ne (Ne.symm h23))) (by simp) rfl fun w2 b2 e2 _ => ?_
  refine storeB ((h4.ext e1 (at1_ne (Ne.symm h24))).ext e2 (at1_ne (Ne.symm h34))) (by simp) rfl fun w3 b3 e3 _ => ?_
  exact hK w3 ((b1.ext e2 (at1_ne h23)).ext e3 (at1_ne h24)) (b2.ext e3 (at1_ne h34)) b3 (((e1.mono fun b h _ => .inl h).trans (e2.mono fun b h _ => .inr (.inl h))).trans (e3.mono fun b h _ => .inr (.inr h)))

/-- the three results' cells -/
structure D3 (w w' : World) (n : Int) (v : Value) (e : Int) : Prop where
  b2 : Blk w' w.heap.size 39 [.int .u64 n]
  b3 : Blk w' (w.heap.size + 1) 22 [v]
  b4 : Blk w' (w.heap.size + 2) 27 [.int .i64 e]
  ext : Ext No w w'
namespace D3
variable {w w' w'' : World} {n : Int} {v : Value} {e : Int} {K : World → Prop}
theorem no (h : D3 w w' n v e) (k : Ext No w' w'') : D3 w w'' n v e := ⟨h.b2.no k, h.b3.no k, h.b4.no k, h.ext.trans k⟩
theorem ex {S : Nat → Prop} (h : D3 w w' n v e) (k : Ext S w' w'') (hS : ∀ b, S b → w.heap.size + 3 ≤ b) : D3 w w'' n v e :=
  ⟨h.b2.ext k fun hh => by have := hS _ hh; omega, h.b3.ext k fun hh => by have := hS _ hh; omega, h.b4.ext k fun hh => by have := hS _ hh; omega, h.ext.fresh k fun b hb => .inr (by have := hS b hb; omega)⟩
theorem s2 (h : D3 w w' n v e) (n' : Int) (hK : ∀ w'', D3 w w'' n' v e → Ext (At1 w.heap.size) w' w'' → K w'') : StoreC (.pointer (some ⟨w.heap.size, 0, none⟩)) (.int .u64 n') K w' :=
  storeB h.b2 (by simp) rfl fun w1 b1 e1 _ => hK w1 ⟨b1, h.b3.ext e1 (at1_ne (by omega)), h.b4.ext e1 (at1_ne (by omega)), h.ext.fresh e1 fun b hb => .inr (by rw [show b = w.heap.size from hb]; exact Nat.le_refl _)⟩ e1
theorem s3 (h : D3 w w' n v e) (v' : Value) (hv : v'.oneCell' = true) (hK : ∀ w'', D3 w w'' n v' e → Ext (At1 (w.heap.size + 1)) w' w'' → K w'') : StoreC (.pointer (some ⟨w.heap.size + 1, 0, none⟩)) v' K w' :=
  storeB h.b3 (by simp) hv fun w1 b1 e1 _ => hK w1 ⟨h.b2.ext e1 (at1_ne (by omega)), b1, h.b4.ext e1 (at1_ne (by omega)), h.ext.fresh e1 fun b hb => .inr (by rw [show b = w.heap.size + 1 from hb]; omega)⟩ e1
theorem s4 (h : D3 w w' n v e) (e' : Int) (hK : ∀ w'', D3 w w'' n v e' → Ext (At1 (w.heap.size + 2)) w' w'' → K w'') : StoreC (.pointer (some ⟨w.heap.size + 2, 0, none⟩)) (.int .i64 e') K w' :=
  storeB h.b4 (by simp) rfl fun w1 b1 e1 _ => hK w1 ⟨h.b2.ext e1 (at1_ne (by omega)), h.b3.ext e1 (at1_ne (by omega)), b1, h.ext.fresh e1 fun b hb => .inr (by rw [show b = w.heap.size + 2 from hb]; omega)⟩ e1
end D3
theorem rdRs_succ (k : Nat) (l : List UInt8) : rdRs (k + 1) l = (match rdR l with
  | .error e => .error e
  | .ok (r, l1) => match rdRs k l1 with
    | .error e => .error e
    | .ok (rs, l2) => .ok (r :: rs, l2)) := rfl
def Res (w : World) (l : List UInt8) (w' : World) : Prop := ∃ v, D3 w w' ((dec l).1 : Int) v (dec l).2.2 ∧ Sl w' v (dec l).2.1.length 4 (flat Rec.cells (dec l).2.1) ∧ ∀ b, v.ownBlock = some b → w.heap.size ≤ b ∧ b < w'.heap.size
theorem Res.err {w w' : World} {l : List UInt8} {e : Int} (hd : dec l = (0, [], e)) (h : D3 w w' 0 (.slice none 0 0) e) : Res w l w' := by
  refine ⟨.slice none 0 0, ?_, ?_, fun b hb => by simp [Value.ownBlock] at hb⟩
  · rw [hd]; exact h
  · rw [hd]; exact Sl.nil_ w' 4

set_option maxHeartbeats 4000000 in
theorem c21 {w : World} {x : Value} {l : List UInt8} (hs : Sl w x l.length 1 (byteCells l)) (hl : l.length ≤ 140737488355328) {K : Value → World → Prop}
    (hK : ∀ v w', Ext No w w' → Sl w' v (dec l).2.1.length 4 (flat Rec.cells (dec l).2.1) → (∀ b, v.ownBlock = some b → w.heap.size ≤ b ∧ b < w'.heap.size) → K (.tuple [.int .u64 ((dec l).1 : Int), v, .int .i64 (dec l).2.2].toArray) w') : CallS Try.prog 21 #[x] K w := by
  refine s21_call hm ?_
  unfold s21
  refine box fun w1 b1 e1 z1 => box fun w2 b2 e2 z2 => box fun w3 b3 e3 z3 => ?_
  have d0 : D3 w w3 0 (.slice none 0 0) 0 := by
    refine ⟨(b1.no e2).no e3, ?_, ?_, e1.trans (e2.trans e3)⟩
    · have := b2.no e3; rw [z1] at this; exact this
    · have := b3; rw [z2, z1] at this; exact this
  rw [z2, z1]
  refine ⟨fun w' => Res w l w', fun ch w' => ∃ e n v e0, ch = errP e ∧ dec l = (0, [], e) ∧ D3 w w' n v e0, fun w' hr => ?_, ?_, ?_⟩
  · -- the put-off function finds nothing
    refine c39_ret ?_
    obtain ⟨v, d, hsl, hv⟩ := hr
    exact loadB d.b2 rfl (loadB d.b3 rfl (loadB d.b4 rfl (hK v w' d.ext hsl hv)))
  · -- .. finds an error
    rintro ch w' ⟨e, n, v, e0, rfl, hd, d⟩
    refine c39_pan d.b2 d.b3 d.b4 e fun w'' c2 c3 c4 ee => ?_
    have ext : Ext No w w'' := d.ext.fresh ee fun b hb => .inr (by omega)
    refine loadB c2 rfl (loadB c3 rfl (loadB c4 rfl ?_))
    have := hK (.slice none 0 0) w'' ext (by rw [hd]; exact Sl.nil_ w'' 4) (fun b hb => by simp [Value.ownBlock] at hb)
    rw [hd] at this
    exact this
  · have s3 := hs.no d0.ext
    refine pur s3.len (pur (bin_gtr _ _ _) (condD (fun hbig => ?_) (fun hsm => ?_)))
    · have hd : dec l = (0, [], 2) := by unfold dec; rw [if_pos (by omega)]
      exact d0.s2 0 fun w4 d4 _ => d4.s3 _ rfl fun w5 d5 _ => d5.s4 2 fun w6 d6 _ => Res.err hd d6
    · refine callP_of (c40 s3 hl fun w4 e4 => ?_)
      have d4 := d0.no e4
      refine pur (extract_0 _ _) (pur (extract_1 _ _ _) (d4.s2 _ fun w5 d5 _ => d5.s4 _ fun w6 d6 _ => loadB d6.b4 rfl (pur (bin_neq _ _ _) (condN (fun hne => ?_) (fun h0 => ?_)))))
      · have h8 : l.length < 8 := by
          by_cases h : l.length < 8
          · exact h
          · rw [if_neg h] at hne; exact absurd rfl hne
        have hd : dec l = (0, [], 4) := by unfold dec; rw [if_neg (by omega), if_pos h8]
        have d6' : D3 w w6.drew _ _ _ := d6.no (Ext.drew w6)
        refine draw (fun w' => Blk w' (w.heap.size + 2) 27 _) d6'.b4 ?_
        refine heldC (fun w' hh => hh.cell 0) (d6'.s2 0 fun w7 d7 _ => ⟨d7.b4, d7.s3 _ rfl fun w8 d8 _ => ⟨d8.b4, ?_⟩⟩)
        rw [if_pos h8] at d8 ⊢
        exact d8.s4 4 fun w9 d9 _ => Res.err hd d9
      · have h8 : ¬ l.length < 8 := fun h => by rw [if_pos h] at h0; cases h0
        have hx := sl_block hs (by omega)
        rw [if_neg h8] at d6
        rw [if_neg h8] at d6
        have hq := leN_lt (l.take 8)
        have ht8 : (l.take 8).length = 8 := by rw [List.length_take]; omega
        rw [ht8] at hq
        have hp8 : (256 : Nat) ^ 8 = 18446744073709551616 := by decide
        refine loadB d6.b2 rfl (pur (bin_gtr _ _ _) (condD (fun hgt => ?_) (fun hle => ?_)))
        · have hd : dec l = (0, [], 3) := by unfold dec; rw [if_neg (by omega), if_neg h8, if_pos (by omega)]
          exact d6.s2 0 fun w7 d7 _ => d7.s3 _ rfl fun w8 d8 _ => d8.s4 3 fun w9 d9 _ => Res.err hd d9
        · have s6 := hs.no d6.ext
          obtain ⟨x8, p1, p2, p3⟩ := sl_drop s6 (k := 8) (by omega) .i64
          rw [byteCells_drop, ← List.length_drop] at p2
          refine pur p1 (callP_of (c41 p2 (by rw [List.length_drop]; omega) fun w7 e7 => ?_))
          have d7 := d6.no e7
          refine pur (extract_0 _ _) (pur (extract_1 _ _ _) (d7.s4 _ fun w8 d8 _ => loadB d8.b4 rfl (pur (bin_neq _ _ _) (condN (fun hne => ?_) (fun h0' => ?_)))))
          · have h12 : (l.drop 8).length < 4 := by
              by_cases h : (l.drop 8).length < 4
              · exact h
              · rw [if_neg h] at hne; exact absurd rfl hne
            have hd : dec l = (0, [], 4) := by
              rw [List.length_drop] at h12
              unfold dec; rw [if_neg (by omega), if_neg h8, if_neg (by omega), if_pos (by omega)]
            have d8' : D3 w w8.drew _ _ _ := d8.no (Ext.drew w8)
            refine draw (fun w' => Blk w' (w.heap.size + 2) 27 _) d8'.b4 ?_
            refine heldC (fun w' hh => hh.cell 0) (d8'.s2 0 fun w9 d9 _ => ⟨d9.b4, d9.s3 _ rfl fun w10 d10 _ => ⟨d10.b4, ?_⟩⟩)
            rw [if_pos h12] at d10 ⊢
            exact d10.s4 4 fun w11 d11 _ => Res.err hd d11
          · have h12 : ¬ (l.drop 8).length < 4 := fun h => by rw [if_pos h] at h0'; cases h0'
            rw [if_neg h12] at d8
            rw [if_neg h12]
            have h12' : 12 ≤ l.length := by rw [List.length_drop] at h12; omega
            obtain ⟨cnt, hcnt⟩ : ∃ cnt, leN ((l.drop 8).take 4) = cnt := ⟨_, rfl⟩
            obtain ⟨seq, hseq⟩ : ∃ seq, leN (l.take 8) = seq := ⟨_, rfl⟩
            rw [hcnt]
            rw [hseq] at d8 hle hq
            have hdec : dec l = (if 4096 < cnt ∨ fitsB seq cnt = false then (0, [], 3) else match rdRs cnt (l.drop 12) with | .error e => (0, [], e) | .ok (rs, r) => if 0 < r.length then (0, [], 5) else (seq, rs, 0)) := by
              unfold dec
              rw [if_neg (by omega), if_neg h8, if_neg (by rw [hseq]; omega), if_neg (by omega), hcnt, hseq]
              rfl
            refine pur (bin_gtr _ _ _) ?_
            -- too many, or numbers that do not fit
            refine join1 (fun a w' => w8 = w' ∧ (cnt ≤ 4096 → a = .bool (!fitsB seq cnt))) ?_ fun J2 hJ2 => ?_
            · rintro a w' ⟨rfl, ha⟩
              have hpick : pickV (.bool (decide ((4096 : Int) < (cnt : Int)))) (.bool true) a = some (.bool (decide (4096 < cnt ∨ fitsB seq cnt = false))) := by
                refine (pick_b _ _ _).trans ?_
                by_cases h : 4096 < cnt
                · rw [if_pos (by simp; omega)]; simp [h]
                · rw [if_neg (by simp; omega), ha (by omega)]; simp [h]
              refine pur hpick (condD (fun hb => ?_) (fun hok => ?_))
              · have hd : dec l = (0, [], 3) := by rw [hdec, if_pos hb]
                exact d8.s2 0 fun w9 d9 _ => d9.s3 _ rfl fun w10 d10 _ => d10.s4 3 fun w11 d11 _ => Res.err hd d11
              · rw [if_neg hok] at hdec
                have hc4 : cnt ≤ 4096 := by omega
                have s8 := hs.no d8.ext
                obtain ⟨x12, q1, q2, q3⟩ := sl_drop s8 (k := 12) (by omega) .i64
                rw [byteCells_drop, ← List.length_drop] at q2
                have hx12 : x12.oneCell' = true := sl_one q2
                have hbuild : (Instr.build 74 [(0, x12)].toArray).run Try.prog w8 = .ok (.agg #[x12]) w8 := by
                  obtain ⟨A, c, rfl, _⟩ := q2
                  kernel_rfl
                refine pur q1 (runS hbuild (box fun w9 b9 e9 z9 => ?_))
                have hr9 : Rd w9 w8.heap.size w.heap.size (l.drop 12) := ⟨x12, b9, q2.no e9, fun b hb => hx b (q3 b hb), by rw [List.length_drop]; omega, d8.ext.size⟩
                have d9 := d8.no e9
                have hg6 : w.heap.size + 3 ≤ w8.heap.size := d8.b4.lt
                -- behind the loop
                refine join0 (fun w' => ∃ rs r v, rdRs cnt (l.drop 12) = .ok (rs, r) ∧ D3 w w' (seq : Int) v 0 ∧ Sl w' v rs.length 4 (flat Rec.cells rs) ∧ (∀ b, v.ownBlock = some b → w.heap.size + 3 ≤ b ∧ b < w'.heap.size) ∧ Rd w' w8.heap.size w.heap.size r) ?_ fun J3 hJ3 => ?_
                · rintro w10 ⟨rs, r, v, hrs, d10, sl10, ov10, hr10⟩
                  rw [hrs] at hdec
                  simp only at hdec
                  obtain ⟨xr, rb, rsl, _⟩ := hr10
                  refine pur (nil_ptr _) (pur (field_ptr _ _ _) (loadB rb rfl (pur rsl.len (pur (bin_gtr _ _ _) (condD (fun hgt => ?_) (fun hz => ?_))))))
                  · rw [if_pos (by omega)] at hdec
                    exact d10.s2 0 fun w11 d11 _ => d11.s3 _ rfl fun w12 d12 _ => d12.s4 5 fun w13 d13 _ => Res.err hdec d13
                  · rw [if_neg (by omega)] at hdec
                    have d10' := d10.no (Ext.drew w10)
                    refine draw (fun w' => Blk w' w.heap.size 39 [.int .u64 (seq : Int)] ∧ Blk w' (w.heap.size + 1) 22 [v]) ⟨d10'.b2, d10'.b3⟩ ?_
                    refine heldC (v := .int .u64 (seq : Int)) (fun w' hh => hh.1.cell 0) (heldC (v := v) (fun w' hh => hh.2.cell 0) ?_)
                    refine d10'.s2 _ fun w11 d11 e11 => ⟨⟨d11.b2, d11.b3⟩, d11.s3 v (sl_one sl10) fun w12 d12 e12 => d12.s4 0 fun w13 d13 e13 => ?_⟩
                    have hne : ∀ g, g < w.heap.size + 3 → ∀ b, v.ownBlock = some b → ¬ At1 g b := fun g hg b hb => at1_ne (by have := (ov10 b hb).1; omega)
                    have sl13 := (((sl10.no (Ext.drew w10)).ext e11 (hne _ (by omega))).ext e12 (hne _ (by omega))).ext e13 (hne _ (by omega))
                    refine ⟨v, ?_, ?_, fun b hb => ?_⟩
                    · rw [hdec]; exact d13
                    · rw [hdec]; exact sl13
                    · have := ov10 b hb
                      have := e11.size; have := e12.size; have := e13.size
                      have hsz : w10.drew.heap.size = w10.heap.size := rfl
                      omega
                · refine loop1 (σ := Nat × List Rec × List UInt8 × Value) (fun s a w' => a = .int .u32 (s.1 : Int) ∧ s.1 ≤ cnt ∧ s.2.1.length = s.1 ∧ D3 w w' (seq : Int) s.2.2.2 0 ∧ w'.ownsRow (w.heap.size + 3) 31 4 s.2.2.2 s.2.1.length (flat Rec.cells s.2.1) ∧ Rd w' w8.heap.size w.heap.size s.2.2.1 ∧
                      rdRs cnt (l.drop 12) = (match rdRs (cnt - s.1) s.2.2.1 with | .error e => .error e | .ok (rs, r) => .ok (s.2.1 ++ rs, r)))
                    (fun s => cnt - s.1) (0, [], l.drop 12, .slice none 0 0) ⟨rfl, by simp, rfl, d9, World.ownsRow_nil _ _ _ _, hr9, by simp only [Nat.sub_zero, List.nil_append]; cases rdRs cnt (l.drop 12) <;> rfl⟩ ?_
                  rintro ⟨i, acc, rest, v⟩ a w10 ⟨rfl, hi, hal, d10, ho10, hr10, hrel⟩ L hL
                  simp only at hi hal d10 ho10 hr10 hrel hL
                  refine pur (bin_lss _ _ _) (condD (fun hlt => ?_) (fun hge => ?_))
                  · obtain ⟨k, hk⟩ : ∃ k, cnt - i = k + 1 := ⟨cnt - i - 1, by omega⟩
                    rw [hk, rdRs_succ] at hrel
                    have d10' := d10.no (Ext.drew w10)
                    refine draw (fun w' => Blk w' (w.heap.size + 1) 22 [v]) d10'.b3 ?_
                    refine heldC (v := v) (fun w' hh => hh.cell 0) ?_
                    refine c42 (hr10.no (Ext.drew w10)) (fun e w' he ee => ?_) fun r l' w11 hr h11 e11 => ?_
                    · rw [he] at hrel
                      simp only at hrel
                      rw [hrel] at hdec
                      exact ⟨e, _, _, _, rfl, hdec, d10'.ex ee fun b hb => by rw [show b = w8.heap.size from hb]; exact hg6⟩
                    · rw [hr] at hrel
                      simp only at hrel
                      have d11 := d10'.ex e11 fun b hb => by rw [show b = w8.heap.size from hb]; exact hg6
                      have hog : ∀ g, v.ownBlock = some g → ¬ At1 w8.heap.size g := fun g hg hh => by
                        obtain ⟨xr, rb, _⟩ := hr10
                        exact own_ne ho10 rb (by decide) (by rw [hg, show g = w8.heap.size from hh])
                      have ho11 : w11.ownsRow (w.heap.size + 3) 31 4 v acc.length (flat Rec.cells acc) := owns_ext (show w10.drew.ownsRow (w.heap.size + 3) 31 4 v acc.length (flat Rec.cells acc) from ho10) e11 hog
                      refine ⟨d11.b3, build1 T22 rfl fun w12 b12 e12 z12 => ⟨d11.b3.no e12, ?_⟩⟩
                      have ho12 := owns_ext ho11 e12 fun _ _ hh => hh
                      have d12 := d11.no e12
                      refine append_sl T22 22 ho12 (b12.sl (n := 1) (c := 1) (size := 4) rfl (Nat.le_refl _)) (Rec.one r) (by omega) (by omega) (by have := d12.b4.lt; omega) fun v' w13 ho13 hg13 hat => ?_
                      have e13 : Ext (fun b => v.ownBlock = some b) w12 w13 := Ext.grown hg13 fun b hb => hb
                      have d13 := d12.ex e13 fun b hb => (ho12.lt b hb).1
                      refine d13.s3 v' (by rcases ho13.2 with ⟨rfl, _⟩ | ⟨_, _, _, rfl, _⟩ <;> rfl) fun w14 d14 e14 => ?_
                      have ho14 := owns_ext ho13 e14 fun g hg hh => by have := (ho13.lt g hg).1; rw [show g = w.heap.size + 1 from hh] at this; omega
                      refine pur ((bin_add _ _ _).trans (by rw [wu32 (by omega) (by omega)])) ?_
                      refine hL (i + 1, acc ++ [r], l', v') _ _ ⟨by simp, by simp only; omega, by simp [hal], d14, ?_, ?_, ?_⟩ (by simp only; omega)
                      · simp only
                        rw [flat_append, flat_one]
                        simpa [Value.cells, Rec.agg, Rec.cells] using ho14
                      · refine ((h11.no e12).ext e13 (fun hh => ?_) (fun b hb hh => ?_)).ext e14 (at1_ne (by omega)) (fun b hb => at1_ne (by omega))
                        · exact hog _ hh rfl
                        · have := (ho12.lt b hh).1; omega
                      · simp only
                        rw [hrel, show cnt - (i + 1) = k by omega]
                        cases rdRs k l' with
                        | error e => rfl
                        | ok p => obtain ⟨rs, r'⟩ := p; simp
                  · have hci : cnt - i = 0 := by omega
                    rw [hci] at hrel
                    simp only [rdRs, List.append_nil] at hrel
                    exact hJ3 _ ⟨acc, rest, v, hrel, d10, Sl.own ho10, fun b hb => ho10.lt b hb, hr10⟩
            · rw [ifB_eq]
              by_cases hc : cnt ≤ 4096
              · rw [if_pos (by simp; omega)]
                refine loadB d8.b2 rfl (pur (conv64 (by omega) (by omega)) (callP_of (c32 seq cnt (by omega) (by omega) (pur (not_b _) (hJ2 _ _ ⟨rfl, fun _ => rfl⟩)))))
              · rw [if_neg (by simp; omega)]
                exact hJ2 _ _ ⟨rfl, fun h => absurd h hc⟩
end Go.Proofs.Ytambcnlkdnmekaa
