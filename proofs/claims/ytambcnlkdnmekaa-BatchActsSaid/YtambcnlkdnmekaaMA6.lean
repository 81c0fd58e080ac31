/- Several texts of ours, laid one behind the other. -/
import Derived.Test.YtambcnlkdnmekaaMA5
import Derived.Defers
import Derived.Recover
import Derived.Test.YtambcnlkdnmekaaProg
/-! Batches: readers. -/
namespace Go.Proofs.Ytambcnlkdnmekaa
open Go SG Go.RowKit Go.Lib
set_option linter.unusedVariables false
set_option maxRecDepth 4000
set_option linter.unusedSimpArgs false

def errP (e : Int) : List PanicEntry := panE 27 (.int .i64 e)
/-- a reader lies at g: what is left -/
def Rd (w : World) (g B : Nat) (l : List UInt8) : Prop := ∃ x, Blk w g 74 [x] ∧ Sl w x l.length 1 (byteCells l) ∧ (∀ b, x.ownBlock = some b → b < B) ∧ l.length ≤ 140737488355328 ∧ B ≤ g
theorem Rd.lt {w : World} {g B : Nat} {l : List UInt8} (h : Rd w g B l) : g < w.heap.size := by obtain ⟨x, hb, _⟩ := h; exact hb.lt
theorem Rd.B {w : World} {g B : Nat} {l : List UInt8} (h : Rd w g B l) : B ≤ g := by obtain ⟨x, _, _, _, _, h⟩ := h; exact h
theorem Rd.ext {S : Nat → Prop} {w w' : World} {g B : Nat} {l : List UInt8} (h : Rd w g B l) (e : Ext S w w') (hg : ¬ S g) (hB : ∀ b, b < B → ¬ S b) : Rd w' g B l := by
  obtain ⟨x, hb, hs, ho, hl, hBg⟩ := h
  exact ⟨x, hb.ext e hg, hs.ext e fun b hh => hB b (ho b hh), ho, hl, hBg⟩
theorem Rd.no {w w' : World} {g B : Nat} {l : List UInt8} (h : Rd w g B l) (e : Ext No w w') : Rd w' g B l := h.ext e (fun h => h) fun _ _ h => h
theorem byteCells_drop (l : List UInt8) (k : Nat) : (byteCells l).drop (k * 1) = byteCells (l.drop k) := by simp [byteCells]
theorem byteCells_take (l : List UInt8) (k : Nat) : (byteCells l).take (k * 1) = byteCells (l.take k) := by simp [byteCells]
theorem sl_one {w : World} {x : Value} {n size : Nat} {xs : List Value} (h : Sl w x n size xs) : x.oneCell' = true := by obtain ⟨A, c, rfl, _⟩ := h; rfl

/-- the reader moves on by k bytes -/
theorem Rd.move {w : World} {g B : Nat} {l : List UInt8} {x : Value} (hb : Blk w g 74 [x]) (hs : Sl w x l.length 1 (byteCells l)) (ho : ∀ b, x.ownBlock = some b → b < B) (hl : l.length ≤ 140737488355328) (hBg : B ≤ g) {k : Nat} (hk : k ≤ l.length) (kd : IntKind)
    {K : World → Prop} (hK : ∀ w', Rd w' g B (l.drop k) → Ext (At1 g) w w' → w'.heap.size = w.heap.size → K w') :
    ∃ x', sliceV 1 x (some (.int kd (k : Int))) none = some x' ∧ StoreC (.pointer (some ⟨g, 0, none⟩)) x' K w := by
  obtain ⟨x', h1, h2, h3⟩ := sl_drop hs hk kd
  refine ⟨x', h1, storeB hb (by simp) (sl_one h2) fun w' b' e' z' => hK w' ⟨x', b', ?_, fun b hh => ho b (h3 b hh), by rw [List.length_drop]; omega, hBg⟩ e' z'⟩
  rw [byteCells_drop] at h2
  rw [List.length_drop]
  exact h2.ext e' fun b hh hb' => by have := ho b (h3 b hh); rw [show b = g from hb'] at this; omega

theorem c59 {w : World} {g B : Nat} {l : List UInt8} (h : Rd w g B l) {K : Value → World → Prop} {Kp : List PanicEntry → World → Prop} (h0 : l = [] → Kp (errP 4) w)
    (hK : ∀ c r w', l = c :: r → Rd w' g B r → Ext (At1 g) w w' → w'.heap.size = w.heap.size → K (.int .u8 (c.toNat : Int)) w') : CallP Try.prog 59 #[.pointer (some ⟨g, 0, none⟩)] K Kp w := by
  obtain ⟨x, hb, hs, ho, hl, hBg⟩ := h
  refine s59_call hm ?_
  unfold s59
  refine join0 (fun w' => w = w' ∧ l ≠ []) ?_ fun J hJ => ?_
  · rintro w' ⟨rfl, hne⟩
    obtain ⟨c, r, rfl⟩ : ∃ c r, l = c :: r := by cases l with | nil => exact absurd rfl hne | cons c r => exact ⟨c, r, rfl⟩
    obtain ⟨ad, h1, h2⟩ := byte_at hs (i := 0) (c := c) rfl
    refine pur (nil_ptr _) (pur (field_ptr _ _ _) (loadB hb rfl (pur h1 (SG.load (S := No) h2 (pur (nil_ptr _) (pur (field_ptr _ _ _) (loadB hb rfl ?_)))))))
    obtain ⟨x', h3, h4⟩ := Rd.move hb hs ho hl hBg (k := 1) (by simp) .i64 (K := fun w' => K (.int .u8 (c.toNat : Int)) w') fun w' hr e z => hK c r w' rfl hr e z
    exact pur h3 (pur (nil_ptr _) (pur (field_ptr _ _ _) h4))
  · refine pur (nil_ptr _) (pur (field_ptr _ _ _) (loadB hb rfl (pur hs.len (pur (bin_eql _ _ _) (condD (fun hz => ?_) (fun hz => ?_))))))
    · exact panicI (h0 (List.eq_nil_of_length_eq_zero (by omega)))
    · exact hJ _ ⟨rfl, fun hn => hz (by rw [hn]; rfl)⟩

theorem rv_le {l : List UInt8} (h : (rv l).1 = 0) : (rv l).2.2 ≤ l.length := by
  obtain ⟨e, v, k, he⟩ : ∃ e v k, rv l = (e, v, k) := ⟨_, _, _, rfl⟩
  rw [he] at h ⊢
  simp only at h ⊢
  subst h
  obtain ⟨r, hl, hk, _⟩ := rv_ok he
  rw [hk, hl]; simp
theorem c60 {w : World} {g B most : Nat} {l : List UInt8} (h : Rd w g B l) (hm' : most < 18446744073709551616) {K : Value → World → Prop} {Kp : List PanicEntry → World → Prop} (hE : ∀ e, rdV most l = .error e → Kp (errP e) w)
    (hK : ∀ n r w', rdV most l = .ok (n, r) → Rd w' g B r → Ext (At1 g) w w' → w'.heap.size = w.heap.size → K (.int .u64 (n : Int)) w') : CallP Try.prog 60 #[.pointer (some ⟨g, 0, none⟩), .int .u64 (most : Int)] K Kp w := by
  obtain ⟨x, hb, hs, ho, hl, hBg⟩ := h
  refine s60_call hm ?_
  unfold s60
  refine pur (nil_ptr _) (pur (field_ptr _ _ _) (loadB hb rfl (callP_of (c69 hs hl ?_))))
  refine pur (extract_0 _ _) (pur (extract_1 _ _ _) (pur (extract_2 _ _ _ _) ?_))
  refine join0 (fun w' => w = w' ∧ (rv l).1 = 0 ∧ (rv l).2.1 ≤ most) ?_ fun J hJ => ?_
  · rintro w' ⟨rfl, h0, h1⟩
    have hrd : rdV most l = .ok ((rv l).2.1, l.drop (rv l).2.2) := by unfold rdV; rw [if_neg (by simp [h0]), if_neg (by omega)]
    refine pur (nil_ptr _) (pur (field_ptr _ _ _) (loadB hb rfl ?_))
    obtain ⟨x', h3, h4⟩ := Rd.move hb hs ho hl hBg (k := (rv l).2.2) (rv_le h0) .i64 (K := fun w' => K (.int .u64 ((rv l).2.1 : Int)) w') fun w' hr e z => hK _ _ w' hrd hr e z
    exact pur h3 (pur (nil_ptr _) (pur (field_ptr _ _ _) h4))
  · refine pur (bin_neq _ _ _) (condN (fun hne => ?_) (fun h0 => ?_))
    · exact panicI (hE _ (by unfold rdV; rw [if_pos hne]))
    · refine pur (bin_gtr _ _ _) (condD (fun hgt => ?_) (fun hle => ?_))
      · exact panicI (hE 3 (by unfold rdV; rw [if_neg (by simp [h0]), if_pos (by omega)]))
      · exact hJ _ ⟨rfl, h0, by omega⟩

theorem c61 {w : World} {g B most : Nat} {l : List UInt8} (h : Rd w g B l) (hm' : most < 18446744073709551616) {K : Value → World → Prop} {Kp : List PanicEntry → World → Prop} (hE : ∀ e w', rdT most l = .error e → Ext (At1 g) w w' → Kp (errP e) w')
    (hK : ∀ s r w', rdT most l = .ok (s, r) → Rd w' g B r → Ext (At1 g) w w' → K (.string (bA s)) w') : CallP Try.prog 61 #[.pointer (some ⟨g, 0, none⟩), .int .u64 (most : Int)] K Kp w := by
  refine s61_call hm ?_
  unfold s61
  refine c60 h hm' (fun e he => hE e w (by unfold rdT; rw [he]) (Ext.refl _ _)) fun n r w1 hv hr1 e1 z1 => ?_
  obtain ⟨x, hb, hs, ho, hl, hBg⟩ := hr1
  have hn := (rdV_ok hv).2.2
  refine join0 (fun w' => w1 = w' ∧ n ≤ r.length) ?_ fun J hJ => ?_
  · rintro w' ⟨rfl, hle⟩
    have hrd : rdT most l = .ok (r.take n, r.drop n) := by unfold rdT; rw [hv]; simp only; rw [if_neg (by omega)]
    refine pur (nil_ptr _) (pur (field_ptr _ _ _) (loadB hb rfl ?_))
    obtain ⟨x', h1, h2, _⟩ := sl_take hs hle .u64
    rw [byteCells_take] at h2
    have hlen : (r.take n).length = n := by rw [List.length_take]; omega
    refine pur h1 (runS (bytes_str (l := r.take n) Try.underlying40 Try.underlying9 Try.underlying5 (by rw [hlen]; exact h2)) ?_)
    refine pur (nil_ptr _) (pur (field_ptr _ _ _) (loadB hb rfl ?_))
    obtain ⟨x'', h3, h4⟩ := Rd.move hb hs ho hl hBg (k := n) hle .u64 (K := fun w' => K (.string (bA (r.take n))) w') fun w' hr e z => hK _ _ w' hrd hr (e1.trans e)
    exact pur h3 (pur (nil_ptr _) (pur (field_ptr _ _ _) h4))
  · refine pur (nil_ptr _) (pur (field_ptr _ _ _) (loadB hb rfl (pur hs.len (pur (conv64u (by omega) (by omega)) (pur (bin_gtr _ _ _) (condD (fun hgt => ?_) (fun hle => ?_)))))))
    · exact panicI (hE 4 w1 (by unfold rdT; rw [hv]; simp only; rw [if_pos (by omega)]) e1)
    · exact hJ _ ⟨rfl, by omega⟩

theorem build31k (w : World) (k : Int) : (Instr.build 31 [(1, .int .i64 k)].toArray).run Try.prog w = .ok (.agg #[.int .u32 0, .int .i64 k, .string ⟨#[]⟩, .string ⟨#[]⟩]) w := by kernel_rfl
theorem at1_ne {g b : Nat} (h : b ≠ g) : ¬ At1 g b := h
set_option maxHeartbeats 1000000 in
theorem c42 {w : World} {g B : Nat} {l : List UInt8} (h : Rd w g B l) {K : Value → World → Prop} {Kp : List PanicEntry → World → Prop} (hE : ∀ e w', rdR l = .error e → Ext (At1 g) w w' → Kp (errP e) w')
    (hK : ∀ r l' w', rdR l = .ok (r, l') → Rd w' g B l' → Ext (At1 g) w w' → K r.agg w') : CallP Try.prog 42 #[.pointer (some ⟨g, 0, none⟩)] K Kp w := by
  have hglt := h.lt
  have hBg := h.B
  refine s42_call hm ?_
  unfold s42
  refine box fun w1 b1 e1 z1 => ?_
  have h1 := h.no e1
  refine c59 h1 (fun hn => hE 4 w1 (by rw [hn]; rfl) e1.no) fun c l1 w2 hl2 h2 e2 z2 => ?_
  subst hl2
  have hcl := c.toNat_lt
  have b2 := b1.ext e2 (at1_ne (by omega))
  refine pur (conv64 (by omega) (by omega)) (runS (build31k w2 _) (box fun w3 b3 e3 z3 => ?_))
  have b2' := b2.no e3
  have h3 := h2.no e3
  refine storeAll b3 rfl (by simp [Value.cells]) (by simp [Value.oneCell']) fun w4 b4 e4 z4 => ?_
  have h4 := h3.ext e4 (at1_ne (by omega)) fun b hb => at1_ne (by omega)
  have b2'' := b2'.ext e4 (at1_ne (by omega))
  have e04 : Ext (At1 g) w w4 := (e1.no.trans e2).trans' (e3.fresh e4 (S := No) fun b hb => .inr (by rw [show b = w2.heap.size from hb]; exact Nat.le_refl _)) (fun _ h _ => h) (fun _ h _ => h.elim)
  refine join0 (fun w' => w4 = w' ∧ c.toNat ≤ 2) ?_ fun J0 hJ0 => ?_
  · rintro w' ⟨rfl, hc2⟩
    refine c60 (most := 4294967295) h4 (by decide) (fun e he => hE e w4 (by unfold rdR; simp only; rw [if_neg (by omega), he]) e04) fun f l2 w5 hv h5 e5 z5 => ?_
    have hf := (rdV_ok hv).2.1
    have b5 := b4.ext e5 (at1_ne (by omega))
    have b25 := b2''.ext e5 (at1_ne (by omega))
    refine pur (conv32u (by omega) (by omega)) (pur (field_ptr _ _ _) (storeB b5 (by simp) rfl fun w6 b6 e6 z6 => ?_))
    have h6 := h5.ext e6 (at1_ne (by omega)) fun b hb => at1_ne (by omega)
    have b26 := b25.ext e6 (at1_ne (by omega))
    have e06 : Ext (At1 g) w w6 := (e04.trans e5).trans' e6 (fun _ h _ => h) (fun b hb hlt => by have : b = w2.heap.size := hb; omega)
    refine c61 (most := 1024) h6 (by decide) (fun e w' he ee => hE e w' (by unfold rdR; simp only; rw [if_neg (by omega), hv]; simp only; rw [he]) (e06.trans ee)) fun k l3 w7 hk h7 e7 => ?_
    have b7 := b6.ext e7 (at1_ne (by omega))
    have b27 := b26.ext e7 (at1_ne (by omega))
    have s7 := e7.size
    refine pur (field_ptr _ _ _) (storeB b7 (by simp) rfl fun w8 b8 e8 z8 => ?_)
    have h8 := h7.ext e8 (at1_ne (by omega)) fun b hb => at1_ne (by omega)
    have b28 := b27.ext e8 (at1_ne (by omega))
    have e08 : Ext (At1 g) w w8 := (e06.trans e7).trans' e8 (fun _ h _ => h) (fun b hb hlt => by have : b = w2.heap.size := hb; omega)
    have hx8 : Blk w8 w2.heap.size 31 (Rec.mk f (c.toNat : Int) (bA k) ⟨#[]⟩).cells := b8
    -- behind the value
    refine join0 (fun w' => ∃ r l', rdR (c :: l1) = .ok (r, l') ∧ Blk w' w2.heap.size 31 r.cells ∧ Rd w' g B l' ∧ Ext (At1 g) w w' ∧ ∃ cs, Blk w' w.heap.size 31 cs ∧ cs.length = 4) ?_ fun J1 hJ1 => ?_
    · rintro w9 ⟨r, l', hrd, b9, h9, e9, cs, bz, hz⟩
      refine loadA (At.of_blk b9) rfl (storeAll bz rfl hz (Rec.one r) fun w10 b10 e10 z10 => loadA (At.of_blk b10) rfl ?_)
      exact hK r l' w10 hrd (h9.ext e10 (at1_ne (by omega)) fun b hb => at1_ne (by omega)) (e9.trans' e10 (fun _ h _ => h) (fun b hb hlt => by have : b = w.heap.size := hb; omega))
    · have hpre : ∀ (most : Nat), (c.toNat ≠ 0) → mostV c.toNat = most → (∀ e w', rdT most l3 = .error e → Ext (At1 g) w8 w' → Kp (errP e) w') ∧
          (∀ v l4 w9, rdT most l3 = .ok (v, l4) → Rd w9 g B l4 → Ext (At1 g) w8 w9 → PureS (fieldAddrV 3 (.pointer (some ⟨w2.heap.size, 0, none⟩))) fun t => StoreC t (.string (bA v)) (fun w => J1 w) w9) := by
        intro most hne hmost
        refine ⟨fun e w' he ee => hE e w' (by unfold rdR; simp only; rw [if_neg (by omega), hv]; simp only; rw [hk]; simp only; rw [if_neg hne, hmost, he]) (e08.trans ee), fun v l4 w9 hvv h9 e9 => ?_⟩
        have b9 := hx8.ext e9 (at1_ne (by omega))
        have s9 := e9.size
        refine pur (field_ptr _ _ _) (storeB b9 (by simp [Rec.cells]) rfl fun w10 b10 e10 z10 => ?_)
        refine hJ1 _ ⟨⟨f, (c.toNat : Int), bA k, bA v⟩, l4, ?_, b10, h9.ext e10 (at1_ne (by omega)) (fun b hb => at1_ne (by omega)), (e08.trans e9).trans' e10 (fun _ h _ => h) (fun b hb hlt => by have : b = w2.heap.size := hb; omega), _, (b28.ext e9 (at1_ne (by omega))).ext e10 (at1_ne (by omega)), rfl⟩
        unfold rdR; simp only; rw [if_neg (by omega), hv]; simp only; rw [hk]; simp only; rw [if_neg hne, hmost, hvv]
      refine pur (field_ptr _ _ _) (loadB hx8 (v := .int .i64 (c.toNat : Int)) rfl (pur (bin_eql _ _ _) (condD (fun h1' => ?_) (fun h1' => ?_))))
      · obtain ⟨p1, p2⟩ := hpre 16384 (by omega) (by unfold mostV; rw [if_pos (by omega)])
        exact c61 (most := 16384) h8 (by decide) p1 p2
      · refine pur (bin_eql _ _ _) (condD (fun h2' => ?_) (fun h2' => ?_))
        · obtain ⟨p1, p2⟩ := hpre 1024 (by omega) (by unfold mostV; rw [if_neg (by omega)])
          exact c61 (most := 1024) h8 (by decide) p1 p2
        · have hc0 : c.toNat = 0 := by omega
          refine hJ1 _ ⟨⟨f, (c.toNat : Int), bA k, ⟨#[]⟩⟩, l3, ?_, hx8, h8, e08, _, b28, rfl⟩
          unfold rdR; simp only; rw [if_neg (by omega), hv]; simp only; rw [hk]; simp only; rw [if_pos hc0, hc0]; rfl
  · refine pur (field_ptr _ _ _) (loadB b4 (v := .int .i64 (c.toNat : Int)) rfl (pur (bin_gtr _ _ _) (condD (fun hgt => ?_) (fun hle => ?_))))
    · exact panicI (hE 3 w4 (by unfold rdR; simp only; rw [if_pos (by omega)]) e04)
    · exact hJ0 _ ⟨rfl, by omega⟩
end Go.Proofs.Ytambcnlkdnmekaa
/-! The generic layer, seventh part: a function that puts off one call at its start; a put-off function that recovers. -/
namespace SG
open Go
set_option linter.unusedSimpArgs false
set_option linter.unusedVariables false

def DeferS (P : Program) (g : FuncId) (caps : List Value) (Kres : World → Prop) (X : (World → Prop) → (List PanicEntry → World → Prop) → Prop) : Prop :=
  ∃ (Kr : World → Prop) (Kp : List PanicEntry → World → Prop),
    (∀ w, Kr w → CallsD P g caps.toArray .returning w fun e u' w' => (∃ v, e = .returned v) ∧ u' = .returning ∧ Kres w') ∧
    (∀ ch w, Kp ch w → CallsD P g caps.toArray (.panicking ch) w fun e u' w' => (∃ v, e = .returned v) ∧ settle u' = .returning ∧ Kres w') ∧ X Kr Kp
def Fr.only (fl : List Nat) (F : Fr) : Fr := fun t => cond (fl.contains t) (F t) none
def calleeIs (c : Callee) (d : Nat) : Bool := match c with | .value (.tmp t) => Nat.beq t d | _ => false
def defShape (P : Program) (o1 o2 : Oper) : Option (FuncId × List Operand × Nat) :=
  match o1.op with
  | .makeFunc (.func g) xs ys => (match o1.dst with
    | some d => (match o2.op with
      | .defer c => cond (xs.toList.isEmpty && c.args.toList.isEmpty && calleeIs c.callee d && okFunc P g && o1.guard.isNone && o2.guard.isNone && o2.dst.isNone) (some (g, ys.toList, d)) none
      | _ => none)
    | none => none)
  | _ => none
def denD (P : Program) (fl : List Nat) (rs : List ResultVar) (ops : List Oper) (c2 : Code) (a2 : Ann) (K : Value → World → Prop) (F : Fr) (w : World) : Prop :=
  match ops with
  | [o1, o2] => (match defShape P o1 o2 with
    | some (g, ys, d) => evs F ys fun caps => DeferS P g caps (fun w' => resV P rs (F.only fl) w' fun v => K v w') fun Kr Kp =>
        den P true Kp c2 a2 (fun e _ w' => match e with | .normal => Kr w' | .ret => Kr w' | _ => False) (F.upd d (.func (.func g) #[] caps.toArray)) w
    | none => False)
  | _ => False
def denFnD (P : Program) (c : Code) (rs : Array ResultVar) (fl : List Nat) (ann : Ann) (args : List Value) (K : Value → World → Prop) (w : World) : Prop :=
  match c with
  | .seq c0 (.seq (.region _ ops false) c2) => match ann with
    | .q a0 (.q _ a2) => den P false NoP c0 a0 (fun e F w' => match e with | .normal => denD P fl rs.toList ops.toList c2 a2 K F w' | _ => False) (argF args 0) w
    | _ => False
  | _ => False
def okD (n : Nat) (fl : List Nat) (c : Code) (ann : Ann) : Bool :=
  match c with
  | .seq c0 (.seq (.region _ ops false) c2) => match ann with
    | .q a0 (.q _ a2) => annOk c0 a0 && annOk c2 a2 && dstsOk n c0 && dstsOk n c2 && (dsts c2).all (fun d => !fl.contains d) &&
        ops.toList.all (fun o => match o.dst with | some d => Nat.blt d n && !fl.contains d | none => true)
    | _ => false
  | _ => false

section
variable {P : Program}
theorem callFunc_ok {f : FuncId} (h : okFunc P f = true) (vs : Array Value) (w : World) : (callFunc f vs).run P w = .ok (.enter f vs) w := by
  unfold okFunc at h
  split at h
  · rename_i fn hf
    simp only [Bool.and_eq_true, Bool.not_eq_true'] at h
    obtain ⟨h1, h2⟩ := h
    obtain ⟨c, hb⟩ := Option.isSome_iff_exists.1 h1
    simp only [callFunc, Sem.run_bind, run_program, Result.andThen_ok, hf, h2, hb, Bool.false_eq_true, if_false, Sem.run_pure]
    simp
  · cases h
theorem only_some {fl : List Nat} {F : Fr} {t : Nat} {v : Value} (h : F.only fl t = some v) : fl.contains t = true ∧ F t = some v := by
  unfold Fr.only at h
  cases hb : fl.contains t with
  | true => rw [hb] at h; exact ⟨rfl, h⟩
  | false => rw [hb] at h; cases h
theorem list_isEmpty {α : Type} {xs : Array α} (h : xs.toList.isEmpty = true) : xs = #[] := by
  obtain ⟨l⟩ := xs
  have : l = [] := by simpa using h
  rw [this]

theorem defShape_some {o1 o2 : Oper} {g : FuncId} {ys : List Operand} {d : Nat} (h : defShape P o1 o2 = some (g, ys, d)) :
    ∃ ya cc, o1.op = .makeFunc (.func g) #[] ya ∧ ya.toList = ys ∧ o1.dst = some d ∧ o1.guard = none ∧ o2.op = .defer cc ∧ o2.dst = none ∧ o2.guard = none ∧ cc.args = #[] ∧ cc.callee = .value (.tmp d) ∧ okFunc P g = true := by
  unfold defShape at h
  split at h
  · rename_i g' xs ya he1
    split at h
    · rename_i d' he2
      split at h
      · rename_i cc he4
        cases hb : (xs.toList.isEmpty && cc.args.toList.isEmpty && calleeIs cc.callee d' && okFunc P g' && o1.guard.isNone && o2.guard.isNone && o2.dst.isNone) with
        | false => rw [hb] at h; cases h
        | true =>
          rw [hb] at h
          simp only [cond_true, Option.some.injEq, Prod.mk.injEq] at h
          obtain ⟨rfl, rfl, rfl⟩ := h
          simp only [Bool.and_eq_true] at hb
          obtain ⟨⟨⟨⟨⟨⟨hx, ha⟩, hc⟩, hg⟩, h1⟩, h2⟩, h3⟩ := hb
          have hx0 := list_isEmpty hx
          subst hx0
          have hcal : cc.callee = .value (.tmp d') := by
            unfold calleeIs at hc
            split at hc
            · rename_i t heq
              rw [heq, Nat.eq_of_beq_eq_true hc]
            · cases hc
          exact ⟨ya, cc, he1, rfl, he2, by simpa using h1, he4, by simpa using h3, by simpa using h2, list_isEmpty ha, hcal, hg⟩
      · cases h
    · cases h
  · cases h

theorem fn_defer (hm : P.follows .mixedOrders = true) {f : FuncId} {fn : Func} {c : Code} (hf : P.funcs[f]? = some fn) (hb : fn.body = some c) {ann : Ann} {args : List Value} {rs : Array ResultVar} (hrs : fn.results = rs) {m : Nat} {fl : List Nat}
    (hn : fn.ntmps = args.length + m) (hok : okD (args.length + m) fl c ann = true) {K : Value → World → Prop} {w : World} (h : denFnD P c rs fl ann args K w) : CallS P f args.toArray K w := by
  unfold denFnD at h
  split at h
  rotate_left
  · exact h.elim
  rename_i c0 id ops c2
  cases ann <;> try exact h.elim
  rename_i a0 ann'
  cases ann' <;> try exact h.elim
  rename_i a1 a2
  simp only [okD, Bool.and_eq_true] at hok
  obtain ⟨⟨⟨⟨⟨hk0, hk2⟩, hd0⟩, hd2⟩, hfl⟩, hops⟩ := hok
  refine calls_of_wp_defers hf hb ?_
  have hsz : fn.ntmps - args.toArray.size = m := by simp [hn]
  rw [hsz]
  refine wp_seq (wp_mono (den_sound (n := ⟨args.length + m, [], fun _ => none⟩) hm c0 a0 _ _ _ w hk0 (dstsOk_mem hd0) (argF_agree args m) h) fun e a' w' he => ?_)
  cases e with
  | exit id => obtain ⟨F, _, _, hQ⟩ := he; exact hQ.elim
  | goto l => obtain ⟨F, _, _, hQ⟩ := he; exact hQ.elim
  | ret => obtain ⟨F, _, _, hQ⟩ := he; exact hQ.elim
  | panic ch => exact he.2.elim
  | outgrown => exact he.elim
  | normal =>
    obtain ⟨F, ha, _, hD⟩ := he
    rcases hol : ops.toList with _ | ⟨o1, _ | ⟨o2, _ | ⟨o3, r⟩⟩⟩
    · rw [hol] at hD; exact hD.elim
    · rw [hol] at hD; exact hD.elim
    rotate_left
    · rw [hol] at hD; exact hD.elim
    rw [hol] at hD
    unfold denD at hD
    simp only at hD
    cases hsh : defShape P o1 o2 with
    | none => rw [hsh] at hD; exact hD.elim
    | some gyd =>
    obtain ⟨g, yl, d⟩ := gyd
    rw [hsh] at hD
    simp only at hD
    obtain ⟨ys, cc, he1, rfl, he2, he3, he4, he5, he6, hc0, hcallee, hokg⟩ := defShape_some hsh
    have hD' := evs_some (ρ := a'.eval) ha.hρ _ _ hD
    obtain ⟨caps, hcaps⟩ : ∃ caps, ys.toList.map a'.eval = caps := ⟨_, rfl⟩
    rw [hcaps] at hD'
    obtain ⟨Kr, Kp, hret, hpan, hrest⟩ := hD'
    rw [hol] at hops
    simp only [List.all_cons, List.all_nil, Bool.and_true, Bool.and_eq_true, he2] at hops
    obtain ⟨⟨hdn, hdfl⟩, _⟩ := hops
    have hdlt : d < args.length + m := Nat.le_of_ble_eq_true hdn
    have ha1 : Agree ⟨args.length + m, [], fun _ => none⟩ (F.put (some d) (.func (.func g) #[] caps.toArray)) (a'.put (some d) (.func (.func g) #[] caps.toArray)) := ha.put (fun t ht => by cases ht; exact ⟨hdlt, rfl⟩) _
    refine wp_seq (wp_region_list ?_)
    rw [hol]
    have hw1 : Region.wanted o1 (yielded ops a'.tmps) = true := by simp [Region.wanted, he3]
    unfold wpList
    rw [if_pos hw1]
    refine .inl ?_
    unfold Oper.wp
    have hex1 : (execOp a'.eval o1).run P w' = .ok (.value (.func (.func g) #[] caps.toArray)) w' := by
      simp [execOp, he1, Instr.makeFunc, map_arr, hcaps]
    rw [hex1]
    show wpList P ops _ [o2] (a'.put o1.dst _) w'
    rw [he2]
    unfold wpList
    have hw2 : Region.wanted o2 (yielded ops (a'.put (some d) (.func (.func g) #[] caps.toArray)).tmps) = true := by simp [Region.wanted, he6]
    rw [if_pos hw2]
    refine .inl ?_
    unfold Oper.wp
    have hgd : (a'.put (some d) (.func (.func g) #[] caps.toArray)).tmps.getD d undef = .func (.func g) #[] caps.toArray := ha1.vals d _ (by simp [Fr.put, Fr.upd_same])
    have hex2 : (execOp (a'.put (some d) (.func (.func g) #[] caps.toArray)).eval o2).run P w' = .ok (.defer { target := .fn (.func g) caps.toArray, args := #[] }) w' := by
      obtain ⟨callee, cargs, ctys⟩ := cc
      simp only at hcallee hc0
      subst hcallee hc0
      simp only [execOp, he4, resolve, Sem.run_bind, Act.eval, hgd, Deferred.ofValue, Sem.run_pure, Result.andThen_ok, Array.map_empty, Array.append_empty]
    rw [hex2]
    rw [Oper.upon_defer, he5]
    unfold wpList
    simp only [Act.put]
    have hdef : a'.defers = [] := ha.st.defers
    -- the rest
    have ha2 : Agree ⟨args.length + m, [{ target := .fn (.func g) caps.toArray, args := #[] }], F.only fl⟩ (F.upd d (.func (.func g) #[] caps.toArray))
        { tmps := a'.tmps.setIfInBounds d (.func (.func g) #[] caps.toArray), defers := { target := .fn (.func g) caps.toArray, args := #[] } :: a'.defers } := by
      refine ⟨⟨ha1.st.size, by simp [hdef], fun t v hv => ?_⟩, fun t v hv => ha1.vals t v hv⟩
      obtain ⟨hc, hF⟩ := only_some hv
      have hne : t ≠ d := fun e => by rw [e] at hc; rw [hc] at hdfl; simp at hdfl
      exact ha1.vals t v (by simp [Fr.put, Fr.upd_ne _ _ hne, hF])
    have hd2' : ∀ t ∈ dsts c2, (⟨args.length + m, [{ target := .fn (.func g) caps.toArray, args := #[] }], F.only fl⟩ : Stat).wr t := fun t ht => by
      refine ⟨(dstsOk_mem hd2 t ht).1, ?_⟩
      have := List.all_eq_true.1 hfl t ht
      have hb : fl.contains t = false := by simpa using this
      show F.only fl t = none
      unfold Fr.only
      rw [hb]; rfl
    refine wp_mono (den_sound hm c2 a2 _ _ _ w' hk2 hd2' ha2 hrest) fun e a3 w3 he => ?_
    have hfin : ∀ (u : FrameMode) w'', Stands ⟨args.length + m, [{ target := .fn (.func g) caps.toArray, args := #[] }], F.only fl⟩ a3 → u ≠ .run →
        CallsD P g caps.toArray u w'' (fun e u' w' => (∃ v, e = .returned v) ∧ settle u' = .returning ∧ resV P rs.toList (F.only fl) w' fun v => K v w') →
        Leaves P fn a3.tmps (fun e w' => match e with | .returned v => K v w' | _ => False) a3.defers u w'' := fun u w'' hst hu hcd => by
      rw [hst.defers]
      refine leaves_cons hu (f := g) (args := caps.toArray) ?_ (hcd.mono fun e u' w4 ⟨⟨v, hv⟩, hs, hr⟩ => ?_)
      · simp only [invoke]
        rw [show (#[] : Array Value) ++ caps.toArray = caps.toArray by simp]
        exact callFunc_ok hokg _ _
      · subst hv
        show Leaves P fn a3.tmps _ [] (settle u') w4
        rw [hs]
        have hag : Agree ⟨args.length + m, [{ target := .fn (.func g) caps.toArray, args := #[] }], F.only fl⟩ (F.only fl) a3 := ⟨hst, fun t v hv => hst.fix t v hv⟩
        obtain ⟨v', hv', hK'⟩ := resV_run (P := P) hag w4 fn hrs hr
        exact ⟨v', hv', hK'⟩
    cases e with
    | exit id => obtain ⟨F, _, _, hQ⟩ := he; exact hQ.elim
    | goto l => obtain ⟨F, _, _, hQ⟩ := he; exact hQ.elim
    | outgrown => exact he.elim
    | normal =>
      obtain ⟨F3, ha3, _, hQ⟩ := he
      exact hfin .returning w3 ha3.st (by simp) ((hret w3 hQ).mono fun e u' w4 ⟨h1, h2, h3⟩ => ⟨h1, by rw [h2]; rfl, h3⟩)
    | ret =>
      obtain ⟨F3, ha3, _, hQ⟩ := he
      exact hfin .returning w3 ha3.st (by simp) ((hret w3 hQ).mono fun e u' w4 ⟨h1, h2, h3⟩ => ⟨h1, by rw [h2]; rfl, h3⟩)
    | panic ch => exact hfin (.panicking ch) w3 he.1 (by simp) (hpan ch w3 he.2)

/-! ### a put-off function that asks for the panic -/
def recV (u : FrameMode) : Value × FrameMode := match u with
  | .panicking ({ v, recovered := false, goexit := false } :: older) => (v, .panicking ({ v, recovered := true } :: older))
  | u => (.nilIface, u)
def isRecover (o : Op) : Bool := match o with | .call c => (match c.callee with | .builtin .recover => true | _ => false) | _ => false
def assigns (o : Op) (d : Nat) : Bool := match o with | .assign (.tmp t) => Nat.beq t d | _ => false
def denFnR (P : Program) (c : Code) (ann : Ann) (args : List Value) (x : Value) (K : World → Prop) (w : World) : Prop :=
  match c with
  | .seq (.region _ ops false) c1 => match ann with
    | .q _ a1 => (match ops.toList with
      | [o1, o2] => (match o1.dst, o1.guard, o2.dst, o2.guard with
        | some d1, none, some d2, none => cond (isRecover o1.op && assigns o2.op d1)
            (den P true NoP c1 a1 (fun e _ w' => match e with | .normal => K w' | .ret => K w' | _ => False) (((argF args 0).upd d1 x).upd d2 x) w) False
        | _, _, _, _ => False)
      | _ => False)
    | _ => False
  | _ => False
def okR (n : Nat) (c : Code) (ann : Ann) : Bool :=
  match c with
  | .seq (.region _ ops false) c1 => match ann with
    | .q _ a1 => annOk c1 a1 && dstsOk n c1 && ops.toList.all (fun o => match o.dst with | some d => Nat.blt d n | none => true)
    | _ => false
  | _ => false
theorem recoverD_mode {c₀ : Frame} {cs : List Frame} {u : FrameMode} (hu : c₀.mode = u) :
    (recoverD (c₀ :: cs) = some ((recV u).1, { c₀ with mode := (recV u).2 } :: cs)) ∨ (recoverD (c₀ :: cs) = none ∧ recV u = (.nilIface, u)) := by
  subst hu
  unfold recoverD recV
  split
  · rename_i c rest heq
    simp only [List.cons.injEq] at heq
    obtain ⟨rfl, rfl⟩ := heq
    split
    · rename_i v older hm
      left
      rw [hm]
    · rename_i hne
      right
      refine ⟨rfl, ?_⟩
      split
      · rename_i v older hm
        exact absurd hm (hne v older)
      · rfl
  · rename_i heq; cases heq
theorem run_recover {o : Oper} (h : isRecover o.op = true) (ρ : Operand → Value) (w : World) : (execOp ρ o).run P w = .ok .recover w := by
  obtain ⟨dst, op, type, guard, after⟩ := o
  simp only at h ⊢
  unfold isRecover at h
  split at h
  · rename_i c
    obtain ⟨callee, args, tys⟩ := c
    simp only at h
    split at h
    · simp [execOp, resolve, invoke, builtin]
    · cases h
  · cases h
theorem fn_recover (hm : P.follows .mixedOrders = true) {f : FuncId} {fn : Func} {c : Code} (hf : P.funcs[f]? = some fn) (hb : fn.body = some c) {ann : Ann} {args : List Value} (hrs : fn.results = #[]) {m : Nat}
    (hn : fn.ntmps = args.length + m) (hok : okR (args.length + m) c ann = true) {u : FrameMode} {K : World → Prop} {w : World} (h : denFnR P c ann args (recV u).1 K w) :
    CallsD P f args.toArray u w fun e u' w' => (∃ v, e = .returned v) ∧ u' = (recV u).2 ∧ K w' := by
  unfold denFnR at h
  split at h
  rotate_left
  · exact h.elim
  rename_i id ops c1
  cases ann <;> try exact h.elim
  rename_i a0 a1
  simp only at h
  split at h
  rotate_left
  · exact h.elim
  rename_i o1 o2 hol
  split at h
  rotate_left
  · exact h.elim
  rename_i d1 d2 he1 he2 he3 he4
  obtain ⟨hshape, h⟩ := cond_true_of h
  simp only [Bool.and_eq_true] at hshape
  obtain ⟨hrec, hasg⟩ := hshape
  simp only [okR, Bool.and_eq_true] at hok
  obtain ⟨⟨hk1, hd1⟩, hops⟩ := hok
  rw [hol] at hops
  simp only [List.all_cons, List.all_nil, Bool.and_true, Bool.and_eq_true, he1, he3] at hops
  have hl1 : d1 < args.length + m := Nat.le_of_ble_eq_true hops.1
  have hl2 : d2 < args.length + m := Nat.le_of_ble_eq_true hops.2
  have hsz : fn.ntmps - args.toArray.size = m := by simp [hn]
  have hos : ops = #[o1, o2] := by
    have := congrArg List.toArray hol
    simpa using this
  refine callsD_of_wpS hf hb fun c₀ cs hu => ?_
  rw [hsz]
  apply wpS_seq
  apply wpS_region
  obtain ⟨a, hadef⟩ : ∃ a : Act, ({ tmps := args.toArray ++ Array.replicate m undef, defers := [] } : Act) = a := ⟨_, rfl⟩
  have ha : Agree ⟨args.length + m, [], fun _ => none⟩ (argF args 0) a := hadef ▸ argF_agree args m
  rw [hadef]
  -- what is handed back
  have hgo : ∀ cs', cs' = { c₀ with mode := (recV u).2 } :: cs → wpOpsS P ops (Exit.thenS (c1.wpS P (bodyPostS P fn c₀ cs fun e u' w' => (∃ v, e = .returned v) ∧ u' = (recV u).2 ∧ K w'))
      (bodyPostS P fn c₀ cs fun e u' w' => (∃ v, e = .returned v) ∧ u' = (recV u).2 ∧ K w')) [1] (a.put (some d1) (recV u).1) cs' w := by
    intro cs' hcs
    have ha1 : Agree ⟨args.length + m, [], fun _ => none⟩ ((argF args 0).put (some d1) (recV u).1) (a.put (some d1) (recV u).1) := ha.put (fun t ht => by cases ht; exact ⟨hl1, rfl⟩) _
    have hgd : (a.put (some d1) (recV u).1).tmps.getD d1 undef = (recV u).1 := ha1.vals d1 _ (by simp [Fr.put, Fr.upd_same])
    have ha2 := ha1.put (d := some d2) (fun t ht => by cases ht; exact ⟨hl2, rfl⟩) (recV u).1
    have hw2 : Region.wanted o2 (yielded ops (a.put (some d1) (recV u).1).tmps) = true := by simp [Region.wanted, he4]
    have hx : (execOp (a.put (some d1) (recV u).1).eval o2).run P w = .ok (.value (recV u).1) w := by
      unfold assigns at hasg
      split at hasg
      · rename_i t heq
        have ht := Nat.eq_of_beq_eq_true hasg
        subst ht
        simp only [execOp, heq, Act.eval, hgd, Sem.run_pure]
      · cases hasg
    have h1 : ops[1]? = some o2 := by rw [hos]; rfl
    simp only [wpOpsS, h1, hw2, if_true, hx, Oper.upon, he3, Exit.thenS]
    refine wpS_of_wp (wp_mono (den_sound hm c1 a1 _ _ _ w hk1 (dstsOk_mem hd1) ha2 h) fun e a' w' he => ?_)
    have hfin : ∀ F, Agree ⟨args.length + m, [], fun _ => none⟩ F a' → K w' → a'.defers = [] ∧ ∃ u', cs' = { c₀ with mode := u' } :: cs ∧ ∃ v, (results fn a'.tmps).run P w' = .ok v w' ∧ (∃ v', (Ending.returned v) = .returned v') ∧ u' = (recV u).2 ∧ K w' := fun F ha hK => by
      refine ⟨ha.st.defers, (recV u).2, hcs, .tuple #[], ?_, ⟨_, rfl⟩, rfl, hK⟩
      simp [results, hrs]
    cases e with
    | exit id => obtain ⟨F, _, _, hQ⟩ := he; exact hQ.elim
    | goto l => obtain ⟨F, _, _, hQ⟩ := he; exact hQ.elim
    | outgrown => exact he.elim
    | panic ch => exact he.2.elim
    | normal => obtain ⟨F, ha, _, hQ⟩ := he; exact hfin F ha hQ
    | ret => obtain ⟨F, ha, _, hQ⟩ := he; exact hfin F ha hQ
  have h0 : ops[0]? = some o1 := by rw [hos]; rfl
  have hr : List.range ops.size = [0, 1] := by rw [hos]; rfl
  have hw1 : Region.wanted o1 (yielded ops a.tmps) = true := by simp [Region.wanted, he2]
  rw [hr]
  unfold wpOpsS
  simp only [h0, hw1, if_true, run_recover hrec, he1]
  rcases recoverD_mode (c₀ := c₀) (cs := cs) hu with hh | ⟨hh, hn'⟩
  · rw [hh]; exact hgo _ rfl
  · rw [hh]
    simp only
    have := hgo (c₀ :: cs) (by rw [hn']; cases c₀; simp_all)
    rw [hn'] at this
    simpa [hn'] using this
end
end SG
/-! The generic layer, eighth part: a range over a function, its rounds; iterators. -/
namespace SG
open Go Go.RowKit
set_option linter.unusedSimpArgs false
set_option linter.unusedVariables false

/-- an operation that hands one slot on to another -/
def asg1 (o : Oper) : Option (Nat × Nat) :=
  match o.op with
  | .assign (.tmp t) => (match o.dst with | some d => cond o.guard.isNone (some (t, d)) none | none => none)
  | _ => none
def asgF : List Oper → Fr → Option Fr
  | [], F => some F
  | o :: r, F => match asg1 o with
    | some (t, d) => (match F t with | some v => asgF r (F.upd d v) | none => none)
    | none => none
def asgA : List Oper → Act → Act
  | [], a => a
  | o :: r, a => match asg1 o with
    | some (t, d) => asgA r (a.put (some d) (a.tmps.getD t undef))
    | none => a
def paramF : List Tmp → List Value → Fr → Fr
  | p :: ps, v :: vs, F => paramF ps vs (F.upd p v)
  | _, _, F => F
def paramG : Nat → List Tmp → List Value → Fr → Fr
  | _, [], _, F => F
  | i, p :: ps, vs, F => paramG (i + 1) ps vs (F.upd p (vs.getD i undef))
theorem paramG_eq : ∀ (ps : List Tmp) (i : Nat) (vs : List Value) (F : Fr), vs.length = i + ps.length → paramG i ps vs F = paramF ps (vs.drop i) F
  | [], i, vs, F, h => by simp [paramG, paramF]
  | p :: ps, i, vs, F, h => by
    simp only [List.length_cons] at h
    have hi : i < vs.length := by omega
    rw [List.drop_eq_getElem_cons hi]
    have e : vs.getD i undef = vs[i] := by simp [List.getD, List.getElem?_eq_getElem hi]
    simp only [paramG, paramF, e]
    exact paramG_eq ps (i + 1) vs _ (by omega)
def RangeS (P : Program) (v : Value) (np : Nat) (rnd : List Value → (World → Prop) → World → Prop) (after : Nat → World → Prop) (w : World) : Prop :=
  match v with
  | .func (.func gf) first lb => first = #[] ∧ okFunc P gf = true ∧ ∃ (α : Type) (encs : α → List Value) (Kp : World → World → Prop) (S Sp : List α → Prop) (N : Nat) (I : List α → World → Prop),
      SeqStopsK Fence.wide 0 P gf lb (fun x => (encs x).toArray) Kp S Sp N w ∧ (∀ x, (encs x).length = np) ∧ (∀ A B C : World, Kp A B → Kp B C → Kp A C) ∧
      (∀ (W : World) (l : Nat) (o o' : Obj), w.heap.size ≤ l → W.heap[l]? = some o → o.isCells = false → o.isWalk = false → Kp W (W.putObj l o')) ∧ OwnFrom w.heap.size I ∧ I [] w ∧
      (∀ pre x W, I pre W → pre.length < N → rnd (encs x) (fun W' => KeepsFrom w.heap.size W W' ∧ Kp W W' ∧ I (pre ++ [x]) W') W) ∧
      (∀ D xs W, w.heap.size ≤ D → S xs → I xs W → W.heap[D]? = some (.deferred (some [])) → after D W)
  | _ => False
def isRange (c : Code) : Option (Code × Nat × Operand × Array Tmp × Nat × Array Oper × Code) :=
  match c with
  | .seq b0 (.block id (.rangeFunc g ps (.region rid ops false) bd)) => some (b0, id, g, ps, rid, ops, bd)
  | _ => none
theorem isRange_some {c b0 bd : Code} {id rid : Nat} {g : Operand} {ps : Array Tmp} {ops : Array Oper} (h : isRange c = some (b0, id, g, ps, rid, ops, bd)) : c = .seq b0 (.block id (.rangeFunc g ps (.region rid ops false) bd)) := by
  unfold isRange at h
  split at h
  · simp only [Option.some.injEq, Prod.mk.injEq] at h
    obtain ⟨rfl, rfl, rfl, rfl, rfl, rfl, rfl⟩ := h
    rfl
  · cases h
def denG (P : Program) (rs : List ResultVar) (K : Value → World → Prop) : Code → Ann → Fr → World → Prop
  | .seq a rest, ann, F, w => match ann with
    | .q x y => (match isRange a with
      | some (b0, _, g, ps, _, ops, bd) => (match x with
        | .q xb xd => den P false NoP b0 xb (fun e F' w' => match e with
            | .normal => withV (F'.ev g) fun v => RangeS P v ps.size
                (fun vs KW W => match asgF ops.toList (paramG 0 ps.toList vs F') with
                  | some F2 => den P false NoP bd xd (fun e _ W' => match e with | .normal => KW W' | _ => False) F2 W
                  | none => False)
                (fun D W => den P false NoP rest y (fun e F'' w'' => match e with
                  | .normal => w''.heap[D]? = some (.deferred (some [])) ∧ resV P rs F'' (w''.putObj D (.deferred none)) fun v => K v (w''.putObj D (.deferred none))
                  | .ret => w''.heap[D]? = some (.deferred (some [])) ∧ resV P rs F'' (w''.putObj D (.deferred none)) fun v => K v (w''.putObj D (.deferred none))
                  | _ => False) F' W) w'
            | _ => False) F w
        | _ => False)
      | none => den P false NoP a x (fun e F' w' => match e with | .normal => denG P rs K rest y F' w' | .ret => resV P rs F' w' fun v => K v w' | _ => False) F w)
    | _ => False
  | _, _, _, _ => False
def okG (n : Nat) : Code → Ann → Bool
  | .seq a rest, ann => match ann with
    | .q x y => (match isRange a with
      | some (b0, _, g, ps, _, ops, bd) => (match x with
        | .q xb xd => annOk b0 xb && dstsOk n b0 && annOk bd xd && dstsOk n bd && noDraw bd && annOk rest y && dstsOk n rest && ps.toList.all (fun p => Nat.blt p n) &&
            ops.toList.all (fun o => match asg1 o with | some (_, d) => Nat.blt d n | none => false)
        | _ => false)
      | none => annOk a x && dstsOk n a && okG n rest y)
    | _ => false
  | _, _ => false

section
variable {P : Program}
theorem asg1_some {o : Oper} {t d : Nat} (h : asg1 o = some (t, d)) : o.op = .assign (.tmp t) ∧ o.dst = some d ∧ o.guard = none := by
  unfold asg1 at h
  split at h
  · rename_i t' he
    split at h
    · rename_i d' hd
      cases hg : o.guard.isNone with
      | false => rw [hg] at h; cases h
      | true =>
        rw [hg] at h
        simp only [cond_true, Option.some.injEq, Prod.mk.injEq] at h
        obtain ⟨rfl, rfl⟩ := h
        exact ⟨he, hd, by simpa using hg⟩
    · cases h
  · cases h
theorem asg_wp {r : Option Nat} {fu : Nat} {ops : Array Oper} {Q : Exit → Act → World → Prop} : ∀ (l : List Oper) (a : Act) (w : World), (∀ o ∈ l, (asg1 o).isSome = true) → Q .normal (asgA l a) w → wpListIn (FR r) fu P ops Q l a w
  | [], a, w, _, h => h
  | o :: l, a, w, hl, h => by
    obtain ⟨⟨t, d⟩, htd⟩ := Option.isSome_iff_exists.1 (hl o (by simp))
    obtain ⟨h1, h2, h3⟩ := asg1_some htd
    unfold wpListIn
    have hw : Region.wanted o (yielded ops a.tmps) = true := by simp [Region.wanted, h3]
    rw [if_pos hw]
    refine ⟨fun _ _ => trivial, ?_⟩
    rw [Oper.semAt_eq _ _ _ (fun c hc => by rw [h1] at hc; cases hc)]
    have hex : (execOp a.eval o).run P w = .ok (.value (a.tmps.getD t undef)) w := by simp [execOp, h1, Act.eval]
    rw [hex]
    show wpListIn (FR r) fu P ops Q l (a.put o.dst _) w
    rw [h2]
    refine asg_wp l _ w (fun o ho => hl o (by simp [ho])) ?_
    simp only [asgA, htd] at h
    exact h
theorem asg_agree {n : Stat} : ∀ (l : List Oper) (F F2 : Fr) (a : Act), (∀ o ∈ l, ∀ t d, asg1 o = some (t, d) → n.wr d) → Agree n F a → asgF l F = some F2 → Agree n F2 (asgA l a)
  | [], F, F2, a, _, ha, h => by simp only [asgF, Option.some.injEq] at h; subst h; exact ha
  | o :: l, F, F2, a, hd, ha, h => by
    unfold asgF at h
    unfold asgA
    cases htd : asg1 o with
    | none => rw [htd] at h; cases h
    | some td =>
      obtain ⟨t, d⟩ := td
      rw [htd] at h
      simp only at h ⊢
      cases hF : F t with
      | none => rw [hF] at h; cases h
      | some v =>
        rw [hF] at h
        simp only at h
        have hv := ha.vals t v hF
        have := ha.put (d := some d) (fun t' ht' => by cases ht'; exact hd o (by simp) t d htd) v
        rw [hv]
        exact asg_agree l _ F2 _ (fun o ho => hd o (by simp [ho])) this h
theorem param_agree {N : Nat} : ∀ (ps : List Tmp) (vs : List Value) (F : Fr) (tm : Array Value), (∀ p ∈ ps, p < N) → Agree ⟨N, [], fun _ => none⟩ F { tmps := tm, defers := [] } →
    Agree ⟨N, [], fun _ => none⟩ (paramF ps vs F) { tmps := (ps.zip vs).foldl (fun t (p, v) => t.setIfInBounds p v) tm, defers := [] }
  | [], vs, F, tm, _, h => by simpa [paramF] using h
  | p :: ps, [], F, tm, _, h => by simpa [paramF] using h
  | p :: ps, v :: vs, F, tm, hp, h => by
    have := h.put (d := some p) (fun t ht => by cases ht; exact ⟨hp p (by simp), rfl⟩) v
    exact param_agree ps vs _ _ (fun q hq => hp q (by simp [hq])) this

theorem denG_sound (hm : P.follows .mixedOrders = true) {fn : Func} {rs : Array ResultVar} (hrs : fn.results = rs) {N : Nat} {K : Value → World → Prop} : ∀ (c : Code) (ann : Ann) (F : Fr) (a : Act) (w : World), okG N c ann = true → Agree ⟨N, [], fun _ => none⟩ F a → denG P rs.toList K c ann F w →
    c.wpIn Fence.wide 1 P (bodyPostM Fence.wide 1 P fn fun e w' => match e with | .returned v => K v w' | _ => False) a w := by
  intro c
  induction c with
  | seq x rest _ ih =>
    intro ann F a w hok ha h
    cases ann <;> try exact h.elim
    rename_i ax ay
    unfold denG at h
    unfold okG at hok
    simp only at h hok
    have hres : ∀ F' a' w', Agree ⟨N, [], fun _ => none⟩ F' a' → resV P rs.toList F' w' (fun v => K v w') → LeavesInM Fence.wide 1 P fn a'.tmps (fun e w' => match e with | .returned v => K v w' | _ => False) a'.defers .returning w' := fun F' a' w' ha' hr => by
      rw [ha'.st.defers]
      obtain ⟨v, hv, hK⟩ := resV_run (P := P) ha' w' fn hrs hr
      exact ⟨v, hv, hK⟩
    cases hir : isRange x with
    | none =>
      rw [hir] at h hok
      simp only [Bool.and_eq_true] at h hok
      obtain ⟨⟨h1, h2⟩, h3⟩ := hok
      refine wpIn_seq (wpIn_mono (wpIn_wide.2 (den_sound hm x ax _ F a w h1 (dstsOk_mem h2) ha h)) fun e a' w' he => ?_)
      cases e with
      | normal => obtain ⟨F', ha', _, hQ⟩ := he; exact ih ay F' a' w' h3 ha' hQ
      | ret => obtain ⟨F', ha', _, hQ⟩ := he; exact hres F' a' w' ha' hQ
      | exit id => obtain ⟨F', ha', _, hQ⟩ := he; exact hQ.elim
      | goto l => obtain ⟨F', ha', _, hQ⟩ := he; exact hQ.elim
      | panic ch => exact he.2.elim
      | outgrown => exact he.elim
    | some tup =>
      obtain ⟨b0, id, g, ps, rid, ops, bd⟩ := tup
      rw [hir] at h hok
      obtain rfl := isRange_some hir
      simp only at h hok
      cases ax <;> try exact h.elim
      rename_i xb xd
      simp only [Bool.and_eq_true] at hok
      obtain ⟨⟨⟨⟨⟨⟨⟨⟨k1, k2⟩, k3⟩, k4⟩, k5⟩, k6⟩, k7⟩, k8⟩, k9⟩ := hok
      refine wpIn_seq (wpIn_seq (wpIn_mono (wpIn_wide.2 (den_sound hm b0 xb _ F a w k1 (dstsOk_mem k2) ha h)) fun e a' w' he => ?_))
      cases e with
      | ret => obtain ⟨F', ha', _, hQ⟩ := he; exact hQ.elim
      | exit id => obtain ⟨F', ha', _, hQ⟩ := he; exact hQ.elim
      | goto l => obtain ⟨F', ha', _, hQ⟩ := he; exact hQ.elim
      | panic ch => exact he.2.elim
      | outgrown => exact he.elim
      | normal =>
        obtain ⟨F', ha', _, hQ⟩ := he
        obtain ⟨v, hv, hR⟩ := withV_some hQ
        unfold RangeS at hR
        split at hR
        rotate_left
        · exact hR.elim
        rename_i gf first lb
        obtain ⟨rfl, hokf, α, encs, Kp, S, Sp, M, I, hseq, hlen, hKt, hKb, hI, hI0, hrnd, haft⟩ := hR
        have hg := ha'.ev hv
        have hasg : ∀ o ∈ ops.toList, (asg1 o).isSome = true ∧ ∀ t d, asg1 o = some (t, d) → d < N := fun o ho => by
          have := List.all_eq_true.1 k9 o ho
          cases h1 : asg1 o with
          | none => rw [h1] at this; cases this
          | some td =>
            rw [h1] at this
            exact ⟨rfl, fun t d hh => by cases hh; exact Nat.le_of_ble_eq_true this⟩
        refine wpIn_block (wpIn_rangeFunc_ownG (n := 1) (encs := fun x => (encs x).toArray) (Kp := Kp) (S := S) (Sp := Sp) (N := M) (w0 := w') rfl (Nat.le_refl _) hg trivial (fun args w => callFunc_ok hokf args w) hseq (fun {A B C} => hKt A B C) hKb (Below.refl _ _)
          (fun x => by simp [hlen x]) I (fun _ _ _ => False) hI (fun _ _ _ _ _ hh _ _ => hh) hI0
          (fun x => asgA ops.toList { tmps := (ps.zip (encs x).toArray).foldl (fun t (p, v) => t.setIfInBounds p v) a'.tmps, defers := [] }) ?_ ?_ ?_ ?_)
        · intro l x W KK hKK
          exact wpIn_region_list (asg_wp (r := some l) ops.toList _ W (fun o ho => (hasg o ho).1) hKK)
        · intro l pre x W hi hlt
          have hr : (match asgF ops.toList (paramG 0 ps.toList (encs x) F') with | some F2 => den P false NoP bd xd (fun e _ W' => match e with | .normal => (KeepsFrom w'.heap.size W W' ∧ Kp W W' ∧ I (pre ++ [x]) W') | _ => False) F2 W | none => False) := hrnd pre x W hi hlt
          have hpa : Agree ⟨N, [], fun _ => none⟩ (paramF ps.toList (encs x) F') { tmps := (ps.zip (encs x).toArray).foldl (fun t (p, v) => t.setIfInBounds p v) a'.tmps, defers := [] } := by
            have hbase : Agree ⟨N, [], fun _ => none⟩ F' { tmps := a'.tmps, defers := [] } := ⟨⟨ha'.st.size, rfl, ha'.st.fix⟩, ha'.vals⟩
            have := param_agree ps.toList (encs x) F' a'.tmps (fun p hp => Nat.le_of_ble_eq_true (List.all_eq_true.1 k8 p hp)) hbase
            have e : (ps.zip (encs x).toArray).foldl (fun t (p, v) => t.setIfInBounds p v) a'.tmps = (ps.toList.zip (encs x)).foldl (fun t (p, v) => t.setIfInBounds p v) a'.tmps := by
              rw [← Array.foldl_toList, Array.toList_zip]
            rw [e]
            exact this
          rw [paramG_eq ps.toList 0 (encs x) F' (by rw [hlen x]; simp), List.drop_zero] at hr
          split at hr
          · rename_i F2 hF2
            have ha2 := asg_agree ops.toList _ F2 _ (fun o ho t d hh => ⟨(hasg o ho).2 t d hh, rfl⟩) hpa hF2
            refine wpIn_mono (den_soundIn (rd := some l) (fu := 0) hm bd xd _ F2 _ W (.inr k5) k3 (dstsOk_mem k4) ha2 hr) fun e a3 W3 he => ?_
            cases e with
            | normal => obtain ⟨_, _, _, hh⟩ := he; exact hh
            | ret => obtain ⟨F', ha', _, hQ⟩ := he; exact hQ.elim
            | exit id => obtain ⟨F', ha', _, hQ⟩ := he; exact hQ.elim
            | goto l => obtain ⟨F', ha', _, hQ⟩ := he; exact hQ.elim
            | panic ch => exact he.2.elim
            | outgrown => exact he.elim
          · exact hr.elim
        · intro D xs W hD hS hi hmk
          have hd := haft D xs W hD hS hi hmk
          have hsa : Agree ⟨N, [{ target := .collected D, args := #[] }], fun _ => none⟩ F' { a' with defers := { target := .collected D, args := #[] } :: a'.defers } :=
            ⟨⟨ha'.st.size, by simp [ha'.st.defers], ha'.st.fix⟩, ha'.vals⟩
          have hwr : ∀ d ∈ dsts rest, (⟨N, [{ target := .collected D, args := #[] }], fun _ => none⟩ : Stat).wr d := fun d hd => ⟨(dstsOk_mem k7 d hd).1, rfl⟩
          refine wpIn_mono (wpIn_wide.2 (den_sound hm rest ay _ F' _ W k6 hwr hsa hd)) fun e a3 W3 he => ?_
          have hfin : ∀ F3, Agree ⟨N, [{ target := .collected D, args := #[] }], fun _ => none⟩ F3 a3 → (W3.heap[D]? = some (.deferred (some [])) ∧ resV P rs.toList F3 (W3.putObj D (.deferred none)) fun v => K v (W3.putObj D (.deferred none))) →
              LeavesInM Fence.wide 1 P fn a3.tmps (fun e w' => match e with | .returned v => K v w' | _ => False) a3.defers .returning W3 := fun F3 ha3 ⟨hD3, hr3⟩ => by
            rw [ha3.st.defers]
            refine ⟨by simp, .inl ⟨D, _, rfl, run_takeDeferred hD3, ?_⟩⟩
            obtain ⟨v, hv, hK⟩ := resV_run (P := P) ha3 _ fn hrs hr3
            exact ⟨v, hv, hK⟩
          cases e with
          | normal => obtain ⟨F3, ha3, _, hh⟩ := he; exact hfin F3 ha3 hh
          | ret => obtain ⟨F3, ha3, _, hh⟩ := he; exact hfin F3 ha3 hh
          | exit id => obtain ⟨F', ha', _, hQ⟩ := he; exact hQ.elim
          | goto l => obtain ⟨F', ha', _, hQ⟩ := he; exact hQ.elim
          | panic ch => exact he.2.elim
          | outgrown => exact he.elim
        · intro D c pre W _ _ hh; exact hh.elim
  | _ => intro ann F a w hok; cases ann <;> cases hok

theorem fn_range (hm : P.follows .mixedOrders = true) {f : FuncId} {fn : Func} {c : Code} (hf : P.funcs[f]? = some fn) (hb : fn.body = some c) {ann : Ann} {args : List Value} {rs : Array ResultVar} (hrs : fn.results = rs) {m : Nat}
    (hn : fn.ntmps = args.length + m) (hok : okG (args.length + m) c ann = true) {K : Value → World → Prop} {w : World} (h : denG P rs.toList K c ann (argF args 0) w) : CallS P f args.toArray K w := by
  refine callsIn_wide.1 (callsIn_of_wp_marks (n := 1) hf hb trivial ?_ rfl)
  have hsz : fn.ntmps - args.toArray.size = m := by simp [hn]
  rw [hsz]
  exact denG_sound hm hrs c ann _ _ w hok (argF_agree args m) h

/-- an iterator's contract, from its walk -/
theorem stops_of {α : Type} {gf : Nat} {lb : Array Value} {encs : α → List Value} {Kp : World → World → Prop} {S Sp : List α → Prop} {N : Nat} {w : World}
    (h : ∀ (l : Nat) (J Jx : List α → World → Prop) (W : World), Below w.heap.size w W → AbidesFrom W.heap.size J →
      (∀ pre x W1 (K : Value → World → Prop), J pre W1 → pre.length < N → (∀ W', J (pre ++ [x]) W' → Kp W1 W' → K (.bool true) W') → (∀ W', Jx (pre ++ [x]) W' → K (.bool false) W') → YieldS P l (encs x).toArray K W1) →
      J [] W → CallS P gf (#[.func (.yield l) #[] #[]] ++ lb) (fun _ W' => (∃ xs, S xs ∧ J xs W') ∨ (∃ pre, Sp pre ∧ Jx pre W')) W) :
    SeqStopsK Fence.wide 0 P gf lb (fun x => (encs x).toArray) Kp S Sp N w := by
  intro l J Jx W hW hJ hJx hY h0
  refine callsIn_wide.2 (Calls.mono (h l J Jx W hW hJ ?_ h0) fun e W' he => ?_)
  · intro pre x W1 K hJ1 hlt ht hf
    obtain ⟨fn, tmps, assign, body, h1, h2⟩ := hY pre x W1 hJ1 hlt
    refine ⟨fn, tmps, assign, body, h1, h2.mono fun e W' he => ?_⟩
    rcases he with ⟨rfl, hh, hk⟩ | ⟨rfl, hh⟩
    · exact ht W' hh hk
    · exact hf W' hh
  · cases e with
    | returned v => exact ⟨⟨v, rfl⟩, he⟩
    | _ => exact he.elim
theorem callY {l : Nat} {args : List Value} {K : Value → World → Prop} {Kp : List PanicEntry → World → Prop} {w : World} (h : YieldS P l args.toArray K w) : CallV' P false (.func (.yield l) #[] #[]) args Kp K w := by
  show cond true (YieldS P l (#[] ++ args.toArray) K w) False
  simpa using h
end
end SG
/-! Laid out by a program of ours: what each function of the cut comes to, over named values; and that it is so. -/
namespace Go.Proofs.Ytambcnlkdnmekaa
set_option linter.unusedVariables false
set_option maxRecDepth 100000
open Go SG

/-! number 21 -/
def a21 : Ann :=
 (.q (.r [.plain 3]) (.q .s (.q (.q (.r [.plain 3]) (.c (.q (.r [.plain 3]) .s) .s)) (.q (.r [.plain 7]) (.q (.q (.r [.plain 2]) (.c (.q (.d [0, 0, 2, 7] (.hld 0 (.act 1 (.act 2 (.act 3 .fin))))) .s) .s)) (.q (.q (.r [.plain 2]) (.c (.q (.r [.plain 3]) .s) .s)) (.q (.r [.plain 8]) (.q (.q (.r [.plain 2]) (.c (.q (.d [0, 0, 2, 7] (.hld 0 (.act 1 (.act 2 (.act 3 .fin))))) .s) .s)) (.q (.q (.r [.plain 3, .grp 5 [37] 266287972352, .plain 1]) (.c (.q (.r [.plain 3]) .s) .s)) (.q (.r [.plain 5]) (.j [] 4494803534348288 (.q (.r [.plain 2]) (.b (.l [44] 4486007441326080 (.q (.r [.plain 1]) (.q (.c .s .s) (.q (.b (.d [0, 0, 2, 6, 15, 31] (.pur 1 (.hld 0 (.act 2 (.act 3 (.act 4 (.act 5 .fin)))))))) (.r [.plain 2])))))))
  (.q (.q (.r [.plain 6]) (.c (.q (.r [.plain 3]) .s) .s)) (.q (.d [0, 0, 1, 7, 15] (.hld 0 (.hld 1 (.act 2 (.act 3 (.act 4 .fin)))))) .s)))))))))))))
def s21 (b0 : Value) (K : Value → World → Prop) (w : World) : Prop :=
 BoxS 39 (Value.int .u64 0) (fun seq2 w =>
 BoxS 22 (Value.slice none 0 0) (fun l3 w =>
 BoxS 27 (Value.int .i64 0) (fun e4 w =>
 DeferS Try.prog 39 [seq2, l3, e4] (fun w =>
 LoadC seq2 (fun seq2_1 _ =>
 LoadC l3 (fun l3_1 _ =>
 LoadC e4 (fun e4_1 _ =>
 K (Value.tuple [seq2_1, l3_1, e4_1].toArray) w
 ) w
 ) w
 ) w
 ) fun Kr Kp =>
 PureS (lenSliceV b0) fun t9 =>
 PureS (binV .gtr t9 (Value.int .i64 4194304)) fun t10 =>
 CondS t10 (
 StoreC seq2 (Value.int .u64 0) (fun w =>
 StoreC l3 (Value.slice none 0 0) (fun w =>
 StoreC e4 (Value.int .i64 2) (fun w =>
 Kr w
 ) w
 ) w
 ) w
 ) (
 CallP' Try.prog 40 [b0].toArray Kp (fun t13 w =>
 PureS (extractV 0 t13) fun t14 =>
 PureS (extractV 1 t13) fun t15 =>
 StoreC seq2 t14 (fun w =>
 StoreC e4 t15 (fun w =>
 LoadC e4 (fun t16 w =>
 PureS (binV .neq t16 (Value.int .i64 0)) fun t17 =>
 CondS t17 (
 DrawS fun S0 => S0 w.drew ∧ (
 HeldC S0 e4 (fun t18 =>
 StoreC seq2 (Value.int .u64 0) (fun w =>
 S0 w ∧ (
 StoreC l3 (Value.slice none 0 0) (fun w =>
 S0 w ∧ (
 StoreC e4 t18 (fun w =>
 Kr w
 ) w
 )
 ) w
 )
 ) w.drew
 )
 )
 ) (
 LoadC seq2 (fun t19 w =>
 PureS (binV .gtr t19 (Value.int .u64 72057594037927935)) fun t20 =>
 CondS t20 (
 StoreC seq2 (Value.int .u64 0) (fun w =>
 StoreC l3 (Value.slice none 0 0) (fun w =>
 StoreC e4 (Value.int .i64 3) (fun w =>
 Kr w
 ) w
 ) w
 ) w
 ) (
 PureS (sliceV 1 b0 (some (Value.int .i64 8)) none) fun t23 =>
 CallP' Try.prog 41 [t23].toArray Kp (fun t24 w =>
 PureS (extractV 0 t24) fun t25 =>
 PureS (extractV 1 t24) fun t26 =>
 StoreC e4 t26 (fun w =>
 LoadC e4 (fun t27 w =>
 PureS (binV .neq t27 (Value.int .i64 0)) fun t28 =>
 CondS t28 (
 DrawS fun S1 => S1 w.drew ∧ (
 HeldC S1 e4 (fun t29 =>
 StoreC seq2 (Value.int .u64 0) (fun w =>
 S1 w ∧ (
 StoreC l3 (Value.slice none 0 0) (fun w =>
 S1 w ∧ (
 StoreC e4 t29 (fun w =>
 Kr w
 ) w
 )
 ) w
 )
 ) w.drew
 )
 )
 ) (
 PureS (binV .gtr t25 (Value.int .u32 4096)) fun t31 =>
 JoinS (fun (t37 : Value) (w : World) =>
 PureS (pickV t31 (Value.bool true) t37) fun t38 =>
 CondS t38 (
 StoreC seq2 (Value.int .u64 0) (fun w =>
 StoreC l3 (Value.slice none 0 0) (fun w =>
 StoreC e4 (Value.int .i64 3) (fun w =>
 Kr w
 ) w
 ) w
 ) w
 ) (
 PureS (sliceV 1 b0 (some (Value.int .i64 12)) none) fun t40 =>
 RunS Try.prog (Instr.build 74 [(0, t40)].toArray) (fun t41 w =>
 BoxS 74 t41 (fun t42 w =>
 JoinS (fun (w : World) =>
 PureS (nilV t42) fun t53 =>
 PureS (fieldAddrV 0 t53) fun t54 =>
 LoadC t54 (fun t55 w =>
 PureS (lenSliceV t55) fun t56 =>
 PureS (binV .gtr t56 (Value.int .i64 0)) fun t57 =>
 CondS t57 (
 StoreC seq2 (Value.int .u64 0) (fun w =>
 StoreC l3 (Value.slice none 0 0) (fun w =>
 StoreC e4 (Value.int .i64 5) (fun w =>
 Kr w
 ) w
 ) w
 ) w
 ) (
 DrawS fun S4 => S4 w.drew ∧ (
 HeldC S4 seq2 (fun t58 =>
 HeldC S4 l3 (fun t59 =>
 StoreC seq2 t58 (fun w =>
 S4 w ∧ (
 StoreC l3 t59 (fun w =>
 StoreC e4 (Value.int .i64 0) (fun w =>
 Kr w
 ) w
 ) w
 )
 ) w.drew
 )
 )
 )
 )
 ) w
 ) fun J3 =>
 LoopS 1 (fun L5 (t44 : Value) (w : World) =>
 PureS (binV .lss t44 t25) fun t45 =>
 CondS t45 (
 DrawS fun S6 => S6 w.drew ∧ (
 HeldC S6 l3 (fun t46 =>
 CallP' Try.prog 42 [t42].toArray Kp (fun t48 w =>
 S6 w ∧ (
 RunS Try.prog (Instr.buildSlice 22 1 [(0, t48)].toArray) (fun t49 w =>
 S6 w ∧ (
 RunS Try.prog (Builtin.append_ #[22, 22] 22 [t46, t49].toArray) (fun t50 w =>
 StoreC l3 t50 (fun w =>
 PureS (binV .add t44 (Value.int .u32 1)) fun t51 =>
 L5 t51 w
 ) w
 ) w
 )
 ) w
 )
 ) w.drew
 )
 )
 ) (
 J3 w
 )
 ) (Value.int .u32 0) w
 ) w
 ) w
 )
 ) fun J2 =>
 IfB t31 false (
 LoadC seq2 (fun t33 w =>
 PureS (convIntV .i64 t25) fun t35 =>
 CallP' Try.prog 32 [t33, t35].toArray Kp (fun t36 w =>
 PureS (notV t36) fun t37_1 =>
 J2 t37_1 w
 ) w
 ) w
 ) (
 J2 undef w
 )
 )
 ) w
 ) w
 ) w
 )
 ) w
 )
 ) w
 ) w
 ) w
 ) w
 )
 ) w
 ) w
 ) w
theorem s21_den (b0 : Value) (K : Value → World → Prop) (w : World) : denFnD Try.prog (bodyOf Try.f21) Try.f21.results [2, 3, 4] a21 [b0] K w = s21 b0 K w := by kernel_rfl
theorem s21_ann : okD (1 + 59) [2, 3, 4] (bodyOf Try.f21) a21 = true := by kernel_rfl
theorem s21_call {b0 : Value} {K : Value → World → Prop} {w : World} (hm : Try.prog.follows .mixedOrders = true) (h : s21 b0 K w) : CallS Try.prog 21 #[b0] K w :=
  fn_defer (args := [b0]) (m := 59) hm Try.func21 (by kernel_rfl) (rs := Try.f21.results) rfl Try.ntmps21 s21_ann (by rw [s21_den]; exact h)

/-! number 39 -/
def a39 : Ann :=
 (.q .s (.q (.r [.plain 2]) (.c (.q (.r [.plain 7]) (.j [] 114688 (.q (.r [.plain 2]) (.c (.r [.plain 2]) .s))
  (.r [.plain 4]))) .s)))
def s39 (t0 t1 t2 x : Value) (K : World → Prop) (w : World) : Prop :=
 RunS Try.prog (do eqGuard .neq 20 (Operand.tmp 7) (Operand.const Value.nilIface) x Value.nilIface; binOp .neq 20 x Value.nilIface) (fun t8 w =>
 CondS t8 (
 RunS Try.prog (Instr.typeAssert x 20 27 true) (fun t11 w =>
 PureS (extractV 0 t11) fun t12 =>
 PureS (extractV 1 t11) fun t13 =>
 JoinS (fun (w : World) =>
 StoreC t0 (Value.int .u64 0) (fun w =>
 StoreC t1 (Value.slice none 0 0) (fun w =>
 StoreC t2 t12 (fun w =>
 K w
 ) w
 ) w
 ) w
 ) fun J0 =>
 PureS (notV t13) fun t15 =>
 CondS t15 (
 PanicS Try.prog x NoP w
 ) (
 J0 w
 )
 ) w
 ) (
 K w
 )
 ) w
theorem s39_den (t0 t1 t2 x : Value) (K : World → Prop) (w : World) : denFnR Try.prog (bodyOf Try.f39) a39 [t0, t1, t2] x K w = s39 t0 t1 t2 x K w := by kernel_rfl
theorem s39_ann : okR (3 + 15) (bodyOf Try.f39) a39 = true := by kernel_rfl
theorem s39_call {t0 t1 t2 : Value} {u : FrameMode} {K : World → Prop} {w : World} (hm : Try.prog.follows .mixedOrders = true) (h : s39 t0 t1 t2 (recV u).1 K w) : CallsD Try.prog 39 #[t0, t1, t2] u w fun e u' w' => (∃ v, e = .returned v) ∧ u' = (recV u).2 ∧ K w' :=
  fn_recover (args := [t0, t1, t2]) (m := 15) hm Try.func39 (by kernel_rfl) (by kernel_rfl) Try.ntmps39 s39_ann (by rw [s39_den]; exact h)

/-! number 58 -/
def a58 : Ann :=
 (.q (.r [.plain 2]) (.q (.q (.r [.plain 4]) (.c (.q (.r [.plain 2]) .s) .s)) (.q (.r [.plain 2]) (.q (.q (.r [.plain 4]) (.b (.r [.plain 6]))) (.q (.r [.plain 3]) .s)))))
def s58 (b0 size1 : Value) (K : Value → World → Prop) (w : World) : Prop :=
 PureS (lenSliceV b0) fun t10 =>
 PureS (binV .lss t10 size1) fun t12 =>
 CondS t12 (
 K (Value.tuple [(Value.int .u64 0), (Value.int .i64 4)].toArray) w
 ) (
 BoxS 39 (Value.int .u64 0) (fun n6 w =>
 StoreC n6 (Value.int .u64 0) (fun w =>
 PureS (sliceV 1 b0 none (some size1)) fun t15 =>
 CallS Try.prog 68 [t15].toArray (fun t16 w =>
 RangeS Try.prog t16 2 (fun vs KW w =>
 LoadC n6 (fun t19 w =>
 PureS (binV .shl t19 (Value.int .u64 8)) fun t20 =>
 PureS (convIntV .u64 (vs.getD 1 undef)) fun t22 =>
 PureS (binV .or t20 t22) fun t23 =>
 StoreC n6 t23 (fun w =>
 KW w
 ) w
 ) w
 ) (fun D w =>
 LoadC n6 (fun t24 w =>
 (w).heap[D]? = some (.deferred (some [])) ∧ (
 K (Value.tuple [t24, (Value.int .i64 0)].toArray) ((w).putObj D (.deferred none))
 )
 ) w
 ) w
 ) w
 ) w
 ) w
 )
theorem s58_den (b0 size1 : Value) (K : Value → World → Prop) (w : World) : denG Try.prog Try.f58.results.toList K (bodyOf Try.f58) a58 (argF [b0, size1] 0) w = s58 b0 size1 K w := by kernel_rfl
theorem s58_ann : okG (2 + 23) (bodyOf Try.f58) a58 = true := by kernel_rfl
theorem s58_call {b0 size1 : Value} {K : Value → World → Prop} {w : World} (hm : Try.prog.follows .mixedOrders = true) (h : s58 b0 size1 K w) : CallS Try.prog 58 #[b0, size1] K w :=
  fn_range (args := [b0, size1]) (m := 23) hm Try.func58 (by kernel_rfl) (rs := Try.f58.results) rfl Try.ntmps58 s58_ann (by rw [s58_den]; exact h)
end Go.Proofs.Ytambcnlkdnmekaa
/-! Batches: codec.read, whose loop ranges over slices.Backward. -/
namespace Go.Proofs.Ytambcnlkdnmekaa
open Go SG Go.RowKit Go.Lib
set_option linter.unusedVariables false
set_option maxRecDepth 4000
set_option linter.unusedSimpArgs false

theorem c68 {w : World} {x : Value} {K : Value → World → Prop} (hK : ∀ w', Blk w' w.heap.size 40 x.cells.toList → Ext No w w' → w'.heap.size = w.heap.size + 1 → K (.func (.func 73) #[] #[.pointer (some ⟨w.heap.size, 0, none⟩)]) w') : CallS Try.prog 68 #[x] K w := by
  refine s68_call hm ?_
  unfold s68
  exact box fun w1 b1 e1 z1 => hK w1 b1 e1 z1

def encIC (p : Nat × UInt8) : List Value := [.int .i64 (p.1 : Int), .int .u8 (p.2.toNat : Int)]
theorem take_rev {l : List UInt8} {k : Nat} (hk : k < l.length) : l.reverse.take (k + 1) = l.reverse.take k ++ [l[l.length - 1 - k]'(by omega)] := by
  rw [List.take_add_one]
  congr 1
  rw [List.getElem?_reverse hk, List.getElem?_eq_getElem (by omega)]
  rfl
/-- slices.Backward's iterator keeps its word -/
theorem back_stops {S : Nat → Prop} {w : World} {x : Value} {l : List UInt8} {gb : Nat} (hb : Blk w gb 40 [x]) (hs : Sl w x l.length 1 (byteCells l)) (hSb : ¬ S gb) (hSx : ∀ b, x.ownBlock = some b → ¬ S b) (hl : l.length ≤ 140737488355328) :
    SeqStopsK Fence.wide 0 Try.prog 73 #[.pointer (some ⟨gb, 0, none⟩)] (fun p => (encIC p).toArray) (Ext S) (fun xs => xs.map Prod.snd = l.reverse) (fun _ => True) l.length w := by
  refine stops_of fun y J Jx W hW hJ hY h0 => ?_
  have eW : Ext No w W := Ext.of_below hW
  refine s73_call hm ?_
  unfold s73
  refine loadB (hb.no eW) rfl (pur hs.len (pur (sub64 (c := (l.length : Int) - 1) rfl (by omega) (by omega)) ?_))
  refine loop1 (σ := Nat) (fun k a w' => a = .int .i64 ((l.length : Int) - 1 - k) ∧ k ≤ l.length ∧ ∃ pre : List (Nat × UInt8), pre.length = k ∧ pre.map Prod.snd = l.reverse.take k ∧ J pre w' ∧ Ext S W w') (fun k => l.length - k) 0
    ⟨by simp, by omega, [], rfl, by simp, h0, Ext.refl _ _⟩ ?_
  rintro k a w1 ⟨rfl, hk, pre, hpl, hpm, hj, e1⟩ L hL
  refine pur (bin_geq _ _ _) (condD (fun hge => ?_) (fun hlt => ?_))
  · have hk' : k < l.length := by omega
    obtain ⟨c, hc⟩ : ∃ c, l[l.length - 1 - k]? = some c := ⟨_, List.getElem?_eq_getElem (show l.length - 1 - k < l.length by omega)⟩
    have b1 := (hb.no eW).ext e1 hSb
    have s1 := (hs.no eW).ext e1 hSx
    obtain ⟨ad, h1, h2⟩ := byte_at s1 hc
    have hidx : (l.length : Int) - 1 - k = ((l.length - 1 - k : Nat) : Int) := by omega
    rw [hidx]
    refine loadB b1 rfl (pur h1 (SG.load (S := No) h2 (callY ?_)))
    refine hY pre (l.length - 1 - k, c) w1 _ hj (by omega) (fun w2 hj2 hk2 => ?_) (fun w2 hj2 => ?_)
    · refine pur (not_b _) (condF rfl (pur (sub64 (c := (l.length : Int) - 1 - ((k + 1 : Nat) : Int)) (by omega) (by omega) (by omega)) ?_))
      refine hL (k + 1) _ _ ⟨rfl, by omega, pre ++ [(l.length - 1 - k, c)], by simp [hpl], ?_, hj2, e1.trans hk2⟩ (by omega)
      rw [take_rev hk', List.map_append, hpm]
      simp only [List.map_cons, List.map_nil]
      rw [List.getElem?_eq_getElem (show l.length - 1 - k < l.length by omega)] at hc
      simp only [Option.some.injEq] at hc
      rw [hc]
    · exact pur (not_b _) (condT rfl (.inr ⟨_, trivial, hj2⟩))
  · have hkl : k = l.length := by omega
    refine .inl ⟨pre, ?_, hj⟩
    rw [hpm, hkl]
    exact List.take_of_length_le (by simp)

def valB (l : List UInt8) : Nat := l.foldl (fun n c => n * 256 + c.toNat) 0
theorem valB_snoc (l : List UInt8) (c : UInt8) : valB (l ++ [c]) = valB l * 256 + c.toNat := by simp [valB]
theorem valB_rev (l : List UInt8) : valB l.reverse = leN l := by
  unfold valB leN
  rw [List.foldl_reverse]
  congr 1
  funext c n
  omega
theorem valB_lt : ∀ (k : Nat) (l : List UInt8), l.length = k → valB l < 256 ^ k
  | 0, l, h => by
    have : l = [] := List.eq_nil_of_length_eq_zero h
    subst this; decide
  | k + 1, l, h => by
    obtain ⟨l', c, rfl⟩ : ∃ l' c, l = l' ++ [c] := ⟨l.dropLast, l.getLast (by intro hh; simp [hh] at h), (List.dropLast_concat_getLast _).symm⟩
    have := valB_lt k l' (by simpa using h)
    have hc := c.toNat_lt
    rw [valB_snoc, Nat.pow_succ]
    omega
def rd58 (size : Nat) (l : List UInt8) : Value := .tuple [.int .u64 ((if l.length < size then 0 else leN (l.take size) : Nat) : Int), .int .i64 (if l.length < size then 4 else 0)].toArray

theorem heap_putObj_ext {w : World} {D : Nat} {o : Obj} {S : Nat → Prop} (hD : S D) : Ext S w (w.putObj D o) := ⟨rfl, rfl, rfl, by simp, fun b hb hn => World.putObj_heap_other (fun e => hn (e ▸ hD))⟩
theorem sl_block {w : World} {x : Value} {l : List UInt8} (hs : Sl w x l.length 1 (byteCells l)) (h : 0 < l.length) : ∀ b, x.ownBlock = some b → b < w.heap.size := fun b hb => by
  obtain ⟨ad, h1, h2⟩ := byte_at hs (i := 0) (List.getElem?_eq_getElem h)
  obtain ⟨ad', h3, h4, h5⟩ := hs.at_ h
  rw [h1] at h3
  cases h3
  rw [hb] at h5
  cases h5
  exact World.block_lt_of_cell? _ _ h2
set_option maxHeartbeats 1000000 in
theorem c58 {w : World} {x : Value} {l : List UInt8} {size : Nat} (hs : Sl w x l.length 1 (byteCells l)) (hl : l.length ≤ 140737488355328) (hs1 : 1 ≤ size) (hsz : size ≤ 8) {K : Value → World → Prop} (hK : ∀ w', Ext No w w' → K (rd58 size l) w') :
    CallS Try.prog 58 #[x, .int .i64 (size : Int)] K w := by
  refine s58_call hm ?_
  unfold s58
  refine pur hs.len (pur (bin_lss _ _ _) (condD (fun hlt => ?_) (fun hge => ?_)))
  · have := hK w (Ext.refl _ _)
    unfold rd58 at this
    rw [if_pos (by omega), if_pos (by omega)] at this
    exact this
  · have hx := sl_block hs (by omega)
    refine box fun w1 b1 e1 z1 => storeB b1 (by simp [Value.cells]) rfl fun w2 b2 e2 z2 => ?_
    have e02 : Ext No w w2 := e1.fresh e2 fun b hb => .inr (by rw [show b = w.heap.size from hb]; exact Nat.le_refl _)
    have s2 := hs.no e02
    obtain ⟨x', h1, h2, h3⟩ := sl_take s2 (k := size) (by omega) .i64
    rw [byteCells_take] at h2
    have hlen : (l.take size).length = size := by rw [List.length_take]; omega
    refine pur h1 (c68 fun w3 b3 e3 z3 => ?_)
    have b23 := b2.no e3
    have hone : x'.cells.toList = [x'] := by obtain ⟨A, c, rfl, _⟩ := h2; rfl
    rw [hone] at b3
    have s3 : Sl w3 x' (l.take size).length 1 (byteCells (l.take size)) := by rw [hlen]; exact h2.no e3
    have e03 := e02.trans e3
    refine ⟨rfl, by kernel_rfl, Nat × UInt8, encIC, Ext (fun b => b = w.heap.size ∨ w3.heap.size ≤ b), fun xs => xs.map Prod.snd = (l.take size).reverse, fun _ => True, (l.take size).length,
      fun pre W => Blk W w.heap.size 39 [.int .u64 (valB (pre.map Prod.snd) : Int)] ∧ Ext No w W, ?_, fun _ => rfl, fun A B C h k => h.trans k, ?_, ?_, ⟨b23, e03⟩, ?_, ?_⟩
    · refine back_stops b3 s3 (fun hh => ?_) (fun b hb hh => ?_) (by omega)
      · have := b3.lt; omega
      · have := hx b (h3 b hb); have := e03.size; omega
    · intro W k o o' hk _ _ _
      exact heap_putObj_ext (.inr hk)
    · rintro s W W' row ⟨hb, he⟩ hg hr
      refine ⟨(hg.block _ hb.lt (fun e => ?_)).trans hb, he.fresh (Ext.grown hg fun b hb => hb) fun b hb => .inr ?_⟩
      · have := (hr _ e.symm).1; have := b23.lt; omega
      · have := (hr b hb).1; have := e03.size; omega
    · rintro pre ⟨i, c⟩ W ⟨hb, he⟩ hlt
      rw [hlen] at hlt
      have hv := valB_lt pre.length (pre.map Prod.snd) (by simp)
      have hc := c.toNat_lt
      have hp7 : (256 : Nat) ^ pre.length ≤ 256 ^ 7 := Nat.pow_le_pow_right (by decide) (by omega)
      have h7 : (256 : Nat) ^ 7 = 72057594037927936 := by decide
      refine loadB hb rfl (pur (v := .int .u64 ((valB (pre.map Prod.snd) * 256 : Nat) : Int)) ((bin_shl (by omega) (by decide)).trans ?_) (pur (v := .int .u64 (c.toNat : Int)) (conv64u (a := (c.toNat : Int)) (k := .u8) (by omega) (by omega))
        (pur (v := .int .u64 ((valB (pre.map Prod.snd) * 256 + c.toNat : Nat) : Int)) ((bin_or _ _ _).trans ?_) (storeB hb (by simp) rfl fun W' hb' he' hz' => ?_))))
      · have : ((valB (pre.map Prod.snd) : Nat) : Int) * 2 ^ (8 : Int).toNat = ((valB (pre.map Prod.snd) * 256 : Nat) : Int) := by simp
        rw [this, wu64 (by omega) (by omega)]
      · rw [or64 (by omega) (by omega)]
        have := or_add (n := c.toNat) (y := valB (pre.map Prod.snd)) (s := 8) (by omega)
        rw [Nat.or_comm, this, Nat.add_comm]
      · have hlt3 := b23.lt
        refine ⟨⟨he'.size, fun k o hk ho hcell => ?_⟩, he'.mono (fun b hb _ => .inl hb), ?_, he.fresh he' fun b hb => .inr (by rw [show b = w.heap.size from hb]; exact Nat.le_refl _)⟩
        · refine (he'.blk k (Array.getElem?_eq_some_iff.1 ho).1 (fun hh => ?_)).trans ho
          have : k = w.heap.size := hh
          omega
        · rw [List.map_append, List.map_cons, List.map_nil, valB_snoc]
          exact hb'
    · rintro D xs W hD hS ⟨hb, he⟩ hmk
      refine loadB hb rfl ⟨hmk, ?_⟩
      have := hK (W.putObj D (.deferred none)) (he.fresh (heap_putObj_ext (S := fun b => b = D) rfl) fun b hb => .inr (by rw [show b = D from hb]; have := e03.size; omega))
      unfold rd58 at this
      rw [if_neg (by omega), if_neg (by omega)] at this
      rw [hS, valB_rev]
      exact this
end Go.Proofs.Ytambcnlkdnmekaa
/-! Batches: Decode, with its put-off function that asks for the panic. -/
namespace Go.Proofs.Ytambcnlkdnmekaa
open Go SG Go.RowKit Go.Lib
set_option linter.unusedVariables false
set_option maxRecDepth 4000
set_option linter.unusedSimpArgs false

theorem c40 {w : World} {x : Value} {l : List UInt8} (hs : Sl w x l.length 1 (byteCells l)) (hl : l.length ≤ 140737488355328) {K : Value → World → Prop} (hK : ∀ w', Ext No w w' → K (rd58 8 l) w') : CallS Try.prog 40 #[x] K w := by
  refine s40_call hm ?_
  unfold s40
  refine c58 (size := 8) hs hl (by omega) (by omega) fun w1 e1 => ?_
  exact pur (extract_0 _ _) (pur (extract_1 _ _ _) (hK w1 e1))
def rd32 (l : List UInt8) : Value := .tuple [.int .u32 ((if l.length < 4 then 0 else leN (l.take 4) : Nat) : Int), .int .i64 (if l.length < 4 then 4 else 0)].toArray
theorem c41 {w : World} {x : Value} {l : List UInt8} (hs : Sl w x l.length 1 (byteCells l)) (hl : l.length ≤ 140737488355328) {K : Value → World → Prop} (hK : ∀ w', Ext No w w' → K (rd32 l) w') : CallS Try.prog 41 #[x] K w := by
  refine s41_call hm ?_
  unfold s41
  refine c58 (size := 4) hs hl (by omega) (by omega) fun w1 e1 => ?_
  refine pur (extract_0 _ _) (pur (extract_1 _ _ _) (pur (conv32u (by omega) ?_) (hK w1 e1)))
  split
  · decide
  · have h1 := leN_lt (l.take 4)
    have h2 : (l.take 4).length = 4 := by rw [List.length_take]; omega
    rw [h2] at h1
    have : (256 : Nat) ^ 4 = 4294967296 := by decide
    omega

theorem neq20n (w : World) : (do eqGuard .neq 20 (Operand.tmp 7) (Operand.const Value.nilIface) Value.nilIface Value.nilIface; binOp .neq 20 Value.nilIface Value.nilIface : Sem Value).run Try.prog w = .ok (.bool false) w := by kernel_rfl
theorem neq20e (e : Int) (w : World) : (do eqGuard .neq 20 (Operand.tmp 7) (Operand.const Value.nilIface) (.iface 27 (.int .i64 e)) Value.nilIface; binOp .neq 20 (.iface 27 (.int .i64 e)) Value.nilIface : Sem Value).run Try.prog w = .ok (.bool true) w := by kernel_rfl
theorem assert27 (e : Int) (w : World) : (Instr.typeAssert (.iface 27 (.int .i64 e)) 20 27 true).run Try.prog w = .ok (.tuple #[.int .i64 e, .bool true]) w := by kernel_rfl
theorem c39_ret {t0 t1 t2 : Value} {w : World} {K : World → Prop} (hK : K w) : CallsD Try.prog 39 #[t0, t1, t2] .returning w fun e u' w' => (∃ v, e = .returned v) ∧ u' = .returning ∧ K w' := by
  refine s39_call (u := .returning) hm ?_
  show s39 t0 t1 t2 .nilIface K w
  unfold s39
  exact runS (neq20n w) (condF rfl hK)
theorem c39_pan {w : World} {g2 g3 g4 : Nat} {a b c : Value} (h2 : Blk w g2 39 [a]) (h3 : Blk w g3 22 [b]) (h4 : Blk w g4 27 [c]) (e : Int) {K : World → Prop}
    (hK : ∀ w', Blk w' g2 39 [.int .u64 0] → Blk w' g3 22 [.slice none 0 0] → Blk w' g4 27 [.int .i64 e] → Ext (fun b => b = g2 ∨ b = g3 ∨ b = g4) w w' → K w') :
    CallsD Try.prog 39 #[.pointer (some ⟨g2, 0, none⟩), .pointer (some ⟨g3, 0, none⟩), .pointer (some ⟨g4, 0, none⟩)] (.panicking (errP e)) w fun e u' w' => (∃ v, e = .returned v) ∧ settle u' = .returning ∧ K w' := by
  have h23 : g2 ≠ g3 := fun h => by subst h; unfold Blk at h2 h3; rw [h2] at h3; cases h3
  have h24 : g2 ≠ g4 := fun h => by subst h; unfold Blk at h2 h4; rw [h2] at h4; cases h4
  have h34 : g3 ≠ g4 := fun h => by subst h; unfold Blk at h3 h4; rw [h3] at h4; cases h4
  refine (s39_call (u := .panicking (errP e)) (K := K) hm ?_).mono fun e' u' w' ⟨h1, h2, h3⟩ => ⟨h1, by rw [h2]; rfl, h3⟩
  show s39 _ _ _ (.iface 27 (.int .i64 e)) K w
  unfold s39
  refine runS (neq20e e w) (condT rfl (runS (assert27 e w) (pur (extract_0 _ _) (pur (extract_1 _ _ _) ?_))))
  refine join0 (fun w' => w = w') ?_ fun J hJ => pur (not_b _) (condF rfl (hJ w rfl))
  rintro w' rfl
  refine storeB h2 (by simp) rfl fun w1 b1 e1 _ => ?_
  refine storeB (h3.ext e1 (at1_ne (Ne.symm h23))) (by simp) rfl fun w2 b2 e2 _ => ?_
  refine storeB ((h4.ext e1 (at1_ne (Ne.symm h24))).ext e2 (at1_ne (Ne.symm h34))) (by simp) rfl fun w3 b3 e3 _ => ?_
  exact hK w3 ((b1.ext e2 (at1_ne h23)).ext e3 (at1_ne h24)) (b2.ext e3 (at1_ne h34)) b3 (((e1.mono fun b h _ => .inl h).trans (e2.mono fun b h _ => .inr (.inl h))).trans (e3.mono fun b h _ => .inr (.inr h)))

/-- the three results' cells -/
structure D3 (w w' : World) (n : Int) (v : Value) (e : Int) : Prop where
  b2 : Blk w' w.heap.size 39 [.int .u64 n]
  b3 : Blk w' (w.heap.size + 1) 22 [v]
  b4 : Blk w' (w.heap.size + 2) 27 [.int .i64 e]
  ext : Ext No w w'
namespace D3
variable {w w' w'' : World} {n : Int} {v : Value} {e : Int} {K : World → Prop}
theorem no (h : D3 w w' n v e) (k : Ext No w' w'') : D3 w w'' n v e := ⟨h.b2.no k, h.b3.no k, h.b4.no k, h.ext.trans k⟩
theorem ex {S : Nat → Prop} (h : D3 w w' n v e) (k : Ext S w' w'') (hS : ∀ b, S b → w.heap.size + 3 ≤ b) : D3 w w'' n v e :=
  ⟨h.b2.ext k fun hh => by have := hS _ hh; omega, h.b3.ext k fun hh => by have := hS _ hh; omega, h.b4.ext k fun hh => by have := hS _ hh; omega, h.ext.fresh k fun b hb => .inr (by have := hS b hb; omega)⟩
theorem s2 (h : D3 w w' n v e) (n' : Int) (hK : ∀ w'', D3 w w'' n' v e → Ext (At1 w.heap.size) w' w'' → K w'') : StoreC (.pointer (some ⟨w.heap.size, 0, none⟩)) (.int .u64 n') K w' :=
  storeB h.b2 (by simp) rfl fun w1 b1 e1 _ => hK w1 ⟨b1, h.b3.ext e1 (at1_ne (by omega)), h.b4.ext e1 (at1_ne (by omega)), h.ext.fresh e1 fun b hb => .inr (by rw [show b = w.heap.size from hb]; exact Nat.le_refl _)⟩ e1
theorem s3 (h : D3 w w' n v e) (v' : Value) (hv : v'.oneCell' = true) (hK : ∀ w'', D3 w w'' n v' e → Ext (At1 (w.heap.size + 1)) w' w'' → K w'') : StoreC (.pointer (some ⟨w.heap.size + 1, 0, none⟩)) v' K w' :=
  storeB h.b3 (by simp) hv fun w1 b1 e1 _ => hK w1 ⟨h.b2.ext e1 (at1_ne (by omega)), b1, h.b4.ext e1 (at1_ne (by omega)), h.ext.fresh e1 fun b hb => .inr (by rw [show b = w.heap.size + 1 from hb]; omega)⟩ e1
theorem s4 (h : D3 w w' n v e) (e' : Int) (hK : ∀ w'', D3 w w'' n v e' → Ext (At1 (w.heap.size + 2)) w' w'' → K w'') : StoreC (.pointer (some ⟨w.heap.size + 2, 0, none⟩)) (.int .i64 e') K w' :=
  storeB h.b4 (by simp) rfl fun w1 b1 e1 _ => hK w1 ⟨h.b2.ext e1 (at1_ne (by omega)), h.b3.ext e1 (at1_ne (by omega)), b1, h.ext.fresh e1 fun b hb => .inr (by rw [show b = w.heap.size + 2 from hb]; omega)⟩ e1
end D3
theorem rdRs_succ (k : Nat) (l : List UInt8) : rdRs (k + 1) l = (match rdR l with
  | .error e => .error e
  | .ok (r, l1) => match rdRs k l1 with
    | .error e => .error e
    | .ok (rs, l2) => .ok (r :: rs, l2)) := rfl
def Res (w : World) (l : List UInt8) (w' : World) : Prop := ∃ v, D3 w w' ((dec l).1 : Int) v (dec l).2.2 ∧ Sl w' v (dec l).2.1.length 4 (flat Rec.cells (dec l).2.1) ∧ ∀ b, v.ownBlock = some b → w.heap.size ≤ b ∧ b < w'.heap.size
theorem Res.err {w w' : World} {l : List UInt8} {e : Int} (hd : dec l = (0, [], e)) (h : D3 w w' 0 (.slice none 0 0) e) : Res w l w' := by
  refine ⟨.slice none 0 0, ?_, ?_, fun b hb => by simp [Value.ownBlock] at hb⟩
  · rw [hd]; exact h
  · rw [hd]; exact Sl.nil_ w' 4

set_option maxHeartbeats 4000000 in
theorem c21 {w : World} {x : Value} {l : List UInt8} (hs : Sl w x l.length 1 (byteCells l)) (hl : l.length ≤ 140737488355328) {K : Value → World → Prop}
    (hK : ∀ v w', Ext No w w' → Sl w' v (dec l).2.1.length 4 (flat Rec.cells (dec l).2.1) → (∀ b, v.ownBlock = some b → w.heap.size ≤ b ∧ b < w'.heap.size) → K (.tuple [.int .u64 ((dec l).1 : Int), v, .int .i64 (dec l).2.2].toArray) w') : CallS Try.prog 21 #[x] K w := by
  refine s21_call hm ?_
  unfold s21
  refine box fun w1 b1 e1 z1 => box fun w2 b2 e2 z2 => box fun w3 b3 e3 z3 => ?_
  have d0 : D3 w w3 0 (.slice none 0 0) 0 := by
    refine ⟨(b1.no e2).no e3, ?_, ?_, e1.trans (e2.trans e3)⟩
    · have := b2.no e3; rw [z1] at this; exact this
    · have := b3; rw [z2, z1] at this; exact this
  rw [z2, z1]
  refine ⟨fun w' => Res w l w', fun ch w' => ∃ e n v e0, ch = errP e ∧ dec l = (0, [], e) ∧ D3 w w' n v e0, fun w' hr => ?_, ?_, ?_⟩
  · -- the put-off function finds nothing
    refine c39_ret ?_
    obtain ⟨v, d, hsl, hv⟩ := hr
    exact loadB d.b2 rfl (loadB d.b3 rfl (loadB d.b4 rfl (hK v w' d.ext hsl hv)))
  · -- .. finds an error
    rintro ch w' ⟨e, n, v, e0, rfl, hd, d⟩
    refine c39_pan d.b2 d.b3 d.b4 e fun w'' c2 c3 c4 ee => ?_
    have ext : Ext No w w'' := d.ext.fresh ee fun b hb => .inr (by omega)
    refine loadB c2 rfl (loadB c3 rfl (loadB c4 rfl ?_))
    have := hK (.slice none 0 0) w'' ext (by rw [hd]; exact Sl.nil_ w'' 4) (fun b hb => by simp [Value.ownBlock] at hb)
    rw [hd] at this
    exact this
  · have s3 := hs.no d0.ext
    refine pur s3.len (pur (bin_gtr _ _ _) (condD (fun hbig => ?_) (fun hsm => ?_)))
    · have hd : dec l = (0, [], 2) := by unfold dec; rw [if_pos (by omega)]
      exact d0.s2 0 fun w4 d4 _ => d4.s3 _ rfl fun w5 d5 _ => d5.s4 2 fun w6 d6 _ => Res.err hd d6
    · refine callP_of (c40 s3 hl fun w4 e4 => ?_)
      have d4 := d0.no e4
      refine pur (extract_0 _ _) (pur (extract_1 _ _ _) (d4.s2 _ fun w5 d5 _ => d5.s4 _ fun w6 d6 _ => loadB d6.b4 rfl (pur (bin_neq _ _ _) (condN (fun hne => ?_) (fun h0 => ?_)))))
      · have h8 : l.length < 8 := by
          by_cases h : l.length < 8
          · exact h
          · rw [if_neg h] at hne; exact absurd rfl hne
        have hd : dec l = (0, [], 4) := by unfold dec; rw [if_neg (by omega), if_pos h8]
        have d6' : D3 w w6.drew _ _ _ := d6.no (Ext.drew w6)
        refine draw (fun w' => Blk w' (w.heap.size + 2) 27 _) d6'.b4 ?_
        refine heldC (fun w' hh => hh.cell 0) (d6'.s2 0 fun w7 d7 _ => ⟨d7.b4, d7.s3 _ rfl fun w8 d8 _ => ⟨d8.b4, ?_⟩⟩)
        rw [if_pos h8] at d8 ⊢
        exact d8.s4 4 fun w9 d9 _ => Res.err hd d9
      · have h8 : ¬ l.length < 8 := fun h => by rw [if_pos h] at h0; cases h0
        have hx := sl_block hs (by omega)
        rw [if_neg h8] at d6
        rw [if_neg h8] at d6
        have hq := leN_lt (l.take 8)
        have ht8 : (l.take 8).length = 8 := by rw [List.length_take]; omega
        rw [ht8] at hq
        have hp8 : (256 : Nat) ^ 8 = 18446744073709551616 := by decide
        refine loadB d6.b2 rfl (pur (bin_gtr _ _ _) (condD (fun hgt => ?_) (fun hle => ?_)))
        · have hd : dec l = (0, [], 3) := by unfold dec; rw [if_neg (by omega), if_neg h8, if_pos (by omega)]
          exact d6.s2 0 fun w7 d7 _ => d7.s3 _ rfl fun w8 d8 _ => d8.s4 3 fun w9 d9 _ => Res.err hd d9
        · have s6 := hs.no d6.ext
          obtain ⟨x8, p1, p2, p3⟩ := sl_drop s6 (k := 8) (by omega) .i64
          rw [byteCells_drop, ← List.length_drop] at p2
          refine pur p1 (callP_of (c41 p2 (by rw [List.length_drop]; omega) fun w7 e7 => ?_))
          have d7 := d6.no e7
          refine pur (extract_0 _ _) (pur (extract_1 _ _ _) (d7.s4 _ fun w8 d8 _ => loadB d8.b4 rfl (pur (bin_neq _ _ _) (condN (fun hne => ?_) (fun h0' => ?_)))))
          · have h12 : (l.drop 8).length < 4 := by
              by_cases h : (l.drop 8).length < 4
              · exact h
              · rw [if_neg h] at hne; exact absurd rfl hne
            have hd : dec l = (0, [], 4) := by
              rw [List.length_drop] at h12
              unfold dec; rw [if_neg (by omega), if_neg h8, if_neg (by omega), if_pos (by omega)]
            have d8' : D3 w w8.drew _ _ _ := d8.no (Ext.drew w8)
            refine draw (fun w' => Blk w' (w.heap.size + 2) 27 _) d8'.b4 ?_
            refine heldC (fun w' hh => hh.cell 0) (d8'.s2 0 fun w9 d9 _ => ⟨d9.b4, d9.s3 _ rfl fun w10 d10 _ => ⟨d10.b4, ?_⟩⟩)
            rw [if_pos h12] at d10 ⊢
            exact d10.s4 4 fun w11 d11 _ => Res.err hd d11
          · have h12 : ¬ (l.drop 8).length < 4 := fun h => by rw [if_pos h] at h0'; cases h0'
            rw [if_neg h12] at d8
            rw [if_neg h12]
            have h12' : 12 ≤ l.length := by rw [List.length_drop] at h12; omega
            obtain ⟨cnt, hcnt⟩ : ∃ cnt, leN ((l.drop 8).take 4) = cnt := ⟨_, rfl⟩
            obtain ⟨seq, hseq⟩ : ∃ seq, leN (l.take 8) = seq := ⟨_, rfl⟩
            rw [hcnt]
            rw [hseq] at d8 hle hq
            have hdec : dec l = (if 4096 < cnt ∨ fitsB seq cnt = false then (0, [], 3) else match rdRs cnt (l.drop 12) with | .error e => (0, [], e) | .ok (rs, r) => if 0 < r.length then (0, [], 5) else (seq, rs, 0)) := by
              unfold dec
              rw [if_neg (by omega), if_neg h8, if_neg (by rw [hseq]; omega), if_neg (by omega), hcnt, hseq]
              rfl
            refine pur (bin_gtr _ _ _) ?_
            -- too many, or numbers that do not fit
            refine join1 (fun a w' => w8 = w' ∧ (cnt ≤ 4096 → a = .bool (!fitsB seq cnt))) ?_ fun J2 hJ2 => ?_
            · rintro a w' ⟨rfl, ha⟩
              have hpick : pickV (.bool (decide ((4096 : Int) < (cnt : Int)))) (.bool true) a = some (.bool (decide (4096 < cnt ∨ fitsB seq cnt = false))) := by
                refine (pick_b _ _ _).trans ?_
                by_cases h : 4096 < cnt
                · rw [if_pos (by simp; omega)]; simp [h]
                · rw [if_neg (by simp; omega), ha (by omega)]; simp [h]
              refine pur hpick (condD (fun hb => ?_) (fun hok => ?_))
              · have hd : dec l = (0, [], 3) := by rw [hdec, if_pos hb]
                exact d8.s2 0 fun w9 d9 _ => d9.s3 _ rfl fun w10 d10 _ => d10.s4 3 fun w11 d11 _ => Res.err hd d11
              · rw [if_neg hok] at hdec
                have hc4 : cnt ≤ 4096 := by omega
                have s8 := hs.no d8.ext
                obtain ⟨x12, q1, q2, q3⟩ := sl_drop s8 (k := 12) (by omega) .i64
                rw [byteCells_drop, ← List.length_drop] at q2
                have hx12 : x12.oneCell' = true := sl_one q2
                have hbuild : (Instr.build 74 [(0, x12)].toArray).run Try.prog w8 = .ok (.agg #[x12]) w8 := by
                  obtain ⟨A, c, rfl, _⟩ := q2
                  kernel_rfl
                refine pur q1 (runS hbuild (box fun w9 b9 e9 z9 => ?_))
                have hr9 : Rd w9 w8.heap.size w.heap.size (l.drop 12) := ⟨x12, b9, q2.no e9, fun b hb => hx b (q3 b hb), by rw [List.length_drop]; omega, d8.ext.size⟩
                have d9 := d8.no e9
                have hg6 : w.heap.size + 3 ≤ w8.heap.size := d8.b4.lt
                -- behind the loop
                refine join0 (fun w' => ∃ rs r v, rdRs cnt (l.drop 12) = .ok (rs, r) ∧ D3 w w' (seq : Int) v 0 ∧ Sl w' v rs.length 4 (flat Rec.cells rs) ∧ (∀ b, v.ownBlock = some b → w.heap.size + 3 ≤ b ∧ b < w'.heap.size) ∧ Rd w' w8.heap.size w.heap.size r) ?_ fun J3 hJ3 => ?_
                · rintro w10 ⟨rs, r, v, hrs, d10, sl10, ov10, hr10⟩
                  rw [hrs] at hdec
                  simp only at hdec
                  obtain ⟨xr, rb, rsl, _⟩ := hr10
                  refine pur (nil_ptr _) (pur (field_ptr _ _ _) (loadB rb rfl (pur rsl.len (pur (bin_gtr _ _ _) (condD (fun hgt => ?_) (fun hz => ?_))))))
                  · rw [if_pos (by omega)] at hdec
                    exact d10.s2 0 fun w11 d11 _ => d11.s3 _ rfl fun w12 d12 _ => d12.s4 5 fun w13 d13 _ => Res.err hdec d13
                  · rw [if_neg (by omega)] at hdec
                    have d10' := d10.no (Ext.drew w10)
                    refine draw (fun w' => Blk w' w.heap.size 39 [.int .u64 (seq : Int)] ∧ Blk w' (w.heap.size + 1) 22 [v]) ⟨d10'.b2, d10'.b3⟩ ?_
                    refine heldC (v := .int .u64 (seq : Int)) (fun w' hh => hh.1.cell 0) (heldC (v := v) (fun w' hh => hh.2.cell 0) ?_)
                    refine d10'.s2 _ fun w11 d11 e11 => ⟨⟨d11.b2, d11.b3⟩, d11.s3 v (sl_one sl10) fun w12 d12 e12 => d12.s4 0 fun w13 d13 e13 => ?_⟩
                    have hne : ∀ g, g < w.heap.size + 3 → ∀ b, v.ownBlock = some b → ¬ At1 g b := fun g hg b hb => at1_ne (by have := (ov10 b hb).1; omega)
                    have sl13 := (((sl10.no (Ext.drew w10)).ext e11 (hne _ (by omega))).ext e12 (hne _ (by omega))).ext e13 (hne _ (by omega))
                    refine ⟨v, ?_, ?_, fun b hb => ?_⟩
                    · rw [hdec]; exact d13
                    · rw [hdec]; exact sl13
                    · have := ov10 b hb
                      have := e11.size; have := e12.size; have := e13.size
                      have hsz : w10.drew.heap.size = w10.heap.size := rfl
                      omega
                · refine loop1 (σ := Nat × List Rec × List UInt8 × Value) (fun s a w' => a = .int .u32 (s.1 : Int) ∧ s.1 ≤ cnt ∧ s.2.1.length = s.1 ∧ D3 w w' (seq : Int) s.2.2.2 0 ∧ w'.ownsRow (w.heap.size + 3) 31 4 s.2.2.2 s.2.1.length (flat Rec.cells s.2.1) ∧ Rd w' w8.heap.size w.heap.size s.2.2.1 ∧
                      rdRs cnt (l.drop 12) = (match rdRs (cnt - s.1) s.2.2.1 with | .error e => .error e | .ok (rs, r) => .ok (s.2.1 ++ rs, r)))
                    (fun s => cnt - s.1) (0, [], l.drop 12, .slice none 0 0) ⟨rfl, by simp, rfl, d9, World.ownsRow_nil _ _ _ _, hr9, by simp only [Nat.sub_zero, List.nil_append]; cases rdRs cnt (l.drop 12) <;> rfl⟩ ?_
                  rintro ⟨i, acc, rest, v⟩ a w10 ⟨rfl, hi, hal, d10, ho10, hr10, hrel⟩ L hL
                  simp only at hi hal d10 ho10 hr10 hrel hL
                  refine pur (bin_lss _ _ _) (condD (fun hlt => ?_) (fun hge => ?_))
                  · obtain ⟨k, hk⟩ : ∃ k, cnt - i = k + 1 := ⟨cnt - i - 1, by omega⟩
                    rw [hk, rdRs_succ] at hrel
                    have d10' := d10.no (Ext.drew w10)
                    refine draw (fun w' => Blk w' (w.heap.size + 1) 22 [v]) d10'.b3 ?_
                    refine heldC (v := v) (fun w' hh => hh.cell 0) ?_
                    refine c42 (hr10.no (Ext.drew w10)) (fun e w' he ee => ?_) fun r l' w11 hr h11 e11 => ?_
                    · rw [he] at hrel
                      simp only at hrel
                      rw [hrel] at hdec
                      exact ⟨e, _, _, _, rfl, hdec, d10'.ex ee fun b hb => by rw [show b = w8.heap.size from hb]; exact hg6⟩
                    · rw [hr] at hrel
                      simp only at hrel
                      have d11 := d10'.ex e11 fun b hb => by rw [show b = w8.heap.size from hb]; exact hg6
                      have hog : ∀ g, v.ownBlock = some g → ¬ At1 w8.heap.size g := fun g hg hh => by
                        obtain ⟨xr, rb, _⟩ := hr10
                        exact own_ne ho10 rb (by decide) (by rw [hg, show g = w8.heap.size from hh])
                      have ho11 : w11.ownsRow (w.heap.size + 3) 31 4 v acc.length (flat Rec.cells acc) := owns_ext (show w10.drew.ownsRow (w.heap.size + 3) 31 4 v acc.length (flat Rec.cells acc) from ho10) e11 hog
                      refine ⟨d11.b3, build1 T22 rfl fun w12 b12 e12 z12 => ⟨d11.b3.no e12, ?_⟩⟩
                      have ho12 := owns_ext ho11 e12 fun _ _ hh => hh
                      have d12 := d11.no e12
                      refine append_sl T22 22 ho12 (b12.sl (n := 1) (c := 1) (size := 4) rfl (Nat.le_refl _)) (Rec.one r) (by omega) (by omega) (by have := d12.b4.lt; omega) fun v' w13 ho13 hg13 hat => ?_
                      have e13 : Ext (fun b => v.ownBlock = some b) w12 w13 := Ext.grown hg13 fun b hb => hb
                      have d13 := d12.ex e13 fun b hb => (ho12.lt b hb).1
                      refine d13.s3 v' (by rcases ho13.2 with ⟨rfl, _⟩ | ⟨_, _, _, rfl, _⟩ <;> rfl) fun w14 d14 e14 => ?_
                      have ho14 := owns_ext ho13 e14 fun g hg hh => by have := (ho13.lt g hg).1; rw [show g = w.heap.size + 1 from hh] at this; omega
                      refine pur ((bin_add _ _ _).trans (by rw [wu32 (by omega) (by omega)])) ?_
                      refine hL (i + 1, acc ++ [r], l', v') _ _ ⟨by simp, by simp only; omega, by simp [hal], d14, ?_, ?_, ?_⟩ (by simp only; omega)
                      · simp only
                        rw [flat_append, flat_one]
                        simpa [Value.cells, Rec.agg, Rec.cells] using ho14
                      · refine ((h11.no e12).ext e13 (fun hh => ?_) (fun b hb hh => ?_)).ext e14 (at1_ne (by omega)) (fun b hb => at1_ne (by omega))
                        · exact hog _ hh rfl
                        · have := (ho12.lt b hh).1; omega
                      · simp only
                        rw [hrel, show cnt - (i + 1) = k by omega]
                        cases rdRs k l' with
                        | error e => rfl
                        | ok p => obtain ⟨rs, r'⟩ := p; simp
                  · have hci : cnt - i = 0 := by omega
                    rw [hci] at hrel
                    simp only [rdRs, List.append_nil] at hrel
                    exact hJ3 _ ⟨acc, rest, v, hrel, d10, Sl.own ho10, fun b hb => ho10.lt b hb, hr10⟩
            · rw [ifB_eq]
              by_cases hc : cnt ≤ 4096
              · rw [if_pos (by simp; omega)]
                refine loadB d8.b2 rfl (pur (conv64 (by omega) (by omega)) (callP_of (c32 seq cnt (by omega) (by omega) (pur (not_b _) (hJ2 _ _ ⟨rfl, fun _ => rfl⟩)))))
              · rw [if_neg (by simp; omega)]
                exact hJ2 _ _ ⟨rfl, fun h => absurd h hc⟩
end Go.Proofs.Ytambcnlkdnmekaa
/-! Batches: the reference's Check, Plain, Fixed, Sizes, Encode. -/
namespace Go.Proofs.Ytambcnlkdnmekaa
open Go SG Go.RowKit Go.Lib
set_option linter.unusedVariables false
set_option maxRecDepth 4000
set_option linter.unusedSimpArgs false

def mostI (k : Int) : Int := if k = 1 then 16384 else if k = 2 then 1024 else 9223372036854775807
theorem c38 {w : World} {k : Int} {K : Value → World → Prop} (hK : K (.int .i64 (mostI k)) w) : CallS Try.prog 38 #[.int .i64 k] K w := by
  refine s38_call hm ?_
  unfold s38
  unfold mostI at hK
  refine pur (bin_eql _ _ _) (condD (fun h1 => ?_) (fun h1 => ?_))
  · rw [if_pos h1] at hK; exact hK
  · rw [if_neg h1] at hK
    refine pur (bin_eql _ _ _) (condD (fun h2 => ?_) (fun h2 => ?_))
    · rw [if_pos h2] at hK; exact hK
    · rw [if_neg h2] at hK; exact hK
set_option maxHeartbeats 400000 in
theorem c20 (r : Rec) (hr : r.Ok) {K : Value → World → Prop} {w : World} (hK : ∀ w', Ext No w w' → K (.int .i64 (chk r)) w') : CallS Try.prog 20 #[r.agg] K w := by
  have hk1 := hr.key
  have hk2 := hr.val
  refine s20_call hm ?_
  unfold s20
  refine box fun w1 b1 e1 z1 => ?_
  have b : Blk w1 w.heap.size 31 r.cells := b1
  refine pur (field_ptr _ _ _) (loadB b (v := .int .i64 r.kind) rfl (pur (bin_lss _ _ _) ?_))
  refine join1 (fun a w' => w1 = w' ∧ (0 ≤ r.kind → a = .bool (decide (2 < r.kind)))) ?_ fun J0 hJ0 => ?_
  · rintro a w' ⟨rfl, ha⟩
    refine pur (v := .bool (decide (r.kind < 0 ∨ 2 < r.kind))) ((pick_b _ _ _).trans ?_) (condD (fun hb => ?_) (fun hb => ?_))
    · by_cases h : r.kind < 0
      · rw [if_pos (by simpa using h)]; simp [h]
      · rw [if_neg (by simpa using h), ha (by omega)]; simp [h]
    · have := hK w1 e1
      rw [show chk r = 1 by unfold chk; rw [if_neg (by omega), if_neg (by omega), if_neg (by omega)]] at this
      exact this
    · have hchk : chk r = if (1024 : Int) < r.key.size ∨ mostI r.kind < r.val.size then 2 else 0 := by
        by_cases h0 : r.kind = 0
        · have hm : mostI r.kind = 9223372036854775807 := by unfold mostI; rw [if_neg (by omega), if_neg (by omega)]
          unfold chk
          rw [if_pos h0, hm]
          split <;> split <;> first | rfl | omega
        · by_cases h1 : r.kind = 1
          · have hm : mostI r.kind = 16384 := by unfold mostI; rw [if_pos h1]
            unfold chk
            rw [if_neg h0, if_pos h1, hm]
            split <;> split <;> first | rfl | omega
          · have h2 : r.kind = 2 := by omega
            have hm : mostI r.kind = 1024 := by unfold mostI; rw [if_neg h1, if_pos h2]
            unfold chk
            rw [if_neg h0, if_neg h1, if_pos h2, hm]
            split <;> split <;> first | rfl | omega
      refine join1 (fun a w' => a = .bool (decide ((1024 : Int) < r.key.size ∨ mostI r.kind < r.val.size)) ∧ Ext No w w') ?_ fun J1 hJ1 => ?_
      · rintro _ w' ⟨rfl, e⟩
        refine condD (fun hb => ?_) (fun hb => ?_)
        · have := hK w' e
          rw [hchk, if_pos hb] at this; exact this
        · have := hK w' e
          rw [hchk, if_neg hb] at this; exact this
      · refine draw (fun w' => Blk w' w.heap.size 31 r.cells) b ?_
        have e1d := e1.trans (Ext.drew w1)
        refine pur (field_ptr _ _ _) (heldC (v := .string r.key) (fun w' hh => hh.cell 2) (pur (len_str _) (pur (bin_gtr _ _ _) (condD (fun hk => ?_) (fun hk => ?_)))))
        · exact pur (pick_b _ _ _) (hJ1 _ _ ⟨by simp [hk], e1d⟩)
        · refine pur (field_ptr _ _ _) (pur (field_ptr _ _ _) (heldC (v := .string r.val) (fun w' hh => hh.cell 3) (pur (len_str _) (heldC (v := .int .i64 r.kind) (fun w' hh => hh.cell 1) ?_))))
          refine c38 ⟨b, pur (bin_gtr _ _ _) (pur (pick_b _ _ _) (hJ1 _ _ ⟨by simp [hk], e1d⟩))⟩
  · rw [ifB_eq]
    by_cases h : r.kind < 0
    · rw [if_neg (by simpa using h)]
      exact hJ0 _ _ ⟨rfl, fun h' => absurd h (by omega)⟩
    · rw [if_pos (by simpa using h)]
      exact pur (field_ptr _ _ _) (loadB b (v := .int .i64 r.kind) rfl (pur (bin_gtr _ _ _) (hJ0 _ _ ⟨rfl, fun _ => rfl⟩)))

theorem c35 (seq n : Nat) (hs : seq < 18446744073709551616) (hn : n ≤ 140737488355328) {K : Value → World → Prop} {w : World} (hK : K (.bool (fitsB seq n)) w) : CallS Try.prog 35 #[.int .u64 (seq : Int), .int .i64 (n : Int)] K w := by
  refine s35_call hm ?_
  unfold s35
  refine pur (bin_leq _ _ _) ?_
  by_cases h1 : seq ≤ 72057594037927935
  · have hd1 : decide ((seq : Int) ≤ 72057594037927935) = true := by simp; omega
    rw [hd1]
    refine join1 (fun a w' => w = w' ∧ a = .bool (decide (n = 0))) ?_ fun J hJ => ?_
    · rintro a w' ⟨rfl, rfl⟩
      refine join1 (fun a w' => w = w' ∧ (n ≠ 0 → a = .bool (decide (n - 1 ≤ 72057594037927935 - seq)))) ?_ fun J hJ => ?_
      · rintro a w' ⟨rfl, ha⟩
        refine join1 (fun a w' => w = w' ∧ a = .bool (fitsB seq n)) ?_ fun J hJ => ?_
        · rintro a w' ⟨rfl, rfl⟩
          exact pur (pick_b _ _ _) hK
        · refine ifT _ _ (pur (v := .bool (fitsB seq n)) ((pick_b _ _ _).trans ?_) (hJ _ _ ⟨rfl, rfl⟩))
          by_cases h0 : n = 0
          · rw [if_pos (by simpa using h0)]; simp [fitsB, h0, h1]
          · rw [if_neg (by simpa using h0), ha h0]; simp [fitsB, h0, h1]
      · rw [ifB_eq]
        by_cases h0 : n = 0
        · rw [if_neg (by simp [h0])]
          exact hJ _ _ ⟨rfl, fun h => absurd h0 h⟩
        · rw [if_pos (by simp [h0])]
          refine pur (sub64 (c := ((n - 1 : Nat) : Int)) (by omega) (by omega) (by omega)) (pur (conv64u (by omega) (by omega)) (pur ((bin_sub _ _ _).trans (by rw [wu64 (by omega) (by omega)])) (pur (bin_leq _ _ _) (hJ _ _ ⟨rfl, fun _ => ?_⟩))))
          congr 1
          rw [Bool.eq_iff_iff]; simp; omega
    · refine ifT _ _ (pur (bin_eql _ _ _) (hJ _ _ ⟨rfl, ?_⟩))
      congr 1
      rw [Bool.eq_iff_iff]; simp
  · have hd1 : decide ((seq : Int) ≤ 72057594037927935) = false := by simp; omega
    rw [hd1]
    refine join1 (fun a w' => w = w' ∧ a = undef) ?_ fun J hJ => ?_
    · rintro a w' ⟨rfl, rfl⟩
      refine join1 (fun a w' => w = w') ?_ fun J hJ => ?_
      · rintro a w' rfl
        refine join1 (fun a w' => w = w') ?_ fun J hJ => ?_
        · rintro a w' rfl
          refine pur (pick_b _ _ _) ?_
          have : fitsB seq n = false := by simp [fitsB, h1]
          rw [this] at hK; exact hK
        · rw [ifB_eq, if_neg (by simp)]
          exact hJ _ _ rfl
      · rw [ifB_undef]
        exact hJ _ _ rfl
    · rw [ifB_eq, if_neg (by simp)]
      exact hJ _ _ ⟨rfl, rfl⟩

theorem c36 {w : World} {x : Value} {rs : List Rec} (hs : Sl w x rs.length 4 (flat Rec.cells rs)) (hg : Good rs) (hl : rs.length ≤ 4096) {K : Value → World → Prop} (hK : ∀ w', Ext No w w' → K (.int .i64 (Sizes rs)) w') : CallS Try.prog 36 #[x] K w := by
  refine s36_call hm ?_
  unfold s36
  refine join1 (fun a w' => a = .int .i64 (Sizes rs) ∧ Ext No w w') (fun a w' ⟨h, e⟩ => by rw [h]; exact hK w' e) fun J hJ => ?_
  refine loop2 (σ := Nat) (fun i a b w' => a = .int .i64 (Sizes (rs.take i)) ∧ b = .int .i64 (i : Int) ∧ i ≤ rs.length ∧ Ext No w w') (fun i => rs.length - i) 0 ⟨rfl, rfl, by omega, Ext.refl _ _⟩ ?_
  rintro i _ _ w1 ⟨rfl, rfl, hi, e1⟩ L hL
  refine pur hs.len (pur (bin_lss _ _ _) (condD (fun hlt => ?_) (fun hge => ?_)))
  · have hlt' : i < rs.length := by omega
    obtain ⟨r, hr⟩ : ∃ r, rs[i]? = some r := ⟨rs[i], List.getElem?_eq_getElem hlt'⟩
    obtain ⟨hrok, hrc⟩ := hg r (List.mem_of_getElem? hr)
    obtain ⟨ad, ha1, ha2, ha3⟩ := recs_at (hs.no e1) hr
    refine pur ha1 (loadA ha2 rfl (c11 r hrok fun w2 e2 => ?_))
    have hgt : Good (rs.take i) := fun r hr => hg r (List.mem_of_mem_take hr)
    have h1 := sumEnc_le hgt
    have h2 := sumEnc_nonneg (rs.take i)
    have h3 := encRec_len hrok hrc
    have h4 : (rs.take i).length = i := by rw [List.length_take]; omega
    have hnext : rs.take (i + 1) = rs.take i ++ [r] := by rw [List.take_add_one, hr]; rfl
    refine pur (add64 (c := Sizes (rs.take (i + 1))) ?_ ?_ ?_) (pur (add64 (c := ((i + 1 : Nat) : Int)) (by omega) (by omega) (by omega)) (hL (i + 1) _ _ _ ⟨rfl, rfl, by omega, e1.trans e2⟩ (by omega)))
    · rw [hnext]; simp only [Sizes, sumEnc_append, sumEnc_one]; omega
    · rw [hnext]; simp only [Sizes, sumEnc_append, sumEnc_one]; omega
    · rw [hnext]; simp only [Sizes, sumEnc_append, sumEnc_one]; omega
  · have : rs.take i = rs := List.take_of_length_le (by omega)
    rw [this]
    exact hJ _ _ ⟨rfl, e1⟩

set_option maxHeartbeats 400000 in
theorem c37 (n many : Nat) (hm' : many ≤ 8) {K : Value → World → Prop} {w : World}
    (hK : ∀ v w', w'.ownsRow w.heap.size 5 1 v many (byteCells (fixedL n many)) → Ext No w w' → K v w') : CallS Try.prog 37 #[.int .u64 (n : Int), .int .i64 (many : Int)] K w := by
  refine s37_call hm ?_
  unfold s37
  refine build0 T40 fun w1 b1 e1 z1 => ?_
  have ho1 : w1.ownsRow w.heap.size 5 1 (.slice (some ⟨w.heap.size, 0, none⟩) 0 0) 0 (byteCells []) := b1.owns rfl (Nat.le_refl _) (by omega)
  refine join1 (fun a w' => w'.ownsRow w.heap.size 5 1 a many (byteCells (fixedL n many)) ∧ Ext No w w') (fun a w' ⟨h, e⟩ => hK a w' h e) fun J hJ => ?_
  refine loop2 (σ := Nat) (fun i a b w' => w'.ownsRow w.heap.size 5 1 a i (byteCells ((fixedL n many).take i)) ∧ b = .int .i64 (i : Int) ∧ i ≤ many ∧ Ext No w w') (fun i => many - i) 0 ⟨by simpa [byteCells] using ho1, rfl, by omega, e1⟩ ?_
  rintro i a _ w2 ⟨ho, rfl, hi, e2⟩ L hL
  refine pur (bin_lss _ _ _) (condD (fun hlt => ?_) (fun hge => ?_))
  · have hlt' : i < many := by omega
    have hlen : ((fixedL n many).take i).length = i := by rw [List.length_take, fixedL_len]; omega
    refine pur ((bin_mul _ _ _).trans (by rw [wi64 (by omega) (by omega)])) (pur (conv64u (by omega) (by omega)) (pur ((bin_shr (by omega) (by simp only [IntKind.bits]; omega)).trans (by rw [shr8 n i (by omega)])) (pur conv8u ?_)))
    refine append_byte (b := UInt8.ofNat (n / 256 ^ i)) ho hlen.symm e2.size (by omega) (by simp) fun v' w3 ho3 e3 => ?_
    refine pur (add64 (c := ((i + 1 : Nat) : Int)) (by omega) (by omega) (by omega)) ?_
    refine hL (i + 1) _ _ _ ⟨?_, rfl, by omega, ext_fr' e2 (ext_own ho e3) (Nat.le_refl _)⟩ (by omega)
    have hget : (fixedL n many)[i]? = some (UInt8.ofNat (n / 256 ^ i)) := by simp [fixedL, hlt']
    rw [List.take_add_one, hget]
    exact ho3
  · have hmi : i = many := by omega
    subst hmi
    have : (fixedL n i).take i = fixedL n i := List.take_of_length_le (by rw [fixedL_len]; omega)
    rw [this] at ho
    exact hJ _ _ ⟨ho, e2⟩

theorem c43 (r : Rec) {K : Value → World → Prop} {w : World} (hK : ∀ w', Ext No w w' → K (plain r).agg w') : CallS Try.prog 43 #[r.agg] K w := by
  refine s43_call hm ?_
  unfold s43
  refine box fun w1 b1 e1 z1 => ?_
  have b : Blk w1 w.heap.size 31 r.cells := b1
  refine box fun w2 b2 e2 z2 => ?_
  have b' := b.no e2
  refine join0 (fun w' => Blk w' w.heap.size 31 (plain r).cells ∧ Ext No w w' ∧ ∃ cs, Blk w' w1.heap.size 31 cs ∧ cs.length = 4) ?_ fun J hJ => ?_
  · rintro w3 ⟨b3, e3, cs, c3, hl⟩
    refine loadA (At.of_blk b3) rfl ?_
    refine storeAll c3 rfl hl (Rec.one _) fun w4 b4 e4 _ => ?_
    refine loadA (At.of_blk b4) rfl ?_
    exact hK w4 (e3.fresh e4 fun b hb => .inr (by rw [show b = w1.heap.size from hb]; exact e1.size))
  · refine pur (field_ptr _ _ _) (loadB b' (v := .int .i64 r.kind) rfl (pur (bin_eql _ _ _) (condD (fun h0 => ?_) (fun h0 => ?_))))
    · refine pur (field_ptr _ _ _) (storeB b' (by simp [Rec.cells]) rfl fun w3 b3 e3 _ => ?_)
      refine hJ _ ⟨?_, (e1.trans e2).fresh e3 fun b hb => .inr (by rw [show b = w.heap.size from hb]; exact Nat.le_refl _), _, b2.ext e3 (fun hh => ?_), rfl⟩
      · have : (plain r).cells = r.cells.set 3 (.string ⟨#[]⟩) := by simp [plain, h0, Rec.cells]
        rw [this]; exact b3
      · have : w1.heap.size = w.heap.size := hh
        omega
    · refine hJ _ ⟨?_, e1.trans e2, _, b2, rfl⟩
      rw [show plain r = r by simp [plain, h0]]; exact b'

theorem c22 {w : World} {x : Value} {rs : List Rec} (hs : Sl w x rs.length 4 (flat Rec.cells rs)) (hrl : rs.length ≤ 2932031007402) {K : Value → World → Prop} (hK : ∀ v w', Ext No w w' → Sl w' v (rs.map plain).length 4 (flat Rec.cells (rs.map plain)) → K v w') : CallS Try.prog 22 #[x] K w := by
  refine s22_call hm ?_
  unfold s22
  refine build0 T22 fun w1 b1 e1 z1 => ?_
  have ho1 : w1.ownsRow w.heap.size 31 4 (.slice (some ⟨w.heap.size, 0, none⟩) 0 0) 0 [] := b1.owns rfl (Nat.le_refl _) (by omega)
  refine join1 (fun a w' => w'.ownsRow w.heap.size 31 4 a rs.length (flat Rec.cells (rs.map plain)) ∧ Ext No w w') (fun a w' ⟨h, e⟩ => hK a w' e (by rw [List.length_map]; exact Sl.own h)) fun J hJ => ?_
  refine loop2 (σ := Nat) (fun i a b w' => w'.ownsRow w.heap.size 31 4 a i (flat Rec.cells ((rs.take i).map plain)) ∧ b = .int .i64 (i : Int) ∧ i ≤ rs.length ∧ Ext No w w') (fun i => rs.length - i) 0 ⟨by simpa [flat] using ho1, rfl, by omega, e1⟩ ?_
  rintro i a _ w2 ⟨ho, rfl, hi, e2⟩ L hL
  refine pur hs.len (pur (bin_lss _ _ _) (condD (fun hlt => ?_) (fun hge => ?_)))
  · have hlt' : i < rs.length := by omega
    obtain ⟨r, hr⟩ : ∃ r, rs[i]? = some r := ⟨rs[i], List.getElem?_eq_getElem hlt'⟩
    obtain ⟨ad, ha1, ha2, ha3⟩ := recs_at (hs.no e2) hr
    refine pur ha1 (loadA ha2 rfl (c43 r fun w3 e3 => ?_))
    refine build1 T22 rfl fun w4 b4 e4 z4 => ?_
    have ho4 := owns_ext ho (e3.trans e4) fun _ _ hh => hh
    have e24 := e2.trans (e3.trans e4)
    refine append_sl T22 22 ho4 (b4.sl (n := 1) (c := 1) (size := 4) rfl (Nat.le_refl _)) (Rec.one _) (by omega) (by omega) e24.size fun v' w5 ho5 hg5 hat => ?_
    refine pur (add64 (c := ((i + 1 : Nat) : Int)) (by omega) (by omega) (by omega)) ?_
    refine hL (i + 1) _ _ _ ⟨?_, rfl, by omega, ext_fr' e24 (ext_grown ho4 hg5) (Nat.le_refl _)⟩ (by omega)
    have hnext : rs.take (i + 1) = rs.take i ++ [r] := by rw [List.take_add_one, hr]; rfl
    rw [hnext, List.map_append, flat_append, List.map_cons, List.map_nil, flat_one]
    simpa [Value.cells, Rec.agg, Rec.cells] using ho5
  · have hil : i = rs.length := by omega
    subst hil
    rw [List.take_length] at ho
    exact hJ _ _ ⟨ho, e2⟩
end Go.Proofs.Ytambcnlkdnmekaa
/-! Batches: the reference's batch. -/
namespace Go.Proofs.Ytambcnlkdnmekaa
open Go SG Go.RowKit Go.Lib
set_option linter.unusedVariables false
set_option maxRecDepth 4000
set_option linter.unusedSimpArgs false

/-- the reference's batch lies at g -/
def RefF (w : World) (g : Nat) (recs : List Rec) (marks : List Nat) (F : Nat → Prop) : Prop :=
  ∃ lv mv, Blk w g 51 [lv, mv] ∧ Sl w lv recs.length 4 (flat Rec.cells recs) ∧ Sl w mv marks.length 1 (ints marks) ∧ lv.ownBlock ≠ some g ∧ mv.ownBlock ≠ some g ∧
    (∀ b, lv.ownBlock = some b → F b) ∧ (∀ b, mv.ownBlock = some b → F b) ∧ F g ∧ ∀ b, F b → b < w.heap.size
namespace RefF
variable {w w' : World} {g : Nat} {recs rs : List Rec} {marks : List Nat} {F S : Nat → Prop} {K : Value → World → Prop}
theorem lt (h : RefF w g recs marks F) {b : Nat} (hb : F b) : b < w.heap.size := by obtain ⟨lv, mv, _, _, _, _, _, _, _, _, h⟩ := h; exact h b hb
theorem ext (h : RefF w g recs marks F) (e : Ext S w w') (hn : ∀ b, F b → ¬ S b) : RefF w' g recs marks F := by
  obtain ⟨lv, mv, h1, h2, h3, h4, h5, h6, h7, h8, h9⟩ := h
  exact ⟨lv, mv, h1.ext e (hn g h8), h2.ext e fun b hb => hn b (h6 b hb), h3.ext e fun b hb => hn b (h7 b hb), h4, h5, h6, h7, h8, fun b hb => Nat.lt_of_lt_of_le (h9 b hb) e.size⟩
theorem no (h : RefF w g recs marks F) (e : Ext No w w') : RefF w' g recs marks F := h.ext e fun _ _ hh => hh
theorem build51 (w : World) : (Instr.build 51 [].toArray).run Try.prog w = .ok (.agg #[.slice none 0 0, .slice none 0 0]) w := by kernel_rfl
theorem new (hK : ∀ w', RefF w' w.heap.size [] [] (At1 w.heap.size) → Ext No w w' → w'.heap.size = w.heap.size + 1 → K (.pointer (some ⟨w.heap.size, 0, none⟩)) w') :
    RunS Try.prog (Instr.build 51 [].toArray) (fun t w => BoxS 51 t K w) w :=
  runS (build51 w) (box fun w1 b1 e1 z1 => hK w1 ⟨.slice none 0 0, .slice none 0 0, b1, Sl.nil_ _ _, Sl.nil_ _ _, by simp [Value.ownBlock], by simp [Value.ownBlock], by simp [Value.ownBlock], by simp [Value.ownBlock], rfl,
    fun b hb => by rw [show b = w.heap.size from hb]; omega⟩ e1 z1)

set_option maxHeartbeats 1000000 in
/-- Add -/
theorem add (h : RefF w g recs marks F) (hg : Good recs) (hl : recs.length ≤ 4096) (hpl : ∀ r ∈ recs, plain r = r) {x : Value} (hx : Sl w x rs.length 4 (flat Rec.cells rs)) (hrs : AllOk rs) (hrl : rs.length ≤ 4096) (hxg : x.ownBlock ≠ some g)
    (hK : ∀ w' F', RefF w' g (addAll recs rs).2 marks F' → Ext (At1 g) w w' → (∀ b, F' b → F b ∨ w.heap.size ≤ b) → K (.int .i64 (addAll recs rs).1) w') :
    CallS Try.prog 47 #[.pointer (some ⟨g, 0, none⟩), x] K w := by
  have h0 := h
  obtain ⟨lv, mv, hb, hs, hms, hne1, hne2, hF1, hF2, hFg, hFl⟩ := h
  have hsame : ∀ {w'}, Ext No w w' → (addAll recs rs).2 = recs → K (.int .i64 (addAll recs rs).1) w' := fun e h2 =>
    hK _ F (by rw [h2]; exact h0.no e) e.no (fun b hb => .inl hb)
  refine s47_call hm ?_
  unfold s47
  refine join0 (fun w' => Ext No w w' ∧ firstErr rs = 0) ?_ fun J0 hJ0 => ?_
  · rintro w1 ⟨e1, hfe⟩
    have hgr : Good rs := fun r hr => ⟨hrs r hr, firstErr_zero rs hfe r hr⟩
    refine build0 T22 fun w2 b2 e2 z2 => ?_
    have e02 := e1.trans e2
    refine pur (nil_ptr _) (pur (field_ptr _ _ _) (loadB (hb.no e02) (v := lv) rfl ?_))
    have hone : ∀ (l : List Rec), ∀ u ∈ flat Rec.cells l, u.oneCell' = true := fun l u hu => by
      simp only [flat, List.mem_flatMap] at hu
      obtain ⟨r, _, hu⟩ := hu
      exact r.one u hu
    refine append_sl T22 22 (base := w1.heap.size) (b2.owns rfl (Nat.le_refl _) (by omega)) (hs.no e02) (hone _) (by omega) (by omega) e2.size fun v3 w3 ho3 hg3 _ => ?_
    have e23 : Ext (Fr w1.heap.size) w2 w3 := ext_grown (b2.owns (n := 0) (size := 4) rfl (Nat.le_refl _) (by omega)) hg3
    have e03 : Ext No w w3 := ext_fr' e02 e23 e1.size
    refine append_sl T22 22 ho3 (hx.no e03) (hone _) (by omega) (by omega) (by have := e2.size; have := e23.size; omega) fun v4 w4 ho4 hg4 _ => ?_
    have e04 : Ext No w w4 := ext_fr' e03 (ext_grown ho3 hg4) e1.size
    rw [List.nil_append, ← flat_append, Nat.zero_add] at ho4
    refine pur (Sl.own ho4).len (pur (bin_gtr _ _ _) ?_)
    have hall : (recs ++ rs).length = recs.length + rs.length := List.length_append
    have hgall : Good (recs ++ rs) := fun r hr => by
      rcases List.mem_append.1 hr with hr | hr
      · exact hg r hr
      · exact hgr r hr
    have hbig : 4096 < recs.length + rs.length ∨ 4194304 < Sizes recs + sumEnc rs → ∀ w', Ext No w w' → K (.int .i64 2) w' := fun hh w' e => by
      have h2 : addAll recs rs = (2, recs) := by unfold addAll; rw [if_neg (by simp [hfe]), if_pos hh]
      have := hsame e (by rw [h2])
      rw [h2] at this; exact this
    have hSz : Sizes (recs ++ rs) = Sizes recs + sumEnc rs := by simp only [Sizes, sumEnc_append]; omega
    refine join1 (fun t w' => Ext No w4 w' ∧ ((4096 < recs.length + rs.length) ∨ (recs.length + rs.length ≤ 4096 ∧ t = .bool (decide (4194304 < Sizes recs + sumEnc rs))))) ?_ fun J1 hJ1 => ?_
    · rintro t w5 ⟨e5, ht⟩
      have e05 := e04.trans e5
      by_cases hn : 4096 < recs.length + rs.length
      · exact pur (v := .bool true) ((pick_b _ _ _).trans (by rw [if_pos (by simp; omega)])) (condT rfl (hbig (.inl hn) _ e05))
      · obtain ⟨_, rfl⟩ := ht.resolve_left hn
        refine pur (v := .bool (decide (4194304 < Sizes recs + sumEnc rs))) ((pick_b _ _ _).trans (by rw [if_neg (by simp; omega)])) (condD (fun hv => hbig (.inr hv) _ e05) (fun hv => ?_))
        have hres : addAll recs rs = (0, recs ++ rs.map plain) := by unfold addAll; rw [if_neg (by simp [hfe]), if_neg (by omega)]
        have ho5 := owns_ext ho4 e5 fun _ _ hh => hh
        have hmap : (recs ++ rs).map plain = recs ++ rs.map plain := by rw [List.map_append, (List.map_congr_left hpl).trans (List.map_id _)]
        refine join0 (fun w' => w'.ownsRow w1.heap.size 31 4 v4 (recs.length + rs.length) (flat Rec.cells ((recs ++ rs).map plain)) ∧ Ext No w w') ?_ fun J2 hJ2 => ?_
        · rintro w6 ⟨ho6, e06⟩
          rw [hmap] at ho6
          have hv4 : v4.ownBlock ≠ some g := fun hh => by
            have := (ho6.lt g hh).1
            have := hb.lt
            have := e1.size; omega
          refine pur (nil_ptr _) (pur (field_ptr _ _ _) (storeB (hb.no e06) (by simp) (Sl.own ho6).one fun w7 b7 e7 _ => ?_))
          have := hK w7 (fun b => F b ∨ (w.heap.size ≤ b ∧ b < w7.heap.size)) ?_ (e06.no.trans e7) (fun b hb => hb.imp id (fun h => h.1))
          · rw [hres] at this; exact this
          · rw [hres]
            have hsl : Sl w6 v4 (recs ++ rs.map plain).length 4 (flat Rec.cells (recs ++ rs.map plain)) := by
              have := Sl.own ho6
              simpa using this
            refine ⟨v4, mv, b7, hsl.ext e7 fun b hb hh => ?_, (hms.no e06).ext e7 fun b hb hh => ?_, hv4, hne2, fun b hb => .inr ?_, fun b hb => .inl (hF2 b hb), .inl hFg, fun b hb => ?_⟩
            · exact hv4 (by rw [hb, show b = g from hh])
            · exact hne2 (by rw [hb, show b = g from hh])
            · have := ho6.lt b hb
              have := e7.size; have := e1.size; omega
            · rcases hb with hb | hb
              · have := hFl b hb
                have := e06.size; have := e7.size; omega
              · exact hb.2
        · refine loop1 (σ := Nat) (fun i v w' => v = .int .i64 (i : Int) ∧ i ≤ recs.length + rs.length ∧ w'.ownsRow w1.heap.size 31 4 v4 (recs.length + rs.length) (flat Rec.cells (((recs ++ rs).take i).map plain ++ (recs ++ rs).drop i)) ∧ Ext No w w') (fun i => recs.length + rs.length - i) 0
            ⟨rfl, by omega, by simpa using ho5, e05⟩ ?_
          rintro i _ w6 ⟨rfl, hi, ho6, e06⟩ L3 hL3
          refine pur (Sl.own ho6).len (pur (bin_lss _ _ _) (condD (fun hlt => ?_) (fun hge => ?_)))
          · obtain ⟨r, hr⟩ := getN (xs := recs ++ rs) (i := i) (by omega)
            have hr' : (((recs ++ rs).take i).map plain ++ (recs ++ rs).drop i)[i]? = some r := by
              rw [List.getElem?_append_right (by simp; omega)]
              simp only [List.length_map, List.length_take, List.getElem?_drop]
              rw [← hr]; congr 1; omega
            have hlen6 : (((recs ++ rs).take i).map plain ++ (recs ++ rs).drop i).length = recs.length + rs.length := by simp; omega
            have hsl6 : Sl w6 v4 (((recs ++ rs).take i).map plain ++ (recs ++ rs).drop i).length 4 (flat Rec.cells (((recs ++ rs).take i).map plain ++ (recs ++ rs).drop i)) := by
              rw [hlen6]; exact Sl.own ho6
            obtain ⟨ad, ha1, ha2, ha3⟩ := recs_at hsl6 hr'
            refine pur ha1 (loadA ha2 rfl (c43 r fun w7 e7 => ?_))
            have ho7 := owns_ext ho6 e7 fun _ _ hh => hh
            rcases ho7.2 with ⟨rfl, hz⟩ | ⟨gv, cap, cur, rfl, hbv, hgv, hnc, hcm, hcs, htake⟩
            · exact absurd hz (by omega)
            · refine pur (idx_row (by omega)) ?_
              have hbk : Blk w7 gv 31 (flat Rec.cells (((recs ++ rs).take i).map plain ++ (recs ++ rs).drop i) ++ cur.toList.drop ((recs.length + rs.length) * 4)) := by
                unfold Blk
                rw [← htake, List.take_append_drop]
                simpa using hgv
              refine row_set Rec.cells_len hbk (by omega) (Rec.one (plain r)) fun w8 b8 e8 z8 => ?_
              have hset : (((recs ++ rs).take i).map plain ++ (recs ++ rs).drop i).set i (plain r) = ((recs ++ rs).take (i + 1)).map plain ++ (recs ++ rs).drop (i + 1) := by
                rw [List.set_append_right _ _ (by simp; omega), List.take_add_one, hr]
                simp only [List.length_map, List.length_take]
                rw [show i - min i (recs ++ rs).length = 0 by omega, List.drop_eq_getElem_cons (by omega : i < (recs ++ rs).length)]
                simp only [List.set_cons_zero, Option.toList_some, List.map_append, List.map_cons, List.map_nil, List.append_assoc, List.cons_append, List.nil_append]
              rw [hset] at b8
              refine pur (add64 (c := ((i + 1 : Nat) : Int)) (by omega) (by omega) (by omega)) (hL3 (i + 1) _ _ ⟨rfl, by omega, ⟨?_, .inr ⟨gv, cap, _, rfl, hbv, b8, hnc, hcm, ?_, ?_⟩⟩, ?_⟩ (by omega))
              · rw [flat_length Rec.cells Rec.cells_len]; simp; omega
              · simp only [List.size_toArray, List.length_append, flat_length Rec.cells Rec.cells_len, List.length_drop, List.length_map, List.length_take, Array.length_toList]
                omega
              · have hl8 : (flat Rec.cells (((recs ++ rs).take (i + 1)).map plain ++ (recs ++ rs).drop (i + 1))).length = (recs.length + rs.length) * 4 := by
                  rw [flat_length Rec.cells Rec.cells_len]; simp; omega
                rw [← hl8]; simp
              · exact (e06.trans e7).fresh e8 fun b hh => .inr (by rw [show b = gv from hh]; have := e1.size; omega)
          · have hin : i = (recs ++ rs).length := by omega
            subst hin
            rw [List.take_length, List.drop_length, List.append_nil] at ho6
            exact hJ2 _ ⟨ho6, e06⟩
    · rw [ifB_eq]
      by_cases hn : 4096 < recs.length + rs.length
      · rw [if_neg (by simp; omega)]
        exact hJ1 _ _ ⟨Ext.refl _ _, .inl hn⟩
      · rw [if_pos (by simp; omega)]
        have hsl4 : Sl w4 v4 (recs ++ rs).length 4 (flat Rec.cells (recs ++ rs)) := by rw [hall]; exact Sl.own ho4
        refine c36 hsl4 hgall (by omega) fun w5 e5 => pur (bin_gtr _ _ _) (hJ1 _ _ ⟨e5, .inr ⟨by omega, by rw [hSz]⟩⟩)
  · refine loop1 (σ := Nat) (fun i v w' => v = .int .i64 (i : Int) ∧ i ≤ rs.length ∧ Ext No w w' ∧ ∀ j r, j < i → rs[j]? = some r → chk r = 0) (fun i => rs.length - i) 0 ⟨rfl, by omega, Ext.refl _ _, fun _ _ h => by omega⟩ ?_
    rintro i _ w1 ⟨rfl, hi, e1, hz⟩ L4 hL4
    refine pur hx.len (pur (bin_lss _ _ _) (condD (fun hlt => ?_) (fun hge => hJ0 _ ⟨e1, firstErr_all rs fun r hr => ?_⟩)))
    · obtain ⟨r, hr⟩ := getN (xs := rs) (i := i) (by omega)
      obtain ⟨ad, ha1, ha2, ha3⟩ := recs_at (hx.no e1) hr
      refine pur ha1 (loadA ha2 rfl (c20 r (hrs r (List.mem_of_getElem? hr)) fun w2 e2 => ?_))
      refine pur (bin_neq _ _ _) (condN (fun hne => ?_) (fun h0 => ?_))
      · have hfe := firstErr_at rs i r hr hz hne
        have h2 : addAll recs rs = (chk r, recs) := by unfold addAll; rw [if_pos (by rw [hfe]; exact hne), hfe]
        have := hsame (e1.trans e2) (by rw [h2])
        rw [h2] at this; exact this
      · refine pur (add64 (c := ((i + 1 : Nat) : Int)) (by omega) (by omega) (by omega)) (hL4 (i + 1) _ _ ⟨rfl, by omega, e1.trans e2, fun j r' hj hr' => ?_⟩ (by omega))
        by_cases hji : j = i
        · subst hji; rw [hr] at hr'; cases hr'; exact h0
        · exact hz j r' (by omega) hr'
    · obtain ⟨j, hj⟩ := List.getElem?_of_mem hr
      exact hz j r (by have := (List.getElem?_eq_some_iff.1 hj).1; omega) hj
end RefF
end Go.Proofs.Ytambcnlkdnmekaa
/-! Batches: the reference's Save, Pop, Families. -/
namespace Go.Proofs.Ytambcnlkdnmekaa
open Go SG Go.RowKit Go.Lib
set_option linter.unusedVariables false
set_option maxRecDepth 4000
set_option linter.unusedSimpArgs false

theorem ints_one (l : List Nat) : ∀ u ∈ ints l, u.oneCell' = true := by
  intro u hu
  simp only [ints, List.mem_map] at hu
  obtain ⟨n, _, rfl⟩ := hu
  rfl
namespace RefF
variable {w w' : World} {g : Nat} {recs rs : List Rec} {marks : List Nat} {F S : Nat → Prop} {K : Value → World → Prop}
set_option maxHeartbeats 400000 in
/-- Save -/
theorem save (h : RefF w g recs marks F) (hml : marks.length ≤ 8796093022208)
    (hK : ∀ w' F', RefF w' g recs (marks ++ [recs.length]) F' → Ext (At1 g) w w' → (∀ b, F' b → F b ∨ w.heap.size ≤ b) → K (.tuple [].toArray) w') : CallS Try.prog 49 #[.pointer (some ⟨g, 0, none⟩)] K w := by
  obtain ⟨lv, mv, hb, hs, hms, hne1, hne2, hF1, hF2, hFg, hFl⟩ := h
  have hgl := hb.lt
  refine s49_call hm ?_
  unfold s49
  -- the end: what has been put together is stored
  have fin : ∀ (v : Value) (w3 : World), Ext No w w3 → w3.ownsRow w.heap.size 3 1 v (marks.length + 1) (ints (marks ++ [recs.length])) →
      PureS (nilV (.pointer (some ⟨g, 0, none⟩))) fun t => PureS (fieldAddrV 1 t) fun t => StoreC t v (fun w => K (.tuple [].toArray) w) w3 := fun v w3 e3 ho => by
    have hvg : v.ownBlock ≠ some g := fun hh => by have := (ho.lt g hh).1; omega
    refine pur (nil_ptr _) (pur (field_ptr _ _ _) (storeB (hb.no e3) (by simp) (Sl.own ho).one fun w7 b7 e7 _ => ?_))
    have hsl : Sl w3 v (marks ++ [recs.length]).length 1 (ints (marks ++ [recs.length])) := by have := Sl.own ho; simpa using this
    refine hK w7 (fun b => F b ∨ (w.heap.size ≤ b ∧ b < w7.heap.size)) ⟨lv, v, b7, (hs.no e3).ext e7 fun b hb hh => hne1 (by rw [hb, show b = g from hh]), hsl.ext e7 fun b hb hh => hvg (by rw [hb, show b = g from hh]), hne1, hvg,
      fun b hb => .inl (hF1 b hb), fun b hb => .inr ?_, .inl hFg, fun b hb => ?_⟩ (e3.no.trans e7) (fun b hb => hb.imp id fun h => h.1)
    · have := ho.lt b hb
      have := e7.size; omega
    · rcases hb with hb | hb
      · have := hFl b hb
        have := e3.size; have := e7.size; omega
      · exact hb.2
  have e0 : Ext No w w.drew := Ext.drew w
  refine draw (fun w' => Blk w' g 51 [lv, mv] ∧ Ext No w w') ⟨hb.no e0, e0⟩ ?_
  refine pur (nil_ptr _) (pur (field_ptr _ _ _) (pur (nil_ptr _) (pur (field_ptr _ _ _) ?_)))
  refine heldC (v := mv) (fun w' hh => hh.1.cell 1) (heldC (v := lv) (fun w' hh => hh.1.cell 0) (pur hs.len ?_))
  have ap1 : ∀ {w1 w2 : World} {g1 : Nat} {K' : Value → World → Prop}, Ext No w w1 → Blk w1 g1 3 [] → w.heap.size ≤ g1 → (∀ v w2, Ext No w w2 → Ext (At1 g1) w1 w2 → w2.ownsRow w.heap.size 3 1 v marks.length (ints marks) → K' v w2) →
      RunS Try.prog (Builtin.append_ #[24, 24] 24 [.slice (some ⟨g1, 0, none⟩) 0 0, mv].toArray) K' w1 := fun {w1 w2 g1 K'} e1 b1 hg1 hK' => by
    have hlt := b1.lt
    refine append_sl T24 24 (base := g1) (b1.owns rfl (Nat.le_refl _) (by omega)) (hms.no e1) (ints_one _) (by omega) (by omega) (by omega) fun v w2 ho hg _ => ?_
    have e2 : Ext (At1 g1) w1 w2 := Ext.grown hg fun b hb => by simpa [Value.ownBlock, At1, eq_comm] using hb
    refine hK' v w2 (e1.fresh e2 fun b hb => .inr (by rw [show b = g1 from hb]; exact hg1)) e2 (owns_base (by simpa using ho) fun b hb => ?_)
    have := (ho.lt b hb).1; omega
  have ap2 : ∀ {w1 : World} {v : Value} {g2 c2 : Nat} {K' : Value → World → Prop}, Ext No w w1 → w1.ownsRow w.heap.size 3 1 v marks.length (ints marks) → Blk w1 g2 3 [.int .i64 (recs.length : Int)] → (∀ v w2, Ext No w w2 → w2.ownsRow w.heap.size 3 1 v (marks.length + 1) (ints (marks ++ [recs.length])) → K' v w2) →
      RunS Try.prog (Builtin.append_ #[24, 24] 24 [v, .slice (some ⟨g2, 0, none⟩) 1 1].toArray) K' w1 := fun {w1 v g2 c2 K'} e1 ho b2 hK' => by
    refine append_sl T24 24 ho (b2.sl (n := 1) (c := 1) (size := 1) rfl (Nat.le_refl _)) (by simp [Value.oneCell']) (by omega) (by omega) e1.size fun v' w2 ho' hg _ => ?_
    exact hK' v' w2 (ext_fr' e1 (ext_grown ho hg) (Nat.le_refl _)) (by simpa [ints] using ho')
  refine ⟨?_, ?_⟩
  · refine build0 T24 fun w1 b1 e1' z1 => ?_
    have e1 := e0.trans e1'
    refine ⟨⟨hb.no e1, e1⟩, ?_, ?_⟩
    · refine ap1 (w2 := w) e1 b1 e0.size fun v w2 e2 e12 ho => ⟨⟨hb.no e2, e2⟩, build1 T24 rfl fun w3 b3 e3 z3 => ?_⟩
      have e03 := e2.trans e3
      exact ⟨⟨hb.no e03, e03⟩, ap2 (c2 := 0) e03 (owns_ext ho e3 fun _ _ hh => hh) b3 fun v' w4 e4 ho4 => fin v' w4 e4 ho4⟩
    · refine build1 T24 rfl fun w3 b3 e3 z3 => ?_
      have e03 := e1.trans e3
      refine ⟨⟨hb.no e03, e03⟩, ap1 (w2 := w) e03 (b1.no e3) e0.size fun v w2 e2 e32 ho => ⟨⟨hb.no e2, e2⟩, ap2 (c2 := 0) e2 ho ?_ fun v' w4 e4 ho4 => fin v' w4 e4 ho4⟩⟩
      exact b3.ext e32 fun hh => by
        have : w1.heap.size = w.drew.heap.size := hh
        omega
  · refine build1 T24 rfl fun w3 b3 e3 z3 => ?_
    have e03 := e0.trans e3
    refine ⟨⟨hb.no e03, e03⟩, build0 T24 fun w1 b1 e1' z1 => ?_⟩
    have e1 := e03.trans e1'
    refine ⟨⟨hb.no e1, e1⟩, ap1 (w2 := w) e1 b1 e03.size fun v w2 e2 e12 ho => ⟨⟨hb.no e2, e2⟩, ap2 (c2 := 0) e2 ho ?_ fun v' w4 e4 ho4 => fin v' w4 e4 ho4⟩⟩
    exact (b3.no e1').ext e12 fun hh => by have : w.drew.heap.size = w3.heap.size := hh; omega

/-- Pop -/
theorem pop (h : RefF w g recs marks F) (hml : marks.length ≤ 8796093022208) (hmk : MarksOk recs marks) (back : Bool) (h0 : marks = [] → K (.int .i64 6) w)
    (hK : ∀ l m w', marks = l ++ [m] → RefF w' g (if back then recs.take m else recs) l F → Ext (At1 g) w w' → K (.int .i64 0) w') : CallS Try.prog 50 #[.pointer (some ⟨g, 0, none⟩), .bool back] K w := by
  obtain ⟨lv, mv, hb, hs, hms, hne1, hne2, hF1, hF2, hFg, hFl⟩ := h
  refine s50_call hm ?_
  unfold s50
  refine pur (nil_ptr _) (pur (field_ptr _ _ _) (loadB hb (v := mv) rfl (pur hms.len (pur (sub64 (c := (marks.length : Int) - 1) rfl (by omega) (by omega)) (pur (bin_lss _ _ _) (condD (fun hz => ?_) (fun hz => ?_))))))) 
  · exact h0 (List.eq_nil_of_length_eq_zero (by omega))
  obtain ⟨l, m, hlm⟩ : ∃ l m, marks = l ++ [m] := ⟨marks.dropLast, marks.getLast (by intro h; simp [h] at hz), (List.dropLast_concat_getLast _).symm⟩
  have hlen : marks.length = l.length + 1 := by rw [hlm]; simp
  have hmle : m ≤ recs.length := hmk m (by rw [hlm]; simp)
  rw [show (marks.length : Int) - 1 = ((l.length : Nat) : Int) by omega]
  refine join0 (fun w' => ∃ lv', Blk w' g 51 [lv', mv] ∧ Sl w' lv' (if back then recs.take m else recs).length 4 (flat Rec.cells (if back then recs.take m else recs)) ∧ Sl w' mv marks.length 1 (ints marks) ∧ (∀ b, lv'.ownBlock = some b → lv.ownBlock = some b) ∧ Ext (At1 g) w w') ?_ fun J0 hJ0 => ?_
  · rintro w1 ⟨lv', b1, hs1, hm1, ho1, e1⟩
    refine pur (nil_ptr _) (pur (field_ptr _ _ _) (loadB b1 (v := mv) rfl ?_))
    obtain ⟨mv', h1, h2, h3⟩ := sl_take hm1 (k := l.length) (by omega) .i64
    refine pur h1 (pur (nil_ptr _) (pur (field_ptr _ _ _) (storeB b1 (by simp) h2.one fun w2 b2 e2 _ => ?_)))
    have hg1 : lv'.ownBlock ≠ some g := fun hh => hne1 (ho1 g hh)
    have hg2 : mv'.ownBlock ≠ some g := fun hh => hne2 (h3 g hh)
    have hmm : (ints marks).take (l.length * 1) = ints l := by rw [hlm]; simp [ints]
    rw [hmm] at h2
    exact hK l m w2 hlm ⟨lv', mv', b2, hs1.ext e2 fun b hb hh => hg1 (by rw [hb, show b = g from hh]), h2.ext e2 fun b hb hh => hg2 (by rw [hb, show b = g from hh]), hg1, hg2, fun b hb => hF1 b (ho1 b hb), fun b hb => hF2 b (h3 b hb), hFg,
      fun b hb => by have := hFl b hb; have := e1.size; have := e2.size; omega⟩ (e1.trans e2)
  · refine condB (fun hbk => ?_) (fun hbk => ?_)
    · subst hbk
      refine draw (fun w' => Blk w' g 51 [lv, mv] ∧ Sl w' mv marks.length 1 (ints marks)) ⟨hb.no (Ext.drew w), hms.no (Ext.drew w)⟩ ?_
      refine pur (nil_ptr _) (pur (field_ptr _ _ _) (pur (nil_ptr _) (pur (field_ptr _ _ _) ?_)))
      refine heldC (v := lv) (fun w' hh => hh.1.cell 0) (heldC (v := mv) (fun w' hh => hh.1.cell 1) ?_)
      obtain ⟨ad, hx1, hx2, hx3⟩ := sl_idx1 hms (lastInt l hlm) .i64
      refine pur hx1 (heldC (v := .int .i64 (m : Int)) (fun w' hh => hx3 w' hh.2) ?_)
      obtain ⟨lv', h1, h2, h3⟩ := sl_take (hs.no (Ext.drew w)) (k := m) (by omega) .i64
      refine pur h1 (pur (nil_ptr _) (pur (field_ptr _ _ _) (storeB (hb.no (Ext.drew w)) (by simp) h2.one fun w1 b1 e1 _ => ?_)))
      rw [flat_take Rec.cells Rec.cells_len] at h2
      refine hJ0 _ ⟨lv', b1, ?_, (hms.no (Ext.drew w)).ext e1 fun b hb hh => hne2 (by rw [hb, show b = g from hh]), h3, (Ext.drew w).trans e1⟩
      simp only [if_true]
      rw [List.length_take, Nat.min_eq_left hmle]
      exact h2.ext e1 fun b hb hh => hne1 (by rw [h3 b hb, show b = g from hh])
    · subst hbk
      exact hJ0 _ ⟨lv, hb, by simpa using hs, hms, fun b hb => hb, Ext.refl _ _⟩
theorem get (h : RefF w g recs marks F) : ∃ lv mv, Blk w g 51 [lv, mv] ∧ Sl w lv recs.length 4 (flat Rec.cells recs) ∧ (∀ b, lv.ownBlock = some b → F b) ∧ F g := by
  obtain ⟨lv, mv, hb, hs, hms, hne1, hne2, hF1, hF2, hFg, hFl⟩ := h
  exact ⟨lv, mv, hb, hs, hF1, hFg⟩
end RefF
end Go.Proofs.Ytambcnlkdnmekaa
