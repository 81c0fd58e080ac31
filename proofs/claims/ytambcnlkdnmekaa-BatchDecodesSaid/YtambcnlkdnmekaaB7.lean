/- Batches: Same; what lives; the reference's Size. -/
import Derived.Test.YtambcnlkdnmekaaB6
import Derived.Test.YtambcnlkdnmekaaB4
namespace Go.Proofs.Ytambcnlkdnmekaa
open Go SG Go.RowKit Go.Lib
set_option linter.unusedVariables false
set_option maxRecDepth 4000
set_option linter.unusedSimpArgs false

theorem eq31 (d : Nat) (w : World) (x0 : Int) (x1 : Int) (x2 x3 : ByteArray) :
    (Op.equalIn (d + 2) 31 (.agg #[.int .u32 x0, .int .i64 x1, .string x2, .string x3]) (.agg #[.int .u32 x0, .int .i64 x1, .string x2, .string x3])).run Try.prog w = .ok true w := by
  have hu := Try.underlying31
  have hf : Try.prog.fieldsOf 31 = _ := Program.fieldsOf.eq_1 Try.prog 31 |>.trans (by rw [hu])
  rw [run_equalIn_struct w (d + 1) 31 _ _ (by rw [hf]; exact hu) (by kernel_rfl), hf]
  go_simp
/-- a record is no other than itself -/
theorem neq31 (r : Rec) {x y : Operand} (w : World) : (do eqGuard .neq 31 x y r.agg r.agg; binOp .neq 31 r.agg r.agg : Sem Value).run Try.prog w = .ok (.bool false) w := by
  have h1 : (eqGuard .neq 31 x y r.agg r.agg).run Try.prog w = .ok () w := run_eqGuard_agg w .neq 31 x y _ _ (by kernel_rfl)
  have h2 : (Op.equal 31 r.agg r.agg).run Try.prog w = .ok true w := eq31 9998 w r.fam r.kind r.key r.val
  rw [Sem.run_bind, h1]
  show (binOp .neq 31 r.agg r.agg).run Try.prog w = _
  simp only [Rec.agg, Rec.cells] at h2 ⊢
  simp [binOp, h2]

theorem c13 {w : World} {x y : Value} {rs : List Rec} (hx : Sl w x rs.length 4 (flat Rec.cells rs)) (hy : Sl w y rs.length 4 (flat Rec.cells rs)) (hrl : rs.length ≤ 2932031007402) {K : Value → World → Prop}
    (hK : ∀ w', Ext No w w' → K (.bool true) w') : CallS Try.prog 13 #[x, y] K w := by
  refine s13_call hm ?_
  unfold s13
  refine pur hx.len (pur hy.len (pur (bin_neq _ _ _) (condF (by simp) ?_)))
  refine join0 (fun w' => Ext No w w') (fun w' e => hK w' e) fun J hJ => ?_
  refine loop1 (σ := Nat) (fun i a w' => a = .int .i64 (i : Int) ∧ i ≤ rs.length ∧ Ext No w w') (fun i => rs.length - i) 0 ⟨rfl, by omega, Ext.refl _ _⟩ ?_
  rintro i a w1 ⟨rfl, hi, e1⟩ L hL
  refine pur hx.len (pur (bin_lss _ _ _) (condD (fun hlt => ?_) (fun _ => hJ _ e1)))
  obtain ⟨r, hr⟩ : ∃ r, rs[i]? = some r := ⟨rs[i]'(by omega), List.getElem?_eq_getElem (by omega)⟩
  have e1d : Ext No w w1.drew := e1.trans (Ext.drew w1)
  obtain ⟨ad, ha1, ha2, ha3⟩ := recs_at (hx.no e1d) hr
  obtain ⟨ad', hb1, hb2, hb3⟩ := recs_at (hy.no e1d) hr
  refine draw (fun w' => At w' ad r.cells ∧ At w' ad' r.cells) ⟨ha2, hb2⟩ ?_
  refine pur ha1 (pur hb1 (heldA (fun w' h => h.1) rfl (heldA (fun w' h => h.2) rfl ⟨.bool false, fun w' _ => neq31 r w', condF rfl ?_⟩)))
  exact pur (add64 (c := ((i + 1 : Nat) : Int)) (by omega) (by omega) (by omega)) (hL (i + 1) _ _ ⟨rfl, by omega, e1d⟩ (by omega))

theorem c29 {w : World} {g : Nat} {lv mv : Value} {recs : List Rec} {sz : Int} {marks : List Nat} (hb : BatchIs w g lv mv recs sz marks) (f : Nat) (k v : ByteArray) (hr : (Rec.mk f 1 k v).Ok) {K : Value → World → Prop}
    (hK : ∀ w' lv' sz', BatchIs w' g lv' mv (addAll recs [Rec.mk f 1 k v]).2 sz' marks → Ext (Foot g lv mv) w w' → (∀ b, lv'.ownBlock = some b → lv.ownBlock = some b ∨ w.heap.size ≤ b) →
      K (.int .i64 (addAll recs [Rec.mk f 1 k v]).1) w') :
    CallS Try.prog 29 #[.pointer (some ⟨g, 0, none⟩), .int .u32 (f : Int), .string k, .string v] K w := by
  refine s29_call hm ?_
  unfold s29
  exact runS (build31 w _ _ _ _) (c8 hb hr hK)

theorem BatchIs.new {w : World} {g : Nat} (h : BatchAt w g (.slice none 0 0) (.slice none 0 0) [] 0 []) : BatchIs w g (.slice none 0 0) (.slice none 0 0) [] 0 [] :=
  ⟨h, .inr ⟨rfl, rfl⟩, by simp [Good], by simp, by simp⟩
theorem foot_new {g b : Nat} : Foot g (.slice none 0 0) (.slice none 0 0) b → b = g := by simp [Foot, Value.ownBlock]

def lr : Rec := ⟨0, 1, ⟨#[97]⟩, ⟨#[98]⟩⟩
theorem lr_ok : lr.Ok := ⟨by decide, by decide, by decide⟩
theorem lr_all : encAll 5 [lr] = [5, 0, 0, 0, 0, 0, 0, 0, 1, 0, 0, 0, 1, 0, 1, 97, 1, 98] := by
  simp [encAll, encHead, fixedL, encBody, encRec, lr, varint_small, ByteArray.size]
  decide
theorem lr_size : Sizes [lr] = 18 := by
  have h3 := encBody_len [lr]
  have : (encAll 5 [lr]).length = 18 := by rw [lr_all]; rfl
  simp only [encAll, List.length_append, encHead_len] at this
  unfold Sizes
  omega
theorem lr_add : addAll [] [lr] = (0, [lr]) := by
  have h1 : firstErr [lr] = 0 := by decide
  have h2 : sumEnc [lr] = 6 := by have := lr_size; unfold Sizes at this; omega
  unfold addAll
  rw [if_neg (by simp [h1]), if_neg (by rw [h2, show Sizes [] = 12 from rfl]; decide)]
  rfl

theorem c14 {w : World} {K : Value → World → Prop} (hK : ∀ w', Ext No w w' → K (.bool true) w') : CallS Try.prog 14 #[] K w := by
  refine s14_call hm ?_
  unfold s14
  refine new26 fun w1 b1 e1 z1 => ?_
  refine c29 (BatchIs.new b1) 0 ⟨#[97]⟩ ⟨#[98]⟩ lr_ok fun w2 lv' sz' b2 e2 f2 => ?_
  have hadd : addAll [] [Rec.mk 0 1 ⟨#[97]⟩ ⟨#[98]⟩] = (0, [lr]) := lr_add
  rw [hadd] at b2 ⊢
  have e12 : Ext No w w2 := e1.fresh e2 fun b hb => .inr (by rw [foot_new hb]; exact Nat.le_refl _)
  refine c9 b2 fun v w3 e3 hs3 hv3 => ?_
  have hall : ∀ r ∈ [lr], r.Ok := by intro r hr; simp at hr; subst hr; exact lr_ok
  have herr : encErr 5 [lr] = 0 := by
    have h1 : firstErr [lr] = 0 := by decide
    unfold encErr
    rw [if_neg (by decide), if_neg (by decide), if_neg (by simp [h1]), if_neg (by rw [lr_size]; decide)]
  refine c17 (seq := 5) (by decide) hs3 hall (by simp) (fun w' h => absurd herr h) fun v4 w4 _ ho4 e4 => ?_
  have b4 := b2.no (e3.trans e4)
  have e14 := e12.trans (e3.trans e4)
  refine pur (extract_0 _ _) (pur (extract_1 _ _ _) (pur (bin_eql _ _ _) ?_))
  refine join1 (fun a w' => w4 = w' ∧ a = .bool true) ?_ fun J hJ => ?_
  · rintro a w' ⟨rfl, rfl⟩
    refine pur (pick_b _ _ _) ?_
    refine join1 (fun a w' => w4 = w' ∧ a = .bool true) ?_ fun J hJ => ?_
    · rintro a w' ⟨rfl, rfl⟩
      refine pur (pick_b _ _ _) ?_
      refine join1 (fun a w' => w4 = w' ∧ a = .bool true) ?_ fun J hJ => ?_
      · rintro a w' ⟨rfl, rfl⟩
        exact pur (pick_b _ _ _) (hK _ e14)
      · show IfB (.bool true) true _ _
        rw [ifB_eq, if_pos rfl]
        refine runS (bytes_str Try.underlying40 Try.underlying9 Try.underlying5 (Sl.own ho4)) (pur (str_eql _ _) (hJ _ _ ⟨rfl, ?_⟩))
        rw [lr_all]
        simp
    · show IfB (.bool true) true _ _
      rw [ifB_eq, if_pos rfl]
      refine c10 b4 (pur (bin_eql _ _ _) (hJ _ _ ⟨rfl, ?_⟩))
      rw [lr_size]; rfl
  · rw [ifB_eq, if_pos (by decide)]
    exact pur (bin_eql _ _ _) (hJ _ _ ⟨rfl, rfl⟩)
end Go.Proofs.Ytambcnlkdnmekaa
