/- Batches: codec.read, whose loop ranges over slices.Backward. -/
import Derived.Test.YtambcnlkdnmekaaB14
import Derived.Test.YtambcnlkdnmekaaD0
namespace Go.Proofs.Ytambcnlkdnmekaa
open Go SG Go.RowKit Go.Lib
set_option linter.unusedVariables false
set_option maxRecDepth 4000
set_option linter.unusedSimpArgs false

theorem c68 {w : World} {x : Value} {K : Value → World → Prop} (hK : ∀ w', Blk w' w.heap.size 40 x.cells.toList → Ext No w w' → w'.heap.size = w.heap.size + 1 → K (.func (.func 73) #[] #[.pointer (some ⟨w.heap.size, 0, none⟩)]) w') : CallS Try.prog 68 #[x] K w := by
  refine s68_call hm ?_
  unfold s68
  exact box fun w1 b1 e1 z1 => hK w1 b1 e1 z1

def encIC (p : Nat × UInt8) : List Value := [.int .i64 (p.1 : Int), .int .u8 (p.2.toNat : Int)]
theorem take_rev {l : List UInt8} {k : Nat} (hk : k < l.length) : l.reverse.take (k + 1) = l.reverse.take k ++ [l[l.length - 1 - k]'(by omega)] := by
  rw [List.take_add_one]
  congr 1
  rw [List.getElem?_reverse hk, List.getElem?_eq_getElem (by omega)]
  rfl
/-- slices.Backward's iterator keeps its word -/
theorem back_stops {S : Nat → Prop} {w : World} {x : Value} {l : List UInt8} {gb : Nat} (hb : Blk w gb 40 [x]) (hs : Sl w x l.length 1 (byteCells l)) (hSb : ¬ S gb) (hSx : ∀ b, x.ownBlock = some b → ¬ S b) (hl : l.length ≤ 140737488355328) :
    SeqStopsK Fence.wide 0 Try.prog 73 #[.pointer (some ⟨gb, 0, none⟩)] (fun p => (encIC p).toArray) (Ext S) (fun xs => xs.map Prod.snd = l.reverse) (fun _ => True) l.length w := by
  refine stops_of fun y J Jx W hW hJ hY h0 => ?_
  have eW : Ext No w W := Ext.of_below hW
  refine s73_call hm ?_
  unfold s73
  refine loadB (hb.no eW) rfl (pur hs.len (pur (sub64 (c := (l.length : Int) - 1) rfl (by omega) (by omega)) ?_))
  refine loop1 (σ := Nat) (fun k a w' => a = .int .i64 ((l.length : Int) - 1 - k) ∧ k ≤ l.length ∧ ∃ pre : List (Nat × UInt8), pre.length = k ∧ pre.map Prod.snd = l.reverse.take k ∧ J pre w' ∧ Ext S W w') (fun k => l.length - k) 0
    ⟨by simp, by omega, [], rfl, by simp, h0, Ext.refl _ _⟩ ?_
  rintro k a w1 ⟨rfl, hk, pre, hpl, hpm, hj, e1⟩ L hL
  refine pur (bin_geq _ _ _) (condD (fun hge => ?_) (fun hlt => ?_))
  · have hk' : k < l.length := by omega
    obtain ⟨c, hc⟩ : ∃ c, l[l.length - 1 - k]? = some c := ⟨_, List.getElem?_eq_getElem (show l.length - 1 - k < l.length by omega)⟩
    have b1 := (hb.no eW).ext e1 hSb
    have s1 := (hs.no eW).ext e1 hSx
    obtain ⟨ad, h1, h2⟩ := byte_at s1 hc
    have hidx : (l.length : Int) - 1 - k = ((l.length - 1 - k : Nat) : Int) := by omega
    rw [hidx]
    refine loadB b1 rfl (pur h1 (SG.load (S := No) h2 (callY ?_)))
    refine hY pre (l.length - 1 - k, c) w1 _ hj (by omega) (fun w2 hj2 hk2 => ?_) (fun w2 hj2 => ?_)
    · refine pur (not_b _) (condF rfl (pur (sub64 (c := (l.length : Int) - 1 - ((k + 1 : Nat) : Int)) (by omega) (by omega) (by omega)) ?_))
      refine hL (k + 1) _ _ ⟨rfl, by omega, pre ++ [(l.length - 1 - k, c)], by simp [hpl], ?_, hj2, e1.trans hk2⟩ (by omega)
      rw [take_rev hk', List.map_append, hpm]
      simp only [List.map_cons, List.map_nil]
      rw [List.getElem?_eq_getElem (show l.length - 1 - k < l.length by omega)] at hc
      simp only [Option.some.injEq] at hc
      rw [hc]
    · exact pur (not_b _) (condT rfl (.inr ⟨_, trivial, hj2⟩))
  · have hkl : k = l.length := by omega
    refine .inl ⟨pre, ?_, hj⟩
    rw [hpm, hkl]
    exact List.take_of_length_le (by simp)

def valB (l : List UInt8) : Nat := l.foldl (fun n c => n * 256 + c.toNat) 0
theorem valB_snoc (l : List UInt8) (c : UInt8) : valB (l ++ [c]) = valB l * 256 + c.toNat := by simp [valB]
theorem valB_rev (l : List UInt8) : valB l.reverse = leN l := by
  unfold valB leN
  rw [List.foldl_reverse]
  congr 1
  funext c n
  omega
theorem valB_lt : ∀ (k : Nat) (l : List UInt8), l.length = k → valB l < 256 ^ k
  | 0, l, h => by
    have : l = [] := List.eq_nil_of_length_eq_zero h
    subst this; decide
  | k + 1, l, h => by
    obtain ⟨l', c, rfl⟩ : ∃ l' c, l = l' ++ [c] := ⟨l.dropLast, l.getLast (by intro hh; simp [hh] at h), (List.dropLast_concat_getLast _).symm⟩
    have := valB_lt k l' (by simpa using h)
    have hc := c.toNat_lt
    rw [valB_snoc, Nat.pow_succ]
    omega
def rd58 (size : Nat) (l : List UInt8) : Value := .tuple [.int .u64 ((if l.length < size then 0 else leN (l.take size) : Nat) : Int), .int .i64 (if l.length < size then 4 else 0)].toArray

theorem heap_putObj_ext {w : World} {D : Nat} {o : Obj} {S : Nat → Prop} (hD : S D) : Ext S w (w.putObj D o) := ⟨rfl, rfl, rfl, by simp, fun b hb hn => World.putObj_heap_other (fun e => hn (e ▸ hD))⟩
theorem sl_block {w : World} {x : Value} {l : List UInt8} (hs : Sl w x l.length 1 (byteCells l)) (h : 0 < l.length) : ∀ b, x.ownBlock = some b → b < w.heap.size := fun b hb => by
  obtain ⟨ad, h1, h2⟩ := byte_at hs (i := 0) (List.getElem?_eq_getElem h)
  obtain ⟨ad', h3, h4, h5⟩ := hs.at_ h
  rw [h1] at h3
  cases h3
  rw [hb] at h5
  cases h5
  exact World.block_lt_of_cell? _ _ h2
set_option maxHeartbeats 1000000 in
theorem c58 {w : World} {x : Value} {l : List UInt8} {size : Nat} (hs : Sl w x l.length 1 (byteCells l)) (hl : l.length ≤ 140737488355328) (hs1 : 1 ≤ size) (hsz : size ≤ 8) {K : Value → World → Prop} (hK : ∀ w', Ext No w w' → K (rd58 size l) w') :
    CallS Try.prog 58 #[x, .int .i64 (size : Int)] K w := by
  refine s58_call hm ?_
  unfold s58
  refine pur hs.len (pur (bin_lss _ _ _) (condD (fun hlt => ?_) (fun hge => ?_)))
  · have := hK w (Ext.refl _ _)
    unfold rd58 at this
    rw [if_pos (by omega), if_pos (by omega)] at this
    exact this
  · have hx := sl_block hs (by omega)
    refine box fun w1 b1 e1 z1 => storeB b1 (by simp [Value.cells]) rfl fun w2 b2 e2 z2 => ?_
    have e02 : Ext No w w2 := e1.fresh e2 fun b hb => .inr (by rw [show b = w.heap.size from hb]; exact Nat.le_refl _)
    have s2 := hs.no e02
    obtain ⟨x', h1, h2, h3⟩ := sl_take s2 (k := size) (by omega) .i64
    rw [byteCells_take] at h2
    have hlen : (l.take size).length = size := by rw [List.length_take]; omega
    refine pur h1 (c68 fun w3 b3 e3 z3 => ?_)
    have b23 := b2.no e3
    have hone : x'.cells.toList = [x'] := by obtain ⟨A, c, rfl, _⟩ := h2; rfl
    rw [hone] at b3
    have s3 : Sl w3 x' (l.take size).length 1 (byteCells (l.take size)) := by rw [hlen]; exact h2.no e3
    have e03 := e02.trans e3
    refine ⟨rfl, by kernel_rfl, Nat × UInt8, encIC, Ext (fun b => b = w.heap.size ∨ w3.heap.size ≤ b), fun xs => xs.map Prod.snd = (l.take size).reverse, fun _ => True, (l.take size).length,
      fun pre W => Blk W w.heap.size 39 [.int .u64 (valB (pre.map Prod.snd) : Int)] ∧ Ext No w W, ?_, fun _ => rfl, fun A B C h k => h.trans k, ?_, ?_, ⟨b23, e03⟩, ?_, ?_⟩
    · refine back_stops b3 s3 (fun hh => ?_) (fun b hb hh => ?_) (by omega)
      · have := b3.lt; omega
      · have := hx b (h3 b hb); have := e03.size; omega
    · intro W k o o' hk _ _ _
      exact heap_putObj_ext (.inr hk)
    · rintro s W W' row ⟨hb, he⟩ hg hr
      refine ⟨(hg.block _ hb.lt (fun e => ?_)).trans hb, he.fresh (Ext.grown hg fun b hb => hb) fun b hb => .inr ?_⟩
      · have := (hr _ e.symm).1; have := b23.lt; omega
      · have := (hr b hb).1; have := e03.size; omega
    · rintro pre ⟨i, c⟩ W ⟨hb, he⟩ hlt
      rw [hlen] at hlt
      have hv := valB_lt pre.length (pre.map Prod.snd) (by simp)
      have hc := c.toNat_lt
      have hp7 : (256 : Nat) ^ pre.length ≤ 256 ^ 7 := Nat.pow_le_pow_right (by decide) (by omega)
      have h7 : (256 : Nat) ^ 7 = 72057594037927936 := by decide
      refine loadB hb rfl (pur (v := .int .u64 ((valB (pre.map Prod.snd) * 256 : Nat) : Int)) ((bin_shl (by omega) (by decide)).trans ?_) (pur (v := .int .u64 (c.toNat : Int)) (conv64u (a := (c.toNat : Int)) (k := .u8) (by omega) (by omega))
        (pur (v := .int .u64 ((valB (pre.map Prod.snd) * 256 + c.toNat : Nat) : Int)) ((bin_or _ _ _).trans ?_) (storeB hb (by simp) rfl fun W' hb' he' hz' => ?_))))
      · have : ((valB (pre.map Prod.snd) : Nat) : Int) * 2 ^ (8 : Int).toNat = ((valB (pre.map Prod.snd) * 256 : Nat) : Int) := by simp
        rw [this, wu64 (by omega) (by omega)]
      · rw [or64 (by omega) (by omega)]
        have := or_add (n := c.toNat) (y := valB (pre.map Prod.snd)) (s := 8) (by omega)
        rw [Nat.or_comm, this, Nat.add_comm]
      · have hlt3 := b23.lt
        refine ⟨⟨he'.size, fun k o hk ho hcell => ?_⟩, he'.mono (fun b hb _ => .inl hb), ?_, he.fresh he' fun b hb => .inr (by rw [show b = w.heap.size from hb]; exact Nat.le_refl _)⟩
        · refine (he'.blk k (Array.getElem?_eq_some_iff.1 ho).1 (fun hh => ?_)).trans ho
          have : k = w.heap.size := hh
          omega
        · rw [List.map_append, List.map_cons, List.map_nil, valB_snoc]
          exact hb'
    · rintro D xs W hD hS ⟨hb, he⟩ hmk
      refine loadB hb rfl ⟨hmk, ?_⟩
      have := hK (W.putObj D (.deferred none)) (he.fresh (heap_putObj_ext (S := fun b => b = D) rfl) fun b hb => .inr (by rw [show b = D from hb]; have := e03.size; omega))
      unfold rd58 at this
      rw [if_neg (by omega), if_neg (by omega)] at this
      rw [hS, valB_rev]
      exact this
end Go.Proofs.Ytambcnlkdnmekaa
