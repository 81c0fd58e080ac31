/- Rules: numbers, slices as lists, append, slice literals. No program stands here. -/
import Derived.Test.YtambcnlkdnmekaaH0
namespace SG
open Go Go.RowKit Go.Lib
set_option linter.unusedSimpArgs false
set_option linter.unusedVariables false

/-! ### numbers -/
theorem wi64 {n : Int} (h0 : -9223372036854775808 ≤ n) (h1 : n ≤ 9223372036854775807) : IntKind.i64.wrap n = n := by
  simp [IntKind.wrap, IntKind.signed, IntKind.bits]; omega
theorem wu64 {n : Int} (h0 : 0 ≤ n) (h1 : n ≤ 18446744073709551615) : IntKind.u64.wrap n = n := by
  simp [IntKind.wrap, IntKind.signed, IntKind.bits]; omega
theorem wu32 {n : Int} (h0 : 0 ≤ n) (h1 : n ≤ 4294967295) : IntKind.u32.wrap n = n := by
  simp [IntKind.wrap, IntKind.signed, IntKind.bits]; omega
theorem wu8 {n : Int} (h0 : 0 ≤ n) (h1 : n ≤ 255) : IntKind.u8.wrap n = n := by
  simp [IntKind.wrap, IntKind.signed, IntKind.bits]; omega
theorem wu8_mod (n : Int) : IntKind.u8.wrap n = n % 256 := by
  simp [IntKind.wrap, IntKind.signed, IntKind.bits]
theorem wu64_mod (n : Int) : IntKind.u64.wrap n = n % 18446744073709551616 := by
  simp [IntKind.wrap, IntKind.signed, IntKind.bits]
theorem wu32_mod (n : Int) : IntKind.u32.wrap n = n % 4294967296 := by
  simp [IntKind.wrap, IntKind.signed, IntKind.bits]

section
variable (a b : Int) (k : IntKind)
theorem bin_add : binV .add (.int k a) (.int k b) = some (.int k (k.wrap (a + b))) := by simp [binV, intV]
theorem bin_sub : binV .sub (.int k a) (.int k b) = some (.int k (k.wrap (a - b))) := by simp [binV, intV]
theorem bin_mul : binV .mul (.int k a) (.int k b) = some (.int k (k.wrap (a * b))) := by simp [binV, intV]
theorem bin_eql : binV .eql (.int k a) (.int k b) = some (.bool (decide (a = b))) := by simp [binV, intV]
theorem bin_neq : binV .neq (.int k a) (.int k b) = some (.bool (!decide (a = b))) := by simp [binV, intV]
theorem bin_lss : binV .lss (.int k a) (.int k b) = some (.bool (decide (a < b))) := by simp [binV, intV]
theorem bin_leq : binV .leq (.int k a) (.int k b) = some (.bool (decide (a ≤ b))) := by simp [binV, intV]
theorem bin_gtr : binV .gtr (.int k a) (.int k b) = some (.bool (decide (b < a))) := by simp [binV, intV]
theorem bin_geq : binV .geq (.int k a) (.int k b) = some (.bool (decide (b ≤ a))) := by simp [binV, intV]
theorem bin_or : binV .or (.int k a) (.int k b) = some (.int k (bits .or k a b)) := by simp [binV, intV]
theorem bin_and : binV .and (.int k a) (.int k b) = some (.int k (bits .and k a b)) := by simp [binV, intV]
theorem bin_xor : binV .xor (.int k a) (.int k b) = some (.int k (bits .xor k a b)) := by simp [binV, intV]
theorem bin_quo (h : b ≠ 0) : binV .quo (.int k a) (.int k b) = some (.int k (k.wrap (a.tdiv b))) := by simp [binV, intV, h]
theorem bin_rem (h : b ≠ 0) : binV .rem (.int k a) (.int k b) = some (.int k (a.tmod b)) := by simp [binV, intV, h]
theorem conv_int (k' : IntKind) : convIntV k' (.int k a) = some (.int k' (k'.wrap a)) := rfl
theorem max_int (k' : IntKind) : maxV (.int k a) (.int k' b) = some (.int k (if b > a then b else a)) := rfl
theorem min_int (k' : IntKind) : minV (.int k a) (.int k' b) = some (.int k (if b < a then b else a)) := rfl
end
theorem bin_shr {k k' : IntKind} {a b : Int} (h0 : 0 ≤ b) (h1 : b ≤ k.bits) : binV .shr (.int k a) (.int k' b) = some (.int k (a.fdiv (2 ^ b.toNat))) := by
  have : min b.toNat k.bits = b.toNat := by omega
  simp [binV, shiftV, h0, this]
theorem bin_shl {k k' : IntKind} {a b : Int} (h0 : 0 ≤ b) (h1 : b ≤ k.bits) : binV .shl (.int k a) (.int k' b) = some (.int k (k.wrap (a * 2 ^ b.toNat))) := by
  have : min b.toNat k.bits = b.toNat := by omega
  simp [binV, shiftV, h0, this]
theorem nil_ptr (a : Addr) : nilV (.pointer (some a)) = some (.pointer (some a)) := rfl
theorem field_ptr (g o n : Nat) : fieldAddrV n (.pointer (some ⟨g, o, none⟩)) = some (.pointer (some ⟨g, o + n, none⟩)) := by simp [fieldAddrV, Addr.add_mk]
theorem len_sl (a : Option Addr) (n c : Nat) : lenSliceV (.slice a n c) = some (.int .i64 n) := rfl
theorem len_str (s : ByteArray) : lenStrV (.string s) = some (.int .i64 s.size) := rfl
theorem pick_b (t : Bool) (x y : Value) : pickV (.bool t) x y = some (if t then x else y) := rfl
theorem not_b (t : Bool) : notV (.bool t) = some (.bool (!t)) := rfl
theorem bool_eql (a b : Bool) : boolV .eql (.bool a) (.bool b) = some (.bool (a == b)) := rfl
theorem bool_neq (a b : Bool) : boolV .neq (.bool a) (.bool b) = some (.bool (!(a == b))) := rfl
theorem index_sl {a : Addr} {len cap size : Nat} {k : IntKind} {i : Int} (h : 0 ≤ i ∧ i < (len : Int)) : indexAddrV size (.slice (some a) len cap) (.int k i) = some (.pointer (some (a.add (i.toNat * size)))) := by
  simp [indexAddrV, h]
theorem str_eql (a b : ByteArray) : binV .eql (.string a) (.string b) = some (.bool (a.toList == b.toList)) := rfl
theorem str_neq (a b : ByteArray) : binV .neq (.string a) (.string b) = some (.bool (!(a.toList == b.toList))) := rfl
theorem str_lss (a b : ByteArray) : binV .lss (.string a) (.string b) = some (.bool (Op.bytesLess a.toList b.toList)) := rfl
theorem extract_0 (a : Value) (l : List Value) : extractV 0 (.tuple (a :: l).toArray) = some a := by simp [extractV]
theorem extract_1 (a b : Value) (l : List Value) : extractV 1 (.tuple (a :: b :: l).toArray) = some b := by simp [extractV]
theorem extract_2 (a b c : Value) (l : List Value) : extractV 2 (.tuple (a :: b :: c :: l).toArray) = some c := by simp [extractV]

theorem pur {r : Option Value} {v : Value} {K : Value → Prop} (h : r = some v) (hK : K v) : PureS r K := by rw [h]; exact hK
theorem add64 {a b c : Int} (h : a + b = c) (h0 : -9223372036854775808 ≤ c) (h1 : c ≤ 9223372036854775807) : binV .add (.int .i64 a) (.int .i64 b) = some (.int .i64 c) := by rw [bin_add, h, wi64 h0 h1]
theorem sub64 {a b c : Int} (h : a - b = c) (h0 : -9223372036854775808 ≤ c) (h1 : c ≤ 9223372036854775807) : binV .sub (.int .i64 a) (.int .i64 b) = some (.int .i64 c) := by rw [bin_sub, h, wi64 h0 h1]
theorem conv64u {k : IntKind} {a : Int} (h0 : 0 ≤ a) (h1 : a ≤ 18446744073709551615) : convIntV .u64 (.int k a) = some (.int .u64 a) := by rw [conv_int, wu64 h0 h1]
theorem conv64 {k : IntKind} {a : Int} (h0 : -9223372036854775808 ≤ a) (h1 : a ≤ 9223372036854775807) : convIntV .i64 (.int k a) = some (.int .i64 a) := by rw [conv_int, wi64 h0 h1]
theorem conv32u {k : IntKind} {a : Int} (h0 : 0 ≤ a) (h1 : a ≤ 4294967295) : convIntV .u32 (.int k a) = some (.int .u32 a) := by rw [conv_int, wu32 h0 h1]
theorem conv8u {k : IntKind} {a : Int} : convIntV .u8 (.int k a) = some (.int .u8 (a % 256)) := by rw [conv_int, wu8_mod]

/-! ### a slice that reads as cells -/
def Sl (w : World) (x : Value) (m size : Nat) (xs : List Value) : Prop :=
  ∃ A c, x = .slice A m c ∧ xs.length = m * size ∧ m ≤ c ∧ (A = none → m = 0) ∧ ∀ ad, A = some ad → At w ad xs
namespace Sl
variable {S : Nat → Prop} {w w' : World} {x : Value} {m size : Nat} {xs : List Value}
theorem nil_ (w : World) (size : Nat) : Sl w (.slice none 0 0) 0 size [] := ⟨none, 0, rfl, by simp, Nat.le_refl _, fun _ => rfl, fun _ h => by cases h⟩
theorem ext (h : Sl w x m size xs) (e : Ext S w w') (hn : ∀ g, x.ownBlock = some g → ¬ S g) : Sl w' x m size xs := by
  obtain ⟨A, c, rfl, hl, hc, h0, hA⟩ := h
  refine ⟨A, c, rfl, hl, hc, h0, fun ad hA' i v hv => ?_⟩
  subst hA'
  have hcell := hA ad rfl i v hv
  have hlt := World.block_lt_of_cell? _ _ hcell
  rw [Addr.add_block] at hlt
  rw [e.cell (by rw [Addr.add_block]; exact hlt) (by rw [Addr.add_block]; exact hn _ rfl)]
  exact hcell
theorem no (h : Sl w x m size xs) (e : Ext No w w') : Sl w' x m size xs := h.ext e fun _ _ hh => hh
theorem len (h : Sl w x m size xs) : lenSliceV x = some (.int .i64 m) := by obtain ⟨A, c, rfl, _⟩ := h; rfl
theorem length (h : Sl w x m size xs) : xs.length = m * size := by obtain ⟨A, c, rfl, hl, _⟩ := h; exact hl
/-- the i-th element's address, and its cells -/
theorem at_ (h : Sl w x m size xs) {i : Nat} (hi : i < m) : ∃ ad, indexAddrV size x (.int .i64 (i : Int)) = some (.pointer (some ad)) ∧ At w ad ((xs.drop (i * size)).take size) ∧ (x.ownBlock = some ad.block) := by
  obtain ⟨A, c, rfl, hl, hc, h0, hA⟩ := h
  cases A with
  | none => have := h0 rfl; omega
  | some ad =>
    refine ⟨ad.add (i * size), ?_, ((hA ad rfl).drop _).take _, by simp [Value.ownBlock, Addr.add_block]⟩
    rw [index_sl ⟨by omega, by omega⟩]; simp
theorem own {base : Nat} {e : TypeId} (h : w.ownsRow base e size x m xs) : Sl w x m size xs := by
  refine ⟨x.ownBlock.map fun g => ⟨g, 0, none⟩, ?_⟩
  have hc := fun g hg => h.cells (g := g) hg
  rcases h.2 with ⟨rfl, rfl⟩ | ⟨g, cap, cur, rfl, hb, hg, hnc, _⟩
  · exact ⟨0, rfl, h.1, Nat.le_refl _, fun _ => rfl, fun _ h => by cases h⟩
  · refine ⟨cap, rfl, h.1, hnc, (fun h => by cases h), (fun ad had => ?_)⟩
    simp only [Value.ownBlock, Option.map_some, Option.some.injEq] at had
    subst had
    exact fun i v hv => hc g rfl i v hv
end Sl
def flat {α : Type} (f : α → List Value) (l : List α) : List Value := l.flatMap f
theorem flat_nil {α : Type} (f : α → List Value) : flat f [] = [] := rfl
theorem flat_append {α : Type} (f : α → List Value) (l r : List α) : flat f (l ++ r) = flat f l ++ flat f r := by simp [flat]
theorem flat_one {α : Type} (f : α → List Value) (a : α) : flat f [a] = f a := by simp [flat]
theorem flat_length {α : Type} (f : α → List Value) {size : Nat} (hf : ∀ a, (f a).length = size) (l : List α) : (flat f l).length = l.length * size := by
  induction l with
  | nil => simp [flat]
  | cons a l ih => simp only [flat, List.flatMap_cons, List.length_append, hf, List.length_cons] at ih ⊢; rw [ih, Nat.add_mul]; omega
theorem flat_at {α : Type} (f : α → List Value) {size : Nat} (hf : ∀ a, (f a).length = size) : ∀ (l : List α) (i : Nat) (a : α), l[i]? = some a → ((flat f l).drop (i * size)).take size = f a
  | [], i, a, h => by simp at h
  | x :: l, 0, a, h => by
    simp only [List.getElem?_cons_zero, Option.some.injEq] at h
    subst h
    have : flat f (x :: l) = f x ++ flat f l := by simp [flat]
    rw [this]
    simp [← hf x]
  | x :: l, i + 1, a, h => by
    have : flat f (x :: l) = f x ++ flat f l := by simp [flat]
    rw [this, show (i + 1) * size = (f x).length + i * size by rw [hf, Nat.add_mul]; omega, List.drop_append]
    simp only [List.drop_length_add_append, Nat.add_sub_cancel_left]
    have h0 : (f x).drop ((f x).length + i * size) = [] := by simp
    rw [h0, List.nil_append]
    exact flat_at f hf l i a (by simpa using h)
theorem flat_take {α : Type} (f : α → List Value) {size : Nat} (hf : ∀ a, (f a).length = size) : ∀ (l : List α) (i : Nat), (flat f l).take (i * size) = flat f (l.take i)
  | [], i => by simp [flat]
  | x :: l, 0 => by simp [flat]
  | x :: l, i + 1 => by
    have : flat f (x :: l) = f x ++ flat f l := by simp [flat]
    have h2 : flat f ((x :: l).take (i + 1)) = f x ++ flat f (l.take i) := by simp [flat]
    rw [this, h2, show (i + 1) * size = (f x).length + i * size by rw [hf, Nat.add_mul]; omega, List.take_length_add_append, flat_take f hf l i]
theorem flat_drop {α : Type} (f : α → List Value) {size : Nat} (hf : ∀ a, (f a).length = size) : ∀ (l : List α) (i : Nat), (flat f l).drop (i * size) = flat f (l.drop i)
  | [], i => by simp [flat]
  | x :: l, 0 => by simp [flat]
  | x :: l, i + 1 => by
    have : flat f (x :: l) = f x ++ flat f l := by simp [flat]
    have h2 : flat f ((x :: l).drop (i + 1)) = flat f (l.drop i) := by simp [flat]
    rw [this, h2, show (i + 1) * size = (f x).length + i * size by rw [hf, Nat.add_mul]; omega, List.drop_length_add_append, flat_drop f hf l i]

/-! ### append -/
/-- what a type is good for, off a program's table -/
structure ElemT (P : Program) (t e : TypeId) (size bytes : Nat) (z : Value) : Prop where
  under : P.underlying t = some (.slice e)
  info : (P.info? e).map (fun i => (i.zero, i.size, i.bytes)) = some (some z, size, bytes)
  zs : z.cells.size = size
  pos : 0 < size
  small : size ≤ 1000
section
variable {P : Program} {t e : TypeId} {size bytes : Nat} {z : Value}
theorem run_append_none (hT : ElemT P t e size bytes z) (ty : TypeId) {w : World} {base n c : Nat} {v : Value} {xs : List Value} (hown : w.ownsRow base e size v n xs) :
    (Builtin.append_ #[t, t] ty #[v, .slice none 0 c]).run P w = .ok v w := by
  obtain ⟨i, hi, hz, hs, hb⟩ := info_parts hT.info
  rcases hown.2 with ⟨rfl, rfl⟩ | ⟨g, cap, cur, rfl, _, _, hnc, _⟩
  · simp [Builtin.append_, run_underlying hT.under, Go.sizeOf, typeInfo, hi, Builtin.lenOf, Builtin.firstCells]
  · simp [Builtin.append_, run_underlying hT.under, Go.sizeOf, typeInfo, hi, Builtin.lenOf, Builtin.firstCells, hnc, storeCells]
theorem append_sl (hT : ElemT P t e size bytes z) (ty : TypeId) {w : World} {base n m : Nat} {v x : Value} {xs news : List Value} {K : Value → World → Prop} (hown : w.ownsRow base e size v n xs)
    (hs : Sl w x m size news) (h1 : ∀ u ∈ news, u.oneCell' = true) (hbytes : (n + m) * bytes ≤ 140737488355328) (h63 : n + m ≤ 140737488355328) (hbase : base ≤ w.heap.size)
    (hK : ∀ v' w', w'.ownsRow base e size v' (n + m) (xs ++ news) → w.grownBy w' v.ownBlock → (v'.ownBlock = v.ownBlock ∨ v'.ownBlock = some w.heap.size) → K v' w') :
    RunS P (Builtin.append_ #[t, t] ty [v, x].toArray) K w := by
  obtain ⟨i, hi, hz, hsz, hb⟩ := info_parts hT.info
  obtain ⟨A, c, rfl, hl, hc, h0, hA⟩ := hs
  cases A with
  | none =>
    have hm := h0 rfl
    subst hm
    have hn : news = [] := List.eq_nil_of_length_eq_zero (by simpa using hl)
    subst hn
    exact runS (run_append_none hT ty hown) (hK v w (by simpa using hown) (World.grownBy.refl w _) (.inl rfl))
  | some ad =>
    obtain ⟨v', w', hrun, h2, h3, _, h5⟩ := run_append_own_at (P := P) w base t ty e i z size bytes hT.under hi hz hsz hb hT.zs hT.pos v n xs hown ad m c news hl (hA ad rfl) h1 (by unfold maxLen; omega) hbytes hbase
    exact runS hrun (hK v' w' h2 h3 h5)
theorem append_str (hT : ElemT P t e 1 1 (.int .u8 0)) {u : TypeId} (hu : P.underlying u = some .string) (ty : TypeId) {w : World} {base n : Nat} {v : Value} {s : ByteArray} {xs : List Value} {K : Value → World → Prop} (hown : w.ownsRow base e 1 v n xs)
    (h63 : n + s.size ≤ 140737488355328) (hbase : base ≤ w.heap.size)
    (hK : ∀ v' w', w'.ownsRow base e 1 v' (n + s.size) (xs ++ strCells s) → w.grownBy w' v.ownBlock → K v' w') :
    RunS P (Builtin.append_ #[t, u] ty [v, .string s].toArray) K w := by
  obtain ⟨i, hi, hz, hsz, hb⟩ := info_parts hT.info
  obtain ⟨v', w', hrun, h2, h3, _⟩ := run_append_own_string (P := P) w base t u ty e i hT.under hu hi hz hsz hb v n xs hown s (by unfold maxLen; omega) h63 hbase
  exact runS hrun (hK v' w' h2 h3)

theorem fill_foldl : ∀ (l : List Value) (k : Nat) (acc : Array Value), acc.size = k + l.length → ((l.zipIdx k).foldl (fun cs (p : Value × Nat) => cs.setIfInBounds (0 + p.2) p.1) acc).toList = acc.toList.take k ++ l
  | [], k, acc, h => by
    have hk : acc.toList.length ≤ k := by simp at h; simp [h]
    simp [List.take_of_length_le hk]
  | x :: l, k, acc, h => by
    simp only [List.length_cons] at h
    rw [List.zipIdx_cons, List.foldl_cons, fill_foldl l (k + 1) _ (by simp; omega)]
    simp only [Array.toList_setIfInBounds, Nat.zero_add]
    have hk : k < acc.toList.length := by simp; omega
    rw [List.take_succ_eq_append_getElem (by simpa using hk), List.take_set]
    have : (List.take k acc.toList).set k x = List.take k acc.toList := List.set_eq_of_length_le (by simp; omega)
    simp [this]
theorem fill_one {size : Nat} {cells : Array Value} {v : Value} (hv : v.cells.size = size) (hc : cells.size = size) : Instr.fill (fun i => some (i * size, size)) cells [(0, v)] = some v.cells := by
  have h1 : (v.cells.zipIdx.foldl (fun cs (p : Value × Nat) => cs.setIfInBounds (0 + p.2) p.1) cells) = v.cells := by
    apply Array.ext'
    rw [← Array.foldl_toList, Array.toList_zipIdx, fill_foldl _ 0 cells (by simp [hc, hv])]
    simp
  simp only [Instr.fill, Nat.zero_mul, hv, hc]
  simp
  simpa using h1
theorem build1 (hT : ElemT P t e size bytes z) {v : Value} (hv : v.cells.size = size) {w : World} {K : Value → World → Prop}
    (hK : ∀ w', Blk w' w.heap.size e v.cells.toList → Ext No w w' → w'.heap.size = w.heap.size + 1 → K (.slice (some ⟨w.heap.size, 0, none⟩) 1 1) w') :
    RunS P (Instr.buildSlice t 1 [(0, v)].toArray) K w := by
  obtain ⟨i, hi, hz, hsz, hb⟩ := info_parts hT.info
  have hs := hT.small
  have hpos := hT.pos
  refine runS (v := .slice (some ⟨w.heap.size, 0, none⟩) 1 1) (w' := w.alloc (.cells v.cells e)) ?_ (hK _ ?_ (Ext.alloc w _) (by simp))
  · have hne : size ≠ 0 := by omega
    have hle : ¬ 16777216 < size := by omega
    simp [Instr.buildSlice, run_underlying hT.under, Go.sizeOf, typeInfo, hi, hsz, zeroValue, hz, hne, hle, newRow]
    rw [fill_one hv (by simp)]
    rfl
  · have := Blk.new w v.cells.toList e
    simpa using this
theorem build0 (hT : ElemT P t e size bytes z) {w : World} {K : Value → World → Prop}
    (hK : ∀ w', Blk w' w.heap.size e [] → Ext No w w' → w'.heap.size = w.heap.size + 1 → K (.slice (some ⟨w.heap.size, 0, none⟩) 0 0) w') :
    RunS P (Instr.buildSlice t 0 [].toArray) K w := by
  obtain ⟨i, hi, hz, hsz, hb⟩ := info_parts hT.info
  refine runS (v := .slice (some ⟨w.heap.size, 0, none⟩) 0 0) (w' := w.alloc (.cells #[] e)) ?_ (hK _ (Blk.new w [] e) (Ext.alloc w _) (by simp))
  simp [Instr.buildSlice, run_underlying hT.under, Go.sizeOf, typeInfo, hi, hsz, newRow, Instr.fill, Array.range_zero']
end
theorem Blk.sl {w : World} {g : Nat} {t : TypeId} {cs : List Value} (h : Blk w g t cs) {n c size : Nat} (hn : n * size = cs.length) (hc : n ≤ c) : Sl w (.slice (some ⟨g, 0, none⟩) n c) n size cs :=
  ⟨some ⟨g, 0, none⟩, c, rfl, hn.symm, hc, (fun h => by cases h), (fun ad had => by cases had; exact At.of_blk h)⟩
theorem Blk.owns {w : World} {g : Nat} {t : TypeId} {cs : List Value} (h : Blk w g t cs) {n size base : Nat} (hn : n * size = cs.length) (hb : base ≤ g) (hm : n ≤ 140737488355328) : w.ownsRow base t size (.slice (some ⟨g, 0, none⟩) n n) n cs :=
  ⟨hn.symm, .inr ⟨g, n, cs.toArray, rfl, hb, h, Nat.le_refl _, by unfold maxLen; omega, by simp [hn], by simp [hn]⟩⟩
theorem owns_ext {S : Nat → Prop} {w w' : World} {base : Nat} {e : TypeId} {size n : Nat} {v : Value} {xs : List Value} (h : w.ownsRow base e size v n xs) (k : Ext S w w') (hn : ∀ g, v.ownBlock = some g → ¬ S g) : w'.ownsRow base e size v n xs := by
  refine ⟨h.1, ?_⟩
  rcases h.2 with h0 | ⟨g, cap, cur, rfl, hb, hg, rest⟩
  · exact .inl h0
  · exact .inr ⟨g, cap, cur, rfl, hb, (k.blk g (Array.getElem?_eq_some_iff.1 hg).1 (hn g rfl)).trans hg, rest⟩
theorem owns_base {w : World} {base base' : Nat} {e : TypeId} {size n : Nat} {v : Value} {xs : List Value} (h : w.ownsRow base e size v n xs) (hb : ∀ g, v.ownBlock = some g → base' ≤ g) : w.ownsRow base' e size v n xs := by
  refine ⟨h.1, ?_⟩
  rcases h.2 with h0 | ⟨g, cap, cur, rfl, _, hg, rest⟩
  · exact .inl h0
  · exact .inr ⟨g, cap, cur, rfl, hb g rfl, hg, rest⟩

/-! ### bytes -/
def byteCells (l : List UInt8) : List Value := l.map fun b => .int .u8 (b.toNat : Int)
theorem byteCells_append (l r : List UInt8) : byteCells (l ++ r) = byteCells l ++ byteCells r := by simp [byteCells]
theorem byteCells_length (l : List UInt8) : (byteCells l).length = l.length := by simp [byteCells]
theorem byteCells_one (l : List UInt8) : ∀ u ∈ byteCells l, u.oneCell' = true := by
  intro u hu
  simp only [byteCells, List.mem_map] at hu
  obtain ⟨b, _, rfl⟩ := hu
  rfl
theorem strCells_eq (s : ByteArray) : strCells s = byteCells s.data.toList := rfl
end SG
