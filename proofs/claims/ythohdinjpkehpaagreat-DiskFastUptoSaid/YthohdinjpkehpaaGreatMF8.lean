/- Several texts of ours, laid one behind the other. -/
import Derived.Test.YthohdinjpkehpaaGreatMF7
import Derived.Lib.SlBytesConst
namespace Go.Proofs.YthohdinjpkehpaaGreat
open Go SG Go.RowKit
set_option linter.unusedVariables false
set_option maxRecDepth 4000
set_option linter.unusedSimpArgs false

def intC (l : List Int) : List Value := l.map fun n => .int .i64 n
def SlI (w : World) (v : Value) (l : List Int) : Prop := Sl w v l.length 1 (intC l)
def turnV (l : List Int) (k : Nat) : Int := max ((l[k % l.length]?).getD 0) 0
theorem turnV_nil (k : Nat) : turnV [] k = 0 := rfl
theorem turnV_nn (l : List Int) (k : Nat) : 0 ≤ turnV l k := by unfold turnV; omega
def I64 (n : Int) : Prop := -9223372036854775808 ≤ n ∧ n ≤ 9223372036854775807
theorem turnV_le {l : List Int} (h : ∀ n ∈ l, I64 n) (k : Nat) : turnV l k ≤ 9223372036854775807 := by
  unfold turnV
  cases hl : l[k % l.length]? with
  | none => simp
  | some x =>
    have := (h x (List.mem_of_getElem? hl)).2
    simp only [Option.getD_some]; omega
theorem okTurn : okFunc Tryz.prog 76 = true := by kernel_rfl
section
variable {w : World} {K : Value → World → Prop}
theorem cturns {v : Value} (hv : v.oneCell' = true) (hvc : v.cells = #[v]) (hK : ∀ w' lb nb, w.heap.size ≤ lb → w.heap.size ≤ nb → lb ≠ nb → Blk w' lb 23 [v] → Blk w' nb 3 [.int .i64 0] → Ext No w w' → K (.func (.func 76) #[] #[ptrE lb, ptrE nb]) w') : CallS Tryz.prog 25 #[v] K w := by
  refine s25_call hm ?_
  unfold s25
  refine box fun w1 b1 e1 z1 => box fun w2 b2 e2 z2 => storeB b2 (by simp [Value.cells]) rfl fun w3 b3 e3 z3 => ?_
  rw [hvc] at b1
  have hne : w.heap.size ≠ w1.heap.size := by omega
  exact hK w3 w.heap.size w1.heap.size (Nat.le_refl _) e1.size hne ((Blk.no (cs := [v]) b1 e2).ext e3 (fun hh => hne hh)) b3 ((e1.trans e2).fresh e3 fun b hb => .inr (by rw [show b = w1.heap.size from hb]; exact e1.size))
theorem cturn {lb nb k : Nat} {v : Value} {l : List Int} (hl : Blk w lb 23 [v]) (hn : Blk w nb 3 [.int .i64 (k : Int)]) (hs : SlI w v l) (hi : ∀ n ∈ l, I64 n) (hll : l.length ≤ 4611686018427387904) (hk : k ≤ 4611686018427387904)
    (hsb : l = [] ∨ ∀ b, v.ownBlock = some b → b ≠ nb) (hne : lb ≠ nb)
    (hK : ∀ (w' : World) (k' : Nat), Blk w' nb 3 [.int .i64 (k' : Int)] → (l ≠ [] → k' = k + 1) → (l = [] → k' = k) → Ext (At1 nb) w w' → K (.int .i64 (turnV l k)) w') : CallS Tryz.prog 76 #[ptrE lb, ptrE nb] K w := by
  refine s76_call hm ?_
  unfold s76
  refine loadB hl rfl (pur hs.len (pur (bin_eql _ _ _) (condD (fun hz => ?_) (fun hz => ?_))))
  · have h0 : l = [] := List.length_eq_zero_iff.1 (by omega)
    have := hK w k hn (fun h => absurd h0 h) (fun _ => rfl) (Ext.refl _ _)
    rw [h0, turnV_nil] at this
    exact this
  · have hne' : l ≠ [] := fun h => hz (by rw [h]; rfl)
    have hpos : 0 < l.length := List.length_pos_iff.2 hne'
    refine loadB hn rfl (pur (add64 (c := ((k + 1 : Nat) : Int)) (by omega) (by omega) (by omega)) (storeB hn (by simp) rfl fun w1 b1 e1 z1 => ?_))
    have b1' : Blk w1 nb 3 [.int .i64 ((k + 1 : Nat) : Int)] := b1
    have ed := Ext.drew (S := No) w1
    have b1d := b1'.no ed
    have hl1 := (hl.ext e1 (fun hh => hne (by rw [show lb = nb from hh]))).no ed
    have hs1 : SlI w1.drew v l := (Sl.ext hs e1 fun b hb hh => hsb.resolve_left hne' b hb hh).no ed
    have hlt : k % l.length < l.length := Nat.mod_lt _ hpos
    obtain ⟨x, hx⟩ := getN (xs := l) (i := k % l.length) hlt
    obtain ⟨ad, q1, q2, q3⟩ := sl_idx1 hs1 (i := k % l.length) (v := .int .i64 x) (by unfold intC; rw [List.getElem?_map, hx]; rfl) .i64
    refine draw (fun w' => w' = w1.drew) rfl ?_
    refine heldC (v := v) (fun w' hh => by rw [hh]; exact hl1.cell 0) (heldC (v := .int .i64 ((k + 1 : Nat) : Int)) (fun w' hh => by rw [hh]; exact b1d.cell 0) (pur (sub64 (c := (k : Int)) (by omega) (by omega) (by omega)) ?_))
    refine heldC (v := v) (fun w' hh => by rw [hh]; exact hl1.cell 0) (pur hs1.len (pur (v := .int .i64 ((k % l.length : Nat) : Int)) ((bin_rem _ _ _ (by omega)).trans (by
      congr 2)) (pur q1 ?_)))
    refine heldC (v := .int .i64 x) (fun w' hh => by rw [hh]; exact q3 _ hs1) (pur (v := .int .i64 (turnV l k)) ((max_int _ _ _ _).trans ?_) (hK _ (k + 1) b1d (fun _ => rfl) (fun h => absurd h hne') (e1.trans ed.no)))
    unfold turnV
    rw [hx]
    simp only [Option.getD_some]
    congr 2
    split <;> omega
end
end Go.Proofs.YthohdinjpkehpaaGreat

namespace Go.Proofs.YthohdinjpkehpaaGreat
open Go SG Go.RowKit
set_option linter.unusedVariables false
set_option maxRecDepth 4000
set_option linter.unusedSimpArgs false

def keepN (f : Fi) (l : List Int) (k : Nat) : Nat := ((turnV l k).tmod (IntKind.i64.wrap (f.openI + 1))).toNat
def Fi.crash (f : Fi) (l : List Int) (k : Nat) : Fi := ⟨keptB f.fast f.ws (keepN f l k), []⟩
theorem openI_le (f : Fi) : f.openI ≤ 9223372036854775807 ∧ -9223372036854775808 ≤ f.openI := by
  unfold Fi.openI
  rw [IntKind.wrap_i64]; omega
theorem okCrash : okFunc Tryz.prog 28 = true := by kernel_rfl
theorem tmod_nn {a b : Int} (ha : 0 ≤ a) : 0 ≤ a.tmod b := Int.tmod_nonneg b ha
theorem tmod_le {a b : Int} (ha : 0 ≤ a) : a.tmod b ≤ a := by
  have h := Int.natAbs_tmod a b
  have h2 := tmod_nn (b := b) ha
  have h3 : (a.tmod b).natAbs ≤ a.natAbs := by rw [h]; exact Nat.mod_le _ _
  omega
section
variable {T : Tags} {w : World} {d i gf : Nat} {f : Fi} {K : Value → World → Prop}
theorem ccrash (h : FilR T d i w gf f) {B n : Nat} (hf : FiOk B f) (hB : B ≤ 536870912) (hl : f.ws.length ≤ n) (hn : n ≤ 2199023255552) {p : El} {first : Bool} {kb lb nb k : Nat} {v : Value} {l : List Int} {ft : TypeId}
    (hkb : Blk w kb ft [.func (.func 76) #[] #[ptrE lb, ptrE nb]]) (hlb : Blk w lb 23 [v]) (hnb : Blk w nb 3 [.int .i64 (k : Int)]) (hs : SlI w v l) (hi : ∀ n ∈ l, I64 n) (hll : l.length ≤ 4611686018427387904) (hk : k ≤ 4611686018427387904) (hsb : l = [] ∨ ∀ b, v.ownBlock = some b → b ≠ nb) (hne : lb ≠ nb) (hkbn : kb ≠ nb) (htk : T kb = .tmp) (htlb : T lb = .tmp) (htn : T nb = .tmp)
    (h0 : ∀ w', (first = false ∨ f.openI ≤ 0) → Ext No w w' → K (.tuple #[]) w')
    (hK : ∀ (w' : World) (T' : Tags) (k' : Nat), first = true → 0 < f.openI → FilR T' d i w' gf (f.crash l k) → Blk w' nb 3 [.int .i64 (k' : Int)] → Blk w' kb ft [.func (.func 76) #[] #[ptrE lb, ptrE nb]] → Blk w' lb 23 [v] → (l ≠ [] → k' = k + 1) → (l = [] → k' = k) → Gon (fun t => t = .tmp ∨ t = .own d (.file i)) w T w' T' → K (.tuple #[]) w') :
    CallS Tryz.prog 28 #[encE p, ptrE gf, .bool first, ptrE kb] K w := by
  refine s28_call hm ?_
  unfold s28
  have ho := openI_le f
  refine cunsynced h (by omega) fun w1 e1 => ?_
  refine join1 (fun t w' => w1 = w' ∧ (first = true → t = .bool (decide (0 < f.openI)))) ?_ fun J0 hJ0 => ?_
  rotate_left
  · rw [ifB_eq]
    cases first with
    | true =>
      rw [if_pos rfl]
      exact pur (bin_gtr _ _ _) (hJ0 _ _ ⟨rfl, fun _ => rfl⟩)
    | false => exact hJ0 _ _ ⟨rfl, fun h => by cases h⟩
  rintro t _ ⟨rfl, ht⟩
  refine pur (v := .bool (decide (first = true ∧ 0 < f.openI))) ((pick_b _ _ _).trans (by
    cases first with
    | true => rw [ht rfl]; simp
    | false => simp)) (condD (fun hdo => ?_) (fun hno => h0 w1 (by
      cases first with
      | true => right; exact Int.not_lt.1 fun h => hno ⟨rfl, h⟩
      | false => exact .inl rfl) e1))
  refine loadB (hkb.no e1) rfl (callF okTurn ?_)
  show CallS Tryz.prog 76 #[ptrE lb, ptrE nb] _ w1
  refine cturn (hlb.no e1) (hnb.no e1) (Sl.no hs e1) hi hll hk hsb hne fun w2 k' b2 q1 q2 e2 => ?_
  have k2 : Gon (fun t => t = .tmp ∨ t = .own d (.file i)) w T w2 T := (Gon.no e1).trans (Gon.at1 e2 htn (.inl rfl))
  have hT2 : Gon Tmp w T w2 T := (Gon.no e1).trans (Gon.at1 e2 htn rfl)
  have hF2 := h.keep hT2 (fun h => by cases h) (fun h => by cases h)
  have hw1 : IntKind.i64.wrap (f.openI + 1) ≠ 0 := by rw [IntKind.wrap_i64]; omega
  have hnn := tmod_nn (b := IntKind.i64.wrap (f.openI + 1)) (turnV_nn l k)
  have hle := tmod_le (b := IntKind.i64.wrap (f.openI + 1)) (turnV_nn l k)
  have htl := turnV_le hi k
  have hkn : ((keepN f l k : Nat) : Int) = (turnV l k).tmod (IntKind.i64.wrap (f.openI + 1)) := by unfold keepN; omega
  refine pur (bin_add _ _ _) (pur (v := .int .i64 ((keepN f l k : Nat) : Int)) ((bin_rem _ _ _ hw1).trans (by rw [hkn])) ?_)
  refine ckept hF2 hf (by omega) (by omega) (by omega) fun w3 T3 hF3 k3 => ?_
  have b3 := b2.ext k3.ext (by rw [htn]; intro h; cases h)
  have kb3 := ((hkb.no e1).ext e2 hkbn).ext k3.ext (by rw [htk]; intro h; cases h)
  have lb3 := ((hlb.no e1).ext e2 hne).ext k3.ext (by rw [htlb]; intro h; cases h)
  exact hK w3 T3 k' hdo.1 hdo.2 hF3 b3 kb3 lb3 q1 q2 (k2.trans (k3.mono fun t h => .inr h))
end
end Go.Proofs.YthohdinjpkehpaaGreat

namespace Go.Proofs.YthohdinjpkehpaaGreat
open Go SG Go.RowKit
set_option linter.unusedVariables false
set_option maxRecDepth 4000
set_option linter.unusedSimpArgs false

def stayN (D : Di) (l : List Int) (k : Nat) : Nat := ((turnV l k).tmod ((D.was.length + 1 : Nat) : Int)).toNat
def Di.crash (D : Di) (l : List Int) (k : Nat) : Di := ⟨D.name, [], ((D.was[stayN D l k]?).getD D.now)⟩
def crashDirs : List Di → List Int → Nat → List Di
  | [], _, _ => []
  | D :: r, l, k => if D.was = [] then D :: crashDirs r l k else D.crash l k :: crashDirs r l (k + 1)
def cntD (l : List Di) : Nat := (l.filter fun D => !D.was.isEmpty).length
theorem cntD_cons (D : Di) (l : List Di) : cntD (D :: l) = (if D.was = [] then 0 else 1) + cntD l := by
  unfold cntD
  rw [List.filter_cons]
  cases D.was with
  | nil => simp
  | cons a b => simp; omega
theorem cntD_le (l : List Di) : cntD l ≤ l.length := List.length_filter_le _ _
theorem crashDirs_app (l : List Int) : ∀ (a b : List Di) (k : Nat), crashDirs (a ++ b) l k = crashDirs a l k ++ crashDirs b l (k + cntD a)
  | [], b, k => by simp [crashDirs, cntD]
  | D :: a, b, k => by
    rw [List.cons_append, crashDirs, crashDirs, cntD_cons]
    split
    · rw [crashDirs_app l a b k]; simp
    · rw [crashDirs_app l a b (k + 1), show k + 1 + cntD a = k + (1 + cntD a) by omega]; simp
theorem crashDirs_names (l : List Int) : ∀ (a : List Di) (k : Nat), (crashDirs a l k).map (·.name) = a.map (·.name)
  | [], _ => rfl
  | D :: a, k => by
    rw [crashDirs]
    split
    · rw [List.map_cons, List.map_cons, crashDirs_names l a k]
    · rw [List.map_cons, List.map_cons, crashDirs_names l a (k + 1)]; rfl
theorem crashDirs_len (l : List Int) (a : List Di) (k : Nat) : (crashDirs a l k).length = a.length := by
  have := congrArg List.length (crashDirs_names l a k)
  simpa using this
def dirsAt (l : List Di) (cl : List Int) (j : Nat) : List Di := crashDirs (l.take j) cl 0 ++ l.drop j
theorem dirsAt_zero (l : List Di) (cl : List Int) : dirsAt l cl 0 = l := by simp [dirsAt, crashDirs]
theorem dirsAt_all (l : List Di) (cl : List Int) {j : Nat} (h : l.length ≤ j) : dirsAt l cl j = crashDirs l cl 0 := by
  unfold dirsAt
  rw [List.take_of_length_le h, List.drop_of_length_le h, List.append_nil]
theorem dirsAt_mem {l : List Di} {cl : List Int} {j : Nat} {D : Di} (h : l[j]? = some D) : D ∈ dirsAt l cl j := by
  unfold dirsAt
  have := List.getElem?_eq_some_iff.1 h
  rw [List.drop_eq_getElem_cons this.1, this.2]
  simp
theorem dirsAt_succ {l : List Di} {cl : List Int} {j : Nat} {D : Di} (h : l[j]? = some D) :
    dirsAt l cl (j + 1) = crashDirs (l.take j) cl 0 ++ ((if D.was = [] then D else D.crash cl (cntD (l.take j))) :: l.drop (j + 1)) ∧ dirsAt l cl j = crashDirs (l.take j) cl 0 ++ (D :: l.drop (j + 1)) := by
  have h1 := List.getElem?_eq_some_iff.1 h
  constructor
  · unfold dirsAt
    rw [List.take_add_one, h, crashDirs_app]
    simp only [Option.toList_some, crashDirs, Nat.zero_add]
    split <;> simp
  · unfold dirsAt
    rw [List.drop_eq_getElem_cons h1.1, h1.2]
end Go.Proofs.YthohdinjpkehpaaGreat

namespace Go.Proofs.YthohdinjpkehpaaGreat
open Go SG Go.RowKit
set_option linter.unusedVariables false
set_option maxRecDepth 4000
set_option linter.unusedSimpArgs false

theorem setD_mid {P R : List Di} {D D' : Di} (hn : D'.name = D.name) (hd : ((P ++ D :: R).map (·.name)).Nodup) : (P ++ D :: R).map (fun E => if E.name = D'.name then D' else E) = P ++ D' :: R := by
  rw [List.map_append, List.map_cons] at hd
  have hd' := List.nodup_append.1 hd
  have h2 := List.nodup_cons.1 hd'.2.1
  rw [List.map_append, List.map_cons, if_pos hn.symm, hn]
  have same : ∀ L : List Di, (∀ E ∈ L, E.name ≠ D.name) → L.map (fun E => if E.name = D.name then D' else E) = L := fun L hL => by
    refine (List.map_congr_left fun E hE => if_neg (hL E hE)).trans (List.map_id _)
  rw [same P fun E hE he => hd'.2.2 _ (List.mem_map.2 ⟨E, hE, rfl⟩) _ (by simp) he, same R fun E hE he => h2.1 (List.mem_map.2 ⟨E, hE, he⟩)]
theorem OrdD.nodup {l : List Di} (h : OrdD l) : (l.map (·.name)).Nodup := by
  rw [List.Nodup, List.pairwise_map]
  exact h.imp fun h => ltE_ne h
theorem dirsAt_names (l : List Di) (cl : List Int) (j : Nat) : (dirsAt l cl j).map (·.name) = l.map (·.name) := by
  unfold dirsAt
  rw [List.map_append, crashDirs_names, ← List.map_append, List.take_append_drop]
theorem dirsAt_set {l : List Di} {cl : List Int} {j : Nat} {D : Di} (ho : OrdD l) (h : l[j]? = some D) (hw : D.was ≠ []) :
    (dirsAt l cl j).map (fun E => if E.name = (D.crash cl (cntD (l.take j))).name then D.crash cl (cntD (l.take j)) else E) = dirsAt l cl (j + 1) := by
  obtain ⟨h1, h2⟩ := dirsAt_succ (cl := cl) h
  have hd := ho.nodup
  rw [← dirsAt_names l cl j, h2] at hd
  rw [h1, h2, if_neg hw]
  exact setD_mid rfl hd
def ArgI (T : Tags) (w : World) (v : Value) (l : List Int) : Prop := SlI w v l ∧ (l = [] ∨ ∀ b, v.ownBlock = some b → b < w.heap.size ∧ (T b = .free ∨ T b = .ice))
theorem ArgI.keep {T T' : Tags} {w w' : World} {v : Value} {l : List Int} {M : Tag → Prop} (h : ArgI T w v l) (k : Gon M w T w' T') (hf : ¬ M .free) (hi : ¬ M .ice) : ArgI T' w' v l :=
  h.2.elim (fun h0 => by subst h0; exact ⟨sl_empty h.1, .inl rfl⟩) fun h2 => ⟨Sl.ext h.1 k.ext fun b hb hh => by rcases (h2 b hb).2 with h | h <;> rw [h] at hh <;> contradiction, .inr fun b hb => ⟨Nat.lt_of_lt_of_le (h2 b hb).1 k.ext.size, by rw [k.same b (h2 b hb).1]; exact (h2 b hb).2⟩⟩
theorem ArgI.of {T : Tags} {w : World} {v : Value} {l : List Int} (h : SlI w v l) (hT : ∀ b, T b = .ice) : ArgI T w v l :=
  ⟨h, (Classical.em (l = [])).imp id fun hn b hb => ⟨sl_lt h (fun h0 => hn (by cases l; rfl; cases h0)) hb, .inr (hT b)⟩⟩
section
variable {T : Tags} {w : World} {d g : Nat} {st : Dk} {md : Nat} {dm : List (El × Nat)} {ad : Nat → Option Nat} {K : World → Prop}
set_option maxHeartbeats 2000000 in
theorem Dx.crashD (hx : Dx T d w g st md dm ad) {D : Di} {gd lb nb kk k : Nat} {v : Value} {cl : List Int} (hD : D ∈ st.dirs) (hgd : mget dm D.name = some gd) (hw : D.was ≠ []) (hwl : D.was.length ≤ 2199023255552)
    (hlb : Blk w lb 23 [v]) (hnb : Blk w nb 3 [.int .i64 (kk : Int)]) (hs : ArgI T w v cl) (hi : ∀ n ∈ cl, I64 n) (hll : cl.length ≤ 4611686018427387904) (hk : kk ≤ 4611686018427387903) (hkk : cl ≠ [] → kk = k) (hne : lb ≠ nb) (htn : T nb = .tmp)
    (hK : ∀ (w' : World) (k' : Nat), Dx T d w' g (st.setD (D.crash cl k)) md dm ad → Blk w' nb 3 [.int .i64 (k' : Int)] → (cl ≠ [] → k' = k + 1) → k' ≤ kk + 1 → Gon (fun t => t = .tmp ∨ Dirt d D.name t) w T w' T → Ext (fun b => b = nb ∨ b = gd) w w' → K w') :
    JoinS (fun (w : World) => PureS (nilV (ptrE gd)) fun t62 => PureS (fieldAddrV 1 t62) fun t63 => StoreC t63 (Value.slice none 0 0) (fun w => K w) w) fun J3 =>
    DrawS fun S4 => S4 w.drew ∧ (PureS (nilV (ptrE gd)) fun t38 => PureS (fieldAddrV 1 t38) fun t39 => HeldC S4 t39 (fun t40 => PureS (lenSliceV t40) fun t41 => PureS (binV .add t41 (Value.int .i64 1)) fun t42 =>
      CallW' Tryz.prog false (.func (.func 76) #[] #[ptrE lb, ptrE nb]) [] NoP (fun t36 w => S4 w ∧ (PureS (binV .rem t36 t42) fun t43 =>
        PureS (nilV (ptrE gd)) fun t46 => PureS (fieldAddrV 1 t46) fun t47 => LoadC t47 (fun t48 w => PureS (lenSliceV t48) fun t49 => PureS (binV .lss t43 t49) fun t50 => CondS t50 (
        PureS (nilV (ptrE gd)) fun t53 => PureS (fieldAddrV 1 t53) fun t54 => LoadC t54 (fun t55 w => PureS (indexAddrV 1 t55 t43) fun t57 => LoadC t57 (fun t58 w => PureS (nilV (ptrE gd)) fun t59 => PureS (fieldAddrV 0 t59) fun t60 => StoreC t60 t58 (fun w => J3 w) w) w) w) (J3 w)) w)) w.drew)) := by
  have hxd := hx.no (Ext.drew w)
  obtain ⟨gd', hgd', hDR⟩ := hxd.body.some_ D hD
  rw [hgd] at hgd'
  cases hgd'
  obtain ⟨hT, mn, wv, bs, hb, hN, hbs, hrow, hwT, hall⟩ := hDR
  have ed := Ext.drew (S := No) w
  have hgn : gd ≠ nb := fun hh => by rw [hh, htn] at hT; cases hT
  have hwlen : 0 < D.was.length := List.length_pos_iff.2 hw
  have hnice : ¬ (fun t => t = Tag.tmp ∨ Dirt d D.name t) Tag.ice := fun h => h.elim (fun h => by cases h) fun h => by cases h
  refine join0 (fun w' => ∃ (mb k' : Nat), Blk w' gd 73 [.map (some mb), wv] ∧ (Blk w' nb 3 [.int .i64 (k' : Int)] ∧ (cl ≠ [] → k' = k + 1) ∧ k' ≤ kk + 1) ∧ NamR T ad w' mb ((D.was[stayN D cl k]?).getD D.now) ∧ Gon (fun t => t = .tmp ∨ Dirt d D.name t) w T w' T ∧ Ext (fun b => b = nb ∨ b = gd) w w') ?_ fun J3 hJ3 => ?_
  · rintro w3 ⟨mb, k', b3, ⟨n3, q1, hk'le⟩, hN3, k3, e3⟩
    refine pur (nil_ptr _) (pur (field_ptr _ _ _) (storeB b3 (by simp) rfl fun w4 b4 e4 z4 => ?_))
    have b4' : Blk w4 gd 73 [.map (some mb), .slice none 0 0] := b4
    have k34 : Gon (fun t => t = .tmp ∨ Dirt d D.name t) w3 T w4 T := Gon.at1 e4 hT (.inr rfl)
    have k4 := k3.trans k34
    have hmt : Gon Tmp w T w T := Gon.refl _ _
    -- the disk, seen from ahead
    have hx4 : Dx T d w4 g (st.setD (D.crash cl k)) md dm ad := by
      have hDR4 : DirR T d ad w4 gd (D.crash cl k) := ⟨hT, mb, _, [], b4', hN3.keep k34 hnice, rfl, World.ownsRow_nil _ _ _ _, fun b hb => by simp [Value.ownBlock] at hb, fun p hp => by cases hp⟩
      have hT3 : ∀ c, c ≠ Cmp.dir D.name → ¬ (fun t => t = Tag.tmp ∨ Dirt d D.name t) (Tag.own d c) := fun c hc h => by
        rcases h with h | h
        · cases h
        · unfold Dirt at h; injection h with _ h; exact hc h
      refine ⟨hx.tag, hx.blk.ext k4.ext (by rw [hx.tag]; exact hT3 _ (by intro h; cases h)), hx.body.mdT, hx.body.mdR.ext k4.ext (by rw [hx.body.mdT]; exact hT3 _ (by intro h; cases h)), fun E hE => ?_, fun x hxn => hx.body.none_ x fun E hE he => ?_, ?_, fun j gj hj => ?_⟩
      · rcases setD_mem hE with rfl | ⟨h1, h2⟩
        · exact ⟨gd, hgd, hDR4⟩
        · obtain ⟨ge, h3, h4⟩ := hx.body.some_ E h1
          exact ⟨ge, h3, h4.keep k4 hnice (hT3 _ (by intro h; injection h with h; exact h2 h))⟩
      · have : x ∈ (st.setD (D.crash cl k)).dirs.map (·.name) := by
          show x ∈ (st.dirs.map fun E => if E.name = (D.crash cl k).name then D.crash cl k else E).map (·.name)
          rw [setD_names]; exact List.mem_map.2 ⟨E, hE, he⟩
        obtain ⟨E', h1, h2⟩ := List.mem_map.1 this
        exact hxn E' h1 h2
      · show dm.length = (st.dirs.map _).length
        rw [List.length_map]; exact hx.body.len
      · obtain ⟨f, h1, h2⟩ := hx.body.fil j gj hj
        exact ⟨f, h1, h2.keep k4 hnice (hT3 _ (by intro h; cases h))⟩
    exact hK w4 k' hx4 (n3.ext e4 (fun hh => hgn hh.symm)) q1 hk'le k4 (e3.trans (e4.mono fun b hb' _ => .inr hb'))
  refine draw (fun w' => Blk w' gd 73 [.map (some mn), wv]) hb ?_
  refine pur (nil_ptr _) (pur (field_ptr _ _ _) (heldC (v := wv) (fun w' hh => hh.cell 1) (pur (Sl.own hrow).len (pur (add64 (c := ((D.was.length + 1 : Nat) : Int)) (by omega) (by omega) (by omega)) ?_))))
  refine callW okTurn ?_
  show CallS Tryz.prog 76 #[ptrE lb, ptrE nb] _ w.drew
  refine cturn (k := kk) (hlb.no ed) (hnb.no ed) (Sl.no hs.1 ed) hi hll (by omega) (hs.2.imp id fun h2 b hb' hh => by rcases (h2 b hb').2 with h | h <;> rw [hh, htn] at h <;> cases h) hne fun w2 k' b2 q1 q2 e2 => ?_
  have hb2 := hb.ext e2 hgn
  have hrow2 := owns_ext hrow e2 fun b hb' hh => by have := hwT b hb'; rw [show b = nb from hh, htn] at this; cases this
  refine ⟨hb2, ?_⟩
  have hkeq : turnV cl kk = turnV cl k := by
    by_cases h : cl = []
    · rw [h, turnV_nil, turnV_nil]
    · rw [hkk h]
  have hnn := tmod_nn (b := ((D.was.length + 1 : Nat) : Int)) (turnV_nn cl k)
  have hlt : (turnV cl k).tmod ((D.was.length + 1 : Nat) : Int) < ((D.was.length + 1 : Nat) : Int) := Int.tmod_lt_of_pos _ (by omega)
  have hst : ((stayN D cl k : Nat) : Int) = (turnV cl k).tmod ((D.was.length + 1 : Nat) : Int) := by unfold stayN; omega
  refine pur (v := .int .i64 ((stayN D cl k : Nat) : Int)) ((bin_rem _ _ _ (by omega)).trans (by rw [hst, hkeq])) ?_
  have hsl : stayN D cl k ≤ D.was.length := by omega
  have k2 : Gon (fun t => t = .tmp ∨ Dirt d D.name t) w T w2 T := (Gon.no ed).trans (Gon.at1 e2 htn (.inl rfl))
  have hk'le : k' ≤ kk + 1 := by
    by_cases h : cl = []
    · have := q2 h; omega
    · have := q1 h; omega
  have e02 : Ext (fun b => b = nb ∨ b = gd) w w2 := ed.no.trans (e2.mono fun b hb' _ => .inl hb')
  refine pur (nil_ptr _) (pur (field_ptr _ _ _) (loadB hb2 (v := wv) rfl (pur (Sl.own hrow2).len (pur (bin_lss _ _ _) (condD (fun hin => ?_) (fun hout => ?_))))))
  · have hbl : bs.length = D.was.length := by rw [← hbs]; simp
    obtain ⟨p, hp⟩ := getN (xs := bs) (i := stayN D cl k) (by omega)
    obtain ⟨ga, r1, r2, r3, _⟩ := Own.at1 hrow2 (i := stayN D cl k) (x := .map (some p.2)) (by rw [List.getElem?_map, hp]; rfl) .i64
    refine pur (nil_ptr _) (pur (field_ptr _ _ _) (loadB hb2 (v := wv) rfl (pur r2 (SG.load (S := No) r3 (pur (nil_ptr _) (pur (field_ptr _ _ _) (storeB hb2 (by simp) rfl fun w3 b3 e3 z3 => ?_)))))))
    have k23 : Gon (fun t => t = .tmp ∨ Dirt d D.name t) w2 T w3 T := Gon.at1 e3 hT (.inr rfl)
    have hwas : D.was[stayN D cl k]? = some p.1 := by rw [← hbs, List.getElem?_map, hp]; rfl
    refine hJ3 _ ⟨p.2, k', b3, ⟨b2.ext e3 (fun hh => hgn hh.symm), fun h => by rw [q1 h, hkk h], hk'le⟩, ?_, k2.trans k23, e02.trans (e3.mono fun b hb' _ => .inr hb')⟩
    rw [hwas]
    exact ((hall p (List.mem_of_getElem? hp)).keep (Gon.at1 e2 htn (M := fun t => t = .tmp ∨ Dirt d D.name t) (.inl rfl)) hnice).keep k23 hnice
  · have : stayN D cl k = D.was.length := by omega
    refine hJ3 _ ⟨mn, k', hb2, ⟨b2, fun h => by rw [q1 h, hkk h], hk'le⟩, ?_, k2, e02⟩
    rw [this, List.getElem?_eq_none (Nat.le_refl _)]
    exact hN.keep (Gon.at1 e2 htn (M := fun t => t = .tmp ∨ Dirt d D.name t) (.inl rfl)) hnice
end
end Go.Proofs.YthohdinjpkehpaaGreat

namespace Go.Proofs.YthohdinjpkehpaaGreat
open Go SG Go.RowKit
set_option linter.unusedVariables false
set_option maxRecDepth 4000
set_option linter.unusedSimpArgs false

def fiOf (fs : List Fi) (i : Nat) : Fi := (fs[i]?).getD ⟨[], []⟩
def crashStep (l : List Int) (s : List Fi × Nat) (i : Nat) : List Fi × Nat := if 0 < (fiOf s.1 i).openI then (s.1.set i ((fiOf s.1 i).crash l s.2), s.2 + 1) else s
def crashFold (l : List Int) (fs : List Fi) (o : List Nat) : List Fi × Nat := (distinct o).foldl (crashStep l) (fs, 0)
theorem crashFold_app (l : List Int) (fs : List Fi) (o : List Nat) (i : Nat) : crashFold l fs (o ++ [i]) = if i ∈ o then crashFold l fs o else crashStep l (crashFold l fs o) i := by
  unfold crashFold
  rw [distinct_app]
  by_cases h : i ∈ o
  · rw [if_pos ((distinct_mem o i).2 h), if_pos h]
  · rw [if_neg (fun hh => h ((distinct_mem o i).1 hh)), if_neg h, List.foldl_append]; rfl
theorem crashStep_len (l : List Int) (s : List Fi × Nat) (i : Nat) : (crashStep l s i).1.length = s.1.length ∧ (crashStep l s i).2 ≤ s.2 + 1 := by
  unfold crashStep
  split
  · exact ⟨by simp, by simp⟩
  · exact ⟨rfl, by simp⟩
theorem crash_ok {B : Nat} {f : Fi} (h : FiOk B f) (l : List Int) (k : Nat) : FiOk B (f.crash l k) :=
  ⟨keptB_len f.ws f.fast _ h.1 (.inr h.2.1) h.2.2, trivial, fun p hp => by cases hp⟩
theorem crashStep_ok {B n : Nat} {l : List Int} {s : List Fi × Nat} (h : ∀ f ∈ s.1, FiOk B f ∧ f.ws.length ≤ n) (i : Nat) : ∀ f ∈ (crashStep l s i).1, FiOk B f ∧ f.ws.length ≤ n := by
  unfold crashStep
  split
  · rename_i ho
    intro f hf
    rcases List.mem_or_eq_of_mem_set hf with hf | rfl
    · exact h f hf
    · cases hi : s.1[i]? with
      | none =>
        have : fiOf s.1 i = ⟨[], []⟩ := by unfold fiOf; rw [hi]; rfl
        rw [this]
        exact ⟨⟨Nat.zero_le _, trivial, fun p hp => by cases hp⟩, Nat.zero_le _⟩
      | some f =>
        have : fiOf s.1 i = f := by unfold fiOf; rw [hi]; rfl
        rw [this]
        exact ⟨crash_ok (h f (List.mem_of_getElem? hi)).1 l _, Nat.zero_le _⟩
  · exact h
def Dk.crashD (st : Dk) (cl : List Int) : Dk := { st with dirs := crashDirs st.dirs cl 0 }
def Dk.crash (st : Dk) (kl cl : List Int) : Dk :=
  ⟨st.quota, crashDirs st.dirs cl 0, (crashFold kl st.files ((items (crashDirs st.dirs cl 0)).map (·.2))).1, ⟨0, 0, 0⟩, ⟨0, 0, 0⟩⟩
theorem crashDirs_mem {l : List Int} : ∀ {a : List Di} {k : Nat} {E : Di}, E ∈ crashDirs a l k → ∃ D ∈ a, E.name = D.name ∧ (E = D ∨ E.was = [] ∧ (E.now = D.now ∨ E.now ∈ D.was))
  | [], _, E, h => by cases h
  | D :: a, k, E, h => by
    rw [crashDirs] at h
    split at h
    · rcases List.mem_cons.1 h with rfl | h
      · exact ⟨E, by simp, rfl, .inl rfl⟩
      · obtain ⟨D', h1, h2⟩ := crashDirs_mem h
        exact ⟨D', List.mem_cons_of_mem _ h1, h2⟩
    · rcases List.mem_cons.1 h with rfl | h
      · refine ⟨D, by simp, rfl, .inr ⟨rfl, ?_⟩⟩
        show (D.was[stayN D l k]?).getD D.now = D.now ∨ (D.was[stayN D l k]?).getD D.now ∈ D.was
        cases hw : D.was[stayN D l k]? with
        | none => exact .inl rfl
        | some y => exact .inr (List.mem_of_getElem? hw)
      · obtain ⟨D', h1, h2⟩ := crashDirs_mem h
        exact ⟨D', List.mem_cons_of_mem _ h1, h2⟩
theorem Wf.crashD {B n : Nat} {st : Dk} (h : Wf B n st) (cl : List Int) : Wf B n (st.crashD cl) where
  ordD := by
    have h1 := h.ordD
    unfold OrdD at h1 ⊢
    have h2 : ((crashDirs st.dirs cl 0).map (·.name)).Pairwise fun x y => ltE x y = true := by rw [crashDirs_names, List.pairwise_map]; exact h1
    rw [List.pairwise_map] at h2
    exact h2
  dlen := by show (crashDirs st.dirs cl 0).length ≤ 64; rw [crashDirs_len]; exact h.dlen
  dnm := fun E hE => by
    obtain ⟨D, h1, h2, _⟩ := crashDirs_mem hE
    rw [h2]; exact h.dnm D h1
  now_ := fun E hE => by
    obtain ⟨D, h1, h2, h3⟩ := crashDirs_mem hE
    rcases h3 with rfl | ⟨_, h3 | h3⟩
    · exact h.now_ E h1
    · rw [h3]; exact h.now_ D h1
    · exact h.was_ D h1 _ h3
  was_ := fun E hE y hy => by
    obtain ⟨D, h1, h2, h3⟩ := crashDirs_mem hE
    rcases h3 with rfl | ⟨h4, _⟩
    · exact h.was_ E h1 y hy
    · rw [h4] at hy; cases hy
  wlen := fun E hE => by
    obtain ⟨D, h1, h2, h3⟩ := crashDirs_mem hE
    rcases h3 with rfl | ⟨h4, _⟩
    · exact h.wlen E h1
    · rw [h4]; exact Nat.zero_le _
  fil := h.fil
  flen := h.flen
  fail := h.fail
  stop := h.stop
  quo := h.quo
end Go.Proofs.YthohdinjpkehpaaGreat

namespace Go.Proofs.YthohdinjpkehpaaGreat
open Go SG Go.RowKit
set_option linter.unusedVariables false
set_option maxRecDepth 4000
set_option linter.unusedSimpArgs false

theorem buildScr0 (w : World) : (Instr.build 66 [].toArray).run Tryz.prog w = .ok (.agg #[.int .i64 0, .int .i64 0, .int .i64 0]) w := by kernel_rfl
def CrM (d : Nat) : Tag → Prop := fun t => t = .tmp ∨ ∃ i, t = .own d (.file i)
section
variable {T : Tags} {w : World} {d g : Nat} {st : Dk} {md : Nat} {dm : List (El × Nat)} {ad : Nat → Option Nat} {K : Value → World → Prop}
theorem Dx.setF' {M : Tag → Prop} {T' : Tags} {w' : World} (hx : Dx T d w g st md dm ad) {i gf : Nat} {f : Fi} (hg : ad i = some gf) (k : Gon M w T w' T') (hi : ¬ M .ice) (ho : ∀ c, c ≠ .file i → ¬ M (.own d c)) (hf : FilR T' d i w' gf f) : Dx T' d w' g (st.setF i f) md dm ad := by
  refine ⟨(k.same g hx.blk.lt).trans hx.tag, hx.blk.ext k.ext (by rw [hx.tag]; exact ho _ (by intro h; cases h)), (k.same md hx.body.mdR.lt).trans hx.body.mdT, hx.body.mdR.ext k.ext (by rw [hx.body.mdT]; exact ho _ (by intro h; cases h)), fun D hD => ?_, hx.body.none_, hx.body.len, fun j gj hj => ?_⟩
  · obtain ⟨gd, h1, h2⟩ := hx.body.some_ D hD
    exact ⟨gd, h1, h2.keep k hi (ho _ (by intro h; cases h))⟩
  · obtain ⟨f', h1, h2⟩ := hx.body.fil j gj hj
    by_cases hij : j = i
    · subst hij
      rw [hg] at hj
      cases hj
      refine ⟨f, ?_, hf⟩
      show (st.files.set j f)[j]? = some f
      rw [List.getElem?_set_self (List.getElem?_eq_some_iff.1 h1).1]
    · refine ⟨f', ?_, h2.keep k hi (ho _ (by intro h; injection h with h; exact hij h))⟩
      show (st.files.set i f)[j]? = some f'
      rw [List.getElem?_set_ne (fun h => hij h.symm)]; exact h1
set_option maxHeartbeats 2000000 in
theorem Dx.crashFiles (hx : Dx T d w g st md dm ad) {B n : Nat} (hW : Wf B n st) (hB : B ≤ 536870912) (hn : n ≤ 2199023255552) {kb lb nb : Nat} {v : Value} {l : List Int} {ft : TypeId}
    (hkb : Blk w kb ft [.func (.func 76) #[] #[ptrE lb, ptrE nb]]) (hlb : Blk w lb 23 [v]) (hnb : Blk w nb 3 [.int .i64 0]) (hs : ArgI T w v l) (hi : ∀ n ∈ l, I64 n) (hll : l.length ≤ 4611686018427387904) (hne : lb ≠ nb) (hkn : kb ≠ nb) (htk : T kb = .tmp) (htl : T lb = .tmp) (htn : T nb = .tmp)
    (hK : ∀ w' T', Dx T' d w' g { st with files := (crashFold l st.files ((items st.dirs).map (·.2))).1 } md dm ad → Gon (Ops d) w T w' T' → K (.tuple #[]) w') : CallS Tryz.prog 27 #[ptrE g, .func (.func 28) #[] #[ptrE kb]] K w := by
  let st' : List (El × Nat) → Dk := fun done => { st with files := (crashFold l st.files (done.map (·.2))).1 }
  refine hx.each hW (M := CrM d) (fun h => by rcases h with h | ⟨i, h⟩ <;> cases h) (fun h => by rcases h with h | ⟨i, h⟩ <;> cases h)
    (fun done w' T' => ∃ k' : Nat, Dx T' d w' g (st' done) md dm ad ∧ Blk w' kb ft [.func (.func 76) #[] #[ptrE lb, ptrE nb]] ∧ Blk w' lb 23 [v] ∧ Blk w' nb 3 [.int .i64 (k' : Int)] ∧ (l ≠ [] → k' = (crashFold l st.files (done.map (·.2))).2) ∧ k' ≤ done.length ∧ T' kb = .tmp ∧ T' lb = .tmp ∧ T' nb = .tmp ∧ ArgI T' w' v l ∧ ∀ f ∈ (st' done).files, FiOk B f ∧ f.ws.length ≤ n)
    ⟨0, hx, hkb, hlb, hnb, fun _ => rfl, Nat.zero_le _, htk, htl, htn, hs, hW.fil⟩ ?_ (fun done w1 T1 h => by obtain ⟨k', h, _⟩ := h; exact ⟨_, h, rfl⟩) ?_ ?_
  · rintro done w1 T1 w2 T2 ⟨k', a1, a2, a3, a4, a5, a6, a7, a8, a9, a10, a11⟩ k
    have hnt : ∀ {t : Tag}, t = .tmp → ¬ Free t := fun {t} h hh => by rw [h] at hh; cases hh
    exact ⟨k', a1.keep k (fun h => by cases h) (fun c h => by cases h), a2.ext k.ext (by rw [a7]; exact hnt rfl), a3.ext k.ext (by rw [a8]; exact hnt rfl), a4.ext k.ext (by rw [a9]; exact hnt rfl), a5, a6, (k.same _ a2.lt).trans a7, (k.same _ a3.lt).trans a8, (k.same _ a4.lt).trans a9, a10.keep k (fun h => by cases h) (fun h => by cases h), a11⟩
  · rintro done p i gf w1 T1 K' hpre hgf ⟨k', a1, a2, a3, a4, a5, a6, a7, a8, a9, a10, a11⟩ hK'
    have hlen : (done ++ [(p, i)]).length ≤ 65536 := Nat.le_trans hpre.length_le hW.items_le
    rw [List.length_append] at hlen
    simp only [List.length_cons, List.length_nil] at hlen
    obtain ⟨hfi, hF⟩ := a1.fi hgf
    obtain ⟨ho1, ho2⟩ := a11 _ (List.mem_of_getElem? hfi)
    have hfof : (st' done).fi i = fiOf (crashFold l st.files (done.map (·.2))).1 i := rfl
    have hteq : turnV l k' = turnV l (crashFold l st.files (done.map (·.2))).2 := by
      by_cases h : l = []
      · rw [h, turnV_nil, turnV_nil]
      · rw [a5 h]
    refine callF okCrash ?_
    rw [arr3_1]
    have hstep := crashFold_app l st.files (done.map (·.2)) i
    refine ccrash hF ho1 hB ho2 hn a2 a3 a4 a10.1 hi hll (by omega) (a10.2.imp id fun h2 b hb hh => by rcases (h2 b hb).2 with h | h <;> rw [hh, a9] at h <;> cases h) hne hkn a7 a8 a9 (fun w2 hz e2 => ?_) fun w2 T2 k2 hf1 hop hF2 b2 kb2 lb2 q1 q2 kk => ?_
    · refine hK' w2 T1 ⟨k', ?_, a2.no e2, a3.no e2, a4.no e2, fun h => ?_, by simp; omega, a7, a8, a9, a10.keep (M := Nil) (Gon.no e2) (fun h => h) fun h => h, ?_⟩ (Gon.no e2)
      all_goals
        have hsame : crashFold l st.files ((done ++ [(p, i)]).map (·.2)) = crashFold l st.files (done.map (·.2)) := by
          rw [List.map_append, List.map_cons, List.map_nil, hstep]
          by_cases hin : i ∈ done.map (·.2)
          · rw [if_pos hin]
          · rw [if_neg hin]
            have : ((st' done).fi i).openI ≤ 0 := hz.resolve_left (by simpa using hin)
            unfold crashStep
            rw [if_neg (by rw [← hfof]; omega)]
      · show Dx T1 d w2 g { st with files := (crashFold l st.files ((done ++ [(p, i)]).map (·.2))).1 } md dm ad
        rw [hsame]; exact a1.no e2
      · rw [hsame]; exact a5 h
      · show ∀ f ∈ (crashFold l st.files ((done ++ [(p, i)]).map (·.2))).1, _
        rw [hsame]; exact a11
    · have hin : ¬ i ∈ done.map (·.2) := by simpa using hf1
      have hnew : crashFold l st.files ((done ++ [(p, i)]).map (·.2)) = ((crashFold l st.files (done.map (·.2))).1.set i (((st' done).fi i).crash l k'), (crashFold l st.files (done.map (·.2))).2 + 1) := by
        rw [List.map_append, List.map_cons, List.map_nil, hstep, if_neg hin]
        unfold crashStep
        rw [if_pos (by rw [← hfof]; exact hop), ← hfof]
        have : ((st' done).fi i).crash l (crashFold l st.files (done.map (·.2))).2 = ((st' done).fi i).crash l k' := by
          unfold Fi.crash keepN; rw [hteq]
        rw [this]
      have hok := crashStep_ok (l := l) (s := crashFold l st.files (done.map (·.2))) a11 i
      have kM : Gon (CrM d) w1 T1 w2 T2 := kk.mono fun t h => h.elim .inl fun h => .inr ⟨i, h⟩
      have hx2 : Dx T2 d w2 g { st with files := (crashFold l st.files ((done ++ [(p, i)]).map (·.2))).1 } md dm ad := by
        rw [hnew]
        exact a1.setF' hgf kk (fun h => by rcases h with h | h <;> cases h) (fun c hc h => by rcases h with h | h; cases h; injection h with _ h; exact hc h) hF2
      refine hK' w2 T2 ⟨k2, hx2, kb2, lb2, b2, fun h => ?_, ?_, (kk.same _ a2.lt).trans a7, (kk.same _ a3.lt).trans a8, (kk.same _ a4.lt).trans a9, a10.keep kM (fun h => by rcases h with h | ⟨i, h⟩ <;> cases h) (fun h => by rcases h with h | ⟨i, h⟩ <;> cases h), ?_⟩ kM
      · rw [hnew, q1 h, a5 h]
      · have : k2 ≤ k' + 1 := by
          by_cases h : l = []
          · have := q2 h; omega
          · have := q1 h; omega
        simp; omega
      · show ∀ f ∈ (crashFold l st.files ((done ++ [(p, i)]).map (·.2))).1, _
        rw [List.map_append, List.map_cons, List.map_nil, hstep, if_neg hin]
        exact hok
  · rintro w3 T3 ⟨k', a1, _⟩ k
    exact hK w3 T3 a1 (k.mono fun t h => by
      rcases h with (h | ⟨i, h⟩) | h
      · exact .inl h
      · exact .inr (.inr ⟨_, h⟩)
      · exact .inr (.inl h))
end
end Go.Proofs.YthohdinjpkehpaaGreat

namespace Go.Proofs.YthohdinjpkehpaaGreat
open Go SG Go.RowKit
set_option linter.unusedVariables false
set_option maxRecDepth 4000
set_option linter.unusedSimpArgs false

section
variable {T : Tags} {w : World} {d g : Nat} {st : Dk} {md : Nat} {dm : List (El × Nat)} {ad : Nat → Option Nat} {K : Value → World → Prop}
set_option maxHeartbeats 4000000 in
theorem Dx.Crash (hx : Dx T d w g st md dm ad) {B n : Nat} (hW : Wf B n st) (hB : B ≤ 536870912) (hn : n ≤ 2199023255552) {kv cv : Value} {kl cl : List Int} (hk : ArgI T w kv kl) (hc : ArgI T w cv cl) (hki : ∀ n ∈ kl, I64 n) (hci : ∀ n ∈ cl, I64 n) (hkl : kl.length ≤ 4611686018427387904) (hcl : cl.length ≤ 4611686018427387904)
    (hK : ∀ w' T', Dx T' d w' g (st.crash kl cl) md dm ad → Gon (Ops d) w T w' T' → K (.tuple #[]) w') : CallS Tryz.prog 8 #[ptrE g, kv, cv] K w := by
  have one : ∀ {v : Value} {l : List Int}, SlI w v l → v.cells = #[v] := fun {v l} h => by obtain ⟨a, c, rfl, _⟩ := h; rfl
  refine s8_call hm ?_
  unfold s8
  refine cturns (Sl.one hk.1) (one hk.1) fun w1 lb1 nb1 g1 g2 g3 b1 c1 e1 => cturns (Sl.one hc.1) (one hc.1) fun w2 lb2 nb2 g4 g5 g6 b2 c2 e2 => ?_
  refine box fun w3 b3 e3 z3 => storeB b3 (by simp [Value.cells]) rfl fun w4 b4 e4 z4 => ?_
  have b4' : Blk w4 w2.heap.size 59 [.func (.func 76) #[] #[ptrE lb1, ptrE nb1]] := b4
  have l1 := b1.lt
  have l2 := c1.lt
  have l3 := b2.lt
  have l4 := c2.lt
  have s1 := e1.size
  have s2 := e2.size
  have e24 : Ext No w2 w4 := e3.fresh e4 fun b hb => .inr (by rw [show b = w2.heap.size from hb]; exact Nat.le_refl _)
  have e04 := (e1.trans e2).trans e24
  let T4 := tmpf w T
  have k04 : Gon Nil w T w4 T4 := ⟨e04.no, fun b hb' => tmpf_lt hb'⟩
  have hx4 : Dx T4 d w4 g st md dm ad := hx.keep k04 (fun h => h) fun _ h => h
  have tt : ∀ {b : Nat}, w.heap.size ≤ b → T4 b = .tmp := fun h => tmpf_ge h
  have lb1' := (b1.no e2).no e24
  have nb1' := (c1.no e2).no e24
  have lb2' := b2.no e24
  have nb2' := c2.no e24
  have hk4 : ArgI T4 w4 kv kl := hk.keep k04 (fun h => h) fun h => h
  have hc4 : ArgI T4 w4 cv cl := hc.keep k04 (fun h => h) fun h => h
  -- behind the directories
  refine join0 (fun w' => ∃ T', Dx T' d w' g (st.crashD cl) md dm ad ∧ Gon (Ops d) w T w' T' ∧ Blk w' w2.heap.size 59 [.func (.func 76) #[] #[ptrE lb1, ptrE nb1]] ∧ Blk w' lb1 23 [kv] ∧ Blk w' nb1 3 [.int .i64 0] ∧ T' w2.heap.size = .tmp ∧ T' lb1 = .tmp ∧ T' nb1 = .tmp ∧ ArgI T' w' kv kl) ?_ fun J0 hJ0 => ?_
  · rintro w5 ⟨T5, hx5, k5, kb5, lb5, nb5, t1, t2, t3, ha5⟩
    refine hx5.crashFiles (hW.crashD cl) hB hn kb5 lb5 nb5 ha5 hki hkl g3 (by omega) t1 t2 t3 fun w6 T6 hx6 k6 => ?_
    refine runS (buildScr0 w6) (runS (buildScr0 w6) (pur (nil_ptr _) (pur (field_ptr _ _ _) ?_)))
    refine storeA (vs := [.int .i64 0, .int .i64 0, .int .i64 0]) hx6.blk rfl (by simp [hdrC, scrC]) (by simp [Value.oneCell']) fun w7 b7 e7 z7 => ?_
    refine pur (nil_ptr _) (pur (field_ptr _ _ _) (storeA (vs := [.int .i64 0, .int .i64 0, .int .i64 0]) b7 rfl (by simp [hdrC, scrC]) (by simp [Value.oneCell']) fun w8 b8 e8 z8 => ?_))
    have k8 : Gon (Hdr d) w6 T6 w8 T6 := Gon.at1 (e7.trans e8) hx6.tag rfl
    exact hK w8 T6 ⟨hx6.tag, b8, hx6.body.keep k8 (by intro h; cases h) (by intro h; cases h) (fun _ h => by cases h) fun _ h => by cases h⟩ ((k5.trans k6).trans k8.hdr)
  · refine hx4.all hW.ordD hW.dlen fun v5 w5 ho5 e5 => ?_
    refine pur (Sl.own ho5).len ?_
    have hdl := hW.dlen
    refine loop1 (σ := Nat) (fun j a w' => a = .int .i64 (j : Int) ∧ j ≤ st.dirs.length ∧ ∃ T' kk, Dx T' d w' g { st with dirs := dirsAt st.dirs cl j } md dm ad ∧ Gon (Ops d) w T w' T' ∧ Blk w' w2.heap.size 59 [.func (.func 76) #[] #[ptrE lb1, ptrE nb1]] ∧ Blk w' lb1 23 [kv] ∧ Blk w' nb1 3 [.int .i64 0] ∧ Blk w' lb2 23 [cv] ∧ Blk w' nb2 3 [.int .i64 ((kk : Nat) : Int)] ∧ (cl ≠ [] → kk = cntD (st.dirs.take j)) ∧ kk ≤ j ∧
        T' w2.heap.size = .tmp ∧ T' lb1 = .tmp ∧ T' nb1 = .tmp ∧ T' lb2 = .tmp ∧ T' nb2 = .tmp ∧ ArgI T' w' kv kl ∧ ArgI T' w' cv cl ∧ w'.ownsRow w4.heap.size 9 1 v5 st.dirs.length ((st.dirs.map (·.name)).map encE) ∧ (∀ b, v5.ownBlock = some b → T' b = .tmp)) (fun j => st.dirs.length - j) 0
      ⟨rfl, Nat.zero_le _, T4, 0, by rw [dirsAt_zero]; exact hx4.no e5, (k04.mono fun _ h => h.elim).trans (Gon.no e5), b4'.no e5, lb1'.no e5, nb1'.no e5, lb2'.no e5, nb2'.no e5, fun _ => rfl, Nat.le_refl _, tt (by omega), tt g1, tt g2, tt (by omega), tt (by omega), hk4.keep (M := Nil) (Gon.no e5) (fun h => h) fun h => h, hc4.keep (M := Nil) (Gon.no e5) (fun h => h) fun h => h, ho5, fun b hb => tt (by have := (ho5.lt b hb).1; have := e04.size; omega)⟩ ?_
    rintro j _ w6 ⟨rfl, hj, T6, kk, hx6, k6, kb6, lb6, nb6, lc6, nc6, hkk, hkj, t1, t2, t3, t4, t5, ha6, hc6, ho6, hv6⟩ L1 hL1
    refine pur (bin_lss _ _ _) (condD (fun hlt => ?_) (fun hge => hJ0 _ ⟨T6, by rw [dirsAt_all _ _ (by omega)] at hx6; exact hx6, k6, kb6, lb6, nb6, t1, t2, t3, ha6⟩))
    obtain ⟨D, hD⟩ := getN (xs := st.dirs) (i := j) (by omega)
    have hDm : D ∈ ({ st with dirs := dirsAt st.dirs cl j } : Dk).dirs := dirsAt_mem hD
    have hcs : cntD (st.dirs.take (j + 1)) = cntD (st.dirs.take j) + if D.was = [] then 0 else 1 := by
      rw [List.take_add_one, hD]
      have h1 : cntD (st.dirs.take j ++ [D]) = cntD (st.dirs.take j) + cntD [D] := by unfold cntD; rw [List.filter_append, List.length_append]
      have h2 := cntD_cons D []
      have h3 : cntD [] = 0 := rfl
      rw [h3, Nat.add_zero] at h2
      exact h1.trans (by rw [h2])
    refine join0 (fun w' => ∃ T' kk, Dx T' d w' g { st with dirs := dirsAt st.dirs cl (j + 1) } md dm ad ∧ Gon (Ops d) w T w' T' ∧ Blk w' w2.heap.size 59 [.func (.func 76) #[] #[ptrE lb1, ptrE nb1]] ∧ Blk w' lb1 23 [kv] ∧ Blk w' nb1 3 [.int .i64 0] ∧ Blk w' lb2 23 [cv] ∧ Blk w' nb2 3 [.int .i64 ((kk : Nat) : Int)] ∧ (cl ≠ [] → kk = cntD (st.dirs.take (j + 1))) ∧ kk ≤ j + 1 ∧
        T' w2.heap.size = .tmp ∧ T' lb1 = .tmp ∧ T' nb1 = .tmp ∧ T' lb2 = .tmp ∧ T' nb2 = .tmp ∧ ArgI T' w' kv kl ∧ ArgI T' w' cv cl ∧ w'.ownsRow w4.heap.size 9 1 v5 st.dirs.length ((st.dirs.map (·.name)).map encE) ∧ (∀ b, v5.ownBlock = some b → T' b = .tmp)) (fun w' h' => pur (add64 (c := ((j + 1 : Nat) : Int)) (by omega) (by omega) (by omega)) (hL1 (j + 1) _ _ ⟨rfl, by omega, h'⟩ (by omega))) fun J2 hJ2 => ?_
    obtain ⟨ad1, q1, q2, q3⟩ := sl_idx1 (Sl.own ho6) (i := j) (v := encE D.name) (by simp [hD]) .i64
    refine pur q1 (SG.load (S := No) (q3 _ (Sl.own ho6)) (hx6.ldDirs ?_))
    obtain ⟨gd, hgd, hDR⟩ := hx6.body.some_ D hDm
    refine hx6.body.mdR.lookup MTdir D.name ?_
    rw [hgd]
    have hDR0 := hDR
    obtain ⟨hT, mn, wv, bs, hb, hN, hbs, hrow, hwT, hall⟩ := hDR
    have hwl := hW.wlen D (List.mem_of_getElem? hD)
    obtain ⟨hs1, hs2⟩ := dirsAt_succ (cl := cl) hD
    refine pur (nil_ptr _) (pur (field_ptr _ _ _) (loadB hb (v := wv) rfl (pur (Sl.own hrow).len (pur (bin_eql _ _ _) (condD (fun hz => ?_) (fun hz => ?_))))))
    · have hw : D.was = [] := List.length_eq_zero_iff.1 (by omega)
      rw [if_pos hw] at hs1
      refine hJ2 _ ⟨T6, kk, by rw [hs1, ← hs2]; exact hx6, k6, kb6, lb6, nb6, lc6, nc6, fun h => by rw [hkk h, hcs, if_pos hw]; rfl, by omega, t1, t2, t3, t4, t5, ha6, hc6, ho6, hv6⟩
    · have hw : D.was ≠ [] := fun h => hz (by rw [h]; rfl)
      refine Dx.crashD hx6 hDm hgd hw (by omega) lc6 nc6 hc6 hci hcl (by omega) hkk g6 t5 (K := J2) fun w7 k7 hx7 n7 q1 q2 kk7 e7 => ?_
      have hst : ({ st with dirs := dirsAt st.dirs cl j } : Dk).setD (D.crash cl (cntD (st.dirs.take j))) = { st with dirs := dirsAt st.dirs cl (j + 1) } := by
        unfold Dk.setD
        simp only
        rw [dirsAt_set hW.ordD hD hw]
      rw [hst] at hx7
      have kO : Gon (Ops d) w6 T6 w7 T6 := kk7.mono fun t h => h.elim .inl fun h => .inr (.inr ⟨_, h⟩)
      have keepB : ∀ {q : Nat} {t : TypeId} {cs : List Value}, Blk w6 q t cs → q ≠ nb2 → T6 q = .tmp → Blk w7 q t cs := fun {q t cs} hq hne htq => hq.ext e7 fun hh => by
        rcases hh with hh | hh
        · exact hne hh
        · rw [hh, hT] at htq; cases htq
      have hv7 := owns_ext ho6 e7 fun b hb' hh => by
        rcases hh with hh | hh
        · exact Own.ne_blk ho6 nc6 (by decide) (by rw [hb', hh])
        · have := hv6 b hb'; rw [hh, hT] at this; cases this
      refine hJ2 _ ⟨T6, k7, hx7, k6.trans kO, keepB kb6 (by omega) t1, keepB lb6 (by omega) t2, keepB nb6 (by omega) t3, keepB lc6 g6 t4, n7, fun h => by rw [q1 h, hcs, if_neg hw], by omega, t1, t2, t3, t4, t5, ha6.keep kO Ops.free Ops.ice, hc6.keep kO Ops.free Ops.ice, hv7, hv6⟩
end
end Go.Proofs.YthohdinjpkehpaaGreat

namespace Go.Proofs.YthohdinjpkehpaaGreat
open Go SG Go.RowKit
set_option linter.unusedVariables false
set_option maxRecDepth 4000
set_option linter.unusedSimpArgs false

theorem ScrOk.mono {n m : Nat} {s : Scr} (h : ScrOk n s) (hn : n ≤ m) : ScrOk m s := ⟨h.1, h.2.1, h.2.2.1, Int.le_trans h.2.2.2 (Int.ofNat_le.2 hn)⟩
theorem ScrOk.cnt {n : Nat} {s : Scr} (h : ScrOk n s) : ScrOk (n + 1) s.cnt.2 := by
  obtain ⟨h1, h2, h3, h4⟩ := h
  unfold Scr.cnt
  split
  · exact ⟨h1, h2, h3, by show s.seen ≤ ((n + 1 : Nat) : Int); omega⟩
  · refine ⟨h1, h2, ?_, ?_⟩
    · show 0 ≤ s.seen + 1; omega
    · show s.seen + 1 ≤ ((n + 1 : Nat) : Int); omega
theorem ScrOk.zero (n : Nat) : ScrOk n ⟨0, 0, 0⟩ := ⟨by decide, by decide, by decide, by show (0 : Int) ≤ _; omega⟩
theorem WayOk.mono {n m : Nat} {y : Way} (h : WayOk n y) (hn : n ≤ m) : WayOk m y := ⟨h.1, h.2.1, fun p hp => ⟨(h.2.2 p hp).1, by have := (h.2.2 p hp).2; omega⟩⟩
section
variable {B n m : Nat} {st : Dk}
theorem Wf.mono (h : Wf B n st) (hn : n ≤ m) : Wf B m st where
  ordD := h.ordD
  dlen := h.dlen
  dnm := h.dnm
  now_ := h.now_
  was_ := h.was_
  wlen := fun D hD => Nat.le_trans (h.wlen D hD) hn
  fil := fun f hf => ⟨(h.fil f hf).1, Nat.le_trans (h.fil f hf).2 hn⟩
  flen := Nat.le_trans h.flen hn
  fail := h.fail.mono hn
  stop := h.stop.mono hn
  quo := h.quo
theorem Wf.chgD (h : Wf B n st) : Wf B (n + 1) (chgD st) where
  ordD := h.ordD
  dlen := h.dlen
  dnm := h.dnm
  now_ := h.now_
  was_ := h.was_
  wlen := fun D hD => Nat.le_trans (h.wlen D hD) (Nat.le_succ _)
  fil := fun f hf => ⟨(h.fil f hf).1, Nat.le_trans (h.fil f hf).2 (Nat.le_succ _)⟩
  flen := Nat.le_trans h.flen (Nat.le_succ _)
  fail := h.fail.cnt
  stop := h.stop.cnt
  quo := h.quo
theorem OrdD.setD {l : List Di} (h : OrdD l) (D : Di) : OrdD (l.map fun E => if E.name = D.name then D else E) := by
  unfold OrdD at h ⊢
  have h2 : ((l.map fun E => if E.name = D.name then D else E).map (·.name)).Pairwise fun x y => ltE x y = true := by rw [setD_names, List.pairwise_map]; exact h
  rw [List.pairwise_map] at h2
  exact h2
theorem Wf.setD (h : Wf B n st) {D : Di} (hn : nameOk D.name = true) (hnow : WayOk st.files.length D.now) (hwas : ∀ y ∈ D.was, WayOk st.files.length y) (hl : D.was.length ≤ n) : Wf B n (st.setD D) where
  ordD := h.ordD.setD D
  dlen := by show (st.dirs.map _).length ≤ 64; rw [List.length_map]; exact h.dlen
  dnm := fun E hE => by
    rcases setD_mem hE with rfl | ⟨h1, _⟩
    · exact hn
    · exact h.dnm E h1
  now_ := fun E hE => by
    rcases setD_mem hE with rfl | ⟨h1, _⟩
    · exact hnow
    · exact h.now_ E h1
  was_ := fun E hE => by
    rcases setD_mem hE with rfl | ⟨h1, _⟩
    · exact hwas
    · exact h.was_ E h1
  wlen := fun E hE => by
    rcases setD_mem hE with rfl | ⟨h1, _⟩
    · exact hl
    · exact h.wlen E h1
  fil := h.fil
  flen := h.flen
  fail := h.fail
  stop := h.stop
  quo := h.quo
theorem Wf.chg (h : Wf B n st) {D : Di} (hD : D ∈ st.dirs) (hlen : D.was.length + 1 ≤ n) {y : Way} (hy : WayOk st.files.length y) : Wf B n (st.setD (D.chg y)) :=
  h.setD (h.dnm D hD) hy (fun z hz => by
    rcases List.mem_append.1 hz with hz | hz
    · exact h.was_ D hD z hz
    · rw [List.mem_singleton.1 hz]; exact h.now_ D hD) (by
    show (D.was ++ [D.now]).length ≤ n
    simp; omega)
theorem Wf.newF (h : Wf B n st) (hlen : st.files.length + 1 ≤ n) : Wf B n { st with files := st.files ++ [⟨[], []⟩] } where
  ordD := h.ordD
  dlen := h.dlen
  dnm := h.dnm
  now_ := fun D hD => (h.now_ D hD).mono (by simp)
  was_ := fun D hD y hy => (h.was_ D hD y hy).mono (by simp)
  wlen := h.wlen
  fil := fun f hf => by
    rcases List.mem_append.1 hf with hf | hf
    · exact h.fil f hf
    · rw [List.mem_singleton.1 hf]
      exact ⟨⟨Nat.zero_le _, trivial, fun p hp => by cases hp⟩, Nat.zero_le _⟩
  flen := by simp; omega
  fail := h.fail
  stop := h.stop
  quo := h.quo
theorem Wf.setF (h : Wf B n st) {i : Nat} {f : Fi} (hf : FiOk B f) (hl : f.ws.length ≤ n) : Wf B n (st.setF i f) where
  ordD := h.ordD
  dlen := h.dlen
  dnm := h.dnm
  now_ := fun D hD => (h.now_ D hD).mono (by show _ ≤ (st.files.set i f).length; simp)
  was_ := fun D hD y hy => (h.was_ D hD y hy).mono (by show _ ≤ (st.files.set i f).length; simp)
  wlen := h.wlen
  fil := fun g hg => by
    rcases List.mem_or_eq_of_mem_set hg with hg | rfl
    · exact h.fil g hg
    · exact ⟨hf, hl⟩
  flen := by show (st.files.set i f).length ≤ n; simp; exact h.flen
  fail := h.fail
  stop := h.stop
  quo := h.quo
theorem Wf.new (B n : Nat) {q : Int} (h0 : 0 ≤ q) (h1 : q ≤ 268435456) : Wf B n (Dk.new q) where
  ordD := List.Pairwise.nil
  dlen := Nat.zero_le _
  dnm := fun D hD => by cases hD
  now_ := fun D hD => by cases hD
  was_ := fun D hD => by cases hD
  wlen := fun D hD => by cases hD
  fil := fun f hf => by cases hf
  flen := Nat.zero_le _
  fail := ScrOk.zero n
  stop := ScrOk.zero n
  quo := ⟨h0, h1⟩
theorem Wf.mkdir (h : Wf B n st) (x : El) : Wf B (n + 1) (st.mkdir x).2 := by
  unfold Dk.mkdir
  split
  · exact h.mono (Nat.le_succ _)
  rename_i hnm
  split
  · exact h.mono (Nat.le_succ _)
  rename_i hd
  split
  · exact h.mono (Nat.le_succ _)
  rename_i hl
  split
  · exact h.chgD
  have hd' : st.dir x = none := by
    cases hh : st.dir x with
    | none => rfl
    | some D => rw [hh] at hd; exact absurd rfl hd
  have hc := h.chgD
  exact {
    ordD := h.ordD.put (D := ⟨x, [], []⟩) (Dk.dir_none hd')
    dlen := by show (dput st.dirs ⟨x, [], []⟩).length ≤ 64; rw [dput_len]; omega
    dnm := fun E hE => by
      rcases dput_mem.1 hE with rfl | hE
      · simpa using hnm
      · exact h.dnm E hE
    now_ := fun E hE => by
      rcases dput_mem.1 hE with rfl | hE
      · exact ⟨List.Pairwise.nil, Nat.zero_le _, fun p hp => by cases hp⟩
      · exact h.now_ E hE
    was_ := fun E hE => by
      rcases dput_mem.1 hE with rfl | hE
      · exact fun y hy => by cases hy
      · exact h.was_ E hE
    wlen := fun E hE => by
      rcases dput_mem.1 hE with rfl | hE
      · exact Nat.zero_le _
      · exact hc.wlen E hE
    fil := hc.fil
    flen := hc.flen
    fail := hc.fail
    stop := hc.stop
    quo := hc.quo }
theorem path_ok {s : El} {D : Di} {x : El} (h : st.path s = .ok (D, x)) : nameOk x = true := by
  unfold Dk.path at h
  split at h
  · cases h
  · rename_i a b hs
    split at h
    · cases h
    · injection h with h; injection h with h1 h2
      subst h2
      unfold splitP at hs
      split at hs
      · split at hs
        · rename_i hc
          injection hs with hs; injection hs with hs1 hs2
          subst hs2
          exact (Bool.and_eq_true _ _ ▸ hc).2
        · cases hs
      · cases hs
theorem WayOk.put {y : Way} (h : WayOk n y) {x : El} {i : Nat} (hx : nameOk x = true) (hi : i < n) (hl : (mget y x).isSome = true ∨ y.length < 1024) : WayOk n (wput y x i) := by
  refine ⟨h.1.put x i, ?_, fun p hp => ?_⟩
  · rw [wput_len h.1]
    have := h.2.1
    split
    · exact this
    · rename_i hn
      have := hl.resolve_left hn
      omega
  · rcases wput_mem hp with rfl | hp
    · exact ⟨hx, hi⟩
    · exact h.2.2 p hp
theorem WayOk.del {y : Way} (h : WayOk n y) (x : El) : WayOk n (mdel y x) :=
  ⟨h.1.del x, Nat.le_trans (List.length_filter_le _ _) h.2.1, fun p hp => h.2.2 p (List.mem_filter.1 hp).1⟩
theorem Wf.create (h : Wf B n st) (s : El) : Wf B (n + 1) (st.create s).2 := by
  unfold Dk.create
  split
  · exact h.mono (by omega)
  rename_i D x hp
  split
  · exact h.mono (by omega)
  rename_i hg
  split
  · exact h.mono (by omega)
  rename_i hl
  split
  · exact h.chgD.mono (by omega)
  have hD := path_mem hp
  have h2 := h.chgD.newF (Nat.succ_le_succ h.flen)
  exact h2.chg (D := D) hD (Nat.succ_le_succ (h.wlen D hD)) (y := wput D.now x st.files.length) (((h.now_ D hD).mono (show st.files.length ≤ (st.files ++ [(⟨[], []⟩ : Fi)]).length by simp)).put (path_ok hp) (show st.files.length < (st.files ++ [(⟨[], []⟩ : Fi)]).length by simp) (.inr (by omega)))
theorem file_path {s : El} {i : Nat} (h : st.file s = .ok i) : ∃ D x, st.path s = .ok (D, x) ∧ mget D.now x = some i := by
  unfold Dk.file at h
  split at h
  · cases h
  · rename_i D x hp
    split at h
    · cases h
    · rename_i j hj
      injection h with h; subst h
      exact ⟨D, x, hp, hj⟩
theorem Wf.file_lt (h : Wf B n st) {s : El} {i : Nat} (hi : st.file s = .ok i) : i < st.files.length := by
  obtain ⟨D, x, hp, hg⟩ := file_path hi
  obtain ⟨p, hp', rfl⟩ := mget_memE hg
  exact ((h.now_ D (path_mem hp)).2.2 p hp').2
theorem items_of {D : Di} (hD : D ∈ st.dirs) {x : El} {i : Nat} (hg : mget D.now x = some i) : i ∈ (items st.dirs).map (·.2) := by
  obtain ⟨p, hp', rfl⟩ := mget_memE hg
  exact List.mem_map.2 ⟨(D.name ++ [47] ++ p.1, p.2), List.mem_flatMap.2 ⟨D, hD, List.mem_map.2 ⟨p, hp', rfl⟩⟩, rfl⟩
theorem file_items {s : El} {i : Nat} (hi : st.file s = .ok i) : i ∈ (items st.dirs).map (·.2) := by
  obtain ⟨D, x, hp, hg⟩ := file_path hi
  exact items_of (path_mem hp) hg
theorem le_sum {l : List Nat} {x : Nat} (h : x ∈ l) : x ≤ l.sum := by
  induction l with
  | nil => cases h
  | cons a l ih =>
    rw [List.sum_cons]
    rcases List.mem_cons.1 h with rfl | h
    · omega
    · have := ih h; omega
theorem len_le_used {i : Nat} (hi : i ∈ (items st.dirs).map (·.2)) : (st.fi i).now.length ≤ st.used := by
  have h1 : lenAt st.files i ≤ st.used := by
    unfold Dk.used usedL
    exact le_sum (List.mem_map.2 ⟨i, (distinct_mem _ i).2 hi, rfl⟩)
  have h2 : lenAt st.files i = (st.fi i).now.length := by
    unfold lenAt Dk.fi
    cases st.files[i]? <;> rfl
  omega
theorem Wf.fi (h : Wf B n st) (i : Nat) : FiOk B (st.fi i) ∧ (st.fi i).ws.length ≤ n := by
  unfold Dk.fi
  cases hi : st.files[i]? with
  | none => exact ⟨⟨Nat.zero_le _, trivial, fun p hp => by cases hp⟩, Nat.zero_le _⟩
  | some f => exact h.fil f (List.mem_of_getElem? hi)
theorem wsOk_app : ∀ (ws : List Wr) (b : Bys) (p : Wr), wsOk b ws → p.1 ≤ (nowB b ws).length → 0 < p.2.length → wsOk b (ws ++ [p])
  | [], b, (k, l), _, h1, h2 => ⟨h1, h2, trivial⟩
  | (k, l) :: r, b, p, h, h1, h2 => ⟨h.1, h.2.1, wsOk_app r (overB b k l) p h.2.2 h1 h2⟩
theorem Wf.wr (h : Wf B n st) (hB : 268435456 ≤ B) {i : Nat} (hi : i ∈ (items st.dirs).map (·.2)) (k : Int) (b : Bys) : Wf B (n + 1) (st.wr i k b).2 := by
  unfold Dk.wr
  split
  · exact h.mono (by omega)
  rename_i hk
  split
  · exact h.mono (by omega)
  rename_i hq
  have hlen : (if (chgV st).2 = true then b.take (b.length / 2) else b).length ≤ b.length := by split <;> simp; omega
  generalize (if (chgV st).2 = true then b.take (b.length / 2) else b) = b' at hlen ⊢
  split
  · rename_i hdo
    have hu := len_le_used hi
    have hfi := h.fi i
    have hnl := hfi.1.now_len
    have hqu := h.quo
    refine h.chgD.setF ⟨hfi.1.1, ?_, ?_⟩ ?_
    · exact wsOk_app _ _ _ hfi.1.2.1 (by show k.toNat ≤ (st.fi i).now.length; omega) hdo.2
    · intro p hp
      rcases List.mem_append.1 hp with hp | hp
      · exact hfi.1.2.2 p hp
      · rw [List.mem_singleton.1 hp]
        show k.toNat + b'.length ≤ B
        omega
    · show ((st.fi i).ws ++ [_]).length ≤ n + 1
      have := hfi.2
      simp; omega
  · exact h.chgD
theorem Wf.sync (h : Wf B n st) (i : Nat) : Wf B (n + 1) (st.sync i).2 := by
  unfold Dk.sync
  split
  · exact h.chgD
  · exact h.chgD.setF ⟨(h.fi i).1.now_len, trivial, fun p hp => by cases hp⟩ (Nat.zero_le _)
theorem two_ok {a b : El} {A D : Di} {m x : El} {i : Nat} (h : st.two a b = .ok (A, m, D, x, i)) : st.path a = .ok (A, m) ∧ st.path b = .ok (D, x) ∧ mget A.now m = some i := by
  unfold Dk.two at h
  split at h
  · cases h
  · rename_i A' m' ha
    split at h
    · cases h
    · rename_i D' x' hb
      split at h
      · cases h
      · rename_i j hj
        injection h with h
        injection h with h1 h; injection h with h2 h; injection h with h3 h; injection h with h4 h5
        subst h1; subst h2; subst h3; subst h4; subst h5
        exact ⟨ha, hb, hj⟩
theorem Wf.mget_lt (h : Wf B n st) {D : Di} (hD : D ∈ st.dirs) {x : El} {i : Nat} (hg : mget D.now x = some i) : i < st.files.length := by
  obtain ⟨p, hp', rfl⟩ := mget_memE hg
  exact ((h.now_ D hD).2.2 p hp').2
theorem Wf.link (h : Wf B n st) (a b : El) : Wf B (n + 1) (st.link a b).2 := by
  unfold Dk.link
  split
  · exact h.mono (by omega)
  rename_i A m D x i h2
  obtain ⟨ha, hb, hg⟩ := two_ok h2
  split
  · exact h.mono (by omega)
  split
  · exact h.mono (by omega)
  rename_i hl
  split
  · exact h.chgD.mono (by omega)
  exact h.chgD.chg (D := D) (path_mem hb) (Nat.succ_le_succ (h.wlen D (path_mem hb))) ((h.now_ D (path_mem hb)).put (path_ok hb) (h.mget_lt (path_mem ha) hg) (.inr (by omega)))
theorem Wf.remove (h : Wf B n st) (s : El) : Wf B (n + 1) (st.remove s).2 := by
  unfold Dk.remove
  split
  · exact h.mono (by omega)
  split
  · exact h.mono (by omega)
  rename_i D x hp
  split
  · exact h.chgD.mono (by omega)
  exact h.chgD.chg (D := D) (path_mem hp) (Nat.succ_le_succ (h.wlen D (path_mem hp))) ((h.now_ D (path_mem hp)).del x)
theorem Wf.syncDir (h : Wf B n st) (s : El) : Wf B (n + 1) (st.syncDir s).2 := by
  unfold Dk.syncDir
  split
  · exact h.mono (by omega)
  rename_i D hf
  have hD := findD_mem hf
  split
  · exact h.chgD
  exact h.chgD.setD (D := ⟨D.name, [], D.now⟩) (h.dnm D hD) (h.now_ D hD) (fun y hy => by cases hy) (Nat.zero_le _)
theorem Wf.rename (h : Wf B n st) (a b : El) : Wf B (n + 1) (st.rename a b).2 := by
  unfold Dk.rename
  split
  · exact h.mono (by omega)
  rename_i A m D x i h2
  obtain ⟨ha, hb, hg⟩ := two_ok h2
  have hA := path_mem ha
  have hD := path_mem hb
  have hi := h.mget_lt hA hg
  split
  · exact h.mono (by omega)
  rename_i hl
  split
  · exact h.chgD.mono (by omega)
  split
  · exact h.chgD.mono (by omega)
  split
  · rename_i hAD
    have hdel := (h.now_ A hA).del m
    have hdl : (mdel A.now m).length = A.now.length - 1 := by rw [mdel_len (h.now_ A hA).1.keys, hg]; rfl
    have hpos : 0 < A.now.length := by
      obtain ⟨p, hp, _⟩ := mget_memE hg
      exact List.length_pos_of_mem hp
    have h1024 := (h.now_ A hA).2.1
    exact h.chgD.chg (D := A) hA (Nat.succ_le_succ (h.wlen A hA)) (hdel.put (path_ok hb) hi (.inr (by omega)))
  · rename_i hAD
    have hput : WayOk st.files.length (wput D.now x i) := (h.now_ D hD).put (path_ok hb) hi (by
      cases hgx : mget D.now x with
      | some j => exact .inl rfl
      | none => right; exact Nat.lt_of_not_le fun hh => hl ⟨hgx, hAD, hh⟩)
    have h1 := h.chgD.chg (D := D) hD (Nat.succ_le_succ (h.wlen D hD)) hput
    have hA1 : A ∈ ((Go.Proofs.YthohdinjpkehpaaGreat.chgD st).setD (D.chg (wput D.now x i))).dirs := List.mem_map.2 ⟨A, hA, if_neg hAD⟩
    exact h1.chg (D := A) hA1 (Nat.succ_le_succ (h.wlen A hA)) ((h.now_ A hA).del m)
theorem Wf.crash (h : Wf B n st) (kl cl : List Int) : Wf B n (st.crash kl cl) := by
  have hc := h.crashD cl
  have hlen : ∀ (o : List Nat) (s : List Fi × Nat), (o.foldl (crashStep kl) s).1.length = s.1.length := fun o => by
    induction o with
    | nil => exact fun s => rfl
    | cons i o ih => exact fun s => (ih _).trans (crashStep_len kl s i).1
  have hok : ∀ (o : List Nat) (s : List Fi × Nat), (∀ f ∈ s.1, FiOk B f ∧ f.ws.length ≤ n) → ∀ f ∈ (o.foldl (crashStep kl) s).1, FiOk B f ∧ f.ws.length ≤ n := fun o => by
    induction o with
    | nil => exact fun s h => h
    | cons i o ih => exact fun s h => ih _ (crashStep_ok h i)
  have hl : (st.crash kl cl).files.length = st.files.length := hlen _ _
  exact {
    ordD := hc.ordD
    dlen := hc.dlen
    dnm := hc.dnm
    now_ := fun D hD => by rw [hl]; exact hc.now_ D hD
    was_ := fun D hD => by rw [hl]; exact hc.was_ D hD
    wlen := hc.wlen
    fil := hok _ _ h.fil
    flen := by rw [hl]; exact h.flen
    fail := ScrOk.zero n
    stop := ScrOk.zero n
    quo := h.quo }
end
end Go.Proofs.YthohdinjpkehpaaGreat

namespace Go.Proofs.YthohdinjpkehpaaGreat
open Go SG Go.RowKit
set_option linter.unusedVariables false
set_option maxRecDepth 4000
set_option linter.unusedSimpArgs false

theorem pickF (x y : Value) : pickV (.bool false) x y = some y := rfl
theorem pickT (x y : Value) : pickV (.bool true) x y = some x := rfl
theorem orF {p : Bool} (hp : p = false) {R : Value → World → Prop} {A : (Value → World → Prop) → Prop} {w : World} (h : A fun t w => PureS (pickV (.bool false) (.bool true) t) fun t' => R t' w) :
    JoinS (fun t w => PureS (pickV (.bool p) (.bool true) t) fun t' => R t' w) fun J => IfB (.bool p) false (A J) (J undef w) := by
  subst hp
  refine ⟨?_⟩
  dsimp only
  rw [ifB_eq, if_pos rfl]
  exact h
theorem orT {p : Bool} (hp : p = true) {R : Value → World → Prop} {A : (Value → World → Prop) → Prop} {w : World} (h : R (.bool true) w) :
    JoinS (fun t w => PureS (pickV (.bool p) (.bool true) t) fun t' => R t' w) fun J => IfB (.bool p) false (A J) (J undef w) := by
  subst hp
  refine ⟨?_⟩
  dsimp only
  rw [ifB_eq, if_neg (by simp)]
  exact pur (pickT _ _) h
theorem andT {p : Bool} (hp : p = true) {R : Value → World → Prop} {A : (Value → World → Prop) → Prop} {w : World} (h : A fun t w => PureS (pickV (.bool true) t (.bool false)) fun t' => R t' w) :
    JoinS (fun t w => PureS (pickV (.bool p) t (.bool false)) fun t' => R t' w) fun J => IfB (.bool p) true (A J) (J undef w) := by
  subst hp
  refine ⟨?_⟩
  dsimp only
  rw [ifB_eq, if_pos rfl]
  exact h
theorem andF {p : Bool} (hp : p = false) {R : Value → World → Prop} {A : (Value → World → Prop) → Prop} {w : World} (h : R (.bool false) w) :
    JoinS (fun t w => PureS (pickV (.bool p) t (.bool false)) fun t' => R t' w) fun J => IfB (.bool p) true (A J) (J undef w) := by
  subst hp
  refine ⟨?_⟩
  dsimp only
  rw [ifB_eq, if_neg (by simp)]
  exact pur (pickF _ _) h
theorem Arg.new {T : Tags} {w w' : World} {v : Value} {l : Bys} {b : Nat} (h : SlB w' v l) (hb : v.ownBlock = some b) (hl : b < w'.heap.size) : Arg (mark T b .free) w' v l :=
  ⟨h, .inr fun c hc => by rw [hb] at hc; cases hc; exact ⟨hl, .inl (mark_at _ _ _)⟩⟩
theorem ArgI.new {T : Tags} {w w' : World} {v : Value} {l : List Int} {b : Nat} (h : SlI w' v l) (hb : v.ownBlock = some b) (hl : b < w'.heap.size) : ArgI (mark T b .free) w' v l :=
  ⟨h, .inr fun c hc => by rw [hb] at hc; cases hc; exact ⟨hl, .inl (mark_at _ _ _)⟩⟩
theorem ArgI.nil (T : Tags) (w : World) : ArgI T w (.slice none 0 0) [] := ⟨Sl.nil_ _ _, .inl rfl⟩
theorem Dx.fresh {T : Tags} {w w' : World} {d g b : Nat} {st : Dk} {md : Nat} {dm : List (El × Nat)} {ad : Nat → Option Nat} (hx : Dx T d w g st md dm ad) (e : Ext No w w') (hb : w.heap.size ≤ b) (t : Tag) : Dx (mark T b t) d w' g st md dm ad :=
  hx.keep (M := Nil) ((Gon.no e).mark hb t) (fun h => h) fun _ h => h
def ff (w : World) (T : Tags) : Tags := fun b => if b < w.heap.size then T b else .free
theorem ff_lt {w : World} {T : Tags} {b : Nat} (h : b < w.heap.size) : ff w T b = T b := if_pos h
theorem ff_ge {w : World} {T : Tags} {b : Nat} (h : w.heap.size ≤ b) : ff w T b = .free := if_neg (by omega)
theorem Gon.ff {M : Tag → Prop} {w w' : World} {T : Tags} (e : Ext No w w') : Gon M w T w' (ff w T) := ⟨e.no, fun b hb => ff_lt hb⟩
theorem Dx.ff {T : Tags} {w w' : World} {d g : Nat} {st : Dk} {md : Nat} {dm : List (El × Nat)} {ad : Nat → Option Nat} (hx : Dx T d w g st md dm ad) (e : Ext No w w') : Dx (ff w T) d w' g st md dm ad :=
  hx.keep (M := Nil) (Gon.ff e) (fun h => h) fun _ h => h
theorem Arg.row {T : Tags} {w w1 : World} {v : Value} {l : Bys} (h : w1.ownsRow w.heap.size 5 1 v l.length (byteCells l)) : Arg (ff w T) w1 v l :=
  ⟨Sl.own h, .inr fun b hb => ⟨(h.lt b hb).2, .inl (ff_ge (h.lt b hb).1)⟩⟩
theorem bld3 (w : World) (a b c : UInt8) : (Instr.buildSlice 34 3 [(0, .int .u8 (a.toNat : Int)), (1, .int .u8 (b.toNat : Int)), (2, .int .u8 (c.toNat : Int))].toArray).run Tryz.prog w = .ok (.slice (some ⟨w.heap.size, 0, none⟩) 3 3) (w.alloc (.cells #[.int .u8 (a.toNat : Int), .int .u8 (b.toNat : Int), .int .u8 (c.toNat : Int)] 5)) := by kernel_rfl
theorem bld2 (w : World) (a b : UInt8) : (Instr.buildSlice 34 2 [(0, .int .u8 (a.toNat : Int)), (1, .int .u8 (b.toNat : Int))].toArray).run Tryz.prog w = .ok (.slice (some ⟨w.heap.size, 0, none⟩) 2 2) (w.alloc (.cells #[.int .u8 (a.toNat : Int), .int .u8 (b.toNat : Int)] 5)) := by kernel_rfl
theorem lit_bytes {w : World} {n : Nat} {l : Bys} {ps : Array (Nat × Value)} {K : Value → World → Prop} (hn : n = l.length) (hb : (Instr.buildSlice 34 n ps).run Tryz.prog w = .ok (.slice (some ⟨w.heap.size, 0, none⟩) n n) (w.alloc (.cells (byteCells l).toArray 5)))
    (hK : ∀ v w', SlB w' v l → v.ownBlock = some w.heap.size → w.heap.size < w'.heap.size → Ext No w w' → K v w') : RunS Tryz.prog (Instr.buildSlice 34 n ps) (fun t w1 => RunS Tryz.prog (convert 34 34 t) K w1) w := by
  refine runS hb (runS (Lib.run_convert_bytes_const w 34 5 (byteCells l).toArray n n Tryz.underlying34 Tryz.underlying5) (hK _ _ ?_ rfl (by simp) (Ext.alloc _ _)))
  subst hn
  refine ⟨some ⟨w.heap.size, 0, none⟩, l.length, rfl, by rw [byteCells_length]; omega, Nat.le_refl _, (fun h => by cases h), (fun ad had => ?_)⟩
  cases had
  intro i v hv
  rw [Addr.add_mk]
  unfold World.cell?
  rw [show (w.alloc (.cells (byteCells l).toArray 5 ((byteCells l).toArray.size, (byteCells l).toArray.size + 1))).heap[w.heap.size]? = some (.cells (byteCells l).toArray 5 ((byteCells l).toArray.size, (byteCells l).toArray.size + 1)) from heap_alloc_new w _]
  simpa using hv
theorem str_conv {w : World} {v : Value} {l : Bys} (h : SlB w v l) : (convert 34 9 v).run Tryz.prog w = .ok (encE l) w := bytes_str Tryz.underlying34 Tryz.underlying9 Tryz.underlying5 h
theorem TI : ElemT Tryz.prog 23 3 1 8 (.int .i64 0) := ⟨Tryz.underlying23, by kernel_rfl, rfl, by decide, by decide⟩
namespace Lv
def z : Scr := ⟨0, 0, 0⟩
def pa : El := [100, 47, 97]
def s1 : Dk := ⟨100, [⟨[100], [], []⟩], [], z, z⟩
def s2 : Dk := ⟨100, [⟨[100], [[]], [([97], 0)]⟩], [⟨[], []⟩], z, z⟩
def s3 : Dk := ⟨100, [⟨[100], [[]], [([97], 0)]⟩], [⟨[], [(0, [120, 121, 122])]⟩], z, z⟩
def s4 : Dk := ⟨100, [⟨[100], [[]], [([97], 0)]⟩], [⟨[120, 121, 122], []⟩], z, z⟩
def s5 : Dk := ⟨100, [⟨[100], [[]], [([97], 0)]⟩], [⟨[120, 121, 122], [(1, [85, 86])]⟩], z, z⟩
def s6 : Dk := ⟨100, [⟨[100], [], [([97], 0)]⟩], [⟨[120, 121, 122], [(1, [85, 86])]⟩], z, z⟩
def s7 : Dk := ⟨100, [⟨[100], [], [([97], 0)]⟩], [⟨[120, 85, 122], []⟩], z, z⟩
theorem h1 : (Dk.new 100).mkdir [100] = (0, s1) := by kernel_rfl
theorem h2 : s1.create pa = (0, s2) := by kernel_rfl
theorem f2 : s2.file pa = .ok 0 := by kernel_rfl
theorem n2 : (s2.fi 0).now.length = 0 := by kernel_rfl
theorem h3 : s2.wr 0 ((0 : Nat) : Int) [120, 121, 122] = (0, s3) := by kernel_rfl
theorem f3 : s3.file pa = .ok 0 := by kernel_rfl
theorem h4 : s3.sync 0 = (0, s4) := by kernel_rfl
theorem f4 : s4.file pa = .ok 0 := by kernel_rfl
theorem h5 : s4.wr 0 1 [85, 86] = (0, s5) := by kernel_rfl
theorem h6 : s5.syncDir [100] = (0, s6) := by kernel_rfl
theorem h7 : s6.crash [1] [] = s7 := by kernel_rfl
theorem f7 : s7.file pa = .ok 0 := by kernel_rfl
theorem n7 : (s7.fi 0).now = [120, 85, 122] := by kernel_rfl
end Lv
theorem ok_inj {α : Type} {i j : α} {x : Except Int α} (h : x = .ok i) (k : x = .ok j) : i = j := by rw [h] at k; injection k
theorem ok_err {α : Type} {i : α} {e : Int} {x : Except Int α} (h : x = .ok i) (k : x = .error e) : False := by rw [h] at k; cases k
set_option maxHeartbeats 4000000 in
theorem clives {w : World} {K : Value → World → Prop} (hK : ∀ w', Ext No w w' → K (.bool true) w') : CallS Tryz.prog 6 #[] K w := by
  refine s6_call hm ?_
  unfold s6
  refine cNew (T := fun _ => .ice) 0 (fun h => by omega) fun w1 T1 g md _ _ hg hx1 k1 => ?_
  refine pur (extract_0 _ _) (pur (extract_1 _ _ _) (pur (bin_neq _ _ _) (orF (by simp) ?_)))
  have W0 := Wf.new 268435456 0 (q := 100) (by omega) (by omega)
  refine eq_nil_ptr Tryz.underlying25 (pur (pickF _ _) (orF rfl ?_))
  have W1 := W0.mkdir [100]
  refine hx1.Mkdir W0 (by omega) fun w2 T2 dm2 hx2 k2 => ?_
  rw [Lv.h1] at W1 hx2 ⊢
  refine pur (bin_neq _ _ _) (pur (pickF _ _) (orF (by simp) ?_))
  have W2 := W1.create Lv.pa
  refine hx2.Create (s := Lv.pa) W1 (by omega) (by decide) fun w3 T3 ad3 hx3 k3 => ?_
  rw [Lv.h2] at W2 hx3 ⊢
  refine pur (bin_neq _ _ _) (pur (pickF _ _) (orF (by simp) ?_))
  refine lit_bytes (l := [120, 121, 122]) rfl (bld3 w3 120 121 122) fun v4 w4 s4 o4 l4 e4 => ?_
  have hx4 := hx3.fresh e4 (Nat.le_refl _) .free
  have a4 : Arg (mark T3 w3.heap.size .free) w4 v4 [120, 121, 122] := Arg.new (w := w3) s4 o4 l4
  refine hx4.Append (s := Lv.pa) W2 (by omega) (by omega) (by decide) a4 (by decide) (fun e w' he e' => (ok_err Lv.f2 he).elim) fun i w5 T5 hi hx5 k5 => ?_
  obtain rfl := ok_inj Lv.f2 hi
  have W3 := W2.wr (by omega) (file_items Lv.f2) (((Lv.s2.fi 0).now.length : Nat) : Int) [120, 121, 122]
  rw [Lv.n2, Lv.h3] at W3 hx5 ⊢
  refine pur (bin_neq _ _ _) (pur (pickF _ _) (orF (by simp) ?_))
  refine hx5.Sync (s := Lv.pa) W3 (by omega) (by decide) (fun e w' he e' => (ok_err Lv.f3 he).elim) fun i w6 T6 hi hx6 k6 => ?_
  obtain rfl := ok_inj Lv.f3 hi
  have W4 := W3.sync 0
  rw [Lv.h4] at W4 hx6 ⊢
  refine pur (bin_neq _ _ _) (pur (pickF _ _) (orF (by simp) ?_))
  refine lit_bytes (l := [85, 86]) rfl (bld2 w6 85 86) fun v7 w7 s7 o7 l7 e7 => ?_
  have hx7 := hx6.fresh e7 (Nat.le_refl _) .free
  have a7 : Arg (mark T6 w6.heap.size .free) w7 v7 [85, 86] := Arg.new (w := w6) s7 o7 l7
  refine hx7.Write (s := Lv.pa) (k := 1) W4 (by omega) (by omega) (by decide) (by omega) (by omega) a7 (by decide) (fun e w' he e' => (ok_err Lv.f4 he).elim) fun i w8 T8 hi hx8 k8 => ?_
  obtain rfl := ok_inj Lv.f4 hi
  have W5 := W4.wr (by omega) (file_items Lv.f4) 1 [85, 86]
  rw [Lv.h5] at W5 hx8 ⊢
  refine pur (bin_neq _ _ _) (pur (pickF _ _) (orF (by simp) ?_))
  refine hx8.SyncDir (s := [100]) W5 (by omega) fun w9 T9 hx9 k9 => ?_
  have W6 := W5.syncDir [100]
  rw [Lv.h6] at W6 hx9 ⊢
  refine pur (bin_neq _ _ _) (pur (pickF _ _) (condF (by simp) ?_))
  refine build1 (v := .int .i64 1) TI rfl fun w10 b10 e10 z10 => ?_
  have hx10 := hx9.fresh e10 (Nat.le_refl _) .free
  have i10 : ArgI (mark T9 w9.heap.size .free) w10 (.slice (some ⟨w9.heap.size, 0, none⟩) 1 1) [1] := ArgI.new (w := w9) (b10.sl (n := 1) (c := 1) (size := 1) rfl (Nat.le_refl _)) rfl b10.lt
  refine hx10.Crash W6 (by omega) (by omega) i10 (ArgI.nil _ _) (by intro n hn; simp at hn; subst hn; unfold I64; decide) (by intro n hn; cases hn) (by decide) (by decide) fun w11 T11 hx11 k11 => ?_
  have W7 := W6.crash [1] []
  rw [Lv.h7] at W7 hx11
  refine hx11.Read (s := Lv.pa) W7 (by omega) (by decide) (fun e w' he hne e' => (ok_err Lv.f7 he).elim) fun i v w12 hi ho e12 => ?_
  obtain rfl := ok_inj Lv.f7 hi
  rw [Lv.n7] at ho
  refine pur (extract_0 _ _) (pur (extract_1 _ _ _) (pur (bin_eql _ _ _) (andT (by simp) ?_)))
  refine runS (str_conv (Sl.own ho)) (pur (eqE [120, 85, 122] [120, 85, 122]) (pur (pickT _ _) ?_))
  rw [decide_eq_true rfl]
  have kk : Gon (Ops 0) w (fun _ => .ice) w11 T11 := ((((((((((k1.mono (fun _ h => h.elim)).trans k2).trans k3).trans ((Gon.no e4).mark (Nat.le_refl _) .free)).trans k5).trans k6).trans ((Gon.no e7).mark (Nat.le_refl _) .free)).trans k8).trans k9).trans ((Gon.no e10).mark (Nat.le_refl _) .free)).trans k11
  exact hK w12 ((kk.ext.mono fun b hb _ => Ops.ice hb).trans e12)
end Go.Proofs.YthohdinjpkehpaaGreat

namespace Go.Proofs.YthohdinjpkehpaaGreat
open Go SG Go.RowKit
set_option linter.unusedVariables false
set_option maxRecDepth 4000
set_option linter.unusedSimpArgs false

def IcS (T : Tags) (w : World) (v : Value) (n size : Nat) (xs : List Value) : Prop := Sl w v n size xs ∧ ∀ b, v.ownBlock = some b → b < w.heap.size ∧ T b = .ice
abbrev P2 := Value × Value
def NmR (T : Tags) (w : World) (p : P2) (y : Way) : Prop := IcS T w p.1 y.length 1 (y.map fun q => encE q.1) ∧ IcS T w p.2 y.length 1 (y.map fun q => .int .i64 (q.2 : Int))
def nmC (q : Way × P2) : List Value := [q.2.1, q.2.2]
def dirC (q : Di × Value) : List Value := [encE q.1.name, q.2]
def filC (q : Fi × P2) : List Value := [q.2.1, q.2.2]
theorem nmC_len (q : Way × P2) : (nmC q).length = 2 := rfl
theorem dirC_len (q : Di × Value) : (dirC q).length = 2 := rfl
theorem filC_len (q : Fi × P2) : (filC q).length = 2 := rfl
def WaysR (T : Tags) (w : World) (v : Value) (ys : List Way) : Prop := ∃ qs : List (Way × P2), qs.map (·.1) = ys ∧ IcS T w v ys.length 2 (flat nmC qs) ∧ ∀ q ∈ qs, NmR T w q.2 q.1
def DirsR (T : Tags) (w : World) (v : Value) (ds : List Di) : Prop := ∃ qs : List (Di × Value), qs.map (·.1) = ds ∧ IcS T w v ds.length 2 (flat dirC qs) ∧ ∀ q ∈ qs, WaysR T w q.2 (q.1.was ++ [q.1.now])
def BytI (T : Tags) (w : World) (v : Value) (l : Bys) : Prop := IcS T w v l.length 1 (byteCells l)
def WrsR (T : Tags) (w : World) (v : Value) (ws : List Wr) : Prop := ∃ qs : List (Wr × Value), qs.map (·.1) = ws ∧ IcS T w v ws.length 2 (flat wrC qs) ∧ ∀ q ∈ qs, BytI T w q.2 q.1.2
def FilI (T : Tags) (w : World) (p : P2) (f : Fi) : Prop := BytI T w p.1 f.fast ∧ WrsR T w p.2 f.ws
def FilesR (T : Tags) (w : World) (v : Value) (fs : List Fi) : Prop := ∃ qs : List (Fi × P2), qs.map (·.1) = fs ∧ IcS T w v fs.length 2 (flat filC qs) ∧ ∀ q ∈ qs, FilI T w q.2 q.1
def dfi (s : Scr) : Int × Int := if s.from_ < 1 ∨ s.many ≤ 0 then (0, 0) else if s.seen < s.from_ then (s.from_ - s.seen, s.many) else (0, max 0 (s.many - (s.seen - s.from_ + 1)))
def dst (s : Scr) : Int × Bool := if s.from_ < 1 ∨ s.many = 0 then (0, false) else if s.seen < s.from_ then (s.from_ - s.seen, false) else (0, true)
def docC (st : Dk) (dv fv : Value) : List Value := [.int .i64 st.quota, dv, fv, .int .i64 (dfi st.fail).1, .int .i64 (dfi st.fail).2, .int .i64 (dst st.stop).1, .bool (dst st.stop).2]
structure Doc (T : Tags) (d : Nat) (w : World) (g : Nat) (st : Dk) (dv fv : Value) : Prop where
  tag : T g = .own d .doc
  blk : Blk w g 99 (docC st dv fv)
  dirs : DirsR T w dv st.dirs
  files : FilesR T w fv st.files
section
variable {M : Tag → Prop} {T T' : Tags} {w w' : World} {d g : Nat}
theorem IcS.keep {v : Value} {n size : Nat} {xs : List Value} (h : IcS T w v n size xs) (k : Gon M w T w' T') (hi : ¬ M .ice) : IcS T' w' v n size xs :=
  ⟨h.1.ext k.ext fun b hb hh => by simp only [(h.2 b hb).2] at hh; exact hi hh, fun b hb => ⟨Nat.lt_of_lt_of_le (h.2 b hb).1 k.ext.size, (k.same b (h.2 b hb).1).trans (h.2 b hb).2⟩⟩
theorem NmR.keep {p : P2} {y : Way} (h : NmR T w p y) (k : Gon M w T w' T') (hi : ¬ M .ice) : NmR T' w' p y := ⟨h.1.keep k hi, h.2.keep k hi⟩
theorem WaysR.keep {v : Value} {ys : List Way} (h : WaysR T w v ys) (k : Gon M w T w' T') (hi : ¬ M .ice) : WaysR T' w' v ys := by
  obtain ⟨qs, h1, h2, h3⟩ := h
  exact ⟨qs, h1, h2.keep k hi, fun q hq => (h3 q hq).keep k hi⟩
theorem DirsR.keep {v : Value} {ds : List Di} (h : DirsR T w v ds) (k : Gon M w T w' T') (hi : ¬ M .ice) : DirsR T' w' v ds := by
  obtain ⟨qs, h1, h2, h3⟩ := h
  exact ⟨qs, h1, h2.keep k hi, fun q hq => (h3 q hq).keep k hi⟩
theorem BytI.keep {v : Value} {l : Bys} (h : BytI T w v l) (k : Gon M w T w' T') (hi : ¬ M .ice) : BytI T' w' v l := IcS.keep h k hi
theorem WrsR.keep {v : Value} {ws : List Wr} (h : WrsR T w v ws) (k : Gon M w T w' T') (hi : ¬ M .ice) : WrsR T' w' v ws := by
  obtain ⟨qs, h1, h2, h3⟩ := h
  exact ⟨qs, h1, h2.keep k hi, fun q hq => (h3 q hq).keep k hi⟩
theorem FilI.keep {p : P2} {f : Fi} (h : FilI T w p f) (k : Gon M w T w' T') (hi : ¬ M .ice) : FilI T' w' p f := ⟨h.1.keep k hi, h.2.keep k hi⟩
theorem FilesR.keep {v : Value} {fs : List Fi} (h : FilesR T w v fs) (k : Gon M w T w' T') (hi : ¬ M .ice) : FilesR T' w' v fs := by
  obtain ⟨qs, h1, h2, h3⟩ := h
  exact ⟨qs, h1, h2.keep k hi, fun q hq => (h3 q hq).keep k hi⟩
theorem Doc.keep {st : Dk} {dv fv : Value} (h : Doc T d w g st dv fv) (k : Gon M w T w' T') (hi : ¬ M .ice) (hd : ¬ M (.own d .doc)) : Doc T' d w' g st dv fv :=
  ⟨(k.same g h.blk.lt).trans h.tag, h.blk.ext k.ext (by rw [h.tag]; exact hd), h.dirs.keep k hi, h.files.keep k hi⟩
theorem Doc.no {st : Dk} {dv fv : Value} (h : Doc T d w g st dv fv) (e : Ext No w w') : Doc T d w' g st dv fv := h.keep (M := Nil) (Gon.no e) (fun h => h) fun h => h
theorem WaysR.no {v : Value} {ys : List Way} (h : WaysR T w v ys) (e : Ext No w w') : WaysR T w' v ys := h.keep (M := Nil) (Gon.no e) fun h => h
theorem NmR.no {p : P2} {y : Way} (h : NmR T w p y) (e : Ext No w w') : NmR T w' p y := h.keep (M := Nil) (Gon.no e) fun h => h
theorem FilI.no {p : P2} {f : Fi} (h : FilI T w p f) (e : Ext No w w') : FilI T w' p f := h.keep (M := Nil) (Gon.no e) fun h => h
theorem DirsR.at_ {v : Value} {ds : List Di} (h : DirsR T w v ds) {i : Nat} {D : Di} (hD : ds[i]? = some D) : ∃ (ad : Addr) (wv : Value), indexAddrV 2 v (.int .i64 (i : Int)) = some (.pointer (some ad)) ∧ At w ad [encE D.name, wv] ∧ WaysR T w wv (D.was ++ [D.now]) ∧ v.ownBlock = some ad.block := by
  obtain ⟨qs, h1, h2, h3⟩ := h
  have hq : qs.length = ds.length := by rw [← h1]; simp
  obtain ⟨q, hq⟩ := getN (xs := qs) (i := i) (by have := (List.getElem?_eq_some_iff.1 hD).1; omega)
  have hqD : q.1 = D := by
    have : (qs.map (·.1))[i]? = some q.1 := by rw [List.getElem?_map, hq]; rfl
    rw [h1, hD] at this; exact (Option.some.inj this).symm
  subst hqD
  obtain ⟨ad, a1, a2, a3⟩ := h2.1.at_ (i := i) (List.getElem?_eq_some_iff.1 hD).1
  rw [flat_at dirC dirC_len qs i q hq] at a2
  exact ⟨ad, q.2, a1, a2, h3 q (List.mem_of_getElem? hq), a3⟩
theorem WaysR.at_ {v : Value} {ys : List Way} (h : WaysR T w v ys) {i : Nat} {y : Way} (hy : ys[i]? = some y) : ∃ (ad : Addr) (p : P2), indexAddrV 2 v (.int .i64 (i : Int)) = some (.pointer (some ad)) ∧ At w ad [p.1, p.2] ∧ NmR T w p y := by
  obtain ⟨qs, h1, h2, h3⟩ := h
  have hq : qs.length = ys.length := by rw [← h1]; simp
  obtain ⟨q, hq⟩ := getN (xs := qs) (i := i) (by have := (List.getElem?_eq_some_iff.1 hy).1; omega)
  have hqD : q.1 = y := by
    have : (qs.map (·.1))[i]? = some q.1 := by rw [List.getElem?_map, hq]; rfl
    rw [h1, hy] at this; exact (Option.some.inj this).symm
  subst hqD
  obtain ⟨ad, a1, a2, a3⟩ := h2.1.at_ (i := i) (List.getElem?_eq_some_iff.1 hy).1
  rw [flat_at nmC nmC_len qs i q hq] at a2
  exact ⟨ad, q.2, a1, a2, h3 q (List.mem_of_getElem? hq)⟩
theorem FilesR.at_ {v : Value} {fs : List Fi} (h : FilesR T w v fs) {i : Nat} {f : Fi} (hf : fs[i]? = some f) : ∃ (ad : Addr) (p : P2), indexAddrV 2 v (.int .i64 (i : Int)) = some (.pointer (some ad)) ∧ At w ad [p.1, p.2] ∧ FilI T w p f := by
  obtain ⟨qs, h1, h2, h3⟩ := h
  have hq : qs.length = fs.length := by rw [← h1]; simp
  obtain ⟨q, hq⟩ := getN (xs := qs) (i := i) (by have := (List.getElem?_eq_some_iff.1 hf).1; omega)
  have hqD : q.1 = f := by
    have : (qs.map (·.1))[i]? = some q.1 := by rw [List.getElem?_map, hq]; rfl
    rw [h1, hf] at this; exact (Option.some.inj this).symm
  subst hqD
  obtain ⟨ad, a1, a2, a3⟩ := h2.1.at_ (i := i) (List.getElem?_eq_some_iff.1 hf).1
  rw [flat_at filC filC_len qs i q hq] at a2
  exact ⟨ad, q.2, a1, a2, h3 q (List.mem_of_getElem? hq)⟩
theorem WrsR.at_ {v : Value} {ws : List Wr} (h : WrsR T w v ws) {i : Nat} {p : Wr} (hp : ws[i]? = some p) : ∃ (ad : Addr) (bv : Value), indexAddrV 2 v (.int .i64 (i : Int)) = some (.pointer (some ad)) ∧ At w ad [.int .i64 (p.1 : Int), bv] ∧ BytI T w bv p.2 := by
  obtain ⟨qs, h1, h2, h3⟩ := h
  have hq : qs.length = ws.length := by rw [← h1]; simp
  obtain ⟨q, hq⟩ := getN (xs := qs) (i := i) (by have := (List.getElem?_eq_some_iff.1 hp).1; omega)
  have hqD : q.1 = p := by
    have : (qs.map (·.1))[i]? = some q.1 := by rw [List.getElem?_map, hq]; rfl
    rw [h1, hp] at this; exact (Option.some.inj this).symm
  subst hqD
  obtain ⟨ad, a1, a2, a3⟩ := h2.1.at_ (i := i) (List.getElem?_eq_some_iff.1 hp).1
  rw [flat_at wrC wrC_len qs i q hq] at a2
  exact ⟨ad, q.2, a1, a2, h3 q (List.mem_of_getElem? hq)⟩
theorem IcS.one {v : Value} {n size : Nat} {xs : List Value} (h : IcS T w v n size xs) : v.oneCell' = true := Sl.one h.1
theorem field_ad (ad : Addr) (k : Nat) : fieldAddrV k (.pointer (some ad)) = some (.pointer (some (ad.add k))) := rfl
theorem Doc.ld {st : Dk} {dv fv : Value} (h : Doc T d w g st dv fv) {k : Nat} {v : Value} (hv : (docC st dv fv)[k]? = some v) {K' : Value → World → Prop} (hK : K' v w) : PureS (nilV (ptrE g)) fun t => PureS (fieldAddrV k t) fun t => LoadC t K' w :=
  pur (nil_ptr _) (pur (field_ptr _ _ _) (loadB h.blk (by rw [Nat.zero_add]; exact hv) hK))
end
section
variable {w : World} {K : Value → World → Prop}
theorem idx_str {s : El} {i : Nat} {c : UInt8} (h : s[i]? = some c) : indexStrV (encE s) (.int .i64 (i : Int)) = some (.int .u8 (c.toNat : Int)) := by
  have hsz : (⟨s.toArray⟩ : ByteArray).size = s.length := by show s.toArray.size = _; simp
  have hl := (List.getElem?_eq_some_iff.1 h).1
  have hlt : i < (⟨s.toArray⟩ : ByteArray).size := by rw [hsz]; exact hl
  have hi : (⟨s.toArray⟩ : ByteArray)[i]? = some c := by
    rw [getElem?_pos (⟨s.toArray⟩ : ByteArray) i hlt]
    rw [← (List.getElem?_eq_some_iff.1 h).2]; rfl
  simp only [indexStrV, encE]
  rw [if_pos (by omega), Int.toNat_natCast, hi]; rfl
theorem cOName {s : El} (hK : K (.bool (nameOk s)) w) : CallS Tryz.prog 83 #[encE s] K w := by
  refine s83_call hm ?_
  unfold s83
  refine pur (lenE s) (pur (bin_lss _ _ _) ?_)
  by_cases h1 : s.length < 1
  · refine orT (by rw [decide_eq_true_iff]; omega) (condT rfl ?_)
    have : nameOk s = false := by unfold nameOk; rw [decide_eq_false (show ¬ 1 ≤ s.length by omega)]; rfl
    rw [this] at hK; exact hK
  refine orF (by rw [decide_eq_false_iff_not]; omega) (pur (lenE s) (pur (bin_gtr _ _ _) (pur (pickF _ _) (condD (fun h => ?_) (fun h2 => ?_)))))
  · have : nameOk s = false := by unfold nameOk; rw [decide_eq_false (show ¬ s.length ≤ 32 by omega)]; simp
    rw [this] at hK; exact hK
  have hn : nameOk s = s.all fun c => byteOk c.toNat := by
    unfold nameOk
    rw [decide_eq_true (show 1 ≤ s.length by omega), decide_eq_true (show s.length ≤ 32 by omega)]; rfl
  rw [hn] at hK
  refine join0 (fun w' => w = w' ∧ (s.all fun c => byteOk c.toNat) = true) (fun w' hh => by obtain ⟨rfl, h⟩ := hh; rw [h] at hK; exact hK) fun J1 hJ1 => ?_
  refine loop1 (σ := Nat) (fun i a w' => a = .int .i64 (i : Int) ∧ w = w' ∧ i ≤ s.length ∧ (s.take i).all (fun c => byteOk c.toNat) = true) (fun i => s.length - i) 0 ⟨rfl, rfl, Nat.zero_le _, rfl⟩ ?_
  rintro i _ _ ⟨rfl, rfl, hi, hall⟩ L2 hL2
  refine pur (lenE s) (pur (bin_lss _ _ _) (condD (fun hlt => ?_) (fun hge => hJ1 _ ⟨rfl, by rwa [List.take_of_length_le (by omega)] at hall⟩)))
  obtain ⟨c, hc⟩ := getN (xs := s) (i := i) (by omega)
  have hix := idx_str hc
  have bad : byteOk c.toNat = false → K (.bool false) w := fun hb => by
    have : (s.all fun c => byteOk c.toNat) = false := by
      rw [Bool.eq_false_iff]
      intro ht
      have := List.all_eq_true.1 ht c (List.mem_of_getElem? hc)
      simp [hb] at this
    rw [this] at hK; exact hK
  refine pur hix (pur (bin_lss _ _ _) ?_)
  by_cases c1 : c.toNat < 33
  · exact orT (by rw [decide_eq_true_iff]; omega) (orT rfl (condT rfl (bad (by unfold byteOk; rw [decide_eq_false (show ¬ 33 ≤ c.toNat by omega)]; rfl))))
  refine orF (by rw [decide_eq_false_iff_not]; omega) (pur hix (pur (bin_gtr _ _ _) (pur (pickF _ _) ?_)))
  by_cases c2 : 126 < c.toNat
  · exact orT (by rw [decide_eq_true_iff]; omega) (condT rfl (bad (by unfold byteOk; rw [decide_eq_false (show ¬ c.toNat ≤ 126 by omega)]; simp)))
  refine orF (by rw [decide_eq_false_iff_not]; omega) (pur hix (pur (bin_eql _ _ _) (pur (pickF _ _) (condD (fun h => bad ?_) (fun h => ?_)))))
  · unfold byteOk; rw [decide_eq_true (show c.toNat = 47 by omega)]; simp
  · refine pur (add64 (c := ((i + 1 : Nat) : Int)) (by omega) (by omega) (by omega)) (hL2 (i + 1) _ _ ⟨rfl, rfl, by omega, ?_⟩ (by omega))
    rw [List.take_add_one, hc, List.all_append, hall]
    unfold byteOk
    simp
    omega
theorem cOSplit {s : El} (hl : s.length ≤ 9223372036854775806) (h0 : splitP s = none → ∀ a b w', Ext No w w' → K (.tuple [encE a, encE b, .bool false].toArray) w') (h1 : ∀ a b w', splitP s = some (a, b) → Ext No w w' → K (.tuple [encE a, encE b, .bool true].toArray) w') : CallS Tryz.prog 130 #[encE s] K w := by
  refine s130_call hm ?_
  unfold s130
  refine join0 (fun w' => w = w' ∧ cutAt s = none) (fun w' hh => by
    obtain ⟨rfl, h⟩ := hh
    exact h0 (by unfold splitP; rw [h]) [] [] _ (Ext.refl _ _)) fun J0 hJ0 => ?_
  refine loop1 (σ := Nat) (fun i a w' => a = .int .i64 (i : Int) ∧ w = w' ∧ i ≤ s.length ∧ ∀ c ∈ s.take i, (c == 47) = false) (fun i => s.length - i) 0 ⟨rfl, rfl, Nat.zero_le _, fun c hc => by simp at hc⟩ ?_
  rintro i _ _ ⟨rfl, rfl, hi, hall⟩ L1 hL1
  refine pur (lenE s) (pur (bin_lss _ _ _) (condD (fun hlt => ?_) (fun hge => hJ0 _ ⟨rfl, ?_⟩)))
  rotate_left
  · rw [List.take_of_length_le (by omega)] at hall
    unfold cutAt
    rw [List.findIdx?_eq_none_iff.2 fun c hc => hall c hc]; rfl
  obtain ⟨c, hc⟩ := getN (xs := s) (i := i) (by omega)
  refine pur (idx_str hc) (pur (bin_eql _ _ _) (condD (fun h47 => ?_) (fun h47 => ?_)))
  rotate_left
  · refine pur (add64 (c := ((i + 1 : Nat) : Int)) (by omega) (by omega) (by omega)) (hL1 (i + 1) _ _ ⟨rfl, rfl, by omega, fun x hx => ?_⟩ (by omega))
    rw [List.take_add_one, hc] at hx
    rcases List.mem_append.1 hx with hx | hx
    · exact hall x hx
    · simp at hx
      subst hx
      rw [beq_eq_false_iff_ne]
      intro he
      subst he
      exact h47 rfl
  have hc47 : c = 47 := by
    apply UInt8.toNat_inj.1
    show c.toNat = 47; omega
  have hcut : cutAt s = some (s.take i, s.drop (i + 1)) := by
    unfold cutAt
    have : s.findIdx? (fun c => c == 47) = some i := by
      rw [List.findIdx?_eq_some_iff_getElem]
      refine ⟨by omega, ?_, fun j hj => ?_⟩
      · have := (List.getElem?_eq_some_iff.1 hc).2
        rw [this, hc47]; rfl
      · have hmem : s[j]'(by omega) ∈ s.take i := by
          rw [List.mem_iff_getElem]
          exact ⟨j, by simp; omega, by simp⟩
        rw [hall _ hmem]; simp
    rw [this]; rfl
  have ed := Ext.drew (S := No) w
  refine draw (fun _ => True) trivial (pur (take_str s (by omega) .i64) (pur (add64 (c := ((i + 1 : Nat) : Int)) (by omega) (by omega) (by omega)) (pur (drop_str s (by omega) .i64) (pur (take_str s (by omega) .i64) (cOName ?_)))))
  have hsp : splitP s = if nameOk (s.take i) && nameOk (s.drop (i + 1)) then some (s.take i, s.drop (i + 1)) else none := by unfold splitP; rw [hcut]
  refine condB (fun hA => ?_) (fun hA => ?_)
  · refine pur (add64 (c := ((i + 1 : Nat) : Int)) (by omega) (by omega) (by omega)) (pur (drop_str s (by omega) .i64) (cOName (pur (pickT _ _) ?_)))
    cases hB : nameOk (s.drop (i + 1)) with
    | true => exact h1 _ _ _ (by rw [hsp, hA, hB]; rfl) ed
    | false => exact h0 (by rw [hsp, hB]; simp) _ _ _ ed
  · exact pur (pickF _ _) (h0 (by rw [hsp, hA]; simp) _ _ _ ed)
end
section
variable {T : Tags} {w : World} {d g : Nat} {st : Dk} {dv fv : Value} {K : Value → World → Prop}
theorem Doc.dir (h : Doc T d w g st dv fv) (hl : st.dirs.length ≤ 64) {x : El} (h0 : st.dir x = none → K (.int .i64 (-1)) w) (h1 : ∀ (i : Nat) D, st.dirs[i]? = some D → st.dir x = some D → K (.int .i64 (i : Int)) w) : CallS Tryz.prog 84 #[ptrE g, encE x] K w := by
  refine s84_call hm ?_
  unfold s84
  refine join0 (fun w' => w = w' ∧ st.dir x = none) (fun w' hh => by obtain ⟨rfl, hh⟩ := hh; exact h0 hh) fun J0 hJ0 => ?_
  refine loop1 (σ := Nat) (fun i a w' => a = .int .i64 (i : Int) ∧ w = w' ∧ i ≤ st.dirs.length ∧ ∀ D ∈ st.dirs.take i, D.name ≠ x) (fun i => st.dirs.length - i) 0 ⟨rfl, rfl, Nat.zero_le _, fun c hc => by simp at hc⟩ ?_
  rintro i _ _ ⟨rfl, rfl, hi, hall⟩ L1 hL1
  have hlen : lenSliceV dv = some (.int .i64 (st.dirs.length : Int)) := by obtain ⟨qs, _, h2, _⟩ := h.dirs; exact h2.1.len
  refine h.ld (k := 1) rfl (pur hlen (pur (bin_lss _ _ _) (condD (fun hlt => ?_) (fun hge => hJ0 _ ⟨rfl, ?_⟩))))
  rotate_left
  · rw [List.take_of_length_le (by omega)] at hall
    unfold Dk.dir
    rw [List.find?_eq_none]
    intro D hD
    simpa using hall D hD
  obtain ⟨D, hD⟩ := getN (xs := st.dirs) (i := i) (by omega)
  obtain ⟨ad, wv, a1, a2, a3, _⟩ := h.dirs.at_ hD
  refine h.ld (k := 1) rfl (pur a1 (pur (field_ad _ _) (SG.load (S := No) (a2 0 _ rfl) (pur (eqE _ _) (condD (fun he => ?_) (fun hne => ?_))))))
  · refine h1 i D hD ?_
    unfold Dk.dir
    rw [List.find?_eq_some_iff_append]
    refine ⟨by simpa using he, st.dirs.take i, st.dirs.drop (i + 1), ?_, fun E hE => by simpa using hall E hE⟩
    have := List.getElem?_eq_some_iff.1 hD
    rw [← this.2, ← List.drop_eq_getElem_cons this.1, List.take_append_drop]
  · refine pur (add64 (c := ((i + 1 : Nat) : Int)) (by omega) (by omega) (by omega)) (hL1 (i + 1) _ _ ⟨rfl, rfl, by omega, fun E hE => ?_⟩ (by omega))
    rw [List.take_add_one, hD] at hE
    rcases List.mem_append.1 hE with hE | hE
    · exact hall E hE
    · simp at hE; subst hE; exact hne
theorem Doc.now {w0 : World} (h : Doc T d w0 g st dv fv) (e0 : Ext No w0 w) {i : Nat} {D : Di} (hD : st.dirs[i]? = some D) (hl : D.was.length ≤ 9007199254740992) (hK : ∀ p w', NmR T w0 p D.now → Ext No w w' → K (.agg [p.1, p.2].toArray) w') : CallS Tryz.prog 86 #[ptrE g, .int .i64 (i : Int)] K w := by
  refine s86_call hm ?_
  unfold s86
  refine box fun w1 b1 e1 z1 => ?_
  have b1' : Blk w1 w.heap.size 129 [.slice none 0 0, .slice none 0 0] := b1
  have e1d : Ext No w w1.drew := e1.trans (Ext.drew w1)
  have h1 := (h.no e0).no e1d
  obtain ⟨ad, wv, a1, a2', a3, _⟩ := h.dirs.at_ hD
  have a2 := At.no' a2' (e0.trans e1d)
  have hlen : lenSliceV wv = some (.int .i64 ((D.was.length + 1 : Nat) : Int)) := by obtain ⟨qs, _, h2, _⟩ := a3; have := h2.1.len; simpa using this
  obtain ⟨ad2, p, c1, c2', c3⟩ := a3.at_ (i := D.was.length) (y := D.now) (by simp)
  have c2 := At.no' c2' (e0.trans e1d)
  refine draw (fun w' => w' = w1.drew) rfl ?_
  refine pur (nil_ptr _) (pur (field_ptr _ _ _) (pur (nil_ptr _) (pur (field_ptr _ _ _) ?_)))
  refine heldC (v := dv) (fun w' hh => by rw [hh]; exact h1.blk.cell 1) (pur a1 (pur (field_ad _ _) (heldC (v := wv) (fun w' hh => by rw [hh]; exact a2 1 _ rfl) ?_)))
  refine heldC (v := dv) (fun w' hh => by rw [hh]; exact h1.blk.cell 1) (pur a1 (pur (field_ad _ _) (heldC (v := wv) (fun w' hh => by rw [hh]; exact a2 1 _ rfl) ?_)))
  refine pur hlen (pur (sub64 (c := (D.was.length : Int)) (by omega) (by omega) (by omega)) (pur c1 (heldA (xs := [p.1, p.2]) (fun w' hh => by rw [hh]; exact c2) rfl ?_)))
  refine storeAll (b1'.no (Ext.drew w1)) rfl rfl (by
    intro v hv
    simp only [List.mem_cons, List.not_mem_nil, or_false] at hv
    rcases hv with rfl | rfl
    · exact c3.1.one
    · exact c3.2.one) fun w2 b2 e2 z2 => loadA (At.of_blk b2) rfl ?_
  have e02 : Ext No w w2 := e1d.fresh e2 fun b hb => .inr (by rw [show b = w.heap.size from hb]; exact Nat.le_refl _)
  exact hK p w2 c3 e02
end
end Go.Proofs.YthohdinjpkehpaaGreat

namespace Go.Proofs.YthohdinjpkehpaaGreat
open Go SG Go.RowKit
set_option linter.unusedVariables false
set_option maxRecDepth 4000
set_option linter.unusedSimpArgs false

def fnum (y : Way) (x : El) : Int := match mget y x with | some i => (i : Int) | none => -1
theorem fnum_some {y : Way} {x : El} {i : Nat} (h : mget y x = some i) : fnum y x = (i : Int) := by unfold fnum; rw [h]
theorem fnum_none {y : Way} {x : El} (h : mget y x = none) : fnum y x = -1 := by unfold fnum; rw [h]
theorem fnum_lt {y : Way} {x : El} : fnum y x < 0 ↔ mget y x = none := by
  unfold fnum
  cases mget y x with
  | none => simp
  | some i => simp
section
variable {T : Tags} {w : World} {d g : Nat} {st : Dk} {dv fv : Value} {K : Value → World → Prop}
theorem cNfind {p : P2} {y : Way} (h : NmR T w p y) (hl : y.length ≤ 9007199254740992) {x : El} (hK : ∀ w', Ext No w w' → K (.int .i64 (fnum y x)) w') : CallS Tryz.prog 88 #[.agg [p.1, p.2].toArray, encE x] K w := by
  refine s88_call hm ?_
  unfold s88
  refine box fun w1 b1 e1 z1 => ?_
  have b1' : Blk w1 w.heap.size 129 [p.1, p.2] := b1
  have h1 := h.no e1
  refine join0 (fun w' => w1 = w' ∧ mget y x = none) (fun w' hh => by obtain ⟨rfl, hh⟩ := hh; have := hK w1 e1; rwa [fnum_none hh] at this) fun J0 hJ0 => ?_
  refine loop1 (σ := Nat) (fun i a w' => a = .int .i64 (i : Int) ∧ w1 = w' ∧ i ≤ y.length ∧ ∀ q ∈ y.take i, q.1 ≠ x) (fun i => y.length - i) 0 ⟨rfl, rfl, Nat.zero_le _, fun c hc => by simp at hc⟩ ?_
  rintro i _ _ ⟨rfl, rfl, hi, hall⟩ L1 hL1
  refine pur (field_ptr _ _ _) (loadB b1' (v := p.1) rfl (pur h1.1.1.len (pur (bin_lss _ _ _) (condD (fun hlt => ?_) (fun hge => hJ0 _ ⟨rfl, ?_⟩)))))
  rotate_left
  · rw [List.take_of_length_le (by omega)] at hall
    rw [mget_none]
    intro hm'
    obtain ⟨q, hq, he⟩ := List.mem_map.1 hm'
    exact hall q hq he
  obtain ⟨q, hq⟩ := getN (xs := y) (i := i) (by omega)
  obtain ⟨a1, r1, r2, r3⟩ := sl_idx1 h1.1.1 (i := i) (v := encE q.1) (by rw [List.getElem?_map, hq]; rfl) .i64
  refine pur (field_ptr _ _ _) (loadB b1' (v := p.1) rfl (pur r1 (SG.load (S := No) (r3 _ h1.1.1) (pur (eqE _ _) (condD (fun he => ?_) (fun hne => ?_))))))
  · obtain ⟨a2, s1, s2, s3⟩ := sl_idx1 h1.2.1 (i := i) (v := .int .i64 (q.2 : Int)) (by rw [List.getElem?_map, hq]; rfl) .i64
    refine pur (field_ptr _ _ _) (loadB b1' (v := p.2) rfl (pur s1 (SG.load (S := No) (s3 _ h1.2.1) ?_)))
    have hg : mget y x = some q.2 := by
      unfold mget
      have : y.find? (fun p => decide (p.1 = x)) = some q := by
        rw [List.find?_eq_some_iff_append]
        refine ⟨by simpa using he, y.take i, y.drop (i + 1), ?_, fun E hE => by simpa using hall E hE⟩
        have := List.getElem?_eq_some_iff.1 hq
        rw [← this.2, ← List.drop_eq_getElem_cons this.1, List.take_append_drop]
      rw [this]; rfl
    have := hK w1 e1
    rwa [fnum_some hg] at this
  · refine pur (add64 (c := ((i + 1 : Nat) : Int)) (by omega) (by omega) (by omega)) (hL1 (i + 1) _ _ ⟨rfl, rfl, by omega, fun E hE => ?_⟩ (by omega))
    rw [List.take_add_one, hq] at hE
    rcases List.mem_append.1 hE with hE | hE
    · exact hall E hE
    · simp at hE; subst hE; exact hne
theorem Doc.place (h : Doc T d w g st dv fv) (hl : st.dirs.length ≤ 64) {s : El} (hs : s.length ≤ 9223372036854775806) (h0 : ∀ e w', st.path s = .error e → e ≠ 0 → Ext No w w' → K (.tuple [.int .i64 0, encE [], .int .i64 e].toArray) w')
    (h1 : ∀ (i : Nat) D n w', st.path s = .ok (D, n) → st.dirs[i]? = some D → Ext No w w' → K (.tuple [.int .i64 (i : Int), encE n, .int .i64 0].toArray) w') : CallS Tryz.prog 87 #[ptrE g, encE s] K w := by
  refine s87_call hm ?_
  unfold s87
  refine cOSplit hs (fun hn a b w1 e1 => ?_) fun a b w1 hn e1 => ?_
  · exact pur (extract_0 _ _) (pur (extract_1 _ _ _) (pur (extract_2 _ _ _ _) (pur (not_b _) (condT rfl (h0 1 w1 (by unfold Dk.path; rw [hn]) (by decide) e1)))))
  · refine pur (extract_0 _ _) (pur (extract_1 _ _ _) (pur (extract_2 _ _ _ _) (pur (not_b _) (condF rfl ?_))))
    refine (h.no e1).dir hl (fun hd => ?_) fun i D hi hd => ?_
    · exact pur (bin_lss _ _ _) (condT (by decide) (h0 6 w1 (by unfold Dk.path; rw [hn]; simp only [hd]) (by decide) e1))
    · exact pur (bin_lss _ _ _) (condF (by rw [decide_eq_false_iff_not]; omega) (h1 i D b w1 (by unfold Dk.path; rw [hn]; simp only [hd]) hi e1))
theorem Doc.file (h : Doc T d w g st dv fv) {B n : Nat} (hW : Wf B n st) (hn : n ≤ 2199023255552) {s : El} (hs : s.length ≤ 9223372036854775806) (h0 : ∀ e w', st.file s = .error e → e ≠ 0 → Ext No w w' → K (.tuple [.int .i64 0, .int .i64 e].toArray) w')
    (h1 : ∀ (i : Nat) w', st.file s = .ok i → Ext No w w' → K (.tuple [.int .i64 (i : Int), .int .i64 0].toArray) w') : CallS Tryz.prog 94 #[ptrE g, encE s] K w := by
  refine s94_call hm ?_
  unfold s94
  refine h.place hW.dlen hs (fun e w1 he hne e1 => ?_) fun i D x w1 hp hi e1 => ?_
  · exact pur (extract_0 _ _) (pur (extract_1 _ _ _) (pur (extract_2 _ _ _ _) (pur (bin_neq _ _ _) (condT (by simpa using hne) (h0 e w1 (by unfold Dk.file; rw [he]) hne e1)))))
  · have hD := List.mem_of_getElem? hi
    have hwl := hW.wlen D hD
    have hnl := (hW.now_ D hD).2.1
    refine pur (extract_0 _ _) (pur (extract_1 _ _ _) (pur (extract_2 _ _ _ _) (pur (bin_neq _ _ _) (condF (by simp) ?_))))
    refine h.now e1 hi (by omega) fun p w2 hp2 e2 => cNfind (hp2.no (e1.trans e2)) (by omega) fun w3 e3 => pur (bin_lss _ _ _) ?_
    have e03 := (e1.trans e2).trans e3
    cases hx : mget D.now x with
    | none =>
      rw [fnum_none hx]
      exact condT (by decide) (h0 6 w3 (by unfold Dk.file; rw [hp]; simp only [hx]) (by decide) e03)
    | some j =>
      rw [fnum_some hx]
      exact condF (by rw [decide_eq_false_iff_not]; omega) (h1 j w3 (by unfold Dk.file; rw [hp]; simp only [hx]) e03)
theorem Doc.directory (h : Doc T d w g st dv fv) (hl : st.dirs.length ≤ 64) {s : El} (h0 : ∀ e, st.findD s = .error e → e ≠ 0 → K (.tuple [.int .i64 0, .int .i64 e].toArray) w)
    (h1 : ∀ (i : Nat) D, st.findD s = .ok D → st.dirs[i]? = some D → K (.tuple [.int .i64 (i : Int), .int .i64 0].toArray) w) : CallS Tryz.prog 104 #[ptrE g, encE s] K w := by
  refine s104_call hm ?_
  unfold s104
  refine cOName (pur (not_b _) (condB (fun hc => ?_) (fun hc => ?_)))
  · exact h0 1 (by unfold Dk.findD; rw [if_neg (by simpa using hc)]) (by decide)
  · have hn : nameOk s = true := by simpa using hc
    refine h.dir hl (fun hd => ?_) fun i D hi hd => ?_
    · exact pur (bin_lss _ _ _) (condT (by decide) (h0 6 (by unfold Dk.findD; rw [if_pos hn, hd]) (by decide)))
    · exact pur (bin_lss _ _ _) (condF (by rw [decide_eq_false_iff_not]; omega) (h1 i D (by unfold Dk.findD; rw [if_pos hn, hd]) hi))
theorem Doc.two (h : Doc T d w g st dv fv) {B n : Nat} (hW : Wf B n st) (hn : n ≤ 2199023255552) {a b : El} (ha : a.length ≤ 9223372036854775806) (hb : b.length ≤ 9223372036854775806)
    (h0 : ∀ e v1 v2 v3 v4 v5 w', st.two a b = .error e → e ≠ 0 → Ext No w w' → K (.tuple [v1, v2, v3, v4, v5, .int .i64 e].toArray) w')
    (h1 : ∀ (i j : Nat) A m D x f w', st.two a b = .ok (A, m, D, x, f) → st.dirs[i]? = some A → st.dirs[j]? = some D → Ext No w w' → K (.tuple [.int .i64 (i : Int), encE m, .int .i64 (j : Int), encE x, .int .i64 (f : Int), .int .i64 0].toArray) w') : CallS Tryz.prog 101 #[ptrE g, encE a, encE b] K w := by
  refine s101_call hm ?_
  unfold s101
  refine h.place hW.dlen ha (fun e w1 he hne e1 => ?_) fun i A m w1 hpa hi e1 => ?_
  · exact pur (extract_0 _ _) (pur (extract_1 _ _ _) (pur (extract_2 _ _ _ _) (pur (bin_neq _ _ _) (condT (by simpa using hne) (h0 e _ _ _ _ _ w1 (by unfold Dk.two; rw [he]) hne e1)))))
  refine pur (extract_0 _ _) (pur (extract_1 _ _ _) (pur (extract_2 _ _ _ _) (pur (bin_neq _ _ _) (condF (by simp) ?_))))
  refine (h.no e1).place hW.dlen hb (fun e w2 he hne e2 => ?_) fun j D x w2 hpb hj e2 => ?_
  · exact pur (extract_0 _ _) (pur (extract_1 _ _ _) (pur (extract_2 _ _ _ _) (pur (bin_neq _ _ _) (condT (by simpa using hne) (h0 e _ _ _ _ _ w2 (by unfold Dk.two; rw [hpa]; simp only; rw [he]) hne (e1.trans e2))))))
  refine pur (extract_0 _ _) (pur (extract_1 _ _ _) (pur (extract_2 _ _ _ _) (pur (bin_neq _ _ _) (condF (by simp) ?_))))
  have hA := List.mem_of_getElem? hi
  have hwl := hW.wlen A hA
  have hnl := (hW.now_ A hA).2.1
  refine h.now (e1.trans e2) hi (by omega) fun p w3 hp3 e3 => cNfind (hp3.no ((e1.trans e2).trans e3)) (by omega) fun w4 e4 => pur (bin_lss _ _ _) ?_
  have e04 := ((e1.trans e2).trans e3).trans e4
  cases hx : mget A.now m with
  | none =>
    rw [fnum_none hx]
    exact condT (by decide) (h0 6 _ _ _ _ _ w4 (by unfold Dk.two; rw [hpa]; simp only; rw [hpb]; simp only; rw [hx]) (by decide) e04)
  | some f =>
    rw [fnum_some hx]
    exact condF (by rw [decide_eq_false_iff_not]; omega) (h1 i j A m D x f w4 (by unfold Dk.two; rw [hpa]; simp only; rw [hpb]; simp only; rw [hx]) hi hj e04)
end
structure ScD (st : Dk) : Prop where
  fail : 0 ≤ st.fail.many
  stop : st.stop.many = -1 ∨ st.stop.many = 0
def DocT (d : Nat) : Tag → Prop := fun t => t = .own d .doc
theorem ScD.chgD {st : Dk} (h : ScD st) : ScD (chgD st) := by
  have : ∀ s : Scr, s.cnt.2.many = s.many := fun s => by unfold Scr.cnt; split <;> rfl
  exact ⟨by show 0 ≤ st.fail.cnt.2.many; rw [this]; exact h.fail, by show st.stop.cnt.2.many = -1 ∨ st.stop.cnt.2.many = 0; rw [this]; exact h.stop⟩
def hdD (q : Int) (dv fv : Value) (a b c : Int) (s : Bool) : List Value := [.int .i64 q, dv, fv, .int .i64 a, .int .i64 b, .int .i64 c, .bool s]
theorem cnt_off {s : Scr} (h : s.from_ < 1 ∨ s.many = 0) : s.cnt = ((false, false), s) := by unfold Scr.cnt; rw [if_pos h]
theorem cnt_on {s : Scr} (h : ¬ (s.from_ < 1 ∨ s.many = 0)) : s.cnt = ((decide (0 ≤ s.seen + 1 - s.from_) && (decide (s.many < 0) || decide (s.seen + 1 - s.from_ < s.many)), decide (s.seen + 1 - s.from_ = 0)), ⟨s.from_, s.many, s.seen + 1⟩) := by unfold Scr.cnt; rw [if_neg h]
theorem dfi_off {s : Scr} (h : s.from_ < 1 ∨ s.many ≤ 0) : dfi s = (0, 0) := if_pos h
theorem dfi_wait {s : Scr} (h : ¬ (s.from_ < 1 ∨ s.many ≤ 0)) (h2 : s.seen < s.from_) : dfi s = (s.from_ - s.seen, s.many) := by unfold dfi; rw [if_neg h, if_pos h2]
theorem dfi_on {s : Scr} (h : ¬ (s.from_ < 1 ∨ s.many ≤ 0)) (h2 : ¬ s.seen < s.from_) : dfi s = (0, max 0 (s.many - (s.seen - s.from_ + 1))) := by unfold dfi; rw [if_neg h, if_neg h2]
theorem dst_off {s : Scr} (h : s.from_ < 1 ∨ s.many = 0) : dst s = (0, false) := if_pos h
theorem dst_wait {s : Scr} (h : ¬ (s.from_ < 1 ∨ s.many = 0)) (h2 : s.seen < s.from_) : dst s = (s.from_ - s.seen, false) := by unfold dst; rw [if_neg h, if_pos h2]
theorem dst_on {s : Scr} (h : ¬ (s.from_ < 1 ∨ s.many = 0)) (h2 : ¬ s.seen < s.from_) : dst s = (0, true) := by unfold dst; rw [if_neg h, if_neg h2]
theorem dfi_step {x : Scr} (hm : 0 ≤ x.many) : (1 < (dfi x).1 ∧ dfi x.cnt.2 = ((dfi x).1 - 1, (dfi x).2) ∧ x.cnt.1.1 = false) ∨ ((dfi x).1 = 1 ∧ dfi x.cnt.2 = (0, (dfi x).2 - 1) ∧ x.cnt.1 = (true, true)) ∨
    ((dfi x).1 = 0 ∧ 0 < (dfi x).2 ∧ dfi x.cnt.2 = (0, (dfi x).2 - 1) ∧ x.cnt.1 = (true, false)) ∨ ((dfi x).1 = 0 ∧ (dfi x).2 = 0 ∧ dfi x.cnt.2 = (0, 0) ∧ x.cnt.1.1 = false) := by
  by_cases h : x.from_ < 1 ∨ x.many ≤ 0
  · have h' : x.from_ < 1 ∨ x.many = 0 := by omega
    right; right; right
    rw [cnt_off h', dfi_off h]
    exact ⟨rfl, rfl, rfl, rfl⟩
  have h' : ¬ (x.from_ < 1 ∨ x.many = 0) := by omega
  have hc := cnt_on h'
  by_cases h2 : x.seen < x.from_
  · rw [dfi_wait h h2]
    by_cases h3 : 1 < x.from_ - x.seen
    · left
      refine ⟨h3, ?_, ?_⟩
      · rw [hc, dfi_wait (s := ⟨x.from_, x.many, x.seen + 1⟩) h (by show x.seen + 1 < x.from_; omega)]
        show (x.from_ - (x.seen + 1), x.many) = (x.from_ - x.seen - 1, x.many)
        congr 1; omega
      · rw [hc]; simp; intro h4; omega
    · right; left
      have h4 : x.from_ = x.seen + 1 := by omega
      refine ⟨by show x.from_ - x.seen = 1; omega, ?_, ?_⟩
      · rw [hc, dfi_on (s := ⟨x.from_, x.many, x.seen + 1⟩) h (by show ¬ x.seen + 1 < x.from_; omega)]
        show ((0 : Int), max 0 (x.many - (x.seen + 1 - x.from_ + 1))) = (0, x.many - 1)
        congr 1; omega
      · rw [hc]
        have e1 : decide (0 ≤ x.seen + 1 - x.from_) = true := by rw [decide_eq_true_iff]; omega
        have e2 : decide (x.seen + 1 - x.from_ < x.many) = true := by rw [decide_eq_true_iff]; omega
        have e3 : decide (x.seen + 1 - x.from_ = 0) = true := by rw [decide_eq_true_iff]; omega
        simp only [e1, e2, e3, Bool.or_true, Bool.and_true]
  · rw [dfi_on h h2]
    have e1 : decide (0 ≤ x.seen + 1 - x.from_) = true := by rw [decide_eq_true_iff]; omega
    have e0 : decide (x.many < 0) = false := by rw [decide_eq_false_iff_not]; omega
    have e3 : decide (x.seen + 1 - x.from_ = 0) = false := by rw [decide_eq_false_iff_not]; omega
    have hn : dfi ⟨x.from_, x.many, x.seen + 1⟩ = (0, max 0 (x.many - (x.seen + 1 - x.from_ + 1))) := dfi_on (s := ⟨x.from_, x.many, x.seen + 1⟩) h (by show ¬ x.seen + 1 < x.from_; omega)
    by_cases h5 : x.seen + 1 - x.from_ < x.many
    · right; right; left
      have e2 : decide (x.seen + 1 - x.from_ < x.many) = true := by rw [decide_eq_true_iff]; omega
      refine ⟨rfl, by show 0 < max 0 _; omega, ?_, ?_⟩
      · rw [hc, hn]
        congr 1
        show max 0 (x.many - (x.seen + 1 - x.from_ + 1)) = max 0 (x.many - (x.seen - x.from_ + 1)) - 1
        omega
      · rw [hc]; simp only [e1, e2, e3, Bool.or_true, Bool.and_true]
    · right; right; right
      have e2 : decide (x.seen + 1 - x.from_ < x.many) = false := by rw [decide_eq_false_iff_not]; omega
      refine ⟨rfl, by show max 0 _ = (0 : Int); omega, ?_, ?_⟩
      · rw [hc, hn]; congr 1; omega
      · rw [hc]; simp only [e1, e2, e0, Bool.or_false, Bool.and_false]
theorem dst_step {y : Scr} (hm : y.many = -1 ∨ y.many = 0) : ((dst y).2 = true ∧ dst y.cnt.2 = dst y ∧ y.cnt.1 = (true, false)) ∨ ((dst y).2 = false ∧ 1 < (dst y).1 ∧ dst y.cnt.2 = ((dst y).1 - 1, false) ∧ y.cnt.1.1 = false) ∨
    ((dst y).2 = false ∧ (dst y).1 = 1 ∧ dst y.cnt.2 = (0, true) ∧ y.cnt.1 = (true, true)) ∨ ((dst y).2 = false ∧ (dst y).1 = 0 ∧ dst y.cnt.2 = (0, false) ∧ y.cnt.1.1 = false) := by
  by_cases h : y.from_ < 1 ∨ y.many = 0
  · right; right; right
    rw [cnt_off h, dst_off h]
    exact ⟨rfl, rfl, rfl, rfl⟩
  have hc := cnt_on h
  have e0 : decide (y.many < 0) = true := by rw [decide_eq_true_iff]; omega
  by_cases h2 : y.seen < y.from_
  · rw [dst_wait h h2]
    by_cases h3 : 1 < y.from_ - y.seen
    · right; left
      refine ⟨rfl, h3, ?_, ?_⟩
      · rw [hc, dst_wait (s := ⟨y.from_, y.many, y.seen + 1⟩) h (by show y.seen + 1 < y.from_; omega)]
        show (y.from_ - (y.seen + 1), false) = (y.from_ - y.seen - 1, false)
        congr 1; omega
      · rw [hc]; simp; intro h4; omega
    · right; right; left
      refine ⟨rfl, by show y.from_ - y.seen = 1; omega, ?_, ?_⟩
      · rw [hc]; exact dst_on (s := ⟨y.from_, y.many, y.seen + 1⟩) h (by show ¬ y.seen + 1 < y.from_; omega)
      · rw [hc]
        have e1 : decide (0 ≤ y.seen + 1 - y.from_) = true := by rw [decide_eq_true_iff]; omega
        have e3 : decide (y.seen + 1 - y.from_ = 0) = true := by rw [decide_eq_true_iff]; omega
        simp only [e1, e0, e3, Bool.true_or, Bool.and_true]
  · left
    rw [dst_on h h2]
    refine ⟨rfl, ?_, ?_⟩
    · rw [hc]; exact dst_on (s := ⟨y.from_, y.many, y.seen + 1⟩) h (by show ¬ y.seen + 1 < y.from_; omega)
    · rw [hc]
      have e1 : decide (0 ≤ y.seen + 1 - y.from_) = true := by rw [decide_eq_true_iff]; omega
      have e3 : decide (y.seen + 1 - y.from_ = 0) = false := by rw [decide_eq_false_iff_not]; omega
      simp only [e1, e0, e3, Bool.true_or, Bool.and_true]
theorem dfi_bd {x : Scr} {n : Nat} (h : ScrOk n x) (hb : x.many ≤ 9223372036854775807) : 0 ≤ (dfi x).1 ∧ (dfi x).1 ≤ 9223372036854775807 ∧ 0 ≤ (dfi x).2 ∧ (dfi x).2 ≤ 9223372036854775807 := by
  obtain ⟨h1, h2, h3, h4⟩ := h
  unfold dfi
  split
  · exact ⟨by decide, by decide, by decide, by decide⟩
  · split
    · refine ⟨?_, ?_, ?_, ?_⟩ <;> simp only <;> omega
    · refine ⟨?_, ?_, ?_, ?_⟩ <;> simp only <;> omega
theorem dst_bd {x : Scr} {n : Nat} (h : ScrOk n x) : 0 ≤ (dst x).1 ∧ (dst x).1 ≤ 9223372036854775807 := by
  obtain ⟨h1, h2, h3, h4⟩ := h
  unfold dst
  split
  · exact ⟨by decide, by decide⟩
  · split
    · exact ⟨by simp only; omega, by simp only; omega⟩
    · exact ⟨by decide, by decide⟩
section
variable {T : Tags} {w : World} {d g : Nat} {st : Dk} {dv fv : Value} {K : Value → World → Prop}
set_option maxHeartbeats 2000000 in
theorem cscript {w : World} {q : Int} {dv fv : Value} {x y : Scr} {n : Nat} (hb : Blk w g 99 (hdD q dv fv (dfi x).1 (dfi x).2 (dst y).1 (dst y).2)) (hx : ScrOk n x) (hy : ScrOk n y) (hxm : 0 ≤ x.many) (hym : y.many = -1 ∨ y.many = 0) (hxb : x.many ≤ 9223372036854775807)
    (hK : ∀ w', Blk w' g 99 (hdD q dv fv (dfi x.cnt.2).1 (dfi x.cnt.2).2 (dst y.cnt.2).1 (dst y.cnt.2).2) → Ext (At1 g) w w' →
      K (.tuple [.int .i64 (if y.cnt.1.1 then 22 else if x.cnt.1.1 then 21 else 0), .bool (if y.cnt.1.1 then y.cnt.1.2 else if x.cnt.1.1 then x.cnt.1.2 else false)].toArray) w') : CallS Tryz.prog 129 #[ptrE g] K w := by
  have hbx := dfi_bd hx hxb
  have hby := dst_bd hy
  refine s129_call hm ?_
  unfold s129
  have ld : ∀ {w' : World} {cs' : List Value} {i : Nat} {v : Value} {K' : Value → World → Prop}, Blk w' g 99 cs' → cs'[i]? = some v → K' v w' → PureS (nilV (ptrE g)) fun t => PureS (fieldAddrV i t) fun t => LoadC t K' w' := fun {w' cs' i v K'} hb hv hk => pur (nil_ptr _) (pur (field_ptr _ _ _) (loadB hb (by rw [Nat.zero_add]; exact hv) hk))
  have sto : ∀ {w' : World} {cs' : List Value} {i : Nat} {v : Value} {K' : World → Prop}, Blk w' g 99 cs' → i < cs'.length → v.oneCell' = true → (∀ w'', Blk w'' g 99 (cs'.set i v) → Ext (At1 g) w' w'' → K' w'') → PureS (nilV (ptrE g)) fun t => PureS (fieldAddrV i t) fun t => StoreC t v K' w' := fun {w' cs' i v K'} hb hi hv hk => pur (nil_ptr _) (pur (field_ptr _ _ _) (storeB hb (by rw [Nat.zero_add]; exact hi) hv fun w'' b'' e'' _ => hk w'' (by rw [Nat.zero_add] at b''; exact b'') e''))
  refine join2 (fun ev hv w' => Blk w' g 99 (hdD q dv fv (dfi x.cnt.2).1 (dfi x.cnt.2).2 (dst y).1 (dst y).2) ∧ Ext (At1 g) w w' ∧ ev = .int .i64 (if x.cnt.1.1 then 21 else 0) ∧ hv = .bool (if x.cnt.1.1 then x.cnt.1.2 else false)) ?_ fun J0 hJ0 => ?_
  · rintro _ _ w1 ⟨b1, e1, rfl, rfl⟩
    rcases dst_step hym with ⟨s1, s2, s3⟩ | ⟨s1, s2, s3, s4⟩ | ⟨s1, s2, s3, s4⟩ | ⟨s1, s2, s3, s4⟩
    · rw [s2, s3] at hK
      refine join0 (fun _ => False) (fun _ h => h.elim) fun J1 hJ1 => ?_
      exact ld b1 (i := 6) rfl (condT s1 (hK w1 b1 e1))
    · rw [s3, s4] at hK
      refine join0 (fun w' => Blk w' g 99 (hdD q dv fv (dfi x.cnt.2).1 (dfi x.cnt.2).2 ((dst y).1 - 1) false) ∧ Ext (At1 g) w w') (fun w' h => hK w' h.1 h.2) fun J1 hJ1 => ?_
      refine ld b1 (i := 6) rfl (condF s1 (ld b1 (i := 5) rfl (pur (bin_gtr _ _ _) (condT (by rw [decide_eq_true_iff]; omega) (ld b1 (i := 5) rfl (pur (sub64 (c := (dst y).1 - 1) rfl (by omega) (by omega)) (sto b1 (i := 5) (by simp [hdD]) rfl fun w2 b2 e2 => hJ1 _ ⟨?_, e1.trans e2⟩)))))))
      rw [s1] at b2
      exact b2
    · rw [s3, s4] at hK
      refine join0 (fun _ => False) (fun _ h => h.elim) fun J1 hJ1 => ?_
      refine ld b1 (i := 6) rfl (condF s1 (ld b1 (i := 5) rfl (pur (bin_gtr _ _ _) (condF (by rw [decide_eq_false_iff_not]; omega) (ld b1 (i := 5) rfl (pur (bin_eql _ _ _) (condT (by rw [decide_eq_true_iff]; omega) ?_)))))))
      refine sto b1 (i := 5) (by simp [hdD]) rfl fun w2 b2 e2 => sto b2 (i := 6) (by simp [hdD]) rfl fun w3 b3 e3 => hK w3 ?_ (e1.trans (e2.trans e3))
      exact b3
    · rw [s3, s4] at hK
      refine join0 (fun w' => w1 = w') (fun w' h => by subst h; exact hK w1 (by rw [s1, s2] at b1; exact b1) e1) fun J1 hJ1 => ?_
      exact ld b1 (i := 6) rfl (condF s1 (ld b1 (i := 5) rfl (pur (bin_gtr _ _ _) (condF (by rw [decide_eq_false_iff_not]; omega) (ld b1 (i := 5) rfl (pur (bin_eql _ _ _) (condF (by rw [decide_eq_false_iff_not]; omega) (hJ1 _ rfl))))))))
  · rcases dfi_step hxm with ⟨s1, s2, s3⟩ | ⟨s1, s2, s3⟩ | ⟨s0, s1, s2, s3⟩ | ⟨s0, s1, s2, s3⟩
    · refine ld hb (i := 3) rfl (pur (bin_gtr _ _ _) (condT (by rw [decide_eq_true_iff]; omega) (ld hb (i := 3) rfl (pur (sub64 (c := (dfi x).1 - 1) rfl (by omega) (by omega)) (sto hb (i := 3) (by simp [hdD]) rfl fun w2 b2 e2 => hJ0 _ _ _ ⟨by rw [s2]; exact b2, e2, by rw [s3]; rfl, by rw [s3]; rfl⟩)))))
    · refine ld hb (i := 3) rfl (pur (bin_gtr _ _ _) (condF (by rw [decide_eq_false_iff_not]; omega) ?_))
      refine ld hb (i := 3) rfl (pur (bin_eql _ _ _) (condT (by rw [decide_eq_true_iff]; omega) ?_))
      refine sto hb (i := 3) (by simp [hdD]) rfl fun w2 b2 e2 => ld b2 (i := 4) rfl (pur (sub64 (c := (dfi x).2 - 1) rfl (by omega) (by omega)) ?_)
      exact sto b2 (i := 4) (by simp [hdD]) rfl fun w3 b3 e3 => hJ0 _ _ _ ⟨by rw [s2]; exact b3, e2.trans e3, by rw [s3]; rfl, by rw [s3]; rfl⟩
    · refine ld hb (i := 3) rfl (pur (bin_gtr _ _ _) (condF (by rw [decide_eq_false_iff_not]; omega) ?_))
      refine ld hb (i := 3) rfl (pur (bin_eql _ _ _) (condF (by rw [decide_eq_false_iff_not]; omega) ?_))
      refine ld hb (i := 4) rfl (pur (bin_gtr _ _ _) (condT (by rw [decide_eq_true_iff]; omega) ?_))
      refine ld hb (i := 4) rfl (pur (sub64 (c := (dfi x).2 - 1) rfl (by omega) (by omega)) ?_)
      exact sto hb (i := 4) (by simp [hdD]) rfl fun w3 b3 e3 => hJ0 _ _ _ ⟨by rw [s2]; rw [s0] at b3; exact b3, e3, by rw [s3]; rfl, by rw [s3]; rfl⟩
    · refine ld hb (i := 3) rfl (pur (bin_gtr _ _ _) (condF (by rw [decide_eq_false_iff_not]; omega) ?_))
      refine ld hb (i := 3) rfl (pur (bin_eql _ _ _) (condF (by rw [decide_eq_false_iff_not]; omega) ?_))
      refine ld hb (i := 4) rfl (pur (bin_gtr _ _ _) (condF (by rw [decide_eq_false_iff_not]; omega) ?_))
      exact hJ0 _ _ _ ⟨by rw [s2]; rw [s0, s1] at hb; exact hb, Ext.refl _ _, by rw [s3]; rfl, by rw [s3]; rfl⟩
theorem Doc.script (h : Doc T d w g st dv fv) {n : Nat} (h1 : ScrOk n st.fail) (h2 : ScrOk n st.stop) (hs : ScD st) (hm' : st.fail.many ≤ 9223372036854775807)
    (hK : ∀ w', Doc T d w' g (chgD st) dv fv → Gon (DocT d) w T w' T → K (.tuple [.int .i64 (chgV st).1, .bool (chgV st).2].toArray) w') : CallS Tryz.prog 129 #[ptrE g] K w := by
  refine cscript (q := st.quota) (dv := dv) (fv := fv) (x := st.fail) (y := st.stop) h.blk h1 h2 hs.fail hs.stop hm' fun w1 b1 e1 => ?_
  have k : Gon (DocT d) w T w1 T := Gon.at1 e1 h.tag rfl
  have hi : ¬ DocT d .ice := fun h => by cases h
  have := hK w1 ⟨h.tag, b1, h.dirs.keep k hi, h.files.keep k hi⟩ k
  unfold chgV at this
  cases hy : st.stop.cnt.1.1 with
  | true => rw [hy] at this; simpa [hy] using this
  | false =>
    cases hx : st.fail.cnt.1.1 with
    | true => rw [hy, hx] at this; simpa [hy, hx] using this
    | false => rw [hy, hx] at this; simpa [hy, hx] using this
theorem Doc.stops (h : Doc T d w g st dv fv) {n : Nat} (h1 : ScrOk n st.fail) (h2 : ScrOk n st.stop) (hs : ScD st) (hm' : st.fail.many ≤ 9223372036854775807)
    (hK : ∀ w', Doc T d w' g (chgD st) dv fv → Gon (DocT d) w T w' T → K (.int .i64 (chgV st).1) w') : CallS Tryz.prog 85 #[ptrE g] K w := by
  refine s85_call hm ?_
  unfold s85
  exact h.script h1 h2 hs hm' fun w1 h1 k1 => pur (extract_0 _ _) (pur (extract_1 _ _ _) (hK w1 h1 k1))
end
end Go.Proofs.YthohdinjpkehpaaGreat

namespace SG
open Go Go.RowKit Go.Lib
set_option linter.unusedSimpArgs false
set_option linter.unusedVariables false

theorem Own.open_ {w : World} {base : Nat} {e : TypeId} {size n : Nat} {v : Value} {xs : List Value} (h : w.ownsRow base e size v n xs) (hn : 0 < n) :
    ∃ g cap rest, v = .slice (some ⟨g, 0, none⟩) n cap ∧ Blk w g e (xs ++ rest) ∧ ∀ (w' : World) (xs' : List Value), xs'.length = xs.length → Blk w' g e (xs' ++ rest) → w'.ownsRow base e size v n xs' := by
  have hl := h.1
  rcases h.2 with ⟨rfl, rfl⟩ | ⟨g, cap, cur, rfl, hb, hg, hnc, hcm, hcs, htake⟩
  · omega
  · refine ⟨g, cap, cur.toList.drop (n * size), rfl, ?_, fun w' xs' hx hb' => ⟨by omega, .inr ⟨g, cap, (xs' ++ cur.toList.drop (n * size)).toArray, rfl, hb, hb', hnc, hcm, ?_, ?_⟩⟩⟩
    · unfold Blk
      rw [← htake, List.take_append_drop]
      simpa using hg
    · have : n * size ≤ cap * size := Nat.mul_le_mul_right _ hnc
      have hcl : cur.toList.length = cap * size := by simpa using hcs
      simp only [List.size_toArray, List.length_append, List.length_drop, hcl]; omega
    · rw [List.toList_toArray, List.take_append_of_le_length (by omega), List.take_of_length_le (by omega)]
theorem Own.field {w : World} {base : Nat} {e : TypeId} {size n : Nat} {v : Value} {xs : List Value} (h : w.ownsRow base e size v n xs) {i k : Nat} (hi : i < n) (hk : k < size) (kd : IntKind) :
    ∃ g, v.ownBlock = some g ∧ indexAddrV size v (.int kd (i : Int)) = some (.pointer (some ⟨g, i * size, none⟩)) ∧ (∀ (w' : World) (x : Value), w'.ownsRow base e size v n xs → xs[i * size + k]? = some x → w'.cell? ⟨g, i * size + k, none⟩ = some x) ∧
      ∀ (y : Value) {K : World → Prop}, y.oneCell' = true → (∀ w', w'.ownsRow base e size v n (xs.set (i * size + k) y) → Ext (At1 g) w w' → w'.heap.size = w.heap.size → K w') → StoreC (.pointer (some ⟨g, i * size + k, none⟩)) y K w := by
  obtain ⟨g, cap, rest, rfl, hb, back⟩ := Own.open_ h (by omega)
  have hl := h.1
  have hlt : i * size + k < xs.length := by
    rw [hl]
    have : (i + 1) * size ≤ n * size := Nat.mul_le_mul_right _ hi
    rw [Nat.succ_mul] at this; omega
  refine ⟨g, rfl, ?_, fun w' x h' hx => ?_, fun y K hy hK => ?_⟩
  · rw [index_sl ⟨by omega, by omega⟩, Addr.add_mk]; simp
  · have := h'.cells (g := g) rfl
    have h2 := this _ x hx
    rw [Addr.add_mk, Nat.zero_add] at h2
    exact h2
  · refine storeB hb (by simp; omega) hy fun w' b e' z => hK w' (back w' _ (by simp) ?_) e' z
    rwa [List.set_append_left _ _ hlt] at b
theorem Own.elem {w : World} {base : Nat} {e : TypeId} {size n : Nat} {v : Value} {α : Type} {f : α → List Value} (hf : ∀ a, (f a).length = size) {l : List α} (h : w.ownsRow base e size v n (flat f l)) {i : Nat} (hi : i < l.length) (hn : l.length = n) {a : α} (hone : ∀ u ∈ f a, u.oneCell' = true) (kd : IntKind) :
    ∃ g, v.ownBlock = some g ∧ indexAddrV size v (.int kd (i : Int)) = some (.pointer (some ⟨g, i * size, none⟩)) ∧
      ∀ {K : World → Prop}, (∀ w', w'.ownsRow base e size v n (flat f (l.set i a)) → Ext (At1 g) w w' → w'.heap.size = w.heap.size → K w') → StoreA size (.pointer (some ⟨g, i * size, none⟩)) (.agg (f a).toArray) K w := by
  obtain ⟨g, cap, rest, rfl, hb, back⟩ := Own.open_ h (by omega)
  refine ⟨g, rfl, ?_, fun {K} hK => ?_⟩
  · rw [index_sl ⟨by omega, by omega⟩, Addr.add_mk]; simp
  · refine row_set hf hb hi hone fun w' b e' z => hK w' (back w' _ ?_ b) e' z
    rw [flat_length f hf, flat_length f hf, List.length_set]
section
variable {P : Program} {t e : TypeId} {size bytes : Nat} {z : Value}
theorem app_own (hT : ElemT P t e size bytes z) {ty : TypeId} {w w1 : World} {a : Value} {m : Nat} {ys : List Value} {b : Value} {k : Nat} {zs : List Value} {K : Value → World → Prop} (e1 : Ext No w w1) (ho : w1.ownsRow w.heap.size e size a m ys) (hsl : Sl w1 b k size zs) (h1 : ∀ c ∈ zs, c.oneCell' = true) (hb1 : (m + k) * bytes ≤ 140737488355328) (hn1 : m + k ≤ 140737488355328)
    (hK : ∀ v' w', w'.ownsRow w.heap.size e size v' (m + k) (ys ++ zs) → Ext No w w' → K v' w') : RunS P (Builtin.append_ #[t, t] ty [a, b].toArray) K w1 :=
  append_sl hT ty ho hsl h1 hb1 hn1 e1.size fun v' w' ho' hg' _ => hK v' w' ho' (e1.fresh (Ext.grown (S := fun x => a.ownBlock = some x) hg' fun x hx => hx) fun x hx => .inr (ho.lt x hx).1)
theorem Blk.own0 {w w1 : World} {g : Nat} {e : TypeId} (h : Blk w1 g e []) (hg : w.heap.size ≤ g) {size : Nat} : w1.ownsRow w.heap.size e size (.slice (some ⟨g, 0, none⟩) 0 0) 0 [] := h.owns (by simp) hg (by omega)
theorem copy_row (hT : ElemT P t e size bytes z) {ty : TypeId} {w : World} {v : Value} {n : Nat} {xs : List Value} (hs : Sl w v n size xs) (hone : ∀ u ∈ xs, u.oneCell' = true) (hb : n * bytes ≤ 140737488355328) (hn : n ≤ 140737488355328) {K : Value → World → Prop}
    (hK : ∀ v' w', w'.ownsRow w.heap.size e size v' n xs → Ext No w w' → K v' w') : RunS P (Instr.buildSlice t 0 [].toArray) (fun t1 w1 => RunS P (Builtin.append_ #[t, t] ty [t1, v].toArray) K w1) w := by
  refine build0 hT fun w1 b1 e1 z1 => ?_
  refine append_sl hT ty (base := w.heap.size) (b1.owns (by simp) (Nat.le_refl _) (by omega)) (hs.no e1) hone (by simpa using hb) (by omega) e1.size fun v2 w2 ho2 hg2 _ => hK v2 w2 (by simpa using ho2) ?_
  exact e1.fresh (Ext.grown (S := At1 w.heap.size) hg2 fun b hb => by simpa [Value.ownBlock, At1, eq_comm] using hb) fun b hb => .inr (by rw [show b = w.heap.size from hb]; exact Nat.le_refl _)
theorem row_one (hT : ElemT P t e size bytes z) {ty : TypeId} {w : World} {base n : Nat} {v u : Value} {xs : List Value} (ho : w.ownsRow base e size v n xs) (hu : u.cells.size = size) (hone : ∀ c ∈ u.cells.toList, c.oneCell' = true) (hb : (n + 1) * bytes ≤ 140737488355328) (hn : n + 1 ≤ 140737488355328) (hbase : base ≤ w.heap.size) {K : Value → World → Prop}
    (hK : ∀ v' w', w'.ownsRow base e size v' (n + 1) (xs ++ u.cells.toList) → Ext (fun b => v.ownBlock = some b) w w' → (v'.ownBlock = v.ownBlock ∨ ∀ b, v'.ownBlock = some b → w.heap.size ≤ b) → K v' w') : RunS P (Instr.buildSlice t 1 [(0, u)].toArray) (fun t1 w1 => RunS P (Builtin.append_ #[t, t] ty [v, t1].toArray) K w1) w := by
  refine build1 hT hu fun w1 b1 e1 z1 => ?_
  refine append_sl hT ty (owns_ext ho e1 fun _ _ hh => hh) (b1.sl (n := 1) (c := 1) (by simp [hu]) (Nat.le_refl _)) hone hb hn (by have := e1.size; omega) fun v2 w2 ho2 hg2 hat => hK v2 w2 ho2 (e1.no.trans (Ext.grown hg2 fun b hb => hb)) ?_
  rcases hat with h | h
  · exact .inl h
  · exact .inr fun b hb => by rw [h] at hb; cases hb; exact e1.size
theorem copy_one (hT : ElemT P t e size bytes z) {ty : TypeId} {S : World → Prop} {w : World} {v u : Value} {n : Nat} {xs : List Value} (hs : Sl w v n size xs) (hone : ∀ c ∈ xs, c.oneCell' = true) (hu : u.cells.size = size) (hone' : ∀ c ∈ u.cells.toList, c.oneCell' = true) (hb : (n + 1) * bytes ≤ 140737488355328) (hn : n + 1 ≤ 140737488355328)
    (hS : ∀ w', Ext No w w' → S w') {J : Value → World → Prop} (hJ : ∀ v' w', w'.ownsRow w.heap.size e size v' (n + 1) (xs ++ u.cells.toList) → Ext No w w' → J v' w') :
    ((RunS P (Instr.buildSlice t 0 [].toArray) (fun t15 w => S w ∧ ((RunS P (Builtin.append_ #[t, t] ty [t15, v].toArray) (fun t21 w => S w ∧ RunS P (Instr.buildSlice t 1 [(0, u)].toArray) (fun t23 w => S w ∧ RunS P (Builtin.append_ #[t, t] ty [t21, t23].toArray) J w) w) w) ∧
      (RunS P (Instr.buildSlice t 1 [(0, u)].toArray) (fun t23 w => S w ∧ RunS P (Builtin.append_ #[t, t] ty [t15, v].toArray) (fun t21 w => S w ∧ RunS P (Builtin.append_ #[t, t] ty [t21, t23].toArray) J w) w) w))) w) ∧
    (RunS P (Instr.buildSlice t 1 [(0, u)].toArray) (fun t23 w => S w ∧ RunS P (Instr.buildSlice t 0 [].toArray) (fun t15 w => S w ∧ RunS P (Builtin.append_ #[t, t] ty [t15, v].toArray) (fun t21 w => S w ∧ RunS P (Builtin.append_ #[t, t] ty [t21, t23].toArray) J w) w) w) w)) := by
  have hb0 : n * bytes ≤ 140737488355328 := Nat.le_trans (Nat.mul_le_mul_right _ (Nat.le_succ n)) hb
  -- an append onto a row that is new since w
  have app1 : ∀ {w1 : World} {a : Value} {m : Nat} {ys : List Value} {b : Value} {k : Nat} {zs : List Value} {K : Value → World → Prop}, Ext No w w1 → w1.ownsRow w.heap.size e size a m ys → Sl w1 b k size zs → (∀ c ∈ zs, c.oneCell' = true) → (m + k) * bytes ≤ 140737488355328 → m + k ≤ 140737488355328 →
      (∀ v' w', w'.ownsRow w.heap.size e size v' (m + k) (ys ++ zs) → Ext No w w' → (∀ {b' : Value} {k' : Nat} {zs' : List Value}, Sl w1 b' k' size zs' → (∀ g, b'.ownBlock = some g → a.ownBlock ≠ some g) → Sl w' b' k' size zs') → K v' w') → RunS P (Builtin.append_ #[t, t] ty [a, b].toArray) K w1 := fun {w1 a m ys b k zs K} e1 ho hsl h1 hb1 hn1 hK => by
    refine append_sl hT ty ho hsl h1 hb1 hn1 e1.size fun v' w' ho' hg' _ => hK v' w' ho' (e1.fresh (Ext.grown (S := fun x => a.ownBlock = some x) hg' fun x hx => hx) fun x hx => .inr (ho.lt x hx).1) fun {b' k' zs'} hb' hne => hb'.ext (Ext.grown (S := fun x => a.ownBlock = some x) hg' fun x hx => hx) fun g hg hh => hne g hg hh
  refine ⟨build0 hT fun w1 b1 e1 z1 => ⟨hS _ e1, ?_, ?_⟩, build1 hT hu fun w1 b1 e1 z1 => ⟨hS _ e1, build0 hT fun w2 b2 e2 z2 => ⟨hS _ (e1.trans e2), ?_⟩⟩⟩
  · refine app1 e1 (b1.owns (by simp) (Nat.le_refl _) (by omega)) (hs.no e1) hone (by simpa using hb0) (by omega) fun v2 w2 ho2 e2 _ => ⟨hS _ e2, build1 hT hu fun w3 b3 e3 z3 => ⟨hS _ (e2.trans e3), ?_⟩⟩
    refine app1 (e2.trans e3) (owns_ext (by simpa using ho2) e3 fun _ _ hh => hh) (b3.sl (n := 1) (c := 1) (by simp [hu]) (Nat.le_refl _)) hone' hb hn fun v4 w4 ho4 e4 _ => hJ _ _ ho4 e4
  · refine build1 hT hu fun w2 b2 e2 z2 => ⟨hS _ (e1.trans e2), ?_⟩
    have hs2 : Sl w2 (.slice (some ⟨w1.heap.size, 0, none⟩) 1 1) 1 size u.cells.toList := b2.sl (n := 1) (c := 1) (by simp [hu]) (Nat.le_refl _)
    refine app1 (e1.trans e2) (Blk.owns (b1.no e2) (by simp) (Nat.le_refl _) (by omega)) ((hs.no e1).no e2) hone (by simpa using hb0) (by omega) fun v3 w3 ho3 e3 keep => ⟨hS _ e3, ?_⟩
    refine app1 e3 (by simpa using ho3) (keep hs2 fun g hg hh => by simp [Value.ownBlock] at hg hh; omega) hone' hb hn fun v4 w4 ho4 e4 _ => hJ _ _ ho4 e4
  · have hs2 : Sl w2 (.slice (some ⟨w.heap.size, 0, none⟩) 1 1) 1 size u.cells.toList := (b1.sl (n := 1) (c := 1) (by simp [hu]) (Nat.le_refl _)).no e2
    refine app1 (e1.trans e2) (b2.owns (by simp) (by omega) (by omega)) ((hs.no e1).no e2) hone (by simpa using hb0) (by omega) fun v3 w3 ho3 e3 keep => ⟨hS _ e3, ?_⟩
    refine app1 e3 (by simpa using ho3) (keep hs2 fun g hg hh => by simp [Value.ownBlock] at hg hh; omega) hone' hb hn fun v4 w4 ho4 e4 _ => hJ _ _ ho4 e4
end
end SG

