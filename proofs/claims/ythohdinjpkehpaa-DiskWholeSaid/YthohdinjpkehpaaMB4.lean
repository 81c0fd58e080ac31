/- Several texts of ours, laid one behind the other. -/
import Derived.Test.YthohdinjpkehpaaMB3
import Derived.LaidEql
import Derived.Lib.OthersKept
import Derived.Lib.Bytealg
import Derived.Laws.Externs
import Derived.Lib.AppendZeros
/-! Maps: what a map's type is good for, at one place; keys that are pointers. No program stands here. -/
namespace SG
open Go Go.RowKit Go.Lib
set_option linter.unusedSimpArgs false
set_option linter.unusedVariables false
section
variable {κ ν : Type} [DecidableEq κ]
structure MapAt (P : Program) (t k e : TypeId) (f : κ → Value) (z : Value) (w : World) (m : List (κ × ν)) (x : κ) : Prop where
  under : P.underlying t = some (.map k e)
  check : ∀ (b : Bool), (Instr.checkKey b 10000 k (f x)).run P w = .ok () w
  find : ∀ (es : List MapEntry), es.map (·.key) = (m.map (·.1)).map f → (Instr.findKey k (f x) es).run P w = .ok ((midx (m.map (·.1)) x).bind fun i => (es[i]?).map fun e => (i, e.val)) w
  zero : ∀ w, (zeroValue e).run P w = .ok z w
  stays : Instr.sameBits 10000 (f x) (f x) = true
namespace MapR
variable {P : Program} {t k e : TypeId} {f : κ → Value} {g : ν → Value} {z : Value} {w w' : World} {b : Nat} {m : List (κ × ν)} {S : Nat → Prop} {x : κ}
theorem findRunA (hT : MapAt P t k e f z w m x) (h : MapR w b f g m) : ∃ (es : List MapEntry) (clock : Nat), w.heap[b]? = some (.map es.toArray clock) ∧ (Instr.findKey k (f x) es).run P w = .ok ((midx (m.map (·.1)) x).bind fun i => (m[i]?).map fun p => (i, g p.2)) w := by
  obtain ⟨es, clock, hb, hes, _, _, _⟩ := h
  refine ⟨es, clock, hb, ?_⟩
  rw [hT.find es (keysOf es hes)]
  congr 1
  cases midx (m.map (·.1)) x with
  | none => rfl
  | some i =>
    simp only [Option.bind_some]
    have := congrArg (fun l => (l[i]?).map (·.2)) hes
    simp only [List.getElem?_map, Option.map_map, Function.comp_def] at this
    have h2 := congrArg (Option.map fun v => (i, v)) this
    simpa [Option.map_map, Function.comp_def] using h2
theorem lookupA (hT : MapAt P t k e f z w m x) (h : MapR w b f g m) {K : Value → World → Prop} (hK : K (((mget m x).map g).getD z) w) : RunS P (Instr.lookup t (.map (some b)) (f x) false) K w := by
  obtain ⟨es, clock, hb, hf⟩ := findRunA hT h
  refine runS (w' := w) (v := ((mget m x).map g).getD z) ?_ hK
  have hm := midx_get (m := m) (x := x)
  cases hi : midx (m.map (·.1)) x with
  | none =>
    rw [hi] at hm hf
    simp only [Option.bind_none] at hm hf
    rw [hm]
    simp [Instr.lookup, Sem.run_bind, run_underlying hT.under, MapKept.run_getObj_map hb, hT.check, hf, hT.zero]
  | some i =>
    rw [hi] at hm hf
    simp only [Option.bind_some] at hm hf
    have hl : i < m.length := by have := (List.getElem?_eq_some_iff.1 (midx_some hi)).1; simpa using this
    rw [List.getElem?_eq_getElem hl] at hf
    rw [hm, List.getElem?_eq_getElem hl]
    simp [Instr.lookup, Sem.run_bind, run_underlying hT.under, MapKept.run_getObj_map hb, hT.check, hf]
theorem lookup2A (hT : MapAt P t k e f z w m x) (h : MapR w b f g m) {K : Value → World → Prop} (hK : K (.tuple [((mget m x).map g).getD z, .bool (mget m x).isSome].toArray) w) : RunS P (Instr.lookup t (.map (some b)) (f x) true) K w := by
  obtain ⟨es, clock, hb, hf⟩ := findRunA hT h
  refine runS (w' := w) (v := .tuple [((mget m x).map g).getD z, .bool (mget m x).isSome].toArray) ?_ hK
  have hm := midx_get (m := m) (x := x)
  cases hi : midx (m.map (·.1)) x with
  | none =>
    rw [hi] at hm hf
    simp only [Option.bind_none] at hm hf
    rw [hm]
    simp [Instr.lookup, Sem.run_bind, run_underlying hT.under, MapKept.run_getObj_map hb, hT.check, hf, hT.zero]
  | some i =>
    rw [hi] at hm hf
    simp only [Option.bind_some] at hm hf
    have hl : i < m.length := by have := (List.getElem?_eq_some_iff.1 (midx_some hi)).1; simpa using this
    rw [List.getElem?_eq_getElem hl] at hf
    rw [hm, List.getElem?_eq_getElem hl]
    simp [Instr.lookup, Sem.run_bind, run_underlying hT.under, MapKept.run_getObj_map hb, hT.check, hf]
/-- m[x] = v -/
theorem updateA (hT : MapAt P t k e f z w m x) (h : MapR w b f g m) (v : ν) {K : World → Prop} (hK : ∀ w', MapR w' b f g (mput m x v) → Ext (At1 b) w w' → w'.heap.size = w.heap.size → K w') : RunU P (Instr.mapUpdate t (.map (some b)) (f x) (g v)) K w := by
  have hlt := h.lt
  obtain ⟨es0, clock0, hb0, hf⟩ := findRunA hT h
  obtain ⟨es, clock, hb, hes, hnd, hcl, hkm⟩ := h
  rw [hb0] at hb
  simp only [Option.some.injEq, Obj.map.injEq] at hb
  obtain ⟨hes0, rfl⟩ := hb
  have : es0 = es := by simpa using congrArg Array.toList hes0
  subst this
  have hln : es0.length = m.length := by simpa using congrArg List.length hes
  cases hi : midx (m.map (·.1)) x with
  | none =>
    rw [hi] at hf
    have hx := midx_none hi
    refine runU (w' := { w with heap := w.heap.setIfInBounds b (.map (es0.toArray.push { key := f x, val := g v, born := clock0 }) (clock0 + 1)) }) ?_ (hK _ ⟨es0 ++ [{ key := f x, val := g v, born := clock0 }], clock0 + 1, ?_, ?_, ?_, ?_, hkm.put x v⟩ (set_ext hlt _) (by simp))
    · simp [Instr.mapUpdate, Sem.run_bind, run_underlying hT.under, MapKept.run_getObj_map hb0, hT.check, hf, MapKept.run_setObj_map _ hb0]
    · rw [set_at hlt]; simp
    · rw [mput_keys_out hx, List.map_append, List.map_append, hes]; rfl
    · rw [List.map_append, List.nodup_append]
      refine ⟨hnd, by simp, fun a ha c hc => ?_⟩
      simp at hc; subst hc
      obtain ⟨e', he', rfl⟩ := List.mem_map.1 ha
      exact Nat.ne_of_lt (hcl e' he')
    · intro e' he'
      rcases List.mem_append.1 he' with he' | he'
      · exact Nat.lt_succ_of_lt (hcl e' he')
      · simp at he'; subst he'; exact Nat.lt_succ_self _
  | some i =>
    have hki := midx_some hi
    have hl : i < m.length := by have := (List.getElem?_eq_some_iff.1 hki).1; simpa using this
    have hm1 : (m[i]'hl).1 = x := by
      rw [List.getElem?_map, List.getElem?_eq_getElem hl] at hki
      simpa using hki
    rw [hi] at hf
    simp only [Option.bind_some, List.getElem?_eq_getElem hl, Option.map_some] at hf
    have hle : i < es0.length := by omega
    have hek : (es0[i]'hle).key = f x := by
      have := congrArg (fun l => (l[i]?).map (·.1)) hes
      simp only [List.getElem?_map, List.getElem?_eq_getElem hle, List.getElem?_eq_getElem hl, Option.map_some, Option.some.injEq, hm1] at this
      exact this
    have hstay : (Instr.keyThatStays (f x) (f x)).run P w = .ok (f x) w := by simp [Instr.keyThatStays, hT.stays]
    have hxm : x ∈ m.map (·.1) := List.mem_of_getElem? hki
    refine runU (w' := { w with heap := w.heap.setIfInBounds b (.map (es0.toArray.modify i fun e => { e with key := f x, val := g v }) clock0) }) ?_ (hK _ ⟨es0.modify i fun e => { e with key := f x, val := g v }, clock0, ?_, ?_, ?_, ?_, hkm.put x v⟩ (set_ext hlt _) (by simp))
    · simp [Instr.mapUpdate, Sem.run_bind, run_underlying hT.under, MapKept.run_getObj_map hb0, hT.check, hf, MapKept.run_setObj_map _ hb0, hle, hek, hstay]
    · rw [set_at hlt]
      congr 2
      apply Array.ext'
      simp [Array.toList_modify]
    · unfold mput
      rw [if_pos hxm]
      apply List.ext_getElem?
      intro j
      have hj := congrArg (fun l => l[j]?) hes
      simp only [List.getElem?_map] at hj
      simp only [List.getElem?_map, List.getElem?_modify, Option.map_map]
      by_cases hij : i = j
      · subst hij
        rw [List.getElem?_eq_getElem hle, List.getElem?_eq_getElem hl]
        simp [hm1]
      · simp only [if_neg hij]
        cases hmj : m[j]? with
        | none => rw [hmj] at hj; simp only [Option.map_none, Option.map_eq_none_iff] at hj; rw [hj]; rfl
        | some p =>
          rw [hmj] at hj
          have hne : p.1 ≠ x := fun he => by
            have h1 : (m.map (·.1))[i]? = some x := hki
            have h2 : (m.map (·.1))[j]? = some x := by rw [List.getElem?_map, hmj]; simp [he]
            have hjl : j < (m.map (·.1)).length := (List.getElem?_eq_some_iff.1 h2).1
            have hil : i < (m.map (·.1)).length := (List.getElem?_eq_some_iff.1 h1).1
            have h3 := (List.getElem?_eq_some_iff.1 h1).2
            have h4 := (List.getElem?_eq_some_iff.1 h2).2
            rcases Nat.lt_or_gt_of_ne hij with hlt' | hgt
            · exact List.pairwise_iff_getElem.1 hkm i j hil hjl hlt' (h3.trans h4.symm)
            · exact List.pairwise_iff_getElem.1 hkm j i hjl hil hgt (h4.trans h3.symm)
          simp only [Option.map_some, Function.comp, if_neg hne] at hj ⊢
          cases hej : es0[j]? with
          | none => rw [hej] at hj; cases hj
          | some e' => rw [hej] at hj; simpa using hj
    · have : (es0.modify i fun e => { e with key := f x, val := g v }).map (·.born) = es0.map (·.born) := by
        apply List.ext_getElem?
        intro j
        simp only [List.getElem?_map, List.getElem?_modify, Option.map_map]
        by_cases hij : i = j
        · subst hij; cases es0[i]? <;> simp
        · simp [if_neg hij]
      rw [this]; exact hnd
    · intro e' he'
      obtain ⟨j, hj⟩ := List.getElem?_of_mem he'
      rw [List.getElem?_modify] at hj
      cases hej : es0[j]? with
      | none => rw [hej] at hj; cases hj
      | some e0 =>
        rw [hej] at hj
        have hb' := hcl e0 (List.mem_of_getElem? hej)
        by_cases hij : i = j
        · simp [hij] at hj; subst hj; exact hb'
        · simp [hij] at hj; subst hj; exact hb'
end MapR
end
/-- a pointer to the start of a block -/
def ptrE (b : Nat) : Value := .pointer (some ⟨b, 0, none⟩)
def IsC (w : World) (b : Nat) : Prop := ∃ c t, w.heap[b]? = some (.cells c t (0, 0))
theorem Blk.isC {w : World} {g : Nat} {t : TypeId} {cs : List Value} (h : Blk w g t cs) : IsC w g := ⟨_, _, h⟩
theorem IsC.no {w w' : World} {b : Nat} (h : IsC w b) (e : Ext No w w') : IsC w' b := by
  obtain ⟨c, t, h⟩ := h
  exact ⟨c, t, (e.blk b (Array.getElem?_eq_some_iff.1 h).1 fun h => h).trans h⟩
theorem run_ptr_eq {P : Program} {k el : TypeId} {i : TypeInfo} (hk : P.underlying k = some (.pointer el)) (hi : P.info? el = some i) (hz : i.size ≠ 0) {w : World} {x y : Nat} (hx : IsC w x) (hy : IsC w y) :
    (Op.equal k (ptrE x) (ptrE y)).run P w = .ok (decide (x = y)) w := by
  have hin : ∀ d, (Op.equalIn (d + 1) k (ptrE x) (ptrE y)).run P w = .ok (decide (x = y)) w := fun d => by
    by_cases h : x = y
    · subst h
      simp [ptrE, Op.equalIn, run_underlying hk, Go.sizeOf, typeInfo, hi, hz, run_sameAddr_same]
    · obtain ⟨ca, ta, ha⟩ := hx
      obtain ⟨cb, tb, hb⟩ := hy
      have hne : (⟨x, 0, none⟩ : Addr) ≠ ⟨y, 0, none⟩ := fun he => h (by injection he)
      have := run_sameAddr_other (P := P) w hne ha hb
      simp [ptrE, Op.equalIn, run_underlying hk, Go.sizeOf, typeInfo, hi, hz, this, h]
  exact hin 9999
theorem asking_ptr {P : Program} {k el : TypeId} {i : TypeInfo} (hk : P.underlying k = some (.pointer el)) (hi : P.info? el = some i) (hz : i.size ≠ 0) {w : World} {x : Nat} (hx : IsC w x) : ∀ (es : List MapEntry) (ks : List Nat) (n : Nat), es.map (·.key) = ks.map ptrE → (∀ y ∈ ks, IsC w y) →
    (Instr.findAsking k (ptrE x) es n).run P w = .ok ((midx ks x).bind fun i => (es[i]?).map fun e => (n + i, e.val)) w
  | [], ks, n, h, _ => by
    have : ks = [] := by simpa using h.symm
    subst this
    simp [Instr.findAsking, midx]
  | e :: es, [], n, h, _ => by simp at h
  | e :: es, y :: ks, n, h, hks => by
    simp only [List.map_cons, List.cons.injEq] at h
    have hm : midx (y :: ks) x = if y = x then some 0 else (midx ks x).map (· + 1) := by
      unfold midx
      rw [List.findIdx?_cons]
      by_cases h : y = x <;> simp [h]
    rw [hm]
    unfold Instr.findAsking
    rw [h.1, Sem.run_bind, run_ptr_eq hk hi hz hx (hks y (by simp))]
    simp only [Result.andThen_ok]
    by_cases hxy : x = y
    · subst hxy; simp
    · rw [decide_eq_false hxy, if_neg (Ne.symm hxy)]
      simp only [Bool.false_eq_true, if_false]
      rw [asking_ptr hk hi hz hx es ks (n + 1) h.2 fun z hz => hks z (List.mem_cons_of_mem _ hz)]
      congr 1
      cases midx ks x with
      | none => rfl
      | some i =>
        simp only [Option.map_some, Option.bind_some, List.getElem?_cons_succ]
        rw [show n + 1 + i = n + (i + 1) by omega]
theorem MapAt.ptr {ν : Type} {P : Program} {t k e el : TypeId} {z : Value} {i : TypeInfo} (hu : P.underlying t = some (.map k e)) (hk : P.underlying k = some (.pointer el)) (hi : P.info? el = some i) (hs : i.size ≠ 0) (hz : (P.info? e).map (·.zero) = some (some z))
    {w : World} {m : List (Nat × ν)} {x : Nat} (hx : IsC w x) (hm : ∀ y ∈ m.map (·.1), IsC w y) : MapAt P t k e ptrE z w m x where
  under := hu
  check := fun b => by
    have h : ∀ d, (Instr.checkKey b (d + 1) k (ptrE x)).run P w = .ok () w := fun d => by simp [Instr.checkKey, run_underlying hk, ptrE]
    exact h 9999
  find := fun es h => by
    have := asking_ptr hk hi hs hx es _ 0 h hm
    simp only [Nat.zero_add] at this
    cases es with
    | nil =>
      have h0 : m.map (·.1) = [] := by simpa using h.symm
      rw [h0]
      simp [Instr.findKey, run_underlying hk, Instr.findNow, midx]
    | cons e es =>
      have h1 : e.key = ptrE (m.map (·.1)).head! := by
        cases hm' : m.map (·.1) with
        | nil => rw [hm'] at h; simp at h
        | cons y ks => rw [hm'] at h; simp at h; exact h.1
      have : Instr.findNow (.pointer el) (ptrE x) (e :: es) 0 = none := by
        unfold Instr.findNow; rw [h1]; rfl
      simp only [Instr.findKey, Sem.run_bind, run_underlying hk, Result.andThen_ok, this]
      assumption
  zero := fun w => by
    cases hi : P.info? e with
    | none => rw [hi] at hz; cases hz
    | some i =>
      rw [hi] at hz
      simp only [Option.map_some, Option.some.injEq] at hz
      simp [zeroValue, typeInfo, hi, hz]
  stays := by simp [ptrE, Instr.sameBits]
end SG
/-! Disks: names, and texts that are cut. -/
namespace Go.Proofs.Ythohdinjpkehpaa
open Go SG Go.RowKit Go.Lib
set_option linter.unusedVariables false
set_option maxRecDepth 4000
set_option linter.unusedSimpArgs false

theorem okNamed : okFunc Try.prog 44 = true := by kernel_rfl
theorem callF {P : Program} {g : Nat} {args : List Value} {lb : Array Value} {K : Value → World → Prop} {w : World} (hok : okFunc P g = true) (h : CallS P g (args.toArray ++ lb) K w) : CallV' P false (.func (.func g) #[] lb) args NoP K w := by
  unfold CallV' CallV
  simp only [cond_false]
  exact ⟨by simpa using h, hok⟩
theorem callW {P : Program} {g : Nat} {args : List Value} {lb : Array Value} {K : Value → World → Prop} {w : World} (hok : okFunc P g = true) (h : CallS P g (args.toArray ++ lb) K w) : CallW' P false (.func (.func g) #[] lb) args NoP K w := by
  unfold CallW' CallV
  simp only [cond_false]
  exact ⟨by simpa using h, hok⟩
def byteOk (c : Nat) : Bool := decide (33 ≤ c) && decide (c ≤ 126) && !decide (c = 47)
def nameOk (s : El) : Bool := decide (1 ≤ s.length) && decide (s.length ≤ 32) && s.all fun c => byteOk c.toNat
theorem c121 {r : Nat} {w : World} {K : Value → World → Prop} (hK : K (.bool (!byteOk r)) w) : CallS Try.prog 44 #[.int .i32 (r : Int)] K w := by
  refine s44_call hm ?_
  unfold s44
  refine pur (bin_lss _ _ _) ?_
  refine join1 (fun t w' => w = w' ∧ (33 ≤ r → t = .bool (decide (126 < r)))) ?_ fun J0 hJ0 => ?_
  · rintro t _ ⟨rfl, ht⟩
    refine pur (v := .bool (!(decide (33 ≤ r) && decide (r ≤ 126)))) ((pick_b _ _ _).trans ?_) ?_
    · by_cases h : 33 ≤ r
      · rw [decide_eq_false (by omega), ht h]
        by_cases h2 : 126 < r
        · simp [h, h2, show ¬ r ≤ 126 by omega]
        · simp [h, h2, show r ≤ 126 by omega]
      · rw [decide_eq_true (by omega)]; simp [h]
    · refine join1 (fun t w' => w = w' ∧ ((decide (33 ≤ r) && decide (r ≤ 126)) = true → t = .bool (decide (r = 47)))) ?_ fun J1 hJ1 => ?_
      · rintro t _ ⟨rfl, ht⟩
        refine pur (v := .bool (!byteOk r)) ((pick_b _ _ _).trans ?_) hK
        unfold byteOk
        cases hh : (decide (33 ≤ r) && decide (r ≤ 126)) with
        | true => rw [ht hh]; simp
        | false => simp
      · rw [ifB_eq]
        cases hh : (decide (33 ≤ r) && decide (r ≤ 126)) with
        | true =>
          rw [if_pos (show (!true) = false from rfl)]
          refine pur (bin_eql _ _ _) (hJ1 _ _ ⟨rfl, fun _ => ?_⟩)
          congr 1
          rw [decide_eq_decide]
          omega
        | false => exact hJ1 _ _ ⟨rfl, fun h => by rw [hh] at h; cases h⟩
  · rw [ifB_eq]
    by_cases h : 33 ≤ r
    · rw [decide_eq_false (by omega), if_pos rfl]
      exact pur (bin_gtr _ _ _) (hJ0 _ _ ⟨rfl, fun _ => by congr 1; rw [decide_eq_decide]; omega⟩)
    · rw [decide_eq_true (by omega), if_neg (by simp)]
      exact hJ0 _ _ ⟨rfl, fun h' => absurd h' h⟩
theorem decode_high (s : ByteArray) (pos : Nat) (h : pos < s.size) (ha : 128 ≤ (s[pos]'h).toNat) : 128 ≤ (Utf8.decode s pos).1 := by
  have e : s.get! (pos + 0) = s[pos]'h := by
    show s.get! pos = _
    simp [ByteArray.get!, getElem!_pos, h]
    rfl
  simp only [Utf8.decode, e, if_neg (show ¬ (s[pos]'h).toNat < 128 by omega), Utf8.runeError]
  split
  · split
    · assumption
    · show 128 ≤ 65533; omega
  · split
    · split
      · rename_i hc; simp only [Bool.and_eq_true, decide_eq_true_eq] at hc; show 128 ≤ _; omega
      · show 128 ≤ 65533; omega
    · split
      · split
        · rename_i hc; simp only [Bool.and_eq_true, decide_eq_true_eq] at hc; show 128 ≤ _; omega
        · show 128 ≤ 65533; omega
      · show 128 ≤ 65533; omega
/-- strings.IndexFunc, asked for a byte that no name has -/
theorem c133 {s : El} {w : World} {K : Value → World → Prop} (hbad : ∀ (i : Nat) w', s.all (fun c => byteOk c.toNat) = false → Ext No w w' → K (.int .i64 (i : Int)) w') (hok : ∀ w', s.all (fun c => byteOk c.toNat) = true → Ext No w w' → K (.int .i64 (-1)) w') :
    CallS Try.prog 54 #[encE s, .func (.func 44) #[] #[], .bool true] K w := by
  refine s54_call hm ?_
  unfold s54
  have hsz : (⟨s.toArray⟩ : ByteArray).size = s.length := by show s.toArray.size = _; simp
  have hat : ∀ {i : Nat} (h : i < (⟨s.toArray⟩ : ByteArray).size) (h' : i < s.length), (⟨s.toArray⟩ : ByteArray)[i]'h = s[i]'h' := fun h h' => rfl
  refine join0 (fun w' => s.all (fun c => byteOk c.toNat) = true ∧ Ext No w w') (fun w' hh => hok w' hh.1 hh.2) fun J0 hJ0 => ?_
  refine runS (run_range_string w 9 ⟨s.toArray⟩ Try.underlying9) ?_
  refine loop0 (σ := Nat) (fun pos w' => pos ≤ s.length ∧ w'.heap[w.heap.size]? = some (.stringIter ⟨s.toArray⟩ pos) ∧ Ext No w w' ∧ (s.take pos).all (fun c => byteOk c.toNat) = true) (fun pos => s.length - pos) 0
    ⟨Nat.zero_le _, World.iter_heap _ _ _, Ext.alloc _ _, rfl⟩ ?_
  rintro pos w1 ⟨hp, hit, e1, hall⟩ L1 hL1
  by_cases hlt : pos < s.length
  · have hlt' : pos < (⟨s.toArray⟩ : ByteArray).size := by rw [hsz]; exact hlt
    refine runS (run_next_any_at w1 _ _ pos 0 hit hlt') ?_
    have hkl : w.heap.size < w1.heap.size := (Array.getElem?_eq_some_iff.1 hit).1
    have e2 : Ext No w (w1.iterAt w.heap.size ⟨s.toArray⟩ (pos + (Utf8.decode ⟨s.toArray⟩ pos).2)) :=
      e1.fresh (MapR.set_ext hkl _) fun b hb => .inr (by rw [show b = w.heap.size from hb]; exact Nat.le_refl _)
    refine pur (extract_0 _ _) (condT rfl (pur (extract_1 _ _ _) (pur (extract_2 _ _ _ _) (callF okNamed (c121 (r := (Utf8.decode ⟨s.toArray⟩ pos).1) (pur (bool_eql _ _) ?_))))))
    have hget : s[pos]? = some (s[pos]'hlt) := List.getElem?_eq_getElem hlt
    by_cases hasc : (s[pos]'hlt).toNat < 128
    · have hd := decode_ascii ⟨s.toArray⟩ pos hlt' (by rw [hat hlt' hlt]; exact hasc)
      rw [hat hlt' hlt] at hd
      rw [hd] at e2 ⊢
      cases hb : byteOk (s[pos]'hlt).toNat with
      | true =>
        refine condF (by simp [hb]) (hL1 (pos + 1) _ ⟨by omega, iterAt_heap _ _ _ _ _ hit, e2, ?_⟩ (by omega))
        rw [List.take_add_one, hget, List.all_append, hall]; simp [hb]
      | false =>
        refine condT (by simp [hb]) (hbad pos _ ?_ e2)
        rw [Bool.eq_false_iff]
        intro ht
        have := List.all_eq_true.1 ht _ (List.getElem_mem hlt)
        rw [hb] at this; cases this
    · have hh := decode_high ⟨s.toArray⟩ pos hlt' (by rw [hat hlt' hlt]; omega)
      have hb : byteOk (Utf8.decode ⟨s.toArray⟩ pos).1 = false := by unfold byteOk; simp; omega
      refine condT (by simp [hb]) (hbad pos _ ?_ e2)
      rw [Bool.eq_false_iff]
      intro ht
      have := List.all_eq_true.1 ht _ (List.getElem_mem hlt)
      unfold byteOk at this
      simp at this; omega
  · refine runS (run_next_end_at w1 _ _ pos 0 hit (by rw [hsz]; omega)) (pur (extract_0 _ _) (condF rfl (hJ0 _ ⟨?_, e1⟩)))
    rwa [List.take_of_length_le (by omega)] at hall
theorem lenE (s : El) : lenStrV (encE s) = some (.int .i64 (s.length : Int)) := by
  refine (len_str _).trans ?_
  congr 2
/-- named -/
theorem cnamed {s : El} {w : World} {K : Value → World → Prop} (hK : ∀ w', Ext No w w' → K (.bool (nameOk s)) w') : CallS Try.prog 21 #[encE s] K w := by
  refine s21_call hm ?_
  unfold s21
  refine pur (lenE s) (pur (bin_geq _ _ _) ?_)
  refine join1 (fun t w' => w = w' ∧ (1 ≤ s.length → t = .bool (decide (s.length ≤ 32)))) ?_ fun J0 hJ0 => ?_
  · rintro t _ ⟨rfl, ht⟩
    refine pur (v := .bool (decide (1 ≤ s.length) && decide (s.length ≤ 32))) ((pick_b _ _ _).trans ?_) ?_
    · by_cases h : 1 ≤ s.length
      · rw [decide_eq_true (by omega), ht h]; simp [h]
      · rw [decide_eq_false (by omega)]; simp [h]
    · refine join1 (fun t w' => Ext No w w' ∧ ((decide (1 ≤ s.length) && decide (s.length ≤ 32)) = true → t = .bool (s.all fun c => byteOk c.toNat))) ?_ fun J1 hJ1 => ?_
      · rintro t w1 ⟨e1, ht⟩
        refine pur (v := .bool (nameOk s)) ((pick_b _ _ _).trans ?_) (hK _ e1)
        unfold nameOk
        cases hh : (decide (1 ≤ s.length) && decide (s.length ≤ 32)) with
        | true => rw [ht hh]; simp
        | false => simp
      · rw [ifB_eq]
        cases hh : (decide (1 ≤ s.length) && decide (s.length ≤ 32)) with
        | false => exact hJ1 _ _ ⟨Ext.refl _ _, fun h => by rw [hh] at h; cases h⟩
        | true =>
          rw [if_pos rfl]
          refine s43_call hm ?_
          unfold s43
          refine c133 (fun i w1 hb e1 => ?_) fun w1 hb e1 => ?_
          · exact pur (bin_lss _ _ _) (hJ1 _ _ ⟨e1, fun _ => by rw [hb, decide_eq_false (by omega)]⟩)
          · exact pur (bin_lss _ _ _) (hJ1 _ _ ⟨e1, fun _ => by rw [hb]; congr 1⟩)
  · rw [ifB_eq]
    by_cases h : 1 ≤ s.length
    · rw [decide_eq_true (by omega), if_pos rfl]
      exact pur (lenE s) (pur (v := .bool (decide (s.length ≤ 32))) ((bin_leq _ _ _).trans (by congr 2; rw [decide_eq_decide]; omega)) (hJ0 _ _ ⟨rfl, fun _ => rfl⟩))
    · rw [decide_eq_false (by omega), if_neg (by simp)]
      exact hJ0 _ _ ⟨rfl, fun h' => absurd h' h⟩
end Go.Proofs.Ythohdinjpkehpaa
/-! Disks: a path is cut. -/
namespace Go.Proofs.Ythohdinjpkehpaa
open Go SG Go.RowKit Go.Lib
set_option linter.unusedVariables false
set_option maxRecDepth 4000
set_option linter.unusedSimpArgs false

def cutAt (s : El) : Option (El × El) := (s.findIdx? fun c => c == 47).map fun i => (s.take i, s.drop (i + 1))
def splitP (s : El) : Option (El × El) := match cutAt s with
  | some (d, n) => if nameOk d && nameOk n then some (d, n) else none
  | none => none
theorem indexByte_find : ∀ (l : El), indexByte l 47 = match l.findIdx? (fun c => c == 47) with | some i => (i : Int) | none => -1
  | [] => rfl
  | b :: l => by
    have ih := indexByte_find l
    unfold indexByte
    rw [List.findIdx?_cons]
    by_cases h : (b == 47) = true
    · simp [h]
    · have h' : (b == 47) = false := by simpa using h
      rw [h', ih]
      cases hf : l.findIdx? (fun c => c == 47) with
      | none => simp
      | some i =>
        simp only [Bool.false_eq_true, if_false, Option.map_some]
        have : ((i : Int) == -1) = false := by rw [beq_eq_false_iff_ne]; omega
        rw [this]; simp
theorem take_str (s : El) {i : Nat} (h : i ≤ s.length) (k : IntKind) : sliceStrV (encE s) none (some (.int k (i : Int))) = some (encE (s.take i)) := by
  have hsz : (⟨s.toArray⟩ : ByteArray).size = s.length := by show s.toArray.size = _; simp
  unfold sliceStrV encE
  simp only [boundV]
  rw [if_pos ⟨by omega, by rw [hsz]; omega⟩]
  simp only [Option.bind_some, Int.toNat_natCast]
  congr 2
  rw [extract_eq]
  simp
theorem drop_str (s : El) {i : Nat} (h : i ≤ s.length) (k : IntKind) : sliceStrV (encE s) (some (.int k (i : Int))) none = some (encE (s.drop i)) := by
  have hsz : (⟨s.toArray⟩ : ByteArray).size = s.length := by show s.toArray.size = _; simp
  unfold sliceStrV encE
  simp only [boundV, Option.bind_some]
  rw [if_pos ⟨by omega, by rw [hsz]; omega⟩]
  simp only [Option.bind_some, Int.toNat_natCast]
  congr 2
  rw [extract_eq, hsz]
  congr 1
  simp
  rw [List.take_of_length_le (by simp)]
theorem cIndex {s : El} {w : World} {K : Value → World → Prop} (hK : K (.int .i64 (indexByte s 47)) w) : CallS Try.prog 61 #[encE s, .string ⟨#[47]⟩] K w := by
  refine s61_call hm ?_
  unfold s61
  refine pur (v := .int .i64 1) rfl (pur (v := .bool false) rfl ?_)
  refine join1 (fun t w' => w = w' ∧ t = .bool (decide (([47] : El) = s))) ?_ fun J0 hJ0 => ?_
  · rintro _ _ ⟨rfl, rfl⟩
    refine pur (pick_b _ _ _) ?_
    rw [if_neg (by simp)]
    refine condB (fun h => ?_) (fun h => ?_)
    · have : s = [47] := (by simpa using h : ([47] : El) = s).symm
      subst this
      exact hK
    · refine pur (v := .bool true) rfl (condT rfl (pur (v := .int .u8 47) rfl ?_))
      refine s65_call hm ?_
      unfold s65
      refine ⟨.int .i64 (indexByte s 47), w, ?_, hK⟩
      show (callFunc 80 #[encE s, .int .u8 47]).run Try.prog w = _
      rw [run_callFunc_extern Try.func80 (by kernel_rfl) (by kernel_rfl) (by kernel_rfl) (e := Extern.BytealgIndexByte.indexByte) (by kernel_rfl)]
      unfold encE
      rw [run_indexByteString]
      rfl
  · rw [ifB_eq, if_pos rfl]
    exact pur (eqE [47] s) (hJ0 _ _ ⟨rfl, rfl⟩)
/-- strings.Cut at the first stroke -/
theorem cCut {s : El} {w : World} {K : Value → World → Prop} (h0 : cutAt s = none → K (.tuple [encE s, encE [], .bool false].toArray) w) (h1 : ∀ a b w', cutAt s = some (a, b) → Ext No w w' → K (.tuple [encE a, encE b, .bool true].toArray) w') (hl : s.length ≤ 9223372036854775806) :
    CallS Try.prog 46 #[encE s, .string ⟨#[47]⟩] K w := by
  refine s46_call hm ?_
  unfold s46
  refine s55_call hm ?_
  unfold s55
  refine cIndex ?_
  rw [indexByte_find]
  unfold cutAt at h0 h1
  cases hf : s.findIdx? (fun c => c == 47) with
  | none =>
    rw [hf] at h0
    simp only
    exact pur (bin_geq _ _ _) (condF (by simp) (pur (extract_0 _ _) (pur (extract_1 _ _ _) (pur (extract_2 _ _ _ _) (h0 rfl)))))
  | some i =>
    rw [hf] at h1
    have hi : i < s.length := by
      obtain ⟨h, _⟩ := List.findIdx?_eq_some_iff_getElem.1 hf
      exact h
    simp only
    refine pur (bin_geq _ _ _) (condT (by simp) (draw (fun _ => True) trivial ?_))
    refine pur (take_str s (Nat.le_of_lt hi) .i64) (pur (v := .int .i64 1) rfl (pur (add64 (c := ((i + 1 : Nat) : Int)) (by omega) (by omega) (by omega)) (pur (drop_str s hi .i64) ?_)))
    exact pur (extract_0 _ _) (pur (extract_1 _ _ _) (pur (extract_2 _ _ _ _) (h1 _ _ _ rfl (Ext.drew w))))
end Go.Proofs.Ythohdinjpkehpaa
/-! Disks: a disk as plain data, and what its calls do. No program stands here. -/
namespace Go.Proofs.Ythohdinjpkehpaa
open Go SG Go.RowKit Go.Lib
set_option linter.unusedVariables false
set_option maxRecDepth 4000
set_option linter.unusedSimpArgs false

abbrev Bys := List UInt8
/-- bytes with others put over them -/
def overB (b : Bys) (k : Nat) (l : Bys) : Bys := b.take k ++ l ++ b.drop (k + l.length)
theorem overB_len {b : Bys} {k : Nat} {l : Bys} (h : k ≤ b.length) : (overB b k l).length = max b.length (k + l.length) := by unfold overB; simp; omega
abbrev Wr := Nat × Bys
def nowB (b : Bys) (ws : List Wr) : Bys := ws.foldl (fun b p => overB b p.1 p.2) b
structure Fi where
  fast : Bys
  ws : List Wr
def Fi.now (f : Fi) : Bys := nowB f.fast f.ws
def Fi.open (f : Fi) : Nat := (f.ws.map fun p => p.2.length).sum
abbrev Way := List (El × Nat)
structure Di where
  name : El
  was : List Way
  now : Way
structure Scr where
  from_ : Int
  many : Int
  seen : Int
structure Dk where
  quota : Int
  dirs : List Di
  files : List Fi
  fail : Scr
  stop : Scr
def Scr.cnt (s : Scr) : (Bool × Bool) × Scr :=
  if s.from_ < 1 ∨ s.many = 0 then ((false, false), s)
  else ((decide (0 ≤ s.seen + 1 - s.from_) && (decide (s.many < 0) || decide (s.seen + 1 - s.from_ < s.many)), decide (s.seen + 1 - s.from_ = 0)), { s with seen := s.seen + 1 })
/-- a change is counted: how it goes wrong, whether half of it is done -/
def chgV (d : Dk) : Int × Bool := if d.stop.cnt.1.1 then (22, d.stop.cnt.1.2) else if d.fail.cnt.1.1 then (21, d.fail.cnt.1.2) else (0, false)
def chgD (d : Dk) : Dk := { d with fail := d.fail.cnt.2, stop := d.stop.cnt.2 }
def Dk.dir (d : Dk) (x : El) : Option Di := d.dirs.find? fun D => decide (D.name = x)
/-- a path's directory and name, or what is wrong -/
def Dk.path (d : Dk) (s : El) : Except Int (Di × El) := match splitP s with
  | none => .error 1
  | some (x, n) => match d.dir x with
    | none => .error 6
    | some D => .ok (D, n)
def Dk.file (d : Dk) (s : El) : Except Int Nat := match d.path s with
  | .error e => .error e
  | .ok (D, n) => match mget D.now n with
    | none => .error 6
    | some i => .ok i
theorem Dk.dir_some {d : Dk} {x : El} {D : Di} (h : d.dir x = some D) : D ∈ d.dirs ∧ D.name = x := ⟨List.mem_of_find?_eq_some h, by simpa using List.find?_some h⟩
theorem Dk.dir_none {d : Dk} {x : El} (h : d.dir x = none) : ∀ D ∈ d.dirs, D.name ≠ x := fun D hD he => by
  have := List.find?_eq_none.1 h D hD
  simp [he] at this
end Go.Proofs.Ythohdinjpkehpaa
/-! Rules: a loop over a map; what a round leaves alone. No program stands here. -/
namespace SG
open Go Go.RowKit Go.Lib
set_option linter.unusedSimpArgs false
set_option linter.unusedVariables false

theorem nodup_len {α : Type} : ∀ (l m : List α), l.Nodup → (∀ x ∈ l, x ∈ m) → l.length ≤ m.length
  | [], m, _, _ => by simp
  | a :: l, m, hn, hs => by
    have hn' := List.nodup_cons.1 hn
    obtain ⟨s, t, rfl⟩ := List.append_of_mem (hs a (by simp))
    have := nodup_len l (s ++ t) hn'.2 fun x hx => by
      have h1 := hs x (List.mem_cons_of_mem _ hx)
      rcases List.mem_append.1 h1 with h | h
      · exact List.mem_append_left _ h
      · rcases List.mem_cons.1 h with rfl | h
        · exact absurd hx hn'.1
        · exact List.mem_append_right _ h
    simp at this ⊢; omega
theorem filt_le {α : Type} : ∀ (m : List α) (P Q : α → Bool), (∀ x ∈ m, Q x = true → P x = true) → (m.filter Q).length ≤ (m.filter P).length
  | [], _, _, _ => by simp
  | a :: m, P, Q, h => by
    have ih := filt_le m P Q fun x hx => h x (List.mem_cons_of_mem _ hx)
    have ha := h a (by simp)
    rw [List.filter_cons, List.filter_cons]
    cases hq : Q a <;> cases hp : P a
    · simpa using ih
    · simp; omega
    · rw [ha hq] at hp; cases hp
    · simpa using ih
theorem filt_lt {α : Type} : ∀ (m : List α) (P Q : α → Bool), (∀ x ∈ m, Q x = true → P x = true) → ∀ x ∈ m, P x = true → Q x = false → (m.filter Q).length < (m.filter P).length
  | [], _, _, _, x, hx, _, _ => by simp at hx
  | a :: m, P, Q, h, x, hx, hp, hq => by
    have hm : ∀ x ∈ m, Q x = true → P x = true := fun x hx => h x (List.mem_cons_of_mem _ hx)
    rw [List.filter_cons, List.filter_cons]
    rcases List.mem_cons.1 hx with rfl | hx
    · have := filt_le m P Q hm
      rw [if_pos hp, if_neg (by simp [hq])]
      simp; omega
    · have ih := filt_lt m P Q hm x hx hp hq
      have ha := h a (by simp)
      cases hq' : Q a <;> cases hp' : P a
      · simpa using ih
      · simp; omega
      · rw [ha hq'] at hp'; cases hp'
      · simpa using ih
/-- what a round leaves alone: maps and iterators -/
def KpW (A B : World) : Prop := ∀ (k : Nat) (o : Obj), A.heap[k]? = some o → o.isWalk = true → B.heap[k]? = some o
theorem KpW.trans {A B C : World} (h : KpW A B) (k : KpW B C) : KpW A C := fun i o hi ho => k i o (h i o hi ho) ho
theorem KpW.ext {S : Nat → Prop} {A B : World} (e : Ext S A B) (h : ∀ b o, S b → A.heap[b]? = some o → o.isWalk = false) : KpW A B := fun k o hk ho => by
  refine (e.blk k (Array.getElem?_eq_some_iff.1 hk).1 fun hs => ?_).trans hk
  rw [h k o hs hk] at ho; cases ho
theorem KpW.put {W : World} {l : Nat} {o o' : Obj} (hl : W.heap[l]? = some o) (hw : o.isWalk = false) : KpW W (W.putObj l o') := fun k x hk hx => by
  by_cases h : k = l
  · subst h
    rw [hl] at hk
    have : o = x := Option.some.inj hk
    subst this
    rw [hw] at hx; cases hx
  · exact (World.putObj_heap_other h).trans hk
section
variable {κ ν : Type} {P : Program} {f : κ → Value} {g : ν → Value} {w : World} {r b : Nat} {m : List (κ × ν)}
theorem IterR.kp {w w' : World} {done : List (κ × ν)} (h : IterR w r b f g m done) (k : KpW w w') : IterR w' r b f g m done := by
  obtain ⟨es, clock, since, seen, c0, a1, a2, a3, a4, a5, a6, a7⟩ := h
  exact ⟨es, clock, since, seen, c0, k _ _ a1 rfl, a2, a3, a4, a5, k _ _ a6 rfl, a7⟩
theorem IterR.walk {w : World} {done : List (κ × ν)} (h : IterR w r b f g m done) : ∃ o, w.heap[r]? = some o ∧ o.isWalk = true ∧ o.isCells = false := by
  obtain ⟨es, clock, since, seen, c0, a1, a2, a3, a4, a5, a6, a7⟩ := h
  exact ⟨_, a6, rfl, rfl⟩
/-- for k, v := range m, in whatever order -/
theorem iterLoop (it : IterR w r b f g m []) {X : Value → (World → Prop) → World → Prop} {Kend : World → Prop} (I : List (κ × ν) → World → Prop) (h0 : I [] w) (ty : TypeId)
    (hI : ∀ done w' w'', I done w' → IterR w' r b f g m done → Ext (At1 r) w' w'' → I done w'')
    (hround : ∀ done p w', p ∈ m → p ∉ done → IterR w' r b f g m (done ++ [p]) → I done w' → ∀ L : World → Prop, (∀ w'', IterR w'' r b f g m (done ++ [p]) → I (done ++ [p]) w'' → L w'') → X (.tuple [f p.1, g p.2].toArray) L w')
    (hend : ∀ done w', done.Perm m → I done w' → Kend w') :
    LoopS 0 (fun (L0 : World → Prop) (w : World) => RunS P (Instr.next (.pointer (some ⟨r, 0, none⟩)) false ty) (fun t w => PureS (extractV 0 t) fun c => CondS c (RunS P (Instr.entry (.pointer (some ⟨r, 0, none⟩))) (fun t8 w => X t8 L0 w) w) (Kend w)) w) w := by
  classical
  refine loop0 (σ := List (κ × ν)) (fun done w' => IterR w' r b f g m done ∧ I done w') (fun done => (m.filter fun q => decide (q ∉ done)).length) [] ⟨it, h0⟩ ?_
  rintro done w1 ⟨it1, i1⟩ L hL
  refine it1.next ty (fun hp => pur (extract_0 _ _) (condF rfl (hend done w1 hp i1))) fun p w2 hpm hpd it2 hent e2 z2 => ?_
  refine pur (extract_0 _ _) (condT rfl (hent _ (hround done p w2 hpm hpd it2 (hI done w1 w2 i1 it1 e2) L fun w3 it3 i3 => hL (done ++ [p]) w3 ⟨it3, i3⟩ ?_)))
  exact filt_lt m _ _ (fun x _ hx => by simp at hx ⊢; exact fun h => hx.1 h) p hpm (by simpa using hpd) (by simp)
end
theorem ifYes (X Y : Prop) (h : X) : IfB (.bool true) true X Y := by rw [ifB_eq, if_pos rfl]; exact h
theorem ifNo (X Y : Prop) (h : Y) : IfB (.bool false) true X Y := by rw [ifB_eq, if_neg (by simp)]; exact h
theorem ifYes' (X Y : Prop) (h : X) : IfB (.bool false) false X Y := by rw [ifB_eq, if_pos rfl]; exact h
theorem ifNo' (X Y : Prop) (h : Y) : IfB (.bool true) false X Y := by rw [ifB_eq, if_neg (by simp)]; exact h
theorem ifU (want : Bool) (X Y : Prop) (h : Y) : IfB undef want X Y := by unfold IfB isB undef; simpa using h
end SG
/-! Rules: a loop over a map that carries a value. No program stands here. -/
namespace SG
open Go Go.RowKit Go.Lib
set_option linter.unusedSimpArgs false
set_option linter.unusedVariables false
section
variable {κ ν : Type} {P : Program} {f : κ → Value} {g : ν → Value} {w : World} {r b : Nat} {m : List (κ × ν)}
theorem iterLoop1 (it : IterR w r b f g m []) {X : Value → Value → (Value → World → Prop) → World → Prop} {Kend : Value → World → Prop} (I : List (κ × ν) → Value → World → Prop) {v0 : Value} (h0 : I [] v0 w) (ty : TypeId)
    (hI : ∀ done v w' w'', I done v w' → IterR w' r b f g m done → Ext (At1 r) w' w'' → I done v w'')
    (hround : ∀ done v p w', p ∈ m → p ∉ done → IterR w' r b f g m (done ++ [p]) → I done v w' → ∀ L : Value → World → Prop, (∀ v' w'', IterR w'' r b f g m (done ++ [p]) → I (done ++ [p]) v' w'' → L v' w'') → X (.tuple [f p.1, g p.2].toArray) v L w')
    (hend : ∀ done v w', done.Perm m → I done v w' → Kend v w') :
    LoopS 1 (fun (L0 : Value → World → Prop) (v : Value) (w : World) => RunS P (Instr.next (.pointer (some ⟨r, 0, none⟩)) false ty) (fun t w => PureS (extractV 0 t) fun c => CondS c (RunS P (Instr.entry (.pointer (some ⟨r, 0, none⟩))) (fun t8 w => X t8 v L0 w) w) (Kend v w)) w) v0 w := by
  classical
  refine loop1 (σ := List (κ × ν)) (fun done v w' => IterR w' r b f g m done ∧ I done v w') (fun done => (m.filter fun q => decide (q ∉ done)).length) [] ⟨it, h0⟩ ?_
  rintro done v w1 ⟨it1, i1⟩ L hL
  refine it1.next ty (fun hp => pur (extract_0 _ _) (condF rfl (hend done v w1 hp i1))) fun p w2 hpm hpd it2 hent e2 z2 => ?_
  refine pur (extract_0 _ _) (condT rfl (hent _ (hround done v p w2 hpm hpd it2 (hI done v w1 w2 i1 it1 e2) L fun v' w3 it3 i3 => hL (done ++ [p]) v' w3 ⟨it3, i3⟩ ?_)))
  exact filt_lt m _ _ (fun x _ hx => by simp at hx ⊢; exact fun h => hx.1 h) p hpm (by simpa using hpd) (by simp)
end
end SG
/-! Rules: rows of the call's own lie apart; a cell of a row is written. No program stands here. -/
namespace SG
open Go Go.RowKit Go.Lib
set_option linter.unusedSimpArgs false
set_option linter.unusedVariables false

theorem Own.ne_blk {w : World} {base : Nat} {e t : TypeId} {size n g : Nat} {v : Value} {xs cs : List Value} (h : w.ownsRow base e size v n xs) (hb : Blk w g t cs) (hne : e ≠ t) : v.ownBlock ≠ some g := by
  rcases h.2 with ⟨rfl, _⟩ | ⟨g', cap, cur, rfl, _, hh, _⟩
  · simp [Value.ownBlock]
  · intro he
    have hg : g' = g := by simpa [Value.ownBlock] using he
    subst hg
    unfold Blk at hb
    rw [hh] at hb
    injection hb with hb
    injection hb with _ hb
    exact hne hb
theorem Own.ne_own {w : World} {base base' : Nat} {e e' : TypeId} {size size' n n' : Nat} {v v' : Value} {xs xs' : List Value} (h : w.ownsRow base e size v n xs) (h' : w.ownsRow base' e' size' v' n' xs') (hne : e ≠ e') :
    ∀ g, v.ownBlock = some g → v'.ownBlock ≠ some g := by
  intro g hg hg'
  rcases h.2 with ⟨rfl, _⟩ | ⟨g1, cap, cur, rfl, _, hh, _⟩
  · simp [Value.ownBlock] at hg
  · rcases h'.2 with ⟨rfl, _⟩ | ⟨g2, cap2, cur2, rfl, _, hh2, _⟩
    · simp [Value.ownBlock] at hg'
    · simp only [Value.ownBlock, Option.some.injEq] at hg hg'
      subst hg
      subst hg'
      rw [hh] at hh2
      injection hh2 with hh2
      injection hh2 with _ hh2
      exact hne hh2
theorem Own.one {w : World} {base : Nat} {e : TypeId} {size n : Nat} {v : Value} {xs : List Value} (h : w.ownsRow base e size v n xs) : v.oneCell' = true := by
  rcases h.2 with ⟨rfl, _⟩ | ⟨g', cap, cur, rfl, _⟩ <;> rfl
/-- a cell of a row of one-cell elements: its address, its content; and it is written -/
theorem Own.at1 {w : World} {base : Nat} {e : TypeId} {n : Nat} {v : Value} {xs : List Value} (h : w.ownsRow base e 1 v n xs) {i : Nat} {x : Value} (hx : xs[i]? = some x) (k : IntKind) :
    ∃ g, v.ownBlock = some g ∧ indexAddrV 1 v (.int k (i : Int)) = some (.pointer (some ⟨g, i, none⟩)) ∧ w.cell? ⟨g, i, none⟩ = some x ∧
      ∀ (y : Value) {K : World → Prop}, y.oneCell' = true → (∀ w', w'.ownsRow base e 1 v n (xs.set i y) → Ext (At1 g) w w' → w'.heap.size = w.heap.size → K w') → StoreC (.pointer (some ⟨g, i, none⟩)) y K w := by
  have hl : xs.length = n := by have := h.1; omega
  have hi : i < xs.length := (List.getElem?_eq_some_iff.1 hx).1
  rcases h.2 with ⟨rfl, rfl⟩ | ⟨g, cap, cur, rfl, hb, hg, hnc, hcm, hcs, htake⟩
  · omega
  · rw [Nat.mul_one] at htake
    have hbk : Blk w g e (xs ++ cur.toList.drop n) := by
      unfold Blk
      rw [← htake, List.take_append_drop]
      simpa using hg
    refine ⟨g, rfl, ?_, ?_, fun y K hy hK => ?_⟩
    · rw [index_sl ⟨by omega, by omega⟩, Addr.add_mk]; simp
    · rw [hbk.cell, List.getElem?_append_left hi, hx]
    · refine storeB hbk (by simp; omega) hy fun w' b e' z => hK w' ⟨by simp; omega, .inr ⟨g, cap, ((xs ++ cur.toList.drop n).set i y).toArray, rfl, hb, b, hnc, hcm, ?_, ?_⟩⟩ e' z
      · simp; simp at hcs; omega
      · rw [List.toList_toArray, Nat.mul_one, List.set_append_left _ _ hi, List.take_append_of_le_length (by simp; omega), List.take_of_length_le (by simp; omega)]
end SG
/-! Rules: a slice made with room. No program stands here. -/
namespace SG
open Go Go.RowKit Go.Lib
set_option linter.unusedSimpArgs false
set_option linter.unusedVariables false
theorem makeCap {P : Program} {t e : TypeId} {size bytes : Nat} {z : Value} (hT : ElemT P t e size bytes z) {kl kc : IntKind} {n : Nat} (hz1 : z.cells.size = size) (hb : bytes * n ≤ 281474976710656) (hn : n ≤ 140737488355328) {w : World} {K : Value → World → Prop}
    (hK : ∀ v w', w'.ownsRow w.heap.size e size v 0 [] → v.ownBlock = some w.heap.size → Ext No w w' → K v w') :
    RunS P (Instr.makeSlice t (.int kl 0) (.int kc (n : Int))) K w := by
  obtain ⟨i, hi, hz, hsz, hby⟩ := info_parts hT.info
  have hb' : (i.bytes : Int) * (n : Int) ≤ 281474976710656 := by
    rw [hby]
    have h : ((bytes * n : Nat) : Int) ≤ 281474976710656 := by omega
    rwa [Int.natCast_mul] at h
  have hr := run_make (P := P) w t e i z hT.under hi hz kl kc 0 n (by omega) (by omega) hb' (by omega)
  simp only [Int.toNat_natCast, hsz] at hr
  refine runS hr (hK _ _ ⟨by simp, .inr ⟨w.heap.size, n, madeCells z.cells (n * size), rfl, Nat.le_refl _, heap_alloc_new w _, Nat.zero_le _, by unfold maxLen; omega, ?_, by simp⟩⟩ rfl (Ext.alloc w _))
  unfold madeCells
  simp
end SG
/-! Disks: how a disk lies in memory. Each block has a mark: nobody's, what never changes, or whose it is. -/
namespace Go.Proofs.Ythohdinjpkehpaa
open Go SG Go.RowKit Go.Lib
set_option linter.unusedVariables false
set_option maxRecDepth 4000
set_option linter.unusedSimpArgs false

inductive Cmp where
  | hdr
  | dirs
  | dir (x : El)
  | file (i : Nat)
  | doc
inductive Tag where
  | free
  | ice
  | tmp
  | new_
  | own (d : Nat) (c : Cmp)
abbrev Tags := Nat → Tag
/-- the world went on: only blocks with marks in M were written; the marks stay -/
structure Gon (M : Tag → Prop) (w : World) (T : Tags) (w' : World) (T' : Tags) : Prop where
  ext : Ext (fun b => M (T b)) w w'
  same : ∀ b, b < w.heap.size → T' b = T b
def Nil : Tag → Prop := fun _ => False
namespace Gon
variable {M M' : Tag → Prop} {w w' w'' : World} {T T' T'' : Tags}
theorem refl (w : World) (T : Tags) : Gon M w T w T := ⟨Ext.refl _ _, fun _ _ => rfl⟩
theorem trans (h : Gon M w T w' T') (k : Gon M w' T' w'' T'') : Gon M w T w'' T'' :=
  ⟨h.ext.trans' k.ext (fun _ hb _ => hb) fun b hb hl => by rw [← h.same b hl]; exact hb, fun b hb => (k.same b (Nat.lt_of_lt_of_le hb h.ext.size)).trans (h.same b hb)⟩
theorem mono (h : Gon M w T w' T') (hM : ∀ t, M t → M' t) : Gon M' w T w' T' := ⟨h.ext.mono fun b hb _ => hM _ hb, h.same⟩
theorem no (e : Ext No w w') : Gon M w T w' T := ⟨e.no, fun _ _ => rfl⟩
theorem at1 {g : Nat} {t : Tag} (e : Ext (At1 g) w w') (hg : T g = t) (ht : M t) : Gon M w T w' T := ⟨e.mono fun b hb _ => by rw [show b = g from hb, hg]; exact ht, fun _ _ => rfl⟩
end Gon
def mark (T : Tags) (g : Nat) (t : Tag) : Tags := fun b => if b = g then t else T b
theorem mark_at (T : Tags) (g : Nat) (t : Tag) : mark T g t g = t := if_pos rfl
theorem mark_ne (T : Tags) {g b : Nat} (t : Tag) (h : b ≠ g) : mark T g t b = T b := if_neg h
/-- what is new gets a mark -/
theorem Gon.mark {M : Tag → Prop} {w w' : World} {T T' : Tags} (h : Gon M w T w' T') {g : Nat} (hg : w.heap.size ≤ g) (t : Tag) : Gon M w T w' (mark T' g t) :=
  ⟨h.ext, fun b hb => by rw [mark_ne _ _ (by omega)]; exact h.same b hb⟩
theorem Gon.marks {M : Tag → Prop} {w w' : World} {T T' T'' : Tags} (h : Gon M w T w' T') (hs : ∀ b, b < w.heap.size → T'' b = T' b) : Gon M w T w' T'' :=
  ⟨h.ext, fun b hb => (hs b hb).trans (h.same b hb)⟩

/-- bytes that never change -/
def Byt (T : Tags) (w : World) (v : Value) (l : Bys) : Prop := w.ownsRow 0 5 1 v l.length (SG.byteCells l) ∧ ∀ b, v.ownBlock = some b → T b = .ice
/-- names that never change -/
def NamR (T : Tags) (ad : Nat → Option Nat) (w : World) (b : Nat) (way : Way) : Prop :=
  T b = .ice ∧ (∃ m : List (El × Nat), MapR w b encE ptrE m ∧ m.length = way.length ∧ ∀ x, mget m x = (mget way x).bind ad) ∧ ∀ p ∈ way, (ad p.2).isSome
def wrC (q : Wr × Value) : List Value := [.int .i64 (q.1.1 : Int), q.2]
theorem wrC_len (q : Wr × Value) : (wrC q).length = 2 := rfl
def FilR (T : Tags) (d i : Nat) (w : World) (g : Nat) (f : Fi) : Prop :=
  T g = .own d (.file i) ∧ ∃ (fv ov nv : Value) (qs : List (Wr × Value)), Blk w g 64 [fv, ov, nv] ∧ Byt T w fv f.fast ∧ Byt T w nv f.now ∧ qs.map (·.1) = f.ws ∧ w.ownsRow 0 87 2 ov f.ws.length (flat wrC qs) ∧
    (∀ b, ov.ownBlock = some b → T b = .own d (.file i)) ∧ ∀ q ∈ qs, Byt T w q.2 q.1.2
def DirR (T : Tags) (d : Nat) (ad : Nat → Option Nat) (w : World) (g : Nat) (D : Di) : Prop :=
  T g = .own d (.dir D.name) ∧ ∃ (mn : Nat) (wv : Value) (bs : List (Way × Nat)), Blk w g 56 [.map (some mn), wv] ∧ NamR T ad w mn D.now ∧ bs.map (·.1) = D.was ∧ w.ownsRow 0 53 1 wv D.was.length (bs.map fun p => .map (some p.2)) ∧
    (∀ b, wv.ownBlock = some b → T b = .own d (.dir D.name)) ∧ ∀ p ∈ bs, NamR T ad w p.2 p.1
def scrC (s : Scr) : List Value := [.int .i64 s.from_, .int .i64 s.many, .int .i64 s.seen]
def hdrC (q : Int) (md : Nat) (a b : Scr) : List Value := [.int .i64 q, .map (some md)] ++ scrC a ++ scrC b
/-- a disk, but for its head -/
structure Body (T : Tags) (d : Nat) (ad : Nat → Option Nat) (w : World) (md : Nat) (dm : List (El × Nat)) (dirs : List Di) (files : List Fi) : Prop where
  mdT : T md = .own d .dirs
  mdR : MapR w md encE ptrE dm
  some_ : ∀ D ∈ dirs, ∃ gd, mget dm D.name = some gd ∧ DirR T d ad w gd D
  none_ : ∀ x, (∀ D ∈ dirs, D.name ≠ x) → mget dm x = none
  len : dm.length = dirs.length
  fil : ∀ i gf, ad i = some gf → ∃ f, files[i]? = some f ∧ FilR T d i w gf f
structure Dx (T : Tags) (d : Nat) (w : World) (g : Nat) (st : Dk) (md : Nat) (dm : List (El × Nat)) (ad : Nat → Option Nat) : Prop where
  tag : T g = .own d .hdr
  blk : Blk w g 46 (hdrC st.quota md st.fail st.stop)
  body : Body T d ad w md dm st.dirs st.files
def Dsk (T : Tags) (d : Nat) (w : World) (g : Nat) (st : Dk) : Prop := ∃ md dm ad, Dx T d w g st md dm ad
section
variable {M : Tag → Prop} {T T' : Tags} {w w' : World} {d i g : Nat} {ad : Nat → Option Nat}
theorem Byt.keep {v : Value} {l : Bys} (h : Byt T w v l) (k : Gon M w T w' T') (hi : ¬ M .ice) : Byt T' w' v l :=
  ⟨owns_ext h.1 k.ext fun b hb hh => by simp only [h.2 b hb] at hh; exact hi hh, fun b hb => (k.same b (h.1.lt b hb).2).trans (h.2 b hb)⟩
theorem NamR.keep {b : Nat} {way : Way} (h : NamR T ad w b way) (k : Gon M w T w' T') (hi : ¬ M .ice) : NamR T' ad w' b way := by
  obtain ⟨h1, ⟨m, h2, h2l, h3⟩, h4⟩ := h
  exact ⟨(k.same b h2.lt).trans h1, ⟨m, h2.ext k.ext (by rw [h1]; exact hi), h2l, h3⟩, h4⟩
theorem FilR.keep {f : Fi} (h : FilR T d i w g f) (k : Gon M w T w' T') (hi : ¬ M .ice) (ho : ¬ M (.own d (.file i))) : FilR T' d i w' g f := by
  obtain ⟨h0, fv, ov, nv, qs, h1, h2, h3, h4, h5, h6, h7⟩ := h
  exact ⟨(k.same g h1.lt).trans h0, fv, ov, nv, qs, h1.ext k.ext (by rw [h0]; exact ho), h2.keep k hi, h3.keep k hi, h4, owns_ext h5 k.ext (fun b hb => by rw [h6 b hb]; exact ho), fun b hb => (k.same b (h5.lt b hb).2).trans (h6 b hb), fun q hq => (h7 q hq).keep k hi⟩
theorem DirR.keep {D : Di} (h : DirR T d ad w g D) (k : Gon M w T w' T') (hi : ¬ M .ice) (ho : ¬ M (.own d (.dir D.name))) : DirR T' d ad w' g D := by
  obtain ⟨h0, mn, wv, bs, h1, h2, h3, h4, h5, h6⟩ := h
  exact ⟨(k.same g h1.lt).trans h0, mn, wv, bs, h1.ext k.ext (by rw [h0]; exact ho), h2.keep k hi, h3, owns_ext h4 k.ext (fun b hb => by rw [h5 b hb]; exact ho), fun b hb => (k.same b (h4.lt b hb).2).trans (h5 b hb), fun p hp => (h6 p hp).keep k hi⟩
theorem Body.keep {md : Nat} {dm : List (El × Nat)} {dirs : List Di} {files : List Fi} (h : Body T d ad w md dm dirs files) (k : Gon M w T w' T') (hi : ¬ M .ice) (hh : ¬ M (.own d .dirs)) (hd : ∀ x, ¬ M (.own d (.dir x))) (hf : ∀ i, ¬ M (.own d (.file i))) : Body T' d ad w' md dm dirs files where
  mdT := (k.same md h.mdR.lt).trans h.mdT
  mdR := h.mdR.ext k.ext (by rw [h.mdT]; exact hh)
  some_ := fun D hD => by
    obtain ⟨gd, h1, h2⟩ := h.some_ D hD
    exact ⟨gd, h1, h2.keep k hi (hd _)⟩
  none_ := h.none_
  len := h.len
  fil := fun i gf hg => by
    obtain ⟨f, h1, h2⟩ := h.fil i gf hg
    exact ⟨f, h1, h2.keep k hi (hf _)⟩
theorem Dx.keep {st : Dk} {md : Nat} {dm : List (El × Nat)} (h : Dx T d w g st md dm ad) (k : Gon M w T w' T') (hi : ¬ M .ice) (ho : ∀ c, ¬ M (.own d c)) : Dx T' d w' g st md dm ad :=
  ⟨(k.same g h.blk.lt).trans h.tag, h.blk.ext k.ext (by rw [h.tag]; exact ho _), h.body.keep k hi (ho _) (fun _ => ho _) fun _ => ho _⟩
theorem Dx.no {st : Dk} {md : Nat} {dm : List (El × Nat)} (h : Dx T d w g st md dm ad) (e : Ext No w w') : Dx T d w' g st md dm ad := h.keep (M := Nil) (Gon.no e) (fun h => h) fun _ h => h
theorem Dsk.keep {st : Dk} (h : Dsk T d w g st) (k : Gon M w T w' T') (hi : ¬ M .ice) (ho : ∀ c, ¬ M (.own d c)) : Dsk T' d w' g st := by
  obtain ⟨md, dm, ad, h⟩ := h
  exact ⟨md, dm, ad, h.keep k hi ho⟩
theorem Dsk.no {st : Dk} (h : Dsk T d w g st) (e : Ext No w w') : Dsk T d w' g st := h.keep (M := Nil) (Gon.no e) (fun h => h) fun _ h => h
end
/-! ### kinds of maps -/
theorem check_str {P : Program} {k : TypeId} (h : P.underlying k = some .string) (b : Bool) (s : ByteArray) (w : World) : (Instr.checkKey b 10000 k (.string s)).run P w = .ok () w := by
  exact MapKept.run_checkKey h (by first | rfl | trivial | simp [MapKept.IsKey]) b 9999
theorem beq_str (x y : El) : ((⟨x.toArray⟩ : ByteArray) == ⟨y.toArray⟩) = decide (x = y) := by
  show ((x.toArray : Array UInt8) == y.toArray) = _
  rw [Bool.eq_iff_iff, decide_eq_true_iff, beq_iff_eq]
  exact ⟨fun h => by simpa using congrArg Array.toList h, fun h => by rw [h]⟩
theorem same_str (x y : El) : Instr.sameNow .string (encE x) (encE y) = some (decide (x = y)) := by
  simp only [Instr.sameNow, encE]
  rw [beq_str]
theorem MTdir : MapT Try.prog 42 9 48 encE (.pointer none) :=
  MapT.of Try.underlying42 Try.underlying9 (fun x b w => check_str Try.underlying9 b _ w) same_str (by kernel_rfl) (fun x => by simp only [encE, Instr.sameBits]; rw [beq_str]; simp)
theorem MTnam : MapT Try.prog 53 9 59 encE (.pointer none) :=
  MapT.of Try.underlying53 Try.underlying9 (fun x b w => check_str Try.underlying9 b _ w) same_str (by kernel_rfl) (fun x => by simp only [encE, Instr.sameBits]; rw [beq_str]; simp)
end Go.Proofs.Ythohdinjpkehpaa
/-! Disks: a change is counted; paths are looked up. -/
namespace Go.Proofs.Ythohdinjpkehpaa
open Go SG Go.RowKit Go.Lib
set_option linter.unusedVariables false
set_option maxRecDepth 4000
set_option linter.unusedSimpArgs false

def ScrOk (n : Nat) (s : Scr) : Prop := -9223372036854775808 ≤ s.from_ ∧ s.from_ ≤ 9223372036854775807 ∧ 0 ≤ s.seen ∧ s.seen ≤ (n : Int)
theorem set_same {cs : List Value} {i : Nat} {v : Value} (h : cs[i]? = some v) : cs.set i v = cs := by
  apply List.ext_getElem?
  intro j
  rw [List.getElem?_set]
  split
  · rename_i hij; subst hij
    rw [if_pos (List.getElem?_eq_some_iff.1 h).1, h]
  · rfl
set_option maxHeartbeats 1000000 in
theorem c82 {w : World} {g o n : Nat} {cs : List Value} {s : Scr} (hb : Blk w g 46 cs) (h0 : cs[o]? = some (.int .i64 s.from_)) (h1 : cs[o + 1]? = some (.int .i64 s.many)) (h2 : cs[o + 2]? = some (.int .i64 s.seen)) (hs : ScrOk n s) (hn : n ≤ 4611686018427387904) {K : Value → World → Prop}
    (hK : ∀ w', Blk w' g 46 (cs.set (o + 2) (.int .i64 s.cnt.2.seen)) → Ext (At1 g) w w' → K (.tuple [.bool s.cnt.1.1, .bool s.cnt.1.2].toArray) w') : CallS Try.prog 45 #[.pointer (some ⟨g, o, none⟩)] K w := by
  obtain ⟨hf1, hf2, hs1, hs2⟩ := hs
  refine s45_call hm ?_
  unfold s45
  have ld : ∀ {w' : World} {cs' : List Value} {i : Nat} {v : Value} {K' : Value → World → Prop}, Blk w' g 46 cs' → cs'[o + i]? = some v → K' v w' → PureS (nilV (.pointer (some ⟨g, o, none⟩))) fun t => PureS (fieldAddrV i t) fun t => LoadC t K' w' := fun {w' cs' i v K'} hb hv hk => pur (nil_ptr _) (pur (field_ptr _ _ _) (loadB hb hv hk))
  refine ld hb (i := 0) h0 (pur (bin_lss _ _ _) ?_)
  refine join1 (fun t w' => w = w' ∧ (¬ s.from_ < 1 → t = .bool (decide (s.many = 0)))) ?_ fun J0 hJ0 => ?_
  · rintro t _ ⟨rfl, ht⟩
    refine pur (v := .bool (decide (s.from_ < 1 ∨ s.many = 0))) ((pick_b _ _ _).trans ?_) (condD (fun hc => ?_) (fun hc => ?_))
    · by_cases h : s.from_ < 1
      · simp [h]
      · rw [ht h]; simp [h]
    · have hcnt : s.cnt = ((false, false), s) := by unfold Scr.cnt; rw [if_pos hc]
      rw [hcnt] at hK
      exact hK w (by rw [set_same h2]; exact hb) (Ext.refl _ _)
    · have hcnt : s.cnt = ((decide (0 ≤ s.seen + 1 - s.from_) && (decide (s.many < 0) || decide (s.seen + 1 - s.from_ < s.many)), decide (s.seen + 1 - s.from_ = 0)), { s with seen := s.seen + 1 }) := by unfold Scr.cnt; rw [if_neg hc]
      rw [hcnt] at hK
      have hf : 1 ≤ s.from_ := by omega
      simp only at hK
      refine ld hb h2 (pur (add64 (c := s.seen + 1) rfl (by omega) (by omega)) (pur (nil_ptr _) (pur (field_ptr _ _ _) (storeB hb (List.getElem?_eq_some_iff.1 h2).1 rfl fun w1 b1 e1 z1 => ?_))))
      have b1d := b1.no (Ext.drew w1)
      have e1d : Ext (At1 g) w w1.drew := e1.trans (Ext.drew w1)
      have hfin := hK w1.drew b1d e1d
      have hl2 : o + 2 < cs.length := (List.getElem?_eq_some_iff.1 h2).1
      have g0 : (cs.set (o + 2) (.int .i64 (s.seen + 1)))[o + 0]? = some (.int .i64 s.from_) := by rw [List.getElem?_set_ne (by omega)]; exact h0
      have g1 : (cs.set (o + 2) (.int .i64 (s.seen + 1)))[o + 1]? = some (.int .i64 s.many) := by rw [List.getElem?_set_ne (by omega)]; exact h1
      have g2 : (cs.set (o + 2) (.int .i64 (s.seen + 1)))[o + 2]? = some (.int .i64 (s.seen + 1)) := by rw [List.getElem?_set_self hl2]
      refine draw (fun w' => w' = w1.drew) rfl ?_
      refine pur (nil_ptr _) (pur (field_ptr _ _ _) (pur (nil_ptr _) (pur (field_ptr _ _ _) ?_)))
      refine heldC (v := .int .i64 (s.seen + 1)) (fun w' hh => by rw [hh]; exact (b1d.cell (o + 2)).trans g2) (heldC (v := .int .i64 s.from_) (fun w' hh => by rw [hh]; exact (b1d.cell (o + 0)).trans g0) ?_)
      refine pur (sub64 (c := s.seen + 1 - s.from_) rfl (by omega) (by omega)) (pur (bin_geq _ _ _) ?_)
      generalize hkk : s.seen + 1 - s.from_ = k at *
      refine join1 (fun t w' => w1.drew = w' ∧ (0 ≤ k → t = .bool (decide (s.many < 0)))) ?_ fun J2 hJ2 => ?_
      · rintro t _ ⟨rfl, ht⟩
        refine join1 (fun u w' => w1.drew = w' ∧ (0 ≤ k → ¬ s.many < 0 → u = .bool (decide (k < s.many)))) ?_ fun J3 hJ3 => ?_
        · rintro u _ ⟨rfl, hu⟩
          refine join1 (fun v w' => w1.drew = w' ∧ (0 ≤ k → v = .bool (decide (s.many < 0) || decide (k < s.many)))) ?_ fun J4 hJ4 => ?_
          · rintro v _ ⟨rfl, hv⟩
            refine pur (v := .bool (decide (0 ≤ k) && (decide (s.many < 0) || decide (k < s.many)))) ((pick_b _ _ _).trans ?_) (pur (bin_eql _ _ _) hfin)
            by_cases h : 0 ≤ k
            · rw [hv h]; simp [h]
            · simp [h]
          · rw [ifB_eq]
            by_cases h : 0 ≤ k
            · rw [if_pos (by simp [h]), ht h]
              refine pur (v := .bool (decide (s.many < 0) || decide (k < s.many))) ((pick_b _ _ _).trans ?_) (hJ4 _ _ ⟨rfl, fun _ => rfl⟩)
              by_cases h2 : s.many < 0
              · simp [h2]
              · rw [hu h h2]; simp [h2]
            · rw [if_neg (by simp [h])]
              exact hJ4 _ _ ⟨rfl, fun h' => absurd h' h⟩
        · by_cases hb' : isB t false = true
          · unfold IfB; rw [if_pos hb']
            exact ld b1d g1 (pur (bin_lss _ _ _) (hJ3 _ _ ⟨rfl, fun _ _ => rfl⟩))
          · unfold IfB; rw [if_neg hb']
            refine hJ3 _ _ ⟨rfl, fun h h2 => ?_⟩
            rw [ht h] at hb'
            simp [isB, h2] at hb'
      · rw [ifB_eq]
        by_cases h : 0 ≤ k
        · rw [if_pos (by simp [h])]
          exact ld b1d g1 (pur (bin_lss _ _ _) (hJ2 _ _ ⟨rfl, fun _ => rfl⟩))
        · rw [if_neg (by simp [h])]
          exact hJ2 _ _ ⟨rfl, fun h' => absurd h' h⟩
  · rw [ifB_eq]
    by_cases h : s.from_ < 1
    · rw [if_neg (by simp [h])]
      exact hJ0 _ _ ⟨rfl, fun h' => absurd h h'⟩
    · rw [if_pos (by simp [h])]
      exact ld hb h1 (pur (bin_eql _ _ _) (hJ0 _ _ ⟨rfl, fun _ => rfl⟩))
def Hdr (d : Nat) : Tag → Prop := fun t => t = .own d .hdr
section
variable {T : Tags} {w : World} {d g n : Nat} {st : Dk} {K : Value → World → Prop}
/-- change -/
theorem Dx.change {md : Nat} {dm : List (El × Nat)} {ad : Nat → Option Nat} (h : Dx T d w g st md dm ad) (h1 : ScrOk n st.fail) (h2 : ScrOk n st.stop) (hn : n ≤ 4611686018427387904)
    (hK : ∀ w', Dx T d w' g (chgD st) md dm ad → Gon (Hdr d) w T w' T → K (.tuple [.int .i64 (chgV st).1, .bool (chgV st).2].toArray) w') : CallS Try.prog 22 #[.pointer (some ⟨g, 0, none⟩)] K w := by
  obtain ⟨hT, hb, hB⟩ := h
  refine s22_call hm ?_
  unfold s22
  refine pur (nil_ptr _) (pur (field_ptr _ _ _) (c82 (o := 2) hb rfl rfl rfl h1 hn fun w1 b1 e1 => ?_))
  refine pur (extract_0 _ _) (pur (extract_1 _ _ _) (pur (nil_ptr _) (pur (field_ptr _ _ _) ?_)))
  refine c82 (o := 5) (s := st.stop) b1 rfl rfl rfl h2 hn fun w2 b2 e2 => pur (extract_0 _ _) (pur (extract_1 _ _ _) ?_)
  have e12 : Ext (At1 g) w w2 := e1.trans e2
  have k : Gon (Hdr d) w T w2 T := Gon.at1 e12 hT rfl
  have hcs : ∀ s : Scr, s.cnt.2.from_ = s.from_ ∧ s.cnt.2.many = s.many := fun s => by unfold Scr.cnt; split <;> exact ⟨rfl, rfl⟩
  have hD : Dx T d w2 g (chgD st) md dm ad := ⟨hT, by
    have : hdrC st.quota md st.fail.cnt.2 st.stop.cnt.2 = ((hdrC st.quota md st.fail st.stop).set (2 + 2) (.int .i64 st.fail.cnt.2.seen)).set (5 + 2) (.int .i64 st.stop.cnt.2.seen) := by
      simp [hdrC, scrC, hcs]
    show Blk w2 g 46 (hdrC st.quota md st.fail.cnt.2 st.stop.cnt.2)
    rw [this]; exact b2, hB.keep k (by intro h; cases h) (by intro h; cases h) (fun _ h => by cases h) fun _ h => by cases h⟩
  have hfin := hK w2 hD k
  unfold chgV at hfin
  refine condB (fun h => ?_) (fun h => ?_)
  · rw [if_pos h] at hfin; exact hfin
  · rw [if_neg (by simp [h])] at hfin
    refine condB (fun h' => ?_) (fun h' => ?_)
    · rw [if_pos h'] at hfin; exact hfin
    · rw [if_neg (by simp [h'])] at hfin; exact hfin
/-- the place of the directories -/
theorem Dx.ldDirs {md : Nat} {dm : List (El × Nat)} {ad : Nat → Option Nat} (h : Dx T d w g st md dm ad) {K' : Value → World → Prop} (hK : K' (.map (some md)) w) : PureS (nilV (.pointer (some ⟨g, 0, none⟩))) fun t => PureS (fieldAddrV 1 t) fun t => LoadC t K' w :=
  pur (nil_ptr _) (pur (field_ptr _ _ _) (loadB h.blk rfl hK))
theorem Body.dirs_none {md : Nat} {dm : List (El × Nat)} {ad : Nat → Option Nat} (h : Body T d ad w md dm st.dirs st.files) {x : El} (hx : st.dir x = none) : mget dm x = none := h.none_ x (Dk.dir_none hx)
theorem Body.dirs_some {md : Nat} {dm : List (El × Nat)} {ad : Nat → Option Nat} (h : Body T d ad w md dm st.dirs st.files) {x : El} {D : Di} (hx : st.dir x = some D) : ∃ gd, mget dm x = some gd ∧ DirR T d ad w gd D := by
  obtain ⟨h1, h2⟩ := Dk.dir_some hx
  obtain ⟨gd, h3, h4⟩ := h.some_ D h1
  exact ⟨gd, by rw [← h2]; exact h3, h4⟩
/-- path -/
theorem Dx.path {md : Nat} {dm : List (El × Nat)} {ad : Nat → Option Nat} (h : Dx T d w g st md dm ad) {s : El} (hl : s.length ≤ 9223372036854775806)
    (h0 : ∀ e w', st.path s = .error e → Ext No w w' → K (.tuple [.pointer none, encE [], .int .i64 e].toArray) w')
    (h1 : ∀ D n gd w', st.path s = .ok (D, n) → mget dm D.name = some gd → DirR T d ad w' gd D → Ext No w w' → K (.tuple [ptrE gd, encE n, .int .i64 0].toArray) w') : CallS Try.prog 23 #[.pointer (some ⟨g, 0, none⟩), encE s] K w := by
  refine s23_call hm ?_
  unfold s23
  have body : ∀ {w1 : World} (a b : El) (f : Bool), Ext No w w1 → (f = false → splitP s = none) → (f = true → splitP s = if nameOk a && nameOk b then some (a, b) else none) →
      JoinS (fun (t23 : Value) (w : World) => PureS (pickV (.bool (!f)) (Value.bool true) t23) fun t24 => JoinS (fun (t28 : Value) (w : World) => PureS (pickV t24 (Value.bool true) t28) fun t29 => CondS t29 (K (Value.tuple [(Value.pointer none), (Value.string ⟨#[]⟩), (Value.int .i64 1)].toArray) w) (
        PureS (nilV (.pointer (some ⟨g, 0, none⟩))) fun t32 => PureS (fieldAddrV 1 t32) fun t33 => LoadC t33 (fun t34 w => RunS Try.prog (Instr.lookup 42 t34 (encE a) true) (fun t36 w => PureS (extractV 0 t36) fun t37 => PureS (extractV 1 t36) fun t38 => PureS (notV t38) fun t40 =>
        CondS t40 (K (Value.tuple [(Value.pointer none), (Value.string ⟨#[]⟩), (Value.int .i64 6)].toArray) w) (K (Value.tuple [t37, encE b, (Value.int .i64 0)].toArray) w)) w) w)) fun J1 =>
        IfB t24 false (CallS Try.prog 21 [encE b].toArray (fun t27 w => PureS (notV t27) fun t28_1 => J1 t28_1 w) w) (J1 undef w)) fun J0 =>
      IfB (.bool (!f)) false (CallS Try.prog 21 [encE a].toArray (fun t22 w => PureS (notV t22) fun t23_1 => J0 t23_1 w) w1) (J0 undef w1) := fun {w1} a b f e1 hf0 hf1 => by
    refine join1 (fun t w' => Ext No w w' ∧ (f = true → t = .bool (!nameOk a))) ?_ fun J0 hJ0 => ?_
    · rintro t w2 ⟨e2, ht⟩
      refine pur (v := .bool (!(f && nameOk a))) ((pick_b _ _ _).trans (by cases f with | false => rfl | true => rw [ht rfl]; rfl)) ?_
      refine join1 (fun t w' => Ext No w w' ∧ ((f && nameOk a) = true → t = .bool (!nameOk b))) ?_ fun J1 hJ1 => ?_
      · rintro t w3 ⟨e3, ht⟩
        refine pur (v := .bool (!(f && nameOk a && nameOk b))) ((pick_b _ _ _).trans (by cases hh : (f && nameOk a) with | false => rfl | true => rw [ht hh]; rfl)) (condB (fun hc => ?_) (fun hc => ?_))
        · refine h0 1 w3 ?_ e3
          unfold Dk.path
          have : splitP s = none := by
            cases hff : f with
            | false => exact hf0 hff
            | true =>
              rw [hf1 hff, if_neg]
              intro hh
              rw [hff] at hc
              simp [hh] at hc
          rw [this]
        · have hall : f = true ∧ nameOk a = true ∧ nameOk b = true := by simpa [Bool.and_assoc, and_assoc] using hc
          obtain ⟨rfl, ha, hb⟩ := hall
          have hsp : splitP s = some (a, b) := by rw [hf1 rfl, if_pos (by simp [ha, hb])]
          have h3 := h.no e3
          refine h3.ldDirs (h3.body.mdR.lookup2 MTdir a (pur (extract_0 _ _) (pur (extract_1 _ _ _) (pur (not_b _) ?_))))
          cases hd : st.dir a with
          | none =>
            rw [h3.body.dirs_none hd]
            exact condT rfl (h0 6 w3 (by unfold Dk.path; rw [hsp]; simp only [hd]) e3)
          | some D =>
            obtain ⟨gd, hg1, hg2⟩ := h3.body.dirs_some hd
            rw [hg1]
            exact condF rfl (h1 D b gd w3 (by unfold Dk.path; rw [hsp]; simp only [hd]) (by rw [(Dk.dir_some hd).2]; exact hg1) hg2 e3)
      · rw [ifB_eq]
        cases hh : (f && nameOk a) with
        | false => exact hJ1 _ _ ⟨e2, fun h' => by rw [hh] at h'; cases h'⟩
        | true =>
          rw [if_pos (show (!true) = false from rfl)]
          exact cnamed fun w3 e3 => pur (not_b _) (hJ1 _ _ ⟨e2.trans e3, fun _ => rfl⟩)
    · rw [ifB_eq]
      cases f with
      | false => exact hJ0 _ _ ⟨e1, fun h' => by cases h'⟩
      | true =>
        rw [if_pos (show (!true) = false from rfl)]
        exact cnamed fun w3 e3 => pur (not_b _) (hJ0 _ _ ⟨e1.trans e3, fun _ => rfl⟩)
  refine cCut (fun hc => ?_) (fun a b w1 hc e1 => ?_) hl
  · exact pur (extract_0 _ _) (pur (extract_1 _ _ _) (pur (extract_2 _ _ _ _) (pur (not_b _) (body s [] false (Ext.refl _ _) (fun _ => by unfold splitP; rw [hc]) fun h => by cases h))))
  · exact pur (extract_0 _ _) (pur (extract_1 _ _ _) (pur (extract_2 _ _ _ _) (pur (not_b _) (body a b true e1 (fun h => by cases h) fun _ => by unfold splitP; rw [hc]))))
/-- the names of a directory, asked for one -/
theorem NamR.get {ad : Nat → Option Nat} {b : Nat} {way : Way} (h : NamR T ad w b way) (x : El) : (mget way x = none ∧ RunS Try.prog (Instr.lookup 53 (.map (some b)) (encE x) true) (fun v w' => v = .tuple [.pointer none, .bool false].toArray ∧ w' = w) w) ∨
    ∃ i gf, mget way x = some i ∧ ad i = some gf ∧ RunS Try.prog (Instr.lookup 53 (.map (some b)) (encE x) true) (fun v w' => v = .tuple [ptrE gf, .bool true].toArray ∧ w' = w) w := by
  obtain ⟨_, ⟨m, hm, hml, hg⟩, hs⟩ := h
  cases hx : mget way x with
  | none =>
    refine .inl ⟨rfl, hm.lookup2 MTnam x ?_⟩
    rw [hg, hx]; exact ⟨rfl, rfl⟩
  | some i =>
    have hmem : ∃ p ∈ way, p.2 = i := by
      unfold mget at hx
      obtain ⟨p, hp, hpe⟩ := Option.map_eq_some_iff.1 hx
      exact ⟨p, List.mem_of_find?_eq_some hp, hpe⟩
    obtain ⟨p, hp, rfl⟩ := hmem
    obtain ⟨gf, hgf⟩ := Option.isSome_iff_exists.1 (hs p hp)
    refine .inr ⟨p.2, gf, rfl, hgf, hm.lookup2 MTnam x ?_⟩
    rw [hg, hx]
    simp only [Option.bind_some, hgf]
    exact ⟨rfl, trivial⟩
theorem runS_mono {P : Program} {s : Sem Value} {K K' : Value → World → Prop} {w : World} (h : RunS P s K w) (hK : ∀ v w', K v w' → K' v w') : RunS P s K' w := by
  unfold RunS at h ⊢
  split at h
  · rename_i v w' hv
    exact hK _ _ h
  · exact h.elim
/-- file -/
theorem Dx.file {md : Nat} {dm : List (El × Nat)} {ad : Nat → Option Nat} (h : Dx T d w g st md dm ad) {s : El} (hl : s.length ≤ 9223372036854775806)
    (h0 : ∀ e w', st.file s = .error e → Ext No w w' → e ≠ 0 → K (.tuple [.pointer none, .int .i64 e].toArray) w')
    (h1 : ∀ i gf f w', st.file s = .ok i → ad i = some gf → st.files[i]? = some f → FilR T d i w' gf f → Ext No w w' → K (.tuple [ptrE gf, .int .i64 0].toArray) w') : CallS Try.prog 26 #[.pointer (some ⟨g, 0, none⟩), encE s] K w := by
  refine s26_call hm ?_
  unfold s26
  refine h.path hl (fun e w1 hp e1 => ?_) fun D n gd w1 hp hgd hD e1 => ?_
  · have he : e = 1 ∨ e = 6 := by
      unfold Dk.path at hp
      split at hp
      · injection hp with hp; exact .inl hp.symm
      · split at hp
        · injection hp with hp; exact .inr hp.symm
        · cases hp
    have hne : e ≠ 0 := by rcases he with rfl | rfl <;> decide
    refine pur (extract_0 _ _) (pur (extract_1 _ _ _) (pur (extract_2 _ _ _ _) (pur (bin_neq _ _ _) (condT (by simpa using hne) (h0 e w1 (by unfold Dk.file; rw [hp]) e1 hne)))))
  · refine pur (extract_0 _ _) (pur (extract_1 _ _ _) (pur (extract_2 _ _ _ _) (pur (v := .bool false) ((bin_neq _ _ _).trans (by simp)) (condF rfl ?_))))
    obtain ⟨_, mn, wv, bs, hb, hN, _⟩ := hD
    refine pur (nil_ptr _) (pur (field_ptr _ _ _) (loadB hb (v := .map (some mn)) rfl ?_))
    rcases hN.get n with ⟨hx, hr⟩ | ⟨i, gf, hx, hgf, hr⟩
    · refine runS_mono hr ?_
      rintro _ w2 ⟨rfl, hw⟩
      obtain rfl := hw.symm
      exact pur (extract_0 _ _) (pur (extract_1 _ _ _) (pur (not_b _) (condT rfl (h0 6 w1 (by unfold Dk.file; rw [hp]; simp only [hx]) e1 (by decide)))))
    · refine runS_mono hr ?_
      rintro _ w2 ⟨rfl, hw⟩
      obtain rfl := hw.symm
      obtain ⟨f, hf1, hf2⟩ := (h.no e1).body.fil i gf hgf
      exact pur (extract_0 _ _) (pur (extract_1 _ _ _) (pur (not_b _) (condF rfl (h1 i gf f w1 (by unfold Dk.file; rw [hp]; simp only [hx]) hgf hf1 hf2 e1))))
/-- find -/
def Dk.findD (st : Dk) (s : El) : Except Int Di := if nameOk s then (match st.dir s with | none => .error 6 | some D => .ok D) else .error 1
theorem Dx.find {md : Nat} {dm : List (El × Nat)} {ad : Nat → Option Nat} (h : Dx T d w g st md dm ad) {s : El}
    (h0 : ∀ e w', st.findD s = .error e → e ≠ 0 → Ext No w w' → K (.tuple [.pointer none, .int .i64 e].toArray) w')
    (h1 : ∀ D gd w', st.findD s = .ok D → mget dm D.name = some gd → DirR T d ad w' gd D → Ext No w w' → K (.tuple [ptrE gd, .int .i64 0].toArray) w') : CallS Try.prog 28 #[.pointer (some ⟨g, 0, none⟩), encE s] K w := by
  refine s28_call hm ?_
  unfold s28
  refine cnamed fun w1 e1 => pur (not_b _) (condB (fun hc => ?_) (fun hc => ?_))
  · exact h0 1 w1 (by unfold Dk.findD; rw [if_neg (by simpa using hc)]) (by decide) e1
  · have hn : nameOk s = true := by simpa using hc
    have h3 := h.no e1
    refine h3.ldDirs (h3.body.mdR.lookup2 MTdir s (pur (extract_0 _ _) (pur (extract_1 _ _ _) (pur (not_b _) ?_))))
    cases hd : st.dir s with
    | none =>
      rw [h3.body.dirs_none hd]
      exact condT rfl (h0 6 w1 (by unfold Dk.findD; rw [if_pos hn, hd]) (by decide) e1)
    | some D =>
      obtain ⟨gd, hg1, hg2⟩ := h3.body.dirs_some hd
      rw [hg1]
      exact condF rfl (h1 D gd w1 (by unfold Dk.findD; rw [if_pos hn, hd]) (by rw [(Dk.dir_some hd).2]; exact hg1) hg2 e1)
end
end Go.Proofs.Ythohdinjpkehpaa
/-! Disks: a directory's names change. -/
namespace Go.Proofs.Ythohdinjpkehpaa
open Go SG Go.RowKit Go.Lib
set_option linter.unusedVariables false
set_option maxRecDepth 4000
set_option linter.unusedSimpArgs false

/-! ### names in order -/
def wput : Way → El → Nat → Way
  | [], x, i => [(x, i)]
  | (y, j) :: r, x, i => if ltE x y then (x, i) :: (y, j) :: r else if x = y then (x, i) :: r else (y, j) :: wput r x i
def Ord (l : Way) : Prop := l.Pairwise fun p q => ltE p.1 q.1 = true
theorem ltE_ne {x y : El} (h : ltE x y = true) : x ≠ y := fun he => by rw [he, lt_irr] at h; cases h
theorem Ord.keys {l : Way} (h : Ord l) : Keys l := by
  unfold Keys
  rw [List.Nodup, List.pairwise_map]
  exact h.imp fun h => ltE_ne h
theorem wput_mem {l : Way} {x : El} {i : Nat} : ∀ {p : El × Nat}, p ∈ wput l x i → p = (x, i) ∨ p ∈ l := by
  induction l with
  | nil => intro p h; simp [wput] at h; exact .inl h
  | cons q r ih =>
    intro p h
    obtain ⟨y, j⟩ := q
    simp only [wput] at h
    split at h
    · rcases List.mem_cons.1 h with h | h
      · exact .inl h
      · exact .inr h
    · split at h
      · rcases List.mem_cons.1 h with h | h
        · exact .inl h
        · exact .inr (List.mem_cons_of_mem _ h)
      · rcases List.mem_cons.1 h with h | h
        · exact .inr (by rw [h]; simp)
        · exact (ih h).imp id (List.mem_cons_of_mem _)
theorem Ord.put {l : Way} (h : Ord l) (x : El) (i : Nat) : Ord (wput l x i) := by
  induction l with
  | nil => simp [wput, Ord]
  | cons q r ih =>
    obtain ⟨y, j⟩ := q
    have h' := List.pairwise_cons.1 h
    simp only [wput]
    split
    · rename_i hlt
      refine List.pairwise_cons.2 ⟨fun p hp => ?_, h⟩
      rcases List.mem_cons.1 hp with rfl | hp
      · exact hlt
      · exact lt_trans hlt (h'.1 p hp)
    · rename_i hlt
      split
      · rename_i he
        subst he
        exact List.pairwise_cons.2 ⟨fun p hp => h'.1 p hp, h'.2⟩
      · rename_i hne
        refine List.pairwise_cons.2 ⟨fun p hp => ?_, ih h'.2⟩
        rcases wput_mem hp with rfl | hp
        · cases hyx : ltE y x with
          | true => rfl
          | false => exact absurd (lt_tot (by simpa using hlt) hyx) hne
        · exact h'.1 p hp
theorem Ord.del {l : Way} (h : Ord l) (x : El) : Ord (mdel l x) := List.Pairwise.sublist List.filter_sublist h
theorem mget_wput {l : Way} (h : Ord l) (x : El) (i : Nat) (z : El) : mget (wput l x i) z = if z = x then some i else mget l z := by
  induction l with
  | nil =>
    simp only [wput, mget_cons]
    by_cases hz : z = x
    · subst hz; simp
    · rw [if_neg (fun h => hz h.symm), if_neg hz]
  | cons q r ih =>
    obtain ⟨y, j⟩ := q
    have h' := List.pairwise_cons.1 h
    simp only [wput]
    split
    · rename_i hlt
      rw [mget_cons]
      by_cases hz : z = x
      · subst hz; simp
      · rw [if_neg (fun h => hz h.symm), if_neg hz]
    · rename_i hlt
      split
      · rename_i he
        subst he
        rw [mget_cons, mget_cons]
        by_cases hz : z = x
        · subst hz; simp
        · rw [if_neg (fun h => hz h.symm), if_neg hz, if_neg (fun h => hz h.symm)]
      · rename_i hne
        rw [mget_cons, mget_cons, ih h'.2]
        by_cases hz : z = x
        · subst hz
          rw [if_neg (fun h => hne h.symm)]; simp
        · rw [if_neg hz, if_neg hz]
theorem wput_len {l : Way} (h : Ord l) (x : El) (i : Nat) : (wput l x i).length = if (mget l x).isSome then l.length else l.length + 1 := by
  induction l with
  | nil => simp [wput, mget]
  | cons q r ih =>
    obtain ⟨y, j⟩ := q
    have h' := List.pairwise_cons.1 h
    simp only [wput]
    split
    · rename_i hlt
      have : mget ((y, j) :: r) x = none := mget_none.2 fun hm' => by
        obtain ⟨p, hp, hpe⟩ := List.mem_map.1 hm'
        rcases List.mem_cons.1 hp with rfl | hp
        · simp only at hpe; subst hpe; rw [lt_irr] at hlt; cases hlt
        · have := lt_trans hlt (h'.1 p hp)
          rw [hpe, lt_irr] at this; cases this
      rw [this]; simp
    · split
      · rename_i he
        subst he
        rw [mget_cons]; simp
      · rename_i hne
        have hm' : mget ((y, j) :: r) x = mget r x := by rw [mget_cons, if_neg (fun h : y = x => hne h.symm)]
        rw [hm', List.length_cons, ih h'.2, List.length_cons]
        cases mget r x <;> simp
theorem mdel_len {l : Way} (h : Keys l) (x : El) : (mdel l x).length = if (mget l x).isSome then l.length - 1 else l.length := by
  cases hg : mget l x with
  | none => rw [mdel_out (mget_none.1 hg)]; simp
  | some v =>
    have hx : x ∈ l.map (·.1) := mget_isSome.1 (by rw [hg]; rfl)
    obtain ⟨i, hi⟩ := List.getElem?_of_mem hx
    rw [mdel_at h hi]
    have hl := (List.getElem?_eq_some_iff.1 hi).1
    rw [List.length_eraseIdx]
    simp at hl ⊢
    omega
theorem mput_len2 {κ ν : Type} [DecidableEq κ] {m : List (κ × ν)} (x : κ) (v : ν) : (mput m x v).length = if (mget m x).isSome then m.length else m.length + 1 := mput_length x v
/-! ### maps.Clone -/
theorem eq_nil_map {P : Program} {t k e : TypeId} (h : P.underlying t = some (.map k e)) {x y : Operand} {b : Nat} {w : World} {K : Value → World → Prop} (hK : K (.bool false) w) :
    RunS P (do eqGuard .eql t x y (.map (some b)) (.map none); binOp .eql t (.map (some b)) (.map none)) K w := by
  refine runS (v := .bool false) (w' := w) ?_ hK
  rw [eqGuard_at_map]
  have hin : ∀ d, (Op.equalIn (d + 1) t (.map (some b)) (.map none)).run P w = .ok false w := fun d => by simp [Op.equalIn, run_underlying h]
  have : (Op.equal t (.map (some b)) (.map none)).run P w = .ok false w := hin 9999
  simp [binOp, this]
theorem cMcl {w : World} {b : Nat} {m : List (El × Nat)} (h : MapR w b encE ptrE m) {K : Value → World → Prop}
    (hK : ∀ w', MapR w' w.heap.size encE ptrE m → Ext No w w' → w'.heap.size = w.heap.size + 1 → K (.map (some w.heap.size)) w') : CallS Try.prog 47 #[.map (some b)] K w := by
  obtain ⟨es, clock, hb, hr⟩ := h
  refine s47_call hm ?_
  unfold s47
  refine eq_nil_map Try.underlying53 (condF rfl ?_)
  refine ⟨.iface 53 (.map (some w.heap.size)), w.alloc (.map es.toArray clock), ?_, ?_⟩
  · show (callFunc 56 #[.iface 53 (.map (some b))]).run Try.prog w = _
    rw [run_callFunc_extern Try.func56 (by kernel_rfl) (by kernel_rfl) (by kernel_rfl) (e := Extern.MapsClone.clone) (by kernel_rfl)]
    have e : Extern.MapsClone.clone #[.iface 53 (.map (some b))] = (getObj b >>= fun o => match o with
      | .map entries clock => (newObj (.map entries clock) >>= fun n => pure (.iface 53 (.map (some n))))
      | _ => stuck "maps.clone: a map expected") := rfl
    rw [e]
    simp [MapKept.run_getObj_map hb, Result.andThen, go_sem]
  · refine runS (v := .map (some w.heap.size)) (w' := w.alloc (.map es.toArray clock)) (by simp [Instr.typeAssert, run_underlying Try.underlying53, go_sem, Result.andThen]) (hK _ ⟨es, clock, heap_alloc_new w _, hr⟩ (Ext.alloc _ _) (by simp))
/-! ### a directory's names -/
def Dirt (d : Nat) (x : El) : Tag → Prop := fun t => t = .own d (.dir x)
theorem TNM : ElemT Try.prog 54 53 1 8 (.map none) := ⟨Try.underlying54, by kernel_rfl, rfl, by decide, by decide⟩
section
variable {T : Tags} {w : World} {d n : Nat} {ad : Nat → Option Nat} {K : Value → World → Prop}
set_option maxHeartbeats 1000000 in
/-- changes: what stands is kept, and a copy of it is handed on -/
theorem DirR.changes {gd : Nat} {D : Di} (h : DirR T d ad w gd D) (hn : D.was.length ≤ 4398046511104) {fv : Value}
    (hK : ∀ (w1 : World) (T1 : Tags) (mb : Nat) (m : List (El × Nat)) (wv : Value) (bs : List (Way × Nat)), w.heap.size ≤ mb → T1 gd = .own d (.dir D.name) → Blk w1 gd 56 [.map (some mb), wv] → MapR w1 mb encE ptrE m → m.length = D.now.length → (∀ x, mget m x = (mget D.now x).bind ad) → bs.map (·.1) = D.was ++ [D.now] → w1.ownsRow 0 53 1 wv (D.was ++ [D.now]).length (bs.map fun (p : Way × Nat) => .map (some p.2)) →
      (∀ b, wv.ownBlock = some b → T1 b = .own d (.dir D.name)) → (∀ p ∈ bs, NamR T1 ad w1 p.2 p.1 ∧ p.2 < w.heap.size) → Gon (Dirt d D.name) w T w1 T1 → T1 mb = .ice → CallV' Try.prog false fv [.map (some mb)] NoP (fun _ w => K (.tuple #[]) w) w1) : CallS Try.prog 24 #[ptrE gd, fv] K w := by
  obtain ⟨hT, mn, wv, bs, hb, hN, hbs, hrow, hwT, hall⟩ := h
  obtain ⟨hNT, ⟨m, hM, hml, hg⟩, hNs⟩ := hN
  refine s24_call hm ?_
  unfold s24
  have hgw := Own.ne_blk hrow hb (by decide)
  have e0 : Ext No w w.drew := Ext.drew w
  have hbl : bs.length = D.was.length := by rw [← hbs]; simp
  refine draw (fun w' => Blk w' gd 56 [.map (some mn), wv]) (hb.no e0) ?_
  refine pur (nil_ptr _) (pur (field_ptr _ _ _) (pur (nil_ptr _) (pur (field_ptr _ _ _) (heldC (v := wv) (fun w' hh => hh.cell 1) (heldC (v := .map (some mn)) (fun w' hh => hh.cell 0) ?_)))))
  refine build1 TNM rfl fun w1 b1 e1 z1 => ⟨(hb.no e0).no e1, ?_⟩
  have e01 := e0.trans e1
  refine append_sl TNM 54 (owns_ext hrow e01 fun _ _ hh => hh) (b1.sl (n := 1) (c := 1) (size := 1) rfl (Nat.le_refl _)) (by simp [Value.oneCell', Value.cells]) (by omega) (by omega) (Nat.zero_le _) fun wv2 w2 ho2 hg2 hat => ?_
  have e2 : Ext (fun b => wv.ownBlock = some b) w1 w2 := Ext.grown hg2 fun b hb => hb
  have hb2 : Blk w2 gd 56 [.map (some mn), wv] := (hb.no e01).ext e2 hgw
  refine pur (nil_ptr _) (pur (field_ptr _ _ _) (storeB hb2 (by simp) (Own.one ho2) fun w3 b3 e3 z3 => ?_))
  have b3' : Blk w3 gd 56 [.map (some mn), wv2] := b3
  have hwM : ¬ (wv.ownBlock = some mn) := fun hh => by have := hwT mn hh; rw [hNT] at this; cases this
  have hgM : gd ≠ mn := fun hh => by rw [hh, hNT] at hT; cases hT
  have hM3 : MapR w3 mn encE ptrE m := ((hM.no e01).ext e2 hwM).ext e3 fun hh => hgM (by rw [show mn = gd from hh])
  refine pur (nil_ptr _) (pur (field_ptr _ _ _) (loadB b3' (v := .map (some mn)) rfl (cMcl hM3 fun w4 hM4 e4 z4 => ?_)))
  have b4 := b3'.no e4
  refine pur (nil_ptr _) (pur (field_ptr _ _ _) (storeB b4 (by simp) rfl fun w5 b5 e5 z5 => ?_))
  have b5' : Blk w5 gd 56 [.map (some w3.heap.size), wv2] := b5
  refine pur (nil_ptr _) (pur (field_ptr _ _ _) (loadB b5' (v := .map (some w3.heap.size)) rfl ?_))
  have hgl := hb.lt
  have hs1 := e01.size
  have hs2 := e2.size
  have hs3 := e3.size
  -- marks
  let T1 : Tags := fun b => if b = w3.heap.size then .ice else if wv2.ownBlock = some b then .own d (.dir D.name) else T b
  have hwf : ∀ b, wv2.ownBlock = some b → wv.ownBlock = some b ∨ w.heap.size ≤ b := fun b hb' => by
    rcases hat with h | h
    · exact .inl (by rw [← h]; exact hb')
    · rw [h] at hb'
      have : b = w1.heap.size := by simpa using hb'.symm
      right; omega
  have hTs : ∀ b, b < w.heap.size → T1 b = T b := fun b hb' => by
    show (if b = w3.heap.size then _ else _) = _
    rw [if_neg (by omega)]
    split
    · rename_i hh
      rcases hwf b hh with h | h
      · exact (hwT b h).symm
      · omega
    · rfl
  have hwlt : ∀ b, wv2.ownBlock = some b → b < w3.heap.size := fun b hb' => by have := (ho2.lt b hb').2; omega
  have k : Gon (Dirt d D.name) w T w5 T1 := ⟨by
    have a1 : Ext (fun b => Dirt d D.name (T b)) w w2 := e01.no.trans (e2.mono fun b hb' _ => hwT b hb')
    have a2 : Ext (fun b => Dirt d D.name (T b)) w2 w3 := e3.mono fun b hb' _ => by rw [show b = gd from hb']; exact hT
    have a3 : Ext (fun b => Dirt d D.name (T b)) w4 w5 := e5.mono fun b hb' _ => by rw [show b = gd from hb']; exact hT
    exact a1.trans (a2.trans (e4.no.trans a3)), hTs⟩
  have hne5 : w3.heap.size ≠ gd := by omega
  have e25 : Ext (At1 gd) w2 w5 := e3.trans (e4.no.trans e5)
  have hgw2 : ∀ b, wv2.ownBlock = some b → ¬ At1 gd b := fun b hb' hh => Own.ne_blk ho2 hb2 (by decide) (by rw [hb', show b = gd from hh])
  have hice : ¬ Dirt d D.name .ice := fun h => by cases h
  refine hK w5 T1 w3.heap.size m wv2 (bs ++ [(D.now, mn)]) (by omega) (by rw [hTs gd hgl]; exact hT) b5' (hM4.ext e5 hne5) hml hg (by rw [List.map_append, hbs]; rfl) ?_ (fun b hb' => ?_) (fun p hp => ?_) k (if_pos rfl)
  · have := owns_ext ho2 e25 hgw2
    rw [List.length_append, List.map_append]
    exact this
  · show (if b = w3.heap.size then _ else _) = _
    rw [if_neg (by have := hwlt b hb'; omega), if_pos hb']
  · rcases List.mem_append.1 hp with hp | hp
    · obtain ⟨_, ⟨_, hl, _⟩, _⟩ := hall p hp
      exact ⟨(hall p hp).keep k hice, hl.lt⟩
    · simp only [List.mem_singleton] at hp
      subst hp
      exact ⟨NamR.keep ⟨hNT, ⟨m, hM, hml, hg⟩, hNs⟩ k hice, hM.lt⟩
end
end Go.Proofs.Ythohdinjpkehpaa
/-! Rules: zeros appended; bytes copied. No program stands here. -/
namespace SG
open Go Go.RowKit Go.Lib
set_option linter.unusedSimpArgs false
set_option linter.unusedVariables false
theorem zc_one (z : Value) (n : Nat) : (Builtin.zeroCells #[z] n) = (List.replicate n z).toArray := by
  apply Array.ext'
  rw [zeroCells_one]
section
variable {P : Program} {t e : TypeId} {bytes : Nat} {z : Value}
theorem append_zeros (hT : ElemT P t e 1 bytes z) (hzc : z.cells = #[z]) (hz1 : z.oneCell' = true) {tn : TypeId} {kn k : IntKind} (htn : P.underlying tn = some (.int kn)) (ty : TypeId) {w : World} {base n m : Nat} {v : Value} {xs : List Value} {K : Value → World → Prop}
    (hown : w.ownsRow base e 1 v n xs) (h0 : 0 < m) (hbytes : (n + m) * bytes ≤ 140737488355328) (h63 : n + m ≤ 140737488355328) (hbase : base ≤ w.heap.size)
    (hK : ∀ v' w', w'.ownsRow base e 1 v' (n + m) (xs ++ List.replicate m z) → w.grownBy w' v.ownBlock → (v'.ownBlock = v.ownBlock ∨ v'.ownBlock = some w.heap.size) → K v' w') : RunS P (Builtin.append_ #[t, tn] ty [v, .int k (m : Int)].toArray) K w := by
  obtain ⟨i, hi, hz, hs, hb⟩ := info_parts hT.info
  have hxl : xs.length = n := by have := hown.1; omega
  have hm : m ≠ 0 := by omega
  have hw : IntKind.i64.wrap (m : Int) = m := by rw [IntKind.wrap_i64]; omega
  have hneg : ¬ ((m : Int) < 0) := by omega
  have hmb : m * bytes ≤ 140737488355328 := Nat.le_trans (Nat.mul_le_mul_right _ (by omega)) hbytes
  have h48i : ¬ (281474976710656 < (m : Int) * (i.bytes : Int)) := by
    rw [← Int.natCast_mul, hb]
    omega
  have hns : ¬ (m * i.size = 0) := by rw [hs]; omega
  have grown : ∀ (old : Nat), old < n + m → ∀ (row : Option Nat),
      (w.drew.alloc (.cells ((xs ++ List.replicate m z ++ List.replicate (grownCap w (n + m) old e - (n + m)) z)).toArray e)).ownsRow base e 1
        (.slice (some ⟨w.heap.size, 0, none⟩) (n + m) (grownCap w (n + m) old e)) (n + m) (xs ++ List.replicate m z) ∧
      w.grownBy (w.drew.alloc (.cells ((xs ++ List.replicate m z ++ List.replicate (grownCap w (n + m) old e - (n + m)) z)).toArray e)) row := by
    intro old ho row
    have hge := grownCap_ge w (n + m) old e
    have hcm : grownCap w (n + m) old e ≤ maxLen := grownCap_le_maxLen w (n + m) old e (by unfold maxLen; omega)
    refine ⟨⟨by simp; omega, .inr ⟨w.heap.size, _, _, rfl, hbase, heap_alloc_new w.drew _, hge, hcm, ?_, ?_⟩⟩, ⟨rfl, rfl, rfl, by simp, fun k hk _ => heap_alloc_old w.drew _ k hk⟩⟩
    · simp; omega
    · have : (n + m) * 1 = (xs ++ List.replicate m z).length := by simp; omega
      rw [this]
      exact List.take_left
  rcases hown.2 with ⟨rfl, rfl⟩ | ⟨g, cap, cur, rfl, hbg, hg, hnc, hcm, hcs, htake⟩
  · have hx : xs = [] := List.eq_nil_of_length_eq_zero hxl
    subst hx
    have hr := run_append_nil_zeros (P := P) w t tn ty e i z k kn hT.under htn hi hz m h0 (by omega) (by omega) (by rw [hb]; omega)
    have hgr := grown 0 (by omega) (Value.ownBlock (.slice none 0 0))
    simp only [Nat.zero_add, List.nil_append] at hgr hK
    refine runS (w' := w.drew.alloc (.cells ((List.replicate m z ++ List.replicate (grownCap w m 0 e - m) z)).toArray e)) (v := .slice (some ⟨w.heap.size, 0, none⟩) m (grownCap w m 0 e)) ?_ (hK _ _ hgr.1 hgr.2 (.inr rfl))
    show (Builtin.append_ #[t, tn] ty #[.slice none 0 0, .int k (m : Int)]).run P w = _
    rw [hr, hzc, zc_one, zc_one]
    simp
  · by_cases hroom : n + m ≤ cap
    · have hbk : Blk w g e cur.toList := by unfold Blk; simpa using hg
      have hcl : cur.toList.length = cap := by simp; omega
      obtain ⟨w', hst, hbl, hex, hsz⟩ := store_cells (P := P) hbk (o := n) (vs := List.replicate m z) (by simp; omega) (fun u hu => by rw [(List.mem_replicate.1 hu).2]; exact hz1)
      have hr : (Builtin.append_ #[t, tn] ty #[.slice (some ⟨g, 0, none⟩) n cap, .int k (m : Int)]).run P w = .ok (.slice (some ⟨g, 0, none⟩) (n + m) cap) w' := by
        have ha : (⟨g, 0, none⟩ : Addr).add (n * i.size) = ⟨g, n, none⟩ := by rw [hs, Addr.add_mk]; simp
        simp [Builtin.append_, run_underlying hT.under, run_underlying htn, Go.sizeOf, typeInfo, zeroValue, hi, hz, asInt, asIntOf, hw, hm, hneg, hns, h48i, hroom, hzc, zc_one, ha, hst]
      refine runS hr (hK _ _ ⟨by simp; omega, .inr ⟨g, cap, _, rfl, hbg, hbl, hroom, hcm, ?_, ?_⟩⟩ hex.to_grown (.inl rfl))
      · simp; omega
      · have h1 : cur.toList.take n = xs := by rw [← htake, Nat.mul_one]
        rw [h1]
        have : (n + m) * 1 = (xs ++ List.replicate m z).length := by simp; omega
        rw [this]
        exact List.take_left
    · have holds : ∀ j u, xs[j]? = some u → w.cell? ((⟨g, 0, none⟩ : Addr).add j) = some u := hown.cells (g := g) rfl
      have hn' : ¬ (n + m ≤ cap) := hroom
      have h63' : ¬ (9223372036854775807 < ((n : Int) + (m : Int))) := by omega
      have h48' : ¬ (281474976710656 < Builtin.nextslicecap (n + m) cap * i.bytes) := by
        have := growslice_fits (need := n + m) (old := cap) (bytes := bytes) (by omega) hbytes
        rw [hb]; omega
      have hfo := run_firstCells_some (P := P) w.drew i.size n ⟨g, 0, none⟩ n cap xs (by rw [hs]; omega) (by simpa using holds)
      have hgr := grown cap (by omega) (Value.ownBlock (.slice (some ⟨g, 0, none⟩) n cap))
      refine runS (w' := w.drew.alloc (.cells ((xs ++ List.replicate m z ++ List.replicate (grownCap w (n + m) cap e - (n + m)) z)).toArray e)) (v := .slice (some ⟨w.heap.size, 0, none⟩) (n + m) (grownCap w (n + m) cap e)) ?_ (hK _ _ hgr.1 hgr.2 (.inr rfl))
      show (Builtin.append_ #[t, tn] ty #[.slice (some ⟨g, 0, none⟩) n cap, .int k (m : Int)]).run P w = _
      simp [Builtin.append_, run_underlying hT.under, run_underlying htn, Go.sizeOf, typeInfo, zeroValue, hi, hz, asInt, asIntOf, hw, hm, hneg, hns, h48i, hn', h63', h48', Question.forced, hfo, hzc, zc_one, newRow, grownCap]
      congr 2
      apply Array.ext'
      simp
end
/-- copy onto a row of the call's own -/
theorem copyB {P : Program} {dT sT ty e : TypeId} {w : World} {g o n c m : Nat} {t : TypeId} {cs vs : List Value} {x : Value} {K : Value → World → Prop} (hu : P.underlying dT = some (.slice e)) (hs : (P.info? e).map (·.size) = some 1)
    (hb : Blk w g t cs) (hx : Sl w x m 1 vs) (h1 : ∀ v ∈ vs, v.oneCell' = true) (hm : m ≤ n) (hfit : o + m ≤ cs.length)
    (hK : ∀ v w', Blk w' g t (cs.take o ++ vs ++ cs.drop (o + m)) → Ext (At1 g) w w' → w'.heap.size = w.heap.size → K v w') : RunS P (Builtin.copy_ #[dT, sT] ty [.slice (some ⟨g, o, none⟩) n c, x].toArray) K w := by
  obtain ⟨A, cx, rfl, hl, hc, h0, hA⟩ := hx
  cases A with
  | none =>
    have hz := h0 rfl
    subst hz
    have hv : vs = [] := List.eq_nil_of_length_eq_zero (by simpa using hl)
    subst hv
    have hr : (Builtin.copy_ #[dT, sT] ty #[.slice (some ⟨g, o, none⟩) n c, .slice none 0 cx]).run P w = .ok (goInt 0) w := by
      cases hq : P.info? e with
      | none => simp [hq] at hs
      | some i => simp [Builtin.copy_, run_underlying hu, Builtin.lenOf, Builtin.firstCells, Go.sizeOf, typeInfo, hq, storeCells]
    refine runS hr (hK _ w (by simpa using hb) (Ext.refl _ _) rfl)
  | some a =>
    have hg : w.heap[g]? = some (.cells cs.toArray t (0, 0)) := hb
    have hvl : vs.length = m := by simpa using hl
    have hr := run_copy_row (P := P) w dT sT ty e g o n c a m cx cs.toArray t vs hu hs hg (by rw [hvl]; exact (Nat.min_eq_left hm).symm) (hA a rfl) (by simp; omega) h1
    obtain ⟨q1, q2, q3⟩ := setRow_blk hb (cs.take o ++ vs ++ cs.drop (o + m))
    refine runS hr (hK _ _ ?_ ?_ ?_)
    · simpa [hvl] using q1
    · simpa [hvl] using q2
    · simp
end SG
/-! Disks: bytes are copied and written over; what is not fast. -/
namespace Go.Proofs.Ythohdinjpkehpaa
open Go SG Go.RowKit
set_option linter.unusedVariables false
set_option maxRecDepth 4000
set_option linter.unusedSimpArgs false

theorem TB : ElemT Try.prog 22 5 1 1 (.int .u8 0) := ⟨Try.underlying22, by kernel_rfl, rfl, by decide, by decide⟩
theorem u8info : (Try.prog.info? 5).map (·.size) = some 1 := by kernel_rfl
/-- bytes that are read here -/
abbrev SlB (w : World) (v : Value) (l : Bys) : Prop := Sl w v l.length 1 (byteCells l)
theorem Byt.sl {T : Tags} {w : World} {v : Value} {l : Bys} (h : Byt T w v l) : SlB w v l := Sl.own h.1
/-- slices.Clone -/
theorem cCLB {w : World} {v : Value} {l : Bys} (hv : SlB w v l) (hl : l.length ≤ 140737488355328) {K : Value → World → Prop}
    (hK : ∀ v' w', w'.ownsRow w.heap.size 5 1 v' l.length (byteCells l) → Ext No w w' → K v' w') : CallS Try.prog 39 #[v] K w := by
  refine s39_call hm ?_
  unfold s39
  obtain ⟨A, c, rfl, hlen, hc, h0, hA⟩ := hv
  refine eq_nil_slice Try.underlying22 (condB (fun hn => ?_) (fun hn => ?_))
  · cases A with
    | some a => cases hn
    | none =>
      have hz : l.length = 0 := h0 rfl
      obtain rfl := List.length_eq_zero_iff.1 hz
      exact hK _ w (World.ownsRow_nil _ _ _ _) (Ext.refl _ _)
  · refine build0 TB fun w1 b1 e1 z1 => ?_
    have hs : Sl w (.slice A l.length c) l.length 1 (byteCells l) := ⟨A, c, rfl, hlen, hc, h0, hA⟩
    refine append_sl TB 22 (base := w.heap.size) (b1.owns rfl (Nat.le_refl _) (by omega)) (hs.no e1) (byteCells_one l) (by omega) (by omega) e1.size fun v2 w2 ho2 hg2 _ => ?_
    have e2 : Ext No w w2 := e1.fresh (Ext.grown (S := At1 w.heap.size) hg2 fun b hb => by simpa [Value.ownBlock, At1, eq_comm] using hb) fun b hb => .inr (by rw [show b = w.heap.size from hb]; exact Nat.le_refl _)
    exact hK v2 w2 (by simpa using ho2) e2
theorem byteCells_take (l : Bys) (n : Nat) : byteCells (l.take n) = (byteCells l).take n := by unfold byteCells; rw [List.map_take]
theorem byteCells_drop (l : Bys) (n : Nat) : byteCells (l.drop n) = (byteCells l).drop n := by unfold byteCells; rw [List.map_drop]
theorem byteCells_zeros (n : Nat) : List.replicate n (Value.int .u8 0) = byteCells (List.replicate n (0 : UInt8)) := by unfold byteCells; rw [List.map_replicate]; rfl
theorem sl_takeB {w : World} {v : Value} {l : Bys} (h : SlB w v l) {n : Nat} (hn : n ≤ l.length) (k : IntKind) : ∃ v', sliceV 1 v none (some (.int k (n : Int))) = some v' ∧ SlB w v' (l.take n) ∧ (v'.ownBlock = v.ownBlock ∨ v'.ownBlock = none) := by
  obtain ⟨v', h1, h2, h3⟩ := sl_take h hn k
  refine ⟨v', h1, ?_, ?_⟩
  · have : (l.take n).length = n := by simp; omega
    unfold SlB
    rw [this, byteCells_take]
    simpa using h2
  · obtain ⟨A, c, rfl, _⟩ := h
    simp only [sliceV, boundV] at h1
    split at h1
    · simp only [Option.bind_some] at h1
      cases h1
      cases A with
      | none => split <;> exact .inr rfl
      | some a => split <;> exact .inl (by simp [Value.ownBlock, Addr.add_block])
    · cases h1
set_option maxHeartbeats 1000000 in
/-- over -/
theorem cover {w : World} {bv v : Value} {l b : Bys} {k : Nat} (hb : SlB w v b) (hl : SlB w bv l) (hbv : bv.oneCell' = true) (hk : k ≤ b.length) (h0 : 0 < l.length) (h1 : b.length ≤ 35184372088832) (h2 : l.length ≤ 35184372088832) {K : Value → World → Prop}
    (hK : ∀ v' w', w'.ownsRow w.heap.size 5 1 v' (overB b k l).length (byteCells (overB b k l)) → Ext No w w' → K v' w') : CallS Try.prog 48 #[.agg #[.int .i64 (k : Int), bv], v] K w := by
  refine s48_call hm ?_
  unfold s48
  refine box fun w1 b1 e1 z1 => ?_
  have b1' : Blk w1 w.heap.size 87 [.int .i64 (k : Int), bv] := b1
  refine join1 (fun u w' => ∃ c : Bys, c.length = max b.length (k + l.length) ∧ c.take k = b.take k ∧ c.drop (k + l.length) = b.drop (k + l.length) ∧ w'.ownsRow w1.heap.size 5 1 u c.length (byteCells c) ∧ Ext No w1 w') ?_ fun J0 hJ0 => ?_
  · rintro u w2 ⟨c, hc1, hc2, hc3, hu, e2⟩
    have e2d : Ext No w1 w2.drew := e2.trans (Ext.drew w2)
    refine draw (fun w' => w' = w2.drew) rfl (pur (field_ptr _ _ _) (pur (field_ptr _ _ _) ?_))
    have bb := b1'.no e2d
    refine heldC (v := .int .i64 (k : Int)) (fun w' hh => by rw [hh]; exact bb.cell 0) ?_
    have hud := owns_ext hu (Ext.drew (S := No) w2) fun _ _ hh => hh
    have hud0 := hud
    rcases hud.2 with ⟨rfl, h⟩ | ⟨g, cap, cur, rfl, hbg, hg, hnc, hcm, hcs, htake⟩
    · omega
    refine pur (v := .slice (some ⟨g, k, none⟩) (c.length - k) (cap - k)) ?_ (heldC (v := bv) (fun w' hh => by rw [hh]; exact bb.cell 1) ?_)
    · unfold sliceV
      simp only [boundV, Option.bind_some]
      rw [if_pos ⟨by omega, by omega⟩]
      simp only [Option.bind_some, Int.toNat_natCast]
      rw [if_neg (by omega)]
      simp [Addr.add_mk]
    · have hbk : Blk w2.drew g 5 cur.toList := by unfold Blk; simpa using hg
      have hlb : SlB w2.drew bv l := (hl.no e1).no e2d
      have hcl : cur.toList.length = cap := by simp at hcs ⊢; omega
      refine copyB Try.underlying22 u8info hbk hlb (byteCells_one l) (by omega) (by omega) fun _ w3 b3 e3 z3 => ?_
      have e13 : Ext No w w3 := (e1.trans e2d).fresh e3 fun x hx => .inr (by rw [show x = g from hx]; have := e1.size; omega)
      have hov : (overB b k l).length = c.length := by rw [overB_len hk, hc1]
      refine hK _ w3 ?_ e13
      rw [hov]
      refine ⟨by rw [byteCells_length, hov]; omega, .inr ⟨g, cap, (cur.toList.take k ++ byteCells l ++ cur.toList.drop (k + l.length)).toArray, rfl, by have := e1.size; omega, b3, hnc, hcm, ?_, ?_⟩⟩
      · simp [byteCells_length]; simp at hcl; omega
      · have ht : cur.toList.take c.length = byteCells c := by simpa using htake
        have e1' : cur.toList.take k = byteCells (b.take k) := by
          rw [← hc2, byteCells_take, ← ht, List.take_take, Nat.min_eq_left (by omega)]
        have e2' : (cur.toList.drop (k + l.length)).take (c.length - (k + l.length)) = byteCells (b.drop (k + l.length)) := by
          rw [← hc3, byteCells_drop, ← ht, List.drop_take]
        unfold overB
        rw [e1', byteCells_append, byteCells_append, ← e2', Nat.mul_one]
        have hlen : (byteCells (b.take k) ++ byteCells l).length = k + l.length := by simp [byteCells_length]; omega
        rw [List.take_append, hlen, List.take_of_length_le (by rw [hlen]; omega)]
  · refine pur (field_ptr _ _ _) (loadB b1' (v := .int .i64 (k : Int)) rfl (pur (field_ptr _ _ _) (loadB b1' (v := bv) rfl (pur hl.len (pur (add64 (c := ((k + l.length : Nat) : Int)) (by omega) (by omega) (by omega)) (pur hb.len (pur (bin_gtr _ _ _) (condD (fun hgt => ?_) (fun hle => ?_)))))))))
    · refine cCLB (hb.no e1) (by omega) fun v2 w2 ho2 e2 => ?_
      refine pur hb.len (pur (sub64 (c := ((k + l.length - b.length : Nat) : Int)) (by omega) (by omega) (by omega)) ?_)
      refine append_zeros TB rfl rfl Try.underlying3 22 ho2 (by omega) (by omega) (by omega) e2.size fun v3 w3 ho3 hg3 hat => hJ0 _ _ ⟨b ++ List.replicate (k + l.length - b.length) 0, ?_, ?_, ?_, ?_, ?_⟩
      · simp; omega
      · rw [List.take_append_of_le_length hk]
      · rw [List.drop_of_length_le (by simp; omega), List.drop_of_length_le (by omega)]
      · rw [byteCells_append, ← byteCells_zeros, List.length_append, List.length_replicate]; exact ho3
      · exact e2.fresh (Ext.grown (S := fun x => v2.ownBlock = some x) hg3 fun x hx => hx) fun x hx => .inr (ho2.lt x hx).1
    · refine cCLB (hb.no e1) (by omega) fun v2 w2 ho2 e2 => hJ0 _ _ ⟨b, by omega, rfl, rfl, ho2, e2⟩
end Go.Proofs.Ythohdinjpkehpaa
/-! Disks: what of a file is not fast, and what of it is kept. -/
namespace Go.Proofs.Ythohdinjpkehpaa
open Go SG Go.RowKit
set_option linter.unusedVariables false
set_option maxRecDepth 4000
set_option linter.unusedSimpArgs false

def wsOk : Bys → List Wr → Prop
  | _, [] => True
  | b, (k, l) :: r => k ≤ b.length ∧ 0 < l.length ∧ wsOk (overB b k l) r
def FiOk (B : Nat) (f : Fi) : Prop := f.fast.length ≤ B ∧ wsOk f.fast f.ws ∧ ∀ p ∈ f.ws, p.1 + p.2.length ≤ B
def keptB : Bys → List Wr → Nat → Bys
  | b, [], _ => b
  | b, (k, l) :: r, n => keptB (if 0 < min n l.length then overB b k (l.take (min n l.length)) else b) r (n - min n l.length)
theorem keptB_zero (b : Bys) : ∀ ws, keptB b ws 0 = b
  | [] => rfl
  | (k, l) :: r => by
    unfold keptB
    rw [Nat.zero_min, if_neg (by omega)]
    exact keptB_zero b r
theorem nowB_len {B : Nat} : ∀ (ws : List Wr) (b : Bys), b.length ≤ B → wsOk b ws → (∀ p ∈ ws, p.1 + p.2.length ≤ B) → (nowB b ws).length ≤ B ∧ b.length ≤ (nowB b ws).length
  | [], b, h, _, _ => ⟨h, Nat.le_refl _⟩
  | (k, l) :: r, b, h, ho, hp => by
    have h1 : (overB b k l).length = max b.length (k + l.length) := overB_len ho.1
    have h2 := hp (k, l) (by simp)
    simp only at h2
    have := nowB_len r (overB b k l) (by omega) ho.2.2 fun p hp' => hp p (List.mem_cons_of_mem _ hp')
    unfold nowB at this ⊢
    simp only [List.foldl_cons]
    omega
theorem keptB_len {B : Nat} : ∀ (ws : List Wr) (b : Bys) (n : Nat), b.length ≤ B → (n = 0 ∨ wsOk b ws) → (∀ p ∈ ws, p.1 + p.2.length ≤ B) → (keptB b ws n).length ≤ B
  | [], b, n, h, _, _ => h
  | (k, l) :: r, b, n, h, ho, hp => by
    rcases Nat.eq_zero_or_pos n with rfl | hn
    · rw [keptB_zero]; exact h
    have ho := ho.resolve_left (by omega)
    have h2 := hp (k, l) (by simp)
    simp only at h2
    have hr := fun p hp' => hp p (List.mem_cons_of_mem _ hp')
    have hl := ho.2.1
    unfold keptB
    rw [if_pos (by omega)]
    have h1 : (overB b k (l.take (min n l.length))).length ≤ B := by rw [overB_len ho.1]; simp; omega
    by_cases hnl : n ≤ l.length
    · exact keptB_len r _ _ h1 (.inl (by omega)) hr
    · have : l.take (min n l.length) = l := List.take_of_length_le (by omega)
      rw [this] at h1 ⊢
      exact keptB_len r _ _ h1 (.inr ho.2.2) hr
theorem wrap_add (a b : Int) : IntKind.i64.wrap (IntKind.i64.wrap a + b) = IntKind.i64.wrap (a + b) := by
  rw [IntKind.wrap_i64, IntKind.wrap_i64, IntKind.wrap_i64]; omega
def Fi.openI (f : Fi) : Int := IntKind.i64.wrap (f.open : Int)
def Filt (d i : Nat) : Tag → Prop := fun t => t = .own d (.file i)
section
variable {T : Tags} {w : World} {d i g : Nat} {f : Fi} {K : Value → World → Prop}
theorem FilR.wr (h : FilR T d i w g f) : ∃ (ov : Value) (qs : List (Wr × Value)), qs.map (·.1) = f.ws ∧ Sl w ov f.ws.length 2 (flat wrC qs) ∧ (∀ q ∈ qs, Byt T w q.2 q.1.2) ∧ (∀ {K' : Value → World → Prop} {w' : World}, Ext No w w' → K' ov w' → PureS (nilV (ptrE g)) fun t => PureS (fieldAddrV 1 t) fun t => LoadC t K' w') ∧
    ∀ {j : Nat} {q : Wr × Value}, qs[j]? = some q → ∃ ad, indexAddrV 2 ov (.int .i64 (j : Int)) = some (.pointer (some ad)) ∧ At w ad (wrC q) := by
  obtain ⟨h0, fv, ov, nv, qs, h1, h2, h3, h4, h5, h6, h7⟩ := h
  have hql : qs.length = f.ws.length := by rw [← h4]; simp
  refine ⟨ov, qs, h4, Sl.own h5, h7, fun {K' w'} e hK => pur (nil_ptr _) (pur (field_ptr _ _ _) (loadB (h1.no e) rfl hK)), fun {j q} hq => ?_⟩
  obtain ⟨ad, q1, q2, _⟩ := (Sl.own h5).at_ (i := j) (by have := (List.getElem?_eq_some_iff.1 hq).1; omega)
  rw [flat_at wrC wrC_len qs j q hq] at q2
  exact ⟨ad, q1, q2⟩
theorem At.no' {w w' : World} {a : Addr} {xs : List Value} (h : At w a xs) (e : Ext No w w') : At w' a xs := fun j u hj => by
  have hcell := h j u hj
  have hlt := World.block_lt_of_cell? _ _ hcell
  rw [Addr.add_block] at hlt
  rw [e.cell (by rw [Addr.add_block]; exact hlt) (fun h => h)]
  exact hcell
theorem buildWr (w : World) (k : Int) (a : Option Addr) (n c : Nat) : (Instr.build 87 [(0, .int .i64 k), (1, .slice a n c)].toArray).run Try.prog w = .ok (.agg #[.int .i64 k, .slice a n c]) w := by kernel_rfl
/-- unsynced -/
theorem cunsynced (h : FilR T d i w g f) (hl : f.ws.length ≤ 4398046511104) (hK : ∀ w', Ext No w w' → K (.int .i64 f.openI) w') : CallS Try.prog 37 #[ptrE g] K w := by
  obtain ⟨ov, qs, hqs, hsl, hby, hld, hat⟩ := h.wr
  have hql : qs.length = f.ws.length := by rw [← hqs]; simp
  refine s37_call hm ?_
  unfold s37
  refine join1 (fun v w' => v = .int .i64 f.openI ∧ Ext No w w') (fun v w' hh => by obtain ⟨rfl, e⟩ := hh; exact hK _ e) fun J0 hJ0 => ?_
  refine hld (Ext.refl _ _) (pur hsl.len ?_)
  refine loop2 (σ := Nat) (fun j v a w' => a = .int .i64 (j : Int) ∧ j ≤ f.ws.length ∧ v = .int .i64 (IntKind.i64.wrap (((f.ws.take j).map fun p => p.2.length).sum : Nat)) ∧ Ext No w w') (fun j => f.ws.length - j) 0 ⟨rfl, Nat.zero_le _, rfl, Ext.refl _ _⟩ ?_
  rintro j _ _ w1 ⟨rfl, hj, rfl, e1⟩ L1 hL1
  refine pur (bin_lss _ _ _) (condD (fun hlt => ?_) (fun hge => hJ0 _ _ ⟨by rw [List.take_of_length_le (by omega)]; rfl, e1⟩))
  obtain ⟨q, hq⟩ := getN (xs := qs) (i := j) (by omega)
  obtain ⟨ad, a1, a2⟩ := hat hq
  have hw : f.ws[j]? = some q.1 := by rw [← hqs, List.getElem?_map, hq]; rfl
  have hb := hby q (List.mem_of_getElem? hq)
  refine pur a1 (loadA (At.no' a2 e1) rfl (box fun w2 b2 e2 z2 => storeAll b2 rfl (by simp [Value.cells]) (by
    intro u hu
    simp only [wrC, List.mem_cons, List.not_mem_nil, or_false] at hu
    rcases hu with rfl | rfl
    · rfl
    · exact Own.one hb.1) fun w3 b3 e3 z3 => ?_))
  have e13 : Ext No w w3 := (e1.trans e2).fresh e3 fun b hb => .inr (by rw [show b = w1.heap.size from hb]; exact e1.size)
  refine pur (field_ptr _ _ _) (loadB b3 (v := q.2) rfl (pur hb.sl.len (pur (bin_add _ _ _) (pur (add64 (c := ((j + 1 : Nat) : Int)) (by omega) (by omega) (by omega)) (hL1 (j + 1) _ _ _ ⟨rfl, by omega, ?_, e13⟩ (by omega))))))
  rw [wrap_add, List.take_add_one, hw]
  congr 2
  simp
set_option maxHeartbeats 1000000 in
/-- kept -/
theorem ckept (h : FilR T d i w g f) {B n : Nat} (hf : FiOk B f) (hB : B ≤ 35184372088832) (hl : f.ws.length ≤ 4398046511104) (hn : n ≤ 9223372036854775807)
    (hK : ∀ w' T', FilR T' d i w' g ⟨keptB f.fast f.ws n, []⟩ → Gon (Filt d i) w T w' T' → K (.tuple #[]) w') : CallS Try.prog 38 #[ptrE g, .int .i64 (n : Int)] K w := by
  obtain ⟨ov, qs, hqs, hsl, hby, hld, hat⟩ := h.wr
  have hql : qs.length = f.ws.length := by rw [← hqs]; simp
  obtain ⟨hT, fv, _, nv, _, hb, hfv, hnv, _⟩ := h
  obtain ⟨hf1, hf2, hf3⟩ := hf
  refine s38_call hm ?_
  unfold s38
  refine pur (nil_ptr _) (pur (field_ptr _ _ _) (loadB hb (v := fv) rfl ?_))
  refine join1 (fun v w' => w'.ownsRow 0 5 1 v (keptB f.fast f.ws n).length (byteCells (keptB f.fast f.ws n)) ∧ (∀ b, v.ownBlock = some b → T b = .ice ∨ w.heap.size ≤ b) ∧ Ext No w w') ?_ fun J0 hJ0 => ?_
  · rintro v w1 ⟨ho1, hT1, e1⟩
    have hb1 := hb.no e1
    have hvg := Own.ne_blk ho1 hb1 (by decide)
    refine pur (nil_ptr _) (pur (field_ptr _ _ _) (storeB hb1 (by simp) (Own.one ho1) fun w2 b2 e2 z2 => ?_))
    refine pur (nil_ptr _) (pur (field_ptr _ _ _) (storeB b2 (by simp) rfl fun w3 b3 e3 z3 => ?_))
    refine pur (nil_ptr _) (pur (field_ptr _ _ _) (storeB b3 (by simp) (Own.one ho1) fun w4 b4 e4 z4 => ?_))
    have b4' : Blk w4 g 64 [v, .slice none 0 0, v] := b4
    have e14 : Ext (At1 g) w1 w4 := e2.trans (e3.trans e4)
    let T' : Tags := fun b => if v.ownBlock = some b then .ice else T b
    have hTs : ∀ b, b < w.heap.size → T' b = T b := fun b hb' => by
      show (if v.ownBlock = some b then _ else _) = _
      split
      · rename_i hh
        rcases hT1 b hh with h | h
        · exact h.symm
        · omega
      · rfl
    have hby' : Byt T' w4 v (keptB f.fast f.ws n) := ⟨owns_ext ho1 e14 fun b hb' hh => hvg (by rw [hb', show b = g from hh]), fun b hb' => if_pos hb'⟩
    refine hK w4 T' ⟨(hTs g hb.lt).trans hT, v, _, v, [], b4', hby', hby', rfl, World.ownsRow_nil _ _ _ _, fun b hb' => by simp [Value.ownBlock] at hb', fun q hq => by cases hq⟩ ⟨e1.no.trans (e14.mono fun b hb' _ => by rw [show b = g from hb']; exact hT), hTs⟩
  · refine hld (Ext.refl _ _) (pur hsl.len ?_)
    refine loop3 (σ := Nat × Nat × Bys) (fun s k v a w' => a = .int .i64 (s.1 : Int) ∧ s.1 ≤ f.ws.length ∧ k = .int .i64 (s.2.1 : Int) ∧ s.2.1 ≤ n ∧ w'.ownsRow 0 5 1 v s.2.2.length (byteCells s.2.2) ∧ (∀ b, v.ownBlock = some b → T b = .ice ∨ w.heap.size ≤ b) ∧ Ext No w w' ∧ s.2.2.length ≤ B ∧ (s.2.1 = 0 ∨ wsOk s.2.2 (f.ws.drop s.1)) ∧ keptB s.2.2 (f.ws.drop s.1) s.2.1 = keptB f.fast f.ws n) (fun s => f.ws.length - s.1) (0, n, f.fast)
      ⟨rfl, Nat.zero_le _, rfl, Nat.le_refl _, hfv.1, fun b hb' => .inl (hfv.2 b hb'), Ext.refl _ _, hf1, .inr hf2, rfl⟩ ?_
    rintro ⟨j, m, c⟩ _ v _ w1 ⟨rfl, hj, rfl, hmn, ho1, hT1, e1, hcB, hok, hkb⟩ L1 hL1
    simp only at hj hmn ho1 hcB hok hkb hL1 ⊢
    refine pur (bin_lss _ _ _) (condD (fun hlt => ?_) (fun hge => hJ0 _ _ ?_))
    · obtain ⟨q, hq⟩ := getN (xs := qs) (i := j) (by omega)
      obtain ⟨ad, a1, a2⟩ := hat hq
      have hw : f.ws[j]? = some q.1 := by rw [← hqs, List.getElem?_map, hq]; rfl
      have hdr : f.ws.drop j = q.1 :: f.ws.drop (j + 1) := by
        have := (List.getElem?_eq_some_iff.1 hw)
        rw [List.drop_eq_getElem_cons this.1, this.2]
      have hbq := hby q (List.mem_of_getElem? hq)
      have hone : ∀ u ∈ wrC q, u.oneCell' = true := by
        intro u hu
        simp only [wrC, List.mem_cons, List.not_mem_nil, or_false] at hu
        rcases hu with rfl | rfl
        · rfl
        · exact Own.one hbq.1
      have hqB := hf3 q.1 (List.mem_of_getElem? hw)
      refine pur a1 (loadA (At.no' a2 e1) rfl (box fun w2 b2 e2 z2 => storeAll b2 rfl (by simp [Value.cells]) hone fun w3 b3 e3 z3 => ?_))
      have e23 : Ext No w1 w3 := e2.fresh e3 fun b hb => .inr (by rw [show b = w1.heap.size from hb]; exact Nat.le_refl _)
      have e13 : Ext No w w3 := e1.trans e23
      rw [hdr] at hok hkb
      obtain ⟨⟨k, l⟩, qv⟩ := q
      simp only at hbq hqB hok hkb
      refine pur (field_ptr _ _ _) (loadB b3 (v := qv) rfl (pur hbq.sl.len (pur (v := .int .i64 ((min m l.length : Nat) : Int)) ((min_int _ _ _ _).trans (by congr 2; split <;> omega)) ?_)))
      refine join1 (fun v w' => ∃ c' : Bys, w'.ownsRow 0 5 1 v c'.length (byteCells c') ∧ (∀ b, v.ownBlock = some b → T b = .ice ∨ w.heap.size ≤ b) ∧ Ext No w w' ∧ c' = (if 0 < min m l.length then overB c k (l.take (min m l.length)) else c)) ?_ fun J2 hJ2 => ?_
      · rintro v' w4 ⟨c', ho4, hT4, e4, rfl⟩
        refine pur (sub64 (c := ((m - min m l.length : Nat) : Int)) (by omega) (by omega) (by omega)) (pur (add64 (c := ((j + 1 : Nat) : Int)) (by omega) (by omega) (by omega)) (hL1 (j + 1, m - min m l.length, _) _ _ _ _ ⟨rfl, by simp only; omega, rfl, by simp only; omega, ho4, hT4, e4, ?_, ?_, hkb⟩ (by simp only; omega)))
        · show (if 0 < min m l.length then overB c k (l.take (min m l.length)) else c).length ≤ B
          by_cases hpos : 0 < min m l.length
          · rw [if_pos hpos]
            have hk := hok.resolve_left (by omega)
            rw [overB_len hk.1]; simp; omega
          · rw [if_neg hpos]; exact hcB
        · show m - min m l.length = 0 ∨ wsOk (if 0 < min m l.length then overB c k (l.take (min m l.length)) else c) (f.ws.drop (j + 1))
          by_cases hml : m ≤ l.length
          · left; omega
          · right
            have hk := hok.resolve_left (by omega)
            have hlp := hk.2.1
            rw [if_pos (by omega), List.take_of_length_le (by omega)]
            exact hk.2.2
      · refine pur (bin_gtr _ _ _) (condD (fun hpos => ?_) (fun hz => hJ2 _ _ ⟨c, owns_ext ho1 e23 fun _ _ hh => hh, hT1, e13, by rw [if_neg (by omega)]⟩))
        have hk := hok.resolve_left (by omega)
        have e3d := Ext.drew (S := No) w3
        have b3d := b3.no e3d
        have hs3 : SlB w3.drew qv l := (hbq.sl.no e13).no e3d
        obtain ⟨v', t1, t2, _⟩ := sl_takeB hs3 (Nat.min_le_right m l.length) .i64
        have hone' : v'.oneCell' = true := Sl.one t2
        refine draw (fun w' => w' = w3.drew) rfl (pur (field_ptr _ _ _) (pur (field_ptr _ _ _) (heldC (v := .int .i64 (k : Int)) (fun w' hh => by rw [hh]; exact b3d.cell 0) (heldC (v := qv) (fun w' hh => by rw [hh]; exact b3d.cell 1) (pur t1 ?_)))))
        refine runS (v := .agg #[.int .i64 (k : Int), v']) (w' := w3.drew) ?_ ?_
        · have hv1 : ∃ a n c, v' = .slice a n c := by obtain ⟨a, c, rfl, _⟩ := t2; exact ⟨_, _, _, rfl⟩
          obtain ⟨a, n', c', rfl⟩ := hv1
          exact buildWr _ _ _ _ _
        · refine cover (b := c) (l := l.take (min m l.length)) ((Sl.own (owns_ext ho1 e23 fun _ _ hh => hh)).no e3d) t2 hone' hk.1 (by simp; omega) (by omega) (by simp; omega) fun v4 w4 ho4 e4 => hJ2 _ _ ⟨_, owns_base ho4 fun _ _ => Nat.zero_le _, fun b hb' => .inr ?_, e13.trans (e3d.trans e4), by rw [if_pos (by omega)]⟩
          have := (ho4.lt b hb').1
          have hs := (e13.trans e3d).size
          omega
    · rw [List.drop_of_length_le (by omega)] at hkb
      have : c = keptB f.fast f.ws n := hkb
      rw [← this]
      exact ⟨ho1, hT1, e1⟩
end
end Go.Proofs.Ythohdinjpkehpaa
/-! Sorting in place: insertion, reversal, order of two, medians. -/
namespace Go.Proofs.Ythohdinjpkehpaa
open Go SG Go.RowKit Go.Lib
set_option linter.unusedVariables false
set_option maxRecDepth 4000
set_option linter.unusedSimpArgs false

/-- all but place j is in order up to i, and what lies behind j is not below it -/
structure InsI (a i j : Nat) (zs : List El) : Prop where
  rest : ∀ p q u v, a ≤ p → p < q → q ≤ i → p ≠ j → q ≠ j → zs[p]? = some u → zs[q]? = some v → ltE v u = false
  beh : ∀ q u v, j < q → q ≤ i → zs[j]? = some u → zs[q]? = some v → ltE v u = false
theorem InsI.done {a i j : Nat} {zs : List El} (h : InsI a i j zs) (haj : a ≤ j) (hji : j ≤ i) (hi : i < zs.length) (hx : a < j → ∀ u v, zs[j - 1]? = some u → zs[j]? = some v → ltE v u = false) : Srt ltE a (i + 1) zs := by
  intro p q u v h1 h2 h3 hu hv
  by_cases hp : p = j
  · subst hp; exact h.beh q u v h2 (by omega) hu hv
  · by_cases hq : q = j
    · subst hq
      by_cases hpq : p = q - 1
      · subst hpq; exact hx (by omega) u v hu hv
      · obtain ⟨x, hxx⟩ := getN (xs := zs) (i := q - 1) (by omega)
        exact linE.le_tr (h.rest p (q - 1) u x h1 (by omega) (by omega) hp (by omega) hu hxx) (hx (by omega) x v hxx hv)
    · exact h.rest p q u v h1 h2 (by omega) hp hq hu hv
theorem InsI.next {a i j : Nat} {zs : List El} (h : InsI a i j zs) (haj : a < j) (hji : j ≤ i) (hi : i < zs.length) {u v : El} (hu : zs[j - 1]? = some u) (hv : zs[j]? = some v) (hlt : ltE v u = true) : InsI a i (j - 1) (swp zs j (j - 1)) := by
  have g : ∀ k, (swp zs j (j - 1))[k]? = if k = j - 1 then zs[j]? else if k = j then zs[j - 1]? else zs[k]? := fun k => swp_get (by omega) (by omega) k
  refine ⟨fun p q x y h1 h2 h3 h4 h5 hx hy => ?_, fun q x y h1 h2 hx hy => ?_⟩
  · rw [g, if_neg h4] at hx
    rw [g, if_neg h5] at hy
    by_cases hp : p = j
    · rw [if_pos hp] at hx
      rw [if_neg (by omega)] at hy
      exact h.rest (j - 1) q x y (by omega) (by omega) h3 (by omega) (by omega) hx hy
    · rw [if_neg hp] at hx
      by_cases hq : q = j
      · rw [if_pos hq] at hy
        exact h.rest p (j - 1) x y h1 (by omega) (by omega) hp (by omega) hx hy
      · rw [if_neg hq] at hy
        exact h.rest p q x y h1 h2 h3 hp hq hx hy
  · rw [g, if_pos rfl, hv] at hx
    cases hx
    rw [g, if_neg (by omega)] at hy
    by_cases hq : q = j
    · rw [if_pos hq, hu] at hy
      cases hy
      exact linE.asym hlt
    · rw [if_neg hq] at hy
      exact h.beh q v y (by omega) h2 hv hy

set_option maxHeartbeats 1000000 in
theorem cIns {L : Lcn El} (hE : L.enc = encE) {w : World} {xs : List El} (hd : Dt L w xs) {a b : Nat} (hab : a ≤ b) (hb : b ≤ L.n) {K : Value → World → Prop}
    (hK : ∀ w' ys, Dt L w' ys → Sw a b xs ys → Srt ltE a b ys → Ext (At1 L.g) w w' → K (.tuple [].toArray) w') : CallS Try.prog 69 #[L.v, .int .i64 (a : Int), .int .i64 (b : Int)] K w := by
  have hbig := L.big
  refine s69_call hm ?_
  unfold s69
  refine pur (add64 (c := ((a + 1 : Nat) : Int)) (by omega) (by omega) (by omega)) ?_
  refine loop1 (σ := Nat × List El) (fun s v w' => v = .int .i64 (s.1 : Int) ∧ a + 1 ≤ s.1 ∧ (s.1 ≤ b ∨ s.1 = a + 1) ∧ Dt L w' s.2 ∧ Sw a b xs s.2 ∧ Srt ltE a s.1 s.2 ∧ Ext (At1 L.g) w w') (fun s => b - s.1) (a + 1, xs)
    ⟨rfl, by simp, .inr rfl, hd, .refl, Srt.nil (by simp), Ext.refl _ _⟩ ?_
  rintro ⟨i, ys⟩ _ w1 ⟨rfl, hi1, hi2, hd1, hs1, ho1, e1⟩ L0 hL0
  simp only at hi1 hi2 hd1 hs1 ho1 hL0
  have hyl := hd1.len
  have hxl := hs1.len
  refine pur (bin_lss _ _ _) (condD (fun hlt => ?_) (fun hge => ?_))
  · refine join0 (fun w' => ∃ zs, Dt L w' zs ∧ Sw a b xs zs ∧ Srt ltE a (i + 1) zs ∧ Ext (At1 L.g) w w') ?_ fun J1 hJ1 => ?_
    · rintro w2 ⟨zs, hd2, hs2, ho2, e2⟩
      exact pur (add64 (c := ((i + 1 : Nat) : Int)) (by omega) (by omega) (by omega)) (hL0 (i + 1, zs) _ _ ⟨rfl, by simp only; omega, .inl (by simp only; omega), hd2, hs2, ho2, e2⟩ (by simp only; omega))
    · refine loop1 (σ := Nat × List El) (fun s v w' => v = .int .i64 (s.1 : Int) ∧ a ≤ s.1 ∧ s.1 ≤ i ∧ Dt L w' s.2 ∧ Sw a b xs s.2 ∧ InsI a i s.1 s.2 ∧ Ext (At1 L.g) w w') (fun s => s.1) (i, ys)
        ⟨rfl, by simp only; omega, Nat.le_refl _, hd1, hs1, ⟨fun p q u v h1 h2 h3 h4 h5 => ho1 p q u v h1 h2 (by omega), fun q u v h1 h2 => by omega⟩, e1⟩ ?_
      rintro ⟨j, zs⟩ _ w2 ⟨rfl, hj1, hj2, hd2, hs2, hi3, e2⟩ L2 hL2
      simp only at hj1 hj2 hd2 hs2 hi3 hL2
      have hzl := hd2.len
      obtain ⟨v, hv⟩ := getN (xs := zs) (i := j) (by omega)
      refine join1 (fun t w' => w2.drew = w' ∧ ((t = .bool true ∧ a < j ∧ ∃ u, zs[j - 1]? = some u ∧ ltE v u = true) ∨ (t = .bool false ∧ (a < j → ∃ u, zs[j - 1]? = some u ∧ ltE v u = false)))) ?_ fun J3 hJ3 => ?_
      · rintro t w' ⟨rfl, hcase⟩
        rcases hcase with ⟨rfl, haj, u, hu, hlt2⟩ | ⟨rfl, hno⟩
        · refine condT rfl (draw (fun w' => Dt L w' zs) hd2.drew.drew ?_)
          refine pur (sub64 (c := ((j - 1 : Nat) : Int)) (by omega) (by omega) (by omega)) (pur (sub64 (c := ((j - 1 : Nat) : Int)) (by omega) (by omega) (by omega)) ?_)
          refine pur (hd2.idx (by omega)) (pur (hd2.idx (by omega)) (heldC (fun w' h => h.cell hu) (heldC (fun w' h => h.cell hv) ?_)))
          refine hd2.drew.drew.swap hv hu fun w3 hd3 e3 => ?_
          refine pur (sub64 (c := ((j - 1 : Nat) : Int)) (by omega) (by omega) (by omega)) ?_
          exact hL2 (j - 1, swp zs j (j - 1)) _ _ ⟨rfl, by simp only; omega, by simp only; omega, hd3, hs2.trans (Sw.one (by omega) (by omega) (by omega) (by omega) (by omega)), hi3.next haj hj2 (by omega) hu hv hlt2,
            (e2.trans ((Ext.drew _).trans (Ext.drew _))).trans e3⟩ (by simp only; omega)
        · refine condF rfl (hJ1 _ ⟨zs, hd2.drew, hs2, hi3.done hj1 hj2 (by omega) (fun haj u' v' hu' hv' => ?_), e2.trans (Ext.drew _)⟩)
          obtain ⟨u, hu, hlt2⟩ := hno haj
          rw [hu] at hu'; cases hu'
          rw [hv] at hv'; cases hv'
          exact hlt2
      · refine draw (fun w' => Dt L w' zs) hd2.drew (pur (bin_gtr _ _ _) (condD (fun hgt => ?_) (fun hle => ?_)))
        · obtain ⟨u, hu⟩ := getN (xs := zs) (i := j - 1) (by omega)
          refine pur (hd2.idx (by omega)) (pur (sub64 (c := ((j - 1 : Nat) : Int)) (by omega) (by omega) (by omega)) (pur (hd2.idx (by omega)) (heldC (fun w' h => h.cell hv) (heldC (fun w' h => h.cell hu) ?_))))
          rw [hE]
          refine cless (pur (pick_b _ _ _) ?_)
          cases hc : ltE v u with
          | true => exact hJ3 _ _ ⟨rfl, .inl ⟨rfl, by omega, u, hu, hc⟩⟩
          | false => exact hJ3 _ _ ⟨rfl, .inr ⟨rfl, fun _ => ⟨u, hu, hc⟩⟩⟩
        · exact pur (pick_b _ _ _) (hJ3 _ _ ⟨rfl, .inr ⟨rfl, fun h => by omega⟩⟩)
  · have hib : i = b ∨ b ≤ a + 1 := by omega
    refine hK w1 ys hd1 hs1 ?_ e1
    rcases hib with rfl | h
    · exact ho1
    · exact Srt.nil h

theorem cRev {L : Lcn El} (hE : L.enc = encE) {w : World} {xs : List El} (hd : Dt L w xs) {a b : Nat} (hab : a ≤ b) (hb : b ≤ L.n) {K : Value → World → Prop}
    (hK : ∀ w' ys, Dt L w' ys → Sw a b xs ys → Ext (At1 L.g) w w' → K (.tuple [].toArray) w') : CallS Try.prog 73 #[L.v, .int .i64 (a : Int), .int .i64 (b : Int)] K w := by
  have hbig := L.big
  refine s73_call hm ?_
  unfold s73
  refine pur (sub64 (c := (b : Int) - 1) rfl (by omega) (by omega)) ?_
  refine loop2 (σ := Nat × List El) (fun s v v' w' => v = .int .i64 ((a : Int) + s.1) ∧ v' = .int .i64 ((b : Int) - 1 - s.1) ∧ Dt L w' s.2 ∧ Sw a b xs s.2 ∧ Ext (At1 L.g) w w') (fun s => b - a - 2 * s.1) (0, xs)
    ⟨by simp, by simp, hd, .refl, Ext.refl _ _⟩ ?_
  rintro ⟨k, ys⟩ _ _ w1 ⟨rfl, rfl, hd1, hs1, e1⟩ L0 hL0
  simp only at hd1 hs1 hL0
  have hyl := hd1.len
  have hxl := hs1.len
  refine pur (bin_lss _ _ _) (condD (fun hlt => ?_) (fun hge => hK w1 ys hd1 hs1 e1))
  have hi : (a : Int) + k = ((a + k : Nat) : Int) := by omega
  have hj : (b : Int) - 1 - k = ((b - 1 - k : Nat) : Int) := by omega
  obtain ⟨u, hu⟩ := getN (xs := ys) (i := a + k) (by omega)
  obtain ⟨v, hv⟩ := getN (xs := ys) (i := b - 1 - k) (by omega)
  rw [hi, hj]
  refine draw (fun w' => Dt L w' ys) hd1.drew ?_
  refine pur (hd1.idx (by omega)) (pur (hd1.idx (by omega)) (heldC (fun w' h => h.cell hv) (heldC (fun w' h => h.cell hu) ?_)))
  refine hd1.drew.swap hu hv fun w2 hd2 e2 => ?_
  refine pur (add64 (c := (a : Int) + ((k + 1 : Nat) : Int)) (by omega) (by omega) (by omega)) (pur (sub64 (c := (b : Int) - 1 - ((k + 1 : Nat) : Int)) (by omega) (by omega) (by omega)) ?_)
  exact hL0 (k + 1, _) _ _ _ ⟨rfl, rfl, hd2, hs1.trans (Sw.one (by omega) (by omega) (by omega) (by omega) (by omega)), (e1.trans (Ext.drew _)).trans e2⟩ (by simp only; omega)
end Go.Proofs.Ythohdinjpkehpaa
/-! Sorting in place: the pivot, chance. -/
namespace Go.Proofs.Ythohdinjpkehpaa
open Go SG Go.RowKit Go.Lib
set_option linter.unusedVariables false
set_option maxRecDepth 4000
set_option linter.unusedSimpArgs false

theorem at1_off {g b : Nat} (h : b ≠ g) : ¬ At1 g b := h
theorem quoN (a d : Nat) (hd : d ≠ 0) (ha : a ≤ 9223372036854775807) : binV .quo (.int .i64 (a : Int)) (.int .i64 (d : Int)) = some (.int .i64 ((a / d : Nat) : Int)) := by
  have h : ((a : Int)).tdiv (d : Int) = ((a / d : Nat) : Int) := (Int.ofNat_tdiv a d).symm
  have hle : a / d ≤ a := Nat.div_le_self a d
  rw [bin_quo _ _ _ (by omega), h]
  generalize a / d = q at *
  rw [wi64 (by omega) (by omega)]
theorem mulN (a d : Nat) (ha : a * d ≤ 9223372036854775807) : binV .mul (.int .i64 (a : Int)) (.int .i64 (d : Int)) = some (.int .i64 ((a * d : Nat) : Int)) := by
  rw [bin_mul, ← Int.natCast_mul, wi64 (by omega) (by omega)]

theorem cOrd2 {L : Lcn El} (hE : L.enc = encE) {w : World} {xs : List El} (hd : Dt L w xs) {gs : Nat} {c : Int} (hs : Blk w gs 3 [.int .i64 c]) (hg : gs ≠ L.g) {a b : Nat} (ha : a < L.n) (hb : b < L.n) {K : Value → World → Prop}
    (hK : ∀ w' c', Dt L w' xs → Blk w' gs 3 [.int .i64 c'] → Ext (At1 gs) w w' → (K (.tuple [.int .i64 (a : Int), .int .i64 (b : Int)].toArray) w' ∧ K (.tuple [.int .i64 (b : Int), .int .i64 (a : Int)].toArray) w')) :
    CallS Try.prog 88 #[L.v, .int .i64 (a : Int), .int .i64 (b : Int), .pointer (some ⟨gs, 0, none⟩)] K w := by
  refine s88_call hm ?_
  unfold s88
  have hl := hd.len
  obtain ⟨u, hu⟩ := getN (xs := xs) (i := a) (by omega)
  obtain ⟨v, hv⟩ := getN (xs := xs) (i := b) (by omega)
  refine draw (fun w' => Dt L w' xs) hd.drew ?_
  refine pur (hd.idx hb) (pur (hd.idx ha) (heldC (fun w' h => h.cell hv) (heldC (fun w' h => h.cell hu) ?_)))
  rw [hE]
  refine cless (condB (fun _ => ?_) (fun _ => ?_))
  · have hs1 : Blk w.drew gs 3 [.int .i64 c] := hs.no (Ext.drew w)
    refine pur (nil_ptr _) (loadB hs1 (v := .int .i64 c) rfl (pur (bin_add _ _ _) (pur (nil_ptr _) (storeB hs1 (by simp) rfl fun w1 b1 e1 _ => ?_))))
    exact (hK w1 _ (hd.drew.ext e1 (at1_off (Ne.symm hg))) b1 ((Ext.drew w).trans e1)).2
  · exact (hK w.drew c hd.drew (hs.no (Ext.drew w)) (Ext.drew w)).1

theorem cMed {L : Lcn El} (hE : L.enc = encE) {w : World} {xs : List El} (hd : Dt L w xs) {gs : Nat} {c : Int} (hs : Blk w gs 3 [.int .i64 c]) (hg : gs ≠ L.g) {i j k : Nat} (hi : i < L.n) (hj : j < L.n) (hk : k < L.n) {P : Nat → Prop} (h1 : P i) (h2 : P j) (h3 : P k) {K : Value → World → Prop}
    (hK : ∀ w' c' (m : Nat), Dt L w' xs → Blk w' gs 3 [.int .i64 c'] → Ext (At1 gs) w w' → P m → m < L.n → K (.int .i64 (m : Int)) w') :
    CallS Try.prog 86 #[L.v, .int .i64 (i : Int), .int .i64 (j : Int), .int .i64 (k : Int), .pointer (some ⟨gs, 0, none⟩)] K w := by
  refine s86_call hm ?_
  unfold s86
  have main : ∀ (p q : Nat) w1 c1, Dt L w1 xs → Blk w1 gs 3 [.int .i64 c1] → Ext (At1 gs) w w1 → p < L.n → q < L.n → P p → P q →
      CallS Try.prog 88 #[L.v, .int .i64 (q : Int), .int .i64 (k : Int), .pointer (some ⟨gs, 0, none⟩)] (fun t24 w => PureS (extractV 0 t24) fun t25 => PureS (extractV 1 t24) fun t26 => CallS Try.prog 88 #[L.v, .int .i64 (p : Int), t25, .pointer (some ⟨gs, 0, none⟩)] (fun t32 w => PureS (extractV 0 t32) fun t33 => PureS (extractV 1 t32) fun t34 => K t34 w) w) w1 := by
    intro p q w1 c1 hd1 hs1 e1 hp hq hPp hPq
    have last : ∀ (r : Nat) w2 c2, Dt L w2 xs → Blk w2 gs 3 [.int .i64 c2] → Ext (At1 gs) w w2 → r < L.n → P r →
        CallS Try.prog 88 #[L.v, .int .i64 (p : Int), .int .i64 (r : Int), .pointer (some ⟨gs, 0, none⟩)] (fun t32 w => PureS (extractV 0 t32) fun t33 => PureS (extractV 1 t32) fun t34 => K t34 w) w2 := fun r w2 c2 hd2 hs2 e2 hr hPr =>
      cOrd2 hE hd2 hs2 hg hp hr fun w3 c3 hd3 hs3 e3 =>
        ⟨pur (extract_0 _ _) (pur (extract_1 _ _ _) (hK w3 c3 r hd3 hs3 (e2.trans e3) hPr hr)), pur (extract_0 _ _) (pur (extract_1 _ _ _) (hK w3 c3 p hd3 hs3 (e2.trans e3) hPp hp))⟩
    exact cOrd2 hE hd1 hs1 hg hq hk fun w2 c2 hd2 hs2 e2 =>
      ⟨pur (extract_0 _ _) (pur (extract_1 _ _ _) (last q w2 c2 hd2 hs2 (e1.trans e2) hq hPq)), pur (extract_0 _ _) (pur (extract_1 _ _ _) (last k w2 c2 hd2 hs2 (e1.trans e2) hk h3))⟩
  exact cOrd2 hE hd hs hg hi hj fun w1 c1 hd1 hs1 e1 =>
    ⟨pur (extract_0 _ _) (pur (extract_1 _ _ _) (main i j w1 c1 hd1 hs1 e1 hi hj h1 h2)), pur (extract_0 _ _) (pur (extract_1 _ _ _) (main j i w1 c1 hd1 hs1 e1 hj hi h2 h1))⟩

theorem cMadj {L : Lcn El} (hE : L.enc = encE) {w : World} {xs : List El} (hd : Dt L w xs) {gs : Nat} {c : Int} (hs : Blk w gs 3 [.int .i64 c]) (hg : gs ≠ L.g) {i : Nat} (h0 : 1 ≤ i) (hi : i + 1 < L.n) {P : Nat → Prop} (h1 : P (i - 1)) (h2 : P i) (h3 : P (i + 1)) {K : Value → World → Prop}
    (hK : ∀ w' c' (m : Nat), Dt L w' xs → Blk w' gs 3 [.int .i64 c'] → Ext (At1 gs) w w' → P m → m < L.n → K (.int .i64 (m : Int)) w') :
    CallS Try.prog 85 #[L.v, .int .i64 (i : Int), .pointer (some ⟨gs, 0, none⟩)] K w := by
  have hbig := L.big
  refine s85_call hm ?_
  unfold s85
  refine pur (sub64 (c := ((i - 1 : Nat) : Int)) (by omega) (by omega) (by omega)) (pur (add64 (c := ((i + 1 : Nat) : Int)) (by omega) (by omega) (by omega)) ?_)
  exact cMed hE hd hs hg (by omega) (by omega) hi h1 h2 h3 hK

set_option maxHeartbeats 400000 in
theorem cPiv {L : Lcn El} (hE : L.enc = encE) {w : World} {xs : List El} (hd : Dt L w xs) {a b : Nat} (hab : a + 8 ≤ b) (hb : b ≤ L.n) {K : Value → World → Prop}
    (hK : ∀ w' (p : Nat) (h : Int), Dt L w' xs → Ext No w w' → a ≤ p → p < b → K (.tuple [.int .i64 (p : Int), .int .i64 h].toArray) w') : CallS Try.prog 72 #[L.v, .int .i64 (a : Int), .int .i64 (b : Int)] K w := by
  have hbig := L.big
  refine s72_call hm ?_
  unfold s72
  obtain ⟨l, hl⟩ : ∃ l, b - a = l := ⟨_, rfl⟩
  have hq : l / 4 * 4 ≤ l := Nat.div_mul_le_self l 4
  have hq2 : 2 ≤ l / 4 := by omega
  refine pur (sub64 (c := (l : Int)) (by omega) (by omega) (by omega)) (box fun w1 b1 e1 z1 => ?_)
  have hs1 : Blk w1 w.heap.size 3 [.int .i64 0] := b1
  have hd1 := hd.no e1
  have hg : w.heap.size ≠ L.g := by have := hd.blk.lt; omega
  have hfr : ∀ {wa wb : World}, Ext No w wa → Ext (At1 w.heap.size) wa wb → Ext No w wb := fun h k => h.fresh k fun b hb => .inr (by rw [show b = w.heap.size from hb]; exact Nat.le_refl _)
  refine pur (quoN l 4 (by decide) (by omega)) (pur (mulN (l / 4) 1 (by omega)) (pur (add64 (c := ((a + l / 4 * 1 : Nat) : Int)) (by omega) (by omega) (by omega)) ?_))
  refine pur (quoN l 4 (by decide) (by omega)) (pur (mulN (l / 4) 2 (by omega)) (pur (add64 (c := ((a + l / 4 * 2 : Nat) : Int)) (by omega) (by omega) (by omega)) ?_))
  refine pur (quoN l 4 (by decide) (by omega)) (pur (mulN (l / 4) 3 (by omega)) (pur (add64 (c := ((a + l / 4 * 3 : Nat) : Int)) (by omega) (by omega) (by omega)) ?_))
  refine join1 (fun v w' => ∃ (m : Nat) (c : Int), v = .int .i64 (m : Int) ∧ a ≤ m ∧ m < b ∧ Dt L w' xs ∧ Blk w' w.heap.size 3 [.int .i64 c] ∧ Ext No w w') ?_ fun J0 hJ0 => ?_
  · rintro _ w2 ⟨m, c, rfl, hm1, hm2, hd2, hs2, e2⟩
    refine loadB hs2 (v := .int .i64 c) rfl (pur (bin_eql _ _ _) (condD (fun _ => hK w2 m 1 hd2 e2 hm1 hm2) (fun _ => pur (bin_eql _ _ _) (condD (fun _ => hK w2 m 2 hd2 e2 hm1 hm2) (fun _ => hK w2 m 0 hd2 e2 hm1 hm2)))))
  · refine pur (bin_geq _ _ _) (condD (fun _ => ?_) (fun h => absurd h (by omega)))
    refine join3 (fun x y z w' => ∃ (i j k : Nat) (c : Int), x = .int .i64 (i : Int) ∧ y = .int .i64 (j : Int) ∧ z = .int .i64 (k : Int) ∧ (a ≤ i ∧ i < b) ∧ (a ≤ j ∧ j < b) ∧ (a ≤ k ∧ k < b) ∧ Dt L w' xs ∧ Blk w' w.heap.size 3 [.int .i64 c] ∧ Ext No w w') ?_ fun J1 hJ1 => ?_
    · rintro _ _ _ w2 ⟨i, j, k, c, rfl, rfl, rfl, hi, hj, hk, hd2, hs2, e2⟩
      exact cMed hE hd2 hs2 hg (P := fun m => a ≤ m ∧ m < b) (by omega) (by omega) (by omega) hi hj hk fun w3 c3 m hd3 hs3 e3 hPm _ => hJ0 _ _ ⟨m, c3, rfl, hPm.1, hPm.2, hd3, hs3, hfr e2 e3⟩
    · refine pur (bin_geq _ _ _) (condD (fun hge => ?_) (fun _ => ?_))
      · refine cMadj hE hd1 hs1 hg (P := fun m => a ≤ m ∧ m < b) (by omega) (by omega) (by omega) (by omega) (by omega) fun w2 c2 i hd2 hs2 e2 hi _ => ?_
        refine cMadj hE hd2 hs2 hg (P := fun m => a ≤ m ∧ m < b) (by omega) (by omega) (by omega) (by omega) (by omega) fun w3 c3 j hd3 hs3 e3 hj _ => ?_
        refine cMadj hE hd3 hs3 hg (P := fun m => a ≤ m ∧ m < b) (by omega) (by omega) (by omega) (by omega) (by omega) fun w4 c4 k hd4 hs4 e4 hk _ => ?_
        exact hJ1 _ _ _ _ ⟨i, j, k, c4, rfl, rfl, rfl, hi, hj, hk, hd4, hs4, hfr (hfr (hfr e1 e2) e3) e4⟩
      · exact hJ1 _ _ _ _ ⟨_, _, _, 0, rfl, rfl, rfl, by omega, by omega, by omega, hd1, hs1, e1⟩
end Go.Proofs.Ythohdinjpkehpaa
