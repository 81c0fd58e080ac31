/- Several texts of ours, laid one behind the other. -/
import Derived.Test.YthohdinjpkehpaaGreatMF4
import Derived.Maps.RangeRun
import Derived.Carry
import Derived.LaidEql
import Derived.Lib.OthersKept
import Derived.Lib.Bytealg
import Derived.Laws.Externs
import Derived.Lib.AppendZeros
namespace SG
open Go Go.RowKit Go.Lib
set_option linter.unusedSimpArgs false
set_option linter.unusedVariables false

section
variable {κ ν : Type} [DecidableEq κ]
def mget (m : List (κ × ν)) (x : κ) : Option ν := (m.find? fun p => decide (p.1 = x)).map (·.2)
def midx (ks : List κ) (x : κ) : Option Nat := ks.findIdx? fun y => decide (y = x)
def mput (m : List (κ × ν)) (x : κ) (v : ν) : List (κ × ν) := if x ∈ m.map (·.1) then m.map fun p => if p.1 = x then (x, v) else p else m ++ [(x, v)]
def mdel (m : List (κ × ν)) (x : κ) : List (κ × ν) := m.filter fun p => decide (p.1 ≠ x)
def Keys (m : List (κ × ν)) : Prop := (m.map (·.1)).Nodup
theorem mget_cons (p : κ × ν) (m : List (κ × ν)) (x : κ) : mget (p :: m) x = if p.1 = x then some p.2 else mget m x := by
  unfold mget
  rw [List.find?_cons]
  by_cases h : p.1 = x <;> simp [h]
theorem mget_none {m : List (κ × ν)} {x : κ} : mget m x = none ↔ x ∉ m.map (·.1) := by
  induction m with
  | nil => simp [mget]
  | cons p m ih =>
    rw [mget_cons]
    by_cases h : p.1 = x
    · simp [h]
    · rw [if_neg h, ih]; simp [Ne.symm h]
theorem mget_mem {m : List (κ × ν)} (hk : Keys m) {x : κ} {v : ν} : mget m x = some v ↔ (x, v) ∈ m := by
  induction m with
  | nil => simp [mget]
  | cons p m ih =>
    have hk' : p.1 ∉ m.map (·.1) ∧ Keys m := List.nodup_cons.1 hk
    rw [mget_cons]
    by_cases h : p.1 = x
    · rw [if_pos h]
      constructor
      · intro hv; cases hv; subst h; simp
      · intro hm
        rcases List.mem_cons.1 hm with rfl | hm
        · rfl
        · subst h; exact absurd (List.mem_map_of_mem (f := (·.1)) hm) hk'.1
    · rw [if_neg h, ih hk'.2]
      constructor
      · exact fun hm => List.mem_cons_of_mem _ hm
      · intro hm
        rcases List.mem_cons.1 hm with rfl | hm
        · exact absurd rfl h
        · exact hm
theorem mget_isSome {m : List (κ × ν)} {x : κ} : (mget m x).isSome = true ↔ x ∈ m.map (·.1) := by
  cases h : mget m x with
  | none => simpa using mget_none.1 h
  | some v =>
    simp only [Option.isSome_some, true_iff]
    refine Decidable.byContradiction fun hn => ?_
    rw [mget_none.2 hn] at h; cases h
theorem mput_keys_in {m : List (κ × ν)} {x : κ} {v : ν} (h : x ∈ m.map (·.1)) : (mput m x v).map (·.1) = m.map (·.1) := by
  unfold mput
  rw [if_pos h, List.map_map]
  refine List.map_congr_left fun p _ => ?_
  simp only [Function.comp]
  split
  · rename_i hp; exact hp.symm
  · rfl
theorem mput_keys_out {m : List (κ × ν)} {x : κ} {v : ν} (h : x ∉ m.map (·.1)) : mput m x v = m ++ [(x, v)] := by
  unfold mput; rw [if_neg h]
theorem Keys.put {m : List (κ × ν)} (h : Keys m) (x : κ) (v : ν) : Keys (mput m x v) := by
  by_cases hx : x ∈ m.map (·.1)
  · unfold Keys; rw [mput_keys_in hx]; exact h
  · unfold Keys
    rw [mput_keys_out hx, List.map_append, List.nodup_append]
    refine ⟨h, by simp, fun a ha b hb => ?_⟩
    simp at hb; subst hb
    exact fun e => hx (e ▸ ha)
theorem Keys.del {m : List (κ × ν)} (h : Keys m) (x : κ) : Keys (mdel m x) := List.Nodup.sublist (List.Sublist.map _ List.filter_sublist) h
theorem mget_put (m : List (κ × ν)) (x y : κ) (v : ν) : mget (mput m x v) y = if y = x then some v else mget m y := by
  by_cases hx : x ∈ m.map (·.1)
  · unfold mput
    rw [if_pos hx]
    revert hx
    induction m with
    | nil => intro h; simp at h
    | cons p m ih =>
      intro h
      rw [List.map_cons, mget_cons, mget_cons]
      by_cases hp : p.1 = x
      · rw [if_pos hp]
        by_cases hy : y = x
        · subst hy; simp
        · simp only [if_neg hy]
          rw [if_neg (Ne.symm hy), if_neg (by rw [hp]; exact Ne.symm hy)]
          by_cases hm : x ∈ m.map (·.1)
          · rw [ih hm, if_neg hy]
          · have : m.map (fun p => if p.1 = x then (x, v) else p) = m := by
              refine (List.map_congr_left fun q hq => ?_).trans (List.map_id _)
              have hne : ¬ q.1 = x := fun e => hm (e ▸ List.mem_map_of_mem (f := (·.1)) hq)
              rw [if_neg hne]; rfl
            rw [this]
      · rw [if_neg hp]
        have hm : x ∈ m.map (·.1) := by
          simp only [List.map_cons, List.mem_cons] at h
          exact h.resolve_left (Ne.symm hp)
        rw [ih hm]
        by_cases hpy : p.1 = y
        · rw [if_pos hpy, if_pos hpy, if_neg (by rw [← hpy]; exact hp)]
        · rw [if_neg hpy, if_neg hpy]
  · rw [mput_keys_out hx]
    unfold mget
    rw [List.find?_append]
    by_cases hy : y = x
    · subst hy
      have := mget_none.2 hx
      unfold mget at this
      rw [if_pos rfl]
      cases hf : m.find? fun p => decide (p.1 = y) with
      | none => simp
      | some p => rw [hf] at this; cases this
    · rw [if_neg hy]
      cases hf : m.find? fun p => decide (p.1 = y) with
      | none => simp [Ne.symm hy]
      | some p => simp
theorem mget_del {m : List (κ × ν)} (x y : κ) : mget (mdel m x) y = if y = x then none else mget m y := by
  induction m with
  | nil => simp [mdel, mget]
  | cons p m ih =>
    have : mdel (p :: m) x = if p.1 = x then mdel m x else p :: mdel m x := by
      unfold mdel
      rw [List.filter_cons]
      by_cases h : p.1 = x <;> simp [h]
    rw [this, mget_cons]
    by_cases hp : p.1 = x
    · rw [if_pos hp, ih]
      by_cases hy : y = x
      · rw [if_pos hy, if_pos hy]
      · rw [if_neg hy, if_neg hy, if_neg (by rw [hp]; exact Ne.symm hy)]
    · rw [if_neg hp, mget_cons, ih]
      by_cases hy : y = x
      · subst hy; rw [if_pos rfl, if_neg hp, if_pos rfl]
      · rw [if_neg hy, if_neg hy]
theorem mput_length {m : List (κ × ν)} (x : κ) (v : ν) : (mput m x v).length = if (mget m x).isSome then m.length else m.length + 1 := by
  by_cases hx : x ∈ m.map (·.1)
  · rw [if_pos (mget_isSome.2 hx)]
    unfold mput; rw [if_pos hx]; simp
  · rw [if_neg fun h => hx (mget_isSome.1 h), mput_keys_out hx]; simp
theorem midx_some {ks : List κ} {x : κ} {i : Nat} (h : midx ks x = some i) : ks[i]? = some x := by
  unfold midx at h
  rw [List.findIdx?_eq_some_iff_getElem] at h
  obtain ⟨hi, h1, _⟩ := h
  rw [List.getElem?_eq_getElem hi, of_decide_eq_true h1]
theorem midx_none {ks : List κ} {x : κ} (h : midx ks x = none) : x ∉ ks := by
  unfold midx at h
  rw [List.findIdx?_eq_none_iff] at h
  intro hx
  have := h x hx
  simp at this
theorem midx_get {m : List (κ × ν)} {x : κ} : mget m x = (midx (m.map (·.1)) x).bind fun i => (m[i]?).map (·.2) := by
  induction m with
  | nil => simp [mget, midx]
  | cons p m ih =>
    rw [mget_cons, List.map_cons]
    have : midx (p.1 :: m.map (·.1)) x = if p.1 = x then some 0 else (midx (m.map (·.1)) x).map (· + 1) := by
      unfold midx
      rw [List.findIdx?_cons]
      by_cases h : p.1 = x <;> simp [h]
    rw [this]
    by_cases hp : p.1 = x
    · simp [hp]
    · rw [if_neg hp, if_neg hp, ih]
      cases midx (m.map (·.1)) x <;> simp
end

section
variable {κ ν : Type} [DecidableEq κ]
structure MapT (P : Program) (t k e : TypeId) (f : κ → Value) (z : Value) : Prop where
  under : P.underlying t = some (.map k e)
  check : ∀ (b : Bool) (x : κ) (w : World), (Instr.checkKey b 10000 k (f x)).run P w = .ok () w
  find : ∀ (x : κ) (es : List MapEntry) (ks : List κ) (w : World), es.map (·.key) = ks.map f → (Instr.findKey k (f x) es).run P w = .ok ((midx ks x).bind fun i => (es[i]?).map fun e => (i, e.val)) w
  zero : ∀ w, (zeroValue e).run P w = .ok z w
  stays : ∀ x, Instr.sameBits 10000 (f x) (f x) = true
theorem findNow_of {kd : TypeDesc} {f : κ → Value} (h : ∀ x y, Instr.sameNow kd (f x) (f y) = some (decide (x = y))) (x : κ) : ∀ (es : List MapEntry) (ks : List κ) (n : Nat), es.map (·.key) = ks.map f →
    Instr.findNow kd (f x) es n = some ((midx ks x).bind fun i => (es[i]?).map fun e => (n + i, e.val))
  | [], ks, n, hk => by
    have : ks = [] := by simpa using hk.symm
    subst this
    simp [Instr.findNow, midx]
  | e :: es, [], n, hk => by simp at hk
  | e :: es, y :: ks, n, hk => by
    simp only [List.map_cons, List.cons.injEq] at hk
    have hm : midx (y :: ks) x = if y = x then some 0 else (midx ks x).map (· + 1) := by
      unfold midx
      rw [List.findIdx?_cons]
      by_cases h : y = x <;> simp [h]
    rw [hm]
    unfold Instr.findNow
    rw [hk.1, h x y]
    by_cases hxy : x = y
    · subst hxy; simp
    · rw [decide_eq_false hxy, if_neg (Ne.symm hxy)]
      simp only
      rw [findNow_of h x es ks (n + 1) hk.2]
      congr 1
      cases midx ks x with
      | none => rfl
      | some i =>
        simp only [Option.map_some, Option.bind_some, List.getElem?_cons_succ]
        rw [show n + 1 + i = n + (i + 1) by omega]
theorem MapT.of {P : Program} {t k e : TypeId} {f : κ → Value} {z : Value} {kd : TypeDesc} (hu : P.underlying t = some (.map k e)) (hk : P.underlying k = some kd) (hc : ∀ x b w, (Instr.checkKey b 10000 k (f x)).run P w = .ok () w)
    (hs : ∀ x y, Instr.sameNow kd (f x) (f y) = some (decide (x = y))) (hz : (P.info? e).map (·.zero) = some (some z)) (hb : ∀ x, Instr.sameBits 10000 (f x) (f x) = true) : MapT P t k e f z where
  under := hu
  check := fun b x w => hc x b w
  find := fun x es ks w h => by
    have := findNow_of hs x es ks 0 h
    simp only [Nat.zero_add] at this
    simp [Instr.findKey, run_underlying hk, this]
  zero := fun w => by
    cases hi : P.info? e with
    | none => rw [hi] at hz; cases hz
    | some i =>
      rw [hi] at hz
      simp only [Option.map_some, Option.some.injEq] at hz
      simp [zeroValue, typeInfo, hi, hz]
  stays := hb
def MapR (w : World) (b : Nat) (f : κ → Value) (g : ν → Value) (m : List (κ × ν)) : Prop :=
  ∃ (es : List MapEntry) (clock : Nat), w.heap[b]? = some (.map es.toArray clock) ∧ es.map (fun e => (e.key, e.val)) = m.map (fun p => (f p.1, g p.2)) ∧ (es.map (·.born)).Nodup ∧ (∀ e ∈ es, e.born < clock) ∧ Keys m
namespace MapR
variable {P : Program} {t k e : TypeId} {f : κ → Value} {g : ν → Value} {z : Value} {w w' : World} {b : Nat} {m : List (κ × ν)} {S : Nat → Prop}
omit [DecidableEq κ] in
theorem lt (h : MapR w b f g m) : b < w.heap.size := by obtain ⟨es, clock, hb, _⟩ := h; exact (Array.getElem?_eq_some_iff.1 hb).1
omit [DecidableEq κ] in
theorem ext (h : MapR w b f g m) (e : Ext S w w') (hn : ¬ S b) : MapR w' b f g m := by
  have hl := h.lt
  obtain ⟨es, clock, hb, hr⟩ := h
  exact ⟨es, clock, (e.blk b hl hn).trans hb, hr⟩
omit [DecidableEq κ] in
theorem no (h : MapR w b f g m) (e : Ext No w w') : MapR w' b f g m := h.ext e fun h => h
omit [DecidableEq κ] in
theorem keys (h : MapR w b f g m) : Keys m := by obtain ⟨_, _, _, _, _, _, h⟩ := h; exact h
omit [DecidableEq κ] in
theorem make {K : Value → World → Prop} (f : κ → Value) (g : ν → Value) (hK : ∀ w', MapR w' w.heap.size f g ([] : List (κ × ν)) → Ext No w w' → w'.heap.size = w.heap.size + 1 → K (.map (some w.heap.size)) w') : RunS P (Instr.makeMap t none) K w :=
  runS (run_makeMap t w) (hK _ ⟨[], 0, heap_alloc_new w _, rfl, by simp, by simp, by simp [Keys]⟩ (Ext.alloc w _) (by simp))
omit [DecidableEq κ] in
theorem keysOf (es : List MapEntry) (h : es.map (fun e => (e.key, e.val)) = m.map (fun p => (f p.1, g p.2))) : es.map (·.key) = (m.map (·.1)).map f := by
  have := congrArg (List.map Prod.fst) h
  simpa [List.map_map, Function.comp_def] using this
theorem findRun (hT : MapT P t k e f z) (h : MapR w b f g m) (x : κ) : ∃ (es : List MapEntry) (clock : Nat), w.heap[b]? = some (.map es.toArray clock) ∧ (Instr.findKey k (f x) es).run P w = .ok ((midx (m.map (·.1)) x).bind fun i => (m[i]?).map fun p => (i, g p.2)) w := by
  obtain ⟨es, clock, hb, hes, _, _, _⟩ := h
  refine ⟨es, clock, hb, ?_⟩
  rw [hT.find x es _ w (keysOf es hes)]
  congr 1
  cases midx (m.map (·.1)) x with
  | none => rfl
  | some i =>
    simp only [Option.bind_some]
    have := congrArg (fun l => (l[i]?).map (·.2)) hes
    simp only [List.getElem?_map, Option.map_map, Function.comp_def] at this
    have h2 := congrArg (Option.map fun v => (i, v)) this
    simpa [Option.map_map, Function.comp_def] using h2
theorem lookup (hT : MapT P t k e f z) (h : MapR w b f g m) (x : κ) {K : Value → World → Prop} (hK : K (((mget m x).map g).getD z) w) : RunS P (Instr.lookup t (.map (some b)) (f x) false) K w := by
  obtain ⟨es, clock, hb, hf⟩ := findRun hT h x
  refine runS (w' := w) (v := ((mget m x).map g).getD z) ?_ hK
  have hm := midx_get (m := m) (x := x)
  cases hi : midx (m.map (·.1)) x with
  | none =>
    rw [hi] at hm hf
    simp only [Option.bind_none] at hm hf
    rw [hm]
    simp [Instr.lookup, Sem.run_bind, run_underlying hT.under, MapKept.run_getObj_map hb, hT.check, hf, hT.zero]
  | some i =>
    rw [hi] at hm hf
    simp only [Option.bind_some] at hm hf
    have hl : i < m.length := by have := (List.getElem?_eq_some_iff.1 (midx_some hi)).1; simpa using this
    rw [List.getElem?_eq_getElem hl] at hf
    rw [hm, List.getElem?_eq_getElem hl]
    simp [Instr.lookup, Sem.run_bind, run_underlying hT.under, MapKept.run_getObj_map hb, hT.check, hf]
theorem lookup2 (hT : MapT P t k e f z) (h : MapR w b f g m) (x : κ) {K : Value → World → Prop} (hK : K (.tuple [((mget m x).map g).getD z, .bool (mget m x).isSome].toArray) w) : RunS P (Instr.lookup t (.map (some b)) (f x) true) K w := by
  obtain ⟨es, clock, hb, hf⟩ := findRun hT h x
  refine runS (w' := w) (v := .tuple [((mget m x).map g).getD z, .bool (mget m x).isSome].toArray) ?_ hK
  have hm := midx_get (m := m) (x := x)
  cases hi : midx (m.map (·.1)) x with
  | none =>
    rw [hi] at hm hf
    simp only [Option.bind_none] at hm hf
    rw [hm]
    simp [Instr.lookup, Sem.run_bind, run_underlying hT.under, MapKept.run_getObj_map hb, hT.check, hf, hT.zero]
  | some i =>
    rw [hi] at hm hf
    simp only [Option.bind_some] at hm hf
    have hl : i < m.length := by have := (List.getElem?_eq_some_iff.1 (midx_some hi)).1; simpa using this
    rw [List.getElem?_eq_getElem hl] at hf
    rw [hm, List.getElem?_eq_getElem hl]
    simp [Instr.lookup, Sem.run_bind, run_underlying hT.under, MapKept.run_getObj_map hb, hT.check, hf]
omit [DecidableEq κ] in
theorem size (h : MapR w b f g m) {es : List MapEntry} {clock : Nat} (hb : w.heap[b]? = some (.map es.toArray clock)) : es.length = m.length := by
  obtain ⟨es', clock', hb', hes, _⟩ := h
  rw [hb] at hb'
  simp only [Option.some.injEq, Obj.map.injEq] at hb'
  have : es = es' := by simpa using congrArg Array.toList hb'.1
  subst this
  simpa using congrArg List.length hes
omit [DecidableEq κ] in
theorem len {t k e : TypeId} (hu : P.underlying t = some (.map k e)) (h : MapR w b f g m) {ty : TypeId} {K : Value → World → Prop} (hK : K (.int .i64 (m.length : Int)) w) : RunS P (Builtin.len_ #[t] ty [.map (some b)].toArray) K w := by
  have hs := fun es clock => h.size (es := es) (clock := clock)
  obtain ⟨es, clock, hb, _⟩ := h
  refine runS (w' := w) (v := .int .i64 (m.length : Int)) ?_ hK
  have := hs es clock hb
  simp [Builtin.len_, run_underlying hu, MapKept.run_getObj_map hb, goInt, this]
omit [DecidableEq κ] in
theorem set_ext (hb : b < w.heap.size) (o : Obj) : Ext (At1 b) w { w with heap := w.heap.setIfInBounds b o } :=
  ⟨rfl, rfl, rfl, by simp, fun i _ hn => Array.getElem?_setIfInBounds_ne fun e => hn (by rw [e]; rfl)⟩
omit [DecidableEq κ] in
theorem set_at (hb : b < w.heap.size) (o : Obj) : ({ w with heap := w.heap.setIfInBounds b o } : World).heap[b]? = some o := by
  show (w.heap.setIfInBounds b o)[b]? = some o
  rw [Array.getElem?_setIfInBounds_self_of_lt hb]
theorem update (hT : MapT P t k e f z) (h : MapR w b f g m) (x : κ) (v : ν) {K : World → Prop} (hK : ∀ w', MapR w' b f g (mput m x v) → Ext (At1 b) w w' → w'.heap.size = w.heap.size → K w') : RunU P (Instr.mapUpdate t (.map (some b)) (f x) (g v)) K w := by
  have hlt := h.lt
  obtain ⟨es0, clock0, hb0, hf⟩ := findRun hT h x
  obtain ⟨es, clock, hb, hes, hnd, hcl, hkm⟩ := h
  rw [hb0] at hb
  simp only [Option.some.injEq, Obj.map.injEq] at hb
  obtain ⟨hes0, rfl⟩ := hb
  have : es0 = es := by simpa using congrArg Array.toList hes0
  subst this
  have hln : es0.length = m.length := by simpa using congrArg List.length hes
  cases hi : midx (m.map (·.1)) x with
  | none =>
    rw [hi] at hf
    have hx := midx_none hi
    refine runU (w' := { w with heap := w.heap.setIfInBounds b (.map (es0.toArray.push { key := f x, val := g v, born := clock0 }) (clock0 + 1)) }) ?_ (hK _ ⟨es0 ++ [{ key := f x, val := g v, born := clock0 }], clock0 + 1, ?_, ?_, ?_, ?_, hkm.put x v⟩ (set_ext hlt _) (by simp))
    · simp [Instr.mapUpdate, Sem.run_bind, run_underlying hT.under, MapKept.run_getObj_map hb0, hT.check, hf, MapKept.run_setObj_map _ hb0]
    · rw [set_at hlt]; simp
    · rw [mput_keys_out hx, List.map_append, List.map_append, hes]; rfl
    · rw [List.map_append, List.nodup_append]
      refine ⟨hnd, by simp, fun a ha c hc => ?_⟩
      simp at hc; subst hc
      obtain ⟨e', he', rfl⟩ := List.mem_map.1 ha
      exact Nat.ne_of_lt (hcl e' he')
    · intro e' he'
      rcases List.mem_append.1 he' with he' | he'
      · exact Nat.lt_succ_of_lt (hcl e' he')
      · simp at he'; subst he'; exact Nat.lt_succ_self _
  | some i =>
    have hki := midx_some hi
    have hl : i < m.length := by have := (List.getElem?_eq_some_iff.1 hki).1; simpa using this
    have hm1 : (m[i]'hl).1 = x := by
      rw [List.getElem?_map, List.getElem?_eq_getElem hl] at hki
      simpa using hki
    rw [hi] at hf
    simp only [Option.bind_some, List.getElem?_eq_getElem hl, Option.map_some] at hf
    have hle : i < es0.length := by omega
    have hek : (es0[i]'hle).key = f x := by
      have := congrArg (fun l => (l[i]?).map (·.1)) hes
      simp only [List.getElem?_map, List.getElem?_eq_getElem hle, List.getElem?_eq_getElem hl, Option.map_some, Option.some.injEq, hm1] at this
      exact this
    have hstay : (Instr.keyThatStays (f x) (f x)).run P w = .ok (f x) w := by simp [Instr.keyThatStays, hT.stays]
    have hxm : x ∈ m.map (·.1) := List.mem_of_getElem? hki
    refine runU (w' := { w with heap := w.heap.setIfInBounds b (.map (es0.toArray.modify i fun e => { e with key := f x, val := g v }) clock0) }) ?_ (hK _ ⟨es0.modify i fun e => { e with key := f x, val := g v }, clock0, ?_, ?_, ?_, ?_, hkm.put x v⟩ (set_ext hlt _) (by simp))
    · simp [Instr.mapUpdate, Sem.run_bind, run_underlying hT.under, MapKept.run_getObj_map hb0, hT.check, hf, MapKept.run_setObj_map _ hb0, hle, hek, hstay]
    · rw [set_at hlt]
      congr 2
      apply Array.ext'
      simp [Array.toList_modify]
    · unfold mput
      rw [if_pos hxm]
      apply List.ext_getElem?
      intro j
      have hj := congrArg (fun l => l[j]?) hes
      simp only [List.getElem?_map] at hj
      simp only [List.getElem?_map, List.getElem?_modify, Option.map_map]
      by_cases hij : i = j
      · subst hij
        rw [List.getElem?_eq_getElem hle, List.getElem?_eq_getElem hl]
        simp [hm1]
      · simp only [if_neg hij]
        cases hmj : m[j]? with
        | none => rw [hmj] at hj; simp only [Option.map_none, Option.map_eq_none_iff] at hj; rw [hj]; rfl
        | some p =>
          rw [hmj] at hj
          have hne : p.1 ≠ x := fun he => by
            have h1 : (m.map (·.1))[i]? = some x := hki
            have h2 : (m.map (·.1))[j]? = some x := by rw [List.getElem?_map, hmj]; simp [he]
            have hjl : j < (m.map (·.1)).length := (List.getElem?_eq_some_iff.1 h2).1
            have hil : i < (m.map (·.1)).length := (List.getElem?_eq_some_iff.1 h1).1
            have h3 := (List.getElem?_eq_some_iff.1 h1).2
            have h4 := (List.getElem?_eq_some_iff.1 h2).2
            rcases Nat.lt_or_gt_of_ne hij with hlt' | hgt
            · exact List.pairwise_iff_getElem.1 hkm i j hil hjl hlt' (h3.trans h4.symm)
            · exact List.pairwise_iff_getElem.1 hkm j i hjl hil hgt (h4.trans h3.symm)
          simp only [Option.map_some, Function.comp, if_neg hne] at hj ⊢
          cases hej : es0[j]? with
          | none => rw [hej] at hj; cases hj
          | some e' => rw [hej] at hj; simpa using hj
    · have : (es0.modify i fun e => { e with key := f x, val := g v }).map (·.born) = es0.map (·.born) := by
        apply List.ext_getElem?
        intro j
        simp only [List.getElem?_map, List.getElem?_modify, Option.map_map]
        by_cases hij : i = j
        · subst hij; cases es0[i]? <;> simp
        · simp [if_neg hij]
      rw [this]; exact hnd
    · intro e' he'
      obtain ⟨j, hj⟩ := List.getElem?_of_mem he'
      rw [List.getElem?_modify] at hj
      cases hej : es0[j]? with
      | none => rw [hej] at hj; cases hj
      | some e0 =>
        rw [hej] at hj
        have hb' := hcl e0 (List.mem_of_getElem? hej)
        by_cases hij : i = j
        · simp [hij] at hj; subst hj; exact hb'
        · simp [hij] at hj; subst hj; exact hb'
end MapR
end
end SG

namespace SG
open Go Go.RowKit Go.Lib
set_option linter.unusedSimpArgs false
set_option linter.unusedVariables false
section
variable {κ ν : Type} [DecidableEq κ]
theorem mdel_out {m : List (κ × ν)} {x : κ} (h : x ∉ m.map (·.1)) : mdel m x = m := by
  unfold mdel
  rw [List.filter_eq_self]
  intro p hp
  have hne : p.1 ≠ x := fun e => h (e ▸ List.mem_map_of_mem (f := (·.1)) hp)
  simpa using hne
theorem mdel_at : ∀ {m : List (κ × ν)} {x : κ} {i : Nat}, Keys m → (m.map (·.1))[i]? = some x → mdel m x = m.eraseIdx i
  | [], x, i, _, h => by simp at h
  | p :: m, x, 0, hk, h => by
    have hk' : p.1 ∉ m.map (·.1) ∧ Keys m := List.nodup_cons.1 hk
    have hp : p.1 = x := by simpa using h
    subst hp
    have : mdel (p :: m) p.1 = mdel m p.1 := by simp [mdel]
    rw [this, mdel_out hk'.1]; rfl
  | p :: m, x, i + 1, hk, h => by
    have hk' : p.1 ∉ m.map (·.1) ∧ Keys m := List.nodup_cons.1 hk
    have hx : (m.map (·.1))[i]? = some x := by simpa using h
    have hne : p.1 ≠ x := fun e => hk'.1 (e ▸ List.mem_of_getElem? hx)
    have : mdel (p :: m) x = p :: mdel m x := by simp [mdel, hne]
    rw [this, mdel_at hk'.2 hx]; rfl
namespace MapR
variable {P : Program} {t k e : TypeId} {f : κ → Value} {g : ν → Value} {z : Value} {w w' : World} {b : Nat} {m : List (κ × ν)} {S : Nat → Prop}
theorem delete (hT : MapT P t k e f z) (h : MapR w b f g m) (x : κ) {t' ty : TypeId} {K : Value → World → Prop} (hK : ∀ w', MapR w' b f g (mdel m x) → Ext (At1 b) w w' → w'.heap.size = w.heap.size → K (.tuple #[]) w') :
    RunS P (Builtin.delete_ #[t, t'] ty [.map (some b), f x].toArray) K w := by
  have hlt := h.lt
  obtain ⟨es0, clock0, hb0, hf⟩ := findRun hT h x
  obtain ⟨es, clock, hb, hes, hnd, hcl, hkm⟩ := h
  rw [hb0] at hb
  simp only [Option.some.injEq, Obj.map.injEq] at hb
  obtain ⟨hes0, rfl⟩ := hb
  have : es0 = es := by simpa using congrArg Array.toList hes0
  subst this
  have hln : es0.length = m.length := by simpa using congrArg List.length hes
  cases hi : midx (m.map (·.1)) x with
  | none =>
    rw [hi] at hf
    simp only [Option.bind_none] at hf
    have hx := midx_none hi
    refine runS (v := .tuple #[]) (w' := { w with heap := w.heap.setIfInBounds b (.map es0.toArray clock0) }) ?_ (hK _ ⟨es0, clock0, set_at hlt _, by rw [mdel_out hx]; exact hes, hnd, hcl, hkm.del x⟩ (set_ext hlt _) (by simp))
    simp [Builtin.delete_, Sem.run_bind, run_underlying hT.under, MapKept.run_getObj_map hb0, hT.check, hf, MapKept.run_setObj_map _ hb0]
  | some i =>
    have hki := midx_some hi
    have hl : i < m.length := by have := (List.getElem?_eq_some_iff.1 hki).1; simpa using this
    rw [hi] at hf
    simp only [Option.bind_some, List.getElem?_eq_getElem hl, Option.map_some] at hf
    have hle : i < es0.length := by omega
    refine runS (v := .tuple #[]) (w' := { w with heap := w.heap.setIfInBounds b (.map (es0.toArray.eraseIdxIfInBounds i) clock0) }) ?_ (hK _ ⟨es0.eraseIdx i, clock0, ?_, ?_, ?_, ?_, hkm.del x⟩ (set_ext hlt _) (by simp))
    · simp [Builtin.delete_, Sem.run_bind, run_underlying hT.under, MapKept.run_getObj_map hb0, hT.check, hf, MapKept.run_setObj_map _ hb0]
    · rw [set_at hlt]
      congr 2
      apply Array.ext'
      simp [Array.eraseIdxIfInBounds, hle]
    · rw [mdel_at hkm hki, Go.ChangeMaps.map_eraseIdx, Go.ChangeMaps.map_eraseIdx, hes]
    · rw [Go.ChangeMaps.map_eraseIdx]; exact List.Nodup.sublist (List.eraseIdx_sublist _ _) hnd
    · exact fun e' he' => hcl e' (List.mem_of_mem_eraseIdx he')
end MapR

def IterR (w : World) (r b : Nat) (f : κ → Value) (g : ν → Value) (m done : List (κ × ν)) : Prop :=
  ∃ (es : List MapEntry) (clock since : Nat) (seen : Array Nat) (c0 : Nat), w.heap[b]? = some (.map es.toArray clock) ∧ es.map (fun e => (e.key, e.val)) = m.map (fun p => (f p.1, g p.2)) ∧ (es.map (·.born)).Nodup ∧ (∀ e ∈ es, e.born < clock) ∧ Keys m ∧
    w.heap[r]? = some (.mapIter (some b) since seen c0) ∧ (∀ e ∈ es, e.born < since) ∧ since ≤ c0 ∧ since ≤ clock ∧ done.Nodup ∧ (∀ p ∈ done, p ∈ m) ∧ ∀ (i : Nat) (e : MapEntry) (p : κ × ν), es[i]? = some e → m[i]? = some p → (e.born ∈ seen ↔ p ∈ done)
namespace IterR
variable {P : Program} {t k e : TypeId} {f : κ → Value} {g : ν → Value} {z : Value} {w w' : World} {r b : Nat} {m done : List (κ × ν)} {S : Nat → Prop}
omit [DecidableEq κ]
theorem map (h : IterR w r b f g m done) : MapR w b f g m := by
  obtain ⟨es, clock, since, seen, c0, h1, h2, h3, h4, h5, _⟩ := h
  exact ⟨es, clock, h1, h2, h3, h4, h5⟩
theorem ne (h : IterR w r b f g m done) : r ≠ b := by
  obtain ⟨es, clock, since, seen, c0, h1, h2, h3, h4, h5, h6, _⟩ := h
  intro he
  rw [he, h1] at h6
  cases h6
theorem lt (h : IterR w r b f g m done) : r < w.heap.size := by
  obtain ⟨es, clock, since, seen, c0, h1, h2, h3, h4, h5, h6, _⟩ := h
  exact (Array.getElem?_eq_some_iff.1 h6).1
theorem ext (h : IterR w r b f g m done) (e : Ext S w w') (h1 : ¬ S b) (h2 : ¬ S r) : IterR w' r b f g m done := by
  have hl := h.lt
  have hm := h.map.lt
  obtain ⟨es, clock, since, seen, c0, a1, a2, a3, a4, a5, a6, a7⟩ := h
  exact ⟨es, clock, since, seen, c0, (e.blk b hm h1).trans a1, a2, a3, a4, a5, (e.blk r hl h2).trans a6, a7⟩
theorem no (h : IterR w r b f g m done) (e : Ext No w w') : IterR w' r b f g m done := h.ext e (fun h => h) fun h => h
theorem keys (h : IterR w r b f g m done) : Keys m := h.map.keys
theorem sub (h : IterR w r b f g m done) : done.Nodup ∧ ∀ p ∈ done, p ∈ m := by
  obtain ⟨es, clock, since, seen, c0, a1, a2, a3, a4, a5, a6, a7, a8, a9, b1, b2, _⟩ := h
  exact ⟨b1, b2⟩
theorem start {t k e : TypeId} (hu : P.underlying t = some (.map k e)) (h : MapR w b f g m) {K : Value → World → Prop} (hK : ∀ w', IterR w' w.heap.size b f g m [] → Ext No w w' → w'.heap.size = w.heap.size + 1 → K (.pointer (some ⟨w.heap.size, 0, none⟩)) w') :
    RunS P (Instr.range t (.map (some b))) K w := by
  have hlt := h.lt
  obtain ⟨es, clock, hb, h2, h3, h4, h5⟩ := h
  refine runS (run_range_map w t k e b _ clock hu hb) (hK _ ⟨es, clock, clock, #[], clock, ?_, h2, h3, h4, h5, heap_alloc_new w _, h4, Nat.le_refl _, Nat.le_refl _, List.nodup_nil, by simp, by simp⟩ (Ext.alloc w _) (by simp))
  rw [Below.heap_alloc w _ b hlt]; exact hb
theorem nodup_of_keys {m : List (κ × ν)} (h : Keys m) : m.Nodup := by
  induction m with
  | nil => exact List.nodup_nil
  | cons p m ih =>
    have hk' : p.1 ∉ m.map (·.1) ∧ Keys m := List.nodup_cons.1 h
    exact List.nodup_cons.2 ⟨fun hm => hk'.1 (List.mem_map_of_mem (f := (·.1)) hm), ih hk'.2⟩
theorem next (h : IterR w r b f g m done) (ty : TypeId) {K : Value → World → Prop} (hend : done.Perm m → K (.tuple [.bool false].toArray) w)
    (hK : ∀ p w', p ∈ m → p ∉ done → IterR w' r b f g m (done ++ [p]) → (∀ K' : Value → World → Prop, K' (.tuple [f p.1, g p.2].toArray) w' → RunS P (Instr.entry (.pointer (some ⟨r, 0, none⟩))) K' w') → Ext (At1 r) w w' → w'.heap.size = w.heap.size → K (.tuple [.bool true, f p.1, g p.2].toArray) w') :
    RunS P (Instr.next (.pointer (some ⟨r, 0, none⟩)) false ty) K w := by
  have hne := h.ne
  have hlt := h.lt
  obtain ⟨es, clock, since, seen, c0, a1, a2, a3, a4, a5, a6, a7, a8, a9, b1, b2, b3⟩ := h
  have hln : es.length = m.length := by simpa using congrArg List.length a2
  rcases run_next_at (P := P) w ty r b since c0 seen es.toArray clock a6 a1 (by simpa using a7) a8 with ⟨h0, hrun⟩ | ⟨e, he, w1, hal, hrun⟩
  · refine runS hrun (hend ?_)
    have hall : ∀ p ∈ m, p ∈ done := fun p hp => by
      obtain ⟨i, hi⟩ := List.getElem?_of_mem hp
      have hil := (List.getElem?_eq_some_iff.1 hi).1
      obtain ⟨e, he⟩ : ∃ e, es[i]? = some e := ⟨_, List.getElem?_eq_getElem (by omega)⟩
      refine (b3 i e p he hi).1 ?_
      refine Decidable.byContradiction fun hn => ?_
      have hmem : e ∈ leftOf es.toArray seen := by
        unfold leftOf
        rw [Array.mem_filter]
        exact ⟨by simpa using List.mem_of_getElem? he, by simpa using hn⟩
      have : leftOf es.toArray seen = #[] := Array.eq_empty_of_size_eq_zero h0
      rw [this] at hmem
      simp at hmem
    exact (List.perm_ext_iff_of_nodup b1 (nodup_of_keys a5)).2 fun p => ⟨b2 p, hall p⟩
  · have hmem : e ∈ es ∧ e.born ∉ seen := by
      have : e ∈ leftOf es.toArray seen := by simpa using he
      unfold leftOf at this
      rw [Array.mem_filter] at this
      simpa using this
    obtain ⟨i, hi⟩ := List.getElem?_of_mem hmem.1
    have hil := (List.getElem?_eq_some_iff.1 hi).1
    obtain ⟨p, hp⟩ : ∃ p, m[i]? = some p := ⟨_, List.getElem?_eq_getElem (by omega)⟩
    have hkv : e.key = f p.1 ∧ e.val = g p.2 := by
      have := congrArg (fun l => l[i]?) a2
      simp only [List.getElem?_map, hi, hp, Option.map_some, Option.some.injEq, Prod.mk.injEq] at this
      exact this
    have hpd : p ∉ done := fun hd => hmem.2 ((b3 i e p hi hp).2 hd)
    have hpm : p ∈ m := List.mem_of_getElem? hp
    have hw1 : w1.heap = w.heap := by rcases hal with rfl | rfl <;> rfl
    have h1 : (Go.ChangeMaps.setBlock w1 r (.mapIter (some b) since (seen.push e.born) clock)).heap[r]? = some (.mapIter (some b) since (seen.push e.born) clock) := by
      show (w1.heap.setIfInBounds r _)[r]? = _
      rw [hw1, Array.getElem?_setIfInBounds_self_of_lt hlt]
    have h2 : (Go.ChangeMaps.setBlock w1 r (.mapIter (some b) since (seen.push e.born) clock)).heap[b]? = some (.map es.toArray clock) := by
      show (w1.heap.setIfInBounds r _)[b]? = _
      rw [hw1, Array.getElem?_setIfInBounds_ne hne]; exact a1
    rw [hkv.1, hkv.2] at hrun
    refine runS hrun (hK p _ hpm hpd ⟨es, clock, since, seen.push e.born, clock, h2, a2, a3, a4, a5, h1, a7, a9, a9, ?_, ?_, ?_⟩ ?_ ?_ ?_)
    · rw [List.nodup_append]
      refine ⟨b1, by simp, fun a ha c hc => ?_⟩
      simp at hc; subst hc
      exact fun h => hpd (h ▸ ha)
    · intro q hq
      rcases List.mem_append.1 hq with hq | hq
      · exact b2 q hq
      · simp at hq; subst hq; exact hpm
    · intro j e' q hj hq
      rw [Array.mem_push, List.mem_append, b3 j e' q hj hq]
      simp only [List.mem_singleton]
      have hjl := (List.getElem?_eq_some_iff.1 hj).1
      have key : e'.born = e.born ↔ q = p := by
        constructor
        · intro hbb
          have hij : j = i := by
            refine Decidable.byContradiction fun hne' => ?_
            have h3 : (es.map (·.born))[j]? = some e.born := by rw [List.getElem?_map, hj]; simp [hbb]
            have h4 : (es.map (·.born))[i]? = some e.born := by rw [List.getElem?_map, hi]; rfl
            have h5 := List.getElem?_eq_some_iff.1 h3
            have h6 := List.getElem?_eq_some_iff.1 h4
            rcases Nat.lt_or_gt_of_ne hne' with hlt' | hgt
            · exact List.pairwise_iff_getElem.1 a3 j i h5.1 h6.1 hlt' (h5.2.trans h6.2.symm)
            · exact List.pairwise_iff_getElem.1 a3 i j h6.1 h5.1 hgt (h6.2.trans h5.2.symm)
          subst hij
          rw [hp] at hq; exact (Option.some.inj hq).symm
        · rintro rfl
          have hij : j = i := by
            refine Decidable.byContradiction fun hne' => ?_
            have h5 := List.getElem?_eq_some_iff.1 hq
            have h6 := List.getElem?_eq_some_iff.1 hp
            have hnd := nodup_of_keys a5
            rcases Nat.lt_or_gt_of_ne hne' with hlt' | hgt
            · exact List.pairwise_iff_getElem.1 hnd j i h5.1 h6.1 hlt' (h5.2.trans h6.2.symm)
            · exact List.pairwise_iff_getElem.1 hnd i j h6.1 h5.1 hgt (h6.2.trans h5.2.symm)
          subst hij
          rw [hi] at hj; rw [Option.some.inj hj]
      rw [key]
    · intro K' hK'
      refine runS ?_ hK'
      have := run_entry_at (P := P) (Go.ChangeMaps.setBlock w1 r (.mapIter (some b) since (seen.push e.born) clock)) r b since seen es.toArray clock e h1 h2 (by simpa using hmem.1) (by simpa using a3)
      rw [hkv.1, hkv.2] at this
      exact this
    · refine ⟨?_, ?_, ?_, ?_, ?_⟩
      · show w1.os = w.os; rcases hal with rfl | rfl <;> rfl
      · show w1.tape = w.tape; rcases hal with rfl | rfl <;> rfl
      · show w1.output = w.output; rcases hal with rfl | rfl <;> rfl
      · show w.heap.size ≤ (w1.heap.setIfInBounds r _).size; rw [hw1]; simp
      · intro c _ hn
        show (w1.heap.setIfInBounds r _)[c]? = _
        rw [hw1]
        exact Array.getElem?_setIfInBounds_ne fun e => hn (by rw [e]; rfl)
    · show (w1.heap.setIfInBounds r _).size = _; rw [hw1]; simp
end IterR
end
end SG

namespace SG
open Go Go.RowKit Go.Lib
set_option linter.unusedSimpArgs false
set_option linter.unusedVariables false
section
variable {κ ν : Type} [DecidableEq κ]
structure MapAt (P : Program) (t k e : TypeId) (f : κ → Value) (z : Value) (w : World) (m : List (κ × ν)) (x : κ) : Prop where
  under : P.underlying t = some (.map k e)
  check : ∀ (b : Bool), (Instr.checkKey b 10000 k (f x)).run P w = .ok () w
  find : ∀ (es : List MapEntry), es.map (·.key) = (m.map (·.1)).map f → (Instr.findKey k (f x) es).run P w = .ok ((midx (m.map (·.1)) x).bind fun i => (es[i]?).map fun e => (i, e.val)) w
  zero : ∀ w, (zeroValue e).run P w = .ok z w
  stays : Instr.sameBits 10000 (f x) (f x) = true
namespace MapR
variable {P : Program} {t k e : TypeId} {f : κ → Value} {g : ν → Value} {z : Value} {w w' : World} {b : Nat} {m : List (κ × ν)} {S : Nat → Prop} {x : κ}
theorem findRunA (hT : MapAt P t k e f z w m x) (h : MapR w b f g m) : ∃ (es : List MapEntry) (clock : Nat), w.heap[b]? = some (.map es.toArray clock) ∧ (Instr.findKey k (f x) es).run P w = .ok ((midx (m.map (·.1)) x).bind fun i => (m[i]?).map fun p => (i, g p.2)) w := by
  obtain ⟨es, clock, hb, hes, _, _, _⟩ := h
  refine ⟨es, clock, hb, ?_⟩
  rw [hT.find es (keysOf es hes)]
  congr 1
  cases midx (m.map (·.1)) x with
  | none => rfl
  | some i =>
    simp only [Option.bind_some]
    have := congrArg (fun l => (l[i]?).map (·.2)) hes
    simp only [List.getElem?_map, Option.map_map, Function.comp_def] at this
    have h2 := congrArg (Option.map fun v => (i, v)) this
    simpa [Option.map_map, Function.comp_def] using h2
theorem lookupA (hT : MapAt P t k e f z w m x) (h : MapR w b f g m) {K : Value → World → Prop} (hK : K (((mget m x).map g).getD z) w) : RunS P (Instr.lookup t (.map (some b)) (f x) false) K w := by
  obtain ⟨es, clock, hb, hf⟩ := findRunA hT h
  refine runS (w' := w) (v := ((mget m x).map g).getD z) ?_ hK
  have hm := midx_get (m := m) (x := x)
  cases hi : midx (m.map (·.1)) x with
  | none =>
    rw [hi] at hm hf
    simp only [Option.bind_none] at hm hf
    rw [hm]
    simp [Instr.lookup, Sem.run_bind, run_underlying hT.under, MapKept.run_getObj_map hb, hT.check, hf, hT.zero]
  | some i =>
    rw [hi] at hm hf
    simp only [Option.bind_some] at hm hf
    have hl : i < m.length := by have := (List.getElem?_eq_some_iff.1 (midx_some hi)).1; simpa using this
    rw [List.getElem?_eq_getElem hl] at hf
    rw [hm, List.getElem?_eq_getElem hl]
    simp [Instr.lookup, Sem.run_bind, run_underlying hT.under, MapKept.run_getObj_map hb, hT.check, hf]
theorem updateA (hT : MapAt P t k e f z w m x) (h : MapR w b f g m) (v : ν) {K : World → Prop} (hK : ∀ w', MapR w' b f g (mput m x v) → Ext (At1 b) w w' → w'.heap.size = w.heap.size → K w') : RunU P (Instr.mapUpdate t (.map (some b)) (f x) (g v)) K w := by
  have hlt := h.lt
  obtain ⟨es0, clock0, hb0, hf⟩ := findRunA hT h
  obtain ⟨es, clock, hb, hes, hnd, hcl, hkm⟩ := h
  rw [hb0] at hb
  simp only [Option.some.injEq, Obj.map.injEq] at hb
  obtain ⟨hes0, rfl⟩ := hb
  have : es0 = es := by simpa using congrArg Array.toList hes0
  subst this
  have hln : es0.length = m.length := by simpa using congrArg List.length hes
  cases hi : midx (m.map (·.1)) x with
  | none =>
    rw [hi] at hf
    have hx := midx_none hi
    refine runU (w' := { w with heap := w.heap.setIfInBounds b (.map (es0.toArray.push { key := f x, val := g v, born := clock0 }) (clock0 + 1)) }) ?_ (hK _ ⟨es0 ++ [{ key := f x, val := g v, born := clock0 }], clock0 + 1, ?_, ?_, ?_, ?_, hkm.put x v⟩ (set_ext hlt _) (by simp))
    · simp [Instr.mapUpdate, Sem.run_bind, run_underlying hT.under, MapKept.run_getObj_map hb0, hT.check, hf, MapKept.run_setObj_map _ hb0]
    · rw [set_at hlt]; simp
    · rw [mput_keys_out hx, List.map_append, List.map_append, hes]; rfl
    · rw [List.map_append, List.nodup_append]
      refine ⟨hnd, by simp, fun a ha c hc => ?_⟩
      simp at hc; subst hc
      obtain ⟨e', he', rfl⟩ := List.mem_map.1 ha
      exact Nat.ne_of_lt (hcl e' he')
    · intro e' he'
      rcases List.mem_append.1 he' with he' | he'
      · exact Nat.lt_succ_of_lt (hcl e' he')
      · simp at he'; subst he'; exact Nat.lt_succ_self _
  | some i =>
    have hki := midx_some hi
    have hl : i < m.length := by have := (List.getElem?_eq_some_iff.1 hki).1; simpa using this
    have hm1 : (m[i]'hl).1 = x := by
      rw [List.getElem?_map, List.getElem?_eq_getElem hl] at hki
      simpa using hki
    rw [hi] at hf
    simp only [Option.bind_some, List.getElem?_eq_getElem hl, Option.map_some] at hf
    have hle : i < es0.length := by omega
    have hek : (es0[i]'hle).key = f x := by
      have := congrArg (fun l => (l[i]?).map (·.1)) hes
      simp only [List.getElem?_map, List.getElem?_eq_getElem hle, List.getElem?_eq_getElem hl, Option.map_some, Option.some.injEq, hm1] at this
      exact this
    have hstay : (Instr.keyThatStays (f x) (f x)).run P w = .ok (f x) w := by simp [Instr.keyThatStays, hT.stays]
    have hxm : x ∈ m.map (·.1) := List.mem_of_getElem? hki
    refine runU (w' := { w with heap := w.heap.setIfInBounds b (.map (es0.toArray.modify i fun e => { e with key := f x, val := g v }) clock0) }) ?_ (hK _ ⟨es0.modify i fun e => { e with key := f x, val := g v }, clock0, ?_, ?_, ?_, ?_, hkm.put x v⟩ (set_ext hlt _) (by simp))
    · simp [Instr.mapUpdate, Sem.run_bind, run_underlying hT.under, MapKept.run_getObj_map hb0, hT.check, hf, MapKept.run_setObj_map _ hb0, hle, hek, hstay]
    · rw [set_at hlt]
      congr 2
      apply Array.ext'
      simp [Array.toList_modify]
    · unfold mput
      rw [if_pos hxm]
      apply List.ext_getElem?
      intro j
      have hj := congrArg (fun l => l[j]?) hes
      simp only [List.getElem?_map] at hj
      simp only [List.getElem?_map, List.getElem?_modify, Option.map_map]
      by_cases hij : i = j
      · subst hij
        rw [List.getElem?_eq_getElem hle, List.getElem?_eq_getElem hl]
        simp [hm1]
      · simp only [if_neg hij]
        cases hmj : m[j]? with
        | none => rw [hmj] at hj; simp only [Option.map_none, Option.map_eq_none_iff] at hj; rw [hj]; rfl
        | some p =>
          rw [hmj] at hj
          have hne : p.1 ≠ x := fun he => by
            have h1 : (m.map (·.1))[i]? = some x := hki
            have h2 : (m.map (·.1))[j]? = some x := by rw [List.getElem?_map, hmj]; simp [he]
            have hjl : j < (m.map (·.1)).length := (List.getElem?_eq_some_iff.1 h2).1
            have hil : i < (m.map (·.1)).length := (List.getElem?_eq_some_iff.1 h1).1
            have h3 := (List.getElem?_eq_some_iff.1 h1).2
            have h4 := (List.getElem?_eq_some_iff.1 h2).2
            rcases Nat.lt_or_gt_of_ne hij with hlt' | hgt
            · exact List.pairwise_iff_getElem.1 hkm i j hil hjl hlt' (h3.trans h4.symm)
            · exact List.pairwise_iff_getElem.1 hkm j i hjl hil hgt (h4.trans h3.symm)
          simp only [Option.map_some, Function.comp, if_neg hne] at hj ⊢
          cases hej : es0[j]? with
          | none => rw [hej] at hj; cases hj
          | some e' => rw [hej] at hj; simpa using hj
    · have : (es0.modify i fun e => { e with key := f x, val := g v }).map (·.born) = es0.map (·.born) := by
        apply List.ext_getElem?
        intro j
        simp only [List.getElem?_map, List.getElem?_modify, Option.map_map]
        by_cases hij : i = j
        · subst hij; cases es0[i]? <;> simp
        · simp [if_neg hij]
      rw [this]; exact hnd
    · intro e' he'
      obtain ⟨j, hj⟩ := List.getElem?_of_mem he'
      rw [List.getElem?_modify] at hj
      cases hej : es0[j]? with
      | none => rw [hej] at hj; cases hj
      | some e0 =>
        rw [hej] at hj
        have hb' := hcl e0 (List.mem_of_getElem? hej)
        by_cases hij : i = j
        · simp [hij] at hj; subst hj; exact hb'
        · simp [hij] at hj; subst hj; exact hb'
end MapR
end
def ptrE (b : Nat) : Value := .pointer (some ⟨b, 0, none⟩)
def IsC (w : World) (b : Nat) : Prop := ∃ c t, w.heap[b]? = some (.cells c t (0, 0))
theorem Blk.isC {w : World} {g : Nat} {t : TypeId} {cs : List Value} (h : Blk w g t cs) : IsC w g := ⟨_, _, h⟩
theorem IsC.no {w w' : World} {b : Nat} (h : IsC w b) (e : Ext No w w') : IsC w' b := by
  obtain ⟨c, t, h⟩ := h
  exact ⟨c, t, (e.blk b (Array.getElem?_eq_some_iff.1 h).1 fun h => h).trans h⟩
theorem run_ptr_eq {P : Program} {k el : TypeId} {i : TypeInfo} (hk : P.underlying k = some (.pointer el)) (hi : P.info? el = some i) (hz : i.size ≠ 0) {w : World} {x y : Nat} (hx : IsC w x) (hy : IsC w y) :
    (Op.equal k (ptrE x) (ptrE y)).run P w = .ok (decide (x = y)) w := by
  have hin : ∀ d, (Op.equalIn (d + 1) k (ptrE x) (ptrE y)).run P w = .ok (decide (x = y)) w := fun d => by
    by_cases h : x = y
    · subst h
      simp [ptrE, Op.equalIn, run_underlying hk, Go.sizeOf, typeInfo, hi, hz, run_sameAddr_same]
    · obtain ⟨ca, ta, ha⟩ := hx
      obtain ⟨cb, tb, hb⟩ := hy
      have hne : (⟨x, 0, none⟩ : Addr) ≠ ⟨y, 0, none⟩ := fun he => h (by injection he)
      have := run_sameAddr_other (P := P) w hne ha hb
      simp [ptrE, Op.equalIn, run_underlying hk, Go.sizeOf, typeInfo, hi, hz, this, h]
  exact hin 9999
theorem asking_ptr {P : Program} {k el : TypeId} {i : TypeInfo} (hk : P.underlying k = some (.pointer el)) (hi : P.info? el = some i) (hz : i.size ≠ 0) {w : World} {x : Nat} (hx : IsC w x) : ∀ (es : List MapEntry) (ks : List Nat) (n : Nat), es.map (·.key) = ks.map ptrE → (∀ y ∈ ks, IsC w y) →
    (Instr.findAsking k (ptrE x) es n).run P w = .ok ((midx ks x).bind fun i => (es[i]?).map fun e => (n + i, e.val)) w
  | [], ks, n, h, _ => by
    have : ks = [] := by simpa using h.symm
    subst this
    simp [Instr.findAsking, midx]
  | e :: es, [], n, h, _ => by simp at h
  | e :: es, y :: ks, n, h, hks => by
    simp only [List.map_cons, List.cons.injEq] at h
    have hm : midx (y :: ks) x = if y = x then some 0 else (midx ks x).map (· + 1) := by
      unfold midx
      rw [List.findIdx?_cons]
      by_cases h : y = x <;> simp [h]
    rw [hm]
    unfold Instr.findAsking
    rw [h.1, Sem.run_bind, run_ptr_eq hk hi hz hx (hks y (by simp))]
    simp only [Result.andThen_ok]
    by_cases hxy : x = y
    · subst hxy; simp
    · rw [decide_eq_false hxy, if_neg (Ne.symm hxy)]
      simp only [Bool.false_eq_true, if_false]
      rw [asking_ptr hk hi hz hx es ks (n + 1) h.2 fun z hz => hks z (List.mem_cons_of_mem _ hz)]
      congr 1
      cases midx ks x with
      | none => rfl
      | some i =>
        simp only [Option.map_some, Option.bind_some, List.getElem?_cons_succ]
        rw [show n + 1 + i = n + (i + 1) by omega]
theorem MapAt.ptr {ν : Type} {P : Program} {t k e el : TypeId} {z : Value} {i : TypeInfo} (hu : P.underlying t = some (.map k e)) (hk : P.underlying k = some (.pointer el)) (hi : P.info? el = some i) (hs : i.size ≠ 0) (hz : (P.info? e).map (·.zero) = some (some z))
    {w : World} {m : List (Nat × ν)} {x : Nat} (hx : IsC w x) (hm : ∀ y ∈ m.map (·.1), IsC w y) : MapAt P t k e ptrE z w m x where
  under := hu
  check := fun b => by
    have h : ∀ d, (Instr.checkKey b (d + 1) k (ptrE x)).run P w = .ok () w := fun d => by simp [Instr.checkKey, run_underlying hk, ptrE]
    exact h 9999
  find := fun es h => by
    have := asking_ptr hk hi hs hx es _ 0 h hm
    simp only [Nat.zero_add] at this
    cases es with
    | nil =>
      have h0 : m.map (·.1) = [] := by simpa using h.symm
      rw [h0]
      simp [Instr.findKey, run_underlying hk, Instr.findNow, midx]
    | cons e es =>
      have h1 : e.key = ptrE (m.map (·.1)).head! := by
        cases hm' : m.map (·.1) with
        | nil => rw [hm'] at h; simp at h
        | cons y ks => rw [hm'] at h; simp at h; exact h.1
      have : Instr.findNow (.pointer el) (ptrE x) (e :: es) 0 = none := by
        unfold Instr.findNow; rw [h1]; rfl
      simp only [Instr.findKey, Sem.run_bind, run_underlying hk, Result.andThen_ok, this]
      assumption
  zero := fun w => by
    cases hi : P.info? e with
    | none => rw [hi] at hz; cases hz
    | some i =>
      rw [hi] at hz
      simp only [Option.map_some, Option.some.injEq] at hz
      simp [zeroValue, typeInfo, hi, hz]
  stays := by simp [ptrE, Instr.sameBits]
end SG

namespace Go.Proofs.YthohdinjpkehpaaGreat
open Go SG Go.RowKit Go.Lib
set_option linter.unusedVariables false
set_option maxRecDepth 4000
set_option linter.unusedSimpArgs false

theorem okNamed : okFunc Tryz.prog 121 = true := by kernel_rfl
theorem callF {P : Program} {g : Nat} {args : List Value} {lb : Array Value} {K : Value → World → Prop} {w : World} (hok : okFunc P g = true) (h : CallS P g (args.toArray ++ lb) K w) : CallV' P false (.func (.func g) #[] lb) args NoP K w := by
  unfold CallV' CallV
  simp only [cond_false]
  exact ⟨by simpa using h, hok⟩
theorem callW {P : Program} {g : Nat} {args : List Value} {lb : Array Value} {K : Value → World → Prop} {w : World} (hok : okFunc P g = true) (h : CallS P g (args.toArray ++ lb) K w) : CallW' P false (.func (.func g) #[] lb) args NoP K w := by
  unfold CallW' CallV
  simp only [cond_false]
  exact ⟨by simpa using h, hok⟩
def byteOk (c : Nat) : Bool := decide (33 ≤ c) && decide (c ≤ 126) && !decide (c = 47)
def nameOk (s : El) : Bool := decide (1 ≤ s.length) && decide (s.length ≤ 32) && s.all fun c => byteOk c.toNat
theorem c121 {r : Nat} {w : World} {K : Value → World → Prop} (hK : K (.bool (!byteOk r)) w) : CallS Tryz.prog 121 #[.int .i32 (r : Int)] K w := by
  refine s121_call hm ?_
  unfold s121
  refine pur (bin_lss _ _ _) ?_
  refine join1 (fun t w' => w = w' ∧ (33 ≤ r → t = .bool (decide (126 < r)))) ?_ fun J0 hJ0 => ?_
  · rintro t _ ⟨rfl, ht⟩
    refine pur (v := .bool (!(decide (33 ≤ r) && decide (r ≤ 126)))) ((pick_b _ _ _).trans ?_) ?_
    · by_cases h : 33 ≤ r
      · rw [decide_eq_false (by omega), ht h]
        by_cases h2 : 126 < r
        · simp [h, h2, show ¬ r ≤ 126 by omega]
        · simp [h, h2, show r ≤ 126 by omega]
      · rw [decide_eq_true (by omega)]; simp [h]
    · refine join1 (fun t w' => w = w' ∧ ((decide (33 ≤ r) && decide (r ≤ 126)) = true → t = .bool (decide (r = 47)))) ?_ fun J1 hJ1 => ?_
      · rintro t _ ⟨rfl, ht⟩
        refine pur (v := .bool (!byteOk r)) ((pick_b _ _ _).trans ?_) hK
        unfold byteOk
        cases hh : (decide (33 ≤ r) && decide (r ≤ 126)) with
        | true => rw [ht hh]; simp
        | false => simp
      · rw [ifB_eq]
        cases hh : (decide (33 ≤ r) && decide (r ≤ 126)) with
        | true =>
          rw [if_pos (show (!true) = false from rfl)]
          refine pur (bin_eql _ _ _) (hJ1 _ _ ⟨rfl, fun _ => ?_⟩)
          congr 1
          rw [decide_eq_decide]
          omega
        | false => exact hJ1 _ _ ⟨rfl, fun h => by rw [hh] at h; cases h⟩
  · rw [ifB_eq]
    by_cases h : 33 ≤ r
    · rw [decide_eq_false (by omega), if_pos rfl]
      exact pur (bin_gtr _ _ _) (hJ0 _ _ ⟨rfl, fun _ => by congr 1; rw [decide_eq_decide]; omega⟩)
    · rw [decide_eq_true (by omega), if_neg (by simp)]
      exact hJ0 _ _ ⟨rfl, fun h' => absurd h' h⟩
theorem decode_high (s : ByteArray) (pos : Nat) (h : pos < s.size) (ha : 128 ≤ (s[pos]'h).toNat) : 128 ≤ (Utf8.decode s pos).1 := by
  have e : s.get! (pos + 0) = s[pos]'h := by
    show s.get! pos = _
    simp [ByteArray.get!, getElem!_pos, h]
    rfl
  simp only [Utf8.decode, e, if_neg (show ¬ (s[pos]'h).toNat < 128 by omega), Utf8.runeError]
  split
  · split
    · assumption
    · show 128 ≤ 65533; omega
  · split
    · split
      · rename_i hc; simp only [Bool.and_eq_true, decide_eq_true_eq] at hc; show 128 ≤ _; omega
      · show 128 ≤ 65533; omega
    · split
      · split
        · rename_i hc; simp only [Bool.and_eq_true, decide_eq_true_eq] at hc; show 128 ≤ _; omega
        · show 128 ≤ 65533; omega
      · show 128 ≤ 65533; omega
theorem c133 {s : El} {w : World} {K : Value → World → Prop} (hbad : ∀ (i : Nat) w', s.all (fun c => byteOk c.toNat) = false → Ext No w w' → K (.int .i64 (i : Int)) w') (hok : ∀ w', s.all (fun c => byteOk c.toNat) = true → Ext No w w' → K (.int .i64 (-1)) w') :
    CallS Tryz.prog 133 #[encE s, .func (.func 121) #[] #[], .bool true] K w := by
  refine s133_call hm ?_
  unfold s133
  have hsz : (⟨s.toArray⟩ : ByteArray).size = s.length := by show s.toArray.size = _; simp
  have hat : ∀ {i : Nat} (h : i < (⟨s.toArray⟩ : ByteArray).size) (h' : i < s.length), (⟨s.toArray⟩ : ByteArray)[i]'h = s[i]'h' := fun h h' => rfl
  refine join0 (fun w' => s.all (fun c => byteOk c.toNat) = true ∧ Ext No w w') (fun w' hh => hok w' hh.1 hh.2) fun J0 hJ0 => ?_
  refine runS (run_range_string w 9 ⟨s.toArray⟩ Tryz.underlying9) ?_
  refine loop0 (σ := Nat) (fun pos w' => pos ≤ s.length ∧ w'.heap[w.heap.size]? = some (.stringIter ⟨s.toArray⟩ pos) ∧ Ext No w w' ∧ (s.take pos).all (fun c => byteOk c.toNat) = true) (fun pos => s.length - pos) 0
    ⟨Nat.zero_le _, World.iter_heap _ _ _, Ext.alloc _ _, rfl⟩ ?_
  rintro pos w1 ⟨hp, hit, e1, hall⟩ L1 hL1
  by_cases hlt : pos < s.length
  · have hlt' : pos < (⟨s.toArray⟩ : ByteArray).size := by rw [hsz]; exact hlt
    refine runS (run_next_any_at w1 _ _ pos 0 hit hlt') ?_
    have hkl : w.heap.size < w1.heap.size := (Array.getElem?_eq_some_iff.1 hit).1
    have e2 : Ext No w (w1.iterAt w.heap.size ⟨s.toArray⟩ (pos + (Utf8.decode ⟨s.toArray⟩ pos).2)) :=
      e1.fresh (MapR.set_ext hkl _) fun b hb => .inr (by rw [show b = w.heap.size from hb]; exact Nat.le_refl _)
    refine pur (extract_0 _ _) (condT rfl (pur (extract_1 _ _ _) (pur (extract_2 _ _ _ _) (callF okNamed (c121 (r := (Utf8.decode ⟨s.toArray⟩ pos).1) (pur (bool_eql _ _) ?_))))))
    have hget : s[pos]? = some (s[pos]'hlt) := List.getElem?_eq_getElem hlt
    by_cases hasc : (s[pos]'hlt).toNat < 128
    · have hd := decode_ascii ⟨s.toArray⟩ pos hlt' (by rw [hat hlt' hlt]; exact hasc)
      rw [hat hlt' hlt] at hd
      rw [hd] at e2 ⊢
      cases hb : byteOk (s[pos]'hlt).toNat with
      | true =>
        refine condF (by simp [hb]) (hL1 (pos + 1) _ ⟨by omega, iterAt_heap _ _ _ _ _ hit, e2, ?_⟩ (by omega))
        rw [List.take_add_one, hget, List.all_append, hall]; simp [hb]
      | false =>
        refine condT (by simp [hb]) (hbad pos _ ?_ e2)
        rw [Bool.eq_false_iff]
        intro ht
        have := List.all_eq_true.1 ht _ (List.getElem_mem hlt)
        rw [hb] at this; cases this
    · have hh := decode_high ⟨s.toArray⟩ pos hlt' (by rw [hat hlt' hlt]; omega)
      have hb : byteOk (Utf8.decode ⟨s.toArray⟩ pos).1 = false := by unfold byteOk; simp; omega
      refine condT (by simp [hb]) (hbad pos _ ?_ e2)
      rw [Bool.eq_false_iff]
      intro ht
      have := List.all_eq_true.1 ht _ (List.getElem_mem hlt)
      unfold byteOk at this
      simp at this; omega
  · refine runS (run_next_end_at w1 _ _ pos 0 hit (by rw [hsz]; omega)) (pur (extract_0 _ _) (condF rfl (hJ0 _ ⟨?_, e1⟩)))
    rwa [List.take_of_length_le (by omega)] at hall
theorem lenE (s : El) : lenStrV (encE s) = some (.int .i64 (s.length : Int)) := by
  refine (len_str _).trans ?_
  congr 2
theorem cnamed {s : El} {w : World} {K : Value → World → Prop} (hK : ∀ w', Ext No w w' → K (.bool (nameOk s)) w') : CallS Tryz.prog 71 #[encE s] K w := by
  refine s71_call hm ?_
  unfold s71
  refine pur (lenE s) (pur (bin_geq _ _ _) ?_)
  refine join1 (fun t w' => w = w' ∧ (1 ≤ s.length → t = .bool (decide (s.length ≤ 32)))) ?_ fun J0 hJ0 => ?_
  · rintro t _ ⟨rfl, ht⟩
    refine pur (v := .bool (decide (1 ≤ s.length) && decide (s.length ≤ 32))) ((pick_b _ _ _).trans ?_) ?_
    · by_cases h : 1 ≤ s.length
      · rw [decide_eq_true (by omega), ht h]; simp [h]
      · rw [decide_eq_false (by omega)]; simp [h]
    · refine join1 (fun t w' => Ext No w w' ∧ ((decide (1 ≤ s.length) && decide (s.length ≤ 32)) = true → t = .bool (s.all fun c => byteOk c.toNat))) ?_ fun J1 hJ1 => ?_
      · rintro t w1 ⟨e1, ht⟩
        refine pur (v := .bool (nameOk s)) ((pick_b _ _ _).trans ?_) (hK _ e1)
        unfold nameOk
        cases hh : (decide (1 ≤ s.length) && decide (s.length ≤ 32)) with
        | true => rw [ht hh]; simp
        | false => simp
      · rw [ifB_eq]
        cases hh : (decide (1 ≤ s.length) && decide (s.length ≤ 32)) with
        | false => exact hJ1 _ _ ⟨Ext.refl _ _, fun h => by rw [hh] at h; cases h⟩
        | true =>
          rw [if_pos rfl]
          refine s120_call hm ?_
          unfold s120
          refine c133 (fun i w1 hb e1 => ?_) fun w1 hb e1 => ?_
          · exact pur (bin_lss _ _ _) (hJ1 _ _ ⟨e1, fun _ => by rw [hb, decide_eq_false (by omega)]⟩)
          · exact pur (bin_lss _ _ _) (hJ1 _ _ ⟨e1, fun _ => by rw [hb]; congr 1⟩)
  · rw [ifB_eq]
    by_cases h : 1 ≤ s.length
    · rw [decide_eq_true (by omega), if_pos rfl]
      exact pur (lenE s) (pur (v := .bool (decide (s.length ≤ 32))) ((bin_leq _ _ _).trans (by congr 2; rw [decide_eq_decide]; omega)) (hJ0 _ _ ⟨rfl, fun _ => rfl⟩))
    · rw [decide_eq_false (by omega), if_neg (by simp)]
      exact hJ0 _ _ ⟨rfl, fun h' => absurd h' h⟩
end Go.Proofs.YthohdinjpkehpaaGreat

namespace Go.Proofs.YthohdinjpkehpaaGreat
open Go SG Go.RowKit Go.Lib
set_option linter.unusedVariables false
set_option maxRecDepth 4000
set_option linter.unusedSimpArgs false

def cutAt (s : El) : Option (El × El) := (s.findIdx? fun c => c == 47).map fun i => (s.take i, s.drop (i + 1))
def splitP (s : El) : Option (El × El) := match cutAt s with
  | some (d, n) => if nameOk d && nameOk n then some (d, n) else none
  | none => none
theorem indexByte_find : ∀ (l : El), indexByte l 47 = match l.findIdx? (fun c => c == 47) with | some i => (i : Int) | none => -1
  | [] => rfl
  | b :: l => by
    have ih := indexByte_find l
    unfold indexByte
    rw [List.findIdx?_cons]
    by_cases h : (b == 47) = true
    · simp [h]
    · have h' : (b == 47) = false := by simpa using h
      rw [h', ih]
      cases hf : l.findIdx? (fun c => c == 47) with
      | none => simp
      | some i =>
        simp only [Bool.false_eq_true, if_false, Option.map_some]
        have : ((i : Int) == -1) = false := by rw [beq_eq_false_iff_ne]; omega
        rw [this]; simp
theorem take_str (s : El) {i : Nat} (h : i ≤ s.length) (k : IntKind) : sliceStrV (encE s) none (some (.int k (i : Int))) = some (encE (s.take i)) := by
  have hsz : (⟨s.toArray⟩ : ByteArray).size = s.length := by show s.toArray.size = _; simp
  unfold sliceStrV encE
  simp only [boundV]
  rw [if_pos ⟨by omega, by rw [hsz]; omega⟩]
  simp only [Option.bind_some, Int.toNat_natCast]
  congr 2
  rw [extract_eq]
  simp
theorem drop_str (s : El) {i : Nat} (h : i ≤ s.length) (k : IntKind) : sliceStrV (encE s) (some (.int k (i : Int))) none = some (encE (s.drop i)) := by
  have hsz : (⟨s.toArray⟩ : ByteArray).size = s.length := by show s.toArray.size = _; simp
  unfold sliceStrV encE
  simp only [boundV, Option.bind_some]
  rw [if_pos ⟨by omega, by rw [hsz]; omega⟩]
  simp only [Option.bind_some, Int.toNat_natCast]
  congr 2
  rw [extract_eq, hsz]
  congr 1
  simp
  rw [List.take_of_length_le (by simp)]
theorem cIndex {s : El} {w : World} {K : Value → World → Prop} (hK : K (.int .i64 (indexByte s 47)) w) : CallS Tryz.prog 139 #[encE s, .string ⟨#[47]⟩] K w := by
  refine s139_call hm ?_
  unfold s139
  refine pur (v := .int .i64 1) rfl (pur (v := .bool false) rfl ?_)
  refine join1 (fun t w' => w = w' ∧ t = .bool (decide (([47] : El) = s))) ?_ fun J0 hJ0 => ?_
  · rintro _ _ ⟨rfl, rfl⟩
    refine pur (pick_b _ _ _) ?_
    rw [if_neg (by simp)]
    refine condB (fun h => ?_) (fun h => ?_)
    · have : s = [47] := (by simpa using h : ([47] : El) = s).symm
      subst this
      exact hK
    · refine pur (v := .bool true) rfl (condT rfl (pur (v := .int .u8 47) rfl ?_))
      refine s151_call hm ?_
      unfold s151
      refine ⟨.int .i64 (indexByte s 47), w, ?_, hK⟩
      show (callFunc 161 #[encE s, .int .u8 47]).run Tryz.prog w = _
      rw [run_callFunc_extern Tryz.func161 (by kernel_rfl) (by kernel_rfl) (by kernel_rfl) (e := Extern.BytealgIndexByte.indexByte) (by kernel_rfl)]
      unfold encE
      rw [run_indexByteString]
      rfl
  · rw [ifB_eq, if_pos rfl]
    exact pur (eqE [47] s) (hJ0 _ _ ⟨rfl, rfl⟩)
theorem cCut {s : El} {w : World} {K : Value → World → Prop} (h0 : cutAt s = none → K (.tuple [encE s, encE [], .bool false].toArray) w) (h1 : ∀ a b w', cutAt s = some (a, b) → Ext No w w' → K (.tuple [encE a, encE b, .bool true].toArray) w') (hl : s.length ≤ 9223372036854775806) :
    CallS Tryz.prog 122 #[encE s, .string ⟨#[47]⟩] K w := by
  refine s122_call hm ?_
  unfold s122
  refine s134_call hm ?_
  unfold s134
  refine cIndex ?_
  rw [indexByte_find]
  unfold cutAt at h0 h1
  cases hf : s.findIdx? (fun c => c == 47) with
  | none =>
    rw [hf] at h0
    simp only
    exact pur (bin_geq _ _ _) (condF (by simp) (pur (extract_0 _ _) (pur (extract_1 _ _ _) (pur (extract_2 _ _ _ _) (h0 rfl)))))
  | some i =>
    rw [hf] at h1
    have hi : i < s.length := by
      obtain ⟨h, _⟩ := List.findIdx?_eq_some_iff_getElem.1 hf
      exact h
    simp only
    refine pur (bin_geq _ _ _) (condT (by simp) (draw (fun _ => True) trivial ?_))
    refine pur (take_str s (Nat.le_of_lt hi) .i64) (pur (v := .int .i64 1) rfl (pur (add64 (c := ((i + 1 : Nat) : Int)) (by omega) (by omega) (by omega)) (pur (drop_str s hi .i64) ?_)))
    exact pur (extract_0 _ _) (pur (extract_1 _ _ _) (pur (extract_2 _ _ _ _) (h1 _ _ _ rfl (Ext.drew w))))
end Go.Proofs.YthohdinjpkehpaaGreat

namespace Go.Proofs.YthohdinjpkehpaaGreat
open Go SG Go.RowKit Go.Lib
set_option linter.unusedVariables false
set_option maxRecDepth 4000
set_option linter.unusedSimpArgs false

abbrev Bys := List UInt8
def overB (b : Bys) (k : Nat) (l : Bys) : Bys := b.take k ++ l ++ b.drop (k + l.length)
theorem overB_len {b : Bys} {k : Nat} {l : Bys} (h : k ≤ b.length) : (overB b k l).length = max b.length (k + l.length) := by unfold overB; simp; omega
abbrev Wr := Nat × Bys
def nowB (b : Bys) (ws : List Wr) : Bys := ws.foldl (fun b p => overB b p.1 p.2) b
structure Fi where
  fast : Bys
  ws : List Wr
def Fi.now (f : Fi) : Bys := nowB f.fast f.ws
def Fi.open (f : Fi) : Nat := (f.ws.map fun p => p.2.length).sum
abbrev Way := List (El × Nat)
structure Di where
  name : El
  was : List Way
  now : Way
structure Scr where
  from_ : Int
  many : Int
  seen : Int
structure Dk where
  quota : Int
  dirs : List Di
  files : List Fi
  fail : Scr
  stop : Scr
def Scr.cnt (s : Scr) : (Bool × Bool) × Scr :=
  if s.from_ < 1 ∨ s.many = 0 then ((false, false), s)
  else ((decide (0 ≤ s.seen + 1 - s.from_) && (decide (s.many < 0) || decide (s.seen + 1 - s.from_ < s.many)), decide (s.seen + 1 - s.from_ = 0)), { s with seen := s.seen + 1 })
def chgV (d : Dk) : Int × Bool := if d.stop.cnt.1.1 then (22, d.stop.cnt.1.2) else if d.fail.cnt.1.1 then (21, d.fail.cnt.1.2) else (0, false)
def chgD (d : Dk) : Dk := { d with fail := d.fail.cnt.2, stop := d.stop.cnt.2 }
def Dk.dir (d : Dk) (x : El) : Option Di := d.dirs.find? fun D => decide (D.name = x)
def Dk.path (d : Dk) (s : El) : Except Int (Di × El) := match splitP s with
  | none => .error 1
  | some (x, n) => match d.dir x with
    | none => .error 6
    | some D => .ok (D, n)
def Dk.file (d : Dk) (s : El) : Except Int Nat := match d.path s with
  | .error e => .error e
  | .ok (D, n) => match mget D.now n with
    | none => .error 6
    | some i => .ok i
theorem Dk.dir_some {d : Dk} {x : El} {D : Di} (h : d.dir x = some D) : D ∈ d.dirs ∧ D.name = x := ⟨List.mem_of_find?_eq_some h, by simpa using List.find?_some h⟩
theorem Dk.dir_none {d : Dk} {x : El} (h : d.dir x = none) : ∀ D ∈ d.dirs, D.name ≠ x := fun D hD he => by
  have := List.find?_eq_none.1 h D hD
  simp [he] at this
end Go.Proofs.YthohdinjpkehpaaGreat

namespace SG
open Go Go.RowKit Go.Lib
set_option linter.unusedSimpArgs false
set_option linter.unusedVariables false

theorem nodup_len {α : Type} : ∀ (l m : List α), l.Nodup → (∀ x ∈ l, x ∈ m) → l.length ≤ m.length
  | [], m, _, _ => by simp
  | a :: l, m, hn, hs => by
    have hn' := List.nodup_cons.1 hn
    obtain ⟨s, t, rfl⟩ := List.append_of_mem (hs a (by simp))
    have := nodup_len l (s ++ t) hn'.2 fun x hx => by
      have h1 := hs x (List.mem_cons_of_mem _ hx)
      rcases List.mem_append.1 h1 with h | h
      · exact List.mem_append_left _ h
      · rcases List.mem_cons.1 h with rfl | h
        · exact absurd hx hn'.1
        · exact List.mem_append_right _ h
    simp at this ⊢; omega
theorem filt_le {α : Type} : ∀ (m : List α) (P Q : α → Bool), (∀ x ∈ m, Q x = true → P x = true) → (m.filter Q).length ≤ (m.filter P).length
  | [], _, _, _ => by simp
  | a :: m, P, Q, h => by
    have ih := filt_le m P Q fun x hx => h x (List.mem_cons_of_mem _ hx)
    have ha := h a (by simp)
    rw [List.filter_cons, List.filter_cons]
    cases hq : Q a <;> cases hp : P a
    · simpa using ih
    · simp; omega
    · rw [ha hq] at hp; cases hp
    · simpa using ih
theorem filt_lt {α : Type} : ∀ (m : List α) (P Q : α → Bool), (∀ x ∈ m, Q x = true → P x = true) → ∀ x ∈ m, P x = true → Q x = false → (m.filter Q).length < (m.filter P).length
  | [], _, _, _, x, hx, _, _ => by simp at hx
  | a :: m, P, Q, h, x, hx, hp, hq => by
    have hm : ∀ x ∈ m, Q x = true → P x = true := fun x hx => h x (List.mem_cons_of_mem _ hx)
    rw [List.filter_cons, List.filter_cons]
    rcases List.mem_cons.1 hx with rfl | hx
    · have := filt_le m P Q hm
      rw [if_pos hp, if_neg (by simp [hq])]
      simp; omega
    · have ih := filt_lt m P Q hm x hx hp hq
      have ha := h a (by simp)
      cases hq' : Q a <;> cases hp' : P a
      · simpa using ih
      · simp; omega
      · rw [ha hq'] at hp'; cases hp'
      · simpa using ih
def KpW (A B : World) : Prop := ∀ (k : Nat) (o : Obj), A.heap[k]? = some o → o.isWalk = true → B.heap[k]? = some o
theorem KpW.trans {A B C : World} (h : KpW A B) (k : KpW B C) : KpW A C := fun i o hi ho => k i o (h i o hi ho) ho
theorem KpW.ext {S : Nat → Prop} {A B : World} (e : Ext S A B) (h : ∀ b o, S b → A.heap[b]? = some o → o.isWalk = false) : KpW A B := fun k o hk ho => by
  refine (e.blk k (Array.getElem?_eq_some_iff.1 hk).1 fun hs => ?_).trans hk
  rw [h k o hs hk] at ho; cases ho
theorem KpW.put {W : World} {l : Nat} {o o' : Obj} (hl : W.heap[l]? = some o) (hw : o.isWalk = false) : KpW W (W.putObj l o') := fun k x hk hx => by
  by_cases h : k = l
  · subst h
    rw [hl] at hk
    have : o = x := Option.some.inj hk
    subst this
    rw [hw] at hx; cases hx
  · exact (World.putObj_heap_other h).trans hk
section
variable {κ ν : Type} {P : Program} {f : κ → Value} {g : ν → Value} {w : World} {r b : Nat} {m : List (κ × ν)}
theorem IterR.kp {w w' : World} {done : List (κ × ν)} (h : IterR w r b f g m done) (k : KpW w w') : IterR w' r b f g m done := by
  obtain ⟨es, clock, since, seen, c0, a1, a2, a3, a4, a5, a6, a7⟩ := h
  exact ⟨es, clock, since, seen, c0, k _ _ a1 rfl, a2, a3, a4, a5, k _ _ a6 rfl, a7⟩
theorem IterR.walk {w : World} {done : List (κ × ν)} (h : IterR w r b f g m done) : ∃ o, w.heap[r]? = some o ∧ o.isWalk = true ∧ o.isCells = false := by
  obtain ⟨es, clock, since, seen, c0, a1, a2, a3, a4, a5, a6, a7⟩ := h
  exact ⟨_, a6, rfl, rfl⟩
theorem iterLoop (it : IterR w r b f g m []) {X : Value → (World → Prop) → World → Prop} {Kend : World → Prop} (I : List (κ × ν) → World → Prop) (h0 : I [] w) (ty : TypeId)
    (hI : ∀ done w' w'', I done w' → IterR w' r b f g m done → Ext (At1 r) w' w'' → I done w'')
    (hround : ∀ done p w', p ∈ m → p ∉ done → IterR w' r b f g m (done ++ [p]) → I done w' → ∀ L : World → Prop, (∀ w'', IterR w'' r b f g m (done ++ [p]) → I (done ++ [p]) w'' → L w'') → X (.tuple [f p.1, g p.2].toArray) L w')
    (hend : ∀ done w', done.Perm m → I done w' → Kend w') :
    LoopS 0 (fun (L0 : World → Prop) (w : World) => RunS P (Instr.next (.pointer (some ⟨r, 0, none⟩)) false ty) (fun t w => PureS (extractV 0 t) fun c => CondS c (RunS P (Instr.entry (.pointer (some ⟨r, 0, none⟩))) (fun t8 w => X t8 L0 w) w) (Kend w)) w) w := by
  classical
  refine loop0 (σ := List (κ × ν)) (fun done w' => IterR w' r b f g m done ∧ I done w') (fun done => (m.filter fun q => decide (q ∉ done)).length) [] ⟨it, h0⟩ ?_
  rintro done w1 ⟨it1, i1⟩ L hL
  refine it1.next ty (fun hp => pur (extract_0 _ _) (condF rfl (hend done w1 hp i1))) fun p w2 hpm hpd it2 hent e2 z2 => ?_
  refine pur (extract_0 _ _) (condT rfl (hent _ (hround done p w2 hpm hpd it2 (hI done w1 w2 i1 it1 e2) L fun w3 it3 i3 => hL (done ++ [p]) w3 ⟨it3, i3⟩ ?_)))
  exact filt_lt m _ _ (fun x _ hx => by simp at hx ⊢; exact fun h => hx.1 h) p hpm (by simpa using hpd) (by simp)
end
end SG

namespace SG
open Go Go.RowKit Go.Lib
set_option linter.unusedSimpArgs false
set_option linter.unusedVariables false
section
variable {κ ν : Type} {P : Program} {f : κ → Value} {g : ν → Value} {w : World} {r b : Nat} {m : List (κ × ν)}
end
end SG

namespace SG
open Go Go.RowKit Go.Lib
set_option linter.unusedSimpArgs false
set_option linter.unusedVariables false

theorem Own.ne_blk {w : World} {base : Nat} {e t : TypeId} {size n g : Nat} {v : Value} {xs cs : List Value} (h : w.ownsRow base e size v n xs) (hb : Blk w g t cs) (hne : e ≠ t) : v.ownBlock ≠ some g := by
  rcases h.2 with ⟨rfl, _⟩ | ⟨g', cap, cur, rfl, _, hh, _⟩
  · simp [Value.ownBlock]
  · intro he
    have hg : g' = g := by simpa [Value.ownBlock] using he
    subst hg
    unfold Blk at hb
    rw [hh] at hb
    injection hb with hb
    injection hb with _ hb
    exact hne hb
theorem Own.ne_own {w : World} {base base' : Nat} {e e' : TypeId} {size size' n n' : Nat} {v v' : Value} {xs xs' : List Value} (h : w.ownsRow base e size v n xs) (h' : w.ownsRow base' e' size' v' n' xs') (hne : e ≠ e') :
    ∀ g, v.ownBlock = some g → v'.ownBlock ≠ some g := by
  intro g hg hg'
  rcases h.2 with ⟨rfl, _⟩ | ⟨g1, cap, cur, rfl, _, hh, _⟩
  · simp [Value.ownBlock] at hg
  · rcases h'.2 with ⟨rfl, _⟩ | ⟨g2, cap2, cur2, rfl, _, hh2, _⟩
    · simp [Value.ownBlock] at hg'
    · simp only [Value.ownBlock, Option.some.injEq] at hg hg'
      subst hg
      subst hg'
      rw [hh] at hh2
      injection hh2 with hh2
      injection hh2 with _ hh2
      exact hne hh2
theorem Own.one {w : World} {base : Nat} {e : TypeId} {size n : Nat} {v : Value} {xs : List Value} (h : w.ownsRow base e size v n xs) : v.oneCell' = true := by
  rcases h.2 with ⟨rfl, _⟩ | ⟨g', cap, cur, rfl, _⟩ <;> rfl
theorem Own.at1 {w : World} {base : Nat} {e : TypeId} {n : Nat} {v : Value} {xs : List Value} (h : w.ownsRow base e 1 v n xs) {i : Nat} {x : Value} (hx : xs[i]? = some x) (k : IntKind) :
    ∃ g, v.ownBlock = some g ∧ indexAddrV 1 v (.int k (i : Int)) = some (.pointer (some ⟨g, i, none⟩)) ∧ w.cell? ⟨g, i, none⟩ = some x ∧
      ∀ (y : Value) {K : World → Prop}, y.oneCell' = true → (∀ w', w'.ownsRow base e 1 v n (xs.set i y) → Ext (At1 g) w w' → w'.heap.size = w.heap.size → K w') → StoreC (.pointer (some ⟨g, i, none⟩)) y K w := by
  have hl : xs.length = n := by have := h.1; omega
  have hi : i < xs.length := (List.getElem?_eq_some_iff.1 hx).1
  rcases h.2 with ⟨rfl, rfl⟩ | ⟨g, cap, cur, rfl, hb, hg, hnc, hcm, hcs, htake⟩
  · omega
  · rw [Nat.mul_one] at htake
    have hbk : Blk w g e (xs ++ cur.toList.drop n) := by
      unfold Blk
      rw [← htake, List.take_append_drop]
      simpa using hg
    refine ⟨g, rfl, ?_, ?_, fun y K hy hK => ?_⟩
    · rw [index_sl ⟨by omega, by omega⟩, Addr.add_mk]; simp
    · rw [hbk.cell, List.getElem?_append_left hi, hx]
    · refine storeB hbk (by simp; omega) hy fun w' b e' z => hK w' ⟨by simp; omega, .inr ⟨g, cap, ((xs ++ cur.toList.drop n).set i y).toArray, rfl, hb, b, hnc, hcm, ?_, ?_⟩⟩ e' z
      · simp; simp at hcs; omega
      · rw [List.toList_toArray, Nat.mul_one, List.set_append_left _ _ hi, List.take_append_of_le_length (by simp; omega), List.take_of_length_le (by simp; omega)]
end SG

namespace SG
open Go Go.RowKit Go.Lib
set_option linter.unusedSimpArgs false
set_option linter.unusedVariables false
theorem makeCap {P : Program} {t e : TypeId} {size bytes : Nat} {z : Value} (hT : ElemT P t e size bytes z) {kl kc : IntKind} {n : Nat} (hz1 : z.cells.size = size) (hb : bytes * n ≤ 281474976710656) (hn : n ≤ 140737488355328) {w : World} {K : Value → World → Prop}
    (hK : ∀ v w', w'.ownsRow w.heap.size e size v 0 [] → v.ownBlock = some w.heap.size → Ext No w w' → K v w') :
    RunS P (Instr.makeSlice t (.int kl 0) (.int kc (n : Int))) K w := by
  obtain ⟨i, hi, hz, hsz, hby⟩ := info_parts hT.info
  have hb' : (i.bytes : Int) * (n : Int) ≤ 281474976710656 := by
    rw [hby]
    have h : ((bytes * n : Nat) : Int) ≤ 281474976710656 := by omega
    rwa [Int.natCast_mul] at h
  have hr := run_make (P := P) w t e i z hT.under hi hz kl kc 0 n (by omega) (by omega) hb' (by omega)
  simp only [Int.toNat_natCast, hsz] at hr
  refine runS hr (hK _ _ ⟨by simp, .inr ⟨w.heap.size, n, madeCells z.cells (n * size), rfl, Nat.le_refl _, heap_alloc_new w _, Nat.zero_le _, by unfold maxLen; omega, ?_, by simp⟩⟩ rfl (Ext.alloc w _))
  unfold madeCells
  simp
end SG

namespace Go.Proofs.YthohdinjpkehpaaGreat
open Go SG Go.RowKit Go.Lib
set_option linter.unusedVariables false
set_option maxRecDepth 4000
set_option linter.unusedSimpArgs false

inductive Cmp where
  | hdr
  | dirs
  | dir (x : El)
  | file (i : Nat)
  | doc
inductive Tag where
  | free
  | ice
  | tmp
  | new_
  | own (d : Nat) (c : Cmp)
abbrev Tags := Nat → Tag
structure Gon (M : Tag → Prop) (w : World) (T : Tags) (w' : World) (T' : Tags) : Prop where
  ext : Ext (fun b => M (T b)) w w'
  same : ∀ b, b < w.heap.size → T' b = T b
def Nil : Tag → Prop := fun _ => False
namespace Gon
variable {M M' : Tag → Prop} {w w' w'' : World} {T T' T'' : Tags}
theorem refl (w : World) (T : Tags) : Gon M w T w T := ⟨Ext.refl _ _, fun _ _ => rfl⟩
theorem trans (h : Gon M w T w' T') (k : Gon M w' T' w'' T'') : Gon M w T w'' T'' :=
  ⟨h.ext.trans' k.ext (fun _ hb _ => hb) fun b hb hl => by rw [← h.same b hl]; exact hb, fun b hb => (k.same b (Nat.lt_of_lt_of_le hb h.ext.size)).trans (h.same b hb)⟩
theorem mono (h : Gon M w T w' T') (hM : ∀ t, M t → M' t) : Gon M' w T w' T' := ⟨h.ext.mono fun b hb _ => hM _ hb, h.same⟩
theorem no (e : Ext No w w') : Gon M w T w' T := ⟨e.no, fun _ _ => rfl⟩
theorem at1 {g : Nat} {t : Tag} (e : Ext (At1 g) w w') (hg : T g = t) (ht : M t) : Gon M w T w' T := ⟨e.mono fun b hb _ => by rw [show b = g from hb, hg]; exact ht, fun _ _ => rfl⟩
end Gon
def mark (T : Tags) (g : Nat) (t : Tag) : Tags := fun b => if b = g then t else T b
theorem mark_at (T : Tags) (g : Nat) (t : Tag) : mark T g t g = t := if_pos rfl
theorem mark_ne (T : Tags) {g b : Nat} (t : Tag) (h : b ≠ g) : mark T g t b = T b := if_neg h
theorem Gon.mark {M : Tag → Prop} {w w' : World} {T T' : Tags} (h : Gon M w T w' T') {g : Nat} (hg : w.heap.size ≤ g) (t : Tag) : Gon M w T w' (mark T' g t) :=
  ⟨h.ext, fun b hb => by rw [mark_ne _ _ (by omega)]; exact h.same b hb⟩
theorem Gon.marks {M : Tag → Prop} {w w' : World} {T T' T'' : Tags} (h : Gon M w T w' T') (hs : ∀ b, b < w.heap.size → T'' b = T' b) : Gon M w T w' T'' :=
  ⟨h.ext, fun b hb => (hs b hb).trans (h.same b hb)⟩

def Byt (T : Tags) (w : World) (v : Value) (l : Bys) : Prop := w.ownsRow 0 5 1 v l.length (SG.byteCells l) ∧ ∀ b, v.ownBlock = some b → T b = .ice
def NamR (T : Tags) (ad : Nat → Option Nat) (w : World) (b : Nat) (way : Way) : Prop :=
  T b = .ice ∧ (∃ m : List (El × Nat), MapR w b encE ptrE m ∧ m.length = way.length ∧ ∀ x, mget m x = (mget way x).bind ad) ∧ ∀ p ∈ way, (ad p.2).isSome
def wrC (q : Wr × Value) : List Value := [.int .i64 (q.1.1 : Int), q.2]
theorem wrC_len (q : Wr × Value) : (wrC q).length = 2 := rfl
def FilR (T : Tags) (d i : Nat) (w : World) (g : Nat) (f : Fi) : Prop :=
  T g = .own d (.file i) ∧ ∃ (fv ov nv : Value) (qs : List (Wr × Value)), Blk w g 82 [fv, ov, nv] ∧ Byt T w fv f.fast ∧ Byt T w nv f.now ∧ qs.map (·.1) = f.ws ∧ w.ownsRow 0 94 2 ov f.ws.length (flat wrC qs) ∧
    (∀ b, ov.ownBlock = some b → T b = .own d (.file i)) ∧ ∀ q ∈ qs, Byt T w q.2 q.1.2
def DirR (T : Tags) (d : Nat) (ad : Nat → Option Nat) (w : World) (g : Nat) (D : Di) : Prop :=
  T g = .own d (.dir D.name) ∧ ∃ (mn : Nat) (wv : Value) (bs : List (Way × Nat)), Blk w g 73 [.map (some mn), wv] ∧ NamR T ad w mn D.now ∧ bs.map (·.1) = D.was ∧ w.ownsRow 0 70 1 wv D.was.length (bs.map fun p => .map (some p.2)) ∧
    (∀ b, wv.ownBlock = some b → T b = .own d (.dir D.name)) ∧ ∀ p ∈ bs, NamR T ad w p.2 p.1
def scrC (s : Scr) : List Value := [.int .i64 s.from_, .int .i64 s.many, .int .i64 s.seen]
def hdrC (q : Int) (md : Nat) (a b : Scr) : List Value := [.int .i64 q, .map (some md)] ++ scrC a ++ scrC b
structure Body (T : Tags) (d : Nat) (ad : Nat → Option Nat) (w : World) (md : Nat) (dm : List (El × Nat)) (dirs : List Di) (files : List Fi) : Prop where
  mdT : T md = .own d .dirs
  mdR : MapR w md encE ptrE dm
  some_ : ∀ D ∈ dirs, ∃ gd, mget dm D.name = some gd ∧ DirR T d ad w gd D
  none_ : ∀ x, (∀ D ∈ dirs, D.name ≠ x) → mget dm x = none
  len : dm.length = dirs.length
  fil : ∀ i gf, ad i = some gf → ∃ f, files[i]? = some f ∧ FilR T d i w gf f
structure Dx (T : Tags) (d : Nat) (w : World) (g : Nat) (st : Dk) (md : Nat) (dm : List (El × Nat)) (ad : Nat → Option Nat) : Prop where
  tag : T g = .own d .hdr
  blk : Blk w g 68 (hdrC st.quota md st.fail st.stop)
  body : Body T d ad w md dm st.dirs st.files
def Dsk (T : Tags) (d : Nat) (w : World) (g : Nat) (st : Dk) : Prop := ∃ md dm ad, Dx T d w g st md dm ad
section
variable {M : Tag → Prop} {T T' : Tags} {w w' : World} {d i g : Nat} {ad : Nat → Option Nat}
theorem Byt.keep {v : Value} {l : Bys} (h : Byt T w v l) (k : Gon M w T w' T') (hi : ¬ M .ice) : Byt T' w' v l :=
  ⟨owns_ext h.1 k.ext fun b hb hh => by simp only [h.2 b hb] at hh; exact hi hh, fun b hb => (k.same b (h.1.lt b hb).2).trans (h.2 b hb)⟩
theorem NamR.keep {b : Nat} {way : Way} (h : NamR T ad w b way) (k : Gon M w T w' T') (hi : ¬ M .ice) : NamR T' ad w' b way := by
  obtain ⟨h1, ⟨m, h2, h2l, h3⟩, h4⟩ := h
  exact ⟨(k.same b h2.lt).trans h1, ⟨m, h2.ext k.ext (by rw [h1]; exact hi), h2l, h3⟩, h4⟩
theorem FilR.keep {f : Fi} (h : FilR T d i w g f) (k : Gon M w T w' T') (hi : ¬ M .ice) (ho : ¬ M (.own d (.file i))) : FilR T' d i w' g f := by
  obtain ⟨h0, fv, ov, nv, qs, h1, h2, h3, h4, h5, h6, h7⟩ := h
  exact ⟨(k.same g h1.lt).trans h0, fv, ov, nv, qs, h1.ext k.ext (by rw [h0]; exact ho), h2.keep k hi, h3.keep k hi, h4, owns_ext h5 k.ext (fun b hb => by rw [h6 b hb]; exact ho), fun b hb => (k.same b (h5.lt b hb).2).trans (h6 b hb), fun q hq => (h7 q hq).keep k hi⟩
theorem DirR.keep {D : Di} (h : DirR T d ad w g D) (k : Gon M w T w' T') (hi : ¬ M .ice) (ho : ¬ M (.own d (.dir D.name))) : DirR T' d ad w' g D := by
  obtain ⟨h0, mn, wv, bs, h1, h2, h3, h4, h5, h6⟩ := h
  exact ⟨(k.same g h1.lt).trans h0, mn, wv, bs, h1.ext k.ext (by rw [h0]; exact ho), h2.keep k hi, h3, owns_ext h4 k.ext (fun b hb => by rw [h5 b hb]; exact ho), fun b hb => (k.same b (h4.lt b hb).2).trans (h5 b hb), fun p hp => (h6 p hp).keep k hi⟩
theorem Body.keep {md : Nat} {dm : List (El × Nat)} {dirs : List Di} {files : List Fi} (h : Body T d ad w md dm dirs files) (k : Gon M w T w' T') (hi : ¬ M .ice) (hh : ¬ M (.own d .dirs)) (hd : ∀ x, ¬ M (.own d (.dir x))) (hf : ∀ i, ¬ M (.own d (.file i))) : Body T' d ad w' md dm dirs files where
  mdT := (k.same md h.mdR.lt).trans h.mdT
  mdR := h.mdR.ext k.ext (by rw [h.mdT]; exact hh)
  some_ := fun D hD => by
    obtain ⟨gd, h1, h2⟩ := h.some_ D hD
    exact ⟨gd, h1, h2.keep k hi (hd _)⟩
  none_ := h.none_
  len := h.len
  fil := fun i gf hg => by
    obtain ⟨f, h1, h2⟩ := h.fil i gf hg
    exact ⟨f, h1, h2.keep k hi (hf _)⟩
theorem Dx.keep {st : Dk} {md : Nat} {dm : List (El × Nat)} (h : Dx T d w g st md dm ad) (k : Gon M w T w' T') (hi : ¬ M .ice) (ho : ∀ c, ¬ M (.own d c)) : Dx T' d w' g st md dm ad :=
  ⟨(k.same g h.blk.lt).trans h.tag, h.blk.ext k.ext (by rw [h.tag]; exact ho _), h.body.keep k hi (ho _) (fun _ => ho _) fun _ => ho _⟩
theorem Dx.no {st : Dk} {md : Nat} {dm : List (El × Nat)} (h : Dx T d w g st md dm ad) (e : Ext No w w') : Dx T d w' g st md dm ad := h.keep (M := Nil) (Gon.no e) (fun h => h) fun _ h => h
theorem Dsk.keep {st : Dk} (h : Dsk T d w g st) (k : Gon M w T w' T') (hi : ¬ M .ice) (ho : ∀ c, ¬ M (.own d c)) : Dsk T' d w' g st := by
  obtain ⟨md, dm, ad, h⟩ := h
  exact ⟨md, dm, ad, h.keep k hi ho⟩
theorem Dsk.no {st : Dk} (h : Dsk T d w g st) (e : Ext No w w') : Dsk T d w' g st := h.keep (M := Nil) (Gon.no e) (fun h => h) fun _ h => h
end
theorem check_str {P : Program} {k : TypeId} (h : P.underlying k = some .string) (b : Bool) (s : ByteArray) (w : World) : (Instr.checkKey b 10000 k (.string s)).run P w = .ok () w := by
  exact MapKept.run_checkKey h (by first | rfl | trivial | simp [MapKept.IsKey]) b 9999
theorem beq_str (x y : El) : ((⟨x.toArray⟩ : ByteArray) == ⟨y.toArray⟩) = decide (x = y) := by
  show ((x.toArray : Array UInt8) == y.toArray) = _
  rw [Bool.eq_iff_iff, decide_eq_true_iff, beq_iff_eq]
  exact ⟨fun h => by simpa using congrArg Array.toList h, fun h => by rw [h]⟩
theorem same_str (x y : El) : Instr.sameNow .string (encE x) (encE y) = some (decide (x = y)) := by
  simp only [Instr.sameNow, encE]
  rw [beq_str]
theorem MTdir : MapT Tryz.prog 64 9 63 encE (.pointer none) :=
  MapT.of Tryz.underlying64 Tryz.underlying9 (fun x b w => check_str Tryz.underlying9 b _ w) same_str (by kernel_rfl) (fun x => by simp only [encE, Instr.sameBits]; rw [beq_str]; simp)
theorem MTnam : MapT Tryz.prog 70 9 75 encE (.pointer none) :=
  MapT.of Tryz.underlying70 Tryz.underlying9 (fun x b w => check_str Tryz.underlying9 b _ w) same_str (by kernel_rfl) (fun x => by simp only [encE, Instr.sameBits]; rw [beq_str]; simp)
end Go.Proofs.YthohdinjpkehpaaGreat

namespace Go.Proofs.YthohdinjpkehpaaGreat
open Go SG Go.RowKit Go.Lib
set_option linter.unusedVariables false
set_option maxRecDepth 4000
set_option linter.unusedSimpArgs false

def ScrOk (n : Nat) (s : Scr) : Prop := -9223372036854775808 ≤ s.from_ ∧ s.from_ ≤ 9223372036854775807 ∧ 0 ≤ s.seen ∧ s.seen ≤ (n : Int)
theorem set_same {cs : List Value} {i : Nat} {v : Value} (h : cs[i]? = some v) : cs.set i v = cs := by
  apply List.ext_getElem?
  intro j
  rw [List.getElem?_set]
  split
  · rename_i hij; subst hij
    rw [if_pos (List.getElem?_eq_some_iff.1 h).1, h]
  · rfl
set_option maxHeartbeats 1000000 in
theorem c82 {w : World} {g o n : Nat} {cs : List Value} {s : Scr} (hb : Blk w g 68 cs) (h0 : cs[o]? = some (.int .i64 s.from_)) (h1 : cs[o + 1]? = some (.int .i64 s.many)) (h2 : cs[o + 2]? = some (.int .i64 s.seen)) (hs : ScrOk n s) (hn : n ≤ 4611686018427387904) {K : Value → World → Prop}
    (hK : ∀ w', Blk w' g 68 (cs.set (o + 2) (.int .i64 s.cnt.2.seen)) → Ext (At1 g) w w' → K (.tuple [.bool s.cnt.1.1, .bool s.cnt.1.2].toArray) w') : CallS Tryz.prog 82 #[.pointer (some ⟨g, o, none⟩)] K w := by
  obtain ⟨hf1, hf2, hs1, hs2⟩ := hs
  refine s82_call hm ?_
  unfold s82
  have ld : ∀ {w' : World} {cs' : List Value} {i : Nat} {v : Value} {K' : Value → World → Prop}, Blk w' g 68 cs' → cs'[o + i]? = some v → K' v w' → PureS (nilV (.pointer (some ⟨g, o, none⟩))) fun t => PureS (fieldAddrV i t) fun t => LoadC t K' w' := fun {w' cs' i v K'} hb hv hk => pur (nil_ptr _) (pur (field_ptr _ _ _) (loadB hb hv hk))
  refine ld hb (i := 0) h0 (pur (bin_lss _ _ _) ?_)
  refine join1 (fun t w' => w = w' ∧ (¬ s.from_ < 1 → t = .bool (decide (s.many = 0)))) ?_ fun J0 hJ0 => ?_
  · rintro t _ ⟨rfl, ht⟩
    refine pur (v := .bool (decide (s.from_ < 1 ∨ s.many = 0))) ((pick_b _ _ _).trans ?_) (condD (fun hc => ?_) (fun hc => ?_))
    · by_cases h : s.from_ < 1
      · simp [h]
      · rw [ht h]; simp [h]
    · have hcnt : s.cnt = ((false, false), s) := by unfold Scr.cnt; rw [if_pos hc]
      rw [hcnt] at hK
      exact hK w (by rw [set_same h2]; exact hb) (Ext.refl _ _)
    · have hcnt : s.cnt = ((decide (0 ≤ s.seen + 1 - s.from_) && (decide (s.many < 0) || decide (s.seen + 1 - s.from_ < s.many)), decide (s.seen + 1 - s.from_ = 0)), { s with seen := s.seen + 1 }) := by unfold Scr.cnt; rw [if_neg hc]
      rw [hcnt] at hK
      have hf : 1 ≤ s.from_ := by omega
      simp only at hK
      refine ld hb h2 (pur (add64 (c := s.seen + 1) rfl (by omega) (by omega)) (pur (nil_ptr _) (pur (field_ptr _ _ _) (storeB hb (List.getElem?_eq_some_iff.1 h2).1 rfl fun w1 b1 e1 z1 => ?_))))
      have b1d := b1.no (Ext.drew w1)
      have e1d : Ext (At1 g) w w1.drew := e1.trans (Ext.drew w1)
      have hfin := hK w1.drew b1d e1d
      have hl2 : o + 2 < cs.length := (List.getElem?_eq_some_iff.1 h2).1
      have g0 : (cs.set (o + 2) (.int .i64 (s.seen + 1)))[o + 0]? = some (.int .i64 s.from_) := by rw [List.getElem?_set_ne (by omega)]; exact h0
      have g1 : (cs.set (o + 2) (.int .i64 (s.seen + 1)))[o + 1]? = some (.int .i64 s.many) := by rw [List.getElem?_set_ne (by omega)]; exact h1
      have g2 : (cs.set (o + 2) (.int .i64 (s.seen + 1)))[o + 2]? = some (.int .i64 (s.seen + 1)) := by rw [List.getElem?_set_self hl2]
      refine draw (fun w' => w' = w1.drew) rfl ?_
      refine pur (nil_ptr _) (pur (field_ptr _ _ _) (pur (nil_ptr _) (pur (field_ptr _ _ _) ?_)))
      refine heldC (v := .int .i64 (s.seen + 1)) (fun w' hh => by rw [hh]; exact (b1d.cell (o + 2)).trans g2) (heldC (v := .int .i64 s.from_) (fun w' hh => by rw [hh]; exact (b1d.cell (o + 0)).trans g0) ?_)
      refine pur (sub64 (c := s.seen + 1 - s.from_) rfl (by omega) (by omega)) (pur (bin_geq _ _ _) ?_)
      generalize hkk : s.seen + 1 - s.from_ = k at *
      refine join1 (fun t w' => w1.drew = w' ∧ (0 ≤ k → t = .bool (decide (s.many < 0)))) ?_ fun J2 hJ2 => ?_
      · rintro t _ ⟨rfl, ht⟩
        refine join1 (fun u w' => w1.drew = w' ∧ (0 ≤ k → ¬ s.many < 0 → u = .bool (decide (k < s.many)))) ?_ fun J3 hJ3 => ?_
        · rintro u _ ⟨rfl, hu⟩
          refine join1 (fun v w' => w1.drew = w' ∧ (0 ≤ k → v = .bool (decide (s.many < 0) || decide (k < s.many)))) ?_ fun J4 hJ4 => ?_
          · rintro v _ ⟨rfl, hv⟩
            refine pur (v := .bool (decide (0 ≤ k) && (decide (s.many < 0) || decide (k < s.many)))) ((pick_b _ _ _).trans ?_) (pur (bin_eql _ _ _) hfin)
            by_cases h : 0 ≤ k
            · rw [hv h]; simp [h]
            · simp [h]
          · rw [ifB_eq]
            by_cases h : 0 ≤ k
            · rw [if_pos (by simp [h]), ht h]
              refine pur (v := .bool (decide (s.many < 0) || decide (k < s.many))) ((pick_b _ _ _).trans ?_) (hJ4 _ _ ⟨rfl, fun _ => rfl⟩)
              by_cases h2 : s.many < 0
              · simp [h2]
              · rw [hu h h2]; simp [h2]
            · rw [if_neg (by simp [h])]
              exact hJ4 _ _ ⟨rfl, fun h' => absurd h' h⟩
        · by_cases hb' : isB t false = true
          · unfold IfB; rw [if_pos hb']
            exact ld b1d g1 (pur (bin_lss _ _ _) (hJ3 _ _ ⟨rfl, fun _ _ => rfl⟩))
          · unfold IfB; rw [if_neg hb']
            refine hJ3 _ _ ⟨rfl, fun h h2 => ?_⟩
            rw [ht h] at hb'
            simp [isB, h2] at hb'
      · rw [ifB_eq]
        by_cases h : 0 ≤ k
        · rw [if_pos (by simp [h])]
          exact ld b1d g1 (pur (bin_lss _ _ _) (hJ2 _ _ ⟨rfl, fun _ => rfl⟩))
        · rw [if_neg (by simp [h])]
          exact hJ2 _ _ ⟨rfl, fun h' => absurd h' h⟩
  · rw [ifB_eq]
    by_cases h : s.from_ < 1
    · rw [if_neg (by simp [h])]
      exact hJ0 _ _ ⟨rfl, fun h' => absurd h h'⟩
    · rw [if_pos (by simp [h])]
      exact ld hb h1 (pur (bin_eql _ _ _) (hJ0 _ _ ⟨rfl, fun _ => rfl⟩))
def Hdr (d : Nat) : Tag → Prop := fun t => t = .own d .hdr
section
variable {T : Tags} {w : World} {d g n : Nat} {st : Dk} {K : Value → World → Prop}
theorem Dx.change {md : Nat} {dm : List (El × Nat)} {ad : Nat → Option Nat} (h : Dx T d w g st md dm ad) (h1 : ScrOk n st.fail) (h2 : ScrOk n st.stop) (hn : n ≤ 4611686018427387904)
    (hK : ∀ w', Dx T d w' g (chgD st) md dm ad → Gon (Hdr d) w T w' T → K (.tuple [.int .i64 (chgV st).1, .bool (chgV st).2].toArray) w') : CallS Tryz.prog 35 #[.pointer (some ⟨g, 0, none⟩)] K w := by
  obtain ⟨hT, hb, hB⟩ := h
  refine s35_call hm ?_
  unfold s35
  refine pur (nil_ptr _) (pur (field_ptr _ _ _) (c82 (o := 2) hb rfl rfl rfl h1 hn fun w1 b1 e1 => ?_))
  refine pur (extract_0 _ _) (pur (extract_1 _ _ _) (pur (nil_ptr _) (pur (field_ptr _ _ _) ?_)))
  refine c82 (o := 5) (s := st.stop) b1 rfl rfl rfl h2 hn fun w2 b2 e2 => pur (extract_0 _ _) (pur (extract_1 _ _ _) ?_)
  have e12 : Ext (At1 g) w w2 := e1.trans e2
  have k : Gon (Hdr d) w T w2 T := Gon.at1 e12 hT rfl
  have hcs : ∀ s : Scr, s.cnt.2.from_ = s.from_ ∧ s.cnt.2.many = s.many := fun s => by unfold Scr.cnt; split <;> exact ⟨rfl, rfl⟩
  have hD : Dx T d w2 g (chgD st) md dm ad := ⟨hT, by
    have : hdrC st.quota md st.fail.cnt.2 st.stop.cnt.2 = ((hdrC st.quota md st.fail st.stop).set (2 + 2) (.int .i64 st.fail.cnt.2.seen)).set (5 + 2) (.int .i64 st.stop.cnt.2.seen) := by
      simp [hdrC, scrC, hcs]
    show Blk w2 g 68 (hdrC st.quota md st.fail.cnt.2 st.stop.cnt.2)
    rw [this]; exact b2, hB.keep k (by intro h; cases h) (by intro h; cases h) (fun _ h => by cases h) fun _ h => by cases h⟩
  have hfin := hK w2 hD k
  unfold chgV at hfin
  refine condB (fun h => ?_) (fun h => ?_)
  · rw [if_pos h] at hfin; exact hfin
  · rw [if_neg (by simp [h])] at hfin
    refine condB (fun h' => ?_) (fun h' => ?_)
    · rw [if_pos h'] at hfin; exact hfin
    · rw [if_neg (by simp [h'])] at hfin; exact hfin
theorem Dx.ldDirs {md : Nat} {dm : List (El × Nat)} {ad : Nat → Option Nat} (h : Dx T d w g st md dm ad) {K' : Value → World → Prop} (hK : K' (.map (some md)) w) : PureS (nilV (.pointer (some ⟨g, 0, none⟩))) fun t => PureS (fieldAddrV 1 t) fun t => LoadC t K' w :=
  pur (nil_ptr _) (pur (field_ptr _ _ _) (loadB h.blk rfl hK))
theorem Body.dirs_none {md : Nat} {dm : List (El × Nat)} {ad : Nat → Option Nat} (h : Body T d ad w md dm st.dirs st.files) {x : El} (hx : st.dir x = none) : mget dm x = none := h.none_ x (Dk.dir_none hx)
theorem Body.dirs_some {md : Nat} {dm : List (El × Nat)} {ad : Nat → Option Nat} (h : Body T d ad w md dm st.dirs st.files) {x : El} {D : Di} (hx : st.dir x = some D) : ∃ gd, mget dm x = some gd ∧ DirR T d ad w gd D := by
  obtain ⟨h1, h2⟩ := Dk.dir_some hx
  obtain ⟨gd, h3, h4⟩ := h.some_ D h1
  exact ⟨gd, by rw [← h2]; exact h3, h4⟩
theorem Dx.path {md : Nat} {dm : List (El × Nat)} {ad : Nat → Option Nat} (h : Dx T d w g st md dm ad) {s : El} (hl : s.length ≤ 9223372036854775806)
    (h0 : ∀ e w', st.path s = .error e → Ext No w w' → K (.tuple [.pointer none, encE [], .int .i64 e].toArray) w')
    (h1 : ∀ D n gd w', st.path s = .ok (D, n) → mget dm D.name = some gd → DirR T d ad w' gd D → Ext No w w' → K (.tuple [ptrE gd, encE n, .int .i64 0].toArray) w') : CallS Tryz.prog 72 #[.pointer (some ⟨g, 0, none⟩), encE s] K w := by
  refine s72_call hm ?_
  unfold s72
  have body : ∀ {w1 : World} (a b : El) (f : Bool), Ext No w w1 → (f = false → splitP s = none) → (f = true → splitP s = if nameOk a && nameOk b then some (a, b) else none) →
      JoinS (fun (t23 : Value) (w : World) => PureS (pickV (.bool (!f)) (Value.bool true) t23) fun t24 => JoinS (fun (t28 : Value) (w : World) => PureS (pickV t24 (Value.bool true) t28) fun t29 => CondS t29 (K (Value.tuple [(Value.pointer none), (Value.string ⟨#[]⟩), (Value.int .i64 1)].toArray) w) (
        PureS (nilV (.pointer (some ⟨g, 0, none⟩))) fun t32 => PureS (fieldAddrV 1 t32) fun t33 => LoadC t33 (fun t34 w => RunS Tryz.prog (Instr.lookup 64 t34 (encE a) true) (fun t36 w => PureS (extractV 0 t36) fun t37 => PureS (extractV 1 t36) fun t38 => PureS (notV t38) fun t40 =>
        CondS t40 (K (Value.tuple [(Value.pointer none), (Value.string ⟨#[]⟩), (Value.int .i64 6)].toArray) w) (K (Value.tuple [t37, encE b, (Value.int .i64 0)].toArray) w)) w) w)) fun J1 =>
        IfB t24 false (CallS Tryz.prog 71 [encE b].toArray (fun t27 w => PureS (notV t27) fun t28_1 => J1 t28_1 w) w) (J1 undef w)) fun J0 =>
      IfB (.bool (!f)) false (CallS Tryz.prog 71 [encE a].toArray (fun t22 w => PureS (notV t22) fun t23_1 => J0 t23_1 w) w1) (J0 undef w1) := fun {w1} a b f e1 hf0 hf1 => by
    refine join1 (fun t w' => Ext No w w' ∧ (f = true → t = .bool (!nameOk a))) ?_ fun J0 hJ0 => ?_
    · rintro t w2 ⟨e2, ht⟩
      refine pur (v := .bool (!(f && nameOk a))) ((pick_b _ _ _).trans (by cases f with | false => rfl | true => rw [ht rfl]; rfl)) ?_
      refine join1 (fun t w' => Ext No w w' ∧ ((f && nameOk a) = true → t = .bool (!nameOk b))) ?_ fun J1 hJ1 => ?_
      · rintro t w3 ⟨e3, ht⟩
        refine pur (v := .bool (!(f && nameOk a && nameOk b))) ((pick_b _ _ _).trans (by cases hh : (f && nameOk a) with | false => rfl | true => rw [ht hh]; rfl)) (condB (fun hc => ?_) (fun hc => ?_))
        · refine h0 1 w3 ?_ e3
          unfold Dk.path
          have : splitP s = none := by
            cases hff : f with
            | false => exact hf0 hff
            | true =>
              rw [hf1 hff, if_neg]
              intro hh
              rw [hff] at hc
              simp [hh] at hc
          rw [this]
        · have hall : f = true ∧ nameOk a = true ∧ nameOk b = true := by simpa [Bool.and_assoc, and_assoc] using hc
          obtain ⟨rfl, ha, hb⟩ := hall
          have hsp : splitP s = some (a, b) := by rw [hf1 rfl, if_pos (by simp [ha, hb])]
          have h3 := h.no e3
          refine h3.ldDirs (h3.body.mdR.lookup2 MTdir a (pur (extract_0 _ _) (pur (extract_1 _ _ _) (pur (not_b _) ?_))))
          cases hd : st.dir a with
          | none =>
            rw [h3.body.dirs_none hd]
            exact condT rfl (h0 6 w3 (by unfold Dk.path; rw [hsp]; simp only [hd]) e3)
          | some D =>
            obtain ⟨gd, hg1, hg2⟩ := h3.body.dirs_some hd
            rw [hg1]
            exact condF rfl (h1 D b gd w3 (by unfold Dk.path; rw [hsp]; simp only [hd]) (by rw [(Dk.dir_some hd).2]; exact hg1) hg2 e3)
      · rw [ifB_eq]
        cases hh : (f && nameOk a) with
        | false => exact hJ1 _ _ ⟨e2, fun h' => by rw [hh] at h'; cases h'⟩
        | true =>
          rw [if_pos (show (!true) = false from rfl)]
          exact cnamed fun w3 e3 => pur (not_b _) (hJ1 _ _ ⟨e2.trans e3, fun _ => rfl⟩)
    · rw [ifB_eq]
      cases f with
      | false => exact hJ0 _ _ ⟨e1, fun h' => by cases h'⟩
      | true =>
        rw [if_pos (show (!true) = false from rfl)]
        exact cnamed fun w3 e3 => pur (not_b _) (hJ0 _ _ ⟨e1.trans e3, fun _ => rfl⟩)
  refine cCut (fun hc => ?_) (fun a b w1 hc e1 => ?_) hl
  · exact pur (extract_0 _ _) (pur (extract_1 _ _ _) (pur (extract_2 _ _ _ _) (pur (not_b _) (body s [] false (Ext.refl _ _) (fun _ => by unfold splitP; rw [hc]) fun h => by cases h))))
  · exact pur (extract_0 _ _) (pur (extract_1 _ _ _) (pur (extract_2 _ _ _ _) (pur (not_b _) (body a b true e1 (fun h => by cases h) fun _ => by unfold splitP; rw [hc]))))
theorem NamR.get {ad : Nat → Option Nat} {b : Nat} {way : Way} (h : NamR T ad w b way) (x : El) : (mget way x = none ∧ RunS Tryz.prog (Instr.lookup 70 (.map (some b)) (encE x) true) (fun v w' => v = .tuple [.pointer none, .bool false].toArray ∧ w' = w) w) ∨
    ∃ i gf, mget way x = some i ∧ ad i = some gf ∧ RunS Tryz.prog (Instr.lookup 70 (.map (some b)) (encE x) true) (fun v w' => v = .tuple [ptrE gf, .bool true].toArray ∧ w' = w) w := by
  obtain ⟨_, ⟨m, hm, hml, hg⟩, hs⟩ := h
  cases hx : mget way x with
  | none =>
    refine .inl ⟨rfl, hm.lookup2 MTnam x ?_⟩
    rw [hg, hx]; exact ⟨rfl, rfl⟩
  | some i =>
    have hmem : ∃ p ∈ way, p.2 = i := by
      unfold mget at hx
      obtain ⟨p, hp, hpe⟩ := Option.map_eq_some_iff.1 hx
      exact ⟨p, List.mem_of_find?_eq_some hp, hpe⟩
    obtain ⟨p, hp, rfl⟩ := hmem
    obtain ⟨gf, hgf⟩ := Option.isSome_iff_exists.1 (hs p hp)
    refine .inr ⟨p.2, gf, rfl, hgf, hm.lookup2 MTnam x ?_⟩
    rw [hg, hx]
    simp only [Option.bind_some, hgf]
    exact ⟨rfl, trivial⟩
theorem runS_mono {P : Program} {s : Sem Value} {K K' : Value → World → Prop} {w : World} (h : RunS P s K w) (hK : ∀ v w', K v w' → K' v w') : RunS P s K' w := by
  unfold RunS at h ⊢
  split at h
  · rename_i v w' hv
    exact hK _ _ h
  · exact h.elim
theorem Dx.file {md : Nat} {dm : List (El × Nat)} {ad : Nat → Option Nat} (h : Dx T d w g st md dm ad) {s : El} (hl : s.length ≤ 9223372036854775806)
    (h0 : ∀ e w', st.file s = .error e → Ext No w w' → e ≠ 0 → K (.tuple [.pointer none, .int .i64 e].toArray) w')
    (h1 : ∀ i gf f w', st.file s = .ok i → ad i = some gf → st.files[i]? = some f → FilR T d i w' gf f → Ext No w w' → K (.tuple [ptrE gf, .int .i64 0].toArray) w') : CallS Tryz.prog 33 #[.pointer (some ⟨g, 0, none⟩), encE s] K w := by
  refine s33_call hm ?_
  unfold s33
  refine h.path hl (fun e w1 hp e1 => ?_) fun D n gd w1 hp hgd hD e1 => ?_
  · have he : e = 1 ∨ e = 6 := by
      unfold Dk.path at hp
      split at hp
      · injection hp with hp; exact .inl hp.symm
      · split at hp
        · injection hp with hp; exact .inr hp.symm
        · cases hp
    have hne : e ≠ 0 := by rcases he with rfl | rfl <;> decide
    refine pur (extract_0 _ _) (pur (extract_1 _ _ _) (pur (extract_2 _ _ _ _) (pur (bin_neq _ _ _) (condT (by simpa using hne) (h0 e w1 (by unfold Dk.file; rw [hp]) e1 hne)))))
  · refine pur (extract_0 _ _) (pur (extract_1 _ _ _) (pur (extract_2 _ _ _ _) (pur (v := .bool false) ((bin_neq _ _ _).trans (by simp)) (condF rfl ?_))))
    obtain ⟨_, mn, wv, bs, hb, hN, _⟩ := hD
    refine pur (nil_ptr _) (pur (field_ptr _ _ _) (loadB hb (v := .map (some mn)) rfl ?_))
    rcases hN.get n with ⟨hx, hr⟩ | ⟨i, gf, hx, hgf, hr⟩
    · refine runS_mono hr ?_
      rintro _ w2 ⟨rfl, hw⟩
      obtain rfl := hw.symm
      exact pur (extract_0 _ _) (pur (extract_1 _ _ _) (pur (not_b _) (condT rfl (h0 6 w1 (by unfold Dk.file; rw [hp]; simp only [hx]) e1 (by decide)))))
    · refine runS_mono hr ?_
      rintro _ w2 ⟨rfl, hw⟩
      obtain rfl := hw.symm
      obtain ⟨f, hf1, hf2⟩ := (h.no e1).body.fil i gf hgf
      exact pur (extract_0 _ _) (pur (extract_1 _ _ _) (pur (not_b _) (condF rfl (h1 i gf f w1 (by unfold Dk.file; rw [hp]; simp only [hx]) hgf hf1 hf2 e1))))
def Dk.findD (st : Dk) (s : El) : Except Int Di := if nameOk s then (match st.dir s with | none => .error 6 | some D => .ok D) else .error 1
theorem Dx.find {md : Nat} {dm : List (El × Nat)} {ad : Nat → Option Nat} (h : Dx T d w g st md dm ad) {s : El}
    (h0 : ∀ e w', st.findD s = .error e → e ≠ 0 → Ext No w w' → K (.tuple [.pointer none, .int .i64 e].toArray) w')
    (h1 : ∀ D gd w', st.findD s = .ok D → mget dm D.name = some gd → DirR T d ad w' gd D → Ext No w w' → K (.tuple [ptrE gd, .int .i64 0].toArray) w') : CallS Tryz.prog 75 #[.pointer (some ⟨g, 0, none⟩), encE s] K w := by
  refine s75_call hm ?_
  unfold s75
  refine cnamed fun w1 e1 => pur (not_b _) (condB (fun hc => ?_) (fun hc => ?_))
  · exact h0 1 w1 (by unfold Dk.findD; rw [if_neg (by simpa using hc)]) (by decide) e1
  · have hn : nameOk s = true := by simpa using hc
    have h3 := h.no e1
    refine h3.ldDirs (h3.body.mdR.lookup2 MTdir s (pur (extract_0 _ _) (pur (extract_1 _ _ _) (pur (not_b _) ?_))))
    cases hd : st.dir s with
    | none =>
      rw [h3.body.dirs_none hd]
      exact condT rfl (h0 6 w1 (by unfold Dk.findD; rw [if_pos hn, hd]) (by decide) e1)
    | some D =>
      obtain ⟨gd, hg1, hg2⟩ := h3.body.dirs_some hd
      rw [hg1]
      exact condF rfl (h1 D gd w1 (by unfold Dk.findD; rw [if_pos hn, hd]) (by rw [(Dk.dir_some hd).2]; exact hg1) hg2 e1)
end
end Go.Proofs.YthohdinjpkehpaaGreat

namespace Go.Proofs.YthohdinjpkehpaaGreat
open Go SG Go.RowKit Go.Lib
set_option linter.unusedVariables false
set_option maxRecDepth 4000
set_option linter.unusedSimpArgs false

def wput : Way → El → Nat → Way
  | [], x, i => [(x, i)]
  | (y, j) :: r, x, i => if ltE x y then (x, i) :: (y, j) :: r else if x = y then (x, i) :: r else (y, j) :: wput r x i
def Ord (l : Way) : Prop := l.Pairwise fun p q => ltE p.1 q.1 = true
theorem ltE_ne {x y : El} (h : ltE x y = true) : x ≠ y := fun he => by rw [he, lt_irr] at h; cases h
theorem Ord.keys {l : Way} (h : Ord l) : Keys l := by
  unfold Keys
  rw [List.Nodup, List.pairwise_map]
  exact h.imp fun h => ltE_ne h
theorem wput_mem {l : Way} {x : El} {i : Nat} : ∀ {p : El × Nat}, p ∈ wput l x i → p = (x, i) ∨ p ∈ l := by
  induction l with
  | nil => intro p h; simp [wput] at h; exact .inl h
  | cons q r ih =>
    intro p h
    obtain ⟨y, j⟩ := q
    simp only [wput] at h
    split at h
    · rcases List.mem_cons.1 h with h | h
      · exact .inl h
      · exact .inr h
    · split at h
      · rcases List.mem_cons.1 h with h | h
        · exact .inl h
        · exact .inr (List.mem_cons_of_mem _ h)
      · rcases List.mem_cons.1 h with h | h
        · exact .inr (by rw [h]; simp)
        · exact (ih h).imp id (List.mem_cons_of_mem _)
theorem Ord.put {l : Way} (h : Ord l) (x : El) (i : Nat) : Ord (wput l x i) := by
  induction l with
  | nil => simp [wput, Ord]
  | cons q r ih =>
    obtain ⟨y, j⟩ := q
    have h' := List.pairwise_cons.1 h
    simp only [wput]
    split
    · rename_i hlt
      refine List.pairwise_cons.2 ⟨fun p hp => ?_, h⟩
      rcases List.mem_cons.1 hp with rfl | hp
      · exact hlt
      · exact lt_trans hlt (h'.1 p hp)
    · rename_i hlt
      split
      · rename_i he
        subst he
        exact List.pairwise_cons.2 ⟨fun p hp => h'.1 p hp, h'.2⟩
      · rename_i hne
        refine List.pairwise_cons.2 ⟨fun p hp => ?_, ih h'.2⟩
        rcases wput_mem hp with rfl | hp
        · cases hyx : ltE y x with
          | true => rfl
          | false => exact absurd (lt_tot (by simpa using hlt) hyx) hne
        · exact h'.1 p hp
theorem Ord.del {l : Way} (h : Ord l) (x : El) : Ord (mdel l x) := List.Pairwise.sublist List.filter_sublist h
theorem mget_wput {l : Way} (h : Ord l) (x : El) (i : Nat) (z : El) : mget (wput l x i) z = if z = x then some i else mget l z := by
  induction l with
  | nil =>
    simp only [wput, mget_cons]
    by_cases hz : z = x
    · subst hz; simp
    · rw [if_neg (fun h => hz h.symm), if_neg hz]
  | cons q r ih =>
    obtain ⟨y, j⟩ := q
    have h' := List.pairwise_cons.1 h
    simp only [wput]
    split
    · rename_i hlt
      rw [mget_cons]
      by_cases hz : z = x
      · subst hz; simp
      · rw [if_neg (fun h => hz h.symm), if_neg hz]
    · rename_i hlt
      split
      · rename_i he
        subst he
        rw [mget_cons, mget_cons]
        by_cases hz : z = x
        · subst hz; simp
        · rw [if_neg (fun h => hz h.symm), if_neg hz, if_neg (fun h => hz h.symm)]
      · rename_i hne
        rw [mget_cons, mget_cons, ih h'.2]
        by_cases hz : z = x
        · subst hz
          rw [if_neg (fun h => hne h.symm)]; simp
        · rw [if_neg hz, if_neg hz]
theorem wput_len {l : Way} (h : Ord l) (x : El) (i : Nat) : (wput l x i).length = if (mget l x).isSome then l.length else l.length + 1 := by
  induction l with
  | nil => simp [wput, mget]
  | cons q r ih =>
    obtain ⟨y, j⟩ := q
    have h' := List.pairwise_cons.1 h
    simp only [wput]
    split
    · rename_i hlt
      have : mget ((y, j) :: r) x = none := mget_none.2 fun hm' => by
        obtain ⟨p, hp, hpe⟩ := List.mem_map.1 hm'
        rcases List.mem_cons.1 hp with rfl | hp
        · simp only at hpe; subst hpe; rw [lt_irr] at hlt; cases hlt
        · have := lt_trans hlt (h'.1 p hp)
          rw [hpe, lt_irr] at this; cases this
      rw [this]; simp
    · split
      · rename_i he
        subst he
        rw [mget_cons]; simp
      · rename_i hne
        have hm' : mget ((y, j) :: r) x = mget r x := by rw [mget_cons, if_neg (fun h : y = x => hne h.symm)]
        rw [hm', List.length_cons, ih h'.2, List.length_cons]
        cases mget r x <;> simp
theorem mdel_len {l : Way} (h : Keys l) (x : El) : (mdel l x).length = if (mget l x).isSome then l.length - 1 else l.length := by
  cases hg : mget l x with
  | none => rw [mdel_out (mget_none.1 hg)]; simp
  | some v =>
    have hx : x ∈ l.map (·.1) := mget_isSome.1 (by rw [hg]; rfl)
    obtain ⟨i, hi⟩ := List.getElem?_of_mem hx
    rw [mdel_at h hi]
    have hl := (List.getElem?_eq_some_iff.1 hi).1
    rw [List.length_eraseIdx]
    simp at hl ⊢
    omega
theorem mput_len2 {κ ν : Type} [DecidableEq κ] {m : List (κ × ν)} (x : κ) (v : ν) : (mput m x v).length = if (mget m x).isSome then m.length else m.length + 1 := mput_length x v
theorem eq_nil_map {P : Program} {t k e : TypeId} (h : P.underlying t = some (.map k e)) {x y : Operand} {b : Nat} {w : World} {K : Value → World → Prop} (hK : K (.bool false) w) :
    RunS P (do eqGuard .eql t x y (.map (some b)) (.map none); binOp .eql t (.map (some b)) (.map none)) K w := by
  refine runS (v := .bool false) (w' := w) ?_ hK
  rw [eqGuard_at_map]
  have hin : ∀ d, (Op.equalIn (d + 1) t (.map (some b)) (.map none)).run P w = .ok false w := fun d => by simp [Op.equalIn, run_underlying h]
  have : (Op.equal t (.map (some b)) (.map none)).run P w = .ok false w := hin 9999
  simp [binOp, this]
theorem cMcl {w : World} {b : Nat} {m : List (El × Nat)} (h : MapR w b encE ptrE m) {K : Value → World → Prop}
    (hK : ∀ w', MapR w' w.heap.size encE ptrE m → Ext No w w' → w'.heap.size = w.heap.size + 1 → K (.map (some w.heap.size)) w') : CallS Tryz.prog 123 #[.map (some b)] K w := by
  obtain ⟨es, clock, hb, hr⟩ := h
  refine s123_call hm ?_
  unfold s123
  refine eq_nil_map Tryz.underlying70 (condF rfl ?_)
  refine ⟨.iface 70 (.map (some w.heap.size)), w.alloc (.map es.toArray clock), ?_, ?_⟩
  · show (callFunc 135 #[.iface 70 (.map (some b))]).run Tryz.prog w = _
    rw [run_callFunc_extern Tryz.func135 (by kernel_rfl) (by kernel_rfl) (by kernel_rfl) (e := Extern.MapsClone.clone) (by kernel_rfl)]
    have e : Extern.MapsClone.clone #[.iface 70 (.map (some b))] = (getObj b >>= fun o => match o with
      | .map entries clock => (newObj (.map entries clock) >>= fun n => pure (.iface 70 (.map (some n))))
      | _ => stuck "maps.clone: a map expected") := rfl
    rw [e]
    simp [MapKept.run_getObj_map hb, Result.andThen, go_sem]
  · refine runS (v := .map (some w.heap.size)) (w' := w.alloc (.map es.toArray clock)) (by simp [Instr.typeAssert, run_underlying Tryz.underlying70, go_sem, Result.andThen]) (hK _ ⟨es, clock, heap_alloc_new w _, hr⟩ (Ext.alloc _ _) (by simp))
def Dirt (d : Nat) (x : El) : Tag → Prop := fun t => t = .own d (.dir x)
theorem TNM : ElemT Tryz.prog 71 70 1 8 (.map none) := ⟨Tryz.underlying71, by kernel_rfl, rfl, by decide, by decide⟩
section
variable {T : Tags} {w : World} {d n : Nat} {ad : Nat → Option Nat} {K : Value → World → Prop}
set_option maxHeartbeats 1000000 in
theorem DirR.changes {gd : Nat} {D : Di} (h : DirR T d ad w gd D) (hn : D.was.length ≤ 4398046511104) {fv : Value}
    (hK : ∀ (w1 : World) (T1 : Tags) (mb : Nat) (m : List (El × Nat)) (wv : Value) (bs : List (Way × Nat)), w.heap.size ≤ mb → T1 gd = .own d (.dir D.name) → Blk w1 gd 73 [.map (some mb), wv] → MapR w1 mb encE ptrE m → m.length = D.now.length → (∀ x, mget m x = (mget D.now x).bind ad) → bs.map (·.1) = D.was ++ [D.now] → w1.ownsRow 0 70 1 wv (D.was ++ [D.now]).length (bs.map fun (p : Way × Nat) => .map (some p.2)) →
      (∀ b, wv.ownBlock = some b → T1 b = .own d (.dir D.name)) → (∀ p ∈ bs, NamR T1 ad w1 p.2 p.1 ∧ p.2 < w.heap.size) → Gon (Dirt d D.name) w T w1 T1 → T1 mb = .ice → CallV' Tryz.prog false fv [.map (some mb)] NoP (fun _ w => K (.tuple #[]) w) w1) : CallS Tryz.prog 73 #[ptrE gd, fv] K w := by
  obtain ⟨hT, mn, wv, bs, hb, hN, hbs, hrow, hwT, hall⟩ := h
  obtain ⟨hNT, ⟨m, hM, hml, hg⟩, hNs⟩ := hN
  refine s73_call hm ?_
  unfold s73
  have hgw := Own.ne_blk hrow hb (by decide)
  have e0 : Ext No w w.drew := Ext.drew w
  have hbl : bs.length = D.was.length := by rw [← hbs]; simp
  refine draw (fun w' => Blk w' gd 73 [.map (some mn), wv]) (hb.no e0) ?_
  refine pur (nil_ptr _) (pur (field_ptr _ _ _) (pur (nil_ptr _) (pur (field_ptr _ _ _) (heldC (v := wv) (fun w' hh => hh.cell 1) (heldC (v := .map (some mn)) (fun w' hh => hh.cell 0) ?_)))))
  refine build1 TNM rfl fun w1 b1 e1 z1 => ⟨(hb.no e0).no e1, ?_⟩
  have e01 := e0.trans e1
  refine append_sl TNM 71 (owns_ext hrow e01 fun _ _ hh => hh) (b1.sl (n := 1) (c := 1) (size := 1) rfl (Nat.le_refl _)) (by simp [Value.oneCell', Value.cells]) (by omega) (by omega) (Nat.zero_le _) fun wv2 w2 ho2 hg2 hat => ?_
  have e2 : Ext (fun b => wv.ownBlock = some b) w1 w2 := Ext.grown hg2 fun b hb => hb
  have hb2 : Blk w2 gd 73 [.map (some mn), wv] := (hb.no e01).ext e2 hgw
  refine pur (nil_ptr _) (pur (field_ptr _ _ _) (storeB hb2 (by simp) (Own.one ho2) fun w3 b3 e3 z3 => ?_))
  have b3' : Blk w3 gd 73 [.map (some mn), wv2] := b3
  have hwM : ¬ (wv.ownBlock = some mn) := fun hh => by have := hwT mn hh; rw [hNT] at this; cases this
  have hgM : gd ≠ mn := fun hh => by rw [hh, hNT] at hT; cases hT
  have hM3 : MapR w3 mn encE ptrE m := ((hM.no e01).ext e2 hwM).ext e3 fun hh => hgM (by rw [show mn = gd from hh])
  refine pur (nil_ptr _) (pur (field_ptr _ _ _) (loadB b3' (v := .map (some mn)) rfl (cMcl hM3 fun w4 hM4 e4 z4 => ?_)))
  have b4 := b3'.no e4
  refine pur (nil_ptr _) (pur (field_ptr _ _ _) (storeB b4 (by simp) rfl fun w5 b5 e5 z5 => ?_))
  have b5' : Blk w5 gd 73 [.map (some w3.heap.size), wv2] := b5
  refine pur (nil_ptr _) (pur (field_ptr _ _ _) (loadB b5' (v := .map (some w3.heap.size)) rfl ?_))
  have hgl := hb.lt
  have hs1 := e01.size
  have hs2 := e2.size
  have hs3 := e3.size
  -- marks
  let T1 : Tags := fun b => if b = w3.heap.size then .ice else if wv2.ownBlock = some b then .own d (.dir D.name) else T b
  have hwf : ∀ b, wv2.ownBlock = some b → wv.ownBlock = some b ∨ w.heap.size ≤ b := fun b hb' => by
    rcases hat with h | h
    · exact .inl (by rw [← h]; exact hb')
    · rw [h] at hb'
      have : b = w1.heap.size := by simpa using hb'.symm
      right; omega
  have hTs : ∀ b, b < w.heap.size → T1 b = T b := fun b hb' => by
    show (if b = w3.heap.size then _ else _) = _
    rw [if_neg (by omega)]
    split
    · rename_i hh
      rcases hwf b hh with h | h
      · exact (hwT b h).symm
      · omega
    · rfl
  have hwlt : ∀ b, wv2.ownBlock = some b → b < w3.heap.size := fun b hb' => by have := (ho2.lt b hb').2; omega
  have k : Gon (Dirt d D.name) w T w5 T1 := ⟨by
    have a1 : Ext (fun b => Dirt d D.name (T b)) w w2 := e01.no.trans (e2.mono fun b hb' _ => hwT b hb')
    have a2 : Ext (fun b => Dirt d D.name (T b)) w2 w3 := e3.mono fun b hb' _ => by rw [show b = gd from hb']; exact hT
    have a3 : Ext (fun b => Dirt d D.name (T b)) w4 w5 := e5.mono fun b hb' _ => by rw [show b = gd from hb']; exact hT
    exact a1.trans (a2.trans (e4.no.trans a3)), hTs⟩
  have hne5 : w3.heap.size ≠ gd := by omega
  have e25 : Ext (At1 gd) w2 w5 := e3.trans (e4.no.trans e5)
  have hgw2 : ∀ b, wv2.ownBlock = some b → ¬ At1 gd b := fun b hb' hh => Own.ne_blk ho2 hb2 (by decide) (by rw [hb', show b = gd from hh])
  have hice : ¬ Dirt d D.name .ice := fun h => by cases h
  refine hK w5 T1 w3.heap.size m wv2 (bs ++ [(D.now, mn)]) (by omega) (by rw [hTs gd hgl]; exact hT) b5' (hM4.ext e5 hne5) hml hg (by rw [List.map_append, hbs]; rfl) ?_ (fun b hb' => ?_) (fun p hp => ?_) k (if_pos rfl)
  · have := owns_ext ho2 e25 hgw2
    rw [List.length_append, List.map_append]
    exact this
  · show (if b = w3.heap.size then _ else _) = _
    rw [if_neg (by have := hwlt b hb'; omega), if_pos hb']
  · rcases List.mem_append.1 hp with hp | hp
    · obtain ⟨_, ⟨_, hl, _⟩, _⟩ := hall p hp
      exact ⟨(hall p hp).keep k hice, hl.lt⟩
    · simp only [List.mem_singleton] at hp
      subst hp
      exact ⟨NamR.keep ⟨hNT, ⟨m, hM, hml, hg⟩, hNs⟩ k hice, hM.lt⟩
end
end Go.Proofs.YthohdinjpkehpaaGreat

namespace SG
open Go Go.RowKit Go.Lib
set_option linter.unusedSimpArgs false
set_option linter.unusedVariables false
theorem zc_one (z : Value) (n : Nat) : (Builtin.zeroCells #[z] n) = (List.replicate n z).toArray := by
  apply Array.ext'
  rw [zeroCells_one]
section
variable {P : Program} {t e : TypeId} {bytes : Nat} {z : Value}
theorem append_zeros (hT : ElemT P t e 1 bytes z) (hzc : z.cells = #[z]) (hz1 : z.oneCell' = true) {tn : TypeId} {kn k : IntKind} (htn : P.underlying tn = some (.int kn)) (ty : TypeId) {w : World} {base n m : Nat} {v : Value} {xs : List Value} {K : Value → World → Prop}
    (hown : w.ownsRow base e 1 v n xs) (h0 : 0 < m) (hbytes : (n + m) * bytes ≤ 140737488355328) (h63 : n + m ≤ 140737488355328) (hbase : base ≤ w.heap.size)
    (hK : ∀ v' w', w'.ownsRow base e 1 v' (n + m) (xs ++ List.replicate m z) → w.grownBy w' v.ownBlock → (v'.ownBlock = v.ownBlock ∨ v'.ownBlock = some w.heap.size) → K v' w') : RunS P (Builtin.append_ #[t, tn] ty [v, .int k (m : Int)].toArray) K w := by
  obtain ⟨i, hi, hz, hs, hb⟩ := info_parts hT.info
  have hxl : xs.length = n := by have := hown.1; omega
  have hm : m ≠ 0 := by omega
  have hw : IntKind.i64.wrap (m : Int) = m := by rw [IntKind.wrap_i64]; omega
  have hneg : ¬ ((m : Int) < 0) := by omega
  have hmb : m * bytes ≤ 140737488355328 := Nat.le_trans (Nat.mul_le_mul_right _ (by omega)) hbytes
  have h48i : ¬ (281474976710656 < (m : Int) * (i.bytes : Int)) := by
    rw [← Int.natCast_mul, hb]
    omega
  have hns : ¬ (m * i.size = 0) := by rw [hs]; omega
  have grown : ∀ (old : Nat), old < n + m → ∀ (row : Option Nat),
      (w.drew.alloc (.cells ((xs ++ List.replicate m z ++ List.replicate (grownCap w (n + m) old e - (n + m)) z)).toArray e)).ownsRow base e 1
        (.slice (some ⟨w.heap.size, 0, none⟩) (n + m) (grownCap w (n + m) old e)) (n + m) (xs ++ List.replicate m z) ∧
      w.grownBy (w.drew.alloc (.cells ((xs ++ List.replicate m z ++ List.replicate (grownCap w (n + m) old e - (n + m)) z)).toArray e)) row := by
    intro old ho row
    have hge := grownCap_ge w (n + m) old e
    have hcm : grownCap w (n + m) old e ≤ maxLen := grownCap_le_maxLen w (n + m) old e (by unfold maxLen; omega)
    refine ⟨⟨by simp; omega, .inr ⟨w.heap.size, _, _, rfl, hbase, heap_alloc_new w.drew _, hge, hcm, ?_, ?_⟩⟩, ⟨rfl, rfl, rfl, by simp, fun k hk _ => heap_alloc_old w.drew _ k hk⟩⟩
    · simp; omega
    · have : (n + m) * 1 = (xs ++ List.replicate m z).length := by simp; omega
      rw [this]
      exact List.take_left
  rcases hown.2 with ⟨rfl, rfl⟩ | ⟨g, cap, cur, rfl, hbg, hg, hnc, hcm, hcs, htake⟩
  · have hx : xs = [] := List.eq_nil_of_length_eq_zero hxl
    subst hx
    have hr := run_append_nil_zeros (P := P) w t tn ty e i z k kn hT.under htn hi hz m h0 (by omega) (by omega) (by rw [hb]; omega)
    have hgr := grown 0 (by omega) (Value.ownBlock (.slice none 0 0))
    simp only [Nat.zero_add, List.nil_append] at hgr hK
    refine runS (w' := w.drew.alloc (.cells ((List.replicate m z ++ List.replicate (grownCap w m 0 e - m) z)).toArray e)) (v := .slice (some ⟨w.heap.size, 0, none⟩) m (grownCap w m 0 e)) ?_ (hK _ _ hgr.1 hgr.2 (.inr rfl))
    show (Builtin.append_ #[t, tn] ty #[.slice none 0 0, .int k (m : Int)]).run P w = _
    rw [hr, hzc, zc_one, zc_one]
    simp
  · by_cases hroom : n + m ≤ cap
    · have hbk : Blk w g e cur.toList := by unfold Blk; simpa using hg
      have hcl : cur.toList.length = cap := by simp; omega
      obtain ⟨w', hst, hbl, hex, hsz⟩ := store_cells (P := P) hbk (o := n) (vs := List.replicate m z) (by simp; omega) (fun u hu => by rw [(List.mem_replicate.1 hu).2]; exact hz1)
      have hr : (Builtin.append_ #[t, tn] ty #[.slice (some ⟨g, 0, none⟩) n cap, .int k (m : Int)]).run P w = .ok (.slice (some ⟨g, 0, none⟩) (n + m) cap) w' := by
        have ha : (⟨g, 0, none⟩ : Addr).add (n * i.size) = ⟨g, n, none⟩ := by rw [hs, Addr.add_mk]; simp
        simp [Builtin.append_, run_underlying hT.under, run_underlying htn, Go.sizeOf, typeInfo, zeroValue, hi, hz, asInt, asIntOf, hw, hm, hneg, hns, h48i, hroom, hzc, zc_one, ha, hst]
      refine runS hr (hK _ _ ⟨by simp; omega, .inr ⟨g, cap, _, rfl, hbg, hbl, hroom, hcm, ?_, ?_⟩⟩ hex.to_grown (.inl rfl))
      · simp; omega
      · have h1 : cur.toList.take n = xs := by rw [← htake, Nat.mul_one]
        rw [h1]
        have : (n + m) * 1 = (xs ++ List.replicate m z).length := by simp; omega
        rw [this]
        exact List.take_left
    · have holds : ∀ j u, xs[j]? = some u → w.cell? ((⟨g, 0, none⟩ : Addr).add j) = some u := hown.cells (g := g) rfl
      have hn' : ¬ (n + m ≤ cap) := hroom
      have h63' : ¬ (9223372036854775807 < ((n : Int) + (m : Int))) := by omega
      have h48' : ¬ (281474976710656 < Builtin.nextslicecap (n + m) cap * i.bytes) := by
        have := growslice_fits (need := n + m) (old := cap) (bytes := bytes) (by omega) hbytes
        rw [hb]; omega
      have hfo := run_firstCells_some (P := P) w.drew i.size n ⟨g, 0, none⟩ n cap xs (by rw [hs]; omega) (by simpa using holds)
      have hgr := grown cap (by omega) (Value.ownBlock (.slice (some ⟨g, 0, none⟩) n cap))
      refine runS (w' := w.drew.alloc (.cells ((xs ++ List.replicate m z ++ List.replicate (grownCap w (n + m) cap e - (n + m)) z)).toArray e)) (v := .slice (some ⟨w.heap.size, 0, none⟩) (n + m) (grownCap w (n + m) cap e)) ?_ (hK _ _ hgr.1 hgr.2 (.inr rfl))
      show (Builtin.append_ #[t, tn] ty #[.slice (some ⟨g, 0, none⟩) n cap, .int k (m : Int)]).run P w = _
      simp [Builtin.append_, run_underlying hT.under, run_underlying htn, Go.sizeOf, typeInfo, zeroValue, hi, hz, asInt, asIntOf, hw, hm, hneg, hns, h48i, hn', h63', h48', Question.forced, hfo, hzc, zc_one, newRow, grownCap]
      congr 2
      apply Array.ext'
      simp
end
theorem copyB {P : Program} {dT sT ty e : TypeId} {w : World} {g o n c m : Nat} {t : TypeId} {cs vs : List Value} {x : Value} {K : Value → World → Prop} (hu : P.underlying dT = some (.slice e)) (hs : (P.info? e).map (·.size) = some 1)
    (hb : Blk w g t cs) (hx : Sl w x m 1 vs) (h1 : ∀ v ∈ vs, v.oneCell' = true) (hm : m ≤ n) (hfit : o + m ≤ cs.length)
    (hK : ∀ v w', Blk w' g t (cs.take o ++ vs ++ cs.drop (o + m)) → Ext (At1 g) w w' → w'.heap.size = w.heap.size → K v w') : RunS P (Builtin.copy_ #[dT, sT] ty [.slice (some ⟨g, o, none⟩) n c, x].toArray) K w := by
  obtain ⟨A, cx, rfl, hl, hc, h0, hA⟩ := hx
  cases A with
  | none =>
    have hz := h0 rfl
    subst hz
    have hv : vs = [] := List.eq_nil_of_length_eq_zero (by simpa using hl)
    subst hv
    have hr : (Builtin.copy_ #[dT, sT] ty #[.slice (some ⟨g, o, none⟩) n c, .slice none 0 cx]).run P w = .ok (goInt 0) w := by
      cases hq : P.info? e with
      | none => simp [hq] at hs
      | some i => simp [Builtin.copy_, run_underlying hu, Builtin.lenOf, Builtin.firstCells, Go.sizeOf, typeInfo, hq, storeCells]
    refine runS hr (hK _ w (by simpa using hb) (Ext.refl _ _) rfl)
  | some a =>
    have hg : w.heap[g]? = some (.cells cs.toArray t (0, 0)) := hb
    have hvl : vs.length = m := by simpa using hl
    have hr := run_copy_row (P := P) w dT sT ty e g o n c a m cx cs.toArray t vs hu hs hg (by rw [hvl]; exact (Nat.min_eq_left hm).symm) (hA a rfl) (by simp; omega) h1
    obtain ⟨q1, q2, q3⟩ := setRow_blk hb (cs.take o ++ vs ++ cs.drop (o + m))
    refine runS hr (hK _ _ ?_ ?_ ?_)
    · simpa [hvl] using q1
    · simpa [hvl] using q2
    · simp
end SG

namespace Go.Proofs.YthohdinjpkehpaaGreat
open Go SG Go.RowKit
set_option linter.unusedVariables false
set_option maxRecDepth 4000
set_option linter.unusedSimpArgs false

theorem TB : ElemT Tryz.prog 34 5 1 1 (.int .u8 0) := ⟨Tryz.underlying34, by kernel_rfl, rfl, by decide, by decide⟩
theorem u8info : (Tryz.prog.info? 5).map (·.size) = some 1 := by kernel_rfl
abbrev SlB (w : World) (v : Value) (l : Bys) : Prop := Sl w v l.length 1 (byteCells l)
theorem Byt.sl {T : Tags} {w : World} {v : Value} {l : Bys} (h : Byt T w v l) : SlB w v l := Sl.own h.1
theorem cCLB {w : World} {v : Value} {l : Bys} (hv : SlB w v l) (hl : l.length ≤ 140737488355328) {K : Value → World → Prop}
    (hK : ∀ v' w', w'.ownsRow w.heap.size 5 1 v' l.length (byteCells l) → Ext No w w' → K v' w') : CallS Tryz.prog 32 #[v] K w := by
  refine s32_call hm ?_
  unfold s32
  obtain ⟨A, c, rfl, hlen, hc, h0, hA⟩ := hv
  refine eq_nil_slice Tryz.underlying34 (condB (fun hn => ?_) (fun hn => ?_))
  · cases A with
    | some a => cases hn
    | none =>
      have hz : l.length = 0 := h0 rfl
      obtain rfl := List.length_eq_zero_iff.1 hz
      exact hK _ w (World.ownsRow_nil _ _ _ _) (Ext.refl _ _)
  · refine build0 TB fun w1 b1 e1 z1 => ?_
    have hs : Sl w (.slice A l.length c) l.length 1 (byteCells l) := ⟨A, c, rfl, hlen, hc, h0, hA⟩
    refine append_sl TB 34 (base := w.heap.size) (b1.owns rfl (Nat.le_refl _) (by omega)) (hs.no e1) (byteCells_one l) (by omega) (by omega) e1.size fun v2 w2 ho2 hg2 _ => ?_
    have e2 : Ext No w w2 := e1.fresh (Ext.grown (S := At1 w.heap.size) hg2 fun b hb => by simpa [Value.ownBlock, At1, eq_comm] using hb) fun b hb => .inr (by rw [show b = w.heap.size from hb]; exact Nat.le_refl _)
    exact hK v2 w2 (by simpa using ho2) e2
theorem byteCells_take (l : Bys) (n : Nat) : byteCells (l.take n) = (byteCells l).take n := by unfold byteCells; rw [List.map_take]
theorem byteCells_drop (l : Bys) (n : Nat) : byteCells (l.drop n) = (byteCells l).drop n := by unfold byteCells; rw [List.map_drop]
theorem byteCells_zeros (n : Nat) : List.replicate n (Value.int .u8 0) = byteCells (List.replicate n (0 : UInt8)) := by unfold byteCells; rw [List.map_replicate]; rfl
theorem sl_takeB {w : World} {v : Value} {l : Bys} (h : SlB w v l) {n : Nat} (hn : n ≤ l.length) (k : IntKind) : ∃ v', sliceV 1 v none (some (.int k (n : Int))) = some v' ∧ SlB w v' (l.take n) ∧ (v'.ownBlock = v.ownBlock ∨ v'.ownBlock = none) := by
  obtain ⟨v', h1, h2, h3⟩ := sl_take h hn k
  refine ⟨v', h1, ?_, ?_⟩
  · have : (l.take n).length = n := by simp; omega
    unfold SlB
    rw [this, byteCells_take]
    simpa using h2
  · obtain ⟨A, c, rfl, _⟩ := h
    simp only [sliceV, boundV] at h1
    split at h1
    · simp only [Option.bind_some] at h1
      cases h1
      cases A with
      | none => split <;> exact .inr rfl
      | some a => split <;> exact .inl (by simp [Value.ownBlock, Addr.add_block])
    · cases h1
set_option maxHeartbeats 1000000 in
theorem cover {w : World} {bv v : Value} {l b : Bys} {k : Nat} (hb : SlB w v b) (hl : SlB w bv l) (hbv : bv.oneCell' = true) (hk : k ≤ b.length) (h0 : 0 < l.length) (h1 : b.length ≤ 35184372088832) (h2 : l.length ≤ 35184372088832) {K : Value → World → Prop}
    (hK : ∀ v' w', w'.ownsRow w.heap.size 5 1 v' (overB b k l).length (byteCells (overB b k l)) → Ext No w w' → K v' w') : CallS Tryz.prog 80 #[.agg #[.int .i64 (k : Int), bv], v] K w := by
  refine s80_call hm ?_
  unfold s80
  refine box fun w1 b1 e1 z1 => ?_
  have b1' : Blk w1 w.heap.size 94 [.int .i64 (k : Int), bv] := b1
  refine join1 (fun u w' => ∃ c : Bys, c.length = max b.length (k + l.length) ∧ c.take k = b.take k ∧ c.drop (k + l.length) = b.drop (k + l.length) ∧ w'.ownsRow w1.heap.size 5 1 u c.length (byteCells c) ∧ Ext No w1 w') ?_ fun J0 hJ0 => ?_
  · rintro u w2 ⟨c, hc1, hc2, hc3, hu, e2⟩
    have e2d : Ext No w1 w2.drew := e2.trans (Ext.drew w2)
    refine draw (fun w' => w' = w2.drew) rfl (pur (field_ptr _ _ _) (pur (field_ptr _ _ _) ?_))
    have bb := b1'.no e2d
    refine heldC (v := .int .i64 (k : Int)) (fun w' hh => by rw [hh]; exact bb.cell 0) ?_
    have hud := owns_ext hu (Ext.drew (S := No) w2) fun _ _ hh => hh
    have hud0 := hud
    rcases hud.2 with ⟨rfl, h⟩ | ⟨g, cap, cur, rfl, hbg, hg, hnc, hcm, hcs, htake⟩
    · omega
    refine pur (v := .slice (some ⟨g, k, none⟩) (c.length - k) (cap - k)) ?_ (heldC (v := bv) (fun w' hh => by rw [hh]; exact bb.cell 1) ?_)
    · unfold sliceV
      simp only [boundV, Option.bind_some]
      rw [if_pos ⟨by omega, by omega⟩]
      simp only [Option.bind_some, Int.toNat_natCast]
      rw [if_neg (by omega)]
      simp [Addr.add_mk]
    · have hbk : Blk w2.drew g 5 cur.toList := by unfold Blk; simpa using hg
      have hlb : SlB w2.drew bv l := (hl.no e1).no e2d
      have hcl : cur.toList.length = cap := by simp at hcs ⊢; omega
      refine copyB Tryz.underlying34 u8info hbk hlb (byteCells_one l) (by omega) (by omega) fun _ w3 b3 e3 z3 => ?_
      have e13 : Ext No w w3 := (e1.trans e2d).fresh e3 fun x hx => .inr (by rw [show x = g from hx]; have := e1.size; omega)
      have hov : (overB b k l).length = c.length := by rw [overB_len hk, hc1]
      refine hK _ w3 ?_ e13
      rw [hov]
      refine ⟨by rw [byteCells_length, hov]; omega, .inr ⟨g, cap, (cur.toList.take k ++ byteCells l ++ cur.toList.drop (k + l.length)).toArray, rfl, by have := e1.size; omega, b3, hnc, hcm, ?_, ?_⟩⟩
      · simp [byteCells_length]; simp at hcl; omega
      · have ht : cur.toList.take c.length = byteCells c := by simpa using htake
        have e1' : cur.toList.take k = byteCells (b.take k) := by
          rw [← hc2, byteCells_take, ← ht, List.take_take, Nat.min_eq_left (by omega)]
        have e2' : (cur.toList.drop (k + l.length)).take (c.length - (k + l.length)) = byteCells (b.drop (k + l.length)) := by
          rw [← hc3, byteCells_drop, ← ht, List.drop_take]
        unfold overB
        rw [e1', byteCells_append, byteCells_append, ← e2', Nat.mul_one]
        have hlen : (byteCells (b.take k) ++ byteCells l).length = k + l.length := by simp [byteCells_length]; omega
        rw [List.take_append, hlen, List.take_of_length_le (by rw [hlen]; omega)]
  · refine pur (field_ptr _ _ _) (loadB b1' (v := .int .i64 (k : Int)) rfl (pur (field_ptr _ _ _) (loadB b1' (v := bv) rfl (pur hl.len (pur (add64 (c := ((k + l.length : Nat) : Int)) (by omega) (by omega) (by omega)) (pur hb.len (pur (bin_gtr _ _ _) (condD (fun hgt => ?_) (fun hle => ?_)))))))))
    · refine cCLB (hb.no e1) (by omega) fun v2 w2 ho2 e2 => ?_
      refine pur hb.len (pur (sub64 (c := ((k + l.length - b.length : Nat) : Int)) (by omega) (by omega) (by omega)) ?_)
      refine append_zeros TB rfl rfl Tryz.underlying3 34 ho2 (by omega) (by omega) (by omega) e2.size fun v3 w3 ho3 hg3 hat => hJ0 _ _ ⟨b ++ List.replicate (k + l.length - b.length) 0, ?_, ?_, ?_, ?_, ?_⟩
      · simp; omega
      · rw [List.take_append_of_le_length hk]
      · rw [List.drop_of_length_le (by simp; omega), List.drop_of_length_le (by omega)]
      · rw [byteCells_append, ← byteCells_zeros, List.length_append, List.length_replicate]; exact ho3
      · exact e2.fresh (Ext.grown (S := fun x => v2.ownBlock = some x) hg3 fun x hx => hx) fun x hx => .inr (ho2.lt x hx).1
    · refine cCLB (hb.no e1) (by omega) fun v2 w2 ho2 e2 => hJ0 _ _ ⟨b, by omega, rfl, rfl, ho2, e2⟩
end Go.Proofs.YthohdinjpkehpaaGreat

