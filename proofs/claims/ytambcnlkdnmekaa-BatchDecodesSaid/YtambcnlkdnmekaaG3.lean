/- The generic layer, fourth part: operations, lists of operations and regions. -/
import Derived.Test.YtambcnlkdnmekaaG2
namespace SG
open Go
set_option linter.unusedSimpArgs false
set_option linter.unusedVariables false

section
variable {P : Program}

theorem run_sem {ρ : Operand → Value} {o : Oper} {s : Sem Value} (h : execOp ρ o = (do pure (.value (← s)))) (w : World) :
    (execOp ρ o).run P w = (s.run P w).andThen fun v w' => .ok (.value v) w' := by
  rw [h]; simp

theorem map_arr {α β : Type} (f : α → β) (xs : Array α) : xs.map f = (xs.toList.map f).toArray := by cases xs; simp

theorem semOf_sound {F : Fr} {ρ : Operand → Value} (hρ : ∀ x v, F.ev x = some v → ρ x = v) (o : Oper) {K : Sem Value → Prop} (h : semOf F o.op o.type K) :
    ∃ s, K s ∧ ∀ w, (execOp ρ o).run P w = (s.run P w).andThen fun v w' => .ok (.value v) w' := by
  obtain ⟨dst, op, type, pos, after, guard⟩ := o
  simp only at h
  cases op <;> simp only [semOf] at h <;> try exact h.elim
  case binOp op t x y y' =>
    obtain ⟨vx, hx, h1⟩ := withV_some h
    obtain ⟨vy, hy, h2⟩ := withV_some h1
    exact ⟨_, h2, fun w => run_sem (by simp [execOp, hρ x _ hx, hρ y _ hy]) w⟩
  case convert s d x =>
    obtain ⟨vx, hx, h1⟩ := withV_some h
    exact ⟨_, h1, fun w => run_sem (by simp [execOp, hρ x _ hx]) w⟩
  case build t ps =>
    have h1 := evps_some hρ _ _ h
    exact ⟨_, h1, fun w => run_sem (by simp [execOp, map_arr]) w⟩
  case buildSlice t n ps =>
    have h1 := evps_some hρ _ _ h
    exact ⟨_, h1, fun w => run_sem (by simp [execOp, map_arr]) w⟩
  case makeMap t r =>
    have h1 := evo_some hρ _ _ h
    exact ⟨_, h1, fun w => run_sem (by simp [execOp]) w⟩
  case makeSlice t l c =>
    obtain ⟨vx, hx, h1⟩ := withV_some h
    obtain ⟨vy, hy, h2⟩ := withV_some h1
    exact ⟨_, h2, fun w => run_sem (by simp [execOp, hρ _ _ hx, hρ _ _ hy]) w⟩
  case lookup t x i ok =>
    obtain ⟨vx, hx, h1⟩ := withV_some h
    obtain ⟨vy, hy, h2⟩ := withV_some h1
    exact ⟨_, h2, fun w => run_sem (by simp [execOp, hρ _ _ hx, hρ _ _ hy]) w⟩
  case range t x =>
    obtain ⟨vx, hx, h1⟩ := withV_some h
    exact ⟨_, h1, fun w => run_sem (by simp [execOp, hρ x _ hx]) w⟩
  case next x b =>
    obtain ⟨vx, hx, h1⟩ := withV_some h
    exact ⟨_, h1, fun w => run_sem (by simp [execOp, hρ x _ hx]) w⟩
  case entry x =>
    obtain ⟨vx, hx, h1⟩ := withV_some h
    exact ⟨_, h1, fun w => run_sem (by simp [execOp, hρ x _ hx]) w⟩
  case typeAssert x t u ok =>
    obtain ⟨vx, hx, h1⟩ := withV_some h
    exact ⟨_, h1, fun w => run_sem (by simp [execOp, hρ x _ hx]) w⟩
  case call c =>
    obtain ⟨callee, args, argTypes⟩ := c
    simp only at h
    split at h <;> try exact h.elim
    all_goals
      have h1 := evs_some hρ _ _ h
      exact ⟨_, h1, fun w => by simp [execOp, resolve, invoke, builtin, map_arr, Result.andThen]⟩

theorem isAgg_run {t : TypeId} (h : (P.underlying t).isSome = true) (w : World) : (isAgg t).run P w = .ok (isAggT P t) w := by
  obtain ⟨d, hd⟩ := Option.isSome_iff_exists.1 h
  unfold isAgg isAggT
  simp only [Sem.run_bind, run_underlying hd, Result.andThen_ok, hd]
  cases d <;> rfl
theorem info_of_underlying {t : TypeId} (h : (P.underlying t).isSome = true) : ∃ i, P.info? t = some i := by
  unfold Program.underlying at h
  cases hi : P.info? t with
  | none => rw [hi] at h; cases h
  | some i => exact ⟨i, rfl⟩
theorem isAggT_some {t : TypeId} (h : isAggT P t = true) : (P.underlying t).isSome = true := by
  unfold isAggT at h
  cases hu : P.underlying t with
  | none => rw [hu] at h; cases h
  | some d => rfl
theorem sizeOf_run {t : TypeId} {i : TypeInfo} (h : P.info? t = some i) (w : World) : (Go.sizeOf t).run P w = .ok (P.cellsOf t) w := by
  simp [Go.sizeOf, typeInfo, h, Program.cellsOf]

theorem loadCells_run {w : World} {a : Addr} : ∀ (n i : Nat) (xs : List Value) (acc : Array Value), xs.length = n → (∀ j v, xs[j]? = some v → w.cell? (a.add (i + j)) = some v) →
    (loadCellsFrom a i n acc).run P w = .ok (acc ++ xs.toArray) w
  | 0, i, xs, acc, hl, _ => by
    have : xs = [] := List.eq_nil_of_length_eq_zero hl
    subst this
    simp [loadCellsFrom]
  | n + 1, i, [], acc, hl, _ => by simp at hl
  | n + 1, i, x :: xs, acc, hl, h => by
    have h0 := h 0 x (by simp)
    simp only [Nat.add_zero] at h0
    have ih := loadCells_run (w := w) (a := a) n (i + 1) xs (acc.push x) (by simpa using hl) (fun j v hj => by
      have := h (j + 1) v (by simpa using hj)
      rw [show i + 1 + j = i + (j + 1) by omega]
      exact this)
    simp only [loadCellsFrom, Sem.run_bind, run_load, h0, Result.andThen_ok, ih]
    simp

theorem cell_isSome_setCell (w : World) (a b : Addr) (v : Value) (h : (w.cell? b).isSome = true) : ((w.setCell a v).cell? b).isSome = true := by
  by_cases hab : a = b
  · subst hab
    obtain ⟨u, hu⟩ := Option.isSome_iff_exists.1 h
    rw [World.cell?_setCell_same w a v hu]; rfl
  · rw [World.cell?_setCell_other w a b v hab]; exact h
theorem storeCells_run {a : Addr} : ∀ (vs : List Value) (i : Nat) (w : World), (∀ v ∈ vs, v.oneCell' = true) → (∀ j, j < vs.length → (w.cell? (a.add (i + j))).isSome = true ∧ w.frozen? (a.add (i + j)) = false) →
    (storeCells a vs i).run P w = .ok () (setCells w a i vs)
  | [], i, w, _, _ => by simp [storeCells, setCells]
  | v :: vs, i, w, h1, h => by
    obtain ⟨h0, hf⟩ := h 0 (by simp)
    simp only [Nat.add_zero] at h0 hf
    obtain ⟨u, hu⟩ := Option.isSome_iff_exists.1 h0
    have ih := storeCells_run (a := a) vs (i + 1) (w.setCell (a.add i) v) (fun v hv => h1 v (by simp [hv])) (fun j hj => by
      have := h (j + 1) (by simpa using hj)
      rw [show i + 1 + j = i + (j + 1) by omega]
      exact ⟨cell_isSome_setCell _ _ _ _ this.1, by rw [World.frozen?_setCell]; exact this.2⟩)
    simp only [storeCells, Sem.run_bind, run_store P w _ v .plain (h1 v (by simp)), hu, hf, Bool.false_eq_true, if_false, Result.andThen_ok, setCells]
    exact ih

theorem LoadC_run {t : TypeId} {v : Value} {K : Value → World → Prop} {w : World} (ht : (P.underlying t).isSome = true) (hg : isAggT P t = false) (h : LoadC v K w) :
    ∃ u, (Instr.loadAt t v).run P w = .ok u w ∧ K u w := by
  unfold LoadC at h
  split at h
  · rename_i a
    split at h
    · rename_i u hu
      exact ⟨u, by simp [Instr.loadAt, Instr.sureAddr, loadVar, isAgg_run ht, hg, hu], h⟩
    · exact h.elim
  · exact h.elim
theorem LoadA_run {t : TypeId} {v : Value} {K : Value → World → Prop} {w : World} (hg : isAggT P t = true) (h : LoadA (P.cellsOf t) v K w) :
    ∃ u, (Instr.loadAt t v).run P w = .ok u w ∧ K u w := by
  unfold LoadA at h
  split at h
  · rename_i a
    obtain ⟨xs, hl, hc, hK⟩ := h
    have ht := isAggT_some hg
    obtain ⟨i, hi⟩ := info_of_underlying ht
    refine ⟨_, ?_, hK⟩
    have := loadCells_run (P := P) (w := w) (a := a) (P.cellsOf t) 0 xs #[] hl (fun j v hj => by simpa using hc j v hj)
    simp [Instr.loadAt, Instr.sureAddr, loadVar, isAgg_run ht, hg, sizeOf_run hi, loadCells, this]
  · exact h.elim

theorem denOp_sound {pan : Bool} {F : Fr} {a : Act} (hρ : ∀ x v, F.ev x = some v → a.eval x = v) (o : Oper) {K : Value → World → Prop} {Kp : List PanicEntry → World → Prop} {w : World}
    {next : Act → World → Prop} {Q : Exit → Act → World → Prop} (hn : ∀ v w', K v w' → next (a.put o.dst v) w') (hQ : ∀ c w', Kp c w' → Q (.panic c) a w')
    (h : denOp P pan false F o.op o.type K Kp w) : o.wp P a w next Q := by
  unfold Oper.wp
  have hsem : semOf F o.op o.type (fun s => RunS P s K w) → o.upon P a next Q ((execOp a.eval o).run P w) := by
    intro h
    obtain ⟨s, hs, hr⟩ := semOf_sound (P := P) hρ o h
    rw [hr]
    unfold RunS at hs
    split at hs
    · rename_i v w' hv
      rw [hv]
      exact hn _ _ hs
    · exact hs.elim
  have hcall : ∀ (f : FuncId) (vs : Array Value), okFunc P f = true → cond pan (CallP P f vs K Kp w) (CallS P f vs K w) →
      (callFunc f vs).run P w = .ok (.enter f vs) w ∧ o.upon P a next Q (.ok (.enter f vs) w) := by
    intro f vs hok hc
    constructor
    · unfold okFunc at hok
      cases hf : P.funcs[f]? with
      | none => rw [hf] at hok; cases hok
      | some fn =>
        rw [hf] at hok
        simp only [Bool.and_eq_true, Bool.not_eq_true'] at hok
        have hb : fn.body.isNone = false := by cases hb : fn.body with | none => rw [hb] at hok; cases hok.1 | some _ => rfl
        have h2 := hok.2
        simp only [callFunc, Sem.run_bind, run_program, Result.andThen_ok, hf, h2, hb, Bool.false_eq_true, if_false, Sem.run_pure]
    · rw [Oper.upon_enter]
      cases pan with
      | true =>
        refine Calls.mono (h := (hc : CallP P f vs K Kp w)) fun e w' he => ?_
        cases e with
        | returned v => exact hn _ _ he
        | panicked c => exact hQ _ _ he
        | outgrown => exact he.elim
      | false =>
        refine Calls.mono (h := (hc : CallS P f vs K w)) fun e w' he => ?_
        cases e with
        | returned v => exact hn _ _ he
        | panicked c => exact he.elim
        | outgrown => exact he.elim
  unfold denOp at h
  cases hp : isPure P o.op with
  | true =>
    rw [hp] at h
    obtain ⟨v, hv, hK⟩ := denPure_sound (P := P) hρ o (K := fun v => K v w) h
    rw [hv w]
    exact hn _ _ hK
  | false =>
    rw [hp] at h
    simp only [cond_false] at h
    split at h
    · rename_i t x heq
      obtain ⟨v, hv, h1⟩ := withV_some h
      have hex : (execOp a.eval o).run P w = ((Instr.loadAt t v).run P w).andThen fun v w' => .ok (.value v) w' := run_sem (by simp [execOp, heq, hρ x v hv]) w
      rw [hex]
      cases hg : isAggT P t with
      | true =>
        rw [hg] at h1
        obtain ⟨u, hu, hK⟩ := LoadA_run hg h1
        rw [hu]; exact hn _ _ hK
      | false =>
        rw [hg] at h1
        obtain ⟨ht, h2⟩ := cond_true_of h1
        obtain ⟨u, hu, hK⟩ := LoadC_run ht hg h2
        rw [hu]; exact hn _ _ hK
    · rename_i t x y heq
      obtain ⟨p, hpv, h1⟩ := withV_some h
      obtain ⟨v, hv, h2⟩ := withV_some h1
      have hex : (execOp a.eval o).run P w = ((Instr.storeAt t p v).run P w).andThen fun _ w' => .ok .skip w' := by
        simp [execOp, heq, hρ x p hpv, hρ y v hv]
      rw [hex]
      cases hg : isAggT P t with
      | true =>
        rw [hg] at h2
        have h3 : StoreA (P.cellsOf t) p v (fun w' => K undef w') w := h2
        unfold StoreA at h3
        split at h3
        · rename_i ad cs
          obtain ⟨hsz, h1c, hc, hK⟩ := h3
          obtain ⟨i, hi⟩ := info_of_underlying (isAggT_some hg)
          have hst := storeCells_run (P := P) (a := ad) cs.toList 0 w (fun v hv => h1c v (by simpa using hv)) (fun j hj => by simpa using hc j (by simpa [hsz] using hj))
          simp only [Instr.storeAt, Instr.sureAddr, storeVar, Value.cells, Sem.run_bind, Sem.run_pure, Result.andThen_ok, sizeOf_run hi, hsz, ne_eq, not_true_eq_false, if_false, hst]
          exact hn _ _ hK
        · exact h3.elim
      | false =>
        rw [hg] at h2
        obtain ⟨h1c, h3⟩ := cond_true_of h2
        have h1c' : P.cellsOf t = 1 := Nat.eq_of_beq_eq_true h1c
        unfold StoreC at h3
        split at h3
        · rename_i ad
          obtain ⟨ho, hc, hf, hK⟩ := h3
          have hsz : v.cells.size = 1 := by cases v <;> first | rfl | cases ho
          have hcl : v.cells.toList = [v] := by cases v <;> first | rfl | cases ho
          have hi : ∃ i, P.info? t = some i := by
            cases hi : P.info? t with
            | none => simp [Program.cellsOf, hi] at h1c'
            | some i => exact ⟨i, rfl⟩
          obtain ⟨i, hi⟩ := hi
          have hst := storeCells_run (P := P) (a := ad) [v] 0 w (by simpa using ho) (fun j hj => by
            have : j = 0 := by simpa using hj
            subst this
            have h0 : ad.add (0 + 0) = ad := by simp [Addr.add]
            rw [h0]
            exact ⟨hc, hf⟩)
          simp only [Instr.storeAt, Instr.sureAddr, storeVar, Sem.run_bind, Sem.run_pure, Result.andThen_ok, sizeOf_run hi, hsz, h1c', ne_eq, not_true_eq_false, if_false, hcl, hst]
          have h0 : ad.add 0 = ad := by simp [Addr.add]
          simp only [setCells, h0]
          exact hn _ _ hK
        · exact h3.elim
    · rename_i t heq
      split at h
      · rename_i i hi
        split at h
        · rename_i z hz
          have hex : (execOp a.eval o).run P w = .ok (.value (.pointer (some ⟨w.heap.size, 0, none⟩))) (w.alloc (.cells z.cells t)) := by
            simp [execOp, heq, Instr.alloc, zeroValue, typeInfo, hi, hz, newVar, newRow]
          rw [hex]
          exact hn _ _ h
        · exact h.elim
      · exact h.elim
    · rename_i t x heq
      obtain ⟨v, hv, h1⟩ := withV_some h
      have hex : (execOp a.eval o).run P w = .ok (.value (.pointer (some ⟨w.heap.size, 0, none⟩))) (w.alloc (.cells v.cells t)) := by
        simp [execOp, heq, Instr.box, newVar, newRow, hρ x v hv]
      rw [hex]
      exact hn _ _ h1
    · rename_i t m k x heq
      obtain ⟨vm, hm, h1⟩ := withV_some h
      obtain ⟨vk, hk, h2⟩ := withV_some h1
      obtain ⟨vx, hx, h3⟩ := withV_some h2
      have hex : (execOp a.eval o).run P w = ((Instr.mapUpdate t vm vk vx).run P w).andThen fun _ w' => .ok .skip w' := by
        simp [execOp, heq, hρ _ _ hm, hρ _ _ hk, hρ _ _ hx]
      rw [hex]
      unfold RunU at h3
      split at h3
      · rename_i u w' hr
        rw [hr]; exact hn _ _ h3
      · exact h3.elim
    · rename_i t m k x heq
      obtain ⟨vm, hm, h1⟩ := withV_some h
      obtain ⟨vk, hk, h2⟩ := withV_some h1
      obtain ⟨vx, hx, h3⟩ := withV_some h2
      have hex : (execOp a.eval o).run P w = ((Instr.mapUpdate t vm vk vx).run P w).andThen fun _ w' => .ok .skip w' := by
        simp [execOp, heq, hρ _ _ hm, hρ _ _ hk, hρ _ _ hx]
      rw [hex]
      unfold RunU at h3
      split at h3
      · rename_i u w' hr
        rw [hr]; exact hn _ _ h3
      · exact h3.elim
    · rename_i x heq
      obtain ⟨v, hv, h1⟩ := withV_some h
      have hex : (execOp a.eval o).run P w = ((Instr.panic v).run P w).andThen fun v w' => .ok (.value v) w' := run_sem (by simp [execOp, heq, hρ x v hv]) w
      rw [hex]
      unfold PanicS at h1
      split at h1
      · rename_i u w' hr
        rw [hr]; exact hQ _ _ h1
      · exact h1.elim
    · rename_i c heq
      obtain ⟨callee, args, argTypes⟩ := c
      simp only at h
      split at h
      · rename_i f
        have h1 := evs_some hρ _ _ h
        obtain ⟨hok, h2⟩ := cond_true_of h1
        obtain ⟨hr, hu⟩ := hcall f _ hok h2
        have hex : (execOp a.eval o).run P w = (callFunc f (args.toList.map a.eval).toArray).run P w := by
          simp [execOp, heq, resolve, Deferred.ofValue, Act.eval, invoke, map_arr]
        rw [hex, hr]
        exact hu
      · rename_i x hx
        obtain ⟨v, hv, h1⟩ := withV_some h
        have h2 := evs_some hρ _ _ h1
        unfold CallV at h2
        split at h2
        · rename_i g first captured
          obtain ⟨h3, hok⟩ := h2
          obtain ⟨hr, hu⟩ := hcall g _ hok h3
          have hex : (execOp a.eval o).run P w = (callFunc g ((first ++ (args.toList.map a.eval).toArray) ++ captured)).run P w := by
            simp [execOp, heq, resolve, Deferred.ofValue, hρ _ _ hv, invoke, map_arr]
          rw [hex, hr]
          exact hu
        · exact h2.elim
        · exact h2.elim
      · rename_i b hb1 hb2
        exact hsem h
    · exact hsem h
/-! ### the same within a fence that lets all in -/
def FR (r : Option Nat) : Fence := { Fence.wide with round := r }
theorem FR_none : FR none = Fence.wide := rfl
theorem rows_wide {n : Nat} {row : String} {args : Array Value} {w : World} {R : Value → World → Prop} (h : Rows P row args w R) : RowsIn Fence.wide n P row args w R :=
  fun c cs _ => let ⟨v, w', r, s⟩ := h c cs; ⟨v, w', r, stepsIn_wide.2 s⟩
theorem uponIn_of_upon {r : Option Nat} {n : Nat} {o : Oper} {a : Act} {next : Act → World → Prop} {Q : Exit → Act → World → Prop} {x : Result Next} (h : o.upon P a next Q x) : o.uponIn (FR r) n P a next Q x := by
  unfold Oper.upon at h
  unfold Oper.uponIn
  split at h
  · exact h
  · exact h
  · exact h
  · exact ⟨fun hh => by simp [FR, Fence.wide] at hh, callsIn_wide.2 h⟩
  · exact ⟨fun hh => by simp [FR, Fence.wide] at hh, rows_wide h⟩
  · exact h
  · exact h.elim
theorem denOp_yl {pan : Bool} {F : Fr} {a : Act} (hρ : ∀ x v, F.ev x = some v → a.eval x = v) (o : Oper) {K : Value → World → Prop} {Kp : List PanicEntry → World → Prop} {w : World} (h : denOp P pan true F o.op o.type K Kp w) :
    (denOp P pan false F o.op o.type K Kp w ∨ ∃ l args, (execOp a.eval o).run P w = (Instr.yield l args).run P w ∧ YieldS P l args K w) ∧ ∀ c, o.op ≠ .defer c := by
  refine ⟨?_, fun c hc => ?_⟩
  · unfold denOp at h ⊢
    cases hp : isPure P o.op with
    | true => rw [hp] at h; exact .inl h
    | false =>
      rw [hp] at h
      simp only [cond_false] at h ⊢
      split at h <;> try exact .inl h
      rename_i c heq
      obtain ⟨callee, args, argTypes⟩ := c
      simp only at h ⊢
      split at h <;> try exact .inl h
      rename_i x hx
      obtain ⟨v, hv, h1⟩ := withV_some h
      have h2 := evs_some hρ _ _ h1
      unfold CallV at h2
      split at h2
      · left
        rename_i g first captured
        show withV (F.ev x) fun v => evs F args.toList fun vs => CallV P pan false v vs K Kp w
        rw [hv] at h ⊢
        exact h
      · right
        rename_i l first captured
        refine ⟨l, first ++ (args.toList.map a.eval).toArray, ?_, h2⟩
        simp [execOp, heq, resolve, Deferred.ofValue, hρ _ _ hv, invoke, map_arr]
      · exact h2.elim
  · unfold denOp at h
    rw [hc] at h
    simp only [isPure, cond_false, semOf] at h
theorem denOp_soundIn {r : Option Nat} {n : Nat} {pan : Bool} {F : Fr} {a : Act} (hρ : ∀ x v, F.ev x = some v → a.eval x = v) (o : Oper) {K : Value → World → Prop} {Kp : List PanicEntry → World → Prop} {w : World}
    {next : Act → World → Prop} {Q : Exit → Act → World → Prop} (hn : ∀ v w', K v w' → next (a.put o.dst v) w') (hQ : ∀ c w', Kp c w' → Q (.panic c) a w')
    (h : denOp P pan true F o.op o.type K Kp w) : o.wpIn (FR r) n P a w next Q := by
  obtain ⟨h1, hnd⟩ := denOp_yl hρ o h
  refine ⟨fun _ _ => trivial, ?_⟩
  rw [Oper.semAt_eq _ _ _ hnd]
  rcases h1 with h1 | ⟨l, args, hr, hy⟩
  · exact uponIn_of_upon (denOp_sound hρ o hn hQ h1)
  · rw [hr]
    obtain ⟨fn, tmps, assign, body, hy1, hy2⟩ := hy
    rw [hy1]
    refine ⟨fun hh => by simp [FR, Fence.wide] at hh, ?_⟩
    have h3 : RoundIn Fence.wide 0 P l fn tmps assign body w fun | .returned v, w'' => next (a.put o.dst v) w'' | .panicked chain, w'' => Q (.panic chain) a w'' | .outgrown, _ => LetsOut Q :=
      hy2.mono fun e w' he => by cases e <;> first | exact hn _ _ he | exact he.elim
    exact ⟨trivial, fun c cs _ => h3.2 c cs (room_wide _)⟩
end
end SG
