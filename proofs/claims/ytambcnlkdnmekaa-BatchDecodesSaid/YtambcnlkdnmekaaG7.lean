/- The generic layer, eighth part: a range over a function, its rounds; iterators. -/
import Derived.Test.YtambcnlkdnmekaaG6
namespace SG
open Go Go.RowKit
set_option linter.unusedSimpArgs false
set_option linter.unusedVariables false

/-- an operation that hands one slot on to another -/
def asg1 (o : Oper) : Option (Nat × Nat) :=
  match o.op with
  | .assign (.tmp t) => (match o.dst with | some d => cond o.guard.isNone (some (t, d)) none | none => none)
  | _ => none
def asgF : List Oper → Fr → Option Fr
  | [], F => some F
  | o :: r, F => match asg1 o with
    | some (t, d) => (match F t with | some v => asgF r (F.upd d v) | none => none)
    | none => none
def asgA : List Oper → Act → Act
  | [], a => a
  | o :: r, a => match asg1 o with
    | some (t, d) => asgA r (a.put (some d) (a.tmps.getD t undef))
    | none => a
def paramF : List Tmp → List Value → Fr → Fr
  | p :: ps, v :: vs, F => paramF ps vs (F.upd p v)
  | _, _, F => F
def paramG : Nat → List Tmp → List Value → Fr → Fr
  | _, [], _, F => F
  | i, p :: ps, vs, F => paramG (i + 1) ps vs (F.upd p (vs.getD i undef))
theorem paramG_eq : ∀ (ps : List Tmp) (i : Nat) (vs : List Value) (F : Fr), vs.length = i + ps.length → paramG i ps vs F = paramF ps (vs.drop i) F
  | [], i, vs, F, h => by simp [paramG, paramF]
  | p :: ps, i, vs, F, h => by
    simp only [List.length_cons] at h
    have hi : i < vs.length := by omega
    rw [List.drop_eq_getElem_cons hi]
    have e : vs.getD i undef = vs[i] := by simp [List.getD, List.getElem?_eq_getElem hi]
    simp only [paramG, paramF, e]
    exact paramG_eq ps (i + 1) vs _ (by omega)
def RangeS (P : Program) (v : Value) (np : Nat) (rnd : List Value → (World → Prop) → World → Prop) (after : Nat → World → Prop) (w : World) : Prop :=
  match v with
  | .func (.func gf) first lb => first = #[] ∧ okFunc P gf = true ∧ ∃ (α : Type) (encs : α → List Value) (Kp : World → World → Prop) (S Sp : List α → Prop) (N : Nat) (I : List α → World → Prop),
      SeqStopsK Fence.wide 0 P gf lb (fun x => (encs x).toArray) Kp S Sp N w ∧ (∀ x, (encs x).length = np) ∧ (∀ A B C : World, Kp A B → Kp B C → Kp A C) ∧
      (∀ (W : World) (l : Nat) (o o' : Obj), w.heap.size ≤ l → W.heap[l]? = some o → o.isCells = false → o.isWalk = false → Kp W (W.putObj l o')) ∧ OwnFrom w.heap.size I ∧ I [] w ∧
      (∀ pre x W, I pre W → pre.length < N → rnd (encs x) (fun W' => KeepsFrom w.heap.size W W' ∧ Kp W W' ∧ I (pre ++ [x]) W') W) ∧
      (∀ D xs W, w.heap.size ≤ D → S xs → I xs W → W.heap[D]? = some (.deferred (some [])) → after D W)
  | _ => False
def isRange (c : Code) : Option (Code × Nat × Operand × Array Tmp × Nat × Array Oper × Code) :=
  match c with
  | .seq b0 (.block id (.rangeFunc g ps (.region rid ops false) bd)) => some (b0, id, g, ps, rid, ops, bd)
  | _ => none
theorem isRange_some {c b0 bd : Code} {id rid : Nat} {g : Operand} {ps : Array Tmp} {ops : Array Oper} (h : isRange c = some (b0, id, g, ps, rid, ops, bd)) : c = .seq b0 (.block id (.rangeFunc g ps (.region rid ops false) bd)) := by
  unfold isRange at h
  split at h
  · simp only [Option.some.injEq, Prod.mk.injEq] at h
    obtain ⟨rfl, rfl, rfl, rfl, rfl, rfl, rfl⟩ := h
    rfl
  · cases h
def denG (P : Program) (rs : List ResultVar) (K : Value → World → Prop) : Code → Ann → Fr → World → Prop
  | .seq a rest, ann, F, w => match ann with
    | .q x y => (match isRange a with
      | some (b0, _, g, ps, _, ops, bd) => (match x with
        | .q xb xd => den P false NoP b0 xb (fun e F' w' => match e with
            | .normal => withV (F'.ev g) fun v => RangeS P v ps.size
                (fun vs KW W => match asgF ops.toList (paramG 0 ps.toList vs F') with
                  | some F2 => den P false NoP bd xd (fun e _ W' => match e with | .normal => KW W' | _ => False) F2 W
                  | none => False)
                (fun D W => den P false NoP rest y (fun e F'' w'' => match e with
                  | .normal => w''.heap[D]? = some (.deferred (some [])) ∧ resV P rs F'' (w''.putObj D (.deferred none)) fun v => K v (w''.putObj D (.deferred none))
                  | .ret => w''.heap[D]? = some (.deferred (some [])) ∧ resV P rs F'' (w''.putObj D (.deferred none)) fun v => K v (w''.putObj D (.deferred none))
                  | _ => False) F' W) w'
            | _ => False) F w
        | _ => False)
      | none => den P false NoP a x (fun e F' w' => match e with | .normal => denG P rs K rest y F' w' | .ret => resV P rs F' w' fun v => K v w' | _ => False) F w)
    | _ => False
  | _, _, _, _ => False
def okG (n : Nat) : Code → Ann → Bool
  | .seq a rest, ann => match ann with
    | .q x y => (match isRange a with
      | some (b0, _, g, ps, _, ops, bd) => (match x with
        | .q xb xd => annOk b0 xb && dstsOk n b0 && annOk bd xd && dstsOk n bd && noDraw bd && annOk rest y && dstsOk n rest && ps.toList.all (fun p => Nat.blt p n) &&
            ops.toList.all (fun o => match asg1 o with | some (_, d) => Nat.blt d n | none => false)
        | _ => false)
      | none => annOk a x && dstsOk n a && okG n rest y)
    | _ => false
  | _, _ => false

section
variable {P : Program}
theorem asg1_some {o : Oper} {t d : Nat} (h : asg1 o = some (t, d)) : o.op = .assign (.tmp t) ∧ o.dst = some d ∧ o.guard = none := by
  unfold asg1 at h
  split at h
  · rename_i t' he
    split at h
    · rename_i d' hd
      cases hg : o.guard.isNone with
      | false => rw [hg] at h; cases h
      | true =>
        rw [hg] at h
        simp only [cond_true, Option.some.injEq, Prod.mk.injEq] at h
        obtain ⟨rfl, rfl⟩ := h
        exact ⟨he, hd, by simpa using hg⟩
    · cases h
  · cases h
theorem asg_wp {r : Option Nat} {fu : Nat} {ops : Array Oper} {Q : Exit → Act → World → Prop} : ∀ (l : List Oper) (a : Act) (w : World), (∀ o ∈ l, (asg1 o).isSome = true) → Q .normal (asgA l a) w → wpListIn (FR r) fu P ops Q l a w
  | [], a, w, _, h => h
  | o :: l, a, w, hl, h => by
    obtain ⟨⟨t, d⟩, htd⟩ := Option.isSome_iff_exists.1 (hl o (by simp))
    obtain ⟨h1, h2, h3⟩ := asg1_some htd
    unfold wpListIn
    have hw : Region.wanted o (yielded ops a.tmps) = true := by simp [Region.wanted, h3]
    rw [if_pos hw]
    refine ⟨fun _ _ => trivial, ?_⟩
    rw [Oper.semAt_eq _ _ _ (fun c hc => by rw [h1] at hc; cases hc)]
    have hex : (execOp a.eval o).run P w = .ok (.value (a.tmps.getD t undef)) w := by simp [execOp, h1, Act.eval]
    rw [hex]
    show wpListIn (FR r) fu P ops Q l (a.put o.dst _) w
    rw [h2]
    refine asg_wp l _ w (fun o ho => hl o (by simp [ho])) ?_
    simp only [asgA, htd] at h
    exact h
theorem asg_agree {n : Stat} : ∀ (l : List Oper) (F F2 : Fr) (a : Act), (∀ o ∈ l, ∀ t d, asg1 o = some (t, d) → n.wr d) → Agree n F a → asgF l F = some F2 → Agree n F2 (asgA l a)
  | [], F, F2, a, _, ha, h => by simp only [asgF, Option.some.injEq] at h; subst h; exact ha
  | o :: l, F, F2, a, hd, ha, h => by
    unfold asgF at h
    unfold asgA
    cases htd : asg1 o with
    | none => rw [htd] at h; cases h
    | some td =>
      obtain ⟨t, d⟩ := td
      rw [htd] at h
      simp only at h ⊢
      cases hF : F t with
      | none => rw [hF] at h; cases h
      | some v =>
        rw [hF] at h
        simp only at h
        have hv := ha.vals t v hF
        have := ha.put (d := some d) (fun t' ht' => by cases ht'; exact hd o (by simp) t d htd) v
        rw [hv]
        exact asg_agree l _ F2 _ (fun o ho => hd o (by simp [ho])) this h
theorem param_agree {N : Nat} : ∀ (ps : List Tmp) (vs : List Value) (F : Fr) (tm : Array Value), (∀ p ∈ ps, p < N) → Agree ⟨N, [], fun _ => none⟩ F { tmps := tm, defers := [] } →
    Agree ⟨N, [], fun _ => none⟩ (paramF ps vs F) { tmps := (ps.zip vs).foldl (fun t (p, v) => t.setIfInBounds p v) tm, defers := [] }
  | [], vs, F, tm, _, h => by simpa [paramF] using h
  | p :: ps, [], F, tm, _, h => by simpa [paramF] using h
  | p :: ps, v :: vs, F, tm, hp, h => by
    have := h.put (d := some p) (fun t ht => by cases ht; exact ⟨hp p (by simp), rfl⟩) v
    exact param_agree ps vs _ _ (fun q hq => hp q (by simp [hq])) this

theorem denG_sound (hm : P.follows .mixedOrders = true) {fn : Func} {rs : Array ResultVar} (hrs : fn.results = rs) {N : Nat} {K : Value → World → Prop} : ∀ (c : Code) (ann : Ann) (F : Fr) (a : Act) (w : World), okG N c ann = true → Agree ⟨N, [], fun _ => none⟩ F a → denG P rs.toList K c ann F w →
    c.wpIn Fence.wide 1 P (bodyPostM Fence.wide 1 P fn fun e w' => match e with | .returned v => K v w' | _ => False) a w := by
  intro c
  induction c with
  | seq x rest _ ih =>
    intro ann F a w hok ha h
    cases ann <;> try exact h.elim
    rename_i ax ay
    unfold denG at h
    unfold okG at hok
    simp only at h hok
    have hres : ∀ F' a' w', Agree ⟨N, [], fun _ => none⟩ F' a' → resV P rs.toList F' w' (fun v => K v w') → LeavesInM Fence.wide 1 P fn a'.tmps (fun e w' => match e with | .returned v => K v w' | _ => False) a'.defers .returning w' := fun F' a' w' ha' hr => by
      rw [ha'.st.defers]
      obtain ⟨v, hv, hK⟩ := resV_run (P := P) ha' w' fn hrs hr
      exact ⟨v, hv, hK⟩
    cases hir : isRange x with
    | none =>
      rw [hir] at h hok
      simp only [Bool.and_eq_true] at h hok
      obtain ⟨⟨h1, h2⟩, h3⟩ := hok
      refine wpIn_seq (wpIn_mono (wpIn_wide.2 (den_sound hm x ax _ F a w h1 (dstsOk_mem h2) ha h)) fun e a' w' he => ?_)
      cases e with
      | normal => obtain ⟨F', ha', _, hQ⟩ := he; exact ih ay F' a' w' h3 ha' hQ
      | ret => obtain ⟨F', ha', _, hQ⟩ := he; exact hres F' a' w' ha' hQ
      | exit id => obtain ⟨F', ha', _, hQ⟩ := he; exact hQ.elim
      | goto l => obtain ⟨F', ha', _, hQ⟩ := he; exact hQ.elim
      | panic ch => exact he.2.elim
      | outgrown => exact he.elim
    | some tup =>
      obtain ⟨b0, id, g, ps, rid, ops, bd⟩ := tup
      rw [hir] at h hok
      obtain rfl := isRange_some hir
      simp only at h hok
      cases ax <;> try exact h.elim
      rename_i xb xd
      simp only [Bool.and_eq_true] at hok
      obtain ⟨⟨⟨⟨⟨⟨⟨⟨k1, k2⟩, k3⟩, k4⟩, k5⟩, k6⟩, k7⟩, k8⟩, k9⟩ := hok
      refine wpIn_seq (wpIn_seq (wpIn_mono (wpIn_wide.2 (den_sound hm b0 xb _ F a w k1 (dstsOk_mem k2) ha h)) fun e a' w' he => ?_))
      cases e with
      | ret => obtain ⟨F', ha', _, hQ⟩ := he; exact hQ.elim
      | exit id => obtain ⟨F', ha', _, hQ⟩ := he; exact hQ.elim
      | goto l => obtain ⟨F', ha', _, hQ⟩ := he; exact hQ.elim
      | panic ch => exact he.2.elim
      | outgrown => exact he.elim
      | normal =>
        obtain ⟨F', ha', _, hQ⟩ := he
        obtain ⟨v, hv, hR⟩ := withV_some hQ
        unfold RangeS at hR
        split at hR
        rotate_left
        · exact hR.elim
        rename_i gf first lb
        obtain ⟨rfl, hokf, α, encs, Kp, S, Sp, M, I, hseq, hlen, hKt, hKb, hI, hI0, hrnd, haft⟩ := hR
        have hg := ha'.ev hv
        have hasg : ∀ o ∈ ops.toList, (asg1 o).isSome = true ∧ ∀ t d, asg1 o = some (t, d) → d < N := fun o ho => by
          have := List.all_eq_true.1 k9 o ho
          cases h1 : asg1 o with
          | none => rw [h1] at this; cases this
          | some td =>
            rw [h1] at this
            exact ⟨rfl, fun t d hh => by cases hh; exact Nat.le_of_ble_eq_true this⟩
        refine wpIn_block (wpIn_rangeFunc_ownG (n := 1) (encs := fun x => (encs x).toArray) (Kp := Kp) (S := S) (Sp := Sp) (N := M) (w0 := w') rfl (Nat.le_refl _) hg trivial (fun args w => callFunc_ok hokf args w) hseq (fun {A B C} => hKt A B C) hKb (Below.refl _ _)
          (fun x => by simp [hlen x]) I (fun _ _ _ => False) hI (fun _ _ _ _ _ hh _ _ => hh) hI0
          (fun x => asgA ops.toList { tmps := (ps.zip (encs x).toArray).foldl (fun t (p, v) => t.setIfInBounds p v) a'.tmps, defers := [] }) ?_ ?_ ?_ ?_)
        · intro l x W KK hKK
          exact wpIn_region_list (asg_wp (r := some l) ops.toList _ W (fun o ho => (hasg o ho).1) hKK)
        · intro l pre x W hi hlt
          have hr : (match asgF ops.toList (paramG 0 ps.toList (encs x) F') with | some F2 => den P false NoP bd xd (fun e _ W' => match e with | .normal => (KeepsFrom w'.heap.size W W' ∧ Kp W W' ∧ I (pre ++ [x]) W') | _ => False) F2 W | none => False) := hrnd pre x W hi hlt
          have hpa : Agree ⟨N, [], fun _ => none⟩ (paramF ps.toList (encs x) F') { tmps := (ps.zip (encs x).toArray).foldl (fun t (p, v) => t.setIfInBounds p v) a'.tmps, defers := [] } := by
            have hbase : Agree ⟨N, [], fun _ => none⟩ F' { tmps := a'.tmps, defers := [] } := ⟨⟨ha'.st.size, rfl, ha'.st.fix⟩, ha'.vals⟩
            have := param_agree ps.toList (encs x) F' a'.tmps (fun p hp => Nat.le_of_ble_eq_true (List.all_eq_true.1 k8 p hp)) hbase
            have e : (ps.zip (encs x).toArray).foldl (fun t (p, v) => t.setIfInBounds p v) a'.tmps = (ps.toList.zip (encs x)).foldl (fun t (p, v) => t.setIfInBounds p v) a'.tmps := by
              rw [← Array.foldl_toList, Array.toList_zip]
            rw [e]
            exact this
          rw [paramG_eq ps.toList 0 (encs x) F' (by rw [hlen x]; simp), List.drop_zero] at hr
          split at hr
          · rename_i F2 hF2
            have ha2 := asg_agree ops.toList _ F2 _ (fun o ho t d hh => ⟨(hasg o ho).2 t d hh, rfl⟩) hpa hF2
            refine wpIn_mono (den_soundIn (rd := some l) (fu := 0) hm bd xd _ F2 _ W (.inr k5) k3 (dstsOk_mem k4) ha2 hr) fun e a3 W3 he => ?_
            cases e with
            | normal => obtain ⟨_, _, _, hh⟩ := he; exact hh
            | ret => obtain ⟨F', ha', _, hQ⟩ := he; exact hQ.elim
            | exit id => obtain ⟨F', ha', _, hQ⟩ := he; exact hQ.elim
            | goto l => obtain ⟨F', ha', _, hQ⟩ := he; exact hQ.elim
            | panic ch => exact he.2.elim
            | outgrown => exact he.elim
          · exact hr.elim
        · intro D xs W hD hS hi hmk
          have hd := haft D xs W hD hS hi hmk
          have hsa : Agree ⟨N, [{ target := .collected D, args := #[] }], fun _ => none⟩ F' { a' with defers := { target := .collected D, args := #[] } :: a'.defers } :=
            ⟨⟨ha'.st.size, by simp [ha'.st.defers], ha'.st.fix⟩, ha'.vals⟩
          have hwr : ∀ d ∈ dsts rest, (⟨N, [{ target := .collected D, args := #[] }], fun _ => none⟩ : Stat).wr d := fun d hd => ⟨(dstsOk_mem k7 d hd).1, rfl⟩
          refine wpIn_mono (wpIn_wide.2 (den_sound hm rest ay _ F' _ W k6 hwr hsa hd)) fun e a3 W3 he => ?_
          have hfin : ∀ F3, Agree ⟨N, [{ target := .collected D, args := #[] }], fun _ => none⟩ F3 a3 → (W3.heap[D]? = some (.deferred (some [])) ∧ resV P rs.toList F3 (W3.putObj D (.deferred none)) fun v => K v (W3.putObj D (.deferred none))) →
              LeavesInM Fence.wide 1 P fn a3.tmps (fun e w' => match e with | .returned v => K v w' | _ => False) a3.defers .returning W3 := fun F3 ha3 ⟨hD3, hr3⟩ => by
            rw [ha3.st.defers]
            refine ⟨by simp, .inl ⟨D, _, rfl, run_takeDeferred hD3, ?_⟩⟩
            obtain ⟨v, hv, hK⟩ := resV_run (P := P) ha3 _ fn hrs hr3
            exact ⟨v, hv, hK⟩
          cases e with
          | normal => obtain ⟨F3, ha3, _, hh⟩ := he; exact hfin F3 ha3 hh
          | ret => obtain ⟨F3, ha3, _, hh⟩ := he; exact hfin F3 ha3 hh
          | exit id => obtain ⟨F', ha', _, hQ⟩ := he; exact hQ.elim
          | goto l => obtain ⟨F', ha', _, hQ⟩ := he; exact hQ.elim
          | panic ch => exact he.2.elim
          | outgrown => exact he.elim
        · intro D c pre W _ _ hh; exact hh.elim
  | _ => intro ann F a w hok; cases ann <;> cases hok

theorem fn_range (hm : P.follows .mixedOrders = true) {f : FuncId} {fn : Func} {c : Code} (hf : P.funcs[f]? = some fn) (hb : fn.body = some c) {ann : Ann} {args : List Value} {rs : Array ResultVar} (hrs : fn.results = rs) {m : Nat}
    (hn : fn.ntmps = args.length + m) (hok : okG (args.length + m) c ann = true) {K : Value → World → Prop} {w : World} (h : denG P rs.toList K c ann (argF args 0) w) : CallS P f args.toArray K w := by
  refine callsIn_wide.1 (callsIn_of_wp_marks (n := 1) hf hb trivial ?_ rfl)
  have hsz : fn.ntmps - args.toArray.size = m := by simp [hn]
  rw [hsz]
  exact denG_sound hm hrs c ann _ _ w hok (argF_agree args m) h

/-- an iterator's contract, from its walk -/
theorem stops_of {α : Type} {gf : Nat} {lb : Array Value} {encs : α → List Value} {Kp : World → World → Prop} {S Sp : List α → Prop} {N : Nat} {w : World}
    (h : ∀ (l : Nat) (J Jx : List α → World → Prop) (W : World), Below w.heap.size w W → AbidesFrom W.heap.size J →
      (∀ pre x W1 (K : Value → World → Prop), J pre W1 → pre.length < N → (∀ W', J (pre ++ [x]) W' → Kp W1 W' → K (.bool true) W') → (∀ W', Jx (pre ++ [x]) W' → K (.bool false) W') → YieldS P l (encs x).toArray K W1) →
      J [] W → CallS P gf (#[.func (.yield l) #[] #[]] ++ lb) (fun _ W' => (∃ xs, S xs ∧ J xs W') ∨ (∃ pre, Sp pre ∧ Jx pre W')) W) :
    SeqStopsK Fence.wide 0 P gf lb (fun x => (encs x).toArray) Kp S Sp N w := by
  intro l J Jx W hW hJ hJx hY h0
  refine callsIn_wide.2 (Calls.mono (h l J Jx W hW hJ ?_ h0) fun e W' he => ?_)
  · intro pre x W1 K hJ1 hlt ht hf
    obtain ⟨fn, tmps, assign, body, h1, h2⟩ := hY pre x W1 hJ1 hlt
    refine ⟨fn, tmps, assign, body, h1, h2.mono fun e W' he => ?_⟩
    rcases he with ⟨rfl, hh, hk⟩ | ⟨rfl, hh⟩
    · exact ht W' hh hk
    · exact hf W' hh
  · cases e with
    | returned v => exact ⟨⟨v, rfl⟩, he⟩
    | _ => exact he.elim
theorem callY {l : Nat} {args : List Value} {K : Value → World → Prop} {Kp : List PanicEntry → World → Prop} {w : World} (h : YieldS P l args.toArray K w) : CallV' P false (.func (.yield l) #[] #[]) args Kp K w := by
  show cond true (YieldS P l (#[] ++ args.toArray) K w) False
  simpa using h
end
end SG
