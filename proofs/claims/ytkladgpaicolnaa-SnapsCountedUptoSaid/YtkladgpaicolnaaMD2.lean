/- Several texts of ours, laid one behind the other. -/
import Derived.Test.YtkladgpaicolnaaMD1
import Derived.Test.YtkladgpaicolnaaProg
/-! The generic layer, eighth part: a range over a function, its rounds; iterators. -/
namespace SG
open Go Go.RowKit
set_option linter.unusedSimpArgs false
set_option linter.unusedVariables false

/-- an operation that hands one slot on to another -/
def asg1 (o : Oper) : Option (Nat × Nat) :=
  match o.op with
  | .assign (.tmp t) => (match o.dst with | some d => cond o.guard.isNone (some (t, d)) none | none => none)
  | _ => none
def asgF : List Oper → Fr → Option Fr
  | [], F => some F
  | o :: r, F => match asg1 o with
    | some (t, d) => (match F t with | some v => asgF r (F.upd d v) | none => none)
    | none => none
def asgA : List Oper → Act → Act
  | [], a => a
  | o :: r, a => match asg1 o with
    | some (t, d) => asgA r (a.put (some d) (a.tmps.getD t undef))
    | none => a
def paramF : List Tmp → List Value → Fr → Fr
  | p :: ps, v :: vs, F => paramF ps vs (F.upd p v)
  | _, _, F => F
def paramG : Nat → List Tmp → List Value → Fr → Fr
  | _, [], _, F => F
  | i, p :: ps, vs, F => paramG (i + 1) ps vs (F.upd p (vs.getD i undef))
theorem paramG_eq : ∀ (ps : List Tmp) (i : Nat) (vs : List Value) (F : Fr), vs.length = i + ps.length → paramG i ps vs F = paramF ps (vs.drop i) F
  | [], i, vs, F, h => by simp [paramG, paramF]
  | p :: ps, i, vs, F, h => by
    simp only [List.length_cons] at h
    have hi : i < vs.length := by omega
    rw [List.drop_eq_getElem_cons hi]
    have e : vs.getD i undef = vs[i] := by simp [List.getD, List.getElem?_eq_getElem hi]
    simp only [paramG, paramF, e]
    exact paramG_eq ps (i + 1) vs _ (by omega)
def RangeS (P : Program) (v : Value) (np : Nat) (rnd : List Value → (World → Prop) → World → Prop) (after : Nat → World → Prop) (w : World) : Prop :=
  match v with
  | .func (.func gf) first lb => first = #[] ∧ okFunc P gf = true ∧ ∃ (α : Type) (encs : α → List Value) (Kp : World → World → Prop) (S Sp : List α → Prop) (N : Nat) (I : List α → World → Prop),
      SeqStopsK Fence.wide 0 P gf lb (fun x => (encs x).toArray) Kp S Sp N w ∧ (∀ x, (encs x).length = np) ∧ (∀ A B C : World, Kp A B → Kp B C → Kp A C) ∧
      (∀ (W : World) (l : Nat) (o o' : Obj), w.heap.size ≤ l → W.heap[l]? = some o → o.isCells = false → o.isWalk = false → Kp W (W.putObj l o')) ∧ OwnFrom w.heap.size I ∧ I [] w ∧
      (∀ pre x W, I pre W → pre.length < N → rnd (encs x) (fun W' => KeepsFrom w.heap.size W W' ∧ Kp W W' ∧ I (pre ++ [x]) W') W) ∧
      (∀ D xs W, w.heap.size ≤ D → S xs → I xs W → W.heap[D]? = some (.deferred (some [])) → after D W)
  | _ => False
def isRange (c : Code) : Option (Code × Nat × Operand × Array Tmp × Nat × Array Oper × Code) :=
  match c with
  | .seq b0 (.block id (.rangeFunc g ps (.region rid ops false) bd)) => some (b0, id, g, ps, rid, ops, bd)
  | _ => none
theorem isRange_some {c b0 bd : Code} {id rid : Nat} {g : Operand} {ps : Array Tmp} {ops : Array Oper} (h : isRange c = some (b0, id, g, ps, rid, ops, bd)) : c = .seq b0 (.block id (.rangeFunc g ps (.region rid ops false) bd)) := by
  unfold isRange at h
  split at h
  · simp only [Option.some.injEq, Prod.mk.injEq] at h
    obtain ⟨rfl, rfl, rfl, rfl, rfl, rfl, rfl⟩ := h
    rfl
  · cases h
def denG (P : Program) (rs : List ResultVar) (K : Value → World → Prop) : Code → Ann → Fr → World → Prop
  | .seq a rest, ann, F, w => match ann with
    | .q x y => (match isRange a with
      | some (b0, _, g, ps, _, ops, bd) => (match x with
        | .q xb xd => den P false NoP b0 xb (fun e F' w' => match e with
            | .normal => withV (F'.ev g) fun v => RangeS P v ps.size
                (fun vs KW W => match asgF ops.toList (paramG 0 ps.toList vs F') with
                  | some F2 => den P false NoP bd xd (fun e _ W' => match e with | .normal => KW W' | _ => False) F2 W
                  | none => False)
                (fun D W => den P false NoP rest y (fun e F'' w'' => match e with
                  | .normal => w''.heap[D]? = some (.deferred (some [])) ∧ resV P rs F'' (w''.putObj D (.deferred none)) fun v => K v (w''.putObj D (.deferred none))
                  | .ret => w''.heap[D]? = some (.deferred (some [])) ∧ resV P rs F'' (w''.putObj D (.deferred none)) fun v => K v (w''.putObj D (.deferred none))
                  | _ => False) F' W) w'
            | _ => False) F w
        | _ => False)
      | none => den P false NoP a x (fun e F' w' => match e with | .normal => denG P rs K rest y F' w' | .ret => resV P rs F' w' fun v => K v w' | _ => False) F w)
    | _ => False
  | _, _, _, _ => False
def okG (n : Nat) : Code → Ann → Bool
  | .seq a rest, ann => match ann with
    | .q x y => (match isRange a with
      | some (b0, _, g, ps, _, ops, bd) => (match x with
        | .q xb xd => annOk b0 xb && dstsOk n b0 && annOk bd xd && dstsOk n bd && noDraw bd && annOk rest y && dstsOk n rest && ps.toList.all (fun p => Nat.blt p n) &&
            ops.toList.all (fun o => match asg1 o with | some (_, d) => Nat.blt d n | none => false)
        | _ => false)
      | none => annOk a x && dstsOk n a && okG n rest y)
    | _ => false
  | _, _ => false

section
variable {P : Program}
theorem asg1_some {o : Oper} {t d : Nat} (h : asg1 o = some (t, d)) : o.op = .assign (.tmp t) ∧ o.dst = some d ∧ o.guard = none := by
  unfold asg1 at h
  split at h
  · rename_i t' he
    split at h
    · rename_i d' hd
      cases hg : o.guard.isNone with
      | false => rw [hg] at h; cases h
      | true =>
        rw [hg] at h
        simp only [cond_true, Option.some.injEq, Prod.mk.injEq] at h
        obtain ⟨rfl, rfl⟩ := h
        exact ⟨he, hd, by simpa using hg⟩
    · cases h
  · cases h
theorem asg_wp {r : Option Nat} {fu : Nat} {ops : Array Oper} {Q : Exit → Act → World → Prop} : ∀ (l : List Oper) (a : Act) (w : World), (∀ o ∈ l, (asg1 o).isSome = true) → Q .normal (asgA l a) w → wpListIn (FR r) fu P ops Q l a w
  | [], a, w, _, h => h
  | o :: l, a, w, hl, h => by
    obtain ⟨⟨t, d⟩, htd⟩ := Option.isSome_iff_exists.1 (hl o (by simp))
    obtain ⟨h1, h2, h3⟩ := asg1_some htd
    unfold wpListIn
    have hw : Region.wanted o (yielded ops a.tmps) = true := by simp [Region.wanted, h3]
    rw [if_pos hw]
    refine ⟨fun _ _ => trivial, ?_⟩
    rw [Oper.semAt_eq _ _ _ (fun c hc => by rw [h1] at hc; cases hc)]
    have hex : (execOp a.eval o).run P w = .ok (.value (a.tmps.getD t undef)) w := by simp [execOp, h1, Act.eval]
    rw [hex]
    show wpListIn (FR r) fu P ops Q l (a.put o.dst _) w
    rw [h2]
    refine asg_wp l _ w (fun o ho => hl o (by simp [ho])) ?_
    simp only [asgA, htd] at h
    exact h
theorem asg_agree {n : Stat} : ∀ (l : List Oper) (F F2 : Fr) (a : Act), (∀ o ∈ l, ∀ t d, asg1 o = some (t, d) → n.wr d) → Agree n F a → asgF l F = some F2 → Agree n F2 (asgA l a)
  | [], F, F2, a, _, ha, h => by simp only [asgF, Option.some.injEq] at h; subst h; exact ha
  | o :: l, F, F2, a, hd, ha, h => by
    unfold asgF at h
    unfold asgA
    cases htd : asg1 o with
    | none => rw [htd] at h; cases h
    | some td =>
      obtain ⟨t, d⟩ := td
      rw [htd] at h
      simp only at h ⊢
      cases hF : F t with
      | none => rw [hF] at h; cases h
      | some v =>
        rw [hF] at h
        simp only at h
        have hv := ha.vals t v hF
        have := ha.put (d := some d) (fun t' ht' => by cases ht'; exact hd o (by simp) t d htd) v
        rw [hv]
        exact asg_agree l _ F2 _ (fun o ho => hd o (by simp [ho])) this h
theorem param_agree {N : Nat} : ∀ (ps : List Tmp) (vs : List Value) (F : Fr) (tm : Array Value), (∀ p ∈ ps, p < N) → Agree ⟨N, [], fun _ => none⟩ F { tmps := tm, defers := [] } →
    Agree ⟨N, [], fun _ => none⟩ (paramF ps vs F) { tmps := (ps.zip vs).foldl (fun t (p, v) => t.setIfInBounds p v) tm, defers := [] }
  | [], vs, F, tm, _, h => by simpa [paramF] using h
  | p :: ps, [], F, tm, _, h => by simpa [paramF] using h
  | p :: ps, v :: vs, F, tm, hp, h => by
    have := h.put (d := some p) (fun t ht => by cases ht; exact ⟨hp p (by simp), rfl⟩) v
    exact param_agree ps vs _ _ (fun q hq => hp q (by simp [hq])) this

theorem denG_sound (hm : P.follows .mixedOrders = true) {fn : Func} {rs : Array ResultVar} (hrs : fn.results = rs) {N : Nat} {K : Value → World → Prop} : ∀ (c : Code) (ann : Ann) (F : Fr) (a : Act) (w : World), okG N c ann = true → Agree ⟨N, [], fun _ => none⟩ F a → denG P rs.toList K c ann F w →
    c.wpIn Fence.wide 1 P (bodyPostM Fence.wide 1 P fn fun e w' => match e with | .returned v => K v w' | _ => False) a w := by
  intro c
  induction c with
  | seq x rest _ ih =>
    intro ann F a w hok ha h
    cases ann <;> try exact h.elim
    rename_i ax ay
    unfold denG at h
    unfold okG at hok
    simp only at h hok
    have hres : ∀ F' a' w', Agree ⟨N, [], fun _ => none⟩ F' a' → resV P rs.toList F' w' (fun v => K v w') → LeavesInM Fence.wide 1 P fn a'.tmps (fun e w' => match e with | .returned v => K v w' | _ => False) a'.defers .returning w' := fun F' a' w' ha' hr => by
      rw [ha'.st.defers]
      obtain ⟨v, hv, hK⟩ := resV_run (P := P) ha' w' fn hrs hr
      exact ⟨v, hv, hK⟩
    cases hir : isRange x with
    | none =>
      rw [hir] at h hok
      simp only [Bool.and_eq_true] at h hok
      obtain ⟨⟨h1, h2⟩, h3⟩ := hok
      refine wpIn_seq (wpIn_mono (wpIn_wide.2 (den_sound hm x ax _ F a w h1 (dstsOk_mem h2) ha h)) fun e a' w' he => ?_)
      cases e with
      | normal => obtain ⟨F', ha', _, hQ⟩ := he; exact ih ay F' a' w' h3 ha' hQ
      | ret => obtain ⟨F', ha', _, hQ⟩ := he; exact hres F' a' w' ha' hQ
      | exit id => obtain ⟨F', ha', _, hQ⟩ := he; exact hQ.elim
      | goto l => obtain ⟨F', ha', _, hQ⟩ := he; exact hQ.elim
      | panic ch => exact he.2.elim
      | outgrown => exact he.elim
    | some tup =>
      obtain ⟨b0, id, g, ps, rid, ops, bd⟩ := tup
      rw [hir] at h hok
      obtain rfl := isRange_some hir
      simp only at h hok
      cases ax <;> try exact h.elim
      rename_i xb xd
      simp only [Bool.and_eq_true] at hok
      obtain ⟨⟨⟨⟨⟨⟨⟨⟨k1, k2⟩, k3⟩, k4⟩, k5⟩, k6⟩, k7⟩, k8⟩, k9⟩ := hok
      refine wpIn_seq (wpIn_seq (wpIn_mono (wpIn_wide.2 (den_sound hm b0 xb _ F a w k1 (dstsOk_mem k2) ha h)) fun e a' w' he => ?_))
      cases e with
      | ret => obtain ⟨F', ha', _, hQ⟩ := he; exact hQ.elim
      | exit id => obtain ⟨F', ha', _, hQ⟩ := he; exact hQ.elim
      | goto l => obtain ⟨F', ha', _, hQ⟩ := he; exact hQ.elim
      | panic ch => exact he.2.elim
      | outgrown => exact he.elim
      | normal =>
        obtain ⟨F', ha', _, hQ⟩ := he
        obtain ⟨v, hv, hR⟩ := withV_some hQ
        unfold RangeS at hR
        split at hR
        rotate_left
        · exact hR.elim
        rename_i gf first lb
        obtain ⟨rfl, hokf, α, encs, Kp, S, Sp, M, I, hseq, hlen, hKt, hKb, hI, hI0, hrnd, haft⟩ := hR
        have hg := ha'.ev hv
        have hasg : ∀ o ∈ ops.toList, (asg1 o).isSome = true ∧ ∀ t d, asg1 o = some (t, d) → d < N := fun o ho => by
          have := List.all_eq_true.1 k9 o ho
          cases h1 : asg1 o with
          | none => rw [h1] at this; cases this
          | some td =>
            rw [h1] at this
            exact ⟨rfl, fun t d hh => by cases hh; exact Nat.le_of_ble_eq_true this⟩
        refine wpIn_block (wpIn_rangeFunc_ownG (n := 1) (encs := fun x => (encs x).toArray) (Kp := Kp) (S := S) (Sp := Sp) (N := M) (w0 := w') rfl (Nat.le_refl _) hg trivial (fun args w => callFunc_ok hokf args w) hseq (fun {A B C} => hKt A B C) hKb (Below.refl _ _)
          (fun x => by simp [hlen x]) I (fun _ _ _ => False) hI (fun _ _ _ _ _ hh _ _ => hh) hI0
          (fun x => asgA ops.toList { tmps := (ps.zip (encs x).toArray).foldl (fun t (p, v) => t.setIfInBounds p v) a'.tmps, defers := [] }) ?_ ?_ ?_ ?_)
        · intro l x W KK hKK
          exact wpIn_region_list (asg_wp (r := some l) ops.toList _ W (fun o ho => (hasg o ho).1) hKK)
        · intro l pre x W hi hlt
          have hr : (match asgF ops.toList (paramG 0 ps.toList (encs x) F') with | some F2 => den P false NoP bd xd (fun e _ W' => match e with | .normal => (KeepsFrom w'.heap.size W W' ∧ Kp W W' ∧ I (pre ++ [x]) W') | _ => False) F2 W | none => False) := hrnd pre x W hi hlt
          have hpa : Agree ⟨N, [], fun _ => none⟩ (paramF ps.toList (encs x) F') { tmps := (ps.zip (encs x).toArray).foldl (fun t (p, v) => t.setIfInBounds p v) a'.tmps, defers := [] } := by
            have hbase : Agree ⟨N, [], fun _ => none⟩ F' { tmps := a'.tmps, defers := [] } := ⟨⟨ha'.st.size, rfl, ha'.st.fix⟩, ha'.vals⟩
            have := param_agree ps.toList (encs x) F' a'.tmps (fun p hp => Nat.le_of_ble_eq_true (List.all_eq_true.1 k8 p hp)) hbase
            have e : (ps.zip (encs x).toArray).foldl (fun t (p, v) => t.setIfInBounds p v) a'.tmps = (ps.toList.zip (encs x)).foldl (fun t (p, v) => t.setIfInBounds p v) a'.tmps := by
              rw [← Array.foldl_toList, Array.toList_zip]
            rw [e]
            exact this
          rw [paramG_eq ps.toList 0 (encs x) F' (by rw [hlen x]; simp), List.drop_zero] at hr
          split at hr
          · rename_i F2 hF2
            have ha2 := asg_agree ops.toList _ F2 _ (fun o ho t d hh => ⟨(hasg o ho).2 t d hh, rfl⟩) hpa hF2
            refine wpIn_mono (den_soundIn (rd := some l) (fu := 0) hm bd xd _ F2 _ W (.inr k5) k3 (dstsOk_mem k4) ha2 hr) fun e a3 W3 he => ?_
            cases e with
            | normal => obtain ⟨_, _, _, hh⟩ := he; exact hh
            | ret => obtain ⟨F', ha', _, hQ⟩ := he; exact hQ.elim
            | exit id => obtain ⟨F', ha', _, hQ⟩ := he; exact hQ.elim
            | goto l => obtain ⟨F', ha', _, hQ⟩ := he; exact hQ.elim
            | panic ch => exact he.2.elim
            | outgrown => exact he.elim
          · exact hr.elim
        · intro D xs W hD hS hi hmk
          have hd := haft D xs W hD hS hi hmk
          have hsa : Agree ⟨N, [{ target := .collected D, args := #[] }], fun _ => none⟩ F' { a' with defers := { target := .collected D, args := #[] } :: a'.defers } :=
            ⟨⟨ha'.st.size, by simp [ha'.st.defers], ha'.st.fix⟩, ha'.vals⟩
          have hwr : ∀ d ∈ dsts rest, (⟨N, [{ target := .collected D, args := #[] }], fun _ => none⟩ : Stat).wr d := fun d hd => ⟨(dstsOk_mem k7 d hd).1, rfl⟩
          refine wpIn_mono (wpIn_wide.2 (den_sound hm rest ay _ F' _ W k6 hwr hsa hd)) fun e a3 W3 he => ?_
          have hfin : ∀ F3, Agree ⟨N, [{ target := .collected D, args := #[] }], fun _ => none⟩ F3 a3 → (W3.heap[D]? = some (.deferred (some [])) ∧ resV P rs.toList F3 (W3.putObj D (.deferred none)) fun v => K v (W3.putObj D (.deferred none))) →
              LeavesInM Fence.wide 1 P fn a3.tmps (fun e w' => match e with | .returned v => K v w' | _ => False) a3.defers .returning W3 := fun F3 ha3 ⟨hD3, hr3⟩ => by
            rw [ha3.st.defers]
            refine ⟨by simp, .inl ⟨D, _, rfl, run_takeDeferred hD3, ?_⟩⟩
            obtain ⟨v, hv, hK⟩ := resV_run (P := P) ha3 _ fn hrs hr3
            exact ⟨v, hv, hK⟩
          cases e with
          | normal => obtain ⟨F3, ha3, _, hh⟩ := he; exact hfin F3 ha3 hh
          | ret => obtain ⟨F3, ha3, _, hh⟩ := he; exact hfin F3 ha3 hh
          | exit id => obtain ⟨F', ha', _, hQ⟩ := he; exact hQ.elim
          | goto l => obtain ⟨F', ha', _, hQ⟩ := he; exact hQ.elim
          | panic ch => exact he.2.elim
          | outgrown => exact he.elim
        · intro D c pre W _ _ hh; exact hh.elim
  | _ => intro ann F a w hok; cases ann <;> cases hok

theorem fn_range (hm : P.follows .mixedOrders = true) {f : FuncId} {fn : Func} {c : Code} (hf : P.funcs[f]? = some fn) (hb : fn.body = some c) {ann : Ann} {args : List Value} {rs : Array ResultVar} (hrs : fn.results = rs) {m : Nat}
    (hn : fn.ntmps = args.length + m) (hok : okG (args.length + m) c ann = true) {K : Value → World → Prop} {w : World} (h : denG P rs.toList K c ann (argF args 0) w) : CallS P f args.toArray K w := by
  refine callsIn_wide.1 (callsIn_of_wp_marks (n := 1) hf hb trivial ?_ rfl)
  have hsz : fn.ntmps - args.toArray.size = m := by simp [hn]
  rw [hsz]
  exact denG_sound hm hrs c ann _ _ w hok (argF_agree args m) h

/-- an iterator's contract, from its walk -/
theorem stops_of {α : Type} {gf : Nat} {lb : Array Value} {encs : α → List Value} {Kp : World → World → Prop} {S Sp : List α → Prop} {N : Nat} {w : World}
    (h : ∀ (l : Nat) (J Jx : List α → World → Prop) (W : World), Below w.heap.size w W → AbidesFrom W.heap.size J →
      (∀ pre x W1 (K : Value → World → Prop), J pre W1 → pre.length < N → (∀ W', J (pre ++ [x]) W' → Kp W1 W' → K (.bool true) W') → (∀ W', Jx (pre ++ [x]) W' → K (.bool false) W') → YieldS P l (encs x).toArray K W1) →
      J [] W → CallS P gf (#[.func (.yield l) #[] #[]] ++ lb) (fun _ W' => (∃ xs, S xs ∧ J xs W') ∨ (∃ pre, Sp pre ∧ Jx pre W')) W) :
    SeqStopsK Fence.wide 0 P gf lb (fun x => (encs x).toArray) Kp S Sp N w := by
  intro l J Jx W hW hJ hJx hY h0
  refine callsIn_wide.2 (Calls.mono (h l J Jx W hW hJ ?_ h0) fun e W' he => ?_)
  · intro pre x W1 K hJ1 hlt ht hf
    obtain ⟨fn, tmps, assign, body, h1, h2⟩ := hY pre x W1 hJ1 hlt
    refine ⟨fn, tmps, assign, body, h1, h2.mono fun e W' he => ?_⟩
    rcases he with ⟨rfl, hh, hk⟩ | ⟨rfl, hh⟩
    · exact ht W' hh hk
    · exact hf W' hh
  · cases e with
    | returned v => exact ⟨⟨v, rfl⟩, he⟩
    | _ => exact he.elim
theorem callY {l : Nat} {args : List Value} {K : Value → World → Prop} {Kp : List PanicEntry → World → Prop} {w : World} (h : YieldS P l args.toArray K w) : CallV' P false (.func (.yield l) #[] #[]) args Kp K w := by
  show cond true (YieldS P l (#[] ++ args.toArray) K w) False
  simpa using h
end
end SG
/-! Rules: a loop over a map; what a round leaves alone. No program stands here. -/
namespace SG
open Go Go.RowKit Go.Lib
set_option linter.unusedSimpArgs false
set_option linter.unusedVariables false

theorem nodup_len {α : Type} : ∀ (l m : List α), l.Nodup → (∀ x ∈ l, x ∈ m) → l.length ≤ m.length
  | [], m, _, _ => by simp
  | a :: l, m, hn, hs => by
    have hn' := List.nodup_cons.1 hn
    obtain ⟨s, t, rfl⟩ := List.append_of_mem (hs a (by simp))
    have := nodup_len l (s ++ t) hn'.2 fun x hx => by
      have h1 := hs x (List.mem_cons_of_mem _ hx)
      rcases List.mem_append.1 h1 with h | h
      · exact List.mem_append_left _ h
      · rcases List.mem_cons.1 h with rfl | h
        · exact absurd hx hn'.1
        · exact List.mem_append_right _ h
    simp at this ⊢; omega
theorem filt_le {α : Type} : ∀ (m : List α) (P Q : α → Bool), (∀ x ∈ m, Q x = true → P x = true) → (m.filter Q).length ≤ (m.filter P).length
  | [], _, _, _ => by simp
  | a :: m, P, Q, h => by
    have ih := filt_le m P Q fun x hx => h x (List.mem_cons_of_mem _ hx)
    have ha := h a (by simp)
    rw [List.filter_cons, List.filter_cons]
    cases hq : Q a <;> cases hp : P a
    · simpa using ih
    · simp; omega
    · rw [ha hq] at hp; cases hp
    · simpa using ih
theorem filt_lt {α : Type} : ∀ (m : List α) (P Q : α → Bool), (∀ x ∈ m, Q x = true → P x = true) → ∀ x ∈ m, P x = true → Q x = false → (m.filter Q).length < (m.filter P).length
  | [], _, _, _, x, hx, _, _ => by simp at hx
  | a :: m, P, Q, h, x, hx, hp, hq => by
    have hm : ∀ x ∈ m, Q x = true → P x = true := fun x hx => h x (List.mem_cons_of_mem _ hx)
    rw [List.filter_cons, List.filter_cons]
    rcases List.mem_cons.1 hx with rfl | hx
    · have := filt_le m P Q hm
      rw [if_pos hp, if_neg (by simp [hq])]
      simp; omega
    · have ih := filt_lt m P Q hm x hx hp hq
      have ha := h a (by simp)
      cases hq' : Q a <;> cases hp' : P a
      · simpa using ih
      · simp; omega
      · rw [ha hq'] at hp'; cases hp'
      · simpa using ih
/-- what a round leaves alone: maps and iterators -/
def KpW (A B : World) : Prop := ∀ (k : Nat) (o : Obj), A.heap[k]? = some o → o.isWalk = true → B.heap[k]? = some o
theorem KpW.trans {A B C : World} (h : KpW A B) (k : KpW B C) : KpW A C := fun i o hi ho => k i o (h i o hi ho) ho
theorem KpW.ext {S : Nat → Prop} {A B : World} (e : Ext S A B) (h : ∀ b o, S b → A.heap[b]? = some o → o.isWalk = false) : KpW A B := fun k o hk ho => by
  refine (e.blk k (Array.getElem?_eq_some_iff.1 hk).1 fun hs => ?_).trans hk
  rw [h k o hs hk] at ho; cases ho
theorem KpW.put {W : World} {l : Nat} {o o' : Obj} (hl : W.heap[l]? = some o) (hw : o.isWalk = false) : KpW W (W.putObj l o') := fun k x hk hx => by
  by_cases h : k = l
  · subst h
    rw [hl] at hk
    have : o = x := Option.some.inj hk
    subst this
    rw [hw] at hx; cases hx
  · exact (World.putObj_heap_other h).trans hk
section
variable {κ ν : Type} {P : Program} {f : κ → Value} {g : ν → Value} {w : World} {r b : Nat} {m : List (κ × ν)}
theorem IterR.kp {w w' : World} {done : List (κ × ν)} (h : IterR w r b f g m done) (k : KpW w w') : IterR w' r b f g m done := by
  obtain ⟨es, clock, since, seen, c0, a1, a2, a3, a4, a5, a6, a7⟩ := h
  exact ⟨es, clock, since, seen, c0, k _ _ a1 rfl, a2, a3, a4, a5, k _ _ a6 rfl, a7⟩
theorem IterR.walk {w : World} {done : List (κ × ν)} (h : IterR w r b f g m done) : ∃ o, w.heap[r]? = some o ∧ o.isWalk = true ∧ o.isCells = false := by
  obtain ⟨es, clock, since, seen, c0, a1, a2, a3, a4, a5, a6, a7⟩ := h
  exact ⟨_, a6, rfl, rfl⟩
/-- for k, v := range m, in whatever order -/
theorem iterLoop (it : IterR w r b f g m []) {X : Value → (World → Prop) → World → Prop} {Kend : World → Prop} (I : List (κ × ν) → World → Prop) (h0 : I [] w) (ty : TypeId)
    (hI : ∀ done w' w'', I done w' → IterR w' r b f g m done → Ext (At1 r) w' w'' → I done w'')
    (hround : ∀ done p w', p ∈ m → p ∉ done → IterR w' r b f g m (done ++ [p]) → I done w' → ∀ L : World → Prop, (∀ w'', IterR w'' r b f g m (done ++ [p]) → I (done ++ [p]) w'' → L w'') → X (.tuple [f p.1, g p.2].toArray) L w')
    (hend : ∀ done w', done.Perm m → I done w' → Kend w') :
    LoopS 0 (fun (L0 : World → Prop) (w : World) => RunS P (Instr.next (.pointer (some ⟨r, 0, none⟩)) false ty) (fun t w => PureS (extractV 0 t) fun c => CondS c (RunS P (Instr.entry (.pointer (some ⟨r, 0, none⟩))) (fun t8 w => X t8 L0 w) w) (Kend w)) w) w := by
  classical
  refine loop0 (σ := List (κ × ν)) (fun done w' => IterR w' r b f g m done ∧ I done w') (fun done => (m.filter fun q => decide (q ∉ done)).length) [] ⟨it, h0⟩ ?_
  rintro done w1 ⟨it1, i1⟩ L hL
  refine it1.next ty (fun hp => pur (extract_0 _ _) (condF rfl (hend done w1 hp i1))) fun p w2 hpm hpd it2 hent e2 z2 => ?_
  refine pur (extract_0 _ _) (condT rfl (hent _ (hround done p w2 hpm hpd it2 (hI done w1 w2 i1 it1 e2) L fun w3 it3 i3 => hL (done ++ [p]) w3 ⟨it3, i3⟩ ?_)))
  exact filt_lt m _ _ (fun x _ hx => by simp at hx ⊢; exact fun h => hx.1 h) p hpm (by simpa using hpd) (by simp)
end
theorem ifYes (X Y : Prop) (h : X) : IfB (.bool true) true X Y := by rw [ifB_eq, if_pos rfl]; exact h
theorem ifNo (X Y : Prop) (h : Y) : IfB (.bool false) true X Y := by rw [ifB_eq, if_neg (by simp)]; exact h
theorem ifYes' (X Y : Prop) (h : X) : IfB (.bool false) false X Y := by rw [ifB_eq, if_pos rfl]; exact h
theorem ifNo' (X Y : Prop) (h : Y) : IfB (.bool true) false X Y := by rw [ifB_eq, if_neg (by simp)]; exact h
theorem ifU (want : Bool) (X Y : Prop) (h : Y) : IfB undef want X Y := by unfold IfB isB undef; simpa using h
end SG
/-! Laid out by a program of ours: what each function of the cut comes to, over named values; and that it is so. -/
namespace Go.Proofs.Ytkladgpaicolnaa
set_option linter.unusedVariables false
set_option maxRecDepth 100000
open Go SG

/-! number 3 -/
def a3 : Ann :=
 (.q (.r [.plain 1]) (.q (.r [.plain 5]) (.q (.q (.r [.plain 2]) (.c (.q (.r [.plain 1]) .s) .s)) (.j [] 2535301200456458802993405902820 (.q (.r [.plain 1]) (.b (.l [5] 2535301200456458802993405902820 (.q (.q (.r [.plain 4]) (.c .s .s)) (.j [] 2535301200456458802993372872644 (.b (.q (.r [.plain 6]) (.j [] 19342813113834066258444164 (.q (.r [.plain 2]) (.b (.q (.r [.plain 2]) (.c (.q (.d [0, 1, 3, 7, 15, 0, 32, 127, 255] (.pur 0 (.pur 5 (.hld 1 (.pur 2 (.pur 3 (.hld 6 (.act 4 (.act 7 (.pur 8 .fin)))))))))) (.q (.r [.plain 4]) (.j [] 8989607068697088 (.q (.r [.plain 1]) (.b (.l [9] 8989607068697088 (.q (.q (.r [.plain 4]) (.c .s .s)) (.q (.b (.r [.plain 4])) (.r [.plain 3]))))))
  (.q (.r [.plain 6]) (.c (.q (.r [.plain 1]) .s) .s))))) (.q (.r [.plain 2]) (.c (.q (.r [.plain 9]) (.q (.r [.plain 9]) (.q (.r [.plain 5, .grp 3 [82] 8462480737302404222943232, .plain 1]) (.c (.q (.r [.plain 1]) .s) .s)))) .s))))))
  (.j [100] 2535281857643344968926611111936 (.d [0, 1, 0, 7, 15, 31, 63, 127, 127, 383, 1023, 127, 127, 4223, 16383, 32767, 65535] (.pur 0 (.pur 2 (.act 1 (.act 3 (.act 4 (.pur 5 (.pur 6 (.ite 6 (.skp 7 (.skp 8 (.skp 9 (.skp 10 (.skp 11 (.skp 12 (.skp 13 (.skp 14 (.skp 15 (.pur 16 .fin)))))))))) (.pur 7 (.pur 8 (.pur 11 (.pur 12 (.hld 9 (.hld 13 (.act 10 (.act 14 (.pur 15 (.pur 16 .fin)))))))))))))))))))
  (.c (.q (.r [.plain 1]) .s) .s)))))
  (.r [.plain 3]))))))
  (.q (.d [0, 0, 3, 0, 8, 24, 56, 120, 248, 511, 1023, 2047, 4095, 2047, 16383, 32767, 65535, 131071, 262143] (.pur 0 (.pur 3 (.pur 4 (.pur 5 (.hld 6 (.pur 7 (.pur 8 (.act 1 (.act 2 (.pur 9 (.pur 10 (.ite 10 (.pur 11 (.pur 13 (.act 12 (.act 14 (.pur 15 (.pur 16 (.pur 17 (.pur 18 .fin)))))))) (.skp 11 (.skp 12 (.skp 13 (.skp 14 (.skp 15 (.skp 16 (.pur 17 (.pur 18 .fin))))))))))))))))))))) .s)))))
def s3 (acts0 : Value) (K : Value → World → Prop) (w : World) : Prop :=
 CallS Try.prog 7 [].toArray (fun t14 w =>
 RunS Try.prog (Instr.build 29 [].toArray) (fun t15 w =>
 BoxS 29 t15 (fun t16 w =>
 RunS Try.prog (do eqGuard .eql 23 (Operand.tmp 17) (Operand.const (Value.pointer none)) t14 (Value.pointer none); binOp .eql 23 t14 (Value.pointer none)) (fun t18 w =>
 CondS t18 (
 K (Value.bool false) w
 ) (
 JoinS (fun (w : World) =>
 DrawS fun S1 => S1 w.drew ∧ (
 PureS (nilV t16) fun t105 =>
 PureS (fieldAddrV 0 t105) fun t106 =>
 HeldC S1 t106 (fun t107 =>
 PureS (lenSliceV t107) fun t108 =>
 PureS (binV .add t108 (Value.int .i64 1)) fun t109 =>
 RunS Try.prog (Instr.buildSlice 31 1 [(0, (Value.int .u64 4))].toArray) (fun t102 w =>
 S1 w ∧ (
 CallS Try.prog 8 [t14, t102].toArray (fun t103 w =>
 S1 w ∧ (
 PureS (binV .eql t103 t109) fun t110 =>
 CondS t110 (
 CallS Try.prog 15 [t14, (Value.int .u64 4)].toArray (fun t113 w =>
 CallS Try.prog 16 [t16, (Value.int .u64 4)].toArray (fun t115 w =>
 PureS (binV .add t115 (Value.int .i64 1)) fun t116 =>
 PureS (binV .eql t113 t116) fun t117 =>
 PureS (pickV (Value.bool true) t117 (Value.bool false)) fun t118 =>
 K t118 w
 ) w
 ) w
 ) (
 PureS (pickV (Value.bool false) undef (Value.bool false)) fun t118_1 =>
 K t118_1 w
 )
 )
 ) w
 )
 ) w.drew
 )
 )
 ) fun J0 =>
 LoopS 1 (fun L2 (i5 : Value) (w : World) =>
 PureS (lenSliceV acts0) fun t21 =>
 PureS (binV .lss i5 t21) fun t22 =>
 CondS t22 (
 JoinS (fun (w : World) =>
 PureS (binV .add i5 (Value.int .i64 1)) fun t24 =>
 L2 t24 w
 ) fun J3 =>
 PureS (indexAddrV 4 acts0 i5) fun t27 =>
 LoadA 4 t27 (fun t28 w =>
 BoxS 33 (Value.agg #[(Value.int .i64 0), (Value.int .i64 0), (Value.int .u64 0), (Value.slice none 0 0)]) (fun a6 w =>
 StoreA 4 a6 t28 (fun w =>
 JoinS (fun (w : World) =>
 JoinS (fun (t100 : Value) (w : World) =>
 CondS t100 (
 K (Value.bool false) w
 ) (
 J3 w
 )
 ) fun J5 =>
 DrawS fun S6 => S6 w.drew ∧ (
 CallS Try.prog 13 [t14].toArray (fun t85 w =>
 S6 w ∧ (
 CallS Try.prog 14 [t16].toArray (fun t87 w =>
 S6 w ∧ (
 CallS Try.prog 12 [t85, t87].toArray (fun t88 w =>
 S6 w ∧ (
 PureS (notV t88) fun t89 =>
 CondS t89 (
 PureS (pickV (Value.bool true) (Value.bool true) undef) fun t100_1 =>
 J5 t100_1 w
 ) (
 PureS (fieldAddrV 2 a6) fun t92 =>
 PureS (fieldAddrV 2 a6) fun t96 =>
 HeldC S6 t92 (fun t93 =>
 HeldC S6 t96 (fun t97 =>
 CallS Try.prog 15 [t14, t93].toArray (fun t94 w =>
 S6 w ∧ (
 CallS Try.prog 16 [t16, t97].toArray (fun t98 w =>
 PureS (binV .neq t94 t98) fun t99 =>
 PureS (pickV (Value.bool false) (Value.bool true) t99) fun t100_2 =>
 J5 t100_2 w
 ) w
 )
 ) w
 )
 )
 )
 )
 ) w
 )
 ) w
 )
 ) w.drew
 )
 ) fun J4 =>
 PureS (fieldAddrV 0 a6) fun t29 =>
 LoadC t29 (fun t30 w =>
 PureS (binV .eql t30 (Value.int .i64 3)) fun t32 =>
 CondS t32 (
 DrawS fun S7 => S7 w.drew ∧ (
 PureS (fieldAddrV 3 a6) fun t33 =>
 PureS (fieldAddrV 3 a6) fun t38 =>
 HeldC S7 t33 (fun t34 =>
 PureS (lenSliceV t34) fun t35 =>
 PureS (binV .add t35 (Value.int .i64 1)) fun t36 =>
 HeldC S7 t38 (fun t39 =>
 RunS Try.prog (Instr.makeSlice 31 (Value.int .i64 0) t36) (fun t37 w =>
 S7 w ∧ (
 RunS Try.prog (Builtin.append_ #[31, 31] 31 [t37, t39].toArray) (fun t40 w =>
 CallS Try.prog 8 [t14, t40].toArray (fun t43 w =>
 JoinS (fun (w : World) =>
 PureS (fieldAddrV 3 a6) fun t55 =>
 LoadC t55 (fun t56 w =>
 CallS Try.prog 9 [t16, t56].toArray (fun t57 w =>
 PureS (binV .neq t43 t57) fun t58 =>
 CondS t58 (
 K (Value.bool false) w
 ) (
 J4 w
 )
 ) w
 ) w
 ) fun J8 =>
 LoopS 1 (fun L9 (k9 : Value) (w : World) =>
 PureS (lenSliceV t40) fun t46 =>
 PureS (binV .lss k9 t46) fun t47 =>
 CondS t47 (
 PureS (indexAddrV 1 t40 k9) fun t52 =>
 StoreC t52 (Value.int .u64 77) (fun w =>
 PureS (binV .add k9 (Value.int .i64 1)) fun t49 =>
 L9 t49 w
 ) w
 ) (
 J8 w
 )
 ) (Value.int .i64 0) w
 ) w
 ) w
 )
 ) w.drew
 )
 )
 )
 ) (
 PureS (binV .eql t30 (Value.int .i64 4)) fun t60 =>
 CondS t60 (
 PureS (fieldAddrV 1 a6) fun t63 =>
 LoadC t63 (fun t64 w =>
 CallS Try.prog 10 [t14, t64].toArray (fun t65 w =>
 PureS (extractV 0 t65) fun t66 =>
 PureS (extractV 1 t65) fun t67 =>
 PureS (fieldAddrV 1 a6) fun t70 =>
 LoadC t70 (fun t71 w =>
 CallS Try.prog 11 [t16, t71].toArray (fun t72 w =>
 PureS (extractV 0 t72) fun t73 =>
 PureS (extractV 1 t72) fun t74 =>
 CallS Try.prog 12 [t66, t73].toArray (fun t77 w =>
 PureS (notV t77) fun t78 =>
 JoinS (fun (t82 : Value) (w : World) =>
 PureS (pickV t78 (Value.bool true) t82) fun t83 =>
 CondS t83 (
 K (Value.bool false) w
 ) (
 J4 w
 )
 ) fun J10 =>
 IfB t78 false (
 PureS (binV .neq t67 t74) fun t82_1 =>
 J10 t82_1 w
 ) (
 J10 undef w
 )
 ) w
 ) w
 ) w
 ) w
 ) w
 ) (
 J4 w
 )
 )
 ) w
 ) w
 ) w
 ) w
 ) (
 J0 w
 )
 ) (Value.int .i64 0) w
 )
 ) w
 ) w
 ) w
 ) w
theorem s3_den (acts0 : Value) (K : Value → World → Prop) (w : World) : denFn Try.prog false (bodyOf Try.f3) Try.f3.results a3 [acts0] K NoP w = s3 acts0 K w := by kernel_rfl
theorem s3_dst : dstsOk (1 + 118) (bodyOf Try.f3) = true := by kernel_rfl
theorem s3_ann : annOk (bodyOf Try.f3) a3 = true := by kernel_rfl
theorem s3_call {acts0 : Value} {K : Value → World → Prop} {w : World} (hm : Try.prog.follows .mixedOrders = true) (h : s3 acts0 K w) : CallS Try.prog 3 #[acts0] K w :=
  fn_call (args := [acts0]) (m := 118) hm Try.func3 (by kernel_rfl) (rs := Try.f3.results) rfl Try.ntmps3 s3_dst s3_ann (by rw [s3_den]; exact h)

/-! number 4 -/
def a4 : Ann :=
 (.q (.r [.plain 1]) (.q (.q (.r [.plain 2]) (.c (.q (.r [.plain 1]) .s) .s)) (.q (.r [.plain 2]) (.q (.q (.r [.plain 2]) (.c (.q (.r [.plain 1]) .s) .s)) (.q (.r [.plain 2]) (.j [] 40564819207303340847619624730176 (.q (.r [.plain 1]) (.b (.l [9] 40564819207303340847619624730176 (.q (.q (.r [.plain 4]) (.c .s .s)) (.j [] 40564819207303340830302316592192 (.b (.q (.r [.plain 5]) (.b (.q (.r [.plain 2]) (.c (.q (.r [.plain 12]) (.q (.r [.plain 2]) (.c (.q (.q (.r [.plain 8]) (.q (.r [.plain 1]) (.c (.q (.r [.plain 1]) .s) .s))) (.r [.plain 8])) .s))) (.q (.r [.plain 2]) (.c (.q (.r [.plain 12]) (.q (.q (.r [.plain 10]) (.c (.q (.r [.plain 1]) .s) .s)) (.r [.plain 7]))) .s)))))))
  (.r [.plain 3]))))))
  (.q (.r [.plain 3]) (.j [] 89202980793960233289313659727201868015075392 (.q (.r [.plain 1]) (.b (.l [17] 89202980793960233289313659727201868015075392 (.q (.q (.r [.plain 4]) (.c .s .s)) (.j [] 89202980783737898849073217833532453366792256 (.b (.q (.r [.plain 1]) (.j [18] 340271982327221393808117546439111081984 (.q (.r [.plain 2]) (.b (.l [18] 340240828546070184842346363461135761408 (.q (.r [.plain 2]) (.q (.c .s .s) (.b (.q (.r [.plain 3]) (.r [.plain 2, .grp 6 [126] 167482727468899399985879689595323416576, .plain 2]))))))))
  (.j [145] 89202640511755571627679409715986014255710208 (.d [0, 1, 3, 7, 15, 31, 63, 63, 255, 511, 63, 63, 2111, 7231, 15423, 32767, 65535, 131071] (.pur 0 (.pur 1 (.pur 2 (.ite 2 (.skp 3 (.skp 4 (.skp 5 (.skp 6 (.skp 7 (.skp 8 (.skp 9 (.skp 10 (.skp 11 (.skp 12 (.skp 13 (.skp 14 (.skp 15 (.skp 16 (.pur 17 .fin))))))))))))))) (.pur 3 (.pur 4 (.pur 5 (.ite 5 (.pur 6 (.pur 7 (.pur 8 (.pur 10 (.pur 11 (.pur 12 (.pur 13 (.hld 9 (.hld 14 (.pur 15 (.pur 16 (.pur 17 .fin)))))))))))) (.skp 6 (.skp 7 (.skp 8 (.skp 9 (.skp 10 (.skp 11 (.skp 12 (.skp 13 (.skp 14 (.skp 15 (.pur 16 (.pur 17 .fin)))))))))))))))))))))
  (.c (.q (.r [.plain 1]) .s) .s)))))
  (.r [.plain 3]))))))
  (.j [1, 2] 2765292404617797269550429065808396826741571590 (.q (.r [.plain 3]) (.c (.r [.plain 4]) .s))
  (.q (.r [.plain 1]) (.j [21] 3213876088517977696588538772762563088472467088575313171447872 (.q (.r [.plain 2]) (.b (.l [21] 3213876088517969133102382537003276738756650391604494874968128 (.q (.r [.plain 2]) (.q (.c .s .s) (.b (.q (.r [.plain 5]) (.q (.r [.plain 8]) (.q (.r [.plain 1]) (.j [26] 766224386406747134732482254617831131281055066372440064 (.q (.r [.plain 1]) (.b (.l [26, 27] 766224386406747134732482254617831131281055066372440064 (.q (.q (.r [.plain 4]) (.c .s .s)) (.q (.b (.r [.plain 2, .grp 6 [177] 377137574509964836236624463712771400656174080849870848, .plain 2])) (.r [.plain 3]))))))
  (.q (.q (.r [.plain 3, .grp 3 [184] 42909875144244888034033716760208657141324695421140860928, .plain 2, .grp 2 [188] 588478287692501321609605258425718726509595822918503235584, .plain 1]) (.c (.q (.r [.plain 1]) .s) .s)) (.r [.plain 2, .grp 4 [195] 94156526030800211457536841348114996241535331666960517693440, .grp 3 [198] 703035394363308245549608415399258638603463809779971865444352, .grp 1 [199] 803469022129495137770981046170581301261101496891396417650688, .plain 2]))))))))))))
  (.q (.r [.plain 8]) (.q (.r [.plain 8]) (.q (.r [.plain 4, .grp 3 [219] 1474372083359800613770852387571386052464531335607687557560353685504, .plain 5]) .s))))))))))))))
def s4 (acts0 a1 b2 : Value) (K : Value → World → Prop) (w : World) : Prop :=
 CallS Try.prog 17 [].toArray (fun t32 w =>
 PureS (notV t32) fun t33 =>
 CondS t33 (
 K (Value.bool false) w
 ) (
 CallS Try.prog 18 [].toArray (fun t34 w =>
 RunS Try.prog (do eqGuard .eql 43 (Operand.tmp 35) (Operand.const (Value.pointer none)) t34 (Value.pointer none); binOp .eql 43 t34 (Value.pointer none)) (fun t36 w =>
 CondS t36 (
 K (Value.bool false) w
 ) (
 RunS Try.prog (Instr.makeMap 45 none) (fun t37 w =>
 JoinS (fun (w : World) =>
 CallS Try.prog 21 [t34].toArray (fun t106 w =>
 JoinS (fun (w : World) =>
 JoinS (fun (a1_1 b2_1 : Value) (w : World) =>
 JoinS (fun (apart21 : Value) (w : World) =>
 CallS Try.prog 23 [t34, a1_1].toArray (fun t204 w =>
 PureS (extractV 0 t204) fun t205 =>
 PureS (extractV 1 t204) fun t206 =>
 CallS Try.prog 23 [t34, b2_1].toArray (fun t210 w =>
 PureS (extractV 0 t210) fun t211 =>
 PureS (extractV 1 t210) fun t212 =>
 PureS (binV .eql t205 t211) fun t215 =>
 JoinS (fun (t219 : Value) (w : World) =>
 PureS (pickV t215 t219 (Value.bool false)) fun t220 =>
 PureS (notV apart21) fun t222 =>
 PureS (boolV .eql t220 t222) fun t223 =>
 K t223 w
 ) fun J4 =>
 IfB t215 true (
 PureS (boolV .eql t206 t212) fun t219_1 =>
 J4 t219_1 w
 ) (
 J4 undef w
 )
 ) w
 ) w
 ) fun J3 =>
 RunS Try.prog (Instr.range 45 t37) (fun t152 w =>
 LoopS 1 (fun L5 (apart21_1 : Value) (w : World) =>
 RunS Try.prog (Instr.next t152 false 0) (fun t153 w =>
 PureS (extractV 0 t153) fun t154 =>
 CondS t154 (
 RunS Try.prog (Instr.entry t152) (fun t155 w =>
 PureS (extractV 0 t155) fun t156 =>
 PureS (extractV 1 t155) fun t157 =>
 CallS Try.prog 22 [t34, t156].toArray (fun t161 w =>
 PureS (extractV 0 t161) fun t162 =>
 PureS (extractV 1 t161) fun t163 =>
 JoinS (fun (in26 : Value) (w : World) =>
 PureS (binV .neq t163 (Value.int .i64 0)) fun t180 =>
 JoinS (fun (t184 : Value) (w : World) =>
 PureS (pickV t180 (Value.bool true) t184) fun t185 =>
 JoinS (fun (t188 : Value) (w : World) =>
 PureS (pickV t185 (Value.bool true) t188) fun t189 =>
 CondS t189 (
 K (Value.bool false) w
 ) (
 JoinS (fun (t195 : Value) (w : World) =>
 JoinS (fun (t198 : Value) (w : World) =>
 JoinS (fun (t199 : Value) (w : World) =>
 PureS (pickV apart21_1 (Value.bool true) t199) fun t200 =>
 L5 t200 w
 ) fun J11 =>
 IfB apart21_1 false (
 PureS (pickV t195 t198 (Value.bool false)) fun t199_1 =>
 J11 t199_1 w
 ) (
 J11 undef w
 )
 ) fun J10 =>
 IfB t195 true (
 PureS (binV .lss t157 b2_1) fun t198_1 =>
 J10 t198_1 w
 ) (
 J10 undef w
 )
 ) fun J9 =>
 IfB apart21_1 false (
 PureS (binV .leq a1_1 t157) fun t194 =>
 J9 t194 w
 ) (
 J9 undef w
 )
 )
 ) fun J8 =>
 IfB t185 false (
 PureS (notV in26) fun t188_1 =>
 J8 t188_1 w
 ) (
 J8 undef w
 )
 ) fun J7 =>
 IfB t180 false (
 PureS (binV .neq t162 t157) fun t184_1 =>
 J7 t184_1 w
 ) (
 J7 undef w
 )
 ) fun J6 =>
 LoopS 2 (fun L12 (in26_1 i27 : Value) (w : World) =>
 PureS (lenSliceV t106) fun t166 =>
 PureS (binV .lss i27 t166) fun t167 =>
 CondS t167 (
 JoinS (fun (t177 : Value) (w : World) =>
 PureS (pickV in26_1 (Value.bool true) t177) fun t178 =>
 PureS (binV .add i27 (Value.int .i64 1)) fun t169 =>
 L12 t178 t169 w
 ) fun J13 =>
 IfB in26_1 false (
 PureS (indexAddrV 1 t106 i27) fun t174 =>
 LoadC t174 (fun t175 w =>
 PureS (binV .eql t175 t157) fun t177_1 =>
 J13 t177_1 w
 ) w
 ) (
 J13 undef w
 )
 ) (
 J6 in26_1 w
 )
 ) (Value.bool false) (Value.int .i64 0) w
 ) w
 ) w
 ) (
 J3 apart21_1 w
 )
 ) w
 ) (Value.bool false) w
 ) w
 ) fun J2 =>
 PureS (binV .gtr a1 b2) fun t148 =>
 CondS t148 (
 J2 b2 a1 w
 ) (
 J2 a1 b2 w
 )
 ) fun J1 =>
 LoopS 1 (fun L14 (i17 : Value) (w : World) =>
 PureS (lenSliceV t106) fun t109 =>
 PureS (binV .lss i17 t109) fun t110 =>
 CondS t110 (
 JoinS (fun (w : World) =>
 PureS (binV .add i17 (Value.int .i64 1)) fun t112 =>
 L14 t112 w
 ) fun J15 =>
 JoinS (fun (is18 : Value) (w : World) =>
 JoinS (fun (t145 : Value) (w : World) =>
 CondS t145 (
 K (Value.bool false) w
 ) (
 J15 w
 )
 ) fun J17 =>
 DrawS fun S18 => S18 w.drew ∧ (
 PureS (notV is18) fun t129 =>
 CondS t129 (
 PureS (pickV (Value.bool true) (Value.bool true) undef) fun t145_1 =>
 J17 t145_1 w.drew
 ) (
 PureS (binV .gtr i17 (Value.int .i64 0)) fun t132 =>
 CondS t132 (
 PureS (indexAddrV 1 t106 i17) fun t136 =>
 PureS (binV .sub i17 (Value.int .i64 1)) fun t140 =>
 PureS (indexAddrV 1 t106 t140) fun t141 =>
 HeldC S18 t136 (fun t137 =>
 HeldC S18 t141 (fun t142 =>
 PureS (binV .leq t137 t142) fun t143 =>
 PureS (pickV (Value.bool true) t143 (Value.bool false)) fun t144 =>
 PureS (pickV (Value.bool false) (Value.bool true) t144) fun t145_2 =>
 J17 t145_2 w.drew
 )
 )
 ) (
 PureS (pickV (Value.bool false) undef (Value.bool false)) fun t144_1 =>
 PureS (pickV (Value.bool false) (Value.bool true) t144_1) fun t145_3 =>
 J17 t145_3 w.drew
 )
 )
 )
 ) fun J16 =>
 RunS Try.prog (Instr.range 45 t37) (fun t114 w =>
 LoopS 1 (fun L19 (is18_1 : Value) (w : World) =>
 RunS Try.prog (Instr.next t114 false 0) (fun t115 w =>
 PureS (extractV 0 t115) fun t116 =>
 CondS t116 (
 RunS Try.prog (Instr.entry t114) (fun t117 w =>
 PureS (extractV 1 t117) fun t118 =>
 JoinS (fun (t126 : Value) (w : World) =>
 PureS (pickV is18_1 (Value.bool true) t126) fun t127 =>
 L19 t127 w
 ) fun J20 =>
 IfB is18_1 false (
 PureS (indexAddrV 1 t106 i17) fun t124 =>
 LoadC t124 (fun t125 w =>
 PureS (binV .eql t118 t125) fun t126_1 =>
 J20 t126_1 w
 ) w
 ) (
 J20 undef w
 )
 ) w
 ) (
 J16 is18_1 w
 )
 ) w
 ) (Value.bool false) w
 ) w
 ) (
 J1 w
 )
 ) (Value.int .i64 0) w
 ) w
 ) fun J0 =>
 LoopS 1 (fun L21 (i9 : Value) (w : World) =>
 PureS (lenSliceV acts0) fun t40 =>
 PureS (binV .lss i9 t40) fun t41 =>
 CondS t41 (
 JoinS (fun (w : World) =>
 PureS (binV .add i9 (Value.int .i64 1)) fun t43 =>
 L21 t43 w
 ) fun J22 =>
 PureS (indexAddrV 4 acts0 i9) fun t46 =>
 PureS (fieldAddrV 0 t46) fun t47 =>
 LoadC t47 (fun t48 w =>
 PureS (binV .eql t48 (Value.int .i64 0)) fun t50 =>
 CondS t50 (
 PureS (indexAddrV 4 acts0 i9) fun t55 =>
 PureS (fieldAddrV 2 t55) fun t56 =>
 LoadC t56 (fun t57 w =>
 CallS Try.prog 19 [t34, t57].toArray (fun t58 w =>
 PureS (extractV 0 t58) fun t59 =>
 PureS (extractV 1 t58) fun t60 =>
 PureS (binV .eql t60 (Value.int .i64 0)) fun t62 =>
 CondS t62 (
 RunS Try.prog (Instr.lookup 45 t37 t59 true) (fun t66 w =>
 PureS (extractV 0 t66) fun t67 =>
 PureS (extractV 1 t66) fun t68 =>
 CondS t68 (
 K (Value.bool false) w
 ) (
 PureS (indexAddrV 4 acts0 i9) fun t74 =>
 PureS (fieldAddrV 2 t74) fun t75 =>
 LoadC t75 (fun t76 w =>
 RunU Try.prog (Instr.mapUpdate 45 t37 t59 t76) (fun w =>
 J22 w
 ) w
 ) w
 )
 ) w
 ) (
 J22 w
 )
 ) w
 ) w
 ) (
 PureS (binV .eql t48 (Value.int .i64 1)) fun t78 =>
 CondS t78 (
 PureS (indexAddrV 4 acts0 i9) fun t83 =>
 PureS (fieldAddrV 1 t83) fun t84 =>
 LoadC t84 (fun t85 w =>
 RunS Try.prog (Instr.lookup 45 t37 t85 true) (fun t86 w =>
 PureS (extractV 0 t86) fun t87 =>
 PureS (extractV 1 t86) fun t88 =>
 PureS (indexAddrV 4 acts0 i9) fun t92 =>
 PureS (fieldAddrV 1 t92) fun t93 =>
 LoadC t93 (fun t94 w =>
 CallS Try.prog 20 [t34, t94].toArray (fun t95 w =>
 PureS (binV .eql t95 (Value.int .i64 0)) fun t96 =>
 PureS (boolV .neq t96 t88) fun t98 =>
 CondS t98 (
 K (Value.bool false) w
 ) (
 PureS (indexAddrV 4 acts0 i9) fun t102 =>
 PureS (fieldAddrV 1 t102) fun t103 =>
 LoadC t103 (fun t104 w =>
 RunS Try.prog (Builtin.delete_ #[45, 3] 0 [t37, t104].toArray) (fun _ w =>
 J22 w
 ) w
 ) w
 )
 ) w
 ) w
 ) w
 ) w
 ) (
 J22 w
 )
 )
 ) w
 ) (
 J0 w
 )
 ) (Value.int .i64 0) w
 ) w
 )
 ) w
 ) w
 )
 ) w
theorem s4_den (acts0 a1 b2 : Value) (K : Value → World → Prop) (w : World) : denFn Try.prog false (bodyOf Try.f4) Try.f4.results a4 [acts0, a1, b2] K NoP w = s4 acts0 a1 b2 K w := by kernel_rfl
theorem s4_dst : dstsOk (3 + 221) (bodyOf Try.f4) = true := by kernel_rfl
theorem s4_ann : annOk (bodyOf Try.f4) a4 = true := by kernel_rfl
theorem s4_call {acts0 a1 b2 : Value} {K : Value → World → Prop} {w : World} (hm : Try.prog.follows .mixedOrders = true) (h : s4 acts0 a1 b2 K w) : CallS Try.prog 4 #[acts0, a1, b2] K w :=
  fn_call (args := [acts0, a1, b2]) (m := 221) hm Try.func4 (by kernel_rfl) (rs := Try.f4.results) rfl Try.ntmps4 s4_dst s4_ann (by rw [s4_den]; exact h)

/-! number 5 -/
def a5 : Ann :=
 (.q (.r [.plain 1]) (.q (.r [.plain 5]) (.q (.q (.r [.plain 2]) (.c (.q (.r [.plain 1]) .s) .s)) (.j [] 374144419156711147060143317175368453031918198325220 (.q (.r [.plain 1]) (.b (.l [5] 374144419156711147060143317175368453031918198325220 (.q (.q (.r [.plain 4]) (.c .s .s)) (.q (.b (.q (.r [.plain 6]) (.j [] 21267647932558653966460912414730223492 (.q (.r [.plain 2]) (.b (.q (.r [.plain 2]) (.c (.q (.r [.plain 9]) (.q (.r [.plain 9]) (.q (.r [.plain 4, .grp 3 [63] 16140901064495857664, .plain 1]) (.c (.q (.r [.plain 1]) .s) .s)))) (.q (.r [.plain 2]) (.c (.q (.d [0, 0, 2, 7, 0, 0, 32, 127, 255] (.pur 0 (.pur 1 (.pur 4 (.pur 5 (.hld 2 (.hld 6 (.act 3 (.act 7 (.pur 8 .fin)))))))))) (.c (.q (.r [.plain 1]) .s) .s)) (.q (.r [.plain 2]) (.c (.q (.r [.plain 9]) (.q (.r [.plain 9]) (.q (.r [.plain 9]) (.q (.r [.plain 9]) (.q (.r [.plain 4, .grp 3 [112] 9086519502435948349928368576135168, .plain 2, .grp 3 [117] 290768624077950347197707794436325376, .plain 2, .grp 3 [122] 9304595970494411110326649421962412032, .plain 1]) (.c (.q (.r [.plain 1]) .s) .s)))))) .s))))))))
  (.q (.r [.plain 3]) (.q (.r [.plain 7]) (.q (.r [.plain 6, .grp 5 [141] 5400961727769135292090681769157025052229632, .plain 2, .grp 5 [148] 691323101154449317387607266452099206685392896, .plain 2, .grp 2 [152] 8563486156235759286349715816696970818296479744, .grp 5 [157] 353957427791078050502454920423474793822921162752, .grp 1 [158] 365375409332725729550921208179070754913983135744, .plain 2, .grp 3 [163] 20461022922632640854851587658027962275183055601664, .grp 2 [165] 70152078591883340073776871970381584943484762062848, .grp 1 [166] 93536104789177786765035829293842113257979682750464, .plain 1]) (.c (.q (.r [.plain 1]) .s) .s))))))) (.r [.plain 3]))))))
  (.q (.r [.plain 7]) (.q (.r [.plain 3, .grp 2 [177] 287342913912354160942190067590682971928513585409425408, .plain 2, .grp 3 [182] 10727468786061222008508429190052164285331173855285215232, .grp 2 [184] 36779892980781332600600328651607420406849738932406452224, .grp 2 [186] 147119571923125330402401314606429681627398955729625808896, .grp 4 [190] 2942391438462506608048026292128593632547979114592516177920, .grp 1 [191] 3138550867693340381917894711603833208051177722232017256448, .plain 2]) .s))))))
def s5 (acts0 : Value) (K : Value → World → Prop) (w : World) : Prop :=
 CallS Try.prog 18 [].toArray (fun t24 w =>
 RunS Try.prog (Instr.build 56 [].toArray) (fun t25 w =>
 BoxS 56 t25 (fun t26 w =>
 RunS Try.prog (do eqGuard .eql 43 (Operand.tmp 27) (Operand.const (Value.pointer none)) t24 (Value.pointer none); binOp .eql 43 t24 (Value.pointer none)) (fun t28 w =>
 CondS t28 (
 K (Value.bool false) w
 ) (
 JoinS (fun (w : World) =>
 CallS Try.prog 19 [t24, (Value.int .u64 5)].toArray (fun t170 w =>
 PureS (extractV 0 t170) fun t171 =>
 PureS (extractV 1 t170) fun t172 =>
 PureS (binV .eql t172 (Value.int .i64 2)) fun t174 =>
 JoinS (fun (t177 : Value) (w : World) =>
 PureS (pickV t174 t177 (Value.bool false)) fun t178 =>
 JoinS (fun (t182 : Value) (w : World) =>
 JoinS (fun (t184 : Value) (w : World) =>
 JoinS (fun (t186 : Value) (w : World) =>
 JoinS (fun (t190 : Value) (w : World) =>
 JoinS (fun (t191 : Value) (w : World) =>
 PureS (pickV t178 (Value.bool true) t191) fun t192 =>
 K t192 w
 ) fun J6 =>
 IfB t178 false (
 PureS (pickV t186 t190 (Value.bool false)) fun t191_1 =>
 J6 t191_1 w
 ) (
 J6 undef w
 )
 ) fun J5 =>
 IfB t186 true (
 CallS Try.prog 20 [t24, t171].toArray (fun t189 w =>
 PureS (binV .eql t189 (Value.int .i64 0)) fun t190_1 =>
 J5 t190_1 w
 ) w
 ) (
 J5 undef w
 )
 ) fun J4 =>
 IfB t178 false (
 PureS (pickV t182 t184 (Value.bool false)) fun t185 =>
 J4 t185 w
 ) (
 J4 undef w
 )
 ) fun J3 =>
 IfB t182 true (
 PureS (binV .eql t172 (Value.int .i64 0)) fun t184_1 =>
 J3 t184_1 w
 ) (
 J3 undef w
 )
 ) fun J2 =>
 IfB t178 false (
 PureS (binV .gtr t171 (Value.int .i64 0)) fun t181 =>
 J2 t181 w
 ) (
 J2 undef w
 )
 ) fun J1 =>
 IfB t174 true (
 PureS (binV .eql t171 (Value.int .i64 0)) fun t177_1 =>
 J1 t177_1 w
 ) (
 J1 undef w
 )
 ) w
 ) fun J0 =>
 LoopS 1 (fun L7 (i5 : Value) (w : World) =>
 PureS (lenSliceV acts0) fun t31 =>
 PureS (binV .lss i5 t31) fun t32 =>
 CondS t32 (
 PureS (indexAddrV 4 acts0 i5) fun t37 =>
 LoadA 4 t37 (fun t38 w =>
 BoxS 33 (Value.agg #[(Value.int .i64 0), (Value.int .i64 0), (Value.int .u64 0), (Value.slice none 0 0)]) (fun a6 w =>
 StoreA 4 a6 t38 (fun w =>
 JoinS (fun (w : World) =>
 CallS Try.prog 28 [t26].toArray (fun t125 w =>
 CallS Try.prog 29 [t24].toArray (fun t128 w =>
 PureS (extractV 0 t128) fun t129 =>
 PureS (extractV 1 t128) fun t130 =>
 CallS Try.prog 21 [t24].toArray (fun t132 w =>
 CallS Try.prog 12 [t132, t125].toArray (fun t134 w =>
 PureS (notV t134) fun t135 =>
 JoinS (fun (t141 : Value) (w : World) =>
 PureS (pickV t135 (Value.bool true) t141) fun t142 =>
 JoinS (fun (t148 : Value) (w : World) =>
 PureS (pickV t142 (Value.bool true) t148) fun t149 =>
 JoinS (fun (t152 : Value) (w : World) =>
 JoinS (fun (t157 : Value) (w : World) =>
 JoinS (fun (t158 : Value) (w : World) =>
 PureS (pickV t149 (Value.bool true) t158) fun t159 =>
 JoinS (fun (t163 : Value) (w : World) =>
 JoinS (fun (t165 : Value) (w : World) =>
 JoinS (fun (t166 : Value) (w : World) =>
 PureS (pickV t159 (Value.bool true) t166) fun t167 =>
 CondS t167 (
 K (Value.bool false) w
 ) (
 PureS (binV .add i5 (Value.int .i64 1)) fun t34 =>
 L7 t34 w
 )
 ) fun J16 =>
 IfB t159 false (
 PureS (pickV t163 t165 (Value.bool false)) fun t166_1 =>
 J16 t166_1 w
 ) (
 J16 undef w
 )
 ) fun J15 =>
 IfB t163 true (
 PureS (binV .neq t129 (Value.int .u64 0)) fun t165_1 =>
 J15 t165_1 w
 ) (
 J15 undef w
 )
 ) fun J14 =>
 IfB t159 false (
 PureS (notV t130) fun t162 =>
 J14 t162 w
 ) (
 J14 undef w
 )
 ) fun J13 =>
 IfB t149 false (
 PureS (pickV t152 t157 (Value.bool false)) fun t158_1 =>
 J13 t158_1 w
 ) (
 J13 undef w
 )
 ) fun J12 =>
 IfB t152 true (
 PureS (indexAddrV 1 t125 (Value.int .i64 0)) fun t155 =>
 LoadC t155 (fun t156 w =>
 PureS (binV .neq t129 t156) fun t157_1 =>
 J12 t157_1 w
 ) w
 ) (
 J12 undef w
 )
 ) fun J11 =>
 IfB t149 false (
 J11 t130 w
 ) (
 J11 undef w
 )
 ) fun J10 =>
 IfB t142 false (
 PureS (lenSliceV t125) fun t146 =>
 PureS (binV .gtr t146 (Value.int .i64 0)) fun t147 =>
 PureS (boolV .neq t130 t147) fun t148_1 =>
 J10 t148_1 w
 ) (
 J10 undef w
 )
 ) fun J9 =>
 IfB t135 false (
 CallS Try.prog 30 [t24].toArray (fun t138 w =>
 CallS Try.prog 31 [t26].toArray (fun t140 w =>
 PureS (binV .neq t138 t140) fun t141_1 =>
 J9 t141_1 w
 ) w
 ) w
 ) (
 J9 undef w
 )
 ) w
 ) w
 ) w
 ) w
 ) fun J8 =>
 PureS (fieldAddrV 0 a6) fun t39 =>
 LoadC t39 (fun t40 w =>
 PureS (binV .eql t40 (Value.int .i64 0)) fun t42 =>
 CondS t42 (
 PureS (fieldAddrV 2 a6) fun t45 =>
 LoadC t45 (fun t46 w =>
 CallS Try.prog 19 [t24, t46].toArray (fun t47 w =>
 PureS (extractV 0 t47) fun t48 =>
 PureS (extractV 1 t47) fun t49 =>
 PureS (fieldAddrV 2 a6) fun t52 =>
 LoadC t52 (fun t53 w =>
 CallS Try.prog 24 [t26, t53].toArray (fun t54 w =>
 PureS (extractV 0 t54) fun t55 =>
 PureS (extractV 1 t54) fun t56 =>
 PureS (binV .neq t48 t55) fun t59 =>
 JoinS (fun (t63 : Value) (w : World) =>
 PureS (pickV t59 (Value.bool true) t63) fun t64 =>
 CondS t64 (
 K (Value.bool false) w
 ) (
 J8 w
 )
 ) fun J17 =>
 IfB t59 false (
 PureS (binV .neq t49 t56) fun t63_1 =>
 J17 t63_1 w
 ) (
 J17 undef w
 )
 ) w
 ) w
 ) w
 ) w
 ) (
 PureS (binV .eql t40 (Value.int .i64 1)) fun t66 =>
 CondS t66 (
 DrawS fun S18 => S18 w.drew ∧ (
 PureS (fieldAddrV 1 a6) fun t68 =>
 PureS (fieldAddrV 1 a6) fun t72 =>
 HeldC S18 t68 (fun t69 =>
 HeldC S18 t72 (fun t73 =>
 CallS Try.prog 20 [t24, t69].toArray (fun t70 w =>
 S18 w ∧ (
 CallS Try.prog 25 [t26, t73].toArray (fun t74 w =>
 PureS (binV .neq t70 t74) fun t75 =>
 CondS t75 (
 K (Value.bool false) w
 ) (
 J8 w
 )
 ) w
 )
 ) w.drew
 )
 )
 )
 ) (
 PureS (binV .eql t40 (Value.int .i64 2)) fun t77 =>
 CondS t77 (
 PureS (fieldAddrV 1 a6) fun t80 =>
 LoadC t80 (fun t81 w =>
 CallS Try.prog 22 [t24, t81].toArray (fun t82 w =>
 PureS (extractV 0 t82) fun t83 =>
 PureS (extractV 1 t82) fun t84 =>
 PureS (fieldAddrV 1 a6) fun t87 =>
 LoadC t87 (fun t88 w =>
 CallS Try.prog 26 [t26, t88].toArray (fun t89 w =>
 PureS (extractV 0 t89) fun t90 =>
 PureS (extractV 1 t89) fun t91 =>
 PureS (fieldAddrV 2 a6) fun t94 =>
 LoadC t94 (fun t95 w =>
 CallS Try.prog 23 [t24, t95].toArray (fun t96 w =>
 PureS (extractV 0 t96) fun t97 =>
 PureS (extractV 1 t96) fun t98 =>
 PureS (fieldAddrV 2 a6) fun t101 =>
 LoadC t101 (fun t102 w =>
 CallS Try.prog 27 [t26, t102].toArray (fun t103 w =>
 PureS (extractV 0 t103) fun t104 =>
 PureS (extractV 1 t103) fun t105 =>
 PureS (binV .neq t83 t90) fun t108 =>
 JoinS (fun (t112 : Value) (w : World) =>
 PureS (pickV t108 (Value.bool true) t112) fun t113 =>
 JoinS (fun (t117 : Value) (w : World) =>
 PureS (pickV t113 (Value.bool true) t117) fun t118 =>
 JoinS (fun (t122 : Value) (w : World) =>
 PureS (pickV t118 (Value.bool true) t122) fun t123 =>
 CondS t123 (
 K (Value.bool false) w
 ) (
 J8 w
 )
 ) fun J21 =>
 IfB t118 false (
 PureS (boolV .neq t98 t105) fun t122_1 =>
 J21 t122_1 w
 ) (
 J21 undef w
 )
 ) fun J20 =>
 IfB t113 false (
 PureS (binV .neq t97 t104) fun t117_1 =>
 J20 t117_1 w
 ) (
 J20 undef w
 )
 ) fun J19 =>
 IfB t108 false (
 PureS (binV .neq t84 t91) fun t112_1 =>
 J19 t112_1 w
 ) (
 J19 undef w
 )
 ) w
 ) w
 ) w
 ) w
 ) w
 ) w
 ) w
 ) w
 ) (
 J8 w
 )
 )
 )
 ) w
 ) w
 ) w
 ) w
 ) (
 J0 w
 )
 ) (Value.int .i64 0) w
 )
 ) w
 ) w
 ) w
 ) w
theorem s5_den (acts0 : Value) (K : Value → World → Prop) (w : World) : denFn Try.prog false (bodyOf Try.f5) Try.f5.results a5 [acts0] K NoP w = s5 acts0 K w := by kernel_rfl
theorem s5_dst : dstsOk (1 + 192) (bodyOf Try.f5) = true := by kernel_rfl
theorem s5_ann : annOk (bodyOf Try.f5) a5 = true := by kernel_rfl
theorem s5_call {acts0 : Value} {K : Value → World → Prop} {w : World} (hm : Try.prog.follows .mixedOrders = true) (h : s5 acts0 K w) : CallS Try.prog 5 #[acts0] K w :=
  fn_call (args := [acts0]) (m := 192) hm Try.func5 (by kernel_rfl) (rs := Try.f5.results) rfl Try.ntmps5 s5_dst s5_ann (by rw [s5_den]; exact h)

/-! number 6 -/
def a6 : Ann :=
 (.q (.r [.plain 1]) (.q (.q (.r [.plain 2]) (.c (.q (.r [.plain 1]) .s) .s)) (.q (.r [.plain 2]) (.q (.q (.r [.plain 2]) (.c (.q (.r [.plain 1]) .s) .s)) (.q (.r [.plain 2]) (.j [] 365375409332725729550921208179070754913848983524 (.q (.r [.plain 1]) (.b (.l [5] 365375409332725729550921208179070754913848983524 (.q (.q (.r [.plain 4]) (.c .s .s)) (.j [] 365375409332725729550921208179070754905393266628 (.b (.q (.q (.r [.plain 6]) (.c (.q (.d [0, 0, 0, 0, 0, 24, 56, 120, 252, 510, 0, 0, 3072, 7168, 15360, 32767] (.pur 0 (.pur 1 (.pur 3 (.pur 4 (.pur 5 (.pur 6 (.pur 10 (.pur 11 (.pur 12 (.pur 13 (.hld 7 (.hld 14 (.act 2 (.act 8 (.act 9 (.act 15 .fin))))))))))))))))) .s) .s)) (.q (.r [.plain 12]) (.q (.q (.r [.plain 6]) (.c .s .s)) (.q (.r [.plain 12]) (.q (.q (.r [.plain 4]) (.c (.q (.r [.plain 1]) .s) .s)) (.q (.r [.plain 7]) (.j [] 42535295863879367893636445654071909380 (.q (.r [.plain 1]) (.b (.l [10] 42535295863879367893636445654071909380 (.q (.q (.r [.plain 4]) (.c .s .s)) (.j [] 42535295785889145418657488335427082244 (.b (.q (.r [.plain 1]) (.j [11] 20769108205976796249784391772936192 (.q (.r [.plain 1]) (.b (.l [11, 12] 20769108205976796249784391772936192 (.q (.q (.r [.plain 4]) (.c .s .s)) (.j [11] 20764116831738397596515998504060928 (.b (.d [0, 1, 3, 3, 15, 31, 3, 3, 195, 451, 1023, 2047, 4095] (.pur 0 (.pur 1 (.ite 1 (.skp 2 (.skp 3 (.skp 4 (.skp 5 (.skp 6 (.skp 7 (.skp 8 (.skp 9 (.skp 10 (.pur 11 (.pur 12 .fin))))))))))) (.pur 2 (.pur 3 (.pur 4 (.pur 6 (.pur 7 (.pur 8 (.hld 5 (.hld 9 (.pur 10 (.pur 11 (.pur 12 .fin))))))))))))))))
  (.r [.plain 3]))))))
  (.q (.r [.plain 3, .grp 7 [123] 21101494433085539482347937081950470144, .plain 1]) (.c (.q (.r [.plain 1]) .s) .s)))))
  (.r [.plain 3]))))))
  (.q (.r [.plain 1]) (.b (.l [13] 365375409290190433685803900246148928985012166660 (.q (.q (.r [.plain 4]) (.c .s .s)) (.j [] 365375406610466794183413500472073895459837493252 (.b (.q (.r [.plain 1]) (.j [14] 713621124094044573021435277727888114045730816 (.q (.r [.plain 1]) (.b (.l [14, 15] 713621124094044573021435277727888114045730816 (.q (.q (.r [.plain 4]) (.c .s .s)) (.j [14] 713449621781116420035849736925742502867124224 (.b (.d [0, 1, 3, 3, 15, 31, 3, 3, 195, 451, 1023, 2047, 4095] (.pur 0 (.pur 1 (.ite 1 (.skp 2 (.skp 3 (.skp 4 (.skp 5 (.skp 6 (.skp 7 (.skp 8 (.skp 9 (.skp 10 (.pur 11 (.pur 12 .fin))))))))))) (.pur 2 (.pur 3 (.pur 4 (.pur 6 (.pur 7 (.pur 8 (.hld 5 (.hld 9 (.pur 10 (.pur 11 (.pur 12 .fin))))))))))))))))
  (.r [.plain 3]))))))
  (.q (.r [.plain 9]) (.c (.q (.r [.plain 1]) .s) .s)))))
  (.r [.plain 3]))))))))))))))
  (.r [.plain 3]))))))
  (.q (.r [.plain 1]) (.j [16] 373779043747378421330592395967189382277004748193792 (.q (.r [.plain 2]) (.b (.l [16] 372682917519380244141939632342652170012262798786560 (.q (.r [.plain 2]) (.q (.c .s .s) (.b (.q (.r [.plain 3]) (.r [.plain 5]))))))))
  (.q (.r [.plain 3]) (.j [16] 24518432076177594889145311861136245464087698280014741504 (.q (.r [.plain 1]) (.b (.l [16, 20] 24518432076177594889145311861136245464087698280014741504 (.q (.q (.r [.plain 4]) (.c .s .s)) (.q (.b (.r [.plain 9])) (.r [.plain 3]))))))
  (.q (.r [.plain 3]) .s)))))))))))
def s6 (acts0 : Value) (K : Value → World → Prop) (w : World) : Prop :=
 CallS Try.prog 17 [].toArray (fun t21 w =>
 PureS (notV t21) fun t22 =>
 CondS t22 (
 K (Value.bool false) w
 ) (
 CallS Try.prog 7 [].toArray (fun t23 w =>
 RunS Try.prog (do eqGuard .eql 23 (Operand.tmp 24) (Operand.const (Value.pointer none)) t23 (Value.pointer none); binOp .eql 23 t23 (Value.pointer none)) (fun t25 w =>
 CondS t25 (
 K (Value.bool false) w
 ) (
 RunS Try.prog (Instr.makeMap 59 none) (fun t26 w =>
 JoinS (fun (w : World) =>
 JoinS (fun (total16 : Value) (w : World) =>
 CallS Try.prog 13 [t23].toArray (fun t169 w =>
 JoinS (fun (total16_1 : Value) (w : World) =>
 PureS (binV .eql total16_1 (Value.int .i64 0)) fun t185 =>
 K t185 w
 ) fun J2 =>
 LoopS 2 (fun L3 (total16_2 i20 : Value) (w : World) =>
 PureS (lenSliceV t169) fun t172 =>
 PureS (binV .lss i20 t172) fun t173 =>
 CondS t173 (
 PureS (indexAddrV 1 t169 i20) fun t180 =>
 LoadC t180 (fun t181 w =>
 CallS Try.prog 15 [t23, t181].toArray (fun t182 w =>
 PureS (binV .sub total16_2 t182) fun t183 =>
 PureS (binV .add i20 (Value.int .i64 1)) fun t175 =>
 L3 t183 t175 w
 ) w
 ) w
 ) (
 J2 total16_2 w
 )
 ) total16 (Value.int .i64 0) w
 ) w
 ) fun J1 =>
 RunS Try.prog (Instr.range 59 t26) (fun t159 w =>
 LoopS 1 (fun L4 (total16_3 : Value) (w : World) =>
 RunS Try.prog (Instr.next t159 false 0) (fun t160 w =>
 PureS (extractV 0 t160) fun t161 =>
 CondS t161 (
 RunS Try.prog (Instr.entry t159) (fun t162 w =>
 PureS (extractV 1 t162) fun t163 =>
 PureS (lenSliceV t163) fun t166 =>
 PureS (binV .add total16_3 t166) fun t167 =>
 L4 t167 w
 ) w
 ) (
 J1 total16_3 w
 )
 ) w
 ) (Value.int .i64 0) w
 ) w
 ) fun J0 =>
 LoopS 1 (fun L5 (i5 : Value) (w : World) =>
 PureS (lenSliceV acts0) fun t29 =>
 PureS (binV .lss i5 t29) fun t30 =>
 CondS t30 (
 JoinS (fun (w : World) =>
 PureS (binV .add i5 (Value.int .i64 1)) fun t32 =>
 L5 t32 w
 ) fun J6 =>
 PureS (indexAddrV 4 acts0 i5) fun t35 =>
 PureS (fieldAddrV 0 t35) fun t36 =>
 LoadC t36 (fun t37 w =>
 PureS (binV .eql t37 (Value.int .i64 3)) fun t38 =>
 CondS t38 (
 DrawS fun S7 => S7 w.drew ∧ (
 PureS (indexAddrV 4 acts0 i5) fun t44 =>
 PureS (fieldAddrV 3 t44) fun t45 =>
 PureS (indexAddrV 4 acts0 i5) fun t51 =>
 PureS (fieldAddrV 3 t51) fun t52 =>
 HeldC S7 t45 (fun t46 =>
 HeldC S7 t52 (fun t53 =>
 RunS Try.prog (Instr.buildSlice 31 0 [].toArray) (fun t41 w =>
 S7 w ∧ (
 RunS Try.prog (Builtin.append_ #[31, 31] 31 [t41, t46].toArray) (fun t47 w =>
 S7 w ∧ (
 CallS Try.prog 8 [t23, t47].toArray (fun t48 w =>
 S7 w ∧ (
 RunU Try.prog (Instr.mapUpdate 59 t26 t48 t53) (fun w =>
 J6 w
 ) w
 )
 ) w
 )
 ) w
 )
 ) w.drew
 )
 )
 )
 ) (
 PureS (indexAddrV 4 acts0 i5) fun t58 =>
 PureS (fieldAddrV 1 t58) fun t59 =>
 LoadC t59 (fun t60 w =>
 RunS Try.prog (Instr.lookup 59 t26 t60 true) (fun t61 w =>
 PureS (extractV 0 t61) fun t62 =>
 PureS (extractV 1 t61) fun t63 =>
 PureS (indexAddrV 4 acts0 i5) fun t66 =>
 PureS (fieldAddrV 0 t66) fun t67 =>
 LoadC t67 (fun t68 w =>
 PureS (binV .neq t68 (Value.int .i64 4)) fun t69 =>
 CondS t69 (
 J6 w
 ) (
 PureS (indexAddrV 4 acts0 i5) fun t74 =>
 PureS (fieldAddrV 1 t74) fun t75 =>
 LoadC t75 (fun t76 w =>
 CallS Try.prog 10 [t23, t76].toArray (fun t77 w =>
 PureS (extractV 0 t77) fun t78 =>
 PureS (extractV 1 t77) fun t79 =>
 PureS (binV .eql t79 (Value.int .i64 0)) fun t81 =>
 PureS (boolV .neq t81 t63) fun t83 =>
 CondS t83 (
 K (Value.bool false) w
 ) (
 PureS (indexAddrV 4 acts0 i5) fun t87 =>
 PureS (fieldAddrV 1 t87) fun t88 =>
 LoadC t88 (fun t89 w =>
 RunS Try.prog (Builtin.delete_ #[59, 3] 0 [t26, t89].toArray) (fun _ w =>
 JoinS (fun (w : World) =>
 LoopS 1 (fun L9 (j13 : Value) (w : World) =>
 PureS (lenSliceV t62) fun t127 =>
 PureS (binV .lss j13 t127) fun t128 =>
 CondS t128 (
 JoinS (fun (w : World) =>
 PureS (binV .add j13 (Value.int .i64 1)) fun t130 =>
 L9 t130 w
 ) fun J10 =>
 JoinS (fun (told14 : Value) (w : World) =>
 PureS (indexAddrV 1 t62 j13) fun t153 =>
 LoadC t153 (fun t154 w =>
 CallS Try.prog 15 [t23, t154].toArray (fun t155 w =>
 PureS (binV .eql t155 (Value.int .i64 0)) fun t156 =>
 PureS (boolV .neq told14 t156) fun t157 =>
 CondS t157 (
 K (Value.bool false) w
 ) (
 J10 w
 )
 ) w
 ) w
 ) fun J11 =>
 LoopS 2 (fun L12 (told14_1 k15 : Value) (w : World) =>
 PureS (lenSliceV t78) fun t133 =>
 PureS (binV .lss k15 t133) fun t134 =>
 CondS t134 (
 JoinS (fun (told14_2 : Value) (w : World) =>
 PureS (binV .add k15 (Value.int .i64 1)) fun t136 =>
 L12 told14_2 t136 w
 ) fun J13 =>
 DrawS fun S14 => S14 w.drew ∧ (
 CondS told14_1 (
 PureS (pickV (Value.bool true) (Value.bool true) undef) fun t148 =>
 J13 t148 w.drew
 ) (
 PureS (indexAddrV 1 t78 k15) fun t141 =>
 PureS (indexAddrV 1 t62 j13) fun t145 =>
 HeldC S14 t141 (fun t142 =>
 HeldC S14 t145 (fun t146 =>
 PureS (binV .eql t142 t146) fun t147 =>
 PureS (pickV (Value.bool false) (Value.bool true) t147) fun t148_1 =>
 J13 t148_1 w.drew
 )
 )
 )
 )
 ) (
 J11 told14_1 w
 )
 ) (Value.bool false) (Value.int .i64 0) w
 ) (
 J6 w
 )
 ) (Value.int .i64 0) w
 ) fun J8 =>
 LoopS 1 (fun L15 (k10 : Value) (w : World) =>
 PureS (lenSliceV t78) fun t92 =>
 PureS (binV .lss k10 t92) fun t93 =>
 CondS t93 (
 JoinS (fun (w : World) =>
 PureS (binV .add k10 (Value.int .i64 1)) fun t95 =>
 L15 t95 w
 ) fun J16 =>
 JoinS (fun (mine11 : Value) (w : World) =>
 PureS (notV mine11) fun t115 =>
 JoinS (fun (t123 : Value) (w : World) =>
 PureS (pickV t115 (Value.bool true) t123) fun t124 =>
 CondS t124 (
 K (Value.bool false) w
 ) (
 J16 w
 )
 ) fun J18 =>
 IfB t115 false (
 PureS (indexAddrV 1 t78 k10) fun t120 =>
 LoadC t120 (fun t121 w =>
 CallS Try.prog 15 [t23, t121].toArray (fun t122 w =>
 PureS (binV .neq t122 (Value.int .i64 0)) fun t123_1 =>
 J18 t123_1 w
 ) w
 ) w
 ) (
 J18 undef w
 )
 ) fun J17 =>
 LoopS 2 (fun L19 (mine11_1 j12 : Value) (w : World) =>
 PureS (lenSliceV t62) fun t98 =>
 PureS (binV .lss j12 t98) fun t99 =>
 CondS t99 (
 JoinS (fun (mine11_2 : Value) (w : World) =>
 PureS (binV .add j12 (Value.int .i64 1)) fun t101 =>
 L19 mine11_2 t101 w
 ) fun J20 =>
 DrawS fun S21 => S21 w.drew ∧ (
 CondS mine11_1 (
 PureS (pickV (Value.bool true) (Value.bool true) undef) fun t113 =>
 J20 t113 w.drew
 ) (
 PureS (indexAddrV 1 t62 j12) fun t106 =>
 PureS (indexAddrV 1 t78 k10) fun t110 =>
 HeldC S21 t106 (fun t107 =>
 HeldC S21 t110 (fun t111 =>
 PureS (binV .eql t107 t111) fun t112 =>
 PureS (pickV (Value.bool false) (Value.bool true) t112) fun t113_1 =>
 J20 t113_1 w.drew
 )
 )
 )
 )
 ) (
 J17 mine11_1 w
 )
 ) (Value.bool false) (Value.int .i64 0) w
 ) (
 J8 w
 )
 ) (Value.int .i64 0) w
 ) w
 ) w
 )
 ) w
 ) w
 )
 ) w
 ) w
 ) w
 )
 ) w
 ) (
 J0 w
 )
 ) (Value.int .i64 0) w
 ) w
 )
 ) w
 ) w
 )
 ) w
theorem s6_den (acts0 : Value) (K : Value → World → Prop) (w : World) : denFn Try.prog false (bodyOf Try.f6) Try.f6.results a6 [acts0] K NoP w = s6 acts0 K w := by kernel_rfl
theorem s6_dst : dstsOk (1 + 185) (bodyOf Try.f6) = true := by kernel_rfl
theorem s6_ann : annOk (bodyOf Try.f6) a6 = true := by kernel_rfl
theorem s6_call {acts0 : Value} {K : Value → World → Prop} {w : World} (hm : Try.prog.follows .mixedOrders = true) (h : s6 acts0 K w) : CallS Try.prog 6 #[acts0] K w :=
  fn_call (args := [acts0]) (m := 185) hm Try.func6 (by kernel_rfl) (rs := Try.f6.results) rfl Try.ntmps6 s6_dst s6_ann (by rw [s6_den]; exact h)

/-! number 7 -/
def a7 : Ann :=
 (.q (.r [.plain 1]) (.q (.r [.plain 5]) .s))
def s7 (K : Value → World → Prop) (w : World) : Prop :=
 RunS Try.prog (Instr.makeMap 59 none) (fun t1 w =>
 RunS Try.prog (Instr.makeMap 61 none) (fun t2 w =>
 RunS Try.prog (Instr.build 63 [(0, t1), (1, t2)].toArray) (fun t3 w =>
 BoxS 63 t3 (fun t4 w =>
 K t4 w
 ) w
 ) w
 ) w
 ) w
theorem s7_den (K : Value → World → Prop) (w : World) : denFn Try.prog false (bodyOf Try.f7) Try.f7.results a7 [] K NoP w = s7 K w := by kernel_rfl
theorem s7_dst : dstsOk (0 + 5) (bodyOf Try.f7) = true := by kernel_rfl
theorem s7_ann : annOk (bodyOf Try.f7) a7 = true := by kernel_rfl
theorem s7_call {K : Value → World → Prop} {w : World} (hm : Try.prog.follows .mixedOrders = true) (h : s7 K w) : CallS Try.prog 7 #[] K w :=
  fn_call (args := []) (m := 5) hm Try.func7 (by kernel_rfl) (rs := Try.f7.results) rfl Try.ntmps7 s7_dst s7_ann (by rw [s7_den]; exact h)

/-! number 8 -/
def a8 : Ann :=
 (.q (.r [.plain 1]) (.q (.r [.plain 8]) (.q (.d [0, 1, 3, 7, 0, 16, 48, 112, 0, 256, 1023] (.pur 0 (.pur 1 (.pur 2 (.pur 4 (.pur 5 (.pur 6 (.pur 8 (.hld 3 (.hld 7 (.act 9 (.act 10 .fin)))))))))))) (.j [] 274861129792 (.q (.r [.plain 3]) (.b (.l [26] 274810798144 (.q (.r [.plain 1]) (.q (.c .s .s) (.q (.b (.q (.r [.plain 3]) (.r [.plain 8]))) (.r [.plain 2])))))))
  (.q (.r [.plain 5]) .s)))))
def s8 (r0 files1 : Value) (K : Value → World → Prop) (w : World) : Prop :=
 PureS (nilV r0) fun t8 =>
 PureS (fieldAddrV 2 t8) fun t9 =>
 LoadC t9 (fun t10 w =>
 PureS (binV .add t10 (Value.int .i64 1)) fun t11 =>
 PureS (nilV r0) fun t12 =>
 PureS (fieldAddrV 2 t12) fun t13 =>
 StoreC t13 t11 (fun w =>
 DrawS fun S0 => S0 w.drew ∧ (
 PureS (nilV r0) fun t15 =>
 PureS (fieldAddrV 0 t15) fun t16 =>
 PureS (nilV r0) fun t19 =>
 PureS (fieldAddrV 2 t19) fun t20 =>
 HeldC S0 t16 (fun t17 =>
 HeldC S0 t20 (fun t21 =>
 CallS Try.prog 32 [files1].toArray (fun t23 w =>
 S0 w ∧ (
 RunU Try.prog (Instr.mapUpdate 59 t17 t21 t23) (fun w =>
 JoinS (fun (w : World) =>
 PureS (nilV r0) fun t39 =>
 PureS (fieldAddrV 2 t39) fun t40 =>
 LoadC t40 (fun t41 w =>
 K t41 w
 ) w
 ) fun J1 =>
 PureS (lenSliceV files1) fun t25 =>
 LoopS 1 (fun L2 (t26 : Value) (w : World) =>
 PureS (binV .lss t26 t25) fun t27 =>
 CondS t27 (
 PureS (indexAddrV 1 files1 t26) fun t28 =>
 LoadC t28 (fun t29 w =>
 PureS (nilV r0) fun t31 =>
 PureS (fieldAddrV 1 t31) fun t32 =>
 LoadC t32 (fun t33 w =>
 RunS Try.prog (Instr.lookup 61 t33 t29 false) (fun t35 w =>
 PureS (binV .add t35 (Value.int .i64 1)) fun t36 =>
 RunU Try.prog (Instr.mapUpdate 61 t33 t29 t36) (fun w =>
 PureS (binV .add t26 (Value.int .i64 1)) fun t37 =>
 L2 t37 w
 ) w
 ) w
 ) w
 ) w
 ) (
 J1 w
 )
 ) (Value.int .i64 0) w
 ) w
 )
 ) w.drew
 )
 )
 )
 ) w
 ) w
theorem s8_den (r0 files1 : Value) (K : Value → World → Prop) (w : World) : denFn Try.prog false (bodyOf Try.f8) Try.f8.results a8 [r0, files1] K NoP w = s8 r0 files1 K w := by kernel_rfl
theorem s8_dst : dstsOk (2 + 40) (bodyOf Try.f8) = true := by kernel_rfl
theorem s8_ann : annOk (bodyOf Try.f8) a8 = true := by kernel_rfl
theorem s8_call {r0 files1 : Value} {K : Value → World → Prop} {w : World} (hm : Try.prog.follows .mixedOrders = true) (h : s8 r0 files1 K w) : CallS Try.prog 8 #[r0, files1] K w :=
  fn_call (args := [r0, files1]) (m := 40) hm Try.func8 (by kernel_rfl) (rs := Try.f8.results) rfl Try.ntmps8 s8_dst s8_ann (by rw [s8_den]; exact h)

/-! number 9 -/
def a9 : Ann :=
 (.q (.r [.plain 1]) (.j [] 67108832 (.d [0, 0, 0, 4, 12, 28, 0, 0, 192, 448, 1020, 0, 2048, 6144, 14336, 0, 65532, 131069, 262141, 524285, 1048575, 2097151, 4194303] (.pur 0 (.pur 1 (.pur 2 (.pur 3 (.pur 4 (.pur 7 (.pur 11 (.pur 12 (.pur 13 (.hld 5 (.hld 14 (.alt 6 (.alt 8 (.alt 9 (.alt 10 (.act 15 (.act 16 (.pur 17 (.pur 18 (.act 19 (.pur 20 (.pur 21 (.act 22 .fin)))))))) (.act 15 (.act 10 (.act 16 (.pur 17 (.pur 18 (.act 19 (.pur 20 (.pur 21 (.act 22 .fin)))))))))) (.act 15 (.act 9 (.act 10 (.act 16 (.pur 17 (.pur 18 (.act 19 (.pur 20 (.pur 21 (.act 22 .fin))))))))))) (.act 15 (.act 8 (.act 9 (.act 10 (.act 16 (.pur 17 (.pur 18 (.act 19 (.pur 20 (.pur 21 (.act 22 .fin)))))))))))) (.act 15 (.act 6 (.act 8 (.act 9 (.act 10 (.act 16 (.pur 17 (.pur 18 (.act 19 (.pur 20 (.pur 21 (.act 22 .fin)))))))))))))))))))))))))
  (.q (.r [.plain 6]) .s)))
def s9 (r0 files1 : Value) (K : Value → World → Prop) (w : World) : Prop :=
 JoinS (fun (w : World) =>
 PureS (nilV r0) fun t27 =>
 PureS (fieldAddrV 0 t27) fun t28 =>
 LoadC t28 (fun t29 w =>
 PureS (lenSliceV t29) fun t30 =>
 K t30 w
 ) w
 ) fun J0 =>
 DrawS fun S1 => S1 w.drew ∧ (
 PureS (nilV r0) fun t8 =>
 PureS (fieldAddrV 0 t8) fun t9 =>
 PureS (nilV r0) fun t17 =>
 PureS (fieldAddrV 1 t17) fun t18 =>
 HeldC S1 t9 (fun t10 =>
 HeldC S1 t18 (fun t19 =>
 (
 RunS Try.prog (Instr.buildSlice 31 0 [].toArray) (fun t11 w =>
 S1 w ∧ (
 (
 RunS Try.prog (Builtin.append_ #[31, 31] 31 [t11, files1].toArray) (fun t13 w =>
 S1 w ∧ (
 (
 RunS Try.prog (Instr.buildSlice 26 1 [(0, t13)].toArray) (fun t14 w =>
 S1 w ∧ (
 (
 RunS Try.prog (Builtin.append_ #[26, 26] 26 [t10, t14].toArray) (fun t15 w =>
 S1 w ∧ (
 RunS Try.prog (Instr.buildSlice 27 1 [(0, (Value.bool true))].toArray) (fun t20 w =>
 S1 w ∧ (
 RunS Try.prog (Builtin.append_ #[27, 27] 27 [t19, t20].toArray) (fun t21 w =>
 PureS (nilV r0) fun t22 =>
 PureS (fieldAddrV 0 t22) fun t23 =>
 StoreC t23 t15 (fun w =>
 PureS (nilV r0) fun t24 =>
 PureS (fieldAddrV 1 t24) fun t25 =>
 StoreC t25 t21 (fun w =>
 J0 w
 ) w
 ) w
 ) w
 )
 ) w
 )
 ) w
 ) ∧ (
 RunS Try.prog (Instr.buildSlice 27 1 [(0, (Value.bool true))].toArray) (fun t20_1 w =>
 S1 w ∧ (
 RunS Try.prog (Builtin.append_ #[26, 26] 26 [t10, t14].toArray) (fun t15_1 w =>
 S1 w ∧ (
 RunS Try.prog (Builtin.append_ #[27, 27] 27 [t19, t20_1].toArray) (fun t21_1 w =>
 PureS (nilV r0) fun t22_1 =>
 PureS (fieldAddrV 0 t22_1) fun t23_1 =>
 StoreC t23_1 t15_1 (fun w =>
 PureS (nilV r0) fun t24_1 =>
 PureS (fieldAddrV 1 t24_1) fun t25_1 =>
 StoreC t25_1 t21_1 (fun w =>
 J0 w
 ) w
 ) w
 ) w
 )
 ) w
 )
 ) w
 )
 )
 ) w
 ) ∧ (
 RunS Try.prog (Instr.buildSlice 27 1 [(0, (Value.bool true))].toArray) (fun t20_2 w =>
 S1 w ∧ (
 RunS Try.prog (Instr.buildSlice 26 1 [(0, t13)].toArray) (fun t14_1 w =>
 S1 w ∧ (
 RunS Try.prog (Builtin.append_ #[26, 26] 26 [t10, t14_1].toArray) (fun t15_2 w =>
 S1 w ∧ (
 RunS Try.prog (Builtin.append_ #[27, 27] 27 [t19, t20_2].toArray) (fun t21_2 w =>
 PureS (nilV r0) fun t22_2 =>
 PureS (fieldAddrV 0 t22_2) fun t23_2 =>
 StoreC t23_2 t15_2 (fun w =>
 PureS (nilV r0) fun t24_2 =>
 PureS (fieldAddrV 1 t24_2) fun t25_2 =>
 StoreC t25_2 t21_2 (fun w =>
 J0 w
 ) w
 ) w
 ) w
 )
 ) w
 )
 ) w
 )
 ) w
 )
 )
 ) w
 ) ∧ (
 RunS Try.prog (Instr.buildSlice 27 1 [(0, (Value.bool true))].toArray) (fun t20_3 w =>
 S1 w ∧ (
 RunS Try.prog (Builtin.append_ #[31, 31] 31 [t11, files1].toArray) (fun t13_1 w =>
 S1 w ∧ (
 RunS Try.prog (Instr.buildSlice 26 1 [(0, t13_1)].toArray) (fun t14_2 w =>
 S1 w ∧ (
 RunS Try.prog (Builtin.append_ #[26, 26] 26 [t10, t14_2].toArray) (fun t15_3 w =>
 S1 w ∧ (
 RunS Try.prog (Builtin.append_ #[27, 27] 27 [t19, t20_3].toArray) (fun t21_3 w =>
 PureS (nilV r0) fun t22_3 =>
 PureS (fieldAddrV 0 t22_3) fun t23_3 =>
 StoreC t23_3 t15_3 (fun w =>
 PureS (nilV r0) fun t24_3 =>
 PureS (fieldAddrV 1 t24_3) fun t25_3 =>
 StoreC t25_3 t21_3 (fun w =>
 J0 w
 ) w
 ) w
 ) w
 )
 ) w
 )
 ) w
 )
 ) w
 )
 ) w
 )
 )
 ) w.drew
 ) ∧ (
 RunS Try.prog (Instr.buildSlice 27 1 [(0, (Value.bool true))].toArray) (fun t20_4 w =>
 S1 w ∧ (
 RunS Try.prog (Instr.buildSlice 31 0 [].toArray) (fun t11_1 w =>
 S1 w ∧ (
 RunS Try.prog (Builtin.append_ #[31, 31] 31 [t11_1, files1].toArray) (fun t13_2 w =>
 S1 w ∧ (
 RunS Try.prog (Instr.buildSlice 26 1 [(0, t13_2)].toArray) (fun t14_3 w =>
 S1 w ∧ (
 RunS Try.prog (Builtin.append_ #[26, 26] 26 [t10, t14_3].toArray) (fun t15_4 w =>
 S1 w ∧ (
 RunS Try.prog (Builtin.append_ #[27, 27] 27 [t19, t20_4].toArray) (fun t21_4 w =>
 PureS (nilV r0) fun t22_4 =>
 PureS (fieldAddrV 0 t22_4) fun t23_4 =>
 StoreC t23_4 t15_4 (fun w =>
 PureS (nilV r0) fun t24_4 =>
 PureS (fieldAddrV 1 t24_4) fun t25_4 =>
 StoreC t25_4 t21_4 (fun w =>
 J0 w
 ) w
 ) w
 ) w
 )
 ) w
 )
 ) w
 )
 ) w
 )
 ) w
 )
 ) w.drew
 )
 )
 )
 )
theorem s9_den (r0 files1 : Value) (K : Value → World → Prop) (w : World) : denFn Try.prog false (bodyOf Try.f9) Try.f9.results a9 [r0, files1] K NoP w = s9 r0 files1 K w := by kernel_rfl
theorem s9_dst : dstsOk (2 + 29) (bodyOf Try.f9) = true := by kernel_rfl
theorem s9_ann : annOk (bodyOf Try.f9) a9 = true := by kernel_rfl
theorem s9_call {r0 files1 : Value} {K : Value → World → Prop} {w : World} (hm : Try.prog.follows .mixedOrders = true) (h : s9 r0 files1 K w) : CallS Try.prog 9 #[r0, files1] K w :=
  fn_call (args := [r0, files1]) (m := 29) hm Try.func9 (by kernel_rfl) (rs := Try.f9.results) rfl Try.ntmps9 s9_dst s9_ann (by rw [s9_den]; exact h)

/-! number 10 -/
def a10 : Ann :=
 (.q (.r [.plain 2]) (.q (.r [.plain 11]) (.q (.q (.r [.plain 2]) (.c (.q (.r [.plain 2]) .s) .s)) (.q (.r [.plain 6]) (.q (.r [.plain 1]) (.j [8] 144115187941639424 (.q (.r [.plain 3]) (.b (.l [8, 29] 144115187538986240 (.q (.r [.plain 1]) (.q (.c .s .s) (.j [8] 72057591890445568 (.b (.q (.r [.plain 3]) (.q (.r [.plain 8]) (.q (.r [.plain 7]) (.c (.q (.r [.plain 6]) (.r [.plain 5])) .s)))))
  (.r [.plain 2])))))))
  (.q (.r [.plain 2]) (.q (.r [.plain 3]) .s))))))))
def s10 (r0 handle1 : Value) (K : Value → World → Prop) (w : World) : Prop :=
 PureS (nilV r0) fun t13 =>
 PureS (fieldAddrV 0 t13) fun t14 =>
 LoadC t14 (fun t15 w =>
 RunS Try.prog (Instr.lookup 59 t15 handle1 true) (fun t17 w =>
 PureS (extractV 0 t17) fun t18 =>
 PureS (extractV 1 t17) fun t19 =>
 PureS (notV t19) fun t21 =>
 CondS t21 (
 K (Value.tuple [(Value.slice none 0 0), (Value.int .i64 220)].toArray) w
 ) (
 PureS (nilV r0) fun t23 =>
 PureS (fieldAddrV 0 t23) fun t24 =>
 LoadC t24 (fun t25 w =>
 RunS Try.prog (Builtin.delete_ #[59, 3] 0 [t25, handle1].toArray) (fun _ w =>
 JoinS (fun (gone8 : Value) (w : World) =>
 CallS Try.prog 33 [gone8].toArray (fun t58 w =>
 K (Value.tuple [gone8, (Value.int .i64 0)].toArray) w
 ) w
 ) fun J0 =>
 PureS (lenSliceV t18) fun t28 =>
 LoopS 2 (fun L1 (gone8_1 t29 : Value) (w : World) =>
 PureS (binV .lss t29 t28) fun t30 =>
 CondS t30 (
 JoinS (fun (gone8_2 : Value) (w : World) =>
 PureS (binV .add t29 (Value.int .i64 1)) fun t56 =>
 L1 gone8_2 t56 w
 ) fun J2 =>
 PureS (indexAddrV 1 t18 t29) fun t31 =>
 LoadC t31 (fun t32 w =>
 PureS (nilV r0) fun t34 =>
 PureS (fieldAddrV 1 t34) fun t35 =>
 LoadC t35 (fun t36 w =>
 RunS Try.prog (Instr.lookup 61 t36 t32 false) (fun t38 w =>
 PureS (binV .sub t38 (Value.int .i64 1)) fun t39 =>
 RunU Try.prog (Instr.mapUpdate 61 t36 t32 t39) (fun w =>
 PureS (nilV r0) fun t41 =>
 PureS (fieldAddrV 1 t41) fun t42 =>
 LoadC t42 (fun t43 w =>
 RunS Try.prog (Instr.lookup 61 t43 t32 false) (fun t45 w =>
 PureS (binV .eql t45 (Value.int .i64 0)) fun t46 =>
 CondS t46 (
 PureS (nilV r0) fun t48 =>
 PureS (fieldAddrV 1 t48) fun t49 =>
 LoadC t49 (fun t50 w =>
 RunS Try.prog (Builtin.delete_ #[61, 30] 0 [t50, t32].toArray) (fun _ w =>
 RunS Try.prog (Instr.buildSlice 31 1 [(0, t32)].toArray) (fun t54 w =>
 RunS Try.prog (Builtin.append_ #[31, 31] 31 [gone8_1, t54].toArray) (fun t55 w =>
 J2 t55 w
 ) w
 ) w
 ) w
 ) w
 ) (
 J2 gone8_1 w
 )
 ) w
 ) w
 ) w
 ) w
 ) w
 ) w
 ) (
 J0 gone8_1 w
 )
 ) (Value.slice none 0 0) (Value.int .i64 0) w
 ) w
 ) w
 )
 ) w
 ) w
theorem s10_den (r0 handle1 : Value) (K : Value → World → Prop) (w : World) : denFn Try.prog false (bodyOf Try.f10) Try.f10.results a10 [r0, handle1] K NoP w = s10 r0 handle1 K w := by kernel_rfl
theorem s10_dst : dstsOk (2 + 58) (bodyOf Try.f10) = true := by kernel_rfl
theorem s10_ann : annOk (bodyOf Try.f10) a10 = true := by kernel_rfl
theorem s10_call {r0 handle1 : Value} {K : Value → World → Prop} {w : World} (hm : Try.prog.follows .mixedOrders = true) (h : s10 r0 handle1 K w) : CallS Try.prog 10 #[r0, handle1] K w :=
  fn_call (args := [r0, handle1]) (m := 58) hm Try.func10 (by kernel_rfl) (rs := Try.f10.results) rfl Try.ntmps10 s10_dst s10_ann (by rw [s10_den]; exact h)

/-! number 11 -/
def a11 : Ann :=
 (.q (.r [.plain 2]) (.q (.q (.r [.plain 3, .grp 7 [17] 260096, .plain 2, .grp 9 [28] 535822336, .plain 1]) (.c (.q (.r [.plain 2]) .s) .s)) (.q (.r [.plain 8]) (.q (.r [.plain 1]) (.j [6] 151115727451691207884992 (.q (.r [.plain 1]) (.b (.l [6, 7] 151115727451691207884992 (.q (.q (.r [.plain 11]) (.c .s .s)) (.j [6] 151115726325928739995712 (.b (.q (.r [.plain 14]) (.c (.r [.plain 14]) .s)))
  (.r [.plain 3]))))))
  (.q (.r [.plain 3]) .s))))))
def s11 (r0 h1 : Value) (K : Value → World → Prop) (w : World) : Prop :=
 PureS (binV .lss h1 (Value.int .i64 1)) fun t9 =>
 JoinS (fun (t17 : Value) (w : World) =>
 PureS (pickV t9 (Value.bool true) t17) fun t18 =>
 JoinS (fun (t28 : Value) (w : World) =>
 PureS (pickV t18 (Value.bool true) t28) fun t29 =>
 CondS t29 (
 K (Value.tuple [(Value.slice none 0 0), (Value.int .i64 220)].toArray) w
 ) (
 PureS (nilV r0) fun t31 =>
 PureS (fieldAddrV 1 t31) fun t32 =>
 LoadC t32 (fun t33 w =>
 PureS (binV .sub h1 (Value.int .i64 1)) fun t35 =>
 PureS (indexAddrV 1 t33 t35) fun t36 =>
 StoreC t36 (Value.bool false) (fun w =>
 JoinS (fun (out6 : Value) (w : World) =>
 K (Value.tuple [out6, (Value.int .i64 0)].toArray) w
 ) fun J2 =>
 LoopS 2 (fun L3 (out6_1 k7 : Value) (w : World) =>
 PureS (nilV r0) fun t39 =>
 PureS (fieldAddrV 0 t39) fun t40 =>
 LoadC t40 (fun t41 w =>
 PureS (binV .sub h1 (Value.int .i64 1)) fun t43 =>
 PureS (indexAddrV 1 t41 t43) fun t44 =>
 LoadC t44 (fun t45 w =>
 PureS (lenSliceV t45) fun t46 =>
 PureS (binV .lss k7 t46) fun t47 =>
 CondS t47 (
 JoinS (fun (out6_2 : Value) (w : World) =>
 PureS (binV .add k7 (Value.int .i64 1)) fun t49 =>
 L3 out6_2 t49 w
 ) fun J4 =>
 PureS (nilV r0) fun t52 =>
 PureS (fieldAddrV 0 t52) fun t53 =>
 LoadC t53 (fun t54 w =>
 PureS (binV .sub h1 (Value.int .i64 1)) fun t56 =>
 PureS (indexAddrV 1 t54 t56) fun t57 =>
 LoadC t57 (fun t58 w =>
 PureS (indexAddrV 1 t58 k7) fun t60 =>
 LoadC t60 (fun t61 w =>
 CallS Try.prog 16 [r0, t61].toArray (fun t62 w =>
 PureS (binV .eql t62 (Value.int .i64 0)) fun t63 =>
 CondS t63 (
 PureS (nilV r0) fun t66 =>
 PureS (fieldAddrV 0 t66) fun t67 =>
 LoadC t67 (fun t68 w =>
 PureS (binV .sub h1 (Value.int .i64 1)) fun t70 =>
 PureS (indexAddrV 1 t68 t70) fun t71 =>
 LoadC t71 (fun t72 w =>
 PureS (indexAddrV 1 t72 k7) fun t74 =>
 LoadC t74 (fun t75 w =>
 CallS Try.prog 34 [out6_1, t75].toArray (fun t76 w =>
 J4 t76 w
 ) w
 ) w
 ) w
 ) w
 ) (
 J4 out6_1 w
 )
 ) w
 ) w
 ) w
 ) w
 ) (
 J2 out6_1 w
 )
 ) w
 ) w
 ) (Value.slice none 0 0) (Value.int .i64 0) w
 ) w
 ) w
 )
 ) fun J1 =>
 IfB t18 false (
 PureS (nilV r0) fun t21 =>
 PureS (fieldAddrV 1 t21) fun t22 =>
 LoadC t22 (fun t23 w =>
 PureS (binV .sub h1 (Value.int .i64 1)) fun t25 =>
 PureS (indexAddrV 1 t23 t25) fun t26 =>
 LoadC t26 (fun t27 w =>
 PureS (notV t27) fun t28_1 =>
 J1 t28_1 w
 ) w
 ) w
 ) (
 J1 undef w
 )
 ) fun J0 =>
 IfB t9 false (
 PureS (nilV r0) fun t13 =>
 PureS (fieldAddrV 0 t13) fun t14 =>
 LoadC t14 (fun t15 w =>
 PureS (lenSliceV t15) fun t16 =>
 PureS (binV .gtr h1 t16) fun t17_1 =>
 J0 t17_1 w
 ) w
 ) (
 J0 undef w
 )
theorem s11_den (r0 h1 : Value) (K : Value → World → Prop) (w : World) : denFn Try.prog false (bodyOf Try.f11) Try.f11.results a11 [r0, h1] K NoP w = s11 r0 h1 K w := by kernel_rfl
theorem s11_dst : dstsOk (2 + 76) (bodyOf Try.f11) = true := by kernel_rfl
theorem s11_ann : annOk (bodyOf Try.f11) a11 = true := by kernel_rfl
theorem s11_call {r0 h1 : Value} {K : Value → World → Prop} {w : World} (hm : Try.prog.follows .mixedOrders = true) (h : s11 r0 h1 K w) : CallS Try.prog 11 #[r0, h1] K w :=
  fn_call (args := [r0, h1]) (m := 76) hm Try.func11 (by kernel_rfl) (rs := Try.f11.results) rfl Try.ntmps11 s11_dst s11_ann (by rw [s11_den]; exact h)

/-! number 12 -/
def a12 : Ann :=
 (.q (.r [.plain 1]) (.q (.q (.r [.plain 5]) (.c (.q (.r [.plain 1]) .s) .s)) (.j [] 536868912 (.q (.r [.plain 1]) (.b (.l [5] 536868912 (.q (.q (.r [.plain 4]) (.c .s .s)) (.q (.b (.q (.q (.d [0, 0, 3, 7, 0, 0, 48, 112, 255] (.pur 0 (.pur 1 (.pur 2 (.pur 4 (.pur 5 (.pur 6 (.hld 3 (.hld 7 (.pur 8 .fin)))))))))) (.c (.q (.r [.plain 1]) .s) .s)) (.r [.plain 4]))) (.r [.plain 3]))))))
  (.q (.r [.plain 1]) .s))))
def s12 (a0 b1 : Value) (K : Value → World → Prop) (w : World) : Prop :=
 PureS (lenSliceV a0) fun t7 =>
 PureS (lenSliceV b1) fun t9 =>
 PureS (binV .neq t7 t9) fun t10 =>
 CondS t10 (
 K (Value.bool false) w
 ) (
 JoinS (fun (w : World) =>
 K (Value.bool true) w
 ) fun J0 =>
 LoopS 1 (fun L1 (i5 : Value) (w : World) =>
 PureS (lenSliceV a0) fun t13 =>
 PureS (binV .lss i5 t13) fun t14 =>
 CondS t14 (
 DrawS fun S2 => S2 w.drew ∧ (
 PureS (indexAddrV 1 a0 i5) fun t19 =>
 PureS (indexAddrV 1 b1 i5) fun t23 =>
 HeldC S2 t19 (fun t20 =>
 HeldC S2 t23 (fun t24 =>
 PureS (binV .neq t20 t24) fun t25 =>
 CondS t25 (
 K (Value.bool false) w.drew
 ) (
 PureS (indexAddrV 1 a0 i5) fun t28 =>
 StoreC t28 (Value.int .u64 77) (fun w =>
 PureS (binV .add i5 (Value.int .i64 1)) fun t16 =>
 L1 t16 w
 ) w.drew
 )
 )
 )
 )
 ) (
 J0 w
 )
 ) (Value.int .i64 0) w
 )
theorem s12_den (a0 b1 : Value) (K : Value → World → Prop) (w : World) : denFn Try.prog false (bodyOf Try.f12) Try.f12.results a12 [a0, b1] K NoP w = s12 a0 b1 K w := by kernel_rfl
theorem s12_dst : dstsOk (2 + 27) (bodyOf Try.f12) = true := by kernel_rfl
theorem s12_ann : annOk (bodyOf Try.f12) a12 = true := by kernel_rfl
theorem s12_call {a0 b1 : Value} {K : Value → World → Prop} {w : World} (hm : Try.prog.follows .mixedOrders = true) (h : s12 a0 b1 K w) : CallS Try.prog 12 #[a0, b1] K w :=
  fn_call (args := [a0, b1]) (m := 27) hm Try.func12 (by kernel_rfl) (rs := Try.f12.results) rfl Try.ntmps12 s12_dst s12_ann (by rw [s12_den]; exact h)

/-! number 13 -/
def a13 : Ann :=
 (.q (.r [.plain 1]) (.q (.r [.plain 7]) .s))
def s13 (r0 : Value) (K : Value → World → Prop) (w : World) : Prop :=
 PureS (nilV r0) fun t4 =>
 PureS (fieldAddrV 1 t4) fun t5 =>
 LoadC t5 (fun t6 w =>
 CallS Try.prog 36 [t6].toArray (fun t7 w =>
 CallS Try.prog 35 [t7].toArray (fun t8 w =>
 K t8 w
 ) w
 ) w
 ) w
theorem s13_den (r0 : Value) (K : Value → World → Prop) (w : World) : denFn Try.prog false (bodyOf Try.f13) Try.f13.results a13 [r0] K NoP w = s13 r0 K w := by kernel_rfl
theorem s13_dst : dstsOk (1 + 8) (bodyOf Try.f13) = true := by kernel_rfl
theorem s13_ann : annOk (bodyOf Try.f13) a13 = true := by kernel_rfl
theorem s13_call {r0 : Value} {K : Value → World → Prop} {w : World} (hm : Try.prog.follows .mixedOrders = true) (h : s13 r0 K w) : CallS Try.prog 13 #[r0] K w :=
  fn_call (args := [r0]) (m := 8) hm Try.func13 (by kernel_rfl) (rs := Try.f13.results) rfl Try.ntmps13 s13_dst s13_ann (by rw [s13_den]; exact h)
end Go.Proofs.Ytkladgpaicolnaa
