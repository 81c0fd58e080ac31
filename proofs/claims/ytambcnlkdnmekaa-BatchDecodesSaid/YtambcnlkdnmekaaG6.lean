/- The generic layer, seventh part: a function that puts off one call at its start; a put-off function that recovers. -/
import Derived.Test.YtambcnlkdnmekaaG5
import Derived.Defers
import Derived.Recover
namespace SG
open Go
set_option linter.unusedSimpArgs false
set_option linter.unusedVariables false

def DeferS (P : Program) (g : FuncId) (caps : List Value) (Kres : World → Prop) (X : (World → Prop) → (List PanicEntry → World → Prop) → Prop) : Prop :=
  ∃ (Kr : World → Prop) (Kp : List PanicEntry → World → Prop),
    (∀ w, Kr w → CallsD P g caps.toArray .returning w fun e u' w' => (∃ v, e = .returned v) ∧ u' = .returning ∧ Kres w') ∧
    (∀ ch w, Kp ch w → CallsD P g caps.toArray (.panicking ch) w fun e u' w' => (∃ v, e = .returned v) ∧ settle u' = .returning ∧ Kres w') ∧ X Kr Kp
def Fr.only (fl : List Nat) (F : Fr) : Fr := fun t => cond (fl.contains t) (F t) none
def calleeIs (c : Callee) (d : Nat) : Bool := match c with | .value (.tmp t) => Nat.beq t d | _ => false
def defShape (P : Program) (o1 o2 : Oper) : Option (FuncId × List Operand × Nat) :=
  match o1.op with
  | .makeFunc (.func g) xs ys => (match o1.dst with
    | some d => (match o2.op with
      | .defer c => cond (xs.toList.isEmpty && c.args.toList.isEmpty && calleeIs c.callee d && okFunc P g && o1.guard.isNone && o2.guard.isNone && o2.dst.isNone) (some (g, ys.toList, d)) none
      | _ => none)
    | none => none)
  | _ => none
def denD (P : Program) (fl : List Nat) (rs : List ResultVar) (ops : List Oper) (c2 : Code) (a2 : Ann) (K : Value → World → Prop) (F : Fr) (w : World) : Prop :=
  match ops with
  | [o1, o2] => (match defShape P o1 o2 with
    | some (g, ys, d) => evs F ys fun caps => DeferS P g caps (fun w' => resV P rs (F.only fl) w' fun v => K v w') fun Kr Kp =>
        den P true Kp c2 a2 (fun e _ w' => match e with | .normal => Kr w' | .ret => Kr w' | _ => False) (F.upd d (.func (.func g) #[] caps.toArray)) w
    | none => False)
  | _ => False
def denFnD (P : Program) (c : Code) (rs : Array ResultVar) (fl : List Nat) (ann : Ann) (args : List Value) (K : Value → World → Prop) (w : World) : Prop :=
  match c with
  | .seq c0 (.seq (.region _ ops false) c2) => match ann with
    | .q a0 (.q _ a2) => den P false NoP c0 a0 (fun e F w' => match e with | .normal => denD P fl rs.toList ops.toList c2 a2 K F w' | _ => False) (argF args 0) w
    | _ => False
  | _ => False
def okD (n : Nat) (fl : List Nat) (c : Code) (ann : Ann) : Bool :=
  match c with
  | .seq c0 (.seq (.region _ ops false) c2) => match ann with
    | .q a0 (.q _ a2) => annOk c0 a0 && annOk c2 a2 && dstsOk n c0 && dstsOk n c2 && (dsts c2).all (fun d => !fl.contains d) &&
        ops.toList.all (fun o => match o.dst with | some d => Nat.blt d n && !fl.contains d | none => true)
    | _ => false
  | _ => false

section
variable {P : Program}
theorem callFunc_ok {f : FuncId} (h : okFunc P f = true) (vs : Array Value) (w : World) : (callFunc f vs).run P w = .ok (.enter f vs) w := by
  unfold okFunc at h
  split at h
  · rename_i fn hf
    simp only [Bool.and_eq_true, Bool.not_eq_true'] at h
    obtain ⟨h1, h2⟩ := h
    obtain ⟨c, hb⟩ := Option.isSome_iff_exists.1 h1
    simp only [callFunc, Sem.run_bind, run_program, Result.andThen_ok, hf, h2, hb, Bool.false_eq_true, if_false, Sem.run_pure]
    simp
  · cases h
theorem only_some {fl : List Nat} {F : Fr} {t : Nat} {v : Value} (h : F.only fl t = some v) : fl.contains t = true ∧ F t = some v := by
  unfold Fr.only at h
  cases hb : fl.contains t with
  | true => rw [hb] at h; exact ⟨rfl, h⟩
  | false => rw [hb] at h; cases h
theorem list_isEmpty {α : Type} {xs : Array α} (h : xs.toList.isEmpty = true) : xs = #[] := by
  obtain ⟨l⟩ := xs
  have : l = [] := by simpa using h
  rw [this]

theorem defShape_some {o1 o2 : Oper} {g : FuncId} {ys : List Operand} {d : Nat} (h : defShape P o1 o2 = some (g, ys, d)) :
    ∃ ya cc, o1.op = .makeFunc (.func g) #[] ya ∧ ya.toList = ys ∧ o1.dst = some d ∧ o1.guard = none ∧ o2.op = .defer cc ∧ o2.dst = none ∧ o2.guard = none ∧ cc.args = #[] ∧ cc.callee = .value (.tmp d) ∧ okFunc P g = true := by
  unfold defShape at h
  split at h
  · rename_i g' xs ya he1
    split at h
    · rename_i d' he2
      split at h
      · rename_i cc he4
        cases hb : (xs.toList.isEmpty && cc.args.toList.isEmpty && calleeIs cc.callee d' && okFunc P g' && o1.guard.isNone && o2.guard.isNone && o2.dst.isNone) with
        | false => rw [hb] at h; cases h
        | true =>
          rw [hb] at h
          simp only [cond_true, Option.some.injEq, Prod.mk.injEq] at h
          obtain ⟨rfl, rfl, rfl⟩ := h
          simp only [Bool.and_eq_true] at hb
          obtain ⟨⟨⟨⟨⟨⟨hx, ha⟩, hc⟩, hg⟩, h1⟩, h2⟩, h3⟩ := hb
          have hx0 := list_isEmpty hx
          subst hx0
          have hcal : cc.callee = .value (.tmp d') := by
            unfold calleeIs at hc
            split at hc
            · rename_i t heq
              rw [heq, Nat.eq_of_beq_eq_true hc]
            · cases hc
          exact ⟨ya, cc, he1, rfl, he2, by simpa using h1, he4, by simpa using h3, by simpa using h2, list_isEmpty ha, hcal, hg⟩
      · cases h
    · cases h
  · cases h

theorem fn_defer (hm : P.follows .mixedOrders = true) {f : FuncId} {fn : Func} {c : Code} (hf : P.funcs[f]? = some fn) (hb : fn.body = some c) {ann : Ann} {args : List Value} {rs : Array ResultVar} (hrs : fn.results = rs) {m : Nat} {fl : List Nat}
    (hn : fn.ntmps = args.length + m) (hok : okD (args.length + m) fl c ann = true) {K : Value → World → Prop} {w : World} (h : denFnD P c rs fl ann args K w) : CallS P f args.toArray K w := by
  unfold denFnD at h
  split at h
  rotate_left
  · exact h.elim
  rename_i c0 id ops c2
  cases ann <;> try exact h.elim
  rename_i a0 ann'
  cases ann' <;> try exact h.elim
  rename_i a1 a2
  simp only [okD, Bool.and_eq_true] at hok
  obtain ⟨⟨⟨⟨⟨hk0, hk2⟩, hd0⟩, hd2⟩, hfl⟩, hops⟩ := hok
  refine calls_of_wp_defers hf hb ?_
  have hsz : fn.ntmps - args.toArray.size = m := by simp [hn]
  rw [hsz]
  refine wp_seq (wp_mono (den_sound (n := ⟨args.length + m, [], fun _ => none⟩) hm c0 a0 _ _ _ w hk0 (dstsOk_mem hd0) (argF_agree args m) h) fun e a' w' he => ?_)
  cases e with
  | exit id => obtain ⟨F, _, _, hQ⟩ := he; exact hQ.elim
  | goto l => obtain ⟨F, _, _, hQ⟩ := he; exact hQ.elim
  | ret => obtain ⟨F, _, _, hQ⟩ := he; exact hQ.elim
  | panic ch => exact he.2.elim
  | outgrown => exact he.elim
  | normal =>
    obtain ⟨F, ha, _, hD⟩ := he
    rcases hol : ops.toList with _ | ⟨o1, _ | ⟨o2, _ | ⟨o3, r⟩⟩⟩
    · rw [hol] at hD; exact hD.elim
    · rw [hol] at hD; exact hD.elim
    rotate_left
    · rw [hol] at hD; exact hD.elim
    rw [hol] at hD
    unfold denD at hD
    simp only at hD
    cases hsh : defShape P o1 o2 with
    | none => rw [hsh] at hD; exact hD.elim
    | some gyd =>
    obtain ⟨g, yl, d⟩ := gyd
    rw [hsh] at hD
    simp only at hD
    obtain ⟨ys, cc, he1, rfl, he2, he3, he4, he5, he6, hc0, hcallee, hokg⟩ := defShape_some hsh
    have hD' := evs_some (ρ := a'.eval) ha.hρ _ _ hD
    obtain ⟨caps, hcaps⟩ : ∃ caps, ys.toList.map a'.eval = caps := ⟨_, rfl⟩
    rw [hcaps] at hD'
    obtain ⟨Kr, Kp, hret, hpan, hrest⟩ := hD'
    rw [hol] at hops
    simp only [List.all_cons, List.all_nil, Bool.and_true, Bool.and_eq_true, he2] at hops
    obtain ⟨⟨hdn, hdfl⟩, _⟩ := hops
    have hdlt : d < args.length + m := Nat.le_of_ble_eq_true hdn
    have ha1 : Agree ⟨args.length + m, [], fun _ => none⟩ (F.put (some d) (.func (.func g) #[] caps.toArray)) (a'.put (some d) (.func (.func g) #[] caps.toArray)) := ha.put (fun t ht => by cases ht; exact ⟨hdlt, rfl⟩) _
    refine wp_seq (wp_region_list ?_)
    rw [hol]
    have hw1 : Region.wanted o1 (yielded ops a'.tmps) = true := by simp [Region.wanted, he3]
    unfold wpList
    rw [if_pos hw1]
    refine .inl ?_
    unfold Oper.wp
    have hex1 : (execOp a'.eval o1).run P w' = .ok (.value (.func (.func g) #[] caps.toArray)) w' := by
      simp [execOp, he1, Instr.makeFunc, map_arr, hcaps]
    rw [hex1]
    show wpList P ops _ [o2] (a'.put o1.dst _) w'
    rw [he2]
    unfold wpList
    have hw2 : Region.wanted o2 (yielded ops (a'.put (some d) (.func (.func g) #[] caps.toArray)).tmps) = true := by simp [Region.wanted, he6]
    rw [if_pos hw2]
    refine .inl ?_
    unfold Oper.wp
    have hgd : (a'.put (some d) (.func (.func g) #[] caps.toArray)).tmps.getD d undef = .func (.func g) #[] caps.toArray := ha1.vals d _ (by simp [Fr.put, Fr.upd_same])
    have hex2 : (execOp (a'.put (some d) (.func (.func g) #[] caps.toArray)).eval o2).run P w' = .ok (.defer { target := .fn (.func g) caps.toArray, args := #[] }) w' := by
      obtain ⟨callee, cargs, ctys⟩ := cc
      simp only at hcallee hc0
      subst hcallee hc0
      simp only [execOp, he4, resolve, Sem.run_bind, Act.eval, hgd, Deferred.ofValue, Sem.run_pure, Result.andThen_ok, Array.map_empty, Array.append_empty]
    rw [hex2]
    rw [Oper.upon_defer, he5]
    unfold wpList
    simp only [Act.put]
    have hdef : a'.defers = [] := ha.st.defers
    -- the rest
    have ha2 : Agree ⟨args.length + m, [{ target := .fn (.func g) caps.toArray, args := #[] }], F.only fl⟩ (F.upd d (.func (.func g) #[] caps.toArray))
        { tmps := a'.tmps.setIfInBounds d (.func (.func g) #[] caps.toArray), defers := { target := .fn (.func g) caps.toArray, args := #[] } :: a'.defers } := by
      refine ⟨⟨ha1.st.size, by simp [hdef], fun t v hv => ?_⟩, fun t v hv => ha1.vals t v hv⟩
      obtain ⟨hc, hF⟩ := only_some hv
      have hne : t ≠ d := fun e => by rw [e] at hc; rw [hc] at hdfl; simp at hdfl
      exact ha1.vals t v (by simp [Fr.put, Fr.upd_ne _ _ hne, hF])
    have hd2' : ∀ t ∈ dsts c2, (⟨args.length + m, [{ target := .fn (.func g) caps.toArray, args := #[] }], F.only fl⟩ : Stat).wr t := fun t ht => by
      refine ⟨(dstsOk_mem hd2 t ht).1, ?_⟩
      have := List.all_eq_true.1 hfl t ht
      have hb : fl.contains t = false := by simpa using this
      show F.only fl t = none
      unfold Fr.only
      rw [hb]; rfl
    refine wp_mono (den_sound hm c2 a2 _ _ _ w' hk2 hd2' ha2 hrest) fun e a3 w3 he => ?_
    have hfin : ∀ (u : FrameMode) w'', Stands ⟨args.length + m, [{ target := .fn (.func g) caps.toArray, args := #[] }], F.only fl⟩ a3 → u ≠ .run →
        CallsD P g caps.toArray u w'' (fun e u' w' => (∃ v, e = .returned v) ∧ settle u' = .returning ∧ resV P rs.toList (F.only fl) w' fun v => K v w') →
        Leaves P fn a3.tmps (fun e w' => match e with | .returned v => K v w' | _ => False) a3.defers u w'' := fun u w'' hst hu hcd => by
      rw [hst.defers]
      refine leaves_cons hu (f := g) (args := caps.toArray) ?_ (hcd.mono fun e u' w4 ⟨⟨v, hv⟩, hs, hr⟩ => ?_)
      · simp only [invoke]
        rw [show (#[] : Array Value) ++ caps.toArray = caps.toArray by simp]
        exact callFunc_ok hokg _ _
      · subst hv
        show Leaves P fn a3.tmps _ [] (settle u') w4
        rw [hs]
        have hag : Agree ⟨args.length + m, [{ target := .fn (.func g) caps.toArray, args := #[] }], F.only fl⟩ (F.only fl) a3 := ⟨hst, fun t v hv => hst.fix t v hv⟩
        obtain ⟨v', hv', hK'⟩ := resV_run (P := P) hag w4 fn hrs hr
        exact ⟨v', hv', hK'⟩
    cases e with
    | exit id => obtain ⟨F, _, _, hQ⟩ := he; exact hQ.elim
    | goto l => obtain ⟨F, _, _, hQ⟩ := he; exact hQ.elim
    | outgrown => exact he.elim
    | normal =>
      obtain ⟨F3, ha3, _, hQ⟩ := he
      exact hfin .returning w3 ha3.st (by simp) ((hret w3 hQ).mono fun e u' w4 ⟨h1, h2, h3⟩ => ⟨h1, by rw [h2]; rfl, h3⟩)
    | ret =>
      obtain ⟨F3, ha3, _, hQ⟩ := he
      exact hfin .returning w3 ha3.st (by simp) ((hret w3 hQ).mono fun e u' w4 ⟨h1, h2, h3⟩ => ⟨h1, by rw [h2]; rfl, h3⟩)
    | panic ch => exact hfin (.panicking ch) w3 he.1 (by simp) (hpan ch w3 he.2)

/-! ### a put-off function that asks for the panic -/
def recV (u : FrameMode) : Value × FrameMode := match u with
  | .panicking ({ v, recovered := false, goexit := false } :: older) => (v, .panicking ({ v, recovered := true } :: older))
  | u => (.nilIface, u)
def isRecover (o : Op) : Bool := match o with | .call c => (match c.callee with | .builtin .recover => true | _ => false) | _ => false
def assigns (o : Op) (d : Nat) : Bool := match o with | .assign (.tmp t) => Nat.beq t d | _ => false
def denFnR (P : Program) (c : Code) (ann : Ann) (args : List Value) (x : Value) (K : World → Prop) (w : World) : Prop :=
  match c with
  | .seq (.region _ ops false) c1 => match ann with
    | .q _ a1 => (match ops.toList with
      | [o1, o2] => (match o1.dst, o1.guard, o2.dst, o2.guard with
        | some d1, none, some d2, none => cond (isRecover o1.op && assigns o2.op d1)
            (den P true NoP c1 a1 (fun e _ w' => match e with | .normal => K w' | .ret => K w' | _ => False) (((argF args 0).upd d1 x).upd d2 x) w) False
        | _, _, _, _ => False)
      | _ => False)
    | _ => False
  | _ => False
def okR (n : Nat) (c : Code) (ann : Ann) : Bool :=
  match c with
  | .seq (.region _ ops false) c1 => match ann with
    | .q _ a1 => annOk c1 a1 && dstsOk n c1 && ops.toList.all (fun o => match o.dst with | some d => Nat.blt d n | none => true)
    | _ => false
  | _ => false
theorem recoverD_mode {c₀ : Frame} {cs : List Frame} {u : FrameMode} (hu : c₀.mode = u) :
    (recoverD (c₀ :: cs) = some ((recV u).1, { c₀ with mode := (recV u).2 } :: cs)) ∨ (recoverD (c₀ :: cs) = none ∧ recV u = (.nilIface, u)) := by
  subst hu
  unfold recoverD recV
  split
  · rename_i c rest heq
    simp only [List.cons.injEq] at heq
    obtain ⟨rfl, rfl⟩ := heq
    split
    · rename_i v older hm
      left
      rw [hm]
    · rename_i hne
      right
      refine ⟨rfl, ?_⟩
      split
      · rename_i v older hm
        exact absurd hm (hne v older)
      · rfl
  · rename_i heq; cases heq
theorem run_recover {o : Oper} (h : isRecover o.op = true) (ρ : Operand → Value) (w : World) : (execOp ρ o).run P w = .ok .recover w := by
  obtain ⟨dst, op, type, guard, after⟩ := o
  simp only at h ⊢
  unfold isRecover at h
  split at h
  · rename_i c
    obtain ⟨callee, args, tys⟩ := c
    simp only at h
    split at h
    · simp [execOp, resolve, invoke, builtin]
    · cases h
  · cases h
theorem fn_recover (hm : P.follows .mixedOrders = true) {f : FuncId} {fn : Func} {c : Code} (hf : P.funcs[f]? = some fn) (hb : fn.body = some c) {ann : Ann} {args : List Value} (hrs : fn.results = #[]) {m : Nat}
    (hn : fn.ntmps = args.length + m) (hok : okR (args.length + m) c ann = true) {u : FrameMode} {K : World → Prop} {w : World} (h : denFnR P c ann args (recV u).1 K w) :
    CallsD P f args.toArray u w fun e u' w' => (∃ v, e = .returned v) ∧ u' = (recV u).2 ∧ K w' := by
  unfold denFnR at h
  split at h
  rotate_left
  · exact h.elim
  rename_i id ops c1
  cases ann <;> try exact h.elim
  rename_i a0 a1
  simp only at h
  split at h
  rotate_left
  · exact h.elim
  rename_i o1 o2 hol
  split at h
  rotate_left
  · exact h.elim
  rename_i d1 d2 he1 he2 he3 he4
  obtain ⟨hshape, h⟩ := cond_true_of h
  simp only [Bool.and_eq_true] at hshape
  obtain ⟨hrec, hasg⟩ := hshape
  simp only [okR, Bool.and_eq_true] at hok
  obtain ⟨⟨hk1, hd1⟩, hops⟩ := hok
  rw [hol] at hops
  simp only [List.all_cons, List.all_nil, Bool.and_true, Bool.and_eq_true, he1, he3] at hops
  have hl1 : d1 < args.length + m := Nat.le_of_ble_eq_true hops.1
  have hl2 : d2 < args.length + m := Nat.le_of_ble_eq_true hops.2
  have hsz : fn.ntmps - args.toArray.size = m := by simp [hn]
  have hos : ops = #[o1, o2] := by
    have := congrArg List.toArray hol
    simpa using this
  refine callsD_of_wpS hf hb fun c₀ cs hu => ?_
  rw [hsz]
  apply wpS_seq
  apply wpS_region
  obtain ⟨a, hadef⟩ : ∃ a : Act, ({ tmps := args.toArray ++ Array.replicate m undef, defers := [] } : Act) = a := ⟨_, rfl⟩
  have ha : Agree ⟨args.length + m, [], fun _ => none⟩ (argF args 0) a := hadef ▸ argF_agree args m
  rw [hadef]
  -- what is handed back
  have hgo : ∀ cs', cs' = { c₀ with mode := (recV u).2 } :: cs → wpOpsS P ops (Exit.thenS (c1.wpS P (bodyPostS P fn c₀ cs fun e u' w' => (∃ v, e = .returned v) ∧ u' = (recV u).2 ∧ K w'))
      (bodyPostS P fn c₀ cs fun e u' w' => (∃ v, e = .returned v) ∧ u' = (recV u).2 ∧ K w')) [1] (a.put (some d1) (recV u).1) cs' w := by
    intro cs' hcs
    have ha1 : Agree ⟨args.length + m, [], fun _ => none⟩ ((argF args 0).put (some d1) (recV u).1) (a.put (some d1) (recV u).1) := ha.put (fun t ht => by cases ht; exact ⟨hl1, rfl⟩) _
    have hgd : (a.put (some d1) (recV u).1).tmps.getD d1 undef = (recV u).1 := ha1.vals d1 _ (by simp [Fr.put, Fr.upd_same])
    have ha2 := ha1.put (d := some d2) (fun t ht => by cases ht; exact ⟨hl2, rfl⟩) (recV u).1
    have hw2 : Region.wanted o2 (yielded ops (a.put (some d1) (recV u).1).tmps) = true := by simp [Region.wanted, he4]
    have hx : (execOp (a.put (some d1) (recV u).1).eval o2).run P w = .ok (.value (recV u).1) w := by
      unfold assigns at hasg
      split at hasg
      · rename_i t heq
        have ht := Nat.eq_of_beq_eq_true hasg
        subst ht
        simp only [execOp, heq, Act.eval, hgd, Sem.run_pure]
      · cases hasg
    have h1 : ops[1]? = some o2 := by rw [hos]; rfl
    simp only [wpOpsS, h1, hw2, if_true, hx, Oper.upon, he3, Exit.thenS]
    refine wpS_of_wp (wp_mono (den_sound hm c1 a1 _ _ _ w hk1 (dstsOk_mem hd1) ha2 h) fun e a' w' he => ?_)
    have hfin : ∀ F, Agree ⟨args.length + m, [], fun _ => none⟩ F a' → K w' → a'.defers = [] ∧ ∃ u', cs' = { c₀ with mode := u' } :: cs ∧ ∃ v, (results fn a'.tmps).run P w' = .ok v w' ∧ (∃ v', (Ending.returned v) = .returned v') ∧ u' = (recV u).2 ∧ K w' := fun F ha hK => by
      refine ⟨ha.st.defers, (recV u).2, hcs, .tuple #[], ?_, ⟨_, rfl⟩, rfl, hK⟩
      simp [results, hrs]
    cases e with
    | exit id => obtain ⟨F, _, _, hQ⟩ := he; exact hQ.elim
    | goto l => obtain ⟨F, _, _, hQ⟩ := he; exact hQ.elim
    | outgrown => exact he.elim
    | panic ch => exact he.2.elim
    | normal => obtain ⟨F, ha, _, hQ⟩ := he; exact hfin F ha hQ
    | ret => obtain ⟨F, ha, _, hQ⟩ := he; exact hfin F ha hQ
  have h0 : ops[0]? = some o1 := by rw [hos]; rfl
  have hr : List.range ops.size = [0, 1] := by rw [hos]; rfl
  have hw1 : Region.wanted o1 (yielded ops a.tmps) = true := by simp [Region.wanted, he2]
  rw [hr]
  unfold wpOpsS
  simp only [h0, hw1, if_true, run_recover hrec, he1]
  rcases recoverD_mode (c₀ := c₀) (cs := cs) hu with hh | ⟨hh, hn'⟩
  · rw [hh]; exact hgo _ rfl
  · rw [hh]
    simp only
    have := hgo (c₀ :: cs) (by rw [hn']; cases c₀; simp_all)
    rw [hn'] at this
    simpa [hn'] using this
end
end SG
