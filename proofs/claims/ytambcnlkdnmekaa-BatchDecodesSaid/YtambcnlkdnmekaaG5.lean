/- The generic layer, sixth part: code; a function's body. -/
import Derived.Test.YtambcnlkdnmekaaG4
namespace SG
open Go
set_option linter.unusedSimpArgs false
set_option linter.unusedVariables false

section
variable {P : Program} {n : Stat} {pan : Bool} {Kp : List PanicEntry → World → Prop}

/-- what the walk's rules are asked for -/
def PostW (n : Stat) (Kp : List PanicEntry → World → Prop) (D : Nat → Prop) (a₀ : Act) (Q : Post) : Exit → Act → World → Prop
  | .panic c, a, w => Stands n a ∧ Kp c w
  | .outgrown, _, _ => False
  | e, a, w => ∃ F, Agree n F a ∧ Keeps D a₀ a ∧ Q e F w

theorem PostW.intro {D : Nat → Prop} {a₀ a : Act} {Q : Post} {e : Exit} {F : Fr} {w : World} (he : match e with | .panic _ => False | .outgrown => False | _ => True)
    (ha : Agree n F a) (hk : Keeps D a₀ a) (hq : Q e F w) : PostW n Kp D a₀ Q e a w := by
  cases e <;> first | exact he.elim | exact ⟨F, ha, hk, hq⟩

theorem exit_mono {D D' : Nat → Prop} {a₀ a₁ : Act} {Q Q' : Post} {e : Exit} {a : Act} {w : World} (hD : ∀ t, D t → D' t) (hk : Keeps D' a₀ a₁) (hq : ∀ F, Q e F w → Q' e F w)
    (h : PostW n Kp D a₁ Q e a w) : PostW n Kp D' a₀ Q' e a w := by
  cases e <;> first
    | exact h
    | (obtain ⟨F, ha, hk', hQ⟩ := h; exact ⟨F, ha, hk.trans (hk'.mono hD), hq F hQ⟩)

theorem dstsOk_mem {m : Nat} {c : Code} (h : dstsOk m c = true) : ∀ d ∈ dsts c, (⟨m, [], fun _ => none⟩ : Stat).wr d := fun d hd => by
  unfold dstsOk at h
  rw [List.all_eq_true] at h
  exact ⟨Nat.le_of_ble_eq_true (h d hd), rfl⟩

theorem den_soundIn {rd : Option Nat} {fu : Nat} (hm : P.follows .mixedOrders = true) : ∀ (c : Code) (ann : Ann) (Q : Post) (F : Fr) (a : Act) (w : World), (rd = none ∨ noDraw c = true) → annOk c ann = true → (∀ d ∈ dsts c, n.wr d) → Agree n F a →
    den P pan Kp c ann Q F w → c.wpIn (FR rd) fu P (PostW n Kp (· ∈ dsts c) a Q) a w := by
  intro c
  induction c with
  | skip => intro ann Q F a w _ _ _ ha h; exact wpIn_skip ⟨F, ha, .refl a, h⟩
  | exit id => intro ann Q F a w _ _ _ ha h; exact wpIn_exit ⟨F, ha, .refl a, h⟩
  | ret => intro ann Q F a w _ _ _ ha h; exact wpIn_ret ⟨F, ha, .refl a, h⟩
  | region id ops draw =>
    intro ann Q F a w hdr hok hd ha h
    have hdd : ∀ o ∈ ops.toList, ∀ d, o.dst = some d → n.wr d := fun o ho d hod => hd d (List.mem_filterMap.2 ⟨o, ho, hod⟩)
    have hDD : ∀ t, dstIn ops.toList t → t ∈ dsts (.region id ops draw) := fun t ⟨o, ho, ht⟩ => List.mem_filterMap.2 ⟨o, ho, ht⟩
    cases draw with
    | false =>
      cases ann <;> try exact h.elim
      rename_i segs
      refine wpIn_region_list (denSegs_sound (n := n) (Kp := Kp) (fun c a' w' hde hKp => ⟨hde, hKp⟩) segs ops.toList F a w hok ha hdd h fun F' a' w' ha' hk hQ => ⟨F', ha', hk.mono hDD, hQ⟩)
    | true =>
      cases ann <;> try exact h.elim
      rename_i ms sch
      simp only [annOk, Bool.and_eq_true] at hok
      obtain ⟨⟨⟨⟨hns, hlen⟩, hml⟩, hmo⟩, hsch⟩ := hok
      obtain ⟨S, hS, h1⟩ := h
      obtain rfl : rd = none := hdr.resolve_right (by simp [noDraw])
      rw [FR_none]
      refine wpIn_wide.2 (wp_region_any hm (wpAny_of_N (S := S) (nd := need ms (heldOf sch)) _ _ _ _ ?_))
      exact (denSch_sound (n := n) (Kp := Kp) (a₀ := a) (fun c a' w' hde hKp => ⟨hde, hKp⟩) (fun c a d v w hd hh => ⟨hh.1.unput hd, hh.2⟩) hns
        (fun i o d ho hod => hdd o (by simpa using Array.mem_of_getElem? ho) d hod) (Nat.eq_of_beq_eq_true hml) hmo (fun F' a' w' ha' hk hQ => ⟨F', ha', hk.mono hDD, hQ⟩)
        sch false true _ ops.size F a w.drew hsch (Nat.le_of_ble_eq_true hlen) ha (.refl a) (fun _ => hS) (fun k o _ hl => absurd hl (by simp [Array.getElem?_replicate]; try (split <;> simp))) (fun hh => by cases hh) h1).1 rfl
  | seq x y ihx ihy =>
    intro ann Q F a w hdr hok hd ha h
    have hdrx : rd = none ∨ noDraw x = true := hdr.imp id fun hh => by simp only [noDraw, Bool.and_eq_true] at hh; exact hh.1
    have hdry : rd = none ∨ noDraw y = true := hdr.imp id fun hh => by simp only [noDraw, Bool.and_eq_true] at hh; exact hh.2
    have hdx : ∀ d ∈ dsts x, n.wr d := fun d hh => hd d (by simp [dsts, hh])
    have hdy : ∀ d ∈ dsts y, n.wr d := fun d hh => hd d (by simp [dsts, hh])
    have hDx : ∀ t, t ∈ dsts x → t ∈ dsts (.seq x y) := fun t ht => by simp [dsts, ht]
    have hDy : ∀ t, t ∈ dsts y → t ∈ dsts (.seq x y) := fun t ht => by simp [dsts, ht]
    cases ann <;> try exact h.elim
    case q ax ay =>
      simp only [annOk, Bool.and_eq_true] at hok
      refine wpIn_seq (wpIn_mono (ihx ax _ F a w hdrx hok.1 hdx ha h) fun e a' w' he => ?_)
      cases e with
      | normal =>
        obtain ⟨F', ha', hk, hQ⟩ := he
        exact wpIn_mono (ihy ay Q F' a' w' hdry hok.2 hdy ha' hQ) fun e a'' w'' he' => exit_mono hDy (hk.mono hDx) (fun _ hh => hh) he'
      | exit id => exact exit_mono hDx (.refl a) (fun _ hh => hh) he
      | goto l => exact exit_mono hDx (.refl a) (fun _ hh => hh) he
      | ret => exact exit_mono hDx (.refl a) (fun _ hh => hh) he
      | panic c => exact he
      | outgrown => exact he.elim
    case j live mask ax ay =>
      simp only [annOk, Bool.and_eq_true, List.all_eq_true] at hok
      obtain ⟨⟨hmask, hax⟩, hay⟩ := hok
      refine wpIn_seq (wpIn_mono (ihx ax _ F a w hdrx hax hdx ha h) fun e a' w' he => ?_)
      cases e with
      | normal =>
        obtain ⟨F', ha', hk, hQ⟩ := he
        have h2 := app_of_appF live _ F' a' w' ha' hQ
        rw [app_mkJ live _ _ _ _ (slots_length live a')] at h2
        have hF := Agree.mkF live _ a' (ha.kill' ha'.st hk hmask)
        exact wpIn_mono (ihy ay Q _ a' w' hdry hay hdy hF h2) fun e a'' w'' he' => exit_mono hDy (hk.mono hDx) (fun _ hh => hh) he'
      | exit id => exact exit_mono hDx (.refl a) (fun _ hh => hh) he
      | goto l => exact exit_mono hDx (.refl a) (fun _ hh => hh) he
      | ret => exact exit_mono hDx (.refl a) (fun _ hh => hh) he
      | panic c => exact he
      | outgrown => exact he.elim
  | cond cnd x y ihx ihy =>
    intro ann Q F a w hdr hok hd ha h
    have hdrx : rd = none ∨ noDraw x = true := hdr.imp id fun hh => by simp only [noDraw, Bool.and_eq_true] at hh; exact hh.1
    have hdry : rd = none ∨ noDraw y = true := hdr.imp id fun hh => by simp only [noDraw, Bool.and_eq_true] at hh; exact hh.2
    have hdx : ∀ d ∈ dsts x, n.wr d := fun d hh => hd d (by simp [dsts, hh])
    have hdy : ∀ d ∈ dsts y, n.wr d := fun d hh => hd d (by simp [dsts, hh])
    cases ann <;> try exact h.elim
    rename_i ax ay
    simp only [annOk, Bool.and_eq_true] at hok
    obtain ⟨v, hv, h1⟩ := withV_some h
    unfold CondS at h1
    split at h1
    · rename_i b
      cases b with
      | true => exact wpIn_cond (t := true) (ha.ev hv) (wpIn_mono (ihx ax Q F a w hdrx hok.1 hdx ha h1) fun e a' w' he => exit_mono (fun t ht => by simp [dsts, ht]) (.refl a) (fun _ hh => hh) he)
      | false => exact wpIn_cond (t := false) (ha.ev hv) (wpIn_mono (ihy ay Q F a w hdry hok.2 hdy ha h1) fun e a' w' he => exit_mono (fun t ht => by simp [dsts, ht]) (.refl a) (fun _ hh => hh) he)
    · exact h1.elim
  | block id x ih =>
    intro ann Q F a w hdr hok hd ha h
    cases ann <;> try exact h.elim
    rename_i ax
    refine wpIn_block (wpIn_mono (ih ax _ F a w hdr hok hd ha h) fun e a' w' he => ?_)
    cases e with
    | exit i =>
      obtain ⟨F', ha', hk, hQ⟩ := he
      have hQ' : cond (Nat.beq i id) (Q .normal F' w') (Q (.exit i) F' w') := hQ
      simp only [Exit.inBlock]
      by_cases hi : i = id
      · rw [if_pos hi]
        subst hi
        rw [show Nat.beq i i = true from Nat.beq_refl i] at hQ'
        exact ⟨F', ha', hk, hQ'⟩
      · rw [if_neg hi]
        rw [show Nat.beq i id = false from Bool.eq_false_iff.2 fun e => hi (Nat.eq_of_beq_eq_true e)] at hQ'
        exact ⟨F', ha', hk, hQ'⟩
    | normal => exact he
    | goto l => exact he
    | ret => exact he
    | panic c => exact he
    | outgrown => exact he.elim
  | loop x ih =>
    intro ann Q F a w hdr hok hd ha h
    cases ann <;> try exact h.elim
    rename_i live mask ax
    simp only [annOk, Bool.and_eq_true, List.all_eq_true] at hok
    obtain ⟨hmask, hax⟩ := hok
    have h1 := app_of_appF live _ F a w ha h
    unfold LoopS at h1
    rw [app_curry _ _ _ _ (slots_length live a)] at h1
    obtain ⟨I, μ, hI, hround⟩ := h1
    refine wpIn_mono (wpIn_loop (fun a' w' => Stands n a' ∧ Keeps (· ∈ dsts x) a a' ∧ I (slots live a') w') (fun a' w' => μ (slots live a') w') ⟨ha.st, .refl a, hI⟩
      (Q := PostW n Kp (· ∈ dsts x) a Q) fun a' w' ⟨hs, hk, hI'⟩ => ?_) fun e a' w' he => he
    have h2 := hround (slots live a') w' (slots_length live a') hI'
    rw [app_mkJ live _ _ _ _ (slots_length live a')] at h2
    have hF := Agree.mkF live _ a' (ha.kill' hs hk hmask)
    refine wpIn_mono (ih ax _ _ a' w' hdr hax hd hF h2) fun e a'' w'' he => ?_
    cases e with
    | normal =>
      obtain ⟨F'', ha'', hk'', hQ⟩ := he
      have h3 := app_of_appF live _ F'' a'' w'' ha'' hQ
      rw [app_curry _ _ _ _ (slots_length live a'')] at h3
      exact ⟨⟨ha''.st, hk.trans hk'', h3.1⟩, h3.2⟩
    | exit i => exact exit_mono (fun _ ht => ht) hk (fun _ hh => hh) he
    | goto l => exact exit_mono (fun _ ht => ht) hk (fun _ hh => hh) he
    | ret => exact exit_mono (fun _ ht => ht) hk (fun _ hh => hh) he
    | panic c => exact he
    | outgrown => exact he.elim
  | rangeFunc f ps x y ihx ihy => intro ann Q F a w _ hok; cases ann <;> cases hok
  | scope x ih => intro ann Q F a w _ hok; cases ann <;> cases hok
  | label l => intro ann Q F a w _ hok; cases ann <;> cases hok
  | goto l => intro ann Q F a w _ hok; cases ann <;> cases hok
  | refuse why => intro ann Q F a w _ hok; cases ann <;> cases hok

theorem den_sound (hm : P.follows .mixedOrders = true) (c : Code) (ann : Ann) (Q : Post) (F : Fr) (a : Act) (w : World) (h1 : annOk c ann = true) (h2 : ∀ d ∈ dsts c, n.wr d) (h3 : Agree n F a) (h4 : den P pan Kp c ann Q F w) :
    c.wp P (PostW n Kp (· ∈ dsts c) a Q) a w :=
  wpIn_wide.1 (den_soundIn (rd := none) (fu := 0) hm c ann Q F a w (.inl rfl) h1 h2 h3 h4)
/-! ### a function -/
theorem argF_agree (args : List Value) (m : Nat) : Agree ⟨args.length + m, [], fun _ => none⟩ (argF args 0) { tmps := args.toArray ++ Array.replicate m undef, defers := [] } := by
  have h : ∀ (args : List Value) (i t : Nat) (v : Value), argF args i t = some v → ∃ j, t = i + j ∧ args[j]? = some v := by
    intro args
    induction args with
    | nil => intro i t v h; cases h
    | cons x xs ih =>
      intro i t v h
      simp only [argF] at h
      by_cases ht : t = i
      · subst ht
        rw [Fr.upd_same] at h
        exact ⟨0, rfl, by simpa using h⟩
      · rw [Fr.upd_ne _ _ ht] at h
        obtain ⟨j, hj, hv⟩ := ih (i + 1) t v h
        exact ⟨j + 1, by omega, by simpa using hv⟩
  refine ⟨⟨by simp, rfl, fun t v hv => by cases hv⟩, fun t v hv => ?_⟩
  obtain ⟨j, hj, hjv⟩ := h args 0 t v hv
  have ht : t = j := by omega
  subst ht
  have hlt : t < args.length := (List.getElem?_eq_some_iff.1 hjv).1
  simp only [Array.getD_eq_getD_getElem?]
  rw [Array.getElem?_append_left (by simpa using hlt)]
  simp [hjv]

def resS (a : Act) : ResultVar → Sem Value := fun | .tmp t => pure (a.tmps.getD t undef) | .cell c t => do loadVar t (← asAddr (a.tmps.getD c undef))
theorem LoadC_var {t : TypeId} {v : Value} {K : Value → World → Prop} {w : World} (ht : (P.underlying t).isSome = true) (hg : isAggT P t = false) (h : LoadC v K w) :
    ∃ u, (do loadVar t (← asAddr v) : Sem Value).run P w = .ok u w ∧ K u w := by
  unfold LoadC at h
  split at h
  · split at h
    · rename_i u hu
      exact ⟨u, by simp [asAddr, loadVar, isAgg_run ht, hg, hu], h⟩
    · exact h.elim
  · exact h.elim
theorem LoadA_var {t : TypeId} {v : Value} {K : Value → World → Prop} {w : World} (hg : isAggT P t = true) (h : LoadA (P.cellsOf t) v K w) :
    ∃ u, (do loadVar t (← asAddr v) : Sem Value).run P w = .ok u w ∧ K u w := by
  unfold LoadA at h
  split at h
  · rename_i ad
    obtain ⟨xs, hl, hc, hK⟩ := h
    have ht := isAggT_some hg
    obtain ⟨i, hi⟩ := info_of_underlying ht
    refine ⟨_, ?_, hK⟩
    have := loadCells_run (P := P) (w := w) (a := ad) (P.cellsOf t) 0 xs #[] hl (fun j v hj => by simpa using hc j v hj)
    simp [asAddr, loadVar, isAgg_run ht, hg, sizeOf_run hi, loadCells, this]
  · exact h.elim
theorem resL_run {F : Fr} {a : Act} (ha : Agree n F a) (w : World) : ∀ (rs : List ResultVar) (K : List Value → Prop), resL P rs F w K → ∃ vs, K vs ∧ vs.length = rs.length ∧
    (rs.mapM (resS a)).run P w = .ok vs w
  | [], K, h => ⟨[], h, rfl, by simp⟩
  | .tmp t :: r, K, h => by
    obtain ⟨v, hv, h1⟩ := withV_some h
    obtain ⟨vs, hK, hl, hr⟩ := resL_run ha w r _ h1
    refine ⟨v :: vs, hK, by simp [hl], ?_⟩
    have hvv := ha.vals t v hv
    simp only [List.mapM_cons, Sem.run_bind, resS, Sem.run_pure, Result.andThen_ok, hr, hvv]
  | .cell c t :: r, K, h => by
    obtain ⟨p, hp, h1⟩ := withV_some h
    have hpp := ha.vals c p hp
    have key : ∃ u, (resS a (.cell c t)).run P w = .ok u w ∧ resL P r F w fun vs => K (u :: vs) := by
      unfold resS
      simp only [hpp]
      cases hg : isAggT P t with
      | true => rw [hg] at h1; exact LoadA_var (K := fun v _ => resL P r F w fun vs => K (v :: vs)) hg h1
      | false => rw [hg] at h1; obtain ⟨ht, h2⟩ := cond_true_of h1; exact LoadC_var (K := fun v _ => resL P r F w fun vs => K (v :: vs)) ht hg h2
    obtain ⟨u, hu, h2⟩ := key
    obtain ⟨vs, hK, hl, hr⟩ := resL_run ha w r _ h2
    refine ⟨u :: vs, hK, by simp [hl], ?_⟩
    simp only [List.mapM_cons, Sem.run_bind, hu, Result.andThen_ok, hr, Sem.run_pure]

theorem resV_run {F : Fr} {a : Act} (ha : Agree n F a) (w : World) (fn : Func) {rs : Array ResultVar} (hrs : fn.results = rs) {K : Value → Prop} (h : resV P rs.toList F w K) :
    ∃ v, (results fn a.tmps).run P w = .ok v w ∧ K v := by
  obtain ⟨vs, hK, hl, hr⟩ := resL_run (P := P) ha w _ _ h
  refine ⟨one vs, ?_, hK⟩
  have hm : (rs.mapM (resS a)).run P w = .ok vs.toArray w := by
    have : rs.mapM (resS a) = List.toArray <$> rs.toList.mapM (resS a) := by
      conv => lhs; rw [show rs = rs.toList.toArray by simp]
      rw [List.mapM_toArray]
    rw [this]
    simp only [Sem.run_map, hr, Result.andThen_ok]
  unfold results
  rw [hrs, Sem.run_bind]
  erw [hm]
  simp only [Result.andThen_ok, Sem.run_pure]
  unfold one
  match vs with
  | [] => rw [dif_neg (by simp)]
  | [v] => rw [dif_pos (by simp)]; simp
  | x :: y :: r => rw [dif_neg (by simp)]

theorem fn_wp (hm : P.follows .mixedOrders = true) {f : FuncId} {fn : Func} {c : Code} (hf : P.funcs[f]? = some fn) (hb : fn.body = some c) {ann : Ann} {args : List Value} {rs : Array ResultVar} (hrs : fn.results = rs) {m : Nat}
    (hn : fn.ntmps = args.length + m) (hd : dstsOk (args.length + m) c = true) (hok : annOk c ann = true) {K : Value → World → Prop} {w : World} {R : Ending → World → Prop}
    (hret : ∀ v w', K v w' → R (.returned v) w') (hpan : ∀ ch w', Kp ch w' → R (.panicked ch) w') (h : denFn P pan c rs ann args K Kp w) : Calls P f args.toArray w R := by
  refine calls_of_wp hf hb ?_
  have hsz : fn.ntmps - args.toArray.size = m := by simp [hn]
  rw [hsz]
  refine wp_mono (den_sound (n := ⟨args.length + m, [], fun _ => none⟩) hm c ann _ _ _ w hok (dstsOk_mem hd) (argF_agree args m) h) fun e a w' he => ?_
  have hfin : ∀ F, Agree ⟨args.length + m, [], fun _ => none⟩ F a → resV P rs.toList F w' (fun v => K v w') → a.defers = [] ∧ ∃ v, (results fn a.tmps).run P w' = .ok v w' ∧ R (.returned v) w' := fun F ha hr => by
    obtain ⟨v, hv, hK⟩ := resV_run (P := P) ha w' fn hrs hr
    exact ⟨ha.st.defers, v, hv, hret _ _ hK⟩
  cases e with
  | normal => obtain ⟨F, ha, _, hQ⟩ := he; exact hfin F ha hQ
  | ret => obtain ⟨F, ha, _, hQ⟩ := he; exact hfin F ha hQ
  | exit id => obtain ⟨F, ha, _, hQ⟩ := he; exact hQ.elim
  | goto l => obtain ⟨F, ha, _, hQ⟩ := he; exact hQ.elim
  | panic ch => exact ⟨he.1.defers, hpan _ _ he.2⟩
  | outgrown => exact he.elim

def NoP : List PanicEntry → World → Prop := fun _ _ => False
/-- a function that does not panic -/
theorem fn_call (hm : P.follows .mixedOrders = true) {f : FuncId} {fn : Func} {c : Code} (hf : P.funcs[f]? = some fn) (hb : fn.body = some c) {ann : Ann} {args : List Value} {rs : Array ResultVar} (hrs : fn.results = rs) {m : Nat}
    (hn : fn.ntmps = args.length + m) (hd : dstsOk (args.length + m) c = true) (hok : annOk c ann = true) {K : Value → World → Prop} {w : World}
    (h : denFn P false c rs ann args K NoP w) : CallS P f args.toArray K w :=
  fn_wp hm hf hb hrs hn hd hok (fun _ _ hk => hk) (fun _ _ hk => hk) h
theorem fn_callP (hm : P.follows .mixedOrders = true) {f : FuncId} {fn : Func} {c : Code} (hf : P.funcs[f]? = some fn) (hb : fn.body = some c) {ann : Ann} {args : List Value} {rs : Array ResultVar} (hrs : fn.results = rs) {m : Nat}
    (hn : fn.ntmps = args.length + m) (hd : dstsOk (args.length + m) c = true) (hok : annOk c ann = true) {K : Value → World → Prop} {w : World}
    (h : denFn P true c rs ann args K Kp w) : CallP P f args.toArray K Kp w :=
  fn_wp hm hf hb hrs hn hd hok (fun _ _ hk => hk) (fun _ _ hk => hk) h
end
def bodyOf (fn : Func) : Code := match fn.body with | some c => c | none => .skip
def CallP' (P : Program) (f : FuncId) (args : Array Value) (Kp : List PanicEntry → World → Prop) (K : Value → World → Prop) (w : World) : Prop := CallP P f args K Kp w
def CallV' (P : Program) (pan : Bool) (f : Value) (args : List Value) (Kp : List PanicEntry → World → Prop) (K : Value → World → Prop) (w : World) : Prop := CallV P pan true f args K Kp w
end SG
