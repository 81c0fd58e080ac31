/- The generic layer, fifth part: regions and code; a function's body. -/
import Derived.Test.YtambcnlkdnmekaaG3
namespace SG
open Go
set_option linter.unusedSimpArgs false
set_option linter.unusedVariables false

section
variable {P : Program} {n : Stat}

theorem Agree.hρ {F : Fr} {a : Act} (h : Agree n F a) : ∀ x v, F.ev x = some v → a.eval x = v := fun _ _ hx => h.ev hx
/-- slots outside D are as they were -/
def Keeps (D : Nat → Prop) (a a' : Act) : Prop := ∀ t, ¬ D t → a'.tmps.getD t undef = a.tmps.getD t undef
theorem Keeps.refl {D : Nat → Prop} (a : Act) : Keeps D a a := fun _ _ => rfl
theorem Keeps.trans {D : Nat → Prop} {a b c : Act} (h : Keeps D a b) (k : Keeps D b c) : Keeps D a c := fun t ht => (k t ht).trans (h t ht)
theorem Keeps.mono {D D' : Nat → Prop} {a b : Act} (h : Keeps D a b) (hd : ∀ t, D t → D' t) : Keeps D' a b := fun t ht => h t fun hh => ht (hd t hh)
theorem Keeps.put {D : Nat → Prop} (a : Act) (d : Option Nat) (v : Value) (hd : ∀ t, d = some t → D t) : Keeps D a (a.put d v) := by
  intro t ht
  cases d with
  | none => rfl
  | some d =>
    have hne : d ≠ t := fun e => ht (hd t (by rw [e]))
    simp [Act.put, Array.getElem?_setIfInBounds_ne hne]
theorem Agree.kill' {F : Fr} {a a' : Act} (h : Agree n F a) (hs : Stands n a') {m : Nat} {D : Nat → Prop} (hk : Keeps D a a') (hm : ∀ t, D t → Nat.testBit m t = true) :
    Agree n (F.kill m) a' := by
  refine ⟨hs, fun t v hv => ?_⟩
  unfold Fr.kill at hv
  cases hb : Nat.testBit m t with
  | true => rw [hb] at hv; cases hv
  | false =>
    rw [hb] at hv
    rw [hk t (fun hD => by rw [hm t hD] at hb; cases hb)]
    exact h.vals t v hv

/-! ### live slots -/
def mkF : List Nat → Fr → List Value → Fr
  | t :: ls, F, v :: vs => mkF ls (F.upd t v) vs
  | _, F, _ => F
theorem app_mkJ : ∀ (live : List Nat) (F : Fr) (k : Fr → World → Prop) (vs : List Value) (w : World), vs.length = live.length →
    (app live.length (mkJ live F k) vs w ↔ k (mkF live F vs) w)
  | [], F, k, vs, w, h => by
    have : vs = [] := List.eq_nil_of_length_eq_zero h
    subst this; exact Iff.rfl
  | t :: ls, F, k, v :: vs, w, h => app_mkJ ls (F.upd t v) k vs w (by simpa using h)
  | t :: ls, F, k, [], w, h => by simp at h
def slots (live : List Nat) (a : Act) : List Value := live.map fun t => a.tmps.getD t undef
theorem app_of_appF : ∀ (live : List Nat) (J : Cur live.length) (F : Fr) (a : Act) (w : World), Agree n F a → appF live J F w → app live.length J (slots live a) w
  | [], J, F, a, w, _, h => h
  | t :: ls, J, F, a, w, ha, h => by
    obtain ⟨v, hv, h1⟩ := withV_some h
    have := app_of_appF ls (J v) F a w ha h1
    have hvv := ha.vals t v hv
    show app ls.length (J (a.tmps.getD t undef)) (slots ls a) w
    rw [hvv]; exact this
theorem Agree.mkF : ∀ (live : List Nat) (F : Fr) (a : Act), Agree n F a → Agree n (mkF live F (slots live a)) a
  | [], F, a, h => h
  | t :: ls, F, a, h => Agree.mkF ls (F.upd t (a.tmps.getD t undef)) a (h.upd rfl)
theorem slots_length (live : List Nat) (a : Act) : (slots live a).length = live.length := by simp [slots]

/-! ### guards -/
theorem getElem?_of_getD {a : Act} {d : Nat} {b : Bool} (h : a.tmps.getD d undef = .bool b) : a.tmps[d]? = some (.bool b) := by
  simp only [Array.getD_eq_getD_getElem?] at h
  cases hx : a.tmps[d]? with
  | none => rw [hx] at h; cases h
  | some v => rw [hx] at h; simpa using h
theorem isB_true {v : Value} {b : Bool} (h : isB v b = true) : v = .bool b := by
  cases v <;> simp [isB] at h
  rw [h]
theorem yielded_of {ops : Array Oper} {a : Act} {j d : Nat} {b : Bool} (hd : (ops[j]?).bind (·.dst) = some d) (h : a.tmps.getD d undef = .bool b) : yielded ops a.tmps j = some b := by
  unfold yielded
  rw [hd]
  simp [getElem?_of_getD h]
theorem yielded_not {ops : Array Oper} {a : Act} {j d : Nat} {b : Bool} (hd : (ops[j]?).bind (·.dst) = some d) (h : isB (a.tmps.getD d undef) b = false) : yielded ops a.tmps j ≠ some b := by
  unfold yielded
  rw [hd]
  intro hc
  simp only [Option.bind_some] at hc
  split at hc
  · rename_i b' hb
    cases hc
    have : a.tmps.getD d undef = .bool b := by rw [Array.getD_eq_getD_getElem?, hb]; rfl
    rw [this] at h
    simp [isB] at h
  · cases hc
theorem actv_of {ops : Array Oper} {o : Oper} {F : Fr} {a : Act} {X : Prop} (ha : Agree n F a) (h : actv ops o F X) : Region.wanted o (yielded ops a.tmps) = true ∧ X := by
  unfold actv at h
  unfold Region.wanted
  cases hg : o.guard with
  | none => rw [hg] at h; exact ⟨rfl, h⟩
  | some jw =>
    obtain ⟨j, want⟩ := jw
    rw [hg] at h
    simp only at h ⊢
    cases hd : (ops[j]?).bind (·.dst) with
    | none => rw [hd] at h; exact h.elim
    | some d =>
      rw [hd] at h
      obtain ⟨h1, hX⟩ := cond_true_of h
      refine ⟨?_, hX⟩
      unfold isBo at h1
      cases hF : F d with
      | none => rw [hF] at h1; cases h1
      | some v =>
        rw [hF] at h1
        have hv := isB_true h1
        subst hv
        rw [yielded_of hd (ha.vals d _ hF)]
        simp
theorem inact_of {ops : Array Oper} {o : Oper} {F : Fr} {a : Act} {X : Prop} (ha : Agree n F a) (h : inact ops o F X) : Region.wanted o (yielded ops a.tmps) = false ∧ X := by
  unfold inact at h
  unfold Region.wanted
  cases hg : o.guard with
  | none => rw [hg] at h; exact h.elim
  | some jw =>
    obtain ⟨j, want⟩ := jw
    rw [hg] at h
    simp only at h ⊢
    cases hd : (ops[j]?).bind (·.dst) with
    | none => rw [hd] at h; exact h.elim
    | some d =>
      rw [hd] at h
      simp only at h
      cases hF : F d with
      | none => rw [hF] at h; exact h.elim
      | some v =>
        rw [hF] at h
        obtain ⟨h1, hX⟩ := cond_false_of h
        refine ⟨?_, hX⟩
        have := yielded_not (ops := ops) (a := a) (j := j) hd (b := want) (by rw [ha.vals d v hF]; exact h1)
        simpa using this

/-! ### lists of operations -/
section
variable {pan : Bool} {ops : Array Oper} {Kp : List PanicEntry → World → Prop} {Q : Exit → Act → World → Prop} {rd : Option Nat} {fu : Nat}
def dstIn (l : List Oper) (t : Nat) : Prop := ∃ o ∈ l, o.dst = some t

theorem denL_sound (hQ : ∀ c a' w', Stands n a' → Kp c w' → Q (.panic c) a' w') {K : Fr → World → Prop} {rest : List Oper} : ∀ (l : List Oper) (F : Fr) (a : Act) (w : World), Agree n F a →
    (∀ o ∈ l, ∀ d, o.dst = some d → n.wr d) → denL P pan ops Kp l K F w →
    (∀ F' a' w', Agree n F' a' → Keeps (dstIn l) a a' → K F' w' → wpListIn (FR rd) fu P ops Q rest a' w') → wpListIn (FR rd) fu P ops Q (l ++ rest) a w
  | [], F, a, w, ha, _, h, hK => hK F a w ha (.refl a) h
  | o :: r, F, a, w, ha, hd, h, hK => by
    obtain ⟨hw, h1⟩ := actv_of ha h
    show wpListIn (FR rd) fu P ops Q (o :: (r ++ rest)) a w
    unfold wpListIn
    rw [if_pos hw]
    refine (denOp_soundIn ha.hρ o (K := fun v w' => denL P pan ops Kp r K (F.put o.dst v) w') (Kp := Kp) (fun v w' hv => ?_) (fun c w' hc => hQ _ _ _ ha.st hc) h1)
    refine denL_sound hQ r _ _ w' (ha.put (hd o (by simp)) v) (fun o' ho' => hd o' (by simp [ho'])) hv fun F' a' w'' ha' hk hK' => hK F' a' w'' ha' ?_ hK'
    exact (Keeps.put a o.dst v fun t ht => ⟨o, by simp, ht⟩).trans (hk.mono fun t ⟨o', ho', ht⟩ => ⟨o', by simp [ho'], ht⟩)

theorem skip_sound {rest : List Oper} {j d : Nat} {want : Bool} (hj : (ops[j]?).bind (·.dst) = some d) : ∀ (l : List Oper) (F : Fr) (a : Act) (w : World), Agree n F a →
    (∀ o ∈ l, ∀ d, o.dst = some d → n.wr d) → (∀ o ∈ l, o.guard = some (j, want)) → isB (a.tmps.getD d undef) want = false →
    (∀ a', Agree n (undefs l F) a' → Keeps (dstIn l) a a' → wpListIn (FR rd) fu P ops Q rest a' w) → wpListIn (FR rd) fu P ops Q (l ++ rest) a w
  | [], F, a, w, ha, _, _, _, hK => hK a ha (.refl a)
  | o :: r, F, a, w, ha, hd, hg, hb, hK => by
    show wpListIn (FR rd) fu P ops Q (o :: (r ++ rest)) a w
    unfold wpListIn
    have hw : Region.wanted o (yielded ops a.tmps) = false := by
      unfold Region.wanted
      rw [hg o (by simp)]
      have := yielded_not (ops := ops) (a := a) (j := j) hj hb
      simpa using this
    rw [if_neg (by rw [hw]; simp)]
    refine ⟨fun _ _ => trivial, ?_⟩
    refine skip_sound hj r _ _ w (ha.put (hd o (by simp)) undef) (fun o' ho' => hd o' (by simp [ho'])) (fun o' ho' => hg o' (by simp [ho'])) ?_ fun a' ha' hk => hK a' ha' ?_
    · cases hdo : o.dst with
      | none => exact hb
      | some e =>
        by_cases hed : e = d
        · subst hed
          have hlt := hd o (by simp) e hdo
          simp [Act.put, ha.st.size, hlt.1, isB, undef]
        · simp only [Act.put, Array.getD_eq_getD_getElem?]
          rw [Array.getElem?_setIfInBounds_ne hed, ← Array.getD_eq_getD_getElem?]
          exact hb
    · exact (Keeps.put a o.dst undef fun t ht => ⟨o, by simp, ht⟩).trans (hk.mono fun t ⟨o', ho', ht⟩ => ⟨o', by simp [ho'], ht⟩)

theorem beq_guard {x y : Option (Nat × Bool)} (h : (x == y) = true) : x = y := by simpa using h

theorem denSegs_sound (hQ : ∀ c a' w', Stands n a' → Kp c w' → Q (.panic c) a' w') {K : Fr → World → Prop} : ∀ (ss : List Seg) (l : List Oper) (F : Fr) (a : Act) (w : World), segsOk ops ss l = true → Agree n F a →
    (∀ o ∈ l, ∀ d, o.dst = some d → n.wr d) → denSegs P pan ops Kp ss l K F w →
    (∀ F' a' w', Agree n F' a' → Keeps (dstIn l) a a' → K F' w' → Q .normal a' w') → wpListIn (FR rd) fu P ops Q l a w
  | [], l, F, a, w, hok, ha, _, h, hK => by
    have : l = [] := by simpa [segsOk] using hok
    subst this
    exact hK F a w ha (.refl a) h
  | .plain m :: ss, l, F, a, w, hok, ha, hd, h, hK => by
    simp only [segsOk, Bool.and_eq_true] at hok
    have hl : l = l.take m ++ l.drop m := (List.take_append_drop m l).symm
    rw [hl]
    refine denL_sound hQ (l.take m) F a w ha (fun o ho => hd o (List.mem_of_mem_take ho)) h fun F' a' w' ha' hk hK' => ?_
    refine denSegs_sound hQ ss (l.drop m) F' a' w' hok.2 ha' (fun o ho => hd o (List.mem_of_mem_drop ho)) hK' fun F'' a'' w'' ha'' hk' hK'' => hK F'' a'' w'' ha'' ?_ hK''
    exact (hk.mono fun t ⟨o, ho, ht⟩ => ⟨o, List.mem_of_mem_take ho, ht⟩).trans (hk'.mono fun t ⟨o, ho, ht⟩ => ⟨o, List.mem_of_mem_drop ho, ht⟩)
  | .grp m live mask :: ss, l, F, a, w, hok, ha, hd, h, hK => by
    simp only [segsOk, Bool.and_eq_true, List.all_eq_true] at hok
    obtain ⟨hall, hss⟩ := hok
    simp only [denSegs] at h
    cases hgo : guardOf ops (l.take m) with
    | none => rw [hgo] at h; exact h.elim
    | some dw =>
      obtain ⟨d, want⟩ := dw
      rw [hgo] at h
      obtain ⟨v, hv, h1⟩ := withV_some h
      -- the guard
      have hg : ∃ j, (ops[j]?).bind (·.dst) = some d ∧ ∀ o ∈ l.take m, o.guard = some (j, want) := by
        cases hlm : l.take m with
        | nil => rw [hlm] at hgo; cases hgo
        | cons o r =>
          rw [hlm] at hgo
          simp only [guardOf] at hgo
          cases hog : o.guard with
          | none => rw [hog] at hgo; cases hgo
          | some jw =>
            obtain ⟨j, want'⟩ := jw
            rw [hog] at hgo
            simp only [Option.map_eq_some_iff, Prod.mk.injEq] at hgo
            obtain ⟨d', hd', rfl, rfl⟩ := hgo
            refine ⟨j, hd', fun o' ho' => ?_⟩
            have h2 := beq_guard (hall o' (by rw [hlm]; exact ho')).1
            have hhead : l.head? = some o := by
              cases l with
              | nil => simp at hlm
              | cons x xs => cases m with | zero => simp at hlm | succ m => simp at hlm; simp [hlm.1]
            rw [h2, hhead]
            exact hog
      obtain ⟨j, hj, hgl⟩ := hg
      have hmask : ∀ t, dstIn (l.take m) t → Nat.testBit mask t = true := fun t ⟨o, ho, ht⟩ => by
        have := (hall o ho).2
        rw [ht] at this
        exact this
      have hl : l = l.take m ++ l.drop m := (List.take_append_drop m l).symm
      -- from the join on
      have hjoin : ∀ F' a' w', Agree n F' a' → Keeps (dstIn (l.take m)) a a' →
          appF live (mkJ live (F.kill mask) fun F' w' => denSegs P pan ops Kp ss (l.drop m) K F' w') F' w' → wpListIn (FR rd) fu P ops Q (l.drop m) a' w' := by
        intro F' a' w' ha' hk hJ
        have h2 := app_of_appF live _ F' a' w' ha' hJ
        rw [app_mkJ live _ _ _ _ (slots_length live a')] at h2
        have hF := Agree.mkF live _ a' (ha.kill' ha'.st hk hmask)
        refine denSegs_sound hQ ss (l.drop m) _ a' w' hss hF (fun o ho => hd o (List.mem_of_mem_drop ho)) h2 fun F'' a'' w'' ha'' hk' hK'' => hK F'' a'' w'' ha'' ?_ hK''
        exact (hk.mono fun t ⟨o, ho, ht⟩ => ⟨o, List.mem_of_mem_take ho, ht⟩).trans (hk'.mono fun t ⟨o, ho, ht⟩ => ⟨o, List.mem_of_mem_drop ho, ht⟩)
      rw [hl]
      unfold JoinS IfB at h1
      dsimp only at h1
      by_cases hb : isB v want = true
      · rw [if_pos hb] at h1
        have hvb := isB_true hb
        subst hvb
        exact denL_sound hQ (l.take m) _ a w (ha.upd (ha.vals d _ hv)) (fun o ho => hd o (List.mem_of_mem_take ho)) h1 fun F' a' w' ha' hk hK' => hjoin F' a' w' ha' hk hK'
      · rw [if_neg hb] at h1
        refine skip_sound hj (l.take m) F a w ha (fun o ho => hd o (List.mem_of_mem_take ho)) hgl (by rw [ha.vals d v hv]; simpa using hb) fun a' ha' hk => hjoin _ a' w ha' hk h1

/-! ### regions that draw their order -/
theorem heldOp_sound {S : World → Prop} {F : Fr} {a : Act} (ha : Agree n F a) (o : Oper) {K : Value → Prop} (h : heldOp P S F o.op o.type K) :
    ∃ v, (∀ w, S w → (execOp a.eval o).run P w = .ok (.value v) w) ∧ K v := by
  unfold heldOp at h
  split at h
  · rename_i t x heq
    obtain ⟨p, hp, h1⟩ := withV_some h
    have hex : ∀ w, (execOp a.eval o).run P w = ((Instr.loadAt t p).run P w).andThen fun v w' => .ok (.value v) w' := fun w => run_sem (by simp [execOp, heq, ha.hρ x p hp]) w
    cases hg : isAggT P t with
    | true =>
      rw [hg] at h1
      have h2 : HeldA (P.cellsOf t) S p K := h1
      unfold HeldA at h2
      split at h2
      · rename_i ad
        obtain ⟨xs, hl, hc, hK⟩ := h2
        refine ⟨.agg xs.toArray, fun w hS => ?_, hK⟩
        obtain ⟨u, hu, he⟩ := LoadA_run (P := P) (t := t) (v := .pointer (some ad)) (K := fun v _ => v = .agg xs.toArray) (w := w) hg ⟨xs, hl, fun i v hi => hc w hS i v hi, rfl⟩
        rw [hex, hu, he]; rfl
      · exact h2.elim
    | false =>
      rw [hg] at h1
      obtain ⟨ht, h2⟩ := cond_true_of h1
      unfold HeldC at h2
      split at h2
      · rename_i ad
        obtain ⟨v, hc, hK⟩ := h2
        refine ⟨v, fun w hS => ?_, hK⟩
        obtain ⟨u, hu, he⟩ := LoadC_run (P := P) (t := t) (v := .pointer (some ad)) (K := fun u _ => u = v) (w := w) ht hg (by simp [LoadC, hc w hS])
        rw [hex, hu, he]; rfl
      · exact h2.elim
  · obtain ⟨s, ⟨v, hs, hK⟩, hr⟩ := semOf_sound (P := P) ha.hρ o h
    exact ⟨v, fun w hS => by rw [hr, hs w hS]; rfl, hK⟩

theorem readyIs_eq {listed : Array Bool} {l : List Nat} (h : readyIs ops listed l = true) : Region.ready .any ops listed = l := by
  unfold readyIs at h
  exact LawfulBEq.eq_of_beq h

/-- whatever order is picked; behind each operation after which it is needed, S -/
def wpAnyN (P : Program) (ops : Array Oper) (Q : Exit → Act → World → Prop) (S : World → Prop) (nd : Nat → Bool) : Nat → Array Bool → Act → World → Prop
  | 0, listed, a, w => Region.ready .any ops listed = [] ∧ Q .normal a w
  | fuel + 1, listed, a, w => (Region.ready .any ops listed = [] → Q .normal a w) ∧
    ∀ i ∈ Region.ready .any ops listed, wpOp P ops Q i (fun a' w' => (nd i = true → S w → S w') ∧ wpAnyN P ops Q S nd fuel (listed.setIfInBounds i true) a' w') a w
theorem wpAny_of_N {S : World → Prop} {nd : Nat → Bool} : ∀ (fuel : Nat) (listed : Array Bool) (a : Act) (w : World), wpAnyN P ops Q S nd fuel listed a w → wpAny P .any ops Q fuel listed a w
  | 0, _, _, _, h => h
  | fuel + 1, _, _, _, h => ⟨h.1, fun i hi => wpOp_mono (fun a' w' h' => wpAny_of_N fuel _ a' w' h'.2) (h.2 i hi)⟩
/-- an operation waits for another, through others too -/
inductive Waits (ops : Array Oper) : Nat → Nat → Prop
  | one {j i : Nat} {o : Oper} {e : Edge} : ops[j]? = some o → e ∈ o.after → Region.binds .any e = true → e.on = i → Waits ops j i
  | more {j i : Nat} {o : Oper} {e : Edge} : ops[j]? = some o → e ∈ o.after → Region.binds .any e = true → Waits ops e.on i → Waits ops j i
/-- with each operation those that it waits for have come up -/
def Shut (ops : Array Oper) (listed : Array Bool) : Prop := ∀ (k : Nat) (o : Oper), ops[k]? = some o → listed.getD k false = true → ∀ e ∈ o.after, Region.binds .any e = true → listed.getD e.on false = true
theorem Shut.waits {listed : Array Bool} (h : Shut ops listed) {j i : Nat} (hw : Waits ops j i) : listed.getD j false = true → listed.getD i false = true := by
  induction hw with
  | one hj he hb hi => intro hl; rw [← hi]; exact h _ _ hj hl _ he hb
  | more hj he hb _ ih => intro hl; exact ih (h _ _ hj hl _ he hb)
theorem Shut.ready {listed : Array Bool} (h : Shut ops listed) {j i : Nat} (hj : j ∈ Region.ready .any ops listed) (hi : listed.getD i false = false) : ¬ Waits ops j i := by
  intro hw
  obtain ⟨_, o, ho, hall⟩ := mem_ready.1 hj
  have : listed.getD i false = true := by
    cases hw with
    | one hj' he hb hi' => rw [ho] at hj'; cases hj'; rw [← hi']; exact hall _ he hb
    | more hj' he hb hw' => rw [ho] at hj'; cases hj'; exact h.waits hw' (hall _ he hb)
  rw [this] at hi; cases hi
theorem Shut.set {listed : Array Bool} (h : Shut ops listed) {j : Nat} (hj : j ∈ Region.ready .any ops listed) : Shut ops (listed.setIfInBounds j true) := by
  intro k o ho hl e he hb
  by_cases hjk : j = k
  · subst hjk
    obtain ⟨_, o', ho', hall⟩ := mem_ready.1 hj
    rw [ho] at ho'; cases ho'
    exact getD_set_true (hall e he hb)
  · rw [getD_set_ne false hjk] at hl
    exact getD_set_true (h k o ho hl e he hb)
theorem ready_unlisted {listed : Array Bool} {i : Nat} (hi : i ∈ Region.ready .any ops listed) : listed.getD i false = false := by
  have h0 := (mem_ready.1 hi).1
  rcases Nat.lt_or_ge i listed.size with h' | h'
  · simp [h'] at h0 ⊢; exact h0
  · simp [Array.getElem?_eq_none h']
theorem wpAnyN_take {S S' : World → Prop} {nd : Nat → Bool} {i : Nat} {oi : Oper} {v : Value} (hi : ops[i]? = some oi) (hns : Region.noSelect ops = true)
    (hQ : ∀ c a w, Q (.panic c) (a.put oi.dst v) w → Q (.panic c) a w)
    (hstep : ∀ (j : Nat) (oj : Oper) (w w' : World), ops[j]? = some oj → ¬ Waits ops j i → j ≠ i → (nd j = true → S w → S w') → S' w → S' w') :
    ∀ (fuel : Nat) (listed : Array Bool) (a : Act) (w : World), Shut ops listed →
      (∀ (j : Nat) (oj : Oper), ops[j]? = some oj → j ≠ i → listed.getD j true = false → (∀ e ∈ oj.after, Region.binds .any e = true → e.on ≠ i) → oi.apart ops oj = true) →
      i ∈ Region.ready .any ops listed → YieldsIf P ops S' oi v a → S' w →
      wpAnyN P ops Q S nd fuel (listed.setIfInBounds i true) (a.put oi.dst v) w → wpAnyN P ops Q S nd (fuel + 1) listed a w := by
  have hsel := Region.noSelect_spec hns
  intro fuel
  induction fuel with
  | zero =>
    intro listed a w _ _ hr hy hS H
    refine ⟨fun h => (by rw [h] at hr; cases hr), fun j hj => ?_⟩
    by_cases hji : j = i
    · subst hji; exact hy.wpOp hi hS ⟨fun _ hh => hh, H⟩
    · have := ready_mono hj hji
      rw [H.1] at this
      cases this
  | succ fuel ih =>
    intro listed a w hsh hfree hr hy hS H
    refine ⟨fun h => (by rw [h] at hr; cases hr), fun j hj => ?_⟩
    by_cases hji : j = i
    · subst hji; exact hy.wpOp hi hS ⟨fun _ hh => hh, H⟩
    · have h1 := H.2 j (ready_mono hj hji)
      obtain ⟨hjun, oj, hoj, hall⟩ := mem_ready.1 hj
      have hnw := hsh.ready hj (ready_unlisted hr)
      have hnot : ∀ e ∈ oj.after, Region.binds .any e = true → e.on ≠ i := fun e he hb heq => hnw (.one hoj he hb heq)
      have h2 := wpOp_putIf hoj (hfree j oj hoj hji hjun hnot) (fun cs b => hsel i oi cs b hi) (fun cs b => hsel j oj cs b hoj) hQ hy h1
      have hfree' : ∀ (k : Nat) (ok : Oper), ops[k]? = some ok → k ≠ i → (listed.setIfInBounds j true).getD k true = false →
          (∀ e ∈ ok.after, Region.binds .any e = true → e.on ≠ i) → oi.apart ops ok = true := fun k ok hk hki hun hno => by
        refine hfree k ok hk hki ?_ hno
        by_cases hjk : j = k
        · subst hjk; exact hjun
        · rw [getD_set_ne true hjk] at hun; exact hun
      refine wpOp_mono (fun a' w' h3 => ?_) h2
      obtain ⟨hy', hSn, hH⟩ := h3
      have hS' := hstep j oj w w' hoj hnw hji hSn hS
      refine ⟨hSn, ih (listed.setIfInBounds j true) a' w' (hsh.set hj) hfree' (ready_mono hr (Ne.symm hji)) hy' hS' ?_⟩
      rw [Array.setIfInBounds_comm _ _ hji]
      exact hH
theorem wpAnyN_done {S : World → Prop} {nd : Nat → Bool} {listed : Array Bool} {a : Act} {w : World} (hr : Region.ready .any ops listed = []) (h : Q .normal a w) :
    ∀ fuel, wpAnyN P ops Q S nd fuel listed a w
  | 0 => ⟨hr, h⟩
  | _ + 1 => ⟨fun _ => h, by rw [hr]; simp⟩
theorem wpAnyN_all {S : World → Prop} {nd : Nat → Bool} {rs : List Nat} {fuel : Nat} {listed : Array Bool} {a : Act} {w : World} (hr : Region.ready .any ops listed = rs) (hne : rs ≠ [])
    (h : ∀ i ∈ rs, wpOp P ops Q i (fun a' w' => (nd i = true → S w → S w') ∧ wpAnyN P ops Q S nd fuel (listed.setIfInBounds i true) a' w') a w) : wpAnyN P ops Q S nd (fuel + 1) listed a w :=
  ⟨fun h0 => absurd (hr ▸ h0) hne, hr ▸ h⟩
theorem foldl_mask {ms : List Nat} {j i : Nat} : ∀ (l : List Edge) (s : Nat),
    Nat.testBit (l.foldl (fun s e => cond (Region.binds .any e) (s ||| 2 ^ e.on ||| cond (Nat.blt e.on j) (ms.getD e.on 0) 0) s) s) i = true →
    Nat.testBit s i = true ∨ ∃ e ∈ l, Region.binds .any e = true ∧ (e.on = i ∨ (e.on < j ∧ Nat.testBit (ms.getD e.on 0) i = true))
  | [], s, h => .inl h
  | e :: l, s, h => by
    rcases foldl_mask l _ h with h1 | ⟨e', he', h2⟩
    · cases hb : Region.binds .any e with
      | false => dsimp only at h1; rw [hb] at h1; exact .inl h1
      | true =>
        dsimp only at h1
        rw [hb] at h1
        simp only [cond_true, Nat.testBit_or, Bool.or_eq_true] at h1
        rcases h1 with (h1 | h1) | h1
        · exact .inl h1
        · rw [Nat.testBit_two_pow] at h1
          exact .inr ⟨e, by simp, hb, .inl (by simpa using h1)⟩
        · cases hlt : Nat.blt e.on j with
          | false => rw [hlt] at h1; simp at h1
          | true => rw [hlt] at h1; exact .inr ⟨e, by simp, hb, .inr ⟨Nat.le_of_ble_eq_true hlt, h1⟩⟩
    · exact .inr ⟨e', by simp [he'], h2⟩
theorem masksOk_at {ms : List Nat} : ∀ (l : List Oper) (j : Nat), masksOk ms j l = true → ∀ (k : Nat) (o : Oper), l[k]? = some o → ms.getD (j + k) 0 = maskOf ms (j + k) o
  | [], _, _, k, o, h => by simp at h
  | x :: r, j, hok, k, o, h => by
    simp only [masksOk, Bool.and_eq_true] at hok
    cases k with
    | zero => simp only [List.getElem?_cons_zero, Option.some.injEq] at h; subst h; exact Nat.eq_of_beq_eq_true hok.1
    | succ k =>
      have := masksOk_at r (j + 1) hok.2 k o (by simpa using h)
      rw [show j + (k + 1) = j + 1 + k by omega]
      exact this
theorem masks_wait {ms : List Nat} (hlen : ms.length = ops.size) (hok : masksOk ms 0 ops.toList = true) (j : Nat) : ∀ i, Nat.testBit (ms.getD j 0) i = true → Waits ops j i := by
  induction j using Nat.strongRecOn with
  | _ j ih =>
    intro i h
    cases ho : ops[j]? with
    | none =>
      have : ms.getD j 0 = 0 := by
        have hge : ms.length ≤ j := by rw [hlen]; exact Array.getElem?_eq_none_iff.1 ho
        simp [List.getElem?_eq_none hge]
      rw [this] at h; simp at h
    | some o =>
      have h1 := masksOk_at ops.toList 0 hok j o (by simpa using ho)
      rw [Nat.zero_add] at h1
      rw [h1] at h
      rcases foldl_mask _ _ h with h2 | ⟨e, he, hb, h2⟩
      · simp at h2
      · rcases h2 with h2 | ⟨hlt, h2⟩
        · exact .one ho (by simpa using he) hb h2
        · exact .more ho (by simpa using he) hb (ih _ hlt i h2)
theorem calm_step {ms held : List Nat} (hlen : ms.length = ops.size) (hok : masksOk ms 0 ops.toList = true) {i j : Nat} {o : Oper} (h : calm ops.size ms held i = true) (hj : ops[j]? = some o) (hne : j ≠ i) (hw : ¬ Waits ops j i) : need ms held j = true := by
  unfold calm at h
  rw [List.all_eq_true] at h
  have hlt : j < ops.size := (Array.getElem?_eq_some_iff.1 hj).1
  have := h j (List.mem_range.2 hlt)
  simp only [Bool.or_eq_true] at this
  rcases this with (h1 | h1) | h1
  · exact absurd (Nat.eq_of_beq_eq_true h1) hne
  · exact h1
  · exact absurd (masks_wait hlen hok j i h1) hw

theorem denSch_sound (hQ : ∀ c a' w', Stands n a' → Kp c w' → Q (.panic c) a' w') (hput : ∀ c a d v w, (∀ t, d = some t → n.wr t) → Q (.panic c) (Act.put a d v) w → Q (.panic c) a w) (hns : Region.noSelect ops = true)
    (hd : ∀ (i : Nat) (o : Oper) (d : Nat), ops[i]? = some o → o.dst = some d → n.wr d) {S : World → Prop} {K : Fr → World → Prop} {a₀ : Act} {ms held : List Nat} (hml : ms.length = ops.size) (hmo : masksOk ms 0 ops.toList = true)
    (hK : ∀ F' a' w', Agree n F' a' → Keeps (dstIn ops.toList) a₀ a' → K F' w' → Q .normal a' w') :
    ∀ (sch : Sch) (inside live : Bool) (listed : Array Bool) (fuel : Nat) (F : Fr) (a : Act) (w : World), schOk ops ms held inside live sch listed = true → schLen sch ≤ fuel → Agree n F a → Keeps (dstIn ops.toList) a₀ a → (live = true → S w) → Shut ops listed → (inside = true → ∀ i ∈ chain sch, i ∈ Region.ready .any ops listed) →
      denSch P pan ops ms held Kp S K sch F w →
      (inside = false → wpAnyN P ops Q S (need ms held) fuel listed a w) ∧
      (inside = true → ∀ i ∈ chain sch, ∃ f, fuel = f + 1 ∧ wpOp P ops Q i (fun a' w' => (need ms held i = true → S w → S w') ∧ wpAnyN P ops Q S (need ms held) f (listed.setIfInBounds i true) a' w') a w) := by
  have hmem : ∀ (i : Nat) (o : Oper) (t : Nat), ops[i]? = some o → o.dst = some t → dstIn ops.toList t := fun i o t ho ht => ⟨o, by simpa using Array.mem_of_getElem? ho, ht⟩
  have hact : ∀ (i : Nat) (r : Sch) (listed : Array Bool) (f : Nat) (F : Fr) (a : Act) (w : World), Agree n F a → Keeps (dstIn ops.toList) a₀ a →
      (∀ F a w, Agree n F a → Keeps (dstIn ops.toList) a₀ a → (need ms held i = true → S w) → denSch P pan ops ms held Kp S K r F w → wpAnyN P ops Q S (need ms held) f (listed.setIfInBounds i true) a w) →
      (match ops[i]? with
        | some o => actv ops o F (denOp P pan false F o.op o.type (fun v w' => cond (need ms held i) (S w' ∧ denSch P pan ops ms held Kp S K r (F.put o.dst v) w') (denSch P pan ops ms held Kp S K r (F.put o.dst v) w')) Kp w)
        | none => False) →
      wpOp P ops Q i (fun a' w' => (need ms held i = true → S w → S w') ∧ wpAnyN P ops Q S (need ms held) f (listed.setIfInBounds i true) a' w') a w := by
    intro i r listed f F a w ha hk ih h
    unfold wpOp
    cases ho : ops[i]? with
    | none => rw [ho] at h; exact h.elim
    | some o =>
      rw [ho] at h
      obtain ⟨hw, h1⟩ := actv_of ha h
      simp only
      rw [if_pos hw]
      refine .inl (denOp_sound ha.hρ o (fun v w' hv => ?_) (fun c w' hc => hQ _ _ _ ha.st hc) h1)
      cases hnd : need ms held i with
      | true =>
        rw [hnd] at hv
        exact ⟨fun _ _ => hv.1, ih _ _ w' (ha.put (hd i o · ho) v) (hk.trans (Keeps.put a o.dst v fun t ht => hmem i o t ho ht)) (fun _ => hv.1) hv.2⟩
      | false =>
        rw [hnd] at hv
        exact ⟨fun hh => (by cases hh), ih _ _ w' (ha.put (hd i o · ho) v) (hk.trans (Keeps.put a o.dst v fun t ht => hmem i o t ho ht)) (fun hh => (by rw [hnd] at hh; cases hh)) hv⟩
  -- one operation that is taken first: S' is what it wants of the world
  have htake : ∀ (i : Nat) (o : Oper) (v : Value) (S' : World → Prop) (live : Bool) (listed : Array Bool) (f : Nat) (a : Act) (w : World), ops[i]? = some o → YieldsIf P ops S' o v a →
      Region.free .any ops listed i = true → (Region.ready .any ops listed).contains i = true → Shut ops listed → (live = true → S w) → (∀ w, S w → S' w) → (∀ (j : Nat) (oj : Oper) (w w' : World), ops[j]? = some oj → need ms held j = true → (need ms held j = true → S w → S w') → S' w → S' w') →
      ((live = true ∧ calm ops.size ms held i = true) ∨ ∀ w, S' w) →
      wpAnyN P ops Q S (need ms held) f (listed.setIfInBounds i true) (a.put o.dst v) w → wpAnyN P ops Q S (need ms held) (f + 1) listed a w := by
    intro i o v S' live listed f a w ho hy hfree hready hsh hS hSS hSj' hc H
    refine wpAnyN_take (S' := S') ho hns (fun c a w => hput c a o.dst v w (hd i o · ho)) ?_ f listed a w hsh (fun j oj hj hne hun hno => Region.free_spec ho hfree j oj hj hne hun hno) (by simpa using hready) hy ?_ H
    · intro j oj w w' hj hno hne hSj hSw
      rcases hc with ⟨_, hcalm⟩ | hT
      · exact hSj' j oj w w' hj (calm_step hml hmo hcalm hj hne hno) hSj hSw
      · exact hT _
    · rcases hc with ⟨hl, _⟩ | hT
      · exact hSS _ (hS hl)
      · exact hT _
  intro sch
  induction sch with
  | fin =>
    intro inside live listed fuel F a w hok _ ha hk hS _ _ h
    simp only [schOk, Bool.and_eq_true, Bool.not_eq_true'] at hok
    refine ⟨fun _ => wpAnyN_done (readyIs_eq hok.2) (hK F a w ha hk h) fuel, fun hi => ?_⟩
    rw [hok.1] at hi; cases hi
  | pur i r ih =>
    intro inside live listed fuel F a w hok hlen ha hk hS hsh hch h
    simp only [schOk, Bool.and_eq_true, Bool.not_eq_true'] at hok
    obtain ⟨hin, ⟨hfree, hready⟩, hr⟩ := hok
    refine ⟨fun _ => ?_, fun hi => by rw [hin] at hi; cases hi⟩
    simp only [denSch] at h
    cases ho : ops[i]? with
    | none => rw [ho] at h; exact h.elim
    | some o =>
      rw [ho] at h
      obtain ⟨hw, h1⟩ := actv_of ha h
      obtain ⟨v, hv, h2⟩ := denPure_sound (P := P) ha.hρ o h1
      simp only [schLen] at hlen
      obtain ⟨f, rfl⟩ : ∃ f, fuel = f + 1 := ⟨fuel - 1, by omega⟩
      exact htake i o v (fun _ => True) live listed f a w ho (.inl ⟨hw, fun w _ => hv w⟩) hfree hready hsh hS (fun _ _ => trivial) (fun _ _ _ _ _ _ _ _ => trivial) (.inr fun _ => trivial)
        ((ih false live _ f _ _ w hr (by omega) (ha.put (hd i o · ho) v) (hk.trans (Keeps.put a o.dst v fun t ht => hmem i o t ho ht)) hS (hsh.set (by simpa using hready)) (fun hh => by cases hh) h2).1 rfl)
  | hld i r ih =>
    intro inside live listed fuel F a w hok hlen ha hk hS hsh hch h
    simp only [schOk, Bool.and_eq_true, Bool.not_eq_true'] at hok
    obtain ⟨hin, ⟨⟨hc, hfree⟩, hready⟩, hr⟩ := hok
    refine ⟨fun _ => ?_, fun hi => by rw [hin] at hi; cases hi⟩
    simp only [denSch] at h
    cases ho : ops[i]? with
    | none => rw [ho] at h; exact h.elim
    | some o =>
      rw [ho] at h
      obtain ⟨hw, h1⟩ := actv_of ha h
      obtain ⟨v, hv, h2⟩ := heldOp_sound (P := P) ha o h1
      simp only [schLen] at hlen
      obtain ⟨f, rfl⟩ : ∃ f, fuel = f + 1 := ⟨fuel - 1, by omega⟩
      exact htake i o v S live listed f a w ho (.inl ⟨hw, hv⟩) hfree hready hsh hS (fun _ hh => hh) (fun _ _ _ _ _ hn hh => hh hn) (.inl hc)
        ((ih false live _ f _ _ w hr (by omega) (ha.put (hd i o · ho) v) (hk.trans (Keeps.put a o.dst v fun t ht => hmem i o t ho ht)) hS (hsh.set (by simpa using hready)) (fun hh => by cases hh) h2).1 rfl)
  | skp i r ih =>
    intro inside live listed fuel F a w hok hlen ha hk hS hsh hch h
    simp only [schOk, Bool.and_eq_true, Bool.not_eq_true'] at hok
    obtain ⟨hin, ⟨hfree, hready⟩, hr⟩ := hok
    refine ⟨fun _ => ?_, fun hi => by rw [hin] at hi; cases hi⟩
    simp only [denSch] at h
    cases ho : ops[i]? with
    | none => rw [ho] at h; exact h.elim
    | some o =>
      rw [ho] at h
      obtain ⟨hw, h2⟩ := inact_of ha h
      simp only [schLen] at hlen
      obtain ⟨f, rfl⟩ : ∃ f, fuel = f + 1 := ⟨fuel - 1, by omega⟩
      exact htake i o undef (fun _ => True) live listed f a w ho (.inr ⟨hw, rfl⟩) hfree hready hsh hS (fun _ _ => trivial) (fun _ _ _ _ _ _ _ _ => trivial) (.inr fun _ => trivial)
        ((ih false live _ f _ _ w hr (by omega) (ha.put (hd i o · ho) undef) (hk.trans (Keeps.put a o.dst undef fun t ht => hmem i o t ho ht)) hS (hsh.set (by simpa using hready)) (fun hh => by cases hh) h2).1 rfl)
  | act i r ih =>
    intro inside live listed fuel F a w hok hlen ha hk hS hsh hch h
    simp only [schOk, Bool.and_eq_true, Bool.or_eq_true] at hok
    simp only [schLen] at hlen
    obtain ⟨f, rfl⟩ : ∃ f, fuel = f + 1 := ⟨fuel - 1, by omega⟩
    have hri : i ∈ Region.ready .any ops listed := by
      cases hin : inside with
      | true => exact hch hin i (by simp [chain])
      | false => rw [readyIs_eq (hok.1.resolve_left (by rw [hin]; simp))]; simp
    have h1 := hact i r listed f F a w ha hk (fun F a w ha hk hS h => (ih false _ _ f F a w hok.2 (by omega) ha hk hS (hsh.set hri) (fun hh => by cases hh) h).1 rfl) h
    refine ⟨fun hin => ?_, fun _ j hj => ?_⟩
    · have hr := readyIs_eq (hok.1.resolve_left (by rw [hin]; simp))
      exact wpAnyN_all hr (by simp) fun j hj => by
        have : j = i := by simpa using hj
        subst this; exact h1
    · have : j = i := by simpa [chain] using hj
      subst this
      exact ⟨f, rfl, h1⟩
  | alt i r more ih ihm =>
    intro inside live listed fuel F a w hok hlen ha hk hS hsh hch h
    simp only [schOk, Bool.and_eq_true, Bool.or_eq_true] at hok
    simp only [schLen] at hlen
    obtain ⟨f, rfl⟩ : ∃ f, fuel = f + 1 := ⟨fuel - 1, by omega⟩
    simp only [denSch] at h
    have hall' : ∀ j ∈ i :: chain more, j ∈ Region.ready .any ops listed := by
      cases hin : inside with
      | true => exact hch hin
      | false => rw [readyIs_eq (hok.1.1.resolve_left (by rw [hin]; simp))]; exact fun _ hh => hh
    have h1 := hact i r listed f F a w ha hk (fun F a w ha hk hS h => (ih false _ _ f F a w hok.1.2 (by omega) ha hk hS (hsh.set (hall' i (by simp))) (fun hh => by cases hh) h).1 rfl) h.1
    have h2 := (ihm true live listed (f + 1) F a w hok.2 (by omega) ha hk hS hsh (fun _ j hj => hall' j (by simp [hj])) h.2).2 rfl
    have hall : ∀ j ∈ i :: chain more, wpOp P ops Q j (fun a' w' => (need ms held j = true → S w → S w') ∧ wpAnyN P ops Q S (need ms held) f (listed.setIfInBounds j true) a' w') a w := fun j hj => by
      rcases List.mem_cons.1 hj with rfl | hj
      · exact h1
      · obtain ⟨f', hf, h3⟩ := h2 j hj
        have : f' = f := by omega
        subst this; exact h3
    refine ⟨fun hin => ?_, fun _ j hj => ⟨f, rfl, hall j hj⟩⟩
    have hr := readyIs_eq (hok.1.1.resolve_left (by rw [hin]; simp))
    exact wpAnyN_all hr (by simp) hall
  | ite j x y ihx ihy =>
    intro inside live listed fuel F a w hok hlen ha hk hS hsh hch h
    simp only [schOk, Bool.and_eq_true, Bool.not_eq_true'] at hok
    obtain ⟨hin, hx, hy⟩ := hok
    simp only [schLen] at hlen
    refine ⟨fun _ => ?_, fun hi => by rw [hin] at hi; cases hi⟩
    simp only [denSch] at h
    cases hdd : (ops[j]?).bind (·.dst) with
    | none => rw [hdd] at h; exact h.elim
    | some d =>
      rw [hdd] at h
      obtain ⟨v, hv, h1⟩ := withV_some h
      unfold CondS at h1
      split at h1
      · rename_i b
        cases b with
        | true => exact (ihx false live listed fuel _ a w hx (by omega) (ha.upd (ha.vals d _ hv)) hk hS hsh (fun hh => by cases hh) h1).1 rfl
        | false => exact (ihy false live listed fuel _ a w hy (by omega) (ha.upd (ha.vals d _ hv)) hk hS hsh (fun hh => by cases hh) h1).1 rfl
      · exact h1.elim
end
end
end SG
