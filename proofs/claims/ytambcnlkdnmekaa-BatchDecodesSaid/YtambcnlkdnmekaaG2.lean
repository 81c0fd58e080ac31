/- The generic layer, third part: 'den' is sound: what it says, the walk's rules say. -/
import Derived.Test.YtambcnlkdnmekaaG1
namespace SG
open Go
set_option linter.unusedSimpArgs false
set_option linter.unusedVariables false

theorem withV_some {r : Option Value} {K : Value → Prop} (h : withV r K) : ∃ v, r = some v ∧ K v := by
  cases r with
  | none => exact h.elim
  | some v => exact ⟨v, rfl, h⟩
theorem PureS_some' {r : Option Value} {K : Value → Prop} (h : PureS r K) : ∃ v, r = some v ∧ K v := by
  cases r with
  | none => exact h.elim
  | some v => exact ⟨v, rfl, h⟩
theorem cond_true_of {b : Bool} {X : Prop} (h : cond b X False) : b = true ∧ X := by
  cases b
  · exact h.elim
  · exact ⟨rfl, h⟩
theorem cond_false_of {b : Bool} {X : Prop} (h : cond b False X) : b = false ∧ X := by
  cases b
  · exact ⟨rfl, h⟩
  · exact h.elim

section
variable {P : Program}

def scalar : Value → Bool
  | .int _ _ => true | .string _ => true | .bool _ => true | _ => false
theorem run_eqGuard_scalar {op : BinOp} {t : TypeId} {x y : Operand} {a b : Value} (h : scalar a = true) (w : World) :
    (eqGuard op t x y a b).run P w = .ok () w := by
  cases a <;> simp [scalar] at h
  · rw [eqGuard_at_bool]; rfl
  · rw [eqGuard_at_int]; rfl
  · rw [eqGuard_at_string]; rfl

theorem int_beq (a b : Int) : (a == b) = decide (a = b) := by rw [Bool.eq_iff_iff]; simp
theorem intV_run {op : BinOp} {k : IntKind} {a b : Int} {v : Value} (t : TypeId) (hs : op ≠ .shl ∧ op ≠ .shr) (h : intV op k a b = some v) (w : World) :
    (binOp op t (.int k a) (.int k b)).run P w = .ok v w := by
  cases op with
  | add => cases h; simp [binOp, Op.intArith]
  | sub => cases h; simp [binOp, Op.intArith]
  | mul => cases h; simp [binOp, Op.intArith]
  | quo =>
    simp only [intV] at h
    split at h
    · cases h
    · rename_i hb; cases h; simp [binOp, Op.intDiv, hb]
  | rem =>
    simp only [intV] at h
    split at h
    · cases h
    · rename_i hb; cases h; simp [binOp, Op.intDiv, hb]
  | and => cases h; simp [binOp, intBits_and]
  | or => cases h; simp [binOp, intBits_or]
  | xor => cases h; simp [binOp, intBits_xor]
  | andNot => cases h; simp [binOp, intBits_andNot]
  | eql => cases h; simp [binOp, Op.intCmp, int_beq]
  | neq => cases h; simp [binOp, Op.intCmp, bne, int_beq]
  | lss => cases h; simp [binOp, Op.intCmp]
  | leq => cases h; simp [binOp, Op.intCmp]
  | gtr => cases h; simp [binOp, Op.intCmp]
  | geq => cases h; simp [binOp, Op.intCmp]
  | shl => exact absurd rfl hs.1
  | shr => exact absurd rfl hs.2

theorem binV_run {op : BinOp} {x y v : Value} (t : TypeId) (h : binV op x y = some v) (w : World) : (binOp op t x y).run P w = .ok v w := by
  unfold binV at h
  split at h
  · rename_i k a k' b
    split at h
    · unfold shiftV at h
      split at h
      · rename_i hb; cases h; simp [binOp, Op.shift, show ¬ b < 0 by omega]
      · cases h
    · unfold shiftV at h
      split at h
      · rename_i hb; cases h; simp [binOp, Op.shift, show ¬ b < 0 by omega]
      · cases h
    · rename_i h1 h2
      split at h
      · rename_i hk; subst hk
        exact intV_run t ⟨h1, h2⟩ h w
      · cases h
  · rename_i a b
    unfold strV at h
    split at h <;> first
      | (cases h; simp [binOp, Op.stringOp]; done)
      | (split at h
         · cases h
         · cases h; rename_i hb; simp only [binOp, Op.stringOp]; rw [if_neg hb]; rfl)
      | cases h
  · cases h
theorem run_equal_bool {t : TypeId} (ht : P.underlying t = some .bool) (a b : Bool) (w : World) : (Op.equal t (.bool a) (.bool b)).run P w = .ok (a == b) w := by
  have h : ∀ d, (Op.equalIn (d + 1) t (.bool a) (.bool b)).run P w = .ok (a == b) w := fun d => by simp [Op.equalIn, run_underlying ht]
  exact h 9999
theorem boolV_run {op : BinOp} {x y v : Value} {t : TypeId} (ht : P.underlying t = some .bool) (h : boolV op x y = some v) (w : World) : (binOp op t x y).run P w = .ok v w := by
  unfold boolV at h
  split at h
  · rename_i a b
    cases op <;> first
      | (cases h; done)
      | (simp only [Option.some.injEq] at h; subst h; simp only [binOp, Sem.run_bind, run_equal_bool ht, Result.andThen_ok, Sem.run_pure])
  · cases h
theorem binV_scalar {op : BinOp} {x y v : Value} (h : binV op x y = some v) : scalar x = true := by
  unfold binV at h
  split at h <;> first | rfl | cases h
theorem boolV_scalar {op : BinOp} {x y v : Value} (h : boolV op x y = some v) : scalar x = true := by
  unfold boolV at h
  split at h <;> first | rfl | cases h

theorem sliceBound_run {v : Value} {d m n : Nat} (h : boundV d m (some v) = some n) (code : BoundsCode) (w : World) :
    (Instr.sliceBound v m code).run P w = .ok n w := by
  cases v <;> simp only [boundV] at h <;> try cases h
  rename_i k i
  split at h
  · rename_i hi
    simp only [Option.some.injEq] at h
    subst h
    simp [Instr.sliceBound, asIntOf, hi]
  · cases h
theorem sliceBounds_run {lo hi : Option Value} {len cap hh ll : Nat} (b : Bool) (h1 : boundV len cap hi = some hh) (h2 : boundV 0 hh lo = some ll) (w : World) :
    (Instr.sliceBounds b len cap lo hi none).run P w = .ok (ll, hh, cap) w := by
  cases lo with
  | none =>
    simp only [boundV, Option.some.injEq] at h2
    subst h2
    cases hi with
    | none => simp only [boundV, Option.some.injEq] at h1; subst h1; simp [Instr.sliceBounds]
    | some v => simp [Instr.sliceBounds, sliceBound_run h1]
  | some u =>
    cases hi with
    | none => simp only [boundV, Option.some.injEq] at h1; subst h1; simp [Instr.sliceBounds, sliceBound_run h2]
    | some v => simp [Instr.sliceBounds, sliceBound_run h1, sliceBound_run h2]
theorem pickV_some {c a b v : Value} (h : pickV c a b = some v) : ∃ t, c = .bool t ∧ v = if t then a else b := by
  cases c <;> simp only [pickV] at h <;> try cases h
  exact ⟨_, rfl, rfl⟩
theorem nilV_some {x v : Value} (h : nilV x = some v) : v = x ∧ ((∃ a, x = .pointer (some a)) ∨ ∃ f y z, x = .func (.func f) y z) := by
  unfold nilV at h
  split at h
  · cases h; exact ⟨rfl, .inl ⟨_, rfl⟩⟩
  · cases h; exact ⟨rfl, .inr ⟨_, _, _, rfl⟩⟩
  · cases h
theorem notV_some {x v : Value} (h : notV x = some v) : ∃ b, x = .bool b ∧ v = .bool (!b) := by
  cases x <;> simp only [notV] at h <;> try cases h
  exact ⟨_, rfl, rfl⟩
theorem negV_some {x v : Value} (h : negV x = some v) : ∃ k n, x = .int k n ∧ v = .int k (k.wrap (0 - n)) := by
  cases x <;> simp only [negV] at h <;> try cases h
  exact ⟨_, _, rfl, rfl⟩
theorem convIntV_some {k : IntKind} {x v : Value} (h : convIntV k x = some v) : ∃ k' n, x = .int k' n ∧ v = .int k (k.wrap n) := by
  cases x <;> simp only [convIntV] at h <;> try cases h
  exact ⟨_, _, rfl, rfl⟩
theorem sliceV_some {size : Nat} {x v : Value} {lo hi : Option Value} (h : sliceV size x lo hi = some v) :
    ∃ a len cap hh ll, x = .slice a len cap ∧ boundV len cap hi = some hh ∧ boundV 0 hh lo = some ll ∧ v = .slice (if cap = ll then a else a.map (·.add (ll * size))) (hh - ll) (cap - ll) := by
  cases x <;> simp only [sliceV] at h <;> try cases h
  rw [Option.bind_eq_some_iff] at h
  obtain ⟨hh, h1, h⟩ := h
  rw [Option.bind_eq_some_iff] at h
  obtain ⟨ll, h2, h⟩ := h
  cases h
  exact ⟨_, _, _, hh, ll, rfl, h1, h2, rfl⟩
theorem sliceStrV_some {x v : Value} {lo hi : Option Value} (h : sliceStrV x lo hi = some v) :
    ∃ (s : ByteArray) (hh ll : Nat), x = .string s ∧ boundV s.size s.size hi = some hh ∧ boundV 0 hh lo = some ll ∧ v = .string (s.extract ll hh) := by
  cases x <;> simp only [sliceStrV] at h <;> try cases h
  rw [Option.bind_eq_some_iff] at h
  obtain ⟨hh, h1, h⟩ := h
  rw [Option.bind_eq_some_iff] at h
  obtain ⟨ll, h2, h⟩ := h
  cases h
  exact ⟨_, hh, ll, rfl, h1, h2, rfl⟩
theorem fieldAddrV_some {off : Nat} {x v : Value} (h : fieldAddrV off x = some v) : ∃ a, x = .pointer (some a) ∧ v = .pointer (some (a.add off)) := by
  unfold fieldAddrV at h
  split at h
  · cases h; exact ⟨_, rfl, rfl⟩
  · cases h
theorem indexAddrV_some {size : Nat} {x i v : Value} (h : indexAddrV size x i = some v) :
    ∃ a len cap k n, x = .slice (some a) len cap ∧ i = .int k n ∧ (0 ≤ n ∧ n < (len : Int)) ∧ v = .pointer (some (a.add (n.toNat * size))) := by
  unfold indexAddrV at h
  split at h
  · split at h
    · rename_i hb; cases h; exact ⟨_, _, _, _, _, rfl, rfl, hb, rfl⟩
    · cases h
  · cases h
theorem indexStrV_some {x i v : Value} (h : indexStrV x i = some v) : ∃ (s : ByteArray) (k : IntKind) (n : Int) (c : UInt8), x = .string s ∧ i = .int k n ∧ 0 ≤ n ∧ s[n.toNat]? = some c ∧ v = .int .u8 c.toNat := by
  unfold indexStrV at h
  split at h
  · split at h
    · rename_i hb
      rw [Option.map_eq_some_iff] at h
      obtain ⟨c, hc, h⟩ := h
      exact ⟨_, _, _, c, rfl, rfl, hb, hc, h.symm⟩
    · cases h
  · cases h
theorem extractV_some {i : Nat} {x v : Value} (h : extractV i x = some v) : ∃ vs, x = .tuple vs ∧ vs[i]? = some v := by
  cases x <;> simp only [extractV] at h <;> try cases h
  exact ⟨_, rfl, h⟩
theorem lenSliceV_some {x v : Value} (h : lenSliceV x = some v) : ∃ a n c, x = .slice a n c ∧ v = .int .i64 n := by
  cases x <;> simp only [lenSliceV] at h <;> try cases h
  exact ⟨_, _, _, rfl, rfl⟩
theorem lenStrV_some {x v : Value} (h : lenStrV x = some v) : ∃ s, x = .string s ∧ v = .int .i64 s.size := by
  cases x <;> simp only [lenStrV] at h <;> try cases h
  exact ⟨_, rfl, rfl⟩
theorem maxV_some {x y v : Value} (h : maxV x y = some v) : ∃ k a j b, x = .int k a ∧ y = .int j b ∧ v = .int k (if b > a then b else a) := by
  unfold maxV at h
  split at h
  · cases h; exact ⟨_, _, _, _, rfl, rfl, rfl⟩
  · cases h
theorem minV_some {x y v : Value} (h : minV x y = some v) : ∃ k a j b, x = .int k a ∧ y = .int j b ∧ v = .int k (if b < a then b else a) := by
  unfold minV at h
  split at h
  · cases h; exact ⟨_, _, _, _, rfl, rfl, rfl⟩
  · cases h

theorem evs_some {F : Fr} {ρ : Operand → Value} (hρ : ∀ x v, F.ev x = some v → ρ x = v) : ∀ (xs : List Operand) (K : List Value → Prop), evs F xs K → K (xs.map ρ)
  | [], _, h => h
  | x :: xs, K, h => by
    obtain ⟨v, hv, h⟩ := withV_some h
    have := evs_some hρ xs _ h
    simpa [hρ x v hv] using this
theorem evps_some {F : Fr} {ρ : Operand → Value} (hρ : ∀ x v, F.ev x = some v → ρ x = v) : ∀ (xs : List (Nat × Operand)) (K : List (Nat × Value) → Prop), evps F xs K → K (xs.map fun p => (p.1, ρ p.2))
  | [], _, h => h
  | (i, x) :: xs, K, h => by
    obtain ⟨v, hv, h⟩ := withV_some h
    have := evps_some hρ xs _ h
    simpa [hρ x v hv] using this
theorem evo_some {F : Fr} {ρ : Operand → Value} (hρ : ∀ x v, F.ev x = some v → ρ x = v) (x : Option Operand) (K : Option Value → Prop) (h : evo F x K) : K (x.map ρ) := by
  cases x with
  | none => exact h
  | some x =>
    obtain ⟨v, hv, h⟩ := withV_some h
    simpa [hρ x v hv] using h

theorem denPure_sound {F : Fr} {ρ : Operand → Value} (hρ : ∀ x v, F.ev x = some v → ρ x = v) (o : Oper) {K : Value → Prop} (h : denPure P F o.op K) :
    ∃ v, (∀ w, (execOp ρ o).run P w = .ok (.value v) w) ∧ K v := by
  obtain ⟨dst, op, type, pos, after, guard⟩ := o
  simp only at h
  cases op <;> simp only [denPure] at h <;> try exact h.elim
  case move x =>
    obtain ⟨v, hv, h⟩ := withV_some h
    exact ⟨v, fun w => by simp [execOp, hρ x v hv], h⟩
  case assign x =>
    obtain ⟨v, hv, h⟩ := withV_some h
    exact ⟨v, fun w => by simp [execOp, hρ x v hv], h⟩
  case pick c a b =>
    obtain ⟨vc, hc, h1⟩ := withV_some h
    obtain ⟨va, ha, h2⟩ := withV_some h1
    obtain ⟨vb, hb, h3⟩ := withV_some h2
    obtain ⟨v, hv, h4⟩ := PureS_some' h3
    obtain ⟨t, rfl, rfl⟩ := pickV_some hv
    refine ⟨_, fun w => ?_, h4⟩
    cases t <;> simp [execOp, hρ c _ hc, hρ a va ha, hρ b vb hb, asBool]
  case nilCheck x =>
    obtain ⟨u, hu, h1⟩ := withV_some h
    obtain ⟨v, hv, h2⟩ := PureS_some' h1
    obtain ⟨rfl, ⟨a, rfl⟩ | ⟨f, y, z, rfl⟩⟩ := nilV_some hv
    · exact ⟨_, fun w => by simp [execOp, hρ x _ hu], h2⟩
    · exact ⟨_, fun w => by simp [execOp, hρ x _ hu], h2⟩
  case binOp op t x y y' =>
    obtain ⟨vx, hx, h1⟩ := withV_some h
    obtain ⟨vy, hy, h2⟩ := withV_some h1
    split at h2
    · obtain ⟨v, hv, h3⟩ := PureS_some' h2
      exact ⟨v, fun w => by simp [execOp, hρ x vx hx, hρ y vy hy, run_eqGuard_scalar (binV_scalar hv), binV_run t hv], h3⟩
    · obtain ⟨v, hv, h3⟩ := PureS_some' h2
      exact ⟨v, fun w => by simp [execOp, hρ x vx hx, hρ y vy hy, run_eqGuard_scalar (binV_scalar hv), binV_run t hv], h3⟩
    · rename_i ht
      obtain ⟨v, hv, h3⟩ := PureS_some' h2
      exact ⟨v, fun w => by simp [execOp, hρ x vx hx, hρ y vy hy, run_eqGuard_scalar (boolV_scalar hv), boolV_run ht hv], h3⟩
    · exact h2.elim
  case unOp op t x =>
    obtain ⟨u, hu, h1⟩ := withV_some h
    split at h1
    · obtain ⟨v, hv, h2⟩ := PureS_some' h1
      obtain ⟨b, rfl, rfl⟩ := notV_some hv
      exact ⟨_, fun w => by simp [execOp, hρ x _ hu, Op.unary], h2⟩
    · obtain ⟨v, hv, h2⟩ := PureS_some' h1
      obtain ⟨k, n, rfl, rfl⟩ := negV_some hv
      exact ⟨_, fun w => by simp [execOp, hρ x _ hu, Op.unary, Op.intArith], h2⟩
    · exact h1.elim
  case convert s d x =>
    obtain ⟨u, hu, h1⟩ := withV_some h
    split at h1
    · rename_i hs hd
      obtain ⟨v, hv, h2⟩ := PureS_some' h1
      obtain ⟨k, n, rfl, rfl⟩ := convIntV_some hv
      exact ⟨_, fun w => by simp [execOp, hρ x _ hu, convert, run_underlying hs, run_underlying hd, Conv.intToInt], h2⟩
    · exact h1.elim
  case makeInterface t x =>
    obtain ⟨u, hu, h1⟩ := withV_some h
    split at h1
    · exact h1.elim
    · rename_i d hni ht
      refine ⟨_, fun w => ?_, h1⟩
      simp only [execOp, hρ x u hu, Instr.makeInterface, Sem.run_bind, run_underlying ht, Result.andThen_ok]
      rfl
    · exact h1.elim
  case makeFunc fn xs ys =>
    have h1 := evs_some hρ _ _ h
    have h2 := evs_some hρ _ _ h1
    refine ⟨_, fun w => ?_, h2⟩
    have e1 : xs.map ρ = (xs.toList.map ρ).toArray := by cases xs; simp
    have e2 : ys.map ρ = (ys.toList.map ρ).toArray := by cases ys; simp
    simp [execOp, Instr.makeFunc, e1, e2]
  case slice t x lo hi mx =>
    obtain ⟨u, hu, h1⟩ := withV_some h
    have h2 := evo_some hρ _ _ (evo_some hρ _ _ h1)
    obtain ⟨hm, h3⟩ := cond_true_of h2
    have hm' : mx = none := by cases mx with | none => rfl | some _ => simp at hm
    subst hm'
    split at h3
    · rename_i e ht
      obtain ⟨hi', h4⟩ := cond_true_of h3
      obtain ⟨v, hv, h5⟩ := PureS_some' h4
      obtain ⟨inf, hi1⟩ := Option.isSome_iff_exists.1 hi'
      obtain ⟨a, len, cap, hh, ll, rfl, hb1, hb2, rfl⟩ := sliceV_some hv
      refine ⟨_, fun w => ?_, h5⟩
      have hsz : P.cellsOf e = inf.size := by simp [Program.cellsOf, hi1]
      simp [execOp, hρ x _ hu, Instr.sliceAt, Instr.slice, run_underlying ht, sliceBounds_run true hb1 hb2, Go.sizeOf, typeInfo, hi1, hsz]
    · rename_i ht
      obtain ⟨v, hv, h5⟩ := PureS_some' h3
      obtain ⟨s, hh, ll, rfl, hb1, hb2, rfl⟩ := sliceStrV_some hv
      refine ⟨_, fun w => ?_, h5⟩
      simp [execOp, hρ x _ hu, Instr.sliceAt, Instr.slice, run_underlying ht, sliceBounds_run false hb1 hb2]
    · exact h3.elim
  case fieldAddr t x f =>
    obtain ⟨u, hu, h1⟩ := withV_some h
    split at h1
    · rename_i fs ht
      split at h1
      · rename_i fd hf
        obtain ⟨hz, h2⟩ := cond_false_of h1
        obtain ⟨v, hv, h3⟩ := PureS_some' h2
        obtain ⟨a, rfl, rfl⟩ := fieldAddrV_some hv
        refine ⟨_, fun w => ?_, h3⟩
        have hz' : P.cellsOf fd.type ≠ 0 := fun e => by rw [e] at hz; cases hz
        cases hi : P.info? fd.type with
        | none => simp [Program.cellsOf, hi] at hz'
        | some i =>
          have hs : i.size ≠ 0 := by simpa [Program.cellsOf, hi] using hz'
          simp [execOp, hρ x _ hu, Instr.fieldAt, run_underlying ht, hf, Instr.sureAddr, fieldPlace, Go.sizeOf, typeInfo, hi, hs]
      · exact h1.elim
    · exact h1.elim
  case indexAddr t x i =>
    obtain ⟨vx, hx, h1⟩ := withV_some h
    obtain ⟨vi, hi, h2⟩ := withV_some h1
    split at h2
    · rename_i e ht
      obtain ⟨hi', h3⟩ := cond_true_of h2
      obtain ⟨v, hv, h4⟩ := PureS_some' h3
      obtain ⟨inf, hi1⟩ := Option.isSome_iff_exists.1 hi'
      obtain ⟨a, len, cap, k, n, rfl, rfl, hb, rfl⟩ := indexAddrV_some hv
      refine ⟨_, fun w => ?_, h4⟩
      simp [execOp, hρ x _ hx, hρ i _ hi, Instr.indexAt, asIntOf, run_underlying ht, hb, Go.sizeOf, typeInfo, hi1, Program.cellsOf]
    · exact h2.elim
  case index t x i =>
    obtain ⟨vx, hx, h1⟩ := withV_some h
    obtain ⟨vi, hi, h2⟩ := withV_some h1
    split at h2
    · rename_i ht
      obtain ⟨v, hv, h3⟩ := PureS_some' h2
      obtain ⟨s, k, n, c, rfl, rfl, hb, hc, rfl⟩ := indexStrV_some hv
      refine ⟨_, fun w => ?_, h3⟩
      simp [execOp, hρ x _ hx, hρ i _ hi, Instr.index, asIntOf, run_underlying ht, hb, hc]
    · exact h2.elim
  case extract x i =>
    obtain ⟨u, hu, h1⟩ := withV_some h
    obtain ⟨v, hv, h2⟩ := PureS_some' h1
    obtain ⟨vs, rfl, hvs⟩ := extractV_some hv
    exact ⟨_, fun w => by simp [execOp, hρ x _ hu, Instr.extract, hvs], h2⟩
  case call c =>
    obtain ⟨callee, ⟨args⟩, ⟨argTypes⟩⟩ := c
    simp only at h
    have two : ∀ (l : List Operand), len2 ⟨l⟩ = true → ∃ x y, l = [x, y] := fun l hl => by
      match l, hl with
      | [x, y], _ => exact ⟨x, y, rfl⟩
    have one : ∀ (l : List Operand), len1 ⟨l⟩ = true → ∃ x, l = [x] := fun l hl => by
      match l, hl with
      | [x], _ => exact ⟨x, rfl⟩
    split at h
    · obtain ⟨hl, h1⟩ := cond_true_of h
      rw [Bool.and_eq_true] at hl
      obtain ⟨hl, hl'⟩ := hl
      obtain ⟨x, rfl⟩ := one args hl
      obtain ⟨u, hu, h2⟩ := withV_some h1
      have hu' : F.ev x = some u := hu
      match argTypes, hl' with
      | [t], _ =>
        simp only [ty0] at h2
        split at h2
        · rename_i e ht
          obtain ⟨v, hv, h3⟩ := PureS_some' h2
          obtain ⟨a, n, c, rfl, rfl⟩ := lenSliceV_some hv
          exact ⟨_, fun w => by simp [execOp, resolve, hρ x _ hu', invoke, builtin, Builtin.len_, run_underlying ht, goInt], h3⟩
        · rename_i ht
          obtain ⟨v, hv, h3⟩ := PureS_some' h2
          obtain ⟨s, rfl, rfl⟩ := lenStrV_some hv
          exact ⟨_, fun w => by simp [execOp, resolve, hρ x _ hu', invoke, builtin, Builtin.len_, run_underlying ht, goInt], h3⟩
        · exact h2.elim
    · obtain ⟨hl, h1⟩ := cond_true_of h
      obtain ⟨x, y, rfl⟩ := two args hl
      obtain ⟨u, hu, h2⟩ := withV_some h1
      obtain ⟨u', hu', h3⟩ := withV_some h2
      have hu1 : F.ev x = some u := hu
      have hu2 : F.ev y = some u' := hu'
      obtain ⟨v, hv, h4⟩ := PureS_some' h3
      obtain ⟨k, a, j, b, rfl, rfl, rfl⟩ := maxV_some hv
      refine ⟨_, fun w => ?_, h4⟩
      simp only [execOp, resolve, List.map_toArray, List.map_cons, List.map_nil, hρ x _ hu1, hρ y _ hu2, invoke, builtin, Builtin.max_, List.foldlM_cons, List.foldlM_nil, Builtin.max2, Sem.run_bind, Sem.run_pure, Result.andThen_ok]
    · obtain ⟨hl, h1⟩ := cond_true_of h
      obtain ⟨x, y, rfl⟩ := two args hl
      obtain ⟨u, hu, h2⟩ := withV_some h1
      obtain ⟨u', hu', h3⟩ := withV_some h2
      have hu1 : F.ev x = some u := hu
      have hu2 : F.ev y = some u' := hu'
      obtain ⟨v, hv, h4⟩ := PureS_some' h3
      obtain ⟨k, a, j, b, rfl, rfl, rfl⟩ := minV_some hv
      refine ⟨_, fun w => ?_, h4⟩
      simp only [execOp, resolve, List.map_toArray, List.map_cons, List.map_nil, hρ x _ hu1, hρ y _ hu2, invoke, builtin, Builtin.min_, List.foldlM_cons, List.foldlM_nil, Builtin.min2, Sem.run_bind, Sem.run_pure, Result.andThen_ok]
    · exact h.elim
end
end SG
