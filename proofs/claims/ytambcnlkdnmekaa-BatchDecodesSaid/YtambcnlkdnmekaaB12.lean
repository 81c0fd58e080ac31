/- Batches: bytes read back: the plain law. No walk stands here. -/
import Derived.Test.YtambcnlkdnmekaaB7
namespace Go.Proofs.Ytambcnlkdnmekaa
open Go SG Go.RowKit Go.Lib
set_option linter.unusedVariables false
set_option maxRecDepth 4000
set_option linter.unusedSimpArgs false

def rvGo : List UInt8 → Nat → Nat → Int × Nat × Nat
  | [], _, _ => (4, 0, 0)
  | c :: r, i, n =>
    if (i = 9 ∧ 1 < c.toNat) ∨ (0 < i ∧ c.toNat = 0) then (3, 0, 0)
    else if c.toNat < 128 then (0, n + c.toNat % 128 * 128 ^ i, i + 1)
    else rvGo r (i + 1) (n + c.toNat % 128 * 128 ^ i)
def rv (l : List UInt8) : Int × Nat × Nat := rvGo l 0 0
theorem p9 : (128 : Nat) ^ 9 = 9223372036854775808 := by decide
theorem ofNat_toNat8 {n : Nat} (h : n < 256) : (UInt8.ofNat n).toNat = n := by simp [Nat.mod_eq_of_lt h]
theorem rvGo_varint : ∀ (m : Nat) (r : List UInt8) (i n : Nat), i ≤ 9 → m * 128 ^ i < 18446744073709551616 → (0 < i → m ≠ 0) → rvGo (varint m ++ r) i n = (0, n + m * 128 ^ i, i + (varint m).length) := by
  intro m
  induction m using Nat.strongRecOn with
  | _ m ih =>
    intro r i n hi hm h0
    have h9 : i = 9 → m < 2 := fun h => by subst h; rw [p9] at hm; omega
    by_cases h : m < 128
    · rw [varint_small h]
      show rvGo (UInt8.ofNat m :: r) i n = _
      unfold rvGo
      rw [ofNat_toNat8 (by omega), if_neg (by omega), if_pos h, Nat.mod_eq_of_lt h]
      rfl
    · rw [varint_big (by omega)]
      show rvGo (UInt8.ofNat (m % 128 + 128) :: (varint (m / 128) ++ r)) i n = _
      unfold rvGo
      rw [ofNat_toNat8 (by omega), if_neg (by omega), if_neg (by omega), show (m % 128 + 128) % 128 = m % 128 by omega]
      have hp : (128 : Nat) ^ (i + 1) = 128 ^ i * 128 := Nat.pow_succ ..
      have hle : m / 128 * 128 ^ (i + 1) ≤ m * 128 ^ i := by
        rw [hp, show m / 128 * (128 ^ i * 128) = (m / 128 * 128) * 128 ^ i by rw [Nat.mul_comm (128 ^ i) 128, Nat.mul_assoc]]
        exact Nat.mul_le_mul_right _ (Nat.div_mul_le_self m 128)
      rw [ih (m / 128) (by omega) r (i + 1) _ (by have : i ≠ 9 := fun h' => by have := h9 h'; omega
                                                  omega) (by omega) (by omega)]
      have e : n + m % 128 * 128 ^ i + m / 128 * 128 ^ (i + 1) = n + m * 128 ^ i := by
        rw [hp, show m / 128 * (128 ^ i * 128) = (m / 128 * 128) * 128 ^ i by rw [Nat.mul_comm (128 ^ i) 128, Nat.mul_assoc], Nat.add_assoc, ← Nat.add_mul]
        congr 2
        omega
      rw [e, List.length_cons]
      congr 2
      omega
theorem ofNat_c (c : UInt8) : UInt8.ofNat c.toNat = c := by simp
theorem rvGo_ok : ∀ (l : List UInt8) (i n v k : Nat), i ≤ 9 → rvGo l i n = (0, v, k) → ∃ m r, l = varint m ++ r ∧ v = n + m * 128 ^ i ∧ k = i + (varint m).length ∧ m * 128 ^ i < 18446744073709551616 ∧ (0 < i → m ≠ 0)
  | [], i, n, v, k, _, h => by simp [rvGo] at h
  | c :: r, i, n, v, k, hi, h => by
    unfold rvGo at h
    have hc := c.toNat_lt
    split at h
    · simp at h
    · rename_i hb
      split at h
      · rename_i hlt
        simp only [Prod.mk.injEq, true_and] at h
        refine ⟨c.toNat, r, by rw [varint_small hlt, ofNat_c]; rfl, by rw [← h.1, Nat.mod_eq_of_lt hlt], by rw [varint_small hlt, ← h.2, List.length_singleton], ?_, by omega⟩
        by_cases h9 : i = 9
        · subst h9; rw [p9]; omega
        · have h1 : (128 : Nat) ^ i ≤ 128 ^ 8 := Nat.pow_le_pow_right (by decide) (by omega)
          have h8 : (128 : Nat) ^ 8 = 72057594037927936 := by decide
          have h2 : c.toNat * 128 ^ i ≤ 127 * 128 ^ 8 := Nat.mul_le_mul (by omega) h1
          omega
      · rename_i hge
        have hi9 : i ≠ 9 := by omega
        obtain ⟨m, r', hr, hv, hk, hm, hm0⟩ := rvGo_ok r (i + 1) _ v k (by omega) h
        have hm0' := hm0 (by omega)
        have hbig : 128 ≤ c.toNat % 128 + 128 * m := by omega
        have e1 : (c.toNat % 128 + 128 * m) % 128 = c.toNat % 128 := by omega
        have e2 : (c.toNat % 128 + 128 * m) / 128 = m := by omega
        have hp : (128 : Nat) ^ (i + 1) = 128 ^ i * 128 := Nat.pow_succ ..
        have emul : (c.toNat % 128 + 128 * m) * 128 ^ i = c.toNat % 128 * 128 ^ i + m * 128 ^ (i + 1) := by
          rw [Nat.add_mul, hp]; congr 1; rw [Nat.mul_comm 128 m, Nat.mul_assoc, Nat.mul_comm 128]
        refine ⟨c.toNat % 128 + 128 * m, r', ?_, ?_, ?_, ?_, fun _ => by omega⟩
        · rw [varint_big hbig, e1, e2, show c.toNat % 128 + 128 = c.toNat by omega, ofNat_c, hr]; rfl
        · rw [hv, emul]; omega
        · rw [varint_big hbig, e2, hk, List.length_cons]; omega
        · rw [emul]
          have hmod : c.toNat % 128 < 128 := Nat.mod_lt _ (by decide)
          have hcase : i = 0 ∨ i = 1 ∨ i = 2 ∨ i = 3 ∨ i = 4 ∨ i = 5 ∨ i = 6 ∨ i = 7 ∨ i = 8 := by omega
          obtain ⟨T, hT⟩ : ∃ T : Nat, T * 128 ^ (i + 1) = 18446744073709551616 := by
            rcases hcase with rfl | rfl | rfl | rfl | rfl | rfl | rfl | rfl | rfl
            · exact ⟨2 ^ 57, by decide⟩
            · exact ⟨2 ^ 50, by decide⟩
            · exact ⟨2 ^ 43, by decide⟩
            · exact ⟨2 ^ 36, by decide⟩
            · exact ⟨2 ^ 29, by decide⟩
            · exact ⟨2 ^ 22, by decide⟩
            · exact ⟨2 ^ 15, by decide⟩
            · exact ⟨2 ^ 8, by decide⟩
            · exact ⟨2, by decide⟩
          have hq : 0 < 128 ^ i := Nat.pow_pos (by decide)
          rw [← hT] at hm ⊢
          have h1 : m < T := Nat.lt_of_mul_lt_mul_right hm
          have h2 : (m + 1) * 128 ^ (i + 1) ≤ T * 128 ^ (i + 1) := Nat.mul_le_mul_right _ h1
          have h3 : c.toNat % 128 * 128 ^ i < 128 * 128 ^ i := Nat.mul_lt_mul_of_pos_right hmod hq
          have h4 : 128 * 128 ^ i = 128 ^ (i + 1) := by rw [hp, Nat.mul_comm]
          rw [Nat.add_mul, Nat.one_mul] at h2
          omega
theorem rv_varint {m : Nat} (h : m < 18446744073709551616) (r : List UInt8) : rv (varint m ++ r) = (0, m, (varint m).length) := by
  unfold rv
  rw [rvGo_varint m r 0 0 (by omega) (by simpa using h) (by omega)]
  simp
theorem rv_ok {l : List UInt8} {v k : Nat} (h : rv l = (0, v, k)) : ∃ r, l = varint v ++ r ∧ k = (varint v).length ∧ v < 18446744073709551616 := by
  obtain ⟨m, r, hl, hv, hk, hm, _⟩ := rvGo_ok l 0 0 v k (by omega) h
  have : v = m := by simpa using hv
  subst this
  exact ⟨r, hl, by simpa using hk, by simpa using hm⟩
theorem rvGo_err : ∀ (l : List UInt8) (i n : Nat), (rvGo l i n).1 = 0 ∨ (((rvGo l i n).1 = 3 ∨ (rvGo l i n).1 = 4) ∧ (rvGo l i n).2 = (0, 0))
  | [], i, n => by simp [rvGo]
  | c :: r, i, n => by
    unfold rvGo
    split
    · simp
    · split
      · simp
      · exact rvGo_err r _ _

/-! ### a reader -/
def rdV (most : Nat) (l : List UInt8) : Except Int (Nat × List UInt8) :=
  if (rv l).1 ≠ 0 then .error (rv l).1 else if most < (rv l).2.1 then .error 3 else .ok ((rv l).2.1, l.drop (rv l).2.2)
def rdT (most : Nat) (l : List UInt8) : Except Int (List UInt8 × List UInt8) :=
  match rdV most l with
  | .error e => .error e
  | .ok (n, r) => if r.length < n then .error 4 else .ok (r.take n, r.drop n)
def bA (l : List UInt8) : ByteArray := ⟨l.toArray⟩
def mostV (c : Nat) : Nat := if c = 1 then 16384 else 1024
def rdR (l : List UInt8) : Except Int (Rec × List UInt8) :=
  match l with
  | [] => .error 4
  | c :: l1 =>
    if 2 < c.toNat then .error 3 else
    match rdV 4294967295 l1 with
    | .error e => .error e
    | .ok (f, l2) => match rdT 1024 l2 with
      | .error e => .error e
      | .ok (k, l3) =>
        if c.toNat = 0 then .ok (⟨f, 0, bA k, ⟨#[]⟩⟩, l3) else
        match rdT (mostV c.toNat) l3 with
        | .error e => .error e
        | .ok (v, l4) => .ok (⟨f, (c.toNat : Int), bA k, bA v⟩, l4)
def rdRs : Nat → List UInt8 → Except Int (List Rec × List UInt8)
  | 0, l => .ok ([], l)
  | n + 1, l => match rdR l with
    | .error e => .error e
    | .ok (r, l1) => match rdRs n l1 with
      | .error e => .error e
      | .ok (rs, l2) => .ok (r :: rs, l2)
def leN (l : List UInt8) : Nat := l.foldr (fun c n => c.toNat + 256 * n) 0
def dec (b : List UInt8) : Nat × List Rec × Int :=
  if 4194304 < b.length then (0, [], 2) else
  if b.length < 8 then (0, [], 4) else
  if 72057594037927935 < leN (b.take 8) then (0, [], 3) else
  if b.length < 12 then (0, [], 4) else
  if 4096 < leN ((b.drop 8).take 4) ∨ fitsB (leN (b.take 8)) (leN ((b.drop 8).take 4)) = false then (0, [], 3) else
  match rdRs (leN ((b.drop 8).take 4)) (b.drop 12) with
  | .error e => (0, [], e)
  | .ok (rs, r) => if 0 < r.length then (0, [], 5) else (leN (b.take 8), rs, 0)

theorem rdV_enc {m most : Nat} (h : m < 18446744073709551616) (hm : m ≤ most) (r : List UInt8) : rdV most (varint m ++ r) = .ok (m, r) := by
  unfold rdV
  rw [rv_varint h]
  simp only [ne_eq, not_true, if_false]
  rw [if_neg (by omega), List.drop_left]
theorem rdV_ok {most n : Nat} {l r : List UInt8} (h : rdV most l = .ok (n, r)) : l = varint n ++ r ∧ n ≤ most ∧ n < 18446744073709551616 := by
  unfold rdV at h
  obtain ⟨e, v, k, he⟩ : ∃ e v k, rv l = (e, v, k) := ⟨_, _, _, rfl⟩
  rw [he] at h
  simp only at h
  split at h
  · cases h
  · rename_i h0
    have h0' : e = 0 := by simpa using h0
    subst h0'
    split at h
    · cases h
    · simp only [Except.ok.injEq, Prod.mk.injEq] at h
      obtain ⟨rfl, rfl⟩ := h
      obtain ⟨r', hl, hk, hv⟩ := rv_ok he
      refine ⟨?_, by omega, hv⟩
      rw [hk]
      conv => rhs; rw [hl, List.drop_left]
      exact hl
theorem rdT_enc {s : List UInt8} {most : Nat} (h : s.length < 18446744073709551616) (hm : s.length ≤ most) (r : List UInt8) : rdT most (varint s.length ++ s ++ r) = .ok (s, r) := by
  unfold rdT
  rw [List.append_assoc, rdV_enc h hm]
  simp
theorem rdT_ok {most : Nat} {l s r : List UInt8} (h : rdT most l = .ok (s, r)) : l = varint s.length ++ s ++ r ∧ s.length ≤ most := by
  unfold rdT at h
  split at h
  · cases h
  · rename_i n r' heq
    obtain ⟨h1, h2, h3⟩ := rdV_ok heq
    split at h
    · cases h
    · simp only [Except.ok.injEq, Prod.mk.injEq] at h
      obtain ⟨rfl, rfl⟩ := h
      have : (r'.take n).length = n := by rw [List.length_take]; omega
      rw [this, List.append_assoc, List.take_append_drop]
      exact ⟨h1, h2⟩
theorem bA_data (s : ByteArray) : bA s.data.toList = s := by
  obtain ⟨a⟩ := s
  simp [bA]
theorem bA_size (l : List UInt8) : (bA l).size = l.length := by simp [bA, ByteArray.size]
theorem bA_list (l : List UInt8) : (bA l).data.toList = l := by simp [bA]
theorem rdR_enc {r : Rec} (hr : r.Ok) (hc : chk r = 0) (l : List UInt8) : rdR (encRec r ++ l) = .ok (plain r, l) := by
  obtain ⟨hkind, hkey, hval⟩ := chk_ok hc
  have hf := hr.fam
  have hv2 : r.kind = 2 → r.val.size ≤ 1024 := fun h => by
    unfold chk at hc
    rw [if_neg (by omega), if_neg (by omega), if_pos h] at hc
    split at hc
    · cases hc
    · omega
  have hsz := size_data r.key
  have hsv := size_data r.val
  obtain ⟨kd, hkd⟩ : ∃ kd : Nat, r.kind = kd ∧ kd ≤ 2 := ⟨r.kind.toNat, by omega, by omega⟩
  have hcn : (UInt8.ofNat r.kind.toNat).toNat = kd := by rw [hkd.1, Int.toNat_natCast, ofNat_toNat8 (by omega)]
  have e : encRec r ++ l = UInt8.ofNat r.kind.toNat :: (varint r.fam ++ (varint r.key.data.toList.length ++ r.key.data.toList ++ ((if r.kind = 0 then [] else varint r.val.size ++ r.val.data.toList) ++ l))) := by
    unfold encRec
    rw [hsz]
    split <;> simp
  rw [e]
  unfold rdR
  simp only [hcn]
  rw [if_neg (by omega), rdV_enc (by omega) (by omega)]
  simp only
  rw [rdT_enc (by omega) (by omega)]
  simp only
  by_cases h0 : r.kind = 0
  · have : kd = 0 := by omega
    rw [if_pos this, if_pos h0, bA_data, List.nil_append]
    unfold plain
    rw [if_pos h0]
    obtain ⟨f, k, a, b⟩ := r
    simp only at h0
    subst h0
    rfl
  · rw [if_neg (by omega), if_neg h0, ← hsv, rdT_enc (by have := hval h0; omega) (by unfold mostV; split <;> rw [hsv]
                                                                                     · exact hval h0
                                                                                     · exact hv2 (by omega))]
    simp only
    rw [bA_data, bA_data, ← hkd.1]
    unfold plain
    rw [if_neg h0]
theorem rdR_ok {l l' : List UInt8} {r : Rec} (h : rdR l = .ok (r, l')) : l = encRec r ++ l' ∧ chk r = 0 ∧ r.Ok ∧ plain r = r := by
  unfold rdR at h
  split at h
  · cases h
  · rename_i c l1
    split at h
    · cases h
    · rename_i hc2
      split at h
      · cases h
      · rename_i f l2 hfam
        obtain ⟨e1, hf, _⟩ := rdV_ok hfam
        split at h
        · cases h
        · rename_i k l3 hkey
          obtain ⟨e2, hk⟩ := rdT_ok hkey
          split at h
          · rename_i h0
            simp only [Except.ok.injEq, Prod.mk.injEq] at h
            obtain ⟨rfl, rfl⟩ := h
            have hc0 : c = UInt8.ofNat 0 := by rw [← h0, ofNat_c]
            refine ⟨?_, ?_, ⟨by simp only; omega, by simp only [bA_size]; omega, by simp [ByteArray.size]⟩, by simp [plain]⟩
            · subst hc0
              rw [e1, e2]
              simp [encRec, bA_size, bA_list]
            · unfold chk
              simp only [if_true, bA_size]
              rw [if_neg (by omega)]
          · rename_i h0
            split at h
            · cases h
            · rename_i v l4 hvv
              obtain ⟨e3, hv⟩ := rdT_ok hvv
              simp only [Except.ok.injEq, Prod.mk.injEq] at h
              obtain ⟨rfl, rfl⟩ := h
              have hm : mostV c.toNat ≤ 16384 := by unfold mostV; split <;> omega
              refine ⟨?_, ?_, ⟨by simp only; omega, by simp only [bA_size]; omega, by simp only [bA_size]; omega⟩, by unfold plain; rw [if_neg (by simp only; omega)]⟩
              · rw [e1, e2, e3]
                unfold encRec
                rw [if_neg (by simp only; omega)]
                simp [bA_size, bA_list, ofNat_c]
              · unfold chk
                simp only [bA_size]
                rw [if_neg (by omega)]
                unfold mostV at hv
                by_cases h1 : c.toNat = 1
                · rw [if_pos h1] at hv
                  rw [if_pos (by omega), if_neg (by omega)]
                · rw [if_neg h1] at hv
                  rw [if_neg (by omega), if_pos (by omega), if_neg (by omega)]
theorem rdRs_enc : ∀ {rs : List Rec} (h : Good rs) (l : List UInt8), rdRs rs.length (encBody rs ++ l) = .ok (rs.map plain, l)
  | [], _, l => rfl
  | r :: rs, h, l => by
    have h1 := h r (by simp)
    have e : encBody (r :: rs) ++ l = encRec r ++ (encBody rs ++ l) := by simp [encBody]
    rw [e]
    show rdRs (rs.length + 1) _ = _
    unfold rdRs
    rw [rdR_enc h1.1 h1.2]
    simp only
    rw [rdRs_enc (fun r hr => h r (by simp [hr])) l]
    rfl
theorem rdRs_ok : ∀ (n : Nat) (l l' : List UInt8) (rs : List Rec), rdRs n l = .ok (rs, l') → l = encBody rs ++ l' ∧ rs.length = n ∧ Good rs ∧ ∀ r ∈ rs, plain r = r
  | 0, l, l', rs, h => by
    simp only [rdRs, Except.ok.injEq, Prod.mk.injEq] at h
    obtain ⟨rfl, rfl⟩ := h
    exact ⟨rfl, rfl, by simp [Good], by simp⟩
  | n + 1, l, l', rs, h => by
    unfold rdRs at h
    split at h
    · cases h
    · rename_i r l1 hr
      split at h
      · cases h
      · rename_i rs' l2 hrs
        simp only [Except.ok.injEq, Prod.mk.injEq] at h
        obtain ⟨rfl, rfl⟩ := h
        obtain ⟨e1, hc, ho, hp⟩ := rdR_ok hr
        obtain ⟨e2, hl, hg, hpl⟩ := rdRs_ok n l1 l2 rs' hrs
        refine ⟨by rw [e1, e2]; simp [encBody], by simp [hl], fun r' hr' => ?_, fun r' hr' => ?_⟩
        · rcases List.mem_cons.1 hr' with rfl | h
          · exact ⟨ho, hc⟩
          · exact hg r' h
        · rcases List.mem_cons.1 hr' with rfl | h
          · exact hp
          · exact hpl r' h

theorem rdV_err {most : Nat} {l : List UInt8} {e : Int} (h : rdV most l = .error e) : e = 3 ∨ e = 4 := by
  unfold rdV at h
  have := rvGo_err l 0 0
  split at h
  · rename_i h0
    simp only [Except.error.injEq] at h
    have h1 := this.resolve_left h0
    unfold rv at h
    omega
  · split at h
    · simp only [Except.error.injEq] at h; omega
    · cases h
theorem rdT_err {most : Nat} {l : List UInt8} {e : Int} (h : rdT most l = .error e) : e = 3 ∨ e = 4 := by
  unfold rdT at h
  split at h
  · rename_i e' he
    simp only [Except.error.injEq] at h
    subst h
    exact rdV_err he
  · split at h
    · simp only [Except.error.injEq] at h; omega
    · cases h
theorem rdR_err {l : List UInt8} {e : Int} (h : rdR l = .error e) : e = 3 ∨ e = 4 := by
  unfold rdR at h
  split at h
  · simp only [Except.error.injEq] at h; omega
  · split at h
    · simp only [Except.error.injEq] at h; omega
    · split at h
      · rename_i e' he
        simp only [Except.error.injEq] at h
        subst h; exact rdV_err he
      · split at h
        · rename_i e' he
          simp only [Except.error.injEq] at h
          subst h; exact rdT_err he
        · split at h
          · cases h
          · split at h
            · rename_i e' he
              simp only [Except.error.injEq] at h
              subst h; exact rdT_err he
            · cases h
theorem rdRs_err : ∀ {n : Nat} {l : List UInt8} {e : Int}, rdRs n l = .error e → e = 3 ∨ e = 4
  | 0, l, e, h => by cases h
  | n + 1, l, e, h => by
    unfold rdRs at h
    split at h
    · rename_i e' he
      simp only [Except.error.injEq] at h
      subst h; exact rdR_err he
    · split at h
      · rename_i e' he
        simp only [Except.error.injEq] at h
        subst h; exact rdRs_err he
      · cases h
theorem rdV_le {most n : Nat} {l r : List UInt8} (h : rdV most l = .ok (n, r)) : r.length ≤ l.length := by
  rw [(rdV_ok h).1]; simp
theorem rdT_le {most : Nat} {l s r : List UInt8} (h : rdT most l = .ok (s, r)) : r.length ≤ l.length := by
  rw [(rdT_ok h).1]; simp; omega

/-! ### fixed numbers -/
theorem fixedL_succ (n size : Nat) : fixedL n (size + 1) = UInt8.ofNat n :: fixedL (n / 256) size := by
  unfold fixedL
  rw [List.range_succ_eq_map]
  simp only [List.map_cons, Nat.pow_zero, Nat.div_one, List.map_map, List.cons.injEq, true_and]
  apply List.map_congr_left
  intro i _
  simp only [Function.comp]
  rw [Nat.pow_succ, Nat.mul_comm, Nat.div_div_eq_div_mul]
theorem leN_fixed : ∀ (size n : Nat), n < 256 ^ size → leN (fixedL n size) = n
  | 0, n, h => by
    have : n = 0 := by simpa using h
    subst this; rfl
  | size + 1, n, h => by
    rw [fixedL_succ]
    show (UInt8.ofNat n).toNat + 256 * leN (fixedL (n / 256) size) = n
    rw [leN_fixed size (n / 256) (by rw [Nat.div_lt_iff_lt_mul (by omega)]; rw [Nat.pow_succ] at h; exact h)]
    have : (UInt8.ofNat n).toNat = n % 256 := by simp
    rw [this]; omega
theorem fixed_leN : ∀ (l : List UInt8), fixedL (leN l) l.length = l
  | [] => rfl
  | c :: l => by
    have hc := c.toNat_lt
    show fixedL (c.toNat + 256 * leN l) (l.length + 1) = c :: l
    rw [fixedL_succ, show (c.toNat + 256 * leN l) / 256 = leN l by omega, fixed_leN l]
    congr 1
    have : UInt8.ofNat (c.toNat + 256 * leN l) = UInt8.ofNat c.toNat := by
      apply UInt8.toNat_inj.1
      simp
    rw [this, ofNat_c]
theorem leN_lt : ∀ (l : List UInt8), leN l < 256 ^ l.length
  | [] => by decide
  | c :: l => by
    have hc := c.toNat_lt
    have := leN_lt l
    show c.toNat + 256 * leN l < 256 ^ (l.length + 1)
    rw [Nat.pow_succ]
    omega

/-! ### Encode and Decode -/
theorem fitsB_seq {seq n : Nat} (h : fitsB seq n = true) : seq ≤ 72057594037927935 := by
  unfold fitsB at h
  simp only [Bool.and_eq_true, decide_eq_true_eq] at h
  exact h.1
theorem encErr_zero {seq : Nat} {rs : List Rec} (h : encErr seq rs = 0) : fitsB seq rs.length = true ∧ rs.length ≤ 4096 ∧ firstErr rs = 0 ∧ Sizes rs ≤ 4194304 := by
  unfold encErr at h
  split at h
  · cases h
  · rename_i h1
    split at h
    · cases h
    · split at h
      · rename_i h2; exact absurd h h2
      · rename_i h3
        split at h
        · cases h
        · exact ⟨by simpa using h1, by omega, by simpa using h3, by omega⟩
theorem encAll_len (seq : Nat) (rs : List Rec) : ((encAll seq rs).length : Int) = Sizes rs := by
  have := encBody_len rs
  simp only [encAll, List.length_append, encHead_len, Sizes]
  omega
theorem encAll_take (seq : Nat) (rs : List Rec) : (encAll seq rs).take 8 = fixedL seq 8 ∧ ((encAll seq rs).drop 8).take 4 = fixedL rs.length 4 ∧ (encAll seq rs).drop 12 = encBody rs := by
  have h8 := fixedL_len seq 8
  have h4 := fixedL_len rs.length 4
  have hh := encHead_len seq rs.length
  unfold encAll
  refine ⟨?_, ?_, ?_⟩
  · unfold encHead
    rw [List.append_assoc]
    exact List.take_left' h8
  · unfold encHead
    rw [List.append_assoc]
    have : (fixedL seq 8 ++ (fixedL rs.length 4 ++ encBody rs)).drop 8 = fixedL rs.length 4 ++ encBody rs := List.drop_left' h8
    rw [this]
    exact List.take_left' h4
  · exact List.drop_left' hh
theorem dec_enc {seq : Nat} {rs : List Rec} (hrs : AllOk rs) (h : encErr seq rs = 0) : dec (encAll seq rs) = (seq, rs.map plain, 0) := by
  obtain ⟨h1, h2, h3, h4⟩ := encErr_zero h
  have hg : Good rs := fun r hr => ⟨hrs r hr, firstErr_zero rs h3 r hr⟩
  have hl := encAll_len seq rs
  have hsq := fitsB_seq h1
  have hs0 := sumEnc_nonneg rs
  obtain ⟨t1, t2, t3⟩ := encAll_take seq rs
  unfold dec
  unfold Sizes at hl h4
  rw [t1, t2, t3, leN_fixed 8 seq (by simp only [Nat.reducePow]; omega), leN_fixed 4 rs.length (by simp only [Nat.reducePow]; omega)]
  rw [if_neg (by omega), if_neg (by omega), if_neg (by omega), if_neg (by omega), if_neg (by rw [h1]; simp; omega)]
  have := rdRs_enc hg []
  rw [List.append_nil] at this
  rw [this]
  simp
theorem dec_ok {b : List UInt8} {n : Nat} {rs : List Rec} (h : dec b = (n, rs, 0)) : (encErr n rs = 0 ∧ encAll n rs = b ∧ AllOk rs ∧ n < 18446744073709551616) := by
  unfold dec at h
  split at h
  · simp at h
  rename_i h1
  split at h
  · simp at h
  rename_i h2
  split at h
  · simp at h
  rename_i h3
  split at h
  · simp at h
  rename_i h4
  split at h
  · simp at h
  rename_i h5
  split at h
  · rename_i e he
    simp only [Prod.mk.injEq] at h
    have := rdRs_err he
    omega
  · rename_i rs' r hr
    split at h
    · simp at h
    · rename_i hr0
      simp only [Prod.mk.injEq, and_true] at h
      obtain ⟨rfl, rfl⟩ := h
      obtain ⟨e1, hl, hg, hp⟩ := rdRs_ok _ _ _ _ hr
      have hnil : r = [] := List.eq_nil_of_length_eq_zero (by omega)
      subst hnil
      rw [List.append_nil] at e1
      have h8 : (b.take 8).length = 8 := by rw [List.length_take]; omega
      have h4' : ((b.drop 8).take 4).length = 4 := by rw [List.length_take, List.length_drop]; omega
      have hb : encAll (leN (b.take 8)) rs' = b := by
        unfold encAll encHead
        rw [hl, ← e1]
        have f1 := fixed_leN (b.take 8)
        have f2 := fixed_leN ((b.drop 8).take 4)
        rw [h8] at f1
        rw [h4'] at f2
        rw [f1, f2, List.append_assoc, show b.drop 12 = (b.drop 8).drop 4 by rw [List.drop_drop], List.take_append_drop, List.take_append_drop]
      have hlen := encAll_len (leN (b.take 8)) rs'
      rw [hb] at hlen
      simp only [not_or] at h5
      refine ⟨?_, hb, fun r hr => (hg r hr).1, by omega⟩
      unfold encErr
      rw [hl, if_neg h5.2, if_neg (by omega), if_neg (by simp [firstErr_all _ fun r hr => (hg r hr).2]), if_neg (by omega)]
end Go.Proofs.Ytambcnlkdnmekaa
