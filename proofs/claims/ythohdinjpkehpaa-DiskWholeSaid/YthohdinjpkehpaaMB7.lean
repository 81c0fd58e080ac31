/- Proved here: Rows.DiskWholeSaid: for every input the law DiskWhole answers true and leaves its arguments as they were. -/
import Derived.Test.YthohdinjpkehpaaMB6
import Derived.Lib.SlBytesConst
import Derived.WalkKit
import Derived.ProofKit
import Derived.OpenShut
import Derived.ShutString
import Derived.ChangeOld
import Derived.Below
import Derived.SizedLaws
import Derived.Deep.Slices
import Derived.Deep.Fields
import Derived.ChangeSame
import Derived.Test.YthohdinjpkehpaaRows
/-! Disks: a crash goes through the files, in plain words. -/
namespace Go.Proofs.Ythohdinjpkehpaa
open Go SG Go.RowKit
set_option linter.unusedVariables false
set_option maxRecDepth 4000
set_option linter.unusedSimpArgs false

def fiOf (fs : List Fi) (i : Nat) : Fi := (fs[i]?).getD ⟨[], []⟩
def crashStep (l : List Int) (s : List Fi × Nat) (i : Nat) : List Fi × Nat := if 0 < (fiOf s.1 i).openI then (s.1.set i ((fiOf s.1 i).crash l s.2), s.2 + 1) else s
def crashFold (l : List Int) (fs : List Fi) (o : List Nat) : List Fi × Nat := (distinct o).foldl (crashStep l) (fs, 0)
theorem crashFold_app (l : List Int) (fs : List Fi) (o : List Nat) (i : Nat) : crashFold l fs (o ++ [i]) = if i ∈ o then crashFold l fs o else crashStep l (crashFold l fs o) i := by
  unfold crashFold
  rw [distinct_app]
  by_cases h : i ∈ o
  · rw [if_pos ((distinct_mem o i).2 h), if_pos h]
  · rw [if_neg (fun hh => h ((distinct_mem o i).1 hh)), if_neg h, List.foldl_append]; rfl
theorem crashStep_len (l : List Int) (s : List Fi × Nat) (i : Nat) : (crashStep l s i).1.length = s.1.length ∧ (crashStep l s i).2 ≤ s.2 + 1 := by
  unfold crashStep
  split
  · exact ⟨by simp, by simp⟩
  · exact ⟨rfl, by simp⟩
theorem crash_ok {B : Nat} {f : Fi} (h : FiOk B f) (l : List Int) (k : Nat) : FiOk B (f.crash l k) :=
  ⟨keptB_len f.ws f.fast _ h.1 (.inr h.2.1) h.2.2, trivial, fun p hp => by cases hp⟩
theorem crashStep_ok {B n : Nat} {l : List Int} {s : List Fi × Nat} (h : ∀ f ∈ s.1, FiOk B f ∧ f.ws.length ≤ n) (i : Nat) : ∀ f ∈ (crashStep l s i).1, FiOk B f ∧ f.ws.length ≤ n := by
  unfold crashStep
  split
  · rename_i ho
    intro f hf
    rcases List.mem_or_eq_of_mem_set hf with hf | rfl
    · exact h f hf
    · cases hi : s.1[i]? with
      | none =>
        have : fiOf s.1 i = ⟨[], []⟩ := by unfold fiOf; rw [hi]; rfl
        rw [this]
        exact ⟨⟨Nat.zero_le _, trivial, fun p hp => by cases hp⟩, Nat.zero_le _⟩
      | some f =>
        have : fiOf s.1 i = f := by unfold fiOf; rw [hi]; rfl
        rw [this]
        exact ⟨crash_ok (h f (List.mem_of_getElem? hi)).1 l _, Nat.zero_le _⟩
  · exact h
def Dk.crashD (st : Dk) (cl : List Int) : Dk := { st with dirs := crashDirs st.dirs cl 0 }
def Dk.crash (st : Dk) (kl cl : List Int) : Dk :=
  ⟨st.quota, crashDirs st.dirs cl 0, (crashFold kl st.files ((items (crashDirs st.dirs cl 0)).map (·.2))).1, ⟨0, 0, 0⟩, ⟨0, 0, 0⟩⟩
theorem crashDirs_mem {l : List Int} : ∀ {a : List Di} {k : Nat} {E : Di}, E ∈ crashDirs a l k → ∃ D ∈ a, E.name = D.name ∧ (E = D ∨ E.was = [] ∧ (E.now = D.now ∨ E.now ∈ D.was))
  | [], _, E, h => by cases h
  | D :: a, k, E, h => by
    rw [crashDirs] at h
    split at h
    · rcases List.mem_cons.1 h with rfl | h
      · exact ⟨E, by simp, rfl, .inl rfl⟩
      · obtain ⟨D', h1, h2⟩ := crashDirs_mem h
        exact ⟨D', List.mem_cons_of_mem _ h1, h2⟩
    · rcases List.mem_cons.1 h with rfl | h
      · refine ⟨D, by simp, rfl, .inr ⟨rfl, ?_⟩⟩
        show (D.was[stayN D l k]?).getD D.now = D.now ∨ (D.was[stayN D l k]?).getD D.now ∈ D.was
        cases hw : D.was[stayN D l k]? with
        | none => exact .inl rfl
        | some y => exact .inr (List.mem_of_getElem? hw)
      · obtain ⟨D', h1, h2⟩ := crashDirs_mem h
        exact ⟨D', List.mem_cons_of_mem _ h1, h2⟩
theorem Wf.crashD {B n : Nat} {st : Dk} (h : Wf B n st) (cl : List Int) : Wf B n (st.crashD cl) where
  ordD := by
    have h1 := h.ordD
    unfold OrdD at h1 ⊢
    have h2 : ((crashDirs st.dirs cl 0).map (·.name)).Pairwise fun x y => ltE x y = true := by rw [crashDirs_names, List.pairwise_map]; exact h1
    rw [List.pairwise_map] at h2
    exact h2
  dlen := by show (crashDirs st.dirs cl 0).length ≤ 64; rw [crashDirs_len]; exact h.dlen
  dnm := fun E hE => by
    obtain ⟨D, h1, h2, _⟩ := crashDirs_mem hE
    rw [h2]; exact h.dnm D h1
  now_ := fun E hE => by
    obtain ⟨D, h1, h2, h3⟩ := crashDirs_mem hE
    rcases h3 with rfl | ⟨_, h3 | h3⟩
    · exact h.now_ E h1
    · rw [h3]; exact h.now_ D h1
    · exact h.was_ D h1 _ h3
  was_ := fun E hE y hy => by
    obtain ⟨D, h1, h2, h3⟩ := crashDirs_mem hE
    rcases h3 with rfl | ⟨h4, _⟩
    · exact h.was_ E h1 y hy
    · rw [h4] at hy; cases hy
  wlen := fun E hE => by
    obtain ⟨D, h1, h2, h3⟩ := crashDirs_mem hE
    rcases h3 with rfl | ⟨h4, _⟩
    · exact h.wlen E h1
    · rw [h4]; exact Nat.zero_le _
  fil := h.fil
  flen := h.flen
  fail := h.fail
  stop := h.stop
  quo := h.quo
end Go.Proofs.Ythohdinjpkehpaa
/-! Disks: Crash. -/
namespace Go.Proofs.Ythohdinjpkehpaa
open Go SG Go.RowKit
set_option linter.unusedVariables false
set_option maxRecDepth 4000
set_option linter.unusedSimpArgs false

theorem buildScr0 (w : World) : (Instr.build 44 [].toArray).run Try.prog w = .ok (.agg #[.int .i64 0, .int .i64 0, .int .i64 0]) w := by kernel_rfl
def CrM (d : Nat) : Tag → Prop := fun t => t = .tmp ∨ ∃ i, t = .own d (.file i)
section
variable {T : Tags} {w : World} {d g : Nat} {st : Dk} {md : Nat} {dm : List (El × Nat)} {ad : Nat → Option Nat} {K : Value → World → Prop}
theorem Dx.setF' {M : Tag → Prop} {T' : Tags} {w' : World} (hx : Dx T d w g st md dm ad) {i gf : Nat} {f : Fi} (hg : ad i = some gf) (k : Gon M w T w' T') (hi : ¬ M .ice) (ho : ∀ c, c ≠ .file i → ¬ M (.own d c)) (hf : FilR T' d i w' gf f) : Dx T' d w' g (st.setF i f) md dm ad := by
  refine ⟨(k.same g hx.blk.lt).trans hx.tag, hx.blk.ext k.ext (by rw [hx.tag]; exact ho _ (by intro h; cases h)), (k.same md hx.body.mdR.lt).trans hx.body.mdT, hx.body.mdR.ext k.ext (by rw [hx.body.mdT]; exact ho _ (by intro h; cases h)), fun D hD => ?_, hx.body.none_, hx.body.len, fun j gj hj => ?_⟩
  · obtain ⟨gd, h1, h2⟩ := hx.body.some_ D hD
    exact ⟨gd, h1, h2.keep k hi (ho _ (by intro h; cases h))⟩
  · obtain ⟨f', h1, h2⟩ := hx.body.fil j gj hj
    by_cases hij : j = i
    · subst hij
      rw [hg] at hj
      cases hj
      refine ⟨f, ?_, hf⟩
      show (st.files.set j f)[j]? = some f
      rw [List.getElem?_set_self (List.getElem?_eq_some_iff.1 h1).1]
    · refine ⟨f', ?_, h2.keep k hi (ho _ (by intro h; injection h with h; exact hij h))⟩
      show (st.files.set i f)[j]? = some f'
      rw [List.getElem?_set_ne (fun h => hij h.symm)]; exact h1
set_option maxHeartbeats 2000000 in
/-- Crash, the files -/
theorem Dx.crashFiles (hx : Dx T d w g st md dm ad) {B n : Nat} (hW : Wf B n st) (hB : B ≤ 536870912) (hn : n ≤ 2199023255552) {kb lb nb : Nat} {v : Value} {l : List Int} {ft : TypeId}
    (hkb : Blk w kb ft [.func (.func 49) #[] #[ptrE lb, ptrE nb]]) (hlb : Blk w lb 23 [v]) (hnb : Blk w nb 3 [.int .i64 0]) (hs : ArgI T w v l) (hi : ∀ n ∈ l, I64 n) (hll : l.length ≤ 4611686018427387904) (hne : lb ≠ nb) (hkn : kb ≠ nb) (htk : T kb = .tmp) (htl : T lb = .tmp) (htn : T nb = .tmp)
    (hK : ∀ w' T', Dx T' d w' g { st with files := (crashFold l st.files ((items st.dirs).map (·.2))).1 } md dm ad → Gon (Ops d) w T w' T' → K (.tuple #[]) w') : CallS Try.prog 35 #[ptrE g, .func (.func 36) #[] #[ptrE kb]] K w := by
  let st' : List (El × Nat) → Dk := fun done => { st with files := (crashFold l st.files (done.map (·.2))).1 }
  refine hx.each hW (M := CrM d) (fun h => by rcases h with h | ⟨i, h⟩ <;> cases h) (fun h => by rcases h with h | ⟨i, h⟩ <;> cases h)
    (fun done w' T' => ∃ k' : Nat, Dx T' d w' g (st' done) md dm ad ∧ Blk w' kb ft [.func (.func 49) #[] #[ptrE lb, ptrE nb]] ∧ Blk w' lb 23 [v] ∧ Blk w' nb 3 [.int .i64 (k' : Int)] ∧ (l ≠ [] → k' = (crashFold l st.files (done.map (·.2))).2) ∧ k' ≤ done.length ∧ T' kb = .tmp ∧ T' lb = .tmp ∧ T' nb = .tmp ∧ ArgI T' w' v l ∧ ∀ f ∈ (st' done).files, FiOk B f ∧ f.ws.length ≤ n)
    ⟨0, hx, hkb, hlb, hnb, fun _ => rfl, Nat.zero_le _, htk, htl, htn, hs, hW.fil⟩ ?_ (fun done w1 T1 h => by obtain ⟨k', h, _⟩ := h; exact ⟨_, h, rfl⟩) ?_ ?_
  · rintro done w1 T1 w2 T2 ⟨k', a1, a2, a3, a4, a5, a6, a7, a8, a9, a10, a11⟩ k
    have hnt : ∀ {t : Tag}, t = .tmp → ¬ Free t := fun {t} h hh => by rw [h] at hh; cases hh
    exact ⟨k', a1.keep k (fun h => by cases h) (fun c h => by cases h), a2.ext k.ext (by rw [a7]; exact hnt rfl), a3.ext k.ext (by rw [a8]; exact hnt rfl), a4.ext k.ext (by rw [a9]; exact hnt rfl), a5, a6, (k.same _ a2.lt).trans a7, (k.same _ a3.lt).trans a8, (k.same _ a4.lt).trans a9, a10.keep k (fun h => by cases h) (fun h => by cases h), a11⟩
  · rintro done p i gf w1 T1 K' hpre hgf ⟨k', a1, a2, a3, a4, a5, a6, a7, a8, a9, a10, a11⟩ hK'
    have hlen : (done ++ [(p, i)]).length ≤ 65536 := Nat.le_trans hpre.length_le hW.items_le
    rw [List.length_append] at hlen
    simp only [List.length_cons, List.length_nil] at hlen
    obtain ⟨hfi, hF⟩ := a1.fi hgf
    obtain ⟨ho1, ho2⟩ := a11 _ (List.mem_of_getElem? hfi)
    have hfof : (st' done).fi i = fiOf (crashFold l st.files (done.map (·.2))).1 i := rfl
    have hteq : turnV l k' = turnV l (crashFold l st.files (done.map (·.2))).2 := by
      by_cases h : l = []
      · rw [h, turnV_nil, turnV_nil]
      · rw [a5 h]
    refine callF okCrash ?_
    rw [arr3_1]
    have hstep := crashFold_app l st.files (done.map (·.2)) i
    refine ccrash hF ho1 hB ho2 hn a2 a3 a4 a10.1 hi hll (by omega) (a10.2.imp id fun h2 b hb hh => by rcases (h2 b hb).2 with h | h <;> rw [hh, a9] at h <;> cases h) hne hkn a7 a8 a9 (fun w2 hz e2 => ?_) fun w2 T2 k2 hf1 hop hF2 b2 kb2 lb2 q1 q2 kk => ?_
    · refine hK' w2 T1 ⟨k', ?_, a2.no e2, a3.no e2, a4.no e2, fun h => ?_, by simp; omega, a7, a8, a9, a10.keep (M := Nil) (Gon.no e2) (fun h => h) fun h => h, ?_⟩ (Gon.no e2)
      all_goals
        have hsame : crashFold l st.files ((done ++ [(p, i)]).map (·.2)) = crashFold l st.files (done.map (·.2)) := by
          rw [List.map_append, List.map_cons, List.map_nil, hstep]
          by_cases hin : i ∈ done.map (·.2)
          · rw [if_pos hin]
          · rw [if_neg hin]
            have : ((st' done).fi i).openI ≤ 0 := hz.resolve_left (by simpa using hin)
            unfold crashStep
            rw [if_neg (by rw [← hfof]; omega)]
      · show Dx T1 d w2 g { st with files := (crashFold l st.files ((done ++ [(p, i)]).map (·.2))).1 } md dm ad
        rw [hsame]; exact a1.no e2
      · rw [hsame]; exact a5 h
      · show ∀ f ∈ (crashFold l st.files ((done ++ [(p, i)]).map (·.2))).1, _
        rw [hsame]; exact a11
    · have hin : ¬ i ∈ done.map (·.2) := by simpa using hf1
      have hnew : crashFold l st.files ((done ++ [(p, i)]).map (·.2)) = ((crashFold l st.files (done.map (·.2))).1.set i (((st' done).fi i).crash l k'), (crashFold l st.files (done.map (·.2))).2 + 1) := by
        rw [List.map_append, List.map_cons, List.map_nil, hstep, if_neg hin]
        unfold crashStep
        rw [if_pos (by rw [← hfof]; exact hop), ← hfof]
        have : ((st' done).fi i).crash l (crashFold l st.files (done.map (·.2))).2 = ((st' done).fi i).crash l k' := by
          unfold Fi.crash keepN; rw [hteq]
        rw [this]
      have hok := crashStep_ok (l := l) (s := crashFold l st.files (done.map (·.2))) a11 i
      have kM : Gon (CrM d) w1 T1 w2 T2 := kk.mono fun t h => h.elim .inl fun h => .inr ⟨i, h⟩
      have hx2 : Dx T2 d w2 g { st with files := (crashFold l st.files ((done ++ [(p, i)]).map (·.2))).1 } md dm ad := by
        rw [hnew]
        exact a1.setF' hgf kk (fun h => by rcases h with h | h <;> cases h) (fun c hc h => by rcases h with h | h; cases h; injection h with _ h; exact hc h) hF2
      refine hK' w2 T2 ⟨k2, hx2, kb2, lb2, b2, fun h => ?_, ?_, (kk.same _ a2.lt).trans a7, (kk.same _ a3.lt).trans a8, (kk.same _ a4.lt).trans a9, a10.keep kM (fun h => by rcases h with h | ⟨i, h⟩ <;> cases h) (fun h => by rcases h with h | ⟨i, h⟩ <;> cases h), ?_⟩ kM
      · rw [hnew, q1 h, a5 h]
      · have : k2 ≤ k' + 1 := by
          by_cases h : l = []
          · have := q2 h; omega
          · have := q1 h; omega
        simp; omega
      · show ∀ f ∈ (crashFold l st.files ((done ++ [(p, i)]).map (·.2))).1, _
        rw [List.map_append, List.map_cons, List.map_nil, hstep, if_neg hin]
        exact hok
  · rintro w3 T3 ⟨k', a1, _⟩ k
    exact hK w3 T3 a1 (k.mono fun t h => by
      rcases h with (h | ⟨i, h⟩) | h
      · exact .inl h
      · exact .inr (.inr ⟨_, h⟩)
      · exact .inr (.inl h))
end
end Go.Proofs.Ythohdinjpkehpaa
/-! Disks: Crash, all of it. -/
namespace Go.Proofs.Ythohdinjpkehpaa
open Go SG Go.RowKit
set_option linter.unusedVariables false
set_option maxRecDepth 4000
set_option linter.unusedSimpArgs false

section
variable {T : Tags} {w : World} {d g : Nat} {st : Dk} {md : Nat} {dm : List (El × Nat)} {ad : Nat → Option Nat} {K : Value → World → Prop}
set_option maxHeartbeats 4000000 in
/-- Crash -/
theorem Dx.Crash (hx : Dx T d w g st md dm ad) {B n : Nat} (hW : Wf B n st) (hB : B ≤ 536870912) (hn : n ≤ 2199023255552) {kv cv : Value} {kl cl : List Int} (hk : ArgI T w kv kl) (hc : ArgI T w cv cl) (hki : ∀ n ∈ kl, I64 n) (hci : ∀ n ∈ cl, I64 n) (hkl : kl.length ≤ 4611686018427387904) (hcl : cl.length ≤ 4611686018427387904)
    (hK : ∀ w' T', Dx T' d w' g (st.crash kl cl) md dm ad → Gon (Ops d) w T w' T' → K (.tuple #[]) w') : CallS Try.prog 14 #[ptrE g, kv, cv] K w := by
  have one : ∀ {v : Value} {l : List Int}, SlI w v l → v.cells = #[v] := fun {v l} h => by obtain ⟨a, c, rfl, _⟩ := h; rfl
  refine s14_call hm ?_
  unfold s14
  refine cturns (Sl.one hk.1) (one hk.1) fun w1 lb1 nb1 g1 g2 g3 b1 c1 e1 => cturns (Sl.one hc.1) (one hc.1) fun w2 lb2 nb2 g4 g5 g6 b2 c2 e2 => ?_
  refine box fun w3 b3 e3 z3 => storeB b3 (by simp [Value.cells]) rfl fun w4 b4 e4 z4 => ?_
  have b4' : Blk w4 w2.heap.size 40 [.func (.func 49) #[] #[ptrE lb1, ptrE nb1]] := b4
  have l1 := b1.lt
  have l2 := c1.lt
  have l3 := b2.lt
  have l4 := c2.lt
  have s1 := e1.size
  have s2 := e2.size
  have e24 : Ext No w2 w4 := e3.fresh e4 fun b hb => .inr (by rw [show b = w2.heap.size from hb]; exact Nat.le_refl _)
  have e04 := (e1.trans e2).trans e24
  let T4 := tmpf w T
  have k04 : Gon Nil w T w4 T4 := ⟨e04.no, fun b hb' => tmpf_lt hb'⟩
  have hx4 : Dx T4 d w4 g st md dm ad := hx.keep k04 (fun h => h) fun _ h => h
  have tt : ∀ {b : Nat}, w.heap.size ≤ b → T4 b = .tmp := fun h => tmpf_ge h
  have lb1' := (b1.no e2).no e24
  have nb1' := (c1.no e2).no e24
  have lb2' := b2.no e24
  have nb2' := c2.no e24
  have hk4 : ArgI T4 w4 kv kl := hk.keep k04 (fun h => h) fun h => h
  have hc4 : ArgI T4 w4 cv cl := hc.keep k04 (fun h => h) fun h => h
  -- behind the directories
  refine join0 (fun w' => ∃ T', Dx T' d w' g (st.crashD cl) md dm ad ∧ Gon (Ops d) w T w' T' ∧ Blk w' w2.heap.size 40 [.func (.func 49) #[] #[ptrE lb1, ptrE nb1]] ∧ Blk w' lb1 23 [kv] ∧ Blk w' nb1 3 [.int .i64 0] ∧ T' w2.heap.size = .tmp ∧ T' lb1 = .tmp ∧ T' nb1 = .tmp ∧ ArgI T' w' kv kl) ?_ fun J0 hJ0 => ?_
  · rintro w5 ⟨T5, hx5, k5, kb5, lb5, nb5, t1, t2, t3, ha5⟩
    refine hx5.crashFiles (hW.crashD cl) hB hn kb5 lb5 nb5 ha5 hki hkl g3 (by omega) t1 t2 t3 fun w6 T6 hx6 k6 => ?_
    refine runS (buildScr0 w6) (runS (buildScr0 w6) (pur (nil_ptr _) (pur (field_ptr _ _ _) ?_)))
    refine storeA (vs := [.int .i64 0, .int .i64 0, .int .i64 0]) hx6.blk rfl (by simp [hdrC, scrC]) (by simp [Value.oneCell']) fun w7 b7 e7 z7 => ?_
    refine pur (nil_ptr _) (pur (field_ptr _ _ _) (storeA (vs := [.int .i64 0, .int .i64 0, .int .i64 0]) b7 rfl (by simp [hdrC, scrC]) (by simp [Value.oneCell']) fun w8 b8 e8 z8 => ?_))
    have k8 : Gon (Hdr d) w6 T6 w8 T6 := Gon.at1 (e7.trans e8) hx6.tag rfl
    exact hK w8 T6 ⟨hx6.tag, b8, hx6.body.keep k8 (by intro h; cases h) (by intro h; cases h) (fun _ h => by cases h) fun _ h => by cases h⟩ ((k5.trans k6).trans k8.hdr)
  · refine hx4.all hW.ordD hW.dlen fun v5 w5 ho5 e5 => ?_
    refine pur (Sl.own ho5).len ?_
    have hdl := hW.dlen
    refine loop1 (σ := Nat) (fun j a w' => a = .int .i64 (j : Int) ∧ j ≤ st.dirs.length ∧ ∃ T' kk, Dx T' d w' g { st with dirs := dirsAt st.dirs cl j } md dm ad ∧ Gon (Ops d) w T w' T' ∧ Blk w' w2.heap.size 40 [.func (.func 49) #[] #[ptrE lb1, ptrE nb1]] ∧ Blk w' lb1 23 [kv] ∧ Blk w' nb1 3 [.int .i64 0] ∧ Blk w' lb2 23 [cv] ∧ Blk w' nb2 3 [.int .i64 ((kk : Nat) : Int)] ∧ (cl ≠ [] → kk = cntD (st.dirs.take j)) ∧ kk ≤ j ∧
        T' w2.heap.size = .tmp ∧ T' lb1 = .tmp ∧ T' nb1 = .tmp ∧ T' lb2 = .tmp ∧ T' nb2 = .tmp ∧ ArgI T' w' kv kl ∧ ArgI T' w' cv cl ∧ w'.ownsRow w4.heap.size 9 1 v5 st.dirs.length ((st.dirs.map (·.name)).map encE) ∧ (∀ b, v5.ownBlock = some b → T' b = .tmp)) (fun j => st.dirs.length - j) 0
      ⟨rfl, Nat.zero_le _, T4, 0, by rw [dirsAt_zero]; exact hx4.no e5, (k04.mono fun _ h => h.elim).trans (Gon.no e5), b4'.no e5, lb1'.no e5, nb1'.no e5, lb2'.no e5, nb2'.no e5, fun _ => rfl, Nat.le_refl _, tt (by omega), tt g1, tt g2, tt (by omega), tt (by omega), hk4.keep (M := Nil) (Gon.no e5) (fun h => h) fun h => h, hc4.keep (M := Nil) (Gon.no e5) (fun h => h) fun h => h, ho5, fun b hb => tt (by have := (ho5.lt b hb).1; have := e04.size; omega)⟩ ?_
    rintro j _ w6 ⟨rfl, hj, T6, kk, hx6, k6, kb6, lb6, nb6, lc6, nc6, hkk, hkj, t1, t2, t3, t4, t5, ha6, hc6, ho6, hv6⟩ L1 hL1
    refine pur (bin_lss _ _ _) (condD (fun hlt => ?_) (fun hge => hJ0 _ ⟨T6, by rw [dirsAt_all _ _ (by omega)] at hx6; exact hx6, k6, kb6, lb6, nb6, t1, t2, t3, ha6⟩))
    obtain ⟨D, hD⟩ := getN (xs := st.dirs) (i := j) (by omega)
    have hDm : D ∈ ({ st with dirs := dirsAt st.dirs cl j } : Dk).dirs := dirsAt_mem hD
    have hcs : cntD (st.dirs.take (j + 1)) = cntD (st.dirs.take j) + if D.was = [] then 0 else 1 := by
      rw [List.take_add_one, hD]
      have h1 : cntD (st.dirs.take j ++ [D]) = cntD (st.dirs.take j) + cntD [D] := by unfold cntD; rw [List.filter_append, List.length_append]
      have h2 := cntD_cons D []
      have h3 : cntD [] = 0 := rfl
      rw [h3, Nat.add_zero] at h2
      exact h1.trans (by rw [h2])
    refine join0 (fun w' => ∃ T' kk, Dx T' d w' g { st with dirs := dirsAt st.dirs cl (j + 1) } md dm ad ∧ Gon (Ops d) w T w' T' ∧ Blk w' w2.heap.size 40 [.func (.func 49) #[] #[ptrE lb1, ptrE nb1]] ∧ Blk w' lb1 23 [kv] ∧ Blk w' nb1 3 [.int .i64 0] ∧ Blk w' lb2 23 [cv] ∧ Blk w' nb2 3 [.int .i64 ((kk : Nat) : Int)] ∧ (cl ≠ [] → kk = cntD (st.dirs.take (j + 1))) ∧ kk ≤ j + 1 ∧
        T' w2.heap.size = .tmp ∧ T' lb1 = .tmp ∧ T' nb1 = .tmp ∧ T' lb2 = .tmp ∧ T' nb2 = .tmp ∧ ArgI T' w' kv kl ∧ ArgI T' w' cv cl ∧ w'.ownsRow w4.heap.size 9 1 v5 st.dirs.length ((st.dirs.map (·.name)).map encE) ∧ (∀ b, v5.ownBlock = some b → T' b = .tmp)) (fun w' h' => pur (add64 (c := ((j + 1 : Nat) : Int)) (by omega) (by omega) (by omega)) (hL1 (j + 1) _ _ ⟨rfl, by omega, h'⟩ (by omega))) fun J2 hJ2 => ?_
    obtain ⟨ad1, q1, q2, q3⟩ := sl_idx1 (Sl.own ho6) (i := j) (v := encE D.name) (by simp [hD]) .i64
    refine pur q1 (SG.load (S := No) (q3 _ (Sl.own ho6)) (hx6.ldDirs ?_))
    obtain ⟨gd, hgd, hDR⟩ := hx6.body.some_ D hDm
    refine hx6.body.mdR.lookup MTdir D.name ?_
    rw [hgd]
    have hDR0 := hDR
    obtain ⟨hT, mn, wv, bs, hb, hN, hbs, hrow, hwT, hall⟩ := hDR
    have hwl := hW.wlen D (List.mem_of_getElem? hD)
    obtain ⟨hs1, hs2⟩ := dirsAt_succ (cl := cl) hD
    refine pur (nil_ptr _) (pur (field_ptr _ _ _) (loadB hb (v := wv) rfl (pur (Sl.own hrow).len (pur (bin_eql _ _ _) (condD (fun hz => ?_) (fun hz => ?_))))))
    · have hw : D.was = [] := List.length_eq_zero_iff.1 (by omega)
      rw [if_pos hw] at hs1
      refine hJ2 _ ⟨T6, kk, by rw [hs1, ← hs2]; exact hx6, k6, kb6, lb6, nb6, lc6, nc6, fun h => by rw [hkk h, hcs, if_pos hw]; rfl, by omega, t1, t2, t3, t4, t5, ha6, hc6, ho6, hv6⟩
    · have hw : D.was ≠ [] := fun h => hz (by rw [h]; rfl)
      refine Dx.crashD hx6 hDm hgd hw (by omega) lc6 nc6 hc6 hci hcl (by omega) hkk g6 t5 (K := J2) fun w7 k7 hx7 n7 q1 q2 kk7 e7 => ?_
      have hst : ({ st with dirs := dirsAt st.dirs cl j } : Dk).setD (D.crash cl (cntD (st.dirs.take j))) = { st with dirs := dirsAt st.dirs cl (j + 1) } := by
        unfold Dk.setD
        simp only
        rw [dirsAt_set hW.ordD hD hw]
      rw [hst] at hx7
      have kO : Gon (Ops d) w6 T6 w7 T6 := kk7.mono fun t h => h.elim .inl fun h => .inr (.inr ⟨_, h⟩)
      have keepB : ∀ {q : Nat} {t : TypeId} {cs : List Value}, Blk w6 q t cs → q ≠ nb2 → T6 q = .tmp → Blk w7 q t cs := fun {q t cs} hq hne htq => hq.ext e7 fun hh => by
        rcases hh with hh | hh
        · exact hne hh
        · rw [hh, hT] at htq; cases htq
      have hv7 := owns_ext ho6 e7 fun b hb' hh => by
        rcases hh with hh | hh
        · exact Own.ne_blk ho6 nc6 (by decide) (by rw [hb', hh])
        · have := hv6 b hb'; rw [hh, hT] at this; cases this
      refine hJ2 _ ⟨T6, k7, hx7, k6.trans kO, keepB kb6 (by omega) t1, keepB lb6 (by omega) t2, keepB nb6 (by omega) t3, keepB lc6 g6 t4, n7, fun h => by rw [q1 h, hcs, if_neg hw], by omega, t1, t2, t3, t4, t5, ha6.keep kO Ops.free Ops.ice, hc6.keep kO Ops.free Ops.ice, hv7, hv6⟩
end
end Go.Proofs.Ythohdinjpkehpaa
/-! Disks: each call keeps a disk well formed, in plain words. -/
namespace Go.Proofs.Ythohdinjpkehpaa
open Go SG Go.RowKit
set_option linter.unusedVariables false
set_option maxRecDepth 4000
set_option linter.unusedSimpArgs false

theorem ScrOk.mono {n m : Nat} {s : Scr} (h : ScrOk n s) (hn : n ≤ m) : ScrOk m s := ⟨h.1, h.2.1, h.2.2.1, Int.le_trans h.2.2.2 (Int.ofNat_le.2 hn)⟩
theorem ScrOk.cnt {n : Nat} {s : Scr} (h : ScrOk n s) : ScrOk (n + 1) s.cnt.2 := by
  obtain ⟨h1, h2, h3, h4⟩ := h
  unfold Scr.cnt
  split
  · exact ⟨h1, h2, h3, by show s.seen ≤ ((n + 1 : Nat) : Int); omega⟩
  · refine ⟨h1, h2, ?_, ?_⟩
    · show 0 ≤ s.seen + 1; omega
    · show s.seen + 1 ≤ ((n + 1 : Nat) : Int); omega
theorem ScrOk.zero (n : Nat) : ScrOk n ⟨0, 0, 0⟩ := ⟨by decide, by decide, by decide, by show (0 : Int) ≤ _; omega⟩
theorem WayOk.mono {n m : Nat} {y : Way} (h : WayOk n y) (hn : n ≤ m) : WayOk m y := ⟨h.1, h.2.1, fun p hp => ⟨(h.2.2 p hp).1, by have := (h.2.2 p hp).2; omega⟩⟩
section
variable {B n m : Nat} {st : Dk}
theorem Wf.mono (h : Wf B n st) (hn : n ≤ m) : Wf B m st where
  ordD := h.ordD
  dlen := h.dlen
  dnm := h.dnm
  now_ := h.now_
  was_ := h.was_
  wlen := fun D hD => Nat.le_trans (h.wlen D hD) hn
  fil := fun f hf => ⟨(h.fil f hf).1, Nat.le_trans (h.fil f hf).2 hn⟩
  flen := Nat.le_trans h.flen hn
  fail := h.fail.mono hn
  stop := h.stop.mono hn
  quo := h.quo
theorem Wf.chgD (h : Wf B n st) : Wf B (n + 1) (chgD st) where
  ordD := h.ordD
  dlen := h.dlen
  dnm := h.dnm
  now_ := h.now_
  was_ := h.was_
  wlen := fun D hD => Nat.le_trans (h.wlen D hD) (Nat.le_succ _)
  fil := fun f hf => ⟨(h.fil f hf).1, Nat.le_trans (h.fil f hf).2 (Nat.le_succ _)⟩
  flen := Nat.le_trans h.flen (Nat.le_succ _)
  fail := h.fail.cnt
  stop := h.stop.cnt
  quo := h.quo
theorem OrdD.setD {l : List Di} (h : OrdD l) (D : Di) : OrdD (l.map fun E => if E.name = D.name then D else E) := by
  unfold OrdD at h ⊢
  have h2 : ((l.map fun E => if E.name = D.name then D else E).map (·.name)).Pairwise fun x y => ltE x y = true := by rw [setD_names, List.pairwise_map]; exact h
  rw [List.pairwise_map] at h2
  exact h2
/-- a directory is another one -/
theorem Wf.setD (h : Wf B n st) {D : Di} (hn : nameOk D.name = true) (hnow : WayOk st.files.length D.now) (hwas : ∀ y ∈ D.was, WayOk st.files.length y) (hl : D.was.length ≤ n) : Wf B n (st.setD D) where
  ordD := h.ordD.setD D
  dlen := by show (st.dirs.map _).length ≤ 64; rw [List.length_map]; exact h.dlen
  dnm := fun E hE => by
    rcases setD_mem hE with rfl | ⟨h1, _⟩
    · exact hn
    · exact h.dnm E h1
  now_ := fun E hE => by
    rcases setD_mem hE with rfl | ⟨h1, _⟩
    · exact hnow
    · exact h.now_ E h1
  was_ := fun E hE => by
    rcases setD_mem hE with rfl | ⟨h1, _⟩
    · exact hwas
    · exact h.was_ E h1
  wlen := fun E hE => by
    rcases setD_mem hE with rfl | ⟨h1, _⟩
    · exact hl
    · exact h.wlen E h1
  fil := h.fil
  flen := h.flen
  fail := h.fail
  stop := h.stop
  quo := h.quo
theorem Wf.chg (h : Wf B n st) {D : Di} (hD : D ∈ st.dirs) (hlen : D.was.length + 1 ≤ n) {y : Way} (hy : WayOk st.files.length y) : Wf B n (st.setD (D.chg y)) :=
  h.setD (h.dnm D hD) hy (fun z hz => by
    rcases List.mem_append.1 hz with hz | hz
    · exact h.was_ D hD z hz
    · rw [List.mem_singleton.1 hz]; exact h.now_ D hD) (by
    show (D.was ++ [D.now]).length ≤ n
    simp; omega)
theorem Wf.newF (h : Wf B n st) (hlen : st.files.length + 1 ≤ n) : Wf B n { st with files := st.files ++ [⟨[], []⟩] } where
  ordD := h.ordD
  dlen := h.dlen
  dnm := h.dnm
  now_ := fun D hD => (h.now_ D hD).mono (by simp)
  was_ := fun D hD y hy => (h.was_ D hD y hy).mono (by simp)
  wlen := h.wlen
  fil := fun f hf => by
    rcases List.mem_append.1 hf with hf | hf
    · exact h.fil f hf
    · rw [List.mem_singleton.1 hf]
      exact ⟨⟨Nat.zero_le _, trivial, fun p hp => by cases hp⟩, Nat.zero_le _⟩
  flen := by simp; omega
  fail := h.fail
  stop := h.stop
  quo := h.quo
theorem Wf.setF (h : Wf B n st) {i : Nat} {f : Fi} (hf : FiOk B f) (hl : f.ws.length ≤ n) : Wf B n (st.setF i f) where
  ordD := h.ordD
  dlen := h.dlen
  dnm := h.dnm
  now_ := fun D hD => (h.now_ D hD).mono (by show _ ≤ (st.files.set i f).length; simp)
  was_ := fun D hD y hy => (h.was_ D hD y hy).mono (by show _ ≤ (st.files.set i f).length; simp)
  wlen := h.wlen
  fil := fun g hg => by
    rcases List.mem_or_eq_of_mem_set hg with hg | rfl
    · exact h.fil g hg
    · exact ⟨hf, hl⟩
  flen := by show (st.files.set i f).length ≤ n; simp; exact h.flen
  fail := h.fail
  stop := h.stop
  quo := h.quo
theorem Wf.new (B n : Nat) {q : Int} (h0 : 0 ≤ q) (h1 : q ≤ 268435456) : Wf B n (Dk.new q) where
  ordD := List.Pairwise.nil
  dlen := Nat.zero_le _
  dnm := fun D hD => by cases hD
  now_ := fun D hD => by cases hD
  was_ := fun D hD => by cases hD
  wlen := fun D hD => by cases hD
  fil := fun f hf => by cases hf
  flen := Nat.zero_le _
  fail := ScrOk.zero n
  stop := ScrOk.zero n
  quo := ⟨h0, h1⟩
theorem Wf.mkdir (h : Wf B n st) (x : El) : Wf B (n + 1) (st.mkdir x).2 := by
  unfold Dk.mkdir
  split
  · exact h.mono (Nat.le_succ _)
  rename_i hnm
  split
  · exact h.mono (Nat.le_succ _)
  rename_i hd
  split
  · exact h.mono (Nat.le_succ _)
  rename_i hl
  split
  · exact h.chgD
  have hd' : st.dir x = none := by
    cases hh : st.dir x with
    | none => rfl
    | some D => rw [hh] at hd; exact absurd rfl hd
  have hc := h.chgD
  exact {
    ordD := h.ordD.put (D := ⟨x, [], []⟩) (Dk.dir_none hd')
    dlen := by show (dput st.dirs ⟨x, [], []⟩).length ≤ 64; rw [dput_len]; omega
    dnm := fun E hE => by
      rcases dput_mem.1 hE with rfl | hE
      · simpa using hnm
      · exact h.dnm E hE
    now_ := fun E hE => by
      rcases dput_mem.1 hE with rfl | hE
      · exact ⟨List.Pairwise.nil, Nat.zero_le _, fun p hp => by cases hp⟩
      · exact h.now_ E hE
    was_ := fun E hE => by
      rcases dput_mem.1 hE with rfl | hE
      · exact fun y hy => by cases hy
      · exact h.was_ E hE
    wlen := fun E hE => by
      rcases dput_mem.1 hE with rfl | hE
      · exact Nat.zero_le _
      · exact hc.wlen E hE
    fil := hc.fil
    flen := hc.flen
    fail := hc.fail
    stop := hc.stop
    quo := hc.quo }
theorem path_ok {s : El} {D : Di} {x : El} (h : st.path s = .ok (D, x)) : nameOk x = true := by
  unfold Dk.path at h
  split at h
  · cases h
  · rename_i a b hs
    split at h
    · cases h
    · injection h with h; injection h with h1 h2
      subst h2
      unfold splitP at hs
      split at hs
      · split at hs
        · rename_i hc
          injection hs with hs; injection hs with hs1 hs2
          subst hs2
          exact (Bool.and_eq_true _ _ ▸ hc).2
        · cases hs
      · cases hs
theorem WayOk.put {y : Way} (h : WayOk n y) {x : El} {i : Nat} (hx : nameOk x = true) (hi : i < n) (hl : (mget y x).isSome = true ∨ y.length < 1024) : WayOk n (wput y x i) := by
  refine ⟨h.1.put x i, ?_, fun p hp => ?_⟩
  · rw [wput_len h.1]
    have := h.2.1
    split
    · exact this
    · rename_i hn
      have := hl.resolve_left hn
      omega
  · rcases wput_mem hp with rfl | hp
    · exact ⟨hx, hi⟩
    · exact h.2.2 p hp
theorem WayOk.del {y : Way} (h : WayOk n y) (x : El) : WayOk n (mdel y x) :=
  ⟨h.1.del x, Nat.le_trans (List.length_filter_le _ _) h.2.1, fun p hp => h.2.2 p (List.mem_filter.1 hp).1⟩
theorem Wf.create (h : Wf B n st) (s : El) : Wf B (n + 1) (st.create s).2 := by
  unfold Dk.create
  split
  · exact h.mono (by omega)
  rename_i D x hp
  split
  · exact h.mono (by omega)
  rename_i hg
  split
  · exact h.mono (by omega)
  rename_i hl
  split
  · exact h.chgD.mono (by omega)
  have hD := path_mem hp
  have h2 := h.chgD.newF (Nat.succ_le_succ h.flen)
  exact h2.chg (D := D) hD (Nat.succ_le_succ (h.wlen D hD)) (y := wput D.now x st.files.length) (((h.now_ D hD).mono (show st.files.length ≤ (st.files ++ [(⟨[], []⟩ : Fi)]).length by simp)).put (path_ok hp) (show st.files.length < (st.files ++ [(⟨[], []⟩ : Fi)]).length by simp) (.inr (by omega)))
theorem file_path {s : El} {i : Nat} (h : st.file s = .ok i) : ∃ D x, st.path s = .ok (D, x) ∧ mget D.now x = some i := by
  unfold Dk.file at h
  split at h
  · cases h
  · rename_i D x hp
    split at h
    · cases h
    · rename_i j hj
      injection h with h; subst h
      exact ⟨D, x, hp, hj⟩
theorem Wf.file_lt (h : Wf B n st) {s : El} {i : Nat} (hi : st.file s = .ok i) : i < st.files.length := by
  obtain ⟨D, x, hp, hg⟩ := file_path hi
  obtain ⟨p, hp', rfl⟩ := mget_memE hg
  exact ((h.now_ D (path_mem hp)).2.2 p hp').2
theorem items_of {D : Di} (hD : D ∈ st.dirs) {x : El} {i : Nat} (hg : mget D.now x = some i) : i ∈ (items st.dirs).map (·.2) := by
  obtain ⟨p, hp', rfl⟩ := mget_memE hg
  exact List.mem_map.2 ⟨(D.name ++ [47] ++ p.1, p.2), List.mem_flatMap.2 ⟨D, hD, List.mem_map.2 ⟨p, hp', rfl⟩⟩, rfl⟩
theorem file_items {s : El} {i : Nat} (hi : st.file s = .ok i) : i ∈ (items st.dirs).map (·.2) := by
  obtain ⟨D, x, hp, hg⟩ := file_path hi
  exact items_of (path_mem hp) hg
theorem le_sum {l : List Nat} {x : Nat} (h : x ∈ l) : x ≤ l.sum := by
  induction l with
  | nil => cases h
  | cons a l ih =>
    rw [List.sum_cons]
    rcases List.mem_cons.1 h with rfl | h
    · omega
    · have := ih h; omega
theorem len_le_used {i : Nat} (hi : i ∈ (items st.dirs).map (·.2)) : (st.fi i).now.length ≤ st.used := by
  have h1 : lenAt st.files i ≤ st.used := by
    unfold Dk.used usedL
    exact le_sum (List.mem_map.2 ⟨i, (distinct_mem _ i).2 hi, rfl⟩)
  have h2 : lenAt st.files i = (st.fi i).now.length := by
    unfold lenAt Dk.fi
    cases st.files[i]? <;> rfl
  omega
theorem Wf.fi (h : Wf B n st) (i : Nat) : FiOk B (st.fi i) ∧ (st.fi i).ws.length ≤ n := by
  unfold Dk.fi
  cases hi : st.files[i]? with
  | none => exact ⟨⟨Nat.zero_le _, trivial, fun p hp => by cases hp⟩, Nat.zero_le _⟩
  | some f => exact h.fil f (List.mem_of_getElem? hi)
theorem wsOk_app : ∀ (ws : List Wr) (b : Bys) (p : Wr), wsOk b ws → p.1 ≤ (nowB b ws).length → 0 < p.2.length → wsOk b (ws ++ [p])
  | [], b, (k, l), _, h1, h2 => ⟨h1, h2, trivial⟩
  | (k, l) :: r, b, p, h, h1, h2 => ⟨h.1, h.2.1, wsOk_app r (overB b k l) p h.2.2 h1 h2⟩
theorem Wf.wr (h : Wf B n st) (hB : 268435456 ≤ B) {i : Nat} (hi : i ∈ (items st.dirs).map (·.2)) (k : Int) (b : Bys) : Wf B (n + 1) (st.wr i k b).2 := by
  unfold Dk.wr
  split
  · exact h.mono (by omega)
  rename_i hk
  split
  · exact h.mono (by omega)
  rename_i hq
  have hlen : (if (chgV st).2 = true then b.take (b.length / 2) else b).length ≤ b.length := by split <;> simp; omega
  generalize (if (chgV st).2 = true then b.take (b.length / 2) else b) = b' at hlen ⊢
  split
  · rename_i hdo
    have hu := len_le_used hi
    have hfi := h.fi i
    have hnl := hfi.1.now_len
    have hqu := h.quo
    refine h.chgD.setF ⟨hfi.1.1, ?_, ?_⟩ ?_
    · exact wsOk_app _ _ _ hfi.1.2.1 (by show k.toNat ≤ (st.fi i).now.length; omega) hdo.2
    · intro p hp
      rcases List.mem_append.1 hp with hp | hp
      · exact hfi.1.2.2 p hp
      · rw [List.mem_singleton.1 hp]
        show k.toNat + b'.length ≤ B
        omega
    · show ((st.fi i).ws ++ [_]).length ≤ n + 1
      have := hfi.2
      simp; omega
  · exact h.chgD
theorem Wf.sync (h : Wf B n st) (i : Nat) : Wf B (n + 1) (st.sync i).2 := by
  unfold Dk.sync
  split
  · exact h.chgD
  · exact h.chgD.setF ⟨(h.fi i).1.now_len, trivial, fun p hp => by cases hp⟩ (Nat.zero_le _)
theorem two_ok {a b : El} {A D : Di} {m x : El} {i : Nat} (h : st.two a b = .ok (A, m, D, x, i)) : st.path a = .ok (A, m) ∧ st.path b = .ok (D, x) ∧ mget A.now m = some i := by
  unfold Dk.two at h
  split at h
  · cases h
  · rename_i A' m' ha
    split at h
    · cases h
    · rename_i D' x' hb
      split at h
      · cases h
      · rename_i j hj
        injection h with h
        injection h with h1 h; injection h with h2 h; injection h with h3 h; injection h with h4 h5
        subst h1; subst h2; subst h3; subst h4; subst h5
        exact ⟨ha, hb, hj⟩
theorem Wf.mget_lt (h : Wf B n st) {D : Di} (hD : D ∈ st.dirs) {x : El} {i : Nat} (hg : mget D.now x = some i) : i < st.files.length := by
  obtain ⟨p, hp', rfl⟩ := mget_memE hg
  exact ((h.now_ D hD).2.2 p hp').2
theorem Wf.link (h : Wf B n st) (a b : El) : Wf B (n + 1) (st.link a b).2 := by
  unfold Dk.link
  split
  · exact h.mono (by omega)
  rename_i A m D x i h2
  obtain ⟨ha, hb, hg⟩ := two_ok h2
  split
  · exact h.mono (by omega)
  split
  · exact h.mono (by omega)
  rename_i hl
  split
  · exact h.chgD.mono (by omega)
  exact h.chgD.chg (D := D) (path_mem hb) (Nat.succ_le_succ (h.wlen D (path_mem hb))) ((h.now_ D (path_mem hb)).put (path_ok hb) (h.mget_lt (path_mem ha) hg) (.inr (by omega)))
theorem Wf.remove (h : Wf B n st) (s : El) : Wf B (n + 1) (st.remove s).2 := by
  unfold Dk.remove
  split
  · exact h.mono (by omega)
  split
  · exact h.mono (by omega)
  rename_i D x hp
  split
  · exact h.chgD.mono (by omega)
  exact h.chgD.chg (D := D) (path_mem hp) (Nat.succ_le_succ (h.wlen D (path_mem hp))) ((h.now_ D (path_mem hp)).del x)
theorem Wf.syncDir (h : Wf B n st) (s : El) : Wf B (n + 1) (st.syncDir s).2 := by
  unfold Dk.syncDir
  split
  · exact h.mono (by omega)
  rename_i D hf
  have hD := findD_mem hf
  split
  · exact h.chgD
  exact h.chgD.setD (D := ⟨D.name, [], D.now⟩) (h.dnm D hD) (h.now_ D hD) (fun y hy => by cases hy) (Nat.zero_le _)
theorem Wf.rename (h : Wf B n st) (a b : El) : Wf B (n + 1) (st.rename a b).2 := by
  unfold Dk.rename
  split
  · exact h.mono (by omega)
  rename_i A m D x i h2
  obtain ⟨ha, hb, hg⟩ := two_ok h2
  have hA := path_mem ha
  have hD := path_mem hb
  have hi := h.mget_lt hA hg
  split
  · exact h.mono (by omega)
  rename_i hl
  split
  · exact h.chgD.mono (by omega)
  split
  · exact h.chgD.mono (by omega)
  split
  · rename_i hAD
    have hdel := (h.now_ A hA).del m
    have hdl : (mdel A.now m).length = A.now.length - 1 := by rw [mdel_len (h.now_ A hA).1.keys, hg]; rfl
    have hpos : 0 < A.now.length := by
      obtain ⟨p, hp, _⟩ := mget_memE hg
      exact List.length_pos_of_mem hp
    have h1024 := (h.now_ A hA).2.1
    exact h.chgD.chg (D := A) hA (Nat.succ_le_succ (h.wlen A hA)) (hdel.put (path_ok hb) hi (.inr (by omega)))
  · rename_i hAD
    have hput : WayOk st.files.length (wput D.now x i) := (h.now_ D hD).put (path_ok hb) hi (by
      cases hgx : mget D.now x with
      | some j => exact .inl rfl
      | none => right; exact Nat.lt_of_not_le fun hh => hl ⟨hgx, hAD, hh⟩)
    have h1 := h.chgD.chg (D := D) hD (Nat.succ_le_succ (h.wlen D hD)) hput
    have hA1 : A ∈ ((Go.Proofs.Ythohdinjpkehpaa.chgD st).setD (D.chg (wput D.now x i))).dirs := List.mem_map.2 ⟨A, hA, if_neg hAD⟩
    exact h1.chg (D := A) hA1 (Nat.succ_le_succ (h.wlen A hA)) ((h.now_ A hA).del m)
theorem Wf.crash (h : Wf B n st) (kl cl : List Int) : Wf B n (st.crash kl cl) := by
  have hc := h.crashD cl
  have hlen : ∀ (o : List Nat) (s : List Fi × Nat), (o.foldl (crashStep kl) s).1.length = s.1.length := fun o => by
    induction o with
    | nil => exact fun s => rfl
    | cons i o ih => exact fun s => (ih _).trans (crashStep_len kl s i).1
  have hok : ∀ (o : List Nat) (s : List Fi × Nat), (∀ f ∈ s.1, FiOk B f ∧ f.ws.length ≤ n) → ∀ f ∈ (o.foldl (crashStep kl) s).1, FiOk B f ∧ f.ws.length ≤ n := fun o => by
    induction o with
    | nil => exact fun s h => h
    | cons i o ih => exact fun s h => ih _ (crashStep_ok h i)
  have hl : (st.crash kl cl).files.length = st.files.length := hlen _ _
  exact {
    ordD := hc.ordD
    dlen := hc.dlen
    dnm := hc.dnm
    now_ := fun D hD => by rw [hl]; exact hc.now_ D hD
    was_ := fun D hD => by rw [hl]; exact hc.was_ D hD
    wlen := hc.wlen
    fil := hok _ _ h.fil
    flen := by rw [hl]; exact h.flen
    fail := ScrOk.zero n
    stop := ScrOk.zero n
    quo := h.quo }
end
end Go.Proofs.Ythohdinjpkehpaa
/-! Disks: chains of calls in a law; the document's first example. -/
namespace Go.Proofs.Ythohdinjpkehpaa
open Go SG Go.RowKit
set_option linter.unusedVariables false
set_option maxRecDepth 4000
set_option linter.unusedSimpArgs false

theorem pickF (x y : Value) : pickV (.bool false) x y = some y := rfl
theorem pickT (x y : Value) : pickV (.bool true) x y = some x := rfl
theorem orF {p : Bool} (hp : p = false) {R : Value → World → Prop} {A : (Value → World → Prop) → Prop} {w : World} (h : A fun t w => PureS (pickV (.bool false) (.bool true) t) fun t' => R t' w) :
    JoinS (fun t w => PureS (pickV (.bool p) (.bool true) t) fun t' => R t' w) fun J => IfB (.bool p) false (A J) (J undef w) := by
  subst hp
  refine ⟨?_⟩
  dsimp only
  rw [ifB_eq, if_pos rfl]
  exact h
theorem orT {p : Bool} (hp : p = true) {R : Value → World → Prop} {A : (Value → World → Prop) → Prop} {w : World} (h : R (.bool true) w) :
    JoinS (fun t w => PureS (pickV (.bool p) (.bool true) t) fun t' => R t' w) fun J => IfB (.bool p) false (A J) (J undef w) := by
  subst hp
  refine ⟨?_⟩
  dsimp only
  rw [ifB_eq, if_neg (by simp)]
  exact pur (pickT _ _) h
theorem andT {p : Bool} (hp : p = true) {R : Value → World → Prop} {A : (Value → World → Prop) → Prop} {w : World} (h : A fun t w => PureS (pickV (.bool true) t (.bool false)) fun t' => R t' w) :
    JoinS (fun t w => PureS (pickV (.bool p) t (.bool false)) fun t' => R t' w) fun J => IfB (.bool p) true (A J) (J undef w) := by
  subst hp
  refine ⟨?_⟩
  dsimp only
  rw [ifB_eq, if_pos rfl]
  exact h
theorem andF {p : Bool} (hp : p = false) {R : Value → World → Prop} {A : (Value → World → Prop) → Prop} {w : World} (h : R (.bool false) w) :
    JoinS (fun t w => PureS (pickV (.bool p) t (.bool false)) fun t' => R t' w) fun J => IfB (.bool p) true (A J) (J undef w) := by
  subst hp
  refine ⟨?_⟩
  dsimp only
  rw [ifB_eq, if_neg (by simp)]
  exact pur (pickF _ _) h
/-- bytes that are new -/
theorem Arg.new {T : Tags} {w w' : World} {v : Value} {l : Bys} {b : Nat} (h : SlB w' v l) (hb : v.ownBlock = some b) (hl : b < w'.heap.size) : Arg (mark T b .free) w' v l :=
  ⟨h, .inr fun c hc => by rw [hb] at hc; cases hc; exact ⟨hl, .inl (mark_at _ _ _)⟩⟩
theorem ArgI.new {T : Tags} {w w' : World} {v : Value} {l : List Int} {b : Nat} (h : SlI w' v l) (hb : v.ownBlock = some b) (hl : b < w'.heap.size) : ArgI (mark T b .free) w' v l :=
  ⟨h, .inr fun c hc => by rw [hb] at hc; cases hc; exact ⟨hl, .inl (mark_at _ _ _)⟩⟩
theorem ArgI.nil (T : Tags) (w : World) : ArgI T w (.slice none 0 0) [] := ⟨Sl.nil_ _ _, .inl rfl⟩
theorem Dx.fresh {T : Tags} {w w' : World} {d g b : Nat} {st : Dk} {md : Nat} {dm : List (El × Nat)} {ad : Nat → Option Nat} (hx : Dx T d w g st md dm ad) (e : Ext No w w') (hb : w.heap.size ≤ b) (t : Tag) : Dx (mark T b t) d w' g st md dm ad :=
  hx.keep (M := Nil) ((Gon.no e).mark hb t) (fun h => h) fun _ h => h
/-- what is new is nobody's, and stays as it is -/
def ff (w : World) (T : Tags) : Tags := fun b => if b < w.heap.size then T b else .free
theorem ff_lt {w : World} {T : Tags} {b : Nat} (h : b < w.heap.size) : ff w T b = T b := if_pos h
theorem ff_ge {w : World} {T : Tags} {b : Nat} (h : w.heap.size ≤ b) : ff w T b = .free := if_neg (by omega)
theorem Gon.ff {M : Tag → Prop} {w w' : World} {T : Tags} (e : Ext No w w') : Gon M w T w' (ff w T) := ⟨e.no, fun b hb => ff_lt hb⟩
theorem Dx.ff {T : Tags} {w w' : World} {d g : Nat} {st : Dk} {md : Nat} {dm : List (El × Nat)} {ad : Nat → Option Nat} (hx : Dx T d w g st md dm ad) (e : Ext No w w') : Dx (ff w T) d w' g st md dm ad :=
  hx.keep (M := Nil) (Gon.ff e) (fun h => h) fun _ h => h
theorem Arg.row {T : Tags} {w w1 : World} {v : Value} {l : Bys} (h : w1.ownsRow w.heap.size 5 1 v l.length (byteCells l)) : Arg (ff w T) w1 v l :=
  ⟨Sl.own h, .inr fun b hb => ⟨(h.lt b hb).2, .inl (ff_ge (h.lt b hb).1)⟩⟩
theorem bld3 (w : World) (a b c : UInt8) : (Instr.buildSlice 22 3 [(0, .int .u8 (a.toNat : Int)), (1, .int .u8 (b.toNat : Int)), (2, .int .u8 (c.toNat : Int))].toArray).run Try.prog w = .ok (.slice (some ⟨w.heap.size, 0, none⟩) 3 3) (w.alloc (.cells #[.int .u8 (a.toNat : Int), .int .u8 (b.toNat : Int), .int .u8 (c.toNat : Int)] 5)) := by kernel_rfl
theorem bld2 (w : World) (a b : UInt8) : (Instr.buildSlice 22 2 [(0, .int .u8 (a.toNat : Int)), (1, .int .u8 (b.toNat : Int))].toArray).run Try.prog w = .ok (.slice (some ⟨w.heap.size, 0, none⟩) 2 2) (w.alloc (.cells #[.int .u8 (a.toNat : Int), .int .u8 (b.toNat : Int)] 5)) := by kernel_rfl
/-- a literal of bytes, marked as a string's -/
theorem lit_bytes {w : World} {n : Nat} {l : Bys} {ps : Array (Nat × Value)} {K : Value → World → Prop} (hn : n = l.length) (hb : (Instr.buildSlice 22 n ps).run Try.prog w = .ok (.slice (some ⟨w.heap.size, 0, none⟩) n n) (w.alloc (.cells (byteCells l).toArray 5)))
    (hK : ∀ v w', SlB w' v l → v.ownBlock = some w.heap.size → w.heap.size < w'.heap.size → Ext No w w' → K v w') : RunS Try.prog (Instr.buildSlice 22 n ps) (fun t w1 => RunS Try.prog (convert 22 22 t) K w1) w := by
  refine runS hb (runS (Lib.run_convert_bytes_const w 22 5 (byteCells l).toArray n n Try.underlying22 Try.underlying5) (hK _ _ ?_ rfl (by simp) (Ext.alloc _ _)))
  subst hn
  refine ⟨some ⟨w.heap.size, 0, none⟩, l.length, rfl, by rw [byteCells_length]; omega, Nat.le_refl _, (fun h => by cases h), (fun ad had => ?_)⟩
  cases had
  intro i v hv
  rw [Addr.add_mk]
  unfold World.cell?
  rw [show (w.alloc (.cells (byteCells l).toArray 5 ((byteCells l).toArray.size, (byteCells l).toArray.size + 1))).heap[w.heap.size]? = some (.cells (byteCells l).toArray 5 ((byteCells l).toArray.size, (byteCells l).toArray.size + 1)) from heap_alloc_new w _]
  simpa using hv
theorem str_conv {w : World} {v : Value} {l : Bys} (h : SlB w v l) : (convert 22 9 v).run Try.prog w = .ok (encE l) w := bytes_str Try.underlying22 Try.underlying9 Try.underlying5 h
theorem TI : ElemT Try.prog 23 3 1 8 (.int .i64 0) := ⟨Try.underlying23, by kernel_rfl, rfl, by decide, by decide⟩
namespace Lv
def z : Scr := ⟨0, 0, 0⟩
def pa : El := [100, 47, 97]
def s1 : Dk := ⟨100, [⟨[100], [], []⟩], [], z, z⟩
def s2 : Dk := ⟨100, [⟨[100], [[]], [([97], 0)]⟩], [⟨[], []⟩], z, z⟩
def s3 : Dk := ⟨100, [⟨[100], [[]], [([97], 0)]⟩], [⟨[], [(0, [120, 121, 122])]⟩], z, z⟩
def s4 : Dk := ⟨100, [⟨[100], [[]], [([97], 0)]⟩], [⟨[120, 121, 122], []⟩], z, z⟩
def s5 : Dk := ⟨100, [⟨[100], [[]], [([97], 0)]⟩], [⟨[120, 121, 122], [(1, [85, 86])]⟩], z, z⟩
def s6 : Dk := ⟨100, [⟨[100], [], [([97], 0)]⟩], [⟨[120, 121, 122], [(1, [85, 86])]⟩], z, z⟩
def s7 : Dk := ⟨100, [⟨[100], [], [([97], 0)]⟩], [⟨[120, 85, 122], []⟩], z, z⟩
theorem h1 : (Dk.new 100).mkdir [100] = (0, s1) := by kernel_rfl
theorem h2 : s1.create pa = (0, s2) := by kernel_rfl
theorem f2 : s2.file pa = .ok 0 := by kernel_rfl
theorem n2 : (s2.fi 0).now.length = 0 := by kernel_rfl
theorem h3 : s2.wr 0 ((0 : Nat) : Int) [120, 121, 122] = (0, s3) := by kernel_rfl
theorem f3 : s3.file pa = .ok 0 := by kernel_rfl
theorem h4 : s3.sync 0 = (0, s4) := by kernel_rfl
theorem f4 : s4.file pa = .ok 0 := by kernel_rfl
theorem h5 : s4.wr 0 1 [85, 86] = (0, s5) := by kernel_rfl
theorem h6 : s5.syncDir [100] = (0, s6) := by kernel_rfl
theorem h7 : s6.crash [1] [] = s7 := by kernel_rfl
theorem f7 : s7.file pa = .ok 0 := by kernel_rfl
theorem n7 : (s7.fi 0).now = [120, 85, 122] := by kernel_rfl
end Lv
theorem ok_inj {α : Type} {i j : α} {x : Except Int α} (h : x = .ok i) (k : x = .ok j) : i = j := by rw [h] at k; injection k
theorem ok_err {α : Type} {i : α} {e : Int} {x : Except Int α} (h : x = .ok i) (k : x = .error e) : False := by rw [h] at k; cases k
theorem Blk.slB {w : World} {g : Nat} {t : TypeId} {l : Bys} (h : Blk w g t (byteCells l)) : SlB w (.slice (some ⟨g, 0, none⟩) l.length l.length) l := h.sl (by rw [byteCells_length]; omega) (Nat.le_refl _)
set_option maxHeartbeats 4000000 in
/-- lives: it holds -/
theorem clives {w : World} {K : Value → World → Prop} (hK : ∀ w', Ext No w w' → K (.bool true) w') : CallS Try.prog 5 #[] K w := by
  refine s5_call hm ?_
  unfold s5
  refine cNew (T := fun _ => .ice) 0 (fun h => by omega) fun w1 T1 g md _ _ hg hx1 k1 => ?_
  refine pur (extract_0 _ _) (pur (extract_1 _ _ _) (pur (bin_neq _ _ _) (orF (by simp) ?_)))
  have W0 := Wf.new 268435456 0 (q := 100) (by omega) (by omega)
  refine eq_nil_ptr Try.underlying25 (pur (pickF _ _) (orF rfl ?_))
  have W1 := W0.mkdir [100]
  refine hx1.Mkdir W0 (by omega) fun w2 T2 dm2 hx2 k2 => ?_
  rw [Lv.h1] at W1 hx2 ⊢
  refine pur (bin_neq _ _ _) (pur (pickF _ _) (orF (by simp) ?_))
  have W2 := W1.create Lv.pa
  refine hx2.Create (s := Lv.pa) W1 (by omega) (by decide) fun w3 T3 ad3 hx3 k3 => ?_
  rw [Lv.h2] at W2 hx3 ⊢
  refine pur (bin_neq _ _ _) (pur (pickF _ _) (orF (by simp) ?_))
  refine lit_bytes (l := [120, 121, 122]) rfl (bld3 w3 120 121 122) fun v4 w4 s4 o4 l4 e4 => ?_
  have hx4 := hx3.fresh e4 (Nat.le_refl _) .free
  have a4 : Arg (mark T3 w3.heap.size .free) w4 v4 [120, 121, 122] := Arg.new (w := w3) s4 o4 l4
  refine hx4.Append (s := Lv.pa) W2 (by omega) (by omega) (by decide) a4 (by decide) (fun e w' he e' => (ok_err Lv.f2 he).elim) fun i w5 T5 hi hx5 k5 => ?_
  obtain rfl := ok_inj Lv.f2 hi
  have W3 := W2.wr (by omega) (file_items Lv.f2) (((Lv.s2.fi 0).now.length : Nat) : Int) [120, 121, 122]
  rw [Lv.n2, Lv.h3] at W3 hx5 ⊢
  refine pur (bin_neq _ _ _) (pur (pickF _ _) (orF (by simp) ?_))
  refine hx5.Sync (s := Lv.pa) W3 (by omega) (by decide) (fun e w' he e' => (ok_err Lv.f3 he).elim) fun i w6 T6 hi hx6 k6 => ?_
  obtain rfl := ok_inj Lv.f3 hi
  have W4 := W3.sync 0
  rw [Lv.h4] at W4 hx6 ⊢
  refine pur (bin_neq _ _ _) (pur (pickF _ _) (orF (by simp) ?_))
  refine lit_bytes (l := [85, 86]) rfl (bld2 w6 85 86) fun v7 w7 s7 o7 l7 e7 => ?_
  have hx7 := hx6.fresh e7 (Nat.le_refl _) .free
  have a7 : Arg (mark T6 w6.heap.size .free) w7 v7 [85, 86] := Arg.new (w := w6) s7 o7 l7
  refine hx7.Write (s := Lv.pa) (k := 1) W4 (by omega) (by omega) (by decide) (by omega) (by omega) a7 (by decide) (fun e w' he e' => (ok_err Lv.f4 he).elim) fun i w8 T8 hi hx8 k8 => ?_
  obtain rfl := ok_inj Lv.f4 hi
  have W5 := W4.wr (by omega) (file_items Lv.f4) 1 [85, 86]
  rw [Lv.h5] at W5 hx8 ⊢
  refine pur (bin_neq _ _ _) (pur (pickF _ _) (orF (by simp) ?_))
  refine hx8.SyncDir (s := [100]) W5 (by omega) fun w9 T9 hx9 k9 => ?_
  have W6 := W5.syncDir [100]
  rw [Lv.h6] at W6 hx9 ⊢
  refine pur (bin_neq _ _ _) (pur (pickF _ _) (condF (by simp) ?_))
  refine build1 (v := .int .i64 1) TI rfl fun w10 b10 e10 z10 => ?_
  have hx10 := hx9.fresh e10 (Nat.le_refl _) .free
  have i10 : ArgI (mark T9 w9.heap.size .free) w10 (.slice (some ⟨w9.heap.size, 0, none⟩) 1 1) [1] := ArgI.new (w := w9) (b10.sl (n := 1) (c := 1) (size := 1) rfl (Nat.le_refl _)) rfl b10.lt
  refine hx10.Crash W6 (by omega) (by omega) i10 (ArgI.nil _ _) (by intro n hn; simp at hn; subst hn; unfold I64; decide) (by intro n hn; cases hn) (by decide) (by decide) fun w11 T11 hx11 k11 => ?_
  have W7 := W6.crash [1] []
  rw [Lv.h7] at W7 hx11
  refine hx11.Read (s := Lv.pa) W7 (by omega) (by decide) (fun e w' he hne e' => (ok_err Lv.f7 he).elim) fun i v w12 hi ho e12 => ?_
  obtain rfl := ok_inj Lv.f7 hi
  rw [Lv.n7] at ho
  refine pur (extract_0 _ _) (pur (extract_1 _ _ _) (pur (bin_eql _ _ _) (andT (by simp) ?_)))
  refine runS (str_conv (Sl.own ho)) (pur (eqE [120, 85, 122] [120, 85, 122]) (pur (pickT _ _) ?_))
  rw [decide_eq_true rfl]
  have kk : Gon (Ops 0) w (fun _ => .ice) w11 T11 := ((((((((((k1.mono (fun _ h => h.elim)).trans k2).trans k3).trans ((Gon.no e4).mark (Nat.le_refl _) .free)).trans k5).trans k6).trans ((Gon.no e7).mark (Nat.le_refl _) .free)).trans k8).trans k9).trans ((Gon.no e10).mark (Nat.le_refl _) .free)).trans k11
  exact hK w12 ((kk.ext.mono fun b hb _ => Ops.ice hb).trans e12)
end Go.Proofs.Ythohdinjpkehpaa
/-! Rules for a row's own step: arguments opened as lists, their weights. No program stands here. -/
namespace SG
open Go Go.RowKit Go.ChangeShapes Go.WideShapes Go.Deep
set_option linter.unusedVariables false
set_option linter.unusedSimpArgs false

theorem list_of {α : Type} {Q : Nat → α → Prop} : ∀ (n : Nat), (∀ i, i < n → ∃ a, Q i a) → ∃ l : List α, l.length = n ∧ ∀ i a, l[i]? = some a → Q i a
  | 0, _ => ⟨[], rfl, fun i a h => by simp at h⟩
  | n + 1, h => by
    obtain ⟨l, hl, hQ⟩ := list_of n fun i hi => h i (by omega)
    obtain ⟨a, ha⟩ := h n (by omega)
    refine ⟨l ++ [a], by simp [hl], fun i b hb => ?_⟩
    by_cases hi : i < l.length
    · rw [List.getElem?_append_left hi] at hb
      exact hQ i b hb
    · rw [List.getElem?_append_right (by omega)] at hb
      have h0 : i - l.length = 0 := by
        rcases Nat.eq_zero_or_pos (i - l.length) with h | h
        · exact h
        · rw [List.getElem?_eq_none (by simp; omega)] at hb; cases hb
      rw [h0] at hb
      simp only [List.getElem?_cons_zero, Option.some.injEq] at hb
      subst hb
      have : i = n := by omega
      rw [this]; exact ha
theorem At.flat {α : Type} {f : α → List Value} {size : Nat} (hf : ∀ a, (f a).length = size) {w : World} : ∀ (l : List α) (ad : Addr), (∀ i a, l[i]? = some a → At w (ad.add (i * size)) (f a)) → At w ad (SG.flat f l)
  | [], ad, h => fun i v hv => by simp [SG.flat] at hv
  | x :: l, ad, h => by
    have hrec := At.flat hf l (ad.add size) fun i a ha => by
      have := h (i + 1) a (by simpa using ha)
      rw [Addr.add_add, Nat.add_comm size, ← Nat.succ_mul]
      exact this
    intro i v hv
    have e : SG.flat f (x :: l) = f x ++ SG.flat f l := by simp [SG.flat]
    rw [e] at hv
    by_cases hi : i < (f x).length
    · rw [List.getElem?_append_left hi] at hv
      have := h 0 x rfl i v hv
      simpa [Addr.add_zero'] using this
    · rw [List.getElem?_append_right (by omega), hf] at hv
      have h1 := hrec (i - size) v hv
      rw [Addr.add_add] at h1
      rw [hf] at hi
      rwa [show size + (i - size) = i by omega] at h1

section
variable {H : Type} {P : Program}
theorem weights_all_mem : ∀ {l : List (DataW H)} {e : TypeId} {d : DataW H} {n : Nat}, d ∈ l → n ∈ d.weights P e → n ∈ DataW.weightsAll P e l
  | a :: l, e, d, n, hd, hn => by
    simp only [DataW.weightsAll, List.mem_append]
    rcases List.mem_cons.1 hd with rfl | hd
    · exact .inl hn
    · exact .inr (weights_all_mem hd hn)
theorem weights_elem {t e : TypeId} {elems spare : List (DataW H)} {d : DataW H} {n : Nat} (ht : P.underlying t = some (.slice e)) (hd : d ∈ elems) (hn : n ∈ d.weights P e) : n ∈ (DataW.slice elems spare).weights P t := by
  simp only [DataW.weights, ht, List.mem_cons, List.mem_append]
  exact .inr (.inl (weights_all_mem hd hn))
theorem weights_row {t e : TypeId} {elems spare : List (DataW H)} (ht : P.underlying t = some (.slice e)) : (elems.length + spare.length) * P.bytesOf e ∈ (DataW.slice elems spare).weights P t := by
  simp [DataW.weights, ht]
/-- the arguments' weights, one argument's -/
theorem weights_le {ts : List TypeId} {ds : List (DataW H)} (h : (DataW.weightsEach P ts ds).all (· ≤ reachBytes) = true) {j : Nat} {t : TypeId} {d : DataW H} (ht : ts[j]? = some t) (hd : ds[j]? = some d) : ∀ n ∈ d.weights P t, n ≤ reachBytes := fun n hn => by
  have := List.all_eq_true.1 h _ (DataW.weights_mem_each ht hd n hn)
  simpa using this
end

section
variable {H : Type} {enc : TypeId × Value → H} {P : Program} {w : World} {base : Nat} {spare : Nat → Bool} {held : Bool}
/-- a struct of one-cell fields -/
theorem open_struct {e : TypeId} {fs : Array Field} {fuel : Nat} {cs : List Value} {x : DataW H × List MemPlace} (he : P.underlying e = some (.struct fs))
    (hone : oneCellFields P fs = true) (hC : P.cellsOf e = fs.size) (hcl : cs.length = fs.size) (h : DataW.trod enc P w base spare held fuel e cs = some x) :
    ∃ (ys : List (DataW H × List MemPlace)) (n : Nat), x.1 = .agg (ys.map (·.1)) ∧ ys.length = fs.size ∧
        ∀ (j : Nat) (f : Field), fs[j]? = some f → ∃ (v : Value) (y : DataW H × List MemPlace), cs[j]? = some v ∧ ys[j]? = some y ∧ DataW.trod enc P w base spare held n f.type [v] = some y := by
  obtain ⟨ys, n', hn', hy, hlen, hyl, hf⟩ := DataW.trod_struct he h
  refine ⟨ys, n', by rw [hy], hyl, fun j f hj => ?_⟩
  obtain ⟨ho, hk⟩ := hone_of hone j f hj
  have hjl : j < fs.size := (Array.getElem?_eq_some_iff.1 hj).1
  have hv : cs[j]? = some (cs[j]'(by omega)) := List.getElem?_eq_getElem (by omega)
  have h1 := hf j f hj
  rw [ho, hk] at h1
  have hone' : (cs.drop j).take 1 = [cs[j]'(by omega)] := by
    rw [List.drop_eq_getElem_cons (by omega)]
    rfl
  rw [hone'] at h1
  have hys : ys[j]? = some (ys[j]'(by omega)) := List.getElem?_eq_getElem (by omega)
  exact ⟨_, _, hv, hys, h1.trans hys⟩
/-- a slice as it came in, read as a list: what each element is good for -/
theorem open_list {α : Type} {f : α → List Value} {size : Nat} (hf : ∀ a, (f a).length = size) {Q : DataW H → α → Prop} {t e : TypeId} {v : Value} {d : DataW H} {p : List MemPlace} {fuel : Nat} (ht : P.underlying t = some (.slice e)) (hC : P.cellsOf e = size)
    (hopen : ∀ (n : Nat) (cs : List Value) (x : DataW H × List MemPlace), DataW.trod enc P w base spare held n e cs = some x → cs.length = size → ∃ a, cs = f a ∧ Q x.1 a)
    (h : DataW.trod enc P w base spare held fuel t [v] = some (d, p)) :
    ∃ l : List α, Sl w v l.length size (flat f l) ∧ ((l = [] ∧ d = .nil) ∨ ∃ elems sp : List (DataW H), d = .slice elems sp ∧ elems.length = l.length ∧ ∀ (i : Nat) (a : α), l[i]? = some a → ∃ x, elems[i]? = some x ∧ Q x a) := by
  rcases open_slice ht h with ⟨hcs, hx⟩ | ⟨a, len, cap, m, n, D, Pl, hcs, hb, hl, hm, hmm, hx, hi⟩
  · simp only [List.cons.injEq, and_true] at hcs
    subst hcs
    exact ⟨[], Sl.nil_ w size, .inl ⟨rfl, by simpa using congrArg Prod.fst hx⟩⟩
  · simp only [List.cons.injEq, and_true] at hcs
    subst hcs
    have hlm : len ≤ m := by rw [hmm]; split <;> omega
    obtain ⟨l, hll, hQ⟩ := list_of (Q := fun i (b : α) => At w (a.add (i * size)) (f b) ∧ Q (D i) b) len fun i hil => by
      obtain ⟨cs', hc, htr⟩ := hi i (by omega)
      rw [hC] at hc
      obtain ⟨_, hcl, hat⟩ := World.cells?_some hc
      obtain ⟨b, rfl, hq⟩ := hopen n cs' _ htr hcl
      refine ⟨b, fun j u hj => ?_, hq⟩
      have hjl : j < size := by rw [← hf b]; exact (List.getElem?_eq_some_iff.1 hj).1
      rw [hat j hjl, hj]
    refine ⟨l, ⟨some a, cap, by rw [hll], flat_length f hf l, by omega, (fun h => by cases h), (fun ad had => ?_)⟩, .inr ⟨_, _, congrArg Prod.fst hx, by simp [hll], fun i b hb => ⟨D i, ?_, (hQ i b hb).2⟩⟩⟩
    · cases had
      exact At.flat hf l _ fun i b hb => (hQ i b hb).1
    · have : i < l.length := (List.getElem?_eq_some_iff.1 hb).1
      simp [List.getElem?_range (show i < len by omega)]
end
end SG
/-! Disks: bytes and numbers as they come in. -/
namespace Go.Proofs.Ythohdinjpkehpaa
open Go SG Go.ChangeShapes Go.WideShapes Go.ChangeAt Go.RowKit Go.Lib
set_option linter.unusedVariables false
set_option maxRecDepth 4000
set_option linter.unusedSimpArgs false

theorem own : ownKnob Try.prog.godebug = none := by kernel_rfl
theorem laidOut : laidOutB Try.prog = true := by kernel_rfl
theorem flat_bytes (l : List UInt8) : flat (fun b : UInt8 => [Value.int .u8 (b.toNat : Int)]) l = SG.byteCells l := by
  induction l with
  | nil => rfl
  | cons a l ih => simp only [flat, List.flatMap_cons, SG.byteCells, List.map_cons] at ih ⊢; rw [ih]; rfl
theorem flat_ints (l : List Int) : flat (fun b : Int => [Value.int .i64 b]) l = intC l := by
  induction l with
  | nil => rfl
  | cons a l ih => simp only [flat, List.flatMap_cons, intC, List.map_cons] at ih ⊢; rw [ih]; rfl
section
variable {H : Type} {enc : TypeId × Value → H} {w : World} {base : Nat} {spare : Nat → Bool} {held : Bool}
theorem el_byte (n : Nat) (cs : List Value) (x : DataW H × List MemPlace) (h : DataW.trod enc Try.prog w base spare held n 5 cs = some x) : ∃ a : UInt8, cs = [Value.int .u8 (a.toNat : Int)] ∧ True := by
  obtain ⟨b, rfl, _, wb⟩ := DataW.trod_int Try.underlying5 h
  have wb' : (0 : Int) ≤ b ∧ b ≤ 255 := by simpa [Lit.wf, IntKind.min, IntKind.max, IntKind.signed, IntKind.bits] using wb
  refine ⟨UInt8.ofNat b.toNat, ?_, trivial⟩
  have : (UInt8.ofNat b.toNat).toNat = b.toNat := by simp; omega
  rw [this, Int.toNat_of_nonneg wb'.1]
theorem el_int (n : Nat) (cs : List Value) (x : DataW H × List MemPlace) (h : DataW.trod enc Try.prog w base spare held n 3 cs = some x) : ∃ a : Int, cs = [Value.int .i64 a] ∧ I64 a := by
  obtain ⟨b, rfl, _, wb⟩ := DataW.trod_int Try.underlying3 h
  have wb' : (-9223372036854775808 : Int) ≤ b ∧ b ≤ 9223372036854775807 := by simpa [Lit.wf, IntKind.min, IntKind.max, IntKind.signed, IntKind.bits] using wb
  exact ⟨b, rfl, wb'⟩
theorem open_bytes {v : Value} {d : DataW H} {p : List MemPlace} (h : DataW.Trod enc Try.prog w base spare held 22 v d p) (hone : ∃ a n c, v = .slice a n c) (hw : ∀ n ∈ d.weights Try.prog 22, n ≤ reachBytes) :
    ∃ l : Bys, SlB w v l ∧ True ∧ l.length ≤ 140737488351232 := by
  obtain ⟨fuel, h⟩ := h
  obtain ⟨a, n, c, rfl⟩ := hone
  obtain ⟨l, hs, hc⟩ := open_list (f := fun b : UInt8 => [Value.int .u8 (b.toNat : Int)]) (fun _ => rfl) Try.underlying22 (by kernel_rfl) (Q := fun _ _ => True) (fun n cs x h _ => el_byte n cs x h) h
  rw [flat_bytes] at hs
  rcases hc with ⟨rfl, _⟩ | ⟨elems, sp, rfl, hel, _⟩
  · exact ⟨[], hs, trivial, by simp⟩
  · have hrow := hw _ (weights_row Try.underlying22)
    have hb : Try.prog.bytesOf 5 = 1 := by kernel_rfl
    rw [hb] at hrow
    have hr0 : reachBytes = 140737488351232 := rfl
    exact ⟨l, hs, trivial, by omega⟩
theorem open_ints {v : Value} {d : DataW H} {p : List MemPlace} (h : DataW.Trod enc Try.prog w base spare held 23 v d p) (hone : ∃ a n c, v = .slice a n c) (hw : ∀ n ∈ d.weights Try.prog 23, n ≤ reachBytes) :
    ∃ l : List Int, SlI w v l ∧ (∀ n ∈ l, I64 n) ∧ l.length ≤ 17592186044416 := by
  obtain ⟨fuel, h⟩ := h
  obtain ⟨a, n, c, rfl⟩ := hone
  obtain ⟨l, hs, hc⟩ := open_list (f := fun b : Int => [Value.int .i64 b]) (fun _ => rfl) Try.underlying23 (by kernel_rfl) (Q := fun _ a => I64 a) (fun n cs x h _ => el_int n cs x h) h
  rw [flat_ints] at hs
  rcases hc with ⟨rfl, _⟩ | ⟨elems, sp, rfl, hel, hQ⟩
  · exact ⟨[], hs, (fun n hn => by cases hn), by simp⟩
  · have hrow := hw _ (weights_row Try.underlying23)
    have hb : Try.prog.bytesOf 3 = 8 := by kernel_rfl
    rw [hb] at hrow
    have hr0 : reachBytes = 140737488351232 := rfl
    refine ⟨l, hs, fun n hn => ?_, by omega⟩
    obtain ⟨i, hi⟩ := List.getElem?_of_mem hn
    obtain ⟨x, _, hq⟩ := hQ i n hi
    exact hq
theorem open_i64 {v : Value} {d : DataW H} {p : List MemPlace} {b0 : Nat} (h : DataW.Trod enc Try.prog w base spare held 3 v d p) (hv : Value.okWide Try.prog w .any b0 3 v) : ∃ n : Int, v = .int .i64 n ∧ I64 n := by
  obtain ⟨a, rfl, _, _, wa⟩ := open_int Try.underlying3 hv h
  have wa' : (-9223372036854775808 : Int) ≤ a ∧ a ≤ 9223372036854775807 := by
    have h1 : IntKind.i64.min = -9223372036854775808 := by decide
    have h2 : IntKind.i64.max = 9223372036854775807 := by decide
    simp only [Lit.wf, Bool.and_eq_true, decide_eq_true_eq, h1, h2] at wa
    exact wa
  exact ⟨a, rfl, wa'⟩
end
end Go.Proofs.Ythohdinjpkehpaa
/-! Disks: the law of links, walked. -/
namespace Go.Proofs.Ythohdinjpkehpaa
open Go SG Go.RowKit
set_option linter.unusedVariables false
set_option maxRecDepth 4000
set_option linter.unusedSimpArgs false

theorem sl_midB {w : World} {v : Value} {l : Bys} (h : SlB w v l) {i j : Nat} (hij : i ≤ j) (hj : j ≤ l.length) (k1 k2 : IntKind) : ∃ v', sliceV 1 v (some (.int k1 (i : Int))) (some (.int k2 (j : Int))) = some v' ∧ SlB w v' ((l.drop i).take (j - i)) := by
  obtain ⟨v', h1, h2, _⟩ := sl_mid h hij hj k1 k2
  refine ⟨v', h1, ?_⟩
  have e : ((byteCells l).drop (i * 1)).take ((j - i) * 1) = byteCells ((l.drop i).take (j - i)) := by rw [byteCells_take, byteCells_drop]; simp
  rw [e] at h2
  have hl : ((l.drop i).take (j - i)).length = j - i := by simp; omega
  unfold SlB
  rw [hl]; exact h2
theorem overB_mid {a b : Bys} {n : Nat} (h : n ≤ a.length) : ((overB a n b).drop n).take (n + b.length - n) = b := by
  unfold overB
  rw [List.append_assoc, List.drop_append_of_le_length (by simp; omega), List.drop_of_length_le (by simp; omega), List.nil_append, Nat.add_sub_cancel_left, List.take_append_of_le_length (Nat.le_refl _), List.take_of_length_le (Nat.le_refl _)]
theorem overB_pre {a b : Bys} {n : Nat} (h : n ≤ a.length) : (overB a n b).take n = a.take n := by
  unfold overB
  rw [List.append_assoc, List.take_append_of_le_length (by simp; omega), List.take_take, Nat.min_self]
theorem overB_none (a : Bys) (n : Nat) : overB a n [] = a := by unfold overB; simp
theorem overB_nil (a : Bys) : overB [] 0 a = a := by unfold overB; simp
namespace Lk
def z : Scr := ⟨0, 0, 0⟩
def pa : El := [100, 47, 97]
def pb : El := [101, 47, 98]
def t1 : Dk := ⟨268435456, [⟨[100], [], []⟩], [], z, z⟩
def t2 : Dk := ⟨268435456, [⟨[100], [], []⟩, ⟨[101], [], []⟩], [], z, z⟩
def t3 : Dk := ⟨268435456, [⟨[100], [[]], [([97], 0)]⟩, ⟨[101], [], []⟩], [⟨[], []⟩], z, z⟩
def t4 (f : Fi) : Dk := ⟨268435456, [⟨[100], [[]], [([97], 0)]⟩, ⟨[101], [[]], [([98], 0)]⟩], [f], z, z⟩
def t5 (f : Fi) : Dk := ⟨268435456, [⟨[100], [[], [([97], 0)]], []⟩, ⟨[101], [[]], [([98], 0)]⟩], [f], z, z⟩
def t6 (f : Fi) : Dk := ⟨268435456, [⟨[100], [[], [([97], 0)]], []⟩, ⟨[101], [[], [([98], 0)]], []⟩], [f], z, z⟩
theorem k1 : (Dk.new 268435456).mkdir [100] = (0, t1) := by kernel_rfl
theorem k2 : t1.mkdir [101] = (0, t2) := by kernel_rfl
theorem k3 : t2.create pa = (0, t3) := by kernel_rfl
theorem k4 : t3.link pa pb = (0, t4 ⟨[], []⟩) := by kernel_rfl
theorem fa (f : Fi) : (t4 f).file pa = .ok 0 := by kernel_rfl
theorem fb (f : Fi) : (t4 f).file pb = .ok 0 := by kernel_rfl
theorem i4 (f : Fi) : (items (t4 f).dirs).map (·.2) = [0, 0] := by kernel_rfl
theorem u4 (f : Fi) : (t4 f).used = f.now.length := by
  unfold Dk.used
  rw [i4]
  have : distinct [0, 0] = [0] := by decide
  unfold usedL
  rw [this]
  show f.now.length + 0 = _
  rfl
theorem c4 (f : Fi) : chgV (t4 f) = (0, false) := by kernel_rfl
theorem d4 (f : Fi) : chgD (t4 f) = t4 f := by kernel_rfl
theorem wr4 (f : Fi) (k : Nat) (b : Bys) (hk : k ≤ f.now.length) (hq : max f.now.length (k + b.length) ≤ 268435456) : ∃ f', (t4 f).wr 0 (k : Int) b = (0, t4 f') ∧ f'.now = overB f.now k b := by
  unfold Dk.wr
  have hf : (t4 f).fi 0 = f := rfl
  have hqq : (t4 f).quota = 268435456 := rfl
  rw [hf, c4, d4, u4, hqq, if_neg (by omega), if_neg (by simp only [Int.toNat_natCast]; omega)]
  simp only [Int.toNat_natCast, Bool.false_eq_true, if_false, or_false, true_and]
  by_cases hb : 0 < b.length
  · rw [if_pos hb]
    refine ⟨⟨f.fast, f.ws ++ [(k, b)]⟩, rfl, ?_⟩
    show nowB f.fast (f.ws ++ [(k, b)]) = _
    rw [nowB_app]; rfl
  · rw [if_neg hb]
    have : b = [] := List.length_eq_zero_iff.1 (by omega)
    refine ⟨f, rfl, ?_⟩
    rw [this, overB_none]
theorem k5 (f : Fi) : (t4 f).remove pa = (0, t5 f) := by kernel_rfl
theorem fa5 (f : Fi) : (t5 f).file pa = .error 6 := by kernel_rfl
theorem fb5 (f : Fi) : (t5 f).file pb = .ok 0 := by kernel_rfl
theorem k7 (f : Fi) : (t5 f).remove pb = (0, t6 f) := by kernel_rfl
theorem u6 (f : Fi) : (t6 f).used = 0 := by kernel_rfl
end Lk
set_option maxHeartbeats 8000000 in
/-- the law of links -/
theorem diskLinks {w0 : World} {av bv : Value} {a b : Bys} {n : Nat} (ha : SlB w0 av a) (hb : SlB w0 bv b) (hn : n < 65536) (hla : a.length ≤ 140737488351232) (hlb : b.length ≤ 140737488351232) :
    CallS Try.prog 4 #[av, bv, .int .u16 (n : Int)] (fun v w' => v = .bool true ∧ Ext No w0 w') w0 := by
  refine s4_call hm ?_
  unfold s4
  refine clives fun w1 e1 => pur (not_b _) (condF rfl ?_)
  have ha1 := Sl.no ha e1
  have hb1 := Sl.no hb e1
  refine pur ha1.len (pur (bin_gtr _ _ _) ?_)
  by_cases hA : 4194304 < a.length
  · exact orT (by rw [decide_eq_true_iff]; omega) (condT rfl ⟨rfl, e1⟩)
  refine orF (by rw [decide_eq_false_iff_not]; omega) (pur hb1.len (pur (bin_gtr _ _ _) (pur (pickF _ _) (condD (fun h => ⟨rfl, e1⟩) (fun hB => ?_)))))
  have aA : Arg (fun _ => .ice) w1 av a := Arg.of ha1 fun _ => rfl
  have aB : Arg (fun _ => .ice) w1 bv b := Arg.of hb1 fun _ => rfl
  refine cNew (T := fun _ => .ice) 0 (fun h => by omega) fun w2 T2 g md _ _ hg hx2 k2 => ?_
  refine pur (extract_0 _ _) (pur (extract_1 _ _ _) (pur (bin_neq _ _ _) (orF (by simp) ?_)))
  have W0 := Wf.new 268435456 0 (q := 268435456) (by omega) (by omega)
  refine eq_nil_ptr Try.underlying25 (pur (pickF _ _) (orF rfl ?_))
  have W1 := W0.mkdir [100]
  refine hx2.Mkdir W0 (by omega) fun w3 T3 dm3 hx3 k3 => ?_
  rw [Lk.k1] at W1 hx3 ⊢
  refine pur (bin_neq _ _ _) (pur (pickF _ _) (orF (by simp) ?_))
  have W2 := W1.mkdir [101]
  refine hx3.Mkdir W1 (by omega) fun w4 T4 dm4 hx4 k4 => ?_
  rw [Lk.k2] at W2 hx4 ⊢
  refine pur (bin_neq _ _ _) (pur (pickF _ _) (orF (by simp) ?_))
  have W3 := W2.create Lk.pa
  refine hx4.Create (s := Lk.pa) W2 (by omega) (by decide) fun w5 T5 ad5 hx5 k5 => ?_
  rw [Lk.k3] at W3 hx5 ⊢
  refine pur (bin_neq _ _ _) (pur (pickF _ _) (orF (by simp) ?_))
  have W4 := W3.link Lk.pa Lk.pb
  refine hx5.Link (a := Lk.pa) (b := Lk.pb) W3 (by omega) (by decide) (by decide) fun w6 T6 hx6 k6 => ?_
  rw [Lk.k4] at W4 hx6 ⊢
  refine pur (bin_neq _ _ _) (pur (pickF _ _) (orF (by simp) ?_))
  have k16 : Gon (Ops 0) w1 (fun _ => .ice) w6 T6 := ((((k2.mono (fun _ h => h.elim)).trans k3).trans k4).trans k5).trans k6
  obtain ⟨f1, q1, n1⟩ := Lk.wr4 ⟨[], []⟩ 0 a (Nat.zero_le _) (by show max 0 _ ≤ _; omega)
  have n1' : f1.now = a := n1.trans (overB_nil a)
  refine hx6.Append (s := Lk.pb) W4 (by omega) (by omega) (by decide) (aA.keep k16 Ops.free Ops.ice) (by omega) (fun e w' he e' => (ok_err (Lk.fb _) he).elim) fun i w7 T7 hi hx7 k7 => ?_
  obtain rfl := ok_inj (Lk.fb _) hi
  have W5 := W4.wr (by omega) (file_items (Lk.fb _)) ((((Lk.t4 ⟨[], []⟩).fi 0).now.length : Nat) : Int) a
  rw [show (((Lk.t4 ⟨[], []⟩).fi 0).now.length : Nat) = 0 from rfl, q1] at W5 hx7 ⊢
  refine pur (bin_neq _ _ _) (pur (pickF _ _) (condF (by simp) ?_))
  have ha7 : SlB w7 av a := (((aA.keep k16 Ops.free Ops.ice).keep k7 Ops.free Ops.ice)).1
  -- the place
  refine pur (conv64 (by omega) (by omega)) (pur ha7.len (pur (add64 (c := ((a.length + 1 : Nat) : Int)) (by omega) (by omega) (by omega)) (pur (v := .int .i64 ((n % (a.length + 1) : Nat) : Int)) ((bin_rem _ _ _ (by omega)).trans (by congr 2)) ?_)))
  have hk : n % (a.length + 1) ≤ a.length := by have := Nat.mod_lt n (show 0 < a.length + 1 by omega); omega
  generalize n % (a.length + 1) = m at hk ⊢
  obtain ⟨f2, q2, n2⟩ := Lk.wr4 f1 m b (by rw [n1']; exact hk) (by rw [n1']; omega)
  rw [n1'] at n2
  have k17 := k16.trans k7
  refine hx7.Write (s := Lk.pa) W5 (by omega) (by omega) (by decide) (by omega) (by omega) (aB.keep k17 Ops.free Ops.ice) (by omega) (fun e w' he e' => (ok_err (Lk.fa _) he).elim) fun i w8 T8 hi hx8 k8 => ?_
  obtain rfl := ok_inj (Lk.fa _) hi
  have W6 := W5.wr (by omega) (file_items (Lk.fa _)) (m : Int) b
  rw [q2] at W6 hx8 ⊢
  refine pur (bin_neq _ _ _) (orF (by simp) ?_)
  have k18 := k17.trans k8
  refine hx8.Same (a := Lk.pa) (b := Lk.pb) (by decide) (by decide) fun w9 e9 => ?_
  rw [Lk.fa, Lk.fb]
  refine pur (not_b _) (pur (pickF _ _) (orF (by simp) ?_))
  have hx9 := hx8.no e9
  have k19 : Gon (Ops 0) w1 (fun _ => .ice) w9 T8 := k18.trans (Gon.no e9)
  refine hx9.Used W6 (by omega) fun w10 T10 hx10 k10 => ?_
  rw [Lk.u4, n2]
  have k110 := k19.trans k10.usd
  have ha10 := (aA.keep k110 Ops.free Ops.ice).1
  have hb10 := (aB.keep k110 Ops.free Ops.ice).1
  have hol := overB_len (b := a) (l := b) hk
  refine pur ha10.len (pur hb10.len (pur (add64 (c := ((m + b.length : Nat) : Int)) (by omega) (by omega) (by omega)) (pur (v := .int .i64 ((overB a m b).length : Int)) ((max_int _ _ _ _).trans (by rw [hol]; congr 2; split <;> omega)) (pur (bin_neq _ _ _) (pur (pickF _ _) (condF (by simp) ?_))))))
  -- both are read
  refine hx10.Read (s := Lk.pa) W6 (by omega) (by decide) (fun e w' he hne e' => (ok_err (Lk.fa _) he).elim) fun i xv w11 hi hox e11 => ?_
  obtain rfl := ok_inj (Lk.fa _) hi
  rw [show ((Lk.t4 f2).fi 0) = f2 from rfl, n2] at hox
  refine pur (extract_0 _ _) (pur (extract_1 _ _ _) ?_)
  refine (hx10.no e11).Read (s := Lk.pb) W6 (by omega) (by decide) (fun e w' he hne e' => (ok_err (Lk.fb _) he).elim) fun i yv w12 hi hoy e12 => ?_
  obtain rfl := ok_inj (Lk.fb _) hi
  rw [show ((Lk.t4 f2).fi 0) = f2 from rfl, n2] at hoy
  refine pur (extract_0 _ _) (pur (extract_1 _ _ _) ?_)
  have hx12 := (hx10.no e11).no e12
  have e1012 := e11.trans e12
  have hxs : SlB w12 xv (overB a m b) := Sl.no (Sl.own hox) e12
  have hys : SlB w12 yv (overB a m b) := Sl.own hoy
  have k112 : Gon (Ops 0) w1 (fun _ => .ice) w12 T10 := k110.trans (Gon.no e1012)
  have ed := Ext.drew (S := No) w12
  have hxd := Sl.no hxs ed
  have hyd := Sl.no hys ed
  have had := (aA.keep (k112.trans (Gon.no ed)) Ops.free Ops.ice).1
  have hbd := (aB.keep (k112.trans (Gon.no ed)) Ops.free Ops.ice).1
  refine join1 (fun t w' => t = .bool false ∧ w' = w12.drew) ?_ fun J9 hJ9 => ?_
  rotate_left
  · refine draw (fun w' => w' = w12.drew) rfl (pur (bin_neq _ _ _) (condF (by simp) (pur (bin_neq _ _ _) (pur (pickF _ _) (condF (by simp) ?_)))))
    refine ⟨_, fun w' hh => by rw [hh]; exact str_conv hxd, ⟨_, fun w' hh => by rw [hh]; exact str_conv hyd, pur (neE _ _) (pur (pickF _ _) (condF (by simp) ?_))⟩⟩
    refine pur hbd.len (pur (add64 (c := ((m + b.length : Nat) : Int)) (by omega) (by omega) (by omega)) ?_)
    obtain ⟨v1, s1, s2⟩ := sl_midB hxd (i := m) (j := m + b.length) (by omega) (by rw [hol]; omega) .i64 .i64
    rw [overB_mid hk] at s2
    refine pur s1 ⟨_, fun w' hh => by rw [hh]; exact str_conv s2, ⟨_, fun w' hh => by rw [hh]; exact str_conv hbd, pur (neE _ _) (pur (pickF _ _) (condF (by simp) ?_))⟩⟩
    obtain ⟨v2, s3, s4, _⟩ := sl_takeB hxd (n := m) (by rw [hol]; omega) .i64
    obtain ⟨v3, s5, s6, _⟩ := sl_takeB had (n := m) hk .i64
    rw [overB_pre hk] at s4
    exact pur s3 (pur s5 ⟨_, fun w' hh => by rw [hh]; exact str_conv s4, ⟨_, fun w' hh => by rw [hh]; exact str_conv s6, pur (neE _ _) (pur (pickF _ _) (hJ9 _ _ ⟨by simp, rfl⟩))⟩⟩)
  rintro _ _ ⟨rfl, rfl⟩
  refine condF rfl ?_
  have e10d := e1012.trans ed
  have hx13 := Dx.ff hx10 e10d
  have aX : Arg (ff w10 T10) w12.drew xv (overB a m b) := Arg.row (owns_ext (owns_ext hox e12 fun _ _ hh => hh) ed fun _ _ hh => hh)
  have W7 := W6.remove Lk.pa
  refine hx13.Remove (s := Lk.pa) W6 (by omega) (by decide) fun w14 T14 hx14 k14 => ?_
  rw [Lk.k5] at W7 hx14 ⊢
  refine pur (bin_neq _ _ _) (orF (by simp) ?_)
  refine hx14.Same (a := Lk.pa) (b := Lk.pb) (by decide) (by decide) fun w15 e15 => ?_
  rw [Lk.fa5, Lk.fb5]
  refine pur (pickF _ _) (condF rfl ?_)
  have hx15 := hx14.no e15
  refine hx15.Read (s := Lk.pb) W7 (by omega) (by decide) (fun e w' he hne e' => (ok_err (Lk.fb5 _) he).elim) fun i zv w16 hi hoz e16 => ?_
  obtain rfl := ok_inj (Lk.fb5 _) hi
  rw [show ((Lk.t5 f2).fi 0) = f2 from rfl, n2] at hoz
  refine pur (extract_0 _ _) (pur (extract_1 _ _ _) (pur (bin_eql _ _ _) (andT (by simp) ?_)))
  have hx16 := hx15.no e16
  have e1416 := e15.trans e16
  have hzs : SlB w16 zv (overB a m b) := Sl.own hoz
  have hxz := Sl.no (aX.keep k14 Ops.free Ops.ice).1 e1416
  refine runS (str_conv hzs) (runS (str_conv hxz) (pur (eqE _ _) (pur (pickT _ _) (andT (by simp) ?_))))
  have W8 := W7.remove Lk.pb
  refine hx16.Remove (s := Lk.pb) W7 (by omega) (by decide) fun w17 T17 hx17 k17' => ?_
  rw [Lk.k7] at W8 hx17 ⊢
  refine pur (bin_eql _ _ _) (pur (pickT _ _) (andT (by simp) ?_))
  refine hx17.Used W8 (by omega) fun w18 T18 hx18 k18' => ?_
  rw [Lk.u6]
  refine pur (bin_eql _ _ _) (pur (pickT _ _) ⟨by simp, ?_⟩)
  have kk := ((((k110.trans (Gon.ff e10d)).trans k14).trans (Gon.no e1416)).trans k17').trans k18'.usd
  exact e1.trans (kk.ext.mono fun b hb _ => Ops.ice hb)
end Go.Proofs.Ythohdinjpkehpaa
/-! Disks: the law of a file that is put in its place whole, walked. -/
namespace Go.Proofs.Ythohdinjpkehpaa
open Go SG Go.RowKit
set_option linter.unusedVariables false
set_option maxRecDepth 4000
set_option linter.unusedSimpArgs false

theorem chain {p : Bool} {I' : Bool → World → Prop} {R : Value → World → Prop} {A : (Value → World → Prop) → Prop} {w : World} (h0 : p = false → I' false w) (h1 : p = true → ∀ J : Value → World → Prop, (∀ o w', I' o w' → J (.bool o) w') → A J)
    (hR : ∀ o w', I' o w' → R (.bool o) w') : JoinS (fun t w => PureS (pickV (.bool p) t (.bool false)) fun t' => R t' w) fun J => IfB (.bool p) true (A J) (J undef w) := by
  cases p with
  | false => exact andF rfl (hR _ _ (h0 rfl))
  | true => exact andT rfl (h1 rfl _ fun o w' h => pur (pickT _ _) (hR o w' h))
namespace Wh
open Lk (z)
def it : El := [105, 116]
def nw : El := [105, 116, 46, 110, 101, 119]
def pi : El := [100, 47, 105, 116]
def pn : El := [100, 47, 105, 116, 46, 110, 101, 119]
def G (D : List Di) (fs : List Fi) (x y : Scr) : Dk := ⟨268435456, D, fs, x, y⟩
def E1 : List Di := [⟨[100], [], []⟩]
def E2 : List Di := [⟨[100], [[]], [(it, 0)]⟩]
def D0 : List Di := [⟨[100], [], [(it, 0)]⟩]
def D1 : List Di := [⟨[100], [[(it, 0)]], [(it, 0), (nw, 1)]⟩]
def D2 : List Di := [⟨[100], [[(it, 0)], [(it, 0), (nw, 1)]], [(it, 1)]⟩]
def D3 : List Di := [⟨[100], [], [(it, 1)]⟩]
theorem k1 : (Dk.new 268435456).mkdir [100] = (0, G E1 [] z z) := by kernel_rfl
theorem k2 : (G E1 [] z z).create pi = (0, G E2 [⟨[], []⟩] z z) := by kernel_rfl
theorem f2 (f : Fi) : (G E2 [f] z z).file pi = .ok 0 := by kernel_rfl
theorem i2 (f : Fi) : (items (G E2 [f] z z).dirs).map (·.2) = [0] := by kernel_rfl
theorem c2 (f : Fi) : chgV (G E2 [f] z z) = (0, false) := by kernel_rfl
theorem d2 (f : Fi) : chgD (G E2 [f] z z) = G E2 [f] z z := by kernel_rfl
theorem k3 (b : Bys) (hb : b.length ≤ 268435456) : ∃ f, (G E2 [⟨[], []⟩] z z).wr 0 (0 : Int) b = (0, G E2 [f] z z) ∧ f.now = b := by
  unfold Dk.wr
  have hf : (G E2 [⟨[], []⟩] z z).fi 0 = ⟨[], []⟩ := rfl
  have hn : (⟨[], []⟩ : Fi).now = [] := rfl
  have hqq : (G E2 [⟨[], []⟩] z z).quota = 268435456 := rfl
  have hu : (G E2 [⟨[], []⟩] z z).used = 0 := by kernel_rfl
  rw [hf, c2, d2, hu, hqq, hn, if_neg (by simp), if_neg (by simp; omega)]
  simp only [Bool.false_eq_true, if_false, or_false, true_and]
  by_cases h : 0 < b.length
  · rw [if_pos h]
    refine ⟨⟨[], [(0, b)]⟩, rfl, ?_⟩
    exact overB_nil b
  · rw [if_neg h]
    have : b = [] := List.length_eq_zero_iff.1 (by omega)
    subst this
    exact ⟨⟨[], []⟩, rfl, rfl⟩
theorem k4 (f : Fi) : (G E2 [f] z z).sync 0 = (0, G E2 [⟨f.now, []⟩] z z) := by kernel_rfl
theorem k5 (f : Fi) : (G E2 [f] z z).syncDir [100] = (0, G D0 [f] z z) := by kernel_rfl
section
variable (f g : Fi) (x y : Scr)
theorem s1 : (G D0 [f] x y).create pn = if (chgV (G D0 [f] x y)).1 ≠ 0 then ((chgV (G D0 [f] x y)).1, G D0 [f] x.cnt.2 y.cnt.2) else (0, G D1 [f, ⟨[], []⟩] x.cnt.2 y.cnt.2) := by kernel_rfl
theorem p1 : (G D1 [f, g] x y).file pn = .ok 1 := by kernel_rfl
theorem i1 : (items (G D1 [f, g] x y).dirs).map (·.2) = [0, 1] := by kernel_rfl
theorem s3 : (G D1 [f, g] x y).sync 1 = if (chgV (G D1 [f, g] x y)).1 ≠ 0 then ((chgV (G D1 [f, g] x y)).1, G D1 [f, g] x.cnt.2 y.cnt.2) else (0, G D1 [f, ⟨g.now, []⟩] x.cnt.2 y.cnt.2) := by kernel_rfl
theorem s4 : (G D1 [f, g] x y).rename pn pi = if (chgV (G D1 [f, g] x y)).1 ≠ 0 then ((chgV (G D1 [f, g] x y)).1, G D1 [f, g] x.cnt.2 y.cnt.2) else (0, G D2 [f, g] x.cnt.2 y.cnt.2) := by kernel_rfl
theorem s5 : (G D2 [f, g] x y).syncDir [100] = if (chgV (G D2 [f, g] x y)).1 ≠ 0 then ((chgV (G D2 [f, g] x y)).1, G D2 [f, g] x.cnt.2 y.cnt.2) else (0, G D3 [f, g] x.cnt.2 y.cnt.2) := by kernel_rfl
theorem s2 (b : Bys) (hf : f.now.length ≤ 4194304) (hb : b.length ≤ 4194304) : ∃ e g, (G D1 [f, ⟨[], []⟩] x y).wr 1 (0 : Int) b = (e, G D1 [f, g] x.cnt.2 y.cnt.2) ∧ (e = 0 → g.now = b) := by
  unfold Dk.wr
  have hf1 : (G D1 [f, ⟨[], []⟩] x y).fi 1 = ⟨[], []⟩ := rfl
  have hn : (⟨[], []⟩ : Fi).now = [] := rfl
  have hqq : (G D1 [f, ⟨[], []⟩] x y).quota = 268435456 := rfl
  have hu : (G D1 [f, ⟨[], []⟩] x y).used = f.now.length := by
    unfold Dk.used
    rw [i1]
    have : distinct [0, 1] = [0, 1] := by decide
    unfold usedL
    rw [this]
    show f.now.length + (0 + 0) = _
    rfl
  have hd : chgD (G D1 [f, ⟨[], []⟩] x y) = G D1 [f, ⟨[], []⟩] x.cnt.2 y.cnt.2 := rfl
  rw [hf1, hd, hu, hqq, hn, if_neg (by simp), if_neg (by simp; omega)]
  generalize hc : chgV (G D1 [f, ⟨[], []⟩] x y) = c
  obtain ⟨e, hh⟩ := c
  have h0 : e = 0 → hh = false := fun he => by
    have := chgV_half (st := G D1 [f, ⟨[], []⟩] x y) (by rw [hc]; exact he)
    rw [hc] at this; exact this
  simp only
  generalize hbe : (if hh = true then b.take (b.length / 2) else b) = b'
  have hbb : e = 0 → b' = b := fun he => by rw [← hbe, h0 he]; rfl
  by_cases h : (e = 0 ∨ hh = true) ∧ 0 < b'.length
  · rw [if_pos h]
    refine ⟨e, ⟨[], [(0, b')]⟩, rfl, fun he => ?_⟩
    rw [← hbb he]
    exact overB_nil b'
  · rw [if_neg h]
    refine ⟨e, ⟨[], []⟩, rfl, fun he => ?_⟩
    have h2 : ¬ 0 < b'.length := fun hp => h ⟨.inl he, hp⟩
    have : b' = [] := List.length_eq_zero_iff.1 (by omega)
    rw [← hbb he, this]; rfl
end
/-- what a crash leaves of it -/
def Good (old fresh : Bys) (ok : Bool) (st : Dk) : Prop := ∀ kl cl, ∃ i, (st.crash kl cl).file pi = .ok i ∧ (((st.crash kl cl).fi i).now = old ∨ ((st.crash kl cl).fi i).now = fresh) ∧ (ok = true → ((st.crash kl cl).fi i).now = fresh)
theorem cd1 (D : Di) (hw : D.was ≠ []) (cl : List Int) : ∃ y, (y = D.now ∨ y ∈ D.was) ∧ crashDirs [D] cl 0 = [⟨D.name, [], y⟩] := by
  refine ⟨(D.was[stayN D cl 0]?).getD D.now, ?_, ?_⟩
  · cases h : D.was[stayN D cl 0]? with
    | none => exact .inl rfl
    | some y => exact .inr (List.mem_of_getElem? h)
  · rw [crashDirs, if_neg hw]; rfl
theorem step_calm {l : List Int} {s : List Fi × Nat} {i : Nat} {b : Bys} (h : fiOf s.1 i = ⟨b, []⟩) : crashStep l s i = s := by
  unfold crashStep
  have : (fiOf s.1 i).openI = 0 := by rw [h]; unfold Fi.openI Fi.open; exact wi64 (by simp) (by simp)
  rw [if_neg (by omega)]
section
variable {old fresh : Bys} {x y : Scr}
theorem crash_eq {D : List Di} {fs : List Fi} {kl cl : List Int} {D' : List Di} (h : crashDirs D cl 0 = D') : (G D fs x y).crash kl cl = ⟨268435456, D', (crashFold kl fs ((items D').map (·.2))).1, z, z⟩ := by
  subst h; rfl
theorem g0 : Good old fresh false (G D0 [⟨old, []⟩] x y) := fun kl cl => by
  rw [crash_eq (D' := D0) rfl]
  have h : crashFold kl [⟨old, []⟩] ((items D0).map (·.2)) = ([⟨old, []⟩], 0) := by
    show crashStep kl ([⟨old, []⟩], 0) 0 = _
    exact step_calm (b := old) rfl
  rw [h]
  exact ⟨0, by kernel_rfl, .inl rfl, fun h => by cases h⟩
theorem g1 (g : Fi) : Good old fresh false (G D1 [⟨old, []⟩, g] x y) := fun kl cl => by
  obtain ⟨w, hw, hd⟩ := cd1 ⟨[100], [[(it, 0)]], [(it, 0), (nw, 1)]⟩ (by simp) cl
  rw [crash_eq (D := D1) hd]
  have hw' : w = [(it, 0), (nw, 1)] ∨ w = [(it, 0)] := by
    rcases hw with rfl | hw
    · exact .inl rfl
    · exact .inr (by simpa using hw)
  have c0 : crashStep kl ([⟨old, []⟩, g], 0) 0 = ([⟨old, []⟩, g], 0) := step_calm (b := old) rfl
  rcases hw' with rfl | rfl
  · have h : ∃ g' n, crashFold kl [⟨old, []⟩, g] ((items [⟨[100], [], [(it, 0), (nw, 1)]⟩]).map (·.2)) = ([⟨old, []⟩, g'], n) := by
      have e : crashFold kl [⟨old, []⟩, g] ((items [⟨[100], [], [(it, 0), (nw, 1)]⟩]).map (·.2)) = crashStep kl (crashStep kl ([⟨old, []⟩, g], 0) 0) 1 := by kernel_rfl
      rw [e, c0]
      unfold crashStep
      split
      · exact ⟨_, _, rfl⟩
      · exact ⟨_, _, rfl⟩
    obtain ⟨g', n, h⟩ := h
    rw [h]
    exact ⟨0, by kernel_rfl, .inl rfl, fun h => by cases h⟩
  · have h : crashFold kl [⟨old, []⟩, g] ((items [⟨[100], [], [(it, 0)]⟩]).map (·.2)) = ([⟨old, []⟩, g], 0) := c0
    rw [h]
    exact ⟨0, by kernel_rfl, .inl rfl, fun h => by cases h⟩
theorem g2 : Good old fresh false (G D2 [⟨old, []⟩, ⟨fresh, []⟩] x y) := fun kl cl => by
  obtain ⟨w, hw, hd⟩ := cd1 ⟨[100], [[(it, 0)], [(it, 0), (nw, 1)]], [(it, 1)]⟩ (by simp) cl
  rw [crash_eq (D := D2) hd]
  have hw' : w = [(it, 1)] ∨ w = [(it, 0)] ∨ w = [(it, 0), (nw, 1)] := by
    rcases hw with rfl | hw
    · exact .inl rfl
    · exact .inr (by simpa using hw)
  have c0 : crashStep kl ([⟨old, []⟩, ⟨fresh, []⟩], 0) 0 = ([⟨old, []⟩, ⟨fresh, []⟩], 0) := step_calm (b := old) rfl
  have c1 : crashStep kl ([⟨old, []⟩, ⟨fresh, []⟩], 0) 1 = ([⟨old, []⟩, ⟨fresh, []⟩], 0) := step_calm (b := fresh) rfl
  rcases hw' with rfl | rfl | rfl
  · have h : crashFold kl [⟨old, []⟩, ⟨fresh, []⟩] ((items [⟨[100], [], [(it, 1)]⟩]).map (·.2)) = ([⟨old, []⟩, ⟨fresh, []⟩], 0) := c1
    rw [h]
    exact ⟨1, by kernel_rfl, .inr rfl, fun h => by cases h⟩
  · have h : crashFold kl [⟨old, []⟩, ⟨fresh, []⟩] ((items [⟨[100], [], [(it, 0)]⟩]).map (·.2)) = ([⟨old, []⟩, ⟨fresh, []⟩], 0) := c0
    rw [h]
    exact ⟨0, by kernel_rfl, .inl rfl, fun h => by cases h⟩
  · have h : crashFold kl [⟨old, []⟩, ⟨fresh, []⟩] ((items [⟨[100], [], [(it, 0), (nw, 1)]⟩]).map (·.2)) = ([⟨old, []⟩, ⟨fresh, []⟩], 0) := by
      have e : crashFold kl [⟨old, []⟩, ⟨fresh, []⟩] ((items [⟨[100], [], [(it, 0), (nw, 1)]⟩]).map (·.2)) = crashStep kl (crashStep kl ([⟨old, []⟩, ⟨fresh, []⟩], 0) 0) 1 := by kernel_rfl
      rw [e, c0, c1]
    rw [h]
    exact ⟨0, by kernel_rfl, .inl rfl, fun h => by cases h⟩
theorem g3 : Good old fresh true (G D3 [⟨old, []⟩, ⟨fresh, []⟩] x y) := fun kl cl => by
  rw [crash_eq (D' := D3) rfl]
  have h : crashFold kl [⟨old, []⟩, ⟨fresh, []⟩] ((items D3).map (·.2)) = ([⟨old, []⟩, ⟨fresh, []⟩], 0) := by
    show crashStep kl ([⟨old, []⟩, ⟨fresh, []⟩], 0) 1 = _
    exact step_calm (b := fresh) rfl
  rw [h]
  exact ⟨1, by kernel_rfl, .inr rfl, fun _ => rfl⟩
end
end Wh
/-- a disk in some state -/
def StW (w1 : World) (g n : Nat) (Ph : Bool → Dk → Prop) (o : Bool) (w' : World) : Prop := ∃ st T', Dsk T' 0 w' g st ∧ Wf 268435456 n st ∧ Ph o st ∧ Gon (Ops 0) w1 (fun _ => .ice) w' T'
set_option maxHeartbeats 8000000 in
/-- the law of a file that is put in its place whole -/
theorem diskWhole {w0 : World} {ov fv kv cv : Value} {old fresh : Bys} {kl cl : List Int} {stop : Int} (ho : SlB w0 ov old) (hf : SlB w0 fv fresh) (hk : SlI w0 kv kl) (hc : SlI w0 cv cl) (hst : I64 stop) (hki : ∀ n ∈ kl, I64 n) (hci : ∀ n ∈ cl, I64 n) (hlo : old.length ≤ 140737488351232) (hlf : fresh.length ≤ 140737488351232)
    (hlk : kl.length ≤ 17592186044416) (hlc : cl.length ≤ 17592186044416) : CallS Try.prog 3 #[ov, fv, .int .i64 stop, kv, cv] (fun v w' => v = .bool true ∧ Ext No w0 w') w0 := by
  refine s3_call hm ?_
  unfold s3
  refine clives fun w1 e1 => pur (not_b _) (condF rfl ?_)
  have ho1 := Sl.no ho e1
  have hf1 := Sl.no hf e1
  refine pur ho1.len (pur (bin_gtr _ _ _) ?_)
  by_cases hA : 4194304 < old.length
  · exact orT (by rw [decide_eq_true_iff]; omega) (condT rfl ⟨rfl, e1⟩)
  refine orF (by rw [decide_eq_false_iff_not]; omega) (pur hf1.len (pur (bin_gtr _ _ _) (pur (pickF _ _) (condD (fun h => ⟨rfl, e1⟩) (fun hB => ?_)))))
  have aO : Arg (fun _ => .ice) w1 ov old := Arg.of ho1 fun _ => rfl
  have aF : Arg (fun _ => .ice) w1 fv fresh := Arg.of hf1 fun _ => rfl
  have aK : ArgI (fun _ => .ice) w1 kv kl := ArgI.of (Sl.no hk e1) fun _ => rfl
  have aC : ArgI (fun _ => .ice) w1 cv cl := ArgI.of (Sl.no hc e1) fun _ => rfl
  refine cNew (T := fun _ => .ice) 0 (fun h => by omega) fun w2 T2 g md _ _ hg hx2 k2 => ?_
  refine pur (extract_0 _ _) (pur (extract_1 _ _ _) (pur (bin_neq _ _ _) (orF (by simp) ?_)))
  have W0 := Wf.new 268435456 0 (q := 268435456) (by omega) (by omega)
  refine eq_nil_ptr Try.underlying25 (pur (pickF _ _) (orF rfl ?_))
  have W1 := W0.mkdir [100]
  refine hx2.Mkdir W0 (by omega) fun w3 T3 dm3 hx3 k3 => ?_
  rw [Wh.k1] at W1 hx3 ⊢
  refine pur (bin_neq _ _ _) (pur (pickF _ _) (orF (by simp) ?_))
  have W2 := W1.create Wh.pi
  refine hx3.Create (s := Wh.pi) W1 (by omega) (by decide) fun w4 T4 ad4 hx4 k4 => ?_
  rw [Wh.k2] at W2 hx4 ⊢
  refine pur (bin_neq _ _ _) (pur (pickF _ _) (orF (by simp) ?_))
  have k14 : Gon (Ops 0) w1 (fun _ => .ice) w4 T4 := ((k2.mono (fun _ h => h.elim)).trans k3).trans k4
  obtain ⟨f1, q1, n1⟩ := Wh.k3 old (by omega)
  refine hx4.Append (s := Wh.pi) W2 (by omega) (by omega) (by decide) (aO.keep k14 Ops.free Ops.ice) (by omega) (fun e w' he e' => (ok_err (Wh.f2 _) he).elim) fun i w5 T5 hi hx5 k5 => ?_
  obtain rfl := ok_inj (Wh.f2 _) hi
  have W3 := W2.wr (by omega) (file_items (Wh.f2 _)) 0 old
  have e0 : ((((Wh.G Wh.E2 [⟨[], []⟩] Lk.z Lk.z).fi 0).now.length : Nat) : Int) = 0 := rfl
  rw [e0] at hx5 ⊢
  rw [q1] at W3 hx5 ⊢
  refine pur (bin_neq _ _ _) (pur (pickF _ _) (orF (by simp) ?_))
  refine hx5.Sync (s := Wh.pi) W3 (by omega) (by decide) (fun e w' he e' => (ok_err (Wh.f2 _) he).elim) fun i w6 T6 hi hx6 k6 => ?_
  obtain rfl := ok_inj (Wh.f2 _) hi
  have W4 := W3.sync 0
  rw [Wh.k4, n1] at W4 hx6
  rw [Wh.k4]
  refine pur (bin_neq _ _ _) (pur (pickF _ _) (orF (by simp) ?_))
  refine hx6.SyncDir (s := [100]) W4 (by omega) fun w7 T7 hx7 k7 => ?_
  have W5 := W4.syncDir [100]
  rw [Wh.k5] at W5 hx7 ⊢
  refine pur (bin_neq _ _ _) (pur (pickF _ _) (condF (by simp) ?_))
  refine hx7.Stop fun w8 hx8 k8 => ?_
  have k18 := (((k14.trans k5).trans k6).trans k7).trans k8
  have W6 : Wf 268435456 8 (Wh.G Wh.D0 [⟨old, []⟩] Lk.z ⟨stop, -1, 0⟩) := { W5.mono (m := 8) (by omega) with stop := ⟨hst.1, hst.2, Int.le_refl _, by show (0 : Int) ≤ _; omega⟩ }
  have hx8' : Dx T7 0 w8 g (Wh.G Wh.D0 [⟨old, []⟩] Lk.z ⟨stop, -1, 0⟩) md dm3 ad4 := hx8
  -- it is made
  refine hx8'.Create (s := Wh.pn) W6 (by omega) (by decide) fun w9 T9 ad9 hx9 k9 => ?_
  have W7 := W6.create Wh.pn
  let Ph1 : Bool → Dk → Prop := fun o st => (o = false → Wh.Good old fresh false st) ∧ (o = true → ∃ x y, st = Wh.G Wh.D1 [⟨old, []⟩, ⟨[], []⟩] x y)
  have P1 : Ph1 (decide (((Wh.G Wh.D0 [⟨old, []⟩] Lk.z ⟨stop, -1, 0⟩).create Wh.pn).1 = 0)) ((Wh.G Wh.D0 [⟨old, []⟩] Lk.z ⟨stop, -1, 0⟩).create Wh.pn).2 := by
    rw [Wh.s1]
    split
    · rename_i h
      exact ⟨fun _ => Wh.g0, fun h' => absurd (of_decide_eq_true h') h⟩
    · exact ⟨fun h' => absurd rfl (of_decide_eq_false h'), fun _ => ⟨_, _, rfl⟩⟩
  have S1 : StW w1 g 9 Ph1 (decide (((Wh.G Wh.D0 [⟨old, []⟩] Lk.z ⟨stop, -1, 0⟩).create Wh.pn).1 = 0)) w9 := ⟨_, T9, ⟨_, _, _, hx9⟩, W7, P1, k18.trans k9⟩
  refine pur (bin_eql _ _ _) ?_
  generalize decide (((Wh.G Wh.D0 [⟨old, []⟩] Lk.z ⟨stop, -1, 0⟩).create Wh.pn).1 = 0) = o1 at S1 ⊢
  clear hx9 W7 P1 k9
  -- bytes
  let Ph2 : Bool → Dk → Prop := fun o st => (o = false → Wh.Good old fresh false st) ∧ (o = true → ∃ f x y, f.now = fresh ∧ st = Wh.G Wh.D1 [⟨old, []⟩, f] x y)
  refine chain (I' := StW w1 g 10 Ph2) (fun h => ?_) (fun h J hJ => ?_) fun o2 w10 S2 => ?_
  · obtain ⟨st, T', a1, a2, a3, a4⟩ := S1
    exact ⟨st, T', a1, a2.mono (by omega), ⟨fun _ => a3.1 h, fun h => by cases h⟩, a4⟩
  · obtain ⟨st, T', ⟨md', dm', ad', a1⟩, a2, a3, a4⟩ := S1
    obtain ⟨x, y, rfl⟩ := a3.2 h
    obtain ⟨e, f', q2, n2⟩ := Wh.s2 ⟨old, []⟩ x y fresh (by show old.length ≤ _; omega) (by omega)
    refine a1.Append (s := Wh.pn) a2 (by omega) (by omega) (by decide) (aF.keep a4 Ops.free Ops.ice) (by omega) (fun e w' he e' => (ok_err (Wh.p1 _ _ _ _) he).elim) fun i w10 T10 hi hx10 k10 => ?_
    obtain rfl := ok_inj (Wh.p1 _ _ _ _) hi
    have W8 := a2.wr (by omega) (file_items (Wh.p1 _ _ _ _)) 0 fresh
    have e1' : ((((Wh.G Wh.D1 [⟨old, []⟩, ⟨[], []⟩] x y).fi 1).now.length : Nat) : Int) = 0 := rfl
    rw [e1'] at hx10 ⊢
    rw [q2] at W8 hx10 ⊢
    refine pur (bin_eql _ _ _) (hJ _ _ ⟨_, T10, ⟨_, _, _, hx10⟩, W8, ⟨fun _ => Wh.g1 _, fun h => ⟨f', _, _, n2 (of_decide_eq_true h), rfl⟩⟩, a4.trans k10⟩)
  -- synced
  let Ph3 : Bool → Dk → Prop := fun o st => (o = false → Wh.Good old fresh false st) ∧ (o = true → ∃ x y, st = Wh.G Wh.D1 [⟨old, []⟩, ⟨fresh, []⟩] x y)
  refine chain (I' := StW w1 g 11 Ph3) (fun h => ?_) (fun h J hJ => ?_) fun o3 w11 S3 => ?_
  · obtain ⟨st, T', a1, a2, a3, a4⟩ := S2
    exact ⟨st, T', a1, a2.mono (by omega), ⟨fun _ => a3.1 h, fun h => by cases h⟩, a4⟩
  · obtain ⟨st, T', ⟨md', dm', ad', a1⟩, a2, a3, a4⟩ := S2
    obtain ⟨f, x, y, hfn, rfl⟩ := a3.2 h
    refine a1.Sync (s := Wh.pn) a2 (by omega) (by decide) (fun e w' he e' => (ok_err (Wh.p1 _ _ _ _) he).elim) fun i w10 T10 hi hx10 k10 => ?_
    obtain rfl := ok_inj (Wh.p1 _ _ _ _) hi
    have W8 := a2.sync 1
    have P3 : Ph3 (decide (((Wh.G Wh.D1 [⟨old, []⟩, f] x y).sync 1).1 = 0)) ((Wh.G Wh.D1 [⟨old, []⟩, f] x y).sync 1).2 := by
      rw [Wh.s3]
      split
      · rename_i h
        exact ⟨fun _ => Wh.g1 _, fun h' => absurd (of_decide_eq_true h') h⟩
      · exact ⟨fun h' => absurd rfl (of_decide_eq_false h'), fun _ => ⟨_, _, by rw [hfn]⟩⟩
    exact pur (bin_eql _ _ _) (hJ _ _ ⟨_, T10, ⟨_, _, _, hx10⟩, W8, P3, a4.trans k10⟩)
  -- renamed
  let Ph4 : Bool → Dk → Prop := fun o st => (o = false → Wh.Good old fresh false st) ∧ (o = true → ∃ x y, st = Wh.G Wh.D2 [⟨old, []⟩, ⟨fresh, []⟩] x y)
  refine chain (I' := StW w1 g 12 Ph4) (fun h => ?_) (fun h J hJ => ?_) fun o4 w12 S4 => ?_
  · obtain ⟨st, T', a1, a2, a3, a4⟩ := S3
    exact ⟨st, T', a1, a2.mono (by omega), ⟨fun _ => a3.1 h, fun h => by cases h⟩, a4⟩
  · obtain ⟨st, T', ⟨md', dm', ad', a1⟩, a2, a3, a4⟩ := S3
    obtain ⟨x, y, rfl⟩ := a3.2 h
    refine a1.Rename (a := Wh.pn) (b := Wh.pi) a2 (by omega) (by decide) (by decide) fun w10 T10 hx10 k10 => ?_
    have W8 := a2.rename Wh.pn Wh.pi
    have P4 : Ph4 (decide (((Wh.G Wh.D1 [⟨old, []⟩, ⟨fresh, []⟩] x y).rename Wh.pn Wh.pi).1 = 0)) ((Wh.G Wh.D1 [⟨old, []⟩, ⟨fresh, []⟩] x y).rename Wh.pn Wh.pi).2 := by
      rw [Wh.s4]
      split
      · rename_i h
        exact ⟨fun _ => Wh.g1 _, fun h' => absurd (of_decide_eq_true h') h⟩
      · exact ⟨fun h' => absurd rfl (of_decide_eq_false h'), fun _ => ⟨_, _, rfl⟩⟩
    exact pur (bin_eql _ _ _) (hJ _ _ ⟨_, T10, ⟨_, _, _, hx10⟩, W8, P4, a4.trans k10⟩)
  -- the directory synced
  refine chain (I' := StW w1 g 13 (Wh.Good old fresh)) (fun h => ?_) (fun h J hJ => ?_) fun o5 w13 S5 => ?_
  · obtain ⟨st, T', a1, a2, a3, a4⟩ := S4
    exact ⟨st, T', a1, a2.mono (by omega), a3.1 h, a4⟩
  · obtain ⟨st, T', ⟨md', dm', ad', a1⟩, a2, a3, a4⟩ := S4
    obtain ⟨x, y, rfl⟩ := a3.2 h
    refine a1.SyncDir (s := [100]) a2 (by omega) fun w10 T10 hx10 k10 => ?_
    have W8 := a2.syncDir [100]
    have P5 : Wh.Good old fresh (decide (((Wh.G Wh.D2 [⟨old, []⟩, ⟨fresh, []⟩] x y).syncDir [100]).1 = 0)) ((Wh.G Wh.D2 [⟨old, []⟩, ⟨fresh, []⟩] x y).syncDir [100]).2 := by
      rw [Wh.s5]
      split
      · rename_i h
        rw [decide_eq_false h]; exact Wh.g2
      · exact Wh.g3
    exact pur (bin_eql _ _ _) (hJ _ _ ⟨_, T10, ⟨_, _, _, hx10⟩, W8, P5, a4.trans k10⟩)
  -- the crash
  obtain ⟨st, T', ⟨md', dm', ad', a1⟩, a2, a3, a4⟩ := S5
  refine a1.Crash a2 (by omega) (by omega) (aK.keep a4 Ops.free Ops.ice) (aC.keep a4 Ops.free Ops.ice) hki hci (by omega) (by omega) fun w14 T14 hx14 k14' => ?_
  have W9 := a2.crash kl cl
  obtain ⟨i, hi, hor, hok⟩ := a3 kl cl
  refine hx14.Read (s := Wh.pi) W9 (by omega) (by decide) (fun e w' he hne e' => (ok_err hi he).elim) fun i' bv w15 hi' hob e15 => ?_
  obtain rfl := ok_inj hi hi'
  generalize hbb : ((st.crash kl cl).fi i).now = bb at *
  have kA := a4.trans k14'
  have hfin : Ext No w0 w15 := e1.trans ((kA.ext.mono fun b hb _ => Ops.ice hb).trans e15)
  have hbs : SlB w15 bv bb := Sl.own hob
  have hos := Sl.no (aO.keep kA Ops.free Ops.ice).1 e15
  have hfs := Sl.no (aF.keep kA Ops.free Ops.ice).1 e15
  refine pur (extract_0 _ _) (pur (extract_1 _ _ _) (pur (bin_neq _ _ _) ?_))
  refine join1 (fun t w' => t = .bool o5 ∧ w15 = w') ?_ fun J11 hJ11 => by
    rw [ifB_eq, if_pos (by simp)]; exact hJ11 _ _ ⟨rfl, rfl⟩
  rintro _ _ ⟨rfl, rfl⟩
  refine join1 (fun t w' => w15 = w' ∧ (o5 = true → t = .bool false)) ?_ fun J12 hJ12 => ?_
  rotate_left
  · rw [ifB_eq]
    cases ho5 : o5 with
    | false => rw [if_neg (by simp)]; exact hJ12 _ _ ⟨rfl, fun h => by rw [ho5] at h; cases h⟩
    | true =>
      rw [if_pos rfl]
      exact runS (str_conv hbs) (runS (str_conv hfs) (pur (neE _ _) (hJ12 _ _ ⟨rfl, fun _ => by simp [hok ho5]⟩)))
  rintro t _ ⟨rfl, ht⟩
  refine join1 (fun t w' => w15 = w' ∧ t = .bool false) ?_ fun J13 hJ13 => ?_
  rotate_left
  · rw [ifB_eq, if_pos (by simp)]
    refine pur (v := .bool false) ((pick_b _ _ _).trans ?_) (hJ13 _ _ ⟨rfl, rfl⟩)
    cases ho5 : o5 with
    | false => rfl
    | true => rw [ht ho5]; rfl
  rintro _ _ ⟨rfl, rfl⟩
  refine pur (pick_b _ _ _) (condF (by simp) ?_)
  refine runS (str_conv hbs) (runS (str_conv hos) (pur (eqE _ _) ?_))
  by_cases h1 : bb = old
  · exact orT (by simp [h1]) ⟨rfl, hfin⟩
  · refine orF (by simp [h1]) (runS (str_conv hbs) (runS (str_conv hfs) (pur (eqE _ _) (pur (pickF _ _) ⟨?_, hfin⟩))))
    simp [hor.resolve_left h1]
end Go.Proofs.Ythohdinjpkehpaa
/-! Disks: the arguments of the laws of links and wholeness. -/
namespace Go.Proofs.Ythohdinjpkehpaa
open Go SG Go.ChangeShapes Go.WideShapes Go.ChangeAt Go.RowKit Go.Lib
set_option linter.unusedVariables false
set_option maxRecDepth 100000
theorem open_u16 {H : Type} {enc : TypeId × Value → H} {w : World} {base : Nat} {spare : Nat → Bool} {held : Bool} {v : Value} {d : DataW H} {p : List MemPlace} {b0 : Nat} (h : DataW.Trod enc Try.prog w base spare held 37 v d p) (hv : Value.okWide Try.prog w .any b0 37 v) : ∃ n : Nat, v = .int .u16 (n : Int) ∧ n < 65536 := by
  obtain ⟨a, rfl, _, _, wa⟩ := open_int Try.underlying37 hv h
  have wa' : (0 : Int) ≤ a ∧ a ≤ 65535 := by
    have h1 : IntKind.u16.min = 0 := by decide
    have h2 : IntKind.u16.max = 65535 := by decide
    simp only [Lit.wf, Bool.and_eq_true, decide_eq_true_eq, h1, h2] at wa
    exact wa
  exact ⟨a.toNat, by rw [Int.toNat_of_nonneg wa'.1], by omega⟩
theorem wholeIn {w0 : World} {ov fv kv cv : Value} {old fresh : Bys} {kl cl : List Int} {stop : Int} (ho : SlB w0 ov old) (hf : SlB w0 fv fresh) (hk : SlI w0 kv kl) (hc : SlI w0 cv cl) (_ : True) (_ : True) (hst : I64 stop) (hki : ∀ n ∈ kl, I64 n) (hci : ∀ n ∈ cl, I64 n) (hlo : old.length ≤ 140737488351232) (hlf : fresh.length ≤ 140737488351232)
    (hlk : kl.length ≤ 17592186044416) (hlc : cl.length ≤ 17592186044416) : CallS Try.prog 3 #[ov, fv, .int .i64 stop, kv, cv] (fun v w' => v = .bool true ∧ Ext No w0 w') w0 := diskWhole ho hf hk hc hst hki hci hlo hlf hlk hlc
theorem linksIn {w0 : World} {av bv : Value} {a b : Bys} {n : Nat} (ha : SlB w0 av a) (hb : SlB w0 bv b) (_ : True) (_ : True) (hn : n < 65536) (hla : a.length ≤ 140737488351232) (hlb : b.length ≤ 140737488351232) :
    CallS Try.prog 4 #[av, bv, .int .u16 (n : Int)] (fun v w' => v = .bool true ∧ Ext No w0 w') w0 := diskLinks ha hb hn hla hlb
end Go.Proofs.Ythohdinjpkehpaa
namespace Go.Proofs.Ythohdinjpkehpaa
open Go SG Go.ChangeShapes Go.WideShapes Go.ChangeAt Go.RowKit Go.Lib
set_option linter.unusedVariables false
set_option linter.unusedSimpArgs false

set_option maxRecDepth 100000 in
theorem diskWholeLifted (os : Os) (started : os.Started) (H : Type) (enc : TypeId × Value → H) :
    ReturnsInHanded {} Try.checked os 3 .any (Rows.diskWholeSpec.pre6 enc Try.prog Try.f3 Rows.diskWholeRow.domain false) (Rows.diskWholeSpec.post enc Try.prog Try.f3 false true false false) := by
  refine returnsInHanded_of_change_sized (C := Try.checked) own started (by kernel_rfl) Try.func3
    (ChangeSpec.witness6 (enc := enc) (C := Try.checked) false ⟨#[], #[.slice none 0 0, .slice none 0 0, .int .i64 0, .slice none 0 0, .slice none 0 0], []⟩ 8 (by kernel_rfl) (by kernel_rfl) (by kernel_rfl) (by kernel_rfl)) ?_
  intro W base args ds gs before hval0 hW hcnd hwt0 _
  have hval : ∀ (j : Nat) t v, Try.f3.params[j]? = some t → args[j]? = some v → Value.okWide Try.prog W .any base t v := hval0
  have hwt : (DataW.weightsEach Try.prog (Try.f3.params.toList ++ Rows.diskWholeSpec.plain.varTypes Try.prog) (ds ++ gs)).all (· ≤ reachBytes) = true := hwt0
  have hW' := hW
  obtain ⟨p, q, hA0, hV, rfl, hfz, hnd⟩ := hW
  have hA : DataW.TrodAll enc Try.prog W 0 (fun _ => true) true Try.f3.params.toList args.toList ds p := hA0
  rw [Try.params3] at hA hval hwt
  obtain ⟨v0, vs0, d0, ds0, p0, q0, hargs, rfl, rfl, h0, r0⟩ := trodAll_cons hA
  obtain ⟨v1, vs1, d1, ds1, p1, q1, rfl, rfl, rfl, h1, r1⟩ := trodAll_cons r0
  obtain ⟨v2, vs2, d2, ds2, p2, q2, rfl, rfl, rfl, h2, r2⟩ := trodAll_cons r1
  obtain ⟨v3, vs3, d3, ds3, p3, q3, rfl, rfl, rfl, h3, r3⟩ := trodAll_cons r2
  obtain ⟨v4, vs4, d4, ds4, p4, q4, rfl, rfl, rfl, h4, r4⟩ := trodAll_cons r3
  obtain ⟨rfl, rfl, rfl⟩ := trodAll_nil r4
  obtain rfl : args = #[v0, v1, v2, v3, v4] := by cases args; simp_all
  obtain ⟨rfl, rfl⟩ := trodVars_none hV
  have lt0 : ∀ x ∈ p0, x.block < W.heap.size := by obtain ⟨m, hm⟩ := h0; exact DataW.trod_lt m _ _ _ hm
  have lt1 : ∀ x ∈ p1, x.block < W.heap.size := by obtain ⟨m, hm⟩ := h1; exact DataW.trod_lt m _ _ _ hm
  have lt2 : ∀ x ∈ p2, x.block < W.heap.size := by obtain ⟨m, hm⟩ := h2; exact DataW.trod_lt m _ _ _ hm
  have lt3 : ∀ x ∈ p3, x.block < W.heap.size := by obtain ⟨m, hm⟩ := h3; exact DataW.trod_lt m _ _ _ hm
  have lt4 : ∀ x ∈ p4, x.block < W.heap.size := by obtain ⟨m, hm⟩ := h4; exact DataW.trod_lt m _ _ _ hm
  obtain ⟨rs0, s0, k0, l0⟩ := open_bytes h0 (okWide_slice Try.underlying22 (hval 0 22 v0 rfl rfl)) (weights_le hwt (j := 0) rfl rfl)
  obtain ⟨rs1, s1, k1, l1⟩ := open_bytes h1 (okWide_slice Try.underlying22 (hval 1 22 v1 rfl rfl)) (weights_le hwt (j := 1) rfl rfl)
  obtain ⟨a2, rfl, k2⟩ := open_i64 h2 (hval 2 3 v2 rfl rfl)
  obtain ⟨rs3, s3, k3, l3⟩ := open_ints h3 (okWide_slice Try.underlying23 (hval 3 23 v3 rfl rfl)) (weights_le hwt (j := 3) rfl rfl)
  obtain ⟨rs4, s4, k4, l4⟩ := open_ints h4 (okWide_slice Try.underlying23 (hval 4 23 v4 rfl rfl)) (weights_le hwt (j := 4) rfl rfl)
  clear hA0 hval0 hwt0
  refine (wholeIn s0 s1 s3 s4 k0 k1 k2 k3 k4 l0 l1 l3 l4).mono fun e W' he => ?_
  cases e with
  | returned v =>
    obtain ⟨rfl, ext⟩ := he
    have bel : Below W.heap.size W W' := ext.below (Nat.le_refl _) fun b hb => hb.elim
    exact ⟨_, rfl, _, _, _, [], _, [], hW', trodAll_mk1 (shut_bool Try.underlying4 _), (trodAll_cons_mk (Below.trod laidOut (by kernel_rfl) (of_decide_eq_true (by kernel_rfl)) h0 bel lt0) (trodAll_cons_mk (Below.trod laidOut (by kernel_rfl) (of_decide_eq_true (by kernel_rfl)) h1 bel lt1) (trodAll_cons_mk (Below.trod laidOut (by kernel_rfl) (of_decide_eq_true (by kernel_rfl)) h2 bel lt2) (trodAll_cons_mk (Below.trod laidOut (by kernel_rfl) (of_decide_eq_true (by kernel_rfl)) h3 bel lt3) (trodAll_cons_mk (Below.trod laidOut (by kernel_rfl) (of_decide_eq_true (by kernel_rfl)) h4 bel lt4) trodAll_mk0))))), rfl, bel.frame _, fun h => by cases h⟩
  | _ => exact he.elim
/-- the statement -/
theorem diskWholeHolds : Rows.DiskWholeSaid :=
  OpenClaim.holds_of_wide 3 Try.f3 rfl rfl rfl rfl rfl rfl rfl ⟨rfl, rfl, rfl, rfl, rfl⟩ rfl rfl rfl rfl rfl (by kernel_rfl) Try.func3 (by kernel_rfl)
    (of_decide_eq_true (by kernel_rfl)) (by unfold Func.isWrapper; first | (rw [if_pos (by decide +kernel)]; kernel_rfl) | (rw [if_neg (by decide +kernel)]; exact ⟨rfl, rfl⟩))
    (fun os started H enc _ => diskWholeLifted os started H enc)
end Go.Proofs.Ythohdinjpkehpaa
