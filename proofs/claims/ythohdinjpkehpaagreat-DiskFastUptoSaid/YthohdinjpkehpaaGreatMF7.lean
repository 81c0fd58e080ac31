/- Several texts of ours, laid one behind the other. -/
import Derived.Test.YthohdinjpkehpaaGreatMF6
namespace Go.Proofs.YthohdinjpkehpaaGreat
open Go SG Go.RowKit Go.Lib
set_option linter.unusedVariables false
set_option maxRecDepth 4000
set_option linter.unusedSimpArgs false

theorem srt_unique : ∀ {a b : List El}, a.Pairwise (fun x y => ltE x y = true) → b.Pairwise (fun x y => ltE x y = true) → (∀ x, x ∈ a ↔ x ∈ b) → a = b
  | [], [], _, _, _ => rfl
  | [], y :: b, _, _, h => absurd ((h y).2 (by simp)) (by simp)
  | x :: a, [], _, _, h => absurd ((h x).1 (by simp)) (by simp)
  | x :: a, y :: b, ha, hb, h => by
    have ha' := List.pairwise_cons.1 ha
    have hb' := List.pairwise_cons.1 hb
    have hxy : x = y := by
      rcases List.mem_cons.1 ((h x).1 (by simp)) with e | hx
      · exact e
      · rcases List.mem_cons.1 ((h y).2 (by simp)) with e | hy
        · exact e.symm
        · have := lt_trans (ha'.1 y hy) (hb'.1 x hx)
          rw [lt_irr] at this; cases this
    subst hxy
    rw [srt_unique ha'.2 hb'.2 fun z => ?_]
    constructor
    · intro hz
      rcases List.mem_cons.1 ((h z).1 (List.mem_cons_of_mem _ hz)) with e | hz'
      · have := ha'.1 z hz; rw [e, lt_irr] at this; cases this
      · exact hz'
    · intro hz
      rcases List.mem_cons.1 ((h z).2 (List.mem_cons_of_mem _ hz)) with e | hz'
      · have := hb'.1 z hz; rw [e, lt_irr] at this; cases this
      · exact hz'
theorem sorted_keys {m xs : List (El × Nat)} {ys l : List El} (hk : Keys m) (hx : xs.Perm m) (hp : ys.Perm (xs.map fun p => p.1)) (ha : Asc ltE ys) (hs : l.Pairwise fun x y => ltE x y = true) (hml : ∀ x, x ∈ l ↔ (mget m x).isSome = true) : ys = l := by
  have hnd : ys.Nodup := hp.nodup_iff.2 ((hx.map (fun p : El × Nat => p.1)).nodup_iff.2 hk)
  refine srt_unique (List.Pairwise.imp₂ (fun u v h1 h2 => ?_) ha hnd) hs fun x => ?_
  · cases huv : ltE u v with
    | true => rfl
    | false => exact absurd (lt_tot huv h1) h2
  · rw [hp.mem_iff, (hx.map (fun p : El × Nat => p.1)).mem_iff, ← mget_isSome, hml]

theorem keys_stopsD {w : World} {gb b : Nat} {m : List (El × Nat)} (hb : Blk w gb 64 [.map (some b)]) (hm' : MapR w b encE ptrE m) :
    SeqStopsK Fence.wide 0 Tryz.prog 126 #[.pointer (some ⟨gb, 0, none⟩)] (fun p : El × Nat => [encE p.1].toArray) KpW (fun xs => xs.Perm m) (fun _ => True) m.length w := by
  refine stops_of fun y J Jx W hW hJ hY h0 => ?_
  have eW : Ext No w W := Ext.of_below hW
  refine s126_call hm ?_
  unfold s126
  refine loadB (hb.no eW) rfl (IterR.start Tryz.underlying64 (hm'.no eW) fun w1 it1 e1 z1 => ?_)
  refine iterLoop it1 (fun done w' => J done w') (hJ _ W w1 none h0 (e1.to_grown_none none) fun r hr => by cases hr) 0 (fun done w' w'' hj it he => hJ _ w' w'' (some W.heap.size) hj he.to_grown fun r hr => ?_) (fun done p w2 hpm hpd it2 hj L hL => ?_) (fun done w2 hp hj => .inl ⟨done, hp, hj⟩)
  · cases hr
    obtain ⟨o, ho1, ho2, _⟩ := it.walk
    exact ⟨Nat.le_refl _, o, ho1, ho2⟩
  · have hlen : done.length < m.length := by
      have h1 := it2.sub
      have h2 := nodup_len _ _ h1.1 h1.2
      simp at h2; omega
    refine pur (extract_0 _ _) (callY (hY done p w2 _ hj hlen (fun w3 hj3 hk3 => ?_) fun w3 hj3 => ?_))
    · exact pur (not_b _) (condF rfl (hL w3 (it2.kp hk3) hj3))
    · exact pur (not_b _) (condT rfl (.inr ⟨_, trivial, hj3⟩))
theorem cSortedD {w : World} {b : Nat} {m : List (El × Nat)} (hm' : MapR w b encE ptrE m) (hl : m.length ≤ 1099511627776) {l : List El} (hs : l.Pairwise fun x y => ltE x y = true) (hml : ∀ x, x ∈ l ↔ (mget m x).isSome = true) {K : Value → World → Prop}
    (hK : ∀ v w', w'.ownsRow w.heap.size 9 1 v l.length (l.map encE) → Ext No w w' → K v w') : CallS Tryz.prog 78 #[.map (some b)] (fun t w1 => CallS Tryz.prog 77 #[t] K w1) w := by
  refine s78_call hm ?_
  unfold s78
  refine box fun w1 b1 e1 z1 => ?_
  have b1' : Blk w1 w.heap.size 64 [.map (some b)] := b1
  refine cSortedSeq (α := El × Nat) (fun p => p.1) (by kernel_rfl) (fun w' e' => keys_stopsD (b1'.no e') ((hm'.no e1).no e')) hl (fun xs hx => Nat.le_of_eq hx.length_eq) fun v w2 xs ys hx hp ha ho e2 => ?_
  have hys : ys = l := sorted_keys hm'.keys hx hp ha hs hml
  subst hys
  exact hK v w2 (owns_base ho fun b hb => by have := (ho.lt b hb).1; have := e1.size; omega) (e1.trans e2)

theorem keys_stopsN {w : World} {gb b : Nat} {m : List (El × Nat)} (hb : Blk w gb 70 [.map (some b)]) (hm' : MapR w b encE ptrE m) :
    SeqStopsK Fence.wide 0 Tryz.prog 127 #[.pointer (some ⟨gb, 0, none⟩)] (fun p : El × Nat => [encE p.1].toArray) KpW (fun xs => xs.Perm m) (fun _ => True) m.length w := by
  refine stops_of fun y J Jx W hW hJ hY h0 => ?_
  have eW : Ext No w W := Ext.of_below hW
  refine s127_call hm ?_
  unfold s127
  refine loadB (hb.no eW) rfl (IterR.start Tryz.underlying70 (hm'.no eW) fun w1 it1 e1 z1 => ?_)
  refine iterLoop it1 (fun done w' => J done w') (hJ _ W w1 none h0 (e1.to_grown_none none) fun r hr => by cases hr) 0 (fun done w' w'' hj it he => hJ _ w' w'' (some W.heap.size) hj he.to_grown fun r hr => ?_) (fun done p w2 hpm hpd it2 hj L hL => ?_) (fun done w2 hp hj => .inl ⟨done, hp, hj⟩)
  · cases hr
    obtain ⟨o, ho1, ho2, _⟩ := it.walk
    exact ⟨Nat.le_refl _, o, ho1, ho2⟩
  · have hlen : done.length < m.length := by
      have h1 := it2.sub
      have h2 := nodup_len _ _ h1.1 h1.2
      simp at h2; omega
    refine pur (extract_0 _ _) (callY (hY done p w2 _ hj hlen (fun w3 hj3 hk3 => ?_) fun w3 hj3 => ?_))
    · exact pur (not_b _) (condF rfl (hL w3 (it2.kp hk3) hj3))
    · exact pur (not_b _) (condT rfl (.inr ⟨_, trivial, hj3⟩))
theorem cSortedN {w : World} {b : Nat} {m : List (El × Nat)} (hm' : MapR w b encE ptrE m) (hl : m.length ≤ 1099511627776) {l : List El} (hs : l.Pairwise fun x y => ltE x y = true) (hml : ∀ x, x ∈ l ↔ (mget m x).isSome = true) {K : Value → World → Prop}
    (hK : ∀ v w', w'.ownsRow w.heap.size 9 1 v l.length (l.map encE) → Ext No w w' → K v w') : CallS Tryz.prog 79 #[.map (some b)] (fun t w1 => CallS Tryz.prog 77 #[t] K w1) w := by
  refine s79_call hm ?_
  unfold s79
  refine box fun w1 b1 e1 z1 => ?_
  have b1' : Blk w1 w.heap.size 70 [.map (some b)] := b1
  refine cSortedSeq (α := El × Nat) (fun p => p.1) (by kernel_rfl) (fun w' e' => keys_stopsN (b1'.no e') ((hm'.no e1).no e')) hl (fun xs hx => Nat.le_of_eq hx.length_eq) fun v w2 xs ys hx hp ha ho e2 => ?_
  have hys : ys = l := sorted_keys hm'.keys hx hp ha hs hml
  subst hys
  exact hK v w2 (owns_base ho fun b hb => by have := (ho.lt b hb).1; have := e1.size; omega) (e1.trans e2)

def OrdD (l : List Di) : Prop := l.Pairwise fun p q => ltE p.name q.name = true
section
variable {T : Tags} {w : World} {d g : Nat} {st : Dk} {md : Nat} {dm : List (El × Nat)} {ad : Nat → Option Nat} {K : Value → World → Prop}
theorem Dx.all (h : Dx T d w g st md dm ad) (ho : OrdD st.dirs) (hl : st.dirs.length ≤ 64) (hK : ∀ v w', w'.ownsRow w.heap.size 9 1 v st.dirs.length ((st.dirs.map (·.name)).map encE) → Ext No w w' → K v w') : CallS Tryz.prog 26 #[.pointer (some ⟨g, 0, none⟩)] K w := by
  refine s26_call hm ?_
  unfold s26
  refine h.ldDirs ?_
  refine callS (cSortedD h.body.mdR (by rw [h.body.len]; omega) (l := st.dirs.map (·.name)) (by rw [List.pairwise_map]; exact ho) (fun x => ?_) (K := K) fun v w1 ho1 e1 => hK v w1 (by simpa using ho1) e1) fun _ _ h => h
  constructor
  · intro hx
    obtain ⟨D, hD, rfl⟩ := List.mem_map.1 hx
    obtain ⟨gd, h1, _⟩ := h.body.some_ D hD
    rw [h1]; rfl
  · intro hx
    refine Classical.byContradiction fun hn => ?_
    rw [h.body.none_ x fun D hD he => hn (List.mem_map.2 ⟨D, hD, he⟩)] at hx
    cases hx
theorem NamR.sorted {b : Nat} {way : Way} (h : NamR T ad w b way) (ho : Ord way) (hl : way.length ≤ 1099511627776) (hK : ∀ v w', w'.ownsRow w.heap.size 9 1 v way.length ((way.map (·.1)).map encE) → Ext No w w' → K v w') : CallS Tryz.prog 79 #[.map (some b)] (fun t w1 => CallS Tryz.prog 77 #[t] K w1) w := by
  obtain ⟨_, ⟨m, hm', hml, hg⟩, hs⟩ := h
  refine cSortedN hm' (by omega) (l := way.map (·.1)) (by rw [List.pairwise_map]; exact ho) (fun x => ?_) fun v w1 ho1 e1 => hK v w1 (by simpa using ho1) e1
  rw [hg, ← mget_isSome]
  cases hx : mget way x with
  | none => rfl
  | some i =>
    have hmem : (x, i) ∈ way := (mget_mem ho.keys).1 hx
    have := hs (x, i) hmem
    simp only [Option.isSome_some, Option.bind_some, true_iff]
    exact this
end
end Go.Proofs.YthohdinjpkehpaaGreat

namespace Go.Proofs.YthohdinjpkehpaaGreat
open Go SG Go.RowKit Go.Lib
set_option linter.unusedVariables false
set_option maxRecDepth 4000
set_option linter.unusedSimpArgs false

theorem addE {x y : El} (h : x.length + y.length ≤ 9223372036854775807) : binV .add (encE x) (encE y) = some (encE (x ++ y)) := by
  have h1 : (⟨x.toArray⟩ : ByteArray).size = x.length := by show x.toArray.size = _; simp
  have h2 : (⟨y.toArray⟩ : ByteArray).size = y.length := by show y.toArray.size = _; simp
  have hmax : IntKind.i64.max = 9223372036854775807 := by decide
  unfold encE
  simp only [binV, strV]
  rw [if_neg (by rw [h1, h2, hmax]; omega)]
  congr 2
def WayOk (n : Nat) (y : Way) : Prop := Ord y ∧ y.length ≤ 1024 ∧ ∀ p ∈ y, nameOk p.1 = true ∧ p.2 < n
structure Wf (B n : Nat) (st : Dk) : Prop where
  ordD : OrdD st.dirs
  dlen : st.dirs.length ≤ 64
  dnm : ∀ D ∈ st.dirs, nameOk D.name = true
  now_ : ∀ D ∈ st.dirs, WayOk st.files.length D.now
  was_ : ∀ D ∈ st.dirs, ∀ y ∈ D.was, WayOk st.files.length y
  wlen : ∀ D ∈ st.dirs, D.was.length ≤ n
  fil : ∀ f ∈ st.files, FiOk B f ∧ f.ws.length ≤ n
  flen : st.files.length ≤ n
  fail : ScrOk n st.fail
  stop : ScrOk n st.stop
  quo : 0 ≤ st.quota ∧ st.quota ≤ 268435456
theorem nameOk_len {s : El} (h : nameOk s = true) : s.length ≤ 32 := by
  unfold nameOk at h
  simp only [Bool.and_eq_true, decide_eq_true_eq] at h
  exact h.1.2
def itemsD (D : Di) : List (El × Nat) := D.now.map fun p => (D.name ++ [47] ++ p.1, p.2)
def items (l : List Di) : List (El × Nat) := l.flatMap itemsD
theorem items_take_succ {l : List Di} {j : Nat} {D : Di} (h : l[j]? = some D) : items (l.take (j + 1)) = items (l.take j) ++ itemsD D := by
  unfold items
  rw [List.take_add_one, h, List.flatMap_append]; simp
def Free : Tag → Prop := fun t => t = .new_
def frf (w : World) (T : Tags) : Tags := fun b => if b < w.heap.size then T b else .new_
theorem frf_lt {w : World} {T : Tags} {b : Nat} (h : b < w.heap.size) : frf w T b = T b := if_pos h
theorem frf_ge {w : World} {T : Tags} {b : Nat} (h : w.heap.size ≤ b) : frf w T b = .new_ := if_neg (by omega)
def bolE (b : Bool) : Value := .bool b
theorem fileInfo : ∃ i, Tryz.prog.info? 82 = some i ∧ i.size ≠ 0 := by
  have h : (Tryz.prog.info? 82).map (·.size) = some 3 := by kernel_rfl
  cases hi : Tryz.prog.info? 82 with
  | none => rw [hi] at h; cases h
  | some i => rw [hi] at h; exact ⟨i, rfl, by simp at h; omega⟩
def Seen (ad : Nat → Option Nat) (m : List (Nat × Bool)) (done : List (El × Nat)) : Prop := ∀ y, (mget m y = some true ∧ ∃ i ∈ done.map (·.2), ad i = some y) ∨ (mget m y = none ∧ ∀ i ∈ done.map (·.2), ad i ≠ some y)
section
variable {T : Tags} {w : World} {d g : Nat} {st : Dk} {md : Nat} {dm : List (El × Nat)} {ad : Nat → Option Nat} {K : Value → World → Prop}
theorem seenAt {w1 : World} {T1 : Tags} {st1 : Dk} {m : List (Nat × Bool)} {done : List (El × Nat)} (hx : Dx T1 d w1 g st1 md dm ad) (hs : Seen ad m done) {i gf : Nat} (hg : ad i = some gf) :
    MapAt Tryz.prog 119 75 4 ptrE (.bool false) w1 m gf ∧ ((mget m gf).map bolE).getD (.bool false) = .bool (decide (i ∈ done.map (·.2))) := by
  obtain ⟨inf, hi1, hi2⟩ := fileInfo
  have isc : ∀ {j y : Nat}, ad j = some y → IsC w1 y := fun {j y} hy => by
    obtain ⟨f, _, hf⟩ := hx.body.fil j y hy
    obtain ⟨_, _, _, _, _, hb, _⟩ := hf
    exact hb.isC
  refine ⟨MapAt.ptr Tryz.underlying119 Tryz.underlying75 hi1 hi2 (by kernel_rfl) (isc hg) fun y hy => ?_, ?_⟩
  · have h1 := mget_isSome.2 hy
    rcases hs y with ⟨_, j, _, hj⟩ | ⟨h2, _⟩
    · exact isc hj
    · rw [h2] at h1; cases h1
  · rcases hs gf with ⟨h1, j, hj, hja⟩ | ⟨h1, h2⟩
    · have hij : i = j := by
        obtain ⟨_, _, hf1⟩ := hx.body.fil i gf hg
        obtain ⟨_, _, hf2⟩ := hx.body.fil j gf hja
        have := hf1.1.symm.trans hf2.1
        injection this with _ h; injection h
      subst hij
      rw [h1]
      simp [bolE, hj]
    · rw [h1]
      have : ¬ i ∈ done.map (·.2) := fun hh => h2 i hh hg
      simp [this]
set_option maxHeartbeats 2000000 in
theorem Dx.each (hx : Dx T d w g st md dm ad) {B n : Nat} (hW : Wf B n st) {M : Tag → Prop} (hMf : ¬ M .new_) (hMi : ¬ M .ice) {fv : Value} (I : List (El × Nat) → World → Tags → Prop) (h0 : I [] w T)
    (hfree : ∀ done w1 T1 w2 T2, I done w1 T1 → Gon Free w1 T1 w2 T2 → I done w2 T2)
    (hdx : ∀ done w1 T1, I done w1 T1 → ∃ st1, Dx T1 d w1 g st1 md dm ad ∧ st1.dirs = st.dirs)
    (hstep : ∀ done p i gf w1 T1 (K' : World → Prop), done ++ [(p, i)] <+: items st.dirs → ad i = some gf → I done w1 T1 → (∀ w2 T2, I (done ++ [(p, i)]) w2 T2 → Gon M w1 T1 w2 T2 → K' w2) → CallV' Tryz.prog false fv [encE p, ptrE gf, .bool (!decide (i ∈ done.map (·.2)))] NoP (fun _ w => K' w) w1)
    (hK : ∀ w' T', I (items st.dirs) w' T' → Gon (fun t => M t ∨ Free t) w T w' T' → K (.tuple #[]) w') : CallS Tryz.prog 27 #[ptrE g, fv] K w := by
  refine s27_call hm ?_
  unfold s27
  refine MapR.make (κ := Nat) (ν := Bool) ptrE bolE fun w1 h1 e1 z1 => ?_
  let T1 := frf w T
  have k1 : Gon Free w T w1 T1 := ⟨e1.no, fun b hb => frf_lt hb⟩
  have hI1 := hfree _ _ _ _ _ h0 k1
  obtain ⟨st1, hx1, hd1⟩ := hdx _ _ _ hI1
  have hfr : ∀ b, w.heap.size ≤ b → T1 b = .new_ := fun b hb => frf_ge hb
  refine hx1.all (by rw [hd1]; exact hW.ordD) (by rw [hd1]; exact hW.dlen) fun v w2 ho2 e2 => ?_
  rw [hd1] at ho2
  have hI2 := hfree _ _ _ _ _ hI1 (Gon.no (M := Free) (T := T1) e2)
  have k2 : Gon (fun t => M t ∨ Free t) w T w2 T1 := (k1.mono fun t h => .inr h).trans (Gon.no e2)
  have hsm := h1.lt
  have hsl := Sl.own ho2
  have hln : st.dirs.length ≤ 64 := hW.dlen
  refine pur hsl.len ?_
  refine loop1 (σ := Nat) (fun j a w' => a = .int .i64 (j : Int) ∧ j ≤ st.dirs.length ∧ ∃ T' m, I (items (st.dirs.take j)) w' T' ∧ MapR w' w.heap.size ptrE bolE m ∧ Seen ad m (items (st.dirs.take j)) ∧ T' w.heap.size = .new_ ∧ Sl w' v st.dirs.length 1 ((st.dirs.map (·.name)).map encE) ∧ (∀ b, v.ownBlock = some b → b < w'.heap.size ∧ T' b = .new_) ∧ Gon (fun t => M t ∨ Free t) w T w' T') (fun j => st.dirs.length - j) 0
    ⟨rfl, Nat.zero_le _, T1, [], hI2, h1.no e2, fun y => .inr ⟨rfl, by simp [items]⟩, hfr _ (Nat.le_refl _), hsl, fun b hb => ⟨(ho2.lt b hb).2, hfr b (by have := (ho2.lt b hb).1; omega)⟩, k2⟩ ?_
  rintro j _ w3 ⟨rfl, hj, T3, m3, hI3, hm3, hs3, ht3, hsl3, hv3, k3⟩ L0 hL0
  refine pur (bin_lss _ _ _) (condD (fun hlt => ?_) (fun hge => hK _ _ (by rw [List.take_of_length_le (by omega)] at hI3; exact hI3) k3))
  obtain ⟨D, hD⟩ := getN (xs := st.dirs) (i := j) (by omega)
  have hDm := List.mem_of_getElem? hD
  have hits := items_take_succ hD
  refine join0 (fun w' => ∃ T' m, I (items (st.dirs.take (j + 1))) w' T' ∧ MapR w' w.heap.size ptrE bolE m ∧ Seen ad m (items (st.dirs.take (j + 1))) ∧ T' w.heap.size = .new_ ∧ Sl w' v st.dirs.length 1 ((st.dirs.map (·.name)).map encE) ∧ (∀ b, v.ownBlock = some b → b < w'.heap.size ∧ T' b = .new_) ∧ Gon (fun t => M t ∨ Free t) w T w' T') (fun w' h' => pur (add64 (c := ((j + 1 : Nat) : Int)) (by omega) (by omega) (by omega)) (hL0 (j + 1) _ _ ⟨rfl, by omega, h'⟩ (by omega))) fun J1 hJ1 => ?_
  obtain ⟨ad1, q1, q2, q3⟩ := sl_idx1 hsl3 (i := j) (v := encE D.name) (by simp [hD]) .i64
  obtain ⟨st3, hx3, hd3⟩ := hdx _ _ _ hI3
  refine pur q1 (SG.load (S := No) (q3 _ hsl3) (hx3.ldDirs ?_))
  obtain ⟨gd, hgd, hDR⟩ := hx3.body.some_ D (by rw [hd3]; exact hDm)
  refine hx3.body.mdR.lookup MTdir D.name ?_
  rw [hgd]
  obtain ⟨_, mn, wv, bs, hb, hN, _⟩ := hDR
  refine pur (nil_ptr _) (pur (field_ptr _ _ _) (loadB hb (v := .map (some mn)) rfl ?_))
  have hway := hW.now_ D hDm
  refine callS (hN.sorted (K := fun v w4 => w4.ownsRow w3.heap.size 9 1 v D.now.length ((D.now.map (·.1)).map encE) ∧ Ext No w3 w4) hway.1 (by have := hway.2.1; omega) fun v w4 h e => ⟨h, e⟩) ?_
  intro t29 w4' h29
  refine callS h29 ?_
  rintro v4 w4 ⟨ho4, e4⟩
  clear h29
  have k34 : Gon Free w3 T3 w4 (frf w3 T3) := ⟨e4.no, fun b hb => frf_lt hb⟩
  have hsl4 := Sl.own ho4
  refine pur hsl4.len ?_
  have hnow : D.now.length ≤ 1024 := hway.2.1
  have hmi : ¬ (fun t => M t ∨ Free t) Tag.ice := fun h => h.elim hMi (fun h => by cases h)
  have w3l : w.heap.size < w3.heap.size := hm3.lt
  refine loop1 (σ := Nat) (fun k a w' => a = .int .i64 (k : Int) ∧ k ≤ D.now.length ∧ ∃ T' m, I (items (st.dirs.take j) ++ (itemsD D).take k) w' T' ∧ MapR w' w.heap.size ptrE bolE m ∧ Seen ad m (items (st.dirs.take j) ++ (itemsD D).take k) ∧ T' w.heap.size = .new_ ∧ Sl w' v st.dirs.length 1 ((st.dirs.map (·.name)).map encE) ∧ (∀ b, v.ownBlock = some b → b < w'.heap.size ∧ T' b = .new_) ∧
      Sl w' v4 D.now.length 1 ((D.now.map (·.1)).map encE) ∧ (∀ b, v4.ownBlock = some b → b < w'.heap.size ∧ T' b = .new_) ∧ NamR T' ad w' mn D.now ∧ Gon (fun t => M t ∨ Free t) w T w' T') (fun k => D.now.length - k) 0
    ⟨rfl, Nat.zero_le _, frf w3 T3, m3, by simpa using hfree _ _ _ _ _ hI3 k34, hm3.no e4, by simpa using hs3, by rw [frf_lt w3l]; exact ht3, hsl3.no e4, fun b hb => ⟨Nat.lt_of_lt_of_le (hv3 b hb).1 e4.size, by rw [frf_lt (hv3 b hb).1]; exact (hv3 b hb).2⟩, hsl4, fun b hb => ⟨(ho4.lt b hb).2, frf_ge (ho4.lt b hb).1⟩, hN.keep (M := Free) k34 (fun h => by cases h), k3.trans (k34.mono fun t h => .inr h)⟩ ?_
  rintro k _ w5 ⟨rfl, hk, T5, m5, hI5, hm5, hs5, ht5, hsl5, hv5, hsq5, hq5, hN5, k5⟩ L2 hL2
  refine pur (bin_lss _ _ _) (condD (fun hlt2 => ?_) (fun hge2 => hJ1 _ ⟨T5, m5, ?_, hm5, ?_, ht5, hsl5, hv5, k5⟩))
  rotate_left
  · rw [hits, ← List.take_of_length_le (l := itemsD D) (i := k) (by simp [itemsD]; omega)]; exact hI5
  · rw [hits, ← List.take_of_length_le (l := itemsD D) (i := k) (by simp [itemsD]; omega)]; exact hs5
  obtain ⟨⟨nm, i⟩, hp⟩ := getN (xs := D.now) (i := k) (by omega)
  have hpm := List.mem_of_getElem? hp
  have hnok := hway.2.2 (nm, i) hpm
  have hnl : nm.length ≤ 32 := nameOk_len hnok.1
  have hDl := nameOk_len (hW.dnm D hDm)
  obtain ⟨ad2, r1, r2, r3⟩ := sl_idx1 hsq5 (i := k) (v := encE nm) (by simp [hp]) .i64
  refine pur r1 (SG.load (S := No) (r3 _ hsq5) ?_)
  obtain ⟨gf, hgf⟩ := Option.isSome_iff_exists.1 (hN5.2.2 (nm, i) hpm)
  simp only at hgf
  obtain ⟨hNt, ⟨mm, hmm, hNl, hmg⟩, hNs⟩ := hN5
  refine hmm.lookup MTnam nm ?_
  rw [hmg, (mget_mem hway.1.keys).2 hpm, Option.bind_some, hgf]
  refine pur (addE (x := D.name) (y := [47]) (by simp; omega)) (pur (addE (x := D.name ++ [47]) (y := nm) (by simp; omega)) ?_)
  obtain ⟨st5, hx5, hd5⟩ := hdx _ _ _ hI5
  obtain ⟨hat, hval⟩ := seenAt hx5 hs5 hgf
  refine MapR.lookupA hat hm5 ?_
  rw [hval]
  have hitk : (itemsD D)[k]? = some (D.name ++ [47] ++ nm, i) := by unfold itemsD; rw [List.getElem?_map, hp]; rfl
  have hpre : items (st.dirs.take j) ++ (itemsD D).take k ++ [(D.name ++ [47] ++ nm, i)] = items (st.dirs.take j) ++ (itemsD D).take (k + 1) := by
    rw [List.take_add_one, hitk]; simp
  refine pur (not_b _) (hstep _ _ _ _ _ _ _ ?_ hgf hI5 fun w6 T6 hI6 k6 => ?_)
  · rw [hpre]
    have h1 : items (st.dirs.take (j + 1)) <+: items st.dirs := by
      refine ⟨items (st.dirs.drop (j + 1)), ?_⟩
      unfold items
      rw [← List.flatMap_append, List.take_append_drop]
    refine List.IsPrefix.trans ?_ h1
    rw [hits]
    exact ⟨(itemsD D).drop (k + 1), by rw [List.append_assoc, List.take_append_drop]⟩
  · rw [hpre] at hI6
    have hsml5 := hm5.lt
    have hm6 : MapR w6 w.heap.size ptrE bolE m5 := hm5.ext k6.ext (by rw [ht5]; exact hMf)
    obtain ⟨st6, hx6, hd6⟩ := hdx _ _ _ hI6
    have hat6 := (seenAt hx6 (done := items (st.dirs.take j) ++ (itemsD D).take k) hs5 hgf).1
    refine hm6.updateA hat6 true fun w7 hm7 e7 z7 => ?_
    have ht6 : T6 w.heap.size = .new_ := (k6.same _ hsml5).trans ht5
    have k7 : Gon Free w6 T6 w7 T6 := Gon.at1 e7 ht6 rfl
    have hI7 := hfree _ _ _ _ _ hI6 k7
    have kM : Gon M w5 T5 w6 T6 := k6
    have hvk : ∀ {u : Value}, (∀ b, u.ownBlock = some b → b < w5.heap.size ∧ T5 b = .new_) → (∀ b, u.ownBlock = some b → b ≠ w.heap.size) → ∀ {l}, Sl w5 u l.length 1 l → Sl w7 u l.length 1 l := fun {u} hu hne {l} hs => (hs.ext k6.ext fun b hb hh => by simp only [(hu b hb).2] at hh; exact hMf hh).ext e7 fun b hb hh => hne b hb hh
    have hvne : ∀ b, v.ownBlock = some b → b ≠ w.heap.size := fun b hb => by have := (ho2.lt b hb).1; have := h1.lt; omega
    have hqne : ∀ b, v4.ownBlock = some b → b ≠ w.heap.size := fun b hb => by have := (ho4.lt b hb).1; omega
    have s67 : w6.heap.size ≤ w7.heap.size := e7.size
    have s56 := k6.ext.size
    refine pur (add64 (c := ((k + 1 : Nat) : Int)) (by omega) (by omega) (by omega)) (hL2 (k + 1) _ _ ⟨rfl, by omega, T6, _, hI7, hm7, fun y => ?_, ht6, ?_, fun b hb => ⟨by have := (hv5 b hb).1; omega, (k6.same b (hv5 b hb).1).trans (hv5 b hb).2⟩, ?_, fun b hb => ⟨by have := (hq5 b hb).1; omega, (k6.same b (hq5 b hb).1).trans (hq5 b hb).2⟩, ?_, (k5.trans (k6.mono fun t h => .inl h)).trans (k7.mono fun t h => .inr h)⟩ (by omega))
    · rw [mget_put, ← hpre]
      by_cases hy : y = gf
      · subst hy
        rw [if_pos rfl]
        exact .inl ⟨rfl, i, by simp, hgf⟩
      · rw [if_neg hy]
        rcases hs5 y with ⟨a1, j', a2, a3⟩ | ⟨a1, a2⟩
        · exact .inl ⟨a1, j', by rw [List.map_append]; exact List.mem_append_left _ a2, a3⟩
        · refine .inr ⟨a1, fun j' hj' he => ?_⟩
          rw [List.map_append] at hj'
          rcases List.mem_append.1 hj' with hj' | hj'
          · exact a2 j' hj' he
          · simp at hj'; subst hj'
            rw [hgf] at he; exact hy (Option.some.inj he).symm
    · have := hvk hv5 hvne (l := (st.dirs.map (·.name)).map encE) (by simpa using hsl5)
      simpa using this
    · have := hvk hq5 hqne (l := (D.now.map (·.1)).map encE) (by simpa using hsq5)
      simpa using this
    · exact (NamR.keep ⟨hNt, ⟨mm, hmm, hNl, hmg⟩, hNs⟩ k6 hMi).keep k7 (fun h => by cases h)
end
end Go.Proofs.YthohdinjpkehpaaGreat

namespace Go.Proofs.YthohdinjpkehpaaGreat
open Go SG Go.RowKit Go.Lib
set_option linter.unusedVariables false
set_option maxRecDepth 4000
set_option linter.unusedSimpArgs false

theorem rev_ind {α : Type} {P : List α → Prop} (h0 : P []) (h1 : ∀ l a, P l → P (l ++ [a])) (l : List α) : P l := by
  have : ∀ l : List α, P l.reverse := fun l => by
    induction l with
    | nil => exact h0
    | cons a l ih => rw [List.reverse_cons]; exact h1 _ _ ih
  have h := this l.reverse
  rwa [List.reverse_reverse] at h
theorem arr1_1 (a b : Value) : ([a].toArray ++ #[b] : Array Value) = #[a, b] := rfl
theorem arr1_2 (a b c : Value) : ([a].toArray ++ #[b, c] : Array Value) = #[a, b, c] := rfl
theorem arr3_1 (a b c d : Value) : ([a, b, c].toArray ++ #[d] : Array Value) = #[a, b, c, d] := rfl
theorem arr3_2 (a b c d e : Value) : ([a, b, c].toArray ++ #[d, e] : Array Value) = #[a, b, c, d, e] := rfl
def distinct (l : List Nat) : List Nat := l.foldl (fun acc i => if i ∈ acc then acc else acc ++ [i]) []
theorem distinct_app (l : List Nat) (i : Nat) : distinct (l ++ [i]) = if i ∈ distinct l then distinct l else distinct l ++ [i] := by
  unfold distinct; rw [List.foldl_append]; rfl
theorem distinct_mem : ∀ (l : List Nat) (i : Nat), i ∈ distinct l ↔ i ∈ l := by
  intro l
  refine rev_ind (P := fun l => ∀ i : Nat, i ∈ distinct l ↔ i ∈ l) (by simp [distinct]) (fun l j ih i => ?_) l
  rw [distinct_app]
  split
  · rename_i h
    rw [ih, List.mem_append, List.mem_singleton]
    exact ⟨.inl, fun hh => hh.elim id fun he => by subst he; exact (ih _).1 h⟩
  · rw [List.mem_append, List.mem_append, ih]
theorem distinct_len (l : List Nat) : (distinct l).length ≤ l.length := by
  refine rev_ind (P := fun l => (distinct l).length ≤ l.length) (by simp [distinct]) (fun l j ih => ?_) l
  rw [distinct_app]
  split <;> simp <;> omega
def lenAt (files : List Fi) (i : Nat) : Nat := ((files[i]?).map fun f => f.now.length).getD 0
def usedL (files : List Fi) (l : List Nat) : Nat := ((distinct l).map (lenAt files)).sum
theorem usedL_app (files : List Fi) (l : List Nat) (i : Nat) : usedL files (l ++ [i]) = usedL files l + if i ∈ l then 0 else lenAt files i := by
  unfold usedL
  rw [distinct_app]
  by_cases h : i ∈ l
  · rw [if_pos ((distinct_mem l i).2 h), if_pos h]; rfl
  · rw [if_neg (fun hh => h ((distinct_mem l i).1 hh)), if_neg h, List.map_append, List.sum_append]; simp
def Dk.used (st : Dk) : Nat := usedL st.files ((items st.dirs).map (·.2))
theorem sum_le_mul (l : List Nat) (B : Nat) (f : Nat → Nat) (h : ∀ i ∈ l, f i ≤ B) : (l.map f).sum ≤ l.length * B := by
  induction l with
  | nil => simp
  | cons a l ih =>
    have h1 := h a (by simp)
    have h2 := ih fun i hi => h i (List.mem_cons_of_mem _ hi)
    simp only [List.map_cons, List.sum_cons, List.length_cons, Nat.succ_mul]; omega
theorem items_len {l : List Di} (h : ∀ D ∈ l, D.now.length ≤ 1024) : (items l).length ≤ l.length * 1024 := by
  induction l with
  | nil => simp [items]
  | cons D l ih =>
    have h1 := h D (by simp)
    have h2 := ih fun D hD => h D (List.mem_cons_of_mem _ hD)
    have : items (D :: l) = itemsD D ++ items l := by simp [items]
    rw [this, List.length_append, List.length_cons, Nat.succ_mul]
    have : (itemsD D).length = D.now.length := by simp [itemsD]
    omega
theorem FiOk.now_len {B : Nat} {f : Fi} (h : FiOk B f) : f.now.length ≤ B := (nowB_len f.ws f.fast h.1 h.2.1 h.2.2).1
theorem Wf.flen_le {B n : Nat} {st : Dk} (h : Wf B n st) (i : Nat) : lenAt st.files i ≤ B := by
  unfold lenAt
  cases hf : st.files[i]? with
  | none => simp
  | some f => exact ((h.fil f (List.mem_of_getElem? hf)).1).now_len
theorem Wf.usedL_le {B n : Nat} {st : Dk} (h : Wf B n st) {l : List Nat} (hl : l.length ≤ 65536) : usedL st.files l ≤ 65536 * B := by
  unfold usedL
  have h1 := sum_le_mul (distinct l) B (lenAt st.files) fun i _ => h.flen_le i
  have h2 := distinct_len l
  exact Nat.le_trans h1 (Nat.mul_le_mul_right _ (by omega))
theorem Wf.items_le {B n : Nat} {st : Dk} (h : Wf B n st) : (items st.dirs).length ≤ 65536 := by
  have := items_len (l := st.dirs) fun D hD => (h.now_ D hD).2.1
  have := h.dlen
  omega
def Tmp : Tag → Prop := fun t => t = .tmp
section
variable {T : Tags} {w : World} {d g : Nat} {st : Dk} {md : Nat} {dm : List (El × Nat)} {ad : Nat → Option Nat} {K : Value → World → Prop}
theorem okUsed : okFunc Tryz.prog 128 = true := by kernel_rfl
theorem Dx.used_ (hx : Dx T d w g st md dm ad) {B n : Nat} (hW : Wf B n st) (hB : B ≤ 536870912) (hK : ∀ w' T', Dx T' d w' g st md dm ad → Gon (fun t => Tmp t ∨ Free t) w T w' T' → K (.int .i64 (st.used : Int)) w') : CallS Tryz.prog 81 #[ptrE g] K w := by
  refine s81_call hm ?_
  unfold s81
  refine box fun w1 b1 e1 z1 => storeB b1 (by simp [Value.cells]) rfl fun w2 b2 e2 z2 => ?_
  have b2' : Blk w2 w.heap.size 3 [.int .i64 0] := b2
  let T2 := mark (frf w T) w.heap.size .tmp
  have k2 : Gon (fun t => Tmp t ∨ Free t) w T w2 T2 := ⟨(e1.fresh e2 fun b hb => .inr (by rw [show b = w.heap.size from hb]; exact Nat.le_refl _)).no, fun b hb => by
    show mark _ _ _ b = _
    rw [mark_ne _ _ (by omega), frf_lt hb]⟩
  have hno : ¬ (fun t => Tmp t ∨ Free t) Tag.ice := fun h => h.elim (fun h => by cases h) fun h => by cases h
  have hown : ∀ c, ¬ (fun t => Tmp t ∨ Free t) (Tag.own d c) := fun c h => h.elim (fun h => by cases h) fun h => by cases h
  have hx2 := hx.keep k2 hno hown
  have hcap : (.func (.func 128) [].toArray [ptrE w.heap.size].toArray : Value) = .func (.func 128) #[] #[ptrE w.heap.size] := rfl
  refine hx2.each hW (M := Tmp) (fun h => by cases h) (fun h => by cases h) (fun done w' T' => Dx T' d w' g st md dm ad ∧ T' w.heap.size = .tmp ∧ Blk w' w.heap.size 3 [.int .i64 (usedL st.files (done.map (·.2)) : Int)]) ⟨hx2, mark_at _ _ _, b2'⟩ ?_ (fun done w1 T1 h => ⟨st, h.1, rfl⟩) ?_ ?_
  · rintro done w1 T1 w2 T2 ⟨a1, a2, a3⟩ k
    exact ⟨a1.keep k (fun h => by cases h) (fun c h => by cases h), (k.same _ a3.lt).trans a2, a3.ext k.ext (by rw [a2]; intro h; cases h)⟩
  · rintro done p i gf w1 T1 K' hpre hgf ⟨a1, a2, a3⟩ hK'
    have hlen : (done ++ [(p, i)]).length ≤ 65536 := Nat.le_trans hpre.length_le hW.items_le
    have hu := hW.usedL_le (l := (done ++ [(p, i)]).map (·.2)) (by simpa using hlen)
    rw [List.map_append, List.map_cons, List.map_nil, usedL_app] at hu
    obtain ⟨f, hf, hF⟩ := a1.body.fil i gf hgf
    have hfl : lenAt st.files i = f.now.length := by unfold lenAt; rw [hf]; rfl
    refine callF okUsed ?_
    rw [arr3_1]
    refine s128_call hm ?_
    unfold s128
    refine condB (fun hc => ?_) (fun hc => ?_)
    · have hni : ¬ i ∈ done.map (·.2) := by simpa using hc
      rw [if_neg hni, hfl] at hu
      obtain ⟨_, fv, ov, nv, qs, hb, _, hnv, _⟩ := hF
      have a3d := a3.no (Ext.drew w1)
      have hbd := hb.no (Ext.drew w1)
      refine draw (fun w' => w' = w1.drew) rfl (pur (nil_ptr _) (pur (field_ptr _ _ _) ?_))
      refine heldC (v := .int .i64 (usedL st.files (done.map (·.2)) : Int)) (fun w' hh => by rw [hh]; exact a3d.cell 0) (heldC (v := nv) (fun w' hh => by rw [hh]; exact hbd.cell 2) ?_)
      refine pur hnv.sl.len (pur (add64 (c := ((usedL st.files (done.map (·.2)) + f.now.length : Nat) : Int)) (by omega) (by omega) (by omega)) (storeB a3d (by simp) rfl fun w2 b2 e2 z2 => ?_))
      have k : Gon Tmp w1 T1 w2 T1 := (Gon.no (Ext.drew w1)).trans (Gon.at1 e2 a2 rfl)
      refine hK' w2 T1 ⟨a1.keep k (fun h => by cases h) (fun c h => by cases h), a2, ?_⟩ k
      rw [List.map_append, List.map_cons, List.map_nil, usedL_app, if_neg hni, hfl]
      exact b2
    · have hi : i ∈ done.map (·.2) := by simpa using hc
      refine hK' w1 T1 ⟨a1, a2, ?_⟩ (Gon.refl _ _)
      rw [List.map_append, List.map_cons, List.map_nil, usedL_app, if_pos hi]
      exact a3
  · rintro w3 T3 ⟨a1, a2, a3⟩ k
    exact loadB a3 rfl (hK w3 T3 a1 (k2.trans k))
theorem Dx.Used (hx : Dx T d w g st md dm ad) {B n : Nat} (hW : Wf B n st) (hB : B ≤ 536870912) (hK : ∀ w' T', Dx T' d w' g st md dm ad → Gon (fun t => Tmp t ∨ Free t) w T w' T' → K (.int .i64 (st.used : Int)) w') : CallS Tryz.prog 63 #[ptrE g] K w := by
  refine s63_call hm ?_
  unfold s63
  exact hx.used_ hW hB hK
def Dk.setF (st : Dk) (i : Nat) (f : Fi) : Dk := { st with files := st.files.set i f }
theorem Dx.setF {T' : Tags} {w' : World} (hx : Dx T d w g st md dm ad) {i gf : Nat} {f : Fi} (hg : ad i = some gf) (k : Gon (Filt d i) w T w' T') (hf : FilR T' d i w' gf f) : Dx T' d w' g (st.setF i f) md dm ad := by
  have hi : ¬ Filt d i .ice := fun h => by cases h
  refine ⟨(k.same g hx.blk.lt).trans hx.tag, hx.blk.ext k.ext (by rw [hx.tag]; intro h; cases h), (k.same md hx.body.mdR.lt).trans hx.body.mdT, hx.body.mdR.ext k.ext (by rw [hx.body.mdT]; intro h; cases h), fun D hD => ?_, hx.body.none_, hx.body.len, fun j gj hj => ?_⟩
  · obtain ⟨gd, h1, h2⟩ := hx.body.some_ D hD
    exact ⟨gd, h1, h2.keep k hi (fun h => by cases h)⟩
  · obtain ⟨f', h1, h2⟩ := hx.body.fil j gj hj
    by_cases hij : j = i
    · subst hij
      rw [hg] at hj
      cases hj
      refine ⟨f, ?_, hf⟩
      show (st.files.set j f)[j]? = some f
      rw [List.getElem?_set_self (List.getElem?_eq_some_iff.1 h1).1]
    · refine ⟨f', ?_, h2.keep k hi (fun h => by
        unfold Filt at h
        injection h with _ h; injection h with h; exact hij h)⟩
      show (st.files.set i f)[j]? = some f'
      rw [List.getElem?_set_ne (fun h => hij h.symm)]; exact h1
end
end Go.Proofs.YthohdinjpkehpaaGreat

namespace Go.Proofs.YthohdinjpkehpaaGreat
open Go SG Go.RowKit
set_option linter.unusedVariables false
set_option maxRecDepth 4000
set_option linter.unusedSimpArgs false

def Arg (T : Tags) (w : World) (v : Value) (l : Bys) : Prop := SlB w v l ∧ (l = [] ∨ ∀ b, v.ownBlock = some b → b < w.heap.size ∧ (T b = .free ∨ T b = .ice))
theorem sl_empty {w w' : World} {x : Value} {size : Nat} (h : Sl w x 0 size []) : Sl w' x 0 size [] := by
  obtain ⟨A, c, rfl, hl, hc, h0, hA⟩ := h
  exact ⟨A, c, rfl, hl, hc, h0, fun _ _ i v hv => by simp at hv⟩
theorem sl_lt {w : World} {x : Value} {m size : Nat} {xs : List Value} (h : Sl w x m size xs) (hx : xs ≠ []) {b : Nat} (hb : x.ownBlock = some b) : b < w.heap.size := by
  obtain ⟨A, c, rfl, hl, hc, h0, hA⟩ := h
  cases A with
  | none => simp [Value.ownBlock] at hb
  | some ad =>
    cases xs with
    | nil => exact absurd rfl hx
    | cons v r =>
      have hcell := hA ad rfl 0 v rfl
      have hlt := World.block_lt_of_cell? _ _ hcell
      rw [Addr.add_block] at hlt
      have : ad.block = b := by simpa [Value.ownBlock] using hb
      omega
theorem Arg.keep {T T' : Tags} {w w' : World} {v : Value} {l : Bys} {M : Tag → Prop} (h : Arg T w v l) (k : Gon M w T w' T') (hf : ¬ M .free) (hi : ¬ M .ice) : Arg T' w' v l :=
  h.2.elim (fun h0 => by subst h0; exact ⟨sl_empty h.1, .inl rfl⟩) fun h2 => ⟨h.1.ext k.ext fun b hb hh => by rcases (h2 b hb).2 with h | h <;> rw [h] at hh <;> contradiction, .inr fun b hb => ⟨Nat.lt_of_lt_of_le (h2 b hb).1 k.ext.size, by rw [k.same b (h2 b hb).1]; exact (h2 b hb).2⟩⟩
theorem Byt.arg {T : Tags} {w : World} {v : Value} {l : Bys} (h : Byt T w v l) : Arg T w v l := ⟨h.sl, .inr fun b hb => ⟨(h.1.lt b hb).2, .inr (h.2 b hb)⟩⟩
theorem Arg.of {T : Tags} {w : World} {v : Value} {l : Bys} (h : SlB w v l) (hT : ∀ b, T b = .ice) : Arg T w v l :=
  ⟨h, (Classical.em (l = [])).imp id fun hn b hb => ⟨sl_lt h (fun h0 => hn (by cases l; rfl; cases h0)) hb, .inr (hT b)⟩⟩
theorem FilR.nowV {T : Tags} {d i g : Nat} {w : World} {f : Fi} (h : FilR T d i w g f) : ∃ nv, Byt T w nv f.now ∧ ∀ {K' : Value → World → Prop} {w' : World}, Ext No w w' → K' nv w' → PureS (nilV (ptrE g)) fun t => PureS (fieldAddrV 2 t) fun t => LoadC t K' w' := by
  obtain ⟨h0, fv, ov, nv, qs, h1, h2, h3, _⟩ := h
  exact ⟨nv, h3, fun {K' w'} e hK => pur (nil_ptr _) (pur (field_ptr _ _ _) (loadB (h1.no e) rfl hK))⟩
def Dk.fi (st : Dk) (i : Nat) : Fi := (st.files[i]?).getD ⟨[], []⟩
def Dk.wr (st : Dk) (i : Nat) (k : Int) (b : Bys) : Int × Dk :=
  if k < 0 ∨ ((st.fi i).now.length : Int) < k then (1, st)
  else if (st.fi i).now.length < k.toNat + b.length ∧ st.quota < (st.used : Int) + ((k.toNat + b.length - (st.fi i).now.length : Nat) : Int) then (20, st)
  else if ((chgV st).1 = 0 ∨ (chgV st).2 = true) ∧ 0 < (if (chgV st).2 then b.take (b.length / 2) else b).length then
    ((chgV st).1, (chgD st).setF i ⟨(st.fi i).fast, (st.fi i).ws ++ [(k.toNat, if (chgV st).2 then b.take (b.length / 2) else b)]⟩)
  else ((chgV st).1, chgD st)
def Ops (d : Nat) : Tag → Prop := fun t => t = .tmp ∨ t = .new_ ∨ ∃ c, t = .own d c
theorem Ops.free {d : Nat} : ¬ Ops d .free := fun h => by rcases h with h | h | ⟨c, h⟩ <;> cases h
theorem Ops.ice {d : Nat} : ¬ Ops d .ice := fun h => by rcases h with h | h | ⟨c, h⟩ <;> cases h
theorem Gon.usd {d : Nat} {w w' : World} {T T' : Tags} (k : Gon (fun t => Tmp t ∨ Free t) w T w' T') : Gon (Ops d) w T w' T' := k.mono fun t h => h.elim .inl fun h => .inr (.inl h)
theorem Gon.hdr {d : Nat} {w w' : World} {T T' : Tags} (k : Gon (Hdr d) w T w' T') : Gon (Ops d) w T w' T' := k.mono fun t h => .inr (.inr ⟨_, h⟩)
theorem Gon.filt {d i : Nat} {w w' : World} {T T' : Tags} (k : Gon (Filt d i) w T w' T') : Gon (Ops d) w T w' T' := k.mono fun t h => .inr (.inr ⟨_, h⟩)
theorem Gon.dirt {d : Nat} {x : El} {w w' : World} {T T' : Tags} (k : Gon (Dirt d x) w T w' T') : Gon (Ops d) w T w' T' := k.mono fun t h => .inr (.inr ⟨_, h⟩)
theorem chgV_err (st : Dk) : (chgV st).1 = 22 ∨ (chgV st).1 = 21 ∨ (chgV st).1 = 0 := by unfold chgV; split; exact .inl rfl; split; exact .inr (.inl rfl); exact .inr (.inr rfl)
theorem nowB_app (b : Bys) (ws : List Wr) (p : Wr) : nowB b (ws ++ [p]) = overB (nowB b ws) p.1 p.2 := by unfold nowB; rw [List.foldl_append]; rfl
theorem TW : ElemT Tryz.prog 80 94 2 32 (.agg #[.int .i64 0, .slice none 0 0]) := ⟨Tryz.underlying80, by kernel_rfl, rfl, by decide, by decide⟩
section
variable {T : Tags} {w : World} {d g : Nat} {st : Dk} {md : Nat} {dm : List (El × Nat)} {ad : Nat → Option Nat} {K : Value → World → Prop}
set_option maxHeartbeats 2000000 in
theorem FilR.write {i gf : Nat} {f : Fi} {B : Nat} (h : FilR T d i w gf f) (hf : FiOk B f) (hB : B ≤ 536870912) (hn : f.ws.length ≤ 2199023255552) {k : Nat} (hk : k ≤ f.now.length) {bv : Value} {l : Bys} (hb : Arg T w bv l) (hl0 : 0 < l.length) (hl : l.length ≤ 17592186044416) {K : World → Prop}
    (hK : ∀ w' T', FilR T' d i w' gf ⟨f.fast, f.ws ++ [(k, l)]⟩ → Gon (Filt d i) w T w' T' → K w') :
    CallS Tryz.prog 32 #[bv] (fun t70 w => RunS Tryz.prog (Instr.build 94 [(0, (.int .i64 (k : Int))), (1, t70)].toArray) (fun t71 w => BoxS 94 (Value.agg #[(Value.int .i64 0), (Value.slice none 0 0)]) (fun w12 w => StoreA 2 w12 t71 (fun w =>
      DrawS fun S6 => S6 w.drew ∧ (PureS (nilV (ptrE gf)) fun t74 => PureS (fieldAddrV 1 t74) fun t75 => HeldC S6 t75 (fun t76 => HeldA 2 S6 w12 (fun t77 => RunS Tryz.prog (Instr.buildSlice 80 1 [(0, t77)].toArray) (fun t78 w => S6 w ∧ (
      RunS Tryz.prog (Builtin.append_ #[80, 80] 80 [t76, t78].toArray) (fun t79 w => PureS (nilV (ptrE gf)) fun t80 => PureS (fieldAddrV 1 t80) fun t81 => StoreC t81 t79 (fun w =>
      DrawS fun S7 => S7 w.drew ∧ (PureS (nilV (ptrE gf)) fun t85 => PureS (fieldAddrV 2 t85) fun t86 => HeldA 2 S7 w12 (fun t83 => HeldC S7 t86 (fun t87 => CallS Tryz.prog 80 [t83, t87].toArray (fun t88 w =>
      PureS (nilV (ptrE gf)) fun t89 => PureS (fieldAddrV 2 t89) fun t90 => StoreC t90 t88 (fun w => K w) w) w.drew)))) w) w)) w.drew)))) w) w) w) w := by
  obtain ⟨hT, fv, ov, nv, qs, hbk, hfv, hnv, hqs, hrow, hoT, hqb⟩ := h
  obtain ⟨hf1, hf2, hf3⟩ := hf
  have hnl : f.now.length ≤ B := (nowB_len f.ws f.fast hf1 hf2 hf3).1
  refine cCLB hb.1 (by omega) fun v1 w1 ho1 e1 => ?_
  have hv1 : ∃ a n c, v1 = .slice a n c := by
    rcases ho1.2 with ⟨rfl, _⟩ | ⟨_, _, _, rfl, _⟩ <;> exact ⟨_, _, _, rfl⟩
  obtain ⟨va, vn, vc, rfl⟩ := hv1
  refine runS (buildWr w1 (k : Int) va vn vc) (box fun w2 b2 e2 z2 => storeAll b2 rfl (by simp [Value.cells]) (by simp [Value.oneCell']) fun w3 b3 e3 z3 => ?_)
  have e23 : Ext No w1 w3 := e2.fresh e3 fun x hx => .inr (by rw [show x = w1.heap.size from hx]; exact Nat.le_refl _)
  have e03d : Ext No w w3.drew := (e1.trans e23).trans (Ext.drew w3)
  have b3d : Blk w3.drew w1.heap.size 94 [.int .i64 (k : Int), .slice va vn vc] := b3.no (Ext.drew w3)
  have hbkd := hbk.no e03d
  have hrowd := owns_ext hrow e03d fun _ _ hh => hh
  have hgo := Own.ne_blk hrowd hbkd (by decide)
  have hgl := hbk.lt
  have hs1 := e1.size
  refine draw (fun w' => Blk w' gf 82 [fv, ov, nv] ∧ Blk w' w1.heap.size 94 [.int .i64 (k : Int), .slice va vn vc]) ⟨hbkd, b3d⟩ ?_
  refine pur (nil_ptr _) (pur (field_ptr _ _ _) (heldC (v := ov) (fun w' hh => hh.1.cell 1) (heldA (xs := [.int .i64 (k : Int), .slice va vn vc]) (fun w' hh => At.of_blk hh.2) rfl ?_)))
  refine build1 TW rfl fun w4 b4 e4 z4 => ⟨⟨hbkd.no e4, b3d.no e4⟩, ?_⟩
  have e04 := e03d.trans e4
  refine append_sl TW 80 (owns_ext hrowd e4 fun _ _ hh => hh) (b4.sl (n := 1) (c := 1) (size := 2) rfl (Nat.le_refl _)) (by simp [Value.oneCell', Value.cells]) (by omega) (by omega) (Nat.zero_le _) fun ov5 w5 ho5 hg5 hat => ?_
  have e5 : Ext (fun b => ov.ownBlock = some b) w4 w5 := Ext.grown hg5 fun b hb => hb
  have hbk5 := (hbkd.no e4).ext e5 hgo
  refine pur (nil_ptr _) (pur (field_ptr _ _ _) (storeB hbk5 (by simp) (Own.one ho5) fun w6 b6 e6 z6 => ?_))
  have b6' : Blk w6 gf 82 [fv, ov5, nv] := b6
  have hne : w1.heap.size ≠ gf := by omega
  have hnw : ¬ (ov.ownBlock = some w1.heap.size) := fun hh => by have := (hrow.lt _ hh).2; omega
  have b3e : Blk w6 w1.heap.size 94 [.int .i64 (k : Int), .slice va vn vc] := ((b3d.no e4).ext e5 hnw).ext e6 hne
  have e6d : Ext No w6 w6.drew := Ext.drew w6
  have b6d := b6'.no e6d
  have b3f := b3e.no e6d
  have hby : ∀ {v : Value} {l : Bys}, w4.ownsRow 0 5 1 v l.length (byteCells l) → w6.drew.ownsRow 0 5 1 v l.length (byteCells l) := fun {v l} h => by
    have h1 := owns_ext h e5 fun b hb hh => Own.ne_own h (owns_ext hrowd e4 fun _ _ hh => hh) (by decide) b hb hh
    have h2 := owns_ext h1 e6 fun b hb hh => Own.ne_blk h1 hbk5 (by decide) (by rw [hb, show b = gf from hh])
    exact owns_ext h2 e6d fun _ _ hh => hh
  have hl6 : w6.drew.ownsRow 0 5 1 (.slice va vn vc) l.length (byteCells l) := hby (owns_base (owns_ext ho1 ((e23.trans (Ext.drew w3)).trans e4) fun _ _ hh => hh) fun _ _ => Nat.zero_le _)
  have hn6 : w6.drew.ownsRow 0 5 1 nv f.now.length (byteCells f.now) := hby (owns_ext hnv.1 e04 fun _ _ hh => hh)
  refine draw (fun w' => w' = w6.drew) rfl (pur (nil_ptr _) (pur (field_ptr _ _ _) ?_))
  refine heldA (xs := [.int .i64 (k : Int), .slice va vn vc]) (fun w' hh => by rw [hh]; exact At.of_blk b3f) rfl (heldC (v := nv) (fun w' hh => by rw [hh]; exact b6d.cell 2) ?_)
  refine cover (b := f.now) (l := l) (Sl.own hn6) (Sl.own hl6) rfl hk hl0 (by omega) (by omega) fun v7 w7 ho7 e7 => ?_
  have b7 := b6d.no e7
  refine pur (nil_ptr _) (pur (field_ptr _ _ _) (storeB b7 (by simp) (Own.one ho7) fun w8 b8 e8 z8 => ?_))
  have b8' : Blk w8 gf 82 [fv, ov5, v7] := b8
  -- marks
  have hsz4 : w.heap.size ≤ w4.heap.size := e04.size
  have hsz5 := e5.size
  have hsz6 : w5.heap.size ≤ w6.drew.heap.size := (e6.trans e6d.no).size
  let T' : Tags := fun b => if ov5.ownBlock = some b then .own d (.file i) else if (Value.slice va vn vc).ownBlock = some b ∨ v7.ownBlock = some b then .ice else T b
  have hovf : ∀ b, ov5.ownBlock = some b → ov.ownBlock = some b ∨ w.heap.size ≤ b := fun b hb' => by
    rcases hat with h | h
    · exact .inl (by rw [← h]; exact hb')
    · rw [h] at hb'
      have : b = w4.heap.size := by simpa using hb'.symm
      right; omega
  have hTs : ∀ b, b < w.heap.size → T' b = T b := fun b hb' => by
    show (if ov5.ownBlock = some b then _ else _) = _
    split
    · rename_i hh
      rcases hovf b hh with h | h
      · exact (hoT b h).symm
      · omega
    · rw [if_neg]
      rintro (h | h)
      · have := (ho1.lt b h).1; omega
      · have := (ho7.lt b h).1; omega
  have e78 : Ext (At1 gf) w6.drew w8 := e7.no.trans e8
  have ho5' := owns_ext (owns_ext ho5 (e6.trans (e6d.no.trans e7.no)) fun b hb hh => Own.ne_blk ho5 hbk5 (by decide) (by rw [hb, show b = gf from hh])) e8 fun b hb hh => Own.ne_blk ho5 hbk5 (by decide) (by rw [hb, show b = gf from hh])
  have kx : Ext (fun b => Filt d i (T b)) w w8 := by
    have a1 : Ext (fun b => Filt d i (T b)) w w5 := e04.no.trans (e5.mono fun b hb _ => hoT b hb)
    have a2 : Ext (fun b => Filt d i (T b)) w5 w8 := (e6.mono fun b hb _ => by rw [show b = gf from hb]; exact hT).trans (e6d.no.trans (e7.no.trans (e8.mono fun b hb _ => by rw [show b = gf from hb]; exact hT)))
    exact a1.trans a2
  have hb8 : ∀ {v : Value} {l : Bys}, w6.drew.ownsRow 0 5 1 v l.length (byteCells l) → w8.ownsRow 0 5 1 v l.length (byteCells l) := fun {v l} h => owns_ext h e78 fun b hb hh => Own.ne_blk h b6d (by decide) (by rw [hb, show b = gf from hh])
  have hndo : ∀ {v : Value} {l : Bys}, w8.ownsRow 0 5 1 v l.length (byteCells l) → ∀ b, v.ownBlock = some b → ¬ (ov5.ownBlock = some b) := fun {v l} h b hb hh => Own.ne_own ho5' h (by decide) b hh hb
  have h7' : w8.ownsRow 0 5 1 v7 (overB f.now k l).length (byteCells (overB f.now k l)) := owns_base (owns_ext ho7 e8 fun b hb hh => Own.ne_blk ho7 b7 (by decide) (by rw [hb, show b = gf from hh])) fun _ _ => Nat.zero_le _
  have old : ∀ {v : Value} {l : Bys}, Byt T w v l → Byt T' w8 v l := fun {v l} h => ⟨hb8 (hby (owns_ext h.1 e04 fun _ _ hh => hh)), fun b hb => by rw [hTs b (h.1.lt b hb).2]; exact h.2 b hb⟩
  have hlT : Byt T' w8 (.slice va vn vc) l := ⟨hb8 hl6, fun b hb => by
    show (if ov5.ownBlock = some b then _ else _) = _
    rw [if_neg (hndo (hb8 hl6) b hb), if_pos (.inl hb)]⟩
  have hnT : Byt T' w8 v7 (overB f.now k l) := ⟨h7', fun b hb => by
    show (if ov5.ownBlock = some b then _ else _) = _
    rw [if_neg (hndo h7' b hb), if_pos (.inr hb)]⟩
  refine hK w8 T' ⟨(hTs gf hgl).trans hT, fv, ov5, v7, qs ++ [((k, l), .slice va vn vc)], b8', old hfv, ?_, by rw [List.map_append, hqs]; rfl, ?_, fun b hb => if_pos hb, fun q hq => ?_⟩ ⟨kx, hTs⟩
  · show Byt T' w8 v7 (nowB f.fast (f.ws ++ [(k, l)]))
    rw [nowB_app]; exact hnT
  · rw [List.length_append, flat_append, flat_one]; exact ho5'
  · rcases List.mem_append.1 hq with hq | hq
    · exact old (hqb q hq)
    · simp only [List.mem_singleton] at hq
      subst hq
      exact hlT
end
end Go.Proofs.YthohdinjpkehpaaGreat

namespace Go.Proofs.YthohdinjpkehpaaGreat
open Go SG Go.RowKit
set_option linter.unusedVariables false
set_option maxRecDepth 4000
set_option linter.unusedSimpArgs false

section
variable {T : Tags} {w : World} {d g : Nat} {st : Dk} {md : Nat} {dm : List (El × Nat)} {ad : Nat → Option Nat} {K : Value → World → Prop}
theorem Dx.fi (hx : Dx T d w g st md dm ad) {i gf : Nat} (hg : ad i = some gf) : st.files[i]? = some (st.fi i) ∧ FilR T d i w gf (st.fi i) := by
  obtain ⟨f, h1, h2⟩ := hx.body.fil i gf hg
  unfold Dk.fi
  rw [h1]; exact ⟨rfl, h2⟩
set_option maxHeartbeats 2000000 in
theorem Dx.writes (hx : Dx T d w g st md dm ad) {B n : Nat} (hW : Wf B n st) (hB : B ≤ 536870912) (hn : n ≤ 2199023255552) {i gf : Nat} (hg : ad i = some gf) {k : Int} (hk1 : -9223372036854775808 ≤ k) (hk2 : k ≤ 9223372036854775807) {bv : Value} {b : Bys} (hb : Arg T w bv b) (hbl : b.length ≤ 140737488355328)
    (hK : ∀ w' T', Dx T' d w' g (st.wr i k b).2 md dm ad → Gon (Ops d) w T w' T' → K (.int .i64 (st.wr i k b).1) w') : CallS Tryz.prog 34 #[ptrE g, ptrE gf, .int .i64 k, bv] K w := by
  obtain ⟨hfi, hF⟩ := hx.fi hg
  obtain ⟨hfo, hfn⟩ := hW.fil _ (List.mem_of_getElem? hfi)
  have hnl := hfo.now_len
  obtain ⟨nv, hnv, hld⟩ := hF.nowV
  refine s34_call hm ?_
  unfold s34
  unfold Dk.wr at hK
  generalize hf : st.fi i = f at *
  refine pur (bin_lss _ _ _) ?_
  refine join1 (fun t w' => w = w' ∧ (¬ k < 0 → t = .bool (decide ((f.now.length : Int) < k)))) ?_ fun J0 hJ0 => ?_
  rotate_left
  · rw [ifB_eq]
    by_cases h : k < 0
    · rw [if_neg (by simp [h])]
      exact hJ0 _ _ ⟨rfl, fun h' => absurd h h'⟩
    · rw [if_pos (by simp [h])]
      exact hld (Ext.refl _ _) (pur hnv.sl.len (pur (bin_gtr _ _ _) (hJ0 _ _ ⟨rfl, fun _ => rfl⟩)))
  rintro t _ ⟨rfl, ht⟩
  refine pur (v := .bool (decide (k < 0 ∨ (f.now.length : Int) < k))) ((pick_b _ _ _).trans ?_) (condD (fun hbad => ?_) (fun hgood => ?_))
  · by_cases h : k < 0
    · simp [h]
    · rw [ht h]; simp [h]
  · rw [if_pos hbad] at hK
    exact hK w T hx (Gon.refl _ _)
  rw [if_neg hgood] at hK
  obtain ⟨kn, rfl⟩ : ∃ kn : Nat, k = (kn : Int) := ⟨k.toNat, by omega⟩
  simp only [Int.toNat_natCast] at hK
  have hkl : kn ≤ f.now.length := by omega
  refine pur hb.1.len (pur (add64 (c := ((kn + b.length : Nat) : Int)) (by omega) (by omega) (by omega)) (hld (Ext.refl _ _) (pur hnv.sl.len (pur (sub64 (c := ((kn + b.length : Nat) : Int) - (f.now.length : Int)) rfl (by omega) (by omega)) ?_))))
  refine join1 (fun t w' => t = .bool (decide (f.now.length < kn + b.length ∧ st.quota < (st.used : Int) + ((kn + b.length - f.now.length : Nat) : Int))) ∧ ∃ T', Dx T' d w' g st md dm ad ∧ Gon (Ops d) w T w' T') ?_ fun J1 hJ1 => ?_
  rotate_left
  · have hxd := hx.no (Ext.drew w)
    have kd : Gon (Ops d) w T w.drew T := Gon.no (Ext.drew w)
    refine draw (fun w' => w'.cell? ⟨g, 0, none⟩ = some (.int .i64 st.quota)) (hxd.blk.cell 0) (pur (bin_gtr _ _ _) (condD (fun hmore => ?_) (fun hless => ?_)))
    · refine pur (nil_ptr _) (pur (field_ptr _ _ _) (heldC (v := .int .i64 st.quota) (fun w' hh => hh) ?_))
      refine hxd.used_ hW hB fun w1 T1 hx1 k1 => ⟨hx1.blk.cell 0, ?_⟩
      have hu := hW.usedL_le (l := (items st.dirs).map (·.2)) (by simpa using hW.items_le)
      have hu' : st.used ≤ 65536 * B := hu
      refine pur (add64 (c := (st.used : Int) + (((kn + b.length : Nat) : Int) - (f.now.length : Int))) rfl (by omega) (by omega)) (pur (bin_gtr _ _ _) (pur (pick_b _ _ _) (hJ1 _ _ ⟨?_, T1, hx1, kd.trans k1.usd⟩)))
      rw [if_pos rfl]
      congr 1
      rw [decide_eq_decide]
      have hq := hW.quo
      constructor
      · intro h; exact ⟨by omega, by omega⟩
      · rintro ⟨h1, h2⟩; omega
    · refine pur (pick_b _ _ _) (hJ1 _ _ ⟨?_, T, hxd, kd⟩)
      rw [if_neg (by simp)]
      congr 1
      rw [eq_comm, decide_eq_false_iff_not]
      omega
  rintro _ w1 ⟨rfl, T1, hx1, k1⟩
  refine condD (fun hover => ?_) (fun hfits => ?_)
  · rw [if_pos hover] at hK
    exact hK w1 T1 hx1 k1
  rw [if_neg hfits] at hK
  have hbs : b.length ≤ 17592186044416 := by
    have hq := hW.quo
    by_cases h1 : f.now.length < kn + b.length
    · have : ¬ st.quota < (st.used : Int) + ((kn + b.length - f.now.length : Nat) : Int) := fun h => hfits ⟨h1, h⟩
      omega
    · omega
  refine hx1.change hW.fail hW.stop (by omega) fun w2 hx2 k2 => pur (extract_0 _ _) (pur (extract_1 _ _ _) ?_)
  have k02 : Gon (Ops d) w T w2 T1 := k1.trans k2.hdr
  have hb2 : Arg T1 w2 bv b := hb.keep k02 Ops.free Ops.ice
  generalize hbe : (if (chgV st).2 = true then b.take (b.length / 2) else b) = b' at *
  have hbl' : b'.length ≤ 17592186044416 := by rw [← hbe]; split; simp; omega; exact hbs
  refine join1 (fun v w' => w2 = w' ∧ Arg T1 w2 v b') ?_ fun J2 hJ2 => ?_
  rotate_left
  · refine condB (fun hh => ?_) (fun hh => ?_)
    · rw [if_pos hh] at hbe
      refine pur hb2.1.len (pur (v := .int .i64 ((b.length / 2 : Nat) : Int)) ((bin_quo _ _ _ (by decide)).trans (by
        have : ((b.length : Int)).tdiv 2 = ((b.length / 2 : Nat) : Int) := by
          rw [Int.tdiv_eq_ediv_of_nonneg (by omega)]; omega
        rw [this, wi64 (by omega) (by omega)])) ?_)
      obtain ⟨v', t1, t2, t3⟩ := sl_takeB hb2.1 (n := b.length / 2) (by omega) .i64
      refine pur t1 (hJ2 _ _ ⟨rfl, ?_, hb2.2.imp (fun h0 => by rw [← hbe, h0]; rfl) fun h2 x hx' => ?_⟩)
      · rw [← hbe]; exact t2
      · rcases t3 with t3 | t3
        · exact h2 x (by rw [← t3]; exact hx')
        · rw [t3] at hx'; cases hx'
    · rw [if_neg (by simp [hh])] at hbe
      subst hbe
      exact hJ2 _ _ ⟨rfl, hb2⟩
  rintro v _ ⟨rfl, hv⟩
  have he := chgV_err st
  refine join0 (fun w' => K (.int .i64 (chgV st).1) w') (fun w' h => h) fun J3 hJ3 => ?_
  have noWrite : ¬ (((chgV st).1 = 0 ∨ (chgV st).2 = true) ∧ 0 < b'.length) → K (.int .i64 (chgV st).1) w2 := fun h => by
    rw [if_neg h] at hK
    exact hK w2 T1 hx2 k02
  refine pur (bin_eql _ _ _) ?_
  refine join1 (fun t w' => w2 = w' ∧ (¬ (chgV st).1 = 0 → t = .bool (chgV st).2)) ?_ fun J4 hJ4 => ?_
  rotate_left
  · rw [ifB_eq]
    by_cases h : (chgV st).1 = 0
    · rw [if_neg (by simp [h])]
      exact hJ4 _ _ ⟨rfl, fun h' => absurd h h'⟩
    · rw [if_pos (by simp [h])]
      exact hJ4 _ _ ⟨rfl, fun _ => rfl⟩
  rintro t _ ⟨rfl, ht⟩
  refine pur (v := .bool (decide ((chgV st).1 = 0 ∨ (chgV st).2 = true))) ((pick_b _ _ _).trans ?_) ?_
  · by_cases h : (chgV st).1 = 0
    · simp [h]
    · rw [ht h]; simp [h]
  refine join1 (fun t w' => w2 = w' ∧ (((chgV st).1 = 0 ∨ (chgV st).2 = true) → t = .bool (decide (0 < b'.length)))) ?_ fun J5 hJ5 => ?_
  rotate_left
  · rw [ifB_eq]
    by_cases h : (chgV st).1 = 0 ∨ (chgV st).2 = true
    · rw [if_pos (by simpa using h)]
      exact pur hv.1.len (pur (bin_gtr _ _ _) (hJ5 _ _ ⟨rfl, fun _ => by congr 1; rw [decide_eq_decide]; omega⟩))
    · rw [if_neg (by simpa using h)]
      exact hJ5 _ _ ⟨rfl, fun h' => absurd h' h⟩
  rintro t _ ⟨rfl, ht⟩
  refine pur (v := .bool (decide (((chgV st).1 = 0 ∨ (chgV st).2 = true) ∧ 0 < b'.length))) ((pick_b _ _ _).trans ?_) (condD (fun hdo => ?_) (fun hno => hJ3 _ (noWrite hno)))
  · by_cases h : (chgV st).1 = 0 ∨ (chgV st).2 = true
    · rw [ht h]; simp [h]
    · simp [h]
  rw [if_pos hdo] at hK
  obtain ⟨hfi2, hF2⟩ := hx2.fi hg
  have hff : (chgD st).fi i = f := hf
  rw [hff] at hF2
  exact hF2.write hfo hB (by omega) hkl hv hdo.2 hbl' (K := J3) fun w3 T3 hF3 k3 => hJ3 _ (hK w3 T3 (hx2.setF hg k3 hF3) (k02.trans k3.filt))
theorem Dx.Write (hx : Dx T d w g st md dm ad) {B n : Nat} (hW : Wf B n st) (hB : B ≤ 536870912) (hn : n ≤ 2199023255552) {s : El} (hs : s.length ≤ 9223372036854775806) {k : Int} (hk1 : -9223372036854775808 ≤ k) (hk2 : k ≤ 9223372036854775807) {bv : Value} {b : Bys} (hb : Arg T w bv b) (hbl : b.length ≤ 140737488355328)
    (h0 : ∀ e w', st.file s = .error e → Ext No w w' → K (.int .i64 e) w')
    (hK : ∀ i w' T', st.file s = .ok i → Dx T' d w' g (st.wr i k b).2 md dm ad → Gon (Ops d) w T w' T' → K (.int .i64 (st.wr i k b).1) w') : CallS Tryz.prog 22 #[ptrE g, encE s, .int .i64 k, bv] K w := by
  refine s22_call hm ?_
  unfold s22
  refine hx.file hs (fun e w1 he e1 hne => ?_) fun i gf f w1 hi hg hf hF e1 => ?_
  · exact pur (extract_0 _ _) (pur (extract_1 _ _ _) (pur (bin_neq _ _ _) (condT (by simpa using hne) (h0 e w1 he e1))))
  · have k1 : Gon (Ops d) w T w1 T := Gon.no e1
    exact pur (extract_0 _ _) (pur (extract_1 _ _ _) (pur (v := .bool false) ((bin_neq _ _ _).trans (by simp)) (condF rfl ((hx.no e1).writes hW hB hn hg hk1 hk2 (hb.keep k1 Ops.free Ops.ice) hbl fun w2 T2 hx2 k2 => hK i w2 T2 hi hx2 (k1.trans k2)))))
end
end Go.Proofs.YthohdinjpkehpaaGreat

namespace Go.Proofs.YthohdinjpkehpaaGreat
open Go SG Go.RowKit
set_option linter.unusedVariables false
set_option maxRecDepth 4000
set_option linter.unusedSimpArgs false

theorem eq_ptr {P : Program} {k el : TypeId} {i : TypeInfo} (hk : P.underlying k = some (.pointer el)) (hi : P.info? el = some i) (hz : i.size ≠ 0) {x y : Operand} {a b : Nat} {w : World} (ha : IsC w a) (hb : IsC w b) {K : Value → World → Prop} (hK : K (.bool (decide (a = b))) w) :
    RunS P (do eqGuard .eql k x y (ptrE a) (ptrE b); binOp .eql k (ptrE a) (ptrE b)) K w := by
  refine runS (v := .bool (decide (a = b))) (w' := w) ?_ hK
  unfold ptrE
  rw [eqGuard_at_pointer]
  have := run_ptr_eq (P := P) hk hi hz ha hb
  unfold ptrE at this
  simp [binOp, this]
theorem ne_ptr {P : Program} {k el : TypeId} {i : TypeInfo} (hk : P.underlying k = some (.pointer el)) (hi : P.info? el = some i) (hz : i.size ≠ 0) {x y : Operand} {a b : Nat} {w : World} (ha : IsC w a) (hb : IsC w b) {K : Value → World → Prop} (hK : K (.bool (!decide (a = b))) w) :
    RunS P (do eqGuard .neq k x y (ptrE a) (ptrE b); binOp .neq k (ptrE a) (ptrE b)) K w := by
  refine runS (v := .bool (!decide (a = b))) (w' := w) ?_ hK
  unfold ptrE
  rw [eqGuard_at_pointer]
  have := run_ptr_eq (P := P) hk hi hz ha hb
  unfold ptrE at this
  simp [binOp, this]
theorem FilR.isC {T : Tags} {d i g : Nat} {w : World} {f : Fi} (h : FilR T d i w g f) : IsC w g := by obtain ⟨_, _, _, _, _, hb, _⟩ := h; exact hb.isC
section
variable {T : Tags} {w : World} {d g : Nat} {st : Dk} {md : Nat} {dm : List (El × Nat)} {ad : Nat → Option Nat} {K : Value → World → Prop}
theorem Dx.Append (hx : Dx T d w g st md dm ad) {B n : Nat} (hW : Wf B n st) (hB : B ≤ 536870912) (hn : n ≤ 2199023255552) {s : El} (hs : s.length ≤ 9223372036854775806) {bv : Value} {b : Bys} (hb : Arg T w bv b) (hbl : b.length ≤ 140737488355328)
    (h0 : ∀ e w', st.file s = .error e → Ext No w w' → K (.int .i64 e) w')
    (hK : ∀ i w' T', st.file s = .ok i → Dx T' d w' g (st.wr i (st.fi i).now.length b).2 md dm ad → Gon (Ops d) w T w' T' → K (.int .i64 (st.wr i (st.fi i).now.length b).1) w') : CallS Tryz.prog 11 #[ptrE g, encE s, bv] K w := by
  refine s11_call hm ?_
  unfold s11
  refine hx.file hs (fun e w1 he e1 hne => ?_) fun i gf f w1 hi hg hf hF e1 => ?_
  · exact pur (extract_0 _ _) (pur (extract_1 _ _ _) (pur (bin_neq _ _ _) (condT (by simpa using hne) (h0 e w1 he e1))))
  · have k1 : Gon (Ops d) w T w1 T := Gon.no e1
    obtain ⟨nv, hnv, hld⟩ := ((hx.no e1).fi hg).2.nowV
    have hnl := (hW.fil _ (List.mem_of_getElem? (hx.fi hg).1)).1.now_len
    refine pur (extract_0 _ _) (pur (extract_1 _ _ _) (pur (v := .bool false) ((bin_neq _ _ _).trans (by simp)) (condF rfl (hld (Ext.refl _ _) (pur hnv.sl.len ?_)))))
    exact (hx.no e1).writes hW hB hn hg (by omega) (by omega) (hb.keep k1 Ops.free Ops.ice) hbl fun w2 T2 hx2 k2 => hK i w2 T2 hi hx2 (k1.trans k2)
theorem Dx.Read (hx : Dx T d w g st md dm ad) {B n : Nat} (hW : Wf B n st) (hB : B ≤ 536870912) {s : El} (hs : s.length ≤ 9223372036854775806)
    (h0 : ∀ e w', st.file s = .error e → e ≠ 0 → Ext No w w' → K (.tuple [.slice none 0 0, .int .i64 e].toArray) w')
    (hK : ∀ i v w', st.file s = .ok i → w'.ownsRow w.heap.size 5 1 v (st.fi i).now.length (byteCells (st.fi i).now) → Ext No w w' → K (.tuple [v, .int .i64 0].toArray) w') : CallS Tryz.prog 24 #[ptrE g, encE s] K w := by
  refine s24_call hm ?_
  unfold s24
  refine hx.file hs (fun e w1 he e1 hne => ?_) fun i gf f w1 hi hg hf hF e1 => ?_
  · exact pur (extract_0 _ _) (pur (extract_1 _ _ _) (pur (bin_neq _ _ _) (condT (by simpa using hne) (h0 e w1 he hne e1))))
  · obtain ⟨nv, hnv, hld⟩ := ((hx.no e1).fi hg).2.nowV
    have hnl := (hW.fil _ (List.mem_of_getElem? (hx.fi hg).1)).1.now_len
    refine pur (extract_0 _ _) (pur (extract_1 _ _ _) (pur (v := .bool false) ((bin_neq _ _ _).trans (by simp)) (condF rfl (hld (Ext.refl _ _) ?_))))
    exact cCLB hnv.sl (by omega) fun v w2 ho2 e2 => hK i v w2 hi (owns_base ho2 fun b hb => by have := (ho2.lt b hb).1; have := e1.size; omega) (e1.trans e2)
theorem Dx.Same (hx : Dx T d w g st md dm ad) {a b : El} (ha : a.length ≤ 9223372036854775806) (hb : b.length ≤ 9223372036854775806)
    (hK : ∀ w', Ext No w w' → K (.bool (match st.file a, st.file b with | .ok i, .ok j => decide (i = j) | _, _ => false)) w') : CallS Tryz.prog 118 #[ptrE g, encE a, encE b] K w := by
  refine s118_call hm ?_
  unfold s118
  obtain ⟨inf, hi1, hi2⟩ := fileInfo
  -- what the first told, the second tells
  have fin : ∀ {w2 : World} (ea eb : Int) (x y : Value) (r : Bool), Ext No w w2 → (ea ≠ 0 ∨ eb ≠ 0 → r = false) → (ea = 0 → eb = 0 → ∀ {K' : Value → World → Prop}, K' (.bool r) w2 → RunS Tryz.prog (do eqGuard .eql 75 (Operand.tmp 30) (Operand.tmp 31) x y; binOp .eql 75 x y) K' w2) → K (.bool r) w2 →
      PureS (binV .eql (.int .i64 ea) (Value.int .i64 0)) fun t24 => JoinS (fun (t27 : Value) (w : World) => PureS (pickV t24 t27 (Value.bool false)) fun t28 => JoinS (fun (t32 : Value) (w : World) => PureS (pickV t28 t32 (Value.bool false)) fun t33 => K t33 w) fun J1 =>
        IfB t28 true (RunS Tryz.prog (do eqGuard .eql 75 (Operand.tmp 30) (Operand.tmp 31) x y; binOp .eql 75 x y) (fun t32_1 w => J1 t32_1 w) w) (J1 undef w)) fun J0 =>
        IfB t24 true (PureS (binV .eql (.int .i64 eb) (Value.int .i64 0)) fun t27_1 => J0 t27_1 w2) (J0 undef w2) := fun {w2} ea eb x y r e hr hrun hfin => by
    refine pur (bin_eql _ _ _) (join1 (fun t w' => w2 = w' ∧ (ea = 0 → t = .bool (decide (eb = 0)))) ?_ fun J0 hJ0 => ?_)
    · rintro t _ ⟨rfl, ht⟩
      refine pur (v := .bool (decide (ea = 0 ∧ eb = 0))) ((pick_b _ _ _).trans (by
        by_cases h : ea = 0
        · rw [ht h]; simp [h]
        · simp [h])) ?_
      refine join1 (fun t w' => w2 = w' ∧ (ea = 0 ∧ eb = 0 → t = .bool r)) ?_ fun J1 hJ1 => ?_
      · rintro t _ ⟨rfl, ht⟩
        refine pur (v := .bool r) ((pick_b _ _ _).trans ?_) hfin
        by_cases h : ea = 0 ∧ eb = 0
        · rw [ht h]; simp [h]
        · rw [hr (by omega)]; simp [h]
      · rw [ifB_eq]
        by_cases h : ea = 0 ∧ eb = 0
        · rw [if_pos (by simpa using h)]
          exact hrun h.1 h.2 (hJ1 _ _ ⟨rfl, fun _ => rfl⟩)
        · rw [if_neg (by simpa using h)]
          exact hJ1 _ _ ⟨rfl, fun h' => absurd h' h⟩
    · rw [ifB_eq]
      by_cases h : ea = 0
      · rw [if_pos (by simp [h])]
        exact pur (bin_eql _ _ _) (hJ0 _ _ ⟨rfl, fun _ => rfl⟩)
      · rw [if_neg (by simp [h])]
        exact hJ0 _ _ ⟨rfl, fun h' => absurd h' h⟩
  refine hx.file ha (fun e w1 he e1 hne => ?_) fun i gf f w1 hi hg hf hF e1 => ?_
  · refine pur (extract_0 _ _) (pur (extract_1 _ _ _) ((hx.no e1).file hb (fun e' w2 he' e2 hne' => ?_) fun j gj f' w2 hj hg' hf' hF' e2 => ?_))
    · refine pur (extract_0 _ _) (pur (extract_1 _ _ _) (fin e e' _ _ false (e1.trans e2) (fun _ => rfl) (fun h => absurd h hne) ?_))
      have := hK w2 (e1.trans e2); rw [he] at this; exact this
    · refine pur (extract_0 _ _) (pur (extract_1 _ _ _) (fin e 0 _ _ false (e1.trans e2) (fun _ => rfl) (fun h => absurd h hne) ?_))
      have := hK w2 (e1.trans e2); rw [he] at this; exact this
  · refine pur (extract_0 _ _) (pur (extract_1 _ _ _) ((hx.no e1).file hb (fun e' w2 he' e2 hne' => ?_) fun j gj f' w2 hj hg' hf' hF' e2 => ?_))
    · refine pur (extract_0 _ _) (pur (extract_1 _ _ _) (fin 0 e' _ _ false (e1.trans e2) (fun _ => rfl) (fun _ h => absurd h hne') ?_))
      have := hK w2 (e1.trans e2); rw [hi, he'] at this; exact this
    · have hij : decide (gf = gj) = decide (i = j) := by
        rw [decide_eq_decide]
        constructor
        · rintro rfl
          have := ((hx.no e1).fi hg).2.1.symm.trans ((hx.no e1).fi hg').2.1
          injection this with _ h; injection h
        · rintro rfl
          rw [hg] at hg'; exact Option.some.inj hg'
      refine pur (extract_0 _ _) (pur (extract_1 _ _ _) (fin 0 0 _ _ (decide (i = j)) (e1.trans e2) (fun h => by omega) (fun _ _ {K'} hk' => ?_) ?_))
      · refine eq_ptr Tryz.underlying75 hi1 hi2 (((hx.no e1).no e2).fi hg).2.isC hF'.isC ?_
        rw [hij]; exact hk'
      · have := hK w2 (e1.trans e2); rw [hi, hj] at this; exact this
def Dk.sync (st : Dk) (i : Nat) : Int × Dk := if (chgV st).1 ≠ 0 then ((chgV st).1, chgD st) else (0, (chgD st).setF i ⟨(st.fi i).now, []⟩)
theorem Dx.Sync (hx : Dx T d w g st md dm ad) {B n : Nat} (hW : Wf B n st) (hn : n ≤ 2199023255552) {s : El} (hs : s.length ≤ 9223372036854775806)
    (h0 : ∀ e w', st.file s = .error e → Ext No w w' → K (.int .i64 e) w')
    (hK : ∀ i w' T', st.file s = .ok i → Dx T' d w' g (st.sync i).2 md dm ad → Gon (Ops d) w T w' T' → K (.int .i64 (st.sync i).1) w') : CallS Tryz.prog 12 #[ptrE g, encE s] K w := by
  refine s12_call hm ?_
  unfold s12
  refine hx.file hs (fun e w1 he e1 hne => ?_) fun i gf f w1 hi hg hf hF e1 => ?_
  · exact pur (extract_0 _ _) (pur (extract_1 _ _ _) (pur (bin_neq _ _ _) (condT (by simpa using hne) (h0 e w1 he e1))))
  · have k1 : Gon (Ops d) w T w1 T := Gon.no e1
    refine pur (extract_0 _ _) (pur (extract_1 _ _ _) (pur (v := .bool false) ((bin_neq _ _ _).trans (by simp)) (condF rfl ?_)))
    refine (hx.no e1).change hW.fail hW.stop (by omega) fun w2 hx2 k2 => pur (extract_0 _ _) (pur (extract_1 _ _ _) (pur (bin_neq _ _ _) (condN (fun hne => ?_) (fun heq => ?_))))
    · have := hK i w2 T hi (by unfold Dk.sync; rw [if_pos hne]; exact hx2) (k1.trans k2.hdr)
      unfold Dk.sync at this
      rw [if_pos hne] at this
      exact this
    · obtain ⟨_, hF2⟩ := hx2.fi hg
      have hff : (chgD st).fi i = st.fi i := rfl
      rw [hff] at hF2
      obtain ⟨hT, fv, ov, nv, qs, hb, hfv, hnv, _⟩ := hF2
      refine pur (nil_ptr _) (pur (field_ptr _ _ _) (loadB hb (v := nv) rfl ?_))
      refine pur (nil_ptr _) (pur (field_ptr _ _ _) (storeB hb (by simp) (Own.one hnv.1) fun w3 b3 e3 z3 => ?_))
      refine pur (nil_ptr _) (pur (field_ptr _ _ _) (storeB b3 (by simp) rfl fun w4 b4 e4 z4 => ?_))
      have b4' : Blk w4 gf 82 [nv, .slice none 0 0, nv] := b4
      have k4 : Gon (Filt d i) w2 T w4 T := Gon.at1 (e3.trans e4) hT rfl
      have hn4 : Byt T w4 nv (st.fi i).now := hnv.keep k4 (fun h => by cases h)
      have := hK i w4 T hi (by
        unfold Dk.sync
        rw [if_neg (by simpa using heq)]
        exact hx2.setF hg k4 ⟨hT, nv, _, nv, [], b4', hn4, hn4, rfl, World.ownsRow_nil _ _ _ _, fun b hb' => by simp [Value.ownBlock] at hb', fun q hq => by cases hq⟩) ((k1.trans k2.hdr).trans k4.filt)
      unfold Dk.sync at this
      rw [if_neg (by simpa using heq)] at this
      exact this
end
end Go.Proofs.YthohdinjpkehpaaGreat

namespace Go.Proofs.YthohdinjpkehpaaGreat
open Go SG Go.RowKit
set_option linter.unusedVariables false
set_option maxRecDepth 4000
set_option linter.unusedSimpArgs false

def Dk.setD (st : Dk) (D : Di) : Dk := { st with dirs := st.dirs.map fun E => if E.name = D.name then D else E }
def Di.chg (D : Di) (y : Way) : Di := ⟨D.name, D.was ++ [D.now], y⟩
theorem setD_mem {l : List Di} {D E : Di} (h : E ∈ l.map fun E => if E.name = D.name then D else E) : E = D ∨ (E ∈ l ∧ E.name ≠ D.name) := by
  obtain ⟨E', h1, h2⟩ := List.mem_map.1 h
  by_cases hn : E'.name = D.name
  · rw [if_pos hn] at h2; exact .inl h2.symm
  · rw [if_neg hn] at h2; subst h2; exact .inr ⟨h1, hn⟩
theorem setD_names {l : List Di} {D : Di} : (l.map fun E => if E.name = D.name then D else E).map (·.name) = l.map (·.name) := by
  rw [List.map_map]
  refine List.map_congr_left fun E _ => ?_
  simp only [Function.comp]
  by_cases hn : E.name = D.name
  · rw [if_pos hn]; exact hn.symm
  · rw [if_neg hn]
theorem mget_memE {way : Way} {x : El} {i : Nat} (h : mget way x = some i) : ∃ p ∈ way, p.2 = i := by
  unfold mget at h
  obtain ⟨p, hp, hpe⟩ := Option.map_eq_some_iff.1 h
  exact ⟨p, List.mem_of_find?_eq_some hp, hpe⟩
section
variable {T T' : Tags} {w w' : World} {d g gd : Nat} {st : Dk} {md : Nat} {dm : List (El × Nat)} {ad ad' : Nat → Option Nat} {K : Value → World → Prop}
theorem NamR.adm {b : Nat} {way : Way} (h : NamR T ad w b way) (ha : ∀ i gf, ad i = some gf → ad' i = some gf) : NamR T ad' w b way := by
  obtain ⟨h1, ⟨m, h2, h3, h4⟩, h5⟩ := h
  refine ⟨h1, ⟨m, h2, h3, fun x => ?_⟩, fun p hp => ?_⟩
  · rw [h4]
    cases hx : mget way x with
    | none => rfl
    | some i =>
      obtain ⟨p, hp, rfl⟩ := mget_memE hx
      obtain ⟨gf, hg⟩ := Option.isSome_iff_exists.1 (h5 p hp)
      simp only [Option.bind_some, hg, ha _ _ hg]
  · obtain ⟨gf, hg⟩ := Option.isSome_iff_exists.1 (h5 p hp)
    rw [ha _ _ hg]; rfl
theorem DirR.adm {D : Di} (h : DirR T d ad w gd D) (ha : ∀ i gf, ad i = some gf → ad' i = some gf) : DirR T d ad' w gd D := by
  obtain ⟨h0, mn, wv, bs, h1, h2, h3, h4, h5, h6⟩ := h
  exact ⟨h0, mn, wv, bs, h1, h2.adm ha, h3, h4, h5, fun p hp => (h6 p hp).adm ha⟩
theorem Dx.setD (hx : Dx T d w g st md dm ad) {D : Di} (hD : ∃ E ∈ st.dirs, E.name = D.name) (hgd : mget dm D.name = some gd) (k : Gon (Dirt d D.name) w T w' T') (ha : ∀ i gf, ad i = some gf → ad' i = some gf) (hR : DirR T' d ad' w' gd D) {files' : List Fi}
    (hf : ∀ (i : Nat) f, st.files[i]? = some f → files'[i]? = some f) (hn : ∀ i gf, ad' i = some gf → ad i = some gf ∨ ∃ f, files'[i]? = some f ∧ FilR T' d i w' gf f) : Dx T' d w' g { st.setD D with files := files' } md dm ad' := by
  have hi : ¬ Dirt d D.name .ice := fun h => by cases h
  have hname : ∀ E ∈ (st.setD D).dirs, E = D ∨ (E ∈ st.dirs ∧ E.name ≠ D.name) := fun E hE => setD_mem hE
  refine ⟨(k.same g hx.blk.lt).trans hx.tag, hx.blk.ext k.ext (by rw [hx.tag]; intro h; cases h), (k.same md hx.body.mdR.lt).trans hx.body.mdT, hx.body.mdR.ext k.ext (by rw [hx.body.mdT]; intro h; cases h), fun E hE => ?_, fun x hxn => hx.body.none_ x fun E hE he => ?_, ?_, fun j gj hj => ?_⟩
  · rcases hname E hE with rfl | ⟨h1, h2⟩
    · exact ⟨gd, hgd, hR⟩
    · obtain ⟨ge, h3, h4⟩ := hx.body.some_ E h1
      exact ⟨ge, h3, (h4.keep k hi (fun h => by
        unfold Dirt at h
        injection h with _ h; injection h with h; exact h2 h)).adm ha⟩
  · have : x ∈ (st.setD D).dirs.map (·.name) := by
      show x ∈ (st.dirs.map fun E => if E.name = D.name then D else E).map (·.name)
      rw [setD_names]; exact List.mem_map.2 ⟨E, hE, he⟩
    obtain ⟨E', h1, h2⟩ := List.mem_map.1 this
    exact hxn E' h1 h2
  · show dm.length = (st.dirs.map _).length
    rw [List.length_map]; exact hx.body.len
  · rcases hn j gj hj with h | h
    · obtain ⟨f, h1, h2⟩ := hx.body.fil j gj h
      exact ⟨f, hf j f h1, h2.keep k hi (fun h => by cases h)⟩
    · exact h
theorem Dx.changed (hx : Dx T d w g st md dm ad) {D : Di} {y : Way} (hD : D ∈ st.dirs) (hgd : mget dm D.name = some gd) {w1 w2 : World} {T1 T2 : Tags} {mb : Nat} {wv : Value} {bs : List (Way × Nat)} {m2 : List (El × Nat)}
    (hmb : w.heap.size ≤ mb) (hmbl : mb < w1.heap.size) (hgT : T1 gd = .own d (.dir D.name)) (hb : Blk w1 gd 73 [.map (some mb), wv]) (hbs : bs.map (·.1) = D.was ++ [D.now]) (hrow : w1.ownsRow 0 70 1 wv (D.was ++ [D.now]).length (bs.map fun (p : Way × Nat) => .map (some p.2)))
    (hwT : ∀ b, wv.ownBlock = some b → T1 b = .own d (.dir D.name)) (hall : ∀ p ∈ bs, NamR T1 ad w1 p.2 p.1 ∧ p.2 < w.heap.size) (k : Gon (Dirt d D.name) w T w1 T1) (hice : T1 mb = .ice)
    (e2 : Ext (At1 mb) w1 w2) (hT2 : ∀ b, b < w1.heap.size → T2 b = T1 b) (hm2 : MapR w2 mb encE ptrE m2) (hml : m2.length = y.length) (hmg : ∀ x, mget m2 x = (mget y x).bind ad') (hys : ∀ p ∈ y, (ad' p.2).isSome) (ha : ∀ i gf, ad i = some gf → ad' i = some gf) {files' : List Fi}
    (hf : ∀ (i : Nat) f, st.files[i]? = some f → files'[i]? = some f) (hn : ∀ i gf, ad' i = some gf → ad i = some gf ∨ ∃ f, files'[i]? = some f ∧ FilR T2 d i w2 gf f) :
    Dx T2 d w2 g { st.setD (D.chg y) with files := files' } md dm ad' ∧ Gon (Dirt d D.name) w T w2 T2 := by
  have k2 : Gon (Dirt d D.name) w T w2 T2 := ⟨k.ext.fresh e2 fun b hb => .inr (by rw [show b = mb from hb]; exact hmb), fun b hb => (hT2 b (Nat.lt_of_lt_of_le hb k.ext.size)).trans (k.same b hb)⟩
  refine ⟨hx.setD (D := D.chg y) ⟨D, hD, rfl⟩ hgd k2 ha ⟨(hT2 gd hb.lt).trans hgT, mb, wv, bs, hb.ext e2 (fun hh => ?_), ⟨(hT2 mb hmbl).trans hice, ⟨m2, hm2, hml, hmg⟩, hys⟩, hbs, owns_ext hrow e2 fun b hb' hh => ?_, fun b hb' => (hT2 b (hrow.lt b hb').2).trans (hwT b hb'), fun p hp => ?_⟩ hf hn, k2⟩
  · rw [show gd = mb from hh, hice] at hgT; cases hgT
  · have := hwT b hb'; rw [show b = mb from hh, hice] at this; cases this
  · obtain ⟨⟨h1, ⟨m, h2, h3, h4⟩, h5⟩, h6⟩ := hall p hp
    refine NamR.adm ⟨(hT2 p.2 h2.lt).trans h1, ⟨m, h2.ext e2 (fun hh => by have : p.2 = mb := hh; omega), h3, h4⟩, h5⟩ ha
end
end Go.Proofs.YthohdinjpkehpaaGreat

namespace Go.Proofs.YthohdinjpkehpaaGreat
open Go SG Go.RowKit
set_option linter.unusedVariables false
set_option maxRecDepth 4000
set_option linter.unusedSimpArgs false

theorem run_of {P : Program} {s : Sem Value} {v : Value} {w : World} (h : RunS P s (fun u w' => u = v ∧ w' = w) w) : s.run P w = .ok v w := by
  unfold RunS at h
  split at h
  · rename_i u w' hu
    obtain ⟨rfl, rfl⟩ := h
    exact hu
  · exact h.elim
def Dk.create (st : Dk) (s : El) : Int × Dk := match st.path s with
  | .error e => (e, st)
  | .ok (D, n) => if (mget D.now n).isSome then (7, st) else if 1024 ≤ D.now.length then (2, st) else if (chgV st).1 ≠ 0 then ((chgV st).1, chgD st)
    else (0, { (chgD st).setD (D.chg (wput D.now n st.files.length)) with files := st.files ++ [⟨[], []⟩] })
theorem buildFil (w : World) : (Instr.build 82 [].toArray).run Tryz.prog w = .ok (.agg #[.slice none 0 0, .slice none 0 0, .slice none 0 0]) w := by kernel_rfl
theorem okCreate : okFunc Tryz.prog 74 = true := by kernel_rfl
section
variable {T : Tags} {w : World} {d g : Nat} {st : Dk} {md : Nat} {dm : List (El × Nat)} {ad : Nat → Option Nat} {K : Value → World → Prop}
theorem NamR.len_ {b : Nat} {way : Way} (h : NamR T ad w b way) {K' : Value → World → Prop} (hK : K' (.int .i64 (way.length : Int)) w) : RunS Tryz.prog (Builtin.len_ #[70] 3 [.map (some b)].toArray) K' w := by
  obtain ⟨_, ⟨m, h2, h3, _⟩, _⟩ := h
  exact h2.len Tryz.underlying70 (by rw [h3]; exact hK)
theorem path_mem {s : El} {D : Di} {n : El} (h : st.path s = .ok (D, n)) : D ∈ st.dirs := by
  unfold Dk.path at h
  split at h
  · cases h
  · split at h
    · cases h
    · rename_i hd
      injection h with h; injection h with h1 h2
      subst h1
      exact (Dk.dir_some hd).1
set_option maxHeartbeats 2000000 in
theorem Dx.Create (hx : Dx T d w g st md dm ad) {B n : Nat} (hW : Wf B n st) (hn : n ≤ 2199023255552) {s : El} (hs : s.length ≤ 9223372036854775806)
    (hK : ∀ w' T' ad', Dx T' d w' g (st.create s).2 md dm ad' → Gon (Ops d) w T w' T' → K (.int .i64 (st.create s).1) w') : CallS Tryz.prog 21 #[ptrE g, encE s] K w := by
  refine s21_call hm ?_
  unfold s21
  unfold Dk.create at hK
  refine hx.path hs (fun e w1 he e1 => ?_) fun D nm gd w1 hp hgd hDR e1 => ?_
  · rw [he] at hK
    refine pur (extract_0 _ _) (pur (extract_1 _ _ _) (pur (extract_2 _ _ _ _) (box fun w2 b2 e2 z2 => storeB b2 (by simp [Value.cells]) rfl fun w3 b3 e3 z3 => ?_)))
    have e03 : Ext No w w3 := (e1.trans e2).fresh e3 fun b hb => .inr (by rw [show b = w1.heap.size from hb]; exact e1.size)
    have hne : e ≠ 0 := by
      unfold Dk.path at he
      split at he
      · injection he with he; omega
      · split at he
        · injection he with he; omega
        · cases he
    exact pur (bin_neq _ _ _) (condT (by simpa using hne) (hK w3 T ad (hx.no e03) (Gon.no e03)))
  rw [hp] at hK
  simp only at hK
  have hDm := path_mem hp
  refine pur (extract_0 _ _) (pur (extract_1 _ _ _) (pur (extract_2 _ _ _ _) (box fun w2 b2 e2 z2 => storeB b2 (by simp [Value.cells]) rfl fun w3 b3 e3 z3 => ?_)))
  have b3' : Blk w3 w1.heap.size 9 [encE nm] := b3
  have e13 : Ext No w1 w3 := e2.fresh e3 fun b hb => .inr (by rw [show b = w1.heap.size from hb]; exact Nat.le_refl _)
  have e03 := e1.trans e13
  generalize hnb : w1.heap.size = nb at *
  have hnbw : w.heap.size ≤ nb := by rw [← hnb]; exact e1.size
  let T3 := mark T nb .tmp
  have k03 : Gon (Ops d) w T w3 T3 := (Gon.no e03).mark hnbw .tmp
  have hx3 : Dx T3 d w3 g st md dm ad := hx.keep (M := Nil) ((Gon.no e03).mark hnbw .tmp) (fun h => h) fun _ h => h
  refine pur (v := .bool false) ((bin_neq _ _ _).trans (by simp)) (condF rfl ?_)
  have e3d := Ext.drew (S := No) w3
  have hx4 := hx3.no e3d
  have b4 := b3'.no e3d
  obtain ⟨gd', hgd', hDR4⟩ := hx4.body.some_ D hDm
  rw [hgd] at hgd'
  cases hgd'
  have hDR4' := hDR4
  obtain ⟨_, mn, wv, bs, hb, hN, _⟩ := hDR4
  refine draw (fun w' => w' = w3.drew) rfl (pur (nil_ptr _) (pur (field_ptr _ _ _) ?_))
  refine heldC (v := .map (some mn)) (fun w' hh => by rw [hh]; exact hb.cell 0) (heldC (v := encE nm) (fun w' hh => by rw [hh]; exact b4.cell 0) ?_)
  have k04 : Gon (Ops d) w T w3.drew T3 := k03.trans (Gon.no e3d)
  rcases hN.get nm with ⟨hx0, hr⟩ | ⟨i, gf, hx0, hgf, hr⟩
  rotate_left
  · refine ⟨_, fun w' hh => by rw [hh]; exact run_of hr, ?_⟩
    rw [hx0] at hK
    exact pur (extract_0 _ _) (pur (extract_1 _ _ _) (condT rfl (hK _ T3 ad hx4 k04)))
  refine ⟨_, fun w' hh => by rw [hh]; exact run_of hr, ?_⟩
  rw [hx0] at hK
  simp only [Option.isSome_none, Bool.false_eq_true, if_false] at hK
  refine pur (extract_0 _ _) (pur (extract_1 _ _ _) (condF rfl (pur (nil_ptr _) (pur (field_ptr _ _ _) (loadB hb (v := .map (some mn)) rfl (hN.len_ (pur (bin_geq _ _ _) (condD (fun hlong => ?_) (fun hroom => ?_)))))))))
  · rw [if_pos (by omega)] at hK
    exact hK _ T3 ad hx4 k04
  rw [if_neg (by omega)] at hK
  refine hx4.change hW.fail hW.stop (by omega) fun w5 hx5 k5 => pur (extract_0 _ _) (pur (extract_1 _ _ _) (pur (bin_neq _ _ _) (condN (fun hne => ?_) (fun heq => ?_))))
  · rw [if_pos hne] at hK
    exact hK _ T3 ad hx5 (k04.trans k5.hdr)
  rw [if_neg (by simpa using heq)] at hK
  have ht3 : T3 nb = .tmp := mark_at _ _ _
  have b5 : Blk w5 nb 9 [encE nm] := b4.ext k5.ext (by rw [ht3]; intro h; cases h)
  have hDm5 : D ∈ (chgD st).dirs := hDm
  obtain ⟨gd', hgd', hDR5⟩ := hx5.body.some_ D hDm5
  rw [hgd] at hgd'
  cases hgd'
  refine hDR5.changes (by have := hW.wlen D hDm; omega) fun w6 T6 mb m wv6 bs6 hmb hgT6 hb6 hm6 hml6 hmg6 hbs6 hrow6 hwT6 hall6 k6 hice6 => ?_
  refine callF okCreate ?_
  rw [arr1_1]
  refine s74_call hm ?_
  unfold s74
  have b6 : Blk w6 nb 9 [encE nm] := b5.ext k6.ext (by rw [ht3]; intro h; cases h)
  refine loadB b6 rfl (runS (buildFil w6) (box fun w7 b7 e7 z7 => ?_))
  have b7' : Blk w7 w6.heap.size 82 [.slice none 0 0, .slice none 0 0, .slice none 0 0] := b7
  refine (hm6.no e7).update MTnam nm w6.heap.size fun w8 hm8 e8 z8 => ?_
  have hmbl := hm6.lt
  have b8 := b7'.ext e8 (fun hh => by have : w6.heap.size = mb := hh; omega)
  let T8 := mark T6 w6.heap.size (.own d (.file st.files.length))
  let ad' : Nat → Option Nat := fun j => if j = st.files.length then some w6.heap.size else ad j
  have hway := hW.now_ D hDm
  have hlt : ∀ i gf, ad i = some gf → i < st.files.length := fun i gf hi => by
    obtain ⟨f, h1, _⟩ := hx5.body.fil i gf hi
    exact (List.getElem?_eq_some_iff.1 h1).1
  have hidx : ∀ p ∈ D.now, ad' p.2 = ad p.2 := fun p hp' => if_neg (by have := (hway.2.2 p hp').2; omega)
  have hnone : mget m nm = none := by rw [hmg6, hx0]; rfl
  have hFn : FilR T8 d st.files.length w8 w6.heap.size ⟨[], []⟩ := ⟨mark_at _ _ _, _, _, _, [], b8, ⟨World.ownsRow_nil _ _ _ _, fun b hb => by simp [Value.ownBlock] at hb⟩, ⟨World.ownsRow_nil _ _ _ _, fun b hb => by simp [Value.ownBlock] at hb⟩, rfl, World.ownsRow_nil _ _ _ _, fun b hb => by simp [Value.ownBlock] at hb, fun q hq => by cases hq⟩
  have hys : ∀ p ∈ wput D.now nm st.files.length, (ad' p.2).isSome = true := fun p hp' => by
    rcases wput_mem hp' with rfl | hp'
    · show (if st.files.length = st.files.length then _ else _ : Option Nat).isSome = true
      rw [if_pos rfl]; rfl
    · rw [hidx p hp']
      obtain ⟨_, mn', wv', bs', _, hN', _⟩ := hDR5
      exact hN'.2.2 p hp'
  obtain ⟨hx8, k8⟩ := hx5.changed (y := wput D.now nm st.files.length) (ad' := ad') (T2 := T8) (files' := st.files ++ [⟨[], []⟩]) hDm5 hgd hmb hmbl hgT6 hb6 hbs6 hrow6 hwT6 hall6 k6 hice6 ((Ext.no e7).trans e8) (fun b hb' => mark_ne _ _ (by omega)) hm8
    (by rw [mput_len2, wput_len hway.1, hnone, hx0, hml6]) (fun x => by
      rw [mget_put, mget_wput hway.1]
      by_cases hxn : x = nm
      · rw [if_pos hxn, if_pos hxn, Option.bind_some]
        show _ = (if st.files.length = st.files.length then _ else _ : Option Nat)
        rw [if_pos rfl]
      · rw [if_neg hxn, if_neg hxn, hmg6]
        cases hg0 : mget D.now x with
        | none => rfl
        | some i =>
          obtain ⟨p, hp', rfl⟩ := mget_memE hg0
          simp only [Option.bind_some, hidx p hp']) hys (fun i gf hi => (if_neg (by have := hlt i gf hi; omega)).trans hi)
    (fun i f hi => by
      show (st.files ++ [_])[i]? = _
      have hi' : st.files[i]? = some f := hi
      rw [List.getElem?_append_left (List.getElem?_eq_some_iff.1 hi').1]; exact hi') (fun i gf hi => by
      by_cases hil : i = st.files.length
      · subst hil
        have : gf = w6.heap.size := by
          have h2 : (if st.files.length = st.files.length then some w6.heap.size else ad st.files.length) = some gf := hi
          rw [if_pos rfl] at h2; exact (Option.some.inj h2).symm
        subst this
        exact .inr ⟨_, by rw [List.getElem?_append_right (Nat.le_refl _)]; simp, hFn⟩
      · exact .inl ((if_neg hil).symm.trans hi))
  exact hK w8 T8 ad' hx8 ((k04.trans k5.hdr).trans k8.dirt)
end
end Go.Proofs.YthohdinjpkehpaaGreat

namespace Go.Proofs.YthohdinjpkehpaaGreat
open Go SG Go.RowKit
set_option linter.unusedVariables false
set_option maxRecDepth 4000
set_option linter.unusedSimpArgs false

def tmpf (w : World) (T : Tags) : Tags := fun b => if b < w.heap.size then T b else .tmp
theorem tmpf_lt {w : World} {T : Tags} {b : Nat} (h : b < w.heap.size) : tmpf w T b = T b := if_pos h
theorem tmpf_ge {w : World} {T : Tags} {b : Nat} (h : w.heap.size ≤ b) : tmpf w T b = .tmp := if_neg (by omega)
def Dk.two (st : Dk) (a b : El) : Except Int (Di × El × Di × El × Nat) := match st.path a with
  | .error e => .error e
  | .ok (A, m) => match st.path b with
    | .error e => .error e
    | .ok (B, n) => match mget A.now m with
      | none => .error 6
      | some i => .ok (A, m, B, n, i)
theorem path_err {st : Dk} {s : El} {e : Int} (he : st.path s = .error e) : e ≠ 0 := by
  unfold Dk.path at he
  split at he
  · injection he with he; omega
  · split at he
    · injection he with he; omega
    · cases he
theorem okLink : okFunc Tryz.prog 102 = true := by kernel_rfl
theorem okRemove : okFunc Tryz.prog 103 = true := by kernel_rfl
section
variable {T : Tags} {w : World} {d g : Nat} {st : Dk} {md : Nat} {dm : List (El × Nat)} {ad : Nat → Option Nat} {K : Value → World → Prop}
theorem NamR.get1 {b : Nat} {way : Way} (h : NamR T ad w b way) (x : El) : (mget way x = none ∧ RunS Tryz.prog (Instr.lookup 70 (.map (some b)) (encE x) false) (fun v w' => v = .pointer none ∧ w' = w) w) ∨
    ∃ i gf, mget way x = some i ∧ ad i = some gf ∧ RunS Tryz.prog (Instr.lookup 70 (.map (some b)) (encE x) false) (fun v w' => v = ptrE gf ∧ w' = w) w := by
  obtain ⟨_, ⟨m, hm, hml, hg⟩, hs⟩ := h
  cases hx : mget way x with
  | none =>
    refine .inl ⟨rfl, hm.lookup MTnam x ?_⟩
    rw [hg, hx]; exact ⟨rfl, rfl⟩
  | some i =>
    obtain ⟨p, hp, rfl⟩ := mget_memE hx
    obtain ⟨gf, hgf⟩ := Option.isSome_iff_exists.1 (hs p hp)
    refine .inr ⟨p.2, gf, rfl, hgf, hm.lookup MTnam x ?_⟩
    rw [hg, hx]
    simp only [Option.bind_some, hgf]
    exact ⟨rfl, trivial⟩
theorem Dx.two (hx : Dx T d w g st md dm ad) {a b : El} (ha : a.length ≤ 9223372036854775806) (hb : b.length ≤ 9223372036854775806)
    (h0 : ∀ e v1 v2 v3 v4 v5 w', st.two a b = .error e → e ≠ 0 → v3.oneCell' = true → v4.oneCell' = true → v5.oneCell' = true → Ext No w w' → K (.tuple [v1, v2, v3, v4, v5, .int .i64 e].toArray) w')
    (hK : ∀ A m B n i ga gb gf w', st.two a b = .ok (A, m, B, n, i) → A ∈ st.dirs → B ∈ st.dirs → mget dm A.name = some ga → mget dm B.name = some gb → mget A.now m = some i → ad i = some gf → Ext No w w' → K (.tuple [ptrE ga, ptrE gb, encE m, encE n, ptrE gf, .int .i64 0].toArray) w') : CallS Tryz.prog 97 #[ptrE g, encE a, encE b] K w := by
  refine s97_call hm ?_
  unfold s97
  refine hx.path ha (fun e w1 he e1 => ?_) fun A m ga w1 hA hga hAR e1 => ?_
  · have hne := path_err he
    exact pur (extract_0 _ _) (pur (extract_1 _ _ _) (pur (extract_2 _ _ _ _) (pur (bin_neq _ _ _) (condT (by simpa using hne) (h0 e _ _ _ _ _ w1 (by unfold Dk.two; rw [he]) hne rfl rfl rfl e1)))))
  · refine pur (extract_0 _ _) (pur (extract_1 _ _ _) (pur (extract_2 _ _ _ _) (pur (v := .bool false) ((bin_neq _ _ _).trans (by simp)) (condF rfl ?_))))
    refine (hx.no e1).path hb (fun e w2 he e2 => ?_) fun B n gb w2 hB hgb hBR e2 => ?_
    · have hne := path_err he
      exact pur (extract_0 _ _) (pur (extract_1 _ _ _) (pur (extract_2 _ _ _ _) (pur (bin_neq _ _ _) (condT (by simpa using hne) (h0 e _ _ _ _ _ w2 (by unfold Dk.two; rw [hA]; simp only; rw [he]) hne rfl rfl rfl (e1.trans e2))))))
    · refine pur (extract_0 _ _) (pur (extract_1 _ _ _) (pur (extract_2 _ _ _ _) (pur (v := .bool false) ((bin_neq _ _ _).trans (by simp)) (condF rfl ?_))))
      obtain ⟨ga', hga', hAR2⟩ := ((hx.no e1).no e2).body.some_ A (path_mem hA)
      rw [hga] at hga'
      cases hga'
      obtain ⟨_, mn, wv, bs, hbk, hN, _⟩ := hAR2
      refine pur (nil_ptr _) (pur (field_ptr _ _ _) (loadB hbk (v := .map (some mn)) rfl ?_))
      rcases hN.get1 m with ⟨hx0, hr⟩ | ⟨i, gf, hx0, hgf, hr⟩
      · refine runS_mono hr ?_
        rintro _ w3 ⟨rfl, hw⟩
        obtain rfl := hw.symm
        exact eq_nil_ptr Tryz.underlying75 (condT rfl (h0 6 _ _ _ _ _ _ (by unfold Dk.two; rw [hA]; simp only; rw [hB]; simp only; rw [hx0]) (by decide) rfl rfl rfl (e1.trans e2)))
      · refine runS_mono hr ?_
        rintro _ w3 ⟨rfl, hw⟩
        obtain rfl := hw.symm
        exact eq_nil_ptr Tryz.underlying75 (condF rfl (hK A m B n i ga gb gf _ (by unfold Dk.two; rw [hA]; simp only; rw [hB]; simp only; rw [hx0]) (path_mem hA) (path_mem hB) hga hgb hx0 hgf (e1.trans e2)))
def Dk.link (st : Dk) (a b : El) : Int × Dk := match st.two a b with
  | .error e => (e, st)
  | .ok (A, m, D, n, i) => if (mget D.now n).isSome then (7, st) else if 1024 ≤ D.now.length then (2, st) else if (chgV st).1 ≠ 0 then ((chgV st).1, chgD st) else (0, (chgD st).setD (D.chg (wput D.now n i)))
set_option maxHeartbeats 2000000 in
theorem Dx.putName (hx : Dx T d w g st md dm ad) {D : Di} {gd nb nc i gf : Nat} {n : El} {N : Nat} (hD : D ∈ st.dirs) (hgd : mget dm D.name = some gd) (hwl : D.was.length ≤ 4398046511104) (hway : WayOk N D.now) (hgf : ad i = some gf)
    {fn : Nat} (hb1 : Blk w nb 9 [encE n]) (ht1 : T nb = .tmp) (hb2 : Blk w nc 75 [ptrE gf]) (ht2 : T nc = .tmp) (hok : okFunc Tryz.prog fn = true)
    (hfn : ∀ {w : World} {n0 t1 t2 : Value} {K : Value → World → Prop}, (LoadC t2 (fun t5 w => LoadC t1 (fun t6 w => RunU Tryz.prog (Instr.mapUpdate 70 n0 t5 t6) (fun w => K (Value.tuple [].toArray) w) w) w) w) → CallS Tryz.prog fn #[n0, t1, t2] K w)
    (hK : ∀ w' T', Dx T' d w' g (st.setD (D.chg (wput D.now n i))) md dm ad → Gon (Dirt d D.name) w T w' T' → K (.tuple #[]) w') : CallS Tryz.prog 73 #[ptrE gd, .func (.func fn) #[] #[ptrE nc, ptrE nb]] K w := by
  obtain ⟨gd', hgd', hDR⟩ := hx.body.some_ D hD
  rw [hgd] at hgd'
  cases hgd'
  have hN : ∀ p ∈ D.now, (ad p.2).isSome := by obtain ⟨_, mn', wv', bs', _, hN', _⟩ := hDR; exact hN'.2.2
  refine hDR.changes hwl fun w6 T6 mb m wv6 bs6 hmb hgT6 hb6 hm6 hml6 hmg6 hbs6 hrow6 hwT6 hall6 k6 hice6 => ?_
  refine callF hok ?_
  rw [arr1_2]
  refine hfn ?_
  have b1 := hb1.ext k6.ext (by rw [ht1]; intro h; cases h)
  have b2 := hb2.ext k6.ext (by rw [ht2]; intro h; cases h)
  refine loadB b1 rfl (loadB b2 rfl (hm6.update MTnam n gf fun w8 hm8 e8 z8 => ?_))
  obtain ⟨hx8, k8⟩ := hx.changed (y := wput D.now n i) (ad' := ad) (T2 := T6) (files' := st.files) hD hgd hmb hm6.lt hgT6 hb6 hbs6 hrow6 hwT6 hall6 k6 hice6 e8 (fun _ _ => rfl) hm8
    (by
      rw [mput_len2, wput_len hway.1, hmg6, hml6]
      cases hg0 : mget D.now n with
      | none => rfl
      | some j =>
        obtain ⟨p, hp', rfl⟩ := mget_memE hg0
        simp [hN p hp']) (fun x => by
      rw [mget_put, mget_wput hway.1]
      by_cases hxn : x = n
      · rw [if_pos hxn, if_pos hxn, Option.bind_some, hgf]
      · rw [if_neg hxn, if_neg hxn, hmg6]) (fun p hp' => by
      rcases wput_mem hp' with rfl | hp'
      · rw [hgf]; rfl
      · exact hN p hp') (fun i gf hi => hi) (fun i f hi => hi) (fun i gf hi => .inl hi)
  exact hK w8 T6 hx8 k8
theorem Dx.delName (hx : Dx T d w g st md dm ad) {D : Di} {gd nb : Nat} {n : El} {N : Nat} (hD : D ∈ st.dirs) (hgd : mget dm D.name = some gd) (hwl : D.was.length ≤ 4398046511104) (hway : WayOk N D.now)
    {fn : Nat} (hb1 : Blk w nb 9 [encE n]) (ht1 : T nb = .tmp) (hok : okFunc Tryz.prog fn = true)
    (hfn : ∀ {w : World} {n0 t1 : Value} {K : Value → World → Prop}, (LoadC t1 (fun t4 w => RunS Tryz.prog (Builtin.delete_ #[70, 9] 0 [n0, t4].toArray) (fun _ w => K (Value.tuple [].toArray) w) w) w) → CallS Tryz.prog fn #[n0, t1] K w)
    (hK : ∀ w' T', Dx T' d w' g (st.setD (D.chg (mdel D.now n))) md dm ad → Gon (Dirt d D.name) w T w' T' → K (.tuple #[]) w') : CallS Tryz.prog 73 #[ptrE gd, .func (.func fn) #[] #[ptrE nb]] K w := by
  obtain ⟨gd', hgd', hDR⟩ := hx.body.some_ D hD
  rw [hgd] at hgd'
  cases hgd'
  have hN : ∀ p ∈ D.now, (ad p.2).isSome := by obtain ⟨_, mn', wv', bs', _, hN', _⟩ := hDR; exact hN'.2.2
  refine hDR.changes hwl fun w6 T6 mb m wv6 bs6 hmb hgT6 hb6 hm6 hml6 hmg6 hbs6 hrow6 hwT6 hall6 k6 hice6 => ?_
  refine callF hok ?_
  rw [arr1_1]
  refine hfn ?_
  have b1 := hb1.ext k6.ext (by rw [ht1]; intro h; cases h)
  refine loadB b1 rfl (hm6.delete MTnam n fun w8 hm8 e8 z8 => ?_)
  obtain ⟨hx8, k8⟩ := hx.changed (y := mdel D.now n) (ad' := ad) (T2 := T6) (files' := st.files) hD hgd hmb hm6.lt hgT6 hb6 hbs6 hrow6 hwT6 hall6 k6 hice6 e8 (fun _ _ => rfl) hm8
    (by
      rw [mdel_len hway.1.keys]
      have hk := hm6.keys
      have hl : (mdel m n).length = if (mget m n).isSome then m.length - 1 else m.length := by
        cases hg0 : mget m n with
        | none => rw [mdel_out (mget_none.1 hg0)]; simp
        | some v =>
          have hx' : n ∈ m.map (·.1) := mget_isSome.1 (by rw [hg0]; rfl)
          obtain ⟨j, hj⟩ := List.getElem?_of_mem hx'
          rw [mdel_at hk hj]
          have hlt := (List.getElem?_eq_some_iff.1 hj).1
          rw [List.length_eraseIdx]
          simp at hlt ⊢
          omega
      rw [hl, hmg6, hml6]
      cases hg0 : mget D.now n with
      | none => rfl
      | some j =>
        obtain ⟨p, hp', rfl⟩ := mget_memE hg0
        simp [hN p hp']) (fun x => by
      rw [mget_del, mget_del]
      by_cases hxn : x = n
      · rw [if_pos hxn, if_pos hxn]; rfl
      · rw [if_neg hxn, if_neg hxn, hmg6]) (fun p hp' => hN p (List.mem_filter.1 hp').1) (fun i gf hi => hi) (fun i f hi => hi) (fun i gf hi => .inl hi)
  exact hK w8 T6 hx8 k8
end
end Go.Proofs.YthohdinjpkehpaaGreat

namespace Go.Proofs.YthohdinjpkehpaaGreat
open Go SG Go.RowKit
set_option linter.unusedVariables false
set_option maxRecDepth 4000
set_option linter.unusedSimpArgs false

def Dk.remove (st : Dk) (s : El) : Int × Dk := match st.file s with
  | .error e => (e, st)
  | .ok _ => match st.path s with
    | .error e => (e, st)
    | .ok (D, n) => if (chgV st).1 ≠ 0 then ((chgV st).1, chgD st) else (0, (chgD st).setD (D.chg (mdel D.now n)))
def Dk.syncDir (st : Dk) (s : El) : Int × Dk := match st.findD s with
  | .error e => (e, st)
  | .ok D => if (chgV st).1 ≠ 0 then ((chgV st).1, chgD st) else (0, (chgD st).setD ⟨D.name, [], D.now⟩)
theorem findD_mem {st : Dk} {s : El} {D : Di} (h : st.findD s = .ok D) : D ∈ st.dirs := by
  unfold Dk.findD at h
  split at h
  · split at h
    · cases h
    · rename_i hd; injection h with h; subst h; exact (Dk.dir_some hd).1
  · cases h
section
variable {T : Tags} {w : World} {d g : Nat} {st : Dk} {md : Nat} {dm : List (El × Nat)} {ad : Nat → Option Nat} {K : Value → World → Prop}
set_option maxHeartbeats 2000000 in
theorem Dx.Link (hx : Dx T d w g st md dm ad) {B n : Nat} (hW : Wf B n st) (hn : n ≤ 2199023255552) {a b : El} (ha : a.length ≤ 9223372036854775806) (hb : b.length ≤ 9223372036854775806)
    (hK : ∀ w' T', Dx T' d w' g (st.link a b).2 md dm ad → Gon (Ops d) w T w' T' → K (.int .i64 (st.link a b).1) w') : CallS Tryz.prog 51 #[ptrE g, encE a, encE b] K w := by
  refine s51_call hm ?_
  unfold s51
  unfold Dk.link at hK
  refine hx.two ha hb (fun e v1 v2 v3 v4 v5 w1 he hne o3 o4 o5 e1 => ?_) fun A m D nm i ga gd gf w1 h2 hA hD hga hgd hAm hgf e1 => ?_
  · rw [he] at hK
    refine pur (extract_0 _ _) (pur (extract_1 _ _ _) (pur (extract_2 _ _ _ _) (pur (v := v4) rfl (pur (v := v5) rfl (pur (v := .int .i64 e) rfl ?_)))))
    refine box fun w2 b2 e2 z2 => box fun w3 b3 e3 z3 => storeB (b2.no e3) (by simp [Value.cells]) o4 fun w4 b4 e4 z4 => ?_
    have hne2 : w1.heap.size ≠ w2.heap.size := by omega
    refine storeB (b3.ext e4 (fun hh => hne2 (by rw [show w2.heap.size = w1.heap.size from hh]))) (by simp [Value.cells]) o5 fun w5 b5 e5 z5 => ?_
    have e15 : Ext No w1 w5 := ((e2.trans e3).fresh e4 fun x hx' => .inr (by rw [show x = w1.heap.size from hx']; exact Nat.le_refl _)).fresh e5 fun x hx' => .inr (by rw [show x = w2.heap.size from hx']; exact e2.size)
    exact pur (bin_neq _ _ _) (condT (by simpa using hne) (hK w5 T (hx.no (e1.trans e15)) (Gon.no (e1.trans e15))))
  rw [h2] at hK
  simp only at hK
  refine pur (extract_0 _ _) (pur (extract_1 _ _ _) (pur (extract_2 _ _ _ _) (pur (v := encE nm) rfl (pur (v := ptrE gf) rfl (pur (v := .int .i64 0) rfl ?_)))))
  refine box fun w2 b2 e2 z2 => box fun w3 b3 e3 z3 => storeB (b2.no e3) (by simp [Value.cells]) rfl fun w4 b4 e4 z4 => ?_
  have hne2 : w1.heap.size ≠ w2.heap.size := by omega
  refine storeB (b3.ext e4 (fun hh => hne2 (by rw [show w2.heap.size = w1.heap.size from hh]))) (by simp [Value.cells]) rfl fun w5 b5 e5 z5 => ?_
  have e15 : Ext No w1 w5 := ((e2.trans e3).fresh e4 fun x hx' => .inr (by rw [show x = w1.heap.size from hx']; exact Nat.le_refl _)).fresh e5 fun x hx' => .inr (by rw [show x = w2.heap.size from hx']; exact e2.size)
  have e05 := e1.trans e15
  have bn : Blk w5 w1.heap.size 9 [encE nm] := b4.ext e5 (fun hh => hne2 hh)
  have bf : Blk w5 w2.heap.size 75 [ptrE gf] := b5
  let T5 := tmpf w1 T
  have k05 : Gon (Ops d) w T w5 T5 := ⟨e05.no, fun b hb' => tmpf_lt (Nat.lt_of_lt_of_le hb' e1.size)⟩
  have hx5 : Dx T5 d w5 g st md dm ad := hx.keep (M := Nil) ⟨e05.no, fun b hb' => tmpf_lt (Nat.lt_of_lt_of_le hb' e1.size)⟩ (fun h => h) fun _ h => h
  have tn : T5 w1.heap.size = .tmp := tmpf_ge (Nat.le_refl _)
  have tf : T5 w2.heap.size = .tmp := tmpf_ge (by omega)
  refine pur (v := .bool false) ((bin_neq _ _ _).trans (by simp)) (condF rfl ?_)
  have e5d := Ext.drew (S := No) w5
  have hx6 := hx5.no e5d
  have k06 : Gon (Ops d) w T w5.drew T5 := k05.trans (Gon.no e5d)
  obtain ⟨gd', hgd', hDR⟩ := hx6.body.some_ D hD
  rw [hgd] at hgd'
  cases hgd'
  obtain ⟨_, mn, wv, bs, hbk, hN, _⟩ := hDR
  refine draw (fun w' => w' = w5.drew) rfl (pur (nil_ptr _) (pur (field_ptr _ _ _) ?_))
  refine heldC (v := .map (some mn)) (fun w' hh => by rw [hh]; exact hbk.cell 0) (heldC (v := encE nm) (fun w' hh => by rw [hh]; exact (bn.no e5d).cell 0) ?_)
  rcases hN.get nm with ⟨hx0, hr⟩ | ⟨j, gj, hx0, hgj, hr⟩
  rotate_left
  · refine ⟨_, fun w' hh => by rw [hh]; exact run_of hr, ?_⟩
    rw [hx0] at hK
    exact pur (extract_0 _ _) (pur (extract_1 _ _ _) (condT rfl (hK _ T5 hx6 k06)))
  refine ⟨_, fun w' hh => by rw [hh]; exact run_of hr, ?_⟩
  rw [hx0] at hK
  simp only [Option.isSome_none, Bool.false_eq_true, if_false] at hK
  refine pur (extract_0 _ _) (pur (extract_1 _ _ _) (condF rfl (pur (nil_ptr _) (pur (field_ptr _ _ _) (loadB hbk (v := .map (some mn)) rfl (hN.len_ (pur (bin_geq _ _ _) (condD (fun hlong => ?_) (fun hroom => ?_)))))))))
  · rw [if_pos (by omega)] at hK
    exact hK _ T5 hx6 k06
  rw [if_neg (by omega)] at hK
  refine hx6.change hW.fail hW.stop (by omega) fun w7 hx7 k7 => pur (extract_0 _ _) (pur (extract_1 _ _ _) (pur (bin_neq _ _ _) (condN (fun hne => ?_) (fun heq => ?_))))
  · rw [if_pos hne] at hK
    exact hK _ T5 hx7 (k06.trans k7.hdr)
  rw [if_neg (by simpa using heq)] at hK
  have bn7 := (bn.no e5d).ext k7.ext (by rw [tn]; intro h; cases h)
  have bf7 := (bf.no e5d).ext k7.ext (by rw [tf]; intro h; cases h)
  have hway := hW.now_ D hD
  refine hx7.putName (st := chgD st) hD hgd (by have := hW.wlen D hD; omega) hway hgf bn7 tn bf7 tf okLink (fun {w n0 t1 t2 K} h => s102_call hm (by unfold s102; exact h)) fun w8 T8 hx8 k8 => hK w8 T8 hx8 ((k06.trans k7.hdr).trans k8.dirt)
theorem Dx.Remove (hx : Dx T d w g st md dm ad) {B n : Nat} (hW : Wf B n st) (hn : n ≤ 2199023255552) {s : El} (hs : s.length ≤ 9223372036854775806)
    (hK : ∀ w' T', Dx T' d w' g (st.remove s).2 md dm ad → Gon (Ops d) w T w' T' → K (.int .i64 (st.remove s).1) w') : CallS Tryz.prog 53 #[ptrE g, encE s] K w := by
  refine s53_call hm ?_
  unfold s53
  unfold Dk.remove at hK
  refine hx.file hs (fun e w1 he e1 hne => ?_) fun i gf f w1 hi hgf hf hF e1 => ?_
  · rw [he] at hK
    exact pur (extract_0 _ _) (pur (extract_1 _ _ _) (pur (bin_neq _ _ _) (condT (by simpa using hne) (hK w1 T (hx.no e1) (Gon.no e1)))))
  rw [hi] at hK
  simp only at hK
  refine pur (extract_0 _ _) (pur (extract_1 _ _ _) (pur (v := .bool false) ((bin_neq _ _ _).trans (by simp)) (condF rfl ?_)))
  refine (hx.no e1).path hs (fun e w2 he e2 => ?_) fun D nm gd w2 hp hgd hDR e2 => ?_
  · unfold Dk.file at hi
    rw [he] at hi; cases hi
  rw [hp] at hK
  simp only at hK
  have hD := path_mem hp
  refine pur (extract_0 _ _) (pur (extract_1 _ _ _) (pur (extract_2 _ _ _ _) (box fun w3 b3 e3 z3 => storeB b3 (by simp [Value.cells]) rfl fun w4 b4 e4 z4 => ?_)))
  have b4' : Blk w4 w2.heap.size 9 [encE nm] := b4
  have e24 : Ext No w2 w4 := e3.fresh e4 fun b hb => .inr (by rw [show b = w2.heap.size from hb]; exact Nat.le_refl _)
  have e04 := (e1.trans e2).trans e24
  have s02 := (e1.trans e2).size
  let T5 := tmpf w2 T
  have k05 : Gon (Ops d) w T w4 T5 := ⟨e04.no, fun b hb' => tmpf_lt (Nat.lt_of_lt_of_le hb' s02)⟩
  have hx5 : Dx T5 d w4 g st md dm ad := hx.keep (M := Nil) ⟨e04.no, fun b hb' => tmpf_lt (Nat.lt_of_lt_of_le hb' s02)⟩ (fun h => h) fun _ h => h
  have tn : T5 w2.heap.size = .tmp := tmpf_ge (Nat.le_refl _)
  refine hx5.change hW.fail hW.stop (by omega) fun w7 hx7 k7 => pur (extract_0 _ _) (pur (extract_1 _ _ _) (pur (bin_neq _ _ _) (condN (fun hne => ?_) (fun heq => ?_))))
  · rw [if_pos hne] at hK
    exact hK _ T5 hx7 (k05.trans k7.hdr)
  rw [if_neg (by simpa using heq)] at hK
  have bn7 := b4'.ext k7.ext (by rw [tn]; intro h; cases h)
  refine hx7.delName (st := chgD st) hD hgd (by have := hW.wlen D hD; omega) (hW.now_ D hD) bn7 tn okRemove (fun {w n0 t1 K} h => s103_call hm (by unfold s103; exact h)) fun w8 T8 hx8 k8 => hK w8 T8 hx8 ((k05.trans k7.hdr).trans k8.dirt)
theorem Dx.SyncDir (hx : Dx T d w g st md dm ad) {B n : Nat} (hW : Wf B n st) (hn : n ≤ 2199023255552) {s : El}
    (hK : ∀ w' T', Dx T' d w' g (st.syncDir s).2 md dm ad → Gon (Ops d) w T w' T' → K (.int .i64 (st.syncDir s).1) w') : CallS Tryz.prog 23 #[ptrE g, encE s] K w := by
  refine s23_call hm ?_
  unfold s23
  unfold Dk.syncDir at hK
  refine hx.find (fun e w1 he hne e1 => ?_) fun D gd w1 hp hgd hDR e1 => ?_
  · rw [he] at hK
    exact pur (extract_0 _ _) (pur (extract_1 _ _ _) (pur (bin_neq _ _ _) (condT (by simpa using hne) (hK w1 T (hx.no e1) (Gon.no e1)))))
  rw [hp] at hK
  simp only at hK
  have hD := findD_mem hp
  have k01 : Gon (Ops d) w T w1 T := Gon.no e1
  refine pur (extract_0 _ _) (pur (extract_1 _ _ _) (pur (v := .bool false) ((bin_neq _ _ _).trans (by simp)) (condF rfl ?_)))
  refine (hx.no e1).change hW.fail hW.stop (by omega) fun w7 hx7 k7 => pur (extract_0 _ _) (pur (extract_1 _ _ _) (pur (bin_neq _ _ _) (condN (fun hne => ?_) (fun heq => ?_))))
  · rw [if_pos hne] at hK
    exact hK _ T hx7 (k01.trans k7.hdr)
  rw [if_neg (by simpa using heq)] at hK
  have hD7 : D ∈ (chgD st).dirs := hD
  obtain ⟨gd', hgd', hDR7⟩ := hx7.body.some_ D hD7
  rw [hgd] at hgd'
  cases hgd'
  obtain ⟨hT, mn, wv, bs, hbk, hN, hbs, hrow, hwT, hall⟩ := hDR7
  refine pur (nil_ptr _) (pur (field_ptr _ _ _) (storeB hbk (by simp) rfl fun w8 b8 e8 z8 => ?_))
  have b8' : Blk w8 gd 73 [.map (some mn), .slice none 0 0] := b8
  have k8 : Gon (Dirt d D.name) w7 T w8 T := Gon.at1 e8 hT rfl
  refine hK w8 T (hx7.setD (D := ⟨D.name, [], D.now⟩) (ad' := ad) (files' := st.files) ⟨D, hD7, rfl⟩ hgd k8 (fun i gf hi => hi) ⟨hT, mn, _, [], b8', hN.keep k8 (fun h => by cases h), rfl, World.ownsRow_nil _ _ _ _, fun b hb => by simp [Value.ownBlock] at hb, fun p hp => by cases hp⟩ (fun i f hi => hi) (fun i gf hi => .inl hi)) ((k01.trans k7.hdr).trans k8.dirt)
end
end Go.Proofs.YthohdinjpkehpaaGreat

namespace Go.Proofs.YthohdinjpkehpaaGreat
open Go SG Go.RowKit
set_option linter.unusedVariables false
set_option maxRecDepth 4000
set_option linter.unusedSimpArgs false

def Dk.rename (st : Dk) (a b : El) : Int × Dk := match st.two a b with
  | .error e => (e, st)
  | .ok (A, m, D, n, i) => if mget D.now n = none ∧ A.name ≠ D.name ∧ 1024 ≤ D.now.length then (2, st)
    else if (chgV st).1 ≠ 0 then ((chgV st).1, chgD st) else if a = b then (0, chgD st)
    else if A.name = D.name then (0, (chgD st).setD (A.chg (wput (mdel A.now m) n i)))
    else (0, ((chgD st).setD (D.chg (wput D.now n i))).setD (A.chg (mdel A.now m)))
theorem okRen1 : okFunc Tryz.prog 98 = true := by kernel_rfl
theorem okRen2 : okFunc Tryz.prog 99 = true := by kernel_rfl
theorem okRen3 : okFunc Tryz.prog 100 = true := by kernel_rfl
theorem dirInfo : ∃ i, Tryz.prog.info? 73 = some i ∧ i.size ≠ 0 := by
  have h : (Tryz.prog.info? 73).map (·.size) = some 2 := by kernel_rfl
  cases hi : Tryz.prog.info? 73 with
  | none => rw [hi] at h; cases h
  | some i => rw [hi] at h; exact ⟨i, rfl, by simp at h; omega⟩
theorem DirR.isC {T : Tags} {d g : Nat} {ad : Nat → Option Nat} {w : World} {D : Di} (h : DirR T d ad w g D) : IsC w g := by obtain ⟨_, _, _, _, hb, _⟩ := h; exact hb.isC
theorem arr1_3' (a b c d : Value) : ([a].toArray ++ #[b, c, d] : Array Value) = #[a, b, c, d] := rfl
section
variable {T : Tags} {w : World} {d g : Nat} {st : Dk} {md : Nat} {dm : List (El × Nat)} {ad : Nat → Option Nat} {K : Value → World → Prop}
set_option maxHeartbeats 2000000 in
theorem Dx.movName (hx : Dx T d w g st md dm ad) {D : Di} {gd na nb nc i gf : Nat} {m n : El} {N : Nat} (hD : D ∈ st.dirs) (hgd : mget dm D.name = some gd) (hwl : D.was.length ≤ 4398046511104) (hway : WayOk N D.now) (hgf : ad i = some gf)
    (hb0 : Blk w na 9 [encE m]) (ht0 : T na = .tmp) (hb1 : Blk w nb 9 [encE n]) (ht1 : T nb = .tmp) (hb2 : Blk w nc 75 [ptrE gf]) (ht2 : T nc = .tmp)
    (hK : ∀ w' T', Dx T' d w' g (st.setD (D.chg (wput (mdel D.now m) n i))) md dm ad → Gon (Dirt d D.name) w T w' T' → K (.tuple #[]) w') : CallS Tryz.prog 73 #[ptrE gd, .func (.func 98) #[] #[ptrE na, ptrE nc, ptrE nb]] K w := by
  obtain ⟨gd', hgd', hDR⟩ := hx.body.some_ D hD
  rw [hgd] at hgd'
  cases hgd'
  have hN : ∀ p ∈ D.now, (ad p.2).isSome := by obtain ⟨_, mn', wv', bs', _, hN', _⟩ := hDR; exact hN'.2.2
  refine hDR.changes hwl fun w6 T6 mb mm wv6 bs6 hmb hgT6 hb6 hm6 hml6 hmg6 hbs6 hrow6 hwT6 hall6 k6 hice6 => ?_
  refine callF okRen1 ?_
  rw [arr1_3']
  refine s98_call hm ?_
  unfold s98
  have b0 := hb0.ext k6.ext (by rw [ht0]; intro h; cases h)
  have b1 := hb1.ext k6.ext (by rw [ht1]; intro h; cases h)
  have b2 := hb2.ext k6.ext (by rw [ht2]; intro h; cases h)
  have ne : ∀ {q : Nat}, T q = .tmp → q < w.heap.size → q ≠ mb := fun {q} hq hl => by omega
  refine loadB b0 rfl (hm6.delete MTnam m fun w7 hm7 e7 z7 => ?_)
  have b1' := b1.ext e7 (fun hh => by have : nb = mb := hh; have := hb1.lt; omega)
  have b2' := b2.ext e7 (fun hh => by have : nc = mb := hh; have := hb2.lt; omega)
  refine loadB b1' rfl (loadB b2' rfl (hm7.update MTnam n gf fun w8 hm8 e8 z8 => ?_))
  have hlen : (mdel mm m).length = (mdel D.now m).length := by
    have hl : (mdel mm m).length = if (mget mm m).isSome then mm.length - 1 else mm.length := by
      have hk := hm6.keys
      cases hg0 : mget mm m with
      | none => rw [mdel_out (mget_none.1 hg0)]; simp
      | some v =>
        have hx' : m ∈ mm.map (·.1) := mget_isSome.1 (by rw [hg0]; rfl)
        obtain ⟨j, hj⟩ := List.getElem?_of_mem hx'
        rw [mdel_at hk hj]
        have hlt := (List.getElem?_eq_some_iff.1 hj).1
        rw [List.length_eraseIdx]
        simp at hlt ⊢
        omega
    rw [hl, mdel_len hway.1.keys, hmg6, hml6]
    cases hg0 : mget D.now m with
    | none => rfl
    | some j =>
      obtain ⟨p, hp', rfl⟩ := mget_memE hg0
      simp [hN p hp']
  have hget : ∀ x, mget (mdel mm m) x = (mget (mdel D.now m) x).bind ad := fun x => by
    rw [mget_del, mget_del]
    by_cases hxn : x = m
    · rw [if_pos hxn, if_pos hxn]; rfl
    · rw [if_neg hxn, if_neg hxn, hmg6]
  have hord := hway.1.del m
  obtain ⟨hx8, k8⟩ := hx.changed (y := wput (mdel D.now m) n i) (ad' := ad) (T2 := T6) (files' := st.files) hD hgd hmb hm6.lt hgT6 hb6 hbs6 hrow6 hwT6 hall6 k6 hice6 (e7.trans e8) (fun _ _ => rfl) hm8
    (by
      rw [mput_len2, wput_len hord, hget, hlen]
      cases hg0 : mget (mdel D.now m) n with
      | none => rfl
      | some j =>
        obtain ⟨p, hp', rfl⟩ := mget_memE hg0
        simp [hN p (List.mem_filter.1 hp').1]) (fun x => by
      rw [mget_put, mget_wput hord]
      by_cases hxn : x = n
      · rw [if_pos hxn, if_pos hxn, Option.bind_some, hgf]
      · rw [if_neg hxn, if_neg hxn, hget]) (fun p hp' => by
      rcases wput_mem hp' with rfl | hp'
      · rw [hgf]; rfl
      · exact hN p (List.mem_filter.1 hp').1) (fun i gf hi => hi) (fun i f hi => hi) (fun i gf hi => .inl hi)
  exact hK w8 T6 hx8 k8
set_option maxHeartbeats 4000000 in
theorem Dx.Rename (hx : Dx T d w g st md dm ad) {B n : Nat} (hW : Wf B n st) (hn : n ≤ 2199023255552) {a b : El} (ha : a.length ≤ 9223372036854775806) (hb : b.length ≤ 9223372036854775806)
    (hK : ∀ w' T', Dx T' d w' g (st.rename a b).2 md dm ad → Gon (Ops d) w T w' T' → K (.int .i64 (st.rename a b).1) w') : CallS Tryz.prog 49 #[ptrE g, encE a, encE b] K w := by
  refine s49_call hm ?_
  unfold s49
  unfold Dk.rename at hK
  refine hx.two ha hb (fun e v1 v2 v3 v4 v5 w1 he hne o3 o4 o5 e1 => ?_) fun A m D nm i ga gd gf w1 h2 hA hD hga hgd hAm hgf e1 => ?_
  · rw [he] at hK
    refine pur (extract_0 _ _) (pur (extract_1 _ _ _) (pur (extract_2 _ _ _ _) (pur (v := v4) rfl (pur (v := v5) rfl (pur (v := .int .i64 e) rfl ?_)))))
    refine box fun w2 b2 e2 z2 => box fun w3 b3 e3 z3 => box fun w4 b4 e4 z4 => storeB ((b2.no e3).no e4) (by simp [Value.cells]) o3 fun w5 b5 e5 z5 => ?_
    have hne1 : w2.heap.size ≠ w1.heap.size := by omega
    have hne2 : w3.heap.size ≠ w1.heap.size := by omega
    have hne3 : w3.heap.size ≠ w2.heap.size := by omega
    refine storeB ((b3.no e4).ext e5 (fun hh => hne1 hh)) (by simp [Value.cells]) o4 fun w6 b6 e6 z6 => ?_
    refine storeB ((b4.ext e5 (fun hh => hne2 hh)).ext e6 (fun hh => hne3 hh)) (by simp [Value.cells]) o5 fun w7 b7 e7 z7 => ?_
    have e17 : Ext No w1 w7 := ((((e2.trans e3).trans e4).fresh e5 fun x hx' => .inr (by rw [show x = w1.heap.size from hx']; exact Nat.le_refl _)).fresh e6 fun x hx' => .inr (by rw [show x = w2.heap.size from hx']; exact e2.size)).fresh e7 fun x hx' => .inr (by rw [show x = w3.heap.size from hx']; exact (e2.trans e3).size)
    exact pur (bin_neq _ _ _) (condT (by simpa using hne) (hK w7 T (hx.no (e1.trans e17)) (Gon.no (e1.trans e17))))
  rw [h2] at hK
  simp only at hK
  refine pur (extract_0 _ _) (pur (extract_1 _ _ _) (pur (extract_2 _ _ _ _) (pur (v := encE nm) rfl (pur (v := ptrE gf) rfl (pur (v := .int .i64 0) rfl ?_)))))
  refine box fun w2 b2 e2 z2 => box fun w3 b3 e3 z3 => box fun w4 b4 e4 z4 => storeB ((b2.no e3).no e4) (by simp [Value.cells]) rfl fun w5 b5 e5 z5 => ?_
  have hne1 : w2.heap.size ≠ w1.heap.size := by omega
  have hne2 : w3.heap.size ≠ w1.heap.size := by omega
  have hne3 : w3.heap.size ≠ w2.heap.size := by omega
  refine storeB ((b3.no e4).ext e5 (fun hh => hne1 hh)) (by simp [Value.cells]) rfl fun w6 b6 e6 z6 => ?_
  refine storeB ((b4.ext e5 (fun hh => hne2 hh)).ext e6 (fun hh => hne3 hh)) (by simp [Value.cells]) rfl fun w7 b7 e7 z7 => ?_
  have e17 : Ext No w1 w7 := ((((e2.trans e3).trans e4).fresh e5 fun x hx' => .inr (by rw [show x = w1.heap.size from hx']; exact Nat.le_refl _)).fresh e6 fun x hx' => .inr (by rw [show x = w2.heap.size from hx']; exact e2.size)).fresh e7 fun x hx' => .inr (by rw [show x = w3.heap.size from hx']; exact (e2.trans e3).size)
  have e07 := e1.trans e17
  have bm : Blk w7 w1.heap.size 9 [encE m] := (b5.ext e6 (fun hh => hne1 hh.symm)).ext e7 (fun hh => hne2 hh.symm)
  have bn : Blk w7 w2.heap.size 9 [encE nm] := b6.ext e7 (fun hh => hne3 hh.symm)
  have bf : Blk w7 w3.heap.size 75 [ptrE gf] := b7
  let T5 := tmpf w1 T
  have k05 : Gon (Ops d) w T w7 T5 := ⟨e07.no, fun b hb' => tmpf_lt (Nat.lt_of_lt_of_le hb' e1.size)⟩
  have hx5 : Dx T5 d w7 g st md dm ad := hx.keep (M := Nil) ⟨e07.no, fun b hb' => tmpf_lt (Nat.lt_of_lt_of_le hb' e1.size)⟩ (fun h => h) fun _ h => h
  have tm_ : T5 w1.heap.size = .tmp := tmpf_ge (Nat.le_refl _)
  have tn : T5 w2.heap.size = .tmp := tmpf_ge (by omega)
  have tf : T5 w3.heap.size = .tmp := tmpf_ge (by omega)
  refine pur (v := .bool false) ((bin_neq _ _ _).trans (by simp)) (condF rfl ?_)
  have e5d := Ext.drew (S := No) w7
  have hx6 := hx5.no e5d
  have k06 : Gon (Ops d) w T w7.drew T5 := k05.trans (Gon.no e5d)
  obtain ⟨gd', hgd', hDR⟩ := hx6.body.some_ D hD
  rw [hgd] at hgd'
  cases hgd'
  obtain ⟨ga', hga', hAR⟩ := hx6.body.some_ A hA
  rw [hga] at hga'
  cases hga'
  have hsame : ga = gd ↔ A.name = D.name := by
    constructor
    · rintro rfl
      have := hAR.1.symm.trans hDR.1
      injection this with _ h; injection h
    · intro h
      rw [h, hgd] at hga; exact (Option.some.inj hga).symm
  obtain ⟨inf, hi1, hi2⟩ := dirInfo
  have hDR0 := hDR
  obtain ⟨_, mn, wv, bs, hbk, hN, _⟩ := hDR
  refine draw (fun w' => w' = w7.drew) rfl (pur (nil_ptr _) (pur (field_ptr _ _ _) ?_))
  refine heldC (v := .map (some mn)) (fun w' hh => by rw [hh]; exact hbk.cell 0) (heldC (v := encE nm) (fun w' hh => by rw [hh]; exact (bn.no e5d).cell 0) ?_)
  -- behind the asking
  have rest : JoinS (fun (t45 : Value) (w : World) => PureS (pickV (.bool (mget D.now nm).isNone) t45 (Value.bool false)) fun t46 => JoinS (fun (t53 : Value) (w : World) => PureS (pickV t46 t53 (Value.bool false)) fun t54 => CondS t54 (K (Value.int .i64 2) w) (
      CallS Tryz.prog 35 [ptrE g].toArray (fun t57 w => PureS (extractV 0 t57) fun t58 => PureS (extractV 1 t57) fun t59 => PureS (binV .neq t58 (Value.int .i64 0)) fun t61 => JoinS (fun (t65 : Value) (w : World) => PureS (pickV t61 (Value.bool true) t65) fun t66 => CondS t66 (K t58 w) (
      RunS Tryz.prog (do eqGuard .eql 63 (Operand.tmp 68) (Operand.tmp 69) (ptrE ga) (ptrE gd); binOp .eql 63 (ptrE ga) (ptrE gd)) (fun t70 w => CondS t70 (
        CallS Tryz.prog 73 [ptrE ga, (Value.func (Fn.func 98) [].toArray [ptrE w1.heap.size, ptrE w3.heap.size, ptrE w2.heap.size].toArray)].toArray (fun t73 w => K (Value.int .i64 0) w) w) (
        CallS Tryz.prog 73 [ptrE gd, (Value.func (Fn.func 99) [].toArray [ptrE w3.heap.size, ptrE w2.heap.size].toArray)].toArray (fun t76 w => CallS Tryz.prog 73 [ptrE ga, (Value.func (Fn.func 100) [].toArray [ptrE w1.heap.size].toArray)].toArray (fun t79 w => K (Value.int .i64 0) w) w) w)) w)) fun J3 =>
      IfB t61 false (PureS (binV .eql (encE a) (encE b)) fun t65_1 => J3 t65_1 w) (J3 undef w)) w)) fun J2 =>
      IfB t46 true (PureS (nilV (ptrE gd)) fun t49 => PureS (fieldAddrV 0 t49) fun t50 => LoadC t50 (fun t51 w => RunS Tryz.prog (Builtin.len_ #[70] 3 [t51].toArray) (fun t52 w => PureS (binV .geq t52 (Value.int .i64 1024)) fun t53_1 => J2 t53_1 w) w) w) (J2 undef w)) fun J1 =>
      IfB (.bool (mget D.now nm).isNone) true (RunS Tryz.prog (do eqGuard .neq 63 (Operand.tmp 43) (Operand.tmp 44) (ptrE ga) (ptrE gd); binOp .neq 63 (ptrE ga) (ptrE gd)) (fun t45_1 w => J1 t45_1 w) w7.drew) (J1 undef w7.drew) := by
    refine join1 (fun t w' => w7.drew = w' ∧ (mget D.now nm = none → t = .bool (!decide (A.name = D.name)))) ?_ fun J1 hJ1 => ?_
    rotate_left
    · rw [ifB_eq]
      cases hg0 : mget D.now nm with
      | none =>
        rw [if_pos (show (none : Option Nat).isNone = true from rfl)]
        refine ne_ptr Tryz.underlying63 hi1 hi2 hAR.isC hDR0.isC (hJ1 _ _ ⟨rfl, fun _ => ?_⟩)
        congr 2
        rw [decide_eq_decide]; exact hsame
      | some j =>
        rw [if_neg (show ¬ (some j : Option Nat).isNone = true by simp)]
        exact hJ1 _ _ ⟨rfl, fun h => by rw [hg0] at h; cases h⟩
    rintro t _ ⟨rfl, ht⟩
    refine pur (v := .bool (decide (mget D.now nm = none ∧ A.name ≠ D.name))) ((pick_b _ _ _).trans ?_) ?_
    · cases hg0 : mget D.now nm with
      | none => rw [ht hg0]; simp
      | some j => simp
    refine join1 (fun t w' => w7.drew = w' ∧ (mget D.now nm = none ∧ A.name ≠ D.name → t = .bool (decide (1024 ≤ D.now.length)))) ?_ fun J2 hJ2 => ?_
    rotate_left
    · rw [ifB_eq]
      by_cases h : mget D.now nm = none ∧ A.name ≠ D.name
      · rw [if_pos (by simpa using h)]
        exact pur (nil_ptr _) (pur (field_ptr _ _ _) (loadB hbk (v := .map (some mn)) rfl (hN.len_ (pur (bin_geq _ _ _) (hJ2 _ _ ⟨rfl, fun _ => by congr 1; rw [decide_eq_decide]; omega⟩)))))
      · rw [if_neg (by simpa using h)]
        exact hJ2 _ _ ⟨rfl, fun h' => absurd h' h⟩
    rintro t _ ⟨rfl, ht⟩
    refine pur (v := .bool (decide (mget D.now nm = none ∧ A.name ≠ D.name ∧ 1024 ≤ D.now.length))) ((pick_b _ _ _).trans ?_) (condD (fun hlong => ?_) (fun hroom => ?_))
    · by_cases h : mget D.now nm = none ∧ A.name ≠ D.name
      · rw [ht h]; simp [h]
      · rw [if_neg (by simpa using h)]
        congr 2
        rw [eq_comm, decide_eq_false_iff_not]
        exact fun hh => h ⟨hh.1, hh.2.1⟩
    · rw [if_pos hlong] at hK
      exact hK _ T5 hx6 k06
    rw [if_neg hroom] at hK
    refine hx6.change hW.fail hW.stop (by omega) fun w8 hx8 k8 => pur (extract_0 _ _) (pur (extract_1 _ _ _) (pur (bin_neq _ _ _) ?_))
    have k08 := k06.trans k8.hdr
    refine join1 (fun t w' => w8 = w' ∧ ((chgV st).1 = 0 → t = .bool (decide (a = b)))) ?_ fun J3 hJ3 => ?_
    rotate_left
    · rw [ifB_eq]
      by_cases h : (chgV st).1 = 0
      · rw [if_pos (by simp [h])]
        exact pur (eqE a b) (hJ3 _ _ ⟨rfl, fun _ => rfl⟩)
      · rw [if_neg (by simp [h])]
        exact hJ3 _ _ ⟨rfl, fun h' => absurd h' h⟩
    rintro t _ ⟨rfl, ht⟩
    refine pur (v := .bool (decide ((chgV st).1 ≠ 0 ∨ a = b))) ((pick_b _ _ _).trans ?_) (condD (fun hstop => ?_) (fun hgo => ?_))
    · by_cases h : (chgV st).1 = 0
      · rw [ht h]; simp [h]
      · simp [h]
    · by_cases h : (chgV st).1 = 0
      · rw [if_neg (by simpa using h), if_pos (hstop.resolve_left (by simpa using h))] at hK
        rw [h]; exact hK _ T5 hx8 k08
      · rw [if_pos h] at hK
        exact hK _ T5 hx8 k08
    have h1 : (chgV st).1 = 0 := Classical.byContradiction fun h => hgo (.inl h)
    have h2 : ¬ a = b := fun h => hgo (.inr h)
    rw [if_neg (by simpa using h1), if_neg h2] at hK
    have bm8 := (bm.no e5d).ext k8.ext (by rw [tm_]; intro h; cases h)
    have bn8 := (bn.no e5d).ext k8.ext (by rw [tn]; intro h; cases h)
    have bf8 := (bf.no e5d).ext k8.ext (by rw [tf]; intro h; cases h)
    obtain ⟨ga', hga', hAR8⟩ := hx8.body.some_ A hA
    rw [hga] at hga'
    cases hga'
    obtain ⟨gd', hgd', hDR8⟩ := hx8.body.some_ D hD
    rw [hgd] at hgd'
    cases hgd'
    refine eq_ptr Tryz.underlying63 hi1 hi2 hAR8.isC hDR8.isC (condD (fun heq => ?_) (fun hneq => ?_))
    · rw [if_pos (hsame.1 heq)] at hK
      exact hx8.movName (st := chgD st) hA hga (by have := hW.wlen A hA; omega) (hW.now_ A hA) hgf bm8 tm_ bn8 tn bf8 tf fun w9 T9 hx9 k9 => hK w9 T9 hx9 (k08.trans k9.dirt)
    · have hnn : ¬ A.name = D.name := fun h => hneq (hsame.2 h)
      rw [if_neg hnn] at hK
      refine hx8.putName (st := chgD st) hD hgd (by have := hW.wlen D hD; omega) (hW.now_ D hD) hgf bn8 tn bf8 tf okRen2 (fun {w n0 t1 t2 K} h => s99_call hm (by unfold s99; exact h)) fun w9 T9 hx9 k9 => ?_
      have bm9 := bm8.ext k9.ext (by rw [tm_]; intro h; cases h)
      have tm9 : T9 w1.heap.size = .tmp := (k9.same _ bm8.lt).trans tm_
      have hA9 : A ∈ ((chgD st).setD (D.chg (wput D.now nm i))).dirs := List.mem_map.2 ⟨A, hA, if_neg hnn⟩
      exact hx9.delName hA9 hga (by have := hW.wlen A hA; omega) (hW.now_ A hA) bm9 tm9 okRen3 (fun {w n0 t1 K} h => s100_call hm (by unfold s100; exact h)) fun w10 T10 hx10 k10 => hK w10 T10 hx10 ((k08.trans k9.dirt).trans k10.dirt)
  rcases hN.get nm with ⟨hx0, hr⟩ | ⟨j, gj, hx0, hgj, hr⟩
  · refine ⟨_, fun w' hh => by rw [hh]; exact run_of hr, ?_⟩
    rw [hx0] at rest
    exact pur (extract_0 _ _) (pur (extract_1 _ _ _) (pur (not_b _) rest))
  · refine ⟨_, fun w' hh => by rw [hh]; exact run_of hr, ?_⟩
    rw [hx0] at rest
    exact pur (extract_0 _ _) (pur (extract_1 _ _ _) (pur (not_b _) rest))
end
end Go.Proofs.YthohdinjpkehpaaGreat

namespace Go.Proofs.YthohdinjpkehpaaGreat
open Go SG Go.RowKit
set_option linter.unusedVariables false
set_option maxRecDepth 4000
set_option linter.unusedSimpArgs false

def dput : List Di → Di → List Di
  | [], D => [D]
  | E :: r, D => if ltE E.name D.name then E :: dput r D else D :: E :: r
theorem dput_mem {l : List Di} {D E : Di} : E ∈ dput l D ↔ E = D ∨ E ∈ l := by
  induction l with
  | nil => simp [dput]
  | cons F r ih =>
    simp only [dput]
    split
    · rw [List.mem_cons, ih, List.mem_cons]
      constructor
      · rintro (h | h | h) <;> simp [h]
      · rintro (h | h | h) <;> simp [h]
    · rw [List.mem_cons, List.mem_cons]
theorem dput_len (l : List Di) (D : Di) : (dput l D).length = l.length + 1 := by
  induction l with
  | nil => rfl
  | cons F r ih => simp only [dput]; split <;> simp [ih]
theorem OrdD.put {l : List Di} (h : OrdD l) {D : Di} (hn : ∀ E ∈ l, E.name ≠ D.name) : OrdD (dput l D) := by
  induction l with
  | nil => simp [dput, OrdD]
  | cons F r ih =>
    have h' := List.pairwise_cons.1 h
    simp only [dput]
    split
    · rename_i hlt
      refine List.pairwise_cons.2 ⟨fun E hE => ?_, ih h'.2 fun E hE => hn E (List.mem_cons_of_mem _ hE)⟩
      rcases dput_mem.1 hE with rfl | hE
      · exact hlt
      · exact h'.1 E hE
    · rename_i hlt
      have hDF : ltE D.name F.name = true := by
        cases hh : ltE D.name F.name with
        | true => rfl
        | false => exact absurd (lt_tot (by simpa using hlt) hh) (hn F (by simp))
      refine List.pairwise_cons.2 ⟨fun E hE => ?_, h⟩
      rcases List.mem_cons.1 hE with rfl | hE
      · exact hDF
      · exact lt_trans hDF (h'.1 E hE)
def Dk.mkdir (st : Dk) (x : El) : Int × Dk :=
  if nameOk x = false then (1, st) else if (st.dir x).isSome then (7, st) else if 64 ≤ st.dirs.length then (2, st) else if (chgV st).1 ≠ 0 then ((chgV st).1, chgD st)
  else (0, { chgD st with dirs := dput st.dirs ⟨x, [], []⟩ })
def Dirs (d : Nat) : Tag → Prop := fun t => t = .own d .dirs
theorem buildDir (w : World) (b : Nat) : (Instr.build 73 [(0, .map (some b))].toArray).run Tryz.prog w = .ok (.agg #[.map (some b), .slice none 0 0]) w := by kernel_rfl
theorem buildFS (w : World) (q : Int) (b : Nat) : (Instr.build 68 [(0, .int .i64 q), (1, .map (some b))].toArray).run Tryz.prog w = .ok (.agg #[.int .i64 q, .map (some b), .int .i64 0, .int .i64 0, .int .i64 0, .int .i64 0, .int .i64 0, .int .i64 0]) w := by kernel_rfl
theorem buildScr (w : World) (n m : Int) : (Instr.build 66 [(0, .int .i64 n), (1, .int .i64 m)].toArray).run Tryz.prog w = .ok (.agg #[.int .i64 n, .int .i64 m, .int .i64 0]) w := by kernel_rfl
section
variable {T : Tags} {w : World} {d g : Nat} {st : Dk} {md : Nat} {dm : List (El × Nat)} {ad : Nat → Option Nat} {K : Value → World → Prop}
set_option maxHeartbeats 1000000 in
theorem Dx.Mkdir (hx : Dx T d w g st md dm ad) {B n : Nat} (hW : Wf B n st) (hn : n ≤ 2199023255552) {x : El}
    (hK : ∀ w' T' dm', Dx T' d w' g (st.mkdir x).2 md dm' ad → Gon (Ops d) w T w' T' → K (.int .i64 (st.mkdir x).1) w') : CallS Tryz.prog 20 #[ptrE g, encE x] K w := by
  refine s20_call hm ?_
  unfold s20
  unfold Dk.mkdir at hK
  refine cnamed fun w1 e1 => pur (not_b _) (condB (fun hc => ?_) (fun hc => ?_))
  · rw [if_pos (by simpa using hc)] at hK
    exact hK w1 T dm (hx.no e1) (Gon.no e1)
  have hnm : nameOk x = true := by simpa using hc
  rw [if_neg (by simp [hnm])] at hK
  have hx1 := hx.no e1
  have k01 : Gon (Ops d) w T w1 T := Gon.no e1
  refine hx1.ldDirs (hx1.body.mdR.lookup2 MTdir x (pur (extract_0 _ _) (pur (extract_1 _ _ _) ?_)))
  cases hd : st.dir x with
  | some D =>
    obtain ⟨gd, hg1, _⟩ := hx1.body.dirs_some hd
    rw [hg1]
    rw [hd] at hK
    exact condT rfl (hK w1 T dm hx1 k01)
  | none =>
    have hnone := hx1.body.dirs_none hd
    rw [hnone]
    rw [hd] at hK
    simp only [Option.isSome_none, Bool.false_eq_true, if_false] at hK
    refine condF rfl (hx1.ldDirs (hx1.body.mdR.len Tryz.underlying64 (pur (bin_geq _ _ _) (condD (fun hlong => ?_) (fun hroom => ?_)))))
    · rw [if_pos (by have := hx1.body.len; omega)] at hK
      exact hK w1 T dm hx1 k01
    rw [if_neg (by have := hx1.body.len; omega)] at hK
    refine hx1.change hW.fail hW.stop (by omega) fun w2 hx2 k2 => pur (extract_0 _ _) (pur (extract_1 _ _ _) (pur (bin_neq _ _ _) (condN (fun hne => ?_) (fun heq => ?_))))
    · rw [if_pos hne] at hK
      exact hK _ T dm hx2 (k01.trans k2.hdr)
    rw [if_neg (by simpa using heq)] at hK
    refine hx2.ldDirs (MapR.make (κ := El) (ν := Nat) encE ptrE fun w3 h3 e3 z3 => runS (buildDir w3 w2.heap.size) (box fun w4 b4 e4 z4 => ?_))
    have b4' : Blk w4 w3.heap.size 73 [.map (some w2.heap.size), .slice none 0 0] := b4
    have e24 := e3.trans e4
    refine (hx2.body.mdR.no e24).update MTdir x w3.heap.size fun w5 hm5 e5 z5 => ?_
    have hmdl := hx2.body.mdR.lt
    let T5 : Tags := mark (mark T w2.heap.size .ice) w3.heap.size (.own d (.dir x))
    have hne23 : w2.heap.size ≠ w3.heap.size := by omega
    have k5 : Gon (Dirs d) w2 T w5 T5 := ⟨e24.no.trans (e5.mono fun b hb _ => by rw [show b = md from hb]; exact hx2.body.mdT), fun b hb => by
      show mark (mark T _ _) _ _ b = T b
      rw [mark_ne _ _ (by omega), mark_ne _ _ (by omega)]⟩
    have hi : ¬ Dirs d .ice := fun h => by cases h
    have h5 : MapR w5 w2.heap.size encE ptrE ([] : List (El × Nat)) := (h3.no e4).ext e5 (fun hh => by have : w2.heap.size = md := hh; omega)
    have b5 := b4'.ext e5 (fun hh => by have : w3.heap.size = md := hh; omega)
    have hnx : ∀ E ∈ st.dirs, E.name ≠ x := Dk.dir_none hd
    refine hK w5 T5 (mput dm x w3.heap.size) ⟨(k5.same g hx2.blk.lt).trans hx2.tag, hx2.blk.ext k5.ext (by rw [hx2.tag]; intro h; cases h), (k5.same md hmdl).trans hx2.body.mdT, hm5, fun E hE => ?_, fun y hy => ?_, ?_, fun j gj hj => ?_⟩ ((k01.trans k2.hdr).trans (k5.mono fun t h => .inr (.inr ⟨_, h⟩)))
    · rw [mget_put]
      rcases dput_mem.1 hE with rfl | hE
      · refine ⟨w3.heap.size, if_pos rfl, mark_at _ _ _, w2.heap.size, _, [], b5, ⟨?_, ⟨[], h5, rfl, fun y => rfl⟩, fun p hp => by cases hp⟩, rfl, World.ownsRow_nil _ _ _ _, fun b hb => by simp [Value.ownBlock] at hb, fun p hp => by cases hp⟩
        show mark (mark T _ _) _ _ _ = _
        rw [mark_ne _ _ hne23, mark_at]
      · obtain ⟨gd, h1, h2⟩ := hx2.body.some_ E hE
        exact ⟨gd, by rw [if_neg (hnx E hE)]; exact h1, h2.keep k5 hi (fun h => by cases h)⟩
    · rw [mget_put, if_neg (fun h => hy ⟨x, [], []⟩ (dput_mem.2 (.inl rfl)) h.symm)]
      exact hx2.body.none_ y fun E hE => hy E (dput_mem.2 (.inr hE))
    · show (mput dm x w3.heap.size).length = (dput st.dirs _).length
      rw [dput_len, mput_len2, hnone]
      have := hx2.body.len
      simp only [Option.isSome_none, Bool.false_eq_true, if_false]
      exact congrArg (· + 1) this
    · obtain ⟨f, h1, h2⟩ := hx2.body.fil j gj hj
      exact ⟨f, h1, h2.keep k5 hi (fun h => by cases h)⟩
def Dk.new (q : Int) : Dk := ⟨q, [], [], ⟨0, 0, 0⟩, ⟨0, 0, 0⟩⟩
theorem cNew {w : World} {T : Tags} {q : Int} (d : Nat) (h0 : q < 0 ∨ 268435456 < q → K (.tuple [.pointer none, .int .i64 1].toArray) w)
    (hK : ∀ w' T' g md, 0 ≤ q → q ≤ 268435456 → w.heap.size ≤ g → Dx T' d w' g (Dk.new q) md [] (fun _ => none) → Gon Nil w T w' T' → K (.tuple [ptrE g, .int .i64 0].toArray) w') : CallS Tryz.prog 19 #[.int .i64 q] K w := by
  refine s19_call hm ?_
  unfold s19
  refine pur (bin_lss _ _ _) ?_
  refine join1 (fun t w' => w = w' ∧ (¬ q < 0 → t = .bool (decide (268435456 < q)))) ?_ fun J0 hJ0 => ?_
  rotate_left
  · rw [ifB_eq]
    by_cases h : q < 0
    · rw [if_neg (by simp [h])]
      exact hJ0 _ _ ⟨rfl, fun h' => absurd h h'⟩
    · rw [if_pos (by simp [h])]
      exact pur (bin_gtr _ _ _) (hJ0 _ _ ⟨rfl, fun _ => rfl⟩)
  rintro t _ ⟨rfl, ht⟩
  refine pur (v := .bool (decide (q < 0 ∨ 268435456 < q))) ((pick_b _ _ _).trans (by
    by_cases h : q < 0
    · simp [h]
    · rw [ht h]; simp [h])) (condD h0 fun hq => ?_)
  refine MapR.make (κ := El) (ν := Nat) encE ptrE fun w1 h1 e1 z1 => runS (buildFS w1 q w.heap.size) (box fun w2 b2 e2 z2 => ?_)
  have b2' : Blk w2 w1.heap.size 68 (hdrC q w.heap.size ⟨0, 0, 0⟩ ⟨0, 0, 0⟩) := b2
  let T2 : Tags := mark (mark T w.heap.size (.own d .dirs)) w1.heap.size (.own d .hdr)
  have hne : w.heap.size ≠ w1.heap.size := by omega
  refine hK w2 T2 w1.heap.size w.heap.size (by omega) (by omega) e1.size ⟨mark_at _ _ _, b2', ?_, h1.no e2, fun D hD => (by cases hD), fun x _ => rfl, rfl, fun i gf hi => by cases hi⟩ ⟨(e1.trans e2).no, fun b hb => ?_⟩
  · show mark (mark T _ _) _ _ _ = _
    rw [mark_ne _ _ hne, mark_at]
  · show mark (mark T _ _) _ _ b = T b
    rw [mark_ne _ _ (by have := e1.size; omega), mark_ne _ _ (by omega)]
theorem Dx.Stop (hx : Dx T d w g st md dm ad) {k : Int} (hK : ∀ w', Dx T d w' g { st with stop := ⟨k, -1, 0⟩ } md dm ad → Gon (Ops d) w T w' T → K (.tuple #[]) w') : CallS Tryz.prog 37 #[ptrE g, .int .i64 k] K w := by
  refine s37_call hm ?_
  unfold s37
  refine runS (buildScr w k (-1)) (pur (nil_ptr _) (pur (field_ptr _ _ _) (storeA (vs := [.int .i64 k, .int .i64 (-1), .int .i64 0]) hx.blk rfl (by simp [hdrC, scrC]) (by simp [Value.oneCell']) fun w1 b1 e1 z1 => ?_)))
  have k1 : Gon (Hdr d) w T w1 T := Gon.at1 e1 hx.tag rfl
  exact hK w1 ⟨hx.tag, b1, hx.body.keep k1 (by intro h; cases h) (by intro h; cases h) (fun _ h => by cases h) fun _ h => by cases h⟩ k1.hdr
end
end Go.Proofs.YthohdinjpkehpaaGreat

