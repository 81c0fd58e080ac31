/- Several texts of ours, laid one behind the other. -/
import Derived.Test.YtkladgpaicolnaaMD4
import Derived.WalkKit
import Derived.ProofKit
import Derived.OpenShut
import Derived.ShutString
import Derived.ChangeOld
import Derived.Below
import Derived.SizedLaws
import Derived.Deep.Slices
import Derived.Deep.Fields
import Derived.ChangeSame
import Derived.Test.YtkladgpaicolnaaRows
/-! Collect, Sorted: what an iterator gives, as a row of the call's own. -/
namespace Go.Proofs.Ytkladgpaicolnaa
open Go SG Go.RowKit Go.Lib
set_option linter.unusedVariables false
set_option maxRecDepth 4000
set_option linter.unusedSimpArgs false

theorem putObj_ext {w : World} {D : Nat} {o : Obj} : Ext (At1 D) w (w.putObj D o) := ⟨rfl, rfl, rfl, by simp, fun b hb hn => World.putObj_heap_other (fun e => hn (by rw [e]; rfl))⟩

set_option maxHeartbeats 1000000 in
/-- slices.AppendSeq, onto nothing -/
theorem cAppendSeq {α : Type} (h : α → El) {gf N : Nat} {lb : Array Value} {S Sp : List α → Prop} (hokf : okFunc Try.prog gf = true) {w : World}
    (hseq : ∀ w', Ext No w w' → SeqStopsK Fence.wide 0 Try.prog gf lb (fun x => [encE (h x)].toArray) KpW S Sp N w') (hN : N ≤ 1099511627776) (hS : ∀ xs, S xs → xs.length ≤ N) {K : Value → World → Prop}
    (hK : ∀ v w' xs, S xs → w'.ownsRow w.heap.size 30 1 v xs.length ((xs.map h).map encE) → Ext No w w' → K v w') : CallS Try.prog 58 #[.slice none 0 0, .func (.func gf) #[] lb] K w := by
  refine s58_call hm ?_
  unfold s58
  refine box fun w1 b1 e1 z1 => ?_
  have b1' : Blk w1 w.heap.size 31 [.slice none 0 0] := b1
  refine ⟨rfl, hokf, α, fun x => [encE (h x)], KpW, S, Sp, N, fun pre W => (∃ v, Blk W w.heap.size 31 [v] ∧ W.ownsRow w1.heap.size 30 1 v pre.length ((pre.map h).map encE)) ∧ Ext No w W,
    hseq w1 e1, fun _ => rfl, fun A B C h k => h.trans k, ?_, ?_, ⟨⟨_, b1', World.ownsRow_nil _ _ _ _⟩, e1⟩, ?_, ?_⟩
  · intro W l o o' _ ho _ hw
    exact KpW.put ho hw
  · rintro s W W' row ⟨⟨v, hb, ho⟩, he⟩ hg hr
    refine ⟨⟨v, (hg.block _ hb.lt fun e => ?_).trans hb, owns_ext ho (Ext.grown (S := fun b => row = some b) hg fun b h => h) fun g hg' hh => ?_⟩, he.fresh (Ext.grown (S := fun b => row = some b) hg fun b h => h) fun b hb' => .inr ?_⟩
    · obtain ⟨_, o, ho', hc⟩ := hr _ e.symm
      rw [hb] at ho'
      cases ho'; cases hc
    · obtain ⟨_, o, ho', hc⟩ := hr _ hh
      rcases ho.2 with ⟨rfl, _⟩ | ⟨g', cap, cur, rfl, _, hgg, _⟩
      · simp [Value.ownBlock] at hg'
      · simp only [Value.ownBlock, Option.some.injEq] at hg'
        subst hg'
        rw [hgg] at ho'
        cases ho'; cases hc
    · have := (hr b hb').1; omega
  · rintro pre x W ⟨⟨v, hb, ho⟩, he⟩ hlt
    have hlt1 : w.heap.size < w1.heap.size := b1'.lt
    have hWs : w1.heap.size ≤ W.heap.size := by
      have := hb.lt
      have h2 := he.size
      -- the heap has grown since w1: by one block at least
      omega
    refine loadB hb (v := v) rfl (build1 TCE rfl fun w2 b2 e2 z2 => ?_)
    have ho2 := owns_ext ho e2 fun _ _ hh => hh
    refine append_sl TCE 31 ho2 (b2.sl (n := 1) (c := 1) (size := 1) rfl (Nat.le_refl _)) (by simp [Value.cells, encE, Value.oneCell']) (by omega) (by omega) (by have := e2.size; omega) fun v' w3 ho3 hg3 hat => ?_
    have e3 : Ext (fun b => v.ownBlock = some b) w2 w3 := Ext.grown hg3 fun b hbb => hbb
    have hne : v.ownBlock ≠ some w.heap.size := fun hh => by have := (ho2.lt _ hh).1; omega
    have hb3 : Blk w3 w.heap.size 31 [v] := (hb.no e2).ext e3 hne
    have hne3 : v'.ownBlock ≠ some w.heap.size := fun hh => by have := (ho3.lt _ hh).1; omega
    refine storeB hb3 (by simp) (Sl.own ho3).one fun w4 b4 e4 z4 => ?_
    have ho4 := owns_ext ho3 e4 fun b hb' hh => hne3 (by rw [hb', show b = w.heap.size from hh])
    -- what has been written: the row, and the cell
    have eW : Ext (fun b => v.ownBlock = some b ∨ b = w.heap.size) W w4 := (e2.no).trans ((e3.mono fun b hb' _ => .inl hb').trans (e4.mono fun b hb' _ => .inr hb'))
    have hcell : ∀ b, (v.ownBlock = some b ∨ b = w.heap.size) → ∃ c t f, W.heap[b]? = some (.cells c t f) := fun b hb' => by
      rcases hb' with hb' | rfl
      · rcases ho.2 with ⟨rfl, _⟩ | ⟨g', cap, cur, rfl, _, hgg, _⟩
        · simp [Value.ownBlock] at hb'
        · simp only [Value.ownBlock, Option.some.injEq] at hb'
          subst hb'
          exact ⟨_, _, _, hgg⟩
      · exact ⟨_, _, _, hb⟩
    refine ⟨⟨eW.size, fun k o hk ho' hc => ?_⟩, KpW.ext eW fun b o hb' ho' => ?_, ⟨v', b4, ?_⟩, he.fresh eW fun b hb' => .inr ?_⟩
    · refine (eW.blk k (Array.getElem?_eq_some_iff.1 ho').1 fun hh => ?_).trans ho'
      obtain ⟨c, t, f, hcc⟩ := hcell k hh
      rw [hcc] at ho'; cases ho'; cases hc
    · obtain ⟨c, t, f, hcc⟩ := hcell b hb'
      rw [hcc] at ho'; cases ho'; rfl
    · simpa [Value.cells, encE] using ho4
    · rcases hb' with hb' | rfl
      · have := (ho.lt b hb').1; omega
      · exact Nat.le_refl _
  · rintro D xs W hD hSx ⟨⟨v, hb, ho⟩, he⟩ hmk
    refine loadB hb (v := v) rfl ⟨hmk, ?_⟩
    refine hK v _ xs hSx (owns_ext (owns_base ho fun g hg => ?_) putObj_ext fun g hg hh => ?_) (he.fresh putObj_ext fun b hb' => .inr ?_)
    · have := (ho.lt g hg).1
      have := e1.size; omega
    · rw [show g = D from hh] at hg
      rcases ho.2 with ⟨rfl, _⟩ | ⟨g', cap, cur, rfl, _, hgg, _⟩
      · simp [Value.ownBlock] at hg
      · simp only [Value.ownBlock, Option.some.injEq] at hg
        subst hg
        rw [hgg] at hmk; cases hmk
    · rw [show b = D from hb']; have := e1.size; omega
/-- slices.Collect -/
theorem cCollect {α : Type} (h : α → El) {gf N : Nat} {lb : Array Value} {S Sp : List α → Prop} (hokf : okFunc Try.prog gf = true) {w : World}
    (hseq : ∀ w', Ext No w w' → SeqStopsK Fence.wide 0 Try.prog gf lb (fun x => [encE (h x)].toArray) KpW S Sp N w') (hN : N ≤ 1099511627776) (hS : ∀ xs, S xs → xs.length ≤ N) {K : Value → World → Prop}
    (hK : ∀ v w' xs, S xs → w'.ownsRow w.heap.size 30 1 v xs.length ((xs.map h).map encE) → Ext No w w' → K v w') : CallS Try.prog 42 #[.func (.func gf) #[] lb] K w := by
  refine s42_call hm ?_
  unfold s42
  exact cAppendSeq h hokf hseq hN hS hK
/-- slices.Sorted -/
theorem cSortedSeq {α : Type} (h : α → El) {gf N : Nat} {lb : Array Value} {S Sp : List α → Prop} (hokf : okFunc Try.prog gf = true) {w : World}
    (hseq : ∀ w', Ext No w w' → SeqStopsK Fence.wide 0 Try.prog gf lb (fun x => [encE (h x)].toArray) KpW S Sp N w') (hN : N ≤ 1099511627776) (hS : ∀ xs, S xs → xs.length ≤ N) {K : Value → World → Prop}
    (hK : ∀ v w' xs ys, S xs → ys.Perm (xs.map h) → Asc ltE ys → w'.ownsRow w.heap.size 30 1 v ys.length (ys.map encE) → Ext No w w' → K v w') : CallS Try.prog 35 #[.func (.func gf) #[] lb] K w := by
  refine s35_call hm ?_
  unfold s35
  refine cCollect h hokf hseq hN hS fun v w1 xs hx ho e1 => ?_
  have := hS xs hx
  refine cSorted (xs := xs.map h) ho (by omega) fun w2 ys ho2 hp ha e2 => ?_
  have hl : ys.length = xs.length := by have := hp.length_eq; simpa using this
  rw [← hl] at ho2
  exact hK v w2 xs ys hx hp ha ho2 (e1.fresh e2 fun b hb => .inr (ho.lt b hb).1)
end Go.Proofs.Ytkladgpaicolnaa
/-! Snaps: the keys and the values of maps. -/
namespace Go.Proofs.Ytkladgpaicolnaa
open Go SG Go.RowKit Go.Lib
set_option linter.unusedVariables false
set_option maxRecDepth 4000
set_option linter.unusedSimpArgs false

theorem check_int {P : Program} {k : TypeId} {q : IntKind} (h : P.underlying k = some (.int q)) (b : Bool) (n : Int) (w : World) : (Instr.checkKey b 10000 k (.int q n)).run P w = .ok () w := by
  exact MapKept.run_checkKey h (by first | rfl | trivial | simp [MapKept.IsKey]) b 9999
theorem same_int (q : IntKind) (a b : Int) : Instr.sameNow (.int q) (.int q a) (.int q b) = some (decide (a = b)) := by
  simp [Instr.sameNow]
  rfl
def encH (h : Int) : Value := .int .i64 h
theorem MT45 : MapT Try.prog 45 3 30 encH (.int .u64 0) :=
  MapT.of Try.underlying45 Try.underlying3 (fun x b w => check_int Try.underlying3 b x w) (fun x y => same_int _ _ _) (by kernel_rfl) (fun x => by simp [encH, Instr.sameBits])
theorem MT59 : MapT Try.prog 59 3 31 encH (.slice none 0 0) :=
  MapT.of Try.underlying59 Try.underlying3 (fun x b w => check_int Try.underlying3 b x w) (fun x y => same_int _ _ _) (by kernel_rfl) (fun x => by simp [encH, Instr.sameBits])
theorem MT61 : MapT Try.prog 61 30 3 encE (.int .i64 0) :=
  MapT.of Try.underlying61 Try.underlying30 (fun x b w => check_int Try.underlying30 b x w) (fun x y => (same_int _ _ _).trans (by congr 1; rw [decide_eq_decide]; exact Int.natCast_inj)) (by kernel_rfl) (fun x => by simp [encE, Instr.sameBits])

/-- maps.Values' iterator -/
theorem vals_stops {w : World} {gb b : Nat} {m : List (Int × Nat)} (hb : Blk w gb 45 [.map (some b)]) (hm' : MapR w b encH encE m) :
    SeqStopsK Fence.wide 0 Try.prog 59 #[.pointer (some ⟨gb, 0, none⟩)] (fun p : Int × Nat => [encE p.2].toArray) KpW (fun xs => xs.Perm m) (fun _ => True) m.length w := by
  refine stops_of fun y J Jx W hW hJ hY h0 => ?_
  have eW : Ext No w W := Ext.of_below hW
  refine s59_call hm ?_
  unfold s59
  refine loadB (hb.no eW) rfl (IterR.start Try.underlying45 (hm'.no eW) fun w1 it1 e1 z1 => ?_)
  refine iterLoop it1 (fun done w' => J done w') (hJ _ W w1 none h0 (e1.to_grown_none none) fun r hr => by cases hr) 0 (fun done w' w'' hj it he => hJ _ w' w'' (some W.heap.size) hj he.to_grown fun r hr => ?_) (fun done p w2 hpm hpd it2 hj L hL => ?_) (fun done w2 hp hj => .inl ⟨done, hp, hj⟩)
  · cases hr
    obtain ⟨o, ho1, ho2, _⟩ := it.walk
    exact ⟨Nat.le_refl _, o, ho1, ho2⟩
  · have hlen : done.length < m.length := by
      have h1 := it2.sub
      have h2 := nodup_len _ _ h1.1 h1.2
      simp at h2; omega
    refine pur (extract_1 _ _ _) (callY (hY done p w2 _ hj hlen (fun w3 hj3 hk3 => ?_) fun w3 hj3 => ?_))
    · exact pur (not_b _) (condF rfl (hL w3 (it2.kp hk3) hj3))
    · exact pur (not_b _) (condT rfl (.inr ⟨_, trivial, hj3⟩))
theorem c45 {w : World} {x : Value} (hx : x.oneCell' = true) {K : Value → World → Prop} (hK : ∀ w', Blk w' w.heap.size 45 x.cells.toList → Ext No w w' → K (.func (.func 59) #[] #[.pointer (some ⟨w.heap.size, 0, none⟩)]) w') : CallS Try.prog 45 #[x] K w := by
  refine s45_call hm ?_
  unfold s45
  exact box fun w1 b1 e1 z1 => hK w1 b1 e1
/-- maps.Keys' iterator -/
theorem keys_stops {w : World} {gb b : Nat} {m : List (Nat × Int)} (hb : Blk w gb 61 [.map (some b)]) (hm' : MapR w b encE encH m) :
    SeqStopsK Fence.wide 0 Try.prog 43 #[.pointer (some ⟨gb, 0, none⟩)] (fun p : Nat × Int => [encE p.1].toArray) KpW (fun xs => xs.Perm m) (fun _ => True) m.length w := by
  refine stops_of fun y J Jx W hW hJ hY h0 => ?_
  have eW : Ext No w W := Ext.of_below hW
  refine s43_call hm ?_
  unfold s43
  refine loadB (hb.no eW) rfl (IterR.start Try.underlying61 (hm'.no eW) fun w1 it1 e1 z1 => ?_)
  refine iterLoop it1 (fun done w' => J done w') (hJ _ W w1 none h0 (e1.to_grown_none none) fun r hr => by cases hr) 0 (fun done w' w'' hj it he => hJ _ w' w'' (some W.heap.size) hj he.to_grown fun r hr => ?_) (fun done p w2 hpm hpd it2 hj L hL => ?_) (fun done w2 hp hj => .inl ⟨done, hp, hj⟩)
  · cases hr
    obtain ⟨o, ho1, ho2, _⟩ := it.walk
    exact ⟨Nat.le_refl _, o, ho1, ho2⟩
  · have hlen : done.length < m.length := by
      have h1 := it2.sub
      have h2 := nodup_len _ _ h1.1 h1.2
      simp at h2; omega
    refine pur (extract_0 _ _) (callY (hY done p w2 _ hj hlen (fun w3 hj3 hk3 => ?_) fun w3 hj3 => ?_))
    · exact pur (not_b _) (condF rfl (hL w3 (it2.kp hk3) hj3))
    · exact pur (not_b _) (condT rfl (.inr ⟨_, trivial, hj3⟩))
theorem c36 {w : World} {x : Value} (hx : x.oneCell' = true) {K : Value → World → Prop} (hK : ∀ w', Blk w' w.heap.size 61 x.cells.toList → Ext No w w' → K (.func (.func 43) #[] #[.pointer (some ⟨w.heap.size, 0, none⟩)]) w') : CallS Try.prog 36 #[x] K w := by
  refine s36_call hm ?_
  unfold s36
  exact box fun w1 b1 e1 z1 => hK w1 b1 e1
end Go.Proofs.Ytkladgpaicolnaa
/-! Snaps: numbers that are held, by the program. -/
namespace Go.Proofs.Ytkladgpaicolnaa
open Go SG Go.RowKit Go.Lib
set_option linter.unusedVariables false
set_option maxRecDepth 4000
set_option linter.unusedSimpArgs false

/-- a list of held numbers lies at g -/
def ListF (w : World) (g : Nat) (m : List (Int × Nat)) (last : Int) (F : Nat → Prop) : Prop := ∃ b, Blk w g 72 [.map (some b), .int .i64 last] ∧ MapR w b encH encE m ∧ ∀ x, F x ↔ x = g ∨ x = b
namespace ListF
variable {w w' : World} {g : Nat} {m : List (Int × Nat)} {last : Int} {F S : Nat → Prop} {K : Value → World → Prop}
theorem lt (h : ListF w g m last F) {b : Nat} (hb : F b) : b < w.heap.size := by
  obtain ⟨b', h1, h2, h3⟩ := h
  rcases (h3 b).1 hb with rfl | rfl
  · exact h1.lt
  · exact h2.lt
theorem ext (h : ListF w g m last F) (e : Ext S w w') (hn : ∀ b, F b → ¬ S b) : ListF w' g m last F := by
  obtain ⟨b', h1, h2, h3⟩ := h
  exact ⟨b', h1.ext e (hn g ((h3 g).2 (.inl rfl))), h2.ext e (hn b' ((h3 b').2 (.inr rfl))), h3⟩
theorem no (h : ListF w g m last F) (e : Ext No w w') : ListF w' g m last F := h.ext e fun _ _ h => h
theorem keys (h : ListF w g m last F) : Keys m := by obtain ⟨b', h1, h2, h3⟩ := h; exact h2.keys
theorem ne {b : Nat} (h1 : Blk w g 72 [.map (some b), .int .i64 last]) (h2 : MapR w b encH encE m) : g ≠ b := fun he => by
  obtain ⟨es, clock, hb, _⟩ := h2
  subst he
  unfold Blk at h1
  rw [h1] at hb; cases hb
theorem build72 (w : World) (b : Nat) : (Instr.build 72 [(0, .map (some b))].toArray).run Try.prog w = .ok (.agg #[.map (some b), .int .i64 0]) w := by kernel_rfl
/-- New -/
theorem new (hK : ∀ g w' F, ListF w' g [] 0 F → Ext No w w' → (∀ b, F b → w.heap.size ≤ b) → K (.pointer (some ⟨g, 0, none⟩)) w') : CallS Try.prog 18 #[] K w := by
  refine s18_call hm ?_
  unfold s18
  refine MapR.make encH encE fun w1 h1 e1 z1 => runS (build72 w1 w.heap.size) (box fun w2 b2 e2 z2 => ?_)
  exact hK w1.heap.size w2 _ ⟨w.heap.size, b2, h1.no e2, fun x => Iff.rfl⟩ (e1.trans e2) fun b hb => by rcases hb with rfl | rfl <;> omega
/-- Hold -/
theorem hold (h : ListF w g m last F) (hl0 : 0 ≤ last) (hl : last ≤ 4611686018427387904) (hfree : last + 1 ∉ m.map (·.1)) {seq : Nat} (hs : seq < 18446744073709551616)
    (h1 : 72057594037927935 < seq → K (.tuple [.int .i64 0, .int .i64 1].toArray) w) (h2 : seq ≤ 72057594037927935 → 4096 ≤ m.length → K (.tuple [.int .i64 0, .int .i64 2].toArray) w)
    (hK : ∀ w', seq ≤ 72057594037927935 → m.length < 4096 → ListF w' g (m ++ [(last + 1, seq)]) (last + 1) F → Ext F w w' → K (.tuple [.int .i64 (last + 1), .int .i64 0].toArray) w') : CallS Try.prog 19 #[.pointer (some ⟨g, 0, none⟩), encE seq] K w := by
  obtain ⟨b, hb, hmap, hF⟩ := h
  have hne := ne hb hmap
  refine s19_call hm ?_
  unfold s19
  refine pur (bin_gtr _ _ _) (condD (fun hgt => h1 (by omega)) (fun hle => ?_))
  refine pur (nil_ptr _) (pur (field_ptr _ _ _) (loadB hb (v := .map (some b)) rfl (hmap.len Try.underlying45 (pur (bin_geq _ _ _) (condD (fun hge => h2 (by omega) (by omega)) (fun hlt => ?_))))))
  refine pur (nil_ptr _) (pur (field_ptr _ _ _) (loadB hb (v := .int .i64 last) rfl (pur (add64 rfl (by omega) (by omega)) (pur (nil_ptr _) (pur (field_ptr _ _ _) (storeB hb (by simp) rfl fun w1 b1 e1 z1 => ?_))))))
  have b1' : Blk w1 g 72 [.map (some b), .int .i64 (last + 1)] := b1
  have hm1 := hmap.ext e1 (S := At1 g) (Ne.symm hne)
  refine draw (fun w' => Blk w' g 72 [.map (some b), .int .i64 (last + 1)]) (b1'.no (Ext.drew w1)) ?_
  refine pur (nil_ptr _) (pur (field_ptr _ _ _) (pur (nil_ptr _) (pur (field_ptr _ _ _) ?_)))
  refine heldC (v := .map (some b)) (fun w' hh => hh.cell 0) (heldC (v := .int .i64 (last + 1)) (fun w' hh => hh.cell 1) ?_)
  refine (hm1.no (Ext.drew w1)).update MT45 (last + 1) seq fun w2 hm2 e2 z2 => ?_
  have b2 : Blk w2 g 72 [.map (some b), .int .i64 (last + 1)] := (b1'.no (Ext.drew w1)).ext e2 hne
  rw [mput_keys_out hfree] at hm2
  refine pur (nil_ptr _) (pur (field_ptr _ _ _) (loadB b2 (v := .int .i64 (last + 1)) rfl ?_))
  refine hK w2 (by omega) (by omega) ⟨b, b2, hm2, hF⟩ ?_
  exact (e1.mono fun x hx _ => (hF x).2 (.inl hx)).trans ((Ext.drew w1).trans (e2.mono fun x hx _ => (hF x).2 (.inr hx)))
/-- Free -/
theorem free (h : ListF w g m last F) (x : Int) (h0 : mget m x = none → K (.int .i64 220) w) (hK : ∀ v w', mget m x = some v → ListF w' g (mdel m x) last F → Ext F w w' → K (.int .i64 0) w') : CallS Try.prog 20 #[.pointer (some ⟨g, 0, none⟩), encH x] K w := by
  obtain ⟨b, hb, hmap, hF⟩ := h
  have hne := ne hb hmap
  refine s20_call hm ?_
  unfold s20
  refine pur (nil_ptr _) (pur (field_ptr _ _ _) (loadB hb (v := .map (some b)) rfl (hmap.lookup2 MT45 x ?_)))
  refine pur (extract_0 _ _) (pur (extract_1 _ _ _) (pur (not_b _) ?_))
  cases hg : mget m x with
  | none => exact condT rfl (h0 hg)
  | some v =>
    refine condF rfl (pur (nil_ptr _) (pur (field_ptr _ _ _) (loadB hb (v := .map (some b)) rfl (hmap.delete MT45 x fun w1 hm1 e1 z1 => ?_))))
    exact hK v w1 hg ⟨b, hb.ext e1 hne, hm1, hF⟩ (e1.mono fun y hy _ => (hF y).2 (.inr hy))
/-- Seq -/
theorem seq (h : ListF w g m last F) (x : Int) (h0 : mget m x = none → K (.tuple [.int .u64 0, .int .i64 220].toArray) w) (hK : ∀ v, mget m x = some v → K (.tuple [encE v, .int .i64 0].toArray) w) : CallS Try.prog 22 #[.pointer (some ⟨g, 0, none⟩), encH x] K w := by
  obtain ⟨b, hb, hmap, hF⟩ := h
  refine s22_call hm ?_
  unfold s22
  refine pur (nil_ptr _) (pur (field_ptr _ _ _) (loadB hb (v := .map (some b)) rfl (hmap.lookup2 MT45 x ?_)))
  refine pur (extract_0 _ _) (pur (extract_1 _ _ _) (pur (not_b _) ?_))
  cases hg : mget m x with
  | none => exact condT rfl (h0 hg)
  | some v => exact condF rfl (hK v hg)
/-- Len -/
theorem len (h : ListF w g m last F) (hK : K (.int .i64 (m.length : Int)) w) : CallS Try.prog 30 #[.pointer (some ⟨g, 0, none⟩)] K w := by
  obtain ⟨b, hb, hmap, hF⟩ := h
  refine s30_call hm ?_
  unfold s30
  exact pur (nil_ptr _) (pur (field_ptr _ _ _) (loadB hb (v := .map (some b)) rfl (hmap.len Try.underlying45 hK)))
end ListF
/-- numbers that rise, those that are told -/
def Rise (fs : List Nat) (P : Nat → Prop) : Prop := fs.Pairwise (· < ·) ∧ ∀ x, x ∈ fs ↔ P x
theorem Rise.unique {P : Nat → Prop} {a b : List Nat} (ha : Rise a P) (hb : Rise b P) : a = b := rise_unique ha.1 hb.1 fun x => (ha.2 x).trans (hb.2 x).symm
theorem Rise.len {P : Nat → Prop} {a l : List Nat} (ha : Rise a P) (hl : ∀ x, P x → x ∈ l) : a.length ≤ l.length := nodup_len _ _ (ha.1.imp fun h => Nat.ne_of_lt h) fun x hx => hl x ((ha.2 x).1 hx)
namespace ListF
variable {w w' : World} {g : Nat} {m : List (Int × Nat)} {last : Int} {F S : Nat → Prop} {K : Value → World → Prop}
set_option maxHeartbeats 400000 in
/-- all: sorted, each once -/
theorem all (h : ListF w g m last F) (hml : m.length ≤ 1000000) (hK : ∀ v w' fs, Rise fs (fun x => x ∈ m.map (·.2)) → w'.ownsRow w.heap.size 30 1 v fs.length (fs.map encE) → Ext No w w' → K v w') : CallS Try.prog 37 #[.pointer (some ⟨g, 0, none⟩)] K w := by
  obtain ⟨b, hb, hmap, hF⟩ := h
  refine s37_call hm ?_
  unfold s37
  refine pur (nil_ptr _) (pur (field_ptr _ _ _) (loadB hb (v := .map (some b)) rfl (c45 rfl fun w1 b1 e1 => ?_)))
  have b1' : Blk w1 w.heap.size 45 [.map (some b)] := b1
  refine cSortedSeq (α := Int × Nat) (fun p => p.2) (by kernel_rfl) (fun w' e' => vals_stops (b1'.no e') ((hmap.no e1).no e')) (by omega) (fun xs hx => Nat.le_of_eq hx.length_eq) fun v w2 xs ys hx hp ha ho e2 => ?_
  have hyl : ys.length = m.length := by have := hp.length_eq; have := hx.length_eq; simp at *; omega
  refine cCompacted ho (by omega) fun w3 v3 ho3 hv3 e3 => ?_
  have e03 : Ext No w w3 := (e1.trans e2).fresh e3 fun b hb => .inr (by have := (ho.lt b hb).1; have := e1.size; omega)
  refine hK v3 w3 (dd ys ys.length) ⟨(dd_rise ha _).imp fun h => (ltE_iff _ _).1 h, fun x => ⟨fun hx' => ?_, fun hx' => ?_⟩⟩ (owns_base ho3 fun g hg => by have := (ho3.lt g hg).1; have := e1.size; omega) e03
  · have := hp.mem_iff.1 (dd_of hx')
    obtain ⟨p, hp1, rfl⟩ := List.mem_map.1 this
    exact List.mem_map.2 ⟨p, hx.mem_iff.1 hp1, rfl⟩
  · obtain ⟨p, hp1, rfl⟩ := List.mem_map.1 hx'
    have : p.2 ∈ ys := hp.mem_iff.2 (List.mem_map.2 ⟨p, hx.mem_iff.2 hp1, rfl⟩)
    obtain ⟨j, hj⟩ := List.getElem?_of_mem this
    exact dd_mem (List.getElem?_eq_some_iff.1 hj).1 hj
theorem All (h : ListF w g m last F) (hml : m.length ≤ 1000000) (hK : ∀ v w' fs, Rise fs (fun x => x ∈ m.map (·.2)) → w'.ownsRow w.heap.size 30 1 v fs.length (fs.map encE) → Ext No w w' → K v w') : CallS Try.prog 21 #[.pointer (some ⟨g, 0, none⟩)] K w := by
  refine s21_call hm ?_
  unfold s21
  exact h.all hml hK
end ListF
/-- slices.BinarySearch -/
theorem c46 {w : World} {v : Value} {fs : List Nat} (hs : Sl w v fs.length 1 (fs.map encE)) (hf : fs.Pairwise (· < ·)) (hl : fs.length ≤ 1000000) {x : Nat} {K : Value → World → Prop}
    (hK : ∀ (i : Nat) (c : Bool), i ≤ fs.length → (∀ j y, j < i → fs[j]? = some y → y < x) → (∀ y, fs[i]? = some y → x ≤ y) → K (.tuple [.int .i64 (i : Int), .bool c].toArray) w) : CallS Try.prog 46 #[v, encE x] K w := by
  refine s46_call hm ?_
  unfold s46
  refine pur hs.len ?_
  have at_ : ∀ {i : Nat} {y : Nat}, fs[i]? = some y → ∀ {K' : Value → World → Prop}, K' (encE y) w → PureS (indexAddrV 1 v (.int .i64 (i : Int))) fun t => LoadC t K' w := fun {i y} hy {K'} hk => by
    obtain ⟨ad, h1, h2, h3⟩ := sl_idx1 hs (i := i) (v := encE y) (by simp [hy]) .i64
    exact pur h1 (SG.load (S := No) (h3 w hs) hk)
  refine join1 (fun a w' => w = w' ∧ ∃ i : Nat, a = .int .i64 (i : Int) ∧ i ≤ fs.length ∧ (∀ j y, j < i → fs[j]? = some y → y < x) ∧ (∀ y, fs[i]? = some y → x ≤ y)) ?_ fun J0 hJ0 => ?_
  · rintro _ _ ⟨rfl, i, rfl, hi, h1, h2⟩
    refine pur (bin_lss _ _ _) ?_
    have fin : ∀ c : Bool, K (.tuple [.int .i64 (i : Int), .bool c].toArray) w := fun c => hK i c hi h1 h2
    by_cases hlt : i < fs.length
    · rw [decide_eq_true (by omega : (i : Int) < (fs.length : Int))]
      obtain ⟨y, hy⟩ := getN (xs := fs) (i := i) hlt
      refine join1 (fun a w' => w = w' ∧ ∃ c, a = .bool c) ?_ fun J1 hJ1 => ?_
      · rintro _ _ ⟨rfl, c, rfl⟩
        refine join1 (fun a w' => w = w' ∧ (c = false → ∃ d, a = .bool d)) ?_ fun J2 hJ2 => ?_
        · rintro a48 _ ⟨rfl, h48⟩
          refine join1 (fun a w' => w = w' ∧ (c = false → a48 = .bool true → ∃ d, a = .bool d)) ?_ fun J3 hJ3 => ?_
          · rintro a50 _ ⟨rfl, h50⟩
            refine join1 (fun a w' => w = w' ∧ (c = false → ∃ d, a = .bool d)) ?_ fun J4 hJ4 => ?_
            · rintro a51 _ ⟨rfl, h51⟩
              refine join1 (fun a w' => w = w' ∧ ∃ d, a = .bool d) ?_ fun J5 hJ5 => ?_
              · rintro _ _ ⟨rfl, d, rfl⟩
                exact pur (pick_b _ _ _) (by rw [if_pos rfl]; exact fin d)
              · refine ifYes _ _ (pur (pick_b _ _ _) (hJ5 _ _ ⟨rfl, ?_⟩))
                cases c with
                | true => exact ⟨true, rfl⟩
                | false => obtain ⟨d, rfl⟩ := h51 rfl; exact ⟨d, rfl⟩
            · rw [ifB_eq]
              cases c with
              | true => rw [if_neg (by simp)]; exact hJ4 _ _ ⟨rfl, fun h => by cases h⟩
              | false =>
                rw [if_pos rfl]
                obtain ⟨d, rfl⟩ := h48 rfl
                refine pur (pick_b _ _ _) (hJ4 _ _ ⟨rfl, fun _ => ?_⟩)
                cases d with
                | true => obtain ⟨d', rfl⟩ := h50 rfl rfl; exact ⟨d', rfl⟩
                | false => exact ⟨false, rfl⟩
          · cases c with
            | true =>
              -- then it is of no matter which way is gone
              by_cases hb : isB a48 true = true
              · unfold IfB; rw [if_pos hb]
                refine s60_call hm ?_
                unfold s60
                exact pur (bin_neq _ _ _) (hJ3 _ _ ⟨rfl, fun h => by cases h⟩)
              · unfold IfB; rw [if_neg hb]; exact hJ3 _ _ ⟨rfl, fun h => by cases h⟩
            | false =>
              obtain ⟨d, rfl⟩ := h48 rfl
              rw [ifB_eq]
              split
              · refine s60_call hm ?_
                unfold s60
                exact pur (bin_neq _ _ _) (hJ3 _ _ ⟨rfl, fun _ _ => ⟨_, rfl⟩⟩)
              · rename_i hd
                exact hJ3 _ _ ⟨rfl, fun _ h => absurd (by simpa using h) hd⟩
        · rw [ifB_eq]
          cases c with
          | true => rw [if_neg (by simp)]; exact hJ2 _ _ ⟨rfl, fun h => by cases h⟩
          | false =>
            rw [if_pos rfl]
            refine at_ hy (s60_call hm ?_)
            unfold s60
            exact pur (bin_neq _ _ _) (hJ2 _ _ ⟨rfl, fun _ => ⟨_, rfl⟩⟩)
      · refine ifYes _ _ (at_ hy (pur (bin_eql _ _ _) (hJ1 _ _ ⟨rfl, _, rfl⟩)))
    · rw [decide_eq_false (by omega : ¬ (i : Int) < (fs.length : Int))]
      refine join1 (fun a w' => w = w' ∧ a = undef) ?_ fun J1 hJ1 => ifNo _ _ (hJ1 _ _ ⟨rfl, rfl⟩)
      rintro _ _ ⟨rfl, rfl⟩
      refine join1 (fun a w' => w = w' ∧ a = undef) ?_ fun J2 hJ2 => ifU _ _ _ (hJ2 _ _ ⟨rfl, rfl⟩)
      rintro _ _ ⟨rfl, rfl⟩
      refine join1 (fun a w' => w = w' ∧ a = undef) ?_ fun J3 hJ3 => ifU _ _ _ (hJ3 _ _ ⟨rfl, rfl⟩)
      rintro _ _ ⟨rfl, rfl⟩
      refine join1 (fun a w' => w = w' ∧ a = undef) ?_ fun J4 hJ4 => ifU _ _ _ (hJ4 _ _ ⟨rfl, rfl⟩)
      rintro _ _ ⟨rfl, rfl⟩
      refine join1 (fun a w' => w = w' ∧ a = undef) ?_ fun J5 hJ5 => ifNo _ _ (hJ5 _ _ ⟨rfl, rfl⟩)
      rintro _ _ ⟨rfl, rfl⟩
      exact pur (pick_b _ _ _) (by rw [if_neg (by simp)]; exact fin false)
  · refine loop2 (σ := Nat × Nat) (fun s a b w' => w = w' ∧ a = .int .i64 (s.1 : Int) ∧ b = .int .i64 (s.2 : Int) ∧ s.1 ≤ s.2 ∧ s.2 ≤ fs.length ∧ (∀ j y, j < s.1 → fs[j]? = some y → y < x) ∧ (∀ j y, s.2 ≤ j → fs[j]? = some y → x ≤ y)) (fun s => s.2 - s.1) (0, fs.length)
      ⟨rfl, rfl, rfl, Nat.zero_le _, Nat.le_refl _, fun _ _ h => by simp at h, fun j y hj hy => by have := (List.getElem?_eq_some_iff.1 hy).1; simp only at hj; omega⟩ ?_
    rintro ⟨i, j⟩ _ _ _ ⟨rfl, rfl, rfl, hij, hj, h1, h2⟩ L6 hL6
    simp only at hij hj h1 h2 hL6 ⊢
    refine pur (bin_lss _ _ _) (condD (fun hlt => ?_) (fun hge => hJ0 _ _ ⟨rfl, i, rfl, by omega, h1, fun y hy => h2 i y (by omega) hy⟩))
    obtain ⟨y, hy⟩ := getN (xs := fs) (i := (i + j) / 2) (by omega)
    refine pur (add64 (c := ((i + j : Nat) : Int)) (by omega) (by omega) (by omega)) (pur (conv64u (by omega) (by omega)) (pur (v := .int .u64 (((i + j) / 2 : Nat) : Int)) ((bin_shr (by decide) (by decide)).trans ?_) (pur (conv64 (by omega) (by omega)) (at_ hy (cless (condB (fun hc => ?_) (fun hc => ?_)))))))
    · have := shrN (i + j) 1
      rw [Nat.pow_one] at this
      rw [← this]; rfl
    · have hyx := (ltE_iff _ _).1 hc
      refine pur (add64 (c := (((i + j) / 2 + 1 : Nat) : Int)) (by omega) (by omega) (by omega)) (hL6 ((i + j) / 2 + 1, j) _ _ _ ⟨rfl, rfl, rfl, by simp only; omega, hj, fun k z hk hz => ?_, h2⟩ (by simp only; omega))
      simp only at hk
      rcases Nat.lt_or_eq_of_le (show k ≤ (i + j) / 2 by omega) with hlt' | rfl
      · have hkl := (List.getElem?_eq_some_iff.1 hz)
        have hyl := (List.getElem?_eq_some_iff.1 hy)
        have := List.pairwise_iff_getElem.1 hf k ((i + j) / 2) hkl.1 hyl.1 hlt'
        rw [hkl.2, hyl.2] at this; omega
      · rw [hy] at hz; cases hz; exact hyx
    · have hyx := (ltE_not _ _).1 hc
      refine hL6 (i, (i + j) / 2) _ _ _ ⟨rfl, rfl, rfl, by simp only; omega, by simp only; omega, h1, fun k z hk hz => ?_⟩ (by simp only; omega)
      simp only at hk
      rcases Nat.lt_or_eq_of_le hk with hlt' | rfl
      · have hkl := (List.getElem?_eq_some_iff.1 hz)
        have hyl := (List.getElem?_eq_some_iff.1 hy)
        have := List.pairwise_iff_getElem.1 hf ((i + j) / 2) k hyl.1 hkl.1 hlt'
        rw [hkl.2, hyl.2] at this; omega
      · rw [hy] at hz; cases hz; exact hyx
/-- the least of numbers that rise that is not below one -/
def stripeV (fs : List Nat) (x : Nat) : Value := match fs.find? (fun y => decide (x ≤ y)) with
  | some y => .tuple [encE y, .bool true].toArray
  | none => .tuple [.int .u64 0, .bool false].toArray
theorem find_at {fs : List Nat} {x i : Nat} (h1 : ∀ j y, j < i → fs[j]? = some y → y < x) (h2 : ∀ y, fs[i]? = some y → x ≤ y) : fs.find? (fun y => decide (x ≤ y)) = fs[i]? := by
  induction fs generalizing i with
  | nil => simp
  | cons a fs ih =>
    rw [List.find?_cons]
    cases i with
    | zero =>
      have := h2 a rfl
      simp [this]
    | succ i =>
      have := h1 0 a (by omega) rfl
      rw [decide_eq_false (by omega)]
      simp only [List.getElem?_cons_succ]
      exact ih (fun j y hj hy => h1 (j + 1) y (by omega) (by simpa using hy)) fun y hy => h2 y (by simpa using hy)
namespace ListF
variable {w w' : World} {g : Nat} {m : List (Int × Nat)} {last : Int} {F S : Nat → Prop} {K : Value → World → Prop}
theorem stripe (h : ListF w g m last F) (hml : m.length ≤ 1000000) (x : Nat) (hK : ∀ w' fs, Rise fs (fun x => x ∈ m.map (·.2)) → Ext No w w' → K (stripeV fs x) w') : CallS Try.prog 38 #[.pointer (some ⟨g, 0, none⟩), encE x] K w := by
  refine s38_call hm ?_
  unfold s38
  refine h.all hml fun v w1 fs hfs ho e1 => ?_
  have hl := hfs.len (l := m.map (·.2)) fun x hx => hx
  simp at hl
  refine c46 (Sl.own ho) hfs.1 (by omega) fun i c hi h1 h2 => pur (extract_0 _ _) (pur (extract_1 _ _ _) (pur (Sl.own ho).len (pur (bin_eql _ _ _) (condD (fun he => ?_) (fun hne => ?_)))))
  · have := hK w1 fs hfs e1
    unfold stripeV at this
    rw [find_at h1 h2, List.getElem?_eq_none (by omega)] at this
    exact this
  · obtain ⟨y, hy⟩ := getN (xs := fs) (i := i) (by omega)
    obtain ⟨ad, q1, q2, q3⟩ := sl_idx1 (Sl.own ho) (i := i) (v := encE y) (by simp [hy]) .i64
    refine pur q1 (SG.load (S := No) (q3 w1 (Sl.own ho)) ?_)
    have := hK w1 fs hfs e1
    unfold stripeV at this
    rw [find_at h1 h2, hy] at this
    exact this
theorem Stripe (h : ListF w g m last F) (hml : m.length ≤ 1000000) (x : Nat) (hK : ∀ w' fs, Rise fs (fun x => x ∈ m.map (·.2)) → Ext No w w' → K (stripeV fs x) w') : CallS Try.prog 23 #[.pointer (some ⟨g, 0, none⟩), encE x] K w := by
  refine s23_call hm ?_
  unfold s23
  refine h.stripe hml x fun w1 fs hfs e1 => ?_
  have := hK w1 fs hfs e1
  unfold stripeV at this ⊢
  cases hf : fs.find? (fun y => decide (x ≤ y)) with
  | none => rw [hf] at this; exact pur (extract_0 _ _) (pur (extract_1 _ _ _) this)
  | some y => rw [hf] at this; exact pur (extract_0 _ _) (pur (extract_1 _ _ _) this)
theorem Oldest (h : ListF w g m last F) (hml : m.length ≤ 1000000) (hK : ∀ w' fs, Rise fs (fun x => x ∈ m.map (·.2)) → Ext No w w' → K (stripeV fs 0) w') : CallS Try.prog 29 #[.pointer (some ⟨g, 0, none⟩)] K w := by
  refine s29_call hm ?_
  unfold s29
  refine h.stripe hml 0 fun w1 fs hfs e1 => ?_
  have := hK w1 fs hfs e1
  unfold stripeV at this ⊢
  cases hf : fs.find? (fun y => decide (0 ≤ y)) with
  | none => rw [hf] at this; exact pur (extract_0 _ _) (pur (extract_1 _ _ _) this)
  | some y => rw [hf] at this; exact pur (extract_0 _ _) (pur (extract_1 _ _ _) this)
end ListF
end Go.Proofs.Ytkladgpaicolnaa
/-! Rules: rows of the call's own lie apart; a cell of a row is written. No program stands here. -/
namespace SG
open Go Go.RowKit Go.Lib
set_option linter.unusedSimpArgs false
set_option linter.unusedVariables false

theorem Own.ne_blk {w : World} {base : Nat} {e t : TypeId} {size n g : Nat} {v : Value} {xs cs : List Value} (h : w.ownsRow base e size v n xs) (hb : Blk w g t cs) (hne : e ≠ t) : v.ownBlock ≠ some g := by
  rcases h.2 with ⟨rfl, _⟩ | ⟨g', cap, cur, rfl, _, hh, _⟩
  · simp [Value.ownBlock]
  · intro he
    have hg : g' = g := by simpa [Value.ownBlock] using he
    subst hg
    unfold Blk at hb
    rw [hh] at hb
    injection hb with hb
    injection hb with _ hb
    exact hne hb
theorem Own.ne_own {w : World} {base base' : Nat} {e e' : TypeId} {size size' n n' : Nat} {v v' : Value} {xs xs' : List Value} (h : w.ownsRow base e size v n xs) (h' : w.ownsRow base' e' size' v' n' xs') (hne : e ≠ e') :
    ∀ g, v.ownBlock = some g → v'.ownBlock ≠ some g := by
  intro g hg hg'
  rcases h.2 with ⟨rfl, _⟩ | ⟨g1, cap, cur, rfl, _, hh, _⟩
  · simp [Value.ownBlock] at hg
  · rcases h'.2 with ⟨rfl, _⟩ | ⟨g2, cap2, cur2, rfl, _, hh2, _⟩
    · simp [Value.ownBlock] at hg'
    · simp only [Value.ownBlock, Option.some.injEq] at hg hg'
      subst hg
      subst hg'
      rw [hh] at hh2
      injection hh2 with hh2
      injection hh2 with _ hh2
      exact hne hh2
theorem Own.one {w : World} {base : Nat} {e : TypeId} {size n : Nat} {v : Value} {xs : List Value} (h : w.ownsRow base e size v n xs) : v.oneCell' = true := by
  rcases h.2 with ⟨rfl, _⟩ | ⟨g', cap, cur, rfl, _⟩ <;> rfl
/-- a cell of a row of one-cell elements: its address, its content; and it is written -/
theorem Own.at1 {w : World} {base : Nat} {e : TypeId} {n : Nat} {v : Value} {xs : List Value} (h : w.ownsRow base e 1 v n xs) {i : Nat} {x : Value} (hx : xs[i]? = some x) (k : IntKind) :
    ∃ g, v.ownBlock = some g ∧ indexAddrV 1 v (.int k (i : Int)) = some (.pointer (some ⟨g, i, none⟩)) ∧ w.cell? ⟨g, i, none⟩ = some x ∧
      ∀ (y : Value) {K : World → Prop}, y.oneCell' = true → (∀ w', w'.ownsRow base e 1 v n (xs.set i y) → Ext (At1 g) w w' → w'.heap.size = w.heap.size → K w') → StoreC (.pointer (some ⟨g, i, none⟩)) y K w := by
  have hl : xs.length = n := by have := h.1; omega
  have hi : i < xs.length := (List.getElem?_eq_some_iff.1 hx).1
  rcases h.2 with ⟨rfl, rfl⟩ | ⟨g, cap, cur, rfl, hb, hg, hnc, hcm, hcs, htake⟩
  · omega
  · rw [Nat.mul_one] at htake
    have hbk : Blk w g e (xs ++ cur.toList.drop n) := by
      unfold Blk
      rw [← htake, List.take_append_drop]
      simpa using hg
    refine ⟨g, rfl, ?_, ?_, fun y K hy hK => ?_⟩
    · rw [index_sl ⟨by omega, by omega⟩, Addr.add_mk]; simp
    · rw [hbk.cell, List.getElem?_append_left hi, hx]
    · refine storeB hbk (by simp; omega) hy fun w' b e' z => hK w' ⟨by simp; omega, .inr ⟨g, cap, ((xs ++ cur.toList.drop n).set i y).toArray, rfl, hb, b, hnc, hcm, ?_, ?_⟩⟩ e' z
      · simp; simp at hcs; omega
      · rw [List.toList_toArray, Nat.mul_one, List.set_append_left _ _ hi, List.take_append_of_le_length (by simp; omega), List.take_of_length_le (by simp; omega)]
end SG
/-! Snaps: numbers that are held, by the document. -/
namespace Go.Proofs.Ytkladgpaicolnaa
open Go SG Go.RowKit Go.Lib
set_option linter.unusedVariables false
set_option maxRecDepth 4000
set_option linter.unusedSimpArgs false

theorem T27 : ElemT Try.prog 27 4 1 1 (.bool false) := ⟨Try.underlying27, by kernel_rfl, rfl, by decide, by decide⟩
theorem encs_one (l : List El) : ∀ u ∈ l.map encE, u.oneCell' = true := by
  intro u hu
  simp only [List.mem_map] at hu
  obtain ⟨n, _, rfl⟩ := hu
  rfl
/-- a number put into a list that rises -/
theorem rise_ins {L : List Nat} {k f : Nat} (h : L.Pairwise (· < ·)) (h1 : ∀ j x, j < k → L[j]? = some x → x < f) (h2 : ∀ x, L[k]? = some x → f < x) : (L.take k ++ [f] ++ L.drop k).Pairwise (· < ·) := by
  have hlo : ∀ x ∈ L.take k, x < f := fun x hx => by
    obtain ⟨j, hj⟩ := List.getElem?_of_mem hx
    rw [List.getElem?_take] at hj
    split at hj
    · exact h1 j x (by assumption) hj
    · cases hj
  have hhi : ∀ x ∈ L.drop k, f < x := fun x hx => by
    obtain ⟨j, hj⟩ := List.getElem?_of_mem hx
    rw [List.getElem?_drop] at hj
    have hl := (List.getElem?_eq_some_iff.1 hj).1
    obtain ⟨y, hy⟩ := getN (xs := L) (i := k) (by omega)
    have h3 := h2 y hy
    rcases Nat.eq_zero_or_pos j with rfl | h0
    · rw [Nat.add_zero, hy] at hj; cases hj; exact h3
    · have := List.pairwise_iff_getElem.1 h k (k + j) (by omega) hl (by omega)
      rw [(List.getElem?_eq_some_iff.1 hy).2, (List.getElem?_eq_some_iff.1 hj).2] at this
      omega
  have hp := h
  rw [← List.take_append_drop k L, List.pairwise_append] at hp
  rw [List.pairwise_append, List.pairwise_append]
  refine ⟨⟨hp.1, List.pairwise_singleton _ _, fun a ha b hb => ?_⟩, hp.2.1, fun a ha b hb => ?_⟩
  · simp at hb; subst hb; exact hlo a ha
  · rcases List.mem_append.1 ha with ha | ha
    · exact hp.2.2 a ha b hb
    · simp at ha; subst ha; exact hhi b hb

set_option maxHeartbeats 1000000 in
/-- With -/
theorem c34 {w : World} {v : Value} {fs : List Nat} (hv : Sl w v fs.length 1 (fs.map encE)) (hf : fs.Pairwise (· < ·)) (hl : fs.length ≤ 1099511627776) {n : Nat} {K : Value → World → Prop}
    (hK : ∀ v' w' fs', Rise fs' (fun x => x ∈ fs ∨ x = n) → fs'.length ≤ fs.length + 1 → Sl w' v' fs'.length 1 (fs'.map encE) → (∀ b, v'.ownBlock = some b → v.ownBlock = some b ∨ w.heap.size ≤ b) → Ext No w w' → K v' w') : CallS Try.prog 34 #[v, encE n] K w := by
  refine s34_call hm ?_
  unfold s34
  have at_ : ∀ {i : Nat} {y : Nat}, fs[i]? = some y → ∀ {K' : Value → World → Prop}, K' (encE y) w → PureS (indexAddrV 1 v (.int .i64 (i : Int))) fun t => LoadC t K' w := fun {i y} hy {K'} hk => by
    obtain ⟨ad, h1, h2, h3⟩ := sl_idx1 hv (i := i) (v := encE y) (by simp [hy]) .i64
    exact pur h1 (SG.load (S := No) (h3 w hv) hk)
  refine join1 (fun a w' => w = w' ∧ ∃ k : Nat, a = .int .i64 (k : Int) ∧ k ≤ fs.length ∧ (∀ j y, j < k → fs[j]? = some y → y < n) ∧ (∀ y, fs[k]? = some y → n ≤ y)) ?_ fun J0 hJ0 => ?_
  · rintro _ _ ⟨rfl, k, rfl, hk, hlo, hhi⟩
    refine pur hv.len (pur (bin_lss _ _ _) ?_)
    have ins : (∀ y, fs[k]? = some y → n < y) → RunS Try.prog (Instr.buildSlice 31 0 [].toArray) (fun t34 w => PureS (sliceV 1 v none (some (.int .i64 (k : Int)))) fun t37 => RunS Try.prog (Builtin.append_ #[31, 31] 31 [t34, t37].toArray) (fun t38 w =>
        RunS Try.prog (Instr.buildSlice 31 1 [(0, encE n)].toArray) (fun t41 w => RunS Try.prog (Builtin.append_ #[31, 31] 31 [t38, t41].toArray) (fun t42 w => PureS (sliceV 1 v (some (.int .i64 (k : Int))) none) fun t46 =>
        RunS Try.prog (Builtin.append_ #[31, 31] 31 [t42, t46].toArray) (fun t47 w => K t47 w) w) w) w) w) w := fun hhi2 => by
      refine build0 TCE fun w1 b1 e1 z1 => ?_
      obtain ⟨v1, p1, p2, p3⟩ := sl_take (hv.no e1) hk .i64
      refine pur p1 (append_sl TCE 31 (base := w.heap.size) (b1.owns rfl (Nat.le_refl _) (by omega)) p2 (fun u hu => encs_one fs u (List.mem_of_mem_take hu)) (by omega) (by omega) e1.size fun v2 w2 ho2 hg2 _ => ?_)
      have e2 : Ext No w w2 := e1.fresh (Ext.grown (S := At1 w.heap.size) hg2 fun b hb => by simpa [Value.ownBlock, At1, eq_comm] using hb) fun b hb => .inr (by rw [show b = w.heap.size from hb]; exact Nat.le_refl _)
      refine build1 TCE rfl fun w3 b3 e3 z3 => ?_
      have ho3 := owns_ext ho2 e3 fun _ _ hh => hh
      refine append_sl TCE 31 ho3 (b3.sl (n := 1) (c := 1) (size := 1) rfl (Nat.le_refl _)) (by simp [Value.cells, encE, Value.oneCell']) (by omega) (by omega) (e2.trans e3).size fun v4 w4 ho4 hg4 _ => ?_
      have e4 : Ext No w w4 := (e2.trans e3).fresh (Ext.grown (S := fun b => v2.ownBlock = some b) hg4 fun b hb => hb) fun b hb => .inr (ho3.lt b hb).1
      obtain ⟨v5, q1, q2, q3⟩ := sl_drop (hv.no e4) hk .i64
      refine pur q1 (append_sl TCE 31 ho4 q2 (fun u hu => encs_one fs u (List.mem_of_mem_drop hu)) (by omega) (by omega) e4.size fun v6 w6 ho6 hg6 _ => ?_)
      have e6 : Ext No w w6 := e4.fresh (Ext.grown (S := fun b => v4.ownBlock = some b) hg6 fun b hb => hb) fun b hb => .inr (ho4.lt b hb).1
      have hlen : (fs.take k ++ [n] ++ fs.drop k).length = 0 + k + 1 + (fs.length - k) := by simp; omega
      refine hK v6 w6 (fs.take k ++ [n] ++ fs.drop k) ⟨rise_ins hf hlo hhi2, fun y => ?_⟩ (by rw [hlen]; omega) ?_ (fun b hb => .inr (ho6.lt b hb).1) e6
      · have : y ∈ fs ↔ y ∈ fs.take k ∨ y ∈ fs.drop k := by rw [← List.mem_append, List.take_append_drop]
        show y ∈ fs.take k ++ [n] ++ fs.drop k ↔ y ∈ fs ∨ y = n
        rw [this]
        simp only [List.mem_append, List.mem_singleton]
        constructor
        · rintro ((h | h) | h)
          · exact .inl (.inl h)
          · exact .inr h
          · exact .inl (.inr h)
        · rintro ((h | h) | h)
          · exact .inl (.inl h)
          · exact .inr h
          · exact .inl (.inr h)
      · rw [hlen]
        have := Sl.own ho6
        simpa [Value.cells, encE] using this
    refine join1 (fun t w' => w = w' ∧ (k < fs.length → ∃ y, fs[k]? = some y ∧ t = .bool (decide ((y : Int) = (n : Int))))) ?_ fun J1 hJ1 => ?_
    · rintro t _ ⟨rfl, ht⟩
      by_cases hlt : k < fs.length
      · obtain ⟨y, hy, rfl⟩ := ht hlt
        refine pur (v := .bool (decide ((y : Int) = (n : Int)))) ((pick_b _ _ _).trans (by rw [if_pos (by simpa using hlt)])) (condD (fun he => ?_) (fun hne => ins fun z hz => ?_))
        · have hyn : y = n := by omega
          subst hyn
          exact hK v w fs ⟨hf, fun x => ⟨.inl, fun h => h.elim id fun h => h ▸ List.mem_of_getElem? hy⟩⟩ (by omega) hv (fun b hb => .inl hb) (Ext.refl _ _)
        · rw [hy] at hz; cases hz
          have := hhi y hy
          omega
      · refine pur (v := .bool false) ((pick_b _ _ _).trans (by rw [if_neg (by simpa using hlt)])) (condF rfl (ins fun z hz => ?_))
        have := (List.getElem?_eq_some_iff.1 hz).1; omega
    · rw [ifB_eq]
      by_cases hlt : k < fs.length
      · rw [if_pos (by simpa using hlt)]
        obtain ⟨y, hy⟩ := getN (xs := fs) hlt
        exact at_ hy (pur (bin_eql _ _ _) (hJ1 _ _ ⟨rfl, fun _ => ⟨y, hy, rfl⟩⟩))
      · rw [if_neg (by simpa using hlt)]
        exact hJ1 _ _ ⟨rfl, fun h => absurd h hlt⟩
  · refine loop1 (σ := Nat) (fun k a w' => w = w' ∧ a = .int .i64 (k : Int) ∧ k ≤ fs.length ∧ (∀ j y, j < k → fs[j]? = some y → y < n)) (fun k => fs.length - k) 0 ⟨rfl, rfl, by omega, fun _ _ h => by omega⟩ ?_
    rintro k _ _ ⟨rfl, rfl, hk, hlo⟩ L2 hL2
    refine pur hv.len (pur (bin_lss _ _ _) ?_)
    refine join1 (fun t w' => w = w' ∧ (k < fs.length → ∃ y, fs[k]? = some y ∧ t = .bool (decide ((y : Int) < (n : Int))))) ?_ fun J3 hJ3 => ?_
    · rintro t _ ⟨rfl, ht⟩
      by_cases hlt : k < fs.length
      · obtain ⟨y, hy, rfl⟩ := ht hlt
        refine pur (v := .bool (decide ((y : Int) < (n : Int)))) ((pick_b _ _ _).trans (by rw [if_pos (by simpa using hlt)])) (condD (fun he => ?_) (fun hne => hJ0 _ _ ⟨rfl, k, rfl, hk, hlo, fun z hz => by rw [hy] at hz; cases hz; omega⟩))
        refine pur (add64 (c := ((k + 1 : Nat) : Int)) (by omega) (by omega) (by omega)) (hL2 (k + 1) _ _ ⟨rfl, rfl, by omega, fun j z hj hz => ?_⟩ (by omega))
        by_cases hjk : j = k
        · subst hjk; rw [hy] at hz; cases hz; omega
        · exact hlo j z (by omega) hz
      · exact pur (v := .bool false) ((pick_b _ _ _).trans (by rw [if_neg (by simpa using hlt)])) (condF rfl (hJ0 _ _ ⟨rfl, k, rfl, hk, hlo, fun z hz => by have := (List.getElem?_eq_some_iff.1 hz).1; omega⟩))
    · rw [ifB_eq]
      by_cases hlt : k < fs.length
      · rw [if_pos (by simpa using hlt)]
        obtain ⟨y, hy⟩ := getN (xs := fs) hlt
        exact at_ hy (pur (bin_lss _ _ _) (hJ3 _ _ ⟨rfl, fun _ => ⟨y, hy, rfl⟩⟩))
      · rw [if_neg (by simpa using hlt)]
        exact hJ3 _ _ ⟨rfl, fun h => absurd h hlt⟩
end Go.Proofs.Ytkladgpaicolnaa
/-! Snaps: the document's list of held numbers. -/
namespace Go.Proofs.Ytkladgpaicolnaa
open Go SG Go.RowKit Go.Lib
set_option linter.unusedVariables false
set_option maxRecDepth 4000
set_option linter.unusedSimpArgs false

/-! ### which handles hold what -/
def mOf : Nat → List (Nat × Bool) → List (Int × Nat)
  | _, [] => []
  | k, (v, c) :: r => if c then (((k + 1 : Nat) : Int), v) :: mOf (k + 1) r else mOf (k + 1) r
theorem mOf_append (k : Nat) : ∀ (a b : List (Nat × Bool)), mOf k (a ++ b) = mOf k a ++ mOf (k + a.length) b
  | [], b => by simp [mOf]
  | (v, c) :: a, b => by
    have ih := mOf_append (k + 1) a b
    simp only [List.cons_append, mOf, List.length_cons]
    rw [ih, show k + 1 + a.length = k + (a.length + 1) by omega]
    split <;> simp
theorem mOf_key {k : Nat} : ∀ {xs : List (Nat × Bool)} {p : Int × Nat}, p ∈ mOf k xs → (k : Int) < p.1 ∧ p.1 ≤ ((k + xs.length : Nat) : Int)
  | [], p, h => by simp [mOf] at h
  | (v, c) :: xs, p, h => by
    simp only [mOf] at h
    have ih : p ∈ mOf (k + 1) xs → (k : Int) < p.1 ∧ p.1 ≤ ((k + ((v, c) :: xs).length : Nat) : Int) := fun h => by
      have := mOf_key (k := k + 1) h
      simp only [List.length_cons]; omega
    split at h
    · rcases List.mem_cons.1 h with rfl | h
      · simp only [List.length_cons]; omega
      · exact ih h
    · exact ih h
theorem mOf_keys (k : Nat) : ∀ (xs : List (Nat × Bool)), Keys (mOf k xs)
  | [] => by simp [mOf, Keys]
  | (v, c) :: xs => by
    have ih := mOf_keys (k + 1) xs
    simp only [mOf]
    split
    · refine List.nodup_cons.2 ⟨fun hm' => ?_, ih⟩
      obtain ⟨p, hp, hpe⟩ := List.mem_map.1 hm'
      have h1 := (mOf_key hp).1
      have h2 : p.1 = ((k + 1 : Nat) : Int) := hpe
      omega
    · exact ih
theorem mOf_get (k : Nat) : ∀ (xs : List (Nat × Bool)) (i : Nat), mget (mOf k xs) (((k + 1 + i : Nat)) : Int) = (xs[i]?).bind fun p => if p.2 then some p.1 else none
  | [], i => by simp [mOf, mget]
  | (v, c) :: xs, 0 => by
    simp only [mOf, List.getElem?_cons_zero, Option.bind_some]
    split
    · rw [mget_cons, if_pos (by simp)]
    · refine mget_none.2 fun hm' => ?_
      obtain ⟨p, hp, hpe⟩ := List.mem_map.1 hm'
      have h1 := (mOf_key hp).1
      have h2 : p.1 = ((k + 1 + 0 : Nat) : Int) := hpe
      omega
  | (v, c) :: xs, i + 1 => by
    have ih := mOf_get (k + 1) xs i
    simp only [List.getElem?_cons_succ]
    rw [show k + 1 + (i + 1) = k + 1 + 1 + i by omega, ← ih]
    simp only [mOf]
    split
    · rw [mget_cons, if_neg (by simp only; omega)]
    · rfl
theorem mOf_out {k : Nat} {xs : List (Nat × Bool)} {h : Int} (hh : h ≤ k ∨ ((k + xs.length : Nat) : Int) < h) : mget (mOf k xs) h = none := mget_none.2 fun hm' => by
  obtain ⟨p, hp, hpe⟩ := List.mem_map.1 hm'
  have h1 := mOf_key hp
  have h2 : p.1 = h := hpe
  omega
/-- a handle lets go -/
theorem mOf_free (k : Nat) : ∀ (xs : List (Nat × Bool)) (i : Nat) (v : Nat), xs[i]? = some (v, true) → mOf k (xs.set i (v, false)) = mdel (mOf k xs) (((k + 1 + i : Nat)) : Int)
  | [], i, v, h => by simp at h
  | (u, c) :: xs, 0, v, h => by
    simp only [List.getElem?_cons_zero, Option.some.injEq, Prod.mk.injEq] at h
    obtain ⟨rfl, rfl⟩ := h
    simp only [List.set_cons_zero, mOf, if_true]
    rw [if_neg (by simp)]
    have : mdel ((((k + 1 : Nat) : Int), u) :: mOf (k + 1) xs) (((k + 1 + 0 : Nat)) : Int) = mdel (mOf (k + 1) xs) (((k + 1 + 0 : Nat)) : Int) := by simp [mdel]
    rw [this, mdel_out fun hm' => ?_]
    obtain ⟨p, hp, hpe⟩ := List.mem_map.1 hm'
    have h1 := (mOf_key hp).1
    have h2 : p.1 = ((k + 1 + 0 : Nat) : Int) := hpe
    omega
  | (u, c) :: xs, i + 1, v, h => by
    have ih := mOf_free (k + 1) xs i v (by simpa using h)
    simp only [List.set_cons_succ, mOf]
    rw [show k + 1 + (i + 1) = k + 1 + 1 + i by omega, ih]
    split
    · have hne : ((k + 1 : Nat) : Int) ≠ ((k + 1 + 1 + i : Nat) : Int) := by omega
      unfold mdel
      rw [List.filter_cons, if_pos (by simpa using hne)]
    · rfl
theorem mOf_vals (k : Nat) : ∀ (xs : List (Nat × Bool)), (mOf k xs).map (·.2) = (xs.filter (·.2)).map (·.1)
  | [] => by simp [mOf]
  | (v, c) :: xs => by
    have ih := mOf_vals (k + 1) xs
    cases c <;> simp [mOf, ih]
theorem mOf_len (k : Nat) (xs : List (Nat × Bool)) : (mOf k xs).length = (xs.filter (·.2)).length := by
  have := congrArg List.length (mOf_vals k xs)
  simpa using this

/-! ### the document's list -/
def bools (l : List (Nat × Bool)) : List Value := l.map fun p => .bool p.2
def seqs (l : List (Nat × Bool)) : List Value := (l.map (·.1)).map encE
def RefL (w : World) (g : Nat) (xs : List (Nat × Bool)) (F : Nat → Prop) : Prop :=
  ∃ sv hv, Blk w g 56 [sv, hv] ∧ w.ownsRow 0 30 1 sv xs.length (seqs xs) ∧ w.ownsRow 0 4 1 hv xs.length (bools xs) ∧ ∀ b, F b ↔ b = g ∨ sv.ownBlock = some b ∨ hv.ownBlock = some b
namespace RefL
variable {w w' : World} {g : Nat} {xs : List (Nat × Bool)} {F S : Nat → Prop} {K : Value → World → Prop}
theorem lt (h : RefL w g xs F) {b : Nat} (hb : F b) : b < w.heap.size := by
  obtain ⟨sv, hv, h1, h2, h3, h4⟩ := h
  rcases (h4 b).1 hb with rfl | hb | hb
  · exact h1.lt
  · exact (h2.lt b hb).2
  · exact (h3.lt b hb).2
theorem ext (h : RefL w g xs F) (e : Ext S w w') (hn : ∀ b, F b → ¬ S b) : RefL w' g xs F := by
  obtain ⟨sv, hv, h1, h2, h3, h4⟩ := h
  exact ⟨sv, hv, h1.ext e (hn g ((h4 g).2 (.inl rfl))), owns_ext h2 e fun b hb => hn b ((h4 b).2 (.inr (.inl hb))), owns_ext h3 e fun b hb => hn b ((h4 b).2 (.inr (.inr hb))), h4⟩
theorem no (h : RefL w g xs F) (e : Ext No w w') : RefL w' g xs F := h.ext e fun _ _ hh => hh
/-- Len -/
theorem len (h : RefL w g xs F) (hl : xs.length ≤ 4398046511104) (hK : K (.int .i64 (((xs.filter (·.2)).length : Nat) : Int)) w) : CallS Try.prog 31 #[.pointer (some ⟨g, 0, none⟩)] K w := by
  obtain ⟨sv, hv, h1, h2, h3, h4⟩ := h
  refine s31_call hm ?_
  unfold s31
  refine join1 (fun v w' => w = w' ∧ v = .int .i64 (((xs.filter (·.2)).length : Nat) : Int)) (fun v w' ⟨h, hv⟩ => by subst h hv; exact hK) fun J0 hJ0 => ?_
  refine loop2 (σ := Nat) (fun i a b w' => w = w' ∧ a = .int .i64 ((((xs.take i).filter (·.2)).length : Nat) : Int) ∧ b = .int .i64 (i : Int) ∧ i ≤ xs.length) (fun i => xs.length - i) 0 ⟨rfl, rfl, rfl, by omega⟩ ?_
  rintro i _ _ _ ⟨rfl, rfl, rfl, hi⟩ L1 hL1
  refine pur (nil_ptr _) (pur (field_ptr _ _ _) (loadB h1 (v := hv) rfl (pur (Sl.own h3).len (pur (bin_lss _ _ _) (condD (fun hlt => ?_) (fun hge => hJ0 _ _ ⟨rfl, by rw [List.take_of_length_le (by omega)]⟩))))))
  obtain ⟨p, hp⟩ := getN (xs := xs) (i := i) (by omega)
  have hle := List.length_filter_le (fun p : Nat × Bool => p.2) (xs.take i)
  rw [List.length_take] at hle
  have htk : (xs.take (i + 1)).filter (·.2) = (xs.take i).filter (·.2) ++ [p].filter (·.2) := by rw [List.take_add_one, hp]; simp [List.filter_append]
  refine join1 (fun v w' => w = w' ∧ v = .int .i64 ((((xs.take (i + 1)).filter (·.2)).length : Nat) : Int)) ?_ fun J2 hJ2 => ?_
  · rintro _ _ ⟨rfl, rfl⟩
    exact pur (add64 (c := ((i + 1 : Nat) : Int)) (by omega) (by omega) (by omega)) (hL1 (i + 1) _ _ _ ⟨rfl, rfl, rfl, by omega⟩ (by omega))
  · obtain ⟨gh, q1, q2, q3, _⟩ := Own.at1 h3 (i := i) (x := .bool p.2) (by simp [bools, hp]) .i64
    refine pur (nil_ptr _) (pur (field_ptr _ _ _) (loadB h1 (v := hv) rfl (pur q2 (SG.load (S := No) q3 (condB (fun hc => ?_) (fun hc => ?_))))))
    · exact pur (add64 (c := ((((xs.take i).filter (·.2)).length + 1 : Nat) : Int)) (by omega) (by omega) (by omega)) (hJ2 _ _ ⟨rfl, by rw [htk]; simp [hc]⟩)
    · exact hJ2 _ _ ⟨rfl, by rw [htk]; simp [hc]⟩
/-- holds -/
theorem holds (h : RefL w g xs F) (hl : xs.length ≤ 4398046511104) (x : Int) (hx : x ≤ 9223372036854775807) (hK : K (.bool (mget (mOf 0 xs) x).isSome) w) : CallS Try.prog 39 #[.pointer (some ⟨g, 0, none⟩), encH x] K w := by
  obtain ⟨sv, hv, h1, h2, h3, h4⟩ := h
  refine s39_call hm ?_
  unfold s39
  refine pur (bin_geq _ _ _) ?_
  by_cases h0 : 1 ≤ x
  · rw [decide_eq_true h0]
    refine join1 (fun t w' => w = w' ∧ t = .bool (decide (x ≤ (xs.length : Int)))) ?_ fun J0 hJ0 => ifYes _ _ (pur (nil_ptr _) (pur (field_ptr _ _ _) (loadB h1 (v := hv) rfl (pur (Sl.own h3).len (pur (bin_leq _ _ _) (hJ0 _ _ ⟨rfl, rfl⟩))))))
    rintro _ _ ⟨rfl, rfl⟩
    refine pur (pick_b _ _ _) ?_
    rw [if_pos rfl]
    by_cases h5 : x ≤ (xs.length : Int)
    · rw [decide_eq_true h5]
      obtain ⟨p, hp⟩ := getN (xs := xs) (i := (x - 1).toNat) (by omega)
      have hx1 : x - 1 = (((x - 1).toNat : Nat) : Int) := by omega
      have hg := mOf_get 0 xs (x - 1).toNat
      rw [show (((0 + 1 + (x - 1).toNat : Nat)) : Int) = x by omega, hp] at hg
      refine join1 (fun t w' => w = w' ∧ t = .bool p.2) ?_ fun J1 hJ1 => ?_
      · rintro _ _ ⟨rfl, rfl⟩
        refine pur (pick_b _ _ _) ?_
        rw [if_pos rfl]
        rw [hg, Option.bind_some] at hK
        cases hp2 : p.2 with
        | false => rw [if_neg (by simp [hp2])] at hK; exact hK
        | true => rw [if_pos hp2] at hK; exact hK
      · obtain ⟨gh, q1, q2, q3, _⟩ := Own.at1 h3 (i := (x - 1).toNat) (x := .bool p.2) (by unfold bools; rw [List.getElem?_map, hp]; rfl) .i64
        refine ifYes _ _ (pur (nil_ptr _) (pur (field_ptr _ _ _) (loadB h1 (v := hv) rfl (pur (sub64 hx1 (by omega) (by omega)) (pur q2 (SG.load (S := No) q3 (hJ1 _ _ ⟨rfl, rfl⟩)))))))
    · rw [decide_eq_false h5]
      refine join1 (fun t w' => w = w') ?_ fun J1 hJ1 => ifNo _ _ (hJ1 _ _ rfl)
      rintro _ _ rfl
      refine pur (pick_b _ _ _) ?_
      rw [mOf_out (.inr (by simp; omega))] at hK
      simpa using hK
  · rw [decide_eq_false h0]
    refine join1 (fun t w' => w = w') ?_ fun J0 hJ0 => ifNo _ _ (hJ0 _ _ rfl)
    rintro t _ rfl
    refine pur (pick_b _ _ _) ?_
    rw [if_neg (by simp)]
    refine join1 (fun t w' => w = w') ?_ fun J1 hJ1 => ifNo _ _ (hJ1 _ _ rfl)
    rintro t _ rfl
    refine pur (pick_b _ _ _) ?_
    rw [mOf_out (.inl (by omega))] at hK
    simpa using hK
/-- Free -/
theorem free (h : RefL w g xs F) (hl : xs.length ≤ 4398046511104) (x : Int) (hx : x ≤ 9223372036854775807) (h0 : mget (mOf 0 xs) x = none → K (.int .i64 220) w)
    (hK : ∀ v w', mget (mOf 0 xs) x = some v → (∃ xs', xs'.length = xs.length ∧ mOf 0 xs' = mdel (mOf 0 xs) x ∧ RefL w' g xs' F) → Ext F w w' → K (.int .i64 0) w') : CallS Try.prog 25 #[.pointer (some ⟨g, 0, none⟩), encH x] K w := by
  refine s25_call hm ?_
  unfold s25
  refine h.holds hl x hx (pur (not_b _) ?_)
  cases hg : mget (mOf 0 xs) x with
  | none => exact condT rfl (h0 hg)
  | some v =>
    refine condF rfl ?_
    obtain ⟨sv, hv, h1, h2, h3, h4⟩ := h
    have hin : 1 ≤ x ∧ x ≤ (xs.length : Int) := by
      refine Decidable.byContradiction fun hn => ?_
      rw [mOf_out (by simp; omega)] at hg; cases hg
    obtain ⟨p, hp⟩ := getN (xs := xs) (i := (x - 1).toNat) (by omega)
    have hx1 : x - 1 = (((x - 1).toNat : Nat) : Int) := by omega
    have hg' := mOf_get 0 xs (x - 1).toNat
    rw [show (((0 + 1 + (x - 1).toNat : Nat)) : Int) = x by omega, hp, hg] at hg'
    obtain ⟨pv, pc⟩ := p
    have hpc : pc = true ∧ pv = v := by cases pc <;> simp at hg' ⊢; exact hg'.symm
    obtain ⟨rfl, rfl⟩ := hpc
    obtain ⟨gh, q1, q2, q3, q4⟩ := Own.at1 h3 (i := (x - 1).toNat) (x := .bool true) (by unfold bools; rw [List.getElem?_map, hp]; rfl) .i64
    refine pur (nil_ptr _) (pur (field_ptr _ _ _) (loadB h1 (v := hv) rfl (pur (sub64 hx1 (by omega) (by omega)) (pur q2 (q4 (.bool false) rfl fun w1 ho1 e1 z1 => ?_)))))
    refine hK pv w1 hg ⟨xs.set (x - 1).toNat (pv, false), by simp, ?_, sv, hv, ?_, ?_, ?_, h4⟩ (e1.mono fun b hb _ => (h4 b).2 (.inr (.inr (by rw [show b = gh from hb]; exact q1))))
    · rw [mOf_free 0 xs _ pv hp, show (((0 + 1 + (x - 1).toNat : Nat)) : Int) = x by omega]
    · exact h1.ext e1 fun hh => Own.ne_blk h3 h1 (by decide) (by rw [q1, show g = gh from hh])
    · have := owns_ext h2 e1 fun b hb hh => Own.ne_own h3 h2 (by decide) b (by rw [q1, show b = gh from hh]) hb
      have hs : ((xs.set (x - 1).toNat (pv, false)).map (·.1)) = xs.map (·.1) := by
        apply List.ext_getElem?
        intro j
        rw [List.getElem?_map, List.getElem?_map, List.getElem?_set]
        by_cases hj : (x - 1).toNat = j
        · subst hj; rw [if_pos rfl, if_pos (by have := (List.getElem?_eq_some_iff.1 hp).1; omega), hp]; rfl
        · rw [if_neg hj]
      unfold seqs
      rw [hs, List.length_set]
      exact this
    · have : bools (xs.set (x - 1).toNat (pv, false)) = (bools xs).set (x - 1).toNat (.bool false) := by simp [bools, List.map_set]
      rw [this, List.length_set]
      exact ho1
/-- Seq -/
theorem seq (h : RefL w g xs F) (hl : xs.length ≤ 4398046511104) (x : Int) (hx : x ≤ 9223372036854775807) (h0 : mget (mOf 0 xs) x = none → K (.tuple [.int .u64 0, .int .i64 220].toArray) w)
    (hK : ∀ v, mget (mOf 0 xs) x = some v → K (.tuple [encE v, .int .i64 0].toArray) w) : CallS Try.prog 26 #[.pointer (some ⟨g, 0, none⟩), encH x] K w := by
  refine s26_call hm ?_
  unfold s26
  refine h.holds hl x hx (pur (not_b _) ?_)
  cases hg : mget (mOf 0 xs) x with
  | none => exact condT rfl (h0 hg)
  | some v =>
    refine condF rfl ?_
    obtain ⟨sv, hv, h1, h2, h3, h4⟩ := h
    have hin : 1 ≤ x ∧ x ≤ (xs.length : Int) := by
      refine Decidable.byContradiction fun hn => ?_
      rw [mOf_out (by simp; omega)] at hg; cases hg
    obtain ⟨p, hp⟩ := getN (xs := xs) (i := (x - 1).toNat) (by omega)
    have hx1 : x - 1 = (((x - 1).toNat : Nat) : Int) := by omega
    have hg' := mOf_get 0 xs (x - 1).toNat
    rw [show (((0 + 1 + (x - 1).toNat : Nat)) : Int) = x by omega, hp, hg] at hg'
    obtain ⟨pv, pc⟩ := p
    have hpc : pc = true ∧ pv = v := by cases pc <;> simp at hg' ⊢; exact hg'.symm
    obtain ⟨rfl, rfl⟩ := hpc
    obtain ⟨gh, q1, q2, q3, q4⟩ := Own.at1 h2 (i := (x - 1).toNat) (x := encE pv) (by unfold seqs; rw [List.getElem?_map, List.getElem?_map, hp]; rfl) .i64
    exact pur (nil_ptr _) (pur (field_ptr _ _ _) (loadB h1 (v := sv) rfl (pur (sub64 hx1 (by omega) (by omega)) (pur q2 (SG.load (S := No) q3 (hK pv hg))))))
end RefL
end Go.Proofs.Ytkladgpaicolnaa
/-! Snaps: the document's list: Hold, All, Stripe; numbers held against numbers. -/
namespace Go.Proofs.Ytkladgpaicolnaa
open Go SG Go.RowKit Go.Lib
set_option linter.unusedVariables false
set_option maxRecDepth 4000
set_option linter.unusedSimpArgs false

namespace RefL
variable {w w' : World} {g : Nat} {xs : List (Nat × Bool)} {F S : Nat → Prop} {K : Value → World → Prop}
theorem build56 (w : World) : (Instr.build 56 [].toArray).run Try.prog w = .ok (.agg #[.slice none 0 0, .slice none 0 0]) w := by kernel_rfl
set_option maxHeartbeats 1000000 in
/-- Hold -/
theorem hold (h : RefL w g xs F) (hl : xs.length ≤ 4398046511104) {n : Nat} (hs : n < 18446744073709551616)
    (h1' : 72057594037927935 < n → K (.tuple [.int .i64 0, .int .i64 1].toArray) w) (h2' : n ≤ 72057594037927935 → 4096 ≤ (xs.filter (·.2)).length → K (.tuple [.int .i64 0, .int .i64 2].toArray) w)
    (hK : ∀ w' F', n ≤ 72057594037927935 → (xs.filter (·.2)).length < 4096 → RefL w' g (xs ++ [(n, true)]) F' → Stp w F w' F' → K (.tuple [.int .i64 ((xs.length + 1 : Nat) : Int), .int .i64 0].toArray) w') : CallS Try.prog 24 #[.pointer (some ⟨g, 0, none⟩), encE n] K w := by
  refine s24_call hm ?_
  unfold s24
  refine pur (bin_gtr _ _ _) (condD (fun hgt => h1' (by omega)) (fun hle => ?_))
  refine h.len hl (pur (bin_geq _ _ _) (condD (fun hge => h2' (by omega) (by omega)) (fun hlt => ?_)))
  obtain ⟨sv, hv, hb, hrow, hrow2, hF⟩ := h
  have hgs := Own.ne_blk hrow hb (by decide)
  have hgh := Own.ne_blk hrow2 hb (by decide)
  have hsh := Own.ne_own hrow hrow2 (by decide)
  have hhs := Own.ne_own hrow2 hrow (by decide)
  have hgl := hb.lt
  have bc : bools (xs ++ [(n, true)]) = bools xs ++ [.bool true] := by simp [bools]
  have sc : seqs (xs ++ [(n, true)]) = seqs xs ++ [encE n] := by simp [seqs]
  refine join0 (fun w' => ∃ F', RefL w' g (xs ++ [(n, true)]) F' ∧ Stp w F w' F') ?_ fun J0 hJ0 => ?_
  · rintro w1 ⟨F', h1, k1⟩
    have hR := h1
    obtain ⟨sv', hv', hb', ho', _⟩ := h1
    refine pur (nil_ptr _) (pur (field_ptr _ _ _) (loadB hb' (v := sv') rfl (pur (Sl.own ho').len ?_)))
    have := hK w1 F' (by omega) (by omega) hR k1
    simpa using this
  have hg' : F g := (hF g).2 (.inl rfl)
  -- ahead of the appends: all is as it was
  have apS : ∀ {w1 : World} {g1 : Nat} {K' : Value → World → Prop}, Ext No w w1 → Blk w1 g1 30 [encE n] →
      (∀ v w2, Ext F w w2 → Ext (fun b => sv.ownBlock = some b) w1 w2 → w2.ownsRow 0 30 1 v (xs.length + 1) (seqs (xs ++ [(n, true)])) → (∀ b, v.ownBlock = some b → F b ∨ w.heap.size ≤ b) → K' v w2) →
      RunS Try.prog (Builtin.append_ #[31, 31] 31 [sv, .slice (some ⟨g1, 0, none⟩) 1 1].toArray) K' w1 := fun {w1 g1 K'} e1 b1 hK' => by
    have ho1 := owns_ext hrow e1 fun _ _ hh => hh
    refine append_sl TCE 31 ho1 (b1.sl (n := 1) (c := 1) (size := 1) rfl (Nat.le_refl _)) (by simp [encE, Value.oneCell']) (by omega) (by omega) (Nat.zero_le _) fun v w2 ho2 hg2 hat => ?_
    have e2 : Ext (fun b => sv.ownBlock = some b) w1 w2 := Ext.grown hg2 fun b hb => hb
    refine hK' v w2 (e1.no.trans (e2.mono fun b hb _ => (hF b).2 (.inr (.inl hb)))) e2 (by rw [sc]; exact ho2) fun b hb => ?_
    rcases hat with h | h
    · exact .inl ((hF b).2 (.inr (.inl (by rw [← h]; exact hb))))
    · rw [h] at hb
      have : b = w1.heap.size := by simpa using hb.symm
      right; have := e1.size; omega
  have fin : ∀ {w1 : World} {g1 : Nat} {t : Value}, Ext F w w1 → Blk w1 g 56 [sv, hv] → Blk w1 g1 4 [.bool true] → w1.ownsRow 0 30 1 t (xs.length + 1) (seqs (xs ++ [(n, true)])) → (∀ b, t.ownBlock = some b → F b ∨ w.heap.size ≤ b) → w1.ownsRow 0 4 1 hv xs.length (bools xs) →
      RunS Try.prog (Builtin.append_ #[27, 27] 27 [hv, .slice (some ⟨g1, 0, none⟩) 1 1].toArray) (fun t27 w => PureS (nilV (.pointer (some ⟨g, 0, none⟩))) fun t28 => PureS (fieldAddrV 0 t28) fun t29 => StoreC t29 t (fun w =>
        PureS (nilV (.pointer (some ⟨g, 0, none⟩))) fun t30 => PureS (fieldAddrV 1 t30) fun t31 => StoreC t31 t27 (fun w => J0 w) w) w) w1 := fun {w1 g1 t} e1 hb1 b1 ht htf hh1 => by
    refine append_sl T27 27 hh1 (b1.sl (n := 1) (c := 1) (size := 1) rfl (Nat.le_refl _)) (by simp [Value.oneCell']) (by omega) (by omega) (Nat.zero_le _) fun v w2 ho2 hg2 hat => ?_
    have e2 : Ext (fun b => hv.ownBlock = some b) w1 w2 := Ext.grown hg2 fun b hb => hb
    have hb2 := hb1.ext e2 hgh
    have ht2 := owns_ext ht e2 fun b hb hh => Own.ne_own hh1 ht (by decide) b hh hb
    refine pur (nil_ptr _) (pur (field_ptr _ _ _) (storeB hb2 (by simp) (Own.one ht2) fun w3 b3 e3 z3 => ?_))
    have b3' : Blk w3 g 56 [t, hv] := b3
    refine pur (nil_ptr _) (pur (field_ptr _ _ _) (storeB b3' (by simp) (Own.one ho2) fun w4 b4 e4 z4 => ?_))
    have b4' : Blk w4 g 56 [t, v] := b4
    have e24 : Ext (At1 g) w2 w4 := e3.trans e4
    have ht4 := owns_ext ht2 e24 fun b hb hh => Own.ne_blk ht2 hb2 (by decide) (by rw [hb, show b = g from hh])
    have ho4 := owns_ext ho2 e24 fun b hb hh => Own.ne_blk ho2 hb2 (by decide) (by rw [hb, show b = g from hh])
    refine hJ0 w4 ⟨fun b => b = g ∨ t.ownBlock = some b ∨ v.ownBlock = some b, ⟨t, v, b4', by simpa using ht4, by rw [bc]; simpa using ho4, fun b => Iff.rfl⟩, e1.trans' (e2.trans' e24 (S'' := fun b => hv.ownBlock = some b ∨ b = g) (fun b hb _ => .inl hb) (fun b hb _ => .inr hb)) (fun b hb _ => hb) (fun b hb _ => ?_), fun b hb => ?_⟩
    · rcases hb with hb | hb
      · exact (hF b).2 (.inr (.inr hb))
      · exact hb ▸ hg'
    · rcases hb with rfl | hb | hb
      · exact .inl hg'
      · exact htf b hb
      · rcases hat with h | h
        · exact .inl ((hF b).2 (.inr (.inr (by rw [← h]; exact hb))))
        · rw [h] at hb
          have : b = w1.heap.size := by simpa using hb.symm
          right; have := e1.size; omega
  have e0 : Ext No w w.drew := Ext.drew w
  refine draw (fun w' => Blk w' g 56 [sv, hv]) (hb.no e0) ?_
  refine pur (nil_ptr _) (pur (field_ptr _ _ _) (pur (nil_ptr _) (pur (field_ptr _ _ _) (heldC (v := sv) (fun w' hh => hh.cell 0) (heldC (v := hv) (fun w' hh => hh.cell 1) ⟨?_, ?_⟩)))))
  · refine build1 TCE rfl fun w1 b1 e1 z1 => ?_
    have e01 := e0.trans e1
    refine ⟨hb.no e01, ?_, ?_⟩
    · refine apS e01 b1 fun v w2 e2 e12 hv2 hvf => ?_
      have hb2 := (hb.no e01).ext e12 hgs
      refine ⟨hb2, build1 T27 rfl fun w3 b3 e3 z3 => ?_⟩
      exact ⟨hb2.no e3, fin (e2.trans e3.no) (hb2.no e3) b3 (owns_ext hv2 e3 fun _ _ hh => hh) hvf (owns_ext (owns_ext (owns_ext hrow2 e01 fun _ _ hh => hh) e12 fun b hb hh => hsh b hh hb) e3 fun _ _ hh => hh)⟩
    · refine build1 T27 rfl fun w3 b3 e3 z3 => ?_
      have e03 := e01.trans e3
      refine ⟨hb.no e03, apS e03 (b1.no e3) fun v w2 e2 e32 hv2 hvf => ?_⟩
      have hb2 := (hb.no e03).ext e32 hgs
      have hne : sv.ownBlock ≠ some w1.heap.size := fun hh => by have := (hrow.lt _ hh).2; have := e01.size; omega
      exact ⟨hb2, fin e2 hb2 (b3.ext e32 hne) hv2 hvf (owns_ext (owns_ext hrow2 e03 fun _ _ hh => hh) e32 fun b hb hh => hsh b hh hb)⟩
  · refine build1 T27 rfl fun w3 b3 e3 z3 => ?_
    have e03 := e0.trans e3
    refine ⟨hb.no e03, build1 TCE rfl fun w1 b1 e1 z1 => ?_⟩
    have e01 := e03.trans e1
    refine ⟨hb.no e01, apS e01 b1 fun v w2 e2 e12 hv2 hvf => ?_⟩
    have hb2 := (hb.no e01).ext e12 hgs
    have hne : sv.ownBlock ≠ some w.drew.heap.size := fun hh => by have := (hrow.lt _ hh).2; have := e0.size; omega
    exact ⟨hb2, fin e2 hb2 ((b3.no e1).ext e12 hne) hv2 hvf (owns_ext (owns_ext hrow2 e01 fun _ _ hh => hh) e12 fun b hb hh => hsh b hh hb)⟩
/-- All -/
theorem all (h : RefL w g xs F) (hl : xs.length ≤ 4398046511104) (hlf : (xs.filter (·.2)).length ≤ 4096) (hK : ∀ v w' fs, Rise fs (fun x => x ∈ (mOf 0 xs).map (·.2)) → fs.length ≤ 4096 → Sl w' v fs.length 1 (fs.map encE) → (∀ b, v.ownBlock = some b → w.heap.size ≤ b) → Ext No w w' → K v w') : CallS Try.prog 28 #[.pointer (some ⟨g, 0, none⟩)] K w := by
  have h0 := h
  refine s28_call hm ?_
  unfold s28
  rw [mOf_vals] at hK
  refine join1 (fun v w' => ∃ fs : List Nat, Rise fs (fun x => x ∈ (xs.filter (·.2)).map (·.1)) ∧ fs.length ≤ 4096 ∧ Sl w' v fs.length 1 (fs.map encE) ∧ (∀ b, v.ownBlock = some b → w.heap.size ≤ b) ∧ Ext No w w') (fun v w' ⟨fs, a, b, c, d, e⟩ => hK v w' fs a b c d e) fun J0 hJ0 => ?_
  refine loop2 (σ := Nat × List Nat) (fun s v a w' => a = .int .i64 (s.1 : Int) ∧ s.1 ≤ xs.length ∧ Rise s.2 (fun x => x ∈ ((xs.take s.1).filter (·.2)).map (·.1)) ∧ s.2.length ≤ ((xs.take s.1).filter (·.2)).length ∧ Sl w' v s.2.length 1 (s.2.map encE) ∧ (∀ b, v.ownBlock = some b → w.heap.size ≤ b) ∧ Ext No w w') (fun s => xs.length - s.1) (0, [])
    ⟨rfl, Nat.zero_le _, ⟨List.Pairwise.nil, by simp⟩, by simp, Sl.nil_ _ _, by simp [Value.ownBlock], Ext.refl _ _⟩ ?_
  rintro ⟨i, fs⟩ v _ w1 ⟨rfl, hi, hr, hfl, hs, hf, e1⟩ L1 hL1
  simp only at hi hr hfl hs hL1 ⊢
  obtain ⟨sv, hv, hb, hrow, hrow2, hF⟩ := h0.no e1
  have hlen4 : fs.length ≤ 4096 := by
    have h2 : ((xs.take i).filter (·.2)).length ≤ (xs.filter (·.2)).length := (List.Sublist.filter _ (List.take_sublist i xs)).length_le
    omega
  refine pur (nil_ptr _) (pur (field_ptr _ _ _) (loadB hb (v := sv) rfl (pur (Sl.own hrow).len (pur (bin_lss _ _ _) (condD (fun hlt => ?_) (fun hge => hJ0 _ _ ⟨fs, ?_, hlen4, hs, hf, e1⟩))))))
  · obtain ⟨p, hp⟩ := getN (xs := xs) (i := i) (by omega)
    have htk : (xs.take (i + 1)).filter (·.2) = (xs.take i).filter (·.2) ++ [p].filter (·.2) := by rw [List.take_add_one, hp]; simp [List.filter_append]
    refine join1 (fun v w' => ∃ fs' : List Nat, Rise fs' (fun x => x ∈ ((xs.take (i + 1)).filter (·.2)).map (·.1)) ∧ fs'.length ≤ ((xs.take (i + 1)).filter (·.2)).length ∧ Sl w' v fs'.length 1 (fs'.map encE) ∧ (∀ b, v.ownBlock = some b → w.heap.size ≤ b) ∧ Ext No w w') ?_ fun J2 hJ2 => ?_
    · rintro v' w2 ⟨fs', a, b, c, d, e⟩
      exact pur (add64 (c := ((i + 1 : Nat) : Int)) (by omega) (by omega) (by omega)) (hL1 (i + 1, fs') _ _ _ ⟨rfl, by simp only; omega, a, b, c, d, e⟩ (by simp only; omega))
    · obtain ⟨gh, q1, q2, q3, _⟩ := Own.at1 hrow2 (i := i) (x := .bool p.2) (by unfold bools; rw [List.getElem?_map, hp]; rfl) .i64
      refine pur (nil_ptr _) (pur (field_ptr _ _ _) (loadB hb (v := hv) rfl (pur q2 (SG.load (S := No) q3 (condB (fun hc => ?_) (fun hc => ?_))))))
      · obtain ⟨gs, r1, r2, r3, _⟩ := Own.at1 hrow (i := i) (x := encE p.1) (by unfold seqs; rw [List.getElem?_map, List.getElem?_map, hp]; rfl) .i64
        refine pur (nil_ptr _) (pur (field_ptr _ _ _) (loadB hb (v := sv) rfl (pur r2 (SG.load (S := No) r3 ?_))))
        refine c34 hs hr.1 (by omega) fun v' w2 fs' hr' hl' hs' hf' e2 => hJ2 _ _ ⟨fs', ⟨hr'.1, fun x => ?_⟩, ?_, hs', fun b hb => ?_, e1.trans e2⟩
        · refine (hr'.2 x).trans ?_
          show x ∈ fs ∨ x = p.1 ↔ x ∈ ((xs.take (i + 1)).filter (·.2)).map (·.1)
          rw [hr.2, htk]; simp [hc]
        · rw [htk]; simp [hc]; omega
        · rcases hf' b hb with h | h
          · exact hf b h
          · have := e1.size; omega
      · exact hJ2 _ _ ⟨fs, by rw [htk]; simpa [hc] using hr, by rw [htk]; simpa [hc] using hfl, hs, hf, e1⟩
  · rwa [List.take_of_length_le (by omega)] at hr
/-- Stripe -/
theorem stripe (h : RefL w g xs F) (hl : xs.length ≤ 4398046511104) (hlf : (xs.filter (·.2)).length ≤ 4096) (x : Nat) (hK : ∀ w' fs, Rise fs (fun x => x ∈ (mOf 0 xs).map (·.2)) → Ext No w w' → K (stripeV fs x) w') : CallS Try.prog 27 #[.pointer (some ⟨g, 0, none⟩), encE x] K w := by
  refine s27_call hm ?_
  unfold s27
  refine h.all hl hlf fun v w1 fs hr hfl hs hf e1 => ?_
  have hfin := hK w1 fs hr e1
  have at_ : ∀ {i : Nat} {y : Nat}, fs[i]? = some y → ∀ {K' : Value → World → Prop}, K' (encE y) w1 → PureS (indexAddrV 1 v (.int .i64 (i : Int))) fun t => LoadC t K' w1 := fun {i y} hy {K'} hk => by
    obtain ⟨ad, h1, h2, h3⟩ := sl_idx1 hs (i := i) (v := encE y) (by simp [hy]) .i64
    exact pur h1 (SG.load (S := No) (h3 w1 hs) hk)
  have pw : ∀ i y, fs[i]? = some y → x ≤ y → (∀ j z, j < i → fs[j]? = some z → z < x) → K (.tuple [encE y, .bool true].toArray) w1 := fun i y hy hxy hlo => by
    unfold stripeV at hfin
    rw [find_at hlo (fun z hz => by rw [hy] at hz; cases hz; exact hxy), hy] at hfin
    exact hfin
  refine join0 (fun w' => w1 = w' ∧ ∀ (j z : Nat), fs[j]? = some z → z < x) ?_ fun J0 hJ0 => ?_
  · rintro _ ⟨rfl, hlo⟩
    unfold stripeV at hfin
    rw [find_at (i := fs.length) (fun j z _ hz => hlo j z hz) (fun z hz => by have := (List.getElem?_eq_some_iff.1 hz).1; omega), List.getElem?_eq_none (Nat.le_refl _)] at hfin
    exact hfin
  refine loop1 (σ := Nat) (fun i a w' => w1 = w' ∧ a = .int .i64 (i : Int) ∧ i ≤ fs.length ∧ ∀ (j z : Nat), j < i → fs[j]? = some z → z < x) (fun i => fs.length - i) 0 ⟨rfl, rfl, by omega, fun _ _ h => by omega⟩ ?_
  rintro i _ _ ⟨rfl, rfl, hi, hlo⟩ L1 hL1
  refine pur hs.len (pur (bin_lss _ _ _) (condD (fun hlt => ?_) (fun hge => hJ0 _ ⟨rfl, fun j z hz => hlo j z (by have := (List.getElem?_eq_some_iff.1 hz).1; omega) hz⟩)))
  obtain ⟨y, hy⟩ := getN (xs := fs) (i := i) (by omega)
  refine at_ hy (pur (bin_geq _ _ _) (condD (fun hc => at_ hy (pw i y hy (by omega) hlo)) (fun hc => ?_)))
  refine pur (add64 (c := ((i + 1 : Nat) : Int)) (by omega) (by omega) (by omega)) (hL1 (i + 1) _ _ ⟨rfl, rfl, by omega, fun j z hj hz => ?_⟩ (by omega))
  by_cases hji : j = i
  · subst hji; rw [hy] at hz; cases hz; omega
  · exact hlo j z (by omega) hz
end RefL

/-- numbers: both are the same; the first are written over -/
theorem c12 {w : World} {a b : Value} {fs : List Nat} {base : Nat} (ha : w.ownsRow base 30 1 a fs.length (fs.map encE)) (hb : Sl w b fs.length 1 (fs.map encE)) (hab : 0 < fs.length → ∀ x, a.ownBlock = some x → b.ownBlock ≠ some x) (hl : fs.length ≤ 4398046511104) {K : Value → World → Prop}
    (hK : ∀ w', Ext (fun x => a.ownBlock = some x) w w' → K (.bool true) w') : CallS Try.prog 12 #[a, b] K w := by
  refine s12_call hm ?_
  unfold s12
  refine pur (Sl.own ha).len (pur hb.len (pur (v := .bool false) ((bin_neq _ _ _).trans (by simp)) (condF rfl ?_)))
  refine join0 (fun w' => Ext (fun x => a.ownBlock = some x) w w') (fun w' e => hK w' e) fun J0 hJ0 => ?_
  refine loop1 (σ := Nat × List Nat) (fun s v w' => v = .int .i64 (s.1 : Int) ∧ s.1 ≤ fs.length ∧ s.2.length = fs.length ∧ (∀ j, s.1 ≤ j → s.2[j]? = fs[j]?) ∧ w'.ownsRow base 30 1 a fs.length (s.2.map encE) ∧ Ext (fun x => a.ownBlock = some x) w w') (fun s => fs.length - s.1) (0, fs)
    ⟨rfl, by simp, rfl, fun _ _ => rfl, ha, Ext.refl _ _⟩ ?_
  rintro ⟨i, gs⟩ _ w1 ⟨rfl, hi, hgl, hgs, ha1, e1⟩ L1 hL1
  simp only at hi hgl hgs ha1 hL1 ⊢
  refine pur (Sl.own ha1).len (pur (bin_lss _ _ _) (condD (fun hlt => ?_) (fun _ => hJ0 _ e1)))
  obtain ⟨y, hy⟩ := getN (xs := fs) (i := i) (by omega)
  have hb1 : Sl w1.drew b fs.length 1 (fs.map encE) := (hb.ext e1 fun x hx hh => hab (by omega) x hh hx).no (Ext.drew w1)
  have ha1d := owns_ext ha1 (Ext.drew (S := No) w1) fun _ _ hh => hh
  have hyg : gs[i]? = some y := by rw [hgs i (Nat.le_refl _)]; exact hy
  obtain ⟨ga, q1, q2, q3, q4⟩ := Own.at1 ha1d (i := i) (x := encE y) (by rw [List.getElem?_map, hyg]; rfl) .i64
  obtain ⟨ad, r1, r2, r3⟩ := sl_idx1 hb1 (i := i) (v := encE y) (by simp [hy]) .i64
  refine draw (fun w' => w' = w1.drew) rfl (pur q2 (pur r1 (heldC (v := encE y) (fun w' hh => by rw [hh]; exact q3) (heldC (v := encE y) (fun w' hh => by rw [hh]; exact r3 _ hb1) ?_))))
  refine pur (neE y y) (condF (by simp) (pur q2 (q4 (encE 77) rfl fun w2 ho2 e2 z2 => ?_)))
  refine pur (add64 (c := ((i + 1 : Nat) : Int)) (by omega) (by omega) (by omega)) (hL1 (i + 1, gs.set i 77) _ _ ⟨rfl, by simp only; omega, by simpa using hgl, fun j hj => ?_, by rw [List.map_set]; exact ho2, e1.trans ((Ext.drew w1).trans (e2.mono fun b hb _ => by rw [show b = ga from hb]; exact q1))⟩ (by simp only; omega))
  simp only at hj ⊢
  rw [List.getElem?_set_ne (by omega)]
  exact hgs j (by omega)
end Go.Proofs.Ytkladgpaicolnaa
/-! Snaps: the two lists side by side; the law of held numbers, walked. -/
namespace Go.Proofs.Ytkladgpaicolnaa
open Go SG Go.RowKit Go.Lib
set_option linter.unusedVariables false
set_option maxRecDepth 4000
set_option linter.unusedSimpArgs false

def cnt (xs : List (Nat × Bool)) : Nat := (xs.filter (·.2)).length
def Lf (g : Nat) (xs : List (Nat × Bool)) : Part := fun w F => ListF w g (mOf 0 xs) (xs.length : Int) F
def Lr (g : Nat) (xs : List (Nat × Bool)) : Part := fun w F => RefL w g xs F
theorem Lf.st (g : Nat) (xs : List (Nat × Bool)) : Stable (Lf g xs) := ⟨fun h e hn => ListF.ext h e hn, fun h hb => ListF.lt h hb⟩
theorem Lr.st (g : Nat) (xs : List (Nat × Bool)) : Stable (Lr g xs) := ⟨fun h e hn => RefL.ext h e hn, fun h hb => RefL.lt h hb⟩
def Lp (g gd : Nat) (xs : List (Nat × Bool)) : Part := Star (Lf g xs) (Lr gd xs)
theorem Lp.st (g gd : Nat) (xs : List (Nat × Bool)) : Stable (Lp g gd xs) := Star.st (Lf.st _ _) (Lr.st _ _)
/-- both have gone on -/
theorem Lp.both {w w5 w6 : World} {g gd : Nat} {xs xs' : List (Nat × Bool)} {F FA FA' FB FB' : Nat → Prop} (hB : Lr gd xs w FB) (hd : ∀ b, FA b → ¬ FB b) (hF : ∀ b, F b ↔ FA b ∨ FB b)
    (hA' : Lf g xs' w5 FA') (kA : Stp w FA w5 FA') (hB' : Lr gd xs' w6 FB') (kB : Stp w5 FB w6 FB') : ∃ F', Lp g gd xs' w6 F' ∧ Stp w F w6 F' := by
  obtain ⟨h1, h2⟩ := Star.step1 (A' := Lf g xs') (Lr.st gd xs) hB hd hF hA' kA
  have hd5 : ∀ b, FA' b → ¬ FB b := fun b hb hh => (kA.sub b hb).elim (fun h => hd b h hh) fun h => by have := (Lr.st _ _).lt hB hh; omega
  obtain ⟨h3, h4⟩ := Star.step2 (F := fun b => FA' b ∨ FB b) (A := Lf g xs') (B' := Lr gd xs') (Lf.st _ _) hA' hd5 (fun _ => Iff.rfl) hB' kB
  exact ⟨_, h3, h2.trans h4⟩
def holdV (xs : List (Nat × Bool)) (n : Nat) : Int × Int := if 72057594037927935 < n then (0, 1) else if 4096 ≤ cnt xs then (0, 2) else (((xs.length + 1 : Nat) : Int), 0)
def holdL (xs : List (Nat × Bool)) (n : Nat) : List (Nat × Bool) := if 72057594037927935 < n then xs else if 4096 ≤ cnt xs then xs else xs ++ [(n, true)]
theorem holdL_len (xs : List (Nat × Bool)) (n : Nat) : (holdL xs n).length ≤ xs.length + 1 := by unfold holdL; split; omega; split <;> simp
theorem holdL_cnt {xs : List (Nat × Bool)} {n : Nat} (h : cnt xs ≤ 4096) : cnt (holdL xs n) ≤ 4096 := by
  unfold holdL
  split
  · exact h
  · split
    · exact h
    · unfold cnt at *; simp [List.filter_append]; omega
theorem mOf_last (xs : List (Nat × Bool)) : (xs.length : Int) + 1 ∉ (mOf 0 xs).map (·.1) := fun h => by
  obtain ⟨p, hp, hpe⟩ := List.mem_map.1 h
  have h1 := (mOf_key hp).2
  have h2 : p.1 = (xs.length : Int) + 1 := hpe
  simp at h1; omega
theorem Lf.hold {w : World} {g : Nat} {xs : List (Nat × Bool)} {F : Nat → Prop} (h : Lf g xs w F) (hl : xs.length ≤ 4398046511104) {n : Nat} (hn : n < 18446744073709551616) {K : Value → World → Prop}
    (hK : ∀ w', Lf g (holdL xs n) w' F → Stp w F w' F → K (.tuple [.int .i64 (holdV xs n).1, .int .i64 (holdV xs n).2].toArray) w') : CallS Try.prog 19 #[.pointer (some ⟨g, 0, none⟩), encE n] K w := by
  have hc : (mOf 0 xs).length = cnt xs := mOf_len 0 xs
  refine ListF.hold h (by omega) (by omega) (mOf_last xs) hn (fun h1 => ?_) (fun h1 h2 => ?_) fun w' h1 h2 h3 e => ?_
  · have := hK w (by unfold holdL; rw [if_pos h1]; exact h) (Stp.refl _ _)
    unfold holdV at this; rw [if_pos h1] at this; exact this
  · have := hK w (by unfold holdL; rw [if_neg (by omega), if_pos (by omega)]; exact h) (Stp.refl _ _)
    unfold holdV at this; rw [if_neg (by omega), if_pos (by omega)] at this; exact this
  · have := hK w' (by
      unfold holdL; rw [if_neg (by omega), if_neg (by omega)]
      show ListF w' g (mOf 0 (xs ++ [(n, true)])) ((xs ++ [(n, true)]).length : Int) F
      rw [mOf_append]
      simpa [mOf] using h3) ⟨e, fun b hb => .inl hb⟩
    unfold holdV at this; rw [if_neg (by omega), if_neg (by omega)] at this
    simpa using this
theorem Lr.hold {w : World} {g : Nat} {xs : List (Nat × Bool)} {F : Nat → Prop} (h : Lr g xs w F) (hl : xs.length ≤ 4398046511104) {n : Nat} (hn : n < 18446744073709551616) {K : Value → World → Prop}
    (hK : ∀ w' F', Lr g (holdL xs n) w' F' → Stp w F w' F' → K (.tuple [.int .i64 (holdV xs n).1, .int .i64 (holdV xs n).2].toArray) w') : CallS Try.prog 24 #[.pointer (some ⟨g, 0, none⟩), encE n] K w := by
  refine RefL.hold h hl hn (fun h1 => ?_) (fun h1 h2 => ?_) fun w' F' h1 h2 h3 e => ?_
  · have := hK w F (by unfold holdL; rw [if_pos h1]; exact h) (Stp.refl _ _)
    unfold holdV at this; rw [if_pos h1] at this; exact this
  · have h2' : 4096 ≤ cnt xs := h2
    have := hK w F (by unfold holdL; rw [if_neg (by omega), if_pos h2']; exact h) (Stp.refl _ _)
    unfold holdV at this; rw [if_neg (by omega), if_pos h2'] at this; exact this
  · have h2' : ¬ 4096 ≤ cnt xs := by unfold cnt; omega
    have := hK w' F' (by unfold holdL; rw [if_neg (by omega), if_neg h2']; exact h3) e
    unfold holdV at this; rw [if_neg (by omega), if_neg h2'] at this
    exact this

structure Act4 where
  kind : Int
  h : Int
  s : Nat
  fv : Value
  fs : List Nat
def Act4.cells (a : Act4) : List Value := [.int .i64 a.kind, encH a.h, encE a.s, a.fv]
theorem Act4.cells_len (a : Act4) : a.cells.length = 4 := rfl
structure Act4Ok (w0 : World) (a : Act4) : Prop where
  h : a.h ≤ 9223372036854775807
  s : a.s < 18446744073709551616
  f : Sl w0 a.fv a.fs.length 1 (a.fs.map encE)
  n : a.fs.length ≤ 17592186044416
theorem Act4.one {w0 : World} {a : Act4} (h : Act4Ok w0 a) : ∀ v ∈ a.cells, v.oneCell' = true := by
  intro v hv
  simp only [Act4.cells, List.mem_cons, List.not_mem_nil, or_false] at hv
  rcases hv with rfl | rfl | rfl | rfl
  · rfl
  · rfl
  · rfl
  · exact h.f.one
theorem At.no {w w' : World} {a : Addr} {xs : List Value} (h : At w a xs) (e : Ext No w w') : At w' a xs := fun j u hj => by
  have hcell := h j u hj
  have hlt := World.block_lt_of_cell? _ _ hcell
  rw [Addr.add_block] at hlt
  rw [e.cell (by rw [Addr.add_block]; exact hlt) (fun h => h)]
  exact hcell
theorem act4_at {w : World} {x : Value} {l : List Act4} (hs : Sl w x l.length 4 (flat Act4.cells l)) {i : Nat} {a : Act4} (hr : l[i]? = some a) :
    ∃ ad, indexAddrV 4 x (.int .i64 (i : Int)) = some (.pointer (some ad)) ∧ At w ad a.cells := by
  have hi : i < l.length := (List.getElem?_eq_some_iff.1 hr).1
  obtain ⟨ad, h1, h2, h3⟩ := hs.at_ hi
  rw [flat_at Act4.cells Act4.cells_len l i a hr] at h2
  exact ⟨ad, h1, h2⟩
/-- a list's numbers, and what of them is told -/
theorem rise_stripe0 {fs : List Nat} : stripeV fs 0 = match fs with | [] => .tuple [.int .u64 0, .bool false].toArray | y :: _ => .tuple [encE y, .bool true].toArray := by
  unfold stripeV
  cases fs with
  | nil => rfl
  | cons y r => simp

set_option maxHeartbeats 1000000 in
theorem snapsAll {w0 : World} {x : Value} {l : List Act4} (hs : Sl w0 x l.length 4 (flat Act4.cells l)) (hl : ∀ a ∈ l, Act4Ok w0 a) (hn : l.length ≤ 4398046511104 - 2) : CallS Try.prog 5 #[x] (fun v w' => v = .bool true ∧ Ext No w0 w') w0 := by
  refine s5_call hm ?_
  unfold s5
  refine ListF.new fun g w1 FA h1 e1 hFA => ?_
  refine runS (RefL.build56 w1) (box fun w2 b2 e2 z2 => ?_)
  have b2' : Blk w2 w1.heap.size 56 [.slice none 0 0, .slice none 0 0] := b2
  have hgl : g < w1.heap.size := h1.lt (by obtain ⟨b, _, _, h⟩ := h1; exact (h g).2 (.inl rfl))
  refine eq_nil_ptr Try.underlying43 (condF rfl ?_)
  have hR : RefL w2 w1.heap.size [] (At1 w1.heap.size) := ⟨_, _, b2', World.ownsRow_nil _ _ _ _, World.ownsRow_nil _ _ _ _, fun b => by simp [At1, Value.ownBlock]⟩
  have hP2 : Lp g w1.heap.size [] w2 (fun b => FA b ∨ At1 w1.heap.size b) := ⟨FA, _, (Lf.st _ _).no h1 e2, hR, fun b hb hh => by have := h1.lt hb; rw [show b = w1.heap.size from hh] at this; omega, fun _ => Iff.rfl⟩
  have hF2 : ∀ b, (FA b ∨ At1 w1.heap.size b) → w0.heap.size ≤ b := fun b hb => hb.elim (hFA b) fun h => by rw [show b = w1.heap.size from h]; exact e1.size
  refine join0 (fun w' => ∃ xs F, Lp g w1.heap.size xs w' F ∧ cnt xs ≤ 4096 ∧ xs.length ≤ l.length ∧ Ext No w0 w' ∧ ∀ b, F b → w0.heap.size ≤ b) ?_ fun J0 hJ0 => ?_
  · rintro w3 ⟨xs, F, hP, hc, hxl, e3, hF⟩
    obtain ⟨FA, FB, hA, hB, hd, hFF⟩ := hP
    refine Lf.hold (n := 5) hA (by omega) (by omega) fun w4 hA4 k4 => ?_
    have e4 := (k4.old e3 fun b hb => hF b ((hFF b).2 (.inl hb))).1
    refine pur (extract_0 _ _) (pur (extract_1 _ _ _) (pur (bin_eql _ _ _) ?_))
    by_cases hlong : 4096 ≤ cnt xs
    · have hv : holdV xs 5 = (0, 2) := by unfold holdV; rw [if_neg (by omega), if_pos hlong]
      rw [hv]
      refine join1 (fun t w' => w4 = w' ∧ t = .bool true) ?_ fun J1 hJ1 => ifYes _ _ (pur (bin_eql _ _ _) (hJ1 _ _ ⟨rfl, rfl⟩))
      rintro _ _ ⟨rfl, rfl⟩
      refine pur (pick_b _ _ _) ?_
      refine join1 (fun t w' => w4 = w' ∧ t = undef) ?_ fun J2 hJ2 => ifNo' _ _ (hJ2 _ _ ⟨rfl, rfl⟩)
      rintro _ _ ⟨rfl, rfl⟩
      refine join1 (fun t w' => w4 = w' ∧ t = undef) ?_ fun J3 hJ3 => ifU _ _ _ (hJ3 _ _ ⟨rfl, rfl⟩)
      rintro _ _ ⟨rfl, rfl⟩
      refine join1 (fun t w' => w4 = w' ∧ t = undef) ?_ fun J4 hJ4 => ifNo' _ _ (hJ4 _ _ ⟨rfl, rfl⟩)
      rintro _ _ ⟨rfl, rfl⟩
      refine join1 (fun t w' => w4 = w' ∧ t = undef) ?_ fun J5 hJ5 => ifU _ _ _ (hJ5 _ _ ⟨rfl, rfl⟩)
      rintro _ _ ⟨rfl, rfl⟩
      refine join1 (fun t w' => w4 = w' ∧ t = undef) ?_ fun J6 hJ6 => ifNo' _ _ (hJ6 _ _ ⟨rfl, rfl⟩)
      rintro _ _ ⟨rfl, rfl⟩
      exact pur (pick_b _ _ _) ⟨rfl, e4⟩
    · have hv : holdV xs 5 = (((xs.length + 1 : Nat) : Int), 0) := by unfold holdV; rw [if_neg (by omega), if_neg hlong]
      have hL : holdL xs 5 = xs ++ [(5, true)] := by unfold holdL; rw [if_neg (by omega), if_neg hlong]
      rw [hv]
      rw [hL] at hA4
      refine join1 (fun t w' => w4 = w' ∧ t = undef) ?_ fun J1 hJ1 => ifNo _ _ (hJ1 _ _ ⟨rfl, rfl⟩)
      rintro _ _ ⟨rfl, rfl⟩
      refine pur (pick_b _ _ _) ?_
      rw [if_neg (by simp)]
      refine join1 (fun t w' => w4 = w' ∧ t = .bool true) ?_ fun J2 hJ2 => ifYes' _ _ (pur (bin_gtr _ _ _) (hJ2 _ _ ⟨rfl, by congr 1; exact decide_eq_true (by omega)⟩))
      rintro _ _ ⟨rfl, rfl⟩
      refine join1 (fun t w' => w4 = w' ∧ t = .bool true) ?_ fun J3 hJ3 => ifYes _ _ (pur (bin_eql _ _ _) (hJ3 _ _ ⟨rfl, rfl⟩))
      rintro _ _ ⟨rfl, rfl⟩
      refine join1 (fun t w' => w4 = w' ∧ t = .bool true) ?_ fun J4 hJ4 => ifYes' _ _ (pur (pick_b _ _ _) (hJ4 _ _ ⟨rfl, rfl⟩))
      rintro _ _ ⟨rfl, rfl⟩
      refine join1 (fun t w' => Ext No w0 w' ∧ t = .bool true) ?_ fun J5 hJ5 => ifYes _ _ ?_
      · rintro _ w5 ⟨e5, rfl⟩
        refine join1 (fun t w' => Ext No w0 w' ∧ t = .bool true) ?_ fun J6 hJ6 => ifYes' _ _ (pur (pick_b _ _ _) (hJ6 _ _ ⟨e5, rfl⟩))
        rintro _ w6 ⟨e6, rfl⟩
        exact pur (pick_b _ _ _) ⟨rfl, e6⟩
      · refine ListF.free (x := ((xs.length + 1 : Nat) : Int)) hA4 (fun h0 => ?_) fun v w5 hv5 hA5 e5 => ?_
        · have := mOf_get 0 (xs ++ [(5, true)]) xs.length
          rw [show (((0 + 1 + xs.length : Nat)) : Int) = ((xs.length + 1 : Nat) : Int) by omega, h0] at this
          simp at this
        · refine pur (bin_eql _ _ _) (hJ5 _ _ ⟨?_, rfl⟩)
          have k5 : Stp w4 FA w5 FA := ⟨e5, fun b hb => .inl hb⟩
          exact (k5.old e4 fun b hb => hF b ((hFF b).2 (.inl hb))).1
  · refine loop1 (σ := Nat) (fun i v w' => v = .int .i64 (i : Int) ∧ i ≤ l.length ∧ ∃ xs F, Lp g w1.heap.size xs w' F ∧ cnt xs ≤ 4096 ∧ xs.length ≤ i ∧ Ext No w0 w' ∧ ∀ b, F b → w0.heap.size ≤ b) (fun i => l.length - i) 0
      ⟨rfl, by omega, [], _, hP2, by simp [cnt], by simp, e1.trans e2, hF2⟩ ?_
    rintro i _ w3 ⟨rfl, hi, xs, F, hP, hc, hxl, e3, hF⟩ L7 hL7
    refine pur hs.len (pur (bin_lss _ _ _) (condD (fun hlt => ?_) (fun _ => hJ0 _ ⟨xs, F, hP, hc, by omega, e3, hF⟩)))
    obtain ⟨a, ha⟩ := getN (xs := l) (i := i) (by omega)
    have hok := hl a (List.mem_of_getElem? ha)
    obtain ⟨ad, q1, q2⟩ := act4_at hs ha
    refine pur q1 (loadA (At.no q2 e3) rfl (box fun w4 b4 e4 z4 => storeAll b4 rfl (by simp [Value.cells]) (Act4.one hok) fun w5 b5 e5 z5 => ?_))
    have e35 : Ext No w3 w5 := e4.fresh e5 fun b hb => .inr (by rw [show b = w3.heap.size from hb]; exact Nat.le_refl _)
    have hP5 := (Lp.st _ _ _).no hP e35
    have hn6 : ¬ F w3.heap.size := fun hh => by have := (Lp.st _ _ _).lt hP hh; omega
    have e05 := e3.trans e35
    have hx5 : w3.heap.size < w5.heap.size := b5.lt
    refine join0 (fun w' => ∃ xs F, Lp g w1.heap.size xs w' F ∧ cnt xs ≤ 4096 ∧ xs.length ≤ i + 1 ∧ Ext No w0 w' ∧ ∀ b, F b → w0.heap.size ≤ b) ?_ fun J8 hJ8 => ?_
    · clear hP5 hP
      rintro w6 ⟨xs, F, hP, hc, hxl, e6, hF⟩
      obtain ⟨FA, FB, hA, hB, hd, hFF⟩ := hP
      have hc' : (xs.filter (·.2)).length ≤ 4096 := hc
      refine RefL.all hB (by omega) hc' fun v7 w7 fs hr7 hfl7 hs7 hf7 e7 => ?_
      have hml : (mOf 0 xs).length ≤ 1000000 := by rw [mOf_len]; omega
      refine ListF.Oldest (ListF.no hA e7) hml fun w8 fs8 hr8 e8 => ?_
      obtain rfl := hr7.unique hr8
      -- the oldest, and whether there is one
      have hold : ∃ (y : Nat) (c : Bool), stripeV fs 0 = .tuple [encE y, .bool c].toArray ∧ (c = true ↔ 0 < fs.length) ∧ (c = true → fs[0]? = some y) ∧ (c = false → y = 0) := by
        rw [rise_stripe0]
        cases fs with
        | nil => exact ⟨0, false, rfl, by simp, by simp, fun _ => rfl⟩
        | cons y r => exact ⟨y, true, rfl, by simp, fun _ => rfl, by simp⟩
      obtain ⟨y, c, hst, hc1, hc2, hc3⟩ := hold
      rw [hst]
      refine pur (extract_0 _ _) (pur (extract_1 _ _ _) ?_)
      refine ListF.All (ListF.no hA (e7.trans e8)) hml fun v9 w9 fs9 hr9 ho9 e9 => ?_
      obtain rfl := hr7.unique hr9
      have hs79 := (hs7.no e8).no e9
      have hlt7 : ∀ b, v9.ownBlock = some b → w8.heap.size ≤ b := fun b hb => (ho9.lt b hb).1
      refine c12 ho9 hs79 (fun h0 b hb hh => ?_) (by omega) fun w10 e10 => ?_
      · -- the document's numbers lie where they lay before
        obtain ⟨z, hz⟩ := getN (xs := fs) (i := 0) (by omega)
        obtain ⟨ad', _, p2, p3⟩ := sl_idx1 (hs7.no e8) (i := 0) (v := encE z) (by simp [hz]) .i64
        have := World.block_lt_of_cell? _ _ (p3 w8 (hs7.no e8))
        rw [hh] at p2
        have : b = ad'.block := Option.some.inj p2
        have := hlt7 b hb
        omega
      have e8t : Ext No w8 w10 := e9.fresh e10 fun b hb => .inr (hlt7 b hb)
      have e6t : Ext No w6 w10 := e7.trans (e8.trans e8t)
      have hA10 := ListF.no hA e6t
      have hB10 := RefL.no hB e6t
      have hs10 : Sl w10 v7 fs.length 1 (fs.map encE) := (hs7.no e8).no e8t
      have e010 := e6.trans e6t
      refine pur (not_b _) ?_
      refine join1 (fun t w' => w10 = w' ∧ t = .bool false) ?_ fun J9 hJ9 => ifYes' _ _ (ListF.len hA10 (RefL.len hB10 (by omega) (pur (bin_neq _ _ _) (hJ9 _ _ ⟨rfl, by congr 1; rw [mOf_len]; simp⟩))))
      rintro _ _ ⟨rfl, rfl⟩
      refine pur (pick_b _ _ _) ?_
      refine join1 (fun t w' => w10 = w' ∧ t = .bool false) ?_ fun J10 hJ10 => ifYes' _ _ (pur hs10.len (pur (bin_gtr _ _ _) (pur (bool_neq _ _) (hJ10 _ _ ⟨rfl, ?_⟩))))
      rotate_left
      · congr 1
        by_cases h0 : 0 < fs.length
        · rw [hc1.2 h0, decide_eq_true (by omega)]; rfl
        · have : c = false := by cases c with | false => rfl | true => exact absurd (hc1.1 rfl) h0
          rw [this, decide_eq_false (by omega)]; rfl
      rintro _ _ ⟨rfl, rfl⟩
      refine pur (pick_b _ _ _) ?_
      refine join1 (fun t w' => w10 = w' ∧ t = .bool c) ?_ fun J11 hJ11 => ifYes' _ _ (hJ11 _ _ ⟨rfl, rfl⟩)
      rintro _ _ ⟨rfl, rfl⟩
      refine join1 (fun t w' => w10 = w' ∧ (c = true → t = .bool false)) ?_ fun J12 hJ12 => ?_
      rotate_left
      · cases c with
        | false => exact ifNo _ _ (hJ12 _ _ ⟨rfl, fun h => by cases h⟩)
        | true =>
          obtain ⟨ad', p1, p2, p3⟩ := sl_idx1 hs10 (i := 0) (v := encE y) (by simp [hc2 rfl]) .i64
          exact ifYes _ _ (pur p1 (SG.load (S := No) (p3 w10 hs10) (pur (neE y y) (hJ12 _ _ ⟨rfl, fun _ => by simp⟩))))
      rintro t _ ⟨rfl, ht⟩
      refine join1 (fun t w' => w10 = w' ∧ t = .bool false) ?_ fun J13 hJ13 => ifYes' _ _ (pur (pick_b _ _ _) (hJ13 _ _ ⟨rfl, ?_⟩))
      rotate_left
      · cases c with
        | false => rfl
        | true => rw [if_pos rfl]; exact ht rfl
      rintro _ _ ⟨rfl, rfl⟩
      refine pur (pick_b _ _ _) ?_
      refine join1 (fun t w' => w10 = w' ∧ t = .bool (!c)) ?_ fun J14 hJ14 => ifYes' _ _ (pur (not_b _) (hJ14 _ _ ⟨rfl, rfl⟩))
      rintro _ _ ⟨rfl, rfl⟩
      refine join1 (fun t w' => w10 = w' ∧ (c = false → t = .bool false)) ?_ fun J15 hJ15 => ?_
      rotate_left
      · cases c with
        | true => exact ifNo _ _ (hJ15 _ _ ⟨rfl, fun h => by cases h⟩)
        | false => exact ifYes _ _ (pur (neE y 0) (hJ15 _ _ ⟨rfl, fun _ => by rw [hc3 rfl]; simp⟩))
      rintro t _ ⟨rfl, ht⟩
      refine join1 (fun t w' => w10 = w' ∧ t = .bool false) ?_ fun J16 hJ16 => ifYes' _ _ (pur (pick_b _ _ _) (hJ16 _ _ ⟨rfl, ?_⟩))
      rotate_left
      · cases c with
        | true => rfl
        | false => rw [if_pos (show (!false) = true from rfl)]; exact ht rfl
      rintro _ _ ⟨rfl, rfl⟩
      refine pur (pick_b _ _ _) (condF rfl (pur (add64 (c := ((i + 1 : Nat) : Int)) (by omega) (by omega) (by omega)) (hL7 (i + 1) _ _ ⟨rfl, by omega, xs, F, (Lp.st _ _ _).no ⟨FA, FB, hA, hB, hd, hFF⟩ e6t, hc, hxl, e010, hF⟩ (by omega))))
    · obtain ⟨FA, FB, hA, hB, hd, hFF⟩ := hP5
      have hxA : ¬ FA w3.heap.size := fun hh => hn6 ((hFF _).2 (.inl hh))
      have hxB : ¬ FB w3.heap.size := fun hh => hn6 ((hFF _).2 (.inr hh))
      have hwrap : ∀ {w6 : World} {xs' : List (Nat × Bool)} {F' : Nat → Prop}, Lp g w1.heap.size xs' w6 F' → Stp w5 F w6 F' → cnt xs' ≤ 4096 → xs'.length ≤ i + 1 → J8 w6 := fun {w6 xs' F'} hP' k hc' hl' => by
        obtain ⟨h1, h2⟩ := k.old e05 hF
        exact hJ8 w6 ⟨xs', F', hP', hc', hl', h1, h2⟩
      refine pur (field_ptr _ _ _) (loadB b5 (v := .int .i64 a.kind) rfl (pur (bin_eql _ _ _) (condD (fun hk => ?_) (fun _ => ?_))))
      · refine pur (field_ptr _ _ _) (loadB b5 (v := encE a.s) rfl (Lf.hold hA (by omega) hok.s fun w6 hA6 k6 => ?_))
        have b6 := k6.blk b5 hxA
        have hB6 := (Lr.st _ _).ext hB k6.ext fun b hb hh => hd b hh hb
        refine pur (extract_0 _ _) (pur (extract_1 _ _ _) (pur (field_ptr _ _ _) (loadB b6 (v := encE a.s) rfl (Lr.hold hB6 (by omega) hok.s fun w7 FB' hB7 k7 => ?_))))
        obtain ⟨F', hP', k'⟩ := Lp.both hB hd hFF hA6 k6 hB7 k7
        refine pur (extract_0 _ _) (pur (extract_1 _ _ _) (pur (v := .bool false) ((bin_neq _ _ _).trans (by simp)) ?_))
        refine join1 (fun t w' => w7 = w' ∧ t = .bool false) ?_ fun J17 hJ17 => ifYes' _ _ (pur (v := .bool false) ((bin_neq _ _ _).trans (by simp)) (hJ17 _ _ ⟨rfl, rfl⟩))
        rintro _ _ ⟨rfl, rfl⟩
        exact pur (pick_b _ _ _) (condF rfl (hwrap hP' k' (holdL_cnt hc) (by have := holdL_len xs a.s; omega)))
      refine pur (bin_eql _ _ _) (condD (fun hk => ?_) (fun _ => ?_))
      · have ed : Ext No w5 w5.drew := Ext.drew w5
        refine draw (fun w' => Blk w' w3.heap.size 33 a.cells) (b5.no ed) (pur (field_ptr _ _ _) (pur (field_ptr _ _ _) (heldC (v := encH a.h) (fun w' hh => hh.cell 1) (heldC (v := encH a.h) (fun w' hh => hh.cell 1) ?_))))
        have hAd := (Lf.st _ _).no hA ed
        have hBd := (Lr.st _ _).no hB ed
        refine ListF.free (x := a.h) hAd (fun h0 => ?_) fun v w6 hv6 hA6 e6 => ?_
        · refine ⟨b5.no ed, RefL.free hBd (by omega) a.h hok.h (fun _ => ?_) fun v w7 hv7 => by rw [h0] at hv7; cases hv7⟩
          refine pur (v := .bool false) ((bin_neq _ _ _).trans (by simp)) (condF rfl (hwrap (xs' := xs) ⟨FA, FB, hAd, hBd, hd, hFF⟩ (Stp.no ed) hc (by omega)))
        · have k6 : Stp w5.drew FA w6 FA := ⟨e6, fun b hb => .inl hb⟩
          have hB6 := (Lr.st _ _).ext hBd e6 fun b hb hh => hd b hh hb
          refine ⟨k6.blk (b5.no ed) hxA, RefL.free hB6 (by omega) a.h hok.h (fun h0 => by rw [h0] at hv6; cases hv6) fun v' w7 hv7 hx7 e7 => ?_⟩
          obtain ⟨xs', hl', hm', hB7⟩ := hx7
          have hA6' : Lf g xs' w6 FA := by
            show ListF w6 g (mOf 0 xs') (xs'.length : Int) FA
            rw [hm', hl']; exact hA6
          obtain ⟨F', hP', k'⟩ := Lp.both hBd hd hFF hA6' k6 hB7 ⟨e7, fun b hb => .inl hb⟩
          refine pur (v := .bool false) ((bin_neq _ _ _).trans (by simp)) (condF rfl (hwrap hP' ((Stp.no ed).trans k') ?_ (by omega)))
          have h1 : cnt xs' = (mOf 0 xs').length := (mOf_len 0 xs').symm
          have h2 : cnt xs = (mOf 0 xs).length := (mOf_len 0 xs).symm
          have h3 := List.length_filter_le (fun p : Int × Nat => decide (p.1 ≠ a.h)) (mOf 0 xs)
          rw [h1, hm']
          unfold mdel
          omega
      refine pur (bin_eql _ _ _) (condD (fun hk => ?_) (fun _ => ?_))
      · have hml : (mOf 0 xs).length ≤ 1000000 := by rw [mOf_len]; unfold cnt at hc; omega
        have hc' : (xs.filter (·.2)).length ≤ 4096 := hc
        -- what both answer
        have hsq : ∃ (p : Nat) (e : Int), (∀ {K' : Value → World → Prop}, K' (.tuple [encE p, .int .i64 e].toArray) w5 → CallS Try.prog 22 #[.pointer (some ⟨g, 0, none⟩), encH a.h] K' w5) ∧ (∀ {K' : Value → World → Prop}, K' (.tuple [encE p, .int .i64 e].toArray) w5 → CallS Try.prog 26 #[.pointer (some ⟨w1.heap.size, 0, none⟩), encH a.h] K' w5) := by
          cases hg : mget (mOf 0 xs) a.h with
          | none => exact ⟨0, 220, fun hk' => ListF.seq (x := a.h) hA (fun _ => hk') (fun v hv => by rw [hg] at hv; cases hv), fun hk' => RefL.seq hB (by omega) a.h hok.h (fun _ => hk') (fun v hv => by rw [hg] at hv; cases hv)⟩
          | some v => exact ⟨v, 0, fun hk' => ListF.seq (x := a.h) hA (fun h0 => by rw [hg] at h0; cases h0) (fun u hu => by rw [hg] at hu; cases hu; exact hk'), fun hk' => RefL.seq hB (by omega) a.h hok.h (fun h0 => by rw [hg] at h0; cases h0) (fun u hu => by rw [hg] at hu; cases hu; exact hk')⟩
        obtain ⟨p, e, s1, s2⟩ := hsq
        refine pur (field_ptr _ _ _) (loadB b5 (v := encH a.h) rfl (s1 (pur (extract_0 _ _) (pur (extract_1 _ _ _) (pur (field_ptr _ _ _) (loadB b5 (v := encH a.h) rfl (s2 (pur (extract_0 _ _) (pur (extract_1 _ _ _) ?_))))))))) 
        refine pur (field_ptr _ _ _) (loadB b5 (v := encE a.s) rfl (ListF.Stripe hA hml a.s fun w6 fs hr6 e6 => ?_))
        obtain ⟨y, c, hst⟩ : ∃ (y : Nat) (c : Bool), stripeV fs a.s = .tuple [encE y, .bool c].toArray := by
          unfold stripeV
          split
          · exact ⟨_, _, rfl⟩
          · exact ⟨0, _, rfl⟩
        rw [hst]
        refine pur (extract_0 _ _) (pur (extract_1 _ _ _) (pur (field_ptr _ _ _) (loadB (b5.no e6) (v := encE a.s) rfl (RefL.stripe (RefL.no hB e6) (by omega) hc' a.s fun w7 fs' hr7 e7 => ?_))))
        obtain rfl := hr6.unique hr7
        rw [hst]
        refine pur (extract_0 _ _) (pur (extract_1 _ _ _) (pur (v := .bool false) ((neE p p).trans (by simp)) ?_))
        refine join1 (fun t w' => w7 = w' ∧ t = .bool false) ?_ fun J19 hJ19 => ifYes' _ _ (pur (v := .bool false) ((bin_neq _ _ _).trans (by simp)) (hJ19 _ _ ⟨rfl, rfl⟩))
        rintro _ _ ⟨rfl, rfl⟩
        refine pur (pick_b _ _ _) ?_
        refine join1 (fun t w' => w7 = w' ∧ t = .bool false) ?_ fun J20 hJ20 => ifYes' _ _ (pur (v := .bool false) ((neE y y).trans (by simp)) (hJ20 _ _ ⟨rfl, rfl⟩))
        rintro _ _ ⟨rfl, rfl⟩
        refine pur (pick_b _ _ _) ?_
        refine join1 (fun t w' => w7 = w' ∧ t = .bool false) ?_ fun J21 hJ21 => ifYes' _ _ (pur (v := .bool false) ((bool_neq _ _).trans (by simp)) (hJ21 _ _ ⟨rfl, rfl⟩))
        rintro _ _ ⟨rfl, rfl⟩
        exact pur (pick_b _ _ _) (condF rfl (hwrap (xs' := xs) ((Lp.st _ _ _).no ⟨FA, FB, hA, hB, hd, hFF⟩ (e6.trans e7)) (Stp.no (e6.trans e7)) hc (by omega)))
      · exact hwrap ⟨FA, FB, hA, hB, hd, hFF⟩ (Stp.refl _ _) hc (by omega)
end Go.Proofs.Ytkladgpaicolnaa
/-! Rules for a row's own step: arguments opened as lists, their weights. No program stands here. -/
namespace SG
open Go Go.RowKit Go.ChangeShapes Go.WideShapes Go.Deep
set_option linter.unusedVariables false
set_option linter.unusedSimpArgs false

theorem list_of {α : Type} {Q : Nat → α → Prop} : ∀ (n : Nat), (∀ i, i < n → ∃ a, Q i a) → ∃ l : List α, l.length = n ∧ ∀ i a, l[i]? = some a → Q i a
  | 0, _ => ⟨[], rfl, fun i a h => by simp at h⟩
  | n + 1, h => by
    obtain ⟨l, hl, hQ⟩ := list_of n fun i hi => h i (by omega)
    obtain ⟨a, ha⟩ := h n (by omega)
    refine ⟨l ++ [a], by simp [hl], fun i b hb => ?_⟩
    by_cases hi : i < l.length
    · rw [List.getElem?_append_left hi] at hb
      exact hQ i b hb
    · rw [List.getElem?_append_right (by omega)] at hb
      have h0 : i - l.length = 0 := by
        rcases Nat.eq_zero_or_pos (i - l.length) with h | h
        · exact h
        · rw [List.getElem?_eq_none (by simp; omega)] at hb; cases hb
      rw [h0] at hb
      simp only [List.getElem?_cons_zero, Option.some.injEq] at hb
      subst hb
      have : i = n := by omega
      rw [this]; exact ha
theorem At.flat {α : Type} {f : α → List Value} {size : Nat} (hf : ∀ a, (f a).length = size) {w : World} : ∀ (l : List α) (ad : Addr), (∀ i a, l[i]? = some a → At w (ad.add (i * size)) (f a)) → At w ad (SG.flat f l)
  | [], ad, h => fun i v hv => by simp [SG.flat] at hv
  | x :: l, ad, h => by
    have hrec := At.flat hf l (ad.add size) fun i a ha => by
      have := h (i + 1) a (by simpa using ha)
      rw [Addr.add_add, Nat.add_comm size, ← Nat.succ_mul]
      exact this
    intro i v hv
    have e : SG.flat f (x :: l) = f x ++ SG.flat f l := by simp [SG.flat]
    rw [e] at hv
    by_cases hi : i < (f x).length
    · rw [List.getElem?_append_left hi] at hv
      have := h 0 x rfl i v hv
      simpa [Addr.add_zero'] using this
    · rw [List.getElem?_append_right (by omega), hf] at hv
      have h1 := hrec (i - size) v hv
      rw [Addr.add_add] at h1
      rw [hf] at hi
      rwa [show size + (i - size) = i by omega] at h1

section
variable {H : Type} {P : Program}
theorem weights_all_mem : ∀ {l : List (DataW H)} {e : TypeId} {d : DataW H} {n : Nat}, d ∈ l → n ∈ d.weights P e → n ∈ DataW.weightsAll P e l
  | a :: l, e, d, n, hd, hn => by
    simp only [DataW.weightsAll, List.mem_append]
    rcases List.mem_cons.1 hd with rfl | hd
    · exact .inl hn
    · exact .inr (weights_all_mem hd hn)
theorem weights_elem {t e : TypeId} {elems spare : List (DataW H)} {d : DataW H} {n : Nat} (ht : P.underlying t = some (.slice e)) (hd : d ∈ elems) (hn : n ∈ d.weights P e) : n ∈ (DataW.slice elems spare).weights P t := by
  simp only [DataW.weights, ht, List.mem_cons, List.mem_append]
  exact .inr (.inl (weights_all_mem hd hn))
theorem weights_row {t e : TypeId} {elems spare : List (DataW H)} (ht : P.underlying t = some (.slice e)) : (elems.length + spare.length) * P.bytesOf e ∈ (DataW.slice elems spare).weights P t := by
  simp [DataW.weights, ht]
/-- the arguments' weights, one argument's -/
theorem weights_le {ts : List TypeId} {ds : List (DataW H)} (h : (DataW.weightsEach P ts ds).all (· ≤ reachBytes) = true) {j : Nat} {t : TypeId} {d : DataW H} (ht : ts[j]? = some t) (hd : ds[j]? = some d) : ∀ n ∈ d.weights P t, n ≤ reachBytes := fun n hn => by
  have := List.all_eq_true.1 h _ (DataW.weights_mem_each ht hd n hn)
  simpa using this
end

section
variable {H : Type} {enc : TypeId × Value → H} {P : Program} {w : World} {base : Nat} {spare : Nat → Bool} {held : Bool}
/-- a struct of one-cell fields -/
theorem open_struct {e : TypeId} {fs : Array Field} {fuel : Nat} {cs : List Value} {x : DataW H × List MemPlace} (he : P.underlying e = some (.struct fs))
    (hone : oneCellFields P fs = true) (hC : P.cellsOf e = fs.size) (hcl : cs.length = fs.size) (h : DataW.trod enc P w base spare held fuel e cs = some x) :
    ∃ (ys : List (DataW H × List MemPlace)) (n : Nat), x.1 = .agg (ys.map (·.1)) ∧ ys.length = fs.size ∧
        ∀ (j : Nat) (f : Field), fs[j]? = some f → ∃ (v : Value) (y : DataW H × List MemPlace), cs[j]? = some v ∧ ys[j]? = some y ∧ DataW.trod enc P w base spare held n f.type [v] = some y := by
  obtain ⟨ys, n', hn', hy, hlen, hyl, hf⟩ := DataW.trod_struct he h
  refine ⟨ys, n', by rw [hy], hyl, fun j f hj => ?_⟩
  obtain ⟨ho, hk⟩ := hone_of hone j f hj
  have hjl : j < fs.size := (Array.getElem?_eq_some_iff.1 hj).1
  have hv : cs[j]? = some (cs[j]'(by omega)) := List.getElem?_eq_getElem (by omega)
  have h1 := hf j f hj
  rw [ho, hk] at h1
  have hone' : (cs.drop j).take 1 = [cs[j]'(by omega)] := by
    rw [List.drop_eq_getElem_cons (by omega)]
    rfl
  rw [hone'] at h1
  have hys : ys[j]? = some (ys[j]'(by omega)) := List.getElem?_eq_getElem (by omega)
  exact ⟨_, _, hv, hys, h1.trans hys⟩
/-- a slice as it came in, read as a list: what each element is good for -/
theorem open_list {α : Type} {f : α → List Value} {size : Nat} (hf : ∀ a, (f a).length = size) {Q : DataW H → α → Prop} {t e : TypeId} {v : Value} {d : DataW H} {p : List MemPlace} {fuel : Nat} (ht : P.underlying t = some (.slice e)) (hC : P.cellsOf e = size)
    (hopen : ∀ (n : Nat) (cs : List Value) (x : DataW H × List MemPlace), DataW.trod enc P w base spare held n e cs = some x → cs.length = size → ∃ a, cs = f a ∧ Q x.1 a)
    (h : DataW.trod enc P w base spare held fuel t [v] = some (d, p)) :
    ∃ l : List α, Sl w v l.length size (flat f l) ∧ ((l = [] ∧ d = .nil) ∨ ∃ elems sp : List (DataW H), d = .slice elems sp ∧ elems.length = l.length ∧ ∀ (i : Nat) (a : α), l[i]? = some a → ∃ x, elems[i]? = some x ∧ Q x a) := by
  rcases open_slice ht h with ⟨hcs, hx⟩ | ⟨a, len, cap, m, n, D, Pl, hcs, hb, hl, hm, hmm, hx, hi⟩
  · simp only [List.cons.injEq, and_true] at hcs
    subst hcs
    exact ⟨[], Sl.nil_ w size, .inl ⟨rfl, by simpa using congrArg Prod.fst hx⟩⟩
  · simp only [List.cons.injEq, and_true] at hcs
    subst hcs
    have hlm : len ≤ m := by rw [hmm]; split <;> omega
    obtain ⟨l, hll, hQ⟩ := list_of (Q := fun i (b : α) => At w (a.add (i * size)) (f b) ∧ Q (D i) b) len fun i hil => by
      obtain ⟨cs', hc, htr⟩ := hi i (by omega)
      rw [hC] at hc
      obtain ⟨_, hcl, hat⟩ := World.cells?_some hc
      obtain ⟨b, rfl, hq⟩ := hopen n cs' _ htr hcl
      refine ⟨b, fun j u hj => ?_, hq⟩
      have hjl : j < size := by rw [← hf b]; exact (List.getElem?_eq_some_iff.1 hj).1
      rw [hat j hjl, hj]
    refine ⟨l, ⟨some a, cap, by rw [hll], flat_length f hf l, by omega, (fun h => by cases h), (fun ad had => ?_)⟩, .inr ⟨_, _, congrArg Prod.fst hx, by simp [hll], fun i b hb => ⟨D i, ?_, (hQ i b hb).2⟩⟩⟩
    · cases had
      exact At.flat hf l _ fun i b hb => (hQ i b hb).1
    · have : i < l.length := (List.getElem?_eq_some_iff.1 hb).1
      simp [List.getElem?_range (show i < len by omega)]
end
end SG
/-! Snaps: acts as they come in. -/
namespace Go.Proofs.Ytkladgpaicolnaa
open Go SG Go.ChangeShapes Go.WideShapes Go.ChangeAt Go.RowKit Go.Lib
set_option linter.unusedVariables false
set_option maxRecDepth 4000
set_option linter.unusedSimpArgs false

theorem own : ownKnob Try.prog.godebug = none := by kernel_rfl
theorem laidOut : laidOutB Try.prog = true := by kernel_rfl
section
variable {H : Type} {enc : TypeId × Value → H} {w : World} {base : Nat} {spare : Nat → Bool} {held : Bool}
def enc1 (x : Nat) : List Value := [encE x]
theorem flat_enc1 (l : List Nat) : flat enc1 l = l.map encE := by
  induction l with
  | nil => rfl
  | cons a l ih => simp only [flat, List.flatMap_cons, List.map_cons] at ih ⊢; rw [ih]; rfl
theorem open_u64 (n : Nat) (cs : List Value) (x : DataW H × List MemPlace) (h : DataW.trod enc Try.prog w base spare held n 30 cs = some x) (hl : cs.length = 1) : ∃ r : Nat, cs = enc1 r ∧ r < 18446744073709551616 := by
  obtain ⟨a, h1, _, wa⟩ := DataW.trod_int Try.underlying30 h
  have wa' : (0 : Int) ≤ a ∧ a ≤ 18446744073709551615 := by simpa [Lit.wf, IntKind.min, IntKind.max, IntKind.signed, IntKind.bits] using wa
  refine ⟨a.toNat, ?_, by omega⟩
  rw [h1]; simp only [enc1, encE]; rw [Int.toNat_of_nonneg wa'.1]
/-- what an act's datum says -/
def Act4D {H : Type} (w : World) (d : DataW H) (a : Act4) : Prop :=
  a.h ≤ 9223372036854775807 ∧ a.s < 18446744073709551616 ∧ Sl w a.fv a.fs.length 1 (a.fs.map encE) ∧
    ∃ d0 d1 d2 dl, d = .agg [d0, d1, d2, dl] ∧ ((a.fs = [] ∧ dl = .nil) ∨ ∃ elems sp : List (DataW H), dl = .slice elems sp ∧ elems.length = a.fs.length)
theorem open_act4 (n : Nat) (cs : List Value) (x : DataW H × List MemPlace) (h : DataW.trod enc Try.prog w base spare held n 33 cs = some x) (hl : cs.length = 4) : ∃ a : Act4, cs = a.cells ∧ Act4D w x.1 a := by
  obtain ⟨ys, n', hx, hyl, hf⟩ := open_struct Try.underlying33 (by kernel_rfl) (by kernel_rfl) hl h
  obtain ⟨v0, y0, c0, z0, t0⟩ := hf 0 _ rfl
  obtain ⟨v1, y1, c1, z1, t1⟩ := hf 1 _ rfl
  obtain ⟨v2, y2, c2, z2, t2⟩ := hf 2 _ rfl
  obtain ⟨v3, y3, c3, z3, t3⟩ := hf 3 _ rfl
  obtain ⟨k, h0, _, wk⟩ := DataW.trod_int Try.underlying3 t0
  obtain ⟨hd, h1, _, wh⟩ := DataW.trod_int Try.underlying3 t1
  obtain ⟨s, h2, hs⟩ := open_u64 _ _ _ t2 rfl
  obtain ⟨fs, hsl, hc⟩ := open_list (f := enc1) (size := 1) (fun _ => rfl) Try.underlying31 (by kernel_rfl) (Q := fun _ _ => True) (fun n cs x h hl => by obtain ⟨r, hr, _⟩ := open_u64 n cs x h hl; exact ⟨r, hr, trivial⟩) t3
  have wh' : (-9223372036854775808 : Int) ≤ hd ∧ hd ≤ 9223372036854775807 := by simpa [Lit.wf, IntKind.min, IntKind.max, IntKind.signed, IntKind.bits] using wh
  simp only [enc1, List.cons.injEq, and_true] at h0 h1 h2
  subst h0 h1 h2
  match cs, hl, ys, hyl with
  | [d0, d1, d2, d3], _, [e0, e1, e2, e3], _ =>
    simp only [List.getElem?_cons_zero, List.getElem?_cons_succ, Option.some.injEq] at c0 c1 c2 c3 z0 z1 z2 z3
    subst c0 c1 c2 c3 z0 z1 z2 z3
    refine ⟨⟨k, hd, s, d3, fs⟩, rfl, wh'.2, hs, by rw [← flat_enc1]; exact hsl, e0.1, e1.1, e2.1, e3.1, by rw [hx]; rfl, ?_⟩
    rcases hc with hc | ⟨elems, sp, h1, h2, _⟩
    · exact .inl hc
    · exact .inr ⟨elems, sp, h1, h2⟩
/-- acts that came in -/
theorem open_act4s {v : Value} {d : DataW H} {p : List MemPlace} (h : DataW.Trod enc Try.prog w base spare held 22 v d p) (hone : ∃ a n c, v = .slice a n c) (hw : ∀ n ∈ d.weights Try.prog 22, n ≤ reachBytes) :
    ∃ l : List Act4, Sl w v l.length 4 (flat Act4.cells l) ∧ (∀ a ∈ l, Act4Ok w a) ∧ l.length ≤ 4398046511104 - 2 := by
  obtain ⟨fuel, h⟩ := h
  obtain ⟨a, n, c, rfl⟩ := hone
  obtain ⟨l, hs, hc⟩ := open_list Act4.cells_len Try.underlying22 (by kernel_rfl) (Q := Act4D w) (fun n cs x h hl => open_act4 n cs x h hl) h
  rcases hc with ⟨rfl, _⟩ | ⟨elems, sp, rfl, hel, hQ⟩
  · exact ⟨[], hs, (fun r hr => by cases hr), by simp⟩
  · have hrow := hw _ (weights_row Try.underlying22)
    have hb : Try.prog.bytesOf 33 = 48 := by kernel_rfl
    rw [hb] at hrow
    have hr0 : reachBytes = 140737488351232 := rfl
    refine ⟨l, hs, fun a ha => ?_, by omega⟩
    obtain ⟨i, hi⟩ := List.getElem?_of_mem ha
    obtain ⟨x, hx, hh, hss, hsl, d0, d1, d2, dl, hd, hdl⟩ := hQ i a hi
    have hmem : x ∈ elems := List.mem_of_getElem? hx
    refine ⟨hh, hss, hsl, ?_⟩
    rcases hdl with ⟨h0, _⟩ | ⟨el, sp', h1, h2⟩
    · rw [h0]; simp
    · have hwx : (el.length + sp'.length) * Try.prog.bytesOf 30 ∈ x.weights Try.prog 33 := by
        rw [hd, h1]
        have := weights_row (P := Try.prog) (elems := el) (spare := sp') Try.underlying31
        simp only [DataW.weights, Try.underlying33, DataW.weightsEach] at this ⊢
        simp only [Array.toList, List.map, DataW.weightsEach, List.mem_append]
        simp [DataW.weights, Try.underlying31]
      have := hw _ (weights_elem Try.underlying22 hmem hwx)
      have hb8 : Try.prog.bytesOf 30 = 8 := by kernel_rfl
      rw [hb8] at this
      omega
end
theorem u64_in {H : Type} {enc : TypeId × Value → H} {w : World} {base : Nat} {spare : Nat → Bool} {held : Bool} {v : Value} {d : DataW H} {p : List MemPlace} {b0 : Nat} (h : DataW.Trod enc Try.prog w base spare held 30 v d p) (hv : Value.okWide Try.prog w .any b0 30 v) : ∃ n : Nat, v = .int .u64 (n : Int) ∧ n < 18446744073709551616 := by
  obtain ⟨a, rfl, _, _, wa⟩ := open_int Try.underlying30 hv h
  have wa' : (0 : Int) ≤ a ∧ a ≤ 18446744073709551615 := by
    have h1 : IntKind.u64.min = 0 := by decide
    have h2 : IntKind.u64.max = 18446744073709551615 := by decide
    simp only [Lit.wf, Bool.and_eq_true, decide_eq_true_eq, h1, h2] at wa
    exact wa
  exact ⟨a.toNat, by rw [Int.toNat_of_nonneg wa'.1], by omega⟩
end Go.Proofs.Ytkladgpaicolnaa
/-! Rules: a loop over a map that carries a value. No program stands here. -/
namespace SG
open Go Go.RowKit Go.Lib
set_option linter.unusedSimpArgs false
set_option linter.unusedVariables false
section
variable {κ ν : Type} {P : Program} {f : κ → Value} {g : ν → Value} {w : World} {r b : Nat} {m : List (κ × ν)}
theorem iterLoop1 (it : IterR w r b f g m []) {X : Value → Value → (Value → World → Prop) → World → Prop} {Kend : Value → World → Prop} (I : List (κ × ν) → Value → World → Prop) {v0 : Value} (h0 : I [] v0 w) (ty : TypeId)
    (hI : ∀ done v w' w'', I done v w' → IterR w' r b f g m done → Ext (At1 r) w' w'' → I done v w'')
    (hround : ∀ done v p w', p ∈ m → p ∉ done → IterR w' r b f g m (done ++ [p]) → I done v w' → ∀ L : Value → World → Prop, (∀ v' w'', IterR w'' r b f g m (done ++ [p]) → I (done ++ [p]) v' w'' → L v' w'') → X (.tuple [f p.1, g p.2].toArray) v L w')
    (hend : ∀ done v w', done.Perm m → I done v w' → Kend v w') :
    LoopS 1 (fun (L0 : Value → World → Prop) (v : Value) (w : World) => RunS P (Instr.next (.pointer (some ⟨r, 0, none⟩)) false ty) (fun t w => PureS (extractV 0 t) fun c => CondS c (RunS P (Instr.entry (.pointer (some ⟨r, 0, none⟩))) (fun t8 w => X t8 v L0 w) w) (Kend v w)) w) v0 w := by
  classical
  refine loop1 (σ := List (κ × ν)) (fun done v w' => IterR w' r b f g m done ∧ I done v w') (fun done => (m.filter fun q => decide (q ∉ done)).length) [] ⟨it, h0⟩ ?_
  rintro done v w1 ⟨it1, i1⟩ L hL
  refine it1.next ty (fun hp => pur (extract_0 _ _) (condF rfl (hend done v w1 hp i1))) fun p w2 hpm hpd it2 hent e2 z2 => ?_
  refine pur (extract_0 _ _) (condT rfl (hent _ (hround done v p w2 hpm hpd it2 (hI done v w1 w2 i1 it1 e2) L fun v' w3 it3 i3 => hL (done ++ [p]) v' w3 ⟨it3, i3⟩ ?_)))
  exact filt_lt m _ _ (fun x _ hx => by simp at hx ⊢; exact fun h => hx.1 h) p hpm (by simpa using hpd) (by simp)
end
end SG
/-! Snaps: what must come; the law of what is held, walked. -/
namespace Go.Proofs.Ytkladgpaicolnaa
open Go SG Go.RowKit Go.Lib
set_option linter.unusedVariables false
set_option maxRecDepth 4000
set_option linter.unusedSimpArgs false

theorem rise59 : Rise [5, 9] (fun x => x ∈ ([(2, 9), (3, 5)] : List (Int × Nat)).map (·.2)) := ⟨by decide, fun x => by simp [or_comm]⟩
theorem rise9 : Rise [9] (fun x => x ∈ ([(2, 9)] : List (Int × Nat)).map (·.2)) := ⟨by decide, fun x => by simp⟩
set_option maxHeartbeats 1000000 in
/-- lives -/
theorem c17 {w : World} {K : Value → World → Prop} (hK : ∀ w', Ext No w w' → K (.bool true) w') : CallS Try.prog 17 #[] K w := by
  refine s17_call hm ?_
  unfold s17
  refine ListF.new fun g w1 F h1 e1 hF => ?_
  refine eq_nil_ptr Try.underlying43 (condF rfl ?_)
  have go : ∀ {w' w'' : World}, Ext No w w' → Ext F w' w'' → Ext No w w'' := fun e k => e.fresh k fun b hb => .inr (hF b hb)
  refine h1.hold (seq := 5) (by omega) (by omega) (by simp) (by omega) (fun h => by omega) (fun _ h => by simp at h) fun w2 _ _ h2 e2 => ?_
  refine pur (extract_0 _ _) (pur (extract_1 _ _ _) ?_)
  refine h2.hold (seq := 9) (by omega) (by omega) (by decide) (by omega) (fun h => by omega) (fun _ h => by simp at h) fun w3 _ _ h3 e3 => ?_
  refine pur (extract_0 _ _) (pur (extract_1 _ _ _) ?_)
  refine h3.hold (seq := 5) (by omega) (by omega) (by decide) (by omega) (fun h => by omega) (fun _ h => by simp at h) fun w4 _ _ h4 e4 => ?_
  refine pur (extract_0 _ _) (pur (extract_1 _ _ _) ?_)
  have h4' : ListF w4 g [(1, 5), (2, 9), (3, 5)] 3 F := h4
  have e04 := go (go (go e1 e2) e3) e4
  refine pur (v := .bool false) ((bin_neq _ _ _).trans (by simp)) ?_
  refine join1 (fun t w' => w4 = w' ∧ t = .bool false) ?_ fun J0 hJ0 => ifYes' _ _ (pur (v := .bool false) ((bin_neq _ _ _).trans (by simp)) (hJ0 _ _ ⟨rfl, rfl⟩))
  rintro _ _ ⟨rfl, rfl⟩
  refine pur (pick_b _ _ _) ?_
  refine join1 (fun t w' => w4 = w' ∧ t = .bool false) ?_ fun J1 hJ1 => ifYes' _ _ (pur (v := .bool false) ((bin_neq _ _ _).trans (by simp)) (hJ1 _ _ ⟨rfl, rfl⟩))
  rintro _ _ ⟨rfl, rfl⟩
  refine pur (pick_b _ _ _) ?_
  refine join1 (fun t w' => ListF w' g [(2, 9), (3, 5)] 3 F ∧ Ext No w w' ∧ t = .bool false) ?_ fun J2 hJ2 => ifYes' _ _ ?_
  rotate_left
  · refine ListF.free (x := 1) h4' (fun h0 => absurd h0 (by decide)) fun v w5 _ h5 e5 => ?_
    exact pur (v := .bool false) ((bin_neq _ _ _).trans (by simp)) (hJ2 _ _ ⟨h5, go e04 e5, rfl⟩)
  rintro _ w5 ⟨h5, e05, rfl⟩
  refine pur (pick_b _ _ _) ?_
  refine join1 (fun t w' => ListF w' g [(2, 9), (3, 5)] 3 F ∧ Ext No w w' ∧ t = .bool false) ?_ fun J3 hJ3 => ifYes' _ _ ?_
  rotate_left
  · refine h5.All (by simp) fun v w6 fs hr ho e6 => ?_
    obtain rfl := hr.unique rise59
    exact pur (Sl.own ho).len (pur (v := .bool false) ((bin_neq _ _ _).trans (by simp)) (hJ3 _ _ ⟨h5.no e6, e05.trans e6, rfl⟩))
  rintro _ w6 ⟨h6, e06, rfl⟩
  refine pur (pick_b _ _ _) ?_
  refine join1 (fun t w' => ListF w' g [(2, 9)] 3 F ∧ Ext No w w' ∧ t = .bool false) ?_ fun J4 hJ4 => ifYes' _ _ ?_
  rotate_left
  · refine ListF.free (x := 3) h6 (fun h0 => absurd h0 (by decide)) fun v w7 _ h7 e7 => ?_
    exact pur (v := .bool false) ((bin_neq _ _ _).trans (by simp)) (hJ4 _ _ ⟨h7, go e06 e7, rfl⟩)
  rintro _ w7 ⟨h7, e07, rfl⟩
  refine pur (pick_b _ _ _) (condF rfl ?_)
  refine h7.Stripe (by simp) 6 fun w8 fs hr e8 => ?_
  obtain rfl := hr.unique rise9
  have hst : stripeV [9] 6 = .tuple [encE 9, .bool true].toArray := rfl
  rw [hst]
  refine pur (extract_0 _ _) (pur (extract_1 _ _ _) ?_)
  refine (h7.no e8).All (by simp) fun v w9 fs hr ho e9 => ?_
  obtain rfl := hr.unique rise9
  have e09 := e07.trans (e8.trans e9)
  refine pur (Sl.own ho).len (pur (v := .bool true) ((bin_eql _ _ _).trans (by simp)) ?_)
  refine join1 (fun t w' => w9 = w' ∧ t = .bool true) ?_ fun J5 hJ5 => ifYes _ _ (hJ5 _ _ ⟨rfl, rfl⟩)
  rintro _ _ ⟨rfl, rfl⟩
  refine pur (pick_b _ _ _) ?_
  refine join1 (fun t w' => w9 = w' ∧ t = .bool true) ?_ fun J6 hJ6 => ifYes _ _ (pur (eqE 9 9) (hJ6 _ _ ⟨rfl, by simp⟩))
  rintro _ _ ⟨rfl, rfl⟩
  exact pur (pick_b _ _ _) (hK _ e09)

/-- whether one of the numbers tells two apart -/
theorem stripe_same {fs : List Nat} (hf : fs.Pairwise (· < ·)) {a b : Nat} (hab : a ≤ b) :
    (∃ s c t d, stripeV fs a = .tuple [encE s, .bool c].toArray ∧ stripeV fs b = .tuple [encE t, .bool d].toArray ∧ ((decide (s = t) && (c == d)) = !decide (∃ y ∈ fs, a ≤ y ∧ y < b))) := by
  by_cases hx : ∃ y ∈ fs, a ≤ y ∧ y < b
  · obtain ⟨y, hy, h1, h2⟩ := hx
    obtain ⟨s, hs⟩ : ∃ s, fs.find? (fun z => decide (a ≤ z)) = some s := by
      cases h : fs.find? (fun z => decide (a ≤ z)) with
      | some s => exact ⟨s, rfl⟩
      | none =>
        have := List.find?_eq_none.1 h y hy
        simp at this; omega
    have hsy : s ≤ y := by
      obtain ⟨l1, l2, hab', hlo⟩ := (List.find?_eq_some_iff_append.1 hs).2
      rw [hab'] at hy hf
      rcases List.mem_append.1 hy with hy | hy
      · have := hlo y hy; simp at this; omega
      · rcases List.mem_cons.1 hy with rfl | hy
        · exact Nat.le_refl _
        · have := (List.pairwise_append.1 hf).2.1
          exact Nat.le_of_lt ((List.pairwise_cons.1 this).1 y hy)
    cases ht : fs.find? (fun z => decide (b ≤ z)) with
    | none => exact ⟨s, true, 0, false, by unfold stripeV; rw [hs], by unfold stripeV; rw [ht]; rfl, by rw [decide_eq_true (⟨y, hy, h1, h2⟩ : ∃ y ∈ fs, a ≤ y ∧ y < b)]; simp⟩
    | some t =>
      have hbt : b ≤ t := by have := List.find?_some ht; simpa using this
      refine ⟨s, true, t, true, by unfold stripeV; rw [hs], by unfold stripeV; rw [ht], ?_⟩
      rw [decide_eq_true (⟨y, hy, h1, h2⟩ : ∃ y ∈ fs, a ≤ y ∧ y < b), decide_eq_false (show ¬ s = t by omega)]; simp
  · have : fs.find? (fun z => decide (a ≤ z)) = fs.find? (fun z => decide (b ≤ z)) := by
      have key : ∀ l : List Nat, (∀ y ∈ l, y ∈ fs) → l.find? (fun z => decide (a ≤ z)) = l.find? (fun z => decide (b ≤ z)) := fun l => by
        induction l with
        | nil => intro _; rfl
        | cons y l ih =>
          intro hl
          rw [List.find?_cons, List.find?_cons]
          have hyf := hl y (by simp)
          have : decide (a ≤ y) = decide (b ≤ y) := by
            rw [decide_eq_decide]
            exact ⟨fun h => Nat.le_of_not_lt fun hlt => hx ⟨y, hyf, h, hlt⟩, fun h => Nat.le_trans hab h⟩
          rw [this, ih fun z hz => hl z (List.mem_cons_of_mem _ hz)]
      exact key fs fun _ h => h
    obtain ⟨s, c, hsc⟩ : ∃ (y : Nat) (c : Bool), stripeV fs b = .tuple [encE y, .bool c].toArray := by
      unfold stripeV
      split
      · exact ⟨_, _, rfl⟩
      · exact ⟨0, _, rfl⟩
    refine ⟨s, c, s, c, ?_, hsc, ?_⟩
    · rw [← hsc]; unfold stripeV; rw [this]
    · rw [decide_eq_false hx]; simp
end Go.Proofs.Ytkladgpaicolnaa
/-! Lists of what ever was, with marks of what still is. No program stands here. -/
namespace SG
open Go Go.RowKit Go.Lib
set_option linter.unusedSimpArgs false
set_option linter.unusedVariables false
variable {β : Type}
def mOfB : Nat → List (β × Bool) → List (Int × β)
  | _, [] => []
  | k, (v, c) :: r => if c then (((k + 1 : Nat) : Int), v) :: mOfB (k + 1) r else mOfB (k + 1) r
theorem mOfB_append (k : Nat) : ∀ (a b : List (β × Bool)), mOfB k (a ++ b) = mOfB k a ++ mOfB (k + a.length) b
  | [], b => by simp [mOfB]
  | (v, c) :: a, b => by
    have ih := mOfB_append (k + 1) a b
    simp only [List.cons_append, mOfB, List.length_cons]
    rw [ih, show k + 1 + a.length = k + (a.length + 1) by omega]
    split <;> simp
theorem mOfB_key {k : Nat} : ∀ {xs : List (β × Bool)} {p : Int × β}, p ∈ mOfB k xs → (k : Int) < p.1 ∧ p.1 ≤ ((k + xs.length : Nat) : Int)
  | [], p, h => by simp [mOfB] at h
  | (v, c) :: xs, p, h => by
    simp only [mOfB] at h
    have ih : p ∈ mOfB (k + 1) xs → (k : Int) < p.1 ∧ p.1 ≤ ((k + ((v, c) :: xs).length : Nat) : Int) := fun h => by
      have := mOfB_key (k := k + 1) h
      simp only [List.length_cons]; omega
    split at h
    · rcases List.mem_cons.1 h with rfl | h
      · simp only [List.length_cons]; omega
      · exact ih h
    · exact ih h
theorem mOfB_keys (k : Nat) : ∀ (xs : List (β × Bool)), Keys (mOfB k xs)
  | [] => by simp [mOfB, Keys]
  | (v, c) :: xs => by
    have ih := mOfB_keys (k + 1) xs
    simp only [mOfB]
    split
    · refine List.nodup_cons.2 ⟨fun hm' => ?_, ih⟩
      obtain ⟨p, hp, hpe⟩ := List.mem_map.1 hm'
      have h1 := (mOfB_key hp).1
      have h2 : p.1 = ((k + 1 : Nat) : Int) := hpe
      omega
    · exact ih
theorem mOfB_get (k : Nat) : ∀ (xs : List (β × Bool)) (i : Nat), mget (mOfB k xs) (((k + 1 + i : Nat)) : Int) = (xs[i]?).bind fun p => if p.2 then some p.1 else none
  | [], i => by simp [mOfB, mget]
  | (v, c) :: xs, 0 => by
    simp only [mOfB, List.getElem?_cons_zero, Option.bind_some]
    split
    · rw [mget_cons, if_pos (by simp)]
    · refine mget_none.2 fun hm' => ?_
      obtain ⟨p, hp, hpe⟩ := List.mem_map.1 hm'
      have h1 := (mOfB_key hp).1
      have h2 : p.1 = ((k + 1 + 0 : Nat) : Int) := hpe
      omega
  | (v, c) :: xs, i + 1 => by
    have ih := mOfB_get (k + 1) xs i
    simp only [List.getElem?_cons_succ]
    rw [show k + 1 + (i + 1) = k + 1 + 1 + i by omega, ← ih]
    simp only [mOfB]
    split
    · rw [mget_cons, if_neg (by simp only; omega)]
    · rfl
theorem mOfB_out {k : Nat} {xs : List (β × Bool)} {h : Int} (hh : h ≤ k ∨ ((k + xs.length : Nat) : Int) < h) : mget (mOfB k xs) h = none := mget_none.2 fun hm' => by
  obtain ⟨p, hp, hpe⟩ := List.mem_map.1 hm'
  have h1 := mOfB_key hp
  have h2 : p.1 = h := hpe
  omega
/-- a handle lets go -/
theorem mOfB_free (k : Nat) : ∀ (xs : List (β × Bool)) (i : Nat) (v : β), xs[i]? = some (v, true) → mOfB k (xs.set i (v, false)) = mdel (mOfB k xs) (((k + 1 + i : Nat)) : Int)
  | [], i, v, h => by simp at h
  | (u, c) :: xs, 0, v, h => by
    simp only [List.getElem?_cons_zero, Option.some.injEq, Prod.mk.injEq] at h
    obtain ⟨rfl, rfl⟩ := h
    simp only [List.set_cons_zero, mOfB, if_true]
    rw [if_neg (by simp)]
    have : mdel ((((k + 1 : Nat) : Int), u) :: mOfB (k + 1) xs) (((k + 1 + 0 : Nat)) : Int) = mdel (mOfB (k + 1) xs) (((k + 1 + 0 : Nat)) : Int) := by simp [mdel]
    rw [this, mdel_out fun hm' => ?_]
    obtain ⟨p, hp, hpe⟩ := List.mem_map.1 hm'
    have h1 := (mOfB_key hp).1
    have h2 : p.1 = ((k + 1 + 0 : Nat) : Int) := hpe
    omega
  | (u, c) :: xs, i + 1, v, h => by
    have ih := mOfB_free (k + 1) xs i v (by simpa using h)
    simp only [List.set_cons_succ, mOfB]
    rw [show k + 1 + (i + 1) = k + 1 + 1 + i by omega, ih]
    split
    · have hne : ((k + 1 : Nat) : Int) ≠ ((k + 1 + 1 + i : Nat) : Int) := by omega
      unfold mdel
      rw [List.filter_cons, if_pos (by simpa using hne)]
    · rfl
theorem mOfB_vals (k : Nat) : ∀ (xs : List (β × Bool)), (mOfB k xs).map (·.2) = (xs.filter (·.2)).map (·.1)
  | [] => by simp [mOfB]
  | (v, c) :: xs => by
    have ih := mOfB_vals (k + 1) xs
    cases c <;> simp [mOfB, ih]
theorem mOfB_len (k : Nat) (xs : List (β × Bool)) : (mOfB k xs).length = (xs.filter (·.2)).length := by
  have := congrArg List.length (mOfB_vals k xs)
  simpa using this

end SG
/-! Snaps: how often a file is needed. -/
namespace Go.Proofs.Ytkladgpaicolnaa
open Go SG Go.RowKit Go.Lib
set_option linter.unusedVariables false
set_option maxRecDepth 4000
set_option linter.unusedSimpArgs false

/-- how often f is in the lists that are held -/
def tm (hs : List (List Nat × Bool)) (f : Nat) : Nat := (hs.map fun p => if p.2 then p.1.count f else 0).sum
def tot (hs : List (List Nat × Bool)) : Nat := (hs.map fun p => p.1.length).sum
def tmO (hs : List (List Nat × Bool)) (f : Nat) : Option Int := if tm hs f = 0 then none else some (tm hs f : Int)
theorem tm_append (a b : List (List Nat × Bool)) (f : Nat) : tm (a ++ b) f = tm a f + tm b f := by simp [tm]
theorem tot_append (a b : List (List Nat × Bool)) : tot (a ++ b) = tot a + tot b := by simp [tot]
theorem tm_one (fs : List Nat) (f : Nat) : tm [(fs, true)] f = fs.count f := by simp [tm]
theorem tm_le (hs : List (List Nat × Bool)) (f : Nat) : tm hs f ≤ tot hs := by
  induction hs with
  | nil => simp [tm, tot]
  | cons p hs ih =>
    have : tm (p :: hs) f = (if p.2 then p.1.count f else 0) + tm hs f := by simp [tm]
    have h2 : tot (p :: hs) = p.1.length + tot hs := by simp [tot]
    have h3 : p.1.count f ≤ p.1.length := List.count_le_length
    rw [this, h2]
    split <;> omega
theorem tm_set : ∀ {hs : List (List Nat × Bool)} {i : Nat} {fs : List Nat}, hs[i]? = some (fs, true) → ∀ f, tm (hs.set i (fs, false)) f + fs.count f = tm hs f
  | [], i, fs, h, f => by simp at h
  | p :: hs, 0, fs, h, f => by
    simp only [List.getElem?_cons_zero, Option.some.injEq] at h
    subst h
    simp [tm]; omega
  | p :: hs, i + 1, fs, h, f => by
    have ih := tm_set (hs := hs) (i := i) (fs := fs) (by simpa using h) f
    simp only [tm, List.set_cons_succ, List.map_cons, List.sum_cons] at ih ⊢
    omega
theorem tot_set : ∀ {hs : List (List Nat × Bool)} {i : Nat} {fs : List Nat}, hs[i]? = some (fs, true) → tot (hs.set i (fs, false)) = tot hs
  | [], i, fs, h => by simp at h
  | p :: hs, 0, fs, h => by
    simp only [List.getElem?_cons_zero, Option.some.injEq] at h
    subst h
    simp [tot]
  | p :: hs, i + 1, fs, h => by
    have ih := tot_set (hs := hs) (i := i) (fs := fs) (by simpa using h)
    simp only [tot, List.set_cons_succ, List.map_cons, List.sum_cons] at ih ⊢
    omega
theorem tm_ge {hs : List (List Nat × Bool)} {i : Nat} {fs : List Nat} (h : hs[i]? = some (fs, true)) (f : Nat) : fs.count f ≤ tm hs f := by have := tm_set h f; omega
theorem tm_pos {hs : List (List Nat × Bool)} {f : Nat} : 0 < tm hs f ↔ ∃ p ∈ hs, p.2 = true ∧ f ∈ p.1 := by
  induction hs with
  | nil => simp [tm]
  | cons p hs ih =>
    have : tm (p :: hs) f = (if p.2 then p.1.count f else 0) + tm hs f := by simp [tm]
    rw [this]
    constructor
    · intro h
      by_cases h1 : 0 < tm hs f
      · obtain ⟨q, hq, h2⟩ := ih.1 h1
        exact ⟨q, List.mem_cons_of_mem _ hq, h2⟩
      · cases hp : p.2 with
        | false => rw [hp] at h; simp at h; omega
        | true =>
          rw [hp, if_pos rfl] at h
          exact ⟨p, by simp, hp, List.count_pos_iff.1 (by omega)⟩
    · rintro ⟨q, hq, h2, h3⟩
      rcases List.mem_cons.1 hq with rfl | hq
      · rw [if_pos h2]
        have := List.count_pos_iff.2 h3; omega
      · have := ih.2 ⟨q, hq, h2, h3⟩; omega
theorem count_take_succ {fs : List Nat} {i f g : Nat} (h : fs[i]? = some g) : (fs.take (i + 1)).count f = (fs.take i).count f + if g = f then 1 else 0 := by
  rw [List.take_add_one, h, List.count_append]
  simp only [Option.toList_some, List.count_singleton]
  by_cases hh : g = f <;> simp [hh]
theorem count_take_le (fs : List Nat) (i f : Nat) : (fs.take i).count f ≤ fs.count f := (List.take_sublist i fs).count_le f
end Go.Proofs.Ytkladgpaicolnaa
