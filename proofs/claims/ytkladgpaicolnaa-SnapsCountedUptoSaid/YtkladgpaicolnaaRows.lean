/-
  No cell of these rows narrows 'for every input' (looked for: loops, veiled, ifaces, maps, wideKeys, modest, calm, conditions, laid).
  DERIVED. THE GIVEN ROWS OF THIS SEAT. 4 by the template 'for every input the law returns true; each argument reads behind the call as it read before'; 0 by the template 'total and deterministic' (their statements: YtkladgpaicolnaaTotals.lean).
  GIVEN WITH THE SEED: the statements are not yours to turn. If you find one false, say at which input.
  Laid BY PROGRAM, IN A SANDBOX (cutbox-rows.mjs): the forced cells as the released guide's own fill.sh prints them over the translation b362763ef632890f… (all of the seat's roots in one cut). By AI agents, Wed Nov 11 2026. No macro, syntax, notation, axiom, sorry.
-/
import Derived.Test.YtkladgpaicolnaaChecked
import GoSem.Claim
import GoSem.ClaimJoined
import GoSem.ClaimMapViews
import Derived.JoinedTies
import Derived.KernelRfl
namespace Go.Proofs.Ytkladgpaicolnaa
/- THE CELL 'sum', in the pinned program and in every row, IS THE sha256 OF THE DUMP (.gsa) THAT YtkladgpaicolnaaProg.lean LOADS. Nothing in Lean hashes anything: it is a label: what it is worth is what the hold of that sum in a sandbox is worth. -/
noncomputable def Try.pinned : Pinned := { name := "ytkladgpaicolnaa", sum := "b362763ef632890f0c09f221cbcc0542f4c70ddcde2479e4ff2e61159260b0b2", checked := Try.checked }
namespace Rows
def none {H : Type} : Left H := { results := [], args := [] }

/-- 'sedimentlaw22.SnapsRefs': WHATEVER THE INPUT: true; the input reads as it did. -/
def snapsRefsSpec : ChangeSpec := { name := "snapsRefs", fn := fun _ => fun
  | [d] => { results := [.lit (.bool true)], args := [d] }
  | _ => none }
def snapsRefsRow : OpenClaim := { program := "ytkladgpaicolnaa", sum := "b362763ef632890f0c09f221cbcc0542f4c70ddcde2479e4ff2e61159260b0b2", func := "sediment/sedimentlaw22.SnapsRefs", spec := "snapsRefs", unfollowed := true, recurses := true, apart := false }
def SnapsRefsSaid : Prop := snapsRefsRow.holds Try.pinned (OpenSpec.ofChange snapsRefsSpec)

/-- ITS FALSE NEIGHBOUR: 'it returns false'. Refute it at one input. -/
def snapsRefsWrong : ChangeSpec := { name := "snapsRefs", fn := fun _ => fun
  | [d] => { results := [.lit (.bool false)], args := [d] }
  | _ => none }
def SnapsRefsWrongFalsely : Prop := snapsRefsRow.holds Try.pinned (OpenSpec.ofChange snapsRefsWrong)

/-- 'sedimentlaw22.SnapsHeld': WHATEVER THE INPUT: true; the input reads as it did. -/
def snapsHeldSpec : ChangeSpec := { name := "snapsHeld", fn := fun _ => fun
  | [d1, d2, d3] => { results := [.lit (.bool true)], args := [d1, d2, d3] }
  | _ => none }
def snapsHeldRow : OpenClaim := { program := "ytkladgpaicolnaa", sum := "b362763ef632890f0c09f221cbcc0542f4c70ddcde2479e4ff2e61159260b0b2", func := "sediment/sedimentlaw22.SnapsHeld", spec := "snapsHeld", unfollowed := true, recurses := true, apart := false }
def SnapsHeldSaid : Prop := snapsHeldRow.holds Try.pinned (OpenSpec.ofChange snapsHeldSpec)

/-- ITS FALSE NEIGHBOUR: 'it returns false'. Refute it at one input. -/
def snapsHeldWrong : ChangeSpec := { name := "snapsHeld", fn := fun _ => fun
  | [d1, d2, d3] => { results := [.lit (.bool false)], args := [d1, d2, d3] }
  | _ => none }
def SnapsHeldWrongFalsely : Prop := snapsHeldRow.holds Try.pinned (OpenSpec.ofChange snapsHeldWrong)

/-- 'sedimentlaw22.SnapsAll': WHATEVER THE INPUT: true; the input reads as it did. -/
def snapsAllSpec : ChangeSpec := { name := "snapsAll", fn := fun _ => fun
  | [d] => { results := [.lit (.bool true)], args := [d] }
  | _ => none }
def snapsAllRow : OpenClaim := { program := "ytkladgpaicolnaa", sum := "b362763ef632890f0c09f221cbcc0542f4c70ddcde2479e4ff2e61159260b0b2", func := "sediment/sedimentlaw22.SnapsAll", spec := "snapsAll", unfollowed := true, recurses := true, apart := false }
def SnapsAllSaid : Prop := snapsAllRow.holds Try.pinned (OpenSpec.ofChange snapsAllSpec)

/-- ITS FALSE NEIGHBOUR: 'it returns false'. Refute it at one input. -/
def snapsAllWrong : ChangeSpec := { name := "snapsAll", fn := fun _ => fun
  | [d] => { results := [.lit (.bool false)], args := [d] }
  | _ => none }
def SnapsAllWrongFalsely : Prop := snapsAllRow.holds Try.pinned (OpenSpec.ofChange snapsAllWrong)

/-- 'sedimentlaw22.SnapsCounted': WHATEVER THE INPUT: true; the input reads as it did. -/
def snapsCountedSpec : ChangeSpec := { name := "snapsCounted", fn := fun _ => fun
  | [d] => { results := [.lit (.bool true)], args := [d] }
  | _ => none }
def snapsCountedRow : OpenClaim := { program := "ytkladgpaicolnaa", sum := "b362763ef632890f0c09f221cbcc0542f4c70ddcde2479e4ff2e61159260b0b2", func := "sediment/sedimentlaw22.SnapsCounted", spec := "snapsCounted", unfollowed := true, recurses := true, apart := false }
def SnapsCountedSaid : Prop := snapsCountedRow.holds Try.pinned (OpenSpec.ofChange snapsCountedSpec)

/-- ITS FALSE NEIGHBOUR: 'it returns false'. Refute it at one input. -/
def snapsCountedWrong : ChangeSpec := { name := "snapsCounted", fn := fun _ => fun
  | [d] => { results := [.lit (.bool false)], args := [d] }
  | _ => none }
def SnapsCountedWrongFalsely : Prop := snapsCountedRow.holds Try.pinned (OpenSpec.ofChange snapsCountedWrong)

/- THE SECOND FORM. 'bulk': how many values and letters a reading holds, each counted each time it is reached (what is shared counts as often as it is met; a slice's spare places count too). A statement '..UptoSaid' is the law's where the arguments, and the package variables that the reading takes, are together of bulk at most 1048576: NARROWER than '..Said'. Prove '..Said' where nothing that the law and all that it calls make is longer than what came in: it says more and counts as full. Else prove '..UptoSaid'. A law counts once. -/
mutual
def uptoBulk {H : Type} : DataW H → Nat
  | .lit (.string bytes) => bytes.length + 1
  | .lit _ => 1
  | .nil => 1
  | .ptr d => uptoBulk d + 1
  | .slice elems spare => uptoBulkAll elems + uptoBulkAll spare + 1
  | .agg parts => uptoBulkAll parts + 1
  | .iface _ d => uptoBulk d + 1
  | .map entries => uptoBulkEntries entries + 1
  | .held _ => 1
def uptoBulkAll {H : Type} : List (DataW H) → Nat
  | [] => 0
  | d :: r => uptoBulk d + uptoBulkAll r
def uptoBulkEntries {H : Type} : List (Lit × DataW H) → Nat
  | [] => 0
  | x :: r => uptoBulkEntry x + uptoBulkEntries r
def uptoBulkEntry {H : Type} : Lit × DataW H → Nat
  | (.string bytes, d) => bytes.length + uptoBulk d + 1
  | (_, d) => uptoBulk d + 1
 end
def uptoSmall : (H : Type) → List (DataW H) → Bool := fun _ ds => decide (uptoBulkAll ds ≤ 1048576)
def OpenSpec.upto (s : _root_.Go.ChangeSpec) : _root_.Go.OpenSpec := { _root_.Go.OpenSpec.ofChange s with cond := some uptoSmall }

/-- 'sedimentlaw22.SnapsRefs', WHERE WHAT IT READS IS OF BULK AT MOST 1048576: true; the input reads as it did. -/
def snapsRefsUptoRow : OpenClaim := { program := "ytkladgpaicolnaa", sum := "b362763ef632890f0c09f221cbcc0542f4c70ddcde2479e4ff2e61159260b0b2", func := "sediment/sedimentlaw22.SnapsRefs", spec := "snapsRefs", unfollowed := true, recurses := true, apart := false, narrowed := true }
def SnapsRefsUptoSaid : Prop := snapsRefsUptoRow.holds Try.pinned (OpenSpec.upto snapsRefsSpec)

/-- 'sedimentlaw22.SnapsHeld', WHERE WHAT IT READS IS OF BULK AT MOST 1048576: true; the input reads as it did. -/
def snapsHeldUptoRow : OpenClaim := { program := "ytkladgpaicolnaa", sum := "b362763ef632890f0c09f221cbcc0542f4c70ddcde2479e4ff2e61159260b0b2", func := "sediment/sedimentlaw22.SnapsHeld", spec := "snapsHeld", unfollowed := true, recurses := true, apart := false, narrowed := true }
def SnapsHeldUptoSaid : Prop := snapsHeldUptoRow.holds Try.pinned (OpenSpec.upto snapsHeldSpec)

/-- 'sedimentlaw22.SnapsAll', WHERE WHAT IT READS IS OF BULK AT MOST 1048576: true; the input reads as it did. -/
def snapsAllUptoRow : OpenClaim := { program := "ytkladgpaicolnaa", sum := "b362763ef632890f0c09f221cbcc0542f4c70ddcde2479e4ff2e61159260b0b2", func := "sediment/sedimentlaw22.SnapsAll", spec := "snapsAll", unfollowed := true, recurses := true, apart := false, narrowed := true }
def SnapsAllUptoSaid : Prop := snapsAllUptoRow.holds Try.pinned (OpenSpec.upto snapsAllSpec)

/-- 'sedimentlaw22.SnapsCounted', WHERE WHAT IT READS IS OF BULK AT MOST 1048576: true; the input reads as it did. -/
def snapsCountedUptoRow : OpenClaim := { program := "ytkladgpaicolnaa", sum := "b362763ef632890f0c09f221cbcc0542f4c70ddcde2479e4ff2e61159260b0b2", func := "sediment/sedimentlaw22.SnapsCounted", spec := "snapsCounted", unfollowed := true, recurses := true, apart := false, narrowed := true }
def SnapsCountedUptoSaid : Prop := snapsCountedUptoRow.holds Try.pinned (OpenSpec.upto snapsCountedSpec)

end Rows
end Go.Proofs.Ytkladgpaicolnaa
