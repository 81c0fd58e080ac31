/-
  No cell of these rows narrows 'for every input' (looked for: loops, veiled, ifaces, maps, wideKeys, modest, calm, conditions, laid).
  DERIVED. THE GIVEN ROWS OF THIS SEAT. 3 by the template 'for every input the law returns true; each argument reads behind the call as it read before'; 0 by the template 'total and deterministic' (their statements: YthohdinjpkehpaaGreatTotals.lean).
  GIVEN WITH THE SEED: the statements are not yours to turn. If you find one false, say at which input.
  Laid BY PROGRAM, IN A SANDBOX (cutbox-rows.mjs): the forced cells as the released guide's own fill.sh prints them over the translation 220fc083510dc2f9… (all of the seat's roots in one cut). By AI agents, Wed Nov 11 2026. No macro, syntax, notation, axiom, sorry.
-/
import Derived.Test.YthohdinjpkehpaaGreatChecked
import GoSem.Claim
import GoSem.ClaimJoined
import GoSem.ClaimMapViews
import Derived.JoinedTies
import Derived.KernelRfl
namespace Go.Proofs.YthohdinjpkehpaaGreat
/- THE CELL 'sum', in the pinned program and in every row, IS THE sha256 OF THE DUMP (.gsa) THAT YthohdinjpkehpaaGreatProg.lean LOADS. Nothing in Lean hashes anything: it is a label: what it is worth is what the hold of that sum in a sandbox is worth. -/
noncomputable def Tryz.pinned : Pinned := { name := "ythohdinjpkehpaagreat", sum := "220fc083510dc2f9dbd48971d4fa9c2cbcf813aac3656311fe53204fcf9ca1f9", checked := Tryz.checked }
namespace Rows
def none {H : Type} : Left H := { results := [], args := [] }

/-- 'sedimentlaw02.DiskOnce': WHATEVER THE INPUT: true; the input reads as it did. -/
def diskOnceSpec : ChangeSpec := { name := "diskOnce", fn := fun _ => fun
  | [d1, d2, d3, d4, d5] => { results := [.lit (.bool true)], args := [d1, d2, d3, d4, d5] }
  | _ => none }
def diskOnceRow : OpenClaim := { program := "ythohdinjpkehpaagreat", sum := "220fc083510dc2f9dbd48971d4fa9c2cbcf813aac3656311fe53204fcf9ca1f9", func := "sediment/sedimentlaw02.DiskOnce", spec := "diskOnce", inPlace := ["internal/bytealg.IndexByteString", "internal/bytealg.IndexString", "maps.clone"], unfollowed := true, recurses := true, named := ["internal/bytealg.MaxLen"], apart := false }
def DiskOnceSaid : Prop := diskOnceRow.holds Tryz.pinned (OpenSpec.ofChange diskOnceSpec)

/-- ITS FALSE NEIGHBOUR: 'it returns false'. Refute it at one input. -/
def diskOnceWrong : ChangeSpec := { name := "diskOnce", fn := fun _ => fun
  | [d1, d2, d3, d4, d5] => { results := [.lit (.bool false)], args := [d1, d2, d3, d4, d5] }
  | _ => none }
def DiskOnceWrongFalsely : Prop := diskOnceRow.holds Tryz.pinned (OpenSpec.ofChange diskOnceWrong)

/-- 'sedimentlaw02.DiskAll': WHATEVER THE INPUT: true; the input reads as it did. -/
def diskAllSpec : ChangeSpec := { name := "diskAll", fn := fun _ => fun
  | [d1, d2] => { results := [.lit (.bool true)], args := [d1, d2] }
  | _ => none }
def diskAllRow : OpenClaim := { program := "ythohdinjpkehpaagreat", sum := "220fc083510dc2f9dbd48971d4fa9c2cbcf813aac3656311fe53204fcf9ca1f9", func := "sediment/sedimentlaw02.DiskAll", spec := "diskAll", inPlace := ["internal/bytealg.IndexByteString", "internal/bytealg.IndexString", "maps.clone"], unfollowed := true, recurses := true, named := ["internal/bytealg.MaxLen"], apart := false }
def DiskAllSaid : Prop := diskAllRow.holds Tryz.pinned (OpenSpec.ofChange diskAllSpec)

/-- ITS FALSE NEIGHBOUR: 'it returns false'. Refute it at one input. -/
def diskAllWrong : ChangeSpec := { name := "diskAll", fn := fun _ => fun
  | [d1, d2] => { results := [.lit (.bool false)], args := [d1, d2] }
  | _ => none }
def DiskAllWrongFalsely : Prop := diskAllRow.holds Tryz.pinned (OpenSpec.ofChange diskAllWrong)

/-- 'sedimentlaw02.DiskFast': WHATEVER THE INPUT: true; the input reads as it did. -/
def diskFastSpec : ChangeSpec := { name := "diskFast", fn := fun _ => fun
  | [d1, d2, d3, d4] => { results := [.lit (.bool true)], args := [d1, d2, d3, d4] }
  | _ => none }
def diskFastRow : OpenClaim := { program := "ythohdinjpkehpaagreat", sum := "220fc083510dc2f9dbd48971d4fa9c2cbcf813aac3656311fe53204fcf9ca1f9", func := "sediment/sedimentlaw02.DiskFast", spec := "diskFast", inPlace := ["internal/bytealg.IndexByteString", "internal/bytealg.IndexString", "maps.clone"], unfollowed := true, recurses := true, named := ["internal/bytealg.MaxLen"], apart := false }
def DiskFastSaid : Prop := diskFastRow.holds Tryz.pinned (OpenSpec.ofChange diskFastSpec)

/-- ITS FALSE NEIGHBOUR: 'it returns false'. Refute it at one input. -/
def diskFastWrong : ChangeSpec := { name := "diskFast", fn := fun _ => fun
  | [d1, d2, d3, d4] => { results := [.lit (.bool false)], args := [d1, d2, d3, d4] }
  | _ => none }
def DiskFastWrongFalsely : Prop := diskFastRow.holds Tryz.pinned (OpenSpec.ofChange diskFastWrong)

/- THE SECOND FORM. 'bulk': how many values and letters a reading holds, each counted each time it is reached (what is shared counts as often as it is met; a slice's spare places count too). A statement '..UptoSaid' is the law's where the arguments, and the package variables that the reading takes, are together of bulk at most 1048576: NARROWER than '..Said'. Prove '..Said' where nothing that the law and all that it calls make is longer than what came in: it says more and counts as full. Else prove '..UptoSaid'. A law counts once. -/
mutual
def uptoBulk {H : Type} : DataW H → Nat
  | .lit (.string bytes) => bytes.length + 1
  | .lit _ => 1
  | .nil => 1
  | .ptr d => uptoBulk d + 1
  | .slice elems spare => uptoBulkAll elems + uptoBulkAll spare + 1
  | .agg parts => uptoBulkAll parts + 1
  | .iface _ d => uptoBulk d + 1
  | .map entries => uptoBulkEntries entries + 1
  | .held _ => 1
def uptoBulkAll {H : Type} : List (DataW H) → Nat
  | [] => 0
  | d :: r => uptoBulk d + uptoBulkAll r
def uptoBulkEntries {H : Type} : List (Lit × DataW H) → Nat
  | [] => 0
  | x :: r => uptoBulkEntry x + uptoBulkEntries r
def uptoBulkEntry {H : Type} : Lit × DataW H → Nat
  | (.string bytes, d) => bytes.length + uptoBulk d + 1
  | (_, d) => uptoBulk d + 1
 end
def uptoSmall : (H : Type) → List (DataW H) → Bool := fun _ ds => decide (uptoBulkAll ds ≤ 1048576)
def OpenSpec.upto (s : _root_.Go.ChangeSpec) : _root_.Go.OpenSpec := { _root_.Go.OpenSpec.ofChange s with cond := some uptoSmall }

/-- 'sedimentlaw02.DiskOnce', WHERE WHAT IT READS IS OF BULK AT MOST 1048576: true; the input reads as it did. -/
def diskOnceUptoRow : OpenClaim := { program := "ythohdinjpkehpaagreat", sum := "220fc083510dc2f9dbd48971d4fa9c2cbcf813aac3656311fe53204fcf9ca1f9", func := "sediment/sedimentlaw02.DiskOnce", spec := "diskOnce", inPlace := ["internal/bytealg.IndexByteString", "internal/bytealg.IndexString", "maps.clone"], unfollowed := true, recurses := true, named := ["internal/bytealg.MaxLen"], apart := false, narrowed := true }
def DiskOnceUptoSaid : Prop := diskOnceUptoRow.holds Tryz.pinned (OpenSpec.upto diskOnceSpec)

/-- 'sedimentlaw02.DiskAll', WHERE WHAT IT READS IS OF BULK AT MOST 1048576: true; the input reads as it did. -/
def diskAllUptoRow : OpenClaim := { program := "ythohdinjpkehpaagreat", sum := "220fc083510dc2f9dbd48971d4fa9c2cbcf813aac3656311fe53204fcf9ca1f9", func := "sediment/sedimentlaw02.DiskAll", spec := "diskAll", inPlace := ["internal/bytealg.IndexByteString", "internal/bytealg.IndexString", "maps.clone"], unfollowed := true, recurses := true, named := ["internal/bytealg.MaxLen"], apart := false, narrowed := true }
def DiskAllUptoSaid : Prop := diskAllUptoRow.holds Tryz.pinned (OpenSpec.upto diskAllSpec)

/-- 'sedimentlaw02.DiskFast', WHERE WHAT IT READS IS OF BULK AT MOST 1048576: true; the input reads as it did. -/
def diskFastUptoRow : OpenClaim := { program := "ythohdinjpkehpaagreat", sum := "220fc083510dc2f9dbd48971d4fa9c2cbcf813aac3656311fe53204fcf9ca1f9", func := "sediment/sedimentlaw02.DiskFast", spec := "diskFast", inPlace := ["internal/bytealg.IndexByteString", "internal/bytealg.IndexString", "maps.clone"], unfollowed := true, recurses := true, named := ["internal/bytealg.MaxLen"], apart := false, narrowed := true }
def DiskFastUptoSaid : Prop := diskFastUptoRow.holds Tryz.pinned (OpenSpec.upto diskFastSpec)

end Rows
end Go.Proofs.YthohdinjpkehpaaGreat
