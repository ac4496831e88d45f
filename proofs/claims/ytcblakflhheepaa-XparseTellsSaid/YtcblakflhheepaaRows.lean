/-
  No cell of these rows narrows 'for every input' (looked for: loops, veiled, ifaces, maps, wideKeys, modest, calm, conditions, laid).
  DERIVED. THE GIVEN ROWS OF THIS SEAT. 7 by the template 'for every input the law returns true; each argument reads behind the call as it read before'; 0 by the template 'total and deterministic' (their statements: YtcblakflhheepaaTotals.lean).
  GIVEN WITH THE SEED: the statements are not yours to turn. If you find one false, say at which input.
  Laid BY PROGRAM, IN A SANDBOX (cutbox-rows.mjs): the forced cells as the released guide's own fill.sh prints them over the translation 68748adbe6850c3c… (all of the seat's roots in one cut). By AI agents, Wed Nov 11 2026. No macro, syntax, notation, axiom, sorry.
-/
import Derived.Test.YtcblakflhheepaaChecked
import GoSem.Claim
import GoSem.ClaimJoined
import GoSem.ClaimMapViews
import Derived.JoinedTies
import Derived.KernelRfl
namespace Go.Proofs.Ytcblakflhheepaa
/- THE CELL 'sum', in the pinned program and in every row, IS THE sha256 OF THE DUMP (.gsa) THAT YtcblakflhheepaaProg.lean LOADS. Nothing in Lean hashes anything: it is a label: what it is worth is what the hold of that sum in a sandbox is worth. -/
noncomputable def Try.pinned : Pinned := { name := "ytcblakflhheepaa", sum := "68748adbe6850c3c0af5b01c1c5300e659cda0f71bfc97b7e677f5ac88d097dc", checked := Try.checked }
namespace Rows
def none {H : Type} : Left H := { results := [], args := [] }

/-- 'scantlinglaw19.RunsOf': WHATEVER THE INPUT: true; the input reads as it did. -/
def runsOfSpec : ChangeSpec := { name := "runsOf", fn := fun _ => fun
  | [d] => { results := [.lit (.bool true)], args := [d] }
  | _ => none }
def runsOfRow : OpenClaim := { program := "ytcblakflhheepaa", sum := "68748adbe6850c3c0af5b01c1c5300e659cda0f71bfc97b7e677f5ac88d097dc", func := "scantling/scantlinglaw19.RunsOf", spec := "runsOf", unfollowed := true, recurses := true, apart := false }
def RunsOfSaid : Prop := runsOfRow.holds Try.pinned (OpenSpec.ofChange runsOfSpec)

/-- ITS FALSE NEIGHBOUR: 'it returns false'. Refute it at one input. -/
def runsOfWrong : ChangeSpec := { name := "runsOf", fn := fun _ => fun
  | [d] => { results := [.lit (.bool false)], args := [d] }
  | _ => none }
def RunsOfWrongFalsely : Prop := runsOfRow.holds Try.pinned (OpenSpec.ofChange runsOfWrong)

/-- 'scantlinglaw19.RunsMaps': WHATEVER THE INPUT: true; the input reads as it did. -/
def runsMapsSpec : ChangeSpec := { name := "runsMaps", fn := fun _ => fun
  | [d] => { results := [.lit (.bool true)], args := [d] }
  | _ => none }
def runsMapsRow : OpenClaim := { program := "ytcblakflhheepaa", sum := "68748adbe6850c3c0af5b01c1c5300e659cda0f71bfc97b7e677f5ac88d097dc", func := "scantling/scantlinglaw19.RunsMaps", spec := "runsMaps", unfollowed := true, recurses := true, apart := false }
def RunsMapsSaid : Prop := runsMapsRow.holds Try.pinned (OpenSpec.ofChange runsMapsSpec)

/-- ITS FALSE NEIGHBOUR: 'it returns false'. Refute it at one input. -/
def runsMapsWrong : ChangeSpec := { name := "runsMaps", fn := fun _ => fun
  | [d] => { results := [.lit (.bool false)], args := [d] }
  | _ => none }
def RunsMapsWrongFalsely : Prop := runsMapsRow.holds Try.pinned (OpenSpec.ofChange runsMapsWrong)

/-- 'scantlinglaw19.RunsBack': WHATEVER THE INPUT: true; the input reads as it did. -/
def runsBackSpec : ChangeSpec := { name := "runsBack", fn := fun _ => fun
  | [d] => { results := [.lit (.bool true)], args := [d] }
  | _ => none }
def runsBackRow : OpenClaim := { program := "ytcblakflhheepaa", sum := "68748adbe6850c3c0af5b01c1c5300e659cda0f71bfc97b7e677f5ac88d097dc", func := "scantling/scantlinglaw19.RunsBack", spec := "runsBack", unfollowed := true, recurses := true, apart := false }
def RunsBackSaid : Prop := runsBackRow.holds Try.pinned (OpenSpec.ofChange runsBackSpec)

/-- ITS FALSE NEIGHBOUR: 'it returns false'. Refute it at one input. -/
def runsBackWrong : ChangeSpec := { name := "runsBack", fn := fun _ => fun
  | [d] => { results := [.lit (.bool false)], args := [d] }
  | _ => none }
def RunsBackWrongFalsely : Prop := runsBackRow.holds Try.pinned (OpenSpec.ofChange runsBackWrong)

/-- 'scantlinglaw19.RunsMerged': WHATEVER THE INPUT: true; the input reads as it did. -/
def runsMergedSpec : ChangeSpec := { name := "runsMerged", fn := fun _ => fun
  | [d] => { results := [.lit (.bool true)], args := [d] }
  | _ => none }
def runsMergedRow : OpenClaim := { program := "ytcblakflhheepaa", sum := "68748adbe6850c3c0af5b01c1c5300e659cda0f71bfc97b7e677f5ac88d097dc", func := "scantling/scantlinglaw19.RunsMerged", spec := "runsMerged", unfollowed := true, recurses := true, apart := false }
def RunsMergedSaid : Prop := runsMergedRow.holds Try.pinned (OpenSpec.ofChange runsMergedSpec)

/-- ITS FALSE NEIGHBOUR: 'it returns false'. Refute it at one input. -/
def runsMergedWrong : ChangeSpec := { name := "runsMerged", fn := fun _ => fun
  | [d] => { results := [.lit (.bool false)], args := [d] }
  | _ => none }
def RunsMergedWrongFalsely : Prop := runsMergedRow.holds Try.pinned (OpenSpec.ofChange runsMergedWrong)

/-- 'scantlinglaw41.TagScans': WHATEVER THE INPUT: true; the input reads as it did. -/
def tagScansSpec : ChangeSpec := { name := "tagScans", fn := fun _ => fun
  | [d] => { results := [.lit (.bool true)], args := [d] }
  | _ => none }
def tagScansRow : OpenClaim := { program := "ytcblakflhheepaa", sum := "68748adbe6850c3c0af5b01c1c5300e659cda0f71bfc97b7e677f5ac88d097dc", func := "scantling/scantlinglaw41.TagScans", spec := "tagScans", inPlace := ["internal/bytealg.IndexByteString", "internal/bytealg.IndexString"], unfollowed := true, recurses := true, named := ["internal/bytealg.MaxLen"], apart := false }
def TagScansSaid : Prop := tagScansRow.holds Try.pinned (OpenSpec.ofChange tagScansSpec)

/-- ITS FALSE NEIGHBOUR: 'it returns false'. Refute it at one input. -/
def tagScansWrong : ChangeSpec := { name := "tagScans", fn := fun _ => fun
  | [d] => { results := [.lit (.bool false)], args := [d] }
  | _ => none }
def TagScansWrongFalsely : Prop := tagScansRow.holds Try.pinned (OpenSpec.ofChange tagScansWrong)

/-- 'scantlinglaw41.TagTells': WHATEVER THE INPUT: true; the input reads as it did. -/
def tagTellsSpec : ChangeSpec := { name := "tagTells", fn := fun _ => fun
  | [d1, d2] => { results := [.lit (.bool true)], args := [d1, d2] }
  | _ => none }
def tagTellsRow : OpenClaim := { program := "ytcblakflhheepaa", sum := "68748adbe6850c3c0af5b01c1c5300e659cda0f71bfc97b7e677f5ac88d097dc", func := "scantling/scantlinglaw41.TagTells", spec := "tagTells", inPlace := ["internal/bytealg.IndexByteString", "internal/bytealg.IndexString", "internal/abi.NoEscape"], unfollowed := true, recurses := true, named := ["internal/bytealg.MaxLen"], apart := false }
def TagTellsSaid : Prop := tagTellsRow.holds Try.pinned (OpenSpec.ofChange tagTellsSpec)

/-- ITS FALSE NEIGHBOUR: 'it returns false'. Refute it at one input. -/
def tagTellsWrong : ChangeSpec := { name := "tagTells", fn := fun _ => fun
  | [d1, d2] => { results := [.lit (.bool false)], args := [d1, d2] }
  | _ => none }
def TagTellsWrongFalsely : Prop := tagTellsRow.holds Try.pinned (OpenSpec.ofChange tagTellsWrong)

/-- 'scantlinglaw43.XparseTells': WHATEVER THE INPUT: true; the input reads as it did. -/
def xparseTellsSpec : ChangeSpec := { name := "xparseTells", fn := fun _ => fun
  | [d] => { results := [.lit (.bool true)], args := [d] }
  | _ => none }
def xparseTellsRow : OpenClaim := { program := "ytcblakflhheepaa", sum := "68748adbe6850c3c0af5b01c1c5300e659cda0f71bfc97b7e677f5ac88d097dc", func := "scantling/scantlinglaw43.XparseTells", spec := "xparseTells", inPlace := ["internal/bytealg.IndexByteString", "internal/bytealg.IndexString"], unfollowed := true, recurses := true, named := ["internal/bytealg.MaxLen"], apart := false }
def XparseTellsSaid : Prop := xparseTellsRow.holds Try.pinned (OpenSpec.ofChange xparseTellsSpec)

/-- ITS FALSE NEIGHBOUR: 'it returns false'. Refute it at one input. -/
def xparseTellsWrong : ChangeSpec := { name := "xparseTells", fn := fun _ => fun
  | [d] => { results := [.lit (.bool false)], args := [d] }
  | _ => none }
def XparseTellsWrongFalsely : Prop := xparseTellsRow.holds Try.pinned (OpenSpec.ofChange xparseTellsWrong)

/- THE SECOND FORM. 'bulk': how many values and letters a reading holds, each counted each time it is reached (what is shared counts as often as it is met; a slice's spare places count too). A statement '..UptoSaid' is the law's where the arguments, and the package variables that the reading takes, are together of bulk at most 1048576: NARROWER than '..Said'. Prove '..Said' where nothing that the law and all that it calls make is longer than what came in: it says more and counts as full. Else prove '..UptoSaid'. A law counts once. -/
mutual
def uptoBulk {H : Type} : DataW H → Nat
  | .lit (.string bytes) => bytes.length + 1
  | .lit _ => 1
  | .nil => 1
  | .ptr d => uptoBulk d + 1
  | .slice elems spare => uptoBulkAll elems + uptoBulkAll spare + 1
  | .agg parts => uptoBulkAll parts + 1
  | .iface _ d => uptoBulk d + 1
  | .map entries => uptoBulkEntries entries + 1
  | .held _ => 1
def uptoBulkAll {H : Type} : List (DataW H) → Nat
  | [] => 0
  | d :: r => uptoBulk d + uptoBulkAll r
def uptoBulkEntries {H : Type} : List (Lit × DataW H) → Nat
  | [] => 0
  | x :: r => uptoBulkEntry x + uptoBulkEntries r
def uptoBulkEntry {H : Type} : Lit × DataW H → Nat
  | (.string bytes, d) => bytes.length + uptoBulk d + 1
  | (_, d) => uptoBulk d + 1
 end
def uptoSmall : (H : Type) → List (DataW H) → Bool := fun _ ds => decide (uptoBulkAll ds ≤ 1048576)
def OpenSpec.upto (s : _root_.Go.ChangeSpec) : _root_.Go.OpenSpec := { _root_.Go.OpenSpec.ofChange s with cond := some uptoSmall }

/-- 'scantlinglaw19.RunsOf', WHERE WHAT IT READS IS OF BULK AT MOST 1048576: true; the input reads as it did. -/
def runsOfUptoRow : OpenClaim := { program := "ytcblakflhheepaa", sum := "68748adbe6850c3c0af5b01c1c5300e659cda0f71bfc97b7e677f5ac88d097dc", func := "scantling/scantlinglaw19.RunsOf", spec := "runsOf", unfollowed := true, recurses := true, apart := false, narrowed := true }
def RunsOfUptoSaid : Prop := runsOfUptoRow.holds Try.pinned (OpenSpec.upto runsOfSpec)

/-- 'scantlinglaw19.RunsMaps', WHERE WHAT IT READS IS OF BULK AT MOST 1048576: true; the input reads as it did. -/
def runsMapsUptoRow : OpenClaim := { program := "ytcblakflhheepaa", sum := "68748adbe6850c3c0af5b01c1c5300e659cda0f71bfc97b7e677f5ac88d097dc", func := "scantling/scantlinglaw19.RunsMaps", spec := "runsMaps", unfollowed := true, recurses := true, apart := false, narrowed := true }
def RunsMapsUptoSaid : Prop := runsMapsUptoRow.holds Try.pinned (OpenSpec.upto runsMapsSpec)

/-- 'scantlinglaw19.RunsBack', WHERE WHAT IT READS IS OF BULK AT MOST 1048576: true; the input reads as it did. -/
def runsBackUptoRow : OpenClaim := { program := "ytcblakflhheepaa", sum := "68748adbe6850c3c0af5b01c1c5300e659cda0f71bfc97b7e677f5ac88d097dc", func := "scantling/scantlinglaw19.RunsBack", spec := "runsBack", unfollowed := true, recurses := true, apart := false, narrowed := true }
def RunsBackUptoSaid : Prop := runsBackUptoRow.holds Try.pinned (OpenSpec.upto runsBackSpec)

/-- 'scantlinglaw19.RunsMerged', WHERE WHAT IT READS IS OF BULK AT MOST 1048576: true; the input reads as it did. -/
def runsMergedUptoRow : OpenClaim := { program := "ytcblakflhheepaa", sum := "68748adbe6850c3c0af5b01c1c5300e659cda0f71bfc97b7e677f5ac88d097dc", func := "scantling/scantlinglaw19.RunsMerged", spec := "runsMerged", unfollowed := true, recurses := true, apart := false, narrowed := true }
def RunsMergedUptoSaid : Prop := runsMergedUptoRow.holds Try.pinned (OpenSpec.upto runsMergedSpec)

/-- 'scantlinglaw41.TagScans', WHERE WHAT IT READS IS OF BULK AT MOST 1048576: true; the input reads as it did. -/
def tagScansUptoRow : OpenClaim := { program := "ytcblakflhheepaa", sum := "68748adbe6850c3c0af5b01c1c5300e659cda0f71bfc97b7e677f5ac88d097dc", func := "scantling/scantlinglaw41.TagScans", spec := "tagScans", inPlace := ["internal/bytealg.IndexByteString", "internal/bytealg.IndexString"], unfollowed := true, recurses := true, named := ["internal/bytealg.MaxLen"], apart := false, narrowed := true }
def TagScansUptoSaid : Prop := tagScansUptoRow.holds Try.pinned (OpenSpec.upto tagScansSpec)

/-- 'scantlinglaw41.TagTells', WHERE WHAT IT READS IS OF BULK AT MOST 1048576: true; the input reads as it did. -/
def tagTellsUptoRow : OpenClaim := { program := "ytcblakflhheepaa", sum := "68748adbe6850c3c0af5b01c1c5300e659cda0f71bfc97b7e677f5ac88d097dc", func := "scantling/scantlinglaw41.TagTells", spec := "tagTells", inPlace := ["internal/bytealg.IndexByteString", "internal/bytealg.IndexString", "internal/abi.NoEscape"], unfollowed := true, recurses := true, named := ["internal/bytealg.MaxLen"], apart := false, narrowed := true }
def TagTellsUptoSaid : Prop := tagTellsUptoRow.holds Try.pinned (OpenSpec.upto tagTellsSpec)

/-- 'scantlinglaw43.XparseTells', WHERE WHAT IT READS IS OF BULK AT MOST 1048576: true; the input reads as it did. -/
def xparseTellsUptoRow : OpenClaim := { program := "ytcblakflhheepaa", sum := "68748adbe6850c3c0af5b01c1c5300e659cda0f71bfc97b7e677f5ac88d097dc", func := "scantling/scantlinglaw43.XparseTells", spec := "xparseTells", inPlace := ["internal/bytealg.IndexByteString", "internal/bytealg.IndexString"], unfollowed := true, recurses := true, named := ["internal/bytealg.MaxLen"], apart := false, narrowed := true }
def XparseTellsUptoSaid : Prop := xparseTellsUptoRow.holds Try.pinned (OpenSpec.upto xparseTellsSpec)

end Rows
end Go.Proofs.Ytcblakflhheepaa
