/-
  No cell of these rows narrows 'for every input' (looked for: loops, veiled, ifaces, maps, wideKeys, modest, calm, conditions, laid).
  DERIVED. THE GIVEN ROWS OF THIS SEAT. 10 by the template 'for every input the law returns true; each argument reads behind the call as it read before'; 0 by the template 'total and deterministic' (their statements: YtknibnbepmdapaaTotals.lean).
  GIVEN WITH THE SEED: the statements are not yours to turn. If you find one false, say at which input.
  Laid BY PROGRAM, IN A SANDBOX (cutbox-rows.mjs): the forced cells as the released guide's own fill.sh prints them over the translation 8704a98cb2c908d5… (all of the seat's roots in one cut). By AI agents, Wed Nov 11 2026. No macro, syntax, notation, axiom, sorry.
-/
import Derived.Test.YtknibnbepmdapaaChecked
import GoSem.Claim
import GoSem.ClaimJoined
import GoSem.ClaimMapViews
import Derived.JoinedTies
import Derived.KernelRfl
namespace Go.Proofs.Ytknibnbepmdapaa
/- THE CELL 'sum', in the pinned program and in every row, IS THE sha256 OF THE DUMP (.gsa) THAT YtknibnbepmdapaaProg.lean LOADS. Nothing in Lean hashes anything: it is a label: what it is worth is what the hold of that sum in a sandbox is worth. -/
noncomputable def Try.pinned : Pinned := { name := "ytknibnbepmdapaa", sum := "8704a98cb2c908d5e9240098862fe40e20aa0de50862e336816e48199804eb9e", checked := Try.checked }
namespace Rows
def none {H : Type} : Left H := { results := [], args := [] }

/-- 'foyerlaw04.FatePuts': WHATEVER THE INPUT: true; the input reads as it did. -/
def fatePutsSpec : ChangeSpec := { name := "fatePuts", fn := fun _ => fun
  | [d1, d2, d3] => { results := [.lit (.bool true)], args := [d1, d2, d3] }
  | _ => none }
def fatePutsRow : OpenClaim := { program := "ytknibnbepmdapaa", sum := "8704a98cb2c908d5e9240098862fe40e20aa0de50862e336816e48199804eb9e", func := "foyer/foyerlaw04.FatePuts", spec := "fatePuts", unfollowed := true, recurses := true, apart := false }
def FatePutsSaid : Prop := fatePutsRow.holds Try.pinned (OpenSpec.ofChange fatePutsSpec)

/-- ITS FALSE NEIGHBOUR: 'it returns false'. Refute it at one input. -/
def fatePutsWrong : ChangeSpec := { name := "fatePuts", fn := fun _ => fun
  | [d1, d2, d3] => { results := [.lit (.bool false)], args := [d1, d2, d3] }
  | _ => none }
def FatePutsWrongFalsely : Prop := fatePutsRow.holds Try.pinned (OpenSpec.ofChange fatePutsWrong)

/-- 'foyerlaw04.FateAfters': WHATEVER THE INPUT: true; the input reads as it did. -/
def fateAftersSpec : ChangeSpec := { name := "fateAfters", fn := fun _ => fun
  | [d1, d2, d3] => { results := [.lit (.bool true)], args := [d1, d2, d3] }
  | _ => none }
def fateAftersRow : OpenClaim := { program := "ytknibnbepmdapaa", sum := "8704a98cb2c908d5e9240098862fe40e20aa0de50862e336816e48199804eb9e", func := "foyer/foyerlaw04.FateAfters", spec := "fateAfters", unfollowed := true, recurses := true, apart := false }
def FateAftersSaid : Prop := fateAftersRow.holds Try.pinned (OpenSpec.ofChange fateAftersSpec)

/-- ITS FALSE NEIGHBOUR: 'it returns false'. Refute it at one input. -/
def fateAftersWrong : ChangeSpec := { name := "fateAfters", fn := fun _ => fun
  | [d1, d2, d3] => { results := [.lit (.bool false)], args := [d1, d2, d3] }
  | _ => none }
def FateAftersWrongFalsely : Prop := fateAftersRow.holds Try.pinned (OpenSpec.ofChange fateAftersWrong)

/-- 'foyerlaw04.FateBack': WHATEVER THE INPUT: true; the input reads as it did. -/
def fateBackSpec : ChangeSpec := { name := "fateBack", fn := fun _ => fun
  | [d1, d2] => { results := [.lit (.bool true)], args := [d1, d2] }
  | _ => none }
def fateBackRow : OpenClaim := { program := "ytknibnbepmdapaa", sum := "8704a98cb2c908d5e9240098862fe40e20aa0de50862e336816e48199804eb9e", func := "foyer/foyerlaw04.FateBack", spec := "fateBack", unfollowed := true, recurses := true, apart := false }
def FateBackSaid : Prop := fateBackRow.holds Try.pinned (OpenSpec.ofChange fateBackSpec)

/-- ITS FALSE NEIGHBOUR: 'it returns false'. Refute it at one input. -/
def fateBackWrong : ChangeSpec := { name := "fateBack", fn := fun _ => fun
  | [d1, d2] => { results := [.lit (.bool false)], args := [d1, d2] }
  | _ => none }
def FateBackWrongFalsely : Prop := fateBackRow.holds Try.pinned (OpenSpec.ofChange fateBackWrong)

/-- 'foyerlaw04.FateEach': WHATEVER THE INPUT: true; the input reads as it did. -/
def fateEachSpec : ChangeSpec := { name := "fateEach", fn := fun _ => fun
  | [d1, d2, d3] => { results := [.lit (.bool true)], args := [d1, d2, d3] }
  | _ => none }
def fateEachRow : OpenClaim := { program := "ytknibnbepmdapaa", sum := "8704a98cb2c908d5e9240098862fe40e20aa0de50862e336816e48199804eb9e", func := "foyer/foyerlaw04.FateEach", spec := "fateEach", unfollowed := true, recurses := true, apart := false }
def FateEachSaid : Prop := fateEachRow.holds Try.pinned (OpenSpec.ofChange fateEachSpec)

/-- ITS FALSE NEIGHBOUR: 'it returns false'. Refute it at one input. -/
def fateEachWrong : ChangeSpec := { name := "fateEach", fn := fun _ => fun
  | [d1, d2, d3] => { results := [.lit (.bool false)], args := [d1, d2, d3] }
  | _ => none }
def FateEachWrongFalsely : Prop := fateEachRow.holds Try.pinned (OpenSpec.ofChange fateEachWrong)

/-- 'foyerlaw04.FateReads': WHATEVER THE INPUT: true; the input reads as it did. -/
def fateReadsSpec : ChangeSpec := { name := "fateReads", fn := fun _ => fun
  | [d1, d2] => { results := [.lit (.bool true)], args := [d1, d2] }
  | _ => none }
def fateReadsRow : OpenClaim := { program := "ytknibnbepmdapaa", sum := "8704a98cb2c908d5e9240098862fe40e20aa0de50862e336816e48199804eb9e", func := "foyer/foyerlaw04.FateReads", spec := "fateReads", unfollowed := true, recurses := true, apart := false }
def FateReadsSaid : Prop := fateReadsRow.holds Try.pinned (OpenSpec.ofChange fateReadsSpec)

/-- ITS FALSE NEIGHBOUR: 'it returns false'. Refute it at one input. -/
def fateReadsWrong : ChangeSpec := { name := "fateReads", fn := fun _ => fun
  | [d1, d2] => { results := [.lit (.bool false)], args := [d1, d2] }
  | _ => none }
def FateReadsWrongFalsely : Prop := fateReadsRow.holds Try.pinned (OpenSpec.ofChange fateReadsWrong)

/-- 'foyerlaw04.FateEnds': WHATEVER THE INPUT: true; the input reads as it did. -/
def fateEndsSpec : ChangeSpec := { name := "fateEnds", fn := fun _ => fun
  | [d1, d2, d3] => { results := [.lit (.bool true)], args := [d1, d2, d3] }
  | _ => none }
def fateEndsRow : OpenClaim := { program := "ytknibnbepmdapaa", sum := "8704a98cb2c908d5e9240098862fe40e20aa0de50862e336816e48199804eb9e", func := "foyer/foyerlaw04.FateEnds", spec := "fateEnds", unfollowed := true, recurses := true, apart := false }
def FateEndsSaid : Prop := fateEndsRow.holds Try.pinned (OpenSpec.ofChange fateEndsSpec)

/-- ITS FALSE NEIGHBOUR: 'it returns false'. Refute it at one input. -/
def fateEndsWrong : ChangeSpec := { name := "fateEnds", fn := fun _ => fun
  | [d1, d2, d3] => { results := [.lit (.bool false)], args := [d1, d2, d3] }
  | _ => none }
def FateEndsWrongFalsely : Prop := fateEndsRow.holds Try.pinned (OpenSpec.ofChange fateEndsWrong)

/-- 'foyerlaw04.FateKnown': WHATEVER THE INPUT: true; the input reads as it did. -/
def fateKnownSpec : ChangeSpec := { name := "fateKnown", fn := fun _ => fun
  | [] => { results := [.lit (.bool true)], args := [] }
  | _ => none }
def fateKnownRow : OpenClaim := { program := "ytknibnbepmdapaa", sum := "8704a98cb2c908d5e9240098862fe40e20aa0de50862e336816e48199804eb9e", func := "foyer/foyerlaw04.FateKnown", spec := "fateKnown", unfollowed := true, recurses := true, apart := false }
def FateKnownSaid : Prop := fateKnownRow.holds Try.pinned (OpenSpec.ofChange fateKnownSpec)

/-- ITS FALSE NEIGHBOUR: 'it returns false'. Refute it at one input. -/
def fateKnownWrong : ChangeSpec := { name := "fateKnown", fn := fun _ => fun
  | [] => { results := [.lit (.bool false)], args := [] }
  | _ => none }
def FateKnownWrongFalsely : Prop := fateKnownRow.holds Try.pinned (OpenSpec.ofChange fateKnownWrong)

/-- 'foyerlaw05.DiskLasts': WHATEVER THE INPUT: true; the input reads as it did. -/
def diskLastsSpec : ChangeSpec := { name := "diskLasts", fn := fun _ => fun
  | [d1, d2, d3] => { results := [.lit (.bool true)], args := [d1, d2, d3] }
  | _ => none }
def diskLastsRow : OpenClaim := { program := "ytknibnbepmdapaa", sum := "8704a98cb2c908d5e9240098862fe40e20aa0de50862e336816e48199804eb9e", func := "foyer/foyerlaw05.DiskLasts", spec := "diskLasts", unfollowed := true, recurses := true, apart := false }
def DiskLastsSaid : Prop := diskLastsRow.holds Try.pinned (OpenSpec.ofChange diskLastsSpec)

/-- ITS FALSE NEIGHBOUR: 'it returns false'. Refute it at one input. -/
def diskLastsWrong : ChangeSpec := { name := "diskLasts", fn := fun _ => fun
  | [d1, d2, d3] => { results := [.lit (.bool false)], args := [d1, d2, d3] }
  | _ => none }
def DiskLastsWrongFalsely : Prop := diskLastsRow.holds Try.pinned (OpenSpec.ofChange diskLastsWrong)

/-- 'foyerlaw05.DiskPlays': WHATEVER THE INPUT: true; the input reads as it did. -/
def diskPlaysSpec : ChangeSpec := { name := "diskPlays", fn := fun _ => fun
  | [d1, d2] => { results := [.lit (.bool true)], args := [d1, d2] }
  | _ => none }
def diskPlaysRow : OpenClaim := { program := "ytknibnbepmdapaa", sum := "8704a98cb2c908d5e9240098862fe40e20aa0de50862e336816e48199804eb9e", func := "foyer/foyerlaw05.DiskPlays", spec := "diskPlays", unfollowed := true, recurses := true, apart := false }
def DiskPlaysSaid : Prop := diskPlaysRow.holds Try.pinned (OpenSpec.ofChange diskPlaysSpec)

/-- ITS FALSE NEIGHBOUR: 'it returns false'. Refute it at one input. -/
def diskPlaysWrong : ChangeSpec := { name := "diskPlays", fn := fun _ => fun
  | [d1, d2] => { results := [.lit (.bool false)], args := [d1, d2] }
  | _ => none }
def DiskPlaysWrongFalsely : Prop := diskPlaysRow.holds Try.pinned (OpenSpec.ofChange diskPlaysWrong)

/-- 'foyerlaw05.DiskKnown': WHATEVER THE INPUT: true; the input reads as it did. -/
def diskKnownSpec : ChangeSpec := { name := "diskKnown", fn := fun _ => fun
  | [] => { results := [.lit (.bool true)], args := [] }
  | _ => none }
def diskKnownRow : OpenClaim := { program := "ytknibnbepmdapaa", sum := "8704a98cb2c908d5e9240098862fe40e20aa0de50862e336816e48199804eb9e", func := "foyer/foyerlaw05.DiskKnown", spec := "diskKnown", unfollowed := true, recurses := true, apart := false }
def DiskKnownSaid : Prop := diskKnownRow.holds Try.pinned (OpenSpec.ofChange diskKnownSpec)

/-- ITS FALSE NEIGHBOUR: 'it returns false'. Refute it at one input. -/
def diskKnownWrong : ChangeSpec := { name := "diskKnown", fn := fun _ => fun
  | [] => { results := [.lit (.bool false)], args := [] }
  | _ => none }
def DiskKnownWrongFalsely : Prop := diskKnownRow.holds Try.pinned (OpenSpec.ofChange diskKnownWrong)

/- THE SECOND FORM. 'bulk': how many values and letters a reading holds, each counted each time it is reached (what is shared counts as often as it is met; a slice's spare places count too). A statement '..UptoSaid' is the law's where the arguments, and the package variables that the reading takes, are together of bulk at most 1048576: NARROWER than '..Said'. Prove '..Said' where nothing that the law and all that it calls make is longer than what came in: it says more and counts as full. Else prove '..UptoSaid'. A law counts once. -/
mutual
def uptoBulk {H : Type} : DataW H → Nat
  | .lit (.string bytes) => bytes.length + 1
  | .lit _ => 1
  | .nil => 1
  | .ptr d => uptoBulk d + 1
  | .slice elems spare => uptoBulkAll elems + uptoBulkAll spare + 1
  | .agg parts => uptoBulkAll parts + 1
  | .iface _ d => uptoBulk d + 1
  | .map entries => uptoBulkEntries entries + 1
  | .held _ => 1
def uptoBulkAll {H : Type} : List (DataW H) → Nat
  | [] => 0
  | d :: r => uptoBulk d + uptoBulkAll r
def uptoBulkEntries {H : Type} : List (Lit × DataW H) → Nat
  | [] => 0
  | x :: r => uptoBulkEntry x + uptoBulkEntries r
def uptoBulkEntry {H : Type} : Lit × DataW H → Nat
  | (.string bytes, d) => bytes.length + uptoBulk d + 1
  | (_, d) => uptoBulk d + 1
 end
def uptoSmall : (H : Type) → List (DataW H) → Bool := fun _ ds => decide (uptoBulkAll ds ≤ 1048576)
def OpenSpec.upto (s : _root_.Go.ChangeSpec) : _root_.Go.OpenSpec := { _root_.Go.OpenSpec.ofChange s with cond := some uptoSmall }

/-- 'foyerlaw04.FatePuts', WHERE WHAT IT READS IS OF BULK AT MOST 1048576: true; the input reads as it did. -/
def fatePutsUptoRow : OpenClaim := { program := "ytknibnbepmdapaa", sum := "8704a98cb2c908d5e9240098862fe40e20aa0de50862e336816e48199804eb9e", func := "foyer/foyerlaw04.FatePuts", spec := "fatePuts", unfollowed := true, recurses := true, apart := false, narrowed := true }
def FatePutsUptoSaid : Prop := fatePutsUptoRow.holds Try.pinned (OpenSpec.upto fatePutsSpec)

/-- 'foyerlaw04.FateAfters', WHERE WHAT IT READS IS OF BULK AT MOST 1048576: true; the input reads as it did. -/
def fateAftersUptoRow : OpenClaim := { program := "ytknibnbepmdapaa", sum := "8704a98cb2c908d5e9240098862fe40e20aa0de50862e336816e48199804eb9e", func := "foyer/foyerlaw04.FateAfters", spec := "fateAfters", unfollowed := true, recurses := true, apart := false, narrowed := true }
def FateAftersUptoSaid : Prop := fateAftersUptoRow.holds Try.pinned (OpenSpec.upto fateAftersSpec)

/-- 'foyerlaw04.FateBack', WHERE WHAT IT READS IS OF BULK AT MOST 1048576: true; the input reads as it did. -/
def fateBackUptoRow : OpenClaim := { program := "ytknibnbepmdapaa", sum := "8704a98cb2c908d5e9240098862fe40e20aa0de50862e336816e48199804eb9e", func := "foyer/foyerlaw04.FateBack", spec := "fateBack", unfollowed := true, recurses := true, apart := false, narrowed := true }
def FateBackUptoSaid : Prop := fateBackUptoRow.holds Try.pinned (OpenSpec.upto fateBackSpec)

/-- 'foyerlaw04.FateEach', WHERE WHAT IT READS IS OF BULK AT MOST 1048576: true; the input reads as it did. -/
def fateEachUptoRow : OpenClaim := { program := "ytknibnbepmdapaa", sum := "8704a98cb2c908d5e9240098862fe40e20aa0de50862e336816e48199804eb9e", func := "foyer/foyerlaw04.FateEach", spec := "fateEach", unfollowed := true, recurses := true, apart := false, narrowed := true }
def FateEachUptoSaid : Prop := fateEachUptoRow.holds Try.pinned (OpenSpec.upto fateEachSpec)

/-- 'foyerlaw04.FateReads', WHERE WHAT IT READS IS OF BULK AT MOST 1048576: true; the input reads as it did. -/
def fateReadsUptoRow : OpenClaim := { program := "ytknibnbepmdapaa", sum := "8704a98cb2c908d5e9240098862fe40e20aa0de50862e336816e48199804eb9e", func := "foyer/foyerlaw04.FateReads", spec := "fateReads", unfollowed := true, recurses := true, apart := false, narrowed := true }
def FateReadsUptoSaid : Prop := fateReadsUptoRow.holds Try.pinned (OpenSpec.upto fateReadsSpec)

/-- 'foyerlaw04.FateEnds', WHERE WHAT IT READS IS OF BULK AT MOST 1048576: true; the input reads as it did. -/
def fateEndsUptoRow : OpenClaim := { program := "ytknibnbepmdapaa", sum := "8704a98cb2c908d5e9240098862fe40e20aa0de50862e336816e48199804eb9e", func := "foyer/foyerlaw04.FateEnds", spec := "fateEnds", unfollowed := true, recurses := true, apart := false, narrowed := true }
def FateEndsUptoSaid : Prop := fateEndsUptoRow.holds Try.pinned (OpenSpec.upto fateEndsSpec)

/-- 'foyerlaw04.FateKnown', WHERE WHAT IT READS IS OF BULK AT MOST 1048576: true; the input reads as it did. -/
def fateKnownUptoRow : OpenClaim := { program := "ytknibnbepmdapaa", sum := "8704a98cb2c908d5e9240098862fe40e20aa0de50862e336816e48199804eb9e", func := "foyer/foyerlaw04.FateKnown", spec := "fateKnown", unfollowed := true, recurses := true, apart := false, narrowed := true }
def FateKnownUptoSaid : Prop := fateKnownUptoRow.holds Try.pinned (OpenSpec.upto fateKnownSpec)

/-- 'foyerlaw05.DiskLasts', WHERE WHAT IT READS IS OF BULK AT MOST 1048576: true; the input reads as it did. -/
def diskLastsUptoRow : OpenClaim := { program := "ytknibnbepmdapaa", sum := "8704a98cb2c908d5e9240098862fe40e20aa0de50862e336816e48199804eb9e", func := "foyer/foyerlaw05.DiskLasts", spec := "diskLasts", unfollowed := true, recurses := true, apart := false, narrowed := true }
def DiskLastsUptoSaid : Prop := diskLastsUptoRow.holds Try.pinned (OpenSpec.upto diskLastsSpec)

/-- 'foyerlaw05.DiskPlays', WHERE WHAT IT READS IS OF BULK AT MOST 1048576: true; the input reads as it did. -/
def diskPlaysUptoRow : OpenClaim := { program := "ytknibnbepmdapaa", sum := "8704a98cb2c908d5e9240098862fe40e20aa0de50862e336816e48199804eb9e", func := "foyer/foyerlaw05.DiskPlays", spec := "diskPlays", unfollowed := true, recurses := true, apart := false, narrowed := true }
def DiskPlaysUptoSaid : Prop := diskPlaysUptoRow.holds Try.pinned (OpenSpec.upto diskPlaysSpec)

/-- 'foyerlaw05.DiskKnown', WHERE WHAT IT READS IS OF BULK AT MOST 1048576: true; the input reads as it did. -/
def diskKnownUptoRow : OpenClaim := { program := "ytknibnbepmdapaa", sum := "8704a98cb2c908d5e9240098862fe40e20aa0de50862e336816e48199804eb9e", func := "foyer/foyerlaw05.DiskKnown", spec := "diskKnown", unfollowed := true, recurses := true, apart := false, narrowed := true }
def DiskKnownUptoSaid : Prop := diskKnownUptoRow.holds Try.pinned (OpenSpec.upto diskKnownSpec)

end Rows
end Go.Proofs.Ytknibnbepmdapaa
