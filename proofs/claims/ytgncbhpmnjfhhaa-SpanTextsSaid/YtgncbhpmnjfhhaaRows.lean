/-
  No cell of these rows narrows 'for every input' (looked for: loops, veiled, ifaces, maps, wideKeys, modest, calm, conditions, laid).
  DERIVED. THE GIVEN ROWS OF THIS SEAT. 13 by the template 'for every input the law returns true; each argument reads behind the call as it read before'; 0 by the template 'total and deterministic' (their statements: YtgncbhpmnjfhhaaTotals.lean).
  GIVEN WITH THE SEED: the statements are not yours to turn. If you find one false, say at which input.
  Laid BY PROGRAM, IN A SANDBOX (cutbox-rows.mjs): the forced cells as the released guide's own fill.sh prints them over the translation e0eb8b624cdf15f5… (all of the seat's roots in one cut). By AI agents, Wed Nov 11 2026. No macro, syntax, notation, axiom, sorry.
-/
import Derived.Test.YtgncbhpmnjfhhaaChecked
import GoSem.Claim
import GoSem.ClaimJoined
import GoSem.ClaimMapViews
import Derived.JoinedTies
import Derived.KernelRfl
namespace Go.Proofs.Ytgncbhpmnjfhhaa
/- THE CELL 'sum', in the pinned program and in every row, IS THE sha256 OF THE DUMP (.gsa) THAT YtgncbhpmnjfhhaaProg.lean LOADS. Nothing in Lean hashes anything: it is a label: what it is worth is what the hold of that sum in a sandbox is worth. -/
noncomputable def Try.pinned : Pinned := { name := "ytgncbhpmnjfhhaa", sum := "e0eb8b624cdf15f507b83f2a6a42eebf1aeca5d95d0a620270eff6a252496d2c", checked := Try.checked }
namespace Rows
def none {H : Type} : Left H := { results := [], args := [] }

/-- 'lamellalaw02.SpanNorms': WHATEVER THE INPUT: true; the input reads as it did. -/
def spanNormsSpec : ChangeSpec := { name := "spanNorms", fn := fun _ => fun
  | [d] => { results := [.lit (.bool true)], args := [d] }
  | _ => none }
def spanNormsRow : OpenClaim := { program := "ytgncbhpmnjfhhaa", sum := "e0eb8b624cdf15f507b83f2a6a42eebf1aeca5d95d0a620270eff6a252496d2c", func := "lamella/lamellalaw02.SpanNorms", spec := "spanNorms", inPlace := ["slices.overlaps[lamella/api.Span]", "slices.overlaps[int]"], unfollowed := true, recurses := true, apart := false }
def SpanNormsSaid : Prop := spanNormsRow.holds Try.pinned (OpenSpec.ofChange spanNormsSpec)

/-- ITS FALSE NEIGHBOUR: 'it returns false'. Refute it at one input. -/
def spanNormsWrong : ChangeSpec := { name := "spanNorms", fn := fun _ => fun
  | [d] => { results := [.lit (.bool false)], args := [d] }
  | _ => none }
def SpanNormsWrongFalsely : Prop := spanNormsRow.holds Try.pinned (OpenSpec.ofChange spanNormsWrong)

/-- 'lamellalaw02.SpanCuts': WHATEVER THE INPUT: true; the input reads as it did. -/
def spanCutsSpec : ChangeSpec := { name := "spanCuts", fn := fun _ => fun
  | [d1, d2] => { results := [.lit (.bool true)], args := [d1, d2] }
  | _ => none }
def spanCutsRow : OpenClaim := { program := "ytgncbhpmnjfhhaa", sum := "e0eb8b624cdf15f507b83f2a6a42eebf1aeca5d95d0a620270eff6a252496d2c", func := "lamella/lamellalaw02.SpanCuts", spec := "spanCuts", inPlace := ["slices.overlaps[lamella/api.Span]", "slices.overlaps[int]"], unfollowed := true, recurses := true, apart := false }
def SpanCutsSaid : Prop := spanCutsRow.holds Try.pinned (OpenSpec.ofChange spanCutsSpec)

/-- ITS FALSE NEIGHBOUR: 'it returns false'. Refute it at one input. -/
def spanCutsWrong : ChangeSpec := { name := "spanCuts", fn := fun _ => fun
  | [d1, d2] => { results := [.lit (.bool false)], args := [d1, d2] }
  | _ => none }
def SpanCutsWrongFalsely : Prop := spanCutsRow.holds Try.pinned (OpenSpec.ofChange spanCutsWrong)

/-- 'lamellalaw02.SpanGaps': WHATEVER THE INPUT: true; the input reads as it did. -/
def spanGapsSpec : ChangeSpec := { name := "spanGaps", fn := fun _ => fun
  | [d1, d2] => { results := [.lit (.bool true)], args := [d1, d2] }
  | _ => none }
def spanGapsRow : OpenClaim := { program := "ytgncbhpmnjfhhaa", sum := "e0eb8b624cdf15f507b83f2a6a42eebf1aeca5d95d0a620270eff6a252496d2c", func := "lamella/lamellalaw02.SpanGaps", spec := "spanGaps", inPlace := ["slices.overlaps[lamella/api.Span]", "slices.overlaps[int]"], unfollowed := true, recurses := true, apart := false }
def SpanGapsSaid : Prop := spanGapsRow.holds Try.pinned (OpenSpec.ofChange spanGapsSpec)

/-- ITS FALSE NEIGHBOUR: 'it returns false'. Refute it at one input. -/
def spanGapsWrong : ChangeSpec := { name := "spanGaps", fn := fun _ => fun
  | [d1, d2] => { results := [.lit (.bool false)], args := [d1, d2] }
  | _ => none }
def SpanGapsWrongFalsely : Prop := spanGapsRow.holds Try.pinned (OpenSpec.ofChange spanGapsWrong)

/-- 'lamellalaw02.SpanHas': WHATEVER THE INPUT: true; the input reads as it did. -/
def spanHasSpec : ChangeSpec := { name := "spanHas", fn := fun _ => fun
  | [d1, d2, d3] => { results := [.lit (.bool true)], args := [d1, d2, d3] }
  | _ => none }
def spanHasRow : OpenClaim := { program := "ytgncbhpmnjfhhaa", sum := "e0eb8b624cdf15f507b83f2a6a42eebf1aeca5d95d0a620270eff6a252496d2c", func := "lamella/lamellalaw02.SpanHas", spec := "spanHas", inPlace := ["slices.overlaps[lamella/api.Span]", "slices.overlaps[int]"], unfollowed := true, recurses := true, apart := false }
def SpanHasSaid : Prop := spanHasRow.holds Try.pinned (OpenSpec.ofChange spanHasSpec)

/-- ITS FALSE NEIGHBOUR: 'it returns false'. Refute it at one input. -/
def spanHasWrong : ChangeSpec := { name := "spanHas", fn := fun _ => fun
  | [d1, d2, d3] => { results := [.lit (.bool false)], args := [d1, d2, d3] }
  | _ => none }
def SpanHasWrongFalsely : Prop := spanHasRow.holds Try.pinned (OpenSpec.ofChange spanHasWrong)

/-- 'lamellalaw02.SpanBlocks': WHATEVER THE INPUT: true; the input reads as it did. -/
def spanBlocksSpec : ChangeSpec := { name := "spanBlocks", fn := fun _ => fun
  | [d1, d2] => { results := [.lit (.bool true)], args := [d1, d2] }
  | _ => none }
def spanBlocksRow : OpenClaim := { program := "ytgncbhpmnjfhhaa", sum := "e0eb8b624cdf15f507b83f2a6a42eebf1aeca5d95d0a620270eff6a252496d2c", func := "lamella/lamellalaw02.SpanBlocks", spec := "spanBlocks", inPlace := ["slices.overlaps[lamella/api.Span]", "slices.overlaps[int]"], unfollowed := true, recurses := true, apart := false }
def SpanBlocksSaid : Prop := spanBlocksRow.holds Try.pinned (OpenSpec.ofChange spanBlocksSpec)

/-- ITS FALSE NEIGHBOUR: 'it returns false'. Refute it at one input. -/
def spanBlocksWrong : ChangeSpec := { name := "spanBlocks", fn := fun _ => fun
  | [d1, d2] => { results := [.lit (.bool false)], args := [d1, d2] }
  | _ => none }
def SpanBlocksWrongFalsely : Prop := spanBlocksRow.holds Try.pinned (OpenSpec.ofChange spanBlocksWrong)

/-- 'lamellalaw02.SpanMaps': WHATEVER THE INPUT: true; the input reads as it did. -/
def spanMapsSpec : ChangeSpec := { name := "spanMaps", fn := fun _ => fun
  | [d1, d2] => { results := [.lit (.bool true)], args := [d1, d2] }
  | _ => none }
def spanMapsRow : OpenClaim := { program := "ytgncbhpmnjfhhaa", sum := "e0eb8b624cdf15f507b83f2a6a42eebf1aeca5d95d0a620270eff6a252496d2c", func := "lamella/lamellalaw02.SpanMaps", spec := "spanMaps", inPlace := ["slices.overlaps[lamella/api.Span]", "slices.overlaps[int]"], unfollowed := true, recurses := true, apart := false }
def SpanMapsSaid : Prop := spanMapsRow.holds Try.pinned (OpenSpec.ofChange spanMapsSpec)

/-- ITS FALSE NEIGHBOUR: 'it returns false'. Refute it at one input. -/
def spanMapsWrong : ChangeSpec := { name := "spanMaps", fn := fun _ => fun
  | [d1, d2] => { results := [.lit (.bool false)], args := [d1, d2] }
  | _ => none }
def SpanMapsWrongFalsely : Prop := spanMapsRow.holds Try.pinned (OpenSpec.ofChange spanMapsWrong)

/-- 'lamellalaw02.SpanClones': WHATEVER THE INPUT: true; the input reads as it did. -/
def spanClonesSpec : ChangeSpec := { name := "spanClones", fn := fun _ => fun
  | [d1, d2, d3] => { results := [.lit (.bool true)], args := [d1, d2, d3] }
  | _ => none }
def spanClonesRow : OpenClaim := { program := "ytgncbhpmnjfhhaa", sum := "e0eb8b624cdf15f507b83f2a6a42eebf1aeca5d95d0a620270eff6a252496d2c", func := "lamella/lamellalaw02.SpanClones", spec := "spanClones", inPlace := ["slices.overlaps[lamella/api.Span]", "slices.overlaps[int]"], unfollowed := true, recurses := true, apart := false }
def SpanClonesSaid : Prop := spanClonesRow.holds Try.pinned (OpenSpec.ofChange spanClonesSpec)

/-- ITS FALSE NEIGHBOUR: 'it returns false'. Refute it at one input. -/
def spanClonesWrong : ChangeSpec := { name := "spanClones", fn := fun _ => fun
  | [d1, d2, d3] => { results := [.lit (.bool false)], args := [d1, d2, d3] }
  | _ => none }
def SpanClonesWrongFalsely : Prop := spanClonesRow.holds Try.pinned (OpenSpec.ofChange spanClonesWrong)

/-- 'lamellalaw02.SpanTexts': WHATEVER THE INPUT: true; the input reads as it did. -/
def spanTextsSpec : ChangeSpec := { name := "spanTexts", fn := fun _ => fun
  | [d] => { results := [.lit (.bool true)], args := [d] }
  | _ => none }
def spanTextsRow : OpenClaim := { program := "ytgncbhpmnjfhhaa", sum := "e0eb8b624cdf15f507b83f2a6a42eebf1aeca5d95d0a620270eff6a252496d2c", func := "lamella/lamellalaw02.SpanTexts", spec := "spanTexts", inPlace := ["slices.overlaps[lamella/api.Span]", "slices.overlaps[int]", "slices.overlaps[string]"], unfollowed := true, recurses := true, apart := false }
def SpanTextsSaid : Prop := spanTextsRow.holds Try.pinned (OpenSpec.ofChange spanTextsSpec)

/-- ITS FALSE NEIGHBOUR: 'it returns false'. Refute it at one input. -/
def spanTextsWrong : ChangeSpec := { name := "spanTexts", fn := fun _ => fun
  | [d] => { results := [.lit (.bool false)], args := [d] }
  | _ => none }
def SpanTextsWrongFalsely : Prop := spanTextsRow.holds Try.pinned (OpenSpec.ofChange spanTextsWrong)

/-- 'lamellalaw02.SpanMeets': WHATEVER THE INPUT: true; the input reads as it did. -/
def spanMeetsSpec : ChangeSpec := { name := "spanMeets", fn := fun _ => fun
  | [d1, d2] => { results := [.lit (.bool true)], args := [d1, d2] }
  | _ => none }
def spanMeetsRow : OpenClaim := { program := "ytgncbhpmnjfhhaa", sum := "e0eb8b624cdf15f507b83f2a6a42eebf1aeca5d95d0a620270eff6a252496d2c", func := "lamella/lamellalaw02.SpanMeets", spec := "spanMeets", inPlace := ["slices.overlaps[lamella/api.Span]", "slices.overlaps[int]"], unfollowed := true, recurses := true, apart := false }
def SpanMeetsSaid : Prop := spanMeetsRow.holds Try.pinned (OpenSpec.ofChange spanMeetsSpec)

/-- ITS FALSE NEIGHBOUR: 'it returns false'. Refute it at one input. -/
def spanMeetsWrong : ChangeSpec := { name := "spanMeets", fn := fun _ => fun
  | [d1, d2] => { results := [.lit (.bool false)], args := [d1, d2] }
  | _ => none }
def SpanMeetsWrongFalsely : Prop := spanMeetsRow.holds Try.pinned (OpenSpec.ofChange spanMeetsWrong)

/-- 'lamellalaw02.SpanPieces': WHATEVER THE INPUT: true; the input reads as it did. -/
def spanPiecesSpec : ChangeSpec := { name := "spanPieces", fn := fun _ => fun
  | [d1, d2] => { results := [.lit (.bool true)], args := [d1, d2] }
  | _ => none }
def spanPiecesRow : OpenClaim := { program := "ytgncbhpmnjfhhaa", sum := "e0eb8b624cdf15f507b83f2a6a42eebf1aeca5d95d0a620270eff6a252496d2c", func := "lamella/lamellalaw02.SpanPieces", spec := "spanPieces", inPlace := ["slices.overlaps[lamella/api.Span]", "slices.overlaps[int]"], unfollowed := true, recurses := true, apart := false }
def SpanPiecesSaid : Prop := spanPiecesRow.holds Try.pinned (OpenSpec.ofChange spanPiecesSpec)

/-- ITS FALSE NEIGHBOUR: 'it returns false'. Refute it at one input. -/
def spanPiecesWrong : ChangeSpec := { name := "spanPieces", fn := fun _ => fun
  | [d1, d2] => { results := [.lit (.bool false)], args := [d1, d2] }
  | _ => none }
def SpanPiecesWrongFalsely : Prop := spanPiecesRow.holds Try.pinned (OpenSpec.ofChange spanPiecesWrong)

/-- 'lamellalaw02.SpanJoins': WHATEVER THE INPUT: true; the input reads as it did. -/
def spanJoinsSpec : ChangeSpec := { name := "spanJoins", fn := fun _ => fun
  | [d1, d2] => { results := [.lit (.bool true)], args := [d1, d2] }
  | _ => none }
def spanJoinsRow : OpenClaim := { program := "ytgncbhpmnjfhhaa", sum := "e0eb8b624cdf15f507b83f2a6a42eebf1aeca5d95d0a620270eff6a252496d2c", func := "lamella/lamellalaw02.SpanJoins", spec := "spanJoins", inPlace := ["slices.overlaps[lamella/api.Span]", "slices.overlaps[int]"], unfollowed := true, recurses := true, apart := false }
def SpanJoinsSaid : Prop := spanJoinsRow.holds Try.pinned (OpenSpec.ofChange spanJoinsSpec)

/-- ITS FALSE NEIGHBOUR: 'it returns false'. Refute it at one input. -/
def spanJoinsWrong : ChangeSpec := { name := "spanJoins", fn := fun _ => fun
  | [d1, d2] => { results := [.lit (.bool false)], args := [d1, d2] }
  | _ => none }
def SpanJoinsWrongFalsely : Prop := spanJoinsRow.holds Try.pinned (OpenSpec.ofChange spanJoinsWrong)

/-- 'lamellalaw02.SpanSets': WHATEVER THE INPUT: true; the input reads as it did. -/
def spanSetsSpec : ChangeSpec := { name := "spanSets", fn := fun _ => fun
  | [d1, d2, d3] => { results := [.lit (.bool true)], args := [d1, d2, d3] }
  | _ => none }
def spanSetsRow : OpenClaim := { program := "ytgncbhpmnjfhhaa", sum := "e0eb8b624cdf15f507b83f2a6a42eebf1aeca5d95d0a620270eff6a252496d2c", func := "lamella/lamellalaw02.SpanSets", spec := "spanSets", inPlace := ["slices.overlaps[lamella/api.Span]", "slices.overlaps[int]"], unfollowed := true, recurses := true, apart := false }
def SpanSetsSaid : Prop := spanSetsRow.holds Try.pinned (OpenSpec.ofChange spanSetsSpec)

/-- ITS FALSE NEIGHBOUR: 'it returns false'. Refute it at one input. -/
def spanSetsWrong : ChangeSpec := { name := "spanSets", fn := fun _ => fun
  | [d1, d2, d3] => { results := [.lit (.bool false)], args := [d1, d2, d3] }
  | _ => none }
def SpanSetsWrongFalsely : Prop := spanSetsRow.holds Try.pinned (OpenSpec.ofChange spanSetsWrong)

/-- 'lamellalaw02.SpanCounts': WHATEVER THE INPUT: true; the input reads as it did. -/
def spanCountsSpec : ChangeSpec := { name := "spanCounts", fn := fun _ => fun
  | [d1, d2] => { results := [.lit (.bool true)], args := [d1, d2] }
  | _ => none }
def spanCountsRow : OpenClaim := { program := "ytgncbhpmnjfhhaa", sum := "e0eb8b624cdf15f507b83f2a6a42eebf1aeca5d95d0a620270eff6a252496d2c", func := "lamella/lamellalaw02.SpanCounts", spec := "spanCounts", inPlace := ["slices.overlaps[lamella/api.Span]", "slices.overlaps[int]"], unfollowed := true, recurses := true, apart := false }
def SpanCountsSaid : Prop := spanCountsRow.holds Try.pinned (OpenSpec.ofChange spanCountsSpec)

/-- ITS FALSE NEIGHBOUR: 'it returns false'. Refute it at one input. -/
def spanCountsWrong : ChangeSpec := { name := "spanCounts", fn := fun _ => fun
  | [d1, d2] => { results := [.lit (.bool false)], args := [d1, d2] }
  | _ => none }
def SpanCountsWrongFalsely : Prop := spanCountsRow.holds Try.pinned (OpenSpec.ofChange spanCountsWrong)

/- THE SECOND FORM. 'bulk': how many values and letters a reading holds, each counted each time it is reached (what is shared counts as often as it is met; a slice's spare places count too). A statement '..UptoSaid' is the law's where the arguments, and the package variables that the reading takes, are together of bulk at most 1048576: NARROWER than '..Said'. Prove '..Said' where nothing that the law and all that it calls make is longer than what came in: it says more and counts as full. Else prove '..UptoSaid'. A law counts once. -/
mutual
def uptoBulk {H : Type} : DataW H → Nat
  | .lit (.string bytes) => bytes.length + 1
  | .lit _ => 1
  | .nil => 1
  | .ptr d => uptoBulk d + 1
  | .slice elems spare => uptoBulkAll elems + uptoBulkAll spare + 1
  | .agg parts => uptoBulkAll parts + 1
  | .iface _ d => uptoBulk d + 1
  | .map entries => uptoBulkEntries entries + 1
  | .held _ => 1
def uptoBulkAll {H : Type} : List (DataW H) → Nat
  | [] => 0
  | d :: r => uptoBulk d + uptoBulkAll r
def uptoBulkEntries {H : Type} : List (Lit × DataW H) → Nat
  | [] => 0
  | x :: r => uptoBulkEntry x + uptoBulkEntries r
def uptoBulkEntry {H : Type} : Lit × DataW H → Nat
  | (.string bytes, d) => bytes.length + uptoBulk d + 1
  | (_, d) => uptoBulk d + 1
 end
def uptoSmall : (H : Type) → List (DataW H) → Bool := fun _ ds => decide (uptoBulkAll ds ≤ 1048576)
def OpenSpec.upto (s : _root_.Go.ChangeSpec) : _root_.Go.OpenSpec := { _root_.Go.OpenSpec.ofChange s with cond := some uptoSmall }

/-- 'lamellalaw02.SpanNorms', WHERE WHAT IT READS IS OF BULK AT MOST 1048576: true; the input reads as it did. -/
def spanNormsUptoRow : OpenClaim := { program := "ytgncbhpmnjfhhaa", sum := "e0eb8b624cdf15f507b83f2a6a42eebf1aeca5d95d0a620270eff6a252496d2c", func := "lamella/lamellalaw02.SpanNorms", spec := "spanNorms", inPlace := ["slices.overlaps[lamella/api.Span]", "slices.overlaps[int]"], unfollowed := true, recurses := true, apart := false, narrowed := true }
def SpanNormsUptoSaid : Prop := spanNormsUptoRow.holds Try.pinned (OpenSpec.upto spanNormsSpec)

/-- 'lamellalaw02.SpanCuts', WHERE WHAT IT READS IS OF BULK AT MOST 1048576: true; the input reads as it did. -/
def spanCutsUptoRow : OpenClaim := { program := "ytgncbhpmnjfhhaa", sum := "e0eb8b624cdf15f507b83f2a6a42eebf1aeca5d95d0a620270eff6a252496d2c", func := "lamella/lamellalaw02.SpanCuts", spec := "spanCuts", inPlace := ["slices.overlaps[lamella/api.Span]", "slices.overlaps[int]"], unfollowed := true, recurses := true, apart := false, narrowed := true }
def SpanCutsUptoSaid : Prop := spanCutsUptoRow.holds Try.pinned (OpenSpec.upto spanCutsSpec)

/-- 'lamellalaw02.SpanGaps', WHERE WHAT IT READS IS OF BULK AT MOST 1048576: true; the input reads as it did. -/
def spanGapsUptoRow : OpenClaim := { program := "ytgncbhpmnjfhhaa", sum := "e0eb8b624cdf15f507b83f2a6a42eebf1aeca5d95d0a620270eff6a252496d2c", func := "lamella/lamellalaw02.SpanGaps", spec := "spanGaps", inPlace := ["slices.overlaps[lamella/api.Span]", "slices.overlaps[int]"], unfollowed := true, recurses := true, apart := false, narrowed := true }
def SpanGapsUptoSaid : Prop := spanGapsUptoRow.holds Try.pinned (OpenSpec.upto spanGapsSpec)

/-- 'lamellalaw02.SpanHas', WHERE WHAT IT READS IS OF BULK AT MOST 1048576: true; the input reads as it did. -/
def spanHasUptoRow : OpenClaim := { program := "ytgncbhpmnjfhhaa", sum := "e0eb8b624cdf15f507b83f2a6a42eebf1aeca5d95d0a620270eff6a252496d2c", func := "lamella/lamellalaw02.SpanHas", spec := "spanHas", inPlace := ["slices.overlaps[lamella/api.Span]", "slices.overlaps[int]"], unfollowed := true, recurses := true, apart := false, narrowed := true }
def SpanHasUptoSaid : Prop := spanHasUptoRow.holds Try.pinned (OpenSpec.upto spanHasSpec)

/-- 'lamellalaw02.SpanBlocks', WHERE WHAT IT READS IS OF BULK AT MOST 1048576: true; the input reads as it did. -/
def spanBlocksUptoRow : OpenClaim := { program := "ytgncbhpmnjfhhaa", sum := "e0eb8b624cdf15f507b83f2a6a42eebf1aeca5d95d0a620270eff6a252496d2c", func := "lamella/lamellalaw02.SpanBlocks", spec := "spanBlocks", inPlace := ["slices.overlaps[lamella/api.Span]", "slices.overlaps[int]"], unfollowed := true, recurses := true, apart := false, narrowed := true }
def SpanBlocksUptoSaid : Prop := spanBlocksUptoRow.holds Try.pinned (OpenSpec.upto spanBlocksSpec)

/-- 'lamellalaw02.SpanMaps', WHERE WHAT IT READS IS OF BULK AT MOST 1048576: true; the input reads as it did. -/
def spanMapsUptoRow : OpenClaim := { program := "ytgncbhpmnjfhhaa", sum := "e0eb8b624cdf15f507b83f2a6a42eebf1aeca5d95d0a620270eff6a252496d2c", func := "lamella/lamellalaw02.SpanMaps", spec := "spanMaps", inPlace := ["slices.overlaps[lamella/api.Span]", "slices.overlaps[int]"], unfollowed := true, recurses := true, apart := false, narrowed := true }
def SpanMapsUptoSaid : Prop := spanMapsUptoRow.holds Try.pinned (OpenSpec.upto spanMapsSpec)

/-- 'lamellalaw02.SpanClones', WHERE WHAT IT READS IS OF BULK AT MOST 1048576: true; the input reads as it did. -/
def spanClonesUptoRow : OpenClaim := { program := "ytgncbhpmnjfhhaa", sum := "e0eb8b624cdf15f507b83f2a6a42eebf1aeca5d95d0a620270eff6a252496d2c", func := "lamella/lamellalaw02.SpanClones", spec := "spanClones", inPlace := ["slices.overlaps[lamella/api.Span]", "slices.overlaps[int]"], unfollowed := true, recurses := true, apart := false, narrowed := true }
def SpanClonesUptoSaid : Prop := spanClonesUptoRow.holds Try.pinned (OpenSpec.upto spanClonesSpec)

/-- 'lamellalaw02.SpanTexts', WHERE WHAT IT READS IS OF BULK AT MOST 1048576: true; the input reads as it did. -/
def spanTextsUptoRow : OpenClaim := { program := "ytgncbhpmnjfhhaa", sum := "e0eb8b624cdf15f507b83f2a6a42eebf1aeca5d95d0a620270eff6a252496d2c", func := "lamella/lamellalaw02.SpanTexts", spec := "spanTexts", inPlace := ["slices.overlaps[lamella/api.Span]", "slices.overlaps[int]", "slices.overlaps[string]"], unfollowed := true, recurses := true, apart := false, narrowed := true }
def SpanTextsUptoSaid : Prop := spanTextsUptoRow.holds Try.pinned (OpenSpec.upto spanTextsSpec)

/-- 'lamellalaw02.SpanMeets', WHERE WHAT IT READS IS OF BULK AT MOST 1048576: true; the input reads as it did. -/
def spanMeetsUptoRow : OpenClaim := { program := "ytgncbhpmnjfhhaa", sum := "e0eb8b624cdf15f507b83f2a6a42eebf1aeca5d95d0a620270eff6a252496d2c", func := "lamella/lamellalaw02.SpanMeets", spec := "spanMeets", inPlace := ["slices.overlaps[lamella/api.Span]", "slices.overlaps[int]"], unfollowed := true, recurses := true, apart := false, narrowed := true }
def SpanMeetsUptoSaid : Prop := spanMeetsUptoRow.holds Try.pinned (OpenSpec.upto spanMeetsSpec)

/-- 'lamellalaw02.SpanPieces', WHERE WHAT IT READS IS OF BULK AT MOST 1048576: true; the input reads as it did. -/
def spanPiecesUptoRow : OpenClaim := { program := "ytgncbhpmnjfhhaa", sum := "e0eb8b624cdf15f507b83f2a6a42eebf1aeca5d95d0a620270eff6a252496d2c", func := "lamella/lamellalaw02.SpanPieces", spec := "spanPieces", inPlace := ["slices.overlaps[lamella/api.Span]", "slices.overlaps[int]"], unfollowed := true, recurses := true, apart := false, narrowed := true }
def SpanPiecesUptoSaid : Prop := spanPiecesUptoRow.holds Try.pinned (OpenSpec.upto spanPiecesSpec)

/-- 'lamellalaw02.SpanJoins', WHERE WHAT IT READS IS OF BULK AT MOST 1048576: true; the input reads as it did. -/
def spanJoinsUptoRow : OpenClaim := { program := "ytgncbhpmnjfhhaa", sum := "e0eb8b624cdf15f507b83f2a6a42eebf1aeca5d95d0a620270eff6a252496d2c", func := "lamella/lamellalaw02.SpanJoins", spec := "spanJoins", inPlace := ["slices.overlaps[lamella/api.Span]", "slices.overlaps[int]"], unfollowed := true, recurses := true, apart := false, narrowed := true }
def SpanJoinsUptoSaid : Prop := spanJoinsUptoRow.holds Try.pinned (OpenSpec.upto spanJoinsSpec)

/-- 'lamellalaw02.SpanSets', WHERE WHAT IT READS IS OF BULK AT MOST 1048576: true; the input reads as it did. -/
def spanSetsUptoRow : OpenClaim := { program := "ytgncbhpmnjfhhaa", sum := "e0eb8b624cdf15f507b83f2a6a42eebf1aeca5d95d0a620270eff6a252496d2c", func := "lamella/lamellalaw02.SpanSets", spec := "spanSets", inPlace := ["slices.overlaps[lamella/api.Span]", "slices.overlaps[int]"], unfollowed := true, recurses := true, apart := false, narrowed := true }
def SpanSetsUptoSaid : Prop := spanSetsUptoRow.holds Try.pinned (OpenSpec.upto spanSetsSpec)

/-- 'lamellalaw02.SpanCounts', WHERE WHAT IT READS IS OF BULK AT MOST 1048576: true; the input reads as it did. -/
def spanCountsUptoRow : OpenClaim := { program := "ytgncbhpmnjfhhaa", sum := "e0eb8b624cdf15f507b83f2a6a42eebf1aeca5d95d0a620270eff6a252496d2c", func := "lamella/lamellalaw02.SpanCounts", spec := "spanCounts", inPlace := ["slices.overlaps[lamella/api.Span]", "slices.overlaps[int]"], unfollowed := true, recurses := true, apart := false, narrowed := true }
def SpanCountsUptoSaid : Prop := spanCountsUptoRow.holds Try.pinned (OpenSpec.upto spanCountsSpec)

end Rows
end Go.Proofs.Ytgncbhpmnjfhhaa
