/-
  No cell of these rows narrows 'for every input' (looked for: loops, veiled, ifaces, maps, wideKeys, modest, calm, conditions, laid).
  DERIVED. THE GIVEN ROWS OF THIS SEAT. 10 by the template 'for every input the law returns true; each argument reads behind the call as it read before'; 0 by the template 'total and deterministic' (their statements: YtdpcbffmmndhcaaTotals.lean).
  GIVEN WITH THE SEED: the statements are not yours to turn. If you find one false, say at which input.
  Laid BY PROGRAM, IN A SANDBOX (cutbox-rows.mjs): the forced cells as the released guide's own fill.sh prints them over the translation a0c7d4c8ed29615c… (all of the seat's roots in one cut). By AI agents, Wed Nov 11 2026. No macro, syntax, notation, axiom, sorry.
-/
import Derived.Test.YtdpcbffmmndhcaaChecked
import GoSem.Claim
import GoSem.ClaimJoined
import GoSem.ClaimMapViews
import Derived.JoinedTies
import Derived.KernelRfl
namespace Go.Proofs.Ytdpcbffmmndhcaa
/- THE CELL 'sum', in the pinned program and in every row, IS THE sha256 OF THE DUMP (.gsa) THAT YtdpcbffmmndhcaaProg.lean LOADS. Nothing in Lean hashes anything: it is a label: what it is worth is what the hold of that sum in a sandbox is worth. -/
noncomputable def Try.pinned : Pinned := { name := "ytdpcbffmmndhcaa", sum := "a0c7d4c8ed29615cf2190712323d4be17ebc0c91dd70a5e1bcba0baadc6039df", checked := Try.checked }
namespace Rows
def none {H : Type} : Left H := { results := [], args := [] }

/-- 'changeforgelaw1.WorddiffTokensJoin': WHATEVER THE INPUT: true; the input reads as it did. -/
def worddiffTokensJoinSpec : ChangeSpec := { name := "worddiffTokensJoin", fn := fun _ => fun
  | [d] => { results := [.lit (.bool true)], args := [d] }
  | _ => none }
def worddiffTokensJoinRow : OpenClaim := { program := "ytdpcbffmmndhcaa", sum := "a0c7d4c8ed29615cf2190712323d4be17ebc0c91dd70a5e1bcba0baadc6039df", func := "changeforge/changeforgelaw1.WorddiffTokensJoin", spec := "worddiffTokensJoin", inPlace := ["internal/bytealg.IndexByteString"], apart := false }
def WorddiffTokensJoinSaid : Prop := worddiffTokensJoinRow.holds Try.pinned (OpenSpec.ofChange worddiffTokensJoinSpec)

/-- ITS FALSE NEIGHBOUR: 'it returns false'. Refute it at one input. -/
def worddiffTokensJoinWrong : ChangeSpec := { name := "worddiffTokensJoin", fn := fun _ => fun
  | [d] => { results := [.lit (.bool false)], args := [d] }
  | _ => none }
def WorddiffTokensJoinWrongFalsely : Prop := worddiffTokensJoinRow.holds Try.pinned (OpenSpec.ofChange worddiffTokensJoinWrong)

/-- 'changeforgelaw1.DiffMetric': WHATEVER THE INPUT: true; the input reads as it did. -/
def diffMetricSpec : ChangeSpec := { name := "diffMetric", fn := fun _ => fun
  | [d1, d2, d3] => { results := [.lit (.bool true)], args := [d1, d2, d3] }
  | _ => none }
def diffMetricRow : OpenClaim := { program := "ytdpcbffmmndhcaa", sum := "a0c7d4c8ed29615cf2190712323d4be17ebc0c91dd70a5e1bcba0baadc6039df", func := "changeforge/changeforgelaw1.DiffMetric", spec := "diffMetric", inPlace := ["internal/bytealg.IndexByteString"], unfollowed := true, recurses := true, apart := false }
def DiffMetricSaid : Prop := diffMetricRow.holds Try.pinned (OpenSpec.ofChange diffMetricSpec)

/-- ITS FALSE NEIGHBOUR: 'it returns false'. Refute it at one input. -/
def diffMetricWrong : ChangeSpec := { name := "diffMetric", fn := fun _ => fun
  | [d1, d2, d3] => { results := [.lit (.bool false)], args := [d1, d2, d3] }
  | _ => none }
def DiffMetricWrongFalsely : Prop := diffMetricRow.holds Try.pinned (OpenSpec.ofChange diffMetricWrong)

/-- 'changeforgelaw1.DiffAffixes': WHATEVER THE INPUT: true; the input reads as it did. -/
def diffAffixesSpec : ChangeSpec := { name := "diffAffixes", fn := fun _ => fun
  | [d1, d2] => { results := [.lit (.bool true)], args := [d1, d2] }
  | _ => none }
def diffAffixesRow : OpenClaim := { program := "ytdpcbffmmndhcaa", sum := "a0c7d4c8ed29615cf2190712323d4be17ebc0c91dd70a5e1bcba0baadc6039df", func := "changeforge/changeforgelaw1.DiffAffixes", spec := "diffAffixes", inPlace := ["internal/bytealg.IndexByteString"], unfollowed := true, recurses := true, apart := false }
def DiffAffixesSaid : Prop := diffAffixesRow.holds Try.pinned (OpenSpec.ofChange diffAffixesSpec)

/-- ITS FALSE NEIGHBOUR: 'it returns false'. Refute it at one input. -/
def diffAffixesWrong : ChangeSpec := { name := "diffAffixes", fn := fun _ => fun
  | [d1, d2] => { results := [.lit (.bool false)], args := [d1, d2] }
  | _ => none }
def DiffAffixesWrongFalsely : Prop := diffAffixesRow.holds Try.pinned (OpenSpec.ofChange diffAffixesWrong)

/-- 'changeforgelaw1.DiffCommonLongest': WHATEVER THE INPUT: true; the input reads as it did. -/
def diffCommonLongestSpec : ChangeSpec := { name := "diffCommonLongest", fn := fun _ => fun
  | [d1, d2, d3] => { results := [.lit (.bool true)], args := [d1, d2, d3] }
  | _ => none }
def diffCommonLongestRow : OpenClaim := { program := "ytdpcbffmmndhcaa", sum := "a0c7d4c8ed29615cf2190712323d4be17ebc0c91dd70a5e1bcba0baadc6039df", func := "changeforge/changeforgelaw1.DiffCommonLongest", spec := "diffCommonLongest", inPlace := ["internal/bytealg.IndexByteString"], unfollowed := true, recurses := true, apart := false }
def DiffCommonLongestSaid : Prop := diffCommonLongestRow.holds Try.pinned (OpenSpec.ofChange diffCommonLongestSpec)

/-- ITS FALSE NEIGHBOUR: 'it returns false'. Refute it at one input. -/
def diffCommonLongestWrong : ChangeSpec := { name := "diffCommonLongest", fn := fun _ => fun
  | [d1, d2, d3] => { results := [.lit (.bool false)], args := [d1, d2, d3] }
  | _ => none }
def DiffCommonLongestWrongFalsely : Prop := diffCommonLongestRow.holds Try.pinned (OpenSpec.ofChange diffCommonLongestWrong)

/-- 'changeforgelaw1.WorddiffMatchesSpec': WHATEVER THE INPUT: true; the input reads as it did. -/
def worddiffMatchesSpecSpec : ChangeSpec := { name := "worddiffMatchesSpec", fn := fun _ => fun
  | [d1, d2] => { results := [.lit (.bool true)], args := [d1, d2] }
  | _ => none }
def worddiffMatchesSpecRow : OpenClaim := { program := "ytdpcbffmmndhcaa", sum := "a0c7d4c8ed29615cf2190712323d4be17ebc0c91dd70a5e1bcba0baadc6039df", func := "changeforge/changeforgelaw1.WorddiffMatchesSpec", spec := "worddiffMatchesSpec", inPlace := ["internal/bytealg.IndexByteString"], unfollowed := true, recurses := true, apart := false }
def WorddiffMatchesSpecSaid : Prop := worddiffMatchesSpecRow.holds Try.pinned (OpenSpec.ofChange worddiffMatchesSpecSpec)

/-- ITS FALSE NEIGHBOUR: 'it returns false'. Refute it at one input. -/
def worddiffMatchesSpecWrong : ChangeSpec := { name := "worddiffMatchesSpec", fn := fun _ => fun
  | [d1, d2] => { results := [.lit (.bool false)], args := [d1, d2] }
  | _ => none }
def WorddiffMatchesSpecWrongFalsely : Prop := worddiffMatchesSpecRow.holds Try.pinned (OpenSpec.ofChange worddiffMatchesSpecWrong)

/-- 'changeforgelaw1.WorddiffUnmarked': WHATEVER THE INPUT: true; the input reads as it did. -/
def worddiffUnmarkedSpec : ChangeSpec := { name := "worddiffUnmarked", fn := fun _ => fun
  | [d1, d2] => { results := [.lit (.bool true)], args := [d1, d2] }
  | _ => none }
def worddiffUnmarkedRow : OpenClaim := { program := "ytdpcbffmmndhcaa", sum := "a0c7d4c8ed29615cf2190712323d4be17ebc0c91dd70a5e1bcba0baadc6039df", func := "changeforge/changeforgelaw1.WorddiffUnmarked", spec := "worddiffUnmarked", inPlace := ["internal/bytealg.IndexByteString"], unfollowed := true, recurses := true, apart := false }
def WorddiffUnmarkedSaid : Prop := worddiffUnmarkedRow.holds Try.pinned (OpenSpec.ofChange worddiffUnmarkedSpec)

/-- ITS FALSE NEIGHBOUR: 'it returns false'. Refute it at one input. -/
def worddiffUnmarkedWrong : ChangeSpec := { name := "worddiffUnmarked", fn := fun _ => fun
  | [d1, d2] => { results := [.lit (.bool false)], args := [d1, d2] }
  | _ => none }
def WorddiffUnmarkedWrongFalsely : Prop := worddiffUnmarkedRow.holds Try.pinned (OpenSpec.ofChange worddiffUnmarkedWrong)

/-- 'changeforgelaw1.WorddiffSymmetricWhole': WHATEVER THE INPUT: true; the input reads as it did. -/
def worddiffSymmetricWholeSpec : ChangeSpec := { name := "worddiffSymmetricWhole", fn := fun _ => fun
  | [d1, d2] => { results := [.lit (.bool true)], args := [d1, d2] }
  | _ => none }
def worddiffSymmetricWholeRow : OpenClaim := { program := "ytdpcbffmmndhcaa", sum := "a0c7d4c8ed29615cf2190712323d4be17ebc0c91dd70a5e1bcba0baadc6039df", func := "changeforge/changeforgelaw1.WorddiffSymmetricWhole", spec := "worddiffSymmetricWhole", inPlace := ["internal/bytealg.IndexByteString"], unfollowed := true, recurses := true, apart := false }
def WorddiffSymmetricWholeSaid : Prop := worddiffSymmetricWholeRow.holds Try.pinned (OpenSpec.ofChange worddiffSymmetricWholeSpec)

/-- ITS FALSE NEIGHBOUR: 'it returns false'. Refute it at one input. -/
def worddiffSymmetricWholeWrong : ChangeSpec := { name := "worddiffSymmetricWhole", fn := fun _ => fun
  | [d1, d2] => { results := [.lit (.bool false)], args := [d1, d2] }
  | _ => none }
def WorddiffSymmetricWholeWrongFalsely : Prop := worddiffSymmetricWholeRow.holds Try.pinned (OpenSpec.ofChange worddiffSymmetricWholeWrong)

/-- 'changeforgelaw1.DiffMatchesSpec': WHATEVER THE INPUT: true; the input reads as it did. -/
def diffMatchesSpecSpec : ChangeSpec := { name := "diffMatchesSpec", fn := fun _ => fun
  | [d1, d2] => { results := [.lit (.bool true)], args := [d1, d2] }
  | _ => none }
def diffMatchesSpecRow : OpenClaim := { program := "ytdpcbffmmndhcaa", sum := "a0c7d4c8ed29615cf2190712323d4be17ebc0c91dd70a5e1bcba0baadc6039df", func := "changeforge/changeforgelaw1.DiffMatchesSpec", spec := "diffMatchesSpec", inPlace := ["internal/bytealg.IndexByteString"], unfollowed := true, recurses := true, apart := false }
def DiffMatchesSpecSaid : Prop := diffMatchesSpecRow.holds Try.pinned (OpenSpec.ofChange diffMatchesSpecSpec)

/-- ITS FALSE NEIGHBOUR: 'it returns false'. Refute it at one input. -/
def diffMatchesSpecWrong : ChangeSpec := { name := "diffMatchesSpec", fn := fun _ => fun
  | [d1, d2] => { results := [.lit (.bool false)], args := [d1, d2] }
  | _ => none }
def DiffMatchesSpecWrongFalsely : Prop := diffMatchesSpecRow.holds Try.pinned (OpenSpec.ofChange diffMatchesSpecWrong)

/-- 'changeforgelaw1.WorddiffAsLines': WHATEVER THE INPUT: true; the input reads as it did. -/
def worddiffAsLinesSpec : ChangeSpec := { name := "worddiffAsLines", fn := fun _ => fun
  | [d1, d2] => { results := [.lit (.bool true)], args := [d1, d2] }
  | _ => none }
def worddiffAsLinesRow : OpenClaim := { program := "ytdpcbffmmndhcaa", sum := "a0c7d4c8ed29615cf2190712323d4be17ebc0c91dd70a5e1bcba0baadc6039df", func := "changeforge/changeforgelaw1.WorddiffAsLines", spec := "worddiffAsLines", inPlace := ["internal/bytealg.IndexByteString"], unfollowed := true, recurses := true, apart := false }
def WorddiffAsLinesSaid : Prop := worddiffAsLinesRow.holds Try.pinned (OpenSpec.ofChange worddiffAsLinesSpec)

/-- ITS FALSE NEIGHBOUR: 'it returns false'. Refute it at one input. -/
def worddiffAsLinesWrong : ChangeSpec := { name := "worddiffAsLines", fn := fun _ => fun
  | [d1, d2] => { results := [.lit (.bool false)], args := [d1, d2] }
  | _ => none }
def WorddiffAsLinesWrongFalsely : Prop := worddiffAsLinesRow.holds Try.pinned (OpenSpec.ofChange worddiffAsLinesWrong)

/-- 'changeforgelaw1.LinesCommonMatchesSpec': WHATEVER THE INPUT: true; the input reads as it did. -/
def linesCommonMatchesSpecSpec : ChangeSpec := { name := "linesCommonMatchesSpec", fn := fun _ => fun
  | [d1, d2] => { results := [.lit (.bool true)], args := [d1, d2] }
  | _ => none }
def linesCommonMatchesSpecRow : OpenClaim := { program := "ytdpcbffmmndhcaa", sum := "a0c7d4c8ed29615cf2190712323d4be17ebc0c91dd70a5e1bcba0baadc6039df", func := "changeforge/changeforgelaw1.LinesCommonMatchesSpec", spec := "linesCommonMatchesSpec", inPlace := ["internal/bytealg.IndexByteString", "internal/bytealg.IndexString", "internal/abi.NoEscape"], unfollowed := true, recurses := true, named := ["internal/bytealg.MaxLen"], apart := false }
def LinesCommonMatchesSpecSaid : Prop := linesCommonMatchesSpecRow.holds Try.pinned (OpenSpec.ofChange linesCommonMatchesSpecSpec)

/-- ITS FALSE NEIGHBOUR: 'it returns false'. Refute it at one input. -/
def linesCommonMatchesSpecWrong : ChangeSpec := { name := "linesCommonMatchesSpec", fn := fun _ => fun
  | [d1, d2] => { results := [.lit (.bool false)], args := [d1, d2] }
  | _ => none }
def LinesCommonMatchesSpecWrongFalsely : Prop := linesCommonMatchesSpecRow.holds Try.pinned (OpenSpec.ofChange linesCommonMatchesSpecWrong)

/- THE SECOND FORM. 'bulk': how many values and letters a reading holds, each counted each time it is reached (what is shared counts as often as it is met; a slice's spare places count too). A statement '..UptoSaid' is the law's where the arguments, and the package variables that the reading takes, are together of bulk at most 1048576: NARROWER than '..Said'. Prove '..Said' where nothing that the law and all that it calls make is longer than what came in: it says more and counts as full. Else prove '..UptoSaid'. A law counts once. -/
mutual
def uptoBulk {H : Type} : DataW H → Nat
  | .lit (.string bytes) => bytes.length + 1
  | .lit _ => 1
  | .nil => 1
  | .ptr d => uptoBulk d + 1
  | .slice elems spare => uptoBulkAll elems + uptoBulkAll spare + 1
  | .agg parts => uptoBulkAll parts + 1
  | .iface _ d => uptoBulk d + 1
  | .map entries => uptoBulkEntries entries + 1
  | .held _ => 1
def uptoBulkAll {H : Type} : List (DataW H) → Nat
  | [] => 0
  | d :: r => uptoBulk d + uptoBulkAll r
def uptoBulkEntries {H : Type} : List (Lit × DataW H) → Nat
  | [] => 0
  | x :: r => uptoBulkEntry x + uptoBulkEntries r
def uptoBulkEntry {H : Type} : Lit × DataW H → Nat
  | (.string bytes, d) => bytes.length + uptoBulk d + 1
  | (_, d) => uptoBulk d + 1
 end
def uptoSmall : (H : Type) → List (DataW H) → Bool := fun _ ds => decide (uptoBulkAll ds ≤ 1048576)
def OpenSpec.upto (s : _root_.Go.ChangeSpec) : _root_.Go.OpenSpec := { _root_.Go.OpenSpec.ofChange s with cond := some uptoSmall }

/-- 'changeforgelaw1.WorddiffTokensJoin', WHERE WHAT IT READS IS OF BULK AT MOST 1048576: true; the input reads as it did. -/
def worddiffTokensJoinUptoRow : OpenClaim := { program := "ytdpcbffmmndhcaa", sum := "a0c7d4c8ed29615cf2190712323d4be17ebc0c91dd70a5e1bcba0baadc6039df", func := "changeforge/changeforgelaw1.WorddiffTokensJoin", spec := "worddiffTokensJoin", inPlace := ["internal/bytealg.IndexByteString"], apart := false, narrowed := true }
def WorddiffTokensJoinUptoSaid : Prop := worddiffTokensJoinUptoRow.holds Try.pinned (OpenSpec.upto worddiffTokensJoinSpec)

/-- 'changeforgelaw1.DiffMetric', WHERE WHAT IT READS IS OF BULK AT MOST 1048576: true; the input reads as it did. -/
def diffMetricUptoRow : OpenClaim := { program := "ytdpcbffmmndhcaa", sum := "a0c7d4c8ed29615cf2190712323d4be17ebc0c91dd70a5e1bcba0baadc6039df", func := "changeforge/changeforgelaw1.DiffMetric", spec := "diffMetric", inPlace := ["internal/bytealg.IndexByteString"], unfollowed := true, recurses := true, apart := false, narrowed := true }
def DiffMetricUptoSaid : Prop := diffMetricUptoRow.holds Try.pinned (OpenSpec.upto diffMetricSpec)

/-- 'changeforgelaw1.DiffAffixes', WHERE WHAT IT READS IS OF BULK AT MOST 1048576: true; the input reads as it did. -/
def diffAffixesUptoRow : OpenClaim := { program := "ytdpcbffmmndhcaa", sum := "a0c7d4c8ed29615cf2190712323d4be17ebc0c91dd70a5e1bcba0baadc6039df", func := "changeforge/changeforgelaw1.DiffAffixes", spec := "diffAffixes", inPlace := ["internal/bytealg.IndexByteString"], unfollowed := true, recurses := true, apart := false, narrowed := true }
def DiffAffixesUptoSaid : Prop := diffAffixesUptoRow.holds Try.pinned (OpenSpec.upto diffAffixesSpec)

/-- 'changeforgelaw1.DiffCommonLongest', WHERE WHAT IT READS IS OF BULK AT MOST 1048576: true; the input reads as it did. -/
def diffCommonLongestUptoRow : OpenClaim := { program := "ytdpcbffmmndhcaa", sum := "a0c7d4c8ed29615cf2190712323d4be17ebc0c91dd70a5e1bcba0baadc6039df", func := "changeforge/changeforgelaw1.DiffCommonLongest", spec := "diffCommonLongest", inPlace := ["internal/bytealg.IndexByteString"], unfollowed := true, recurses := true, apart := false, narrowed := true }
def DiffCommonLongestUptoSaid : Prop := diffCommonLongestUptoRow.holds Try.pinned (OpenSpec.upto diffCommonLongestSpec)

/-- 'changeforgelaw1.WorddiffMatchesSpec', WHERE WHAT IT READS IS OF BULK AT MOST 1048576: true; the input reads as it did. -/
def worddiffMatchesSpecUptoRow : OpenClaim := { program := "ytdpcbffmmndhcaa", sum := "a0c7d4c8ed29615cf2190712323d4be17ebc0c91dd70a5e1bcba0baadc6039df", func := "changeforge/changeforgelaw1.WorddiffMatchesSpec", spec := "worddiffMatchesSpec", inPlace := ["internal/bytealg.IndexByteString"], unfollowed := true, recurses := true, apart := false, narrowed := true }
def WorddiffMatchesSpecUptoSaid : Prop := worddiffMatchesSpecUptoRow.holds Try.pinned (OpenSpec.upto worddiffMatchesSpecSpec)

/-- 'changeforgelaw1.WorddiffUnmarked', WHERE WHAT IT READS IS OF BULK AT MOST 1048576: true; the input reads as it did. -/
def worddiffUnmarkedUptoRow : OpenClaim := { program := "ytdpcbffmmndhcaa", sum := "a0c7d4c8ed29615cf2190712323d4be17ebc0c91dd70a5e1bcba0baadc6039df", func := "changeforge/changeforgelaw1.WorddiffUnmarked", spec := "worddiffUnmarked", inPlace := ["internal/bytealg.IndexByteString"], unfollowed := true, recurses := true, apart := false, narrowed := true }
def WorddiffUnmarkedUptoSaid : Prop := worddiffUnmarkedUptoRow.holds Try.pinned (OpenSpec.upto worddiffUnmarkedSpec)

/-- 'changeforgelaw1.WorddiffSymmetricWhole', WHERE WHAT IT READS IS OF BULK AT MOST 1048576: true; the input reads as it did. -/
def worddiffSymmetricWholeUptoRow : OpenClaim := { program := "ytdpcbffmmndhcaa", sum := "a0c7d4c8ed29615cf2190712323d4be17ebc0c91dd70a5e1bcba0baadc6039df", func := "changeforge/changeforgelaw1.WorddiffSymmetricWhole", spec := "worddiffSymmetricWhole", inPlace := ["internal/bytealg.IndexByteString"], unfollowed := true, recurses := true, apart := false, narrowed := true }
def WorddiffSymmetricWholeUptoSaid : Prop := worddiffSymmetricWholeUptoRow.holds Try.pinned (OpenSpec.upto worddiffSymmetricWholeSpec)

/-- 'changeforgelaw1.DiffMatchesSpec', WHERE WHAT IT READS IS OF BULK AT MOST 1048576: true; the input reads as it did. -/
def diffMatchesSpecUptoRow : OpenClaim := { program := "ytdpcbffmmndhcaa", sum := "a0c7d4c8ed29615cf2190712323d4be17ebc0c91dd70a5e1bcba0baadc6039df", func := "changeforge/changeforgelaw1.DiffMatchesSpec", spec := "diffMatchesSpec", inPlace := ["internal/bytealg.IndexByteString"], unfollowed := true, recurses := true, apart := false, narrowed := true }
def DiffMatchesSpecUptoSaid : Prop := diffMatchesSpecUptoRow.holds Try.pinned (OpenSpec.upto diffMatchesSpecSpec)

/-- 'changeforgelaw1.WorddiffAsLines', WHERE WHAT IT READS IS OF BULK AT MOST 1048576: true; the input reads as it did. -/
def worddiffAsLinesUptoRow : OpenClaim := { program := "ytdpcbffmmndhcaa", sum := "a0c7d4c8ed29615cf2190712323d4be17ebc0c91dd70a5e1bcba0baadc6039df", func := "changeforge/changeforgelaw1.WorddiffAsLines", spec := "worddiffAsLines", inPlace := ["internal/bytealg.IndexByteString"], unfollowed := true, recurses := true, apart := false, narrowed := true }
def WorddiffAsLinesUptoSaid : Prop := worddiffAsLinesUptoRow.holds Try.pinned (OpenSpec.upto worddiffAsLinesSpec)

/-- 'changeforgelaw1.LinesCommonMatchesSpec', WHERE WHAT IT READS IS OF BULK AT MOST 1048576: true; the input reads as it did. -/
def linesCommonMatchesSpecUptoRow : OpenClaim := { program := "ytdpcbffmmndhcaa", sum := "a0c7d4c8ed29615cf2190712323d4be17ebc0c91dd70a5e1bcba0baadc6039df", func := "changeforge/changeforgelaw1.LinesCommonMatchesSpec", spec := "linesCommonMatchesSpec", inPlace := ["internal/bytealg.IndexByteString", "internal/bytealg.IndexString", "internal/abi.NoEscape"], unfollowed := true, recurses := true, named := ["internal/bytealg.MaxLen"], apart := false, narrowed := true }
def LinesCommonMatchesSpecUptoSaid : Prop := linesCommonMatchesSpecUptoRow.holds Try.pinned (OpenSpec.upto linesCommonMatchesSpecSpec)

end Rows
end Go.Proofs.Ytdpcbffmmndhcaa
