/-
  No cell of these rows narrows 'for every input' (looked for: loops, veiled, ifaces, maps, wideKeys, modest, calm, conditions, laid).
  DERIVED. THE GIVEN ROWS OF THIS SEAT. 8 by the template 'for every input the law returns true; each argument reads behind the call as it read before'; 0 by the template 'total and deterministic' (their statements: YtehdgnnelabajaaTotals.lean).
  GIVEN WITH THE SEED: the statements are not yours to turn. If you find one false, say at which input.
  Laid BY PROGRAM, IN A SANDBOX (cutbox-rows.mjs): the forced cells as the released guide's own fill.sh prints them over the translation 3de508ce918dc929… (all of the seat's roots in one cut). By AI agents, Wed Nov 11 2026. No macro, syntax, notation, axiom, sorry.
-/
import Derived.Test.YtehdgnnelabajaaChecked
import GoSem.Claim
import GoSem.ClaimJoined
import GoSem.ClaimMapViews
import Derived.JoinedTies
import Derived.KernelRfl
namespace Go.Proofs.Ytehdgnnelabajaa
/- THE CELL 'sum', in the pinned program and in every row, IS THE sha256 OF THE DUMP (.gsa) THAT YtehdgnnelabajaaProg.lean LOADS. Nothing in Lean hashes anything: it is a label: what it is worth is what the hold of that sum in a sandbox is worth. -/
noncomputable def Try.pinned : Pinned := { name := "ytehdgnnelabajaa", sum := "3de508ce918dc929d05a993056ed50855c77fa7fc6271db95d3d311e9f7f78ca", checked := Try.checked }
namespace Rows
def none {H : Type} : Left H := { results := [], args := [] }

/-- 'changeforgelaw1.LinesMatchesSpec': WHATEVER THE INPUT: true; the input reads as it did. -/
def linesMatchesSpecSpec : ChangeSpec := { name := "linesMatchesSpec", fn := fun _ => fun
  | [d1, d2] => { results := [.lit (.bool true)], args := [d1, d2] }
  | _ => none }
def linesMatchesSpecRow : OpenClaim := { program := "ytehdgnnelabajaa", sum := "3de508ce918dc929d05a993056ed50855c77fa7fc6271db95d3d311e9f7f78ca", func := "changeforge/changeforgelaw1.LinesMatchesSpec", spec := "linesMatchesSpec", inPlace := ["internal/bytealg.IndexByteString", "internal/bytealg.IndexString", "internal/abi.NoEscape"], unfollowed := true, recurses := true, named := ["internal/bytealg.MaxLen"], apart := false }
def LinesMatchesSpecSaid : Prop := linesMatchesSpecRow.holds Try.pinned (OpenSpec.ofChange linesMatchesSpecSpec)

/-- ITS FALSE NEIGHBOUR: 'it returns false'. Refute it at one input. -/
def linesMatchesSpecWrong : ChangeSpec := { name := "linesMatchesSpec", fn := fun _ => fun
  | [d1, d2] => { results := [.lit (.bool false)], args := [d1, d2] }
  | _ => none }
def LinesMatchesSpecWrongFalsely : Prop := linesMatchesSpecRow.holds Try.pinned (OpenSpec.ofChange linesMatchesSpecWrong)

/-- 'changeforgelaw1.LinesRestored': WHATEVER THE INPUT: true; the input reads as it did. -/
def linesRestoredSpec : ChangeSpec := { name := "linesRestored", fn := fun _ => fun
  | [d] => { results := [.lit (.bool true)], args := [d] }
  | _ => none }
def linesRestoredRow : OpenClaim := { program := "ytehdgnnelabajaa", sum := "3de508ce918dc929d05a993056ed50855c77fa7fc6271db95d3d311e9f7f78ca", func := "changeforge/changeforgelaw1.LinesRestored", spec := "linesRestored", inPlace := ["internal/bytealg.IndexByteString", "internal/abi.NoEscape", "internal/bytealg.IndexString"], unfollowed := true, recurses := true, named := ["internal/bytealg.MaxLen"], apart := false }
def LinesRestoredSaid : Prop := linesRestoredRow.holds Try.pinned (OpenSpec.ofChange linesRestoredSpec)

/-- ITS FALSE NEIGHBOUR: 'it returns false'. Refute it at one input. -/
def linesRestoredWrong : ChangeSpec := { name := "linesRestored", fn := fun _ => fun
  | [d] => { results := [.lit (.bool false)], args := [d] }
  | _ => none }
def LinesRestoredWrongFalsely : Prop := linesRestoredRow.holds Try.pinned (OpenSpec.ofChange linesRestoredWrong)

/-- 'changeforgelaw1.LinesJoined': WHATEVER THE INPUT: true; the input reads as it did. -/
def linesJoinedSpec : ChangeSpec := { name := "linesJoined", fn := fun _ => fun
  | [d] => { results := [.lit (.bool true)], args := [d] }
  | _ => none }
def linesJoinedRow : OpenClaim := { program := "ytehdgnnelabajaa", sum := "3de508ce918dc929d05a993056ed50855c77fa7fc6271db95d3d311e9f7f78ca", func := "changeforge/changeforgelaw1.LinesJoined", spec := "linesJoined", inPlace := ["internal/bytealg.IndexByteString", "internal/bytealg.IndexString", "internal/abi.NoEscape"], unfollowed := true, recurses := true, named := ["internal/bytealg.MaxLen"], apart := false }
def LinesJoinedSaid : Prop := linesJoinedRow.holds Try.pinned (OpenSpec.ofChange linesJoinedSpec)

/-- ITS FALSE NEIGHBOUR: 'it returns false'. Refute it at one input. -/
def linesJoinedWrong : ChangeSpec := { name := "linesJoined", fn := fun _ => fun
  | [d] => { results := [.lit (.bool false)], args := [d] }
  | _ => none }
def LinesJoinedWrongFalsely : Prop := linesJoinedRow.holds Try.pinned (OpenSpec.ofChange linesJoinedWrong)

/-- 'changeforgelaw1.LinesConcatenated': WHATEVER THE INPUT: true; the input reads as it did. -/
def linesConcatenatedSpec : ChangeSpec := { name := "linesConcatenated", fn := fun _ => fun
  | [d1, d2] => { results := [.lit (.bool true)], args := [d1, d2] }
  | _ => none }
def linesConcatenatedRow : OpenClaim := { program := "ytehdgnnelabajaa", sum := "3de508ce918dc929d05a993056ed50855c77fa7fc6271db95d3d311e9f7f78ca", func := "changeforge/changeforgelaw1.LinesConcatenated", spec := "linesConcatenated", inPlace := ["internal/bytealg.IndexByteString", "internal/abi.NoEscape", "internal/bytealg.IndexString"], unfollowed := true, recurses := true, named := ["internal/bytealg.MaxLen"], apart := false }
def LinesConcatenatedSaid : Prop := linesConcatenatedRow.holds Try.pinned (OpenSpec.ofChange linesConcatenatedSpec)

/-- ITS FALSE NEIGHBOUR: 'it returns false'. Refute it at one input. -/
def linesConcatenatedWrong : ChangeSpec := { name := "linesConcatenated", fn := fun _ => fun
  | [d1, d2] => { results := [.lit (.bool false)], args := [d1, d2] }
  | _ => none }
def LinesConcatenatedWrongFalsely : Prop := linesConcatenatedRow.holds Try.pinned (OpenSpec.ofChange linesConcatenatedWrong)

/-- 'changeforgelaw1.LinesDigest': WHATEVER THE INPUT: true; the input reads as it did. -/
def linesDigestSpec : ChangeSpec := { name := "linesDigest", fn := fun _ => fun
  | [d1, d2] => { results := [.lit (.bool true)], args := [d1, d2] }
  | _ => none }
def linesDigestRow : OpenClaim := { program := "ytehdgnnelabajaa", sum := "3de508ce918dc929d05a993056ed50855c77fa7fc6271db95d3d311e9f7f78ca", func := "changeforge/changeforgelaw1.LinesDigest", spec := "linesDigest", inPlace := ["internal/bytealg.IndexByteString", "internal/abi.NoEscape", "internal/bytealg.IndexString"], unfollowed := true, recurses := true, named := ["internal/bytealg.MaxLen"], apart := false }
def LinesDigestSaid : Prop := linesDigestRow.holds Try.pinned (OpenSpec.ofChange linesDigestSpec)

/-- ITS FALSE NEIGHBOUR: 'it returns false'. Refute it at one input. -/
def linesDigestWrong : ChangeSpec := { name := "linesDigest", fn := fun _ => fun
  | [d1, d2] => { results := [.lit (.bool false)], args := [d1, d2] }
  | _ => none }
def LinesDigestWrongFalsely : Prop := linesDigestRow.holds Try.pinned (OpenSpec.ofChange linesDigestWrong)

/-- 'changeforgelaw1.LinesCommonMatchesSpec': WHATEVER THE INPUT: true; the input reads as it did. -/
def linesCommonMatchesSpecSpec : ChangeSpec := { name := "linesCommonMatchesSpec", fn := fun _ => fun
  | [d1, d2] => { results := [.lit (.bool true)], args := [d1, d2] }
  | _ => none }
def linesCommonMatchesSpecRow : OpenClaim := { program := "ytehdgnnelabajaa", sum := "3de508ce918dc929d05a993056ed50855c77fa7fc6271db95d3d311e9f7f78ca", func := "changeforge/changeforgelaw1.LinesCommonMatchesSpec", spec := "linesCommonMatchesSpec", inPlace := ["internal/bytealg.IndexByteString", "internal/bytealg.IndexString", "internal/abi.NoEscape"], unfollowed := true, recurses := true, named := ["internal/bytealg.MaxLen"], apart := false }
def LinesCommonMatchesSpecSaid : Prop := linesCommonMatchesSpecRow.holds Try.pinned (OpenSpec.ofChange linesCommonMatchesSpecSpec)

/-- ITS FALSE NEIGHBOUR: 'it returns false'. Refute it at one input. -/
def linesCommonMatchesSpecWrong : ChangeSpec := { name := "linesCommonMatchesSpec", fn := fun _ => fun
  | [d1, d2] => { results := [.lit (.bool false)], args := [d1, d2] }
  | _ => none }
def LinesCommonMatchesSpecWrongFalsely : Prop := linesCommonMatchesSpecRow.holds Try.pinned (OpenSpec.ofChange linesCommonMatchesSpecWrong)

/-- 'changeforgelaw1.TextpatchComposeMatchesSpec': WHATEVER THE INPUT: true; the input reads as it did. -/
def textpatchComposeMatchesSpecSpec : ChangeSpec := { name := "textpatchComposeMatchesSpec", fn := fun _ => fun
  | [d1, d2] => { results := [.lit (.bool true)], args := [d1, d2] }
  | _ => none }
def textpatchComposeMatchesSpecRow : OpenClaim := { program := "ytehdgnnelabajaa", sum := "3de508ce918dc929d05a993056ed50855c77fa7fc6271db95d3d311e9f7f78ca", func := "changeforge/changeforgelaw1.TextpatchComposeMatchesSpec", spec := "textpatchComposeMatchesSpec", inPlace := ["internal/bytealg.IndexByteString"], unfollowed := true, recurses := true, apart := false }
def TextpatchComposeMatchesSpecSaid : Prop := textpatchComposeMatchesSpecRow.holds Try.pinned (OpenSpec.ofChange textpatchComposeMatchesSpecSpec)

/-- ITS FALSE NEIGHBOUR: 'it returns false'. Refute it at one input. -/
def textpatchComposeMatchesSpecWrong : ChangeSpec := { name := "textpatchComposeMatchesSpec", fn := fun _ => fun
  | [d1, d2] => { results := [.lit (.bool false)], args := [d1, d2] }
  | _ => none }
def TextpatchComposeMatchesSpecWrongFalsely : Prop := textpatchComposeMatchesSpecRow.holds Try.pinned (OpenSpec.ofChange textpatchComposeMatchesSpecWrong)

/-- 'changeforgelaw1.TextpatchMatchesSpec': WHATEVER THE INPUT: true; the input reads as it did. -/
def textpatchMatchesSpecSpec : ChangeSpec := { name := "textpatchMatchesSpec", fn := fun _ => fun
  | [d1, d2] => { results := [.lit (.bool true)], args := [d1, d2] }
  | _ => none }
def textpatchMatchesSpecRow : OpenClaim := { program := "ytehdgnnelabajaa", sum := "3de508ce918dc929d05a993056ed50855c77fa7fc6271db95d3d311e9f7f78ca", func := "changeforge/changeforgelaw1.TextpatchMatchesSpec", spec := "textpatchMatchesSpec", inPlace := ["internal/bytealg.IndexByteString"], unfollowed := true, recurses := true, apart := false }
def TextpatchMatchesSpecSaid : Prop := textpatchMatchesSpecRow.holds Try.pinned (OpenSpec.ofChange textpatchMatchesSpecSpec)

/-- ITS FALSE NEIGHBOUR: 'it returns false'. Refute it at one input. -/
def textpatchMatchesSpecWrong : ChangeSpec := { name := "textpatchMatchesSpec", fn := fun _ => fun
  | [d1, d2] => { results := [.lit (.bool false)], args := [d1, d2] }
  | _ => none }
def TextpatchMatchesSpecWrongFalsely : Prop := textpatchMatchesSpecRow.holds Try.pinned (OpenSpec.ofChange textpatchMatchesSpecWrong)

/- THE SECOND FORM. 'bulk': how many values and letters a reading holds, each counted each time it is reached (what is shared counts as often as it is met; a slice's spare places count too). A statement '..UptoSaid' is the law's where the arguments, and the package variables that the reading takes, are together of bulk at most 1048576: NARROWER than '..Said'. Prove '..Said' where nothing that the law and all that it calls make is longer than what came in: it says more and counts as full. Else prove '..UptoSaid'. A law counts once. -/
mutual
def uptoBulk {H : Type} : DataW H → Nat
  | .lit (.string bytes) => bytes.length + 1
  | .lit _ => 1
  | .nil => 1
  | .ptr d => uptoBulk d + 1
  | .slice elems spare => uptoBulkAll elems + uptoBulkAll spare + 1
  | .agg parts => uptoBulkAll parts + 1
  | .iface _ d => uptoBulk d + 1
  | .map entries => uptoBulkEntries entries + 1
  | .held _ => 1
def uptoBulkAll {H : Type} : List (DataW H) → Nat
  | [] => 0
  | d :: r => uptoBulk d + uptoBulkAll r
def uptoBulkEntries {H : Type} : List (Lit × DataW H) → Nat
  | [] => 0
  | x :: r => uptoBulkEntry x + uptoBulkEntries r
def uptoBulkEntry {H : Type} : Lit × DataW H → Nat
  | (.string bytes, d) => bytes.length + uptoBulk d + 1
  | (_, d) => uptoBulk d + 1
 end
def uptoSmall : (H : Type) → List (DataW H) → Bool := fun _ ds => decide (uptoBulkAll ds ≤ 1048576)
def OpenSpec.upto (s : _root_.Go.ChangeSpec) : _root_.Go.OpenSpec := { _root_.Go.OpenSpec.ofChange s with cond := some uptoSmall }

/-- 'changeforgelaw1.LinesMatchesSpec', WHERE WHAT IT READS IS OF BULK AT MOST 1048576: true; the input reads as it did. -/
def linesMatchesSpecUptoRow : OpenClaim := { program := "ytehdgnnelabajaa", sum := "3de508ce918dc929d05a993056ed50855c77fa7fc6271db95d3d311e9f7f78ca", func := "changeforge/changeforgelaw1.LinesMatchesSpec", spec := "linesMatchesSpec", inPlace := ["internal/bytealg.IndexByteString", "internal/bytealg.IndexString", "internal/abi.NoEscape"], unfollowed := true, recurses := true, named := ["internal/bytealg.MaxLen"], apart := false, narrowed := true }
def LinesMatchesSpecUptoSaid : Prop := linesMatchesSpecUptoRow.holds Try.pinned (OpenSpec.upto linesMatchesSpecSpec)

/-- 'changeforgelaw1.LinesRestored', WHERE WHAT IT READS IS OF BULK AT MOST 1048576: true; the input reads as it did. -/
def linesRestoredUptoRow : OpenClaim := { program := "ytehdgnnelabajaa", sum := "3de508ce918dc929d05a993056ed50855c77fa7fc6271db95d3d311e9f7f78ca", func := "changeforge/changeforgelaw1.LinesRestored", spec := "linesRestored", inPlace := ["internal/bytealg.IndexByteString", "internal/abi.NoEscape", "internal/bytealg.IndexString"], unfollowed := true, recurses := true, named := ["internal/bytealg.MaxLen"], apart := false, narrowed := true }
def LinesRestoredUptoSaid : Prop := linesRestoredUptoRow.holds Try.pinned (OpenSpec.upto linesRestoredSpec)

/-- 'changeforgelaw1.LinesJoined', WHERE WHAT IT READS IS OF BULK AT MOST 1048576: true; the input reads as it did. -/
def linesJoinedUptoRow : OpenClaim := { program := "ytehdgnnelabajaa", sum := "3de508ce918dc929d05a993056ed50855c77fa7fc6271db95d3d311e9f7f78ca", func := "changeforge/changeforgelaw1.LinesJoined", spec := "linesJoined", inPlace := ["internal/bytealg.IndexByteString", "internal/bytealg.IndexString", "internal/abi.NoEscape"], unfollowed := true, recurses := true, named := ["internal/bytealg.MaxLen"], apart := false, narrowed := true }
def LinesJoinedUptoSaid : Prop := linesJoinedUptoRow.holds Try.pinned (OpenSpec.upto linesJoinedSpec)

/-- 'changeforgelaw1.LinesConcatenated', WHERE WHAT IT READS IS OF BULK AT MOST 1048576: true; the input reads as it did. -/
def linesConcatenatedUptoRow : OpenClaim := { program := "ytehdgnnelabajaa", sum := "3de508ce918dc929d05a993056ed50855c77fa7fc6271db95d3d311e9f7f78ca", func := "changeforge/changeforgelaw1.LinesConcatenated", spec := "linesConcatenated", inPlace := ["internal/bytealg.IndexByteString", "internal/abi.NoEscape", "internal/bytealg.IndexString"], unfollowed := true, recurses := true, named := ["internal/bytealg.MaxLen"], apart := false, narrowed := true }
def LinesConcatenatedUptoSaid : Prop := linesConcatenatedUptoRow.holds Try.pinned (OpenSpec.upto linesConcatenatedSpec)

/-- 'changeforgelaw1.LinesDigest', WHERE WHAT IT READS IS OF BULK AT MOST 1048576: true; the input reads as it did. -/
def linesDigestUptoRow : OpenClaim := { program := "ytehdgnnelabajaa", sum := "3de508ce918dc929d05a993056ed50855c77fa7fc6271db95d3d311e9f7f78ca", func := "changeforge/changeforgelaw1.LinesDigest", spec := "linesDigest", inPlace := ["internal/bytealg.IndexByteString", "internal/abi.NoEscape", "internal/bytealg.IndexString"], unfollowed := true, recurses := true, named := ["internal/bytealg.MaxLen"], apart := false, narrowed := true }
def LinesDigestUptoSaid : Prop := linesDigestUptoRow.holds Try.pinned (OpenSpec.upto linesDigestSpec)

/-- 'changeforgelaw1.LinesCommonMatchesSpec', WHERE WHAT IT READS IS OF BULK AT MOST 1048576: true; the input reads as it did. -/
def linesCommonMatchesSpecUptoRow : OpenClaim := { program := "ytehdgnnelabajaa", sum := "3de508ce918dc929d05a993056ed50855c77fa7fc6271db95d3d311e9f7f78ca", func := "changeforge/changeforgelaw1.LinesCommonMatchesSpec", spec := "linesCommonMatchesSpec", inPlace := ["internal/bytealg.IndexByteString", "internal/bytealg.IndexString", "internal/abi.NoEscape"], unfollowed := true, recurses := true, named := ["internal/bytealg.MaxLen"], apart := false, narrowed := true }
def LinesCommonMatchesSpecUptoSaid : Prop := linesCommonMatchesSpecUptoRow.holds Try.pinned (OpenSpec.upto linesCommonMatchesSpecSpec)

/-- 'changeforgelaw1.TextpatchComposeMatchesSpec', WHERE WHAT IT READS IS OF BULK AT MOST 1048576: true; the input reads as it did. -/
def textpatchComposeMatchesSpecUptoRow : OpenClaim := { program := "ytehdgnnelabajaa", sum := "3de508ce918dc929d05a993056ed50855c77fa7fc6271db95d3d311e9f7f78ca", func := "changeforge/changeforgelaw1.TextpatchComposeMatchesSpec", spec := "textpatchComposeMatchesSpec", inPlace := ["internal/bytealg.IndexByteString"], unfollowed := true, recurses := true, apart := false, narrowed := true }
def TextpatchComposeMatchesSpecUptoSaid : Prop := textpatchComposeMatchesSpecUptoRow.holds Try.pinned (OpenSpec.upto textpatchComposeMatchesSpecSpec)

/-- 'changeforgelaw1.TextpatchMatchesSpec', WHERE WHAT IT READS IS OF BULK AT MOST 1048576: true; the input reads as it did. -/
def textpatchMatchesSpecUptoRow : OpenClaim := { program := "ytehdgnnelabajaa", sum := "3de508ce918dc929d05a993056ed50855c77fa7fc6271db95d3d311e9f7f78ca", func := "changeforge/changeforgelaw1.TextpatchMatchesSpec", spec := "textpatchMatchesSpec", inPlace := ["internal/bytealg.IndexByteString"], unfollowed := true, recurses := true, apart := false, narrowed := true }
def TextpatchMatchesSpecUptoSaid : Prop := textpatchMatchesSpecUptoRow.holds Try.pinned (OpenSpec.upto textpatchMatchesSpecSpec)

end Rows
end Go.Proofs.Ytehdgnnelabajaa
