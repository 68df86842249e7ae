/-
  No cell of these rows narrows 'for every input' (looked for: loops, veiled, ifaces, maps, wideKeys, modest, calm, conditions, laid).
  DERIVED. THE GIVEN ROWS OF THIS SEAT. 10 by the template 'for every input the law returns true; each argument reads behind the call as it read before'; 0 by the template 'total and deterministic' (their statements: YthacjpemeaekdaaTotals.lean).
  GIVEN WITH THE SEED: the statements are not yours to turn. If you find one false, say at which input.
  Laid BY PROGRAM, IN A SANDBOX (cutbox-rows.mjs): the forced cells as the released guide's own fill.sh prints them over the translation 1904a7140d31c825… (all of the seat's roots in one cut). By AI agents, Wed Nov 11 2026. No macro, syntax, notation, axiom, sorry.
-/
import Derived.Test.YthacjpemeaekdaaChecked
import GoSem.Claim
import GoSem.ClaimJoined
import GoSem.ClaimMapViews
import Derived.JoinedTies
import Derived.KernelRfl
namespace Go.Proofs.Ythacjpemeaekdaa
/- THE CELL 'sum', in the pinned program and in every row, IS THE sha256 OF THE DUMP (.gsa) THAT YthacjpemeaekdaaProg.lean LOADS. Nothing in Lean hashes anything: it is a label: what it is worth is what the hold of that sum in a sandbox is worth. -/
noncomputable def Try.pinned : Pinned := { name := "ythacjpemeaekdaa", sum := "1904a7140d31c8259fd7e22942626a623dcf3000b5b47db6ffc3b4655228d655", checked := Try.checked }
namespace Rows
def none {H : Type} : Left H := { results := [], args := [] }

/-- 'changeforgelaw1.LinesMatchesSpec': WHATEVER THE INPUT: true; the input reads as it did. -/
def linesMatchesSpecSpec : ChangeSpec := { name := "linesMatchesSpec", fn := fun _ => fun
  | [d1, d2] => { results := [.lit (.bool true)], args := [d1, d2] }
  | _ => none }
def linesMatchesSpecRow : OpenClaim := { program := "ythacjpemeaekdaa", sum := "1904a7140d31c8259fd7e22942626a623dcf3000b5b47db6ffc3b4655228d655", func := "changeforge/changeforgelaw1.LinesMatchesSpec", spec := "linesMatchesSpec", inPlace := ["internal/bytealg.IndexByteString", "internal/bytealg.IndexString", "internal/abi.NoEscape"], unfollowed := true, recurses := true, named := ["internal/bytealg.MaxLen"], apart := false }
def LinesMatchesSpecSaid : Prop := linesMatchesSpecRow.holds Try.pinned (OpenSpec.ofChange linesMatchesSpecSpec)

/-- ITS FALSE NEIGHBOUR: 'it returns false'. Refute it at one input. -/
def linesMatchesSpecWrong : ChangeSpec := { name := "linesMatchesSpec", fn := fun _ => fun
  | [d1, d2] => { results := [.lit (.bool false)], args := [d1, d2] }
  | _ => none }
def LinesMatchesSpecWrongFalsely : Prop := linesMatchesSpecRow.holds Try.pinned (OpenSpec.ofChange linesMatchesSpecWrong)

/-- 'changeforgelaw1.LinesRestored': WHATEVER THE INPUT: true; the input reads as it did. -/
def linesRestoredSpec : ChangeSpec := { name := "linesRestored", fn := fun _ => fun
  | [d] => { results := [.lit (.bool true)], args := [d] }
  | _ => none }
def linesRestoredRow : OpenClaim := { program := "ythacjpemeaekdaa", sum := "1904a7140d31c8259fd7e22942626a623dcf3000b5b47db6ffc3b4655228d655", func := "changeforge/changeforgelaw1.LinesRestored", spec := "linesRestored", inPlace := ["internal/bytealg.IndexByteString", "internal/abi.NoEscape", "internal/bytealg.IndexString"], unfollowed := true, recurses := true, named := ["internal/bytealg.MaxLen"], apart := false }
def LinesRestoredSaid : Prop := linesRestoredRow.holds Try.pinned (OpenSpec.ofChange linesRestoredSpec)

/-- ITS FALSE NEIGHBOUR: 'it returns false'. Refute it at one input. -/
def linesRestoredWrong : ChangeSpec := { name := "linesRestored", fn := fun _ => fun
  | [d] => { results := [.lit (.bool false)], args := [d] }
  | _ => none }
def LinesRestoredWrongFalsely : Prop := linesRestoredRow.holds Try.pinned (OpenSpec.ofChange linesRestoredWrong)

/-- 'changeforgelaw1.LinesJoined': WHATEVER THE INPUT: true; the input reads as it did. -/
def linesJoinedSpec : ChangeSpec := { name := "linesJoined", fn := fun _ => fun
  | [d] => { results := [.lit (.bool true)], args := [d] }
  | _ => none }
def linesJoinedRow : OpenClaim := { program := "ythacjpemeaekdaa", sum := "1904a7140d31c8259fd7e22942626a623dcf3000b5b47db6ffc3b4655228d655", func := "changeforge/changeforgelaw1.LinesJoined", spec := "linesJoined", inPlace := ["internal/bytealg.IndexByteString", "internal/bytealg.IndexString", "internal/abi.NoEscape"], unfollowed := true, recurses := true, named := ["internal/bytealg.MaxLen"], apart := false }
def LinesJoinedSaid : Prop := linesJoinedRow.holds Try.pinned (OpenSpec.ofChange linesJoinedSpec)

/-- ITS FALSE NEIGHBOUR: 'it returns false'. Refute it at one input. -/
def linesJoinedWrong : ChangeSpec := { name := "linesJoined", fn := fun _ => fun
  | [d] => { results := [.lit (.bool false)], args := [d] }
  | _ => none }
def LinesJoinedWrongFalsely : Prop := linesJoinedRow.holds Try.pinned (OpenSpec.ofChange linesJoinedWrong)

/-- 'changeforgelaw1.LinesConcatenated': WHATEVER THE INPUT: true; the input reads as it did. -/
def linesConcatenatedSpec : ChangeSpec := { name := "linesConcatenated", fn := fun _ => fun
  | [d1, d2] => { results := [.lit (.bool true)], args := [d1, d2] }
  | _ => none }
def linesConcatenatedRow : OpenClaim := { program := "ythacjpemeaekdaa", sum := "1904a7140d31c8259fd7e22942626a623dcf3000b5b47db6ffc3b4655228d655", func := "changeforge/changeforgelaw1.LinesConcatenated", spec := "linesConcatenated", inPlace := ["internal/bytealg.IndexByteString", "internal/abi.NoEscape", "internal/bytealg.IndexString"], unfollowed := true, recurses := true, named := ["internal/bytealg.MaxLen"], apart := false }
def LinesConcatenatedSaid : Prop := linesConcatenatedRow.holds Try.pinned (OpenSpec.ofChange linesConcatenatedSpec)

/-- ITS FALSE NEIGHBOUR: 'it returns false'. Refute it at one input. -/
def linesConcatenatedWrong : ChangeSpec := { name := "linesConcatenated", fn := fun _ => fun
  | [d1, d2] => { results := [.lit (.bool false)], args := [d1, d2] }
  | _ => none }
def LinesConcatenatedWrongFalsely : Prop := linesConcatenatedRow.holds Try.pinned (OpenSpec.ofChange linesConcatenatedWrong)

/-- 'changeforgelaw1.LinesDigest': WHATEVER THE INPUT: true; the input reads as it did. -/
def linesDigestSpec : ChangeSpec := { name := "linesDigest", fn := fun _ => fun
  | [d1, d2] => { results := [.lit (.bool true)], args := [d1, d2] }
  | _ => none }
def linesDigestRow : OpenClaim := { program := "ythacjpemeaekdaa", sum := "1904a7140d31c8259fd7e22942626a623dcf3000b5b47db6ffc3b4655228d655", func := "changeforge/changeforgelaw1.LinesDigest", spec := "linesDigest", inPlace := ["internal/bytealg.IndexByteString", "internal/abi.NoEscape", "internal/bytealg.IndexString"], unfollowed := true, recurses := true, named := ["internal/bytealg.MaxLen"], apart := false }
def LinesDigestSaid : Prop := linesDigestRow.holds Try.pinned (OpenSpec.ofChange linesDigestSpec)

/-- ITS FALSE NEIGHBOUR: 'it returns false'. Refute it at one input. -/
def linesDigestWrong : ChangeSpec := { name := "linesDigest", fn := fun _ => fun
  | [d1, d2] => { results := [.lit (.bool false)], args := [d1, d2] }
  | _ => none }
def LinesDigestWrongFalsely : Prop := linesDigestRow.holds Try.pinned (OpenSpec.ofChange linesDigestWrong)

/-- 'changeforgelaw1.TextpatchComposeMatchesSpec': WHATEVER THE INPUT: true; the input reads as it did. -/
def textpatchComposeMatchesSpecSpec : ChangeSpec := { name := "textpatchComposeMatchesSpec", fn := fun _ => fun
  | [d1, d2] => { results := [.lit (.bool true)], args := [d1, d2] }
  | _ => none }
def textpatchComposeMatchesSpecRow : OpenClaim := { program := "ythacjpemeaekdaa", sum := "1904a7140d31c8259fd7e22942626a623dcf3000b5b47db6ffc3b4655228d655", func := "changeforge/changeforgelaw1.TextpatchComposeMatchesSpec", spec := "textpatchComposeMatchesSpec", inPlace := ["internal/bytealg.IndexByteString"], unfollowed := true, recurses := true, apart := false }
def TextpatchComposeMatchesSpecSaid : Prop := textpatchComposeMatchesSpecRow.holds Try.pinned (OpenSpec.ofChange textpatchComposeMatchesSpecSpec)

/-- ITS FALSE NEIGHBOUR: 'it returns false'. Refute it at one input. -/
def textpatchComposeMatchesSpecWrong : ChangeSpec := { name := "textpatchComposeMatchesSpec", fn := fun _ => fun
  | [d1, d2] => { results := [.lit (.bool false)], args := [d1, d2] }
  | _ => none }
def TextpatchComposeMatchesSpecWrongFalsely : Prop := textpatchComposeMatchesSpecRow.holds Try.pinned (OpenSpec.ofChange textpatchComposeMatchesSpecWrong)

/-- 'changeforgelaw1.TextpatchComposition': WHATEVER THE INPUT: true; the input reads as it did. -/
def textpatchCompositionSpec : ChangeSpec := { name := "textpatchComposition", fn := fun _ => fun
  | [d1, d2, d3] => { results := [.lit (.bool true)], args := [d1, d2, d3] }
  | _ => none }
def textpatchCompositionRow : OpenClaim := { program := "ythacjpemeaekdaa", sum := "1904a7140d31c8259fd7e22942626a623dcf3000b5b47db6ffc3b4655228d655", func := "changeforge/changeforgelaw1.TextpatchComposition", spec := "textpatchComposition", inPlace := ["internal/bytealg.IndexByteString"], unfollowed := true, recurses := true, apart := false }
def TextpatchCompositionSaid : Prop := textpatchCompositionRow.holds Try.pinned (OpenSpec.ofChange textpatchCompositionSpec)

/-- ITS FALSE NEIGHBOUR: 'it returns false'. Refute it at one input. -/
def textpatchCompositionWrong : ChangeSpec := { name := "textpatchComposition", fn := fun _ => fun
  | [d1, d2, d3] => { results := [.lit (.bool false)], args := [d1, d2, d3] }
  | _ => none }
def TextpatchCompositionWrongFalsely : Prop := textpatchCompositionRow.holds Try.pinned (OpenSpec.ofChange textpatchCompositionWrong)

/-- 'changeforgelaw1.TextpatchIdentity': WHATEVER THE INPUT: true; the input reads as it did. -/
def textpatchIdentitySpec : ChangeSpec := { name := "textpatchIdentity", fn := fun _ => fun
  | [d1, d2] => { results := [.lit (.bool true)], args := [d1, d2] }
  | _ => none }
def textpatchIdentityRow : OpenClaim := { program := "ythacjpemeaekdaa", sum := "1904a7140d31c8259fd7e22942626a623dcf3000b5b47db6ffc3b4655228d655", func := "changeforge/changeforgelaw1.TextpatchIdentity", spec := "textpatchIdentity", inPlace := ["internal/bytealg.IndexByteString"], unfollowed := true, recurses := true, apart := false }
def TextpatchIdentitySaid : Prop := textpatchIdentityRow.holds Try.pinned (OpenSpec.ofChange textpatchIdentitySpec)

/-- ITS FALSE NEIGHBOUR: 'it returns false'. Refute it at one input. -/
def textpatchIdentityWrong : ChangeSpec := { name := "textpatchIdentity", fn := fun _ => fun
  | [d1, d2] => { results := [.lit (.bool false)], args := [d1, d2] }
  | _ => none }
def TextpatchIdentityWrongFalsely : Prop := textpatchIdentityRow.holds Try.pinned (OpenSpec.ofChange textpatchIdentityWrong)

/-- 'changeforgelaw1.CommuteComposes': WHATEVER THE INPUT: true; the input reads as it did. -/
def commuteComposesSpec : ChangeSpec := { name := "commuteComposes", fn := fun _ => fun
  | [d1, d2] => { results := [.lit (.bool true)], args := [d1, d2] }
  | _ => none }
def commuteComposesRow : OpenClaim := { program := "ythacjpemeaekdaa", sum := "1904a7140d31c8259fd7e22942626a623dcf3000b5b47db6ffc3b4655228d655", func := "changeforge/changeforgelaw1.CommuteComposes", spec := "commuteComposes", inPlace := ["internal/bytealg.IndexByteString"], unfollowed := true, recurses := true, apart := false }
def CommuteComposesSaid : Prop := commuteComposesRow.holds Try.pinned (OpenSpec.ofChange commuteComposesSpec)

/-- ITS FALSE NEIGHBOUR: 'it returns false'. Refute it at one input. -/
def commuteComposesWrong : ChangeSpec := { name := "commuteComposes", fn := fun _ => fun
  | [d1, d2] => { results := [.lit (.bool false)], args := [d1, d2] }
  | _ => none }
def CommuteComposesWrongFalsely : Prop := commuteComposesRow.holds Try.pinned (OpenSpec.ofChange commuteComposesWrong)

/-- 'changeforgelaw1.TextpatchScripts': WHATEVER THE INPUT: true; the input reads as it did. -/
def textpatchScriptsSpec : ChangeSpec := { name := "textpatchScripts", fn := fun _ => fun
  | [d1, d2, d3] => { results := [.lit (.bool true)], args := [d1, d2, d3] }
  | _ => none }
def textpatchScriptsRow : OpenClaim := { program := "ythacjpemeaekdaa", sum := "1904a7140d31c8259fd7e22942626a623dcf3000b5b47db6ffc3b4655228d655", func := "changeforge/changeforgelaw1.TextpatchScripts", spec := "textpatchScripts", inPlace := ["internal/bytealg.IndexByteString"], unfollowed := true, recurses := true, apart := false }
def TextpatchScriptsSaid : Prop := textpatchScriptsRow.holds Try.pinned (OpenSpec.ofChange textpatchScriptsSpec)

/-- ITS FALSE NEIGHBOUR: 'it returns false'. Refute it at one input. -/
def textpatchScriptsWrong : ChangeSpec := { name := "textpatchScripts", fn := fun _ => fun
  | [d1, d2, d3] => { results := [.lit (.bool false)], args := [d1, d2, d3] }
  | _ => none }
def TextpatchScriptsWrongFalsely : Prop := textpatchScriptsRow.holds Try.pinned (OpenSpec.ofChange textpatchScriptsWrong)

/- THE SECOND FORM. 'bulk': how many values and letters a reading holds, each counted each time it is reached (what is shared counts as often as it is met; a slice's spare places count too). A statement '..UptoSaid' is the law's where the arguments, and the package variables that the reading takes, are together of bulk at most 1048576: NARROWER than '..Said'. Prove '..Said' where nothing that the law and all that it calls make is longer than what came in: it says more and counts as full. Else prove '..UptoSaid'. A law counts once. -/
mutual
def uptoBulk {H : Type} : DataW H → Nat
  | .lit (.string bytes) => bytes.length + 1
  | .lit _ => 1
  | .nil => 1
  | .ptr d => uptoBulk d + 1
  | .slice elems spare => uptoBulkAll elems + uptoBulkAll spare + 1
  | .agg parts => uptoBulkAll parts + 1
  | .iface _ d => uptoBulk d + 1
  | .map entries => uptoBulkEntries entries + 1
  | .held _ => 1
def uptoBulkAll {H : Type} : List (DataW H) → Nat
  | [] => 0
  | d :: r => uptoBulk d + uptoBulkAll r
def uptoBulkEntries {H : Type} : List (Lit × DataW H) → Nat
  | [] => 0
  | x :: r => uptoBulkEntry x + uptoBulkEntries r
def uptoBulkEntry {H : Type} : Lit × DataW H → Nat
  | (.string bytes, d) => bytes.length + uptoBulk d + 1
  | (_, d) => uptoBulk d + 1
 end
def uptoSmall : (H : Type) → List (DataW H) → Bool := fun _ ds => decide (uptoBulkAll ds ≤ 1048576)
def OpenSpec.upto (s : _root_.Go.ChangeSpec) : _root_.Go.OpenSpec := { _root_.Go.OpenSpec.ofChange s with cond := some uptoSmall }

/-- 'changeforgelaw1.LinesMatchesSpec', WHERE WHAT IT READS IS OF BULK AT MOST 1048576: true; the input reads as it did. -/
def linesMatchesSpecUptoRow : OpenClaim := { program := "ythacjpemeaekdaa", sum := "1904a7140d31c8259fd7e22942626a623dcf3000b5b47db6ffc3b4655228d655", func := "changeforge/changeforgelaw1.LinesMatchesSpec", spec := "linesMatchesSpec", inPlace := ["internal/bytealg.IndexByteString", "internal/bytealg.IndexString", "internal/abi.NoEscape"], unfollowed := true, recurses := true, named := ["internal/bytealg.MaxLen"], apart := false, narrowed := true }
def LinesMatchesSpecUptoSaid : Prop := linesMatchesSpecUptoRow.holds Try.pinned (OpenSpec.upto linesMatchesSpecSpec)

/-- 'changeforgelaw1.LinesRestored', WHERE WHAT IT READS IS OF BULK AT MOST 1048576: true; the input reads as it did. -/
def linesRestoredUptoRow : OpenClaim := { program := "ythacjpemeaekdaa", sum := "1904a7140d31c8259fd7e22942626a623dcf3000b5b47db6ffc3b4655228d655", func := "changeforge/changeforgelaw1.LinesRestored", spec := "linesRestored", inPlace := ["internal/bytealg.IndexByteString", "internal/abi.NoEscape", "internal/bytealg.IndexString"], unfollowed := true, recurses := true, named := ["internal/bytealg.MaxLen"], apart := false, narrowed := true }
def LinesRestoredUptoSaid : Prop := linesRestoredUptoRow.holds Try.pinned (OpenSpec.upto linesRestoredSpec)

/-- 'changeforgelaw1.LinesJoined', WHERE WHAT IT READS IS OF BULK AT MOST 1048576: true; the input reads as it did. -/
def linesJoinedUptoRow : OpenClaim := { program := "ythacjpemeaekdaa", sum := "1904a7140d31c8259fd7e22942626a623dcf3000b5b47db6ffc3b4655228d655", func := "changeforge/changeforgelaw1.LinesJoined", spec := "linesJoined", inPlace := ["internal/bytealg.IndexByteString", "internal/bytealg.IndexString", "internal/abi.NoEscape"], unfollowed := true, recurses := true, named := ["internal/bytealg.MaxLen"], apart := false, narrowed := true }
def LinesJoinedUptoSaid : Prop := linesJoinedUptoRow.holds Try.pinned (OpenSpec.upto linesJoinedSpec)

/-- 'changeforgelaw1.LinesConcatenated', WHERE WHAT IT READS IS OF BULK AT MOST 1048576: true; the input reads as it did. -/
def linesConcatenatedUptoRow : OpenClaim := { program := "ythacjpemeaekdaa", sum := "1904a7140d31c8259fd7e22942626a623dcf3000b5b47db6ffc3b4655228d655", func := "changeforge/changeforgelaw1.LinesConcatenated", spec := "linesConcatenated", inPlace := ["internal/bytealg.IndexByteString", "internal/abi.NoEscape", "internal/bytealg.IndexString"], unfollowed := true, recurses := true, named := ["internal/bytealg.MaxLen"], apart := false, narrowed := true }
def LinesConcatenatedUptoSaid : Prop := linesConcatenatedUptoRow.holds Try.pinned (OpenSpec.upto linesConcatenatedSpec)

/-- 'changeforgelaw1.LinesDigest', WHERE WHAT IT READS IS OF BULK AT MOST 1048576: true; the input reads as it did. -/
def linesDigestUptoRow : OpenClaim := { program := "ythacjpemeaekdaa", sum := "1904a7140d31c8259fd7e22942626a623dcf3000b5b47db6ffc3b4655228d655", func := "changeforge/changeforgelaw1.LinesDigest", spec := "linesDigest", inPlace := ["internal/bytealg.IndexByteString", "internal/abi.NoEscape", "internal/bytealg.IndexString"], unfollowed := true, recurses := true, named := ["internal/bytealg.MaxLen"], apart := false, narrowed := true }
def LinesDigestUptoSaid : Prop := linesDigestUptoRow.holds Try.pinned (OpenSpec.upto linesDigestSpec)

/-- 'changeforgelaw1.TextpatchComposeMatchesSpec', WHERE WHAT IT READS IS OF BULK AT MOST 1048576: true; the input reads as it did. -/
def textpatchComposeMatchesSpecUptoRow : OpenClaim := { program := "ythacjpemeaekdaa", sum := "1904a7140d31c8259fd7e22942626a623dcf3000b5b47db6ffc3b4655228d655", func := "changeforge/changeforgelaw1.TextpatchComposeMatchesSpec", spec := "textpatchComposeMatchesSpec", inPlace := ["internal/bytealg.IndexByteString"], unfollowed := true, recurses := true, apart := false, narrowed := true }
def TextpatchComposeMatchesSpecUptoSaid : Prop := textpatchComposeMatchesSpecUptoRow.holds Try.pinned (OpenSpec.upto textpatchComposeMatchesSpecSpec)

/-- 'changeforgelaw1.TextpatchComposition', WHERE WHAT IT READS IS OF BULK AT MOST 1048576: true; the input reads as it did. -/
def textpatchCompositionUptoRow : OpenClaim := { program := "ythacjpemeaekdaa", sum := "1904a7140d31c8259fd7e22942626a623dcf3000b5b47db6ffc3b4655228d655", func := "changeforge/changeforgelaw1.TextpatchComposition", spec := "textpatchComposition", inPlace := ["internal/bytealg.IndexByteString"], unfollowed := true, recurses := true, apart := false, narrowed := true }
def TextpatchCompositionUptoSaid : Prop := textpatchCompositionUptoRow.holds Try.pinned (OpenSpec.upto textpatchCompositionSpec)

/-- 'changeforgelaw1.TextpatchIdentity', WHERE WHAT IT READS IS OF BULK AT MOST 1048576: true; the input reads as it did. -/
def textpatchIdentityUptoRow : OpenClaim := { program := "ythacjpemeaekdaa", sum := "1904a7140d31c8259fd7e22942626a623dcf3000b5b47db6ffc3b4655228d655", func := "changeforge/changeforgelaw1.TextpatchIdentity", spec := "textpatchIdentity", inPlace := ["internal/bytealg.IndexByteString"], unfollowed := true, recurses := true, apart := false, narrowed := true }
def TextpatchIdentityUptoSaid : Prop := textpatchIdentityUptoRow.holds Try.pinned (OpenSpec.upto textpatchIdentitySpec)

/-- 'changeforgelaw1.CommuteComposes', WHERE WHAT IT READS IS OF BULK AT MOST 1048576: true; the input reads as it did. -/
def commuteComposesUptoRow : OpenClaim := { program := "ythacjpemeaekdaa", sum := "1904a7140d31c8259fd7e22942626a623dcf3000b5b47db6ffc3b4655228d655", func := "changeforge/changeforgelaw1.CommuteComposes", spec := "commuteComposes", inPlace := ["internal/bytealg.IndexByteString"], unfollowed := true, recurses := true, apart := false, narrowed := true }
def CommuteComposesUptoSaid : Prop := commuteComposesUptoRow.holds Try.pinned (OpenSpec.upto commuteComposesSpec)

/-- 'changeforgelaw1.TextpatchScripts', WHERE WHAT IT READS IS OF BULK AT MOST 1048576: true; the input reads as it did. -/
def textpatchScriptsUptoRow : OpenClaim := { program := "ythacjpemeaekdaa", sum := "1904a7140d31c8259fd7e22942626a623dcf3000b5b47db6ffc3b4655228d655", func := "changeforge/changeforgelaw1.TextpatchScripts", spec := "textpatchScripts", inPlace := ["internal/bytealg.IndexByteString"], unfollowed := true, recurses := true, apart := false, narrowed := true }
def TextpatchScriptsUptoSaid : Prop := textpatchScriptsUptoRow.holds Try.pinned (OpenSpec.upto textpatchScriptsSpec)

end Rows
end Go.Proofs.Ythacjpemeaekdaa
