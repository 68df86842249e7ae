/-
  No cell of these rows narrows 'for every input' (looked for: loops, veiled, ifaces, maps, wideKeys, modest, calm, conditions, laid).
  DERIVED. THE GIVEN ROWS OF THIS SEAT. 10 by the template 'for every input the law returns true; each argument reads behind the call as it read before'; 0 by the template 'total and deterministic' (their statements: YtmbeokkaiblblaaTotals.lean).
  GIVEN WITH THE SEED: the statements are not yours to turn. If you find one false, say at which input.
  Laid BY PROGRAM, IN A SANDBOX (cutbox-rows.mjs): the forced cells as the released guide's own fill.sh prints them over the translation cf518bf0356621f1… (all of the seat's roots in one cut). By AI agents, Wed Nov 11 2026. No macro, syntax, notation, axiom, sorry.
-/
import Derived.Test.YtmbeokkaiblblaaChecked
import GoSem.Claim
import GoSem.ClaimJoined
import GoSem.ClaimMapViews
import Derived.JoinedTies
import Derived.KernelRfl
namespace Go.Proofs.Ytmbeokkaiblblaa
/- THE CELL 'sum', in the pinned program and in every row, IS THE sha256 OF THE DUMP (.gsa) THAT YtmbeokkaiblblaaProg.lean LOADS. Nothing in Lean hashes anything: it is a label: what it is worth is what the hold of that sum in a sandbox is worth. -/
noncomputable def Try.pinned : Pinned := { name := "ytmbeokkaiblblaa", sum := "cf518bf0356621f18bc6de92cb9a12594b57fe86f28e20bd7091ede9ec2d955b", checked := Try.checked }
namespace Rows
def none {H : Type} : Left H := { results := [], args := [] }

/-- 'changeforgelaw1.TextpatchMatchesSpec': WHATEVER THE INPUT: true; the input reads as it did. -/
def textpatchMatchesSpecSpec : ChangeSpec := { name := "textpatchMatchesSpec", fn := fun _ => fun
  | [d1, d2] => { results := [.lit (.bool true)], args := [d1, d2] }
  | _ => none }
def textpatchMatchesSpecRow : OpenClaim := { program := "ytmbeokkaiblblaa", sum := "cf518bf0356621f18bc6de92cb9a12594b57fe86f28e20bd7091ede9ec2d955b", func := "changeforge/changeforgelaw1.TextpatchMatchesSpec", spec := "textpatchMatchesSpec", inPlace := ["internal/bytealg.IndexByteString"], unfollowed := true, recurses := true, apart := false }
def TextpatchMatchesSpecSaid : Prop := textpatchMatchesSpecRow.holds Try.pinned (OpenSpec.ofChange textpatchMatchesSpecSpec)

/-- ITS FALSE NEIGHBOUR: 'it returns false'. Refute it at one input. -/
def textpatchMatchesSpecWrong : ChangeSpec := { name := "textpatchMatchesSpec", fn := fun _ => fun
  | [d1, d2] => { results := [.lit (.bool false)], args := [d1, d2] }
  | _ => none }
def TextpatchMatchesSpecWrongFalsely : Prop := textpatchMatchesSpecRow.holds Try.pinned (OpenSpec.ofChange textpatchMatchesSpecWrong)

/-- 'changeforgelaw1.TextpatchUndo': WHATEVER THE INPUT: true; the input reads as it did. -/
def textpatchUndoSpec : ChangeSpec := { name := "textpatchUndo", fn := fun _ => fun
  | [d1, d2] => { results := [.lit (.bool true)], args := [d1, d2] }
  | _ => none }
def textpatchUndoRow : OpenClaim := { program := "ytmbeokkaiblblaa", sum := "cf518bf0356621f18bc6de92cb9a12594b57fe86f28e20bd7091ede9ec2d955b", func := "changeforge/changeforgelaw1.TextpatchUndo", spec := "textpatchUndo", inPlace := ["internal/bytealg.IndexByteString"], unfollowed := true, recurses := true, apart := false }
def TextpatchUndoSaid : Prop := textpatchUndoRow.holds Try.pinned (OpenSpec.ofChange textpatchUndoSpec)

/-- ITS FALSE NEIGHBOUR: 'it returns false'. Refute it at one input. -/
def textpatchUndoWrong : ChangeSpec := { name := "textpatchUndo", fn := fun _ => fun
  | [d1, d2] => { results := [.lit (.bool false)], args := [d1, d2] }
  | _ => none }
def TextpatchUndoWrongFalsely : Prop := textpatchUndoRow.holds Try.pinned (OpenSpec.ofChange textpatchUndoWrong)

/-- 'changeforgelaw1.TextpatchInvolution': WHATEVER THE INPUT: true; the input reads as it did. -/
def textpatchInvolutionSpec : ChangeSpec := { name := "textpatchInvolution", fn := fun _ => fun
  | [d] => { results := [.lit (.bool true)], args := [d] }
  | _ => none }
def textpatchInvolutionRow : OpenClaim := { program := "ytmbeokkaiblblaa", sum := "cf518bf0356621f18bc6de92cb9a12594b57fe86f28e20bd7091ede9ec2d955b", func := "changeforge/changeforgelaw1.TextpatchInvolution", spec := "textpatchInvolution", inPlace := ["internal/bytealg.IndexByteString"], unfollowed := true, recurses := true, apart := false }
def TextpatchInvolutionSaid : Prop := textpatchInvolutionRow.holds Try.pinned (OpenSpec.ofChange textpatchInvolutionSpec)

/-- ITS FALSE NEIGHBOUR: 'it returns false'. Refute it at one input. -/
def textpatchInvolutionWrong : ChangeSpec := { name := "textpatchInvolution", fn := fun _ => fun
  | [d] => { results := [.lit (.bool false)], args := [d] }
  | _ => none }
def TextpatchInvolutionWrongFalsely : Prop := textpatchInvolutionRow.holds Try.pinned (OpenSpec.ofChange textpatchInvolutionWrong)

/-- 'changeforgelaw1.CommuteTwice': WHATEVER THE INPUT: true; the input reads as it did. -/
def commuteTwiceSpec : ChangeSpec := { name := "commuteTwice", fn := fun _ => fun
  | [d1, d2] => { results := [.lit (.bool true)], args := [d1, d2] }
  | _ => none }
def commuteTwiceRow : OpenClaim := { program := "ytmbeokkaiblblaa", sum := "cf518bf0356621f18bc6de92cb9a12594b57fe86f28e20bd7091ede9ec2d955b", func := "changeforge/changeforgelaw1.CommuteTwice", spec := "commuteTwice", inPlace := ["internal/bytealg.IndexByteString"], apart := false }
def CommuteTwiceSaid : Prop := commuteTwiceRow.holds Try.pinned (OpenSpec.ofChange commuteTwiceSpec)

/-- ITS FALSE NEIGHBOUR: 'it returns false'. Refute it at one input. -/
def commuteTwiceWrong : ChangeSpec := { name := "commuteTwice", fn := fun _ => fun
  | [d1, d2] => { results := [.lit (.bool false)], args := [d1, d2] }
  | _ => none }
def CommuteTwiceWrongFalsely : Prop := commuteTwiceRow.holds Try.pinned (OpenSpec.ofChange commuteTwiceWrong)

/-- 'changeforgelaw1.CommuteMatchesSpec': WHATEVER THE INPUT: true; the input reads as it did. -/
def commuteMatchesSpecSpec : ChangeSpec := { name := "commuteMatchesSpec", fn := fun _ => fun
  | [d1, d2] => { results := [.lit (.bool true)], args := [d1, d2] }
  | _ => none }
def commuteMatchesSpecRow : OpenClaim := { program := "ytmbeokkaiblblaa", sum := "cf518bf0356621f18bc6de92cb9a12594b57fe86f28e20bd7091ede9ec2d955b", func := "changeforge/changeforgelaw1.CommuteMatchesSpec", spec := "commuteMatchesSpec", inPlace := ["internal/bytealg.IndexByteString"], apart := false }
def CommuteMatchesSpecSaid : Prop := commuteMatchesSpecRow.holds Try.pinned (OpenSpec.ofChange commuteMatchesSpecSpec)

/-- ITS FALSE NEIGHBOUR: 'it returns false'. Refute it at one input. -/
def commuteMatchesSpecWrong : ChangeSpec := { name := "commuteMatchesSpec", fn := fun _ => fun
  | [d1, d2] => { results := [.lit (.bool false)], args := [d1, d2] }
  | _ => none }
def CommuteMatchesSpecWrongFalsely : Prop := commuteMatchesSpecRow.holds Try.pinned (OpenSpec.ofChange commuteMatchesSpecWrong)

/-- 'changeforgelaw1.CommuteInverse': WHATEVER THE INPUT: true; the input reads as it did. -/
def commuteInverseSpec : ChangeSpec := { name := "commuteInverse", fn := fun _ => fun
  | [d1, d2] => { results := [.lit (.bool true)], args := [d1, d2] }
  | _ => none }
def commuteInverseRow : OpenClaim := { program := "ytmbeokkaiblblaa", sum := "cf518bf0356621f18bc6de92cb9a12594b57fe86f28e20bd7091ede9ec2d955b", func := "changeforge/changeforgelaw1.CommuteInverse", spec := "commuteInverse", inPlace := ["internal/bytealg.IndexByteString"], unfollowed := true, recurses := true, apart := false }
def CommuteInverseSaid : Prop := commuteInverseRow.holds Try.pinned (OpenSpec.ofChange commuteInverseSpec)

/-- ITS FALSE NEIGHBOUR: 'it returns false'. Refute it at one input. -/
def commuteInverseWrong : ChangeSpec := { name := "commuteInverse", fn := fun _ => fun
  | [d1, d2] => { results := [.lit (.bool false)], args := [d1, d2] }
  | _ => none }
def CommuteInverseWrongFalsely : Prop := commuteInverseRow.holds Try.pinned (OpenSpec.ofChange commuteInverseWrong)

/-- 'changeforgelaw1.DiffApplies': WHATEVER THE INPUT: true; the input reads as it did. -/
def diffAppliesSpec : ChangeSpec := { name := "diffApplies", fn := fun _ => fun
  | [d1, d2] => { results := [.lit (.bool true)], args := [d1, d2] }
  | _ => none }
def diffAppliesRow : OpenClaim := { program := "ytmbeokkaiblblaa", sum := "cf518bf0356621f18bc6de92cb9a12594b57fe86f28e20bd7091ede9ec2d955b", func := "changeforge/changeforgelaw1.DiffApplies", spec := "diffApplies", inPlace := ["internal/bytealg.IndexByteString"], unfollowed := true, recurses := true, apart := false }
def DiffAppliesSaid : Prop := diffAppliesRow.holds Try.pinned (OpenSpec.ofChange diffAppliesSpec)

/-- ITS FALSE NEIGHBOUR: 'it returns false'. Refute it at one input. -/
def diffAppliesWrong : ChangeSpec := { name := "diffApplies", fn := fun _ => fun
  | [d1, d2] => { results := [.lit (.bool false)], args := [d1, d2] }
  | _ => none }
def DiffAppliesWrongFalsely : Prop := diffAppliesRow.holds Try.pinned (OpenSpec.ofChange diffAppliesWrong)

/-- 'changeforgelaw1.DiffLeast': WHATEVER THE INPUT: true; the input reads as it did. -/
def diffLeastSpec : ChangeSpec := { name := "diffLeast", fn := fun _ => fun
  | [d1, d2] => { results := [.lit (.bool true)], args := [d1, d2] }
  | _ => none }
def diffLeastRow : OpenClaim := { program := "ytmbeokkaiblblaa", sum := "cf518bf0356621f18bc6de92cb9a12594b57fe86f28e20bd7091ede9ec2d955b", func := "changeforge/changeforgelaw1.DiffLeast", spec := "diffLeast", inPlace := ["internal/bytealg.IndexByteString"], unfollowed := true, recurses := true, apart := false }
def DiffLeastSaid : Prop := diffLeastRow.holds Try.pinned (OpenSpec.ofChange diffLeastSpec)

/-- ITS FALSE NEIGHBOUR: 'it returns false'. Refute it at one input. -/
def diffLeastWrong : ChangeSpec := { name := "diffLeast", fn := fun _ => fun
  | [d1, d2] => { results := [.lit (.bool false)], args := [d1, d2] }
  | _ => none }
def DiffLeastWrongFalsely : Prop := diffLeastRow.holds Try.pinned (OpenSpec.ofChange diffLeastWrong)

/-- 'changeforgelaw1.CommuteSameEffect': WHATEVER THE INPUT: true; the input reads as it did. -/
def commuteSameEffectSpec : ChangeSpec := { name := "commuteSameEffect", fn := fun _ => fun
  | [d1, d2, d3] => { results := [.lit (.bool true)], args := [d1, d2, d3] }
  | _ => none }
def commuteSameEffectRow : OpenClaim := { program := "ytmbeokkaiblblaa", sum := "cf518bf0356621f18bc6de92cb9a12594b57fe86f28e20bd7091ede9ec2d955b", func := "changeforge/changeforgelaw1.CommuteSameEffect", spec := "commuteSameEffect", inPlace := ["internal/bytealg.IndexByteString"], apart := false }
def CommuteSameEffectSaid : Prop := commuteSameEffectRow.holds Try.pinned (OpenSpec.ofChange commuteSameEffectSpec)

/-- ITS FALSE NEIGHBOUR: 'it returns false'. Refute it at one input. -/
def commuteSameEffectWrong : ChangeSpec := { name := "commuteSameEffect", fn := fun _ => fun
  | [d1, d2, d3] => { results := [.lit (.bool false)], args := [d1, d2, d3] }
  | _ => none }
def CommuteSameEffectWrongFalsely : Prop := commuteSameEffectRow.holds Try.pinned (OpenSpec.ofChange commuteSameEffectWrong)

/-- 'changeforgelaw1.CommuteRebases': WHATEVER THE INPUT: true; the input reads as it did. -/
def commuteRebasesSpec : ChangeSpec := { name := "commuteRebases", fn := fun _ => fun
  | [d1, d2, d3] => { results := [.lit (.bool true)], args := [d1, d2, d3] }
  | _ => none }
def commuteRebasesRow : OpenClaim := { program := "ytmbeokkaiblblaa", sum := "cf518bf0356621f18bc6de92cb9a12594b57fe86f28e20bd7091ede9ec2d955b", func := "changeforge/changeforgelaw1.CommuteRebases", spec := "commuteRebases", inPlace := ["internal/bytealg.IndexByteString"], apart := false }
def CommuteRebasesSaid : Prop := commuteRebasesRow.holds Try.pinned (OpenSpec.ofChange commuteRebasesSpec)

/-- ITS FALSE NEIGHBOUR: 'it returns false'. Refute it at one input. -/
def commuteRebasesWrong : ChangeSpec := { name := "commuteRebases", fn := fun _ => fun
  | [d1, d2, d3] => { results := [.lit (.bool false)], args := [d1, d2, d3] }
  | _ => none }
def CommuteRebasesWrongFalsely : Prop := commuteRebasesRow.holds Try.pinned (OpenSpec.ofChange commuteRebasesWrong)

/- THE SECOND FORM. 'bulk': how many values and letters a reading holds, each counted each time it is reached (what is shared counts as often as it is met; a slice's spare places count too). A statement '..UptoSaid' is the law's where the arguments, and the package variables that the reading takes, are together of bulk at most 1048576: NARROWER than '..Said'. Prove '..Said' where nothing that the law and all that it calls make is longer than what came in: it says more and counts as full. Else prove '..UptoSaid'. A law counts once. -/
mutual
def uptoBulk {H : Type} : DataW H → Nat
  | .lit (.string bytes) => bytes.length + 1
  | .lit _ => 1
  | .nil => 1
  | .ptr d => uptoBulk d + 1
  | .slice elems spare => uptoBulkAll elems + uptoBulkAll spare + 1
  | .agg parts => uptoBulkAll parts + 1
  | .iface _ d => uptoBulk d + 1
  | .map entries => uptoBulkEntries entries + 1
  | .held _ => 1
def uptoBulkAll {H : Type} : List (DataW H) → Nat
  | [] => 0
  | d :: r => uptoBulk d + uptoBulkAll r
def uptoBulkEntries {H : Type} : List (Lit × DataW H) → Nat
  | [] => 0
  | x :: r => uptoBulkEntry x + uptoBulkEntries r
def uptoBulkEntry {H : Type} : Lit × DataW H → Nat
  | (.string bytes, d) => bytes.length + uptoBulk d + 1
  | (_, d) => uptoBulk d + 1
 end
def uptoSmall : (H : Type) → List (DataW H) → Bool := fun _ ds => decide (uptoBulkAll ds ≤ 1048576)
def OpenSpec.upto (s : _root_.Go.ChangeSpec) : _root_.Go.OpenSpec := { _root_.Go.OpenSpec.ofChange s with cond := some uptoSmall }

/-- 'changeforgelaw1.TextpatchMatchesSpec', WHERE WHAT IT READS IS OF BULK AT MOST 1048576: true; the input reads as it did. -/
def textpatchMatchesSpecUptoRow : OpenClaim := { program := "ytmbeokkaiblblaa", sum := "cf518bf0356621f18bc6de92cb9a12594b57fe86f28e20bd7091ede9ec2d955b", func := "changeforge/changeforgelaw1.TextpatchMatchesSpec", spec := "textpatchMatchesSpec", inPlace := ["internal/bytealg.IndexByteString"], unfollowed := true, recurses := true, apart := false, narrowed := true }
def TextpatchMatchesSpecUptoSaid : Prop := textpatchMatchesSpecUptoRow.holds Try.pinned (OpenSpec.upto textpatchMatchesSpecSpec)

/-- 'changeforgelaw1.TextpatchUndo', WHERE WHAT IT READS IS OF BULK AT MOST 1048576: true; the input reads as it did. -/
def textpatchUndoUptoRow : OpenClaim := { program := "ytmbeokkaiblblaa", sum := "cf518bf0356621f18bc6de92cb9a12594b57fe86f28e20bd7091ede9ec2d955b", func := "changeforge/changeforgelaw1.TextpatchUndo", spec := "textpatchUndo", inPlace := ["internal/bytealg.IndexByteString"], unfollowed := true, recurses := true, apart := false, narrowed := true }
def TextpatchUndoUptoSaid : Prop := textpatchUndoUptoRow.holds Try.pinned (OpenSpec.upto textpatchUndoSpec)

/-- 'changeforgelaw1.TextpatchInvolution', WHERE WHAT IT READS IS OF BULK AT MOST 1048576: true; the input reads as it did. -/
def textpatchInvolutionUptoRow : OpenClaim := { program := "ytmbeokkaiblblaa", sum := "cf518bf0356621f18bc6de92cb9a12594b57fe86f28e20bd7091ede9ec2d955b", func := "changeforge/changeforgelaw1.TextpatchInvolution", spec := "textpatchInvolution", inPlace := ["internal/bytealg.IndexByteString"], unfollowed := true, recurses := true, apart := false, narrowed := true }
def TextpatchInvolutionUptoSaid : Prop := textpatchInvolutionUptoRow.holds Try.pinned (OpenSpec.upto textpatchInvolutionSpec)

/-- 'changeforgelaw1.CommuteTwice', WHERE WHAT IT READS IS OF BULK AT MOST 1048576: true; the input reads as it did. -/
def commuteTwiceUptoRow : OpenClaim := { program := "ytmbeokkaiblblaa", sum := "cf518bf0356621f18bc6de92cb9a12594b57fe86f28e20bd7091ede9ec2d955b", func := "changeforge/changeforgelaw1.CommuteTwice", spec := "commuteTwice", inPlace := ["internal/bytealg.IndexByteString"], apart := false, narrowed := true }
def CommuteTwiceUptoSaid : Prop := commuteTwiceUptoRow.holds Try.pinned (OpenSpec.upto commuteTwiceSpec)

/-- 'changeforgelaw1.CommuteMatchesSpec', WHERE WHAT IT READS IS OF BULK AT MOST 1048576: true; the input reads as it did. -/
def commuteMatchesSpecUptoRow : OpenClaim := { program := "ytmbeokkaiblblaa", sum := "cf518bf0356621f18bc6de92cb9a12594b57fe86f28e20bd7091ede9ec2d955b", func := "changeforge/changeforgelaw1.CommuteMatchesSpec", spec := "commuteMatchesSpec", inPlace := ["internal/bytealg.IndexByteString"], apart := false, narrowed := true }
def CommuteMatchesSpecUptoSaid : Prop := commuteMatchesSpecUptoRow.holds Try.pinned (OpenSpec.upto commuteMatchesSpecSpec)

/-- 'changeforgelaw1.CommuteInverse', WHERE WHAT IT READS IS OF BULK AT MOST 1048576: true; the input reads as it did. -/
def commuteInverseUptoRow : OpenClaim := { program := "ytmbeokkaiblblaa", sum := "cf518bf0356621f18bc6de92cb9a12594b57fe86f28e20bd7091ede9ec2d955b", func := "changeforge/changeforgelaw1.CommuteInverse", spec := "commuteInverse", inPlace := ["internal/bytealg.IndexByteString"], unfollowed := true, recurses := true, apart := false, narrowed := true }
def CommuteInverseUptoSaid : Prop := commuteInverseUptoRow.holds Try.pinned (OpenSpec.upto commuteInverseSpec)

/-- 'changeforgelaw1.DiffApplies', WHERE WHAT IT READS IS OF BULK AT MOST 1048576: true; the input reads as it did. -/
def diffAppliesUptoRow : OpenClaim := { program := "ytmbeokkaiblblaa", sum := "cf518bf0356621f18bc6de92cb9a12594b57fe86f28e20bd7091ede9ec2d955b", func := "changeforge/changeforgelaw1.DiffApplies", spec := "diffApplies", inPlace := ["internal/bytealg.IndexByteString"], unfollowed := true, recurses := true, apart := false, narrowed := true }
def DiffAppliesUptoSaid : Prop := diffAppliesUptoRow.holds Try.pinned (OpenSpec.upto diffAppliesSpec)

/-- 'changeforgelaw1.DiffLeast', WHERE WHAT IT READS IS OF BULK AT MOST 1048576: true; the input reads as it did. -/
def diffLeastUptoRow : OpenClaim := { program := "ytmbeokkaiblblaa", sum := "cf518bf0356621f18bc6de92cb9a12594b57fe86f28e20bd7091ede9ec2d955b", func := "changeforge/changeforgelaw1.DiffLeast", spec := "diffLeast", inPlace := ["internal/bytealg.IndexByteString"], unfollowed := true, recurses := true, apart := false, narrowed := true }
def DiffLeastUptoSaid : Prop := diffLeastUptoRow.holds Try.pinned (OpenSpec.upto diffLeastSpec)

/-- 'changeforgelaw1.CommuteSameEffect', WHERE WHAT IT READS IS OF BULK AT MOST 1048576: true; the input reads as it did. -/
def commuteSameEffectUptoRow : OpenClaim := { program := "ytmbeokkaiblblaa", sum := "cf518bf0356621f18bc6de92cb9a12594b57fe86f28e20bd7091ede9ec2d955b", func := "changeforge/changeforgelaw1.CommuteSameEffect", spec := "commuteSameEffect", inPlace := ["internal/bytealg.IndexByteString"], apart := false, narrowed := true }
def CommuteSameEffectUptoSaid : Prop := commuteSameEffectUptoRow.holds Try.pinned (OpenSpec.upto commuteSameEffectSpec)

/-- 'changeforgelaw1.CommuteRebases', WHERE WHAT IT READS IS OF BULK AT MOST 1048576: true; the input reads as it did. -/
def commuteRebasesUptoRow : OpenClaim := { program := "ytmbeokkaiblblaa", sum := "cf518bf0356621f18bc6de92cb9a12594b57fe86f28e20bd7091ede9ec2d955b", func := "changeforge/changeforgelaw1.CommuteRebases", spec := "commuteRebases", inPlace := ["internal/bytealg.IndexByteString"], apart := false, narrowed := true }
def CommuteRebasesUptoSaid : Prop := commuteRebasesUptoRow.holds Try.pinned (OpenSpec.upto commuteRebasesSpec)

end Rows
end Go.Proofs.Ytmbeokkaiblblaa
