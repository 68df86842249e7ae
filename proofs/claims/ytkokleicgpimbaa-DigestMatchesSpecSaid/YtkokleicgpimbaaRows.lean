/-
  No cell of these rows narrows 'for every input' (looked for: loops, veiled, ifaces, maps, wideKeys, modest, calm, conditions, laid).
  DERIVED. THE GIVEN ROWS OF THIS SEAT. 6 by the template 'for every input the law returns true; each argument reads behind the call as it read before'; 0 by the template 'total and deterministic' (their statements: YtkokleicgpimbaaTotals.lean).
  GIVEN WITH THE SEED: the statements are not yours to turn. If you find one false, say at which input.
  Laid BY PROGRAM, IN A SANDBOX (cutbox-rows.mjs): the forced cells as the released guide's own fill.sh prints them over the translation b96541a91714981f… (all of the seat's roots in one cut). By AI agents, Wed Nov 11 2026. No macro, syntax, notation, axiom, sorry.
-/
import Derived.Test.YtkokleicgpimbaaChecked
import GoSem.Claim
import GoSem.ClaimJoined
import GoSem.ClaimMapViews
import Derived.JoinedTies
import Derived.KernelRfl
namespace Go.Proofs.Ytkokleicgpimbaa
/- THE CELL 'sum', in the pinned program and in every row, IS THE sha256 OF THE DUMP (.gsa) THAT YtkokleicgpimbaaProg.lean LOADS. Nothing in Lean hashes anything: it is a label: what it is worth is what the hold of that sum in a sandbox is worth. -/
noncomputable def Try.pinned : Pinned := { name := "ytkokleicgpimbaa", sum := "b96541a91714981fb054b5b7bd62230b22ccb313fdff25cc14301af484e65a37", checked := Try.checked }
namespace Rows
def none {H : Type} : Left H := { results := [], args := [] }

/-- 'changeforgelaw1.DigestExtends': WHATEVER THE INPUT: true; the input reads as it did. -/
def digestExtendsSpec : ChangeSpec := { name := "digestExtends", fn := fun _ => fun
  | [d1, d2, d3] => { results := [.lit (.bool true)], args := [d1, d2, d3] }
  | _ => none }
def digestExtendsRow : OpenClaim := { program := "ytkokleicgpimbaa", sum := "b96541a91714981fb054b5b7bd62230b22ccb313fdff25cc14301af484e65a37", func := "changeforge/changeforgelaw1.DigestExtends", spec := "digestExtends", apart := false }
def DigestExtendsSaid : Prop := digestExtendsRow.holds Try.pinned (OpenSpec.ofChange digestExtendsSpec)

/-- ITS FALSE NEIGHBOUR: 'it returns false'. Refute it at one input. -/
def digestExtendsWrong : ChangeSpec := { name := "digestExtends", fn := fun _ => fun
  | [d1, d2, d3] => { results := [.lit (.bool false)], args := [d1, d2, d3] }
  | _ => none }
def DigestExtendsWrongFalsely : Prop := digestExtendsRow.holds Try.pinned (OpenSpec.ofChange digestExtendsWrong)

/-- 'changeforgelaw1.DigestLastByte': WHATEVER THE INPUT: true; the input reads as it did. -/
def digestLastByteSpec : ChangeSpec := { name := "digestLastByte", fn := fun _ => fun
  | [d1, d2, d3] => { results := [.lit (.bool true)], args := [d1, d2, d3] }
  | _ => none }
def digestLastByteRow : OpenClaim := { program := "ytkokleicgpimbaa", sum := "b96541a91714981fb054b5b7bd62230b22ccb313fdff25cc14301af484e65a37", func := "changeforge/changeforgelaw1.DigestLastByte", spec := "digestLastByte", apart := false }
def DigestLastByteSaid : Prop := digestLastByteRow.holds Try.pinned (OpenSpec.ofChange digestLastByteSpec)

/-- ITS FALSE NEIGHBOUR: 'it returns false'. Refute it at one input. -/
def digestLastByteWrong : ChangeSpec := { name := "digestLastByte", fn := fun _ => fun
  | [d1, d2, d3] => { results := [.lit (.bool false)], args := [d1, d2, d3] }
  | _ => none }
def DigestLastByteWrongFalsely : Prop := digestLastByteRow.holds Try.pinned (OpenSpec.ofChange digestLastByteWrong)

/-- 'changeforgelaw1.DigestInjective': WHATEVER THE INPUT: true; the input reads as it did. -/
def digestInjectiveSpec : ChangeSpec := { name := "digestInjective", fn := fun _ => fun
  | [d1, d2] => { results := [.lit (.bool true)], args := [d1, d2] }
  | _ => none }
def digestInjectiveRow : OpenClaim := { program := "ytkokleicgpimbaa", sum := "b96541a91714981fb054b5b7bd62230b22ccb313fdff25cc14301af484e65a37", func := "changeforge/changeforgelaw1.DigestInjective", spec := "digestInjective", apart := false }
def DigestInjectiveSaid : Prop := digestInjectiveRow.holds Try.pinned (OpenSpec.ofChange digestInjectiveSpec)

/-- ITS FALSE NEIGHBOUR: 'it returns false'. Refute it at one input. -/
def digestInjectiveWrong : ChangeSpec := { name := "digestInjective", fn := fun _ => fun
  | [d1, d2] => { results := [.lit (.bool false)], args := [d1, d2] }
  | _ => none }
def DigestInjectiveWrongFalsely : Prop := digestInjectiveRow.holds Try.pinned (OpenSpec.ofChange digestInjectiveWrong)

/-- 'changeforgelaw1.DigestPairCancels': WHATEVER THE INPUT: true; the input reads as it did. -/
def digestPairCancelsSpec : ChangeSpec := { name := "digestPairCancels", fn := fun _ => fun
  | [d1, d2, d3] => { results := [.lit (.bool true)], args := [d1, d2, d3] }
  | _ => none }
def digestPairCancelsRow : OpenClaim := { program := "ytkokleicgpimbaa", sum := "b96541a91714981fb054b5b7bd62230b22ccb313fdff25cc14301af484e65a37", func := "changeforge/changeforgelaw1.DigestPairCancels", spec := "digestPairCancels", apart := false }
def DigestPairCancelsSaid : Prop := digestPairCancelsRow.holds Try.pinned (OpenSpec.ofChange digestPairCancelsSpec)

/-- ITS FALSE NEIGHBOUR: 'it returns false'. Refute it at one input. -/
def digestPairCancelsWrong : ChangeSpec := { name := "digestPairCancels", fn := fun _ => fun
  | [d1, d2, d3] => { results := [.lit (.bool false)], args := [d1, d2, d3] }
  | _ => none }
def DigestPairCancelsWrongFalsely : Prop := digestPairCancelsRow.holds Try.pinned (OpenSpec.ofChange digestPairCancelsWrong)

/-- 'changeforgelaw1.DigestMatchesSpec': WHATEVER THE INPUT: true; the input reads as it did. -/
def digestMatchesSpecSpec : ChangeSpec := { name := "digestMatchesSpec", fn := fun _ => fun
  | [d1, d2, d3, d4] => { results := [.lit (.bool true)], args := [d1, d2, d3, d4] }
  | _ => none }
def digestMatchesSpecRow : OpenClaim := { program := "ytkokleicgpimbaa", sum := "b96541a91714981fb054b5b7bd62230b22ccb313fdff25cc14301af484e65a37", func := "changeforge/changeforgelaw1.DigestMatchesSpec", spec := "digestMatchesSpec", apart := false }
def DigestMatchesSpecSaid : Prop := digestMatchesSpecRow.holds Try.pinned (OpenSpec.ofChange digestMatchesSpecSpec)

/-- ITS FALSE NEIGHBOUR: 'it returns false'. Refute it at one input. -/
def digestMatchesSpecWrong : ChangeSpec := { name := "digestMatchesSpec", fn := fun _ => fun
  | [d1, d2, d3, d4] => { results := [.lit (.bool false)], args := [d1, d2, d3, d4] }
  | _ => none }
def DigestMatchesSpecWrongFalsely : Prop := digestMatchesSpecRow.holds Try.pinned (OpenSpec.ofChange digestMatchesSpecWrong)

/-- 'changeforgelaw1.DigestStringsExtends': WHATEVER THE INPUT: true; the input reads as it did. -/
def digestStringsExtendsSpec : ChangeSpec := { name := "digestStringsExtends", fn := fun _ => fun
  | [d1, d2] => { results := [.lit (.bool true)], args := [d1, d2] }
  | _ => none }
def digestStringsExtendsRow : OpenClaim := { program := "ytkokleicgpimbaa", sum := "b96541a91714981fb054b5b7bd62230b22ccb313fdff25cc14301af484e65a37", func := "changeforge/changeforgelaw1.DigestStringsExtends", spec := "digestStringsExtends", apart := false }
def DigestStringsExtendsSaid : Prop := digestStringsExtendsRow.holds Try.pinned (OpenSpec.ofChange digestStringsExtendsSpec)

/-- ITS FALSE NEIGHBOUR: 'it returns false'. Refute it at one input. -/
def digestStringsExtendsWrong : ChangeSpec := { name := "digestStringsExtends", fn := fun _ => fun
  | [d1, d2] => { results := [.lit (.bool false)], args := [d1, d2] }
  | _ => none }
def DigestStringsExtendsWrongFalsely : Prop := digestStringsExtendsRow.holds Try.pinned (OpenSpec.ofChange digestStringsExtendsWrong)

/- THE SECOND FORM. 'bulk': how many values and letters a reading holds, each counted each time it is reached (what is shared counts as often as it is met; a slice's spare places count too). A statement '..UptoSaid' is the law's where the arguments, and the package variables that the reading takes, are together of bulk at most 1048576: NARROWER than '..Said'. Prove '..Said' where nothing that the law and all that it calls make is longer than what came in: it says more and counts as full. Else prove '..UptoSaid'. A law counts once. -/
mutual
def uptoBulk {H : Type} : DataW H → Nat
  | .lit (.string bytes) => bytes.length + 1
  | .lit _ => 1
  | .nil => 1
  | .ptr d => uptoBulk d + 1
  | .slice elems spare => uptoBulkAll elems + uptoBulkAll spare + 1
  | .agg parts => uptoBulkAll parts + 1
  | .iface _ d => uptoBulk d + 1
  | .map entries => uptoBulkEntries entries + 1
  | .held _ => 1
def uptoBulkAll {H : Type} : List (DataW H) → Nat
  | [] => 0
  | d :: r => uptoBulk d + uptoBulkAll r
def uptoBulkEntries {H : Type} : List (Lit × DataW H) → Nat
  | [] => 0
  | x :: r => uptoBulkEntry x + uptoBulkEntries r
def uptoBulkEntry {H : Type} : Lit × DataW H → Nat
  | (.string bytes, d) => bytes.length + uptoBulk d + 1
  | (_, d) => uptoBulk d + 1
 end
def uptoSmall : (H : Type) → List (DataW H) → Bool := fun _ ds => decide (uptoBulkAll ds ≤ 1048576)
def OpenSpec.upto (s : _root_.Go.ChangeSpec) : _root_.Go.OpenSpec := { _root_.Go.OpenSpec.ofChange s with cond := some uptoSmall }

/-- 'changeforgelaw1.DigestExtends', WHERE WHAT IT READS IS OF BULK AT MOST 1048576: true; the input reads as it did. -/
def digestExtendsUptoRow : OpenClaim := { program := "ytkokleicgpimbaa", sum := "b96541a91714981fb054b5b7bd62230b22ccb313fdff25cc14301af484e65a37", func := "changeforge/changeforgelaw1.DigestExtends", spec := "digestExtends", apart := false, narrowed := true }
def DigestExtendsUptoSaid : Prop := digestExtendsUptoRow.holds Try.pinned (OpenSpec.upto digestExtendsSpec)

/-- 'changeforgelaw1.DigestLastByte', WHERE WHAT IT READS IS OF BULK AT MOST 1048576: true; the input reads as it did. -/
def digestLastByteUptoRow : OpenClaim := { program := "ytkokleicgpimbaa", sum := "b96541a91714981fb054b5b7bd62230b22ccb313fdff25cc14301af484e65a37", func := "changeforge/changeforgelaw1.DigestLastByte", spec := "digestLastByte", apart := false, narrowed := true }
def DigestLastByteUptoSaid : Prop := digestLastByteUptoRow.holds Try.pinned (OpenSpec.upto digestLastByteSpec)

/-- 'changeforgelaw1.DigestInjective', WHERE WHAT IT READS IS OF BULK AT MOST 1048576: true; the input reads as it did. -/
def digestInjectiveUptoRow : OpenClaim := { program := "ytkokleicgpimbaa", sum := "b96541a91714981fb054b5b7bd62230b22ccb313fdff25cc14301af484e65a37", func := "changeforge/changeforgelaw1.DigestInjective", spec := "digestInjective", apart := false, narrowed := true }
def DigestInjectiveUptoSaid : Prop := digestInjectiveUptoRow.holds Try.pinned (OpenSpec.upto digestInjectiveSpec)

/-- 'changeforgelaw1.DigestPairCancels', WHERE WHAT IT READS IS OF BULK AT MOST 1048576: true; the input reads as it did. -/
def digestPairCancelsUptoRow : OpenClaim := { program := "ytkokleicgpimbaa", sum := "b96541a91714981fb054b5b7bd62230b22ccb313fdff25cc14301af484e65a37", func := "changeforge/changeforgelaw1.DigestPairCancels", spec := "digestPairCancels", apart := false, narrowed := true }
def DigestPairCancelsUptoSaid : Prop := digestPairCancelsUptoRow.holds Try.pinned (OpenSpec.upto digestPairCancelsSpec)

/-- 'changeforgelaw1.DigestMatchesSpec', WHERE WHAT IT READS IS OF BULK AT MOST 1048576: true; the input reads as it did. -/
def digestMatchesSpecUptoRow : OpenClaim := { program := "ytkokleicgpimbaa", sum := "b96541a91714981fb054b5b7bd62230b22ccb313fdff25cc14301af484e65a37", func := "changeforge/changeforgelaw1.DigestMatchesSpec", spec := "digestMatchesSpec", apart := false, narrowed := true }
def DigestMatchesSpecUptoSaid : Prop := digestMatchesSpecUptoRow.holds Try.pinned (OpenSpec.upto digestMatchesSpecSpec)

/-- 'changeforgelaw1.DigestStringsExtends', WHERE WHAT IT READS IS OF BULK AT MOST 1048576: true; the input reads as it did. -/
def digestStringsExtendsUptoRow : OpenClaim := { program := "ytkokleicgpimbaa", sum := "b96541a91714981fb054b5b7bd62230b22ccb313fdff25cc14301af484e65a37", func := "changeforge/changeforgelaw1.DigestStringsExtends", spec := "digestStringsExtends", apart := false, narrowed := true }
def DigestStringsExtendsUptoSaid : Prop := digestStringsExtendsUptoRow.holds Try.pinned (OpenSpec.upto digestStringsExtendsSpec)

end Rows
end Go.Proofs.Ytkokleicgpimbaa
