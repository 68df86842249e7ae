/-
  No cell of these rows narrows 'for every input' (looked for: loops, veiled, ifaces, maps, wideKeys, modest, calm, conditions, laid).
  DERIVED. THE GIVEN ROWS OF THIS SEAT. 4 by the template 'for every input the law returns true; each argument reads behind the call as it read before'; 0 by the template 'total and deterministic' (their statements: YtgdlbpihkodeoaaTotals.lean).
  GIVEN WITH THE SEED: the statements are not yours to turn. If you find one false, say at which input.
  Laid BY PROGRAM, IN A SANDBOX (cutbox-rows.mjs): the forced cells as the released guide's own fill.sh prints them over the translation 8f319d3d011bf4c4… (all of the seat's roots in one cut). By AI agents, Wed Nov 11 2026. No macro, syntax, notation, axiom, sorry.
-/
import Derived.Test.YtgdlbpihkodeoaaChecked
import GoSem.Claim
import GoSem.ClaimJoined
import GoSem.ClaimMapViews
import Derived.JoinedTies
import Derived.KernelRfl
namespace Go.Proofs.Ytgdlbpihkodeoaa
/- THE CELL 'sum', in the pinned program and in every row, IS THE sha256 OF THE DUMP (.gsa) THAT YtgdlbpihkodeoaaProg.lean LOADS. Nothing in Lean hashes anything: it is a label: what it is worth is what the hold of that sum in a sandbox is worth. -/
noncomputable def Try.pinned : Pinned := { name := "ytgdlbpihkodeoaa", sum := "8f319d3d011bf4c43ebcfc406c525436d7b38b6c4d02272c01c49ea107539757", checked := Try.checked }
namespace Rows
def none {H : Type} : Left H := { results := [], args := [] }

/-- 'changeforgetop.TopHistoryLogged': WHATEVER THE INPUT: true; the input reads as it did. -/
def topHistoryLoggedSpec : ChangeSpec := { name := "topHistoryLogged", fn := fun _ => fun
  | [d1, d2] => { results := [.lit (.bool true)], args := [d1, d2] }
  | _ => none }
def topHistoryLoggedRow : OpenClaim := { program := "ytgdlbpihkodeoaa", sum := "8f319d3d011bf4c43ebcfc406c525436d7b38b6c4d02272c01c49ea107539757", func := "changeforge/changeforgetop.TopHistoryLogged", spec := "topHistoryLogged", recurses := true, apart := false }
def TopHistoryLoggedSaid : Prop := topHistoryLoggedRow.holds Try.pinned (OpenSpec.ofChange topHistoryLoggedSpec)

/-- ITS FALSE NEIGHBOUR: 'it returns false'. Refute it at one input. -/
def topHistoryLoggedWrong : ChangeSpec := { name := "topHistoryLogged", fn := fun _ => fun
  | [d1, d2] => { results := [.lit (.bool false)], args := [d1, d2] }
  | _ => none }
def TopHistoryLoggedWrongFalsely : Prop := topHistoryLoggedRow.holds Try.pinned (OpenSpec.ofChange topHistoryLoggedWrong)

/-- 'changeforgetop.TopCandidatesQuery': WHATEVER THE INPUT: true; the input reads as it did. -/
def topCandidatesQuerySpec : ChangeSpec := { name := "topCandidatesQuery", fn := fun _ => fun
  | [d1, d2, d3] => { results := [.lit (.bool true)], args := [d1, d2, d3] }
  | _ => none }
def topCandidatesQueryRow : OpenClaim := { program := "ytgdlbpihkodeoaa", sum := "8f319d3d011bf4c43ebcfc406c525436d7b38b6c4d02272c01c49ea107539757", func := "changeforge/changeforgetop.TopCandidatesQuery", spec := "topCandidatesQuery", unfollowed := true, recurses := true, apart := false }
def TopCandidatesQuerySaid : Prop := topCandidatesQueryRow.holds Try.pinned (OpenSpec.ofChange topCandidatesQuerySpec)

/-- ITS FALSE NEIGHBOUR: 'it returns false'. Refute it at one input. -/
def topCandidatesQueryWrong : ChangeSpec := { name := "topCandidatesQuery", fn := fun _ => fun
  | [d1, d2, d3] => { results := [.lit (.bool false)], args := [d1, d2, d3] }
  | _ => none }
def TopCandidatesQueryWrongFalsely : Prop := topCandidatesQueryRow.holds Try.pinned (OpenSpec.ofChange topCandidatesQueryWrong)

/-- 'changeforgetop.TopBasesQuery': WHATEVER THE INPUT: true; the input reads as it did. -/
def topBasesQuerySpec : ChangeSpec := { name := "topBasesQuery", fn := fun _ => fun
  | [d1, d2, d3] => { results := [.lit (.bool true)], args := [d1, d2, d3] }
  | _ => none }
def topBasesQueryRow : OpenClaim := { program := "ytgdlbpihkodeoaa", sum := "8f319d3d011bf4c43ebcfc406c525436d7b38b6c4d02272c01c49ea107539757", func := "changeforge/changeforgetop.TopBasesQuery", spec := "topBasesQuery", unfollowed := true, recurses := true, apart := false }
def TopBasesQuerySaid : Prop := topBasesQueryRow.holds Try.pinned (OpenSpec.ofChange topBasesQuerySpec)

/-- ITS FALSE NEIGHBOUR: 'it returns false'. Refute it at one input. -/
def topBasesQueryWrong : ChangeSpec := { name := "topBasesQuery", fn := fun _ => fun
  | [d1, d2, d3] => { results := [.lit (.bool false)], args := [d1, d2, d3] }
  | _ => none }
def TopBasesQueryWrongFalsely : Prop := topBasesQueryRow.holds Try.pinned (OpenSpec.ofChange topBasesQueryWrong)

/-- 'changeforgetop.TopSentQuery': WHATEVER THE INPUT: true; the input reads as it did. -/
def topSentQuerySpec : ChangeSpec := { name := "topSentQuery", fn := fun _ => fun
  | [d1, d2, d3, d4] => { results := [.lit (.bool true)], args := [d1, d2, d3, d4] }
  | _ => none }
def topSentQueryRow : OpenClaim := { program := "ytgdlbpihkodeoaa", sum := "8f319d3d011bf4c43ebcfc406c525436d7b38b6c4d02272c01c49ea107539757", func := "changeforge/changeforgetop.TopSentQuery", spec := "topSentQuery", unfollowed := true, recurses := true, apart := false }
def TopSentQuerySaid : Prop := topSentQueryRow.holds Try.pinned (OpenSpec.ofChange topSentQuerySpec)

/-- ITS FALSE NEIGHBOUR: 'it returns false'. Refute it at one input. -/
def topSentQueryWrong : ChangeSpec := { name := "topSentQuery", fn := fun _ => fun
  | [d1, d2, d3, d4] => { results := [.lit (.bool false)], args := [d1, d2, d3, d4] }
  | _ => none }
def TopSentQueryWrongFalsely : Prop := topSentQueryRow.holds Try.pinned (OpenSpec.ofChange topSentQueryWrong)

/- THE SECOND FORM. 'bulk': how many values and letters a reading holds, each counted each time it is reached (what is shared counts as often as it is met; a slice's spare places count too). A statement '..UptoSaid' is the law's where the arguments, and the package variables that the reading takes, are together of bulk at most 1048576: NARROWER than '..Said'. Prove '..Said' where nothing that the law and all that it calls make is longer than what came in: it says more and counts as full. Else prove '..UptoSaid'. A law counts once. -/
mutual
def uptoBulk {H : Type} : DataW H → Nat
  | .lit (.string bytes) => bytes.length + 1
  | .lit _ => 1
  | .nil => 1
  | .ptr d => uptoBulk d + 1
  | .slice elems spare => uptoBulkAll elems + uptoBulkAll spare + 1
  | .agg parts => uptoBulkAll parts + 1
  | .iface _ d => uptoBulk d + 1
  | .map entries => uptoBulkEntries entries + 1
  | .held _ => 1
def uptoBulkAll {H : Type} : List (DataW H) → Nat
  | [] => 0
  | d :: r => uptoBulk d + uptoBulkAll r
def uptoBulkEntries {H : Type} : List (Lit × DataW H) → Nat
  | [] => 0
  | x :: r => uptoBulkEntry x + uptoBulkEntries r
def uptoBulkEntry {H : Type} : Lit × DataW H → Nat
  | (.string bytes, d) => bytes.length + uptoBulk d + 1
  | (_, d) => uptoBulk d + 1
 end
def uptoSmall : (H : Type) → List (DataW H) → Bool := fun _ ds => decide (uptoBulkAll ds ≤ 1048576)
def OpenSpec.upto (s : _root_.Go.ChangeSpec) : _root_.Go.OpenSpec := { _root_.Go.OpenSpec.ofChange s with cond := some uptoSmall }

/-- 'changeforgetop.TopHistoryLogged', WHERE WHAT IT READS IS OF BULK AT MOST 1048576: true; the input reads as it did. -/
def topHistoryLoggedUptoRow : OpenClaim := { program := "ytgdlbpihkodeoaa", sum := "8f319d3d011bf4c43ebcfc406c525436d7b38b6c4d02272c01c49ea107539757", func := "changeforge/changeforgetop.TopHistoryLogged", spec := "topHistoryLogged", recurses := true, apart := false, narrowed := true }
def TopHistoryLoggedUptoSaid : Prop := topHistoryLoggedUptoRow.holds Try.pinned (OpenSpec.upto topHistoryLoggedSpec)

/-- 'changeforgetop.TopCandidatesQuery', WHERE WHAT IT READS IS OF BULK AT MOST 1048576: true; the input reads as it did. -/
def topCandidatesQueryUptoRow : OpenClaim := { program := "ytgdlbpihkodeoaa", sum := "8f319d3d011bf4c43ebcfc406c525436d7b38b6c4d02272c01c49ea107539757", func := "changeforge/changeforgetop.TopCandidatesQuery", spec := "topCandidatesQuery", unfollowed := true, recurses := true, apart := false, narrowed := true }
def TopCandidatesQueryUptoSaid : Prop := topCandidatesQueryUptoRow.holds Try.pinned (OpenSpec.upto topCandidatesQuerySpec)

/-- 'changeforgetop.TopBasesQuery', WHERE WHAT IT READS IS OF BULK AT MOST 1048576: true; the input reads as it did. -/
def topBasesQueryUptoRow : OpenClaim := { program := "ytgdlbpihkodeoaa", sum := "8f319d3d011bf4c43ebcfc406c525436d7b38b6c4d02272c01c49ea107539757", func := "changeforge/changeforgetop.TopBasesQuery", spec := "topBasesQuery", unfollowed := true, recurses := true, apart := false, narrowed := true }
def TopBasesQueryUptoSaid : Prop := topBasesQueryUptoRow.holds Try.pinned (OpenSpec.upto topBasesQuerySpec)

/-- 'changeforgetop.TopSentQuery', WHERE WHAT IT READS IS OF BULK AT MOST 1048576: true; the input reads as it did. -/
def topSentQueryUptoRow : OpenClaim := { program := "ytgdlbpihkodeoaa", sum := "8f319d3d011bf4c43ebcfc406c525436d7b38b6c4d02272c01c49ea107539757", func := "changeforge/changeforgetop.TopSentQuery", spec := "topSentQuery", unfollowed := true, recurses := true, apart := false, narrowed := true }
def TopSentQueryUptoSaid : Prop := topSentQueryUptoRow.holds Try.pinned (OpenSpec.upto topSentQuerySpec)

end Rows
end Go.Proofs.Ytgdlbpihkodeoaa
