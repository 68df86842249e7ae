/-
  No cell of these rows narrows 'for every input' (looked for: loops, veiled, ifaces, maps, wideKeys, modest, calm, conditions, laid).
  DERIVED. THE GIVEN ROWS OF THIS SEAT. 6 by the template 'for every input the law returns true; each argument reads behind the call as it read before'; 0 by the template 'total and deterministic' (their statements: YtppmhjaooiameaaTotals.lean).
  GIVEN WITH THE SEED: the statements are not yours to turn. If you find one false, say at which input.
  Laid BY PROGRAM, IN A SANDBOX (cutbox-rows.mjs): the forced cells as the released guide's own fill.sh prints them over the translation 2cefc96f4da52921… (all of the seat's roots in one cut). By AI agents, Wed Nov 11 2026. No macro, syntax, notation, axiom, sorry.
-/
import Derived.Test.YtppmhjaooiameaaChecked
import GoSem.Claim
import GoSem.ClaimJoined
import GoSem.ClaimMapViews
import Derived.JoinedTies
import Derived.KernelRfl
namespace Go.Proofs.Ytppmhjaooiameaa
/- THE CELL 'sum', in the pinned program and in every row, IS THE sha256 OF THE DUMP (.gsa) THAT YtppmhjaooiameaaProg.lean LOADS. Nothing in Lean hashes anything: it is a label: what it is worth is what the hold of that sum in a sandbox is worth. -/
noncomputable def Try.pinned : Pinned := { name := "ytppmhjaooiameaa", sum := "2cefc96f4da52921ac5465cce38bdb32206d67dfdcedb94d55f983a6dc46025a", checked := Try.checked }
namespace Rows
def none {H : Type} : Left H := { results := [], args := [] }

/-- 'changeforgelaw1.Merge3MatchesSpec': WHATEVER THE INPUT: true; the input reads as it did. -/
def merge3MatchesSpecSpec : ChangeSpec := { name := "merge3MatchesSpec", fn := fun _ => fun
  | [d1, d2, d3] => { results := [.lit (.bool true)], args := [d1, d2, d3] }
  | _ => none }
def merge3MatchesSpecRow : OpenClaim := { program := "ytppmhjaooiameaa", sum := "2cefc96f4da52921ac5465cce38bdb32206d67dfdcedb94d55f983a6dc46025a", func := "changeforge/changeforgelaw1.Merge3MatchesSpec", spec := "merge3MatchesSpec", inPlace := ["internal/bytealg.IndexByteString"], unfollowed := true, recurses := true, apart := false }
def Merge3MatchesSpecSaid : Prop := merge3MatchesSpecRow.holds Try.pinned (OpenSpec.ofChange merge3MatchesSpecSpec)

/-- ITS FALSE NEIGHBOUR: 'it returns false'. Refute it at one input. -/
def merge3MatchesSpecWrong : ChangeSpec := { name := "merge3MatchesSpec", fn := fun _ => fun
  | [d1, d2, d3] => { results := [.lit (.bool false)], args := [d1, d2, d3] }
  | _ => none }
def Merge3MatchesSpecWrongFalsely : Prop := merge3MatchesSpecRow.holds Try.pinned (OpenSpec.ofChange merge3MatchesSpecWrong)

/-- 'changeforgelaw1.Merge3Symmetric': WHATEVER THE INPUT: true; the input reads as it did. -/
def merge3SymmetricSpec : ChangeSpec := { name := "merge3Symmetric", fn := fun _ => fun
  | [d1, d2, d3] => { results := [.lit (.bool true)], args := [d1, d2, d3] }
  | _ => none }
def merge3SymmetricRow : OpenClaim := { program := "ytppmhjaooiameaa", sum := "2cefc96f4da52921ac5465cce38bdb32206d67dfdcedb94d55f983a6dc46025a", func := "changeforge/changeforgelaw1.Merge3Symmetric", spec := "merge3Symmetric", inPlace := ["internal/bytealg.IndexByteString"], unfollowed := true, recurses := true, apart := false }
def Merge3SymmetricSaid : Prop := merge3SymmetricRow.holds Try.pinned (OpenSpec.ofChange merge3SymmetricSpec)

/-- ITS FALSE NEIGHBOUR: 'it returns false'. Refute it at one input. -/
def merge3SymmetricWrong : ChangeSpec := { name := "merge3Symmetric", fn := fun _ => fun
  | [d1, d2, d3] => { results := [.lit (.bool false)], args := [d1, d2, d3] }
  | _ => none }
def Merge3SymmetricWrongFalsely : Prop := merge3SymmetricRow.holds Try.pinned (OpenSpec.ofChange merge3SymmetricWrong)

/-- 'changeforgelaw1.Merge3OneSided': WHATEVER THE INPUT: true; the input reads as it did. -/
def merge3OneSidedSpec : ChangeSpec := { name := "merge3OneSided", fn := fun _ => fun
  | [d1, d2] => { results := [.lit (.bool true)], args := [d1, d2] }
  | _ => none }
def merge3OneSidedRow : OpenClaim := { program := "ytppmhjaooiameaa", sum := "2cefc96f4da52921ac5465cce38bdb32206d67dfdcedb94d55f983a6dc46025a", func := "changeforge/changeforgelaw1.Merge3OneSided", spec := "merge3OneSided", inPlace := ["internal/bytealg.IndexByteString"], unfollowed := true, recurses := true, apart := false }
def Merge3OneSidedSaid : Prop := merge3OneSidedRow.holds Try.pinned (OpenSpec.ofChange merge3OneSidedSpec)

/-- ITS FALSE NEIGHBOUR: 'it returns false'. Refute it at one input. -/
def merge3OneSidedWrong : ChangeSpec := { name := "merge3OneSided", fn := fun _ => fun
  | [d1, d2] => { results := [.lit (.bool false)], args := [d1, d2] }
  | _ => none }
def Merge3OneSidedWrongFalsely : Prop := merge3OneSidedRow.holds Try.pinned (OpenSpec.ofChange merge3OneSidedWrong)

/-- 'changeforgelaw1.Merge3Sides': WHATEVER THE INPUT: true; the input reads as it did. -/
def merge3SidesSpec : ChangeSpec := { name := "merge3Sides", fn := fun _ => fun
  | [d1, d2, d3] => { results := [.lit (.bool true)], args := [d1, d2, d3] }
  | _ => none }
def merge3SidesRow : OpenClaim := { program := "ytppmhjaooiameaa", sum := "2cefc96f4da52921ac5465cce38bdb32206d67dfdcedb94d55f983a6dc46025a", func := "changeforge/changeforgelaw1.Merge3Sides", spec := "merge3Sides", inPlace := ["internal/bytealg.IndexByteString"], unfollowed := true, recurses := true, apart := false }
def Merge3SidesSaid : Prop := merge3SidesRow.holds Try.pinned (OpenSpec.ofChange merge3SidesSpec)

/-- ITS FALSE NEIGHBOUR: 'it returns false'. Refute it at one input. -/
def merge3SidesWrong : ChangeSpec := { name := "merge3Sides", fn := fun _ => fun
  | [d1, d2, d3] => { results := [.lit (.bool false)], args := [d1, d2, d3] }
  | _ => none }
def Merge3SidesWrongFalsely : Prop := merge3SidesRow.holds Try.pinned (OpenSpec.ofChange merge3SidesWrong)

/-- 'changeforgelaw1.Merge3ResolveMatchesSpec': WHATEVER THE INPUT: true; the input reads as it did. -/
def merge3ResolveMatchesSpecSpec : ChangeSpec := { name := "merge3ResolveMatchesSpec", fn := fun _ => fun
  | [d1, d2] => { results := [.lit (.bool true)], args := [d1, d2] }
  | _ => none }
def merge3ResolveMatchesSpecRow : OpenClaim := { program := "ytppmhjaooiameaa", sum := "2cefc96f4da52921ac5465cce38bdb32206d67dfdcedb94d55f983a6dc46025a", func := "changeforge/changeforgelaw1.Merge3ResolveMatchesSpec", spec := "merge3ResolveMatchesSpec", inPlace := ["internal/bytealg.IndexByteString"], unfollowed := true, recurses := true, apart := false }
def Merge3ResolveMatchesSpecSaid : Prop := merge3ResolveMatchesSpecRow.holds Try.pinned (OpenSpec.ofChange merge3ResolveMatchesSpecSpec)

/-- ITS FALSE NEIGHBOUR: 'it returns false'. Refute it at one input. -/
def merge3ResolveMatchesSpecWrong : ChangeSpec := { name := "merge3ResolveMatchesSpec", fn := fun _ => fun
  | [d1, d2] => { results := [.lit (.bool false)], args := [d1, d2] }
  | _ => none }
def Merge3ResolveMatchesSpecWrongFalsely : Prop := merge3ResolveMatchesSpecRow.holds Try.pinned (OpenSpec.ofChange merge3ResolveMatchesSpecWrong)

/-- 'changeforgelaw1.Merge3Commutes': WHATEVER THE INPUT: true; the input reads as it did. -/
def merge3CommutesSpec : ChangeSpec := { name := "merge3Commutes", fn := fun _ => fun
  | [d1, d2, d3] => { results := [.lit (.bool true)], args := [d1, d2, d3] }
  | _ => none }
def merge3CommutesRow : OpenClaim := { program := "ytppmhjaooiameaa", sum := "2cefc96f4da52921ac5465cce38bdb32206d67dfdcedb94d55f983a6dc46025a", func := "changeforge/changeforgelaw1.Merge3Commutes", spec := "merge3Commutes", inPlace := ["internal/bytealg.IndexByteString"], unfollowed := true, recurses := true, apart := false }
def Merge3CommutesSaid : Prop := merge3CommutesRow.holds Try.pinned (OpenSpec.ofChange merge3CommutesSpec)

/-- ITS FALSE NEIGHBOUR: 'it returns false'. Refute it at one input. -/
def merge3CommutesWrong : ChangeSpec := { name := "merge3Commutes", fn := fun _ => fun
  | [d1, d2, d3] => { results := [.lit (.bool false)], args := [d1, d2, d3] }
  | _ => none }
def Merge3CommutesWrongFalsely : Prop := merge3CommutesRow.holds Try.pinned (OpenSpec.ofChange merge3CommutesWrong)

/- THE SECOND FORM. 'bulk': how many values and letters a reading holds, each counted each time it is reached (what is shared counts as often as it is met; a slice's spare places count too). A statement '..UptoSaid' is the law's where the arguments, and the package variables that the reading takes, are together of bulk at most 1048576: NARROWER than '..Said'. Prove '..Said' where nothing that the law and all that it calls make is longer than what came in: it says more and counts as full. Else prove '..UptoSaid'. A law counts once. -/
mutual
def uptoBulk {H : Type} : DataW H → Nat
  | .lit (.string bytes) => bytes.length + 1
  | .lit _ => 1
  | .nil => 1
  | .ptr d => uptoBulk d + 1
  | .slice elems spare => uptoBulkAll elems + uptoBulkAll spare + 1
  | .agg parts => uptoBulkAll parts + 1
  | .iface _ d => uptoBulk d + 1
  | .map entries => uptoBulkEntries entries + 1
  | .held _ => 1
def uptoBulkAll {H : Type} : List (DataW H) → Nat
  | [] => 0
  | d :: r => uptoBulk d + uptoBulkAll r
def uptoBulkEntries {H : Type} : List (Lit × DataW H) → Nat
  | [] => 0
  | x :: r => uptoBulkEntry x + uptoBulkEntries r
def uptoBulkEntry {H : Type} : Lit × DataW H → Nat
  | (.string bytes, d) => bytes.length + uptoBulk d + 1
  | (_, d) => uptoBulk d + 1
 end
def uptoSmall : (H : Type) → List (DataW H) → Bool := fun _ ds => decide (uptoBulkAll ds ≤ 1048576)
def OpenSpec.upto (s : _root_.Go.ChangeSpec) : _root_.Go.OpenSpec := { _root_.Go.OpenSpec.ofChange s with cond := some uptoSmall }

/-- 'changeforgelaw1.Merge3MatchesSpec', WHERE WHAT IT READS IS OF BULK AT MOST 1048576: true; the input reads as it did. -/
def merge3MatchesSpecUptoRow : OpenClaim := { program := "ytppmhjaooiameaa", sum := "2cefc96f4da52921ac5465cce38bdb32206d67dfdcedb94d55f983a6dc46025a", func := "changeforge/changeforgelaw1.Merge3MatchesSpec", spec := "merge3MatchesSpec", inPlace := ["internal/bytealg.IndexByteString"], unfollowed := true, recurses := true, apart := false, narrowed := true }
def Merge3MatchesSpecUptoSaid : Prop := merge3MatchesSpecUptoRow.holds Try.pinned (OpenSpec.upto merge3MatchesSpecSpec)

/-- 'changeforgelaw1.Merge3Symmetric', WHERE WHAT IT READS IS OF BULK AT MOST 1048576: true; the input reads as it did. -/
def merge3SymmetricUptoRow : OpenClaim := { program := "ytppmhjaooiameaa", sum := "2cefc96f4da52921ac5465cce38bdb32206d67dfdcedb94d55f983a6dc46025a", func := "changeforge/changeforgelaw1.Merge3Symmetric", spec := "merge3Symmetric", inPlace := ["internal/bytealg.IndexByteString"], unfollowed := true, recurses := true, apart := false, narrowed := true }
def Merge3SymmetricUptoSaid : Prop := merge3SymmetricUptoRow.holds Try.pinned (OpenSpec.upto merge3SymmetricSpec)

/-- 'changeforgelaw1.Merge3OneSided', WHERE WHAT IT READS IS OF BULK AT MOST 1048576: true; the input reads as it did. -/
def merge3OneSidedUptoRow : OpenClaim := { program := "ytppmhjaooiameaa", sum := "2cefc96f4da52921ac5465cce38bdb32206d67dfdcedb94d55f983a6dc46025a", func := "changeforge/changeforgelaw1.Merge3OneSided", spec := "merge3OneSided", inPlace := ["internal/bytealg.IndexByteString"], unfollowed := true, recurses := true, apart := false, narrowed := true }
def Merge3OneSidedUptoSaid : Prop := merge3OneSidedUptoRow.holds Try.pinned (OpenSpec.upto merge3OneSidedSpec)

/-- 'changeforgelaw1.Merge3Sides', WHERE WHAT IT READS IS OF BULK AT MOST 1048576: true; the input reads as it did. -/
def merge3SidesUptoRow : OpenClaim := { program := "ytppmhjaooiameaa", sum := "2cefc96f4da52921ac5465cce38bdb32206d67dfdcedb94d55f983a6dc46025a", func := "changeforge/changeforgelaw1.Merge3Sides", spec := "merge3Sides", inPlace := ["internal/bytealg.IndexByteString"], unfollowed := true, recurses := true, apart := false, narrowed := true }
def Merge3SidesUptoSaid : Prop := merge3SidesUptoRow.holds Try.pinned (OpenSpec.upto merge3SidesSpec)

/-- 'changeforgelaw1.Merge3ResolveMatchesSpec', WHERE WHAT IT READS IS OF BULK AT MOST 1048576: true; the input reads as it did. -/
def merge3ResolveMatchesSpecUptoRow : OpenClaim := { program := "ytppmhjaooiameaa", sum := "2cefc96f4da52921ac5465cce38bdb32206d67dfdcedb94d55f983a6dc46025a", func := "changeforge/changeforgelaw1.Merge3ResolveMatchesSpec", spec := "merge3ResolveMatchesSpec", inPlace := ["internal/bytealg.IndexByteString"], unfollowed := true, recurses := true, apart := false, narrowed := true }
def Merge3ResolveMatchesSpecUptoSaid : Prop := merge3ResolveMatchesSpecUptoRow.holds Try.pinned (OpenSpec.upto merge3ResolveMatchesSpecSpec)

/-- 'changeforgelaw1.Merge3Commutes', WHERE WHAT IT READS IS OF BULK AT MOST 1048576: true; the input reads as it did. -/
def merge3CommutesUptoRow : OpenClaim := { program := "ytppmhjaooiameaa", sum := "2cefc96f4da52921ac5465cce38bdb32206d67dfdcedb94d55f983a6dc46025a", func := "changeforge/changeforgelaw1.Merge3Commutes", spec := "merge3Commutes", inPlace := ["internal/bytealg.IndexByteString"], unfollowed := true, recurses := true, apart := false, narrowed := true }
def Merge3CommutesUptoSaid : Prop := merge3CommutesUptoRow.holds Try.pinned (OpenSpec.upto merge3CommutesSpec)

end Rows
end Go.Proofs.Ytppmhjaooiameaa
