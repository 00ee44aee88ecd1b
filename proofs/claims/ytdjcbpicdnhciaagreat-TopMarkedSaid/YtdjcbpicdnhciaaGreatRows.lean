/-
  No cell of these rows narrows 'for every input' (looked for: loops, veiled, ifaces, maps, wideKeys, modest, calm, conditions, laid).
  DERIVED. THE GIVEN ROWS OF THIS SEAT. 4 by the template 'for every input the law returns true; each argument reads behind the call as it read before'; 0 by the template 'total and deterministic' (their statements: YtdjcbpicdnhciaaGreatTotals.lean).
  GIVEN WITH THE SEED: the statements are not yours to turn. If you find one false, say at which input.
  Laid BY PROGRAM, IN A SANDBOX (cutbox-rows.mjs): the forced cells as the released guide's own fill.sh prints them over the translation b1a1efc7b9c9139c… (all of the seat's roots in one cut). By AI agents, Wed Nov 11 2026. No macro, syntax, notation, axiom, sorry.
-/
import Derived.Test.YtdjcbpicdnhciaaGreatChecked
import GoSem.Claim
import GoSem.ClaimJoined
import GoSem.ClaimMapViews
import Derived.JoinedTies
import Derived.KernelRfl
namespace Go.Proofs.YtdjcbpicdnhciaaGreat
/- THE CELL 'sum', in the pinned program and in every row, IS THE sha256 OF THE DUMP (.gsa) THAT YtdjcbpicdnhciaaGreatProg.lean LOADS. Nothing in Lean hashes anything: it is a label: what it is worth is what the hold of that sum in a sandbox is worth. -/
noncomputable def Tryz.pinned : Pinned := { name := "ytdjcbpicdnhciaagreat", sum := "b1a1efc7b9c9139c21fa70932c623e27c693b0b99aad83a66ac73adf8fa3846b", checked := Tryz.checked }
namespace Rows
def none {H : Type} : Left H := { results := [], args := [] }

/-- 'ostracontop.TopVaried': WHATEVER THE INPUT: true; the input reads as it did. -/
def topVariedSpec : ChangeSpec := { name := "topVaried", fn := fun _ => fun
  | [d1, d2, d3] => { results := [.lit (.bool true)], args := [d1, d2, d3] }
  | _ => none }
def topVariedRow : OpenClaim := { program := "ytdjcbpicdnhciaagreat", sum := "b1a1efc7b9c9139c21fa70932c623e27c693b0b99aad83a66ac73adf8fa3846b", func := "ostracon/ostracontop.TopVaried", spec := "topVaried", inPlace := ["internal/reflectlite.ValueOf", "internal/reflectlite.Swapper", "(internal/reflectlite.Value).Len", "slices.overlaps[ostracon/read.way]"], unfollowed := true, recurses := true, apart := false }
def TopVariedSaid : Prop := topVariedRow.holds Tryz.pinned (OpenSpec.ofChange topVariedSpec)

/-- ITS FALSE NEIGHBOUR: 'it returns false'. Refute it at one input. -/
def topVariedWrong : ChangeSpec := { name := "topVaried", fn := fun _ => fun
  | [d1, d2, d3] => { results := [.lit (.bool false)], args := [d1, d2, d3] }
  | _ => none }
def TopVariedWrongFalsely : Prop := topVariedRow.holds Tryz.pinned (OpenSpec.ofChange topVariedWrong)

/-- 'ostracontop.TopLearned': WHATEVER THE INPUT: true; the input reads as it did. -/
def topLearnedSpec : ChangeSpec := { name := "topLearned", fn := fun _ => fun
  | [d1, d2, d3, d4, d5, d6] => { results := [.lit (.bool true)], args := [d1, d2, d3, d4, d5, d6] }
  | _ => none }
def topLearnedRow : OpenClaim := { program := "ytdjcbpicdnhciaagreat", sum := "b1a1efc7b9c9139c21fa70932c623e27c693b0b99aad83a66ac73adf8fa3846b", func := "ostracon/ostracontop.TopLearned", spec := "topLearned", inPlace := ["internal/reflectlite.ValueOf", "internal/reflectlite.Swapper", "(internal/reflectlite.Value).Len", "slices.overlaps[ostracon/read.way]"], unfollowed := true, recurses := true, apart := false }
def TopLearnedSaid : Prop := topLearnedRow.holds Tryz.pinned (OpenSpec.ofChange topLearnedSpec)

/-- ITS FALSE NEIGHBOUR: 'it returns false'. Refute it at one input. -/
def topLearnedWrong : ChangeSpec := { name := "topLearned", fn := fun _ => fun
  | [d1, d2, d3, d4, d5, d6] => { results := [.lit (.bool false)], args := [d1, d2, d3, d4, d5, d6] }
  | _ => none }
def TopLearnedWrongFalsely : Prop := topLearnedRow.holds Tryz.pinned (OpenSpec.ofChange topLearnedWrong)

/-- 'ostracontop.TopMarked': WHATEVER THE INPUT: true; the input reads as it did. -/
def topMarkedSpec : ChangeSpec := { name := "topMarked", fn := fun _ => fun
  | [d1, d2, d3, d4, d5, d6] => { results := [.lit (.bool true)], args := [d1, d2, d3, d4, d5, d6] }
  | _ => none }
def topMarkedRow : OpenClaim := { program := "ytdjcbpicdnhciaagreat", sum := "b1a1efc7b9c9139c21fa70932c623e27c693b0b99aad83a66ac73adf8fa3846b", func := "ostracon/ostracontop.TopMarked", spec := "topMarked", inPlace := ["slices.overlaps[ostracon/read.way]"], unfollowed := true, recurses := true, apart := false }
def TopMarkedSaid : Prop := topMarkedRow.holds Tryz.pinned (OpenSpec.ofChange topMarkedSpec)

/-- ITS FALSE NEIGHBOUR: 'it returns false'. Refute it at one input. -/
def topMarkedWrong : ChangeSpec := { name := "topMarked", fn := fun _ => fun
  | [d1, d2, d3, d4, d5, d6] => { results := [.lit (.bool false)], args := [d1, d2, d3, d4, d5, d6] }
  | _ => none }
def TopMarkedWrongFalsely : Prop := topMarkedRow.holds Tryz.pinned (OpenSpec.ofChange topMarkedWrong)

/-- 'ostracontop.TopGrammar': WHATEVER THE INPUT: true; the input reads as it did. -/
def topGrammarSpec : ChangeSpec := { name := "topGrammar", fn := fun _ => fun
  | [d1, d2, d3] => { results := [.lit (.bool true)], args := [d1, d2, d3] }
  | _ => none }
def topGrammarRow : OpenClaim := { program := "ytdjcbpicdnhciaagreat", sum := "b1a1efc7b9c9139c21fa70932c623e27c693b0b99aad83a66ac73adf8fa3846b", func := "ostracon/ostracontop.TopGrammar", spec := "topGrammar", inPlace := ["slices.overlaps[ostracon/read.way]", "internal/reflectlite.ValueOf", "internal/reflectlite.Swapper", "(internal/reflectlite.Value).Len", "internal/abi.NoEscape", "internal/bytealg.MakeNoZero"], unfollowed := true, recurses := true, apart := false }
def TopGrammarSaid : Prop := topGrammarRow.holds Tryz.pinned (OpenSpec.ofChange topGrammarSpec)

/-- ITS FALSE NEIGHBOUR: 'it returns false'. Refute it at one input. -/
def topGrammarWrong : ChangeSpec := { name := "topGrammar", fn := fun _ => fun
  | [d1, d2, d3] => { results := [.lit (.bool false)], args := [d1, d2, d3] }
  | _ => none }
def TopGrammarWrongFalsely : Prop := topGrammarRow.holds Tryz.pinned (OpenSpec.ofChange topGrammarWrong)

/- THE SECOND FORM. 'bulk': how many values and letters a reading holds, each counted each time it is reached (what is shared counts as often as it is met; a slice's spare places count too). A statement '..UptoSaid' is the law's where the arguments, and the package variables that the reading takes, are together of bulk at most 1048576: NARROWER than '..Said'. Prove '..Said' where nothing that the law and all that it calls make is longer than what came in: it says more and counts as full. Else prove '..UptoSaid'. A law counts once. -/
mutual
def uptoBulk {H : Type} : DataW H → Nat
  | .lit (.string bytes) => bytes.length + 1
  | .lit _ => 1
  | .nil => 1
  | .ptr d => uptoBulk d + 1
  | .slice elems spare => uptoBulkAll elems + uptoBulkAll spare + 1
  | .agg parts => uptoBulkAll parts + 1
  | .iface _ d => uptoBulk d + 1
  | .map entries => uptoBulkEntries entries + 1
  | .held _ => 1
def uptoBulkAll {H : Type} : List (DataW H) → Nat
  | [] => 0
  | d :: r => uptoBulk d + uptoBulkAll r
def uptoBulkEntries {H : Type} : List (Lit × DataW H) → Nat
  | [] => 0
  | x :: r => uptoBulkEntry x + uptoBulkEntries r
def uptoBulkEntry {H : Type} : Lit × DataW H → Nat
  | (.string bytes, d) => bytes.length + uptoBulk d + 1
  | (_, d) => uptoBulk d + 1
 end
def uptoSmall : (H : Type) → List (DataW H) → Bool := fun _ ds => decide (uptoBulkAll ds ≤ 1048576)
def OpenSpec.upto (s : _root_.Go.ChangeSpec) : _root_.Go.OpenSpec := { _root_.Go.OpenSpec.ofChange s with cond := some uptoSmall }

/-- 'ostracontop.TopVaried', WHERE WHAT IT READS IS OF BULK AT MOST 1048576: true; the input reads as it did. -/
def topVariedUptoRow : OpenClaim := { program := "ytdjcbpicdnhciaagreat", sum := "b1a1efc7b9c9139c21fa70932c623e27c693b0b99aad83a66ac73adf8fa3846b", func := "ostracon/ostracontop.TopVaried", spec := "topVaried", inPlace := ["internal/reflectlite.ValueOf", "internal/reflectlite.Swapper", "(internal/reflectlite.Value).Len", "slices.overlaps[ostracon/read.way]"], unfollowed := true, recurses := true, apart := false, narrowed := true }
def TopVariedUptoSaid : Prop := topVariedUptoRow.holds Tryz.pinned (OpenSpec.upto topVariedSpec)

/-- 'ostracontop.TopLearned', WHERE WHAT IT READS IS OF BULK AT MOST 1048576: true; the input reads as it did. -/
def topLearnedUptoRow : OpenClaim := { program := "ytdjcbpicdnhciaagreat", sum := "b1a1efc7b9c9139c21fa70932c623e27c693b0b99aad83a66ac73adf8fa3846b", func := "ostracon/ostracontop.TopLearned", spec := "topLearned", inPlace := ["internal/reflectlite.ValueOf", "internal/reflectlite.Swapper", "(internal/reflectlite.Value).Len", "slices.overlaps[ostracon/read.way]"], unfollowed := true, recurses := true, apart := false, narrowed := true }
def TopLearnedUptoSaid : Prop := topLearnedUptoRow.holds Tryz.pinned (OpenSpec.upto topLearnedSpec)

/-- 'ostracontop.TopMarked', WHERE WHAT IT READS IS OF BULK AT MOST 1048576: true; the input reads as it did. -/
def topMarkedUptoRow : OpenClaim := { program := "ytdjcbpicdnhciaagreat", sum := "b1a1efc7b9c9139c21fa70932c623e27c693b0b99aad83a66ac73adf8fa3846b", func := "ostracon/ostracontop.TopMarked", spec := "topMarked", inPlace := ["slices.overlaps[ostracon/read.way]"], unfollowed := true, recurses := true, apart := false, narrowed := true }
def TopMarkedUptoSaid : Prop := topMarkedUptoRow.holds Tryz.pinned (OpenSpec.upto topMarkedSpec)

/-- 'ostracontop.TopGrammar', WHERE WHAT IT READS IS OF BULK AT MOST 1048576: true; the input reads as it did. -/
def topGrammarUptoRow : OpenClaim := { program := "ytdjcbpicdnhciaagreat", sum := "b1a1efc7b9c9139c21fa70932c623e27c693b0b99aad83a66ac73adf8fa3846b", func := "ostracon/ostracontop.TopGrammar", spec := "topGrammar", inPlace := ["slices.overlaps[ostracon/read.way]", "internal/reflectlite.ValueOf", "internal/reflectlite.Swapper", "(internal/reflectlite.Value).Len", "internal/abi.NoEscape", "internal/bytealg.MakeNoZero"], unfollowed := true, recurses := true, apart := false, narrowed := true }
def TopGrammarUptoSaid : Prop := topGrammarUptoRow.holds Tryz.pinned (OpenSpec.upto topGrammarSpec)

end Rows
end Go.Proofs.YtdjcbpicdnhciaaGreat
