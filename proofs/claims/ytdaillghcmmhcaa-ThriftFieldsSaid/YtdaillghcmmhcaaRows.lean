/-
  NARROWER THAN 'FOR EVERY INPUT', by the rows' own cells (each row's printed sentence says how): ThriftWrites: loops · ThriftFields: loops · ThriftBack: loops.
  DERIVED. THE GIVEN ROWS OF THIS SEAT. 6 by the template 'for every input the law returns true; each argument reads behind the call as it read before'; 0 by the template 'total and deterministic' (their statements: YtdaillghcmmhcaaTotals.lean).
  GIVEN WITH THE SEED: the statements are not yours to turn. If you find one false, say at which input.
  Laid BY PROGRAM, IN A SANDBOX (cutbox-rows.mjs): the forced cells as the released guide's own fill.sh prints them over the translation 441578aea3d29257… (all of the seat's roots in one cut). By AI agents, Wed Nov 11 2026. No macro, syntax, notation, axiom, sorry.
-/
import Derived.Test.YtdaillghcmmhcaaChecked
import GoSem.Claim
import GoSem.ClaimJoined
import GoSem.ClaimMapViews
import Derived.JoinedTies
import Derived.KernelRfl
namespace Go.Proofs.Ytdaillghcmmhcaa
/- THE CELL 'sum', in the pinned program and in every row, IS THE sha256 OF THE DUMP (.gsa) THAT YtdaillghcmmhcaaProg.lean LOADS. Nothing in Lean hashes anything: it is a label: what it is worth is what the hold of that sum in a sandbox is worth. -/
noncomputable def Try.pinned : Pinned := { name := "ytdaillghcmmhcaa", sum := "441578aea3d29257566434557f435c4495693093f8b98b278eb6bbf0bcb07019", checked := Try.checked }
namespace Rows
def none {H : Type} : Left H := { results := [], args := [] }

/-- 'marquetrylaw03.ThriftWrites': WHATEVER THE INPUT: true; the input reads as it did. -/
def thriftWritesSpec : ChangeSpec := { name := "thriftWrites", fn := fun _ => fun
  | [d] => { results := [.lit (.bool true)], args := [d] }
  | _ => none }
def thriftWritesRow : OpenClaim := { program := "ytdaillghcmmhcaa", sum := "441578aea3d29257566434557f435c4495693093f8b98b278eb6bbf0bcb07019", func := "marquetry/marquetrylaw03.ThriftWrites", spec := "thriftWrites", unfollowed := true, recurses := true, loops := true, apart := false }
def ThriftWritesSaid : Prop := thriftWritesRow.holds Try.pinned (OpenSpec.ofChange thriftWritesSpec)

/-- ITS FALSE NEIGHBOUR: 'it returns false'. Refute it at one input. -/
def thriftWritesWrong : ChangeSpec := { name := "thriftWrites", fn := fun _ => fun
  | [d] => { results := [.lit (.bool false)], args := [d] }
  | _ => none }
def ThriftWritesWrongFalsely : Prop := thriftWritesRow.holds Try.pinned (OpenSpec.ofChange thriftWritesWrong)

/-- 'marquetrylaw03.ThriftReads': WHATEVER THE INPUT: true; the input reads as it did. -/
def thriftReadsSpec : ChangeSpec := { name := "thriftReads", fn := fun _ => fun
  | [d] => { results := [.lit (.bool true)], args := [d] }
  | _ => none }
def thriftReadsRow : OpenClaim := { program := "ytdaillghcmmhcaa", sum := "441578aea3d29257566434557f435c4495693093f8b98b278eb6bbf0bcb07019", func := "marquetry/marquetrylaw03.ThriftReads", spec := "thriftReads", unfollowed := true, recurses := true, apart := false }
def ThriftReadsSaid : Prop := thriftReadsRow.holds Try.pinned (OpenSpec.ofChange thriftReadsSpec)

/-- ITS FALSE NEIGHBOUR: 'it returns false'. Refute it at one input. -/
def thriftReadsWrong : ChangeSpec := { name := "thriftReads", fn := fun _ => fun
  | [d] => { results := [.lit (.bool false)], args := [d] }
  | _ => none }
def ThriftReadsWrongFalsely : Prop := thriftReadsRow.holds Try.pinned (OpenSpec.ofChange thriftReadsWrong)

/-- 'marquetrylaw03.ThriftBounds': WHATEVER THE INPUT: true; the input reads as it did. -/
def thriftBoundsSpec : ChangeSpec := { name := "thriftBounds", fn := fun _ => fun
  | [] => { results := [.lit (.bool true)], args := [] }
  | _ => none }
def thriftBoundsRow : OpenClaim := { program := "ytdaillghcmmhcaa", sum := "441578aea3d29257566434557f435c4495693093f8b98b278eb6bbf0bcb07019", func := "marquetry/marquetrylaw03.ThriftBounds", spec := "thriftBounds", unfollowed := true, recurses := true, apart := false }
def ThriftBoundsSaid : Prop := thriftBoundsRow.holds Try.pinned (OpenSpec.ofChange thriftBoundsSpec)

/-- ITS FALSE NEIGHBOUR: 'it returns false'. Refute it at one input. -/
def thriftBoundsWrong : ChangeSpec := { name := "thriftBounds", fn := fun _ => fun
  | [] => { results := [.lit (.bool false)], args := [] }
  | _ => none }
def ThriftBoundsWrongFalsely : Prop := thriftBoundsRow.holds Try.pinned (OpenSpec.ofChange thriftBoundsWrong)

/-- 'marquetrylaw03.ThriftFields': WHATEVER THE INPUT: true; the input reads as it did. -/
def thriftFieldsSpec : ChangeSpec := { name := "thriftFields", fn := fun _ => fun
  | [d1, d2, d3] => { results := [.lit (.bool true)], args := [d1, d2, d3] }
  | _ => none }
def thriftFieldsRow : OpenClaim := { program := "ytdaillghcmmhcaa", sum := "441578aea3d29257566434557f435c4495693093f8b98b278eb6bbf0bcb07019", func := "marquetry/marquetrylaw03.ThriftFields", spec := "thriftFields", unfollowed := true, recurses := true, loops := true, apart := false }
def ThriftFieldsSaid : Prop := thriftFieldsRow.holds Try.pinned (OpenSpec.ofChange thriftFieldsSpec)

/-- ITS FALSE NEIGHBOUR: 'it returns false'. Refute it at one input. -/
def thriftFieldsWrong : ChangeSpec := { name := "thriftFields", fn := fun _ => fun
  | [d1, d2, d3] => { results := [.lit (.bool false)], args := [d1, d2, d3] }
  | _ => none }
def ThriftFieldsWrongFalsely : Prop := thriftFieldsRow.holds Try.pinned (OpenSpec.ofChange thriftFieldsWrong)

/-- 'marquetrylaw03.ThriftBack': WHATEVER THE INPUT: true; the input reads as it did. -/
def thriftBackSpec : ChangeSpec := { name := "thriftBack", fn := fun _ => fun
  | [d1, d2, d3] => { results := [.lit (.bool true)], args := [d1, d2, d3] }
  | _ => none }
def thriftBackRow : OpenClaim := { program := "ytdaillghcmmhcaa", sum := "441578aea3d29257566434557f435c4495693093f8b98b278eb6bbf0bcb07019", func := "marquetry/marquetrylaw03.ThriftBack", spec := "thriftBack", unfollowed := true, recurses := true, loops := true, apart := false }
def ThriftBackSaid : Prop := thriftBackRow.holds Try.pinned (OpenSpec.ofChange thriftBackSpec)

/-- ITS FALSE NEIGHBOUR: 'it returns false'. Refute it at one input. -/
def thriftBackWrong : ChangeSpec := { name := "thriftBack", fn := fun _ => fun
  | [d1, d2, d3] => { results := [.lit (.bool false)], args := [d1, d2, d3] }
  | _ => none }
def ThriftBackWrongFalsely : Prop := thriftBackRow.holds Try.pinned (OpenSpec.ofChange thriftBackWrong)

/-- 'marquetrylaw03.ThriftAgain': WHATEVER THE INPUT: true; the input reads as it did. -/
def thriftAgainSpec : ChangeSpec := { name := "thriftAgain", fn := fun _ => fun
  | [d1, d2] => { results := [.lit (.bool true)], args := [d1, d2] }
  | _ => none }
def thriftAgainRow : OpenClaim := { program := "ytdaillghcmmhcaa", sum := "441578aea3d29257566434557f435c4495693093f8b98b278eb6bbf0bcb07019", func := "marquetry/marquetrylaw03.ThriftAgain", spec := "thriftAgain", unfollowed := true, recurses := true, apart := false }
def ThriftAgainSaid : Prop := thriftAgainRow.holds Try.pinned (OpenSpec.ofChange thriftAgainSpec)

/-- ITS FALSE NEIGHBOUR: 'it returns false'. Refute it at one input. -/
def thriftAgainWrong : ChangeSpec := { name := "thriftAgain", fn := fun _ => fun
  | [d1, d2] => { results := [.lit (.bool false)], args := [d1, d2] }
  | _ => none }
def ThriftAgainWrongFalsely : Prop := thriftAgainRow.holds Try.pinned (OpenSpec.ofChange thriftAgainWrong)

/- THE SECOND FORM. 'bulk': how many values and letters a reading holds, each counted each time it is reached (what is shared counts as often as it is met; a slice's spare places count too). A statement '..UptoSaid' is the law's where the arguments, and the package variables that the reading takes, are together of bulk at most 1048576: NARROWER than '..Said'. Prove '..Said' where nothing that the law and all that it calls make is longer than what came in: it says more and counts as full. Else prove '..UptoSaid'. A law counts once. -/
mutual
def uptoBulk {H : Type} : DataW H → Nat
  | .lit (.string bytes) => bytes.length + 1
  | .lit _ => 1
  | .nil => 1
  | .ptr d => uptoBulk d + 1
  | .slice elems spare => uptoBulkAll elems + uptoBulkAll spare + 1
  | .agg parts => uptoBulkAll parts + 1
  | .iface _ d => uptoBulk d + 1
  | .map entries => uptoBulkEntries entries + 1
  | .held _ => 1
def uptoBulkAll {H : Type} : List (DataW H) → Nat
  | [] => 0
  | d :: r => uptoBulk d + uptoBulkAll r
def uptoBulkEntries {H : Type} : List (Lit × DataW H) → Nat
  | [] => 0
  | x :: r => uptoBulkEntry x + uptoBulkEntries r
def uptoBulkEntry {H : Type} : Lit × DataW H → Nat
  | (.string bytes, d) => bytes.length + uptoBulk d + 1
  | (_, d) => uptoBulk d + 1
 end
def uptoSmall : (H : Type) → List (DataW H) → Bool := fun _ ds => decide (uptoBulkAll ds ≤ 1048576)
def OpenSpec.upto (s : _root_.Go.ChangeSpec) : _root_.Go.OpenSpec := { _root_.Go.OpenSpec.ofChange s with cond := some uptoSmall }

/-- 'marquetrylaw03.ThriftWrites', WHERE WHAT IT READS IS OF BULK AT MOST 1048576: true; the input reads as it did. -/
def thriftWritesUptoRow : OpenClaim := { program := "ytdaillghcmmhcaa", sum := "441578aea3d29257566434557f435c4495693093f8b98b278eb6bbf0bcb07019", func := "marquetry/marquetrylaw03.ThriftWrites", spec := "thriftWrites", unfollowed := true, recurses := true, loops := true, apart := false, narrowed := true }
def ThriftWritesUptoSaid : Prop := thriftWritesUptoRow.holds Try.pinned (OpenSpec.upto thriftWritesSpec)

/-- 'marquetrylaw03.ThriftReads', WHERE WHAT IT READS IS OF BULK AT MOST 1048576: true; the input reads as it did. -/
def thriftReadsUptoRow : OpenClaim := { program := "ytdaillghcmmhcaa", sum := "441578aea3d29257566434557f435c4495693093f8b98b278eb6bbf0bcb07019", func := "marquetry/marquetrylaw03.ThriftReads", spec := "thriftReads", unfollowed := true, recurses := true, apart := false, narrowed := true }
def ThriftReadsUptoSaid : Prop := thriftReadsUptoRow.holds Try.pinned (OpenSpec.upto thriftReadsSpec)

/-- 'marquetrylaw03.ThriftBounds', WHERE WHAT IT READS IS OF BULK AT MOST 1048576: true; the input reads as it did. -/
def thriftBoundsUptoRow : OpenClaim := { program := "ytdaillghcmmhcaa", sum := "441578aea3d29257566434557f435c4495693093f8b98b278eb6bbf0bcb07019", func := "marquetry/marquetrylaw03.ThriftBounds", spec := "thriftBounds", unfollowed := true, recurses := true, apart := false, narrowed := true }
def ThriftBoundsUptoSaid : Prop := thriftBoundsUptoRow.holds Try.pinned (OpenSpec.upto thriftBoundsSpec)

/-- 'marquetrylaw03.ThriftFields', WHERE WHAT IT READS IS OF BULK AT MOST 1048576: true; the input reads as it did. -/
def thriftFieldsUptoRow : OpenClaim := { program := "ytdaillghcmmhcaa", sum := "441578aea3d29257566434557f435c4495693093f8b98b278eb6bbf0bcb07019", func := "marquetry/marquetrylaw03.ThriftFields", spec := "thriftFields", unfollowed := true, recurses := true, loops := true, apart := false, narrowed := true }
def ThriftFieldsUptoSaid : Prop := thriftFieldsUptoRow.holds Try.pinned (OpenSpec.upto thriftFieldsSpec)

/-- 'marquetrylaw03.ThriftBack', WHERE WHAT IT READS IS OF BULK AT MOST 1048576: true; the input reads as it did. -/
def thriftBackUptoRow : OpenClaim := { program := "ytdaillghcmmhcaa", sum := "441578aea3d29257566434557f435c4495693093f8b98b278eb6bbf0bcb07019", func := "marquetry/marquetrylaw03.ThriftBack", spec := "thriftBack", unfollowed := true, recurses := true, loops := true, apart := false, narrowed := true }
def ThriftBackUptoSaid : Prop := thriftBackUptoRow.holds Try.pinned (OpenSpec.upto thriftBackSpec)

/-- 'marquetrylaw03.ThriftAgain', WHERE WHAT IT READS IS OF BULK AT MOST 1048576: true; the input reads as it did. -/
def thriftAgainUptoRow : OpenClaim := { program := "ytdaillghcmmhcaa", sum := "441578aea3d29257566434557f435c4495693093f8b98b278eb6bbf0bcb07019", func := "marquetry/marquetrylaw03.ThriftAgain", spec := "thriftAgain", unfollowed := true, recurses := true, apart := false, narrowed := true }
def ThriftAgainUptoSaid : Prop := thriftAgainUptoRow.holds Try.pinned (OpenSpec.upto thriftAgainSpec)

end Rows
end Go.Proofs.Ytdaillghcmmhcaa
