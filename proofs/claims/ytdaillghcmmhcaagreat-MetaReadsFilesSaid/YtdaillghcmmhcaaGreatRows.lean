/-
  No cell of these rows narrows 'for every input' (looked for: loops, veiled, ifaces, maps, wideKeys, modest, calm, conditions, laid).
  DERIVED. THE GIVEN ROWS OF THIS SEAT. 6 by the template 'for every input the law returns true; each argument reads behind the call as it read before'; 0 by the template 'total and deterministic' (their statements: YtdaillghcmmhcaaGreatTotals.lean).
  GIVEN WITH THE SEED: the statements are not yours to turn. If you find one false, say at which input.
  Laid BY PROGRAM, IN A SANDBOX (cutbox-rows.mjs): the forced cells as the released guide's own fill.sh prints them over the translation 169385a8161fee29… (all of the seat's roots in one cut). By AI agents, Wed Nov 11 2026. No macro, syntax, notation, axiom, sorry.
-/
import Derived.Test.YtdaillghcmmhcaaGreatChecked
import GoSem.Claim
import GoSem.ClaimJoined
import GoSem.ClaimMapViews
import Derived.JoinedTies
import Derived.KernelRfl
namespace Go.Proofs.YtdaillghcmmhcaaGreat
/- THE CELL 'sum', in the pinned program and in every row, IS THE sha256 OF THE DUMP (.gsa) THAT YtdaillghcmmhcaaGreatProg.lean LOADS. Nothing in Lean hashes anything: it is a label: what it is worth is what the hold of that sum in a sandbox is worth. -/
noncomputable def Tryz.pinned : Pinned := { name := "ytdaillghcmmhcaagreat", sum := "169385a8161fee2933c9c5b55848db32dca664e82d81058ad3be79b073cefb57", checked := Tryz.checked }
namespace Rows
def none {H : Type} : Left H := { results := [], args := [] }

/-- 'marquetrylaw21.MetaPages': WHATEVER THE INPUT: true; the input reads as it did. -/
def metaPagesSpec : ChangeSpec := { name := "metaPages", fn := fun _ => fun
  | [d] => { results := [.lit (.bool true)], args := [d] }
  | _ => none }
def metaPagesRow : OpenClaim := { program := "ytdaillghcmmhcaagreat", sum := "169385a8161fee2933c9c5b55848db32dca664e82d81058ad3be79b073cefb57", func := "marquetry/marquetrylaw21.MetaPages", spec := "metaPages", unfollowed := true, recurses := true, apart := false }
def MetaPagesSaid : Prop := metaPagesRow.holds Tryz.pinned (OpenSpec.ofChange metaPagesSpec)

/-- ITS FALSE NEIGHBOUR: 'it returns false'. Refute it at one input. -/
def metaPagesWrong : ChangeSpec := { name := "metaPages", fn := fun _ => fun
  | [d] => { results := [.lit (.bool false)], args := [d] }
  | _ => none }
def MetaPagesWrongFalsely : Prop := metaPagesRow.holds Tryz.pinned (OpenSpec.ofChange metaPagesWrong)

/-- 'marquetrylaw21.MetaReadsPages': WHATEVER THE INPUT: true; the input reads as it did. -/
def metaReadsPagesSpec : ChangeSpec := { name := "metaReadsPages", fn := fun _ => fun
  | [d1, d2] => { results := [.lit (.bool true)], args := [d1, d2] }
  | _ => none }
def metaReadsPagesRow : OpenClaim := { program := "ytdaillghcmmhcaagreat", sum := "169385a8161fee2933c9c5b55848db32dca664e82d81058ad3be79b073cefb57", func := "marquetry/marquetrylaw21.MetaReadsPages", spec := "metaReadsPages", unfollowed := true, recurses := true, apart := false }
def MetaReadsPagesSaid : Prop := metaReadsPagesRow.holds Tryz.pinned (OpenSpec.ofChange metaReadsPagesSpec)

/-- ITS FALSE NEIGHBOUR: 'it returns false'. Refute it at one input. -/
def metaReadsPagesWrong : ChangeSpec := { name := "metaReadsPages", fn := fun _ => fun
  | [d1, d2] => { results := [.lit (.bool false)], args := [d1, d2] }
  | _ => none }
def MetaReadsPagesWrongFalsely : Prop := metaReadsPagesRow.holds Tryz.pinned (OpenSpec.ofChange metaReadsPagesWrong)

/-- 'marquetrylaw21.MetaFiles': WHATEVER THE INPUT: true; the input reads as it did. -/
def metaFilesSpec : ChangeSpec := { name := "metaFiles", fn := fun _ => fun
  | [d] => { results := [.lit (.bool true)], args := [d] }
  | _ => none }
def metaFilesRow : OpenClaim := { program := "ytdaillghcmmhcaagreat", sum := "169385a8161fee2933c9c5b55848db32dca664e82d81058ad3be79b073cefb57", func := "marquetry/marquetrylaw21.MetaFiles", spec := "metaFiles", unfollowed := true, recurses := true, apart := false }
def MetaFilesSaid : Prop := metaFilesRow.holds Tryz.pinned (OpenSpec.ofChange metaFilesSpec)

/-- ITS FALSE NEIGHBOUR: 'it returns false'. Refute it at one input. -/
def metaFilesWrong : ChangeSpec := { name := "metaFiles", fn := fun _ => fun
  | [d] => { results := [.lit (.bool false)], args := [d] }
  | _ => none }
def MetaFilesWrongFalsely : Prop := metaFilesRow.holds Tryz.pinned (OpenSpec.ofChange metaFilesWrong)

/-- 'marquetrylaw21.MetaReadsFiles': WHATEVER THE INPUT: true; the input reads as it did. -/
def metaReadsFilesSpec : ChangeSpec := { name := "metaReadsFiles", fn := fun _ => fun
  | [d] => { results := [.lit (.bool true)], args := [d] }
  | _ => none }
def metaReadsFilesRow : OpenClaim := { program := "ytdaillghcmmhcaagreat", sum := "169385a8161fee2933c9c5b55848db32dca664e82d81058ad3be79b073cefb57", func := "marquetry/marquetrylaw21.MetaReadsFiles", spec := "metaReadsFiles", unfollowed := true, recurses := true, apart := false }
def MetaReadsFilesSaid : Prop := metaReadsFilesRow.holds Tryz.pinned (OpenSpec.ofChange metaReadsFilesSpec)

/-- ITS FALSE NEIGHBOUR: 'it returns false'. Refute it at one input. -/
def metaReadsFilesWrong : ChangeSpec := { name := "metaReadsFiles", fn := fun _ => fun
  | [d] => { results := [.lit (.bool false)], args := [d] }
  | _ => none }
def MetaReadsFilesWrongFalsely : Prop := metaReadsFilesRow.holds Tryz.pinned (OpenSpec.ofChange metaReadsFilesWrong)

/-- 'marquetrylaw21.MetaSame': WHATEVER THE INPUT: true; the input reads as it did. -/
def metaSameSpec : ChangeSpec := { name := "metaSame", fn := fun _ => fun
  | [d1, d2] => { results := [.lit (.bool true)], args := [d1, d2] }
  | _ => none }
def metaSameRow : OpenClaim := { program := "ytdaillghcmmhcaagreat", sum := "169385a8161fee2933c9c5b55848db32dca664e82d81058ad3be79b073cefb57", func := "marquetry/marquetrylaw21.MetaSame", spec := "metaSame", unfollowed := true, recurses := true, apart := false }
def MetaSameSaid : Prop := metaSameRow.holds Tryz.pinned (OpenSpec.ofChange metaSameSpec)

/-- ITS FALSE NEIGHBOUR: 'it returns false'. Refute it at one input. -/
def metaSameWrong : ChangeSpec := { name := "metaSame", fn := fun _ => fun
  | [d1, d2] => { results := [.lit (.bool false)], args := [d1, d2] }
  | _ => none }
def MetaSameWrongFalsely : Prop := metaSameRow.holds Tryz.pinned (OpenSpec.ofChange metaSameWrong)

/-- 'marquetrylaw21.MetaBack': WHATEVER THE INPUT: true; the input reads as it did. -/
def metaBackSpec : ChangeSpec := { name := "metaBack", fn := fun _ => fun
  | [d1, d2, d3] => { results := [.lit (.bool true)], args := [d1, d2, d3] }
  | _ => none }
def metaBackRow : OpenClaim := { program := "ytdaillghcmmhcaagreat", sum := "169385a8161fee2933c9c5b55848db32dca664e82d81058ad3be79b073cefb57", func := "marquetry/marquetrylaw21.MetaBack", spec := "metaBack", unfollowed := true, recurses := true, apart := false }
def MetaBackSaid : Prop := metaBackRow.holds Tryz.pinned (OpenSpec.ofChange metaBackSpec)

/-- ITS FALSE NEIGHBOUR: 'it returns false'. Refute it at one input. -/
def metaBackWrong : ChangeSpec := { name := "metaBack", fn := fun _ => fun
  | [d1, d2, d3] => { results := [.lit (.bool false)], args := [d1, d2, d3] }
  | _ => none }
def MetaBackWrongFalsely : Prop := metaBackRow.holds Tryz.pinned (OpenSpec.ofChange metaBackWrong)

/- THE SECOND FORM. 'bulk': how many values and letters a reading holds, each counted each time it is reached (what is shared counts as often as it is met; a slice's spare places count too). A statement '..UptoSaid' is the law's where the arguments, and the package variables that the reading takes, are together of bulk at most 1048576: NARROWER than '..Said'. Prove '..Said' where nothing that the law and all that it calls make is longer than what came in: it says more and counts as full. Else prove '..UptoSaid'. A law counts once. -/
mutual
def uptoBulk {H : Type} : DataW H → Nat
  | .lit (.string bytes) => bytes.length + 1
  | .lit _ => 1
  | .nil => 1
  | .ptr d => uptoBulk d + 1
  | .slice elems spare => uptoBulkAll elems + uptoBulkAll spare + 1
  | .agg parts => uptoBulkAll parts + 1
  | .iface _ d => uptoBulk d + 1
  | .map entries => uptoBulkEntries entries + 1
  | .held _ => 1
def uptoBulkAll {H : Type} : List (DataW H) → Nat
  | [] => 0
  | d :: r => uptoBulk d + uptoBulkAll r
def uptoBulkEntries {H : Type} : List (Lit × DataW H) → Nat
  | [] => 0
  | x :: r => uptoBulkEntry x + uptoBulkEntries r
def uptoBulkEntry {H : Type} : Lit × DataW H → Nat
  | (.string bytes, d) => bytes.length + uptoBulk d + 1
  | (_, d) => uptoBulk d + 1
 end
def uptoSmall : (H : Type) → List (DataW H) → Bool := fun _ ds => decide (uptoBulkAll ds ≤ 1048576)
def OpenSpec.upto (s : _root_.Go.ChangeSpec) : _root_.Go.OpenSpec := { _root_.Go.OpenSpec.ofChange s with cond := some uptoSmall }

/-- 'marquetrylaw21.MetaPages', WHERE WHAT IT READS IS OF BULK AT MOST 1048576: true; the input reads as it did. -/
def metaPagesUptoRow : OpenClaim := { program := "ytdaillghcmmhcaagreat", sum := "169385a8161fee2933c9c5b55848db32dca664e82d81058ad3be79b073cefb57", func := "marquetry/marquetrylaw21.MetaPages", spec := "metaPages", unfollowed := true, recurses := true, apart := false, narrowed := true }
def MetaPagesUptoSaid : Prop := metaPagesUptoRow.holds Tryz.pinned (OpenSpec.upto metaPagesSpec)

/-- 'marquetrylaw21.MetaReadsPages', WHERE WHAT IT READS IS OF BULK AT MOST 1048576: true; the input reads as it did. -/
def metaReadsPagesUptoRow : OpenClaim := { program := "ytdaillghcmmhcaagreat", sum := "169385a8161fee2933c9c5b55848db32dca664e82d81058ad3be79b073cefb57", func := "marquetry/marquetrylaw21.MetaReadsPages", spec := "metaReadsPages", unfollowed := true, recurses := true, apart := false, narrowed := true }
def MetaReadsPagesUptoSaid : Prop := metaReadsPagesUptoRow.holds Tryz.pinned (OpenSpec.upto metaReadsPagesSpec)

/-- 'marquetrylaw21.MetaFiles', WHERE WHAT IT READS IS OF BULK AT MOST 1048576: true; the input reads as it did. -/
def metaFilesUptoRow : OpenClaim := { program := "ytdaillghcmmhcaagreat", sum := "169385a8161fee2933c9c5b55848db32dca664e82d81058ad3be79b073cefb57", func := "marquetry/marquetrylaw21.MetaFiles", spec := "metaFiles", unfollowed := true, recurses := true, apart := false, narrowed := true }
def MetaFilesUptoSaid : Prop := metaFilesUptoRow.holds Tryz.pinned (OpenSpec.upto metaFilesSpec)

/-- 'marquetrylaw21.MetaReadsFiles', WHERE WHAT IT READS IS OF BULK AT MOST 1048576: true; the input reads as it did. -/
def metaReadsFilesUptoRow : OpenClaim := { program := "ytdaillghcmmhcaagreat", sum := "169385a8161fee2933c9c5b55848db32dca664e82d81058ad3be79b073cefb57", func := "marquetry/marquetrylaw21.MetaReadsFiles", spec := "metaReadsFiles", unfollowed := true, recurses := true, apart := false, narrowed := true }
def MetaReadsFilesUptoSaid : Prop := metaReadsFilesUptoRow.holds Tryz.pinned (OpenSpec.upto metaReadsFilesSpec)

/-- 'marquetrylaw21.MetaSame', WHERE WHAT IT READS IS OF BULK AT MOST 1048576: true; the input reads as it did. -/
def metaSameUptoRow : OpenClaim := { program := "ytdaillghcmmhcaagreat", sum := "169385a8161fee2933c9c5b55848db32dca664e82d81058ad3be79b073cefb57", func := "marquetry/marquetrylaw21.MetaSame", spec := "metaSame", unfollowed := true, recurses := true, apart := false, narrowed := true }
def MetaSameUptoSaid : Prop := metaSameUptoRow.holds Tryz.pinned (OpenSpec.upto metaSameSpec)

/-- 'marquetrylaw21.MetaBack', WHERE WHAT IT READS IS OF BULK AT MOST 1048576: true; the input reads as it did. -/
def metaBackUptoRow : OpenClaim := { program := "ytdaillghcmmhcaagreat", sum := "169385a8161fee2933c9c5b55848db32dca664e82d81058ad3be79b073cefb57", func := "marquetry/marquetrylaw21.MetaBack", spec := "metaBack", unfollowed := true, recurses := true, apart := false, narrowed := true }
def MetaBackUptoSaid : Prop := metaBackUptoRow.holds Tryz.pinned (OpenSpec.upto metaBackSpec)

end Rows
end Go.Proofs.YtdaillghcmmhcaaGreat
