/-
  No cell of these rows narrows 'for every input' (looked for: loops, veiled, ifaces, maps, wideKeys, modest, calm, conditions, laid).
  DERIVED. THE GIVEN ROWS OF THIS SEAT. 10 by the template 'for every input the law returns true; each argument reads behind the call as it read before'; 0 by the template 'total and deterministic' (their statements: YtknjoigifmkdfaaTotals.lean).
  GIVEN WITH THE SEED: the statements are not yours to turn. If you find one false, say at which input.
  Laid BY PROGRAM, IN A SANDBOX (cutbox-rows.mjs): the forced cells as the released guide's own fill.sh prints them over the translation c91aa9418a3c8f9a… (all of the seat's roots in one cut). By AI agents, Wed Nov 11 2026. No macro, syntax, notation, axiom, sorry.
-/
import Derived.Test.YtknjoigifmkdfaaChecked
import GoSem.Claim
import GoSem.ClaimJoined
import GoSem.ClaimMapViews
import Derived.JoinedTies
import Derived.KernelRfl
namespace Go.Proofs.Ytknjoigifmkdfaa
/- THE CELL 'sum', in the pinned program and in every row, IS THE sha256 OF THE DUMP (.gsa) THAT YtknjoigifmkdfaaProg.lean LOADS. Nothing in Lean hashes anything: it is a label: what it is worth is what the hold of that sum in a sandbox is worth. -/
noncomputable def Try.pinned : Pinned := { name := "ytknjoigifmkdfaa", sum := "c91aa9418a3c8f9a13b9aeab77dbcfe0437dfffbb59ff0921ba3008448504b9e", checked := Try.checked }
namespace Rows
def none {H : Type} : Left H := { results := [], args := [] }

/-- 'winnowerlaw17.DictWords': WHATEVER THE INPUT: true; the input reads as it did. -/
def dictWordsSpec : ChangeSpec := { name := "dictWords", fn := fun _ => fun
  | [d] => { results := [.lit (.bool true)], args := [d] }
  | _ => none }
def dictWordsRow : OpenClaim := { program := "ytknjoigifmkdfaa", sum := "c91aa9418a3c8f9a13b9aeab77dbcfe0437dfffbb59ff0921ba3008448504b9e", func := "winnower/winnowerlaw17.DictWords", spec := "dictWords", recurses := true, apart := false }
def DictWordsSaid : Prop := dictWordsRow.holds Try.pinned (OpenSpec.ofChange dictWordsSpec)

/-- ITS FALSE NEIGHBOUR: 'it returns false'. Refute it at one input. -/
def dictWordsWrong : ChangeSpec := { name := "dictWords", fn := fun _ => fun
  | [d] => { results := [.lit (.bool false)], args := [d] }
  | _ => none }
def DictWordsWrongFalsely : Prop := dictWordsRow.holds Try.pinned (OpenSpec.ofChange dictWordsWrong)

/-- 'winnowerlaw17.DictEncodes': WHATEVER THE INPUT: true; the input reads as it did. -/
def dictEncodesSpec : ChangeSpec := { name := "dictEncodes", fn := fun _ => fun
  | [d] => { results := [.lit (.bool true)], args := [d] }
  | _ => none }
def dictEncodesRow : OpenClaim := { program := "ytknjoigifmkdfaa", sum := "c91aa9418a3c8f9a13b9aeab77dbcfe0437dfffbb59ff0921ba3008448504b9e", func := "winnower/winnowerlaw17.DictEncodes", spec := "dictEncodes", unfollowed := true, recurses := true, apart := false }
def DictEncodesSaid : Prop := dictEncodesRow.holds Try.pinned (OpenSpec.ofChange dictEncodesSpec)

/-- ITS FALSE NEIGHBOUR: 'it returns false'. Refute it at one input. -/
def dictEncodesWrong : ChangeSpec := { name := "dictEncodes", fn := fun _ => fun
  | [d] => { results := [.lit (.bool false)], args := [d] }
  | _ => none }
def DictEncodesWrongFalsely : Prop := dictEncodesRow.holds Try.pinned (OpenSpec.ofChange dictEncodesWrong)

/-- 'winnowerlaw17.DictDecodes': WHATEVER THE INPUT: true; the input reads as it did. -/
def dictDecodesSpec : ChangeSpec := { name := "dictDecodes", fn := fun _ => fun
  | [d] => { results := [.lit (.bool true)], args := [d] }
  | _ => none }
def dictDecodesRow : OpenClaim := { program := "ytknjoigifmkdfaa", sum := "c91aa9418a3c8f9a13b9aeab77dbcfe0437dfffbb59ff0921ba3008448504b9e", func := "winnower/winnowerlaw17.DictDecodes", spec := "dictDecodes", unfollowed := true, recurses := true, apart := false }
def DictDecodesSaid : Prop := dictDecodesRow.holds Try.pinned (OpenSpec.ofChange dictDecodesSpec)

/-- ITS FALSE NEIGHBOUR: 'it returns false'. Refute it at one input. -/
def dictDecodesWrong : ChangeSpec := { name := "dictDecodes", fn := fun _ => fun
  | [d] => { results := [.lit (.bool false)], args := [d] }
  | _ => none }
def DictDecodesWrongFalsely : Prop := dictDecodesRow.holds Try.pinned (OpenSpec.ofChange dictDecodesWrong)

/-- 'winnowerlaw17.DictBack': WHATEVER THE INPUT: true; the input reads as it did. -/
def dictBackSpec : ChangeSpec := { name := "dictBack", fn := fun _ => fun
  | [d] => { results := [.lit (.bool true)], args := [d] }
  | _ => none }
def dictBackRow : OpenClaim := { program := "ytknjoigifmkdfaa", sum := "c91aa9418a3c8f9a13b9aeab77dbcfe0437dfffbb59ff0921ba3008448504b9e", func := "winnower/winnowerlaw17.DictBack", spec := "dictBack", unfollowed := true, recurses := true, apart := false }
def DictBackSaid : Prop := dictBackRow.holds Try.pinned (OpenSpec.ofChange dictBackSpec)

/-- ITS FALSE NEIGHBOUR: 'it returns false'. Refute it at one input. -/
def dictBackWrong : ChangeSpec := { name := "dictBack", fn := fun _ => fun
  | [d] => { results := [.lit (.bool false)], args := [d] }
  | _ => none }
def DictBackWrongFalsely : Prop := dictBackRow.holds Try.pinned (OpenSpec.ofChange dictBackWrong)

/-- 'winnowerlaw17.DictMany': WHATEVER THE INPUT: true; the input reads as it did. -/
def dictManySpec : ChangeSpec := { name := "dictMany", fn := fun _ => fun
  | [d1, d2] => { results := [.lit (.bool true)], args := [d1, d2] }
  | _ => none }
def dictManyRow : OpenClaim := { program := "ytknjoigifmkdfaa", sum := "c91aa9418a3c8f9a13b9aeab77dbcfe0437dfffbb59ff0921ba3008448504b9e", func := "winnower/winnowerlaw17.DictMany", spec := "dictMany", unfollowed := true, recurses := true, apart := false }
def DictManySaid : Prop := dictManyRow.holds Try.pinned (OpenSpec.ofChange dictManySpec)

/-- ITS FALSE NEIGHBOUR: 'it returns false'. Refute it at one input. -/
def dictManyWrong : ChangeSpec := { name := "dictMany", fn := fun _ => fun
  | [d1, d2] => { results := [.lit (.bool false)], args := [d1, d2] }
  | _ => none }
def DictManyWrongFalsely : Prop := dictManyRow.holds Try.pinned (OpenSpec.ofChange dictManyWrong)

/-- 'winnowerlaw18.SegmentDecodes': WHATEVER THE INPUT: true; the input reads as it did. -/
def segmentDecodesSpec : ChangeSpec := { name := "segmentDecodes", fn := fun _ => fun
  | [d] => { results := [.lit (.bool true)], args := [d] }
  | _ => none }
def segmentDecodesRow : OpenClaim := { program := "ytknjoigifmkdfaa", sum := "c91aa9418a3c8f9a13b9aeab77dbcfe0437dfffbb59ff0921ba3008448504b9e", func := "winnower/winnowerlaw18.SegmentDecodes", spec := "segmentDecodes", inPlace := ["internal/bytealg.MakeNoZero"], unfollowed := true, recurses := true, apart := false }
def SegmentDecodesSaid : Prop := segmentDecodesRow.holds Try.pinned (OpenSpec.ofChange segmentDecodesSpec)

/-- ITS FALSE NEIGHBOUR: 'it returns false'. Refute it at one input. -/
def segmentDecodesWrong : ChangeSpec := { name := "segmentDecodes", fn := fun _ => fun
  | [d] => { results := [.lit (.bool false)], args := [d] }
  | _ => none }
def SegmentDecodesWrongFalsely : Prop := segmentDecodesRow.holds Try.pinned (OpenSpec.ofChange segmentDecodesWrong)

/-- 'winnowerlaw18.SegmentBack': WHATEVER THE INPUT: true; the input reads as it did. -/
def segmentBackSpec : ChangeSpec := { name := "segmentBack", fn := fun _ => fun
  | [d1, d2, d3] => { results := [.lit (.bool true)], args := [d1, d2, d3] }
  | _ => none }
def segmentBackRow : OpenClaim := { program := "ytknjoigifmkdfaa", sum := "c91aa9418a3c8f9a13b9aeab77dbcfe0437dfffbb59ff0921ba3008448504b9e", func := "winnower/winnowerlaw18.SegmentBack", spec := "segmentBack", inPlace := ["internal/bytealg.MakeNoZero"], unfollowed := true, recurses := true, apart := false }
def SegmentBackSaid : Prop := segmentBackRow.holds Try.pinned (OpenSpec.ofChange segmentBackSpec)

/-- ITS FALSE NEIGHBOUR: 'it returns false'. Refute it at one input. -/
def segmentBackWrong : ChangeSpec := { name := "segmentBack", fn := fun _ => fun
  | [d1, d2, d3] => { results := [.lit (.bool false)], args := [d1, d2, d3] }
  | _ => none }
def SegmentBackWrongFalsely : Prop := segmentBackRow.holds Try.pinned (OpenSpec.ofChange segmentBackWrong)

/-- 'winnowerlaw18.SegmentJoins': WHATEVER THE INPUT: true; the input reads as it did. -/
def segmentJoinsSpec : ChangeSpec := { name := "segmentJoins", fn := fun _ => fun
  | [d] => { results := [.lit (.bool true)], args := [d] }
  | _ => none }
def segmentJoinsRow : OpenClaim := { program := "ytknjoigifmkdfaa", sum := "c91aa9418a3c8f9a13b9aeab77dbcfe0437dfffbb59ff0921ba3008448504b9e", func := "winnower/winnowerlaw18.SegmentJoins", spec := "segmentJoins", inPlace := ["internal/bytealg.MakeNoZero"], unfollowed := true, recurses := true, apart := false }
def SegmentJoinsSaid : Prop := segmentJoinsRow.holds Try.pinned (OpenSpec.ofChange segmentJoinsSpec)

/-- ITS FALSE NEIGHBOUR: 'it returns false'. Refute it at one input. -/
def segmentJoinsWrong : ChangeSpec := { name := "segmentJoins", fn := fun _ => fun
  | [d] => { results := [.lit (.bool false)], args := [d] }
  | _ => none }
def SegmentJoinsWrongFalsely : Prop := segmentJoinsRow.holds Try.pinned (OpenSpec.ofChange segmentJoinsWrong)

/-- 'winnowerlaw18.SegmentParts': WHATEVER THE INPUT: true; the input reads as it did. -/
def segmentPartsSpec : ChangeSpec := { name := "segmentParts", fn := fun _ => fun
  | [d1, d2] => { results := [.lit (.bool true)], args := [d1, d2] }
  | _ => none }
def segmentPartsRow : OpenClaim := { program := "ytknjoigifmkdfaa", sum := "c91aa9418a3c8f9a13b9aeab77dbcfe0437dfffbb59ff0921ba3008448504b9e", func := "winnower/winnowerlaw18.SegmentParts", spec := "segmentParts", inPlace := ["internal/bytealg.MakeNoZero"], unfollowed := true, recurses := true, apart := false }
def SegmentPartsSaid : Prop := segmentPartsRow.holds Try.pinned (OpenSpec.ofChange segmentPartsSpec)

/-- ITS FALSE NEIGHBOUR: 'it returns false'. Refute it at one input. -/
def segmentPartsWrong : ChangeSpec := { name := "segmentParts", fn := fun _ => fun
  | [d1, d2] => { results := [.lit (.bool false)], args := [d1, d2] }
  | _ => none }
def SegmentPartsWrongFalsely : Prop := segmentPartsRow.holds Try.pinned (OpenSpec.ofChange segmentPartsWrong)

/-- 'winnowerlaw18.SegmentEncodes': WHATEVER THE INPUT: true; the input reads as it did. -/
def segmentEncodesSpec : ChangeSpec := { name := "segmentEncodes", fn := fun _ => fun
  | [d1, d2] => { results := [.lit (.bool true)], args := [d1, d2] }
  | _ => none }
def segmentEncodesRow : OpenClaim := { program := "ytknjoigifmkdfaa", sum := "c91aa9418a3c8f9a13b9aeab77dbcfe0437dfffbb59ff0921ba3008448504b9e", func := "winnower/winnowerlaw18.SegmentEncodes", spec := "segmentEncodes", inPlace := ["internal/bytealg.MakeNoZero"], unfollowed := true, recurses := true, apart := false }
def SegmentEncodesSaid : Prop := segmentEncodesRow.holds Try.pinned (OpenSpec.ofChange segmentEncodesSpec)

/-- ITS FALSE NEIGHBOUR: 'it returns false'. Refute it at one input. -/
def segmentEncodesWrong : ChangeSpec := { name := "segmentEncodes", fn := fun _ => fun
  | [d1, d2] => { results := [.lit (.bool false)], args := [d1, d2] }
  | _ => none }
def SegmentEncodesWrongFalsely : Prop := segmentEncodesRow.holds Try.pinned (OpenSpec.ofChange segmentEncodesWrong)

/- THE SECOND FORM. 'bulk': how many values and letters a reading holds, each counted each time it is reached (what is shared counts as often as it is met; a slice's spare places count too). A statement '..UptoSaid' is the law's where the arguments, and the package variables that the reading takes, are together of bulk at most 1048576: NARROWER than '..Said'. Prove '..Said' where nothing that the law and all that it calls make is longer than what came in: it says more and counts as full. Else prove '..UptoSaid'. A law counts once. -/
mutual
def uptoBulk {H : Type} : DataW H → Nat
  | .lit (.string bytes) => bytes.length + 1
  | .lit _ => 1
  | .nil => 1
  | .ptr d => uptoBulk d + 1
  | .slice elems spare => uptoBulkAll elems + uptoBulkAll spare + 1
  | .agg parts => uptoBulkAll parts + 1
  | .iface _ d => uptoBulk d + 1
  | .map entries => uptoBulkEntries entries + 1
  | .held _ => 1
def uptoBulkAll {H : Type} : List (DataW H) → Nat
  | [] => 0
  | d :: r => uptoBulk d + uptoBulkAll r
def uptoBulkEntries {H : Type} : List (Lit × DataW H) → Nat
  | [] => 0
  | x :: r => uptoBulkEntry x + uptoBulkEntries r
def uptoBulkEntry {H : Type} : Lit × DataW H → Nat
  | (.string bytes, d) => bytes.length + uptoBulk d + 1
  | (_, d) => uptoBulk d + 1
 end
def uptoSmall : (H : Type) → List (DataW H) → Bool := fun _ ds => decide (uptoBulkAll ds ≤ 1048576)
def OpenSpec.upto (s : _root_.Go.ChangeSpec) : _root_.Go.OpenSpec := { _root_.Go.OpenSpec.ofChange s with cond := some uptoSmall }

/-- 'winnowerlaw17.DictWords', WHERE WHAT IT READS IS OF BULK AT MOST 1048576: true; the input reads as it did. -/
def dictWordsUptoRow : OpenClaim := { program := "ytknjoigifmkdfaa", sum := "c91aa9418a3c8f9a13b9aeab77dbcfe0437dfffbb59ff0921ba3008448504b9e", func := "winnower/winnowerlaw17.DictWords", spec := "dictWords", recurses := true, apart := false, narrowed := true }
def DictWordsUptoSaid : Prop := dictWordsUptoRow.holds Try.pinned (OpenSpec.upto dictWordsSpec)

/-- 'winnowerlaw17.DictEncodes', WHERE WHAT IT READS IS OF BULK AT MOST 1048576: true; the input reads as it did. -/
def dictEncodesUptoRow : OpenClaim := { program := "ytknjoigifmkdfaa", sum := "c91aa9418a3c8f9a13b9aeab77dbcfe0437dfffbb59ff0921ba3008448504b9e", func := "winnower/winnowerlaw17.DictEncodes", spec := "dictEncodes", unfollowed := true, recurses := true, apart := false, narrowed := true }
def DictEncodesUptoSaid : Prop := dictEncodesUptoRow.holds Try.pinned (OpenSpec.upto dictEncodesSpec)

/-- 'winnowerlaw17.DictDecodes', WHERE WHAT IT READS IS OF BULK AT MOST 1048576: true; the input reads as it did. -/
def dictDecodesUptoRow : OpenClaim := { program := "ytknjoigifmkdfaa", sum := "c91aa9418a3c8f9a13b9aeab77dbcfe0437dfffbb59ff0921ba3008448504b9e", func := "winnower/winnowerlaw17.DictDecodes", spec := "dictDecodes", unfollowed := true, recurses := true, apart := false, narrowed := true }
def DictDecodesUptoSaid : Prop := dictDecodesUptoRow.holds Try.pinned (OpenSpec.upto dictDecodesSpec)

/-- 'winnowerlaw17.DictBack', WHERE WHAT IT READS IS OF BULK AT MOST 1048576: true; the input reads as it did. -/
def dictBackUptoRow : OpenClaim := { program := "ytknjoigifmkdfaa", sum := "c91aa9418a3c8f9a13b9aeab77dbcfe0437dfffbb59ff0921ba3008448504b9e", func := "winnower/winnowerlaw17.DictBack", spec := "dictBack", unfollowed := true, recurses := true, apart := false, narrowed := true }
def DictBackUptoSaid : Prop := dictBackUptoRow.holds Try.pinned (OpenSpec.upto dictBackSpec)

/-- 'winnowerlaw17.DictMany', WHERE WHAT IT READS IS OF BULK AT MOST 1048576: true; the input reads as it did. -/
def dictManyUptoRow : OpenClaim := { program := "ytknjoigifmkdfaa", sum := "c91aa9418a3c8f9a13b9aeab77dbcfe0437dfffbb59ff0921ba3008448504b9e", func := "winnower/winnowerlaw17.DictMany", spec := "dictMany", unfollowed := true, recurses := true, apart := false, narrowed := true }
def DictManyUptoSaid : Prop := dictManyUptoRow.holds Try.pinned (OpenSpec.upto dictManySpec)

/-- 'winnowerlaw18.SegmentDecodes', WHERE WHAT IT READS IS OF BULK AT MOST 1048576: true; the input reads as it did. -/
def segmentDecodesUptoRow : OpenClaim := { program := "ytknjoigifmkdfaa", sum := "c91aa9418a3c8f9a13b9aeab77dbcfe0437dfffbb59ff0921ba3008448504b9e", func := "winnower/winnowerlaw18.SegmentDecodes", spec := "segmentDecodes", inPlace := ["internal/bytealg.MakeNoZero"], unfollowed := true, recurses := true, apart := false, narrowed := true }
def SegmentDecodesUptoSaid : Prop := segmentDecodesUptoRow.holds Try.pinned (OpenSpec.upto segmentDecodesSpec)

/-- 'winnowerlaw18.SegmentBack', WHERE WHAT IT READS IS OF BULK AT MOST 1048576: true; the input reads as it did. -/
def segmentBackUptoRow : OpenClaim := { program := "ytknjoigifmkdfaa", sum := "c91aa9418a3c8f9a13b9aeab77dbcfe0437dfffbb59ff0921ba3008448504b9e", func := "winnower/winnowerlaw18.SegmentBack", spec := "segmentBack", inPlace := ["internal/bytealg.MakeNoZero"], unfollowed := true, recurses := true, apart := false, narrowed := true }
def SegmentBackUptoSaid : Prop := segmentBackUptoRow.holds Try.pinned (OpenSpec.upto segmentBackSpec)

/-- 'winnowerlaw18.SegmentJoins', WHERE WHAT IT READS IS OF BULK AT MOST 1048576: true; the input reads as it did. -/
def segmentJoinsUptoRow : OpenClaim := { program := "ytknjoigifmkdfaa", sum := "c91aa9418a3c8f9a13b9aeab77dbcfe0437dfffbb59ff0921ba3008448504b9e", func := "winnower/winnowerlaw18.SegmentJoins", spec := "segmentJoins", inPlace := ["internal/bytealg.MakeNoZero"], unfollowed := true, recurses := true, apart := false, narrowed := true }
def SegmentJoinsUptoSaid : Prop := segmentJoinsUptoRow.holds Try.pinned (OpenSpec.upto segmentJoinsSpec)

/-- 'winnowerlaw18.SegmentParts', WHERE WHAT IT READS IS OF BULK AT MOST 1048576: true; the input reads as it did. -/
def segmentPartsUptoRow : OpenClaim := { program := "ytknjoigifmkdfaa", sum := "c91aa9418a3c8f9a13b9aeab77dbcfe0437dfffbb59ff0921ba3008448504b9e", func := "winnower/winnowerlaw18.SegmentParts", spec := "segmentParts", inPlace := ["internal/bytealg.MakeNoZero"], unfollowed := true, recurses := true, apart := false, narrowed := true }
def SegmentPartsUptoSaid : Prop := segmentPartsUptoRow.holds Try.pinned (OpenSpec.upto segmentPartsSpec)

/-- 'winnowerlaw18.SegmentEncodes', WHERE WHAT IT READS IS OF BULK AT MOST 1048576: true; the input reads as it did. -/
def segmentEncodesUptoRow : OpenClaim := { program := "ytknjoigifmkdfaa", sum := "c91aa9418a3c8f9a13b9aeab77dbcfe0437dfffbb59ff0921ba3008448504b9e", func := "winnower/winnowerlaw18.SegmentEncodes", spec := "segmentEncodes", inPlace := ["internal/bytealg.MakeNoZero"], unfollowed := true, recurses := true, apart := false, narrowed := true }
def SegmentEncodesUptoSaid : Prop := segmentEncodesUptoRow.holds Try.pinned (OpenSpec.upto segmentEncodesSpec)

end Rows
end Go.Proofs.Ytknjoigifmkdfaa
