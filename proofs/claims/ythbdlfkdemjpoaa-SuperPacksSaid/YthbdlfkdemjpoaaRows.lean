/-
  No cell of these rows narrows 'for every input' (looked for: loops, veiled, ifaces, maps, wideKeys, modest, calm, conditions, laid).
  DERIVED. THE GIVEN ROWS OF THIS SEAT. 15 by the template 'for every input the law returns true; each argument reads behind the call as it read before'; 0 by the template 'total and deterministic' (their statements: YthbdlfkdemjpoaaTotals.lean).
  GIVEN WITH THE SEED: the statements are not yours to turn. If you find one false, say at which input.
  Laid BY PROGRAM, IN A SANDBOX (cutbox-rows.mjs): the forced cells as the released guide's own fill.sh prints them over the translation 72b347b82b482a62… (all of the seat's roots in one cut). By AI agents, Wed Nov 11 2026. No macro, syntax, notation, axiom, sorry.
-/
import Derived.Test.YthbdlfkdemjpoaaChecked
import GoSem.Claim
import GoSem.ClaimJoined
import GoSem.ClaimMapViews
import Derived.JoinedTies
import Derived.KernelRfl
namespace Go.Proofs.Ythbdlfkdemjpoaa
/- THE CELL 'sum', in the pinned program and in every row, IS THE sha256 OF THE DUMP (.gsa) THAT YthbdlfkdemjpoaaProg.lean LOADS. Nothing in Lean hashes anything: it is a label: what it is worth is what the hold of that sum in a sandbox is worth. -/
noncomputable def Try.pinned : Pinned := { name := "ythbdlfkdemjpoaa", sum := "72b347b82b482a6211a351aff327bbeb0943c9e4c50ecbcc9258459db996737e", checked := Try.checked }
namespace Rows
def none {H : Type} : Left H := { results := [], args := [] }

/-- 'winnowerlaw3.SuperPacks': WHATEVER THE INPUT: true; the input reads as it did. -/
def superPacksSpec : ChangeSpec := { name := "superPacks", fn := fun _ => fun
  | [d1, d2] => { results := [.lit (.bool true)], args := [d1, d2] }
  | _ => none }
def superPacksRow : OpenClaim := { program := "ythbdlfkdemjpoaa", sum := "72b347b82b482a6211a351aff327bbeb0943c9e4c50ecbcc9258459db996737e", func := "winnower/winnowerlaw3.SuperPacks", spec := "superPacks", inPlace := ["internal/bytealg.MakeNoZero"], apart := false }
def SuperPacksSaid : Prop := superPacksRow.holds Try.pinned (OpenSpec.ofChange superPacksSpec)

/-- ITS FALSE NEIGHBOUR: 'it returns false'. Refute it at one input. -/
def superPacksWrong : ChangeSpec := { name := "superPacks", fn := fun _ => fun
  | [d1, d2] => { results := [.lit (.bool false)], args := [d1, d2] }
  | _ => none }
def SuperPacksWrongFalsely : Prop := superPacksRow.holds Try.pinned (OpenSpec.ofChange superPacksWrong)

/-- 'winnowerlaw3.SuperOpens': WHATEVER THE INPUT: true; the input reads as it did. -/
def superOpensSpec : ChangeSpec := { name := "superOpens", fn := fun _ => fun
  | [d1, d2, d3, d4, d5, d6] => { results := [.lit (.bool true)], args := [d1, d2, d3, d4, d5, d6] }
  | _ => none }
def superOpensRow : OpenClaim := { program := "ythbdlfkdemjpoaa", sum := "72b347b82b482a6211a351aff327bbeb0943c9e4c50ecbcc9258459db996737e", func := "winnower/winnowerlaw3.SuperOpens", spec := "superOpens", inPlace := ["internal/bytealg.MakeNoZero"], apart := false }
def SuperOpensSaid : Prop := superOpensRow.holds Try.pinned (OpenSpec.ofChange superOpensSpec)

/-- ITS FALSE NEIGHBOUR: 'it returns false'. Refute it at one input. -/
def superOpensWrong : ChangeSpec := { name := "superOpens", fn := fun _ => fun
  | [d1, d2, d3, d4, d5, d6] => { results := [.lit (.bool false)], args := [d1, d2, d3, d4, d5, d6] }
  | _ => none }
def SuperOpensWrongFalsely : Prop := superOpensRow.holds Try.pinned (OpenSpec.ofChange superOpensWrong)

/-- 'winnowerlaw3.SuperTurned': WHATEVER THE INPUT: true; the input reads as it did. -/
def superTurnedSpec : ChangeSpec := { name := "superTurned", fn := fun _ => fun
  | [d1, d2, d3, d4, d5] => { results := [.lit (.bool true)], args := [d1, d2, d3, d4, d5] }
  | _ => none }
def superTurnedRow : OpenClaim := { program := "ythbdlfkdemjpoaa", sum := "72b347b82b482a6211a351aff327bbeb0943c9e4c50ecbcc9258459db996737e", func := "winnower/winnowerlaw3.SuperTurned", spec := "superTurned", inPlace := ["internal/bytealg.MakeNoZero"], apart := false }
def SuperTurnedSaid : Prop := superTurnedRow.holds Try.pinned (OpenSpec.ofChange superTurnedSpec)

/-- ITS FALSE NEIGHBOUR: 'it returns false'. Refute it at one input. -/
def superTurnedWrong : ChangeSpec := { name := "superTurned", fn := fun _ => fun
  | [d1, d2, d3, d4, d5] => { results := [.lit (.bool false)], args := [d1, d2, d3, d4, d5] }
  | _ => none }
def SuperTurnedWrongFalsely : Prop := superTurnedRow.holds Try.pinned (OpenSpec.ofChange superTurnedWrong)

/-- 'winnowerlaw3.SuperOfNothing': WHATEVER THE INPUT: true; the input reads as it did. -/
def superOfNothingSpec : ChangeSpec := { name := "superOfNothing", fn := fun _ => fun
  | [d1, d2] => { results := [.lit (.bool true)], args := [d1, d2] }
  | _ => none }
def superOfNothingRow : OpenClaim := { program := "ythbdlfkdemjpoaa", sum := "72b347b82b482a6211a351aff327bbeb0943c9e4c50ecbcc9258459db996737e", func := "winnower/winnowerlaw3.SuperOfNothing", spec := "superOfNothing", inPlace := ["internal/bytealg.MakeNoZero"], apart := false }
def SuperOfNothingSaid : Prop := superOfNothingRow.holds Try.pinned (OpenSpec.ofChange superOfNothingSpec)

/-- ITS FALSE NEIGHBOUR: 'it returns false'. Refute it at one input. -/
def superOfNothingWrong : ChangeSpec := { name := "superOfNothing", fn := fun _ => fun
  | [d1, d2] => { results := [.lit (.bool false)], args := [d1, d2] }
  | _ => none }
def SuperOfNothingWrongFalsely : Prop := superOfNothingRow.holds Try.pinned (OpenSpec.ofChange superOfNothingWrong)

/-- 'winnowerlaw3.SuperMany': WHATEVER THE INPUT: true; the input reads as it did. -/
def superManySpec : ChangeSpec := { name := "superMany", fn := fun _ => fun
  | [d] => { results := [.lit (.bool true)], args := [d] }
  | _ => none }
def superManyRow : OpenClaim := { program := "ythbdlfkdemjpoaa", sum := "72b347b82b482a6211a351aff327bbeb0943c9e4c50ecbcc9258459db996737e", func := "winnower/winnowerlaw3.SuperMany", spec := "superMany", inPlace := ["internal/bytealg.MakeNoZero"], apart := false }
def SuperManySaid : Prop := superManyRow.holds Try.pinned (OpenSpec.ofChange superManySpec)

/-- ITS FALSE NEIGHBOUR: 'it returns false'. Refute it at one input. -/
def superManyWrong : ChangeSpec := { name := "superMany", fn := fun _ => fun
  | [d] => { results := [.lit (.bool false)], args := [d] }
  | _ => none }
def SuperManyWrongFalsely : Prop := superManyRow.holds Try.pinned (OpenSpec.ofChange superManyWrong)

/-- 'winnowerlaw2.SectorReads': WHATEVER THE INPUT: true; the input reads as it did. -/
def sectorReadsSpec : ChangeSpec := { name := "sectorReads", fn := fun _ => fun
  | [d1, d2, d3] => { results := [.lit (.bool true)], args := [d1, d2, d3] }
  | _ => none }
def sectorReadsRow : OpenClaim := { program := "ythbdlfkdemjpoaa", sum := "72b347b82b482a6211a351aff327bbeb0943c9e4c50ecbcc9258459db996737e", func := "winnower/winnowerlaw2.SectorReads", spec := "sectorReads", unfollowed := true, recurses := true, apart := false }
def SectorReadsSaid : Prop := sectorReadsRow.holds Try.pinned (OpenSpec.ofChange sectorReadsSpec)

/-- ITS FALSE NEIGHBOUR: 'it returns false'. Refute it at one input. -/
def sectorReadsWrong : ChangeSpec := { name := "sectorReads", fn := fun _ => fun
  | [d1, d2, d3] => { results := [.lit (.bool false)], args := [d1, d2, d3] }
  | _ => none }
def SectorReadsWrongFalsely : Prop := sectorReadsRow.holds Try.pinned (OpenSpec.ofChange sectorReadsWrong)

/-- 'winnowerlaw2.SectorVersions': WHATEVER THE INPUT: true; the input reads as it did. -/
def sectorVersionsSpec : ChangeSpec := { name := "sectorVersions", fn := fun _ => fun
  | [d1, d2] => { results := [.lit (.bool true)], args := [d1, d2] }
  | _ => none }
def sectorVersionsRow : OpenClaim := { program := "ythbdlfkdemjpoaa", sum := "72b347b82b482a6211a351aff327bbeb0943c9e4c50ecbcc9258459db996737e", func := "winnower/winnowerlaw2.SectorVersions", spec := "sectorVersions", unfollowed := true, recurses := true, apart := false }
def SectorVersionsSaid : Prop := sectorVersionsRow.holds Try.pinned (OpenSpec.ofChange sectorVersionsSpec)

/-- ITS FALSE NEIGHBOUR: 'it returns false'. Refute it at one input. -/
def sectorVersionsWrong : ChangeSpec := { name := "sectorVersions", fn := fun _ => fun
  | [d1, d2] => { results := [.lit (.bool false)], args := [d1, d2] }
  | _ => none }
def SectorVersionsWrongFalsely : Prop := sectorVersionsRow.holds Try.pinned (OpenSpec.ofChange sectorVersionsWrong)

/-- 'winnowerlaw2.SectorPlays': WHATEVER THE INPUT: true; the input reads as it did. -/
def sectorPlaysSpec : ChangeSpec := { name := "sectorPlays", fn := fun _ => fun
  | [d1, d2] => { results := [.lit (.bool true)], args := [d1, d2] }
  | _ => none }
def sectorPlaysRow : OpenClaim := { program := "ythbdlfkdemjpoaa", sum := "72b347b82b482a6211a351aff327bbeb0943c9e4c50ecbcc9258459db996737e", func := "winnower/winnowerlaw2.SectorPlays", spec := "sectorPlays", unfollowed := true, recurses := true, apart := false }
def SectorPlaysSaid : Prop := sectorPlaysRow.holds Try.pinned (OpenSpec.ofChange sectorPlaysSpec)

/-- ITS FALSE NEIGHBOUR: 'it returns false'. Refute it at one input. -/
def sectorPlaysWrong : ChangeSpec := { name := "sectorPlays", fn := fun _ => fun
  | [d1, d2] => { results := [.lit (.bool false)], args := [d1, d2] }
  | _ => none }
def SectorPlaysWrongFalsely : Prop := sectorPlaysRow.holds Try.pinned (OpenSpec.ofChange sectorPlaysWrong)

/-- 'winnowerlaw2.SectorCrash': WHATEVER THE INPUT: true; the input reads as it did. -/
def sectorCrashSpec : ChangeSpec := { name := "sectorCrash", fn := fun _ => fun
  | [d1, d2] => { results := [.lit (.bool true)], args := [d1, d2] }
  | _ => none }
def sectorCrashRow : OpenClaim := { program := "ythbdlfkdemjpoaa", sum := "72b347b82b482a6211a351aff327bbeb0943c9e4c50ecbcc9258459db996737e", func := "winnower/winnowerlaw2.SectorCrash", spec := "sectorCrash", unfollowed := true, recurses := true, apart := false }
def SectorCrashSaid : Prop := sectorCrashRow.holds Try.pinned (OpenSpec.ofChange sectorCrashSpec)

/-- ITS FALSE NEIGHBOUR: 'it returns false'. Refute it at one input. -/
def sectorCrashWrong : ChangeSpec := { name := "sectorCrash", fn := fun _ => fun
  | [d1, d2] => { results := [.lit (.bool false)], args := [d1, d2] }
  | _ => none }
def SectorCrashWrongFalsely : Prop := sectorCrashRow.holds Try.pinned (OpenSpec.ofChange sectorCrashWrong)

/-- 'winnowerlaw2.SectorFuse': WHATEVER THE INPUT: true; the input reads as it did. -/
def sectorFuseSpec : ChangeSpec := { name := "sectorFuse", fn := fun _ => fun
  | [d1, d2] => { results := [.lit (.bool true)], args := [d1, d2] }
  | _ => none }
def sectorFuseRow : OpenClaim := { program := "ythbdlfkdemjpoaa", sum := "72b347b82b482a6211a351aff327bbeb0943c9e4c50ecbcc9258459db996737e", func := "winnower/winnowerlaw2.SectorFuse", spec := "sectorFuse", unfollowed := true, recurses := true, apart := false }
def SectorFuseSaid : Prop := sectorFuseRow.holds Try.pinned (OpenSpec.ofChange sectorFuseSpec)

/-- ITS FALSE NEIGHBOUR: 'it returns false'. Refute it at one input. -/
def sectorFuseWrong : ChangeSpec := { name := "sectorFuse", fn := fun _ => fun
  | [d1, d2] => { results := [.lit (.bool false)], args := [d1, d2] }
  | _ => none }
def SectorFuseWrongFalsely : Prop := sectorFuseRow.holds Try.pinned (OpenSpec.ofChange sectorFuseWrong)

/-- 'winnowerlaw2.SectorFlush': WHATEVER THE INPUT: true; the input reads as it did. -/
def sectorFlushSpec : ChangeSpec := { name := "sectorFlush", fn := fun _ => fun
  | [d1, d2] => { results := [.lit (.bool true)], args := [d1, d2] }
  | _ => none }
def sectorFlushRow : OpenClaim := { program := "ythbdlfkdemjpoaa", sum := "72b347b82b482a6211a351aff327bbeb0943c9e4c50ecbcc9258459db996737e", func := "winnower/winnowerlaw2.SectorFlush", spec := "sectorFlush", unfollowed := true, recurses := true, apart := false }
def SectorFlushSaid : Prop := sectorFlushRow.holds Try.pinned (OpenSpec.ofChange sectorFlushSpec)

/-- ITS FALSE NEIGHBOUR: 'it returns false'. Refute it at one input. -/
def sectorFlushWrong : ChangeSpec := { name := "sectorFlush", fn := fun _ => fun
  | [d1, d2] => { results := [.lit (.bool false)], args := [d1, d2] }
  | _ => none }
def SectorFlushWrongFalsely : Prop := sectorFlushRow.holds Try.pinned (OpenSpec.ofChange sectorFlushWrong)

/-- 'winnowerlaw2.SectorOfNothing': WHATEVER THE INPUT: true; the input reads as it did. -/
def sectorOfNothingSpec : ChangeSpec := { name := "sectorOfNothing", fn := fun _ => fun
  | [d] => { results := [.lit (.bool true)], args := [d] }
  | _ => none }
def sectorOfNothingRow : OpenClaim := { program := "ythbdlfkdemjpoaa", sum := "72b347b82b482a6211a351aff327bbeb0943c9e4c50ecbcc9258459db996737e", func := "winnower/winnowerlaw2.SectorOfNothing", spec := "sectorOfNothing", unfollowed := true, recurses := true, apart := false }
def SectorOfNothingSaid : Prop := sectorOfNothingRow.holds Try.pinned (OpenSpec.ofChange sectorOfNothingSpec)

/-- ITS FALSE NEIGHBOUR: 'it returns false'. Refute it at one input. -/
def sectorOfNothingWrong : ChangeSpec := { name := "sectorOfNothing", fn := fun _ => fun
  | [d] => { results := [.lit (.bool false)], args := [d] }
  | _ => none }
def SectorOfNothingWrongFalsely : Prop := sectorOfNothingRow.holds Try.pinned (OpenSpec.ofChange sectorOfNothingWrong)

/-- 'winnowerlaw3.SuperLasts': WHATEVER THE INPUT: true; the input reads as it did. -/
def superLastsSpec : ChangeSpec := { name := "superLasts", fn := fun _ => fun
  | [d1, d2] => { results := [.lit (.bool true)], args := [d1, d2] }
  | _ => none }
def superLastsRow : OpenClaim := { program := "ythbdlfkdemjpoaa", sum := "72b347b82b482a6211a351aff327bbeb0943c9e4c50ecbcc9258459db996737e", func := "winnower/winnowerlaw3.SuperLasts", spec := "superLasts", inPlace := ["internal/bytealg.MakeNoZero"], unfollowed := true, recurses := true, apart := false }
def SuperLastsSaid : Prop := superLastsRow.holds Try.pinned (OpenSpec.ofChange superLastsSpec)

/-- ITS FALSE NEIGHBOUR: 'it returns false'. Refute it at one input. -/
def superLastsWrong : ChangeSpec := { name := "superLasts", fn := fun _ => fun
  | [d1, d2] => { results := [.lit (.bool false)], args := [d1, d2] }
  | _ => none }
def SuperLastsWrongFalsely : Prop := superLastsRow.holds Try.pinned (OpenSpec.ofChange superLastsWrong)

/-- 'winnowerlaw3.SuperRises': WHATEVER THE INPUT: true; the input reads as it did. -/
def superRisesSpec : ChangeSpec := { name := "superRises", fn := fun _ => fun
  | [d] => { results := [.lit (.bool true)], args := [d] }
  | _ => none }
def superRisesRow : OpenClaim := { program := "ythbdlfkdemjpoaa", sum := "72b347b82b482a6211a351aff327bbeb0943c9e4c50ecbcc9258459db996737e", func := "winnower/winnowerlaw3.SuperRises", spec := "superRises", inPlace := ["internal/bytealg.MakeNoZero"], unfollowed := true, recurses := true, apart := false }
def SuperRisesSaid : Prop := superRisesRow.holds Try.pinned (OpenSpec.ofChange superRisesSpec)

/-- ITS FALSE NEIGHBOUR: 'it returns false'. Refute it at one input. -/
def superRisesWrong : ChangeSpec := { name := "superRises", fn := fun _ => fun
  | [d] => { results := [.lit (.bool false)], args := [d] }
  | _ => none }
def SuperRisesWrongFalsely : Prop := superRisesRow.holds Try.pinned (OpenSpec.ofChange superRisesWrong)

/-- 'winnowerlaw3.SuperPlays': WHATEVER THE INPUT: true; the input reads as it did. -/
def superPlaysSpec : ChangeSpec := { name := "superPlays", fn := fun _ => fun
  | [d1, d2] => { results := [.lit (.bool true)], args := [d1, d2] }
  | _ => none }
def superPlaysRow : OpenClaim := { program := "ythbdlfkdemjpoaa", sum := "72b347b82b482a6211a351aff327bbeb0943c9e4c50ecbcc9258459db996737e", func := "winnower/winnowerlaw3.SuperPlays", spec := "superPlays", inPlace := ["internal/bytealg.MakeNoZero"], unfollowed := true, recurses := true, apart := false }
def SuperPlaysSaid : Prop := superPlaysRow.holds Try.pinned (OpenSpec.ofChange superPlaysSpec)

/-- ITS FALSE NEIGHBOUR: 'it returns false'. Refute it at one input. -/
def superPlaysWrong : ChangeSpec := { name := "superPlays", fn := fun _ => fun
  | [d1, d2] => { results := [.lit (.bool false)], args := [d1, d2] }
  | _ => none }
def SuperPlaysWrongFalsely : Prop := superPlaysRow.holds Try.pinned (OpenSpec.ofChange superPlaysWrong)

/- THE SECOND FORM. 'bulk': how many values and letters a reading holds, each counted each time it is reached (what is shared counts as often as it is met; a slice's spare places count too). A statement '..UptoSaid' is the law's where the arguments, and the package variables that the reading takes, are together of bulk at most 1048576: NARROWER than '..Said'. Prove '..Said' where nothing that the law and all that it calls make is longer than what came in: it says more and counts as full. Else prove '..UptoSaid'. A law counts once. -/
mutual
def uptoBulk {H : Type} : DataW H → Nat
  | .lit (.string bytes) => bytes.length + 1
  | .lit _ => 1
  | .nil => 1
  | .ptr d => uptoBulk d + 1
  | .slice elems spare => uptoBulkAll elems + uptoBulkAll spare + 1
  | .agg parts => uptoBulkAll parts + 1
  | .iface _ d => uptoBulk d + 1
  | .map entries => uptoBulkEntries entries + 1
  | .held _ => 1
def uptoBulkAll {H : Type} : List (DataW H) → Nat
  | [] => 0
  | d :: r => uptoBulk d + uptoBulkAll r
def uptoBulkEntries {H : Type} : List (Lit × DataW H) → Nat
  | [] => 0
  | x :: r => uptoBulkEntry x + uptoBulkEntries r
def uptoBulkEntry {H : Type} : Lit × DataW H → Nat
  | (.string bytes, d) => bytes.length + uptoBulk d + 1
  | (_, d) => uptoBulk d + 1
 end
def uptoSmall : (H : Type) → List (DataW H) → Bool := fun _ ds => decide (uptoBulkAll ds ≤ 1048576)
def OpenSpec.upto (s : _root_.Go.ChangeSpec) : _root_.Go.OpenSpec := { _root_.Go.OpenSpec.ofChange s with cond := some uptoSmall }

/-- 'winnowerlaw3.SuperPacks', WHERE WHAT IT READS IS OF BULK AT MOST 1048576: true; the input reads as it did. -/
def superPacksUptoRow : OpenClaim := { program := "ythbdlfkdemjpoaa", sum := "72b347b82b482a6211a351aff327bbeb0943c9e4c50ecbcc9258459db996737e", func := "winnower/winnowerlaw3.SuperPacks", spec := "superPacks", inPlace := ["internal/bytealg.MakeNoZero"], apart := false, narrowed := true }
def SuperPacksUptoSaid : Prop := superPacksUptoRow.holds Try.pinned (OpenSpec.upto superPacksSpec)

/-- 'winnowerlaw3.SuperOpens', WHERE WHAT IT READS IS OF BULK AT MOST 1048576: true; the input reads as it did. -/
def superOpensUptoRow : OpenClaim := { program := "ythbdlfkdemjpoaa", sum := "72b347b82b482a6211a351aff327bbeb0943c9e4c50ecbcc9258459db996737e", func := "winnower/winnowerlaw3.SuperOpens", spec := "superOpens", inPlace := ["internal/bytealg.MakeNoZero"], apart := false, narrowed := true }
def SuperOpensUptoSaid : Prop := superOpensUptoRow.holds Try.pinned (OpenSpec.upto superOpensSpec)

/-- 'winnowerlaw3.SuperTurned', WHERE WHAT IT READS IS OF BULK AT MOST 1048576: true; the input reads as it did. -/
def superTurnedUptoRow : OpenClaim := { program := "ythbdlfkdemjpoaa", sum := "72b347b82b482a6211a351aff327bbeb0943c9e4c50ecbcc9258459db996737e", func := "winnower/winnowerlaw3.SuperTurned", spec := "superTurned", inPlace := ["internal/bytealg.MakeNoZero"], apart := false, narrowed := true }
def SuperTurnedUptoSaid : Prop := superTurnedUptoRow.holds Try.pinned (OpenSpec.upto superTurnedSpec)

/-- 'winnowerlaw3.SuperOfNothing', WHERE WHAT IT READS IS OF BULK AT MOST 1048576: true; the input reads as it did. -/
def superOfNothingUptoRow : OpenClaim := { program := "ythbdlfkdemjpoaa", sum := "72b347b82b482a6211a351aff327bbeb0943c9e4c50ecbcc9258459db996737e", func := "winnower/winnowerlaw3.SuperOfNothing", spec := "superOfNothing", inPlace := ["internal/bytealg.MakeNoZero"], apart := false, narrowed := true }
def SuperOfNothingUptoSaid : Prop := superOfNothingUptoRow.holds Try.pinned (OpenSpec.upto superOfNothingSpec)

/-- 'winnowerlaw3.SuperMany', WHERE WHAT IT READS IS OF BULK AT MOST 1048576: true; the input reads as it did. -/
def superManyUptoRow : OpenClaim := { program := "ythbdlfkdemjpoaa", sum := "72b347b82b482a6211a351aff327bbeb0943c9e4c50ecbcc9258459db996737e", func := "winnower/winnowerlaw3.SuperMany", spec := "superMany", inPlace := ["internal/bytealg.MakeNoZero"], apart := false, narrowed := true }
def SuperManyUptoSaid : Prop := superManyUptoRow.holds Try.pinned (OpenSpec.upto superManySpec)

/-- 'winnowerlaw2.SectorReads', WHERE WHAT IT READS IS OF BULK AT MOST 1048576: true; the input reads as it did. -/
def sectorReadsUptoRow : OpenClaim := { program := "ythbdlfkdemjpoaa", sum := "72b347b82b482a6211a351aff327bbeb0943c9e4c50ecbcc9258459db996737e", func := "winnower/winnowerlaw2.SectorReads", spec := "sectorReads", unfollowed := true, recurses := true, apart := false, narrowed := true }
def SectorReadsUptoSaid : Prop := sectorReadsUptoRow.holds Try.pinned (OpenSpec.upto sectorReadsSpec)

/-- 'winnowerlaw2.SectorVersions', WHERE WHAT IT READS IS OF BULK AT MOST 1048576: true; the input reads as it did. -/
def sectorVersionsUptoRow : OpenClaim := { program := "ythbdlfkdemjpoaa", sum := "72b347b82b482a6211a351aff327bbeb0943c9e4c50ecbcc9258459db996737e", func := "winnower/winnowerlaw2.SectorVersions", spec := "sectorVersions", unfollowed := true, recurses := true, apart := false, narrowed := true }
def SectorVersionsUptoSaid : Prop := sectorVersionsUptoRow.holds Try.pinned (OpenSpec.upto sectorVersionsSpec)

/-- 'winnowerlaw2.SectorPlays', WHERE WHAT IT READS IS OF BULK AT MOST 1048576: true; the input reads as it did. -/
def sectorPlaysUptoRow : OpenClaim := { program := "ythbdlfkdemjpoaa", sum := "72b347b82b482a6211a351aff327bbeb0943c9e4c50ecbcc9258459db996737e", func := "winnower/winnowerlaw2.SectorPlays", spec := "sectorPlays", unfollowed := true, recurses := true, apart := false, narrowed := true }
def SectorPlaysUptoSaid : Prop := sectorPlaysUptoRow.holds Try.pinned (OpenSpec.upto sectorPlaysSpec)

/-- 'winnowerlaw2.SectorCrash', WHERE WHAT IT READS IS OF BULK AT MOST 1048576: true; the input reads as it did. -/
def sectorCrashUptoRow : OpenClaim := { program := "ythbdlfkdemjpoaa", sum := "72b347b82b482a6211a351aff327bbeb0943c9e4c50ecbcc9258459db996737e", func := "winnower/winnowerlaw2.SectorCrash", spec := "sectorCrash", unfollowed := true, recurses := true, apart := false, narrowed := true }
def SectorCrashUptoSaid : Prop := sectorCrashUptoRow.holds Try.pinned (OpenSpec.upto sectorCrashSpec)

/-- 'winnowerlaw2.SectorFuse', WHERE WHAT IT READS IS OF BULK AT MOST 1048576: true; the input reads as it did. -/
def sectorFuseUptoRow : OpenClaim := { program := "ythbdlfkdemjpoaa", sum := "72b347b82b482a6211a351aff327bbeb0943c9e4c50ecbcc9258459db996737e", func := "winnower/winnowerlaw2.SectorFuse", spec := "sectorFuse", unfollowed := true, recurses := true, apart := false, narrowed := true }
def SectorFuseUptoSaid : Prop := sectorFuseUptoRow.holds Try.pinned (OpenSpec.upto sectorFuseSpec)

/-- 'winnowerlaw2.SectorFlush', WHERE WHAT IT READS IS OF BULK AT MOST 1048576: true; the input reads as it did. -/
def sectorFlushUptoRow : OpenClaim := { program := "ythbdlfkdemjpoaa", sum := "72b347b82b482a6211a351aff327bbeb0943c9e4c50ecbcc9258459db996737e", func := "winnower/winnowerlaw2.SectorFlush", spec := "sectorFlush", unfollowed := true, recurses := true, apart := false, narrowed := true }
def SectorFlushUptoSaid : Prop := sectorFlushUptoRow.holds Try.pinned (OpenSpec.upto sectorFlushSpec)

/-- 'winnowerlaw2.SectorOfNothing', WHERE WHAT IT READS IS OF BULK AT MOST 1048576: true; the input reads as it did. -/
def sectorOfNothingUptoRow : OpenClaim := { program := "ythbdlfkdemjpoaa", sum := "72b347b82b482a6211a351aff327bbeb0943c9e4c50ecbcc9258459db996737e", func := "winnower/winnowerlaw2.SectorOfNothing", spec := "sectorOfNothing", unfollowed := true, recurses := true, apart := false, narrowed := true }
def SectorOfNothingUptoSaid : Prop := sectorOfNothingUptoRow.holds Try.pinned (OpenSpec.upto sectorOfNothingSpec)

/-- 'winnowerlaw3.SuperLasts', WHERE WHAT IT READS IS OF BULK AT MOST 1048576: true; the input reads as it did. -/
def superLastsUptoRow : OpenClaim := { program := "ythbdlfkdemjpoaa", sum := "72b347b82b482a6211a351aff327bbeb0943c9e4c50ecbcc9258459db996737e", func := "winnower/winnowerlaw3.SuperLasts", spec := "superLasts", inPlace := ["internal/bytealg.MakeNoZero"], unfollowed := true, recurses := true, apart := false, narrowed := true }
def SuperLastsUptoSaid : Prop := superLastsUptoRow.holds Try.pinned (OpenSpec.upto superLastsSpec)

/-- 'winnowerlaw3.SuperRises', WHERE WHAT IT READS IS OF BULK AT MOST 1048576: true; the input reads as it did. -/
def superRisesUptoRow : OpenClaim := { program := "ythbdlfkdemjpoaa", sum := "72b347b82b482a6211a351aff327bbeb0943c9e4c50ecbcc9258459db996737e", func := "winnower/winnowerlaw3.SuperRises", spec := "superRises", inPlace := ["internal/bytealg.MakeNoZero"], unfollowed := true, recurses := true, apart := false, narrowed := true }
def SuperRisesUptoSaid : Prop := superRisesUptoRow.holds Try.pinned (OpenSpec.upto superRisesSpec)

/-- 'winnowerlaw3.SuperPlays', WHERE WHAT IT READS IS OF BULK AT MOST 1048576: true; the input reads as it did. -/
def superPlaysUptoRow : OpenClaim := { program := "ythbdlfkdemjpoaa", sum := "72b347b82b482a6211a351aff327bbeb0943c9e4c50ecbcc9258459db996737e", func := "winnower/winnowerlaw3.SuperPlays", spec := "superPlays", inPlace := ["internal/bytealg.MakeNoZero"], unfollowed := true, recurses := true, apart := false, narrowed := true }
def SuperPlaysUptoSaid : Prop := superPlaysUptoRow.holds Try.pinned (OpenSpec.upto superPlaysSpec)

end Rows
end Go.Proofs.Ythbdlfkdemjpoaa
