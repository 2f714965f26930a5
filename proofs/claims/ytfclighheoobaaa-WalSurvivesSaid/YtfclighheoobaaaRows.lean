/-
  No cell of these rows narrows 'for every input' (looked for: loops, veiled, ifaces, maps, wideKeys, modest, calm, conditions, laid).
  DERIVED. THE GIVEN ROWS OF THIS SEAT. 13 by the template 'for every input the law returns true; each argument reads behind the call as it read before'; 0 by the template 'total and deterministic' (their statements: YtfclighheoobaaaTotals.lean).
  GIVEN WITH THE SEED: the statements are not yours to turn. If you find one false, say at which input.
  Laid BY PROGRAM, IN A SANDBOX (cutbox-rows.mjs): the forced cells as the released guide's own fill.sh prints them over the translation 0041e0240ea2413a… (all of the seat's roots in one cut). By AI agents, Wed Nov 11 2026. No macro, syntax, notation, axiom, sorry.
-/
import Derived.Test.YtfclighheoobaaaChecked
import GoSem.Claim
import GoSem.ClaimJoined
import GoSem.ClaimMapViews
import Derived.JoinedTies
import Derived.KernelRfl
namespace Go.Proofs.Ytfclighheoobaaa
/- THE CELL 'sum', in the pinned program and in every row, IS THE sha256 OF THE DUMP (.gsa) THAT YtfclighheoobaaaProg.lean LOADS. Nothing in Lean hashes anything: it is a label: what it is worth is what the hold of that sum in a sandbox is worth. -/
noncomputable def Try.pinned : Pinned := { name := "ytfclighheoobaaa", sum := "0041e0240ea2413a17184fd2a7962ed60ac906c3a506f93e8318f47617ccfc45", checked := Try.checked }
namespace Rows
def none {H : Type} : Left H := { results := [], args := [] }

/-- 'strongroomlaw22.DiskRounds': WHATEVER THE INPUT: true; the input reads as it did. -/
def diskRoundsSpec : ChangeSpec := { name := "diskRounds", fn := fun _ => fun
  | [d1, d2] => { results := [.lit (.bool true)], args := [d1, d2] }
  | _ => none }
def diskRoundsRow : OpenClaim := { program := "ytfclighheoobaaa", sum := "0041e0240ea2413a17184fd2a7962ed60ac906c3a506f93e8318f47617ccfc45", func := "strongroom/strongroomlaw22.DiskRounds", spec := "diskRounds", apart := false }
def DiskRoundsSaid : Prop := diskRoundsRow.holds Try.pinned (OpenSpec.ofChange diskRoundsSpec)

/-- ITS FALSE NEIGHBOUR: 'it returns false'. Refute it at one input. -/
def diskRoundsWrong : ChangeSpec := { name := "diskRounds", fn := fun _ => fun
  | [d1, d2] => { results := [.lit (.bool false)], args := [d1, d2] }
  | _ => none }
def DiskRoundsWrongFalsely : Prop := diskRoundsRow.holds Try.pinned (OpenSpec.ofChange diskRoundsWrong)

/-- 'strongroomlaw22.DiskHalves': WHATEVER THE INPUT: true; the input reads as it did. -/
def diskHalvesSpec : ChangeSpec := { name := "diskHalves", fn := fun _ => fun
  | [d1, d2, d3] => { results := [.lit (.bool true)], args := [d1, d2, d3] }
  | _ => none }
def diskHalvesRow : OpenClaim := { program := "ytfclighheoobaaa", sum := "0041e0240ea2413a17184fd2a7962ed60ac906c3a506f93e8318f47617ccfc45", func := "strongroom/strongroomlaw22.DiskHalves", spec := "diskHalves", apart := false }
def DiskHalvesSaid : Prop := diskHalvesRow.holds Try.pinned (OpenSpec.ofChange diskHalvesSpec)

/-- ITS FALSE NEIGHBOUR: 'it returns false'. Refute it at one input. -/
def diskHalvesWrong : ChangeSpec := { name := "diskHalves", fn := fun _ => fun
  | [d1, d2, d3] => { results := [.lit (.bool false)], args := [d1, d2, d3] }
  | _ => none }
def DiskHalvesWrongFalsely : Prop := diskHalvesRow.holds Try.pinned (OpenSpec.ofChange diskHalvesWrong)

/-- 'strongroomlaw22.DiskNumbers': WHATEVER THE INPUT: true; the input reads as it did. -/
def diskNumbersSpec : ChangeSpec := { name := "diskNumbers", fn := fun _ => fun
  | [] => { results := [.lit (.bool true)], args := [] }
  | _ => none }
def diskNumbersRow : OpenClaim := { program := "ytfclighheoobaaa", sum := "0041e0240ea2413a17184fd2a7962ed60ac906c3a506f93e8318f47617ccfc45", func := "strongroom/strongroomlaw22.DiskNumbers", spec := "diskNumbers", apart := false }
def DiskNumbersSaid : Prop := diskNumbersRow.holds Try.pinned (OpenSpec.ofChange diskNumbersSpec)

/-- ITS FALSE NEIGHBOUR: 'it returns false'. Refute it at one input. -/
def diskNumbersWrong : ChangeSpec := { name := "diskNumbers", fn := fun _ => fun
  | [] => { results := [.lit (.bool false)], args := [] }
  | _ => none }
def DiskNumbersWrongFalsely : Prop := diskNumbersRow.holds Try.pinned (OpenSpec.ofChange diskNumbersWrong)

/-- 'strongroomlaw22.DiskPlays': WHATEVER THE INPUT: true; the input reads as it did. -/
def diskPlaysSpec : ChangeSpec := { name := "diskPlays", fn := fun _ => fun
  | [d] => { results := [.lit (.bool true)], args := [d] }
  | _ => none }
def diskPlaysRow : OpenClaim := { program := "ytfclighheoobaaa", sum := "0041e0240ea2413a17184fd2a7962ed60ac906c3a506f93e8318f47617ccfc45", func := "strongroom/strongroomlaw22.DiskPlays", spec := "diskPlays", apart := false }
def DiskPlaysSaid : Prop := diskPlaysRow.holds Try.pinned (OpenSpec.ofChange diskPlaysSpec)

/-- ITS FALSE NEIGHBOUR: 'it returns false'. Refute it at one input. -/
def diskPlaysWrong : ChangeSpec := { name := "diskPlays", fn := fun _ => fun
  | [d] => { results := [.lit (.bool false)], args := [d] }
  | _ => none }
def DiskPlaysWrongFalsely : Prop := diskPlaysRow.holds Try.pinned (OpenSpec.ofChange diskPlaysWrong)

/-- 'strongroomlaw22.DiskSafe': WHATEVER THE INPUT: true; the input reads as it did. -/
def diskSafeSpec : ChangeSpec := { name := "diskSafe", fn := fun _ => fun
  | [d1, d2, d3, d4] => { results := [.lit (.bool true)], args := [d1, d2, d3, d4] }
  | _ => none }
def diskSafeRow : OpenClaim := { program := "ytfclighheoobaaa", sum := "0041e0240ea2413a17184fd2a7962ed60ac906c3a506f93e8318f47617ccfc45", func := "strongroom/strongroomlaw22.DiskSafe", spec := "diskSafe", apart := false }
def DiskSafeSaid : Prop := diskSafeRow.holds Try.pinned (OpenSpec.ofChange diskSafeSpec)

/-- ITS FALSE NEIGHBOUR: 'it returns false'. Refute it at one input. -/
def diskSafeWrong : ChangeSpec := { name := "diskSafe", fn := fun _ => fun
  | [d1, d2, d3, d4] => { results := [.lit (.bool false)], args := [d1, d2, d3, d4] }
  | _ => none }
def DiskSafeWrongFalsely : Prop := diskSafeRow.holds Try.pinned (OpenSpec.ofChange diskSafeWrong)

/-- 'strongroomlaw22.DiskKept': WHATEVER THE INPUT: true; the input reads as it did. -/
def diskKeptSpec : ChangeSpec := { name := "diskKept", fn := fun _ => fun
  | [d] => { results := [.lit (.bool true)], args := [d] }
  | _ => none }
def diskKeptRow : OpenClaim := { program := "ytfclighheoobaaa", sum := "0041e0240ea2413a17184fd2a7962ed60ac906c3a506f93e8318f47617ccfc45", func := "strongroom/strongroomlaw22.DiskKept", spec := "diskKept", apart := false }
def DiskKeptSaid : Prop := diskKeptRow.holds Try.pinned (OpenSpec.ofChange diskKeptSpec)

/-- ITS FALSE NEIGHBOUR: 'it returns false'. Refute it at one input. -/
def diskKeptWrong : ChangeSpec := { name := "diskKept", fn := fun _ => fun
  | [d] => { results := [.lit (.bool false)], args := [d] }
  | _ => none }
def DiskKeptWrongFalsely : Prop := diskKeptRow.holds Try.pinned (OpenSpec.ofChange diskKeptWrong)

/-- 'strongroomlaw23.WalNotes': WHATEVER THE INPUT: true; the input reads as it did. -/
def walNotesSpec : ChangeSpec := { name := "walNotes", fn := fun _ => fun
  | [d1, d2] => { results := [.lit (.bool true)], args := [d1, d2] }
  | _ => none }
def walNotesRow : OpenClaim := { program := "ytfclighheoobaaa", sum := "0041e0240ea2413a17184fd2a7962ed60ac906c3a506f93e8318f47617ccfc45", func := "strongroom/strongroomlaw23.WalNotes", spec := "walNotes", apart := false }
def WalNotesSaid : Prop := walNotesRow.holds Try.pinned (OpenSpec.ofChange walNotesSpec)

/-- ITS FALSE NEIGHBOUR: 'it returns false'. Refute it at one input. -/
def walNotesWrong : ChangeSpec := { name := "walNotes", fn := fun _ => fun
  | [d1, d2] => { results := [.lit (.bool false)], args := [d1, d2] }
  | _ => none }
def WalNotesWrongFalsely : Prop := walNotesRow.holds Try.pinned (OpenSpec.ofChange walNotesWrong)

/-- 'strongroomlaw23.WalGoes': WHATEVER THE INPUT: true; the input reads as it did. -/
def walGoesSpec : ChangeSpec := { name := "walGoes", fn := fun _ => fun
  | [d1, d2, d3] => { results := [.lit (.bool true)], args := [d1, d2, d3] }
  | _ => none }
def walGoesRow : OpenClaim := { program := "ytfclighheoobaaa", sum := "0041e0240ea2413a17184fd2a7962ed60ac906c3a506f93e8318f47617ccfc45", func := "strongroom/strongroomlaw23.WalGoes", spec := "walGoes", apart := false }
def WalGoesSaid : Prop := walGoesRow.holds Try.pinned (OpenSpec.ofChange walGoesSpec)

/-- ITS FALSE NEIGHBOUR: 'it returns false'. Refute it at one input. -/
def walGoesWrong : ChangeSpec := { name := "walGoes", fn := fun _ => fun
  | [d1, d2, d3] => { results := [.lit (.bool false)], args := [d1, d2, d3] }
  | _ => none }
def WalGoesWrongFalsely : Prop := walGoesRow.holds Try.pinned (OpenSpec.ofChange walGoesWrong)

/-- 'strongroomlaw23.WalNumbers': WHATEVER THE INPUT: true; the input reads as it did. -/
def walNumbersSpec : ChangeSpec := { name := "walNumbers", fn := fun _ => fun
  | [] => { results := [.lit (.bool true)], args := [] }
  | _ => none }
def walNumbersRow : OpenClaim := { program := "ytfclighheoobaaa", sum := "0041e0240ea2413a17184fd2a7962ed60ac906c3a506f93e8318f47617ccfc45", func := "strongroom/strongroomlaw23.WalNumbers", spec := "walNumbers", apart := false }
def WalNumbersSaid : Prop := walNumbersRow.holds Try.pinned (OpenSpec.ofChange walNumbersSpec)

/-- ITS FALSE NEIGHBOUR: 'it returns false'. Refute it at one input. -/
def walNumbersWrong : ChangeSpec := { name := "walNumbers", fn := fun _ => fun
  | [] => { results := [.lit (.bool false)], args := [] }
  | _ => none }
def WalNumbersWrongFalsely : Prop := walNumbersRow.holds Try.pinned (OpenSpec.ofChange walNumbersWrong)

/-- 'strongroomlaw23.WalSame': WHATEVER THE INPUT: true; the input reads as it did. -/
def walSameSpec : ChangeSpec := { name := "walSame", fn := fun _ => fun
  | [d1, d2, d3] => { results := [.lit (.bool true)], args := [d1, d2, d3] }
  | _ => none }
def walSameRow : OpenClaim := { program := "ytfclighheoobaaa", sum := "0041e0240ea2413a17184fd2a7962ed60ac906c3a506f93e8318f47617ccfc45", func := "strongroom/strongroomlaw23.WalSame", spec := "walSame", apart := false }
def WalSameSaid : Prop := walSameRow.holds Try.pinned (OpenSpec.ofChange walSameSpec)

/-- ITS FALSE NEIGHBOUR: 'it returns false'. Refute it at one input. -/
def walSameWrong : ChangeSpec := { name := "walSame", fn := fun _ => fun
  | [d1, d2, d3] => { results := [.lit (.bool false)], args := [d1, d2, d3] }
  | _ => none }
def WalSameWrongFalsely : Prop := walSameRow.holds Try.pinned (OpenSpec.ofChange walSameWrong)

/-- 'strongroomlaw23.WalSurvives': WHATEVER THE INPUT: true; the input reads as it did. -/
def walSurvivesSpec : ChangeSpec := { name := "walSurvives", fn := fun _ => fun
  | [d] => { results := [.lit (.bool true)], args := [d] }
  | _ => none }
def walSurvivesRow : OpenClaim := { program := "ytfclighheoobaaa", sum := "0041e0240ea2413a17184fd2a7962ed60ac906c3a506f93e8318f47617ccfc45", func := "strongroom/strongroomlaw23.WalSurvives", spec := "walSurvives", apart := false }
def WalSurvivesSaid : Prop := walSurvivesRow.holds Try.pinned (OpenSpec.ofChange walSurvivesSpec)

/-- ITS FALSE NEIGHBOUR: 'it returns false'. Refute it at one input. -/
def walSurvivesWrong : ChangeSpec := { name := "walSurvives", fn := fun _ => fun
  | [d] => { results := [.lit (.bool false)], args := [d] }
  | _ => none }
def WalSurvivesWrongFalsely : Prop := walSurvivesRow.holds Try.pinned (OpenSpec.ofChange walSurvivesWrong)

/-- 'strongroomlaw23.WalBases': WHATEVER THE INPUT: true; the input reads as it did. -/
def walBasesSpec : ChangeSpec := { name := "walBases", fn := fun _ => fun
  | [d1, d2, d3, d4] => { results := [.lit (.bool true)], args := [d1, d2, d3, d4] }
  | _ => none }
def walBasesRow : OpenClaim := { program := "ytfclighheoobaaa", sum := "0041e0240ea2413a17184fd2a7962ed60ac906c3a506f93e8318f47617ccfc45", func := "strongroom/strongroomlaw23.WalBases", spec := "walBases", apart := false }
def WalBasesSaid : Prop := walBasesRow.holds Try.pinned (OpenSpec.ofChange walBasesSpec)

/-- ITS FALSE NEIGHBOUR: 'it returns false'. Refute it at one input. -/
def walBasesWrong : ChangeSpec := { name := "walBases", fn := fun _ => fun
  | [d1, d2, d3, d4] => { results := [.lit (.bool false)], args := [d1, d2, d3, d4] }
  | _ => none }
def WalBasesWrongFalsely : Prop := walBasesRow.holds Try.pinned (OpenSpec.ofChange walBasesWrong)

/-- 'strongroomlaw23.WalPlays': WHATEVER THE INPUT: true; the input reads as it did. -/
def walPlaysSpec : ChangeSpec := { name := "walPlays", fn := fun _ => fun
  | [d] => { results := [.lit (.bool true)], args := [d] }
  | _ => none }
def walPlaysRow : OpenClaim := { program := "ytfclighheoobaaa", sum := "0041e0240ea2413a17184fd2a7962ed60ac906c3a506f93e8318f47617ccfc45", func := "strongroom/strongroomlaw23.WalPlays", spec := "walPlays", apart := false }
def WalPlaysSaid : Prop := walPlaysRow.holds Try.pinned (OpenSpec.ofChange walPlaysSpec)

/-- ITS FALSE NEIGHBOUR: 'it returns false'. Refute it at one input. -/
def walPlaysWrong : ChangeSpec := { name := "walPlays", fn := fun _ => fun
  | [d] => { results := [.lit (.bool false)], args := [d] }
  | _ => none }
def WalPlaysWrongFalsely : Prop := walPlaysRow.holds Try.pinned (OpenSpec.ofChange walPlaysWrong)

/- THE SECOND FORM. 'bulk': how many values and letters a reading holds, each counted each time it is reached (what is shared counts as often as it is met; a slice's spare places count too). A statement '..UptoSaid' is the law's where the arguments, and the package variables that the reading takes, are together of bulk at most 1048576: NARROWER than '..Said'. Prove '..Said' where nothing that the law and all that it calls make is longer than what came in: it says more and counts as full. Else prove '..UptoSaid'. A law counts once. -/
mutual
def uptoBulk {H : Type} : DataW H → Nat
  | .lit (.string bytes) => bytes.length + 1
  | .lit _ => 1
  | .nil => 1
  | .ptr d => uptoBulk d + 1
  | .slice elems spare => uptoBulkAll elems + uptoBulkAll spare + 1
  | .agg parts => uptoBulkAll parts + 1
  | .iface _ d => uptoBulk d + 1
  | .map entries => uptoBulkEntries entries + 1
  | .held _ => 1
def uptoBulkAll {H : Type} : List (DataW H) → Nat
  | [] => 0
  | d :: r => uptoBulk d + uptoBulkAll r
def uptoBulkEntries {H : Type} : List (Lit × DataW H) → Nat
  | [] => 0
  | x :: r => uptoBulkEntry x + uptoBulkEntries r
def uptoBulkEntry {H : Type} : Lit × DataW H → Nat
  | (.string bytes, d) => bytes.length + uptoBulk d + 1
  | (_, d) => uptoBulk d + 1
 end
def uptoSmall : (H : Type) → List (DataW H) → Bool := fun _ ds => decide (uptoBulkAll ds ≤ 1048576)
def OpenSpec.upto (s : _root_.Go.ChangeSpec) : _root_.Go.OpenSpec := { _root_.Go.OpenSpec.ofChange s with cond := some uptoSmall }

/-- 'strongroomlaw22.DiskRounds', WHERE WHAT IT READS IS OF BULK AT MOST 1048576: true; the input reads as it did. -/
def diskRoundsUptoRow : OpenClaim := { program := "ytfclighheoobaaa", sum := "0041e0240ea2413a17184fd2a7962ed60ac906c3a506f93e8318f47617ccfc45", func := "strongroom/strongroomlaw22.DiskRounds", spec := "diskRounds", apart := false, narrowed := true }
def DiskRoundsUptoSaid : Prop := diskRoundsUptoRow.holds Try.pinned (OpenSpec.upto diskRoundsSpec)

/-- 'strongroomlaw22.DiskHalves', WHERE WHAT IT READS IS OF BULK AT MOST 1048576: true; the input reads as it did. -/
def diskHalvesUptoRow : OpenClaim := { program := "ytfclighheoobaaa", sum := "0041e0240ea2413a17184fd2a7962ed60ac906c3a506f93e8318f47617ccfc45", func := "strongroom/strongroomlaw22.DiskHalves", spec := "diskHalves", apart := false, narrowed := true }
def DiskHalvesUptoSaid : Prop := diskHalvesUptoRow.holds Try.pinned (OpenSpec.upto diskHalvesSpec)

/-- 'strongroomlaw22.DiskNumbers', WHERE WHAT IT READS IS OF BULK AT MOST 1048576: true; the input reads as it did. -/
def diskNumbersUptoRow : OpenClaim := { program := "ytfclighheoobaaa", sum := "0041e0240ea2413a17184fd2a7962ed60ac906c3a506f93e8318f47617ccfc45", func := "strongroom/strongroomlaw22.DiskNumbers", spec := "diskNumbers", apart := false, narrowed := true }
def DiskNumbersUptoSaid : Prop := diskNumbersUptoRow.holds Try.pinned (OpenSpec.upto diskNumbersSpec)

/-- 'strongroomlaw22.DiskPlays', WHERE WHAT IT READS IS OF BULK AT MOST 1048576: true; the input reads as it did. -/
def diskPlaysUptoRow : OpenClaim := { program := "ytfclighheoobaaa", sum := "0041e0240ea2413a17184fd2a7962ed60ac906c3a506f93e8318f47617ccfc45", func := "strongroom/strongroomlaw22.DiskPlays", spec := "diskPlays", apart := false, narrowed := true }
def DiskPlaysUptoSaid : Prop := diskPlaysUptoRow.holds Try.pinned (OpenSpec.upto diskPlaysSpec)

/-- 'strongroomlaw22.DiskSafe', WHERE WHAT IT READS IS OF BULK AT MOST 1048576: true; the input reads as it did. -/
def diskSafeUptoRow : OpenClaim := { program := "ytfclighheoobaaa", sum := "0041e0240ea2413a17184fd2a7962ed60ac906c3a506f93e8318f47617ccfc45", func := "strongroom/strongroomlaw22.DiskSafe", spec := "diskSafe", apart := false, narrowed := true }
def DiskSafeUptoSaid : Prop := diskSafeUptoRow.holds Try.pinned (OpenSpec.upto diskSafeSpec)

/-- 'strongroomlaw22.DiskKept', WHERE WHAT IT READS IS OF BULK AT MOST 1048576: true; the input reads as it did. -/
def diskKeptUptoRow : OpenClaim := { program := "ytfclighheoobaaa", sum := "0041e0240ea2413a17184fd2a7962ed60ac906c3a506f93e8318f47617ccfc45", func := "strongroom/strongroomlaw22.DiskKept", spec := "diskKept", apart := false, narrowed := true }
def DiskKeptUptoSaid : Prop := diskKeptUptoRow.holds Try.pinned (OpenSpec.upto diskKeptSpec)

/-- 'strongroomlaw23.WalNotes', WHERE WHAT IT READS IS OF BULK AT MOST 1048576: true; the input reads as it did. -/
def walNotesUptoRow : OpenClaim := { program := "ytfclighheoobaaa", sum := "0041e0240ea2413a17184fd2a7962ed60ac906c3a506f93e8318f47617ccfc45", func := "strongroom/strongroomlaw23.WalNotes", spec := "walNotes", apart := false, narrowed := true }
def WalNotesUptoSaid : Prop := walNotesUptoRow.holds Try.pinned (OpenSpec.upto walNotesSpec)

/-- 'strongroomlaw23.WalGoes', WHERE WHAT IT READS IS OF BULK AT MOST 1048576: true; the input reads as it did. -/
def walGoesUptoRow : OpenClaim := { program := "ytfclighheoobaaa", sum := "0041e0240ea2413a17184fd2a7962ed60ac906c3a506f93e8318f47617ccfc45", func := "strongroom/strongroomlaw23.WalGoes", spec := "walGoes", apart := false, narrowed := true }
def WalGoesUptoSaid : Prop := walGoesUptoRow.holds Try.pinned (OpenSpec.upto walGoesSpec)

/-- 'strongroomlaw23.WalNumbers', WHERE WHAT IT READS IS OF BULK AT MOST 1048576: true; the input reads as it did. -/
def walNumbersUptoRow : OpenClaim := { program := "ytfclighheoobaaa", sum := "0041e0240ea2413a17184fd2a7962ed60ac906c3a506f93e8318f47617ccfc45", func := "strongroom/strongroomlaw23.WalNumbers", spec := "walNumbers", apart := false, narrowed := true }
def WalNumbersUptoSaid : Prop := walNumbersUptoRow.holds Try.pinned (OpenSpec.upto walNumbersSpec)

/-- 'strongroomlaw23.WalSame', WHERE WHAT IT READS IS OF BULK AT MOST 1048576: true; the input reads as it did. -/
def walSameUptoRow : OpenClaim := { program := "ytfclighheoobaaa", sum := "0041e0240ea2413a17184fd2a7962ed60ac906c3a506f93e8318f47617ccfc45", func := "strongroom/strongroomlaw23.WalSame", spec := "walSame", apart := false, narrowed := true }
def WalSameUptoSaid : Prop := walSameUptoRow.holds Try.pinned (OpenSpec.upto walSameSpec)

/-- 'strongroomlaw23.WalSurvives', WHERE WHAT IT READS IS OF BULK AT MOST 1048576: true; the input reads as it did. -/
def walSurvivesUptoRow : OpenClaim := { program := "ytfclighheoobaaa", sum := "0041e0240ea2413a17184fd2a7962ed60ac906c3a506f93e8318f47617ccfc45", func := "strongroom/strongroomlaw23.WalSurvives", spec := "walSurvives", apart := false, narrowed := true }
def WalSurvivesUptoSaid : Prop := walSurvivesUptoRow.holds Try.pinned (OpenSpec.upto walSurvivesSpec)

/-- 'strongroomlaw23.WalBases', WHERE WHAT IT READS IS OF BULK AT MOST 1048576: true; the input reads as it did. -/
def walBasesUptoRow : OpenClaim := { program := "ytfclighheoobaaa", sum := "0041e0240ea2413a17184fd2a7962ed60ac906c3a506f93e8318f47617ccfc45", func := "strongroom/strongroomlaw23.WalBases", spec := "walBases", apart := false, narrowed := true }
def WalBasesUptoSaid : Prop := walBasesUptoRow.holds Try.pinned (OpenSpec.upto walBasesSpec)

/-- 'strongroomlaw23.WalPlays', WHERE WHAT IT READS IS OF BULK AT MOST 1048576: true; the input reads as it did. -/
def walPlaysUptoRow : OpenClaim := { program := "ytfclighheoobaaa", sum := "0041e0240ea2413a17184fd2a7962ed60ac906c3a506f93e8318f47617ccfc45", func := "strongroom/strongroomlaw23.WalPlays", spec := "walPlays", apart := false, narrowed := true }
def WalPlaysUptoSaid : Prop := walPlaysUptoRow.holds Try.pinned (OpenSpec.upto walPlaysSpec)

end Rows
end Go.Proofs.Ytfclighheoobaaa
