/- The evaluator: what stands in for crc.Crc. -/
import Derived.Test.YtmohidgdmmkikaaGreatDoorEv24
namespace Go.Proofs.YtmohidgdmmkikaaGreatDoor
open Go.RowKit
namespace Ev

/-- One bit of the sum, worked out. -/
noncomputable def kBit {β : Type} (c : Nat) (k : Nat → β) : β := Bool.rec (motive := fun _ => β) (sNat (c / 2) k) (sNat (Nat.xor (c / 2) 3988292384) k) (Nat.beq (c % 2) 1)
noncomputable def kByte {β : Type} (c n : Nat) (k : Nat → β) : β := sNat (Nat.xor c n) fun c => kBit c fun c => kBit c fun c => kBit c fun c => kBit c fun c => kBit c fun c => kBit c fun c => kBit c fun c => kBit c k
noncomputable def kOne {β : Type} (no : β) (v : Value) (k : Nat → β) : β := match v with
  | .int .u8 (.ofNat n) => bif Nat.blt n 256 then k n else no
  | _ => no
noncomputable def kRow {β : Type} (no : β) (cs : List Value) : Nat → (Nat → β) → β := List.rec (motive := fun _ => Nat → (Nat → β) → β) (fun c k => k c) (fun v _ ih c k => kOne no v fun n => kByte c n fun c => ih c k) cs
noncomputable def kSum (A : AW) : Option (List Value) → Option (Value × AW)
  | some cs => kRow none cs 4294967295 fun c => sNat (Nat.xor 4294967295 c) fun c => some (.int .u32 (.ofNat c), A)
  | none => none
noncomputable def crcF : CallF := fun _ args A => match args with
  | [.slice a n k] => bif Nat.ble n 100000000 then kSum A (rowCells A 1 (.slice a n k)) else none
  | _ => none
end Ev
end Go.Proofs.YtmohidgdmmkikaaGreatDoor
