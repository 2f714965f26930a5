/- Texts merged: Ev25, EvF, EvF2, EvF3, EvF4, Ev26, Ev27, EvF5. -/
import Derived.Test.YtiglblfjmmdeeaaGreatEv24
import Derived.Test.YtiglblfjmmdeeaaGreatMEvA
import Derived.Test.YtiglblfjmmdeeaaGreatMEvB
import Derived.Test.YtiglblfjmmdeeaaGreatCrc
import Derived.Test.YtiglblfjmmdeeaaGreatOpenOf
import Derived.KernelRfl

/- The evaluator: what stands in for crc.Crc. -/
namespace Go.Proofs.YtiglblfjmmdeeaaGreat
open Go.RowKit
namespace Ev

/-- One bit of the sum, worked out. -/
noncomputable def kBit {β : Type} (c : Nat) (k : Nat → β) : β := Bool.rec (motive := fun _ => β) (sNat (c / 2) k) (sNat (Nat.xor (c / 2) 3988292384) k) (Nat.beq (c % 2) 1)
noncomputable def kByte {β : Type} (c n : Nat) (k : Nat → β) : β := sNat (Nat.xor c n) fun c => kBit c fun c => kBit c fun c => kBit c fun c => kBit c fun c => kBit c fun c => kBit c fun c => kBit c fun c => kBit c k
noncomputable def kOne {β : Type} (no : β) (v : Value) (k : Nat → β) : β := match v with
  | .int .u8 (.ofNat n) => bif Nat.blt n 256 then k n else no
  | _ => no
noncomputable def kRow {β : Type} (no : β) (cs : List Value) : Nat → (Nat → β) → β := List.rec (motive := fun _ => Nat → (Nat → β) → β) (fun c k => k c) (fun v _ ih c k => kOne no v fun n => kByte c n fun c => ih c k) cs
noncomputable def kSum (A : AW) : Option (List Value) → Option (Value × AW)
  | some cs => kRow none cs 4294967295 fun c => sNat (Nat.xor 4294967295 c) fun c => some (.int .u32 (.ofNat c), A)
  | none => none
noncomputable def crcF : CallF := fun _ args A => match args with
  | [.slice a n k] => bif Nat.ble n 100000000 then kSum A (rowCells A 1 (.slice a n k)) else none
  | _ => none
end Ev
end Go.Proofs.YtiglblfjmmdeeaaGreat

/- The evaluator made quick: the same functions, each branch a closed term, so that a step of the kernel copies little. No proof stands here. -/
namespace Go.Proofs.YtiglblfjmmdeeaaGreat
namespace Ev

abbrev OV := Option Value
abbrev OL := Option (List Value)
abbrev ORV := Option (Value × AW)
abbrev Nx := TM → AW → R2
noncomputable def gV : Path → TM → OV :=
  @List.rec Bool (fun _ => TM → OV) (@Tr.rec Value (fun _ => OV) none (fun _ v _ _ _ => v))
    (fun b _ ih t => @Tr.rec Value (fun _ => Bool → (TM → OV) → OV) (fun _ _ => none)
      (fun l _ r _ _ b ih => @Bool.rec (fun _ => TM → TM → (TM → OV) → OV) (fun _ r ih => ih r) (fun l _ ih => ih l) b l r ih) t b ih)
noncomputable def valF (p : Path) (tm : TM) : Value := @Option.rec Value (fun _ => Value) undef (fun v => v) (gV p tm)
noncomputable def orU : OV → OV := @Option.rec Value (fun _ => OV) (some undef) (fun v => some v)
noncomputable def evF : CO → TM → Value := @CO.rec (fun _ => TM → Value) (fun p tm => valF p tm) (fun v _ => v)
noncomputable def evO : CO → TM → OV := @CO.rec (fun _ => TM → OV) (fun p tm => orU (gV p tm)) (fun v _ => some v)
noncomputable def gO : Path → Tr AObj → Option AObj :=
  @List.rec Bool (fun _ => Tr AObj → Option AObj) (@Tr.rec AObj (fun _ => Option AObj) none (fun _ v _ _ _ => v))
    (fun b _ ih t => @Tr.rec AObj (fun _ => Bool → (Tr AObj → Option AObj) → Option AObj) (fun _ _ => none)
      (fun l _ r _ _ b ih => @Bool.rec (fun _ => Tr AObj → Tr AObj → (Tr AObj → Option AObj) → Option AObj) (fun _ r ih => ih r) (fun l _ ih => ih l) b l r ih) t b ih)
noncomputable def pathR : Nat → Nat → Path :=
  @Nat.rec (fun _ => Nat → Path) (fun _ => [])
    (fun _ ih n => @Nat.rec (fun _ => (Nat → Path) → Path) (fun _ => []) (fun m _ ih => Nat.beq (Nat.mod m 2) 0 :: ih (Nat.div m 2)) n ih)
noncomputable def pathN (n : Nat) : Path := pathR 48 n
noncomputable def getF (A : AW) (b : Nat) : Option AObj := @AW.rec (fun _ => Nat → Option AObj) (fun t _ b => gO (pathN b) t) A b
noncomputable def sT : Path → Tr Value → Option Value → (Tr Value → R2) → R2 :=
  @List.rec Bool (fun _ => Tr Value → Option Value → (Tr Value → R2) → R2)
    (@Tr.rec Value (fun _ => Option Value → (Tr Value → R2) → R2) (fun v k => k (.node .nil v .nil)) (fun l _ r _ _ v k => k (.node l v r)))
    (fun b _ ih t v k => @Tr.rec Value (fun _ => Bool → (Tr Value → Option Value → (Tr Value → R2) → R2) → Option Value → (Tr Value → R2) → R2)
      (fun b ih v k => @Bool.rec (fun _ => (Tr Value → Option Value → (Tr Value → R2) → R2) → Option Value → (Tr Value → R2) → R2) (fun ih v k => ih .nil v fun r => k (.node .nil none r)) (fun ih v k => ih .nil v fun l => k (.node l none .nil)) b ih v k)
      (fun l x r _ _ b ih v k => @Bool.rec (fun _ => Tr Value → Option Value → Tr Value → (Tr Value → Option Value → (Tr Value → R2) → R2) → Option Value → (Tr Value → R2) → R2) (fun l x r ih v k => ih r v fun r' => k (.node l x r')) (fun l x r ih v k => ih l v fun l' => k (.node l' x r)) b l x r ih v k) t b ih v k)
noncomputable def sTr : Path → Tr Value → Option Value → (Tr Value → ORV) → ORV :=
  @List.rec Bool (fun _ => Tr Value → Option Value → (Tr Value → ORV) → ORV)
    (@Tr.rec Value (fun _ => Option Value → (Tr Value → ORV) → ORV) (fun v k => k (.node .nil v .nil)) (fun l _ r _ _ v k => k (.node l v r)))
    (fun b _ ih t v k => @Tr.rec Value (fun _ => Bool → (Tr Value → Option Value → (Tr Value → ORV) → ORV) → Option Value → (Tr Value → ORV) → ORV)
      (fun b ih v k => @Bool.rec (fun _ => (Tr Value → Option Value → (Tr Value → ORV) → ORV) → Option Value → (Tr Value → ORV) → ORV) (fun ih v k => ih .nil v fun r => k (.node .nil none r)) (fun ih v k => ih .nil v fun l => k (.node l none .nil)) b ih v k)
      (fun l x r _ _ b ih v k => @Bool.rec (fun _ => Tr Value → Option Value → Tr Value → (Tr Value → Option Value → (Tr Value → ORV) → ORV) → Option Value → (Tr Value → ORV) → ORV) (fun l x r ih v k => ih r v fun r' => k (.node l x r')) (fun l x r ih v k => ih l v fun l' => k (.node l' x r)) b l x r ih v k) t b ih v k)
noncomputable def sO : Path → Tr AObj → Option AObj → (Tr AObj → Out) → Out :=
  @List.rec Bool (fun _ => Tr AObj → Option AObj → (Tr AObj → Out) → Out)
    (@Tr.rec AObj (fun _ => Option AObj → (Tr AObj → Out) → Out) (fun v k => k (.node .nil v .nil)) (fun l _ r _ _ v k => k (.node l v r)))
    (fun b _ ih t v k => @Tr.rec AObj (fun _ => Bool → (Tr AObj → Option AObj → (Tr AObj → Out) → Out) → Option AObj → (Tr AObj → Out) → Out)
      (fun b ih v k => @Bool.rec (fun _ => (Tr AObj → Option AObj → (Tr AObj → Out) → Out) → Option AObj → (Tr AObj → Out) → Out) (fun ih v k => ih .nil v fun r => k (.node .nil none r)) (fun ih v k => ih .nil v fun l => k (.node l none .nil)) b ih v k)
      (fun l x r _ _ b ih v k => @Bool.rec (fun _ => Tr AObj → Option AObj → Tr AObj → (Tr AObj → Option AObj → (Tr AObj → Out) → Out) → Option AObj → (Tr AObj → Out) → Out) (fun l x r ih v k => ih r v fun r' => k (.node l x r')) (fun l x r ih v k => ih l v fun l' => k (.node l' x r)) b l x r ih v k) t b ih v k)
noncomputable def sOr : Path → Tr AObj → Option AObj → (Tr AObj → R2) → R2 :=
  @List.rec Bool (fun _ => Tr AObj → Option AObj → (Tr AObj → R2) → R2)
    (@Tr.rec AObj (fun _ => Option AObj → (Tr AObj → R2) → R2) (fun v k => k (.node .nil v .nil)) (fun l _ r _ _ v k => k (.node l v r)))
    (fun b _ ih t v k => @Tr.rec AObj (fun _ => Bool → (Tr AObj → Option AObj → (Tr AObj → R2) → R2) → Option AObj → (Tr AObj → R2) → R2)
      (fun b ih v k => @Bool.rec (fun _ => (Tr AObj → Option AObj → (Tr AObj → R2) → R2) → Option AObj → (Tr AObj → R2) → R2) (fun ih v k => ih .nil v fun r => k (.node .nil none r)) (fun ih v k => ih .nil v fun l => k (.node l none .nil)) b ih v k)
      (fun l x r _ _ b ih v k => @Bool.rec (fun _ => Tr AObj → Option AObj → Tr AObj → (Tr AObj → Option AObj → (Tr AObj → R2) → R2) → Option AObj → (Tr AObj → R2) → R2) (fun l x r ih v k => ih r v fun r' => k (.node l x r')) (fun l x r ih v k => ih l v fun l' => k (.node l' x r)) b l x r ih v k) t b ih v k)
noncomputable def sN : Nat → (Nat → R2) → R2 := @Nat.rec (fun _ => (Nat → R2) → R2) (fun k => k 0) (fun m _ k => k (Nat.succ m))
noncomputable def sI : Int → (Int → R2) → R2 := @Int.rec (fun _ => (Int → R2) → R2) (fun m k => sN m fun m => k (.ofNat m)) (fun m k => sN m fun m => k (.negSucc m))
noncomputable def sNO : Nat → (Nat → OV) → OV := @Nat.rec (fun _ => (Nat → OV) → OV) (fun k => k 0) (fun m _ k => k (Nat.succ m))
noncomputable def sIO : Int → (Int → OV) → OV := @Int.rec (fun _ => (Int → OV) → OV) (fun m k => sNO m fun m => k (.ofNat m)) (fun m k => sNO m fun m => k (.negSucc m))
noncomputable def sNo : Nat → (Nat → Out) → Out := @Nat.rec (fun _ => (Nat → Out) → Out) (fun k => k 0) (fun m _ k => k (Nat.succ m))
noncomputable def sIo : Int → (Int → Out) → Out := @Int.rec (fun _ => (Int → Out) → Out) (fun m k => sNo m fun m => k (.ofNat m)) (fun m k => sNo m fun m => k (.negSucc m))
noncomputable def sAd : Addr → (Addr → R2) → R2 := @Addr.rec (fun _ => (Addr → R2) → R2) (fun b o s k => sN b fun b => sN o fun o => k ⟨b, o, s⟩)
noncomputable def sPt : Option Addr → (Option Addr → R2) → R2 := @Option.rec Addr (fun _ => (Option Addr → R2) → R2) (fun k => k none) (fun a k => sAd a fun a => k (some a))
noncomputable def sMp : Option Nat → (Option Nat → R2) → R2 := @Option.rec Nat (fun _ => (Option Nat → R2) → R2) (fun k => k none) (fun a k => sN a fun a => k (some a))
noncomputable def consF (k : List Value → R2) (v : Value) (l : List Value) : R2 := k (v :: l)
noncomputable def sBy : List UInt8 → (List UInt8 → R2) → R2 := fun l k => sBytes l k
noncomputable def sF0 : Value → (Value → R2) → R2 := @Value.rec (fun _ => (Value → R2) → R2) (fun _ => PUnit) (fun _ => PUnit)
  (fun b k => @Bool.rec (fun _ => (Value → R2) → R2) (fun k => k (.bool false)) (fun k => k (.bool true)) b k)
  (fun d n k => sI n fun n => k (.int d n))
  (fun d n k => k (Value.float d n))
  (fun d a b k => k (Value.complex d a b))
  (fun s k => sBy s.data.toList fun l => k (.string ⟨⟨l⟩⟩))
  (fun a k => sPt a fun a => k (.pointer a))
  (fun a n c k => sPt a fun a => sN n fun n => sN c fun c => k (.slice a n c))
  (fun r k => sMp r fun r => k (.map r))
  (fun r k => k (Value.chan r))
  (fun fn a b _ _ k => k (Value.func fn a b))
  (fun  k => k Value.nilFunc)
  (fun t v _ k => k (Value.iface t v))
  (fun  k => k Value.nilIface)
  (fun cs _ k => k (Value.agg cs))
  (fun vs _ k => k (Value.tuple vs))
  (fun _ _ => .unit) .unit (fun _ _ _ _ => .unit)
noncomputable def sL0 : List Value → (List Value → R2) → R2 := @List.rec Value (fun _ => (List Value → R2) → R2) (fun k => k []) (fun v _ ih k => sF0 v fun v => ih (consF k v))
noncomputable def sF1 : Value → (Value → R2) → R2 := @Value.rec (fun _ => (Value → R2) → R2) (fun _ => PUnit) (fun _ => PUnit)
  (fun b k => @Bool.rec (fun _ => (Value → R2) → R2) (fun k => k (.bool false)) (fun k => k (.bool true)) b k)
  (fun d n k => sI n fun n => k (.int d n))
  (fun d n k => k (Value.float d n))
  (fun d a b k => k (Value.complex d a b))
  (fun s k => sBy s.data.toList fun l => k (.string ⟨⟨l⟩⟩))
  (fun a k => sPt a fun a => k (.pointer a))
  (fun a n c k => sPt a fun a => sN n fun n => sN c fun c => k (.slice a n c))
  (fun r k => sMp r fun r => k (.map r))
  (fun r k => k (Value.chan r))
  (fun fn a b _ _ k => sL0 a.toList fun a => sL0 b.toList fun b => k (.func fn ⟨a⟩ ⟨b⟩))
  (fun  k => k Value.nilFunc)
  (fun t v _ k => sF0 v fun v => k (.iface t v))
  (fun  k => k Value.nilIface)
  (fun cs _ k => sL0 cs.toList fun l => k (.agg ⟨l⟩))
  (fun vs _ k => sL0 vs.toList fun l => k (.tuple ⟨l⟩))
  (fun _ _ => .unit) .unit (fun _ _ _ _ => .unit)
noncomputable def sL1 : List Value → (List Value → R2) → R2 := @List.rec Value (fun _ => (List Value → R2) → R2) (fun k => k []) (fun v _ ih k => sF1 v fun v => ih (consF k v))
noncomputable def sF2 : Value → (Value → R2) → R2 := @Value.rec (fun _ => (Value → R2) → R2) (fun _ => PUnit) (fun _ => PUnit)
  (fun b k => @Bool.rec (fun _ => (Value → R2) → R2) (fun k => k (.bool false)) (fun k => k (.bool true)) b k)
  (fun d n k => sI n fun n => k (.int d n))
  (fun d n k => k (Value.float d n))
  (fun d a b k => k (Value.complex d a b))
  (fun s k => sBy s.data.toList fun l => k (.string ⟨⟨l⟩⟩))
  (fun a k => sPt a fun a => k (.pointer a))
  (fun a n c k => sPt a fun a => sN n fun n => sN c fun c => k (.slice a n c))
  (fun r k => sMp r fun r => k (.map r))
  (fun r k => k (Value.chan r))
  (fun fn a b _ _ k => sL1 a.toList fun a => sL1 b.toList fun b => k (.func fn ⟨a⟩ ⟨b⟩))
  (fun  k => k Value.nilFunc)
  (fun t v _ k => sF1 v fun v => k (.iface t v))
  (fun  k => k Value.nilIface)
  (fun cs _ k => sL1 cs.toList fun l => k (.agg ⟨l⟩))
  (fun vs _ k => sL1 vs.toList fun l => k (.tuple ⟨l⟩))
  (fun _ _ => .unit) .unit (fun _ _ _ _ => .unit)
noncomputable def pA : Option Addr → (Nat → Nat → OV) → OV → OV := @Option.rec Addr (fun _ => (Nat → Nat → OV) → OV → OV) (fun _ d => d) (fun a f d => @Addr.rec (fun _ => (Nat → Nat → OV) → OV → OV) (fun b o s f d => @Option.rec Nat (fun _ => Nat → Nat → (Nat → Nat → OV) → OV → OV) (fun b o f _ => f b o) (fun _ _ _ _ d => d) s b o f d) a f d)
noncomputable def vP : Value → (Nat → Nat → OV) → (OV) → OV := @Value.rec (fun _ => (Nat → Nat → OV) → (OV) → OV) (fun _ => PUnit) (fun _ => PUnit)
  (fun _ _ d => d)
  (fun _ _ _ d => d)
  (fun _ _ _ d => d)
  (fun _ _ _ _ d => d)
  (fun _ _ d => d)
  (fun a f d => pA a f d)
  (fun _ _ _ _ d => d)
  (fun _ _ d => d)
  (fun _ _ d => d)
  (fun _ _ _ _ _ _ d => d)
  (fun  _ d => d)
  (fun _ _ _ _ d => d)
  (fun  _ d => d)
  (fun _ _ _ d => d)
  (fun _ _ _ d => d)
  (fun _ _ => .unit) .unit (fun _ _ _ _ => .unit)
noncomputable def vS : Value → (Nat → Nat → Nat → Nat → OV) → (OV) → OV := @Value.rec (fun _ => (Nat → Nat → Nat → Nat → OV) → (OV) → OV) (fun _ => PUnit) (fun _ => PUnit)
  (fun _ _ d => d)
  (fun _ _ _ d => d)
  (fun _ _ _ d => d)
  (fun _ _ _ _ d => d)
  (fun _ _ d => d)
  (fun _ _ d => d)
  (fun a n c f d => pA a (fun b o => f b o n c) d)
  (fun _ _ d => d)
  (fun _ _ d => d)
  (fun _ _ _ _ _ _ d => d)
  (fun  _ d => d)
  (fun _ _ _ _ d => d)
  (fun  _ d => d)
  (fun _ _ _ d => d)
  (fun _ _ _ d => d)
  (fun _ _ => .unit) .unit (fun _ _ _ _ => .unit)
noncomputable def vN : Value → (IntKind → Nat → OV) → (OV) → OV := @Value.rec (fun _ => (IntKind → Nat → OV) → (OV) → OV) (fun _ => PUnit) (fun _ => PUnit)
  (fun _ _ d => d)
  (fun k n f d => @Int.rec (fun _ => IntKind → (IntKind → Nat → OV) → OV → OV) (fun n k f _ => f k n) (fun _ _ _ d => d) n k f d)
  (fun _ _ _ d => d)
  (fun _ _ _ _ d => d)
  (fun _ _ d => d)
  (fun _ _ d => d)
  (fun _ _ _ _ d => d)
  (fun _ _ d => d)
  (fun _ _ d => d)
  (fun _ _ _ _ _ _ d => d)
  (fun  _ d => d)
  (fun _ _ _ _ d => d)
  (fun  _ d => d)
  (fun _ _ _ d => d)
  (fun _ _ _ d => d)
  (fun _ _ => .unit) .unit (fun _ _ _ _ => .unit)
noncomputable def vStr : Value → (List UInt8 → OV) → (OV) → OV := @Value.rec (fun _ => (List UInt8 → OV) → (OV) → OV) (fun _ => PUnit) (fun _ => PUnit)
  (fun _ _ d => d)
  (fun _ _ _ d => d)
  (fun _ _ _ d => d)
  (fun _ _ _ _ d => d)
  (fun s f _ => f s.data.toList)
  (fun _ _ d => d)
  (fun _ _ _ _ d => d)
  (fun _ _ d => d)
  (fun _ _ d => d)
  (fun _ _ _ _ _ _ d => d)
  (fun  _ d => d)
  (fun _ _ _ _ d => d)
  (fun  _ d => d)
  (fun _ _ _ d => d)
  (fun _ _ _ d => d)
  (fun _ _ => .unit) .unit (fun _ _ _ _ => .unit)
noncomputable def pAo : Option Addr → (Nat → Nat → Out) → Out → Out := @Option.rec Addr (fun _ => (Nat → Nat → Out) → Out → Out) (fun _ d => d) (fun a f d => @Addr.rec (fun _ => (Nat → Nat → Out) → Out → Out) (fun b o s f d => @Option.rec Nat (fun _ => Nat → Nat → (Nat → Nat → Out) → Out → Out) (fun b o f _ => f b o) (fun _ _ _ _ d => d) s b o f d) a f d)
noncomputable def vPo : Value → (Nat → Nat → Out) → (Out) → Out := @Value.rec (fun _ => (Nat → Nat → Out) → (Out) → Out) (fun _ => PUnit) (fun _ => PUnit)
  (fun _ _ d => d)
  (fun _ _ _ d => d)
  (fun _ _ _ d => d)
  (fun _ _ _ _ d => d)
  (fun _ _ d => d)
  (fun a f d => pAo a f d)
  (fun _ _ _ _ d => d)
  (fun _ _ d => d)
  (fun _ _ d => d)
  (fun _ _ _ _ _ _ d => d)
  (fun  _ d => d)
  (fun _ _ _ _ d => d)
  (fun  _ d => d)
  (fun _ _ _ d => d)
  (fun _ _ _ d => d)
  (fun _ _ => .unit) .unit (fun _ _ _ _ => .unit)
noncomputable def vSo : Value → (Nat → Nat → Nat → Nat → Out) → (Out) → Out := @Value.rec (fun _ => (Nat → Nat → Nat → Nat → Out) → (Out) → Out) (fun _ => PUnit) (fun _ => PUnit)
  (fun _ _ d => d)
  (fun _ _ _ d => d)
  (fun _ _ _ d => d)
  (fun _ _ _ _ d => d)
  (fun _ _ d => d)
  (fun _ _ d => d)
  (fun a n c f d => pAo a (fun b o => f b o n c) d)
  (fun _ _ d => d)
  (fun _ _ d => d)
  (fun _ _ _ _ _ _ d => d)
  (fun  _ d => d)
  (fun _ _ _ _ d => d)
  (fun  _ d => d)
  (fun _ _ _ d => d)
  (fun _ _ _ d => d)
  (fun _ _ => .unit) .unit (fun _ _ _ _ => .unit)
noncomputable def vNo : Value → (IntKind → Nat → Out) → (Out) → Out := @Value.rec (fun _ => (IntKind → Nat → Out) → (Out) → Out) (fun _ => PUnit) (fun _ => PUnit)
  (fun _ _ d => d)
  (fun k n f d => @Int.rec (fun _ => IntKind → (IntKind → Nat → Out) → Out → Out) (fun n k f _ => f k n) (fun _ _ _ d => d) n k f d)
  (fun _ _ _ d => d)
  (fun _ _ _ _ d => d)
  (fun _ _ d => d)
  (fun _ _ d => d)
  (fun _ _ _ _ d => d)
  (fun _ _ d => d)
  (fun _ _ d => d)
  (fun _ _ _ _ _ _ d => d)
  (fun  _ d => d)
  (fun _ _ _ _ d => d)
  (fun  _ d => d)
  (fun _ _ _ d => d)
  (fun _ _ _ d => d)
  (fun _ _ => .unit) .unit (fun _ _ _ _ => .unit)
noncomputable def vStro : Value → (List UInt8 → Out) → (Out) → Out := @Value.rec (fun _ => (List UInt8 → Out) → (Out) → Out) (fun _ => PUnit) (fun _ => PUnit)
  (fun _ _ d => d)
  (fun _ _ _ d => d)
  (fun _ _ _ d => d)
  (fun _ _ _ _ d => d)
  (fun s f _ => f s.data.toList)
  (fun _ _ d => d)
  (fun _ _ _ _ d => d)
  (fun _ _ d => d)
  (fun _ _ d => d)
  (fun _ _ _ _ _ _ d => d)
  (fun  _ d => d)
  (fun _ _ _ _ d => d)
  (fun  _ d => d)
  (fun _ _ _ d => d)
  (fun _ _ _ d => d)
  (fun _ _ => .unit) .unit (fun _ _ _ _ => .unit)
noncomputable def vB : Value → (OV) → (OV) → (OV) → OV := @Value.rec (fun _ => (OV) → (OV) → (OV) → OV) (fun _ => PUnit) (fun _ => PUnit)
  (fun b x y _ => @Bool.rec (fun _ => OV → OV → OV) (fun _ y => y) (fun x _ => x) b x y)
  (fun _ _ _ _ d => d)
  (fun _ _ _ _ d => d)
  (fun _ _ _ _ _ d => d)
  (fun _ _ _ d => d)
  (fun _ _ _ d => d)
  (fun _ _ _ _ _ d => d)
  (fun _ _ _ d => d)
  (fun _ _ _ d => d)
  (fun _ _ _ _ _ _ _ d => d)
  (fun  _ _ d => d)
  (fun _ _ _ _ _ d => d)
  (fun  _ _ d => d)
  (fun _ _ _ _ d => d)
  (fun _ _ _ _ d => d)
  (fun _ _ => .unit) .unit (fun _ _ _ _ => .unit)
noncomputable def vA : Value → (List Value → OV) → (OV) → OV := @Value.rec (fun _ => (List Value → OV) → (OV) → OV) (fun _ => PUnit) (fun _ => PUnit)
  (fun _ _ d => d)
  (fun _ _ _ d => d)
  (fun _ _ _ d => d)
  (fun _ _ _ _ d => d)
  (fun _ _ d => d)
  (fun _ _ d => d)
  (fun _ _ _ _ d => d)
  (fun _ _ d => d)
  (fun _ _ d => d)
  (fun _ _ _ _ _ _ d => d)
  (fun  _ d => d)
  (fun _ _ _ _ d => d)
  (fun  _ d => d)
  (fun cs _ f _ => f cs.toList)
  (fun _ _ _ d => d)
  (fun _ _ => .unit) .unit (fun _ _ _ _ => .unit)
noncomputable def vT : Value → (List Value → OV) → (OV) → OV := @Value.rec (fun _ => (List Value → OV) → (OV) → OV) (fun _ => PUnit) (fun _ => PUnit)
  (fun _ _ d => d)
  (fun _ _ _ d => d)
  (fun _ _ _ d => d)
  (fun _ _ _ _ d => d)
  (fun _ _ d => d)
  (fun _ _ d => d)
  (fun _ _ _ _ d => d)
  (fun _ _ d => d)
  (fun _ _ d => d)
  (fun _ _ _ _ _ _ d => d)
  (fun  _ d => d)
  (fun _ _ _ _ d => d)
  (fun  _ d => d)
  (fun _ _ _ d => d)
  (fun cs _ f _ => f cs.toList)
  (fun _ _ => .unit) .unit (fun _ _ _ _ => .unit)
noncomputable def atomF : Value → (Unit) → Bool := @Value.rec (fun _ => (Unit) → Bool) (fun _ => PUnit) (fun _ => PUnit)
  (fun _ _ => true)
  (fun _ _ _ => true)
  (fun _ _ _ => true)
  (fun _ _ _ _ => true)
  (fun _ _ => true)
  (fun _ _ => true)
  (fun _ _ _ _ => true)
  (fun _ _ => true)
  (fun _ _ => true)
  (fun _ _ _ _ _ _ => true)
  (fun  _ => true)
  (fun _ _ _ _ => true)
  (fun  _ => true)
  (fun _ _ _ => false)
  (fun _ _ _ => false)
  (fun _ _ => .unit) .unit (fun _ _ _ _ => .unit)
noncomputable def ovB (b : Bool) : OV := @Bool.rec (fun _ => OV) (some (.bool false)) (some (.bool true)) b
/- Rows. -/
noncomputable def goN (ih : Nat → OV) (o : Nat) : OV := ih o
noncomputable def nth : List Value → Nat → OV := @List.rec Value (fun _ => Nat → OV) (fun _ => none) (fun v _ ih o => @Nat.rec (fun _ => Value → (Nat → OV) → OV) (fun v _ => some v) (fun m _ _ ih => goN ih m) o v ih)
noncomputable def consL (k : List Value → OL) (v : Value) (l : List Value) : OL := k (v :: l)
noncomputable def goT (ih : List Value → (List Value → OL) → OL) (c : List Value) (k : List Value → OL) : OL := ih c k
noncomputable def takeT (base : List Value) : Nat → List Value → (List Value → OL) → OL := @Nat.rec (fun _ => List Value → (List Value → OL) → OL) (fun _ k => k base) (fun _ ih c k => @List.rec Value (fun _ => (List Value → (List Value → OL) → OL) → (List Value → OL) → OL) (fun _ _ => none) (fun v c _ ih k => goT ih c (consL k v)) c ih k)
noncomputable def goD (ih : List Value → OL) (c : List Value) : OL := ih c
noncomputable def dropT (base : List Value) (n : Nat) : Nat → List Value → OL := @Nat.rec (fun _ => List Value → OL) (fun c => takeT base n c some) (fun _ ih c => @List.rec Value (fun _ => (List Value → OL) → OL) (fun _ => none) (fun _ c _ ih => goD ih c) c ih)
noncomputable def cellAtF (A : AW) (b o : Nat) : OV := @Option.rec AObj (fun _ => Nat → OV) (fun _ => none) (fun ob o => @AObj.rec (fun _ => Nat → OV) (fun c _ o => nth c o) (fun _ _ _ => none) ob o) (getF A b) o
noncomputable def cellsF (base : List Value) (A : AW) (b o n : Nat) : OL := @Option.rec AObj (fun _ => List Value → Nat → Nat → OL) (fun _ _ _ => none) (fun ob base o n => @AObj.rec (fun _ => List Value → Nat → Nat → OL) (fun c _ base o n => dropT base n o c) (fun _ _ _ _ _ => none) ob base o n) (getF A b) base o n
noncomputable def aggF : OL → OV := @Option.rec (List Value) (fun _ => OV) none (fun l => some (.agg ⟨l⟩))
/- Reads. -/
noncomputable def rdMoveF (x : CO) (tm : TM) (_ : AW) : OV := evO x tm
noncomputable def rdPickF (c a b : CO) (tm : TM) (_ : AW) : OV := vB (evF c tm) (evO a tm) (evO b tm) none
noncomputable def rdLoadF (a : CO) (tm : TM) (A : AW) : OV := vP (evF a tm) (cellAtF A) none
noncomputable def rdLoadNF (n : Nat) (a : CO) (tm : TM) (A : AW) : OV := vP (evF a tm) (fun b o => aggF (cellsF [] A b o n)) none
noncomputable def rdFieldF (off : Nat) (a : CO) (tm : TM) (_ : AW) : OV := vP (evF a tm) (fun b o => sNO (Nat.add o off) fun o => some (aptr b o)) none
noncomputable def rdIndexArrF (len size : Nat) (x i : CO) (tm : TM) (_ : AW) : OV := vN (evF i tm) (fun _ n => vP (evF x tm) (fun b o => @Bool.rec (fun _ => OV) none (sNO (Nat.add o (Nat.mul n size)) fun o => some (aptr b o)) (Nat.ble (Nat.succ n) len)) none) none
noncomputable def rdIndexSlcF (size : Nat) (x i : CO) (tm : TM) (_ : AW) : OV := vN (evF i tm) (fun _ n => vS (evF x tm) (fun b o len _ => @Bool.rec (fun _ => OV) none (sNO (Nat.add o (Nat.mul n size)) fun o => some (aptr b o)) (Nat.ble (Nat.succ n) len)) none) none
noncomputable def nilC : Value → (Unit) → OV := @Value.rec (fun _ => (Unit) → OV) (fun _ => PUnit) (fun _ => PUnit)
  (fun _ _ => none)
  (fun _ _ _ => none)
  (fun _ _ _ => none)
  (fun _ _ _ _ => none)
  (fun _ _ => none)
  (fun a _ => @Option.rec Addr (fun _ => OV) none (fun a => some (.pointer (some a))) a)
  (fun _ _ _ _ => none)
  (fun r _ => some (.map r))
  (fun _ _ => none)
  (fun fn a b _ _ _ => @Fn.rec (fun _ => Array Value → Array Value → OV) (fun f a b => some (.func (.func f) a b)) (fun _ _ _ => none) (fun _ _ _ _ => none) (fun _ _ _ _ _ _ => none) (fun _ _ _ => none) fn a b)
  (fun  _ => none)
  (fun t v _ _ => some (.iface t v))
  (fun  _ => none)
  (fun _ _ _ => none)
  (fun _ _ _ => none)
  (fun _ _ => .unit) .unit (fun _ _ _ _ => .unit)
noncomputable def rdNilCheckF (x : CO) (tm : TM) (_ : AW) : OV := nilC (evF x tm) ()
/- Ints, both not below 0, of one kind; else the slow way. -/
noncomputable def kNo : IntKind → Nat := @IntKind.rec (fun _ => Nat) 0 1 2 3 4 5 6 7
abbrev IF := IntKind → Nat → Nat → OV → OV
noncomputable def i64F (s : Nat) (d : OV) : OV := @Bool.rec (fun _ => OV) d (sNO s fun s => some (.int .i64 (.ofNat s))) (Nat.ble s 9223372036854775807)
noncomputable def wrF8 (s : Nat) : OV := sNO (Nat.mod s 256) fun s => some (.int .u8 (.ofNat s))
noncomputable def wrF32 (s : Nat) : OV := sNO (Nat.mod s 4294967296) fun s => some (.int .u32 (.ofNat s))
noncomputable def wrF64 (s : Nat) : OV := sNO (Nat.mod s 18446744073709551616) fun s => some (.int .u64 (.ofNat s))
noncomputable def wrN : IntKind → Nat → OV → OV := @IntKind.rec (fun _ => Nat → OV → OV) (fun _ d => d) (fun _ d => d) (fun _ d => d) (fun s d => i64F s d) (fun s _ => wrF8 s) (fun _ d => d) (fun s _ => wrF32 s) (fun s _ => wrF64 s)
noncomputable def addF : IF := fun k m n d => wrN k (Nat.add m n) d
noncomputable def mulF : IF := fun k m n d => wrN k (Nat.mul m n) d
noncomputable def subF : IF := fun k m n d => @Bool.rec (fun _ => OV) d (wrN k (Nat.sub m n) d) (Nat.ble n m)
noncomputable def eqlF : IF := fun _ m n _ => ovB (Nat.beq m n)
noncomputable def neqF : IF := fun _ m n _ => @Bool.rec (fun _ => OV) (some (.bool true)) (some (.bool false)) (Nat.beq m n)
noncomputable def lssF : IF := fun _ m n _ => ovB (Nat.ble (Nat.succ m) n)
noncomputable def leqF : IF := fun _ m n _ => ovB (Nat.ble m n)
noncomputable def gtrF : IF := fun _ m n _ => ovB (Nat.ble (Nat.succ n) m)
noncomputable def geqF : IF := fun _ m n _ => ovB (Nat.ble n m)
noncomputable def rdIntsF (g : IF) (f : IntKind → Int → Int → Option Value) (x y : CO) (tm : TM) (A : AW) : OV :=
  vN (evF x tm) (fun k m => vN (evF y tm) (fun l n => @Bool.rec (fun _ => OV) (rdInts f x y tm A) (g k m n (rdInts f x y tm A)) (Nat.beq (kNo k) (kNo l))) (rdInts f x y tm A)) (rdInts f x y tm A)
noncomputable def fastOp : BinOp → Option IF
  | .add => some addF
  | .sub => some subF
  | .mul => some mulF
  | .eql => some eqlF
  | .neq => some neqF
  | .lss => some lssF
  | .leq => some leqF
  | .gtr => some gtrF
  | .geq => some geqF
  | _ => none
noncomputable def orElseF (f g : TM → AW → OV) (tm : TM) (A : AW) : OV := @Option.rec Value (fun _ => (TM → AW → OV) → TM → AW → OV) (fun g tm A => g tm A) (fun v _ _ _ => some v) (f tm A) g tm A
noncomputable def rdConvF (k : IntKind) (x : CO) (tm : TM) (A : AW) : OV := vN (evF x tm) (fun _ n => wrN k n (rdConv k x tm A)) (rdConv k x tm A)
noncomputable def kBits : IntKind → Nat := @IntKind.rec (fun _ => Nat) 8 16 32 64 8 16 32 64
noncomputable def rdShrF (x y : CO) (tm : TM) (A : AW) : OV := vN (evF x tm) (fun k m => vN (evF y tm) (fun _ n => @Bool.rec (fun _ => OV) (rdShr x y tm A) (sNO (Nat.shiftRight m n) fun s => some (.int k (.ofNat s))) (Nat.ble n (kBits k))) (rdShr x y tm A)) (rdShr x y tm A)
noncomputable def rdNotF (x : CO) (tm : TM) (_ : AW) : OV := vB (evF x tm) (some (.bool false)) (some (.bool true)) none
noncomputable def part1F (off : Nat) (cs : List Value) : OV := nth cs off
noncomputable def partNF (n off : Nat) (cs : List Value) : OV := aggF (dropT [] n off cs)
noncomputable def rdPartF (f : List Value → OV) (x : CO) (tm : TM) (_ : AW) : OV := vA (evF x tm) f none
noncomputable def rdExtractF (i : Nat) (x : CO) (tm : TM) (_ : AW) : OV := vT (evF x tm) (fun l => nth l i) none
noncomputable def lenS : Value → (OV) → OV := @Value.rec (fun _ => (OV) → OV) (fun _ => PUnit) (fun _ => PUnit)
  (fun _ d => d)
  (fun _ _ d => d)
  (fun _ _ d => d)
  (fun _ _ _ d => d)
  (fun _ d => d)
  (fun _ d => d)
  (fun _ n _ _ => some (.int .i64 (.ofNat n)))
  (fun _ d => d)
  (fun _ d => d)
  (fun _ _ _ _ _ d => d)
  (fun  d => d)
  (fun _ _ _ d => d)
  (fun  d => d)
  (fun _ _ d => d)
  (fun _ _ d => d)
  (fun _ _ => .unit) .unit (fun _ _ _ _ => .unit)
noncomputable def rdLenSF (x : CO) (tm : TM) (_ : AW) : OV := lenS (evF x tm) none
/- What acts. -/
noncomputable def consO (k : List Value → Out) (v : Value) (l : List Value) : Out := k (v :: l)
noncomputable def goV (ih : List Value → (List Value → Out) → Out) (c : List Value) (k : List Value → Out) : Out := ih c k
noncomputable def ovF : List Value → List Value → (List Value → Out) → Out := @List.rec Value (fun _ => List Value → (List Value → Out) → Out) (fun c k => k c)
  (fun v _ ih c k => @List.rec Value (fun _ => Value → (List Value → (List Value → Out) → Out) → (List Value → Out) → Out) (fun _ _ _ => .no) (fun _ c _ v ih k => goV ih c (consO k v)) c v ih k)
noncomputable def splF (cs : List Value) : Nat → List Value → (List Value → Out) → Out := @Nat.rec (fun _ => List Value → (List Value → Out) → Out) (fun c k => ovF cs c k)
  (fun _ ih c k => @List.rec Value (fun _ => (List Value → (List Value → Out) → Out) → (List Value → Out) → Out) (fun _ _ => .no) (fun v c _ ih k => goV ih c (consO k v)) c ih k)
noncomputable def allAt : List Value → Bool := @List.rec Value (fun _ => Bool) true (fun v _ ih => @Bool.rec (fun _ => Bool) false ih (atomF v ()))
noncomputable def lenF : List Value → Nat := @List.rec Value (fun _ => Nat) 0 (fun _ _ ih => Nat.succ ih)
noncomputable def wrF (v : Value) (A : AW) (b o : Nat) (cs : List Value) : Out := @AW.rec (fun _ => Value → Nat → Nat → List Value → Out) (fun t nx v b o cs =>
  @Option.rec AObj (fun _ => Tr AObj → Nat → Value → Nat → Nat → List Value → Out) (fun _ _ _ _ _ _ => .no) (fun ob t nx v b o cs => @AObj.rec (fun _ => Tr AObj → Nat → Value → Nat → Nat → List Value → Out) (fun c e t nx v b o cs => splF cs o c fun c' => sO (pathN b) t (some (.row c' e)) fun t' => .val v ⟨t', nx⟩) (fun _ _ _ _ _ _ _ _ => .no) ob t nx v b o cs) (gO (pathN b) t) t nx v b o cs) A v b o cs
noncomputable def wrA (v : Value) (A : AW) (b o : Nat) (cs : List Value) : Out := @Bool.rec (fun _ => Out) .no (wrF v A b o cs) (allAt cs)
noncomputable def stV : Value → (Nat) → (List Value → Out) → Out := @Value.rec (fun _ => (Nat) → (List Value → Out) → Out) (fun _ => PUnit) (fun _ => PUnit)
  (fun b n k => @Bool.rec (fun _ => Out) .no (k [(Value.bool b)]) (Nat.beq 1 n))
  (fun d m n k => @Bool.rec (fun _ => Out) .no (k [(Value.int d m)]) (Nat.beq 1 n))
  (fun d m n k => @Bool.rec (fun _ => Out) .no (k [(Value.float d m)]) (Nat.beq 1 n))
  (fun d a b n k => @Bool.rec (fun _ => Out) .no (k [(Value.complex d a b)]) (Nat.beq 1 n))
  (fun s n k => @Bool.rec (fun _ => Out) .no (k [(Value.string s)]) (Nat.beq 1 n))
  (fun a n k => @Bool.rec (fun _ => Out) .no (k [(Value.pointer a)]) (Nat.beq 1 n))
  (fun a m c n k => @Bool.rec (fun _ => Out) .no (k [(Value.slice a m c)]) (Nat.beq 1 n))
  (fun r n k => @Bool.rec (fun _ => Out) .no (k [(Value.map r)]) (Nat.beq 1 n))
  (fun r n k => @Bool.rec (fun _ => Out) .no (k [(Value.chan r)]) (Nat.beq 1 n))
  (fun fn a b _ _ n k => @Bool.rec (fun _ => Out) .no (k [(Value.func fn a b)]) (Nat.beq 1 n))
  (fun  n k => @Bool.rec (fun _ => Out) .no (k [Value.nilFunc]) (Nat.beq 1 n))
  (fun t v _ n k => @Bool.rec (fun _ => Out) .no (k [(Value.iface t v)]) (Nat.beq 1 n))
  (fun  n k => @Bool.rec (fun _ => Out) .no (k [Value.nilIface]) (Nat.beq 1 n))
  (fun cs _ n k => @Bool.rec (fun _ => Out) .no (k cs.toList) (Nat.beq (lenF cs.toList) n))
  (fun vs _ n k => @Bool.rec (fun _ => Out) .no (k [(Value.tuple vs)]) (Nat.beq 1 n))
  (fun _ _ => .unit) .unit (fun _ _ _ _ => .unit)
noncomputable def acStoreF (n : Nat) (a x : CO) (tm : TM) (A : AW) : Out := vPo (evF a tm) (fun b o => stV (evF x tm) n fun cs => wrA undef A b o cs) .no
noncomputable def evsO : List CO → TM → (List Value → Out) → Out := @List.rec CO (fun _ => TM → (List Value → Out) → Out) (fun _ k => k [])
  (fun x _ ih tm k => @Option.rec Value (fun _ => (TM → (List Value → Out) → Out) → TM → (List Value → Out) → Out) (fun _ _ _ => .no) (fun v ih tm k => ih tm (consO k v)) (evO x tm) ih tm k)
noncomputable def acCallF (f : FuncId) (args : List CO) (tm : TM) (A : AW) : Out := evsO args tm fun l => .ent f l A
noncomputable def newF (e : TypeId) (f : Nat → Value) (A : AW) (cs : List Value) : Out := @AW.rec (fun _ => TypeId → (Nat → Value) → List Value → Out) (fun t nx e f cs =>
  @Bool.rec (fun _ => Out) .no (sO (pathN nx) t (some (.row cs e)) fun t' => sNo (Nat.succ nx) fun m => .val (f nx) ⟨t', m⟩) (Nat.ble (Nat.add nx 2) most)) A e f cs
noncomputable def killF (A : AW) (k b : Nat) (g : AW → Out) : Out := @Bool.rec (fun _ => Out) (@AW.rec (fun _ => Nat → (AW → Out) → Out) (fun t nx b g => sO (pathN b) t none fun t' => g ⟨t', nx⟩) A b g) (g A) (Nat.beq (Nat.mod k 2) 1)
noncomputable def olO (l : OL) (f : List Value → Out) : Out := @Option.rec (List Value) (fun _ => (List Value → Out) → Out) (fun _ => .no) (fun l f => f l) l f
/-- To a slice of a row, new cells in their order. -/
noncomputable def appS (elem size m : Nat) (new : List Value) (A : AW) (b o n k : Nat) : Out :=
  @Bool.rec (fun _ => Out)
    (@Bool.rec (fun _ => Out) .no (olO (cellsF new A b o (Nat.mul n size)) fun cs => killF A k b fun A => sNo (Nat.add n m) fun nm => sNo (Nat.mul 2 nm) fun c => newF elem (fun b => aslc b 0 nm c) A cs)
      (@Bool.rec (fun _ => Bool) false (@Bool.rec (fun _ => Bool) false (elemOk A b elem k) (Nat.ble k bigN)) (Nat.ble n bigN)))
    (sNo (Nat.add n m) fun nm => wrA (aslc b o nm k) A b (Nat.add o (Nat.mul n size)) new) (Nat.ble (Nat.add n m) (Nat.div k 2))
noncomputable def apV : Value → (Nat) → (Nat) → (Nat) → (List Value) → (AW) → Out := @Value.rec (fun _ => (Nat) → (Nat) → (Nat) → (List Value) → (AW) → Out) (fun _ => PUnit) (fun _ => PUnit)
  (fun _ _ _ _ _ _ => .no)
  (fun _ _ _ _ _ _ _ => .no)
  (fun _ _ _ _ _ _ _ => .no)
  (fun _ _ _ _ _ _ _ _ => .no)
  (fun _ _ _ _ _ _ => .no)
  (fun _ _ _ _ _ _ => .no)
  (fun a n c elem size m new A => @Option.rec Addr (fun _ => Nat → Nat → Nat → Nat → Nat → List Value → AW → Out) (fun n c elem _ m new A => @Bool.rec (fun _ => Out) .no (@Bool.rec (fun _ => Out) .no (sNo (Nat.mul 2 m) fun c => newF elem (fun b => aslc b 0 m c) A new) (Nat.beq c 0)) (Nat.beq n 0)) (fun ad n c elem size m new A => pAo (some ad) (fun b o => appS elem size m new A b o n c) .no) a n c elem size m new A)
  (fun _ _ _ _ _ _ => .no)
  (fun _ _ _ _ _ _ => .no)
  (fun _ _ _ _ _ _ _ _ _ _ => .no)
  (fun  _ _ _ _ _ => .no)
  (fun _ _ _ _ _ _ _ _ => .no)
  (fun  _ _ _ _ _ => .no)
  (fun _ _ _ _ _ _ _ => .no)
  (fun _ _ _ _ _ _ _ => .no)
  (fun _ _ => .unit) .unit (fun _ _ _ _ => .unit)
noncomputable def apC (elem size : Nat) (s : CO) (tm : TM) (A : AW) (m : Nat) (new : List Value) : Out := @Bool.rec (fun _ => Out) .no (apV (evF s tm) elem size m new A) (@Bool.rec (fun _ => Bool) false (allAt new) (Nat.ble m (Nat.succ bigN)))
noncomputable def acAppendF (elem size : Nat) (s x : CO) (tm : TM) (A : AW) : Out :=
  vSo (evF x tm) (fun xb xo xn _ => @Nat.rec (fun _ => Nat → Nat → CO → CO → TM → AW → Nat → Nat → Out) (fun elem size s x tm A _ _ => acAppend elem size s x tm A)
    (fun m _ elem size s _ tm A xb xo => olO (cellsF [] A xb xo (Nat.mul (Nat.succ m) size)) fun new => apC elem size s tm A (Nat.succ m) new) xn elem size s x tm A xb xo) (acAppend elem size s x tm A)
/- The code. -/
inductive CF where
  /-- It reads; what it yields is worked out. -/
  | rc (f : TM → AW → OV)
  | rd (f : TM → AW → OV)
  | mkc (f : TM → Option (AObj × (Nat → Value)))
  | mk (f : TM → Option (AObj × (Nat → Value)))
  | act (f : TM → AW → Out)
noncomputable def CF.ci : CF → CI
  | .rc f => .rd f
  | .rd f => .rd f
  | .mkc f => .mk f
  | .mk f => .mk f
  | .act f => .act f
noncomputable def CI.cf : CI → CF
  | .rd f => .rd f
  | .mk f => .mk f
  | .act f => .act f
structure QR where
  cf : CF
  dst : Option Path
  guard : Option (Path × Bool)
noncomputable def putD : Option Path → Value → TM → (TM → R2) → R2 := @Option.rec Path (fun _ => Value → TM → (TM → R2) → R2) (fun _ tm k => k tm) (fun p v tm k => sT p tm (some v) k)
noncomputable def putS : Option Path → Value → TM → (TM → R2) → R2 := @Option.rec Path (fun _ => Value → TM → (TM → R2) → R2) (fun _ tm k => k tm) (fun p v tm k => sF2 v fun v => sT p tm (some v) k)
noncomputable def finF : ORV → Option Path → TM → Nx → R2 := @Option.rec (Value × AW) (fun _ => Option Path → TM → Nx → R2) (fun _ _ _ => .no) (fun p dst tm ih => @Prod.rec Value AW (fun _ => Option Path → TM → Nx → R2) (fun v A dst tm ih => putD dst v tm fun tm => ih tm A) p dst tm ih)
noncomputable def newR (A : AW) (o : AObj) (k : Nat → AW → R2) : R2 := @AW.rec (fun _ => AObj → (Nat → AW → R2) → R2) (fun t nx o k =>
  @Bool.rec (fun _ => R2) .no (sOr (pathN nx) t (some o) fun t' => sN (Nat.succ nx) fun m => k nx ⟨t', m⟩) (Nat.ble (Nat.add nx 2) most)) A o k
noncomputable def outF : Out → CallF → Option Path → TM → Nx → R2 := @Out.rec (fun _ => CallF → Option Path → TM → Nx → R2) (fun v A _ dst tm ih => putS dst v tm fun tm => ih tm A) (fun g args A call dst tm ih => finF (call g args A) dst tm ih) (fun _ _ _ _ => .no)
noncomputable def ovR (s : Option Path → Value → TM → (TM → R2) → R2) : OV → Option Path → TM → AW → Nx → R2 := @Option.rec Value (fun _ => Option Path → TM → AW → Nx → R2) (fun _ _ _ _ => .no) (fun v dst tm A ih => s dst v tm fun tm => ih tm A)
noncomputable def exF : CF → Option Path → CallF → Nx → TM → AW → R2 := @CF.rec (fun _ => Option Path → CallF → Nx → TM → AW → R2)
  (fun f dst _ ih tm A => ovR putD (f tm A) dst tm A ih)
  (fun f dst _ ih tm A => ovR putS (f tm A) dst tm A ih)
  (fun f dst _ ih tm A => @Option.rec (AObj × (Nat → Value)) (fun _ => Option Path → Nx → TM → AW → R2) (fun _ _ _ _ => .no) (fun p dst ih tm A => @Prod.rec AObj (Nat → Value) (fun _ => Option Path → Nx → TM → AW → R2) (fun o g dst ih tm A => newR A o fun b A' => putS dst (g b) tm fun tm => ih tm A') p dst ih tm A) (f tm) dst ih tm A)
  (fun f dst call ih tm A => exec1 call (.mk f) dst tm A ih)
  (fun f dst call ih tm A => outF (f tm A) call dst tm ih)
noncomputable def wBV : Value → (Bool) → Bool := @Value.rec (fun _ => (Bool) → Bool) (fun _ => PUnit) (fun _ => PUnit)
  (fun b w => @Bool.rec (fun _ => Bool → Bool) (fun w => @Bool.rec (fun _ => Bool) true false w) (fun w => w) b w)
  (fun _ _ _ => false)
  (fun _ _ _ => false)
  (fun _ _ _ _ => false)
  (fun _ _ => false)
  (fun _ _ => false)
  (fun _ _ _ _ => false)
  (fun _ _ => false)
  (fun _ _ => false)
  (fun _ _ _ _ _ _ => false)
  (fun  _ => false)
  (fun _ _ _ _ => false)
  (fun  _ => false)
  (fun _ _ _ => false)
  (fun _ _ _ => false)
  (fun _ _ => .unit) .unit (fun _ _ _ _ => .unit)
noncomputable def wB (p : Path × Bool) (tm : TM) : Bool := @Prod.rec Path Bool (fun _ => TM → Bool) (fun p w tm => wBV (valF p tm) w) p tm
noncomputable def stepF : QR → CallF → Nx → Nx := @QR.rec (fun _ => CallF → Nx → Nx) (fun cf dst g call ih tm A =>
  @Option.rec (Path × Bool) (fun _ => CF → Option Path → CallF → Nx → TM → AW → R2) exF (fun p cf dst call ih tm A => @Bool.rec (fun _ => CF → Option Path → CallF → Nx → TM → AW → R2) (fun _ dst _ ih tm A => putD dst undef tm fun tm => ih tm A) exF (wB p tm) cf dst call ih tm A) g cf dst call ih tm A)
noncomputable def seqF (call : CallF) : List QR → Nx := @List.rec QR (fun _ => Nx) (fun tm A => .ok tm A) (fun c _ ih => stepF c call ih)
section
variable (P : Program) (ns : Nat)
noncomputable def ciBinF (o : Oper) (op : BinOp) (t : TypeId) (x y : CO) : Option CF :=
  match intOp op, fastOp op, under P t with
  | some f, some g, some (.int _) => some (.rc (orElseF (rdIntsF g f x y) (rdClosed P ns o)))
  | _, _, some (.int _) => match op with
    | .shr => some (.rc (orElseF (rdShrF x y) (rdClosed P ns o)))
    | _ => (ciBin P ns o op t x y).map CI.cf
  | _, _, _ => (ciBin P ns o op t x y).map CI.cf
noncomputable def partOfF (t : TypeId) (off : Nat) : Option (List Value → OV) := match isAggT P t, sizeT P t with
  | some true, some n => some (partNF n off)
  | some false, some _ => some (part1F off)
  | _, _ => none
noncomputable def cfOf (o : Oper) : Option CF :=
  match o.op with
  | .move x => some (.rc (rdMoveF (co ns x)))
  | .assign x => some (.rc (rdMoveF (co ns x)))
  | .pick c a b => some (.rc (rdPickF (co ns c) (co ns a) (co ns b)))
  | .alloc t => match zeroT P t with
    | some z => some (.mkc (mkAlloc t z))
    | none => none
  | .load t a => match isAggT P t, sizeT P t with
    | some true, some n => some (.rc (rdLoadNF n (co ns a)))
    | some false, _ => some (.rc (rdLoadF (co ns a)))
    | _, _ => none
  | .store t a x => match sizeT P t with
    | some n => some (.act (acStoreF n (co ns a) (co ns x)))
    | none => none
  | .nilCheck x => some (.rc (rdNilCheckF (co ns x)))
  | .binOp op t x y _ => ciBinF P ns o op t (co ns x) (co ns y)
  | .unOp op _ x => match op with
    | .not => some (.rc (rdNotF (co ns x)))
    | _ => (ci P ns o).map CI.cf
  | .convert src dst x => match under P src, under P dst with
    | some (.int _), some (.int k) => some (.rc (orElseF (rdConvF k (co ns x)) (rdClosed P ns o)))
    | _, _ => (ci P ns o).map CI.cf
  | .fieldAddr s x f => match under P s with
    | some (.struct fields) => match fields.toList[f]? with
      | some fd => match sizeT P fd.type with
        | some (_ + 1) => some (.rc (rdFieldF fd.offset (co ns x)))
        | _ => none
      | none => none
    | _ => none
  | .field t x f => match under P t with
    | some (.struct fields) => match fields.toList[f]? with
      | some fd => match partOfF P fd.type fd.offset with
        | some g => some (.rc (rdPartF g (co ns x)))
        | none => none
      | none => none
    | _ => none
  | .indexAddr t x i => match under P t with
    | some (.array len elem) => match sizeT P elem with
      | some size => some (.rc (rdIndexArrF len size (co ns x) (co ns i)))
      | none => none
    | some (.slice elem) => match sizeT P elem with
      | some size => some (.rc (rdIndexSlcF size (co ns x) (co ns i)))
      | none => none
    | _ => none
  | .extract t i => some (.rc (rdExtractF i (co ns t)))
  | .call c => match c.callee with
    | .value (.func f) => bif hasBody P f then some (.act (acCallF f (cos ns c.args))) else (ci P ns o).map CI.cf
    | .builtin b => match b, cos ns c.args, c.argTypes.toList with
      | .append, [s, x], [st, xt] => match under P st, under P xt with
        | some (.slice elem), some (.slice _) => match sizeT P elem, zeroT P elem with
          | some (size + 1), some z => match bytesT P elem with
            | some (b + 1) => bif Nat.ble b 1000000 && Nat.beq (cellsL z).length (size + 1) then some (.act (acAppendF elem (size + 1) s x)) else none
            | _ => none
          | _, _ => none
        | _, _ => (ci P ns o).map CI.cf
      | .len, [x], [t] => match under P t with
        | some (.slice _) => some (.rc (rdLenSF x))
        | _ => (ci P ns o).map CI.cf
      | _, _, _ => (ci P ns o).map CI.cf
    | _ => (ci P ns o).map CI.cf
  | _ => (ci P ns o).map CI.cf
noncomputable def qr (ops : List Oper) (o : Oper) : Option QR := match cfOf P ns o, guardOf ns ops o, pathO ns o.dst with
  | some c, some g, some d => bif o.op.operands.toList.all okO then some ⟨c, d, g⟩ else none
  | _, _, _ => none
noncomputable def qrs (ops : List Oper) : List Oper → Option (List QR)
  | [] => some []
  | o :: l => match qr P ns ops o, qrs ops l with
    | some c, some cs => some (c :: cs)
    | _, _ => none
end
noncomputable def seqR : R → Rec1 → Code → R := @R.rec (fun _ => Rec1 → Code → R) (fun tm A rec b => rec (.c b) tm A) (fun i tm A _ _ => .exit i tm A) (fun l tm A _ _ => .goto l tm A) (fun tm A _ _ => .ret tm A) (fun _ _ => .no)
noncomputable def blockR : R → Nat → R := @R.rec (fun _ => Nat → R) (fun tm A _ => .norm tm A) (fun j tm A i => @Bool.rec (fun _ => Nat → TM → AW → R) .exit (fun _ tm A => .norm tm A) (Nat.beq j i) j tm A) (fun l tm A _ => .goto l tm A) (fun tm A _ => .ret tm A) (fun _ => .no)
noncomputable def scopeR : R → Rec1 → Code → R := @R.rec (fun _ => Rec1 → Code → R) (fun tm A _ _ => .norm tm A) (fun i tm A _ _ => .exit i tm A)
  (fun l tm A rec whole => @Option.rec Code (fun _ => Nat → TM → AW → Rec1 → Code → R) (fun l tm A _ _ => .goto l tm A) (fun rest _ tm A rec whole => rec (.s whole rest) tm A) (findLabel whole l) l tm A rec whole) (fun tm A _ _ => .ret tm A) (fun _ _ => .no)
noncomputable def normF : R2 → R := @R2.rec (fun _ => R) .norm .no
noncomputable def regionF (call : CallF) (tm : TM) (A : AW) (o : Option (List QR)) : R := @Option.rec (List QR) (fun _ => CallF → TM → AW → R) (fun _ _ _ => .no) (fun l call tm A => normF (seqF call l tm A)) o call tm A
noncomputable def condV : Value → (Rec1) → (Code) → (Code) → (TM) → (AW) → R := @Value.rec (fun _ => (Rec1) → (Code) → (Code) → (TM) → (AW) → R) (fun _ => PUnit) (fun _ => PUnit)
  (fun c rec a b tm A => @Bool.rec (fun _ => Rec1 → Code → Code → TM → AW → R) (fun rec _ b tm A => rec (.c b) tm A) (fun rec a _ tm A => rec (.c a) tm A) c rec a b tm A)
  (fun _ _ _ _ _ _ _ => .no)
  (fun _ _ _ _ _ _ _ => .no)
  (fun _ _ _ _ _ _ _ _ => .no)
  (fun _ _ _ _ _ _ => .no)
  (fun _ _ _ _ _ _ => .no)
  (fun _ _ _ _ _ _ _ _ => .no)
  (fun _ _ _ _ _ _ => .no)
  (fun _ _ _ _ _ _ => .no)
  (fun _ _ _ _ _ _ _ _ _ _ => .no)
  (fun  _ _ _ _ _ => .no)
  (fun _ _ _ _ _ _ _ _ => .no)
  (fun  _ _ _ _ _ => .no)
  (fun _ _ _ _ _ _ _ => .no)
  (fun _ _ _ _ _ _ _ => .no)
  (fun _ _ => .unit) .unit (fun _ _ _ _ => .unit)
noncomputable def condR (x : Operand) (ns : Nat) (tm : TM) (rec : Rec1) (a b : Code) (A : AW) : R := @Bool.rec (fun _ => R) .no (condV (evF (co ns x) tm) rec a b tm A) (okO x)
abbrev JT := Program → Nat → CallF → Rec1 → TM → AW → R
noncomputable def codeF : Code → JT := @Code.rec (fun _ => JT)
  (fun _ _ _ _ tm A => .norm tm A)
  (fun _ ops d P ns call _ tm A => @Bool.rec (fun _ => Array Oper → Program → Nat → CallF → TM → AW → R) (fun ops P ns call tm A => regionF call tm A (qrs P ns ops.toList ops.toList)) (fun ops P ns call tm A => doDrawn call tm A (cd P ns ops (masks ops.toList []))) d ops P ns call tm A)
  (fun a b _ _ _ _ _ rec tm A => seqR (rec (.c a) tm A) rec b)
  (fun x a b _ _ _ ns _ rec tm A => condR x ns tm rec a b A)
  (fun i b _ _ _ _ rec tm A => blockR (rec (.c b) tm A) i)
  (fun b _ _ _ _ rec tm A => seqR (rec (.c b) tm A) rec (.loop b))
  (fun _ _ _ _ _ _ _ _ _ _ _ _ => .no)
  (fun i _ _ _ _ tm A => .exit i tm A)
  (fun b _ _ _ _ rec tm A => scopeR (rec (.c b) tm A) rec b)
  (fun _ _ _ _ _ tm A => .norm tm A)
  (fun l _ _ _ _ tm A => .goto l tm A)
  (fun _ _ _ _ tm A => .ret tm A)
  (fun _ _ _ _ _ _ _ => .no)
noncomputable def jobF : Job → JT := @Job.rec (fun _ => JT) codeF (fun whole b _ _ _ rec tm A => scopeR (rec (.c b) tm A) rec whole)
noncomputable def runF (P : Program) (ns : Nat) (call : CallF) : Nat → Rec1 := @Nat.rec (fun _ => Rec1) (fun _ _ _ => .no) (fun _ ih j => jobF j P ns call ih)
/- Calls. -/
noncomputable def consR (k : List Value → ORV) (v : Value) (l : List Value) : ORV := k (v :: l)
noncomputable def entF : List Value → Nat → TM → (TM → ORV) → ORV := @List.rec Value (fun _ => Nat → TM → (TM → ORV) → ORV) (fun _ tm k => k tm) (fun v _ ih i tm k => sTr (pathN i) tm (some v) fun tm => ih (Nat.succ i) tm k)
noncomputable def cellV (P : Program) (ns a t : Nat) : TM → AW → OV := match isAggT P t, sizeT P t with
  | some true, some n => rdLoadNF n (co ns (.tmp a))
  | some false, _ => rdLoadF (co ns (.tmp a))
  | _, _ => fun _ _ => none
noncomputable def ovK : OV → (List Value → ORV) → ((List Value → ORV) → ORV) → ORV := @Option.rec Value (fun _ => (List Value → ORV) → ((List Value → ORV) → ORV) → ORV) (fun _ _ => none) (fun v k g => g (consR k v))
noncomputable def resF (P : Program) (ns : Nat) : List ResultVar → TM → AW → (List Value → ORV) → ORV := @List.rec ResultVar (fun _ => TM → AW → (List Value → ORV) → ORV) (fun _ _ k => k [])
  (fun rv _ ih tm A k => @ResultVar.rec (fun _ => (TM → AW → (List Value → ORV) → ORV) → TM → AW → (List Value → ORV) → ORV) (fun t ih tm A k => ovK (evO (co ns (.tmp t)) tm) k (ih tm A)) (fun a t ih tm A k => ovK (cellV P ns a t tm A) k (ih tm A)) rv ih tm A k)
noncomputable def doneF (P : Program) (fn : Func) (tm : TM) (A : AW) : ORV := resF P fn.ntmps fn.results.toList tm A fun vs => some (tupled vs, A)
noncomputable def endsF (P : Program) (fn : Func) : R → ORV := @R.rec (fun _ => ORV) (fun tm A => doneF P fn tm A) (fun _ _ _ => none) (fun _ _ _ => none) (fun tm A => doneF P fn tm A) none
noncomputable def bodyF (P : Program) (fn : Func) : Option Code → CallF → List Value → AW → ORV := @Option.rec Code (fun _ => CallF → List Value → AW → ORV) (fun _ _ _ => none) (fun b call args A =>
  @Bool.rec (fun _ => ORV) none (entF args 0 .nil fun tm => endsF P fn (runF P fn.ntmps call 1000000 (.c b) tm A)) (@Bool.rec (fun _ => Bool) false (Nat.ble (lenF args) fn.ntmps) (Nat.ble fn.ntmps 281474976710600)))
noncomputable def enterFF (P : Program) : Option Func → CallF → List Value → AW → ORV := @Option.rec Func (fun _ => CallF → List Value → AW → ORV) (fun _ _ _ => none) (fun fn call args A => bodyF P fn fn.body call args A)
noncomputable def callF (P : Program) (orc : Orc) : Nat → CallF := @Nat.rec (fun _ => CallF) (fun _ _ _ => none)
  (fun _ ih f args A => @Option.rec CallF (fun _ => CallF → FuncId → List Value → AW → ORV) (fun ih f args A => enterFF P P.funcs[f]? ih args A) (fun g _ f args A => g f args A) (orc f) ih f args A)
end Ev
end Go.Proofs.YtiglblfjmmdeeaaGreat

/- The quick evaluator is the evaluator: tries, what is worked out first, reads. -/
namespace Go.Proofs.YtiglblfjmmdeeaaGreat
namespace Ev

theorem gV_eq : ∀ (p : Path) (t : TM), gV p t = Tr.get t p
  | [], t => by cases t <;> rfl
  | b :: p, t => by
    cases t with
    | nil => rfl
    | node l v r => cases b <;> first | exact gV_eq p r | exact gV_eq p l
theorem gO_eq : ∀ (p : Path) (t : Tr AObj), gO p t = Tr.get t p
  | [], t => by cases t <;> rfl
  | b :: p, t => by
    cases t with
    | nil => rfl
    | node l v r => cases b <;> first | exact gO_eq p r | exact gO_eq p l
theorem pathR_eq : ∀ (f n : Nat), pathR f n = pathF f n
  | 0, _ => rfl
  | f + 1, 0 => rfl
  | f + 1, n + 1 => by
    show Nat.beq (n % 2) 0 :: pathR f (n / 2) = _
    rw [pathR_eq f]
    rfl
theorem pathN_eq (n : Nat) : pathN n = path n := pathR_eq 48 n
theorem sT_eq (v : OV) : ∀ (p : Path) (t : TM) (k : TM → R2), sT p t v k = Tr.setK v p t k
  | [], t, k => by cases t <;> rfl
  | b :: p, t, k => by
    cases t with
    | nil => cases b <;> first | exact sT_eq v p .nil _ | exact sT_eq v p .nil _
    | node l x r => cases b <;> first | exact sT_eq v p r _ | exact sT_eq v p l _
theorem sTr_eq (v : OV) : ∀ (p : Path) (t : TM) (k : TM → ORV), sTr p t v k = Tr.setK v p t k
  | [], t, k => by cases t <;> rfl
  | b :: p, t, k => by
    cases t with
    | nil => cases b <;> first | exact sTr_eq v p .nil _ | exact sTr_eq v p .nil _
    | node l x r => cases b <;> first | exact sTr_eq v p r _ | exact sTr_eq v p l _
theorem sO_eq (v : Option AObj) : ∀ (p : Path) (t : Tr AObj) (k : Tr AObj → Out), sO p t v k = Tr.setK v p t k
  | [], t, k => by cases t <;> rfl
  | b :: p, t, k => by
    cases t with
    | nil => cases b <;> first | exact sO_eq v p .nil _ | exact sO_eq v p .nil _
    | node l x r => cases b <;> first | exact sO_eq v p r _ | exact sO_eq v p l _
theorem sOr_eq (v : Option AObj) : ∀ (p : Path) (t : Tr AObj) (k : Tr AObj → R2), sOr p t v k = Tr.setK v p t k
  | [], t, k => by cases t <;> rfl
  | b :: p, t, k => by
    cases t with
    | nil => cases b <;> first | exact sOr_eq v p .nil _ | exact sOr_eq v p .nil _
    | node l x r => cases b <;> first | exact sOr_eq v p r _ | exact sOr_eq v p l _
theorem valF_eq (p : Path) (tm : TM) : valF p tm = tm.val p := by unfold valF TM.val; rw [gV_eq]
theorem evF_eq (x : CO) (tm : TM) : evF x tm = x.ev tm := by cases x <;> first | exact valF_eq _ _ | exact rfl
theorem orU_eq (o : OV) : orU o = some (Option.rec (motive := fun _ => Value) undef (fun v => v) o) := by cases o <;> rfl
theorem evO_eq (x : CO) (tm : TM) : evO x tm = some (x.ev tm) := by
  cases x
  · rename_i p
    show orU (gV p tm) = some (tm.val p)
    rw [orU_eq, gV_eq]
    rfl
  · rfl
theorem getF_eq (A : AW) (b : Nat) : getF A b = A.get b := by
  cases A
  show gO (pathN b) _ = Tr.get _ (path b)
  rw [gO_eq, pathN_eq]
theorem sN_eq (n : Nat) (k : Nat → R2) : sN n k = k n := by cases n <;> rfl
theorem sNO_eq (n : Nat) (k : Nat → OV) : sNO n k = k n := by cases n <;> rfl
theorem sNo_eq (n : Nat) (k : Nat → Out) : sNo n k = k n := by cases n <;> rfl
theorem sI_eq (n : Int) (k : Int → R2) : sI n k = k n := by cases n <;> first | exact sN_eq _ _ | exact sN_eq _ _
theorem sAd_eq (a : Addr) (k : Addr → R2) : sAd a k = k a := by
  cases a
  show sN _ (fun b => sN _ fun o => _) = _
  rw [sN_eq, sN_eq]
theorem sPt_eq (a : Option Addr) (k : Option Addr → R2) : sPt a k = k a := by
  cases a with
  | none => rfl
  | some a => exact sAd_eq a fun a => k (some a)
theorem sMp_eq (a : Option Nat) (k : Option Nat → R2) : sMp a k = k a := by
  cases a with
  | none => rfl
  | some a => exact sN_eq a fun a => k (some a)
theorem sF0_eq (v : Value) (k : Value → R2) : sF0 v k = k v := by
  cases v with
  | bool b => cases b <;> rfl
  | int d n => exact sI_eq _ _
  | string s => exact sBytes_eq _ _
  | pointer a => exact sPt_eq _ _
  | slice a n c =>
    show sPt a (fun a => sN n fun n => sN c fun c => k (.slice a n c)) = _
    rw [sPt_eq, sN_eq, sN_eq]
  | map r => exact sMp_eq _ _
  | _ => rfl
theorem sL0_eq : ∀ (l : List Value) (k : List Value → R2), sL0 l k = k l
  | [], _ => rfl
  | v :: l, k => by
    show sF0 v (fun v => sL0 l (consF k v)) = _
    rw [sF0_eq, sL0_eq l]
    rfl
theorem sF1_eq (v : Value) (k : Value → R2) : sF1 v k = k v := by
  cases v with
  | bool b => cases b <;> rfl
  | int d n => exact sI_eq _ _
  | string s => exact sBytes_eq _ _
  | pointer a => exact sPt_eq _ _
  | slice a n c =>
    show sPt a (fun a => sN n fun n => sN c fun c => k (.slice a n c)) = _
    rw [sPt_eq, sN_eq, sN_eq]
  | map r => exact sMp_eq _ _
  | func fn a b =>
    show sL0 a.toList (fun a => sL0 b.toList fun b => k (.func fn ⟨a⟩ ⟨b⟩)) = _
    rw [sL0_eq, sL0_eq]
  | iface t v => exact sF0_eq _ _
  | agg cs => exact sL0_eq _ _
  | tuple cs => exact sL0_eq _ _
  | _ => rfl
theorem sL1_eq : ∀ (l : List Value) (k : List Value → R2), sL1 l k = k l
  | [], _ => rfl
  | v :: l, k => by
    show sF1 v (fun v => sL1 l (consF k v)) = _
    rw [sF1_eq, sL1_eq l]
    rfl
theorem sF2_eq (v : Value) (k : Value → R2) : sF2 v k = k v := by
  cases v with
  | bool b => cases b <;> rfl
  | int d n => exact sI_eq _ _
  | string s => exact sBytes_eq _ _
  | pointer a => exact sPt_eq _ _
  | slice a n c =>
    show sPt a (fun a => sN n fun n => sN c fun c => k (.slice a n c)) = _
    rw [sPt_eq, sN_eq, sN_eq]
  | map r => exact sMp_eq _ _
  | func fn a b =>
    show sL1 a.toList (fun a => sL1 b.toList fun b => k (.func fn ⟨a⟩ ⟨b⟩)) = _
    rw [sL1_eq, sL1_eq]
  | iface t v => exact sF1_eq _ _
  | agg cs => exact sL1_eq _ _
  | tuple cs => exact sL1_eq _ _
  | _ => rfl
/- Rows. -/
theorem nth_eq : ∀ (l : List Value) (o : Nat), nth l o = l[o]?
  | [], o => by cases o <;> rfl
  | v :: l, 0 => rfl
  | v :: l, o + 1 => nth_eq l o
theorem takeT_eq (base : List Value) : ∀ (n : Nat) (c : List Value) (k : List Value → OL), takeT base n c k = bif Nat.ble n c.length then k (c.take n ++ base) else none
  | 0, c, k => by
    show k base = _
    cases c <;> rfl
  | n + 1, [], k => rfl
  | n + 1, v :: c, k => by
    show takeT base n c (consL k v) = _
    rw [takeT_eq base n c]
    rfl
theorem dropT_eq (base : List Value) (n : Nat) : ∀ (o : Nat) (c : List Value), dropT base n o c = bif Nat.ble (o + n) c.length then some ((c.drop o).take n ++ base) else none
  | 0, c => by
    show takeT base n c some = _
    rw [takeT_eq, Nat.zero_add]
    rfl
  | o + 1, [] => by
    have : Nat.ble (o + 1 + n) ([] : List Value).length = false := by rw [Nat.add_right_comm]; rfl
    rw [this]
    rfl
  | o + 1, v :: c => by
    show dropT base n o c = _
    rw [dropT_eq base n o c, Nat.add_right_comm]
    rfl
theorem cellAtF_eq (A : AW) (b o : Nat) : cellAtF A b o = cellAt A b o := by
  unfold cellAtF cellAt
  rw [getF_eq]
  cases A.get b with
  | none => rfl
  | some ob => cases ob <;> first | exact nth_eq _ _ | exact rfl
theorem cellsF_eq (A : AW) (b o n : Nat) : cellsF [] A b o n = cellsAt A b o n := by
  unfold cellsF cellsAt
  rw [getF_eq]
  cases A.get b with
  | none => rfl
  | some ob =>
    cases ob
    · refine (dropT_eq _ _ _ _).trans ?_
      rw [List.append_nil]
    · rfl
theorem cellsF_base (base : List Value) (A : AW) (b o n : Nat) : cellsF base A b o n = (cellsAt A b o n).map (· ++ base) := by
  unfold cellsF cellsAt
  rw [getF_eq]
  cases A.get b with
  | none => rfl
  | some ob =>
    cases ob
    · rename_i c e
      refine (dropT_eq _ _ _ _).trans ?_
      show _ = Option.map _ (bif Nat.ble (o + n) c.length then some ((c.drop o).take n) else none)
      cases Nat.ble (o + n) c.length <;> rfl
    · rfl
theorem aggF_eq (o : OL) : aggF o = aggOf o := by cases o <;> rfl
/- Reads. -/
theorem rdMoveF_eq : rdMoveF = rdMove := by funext x tm A; exact evO_eq x tm
theorem rdPickF_eq : rdPickF = rdPick := by
  funext c a b tm A
  unfold rdPickF rdPick
  rw [evF_eq, evO_eq, evO_eq]
  cases c.ev tm with
  | bool x => cases x <;> rfl
  | _ => rfl
theorem vP_eq {v : Value} {f : Nat → Nat → OV} : vP v f none = match v with
  | .pointer (some ⟨b, o, none⟩) => f b o
  | _ => none := by
  cases v with
  | pointer a =>
    cases a with
    | none => rfl
    | some a =>
      obtain ⟨b, o, s⟩ := a
      cases s <;> rfl
  | _ => rfl
theorem rdLoadF_eq : rdLoadF = rdLoad := by
  funext a tm A
  unfold rdLoadF rdLoad
  rw [vP_eq, evF_eq]
  generalize a.ev tm = v
  split
  · exact cellAtF_eq _ _ _
  · rename_i h
    split
    · exact absurd rfl (h _ _)
    · rfl
theorem rdLoadNF_eq : rdLoadNF = rdLoadN := by
  funext n a tm A
  unfold rdLoadNF rdLoadN
  rw [vP_eq, evF_eq]
  generalize a.ev tm = v
  split
  · rw [aggF_eq, cellsF_eq]
  · rename_i h
    split
    · exact absurd rfl (h _ _)
    · rfl
theorem rdFieldF_eq : rdFieldF = rdField := by
  funext off a tm A
  unfold rdFieldF rdField
  rw [vP_eq, evF_eq]
  generalize a.ev tm = v
  split
  · exact sNO_eq _ _
  · rename_i h
    split
    · exact absurd rfl (h _ _)
    · rfl
theorem vN_eq {v : Value} {f : IntKind → Nat → OV} {d : OV} : vN v f d = match v with
  | .int k (.ofNat n) => f k n
  | _ => d := by
  cases v with
  | int k n => cases n <;> rfl
  | _ => rfl
theorem vS_eq {v : Value} {f : Nat → Nat → Nat → Nat → OV} : vS v f none = match v with
  | .slice (some ⟨b, o, none⟩) n k => f b o n k
  | _ => none := by
  cases v with
  | slice a n c =>
    cases a with
    | none => rfl
    | some a =>
      obtain ⟨b, o, s⟩ := a
      cases s <;> rfl
  | _ => rfl
theorem boolrec_eq {b : Bool} {x y : OV} : @Bool.rec (fun _ => OV) x y b = bif b then y else x := by cases b <;> rfl
theorem rdIndexArrF_eq : rdIndexArrF = rdIndexArr := by
  funext len size x i tm A
  unfold rdIndexArrF rdIndexArr
  simp only [vN_eq, vP_eq, evF_eq, sNO_eq, boolrec_eq]
  cases i.ev tm with
  | int k n =>
    cases n with
    | ofNat n =>
      show (match x.ev tm with
        | .pointer (some ⟨b, o, none⟩) => bif Nat.ble n.succ len then some (aptr b (Nat.add o (Nat.mul n size))) else none
        | _ => none) = _
      split
      · rename_i h; rw [h]; rfl
      · rename_i h
        split
        · rename_i h1 h2; exact absurd h2 (h _ _)
        · rfl
    | negSucc n => rfl
  | _ => rfl
theorem rdIndexSlcF_eq : rdIndexSlcF = rdIndexSlc := by
  funext size x i tm A
  unfold rdIndexSlcF rdIndexSlc
  simp only [vN_eq, vS_eq, evF_eq, sNO_eq, boolrec_eq]
  cases i.ev tm with
  | int k n =>
    cases n with
    | ofNat n =>
      show (match x.ev tm with
        | .slice (some ⟨b, o, none⟩) len _ => bif Nat.ble n.succ len then some (aptr b (Nat.add o (Nat.mul n size))) else none
        | _ => none) = _
      split
      · rename_i h; rw [h]; rfl
      · rename_i h
        split
        · rename_i h1 h2; exact absurd h2 (h _ _ _ _)
        · rfl
    | negSucc n => rfl
  | _ => rfl
theorem rdNilCheckF_eq : rdNilCheckF = rdNilCheck := by
  funext x tm A
  unfold rdNilCheckF rdNilCheck
  rw [evF_eq]
  cases x.ev tm with
  | pointer a => cases a <;> rfl
  | func f a b => cases f <;> rfl
  | _ => rfl
theorem rdNotF_eq : rdNotF = rdNot := by
  funext x tm A
  unfold rdNotF rdNot
  rw [evF_eq]
  cases x.ev tm with
  | bool b => cases b <;> rfl
  | _ => rfl
theorem part1F_eq : part1F = part1 := by funext off cs; exact nth_eq cs off
theorem partNF_eq : partNF = partN := by
  funext n off cs
  unfold partNF partN
  rw [aggF_eq, dropT_eq]
  cases Nat.ble (off + n) cs.length
  · rfl
  · simp [aggOf]
theorem rdPartF_eq : rdPartF = rdPart := by
  funext f x tm A
  unfold rdPartF rdPart
  rw [evF_eq]
  cases x.ev tm <;> rfl
theorem rdExtractF_eq : rdExtractF = rdExtract := by
  funext i x tm A
  unfold rdExtractF rdExtract
  rw [evF_eq]
  cases x.ev tm with
  | tuple vs => exact nth_eq _ _
  | _ => rfl
theorem orElseF_eq : orElseF = orElse := by
  funext f g tm A
  unfold orElseF orElse
  cases f tm A <;> rfl
end Ev
end Go.Proofs.YtiglblfjmmdeeaaGreat

/- The quick evaluator is the evaluator: ints, what acts. -/
namespace Go.Proofs.YtiglblfjmmdeeaaGreat
namespace Ev

theorem boolrec_any {α : Type} {b : Bool} {x y : α} : @Bool.rec (fun _ => α) x y b = bif b then y else x := by cases b <;> rfl
theorem ble63 (s : Nat) : Nat.ble s 9223372036854775807 = Nat.blt s 9223372036854775808 := by
  rw [Bool.eq_iff_iff]
  unfold Nat.blt
  rw [Nat.ble_eq, Nat.ble_eq]
  omega
theorem ble_not (m n : Nat) : Nat.ble m n = !Nat.blt n m := by
  unfold Nat.blt
  rw [Bool.eq_iff_iff, Bool.not_eq_true', ← Bool.not_eq_true]
  rw [Nat.ble_eq, Nat.ble_eq]
  omega
theorem ovB_eq (b : Bool) : ovB b = some (.bool b) := by cases b <;> rfl
theorem wrN_eq (k : IntKind) (s : Nat) : wrN k s (some (.int k (wrapI k (.ofNat s)))) = some (.int k (wrapI k (.ofNat s))) := by
  cases k with
  | i64 =>
    show i64F s _ = _
    unfold i64F
    rw [boolrec_any, sNO_eq, ble63]
    cases h : Nat.blt s 9223372036854775808
    · rfl
    · simp only [wrapI, h, cond_true]
  | u8 => exact sNO_eq _ _
  | u32 => exact sNO_eq _ _
  | u64 => exact sNO_eq _ _
  | _ => rfl
/-- A quick way of two ints. -/
def IOk (g : IF) (f : IntKind → Int → Int → Option Value) : Prop := ∀ k m n, g k m n (f k (.ofNat m) (.ofNat n)) = f k (.ofNat m) (.ofNat n)
theorem add_ok : IOk addF fun k a b => some (.int k (wrapI k (a + b))) := fun k m n => wrN_eq k (m + n)
theorem mul_ok : IOk mulF fun k a b => some (.int k (wrapI k (a * b))) := fun k m n => wrN_eq k (m * n)
theorem sub_ok : IOk subF fun k a b => some (.int k (wrapI k (a - b))) := by
  intro k m n
  unfold subF
  rw [boolrec_any]
  cases h : Nat.ble n m
  · rfl
  · have := Nat.le_of_ble_eq_true h
    have e : (Int.ofNat m - Int.ofNat n) = Int.ofNat (m - n) := (Int.ofNat_sub this).symm
    show wrN k (m - n) (some (.int k (wrapI k (Int.ofNat m - Int.ofNat n)))) = some (.int k (wrapI k (Int.ofNat m - Int.ofNat n)))
    rw [e]
    exact wrN_eq k (m - n)
theorem eql_ok : IOk eqlF fun _ a b => some (.bool (eqI a b)) := fun _ _ _ => ovB_eq _
theorem neq_ok : IOk neqF fun _ a b => some (.bool (!eqI a b)) := by
  intro k m n
  unfold neqF
  show _ = some (Value.bool (!Nat.beq m n))
  cases Nat.beq m n <;> rfl
theorem lss_ok : IOk lssF fun _ a b => some (.bool (ltI a b)) := fun _ _ _ => ovB_eq _
theorem leq_ok : IOk leqF fun _ a b => some (.bool (!ltI b a)) := fun _ m n => (ovB_eq _).trans (by rw [ble_not]; rfl)
theorem gtr_ok : IOk gtrF fun _ a b => some (.bool (ltI b a)) := fun _ _ _ => ovB_eq _
theorem geq_ok : IOk geqF fun _ a b => some (.bool (!ltI a b)) := fun _ m n => (ovB_eq _).trans (by rw [ble_not]; rfl)
theorem kNo_inj {k l : IntKind} (h : Nat.beq (kNo k) (kNo l) = true) : k = l := by
  have := Nat.eq_of_beq_eq_true h
  cases k <;> cases l <;> first | rfl | exact absurd this (by decide)
theorem rdIntsF_eq {g : IF} {f : IntKind → Int → Int → Option Value} (h : IOk g f) : rdIntsF g f = rdInts f := by
  funext x y tm A
  unfold rdIntsF
  rw [vN_eq, evF_eq, evF_eq]
  split
  · rename_i k m hx
    rw [vN_eq]
    split
    · rename_i l n hy
      rw [boolrec_any]
      cases hk : Nat.beq (kNo k) (kNo l)
      · rfl
      · obtain rfl := kNo_inj hk
        have : rdInts f x y tm A = f k (.ofNat m) (.ofNat n) := by
          unfold rdInts
          rw [hx, hy]
          simp
        rw [this]
        exact h k m n
    · rfl
  · rfl
theorem rdConvF_eq : rdConvF = rdConv := by
  funext k x tm A
  unfold rdConvF
  rw [vN_eq, evF_eq]
  split
  · rename_i l n hx
    have : rdConv k x tm A = some (.int k (wrapI k (.ofNat n))) := by unfold rdConv; rw [hx]
    rw [this]
    exact wrN_eq k n
  · rfl
theorem kBits_eq (k : IntKind) : kBits k = k.bits := by cases k <;> rfl
theorem rdShrF_eq : rdShrF = rdShr := by
  funext x y tm A
  unfold rdShrF
  rw [vN_eq, evF_eq, evF_eq]
  split
  · rename_i k m hx
    rw [vN_eq]
    split
    · rename_i l n hy
      rw [boolrec_any, kBits_eq, sNO_eq]
      cases hk : Nat.ble n k.bits
      · rfl
      · unfold rdShr
        rw [hx, hy]
        simp only [hk, cond_true]
        rfl
    · rfl
  · rfl
theorem rdLenSF_eq (t : TypeId) : rdLenSF = rdLen (.slice t) := by
  funext x tm A
  unfold rdLenSF rdLen
  rw [evF_eq]
  cases x.ev tm <;> rfl
/- What acts. -/
theorem vPo_eq {v : Value} {f : Nat → Nat → Out} : vPo v f .no = match v with
  | .pointer (some ⟨b, o, none⟩) => f b o
  | _ => .no := by
  cases v with
  | pointer a =>
    cases a with
    | none => rfl
    | some a =>
      obtain ⟨b, o, s⟩ := a
      cases s <;> rfl
  | _ => rfl
theorem lenF_eq : ∀ l : List Value, lenF l = l.length
  | [] => rfl
  | _ :: l => congrArg Nat.succ (lenF_eq l)
theorem atomF_eq (v : Value) : atomF v () = atomB v := by cases v <;> rfl
theorem allAt_eq : ∀ l : List Value, allAt l = l.all atomB
  | [] => rfl
  | v :: l => by
    show @Bool.rec (fun _ => Bool) false (allAt l) (atomF v ()) = _
    rw [allAt_eq l, atomF_eq, List.all_cons]
    cases atomB v <;> rfl
theorem stV_eq (v : Value) (n : Nat) (k : List Value → Out) : stV v n k = bif Nat.beq (cellsL v).length n then k (cellsL v) else .no := by
  cases v with
  | agg cs =>
    show @Bool.rec (fun _ => Out) .no (k cs.toList) (Nat.beq (lenF cs.toList) n) = bif Nat.beq cs.toList.length n then k cs.toList else .no
    rw [lenF_eq, boolrec_any]
  | _ => exact boolrec_any
theorem ovF_eq : ∀ (cs c : List Value) (k : List Value → Out), ovF cs c k = overK .no cs c k
  | [], _, _ => rfl
  | v :: cs, c, k => by
    cases c with
    | nil => rfl
    | cons x c =>
      show ovF cs c (consO k v) = sV0 v fun v => overK .no cs c (consK k v)
      rw [sV0_eq, ovF_eq cs c]
      rfl
theorem splF_eq (cs : List Value) : ∀ (o : Nat) (c : List Value) (k : List Value → Out), splF cs o c k = splK .no cs o c k
  | 0, c, k => ovF_eq cs c k
  | _ + 1, [], _ => rfl
  | o + 1, v :: c, k => splF_eq cs o c (consO k v)
theorem wrA_eq (v : Value) (A : AW) (b o : Nat) (cs : List Value) : wrA v A b o cs = valA v (wr A b o cs) := by
  unfold wrA
  rw [boolrec_any, allAt_eq]
  obtain ⟨t, nx⟩ := A
  have e : (AW.mk t nx).get b = gO (pathN b) t := by rw [gO_eq, pathN_eq]; rfl
  show (bif cs.all atomB then @Option.rec AObj (fun _ => Tr AObj → Nat → Value → Nat → Nat → List Value → Out) (fun _ _ _ _ _ _ => .no) (fun ob t nx v b o cs => @AObj.rec (fun _ => Tr AObj → Nat → Value → Nat → Nat → List Value → Out) (fun c e t nx v b o cs => splF cs o c fun c' => sO (pathN b) t (some (.row c' e)) fun t' => .val v ⟨t', nx⟩) (fun _ _ _ _ _ _ _ _ => .no) ob t nx v b o cs) (gO (pathN b) t) t nx v b o cs else .no) = _
  unfold wr
  rw [e]
  cases gO (pathN b) t with
  | none => cases cs.all atomB <;> rfl
  | some ob =>
    cases ob with
    | map es c => cases cs.all atomB <;> rfl
    | row c e =>
      cases cs.all atomB with
      | false => rfl
      | true =>
        show (splF cs o c fun c' => sO (pathN b) t (some (.row c' e)) fun t' => .val v ⟨t', nx⟩) = valA v (splK none cs o c fun c' => some ((AW.mk t nx).upd b (some (.row c' e))))
        rw [splF_eq, spl_eq, spl_eq]
        by_cases h : o + cs.length ≤ c.length
        · rw [if_pos h, if_pos h, valA_some, sO_eq, pathN_eq, setK_eq]
          unfold AW.upd
          rw [setK_eq _ _ _ (fun t' => (⟨t', _⟩ : AW))]
        · rw [if_neg h, if_neg h]
          rfl
theorem acStoreF_eq : acStoreF = acStore := by
  funext n a x tm A
  unfold acStoreF acStore
  rw [vPo_eq, evF_eq, evF_eq]
  generalize a.ev tm = v
  split
  · rw [stV_eq, wrA_eq]
  · rename_i h
    split
    · exact absurd rfl (h _ _)
    · rfl
theorem evsO_eq (tm : TM) : ∀ (l : List CO) (k : List Value → Out), evsO l tm k = k (l.map (·.ev tm))
  | [], _ => rfl
  | x :: l, k => by
    show @Option.rec Value (fun _ => (TM → (List Value → Out) → Out) → TM → (List Value → Out) → Out) (fun _ _ _ => .no) (fun v ih tm k => ih tm (consO k v)) (evO x tm) (evsO l) tm k = _
    rw [evO_eq]
    show evsO l tm (consO k (x.ev tm)) = _
    rw [evsO_eq tm l]
    rfl
theorem acCallF_eq : acCallF = acCall := by
  funext f args tm A
  unfold acCallF acCall
  rw [evsO_eq]
theorem newF_eq (e : TypeId) (f : Nat → Value) (A : AW) (cs : List Value) : newF e f A cs = newRow e f cs A := by
  obtain ⟨t, nx⟩ := A
  unfold newRow
  rw [sL_eq sV0_eq]
  unfold AW.new
  show @Bool.rec (fun _ => Out) .no (sO (pathN nx) t (some (.row cs e)) fun t' => sNo (Nat.succ nx) fun m => .val (f nx) ⟨t', m⟩) (Nat.ble (Nat.add nx 2) most) = _
  rw [boolrec_any]
  show (bif Nat.ble (nx + 2) most then _ else _) = _
  cases Nat.ble (nx + 2) most with
  | false => rfl
  | true =>
    simp only [cond_true, sO_eq, pathN_eq, sNo_eq, sNat_eq]
    rw [setK_eq, setK_eq _ _ _ (fun t => some (nx, (⟨t, nx + 1⟩ : AW)))]
theorem olO_eq (l : OL) (f : List Value → Out) : olO l f = match l with
  | some l => f l
  | none => .no := by cases l <;> rfl
theorem killF_eq (A : AW) (k b : Nat) (g : AW → Out) : killF A k b g = g (bif Nat.beq (k % 2) 1 then A else A.upd b none) := by
  unfold killF
  rw [boolrec_any]
  show (bif Nat.beq (k % 2) 1 then _ else _) = _
  cases Nat.beq (k % 2) 1 with
  | true => rfl
  | false =>
    obtain ⟨t, nx⟩ := A
    show (sO (pathN b) t none fun t' => g ⟨t', nx⟩) = g ((AW.mk t nx).upd b none)
    rw [sO_eq, pathN_eq, setK_eq]
    unfold AW.upd
    rw [setK_eq _ _ _ (fun t' => (⟨t', _⟩ : AW))]
theorem appS_eq (elem size m : Nat) (new : List Value) (A : AW) (b o n k : Nat) : appS elem size m new A b o n k = appendTo elem size (.slice (some ⟨b, o, none⟩) n k) m new A := by
  unfold appS appendTo
  simp only [boolrec_any, sNo_eq, wrA_eq, newF_eq, killF_eq, olO_eq, cellsF_base]
  show (bif Nat.ble (n + m) (k / 2) then valA (aslc b o (n + m) k) (wr A b (o + n * size) new) else _) = _
  cases Nat.ble (n + m) (k / 2) with
  | true => rfl
  | false =>
    show (bif (bif Nat.ble n bigN then bif Nat.ble k bigN then elemOk A b elem k else false else false) then _ else _) = bif (Nat.ble n bigN && Nat.ble k bigN && elemOk A b elem k) then _ else _
    have e : (bif Nat.ble n bigN then bif Nat.ble k bigN then elemOk A b elem k else false else false) = (Nat.ble n bigN && Nat.ble k bigN && elemOk A b elem k) := by
      cases Nat.ble n bigN <;> cases Nat.ble k bigN <;> rfl
    rw [e]
    cases (Nat.ble n bigN && Nat.ble k bigN && elemOk A b elem k) with
    | false => rfl
    | true =>
      show (match Option.map (· ++ new) (cellsAt A b o (n * size)) with | some l => _ | none => _) = match cellsAt A b o (n * size) with | some old => _ | none => _
      cases cellsAt A b o (n * size) with
      | none => rfl
      | some old => rfl
theorem apV_eq (elem size m : Nat) (new : List Value) (A : AW) (v : Value) : apV v elem size m new A = appendTo elem size v m new A := by
  cases v with
  | slice a n c =>
    cases a with
    | none =>
      show @Bool.rec (fun _ => Out) .no (@Bool.rec (fun _ => Out) .no (sNo (Nat.mul 2 m) fun c => newF elem (fun b => aslc b 0 m c) A new) (Nat.beq c 0)) (Nat.beq n 0) = _
      simp only [boolrec_any, sNo_eq, newF_eq]
      cases n with
      | succ n => rfl
      | zero =>
        cases c with
        | succ c => rfl
        | zero => rfl
    | some ad =>
      obtain ⟨b, o, s⟩ := ad
      cases s with
      | none => exact appS_eq elem size m new A b o n c
      | some s => rfl
  | _ => rfl
theorem vSo_eq {v : Value} {f : Nat → Nat → Nat → Nat → Out} {d : Out} : vSo v f d = match v with
  | .slice (some ⟨b, o, none⟩) n k => f b o n k
  | _ => d := by
  cases v with
  | slice a n c =>
    cases a with
    | none => rfl
    | some a =>
      obtain ⟨b, o, s⟩ := a
      cases s <;> rfl
  | _ => rfl
theorem cellsAt_len {A : AW} {b o n : Nat} {l : List Value} (h : cellsAt A b o n = some l) : l.length = n := by
  unfold cellsAt at h
  split at h
  · rename_i c e _
    cases hb : Nat.ble (o + n) c.length
    · rw [hb] at h; cases h
    · rw [hb] at h
      injection h with h
      have := Nat.le_of_ble_eq_true hb
      subst h
      rw [List.length_take, List.length_drop]
      omega
  · cases h
theorem acAppendF_eq : acAppendF = acAppend := by
  funext elem size s x tm A
  unfold acAppendF
  rw [vSo_eq, evF_eq]
  split
  · rename_i xb xo xn xk hx
    cases xn with
    | zero => rfl
    | succ m =>
      show olO (cellsF [] A xb xo (Nat.mul (Nat.succ m) size)) (fun new => apC elem size s tm A (Nat.succ m) new) = _
      unfold acAppend
      rw [hx, olO_eq, cellsF_eq]
      show _ = match cellsAt A xb xo ((m + 1) * size) with | none => _ | some new => _
      show (match cellsAt A xb xo ((m + 1) * size) with | some l => _ | none => _) = _
      cases h : cellsAt A xb xo ((m + 1) * size) with
      | none => rfl
      | some new =>
        show apC elem size s tm A (m + 1) new = bif new.all atomB && Nat.ble m bigN && Nat.beq new.length ((m + 1) * size) then appendTo elem size (s.ev tm) (m + 1) new A else .no
        unfold apC
        rw [cellsAt_len h, Nat.beq_refl, Bool.and_true, boolrec_any, boolrec_any, allAt_eq, evF_eq, apV_eq]
        show (bif (bif Nat.ble m bigN then new.all atomB else false) then _ else _) = _
        cases Nat.ble m bigN <;> cases new.all atomB <;> rfl
  · rfl
end Ev
end Go.Proofs.YtiglblfjmmdeeaaGreat

/- The quick evaluator is the evaluator: operations, regions, the code, calls. -/
namespace Go.Proofs.YtiglblfjmmdeeaaGreat
namespace Ev

section
variable (P : Program) (ns : Nat)
theorem cf_ci (c : CI) : c.cf.ci = c := by cases c <;> rfl
theorem map_cf (c : Option CI) : (c.map CI.cf).map CF.ci = c := by
  cases c with
  | none => rfl
  | some c => exact congrArg some (cf_ci c)
theorem rd_map (f g : TM → AW → OV) (h : f = g) : Option.map CF.ci (some (.rc f)) = some (.rd g) := by rw [h]; rfl
theorem act_map (f g : TM → AW → Out) (h : f = g) : Option.map CF.ci (some (.act f)) = some (.act g) := by rw [h]; rfl
theorem ciBinF_eq (o : Oper) (op : BinOp) (t : TypeId) (x y : CO) : (ciBinF P ns o op t x y).map CF.ci = ciBin P ns o op t x y := by
  have slow := map_cf (ciBin P ns o op t x y)
  have fast : ∀ (f : IntKind → Int → Int → Option Value) (g : IF) (k : IntKind), intOp op = some f → fastOp op = some g → under P t = some (.int k) → IOk g f → (ciBinF P ns o op t x y).map CF.ci = ciBin P ns o op t x y := by
    intro f g k h1 h2 h3 h4
    unfold ciBinF ciBin
    rw [h1, h2, h3]
    show Option.map CF.ci (some (.rc (orElseF (rdIntsF g f x y) (rdClosed P ns o)))) = some (.rd (orElse (rdInts f x y) (rdClosed P ns o)))
    exact rd_map _ _ (by rw [orElseF_eq, rdIntsF_eq h4])
  cases hu : under P t with
  | none => rw [← slow]; unfold ciBinF; rw [hu]; cases intOp op <;> cases fastOp op <;> rfl
  | some d =>
    cases d with
    | int k =>
      cases op with
      | add => exact fast _ _ k rfl rfl hu add_ok
      | sub => exact fast _ _ k rfl rfl hu sub_ok
      | mul => exact fast _ _ k rfl rfl hu mul_ok
      | eql => exact fast _ _ k rfl rfl hu eql_ok
      | neq => exact fast _ _ k rfl rfl hu neq_ok
      | lss => exact fast _ _ k rfl rfl hu lss_ok
      | leq => exact fast _ _ k rfl rfl hu leq_ok
      | gtr => exact fast _ _ k rfl rfl hu gtr_ok
      | geq => exact fast _ _ k rfl rfl hu geq_ok
      | shr =>
        unfold ciBinF ciBin
        rw [hu]
        show Option.map CF.ci (some (.rc (orElseF (rdShrF x y) (rdClosed P ns o)))) = some (.rd (orElse (rdShr x y) (rdClosed P ns o)))
        exact rd_map _ _ (by rw [orElseF_eq, rdShrF_eq])
      | _ => rw [← slow]; unfold ciBinF; rw [hu]; rfl
    | _ => rw [← slow]; unfold ciBinF; rw [hu]; cases intOp op <;> cases fastOp op <;> rfl
theorem partOfF_eq (t : TypeId) (off : Nat) : partOfF P t off = partOf P t off := by
  unfold partOfF partOf
  rw [partNF_eq, part1F_eq]
  cases isAggT P t with
  | none => rfl
  | some b => cases b <;> cases sizeT P t <;> rfl
theorem cfOf_eq (o : Oper) : (cfOf P ns o).map CF.ci = ci P ns o := by
  have slow := map_cf (ci P ns o)
  cases ho : o.op with
  | move x => unfold cfOf ci; rw [ho]; exact rd_map _ _ (by rw [rdMoveF_eq])
  | assign x => unfold cfOf ci; rw [ho]; exact rd_map _ _ (by rw [rdMoveF_eq])
  | pick c a b => unfold cfOf ci; rw [ho]; exact rd_map _ _ (by rw [rdPickF_eq])
  | alloc t =>
    unfold cfOf ci
    simp only [ho]
    cases zeroT P t <;> rfl
  | load t a =>
    unfold cfOf ci
    simp only [ho, rdLoadF_eq, rdLoadNF_eq]
    cases isAggT P t with
    | none => rfl
    | some b => cases b <;> cases sizeT P t <;> rfl
  | store t a x =>
    unfold cfOf ci
    simp only [ho, acStoreF_eq]
    cases sizeT P t <;> rfl
  | nilCheck x => unfold cfOf ci; rw [ho]; exact rd_map _ _ (by rw [rdNilCheckF_eq])
  | binOp op t x y z =>
    unfold cfOf ci
    simp only [ho]
    exact ciBinF_eq P ns o op t _ _
  | unOp op t x =>
    unfold cfOf
    simp only [ho]
    cases op with
    | not => simp only [ci, ho, rdNotF_eq]; rfl
    | _ => exact slow
  | convert src dst x =>
    unfold cfOf
    simp only [ho]
    split
    · rename_i j k h1 h2
      simp only [ci, ho, h1, h2, rdConvF_eq, orElseF_eq]
      rfl
    · exact slow
  | fieldAddr s x f =>
    unfold cfOf ci
    simp only [ho, rdFieldF_eq]
    cases under P s with
    | none => rfl
    | some d =>
      cases d with
      | struct fields =>
        dsimp only
        cases fields.toList[f]? with
        | none => rfl
        | some fd =>
          dsimp only
          cases sizeT P fd.type with
          | none => rfl
          | some n => cases n <;> rfl
      | _ => rfl
  | field t x f =>
    unfold cfOf ci
    simp only [ho, rdPartF_eq, partOfF_eq]
    cases under P t with
    | none => rfl
    | some d =>
      cases d with
      | struct fields =>
        dsimp only
        cases fields.toList[f]? with
        | none => rfl
        | some fd =>
          dsimp only
          cases partOf P fd.type fd.offset <;> rfl
      | _ => rfl
  | indexAddr t x i =>
    unfold cfOf ci
    simp only [ho, rdIndexArrF_eq, rdIndexSlcF_eq]
    cases under P t with
    | none => rfl
    | some d =>
      cases d with
      | array len elem =>
        dsimp only
        cases sizeT P elem <;> rfl
      | slice elem =>
        dsimp only
        cases sizeT P elem <;> rfl
      | _ => rfl
  | extract t i => unfold cfOf ci; rw [ho]; exact rd_map _ _ (by rw [rdExtractF_eq])
  | call c =>
    unfold cfOf
    simp only [ho]
    split
    · rename_i f hf
      cases hb : hasBody P f with
      | false => exact slow
      | true =>
        simp only [ci, ho, ciCall, hf, hb, cond_true, acCallF_eq]
        rfl
    · rename_i b hb
      split
      · rename_i s x st xt h2 h3
        split
        · rename_i elem e2 h4 h5
          simp only [ci, ho, ciCall, hb, h2, h3, h4, h5, acAppendF_eq]
          cases sizeT P elem with
          | none => rfl
          | some size =>
            cases size with
            | zero => rfl
            | succ size =>
              cases zeroT P elem with
              | none => rfl
              | some z =>
                cases bytesT P elem with
                | none => rfl
                | some b =>
                  cases b with
                  | zero => rfl
                  | succ b =>
                    show Option.map CF.ci (bif Nat.ble b 1000000 && Nat.beq (cellsL z).length (size + 1) then some (CF.act (acAppend elem (size + 1) s x)) else none) = (bif Nat.ble b 1000000 && Nat.beq (cellsL z).length (size + 1) then some (CI.act (acAppend elem (size + 1) s x)) else none)
                    cases (Nat.ble b 1000000 && Nat.beq (cellsL z).length (size + 1)) <;> rfl
        · exact slow
      · rename_i x t h2 h3
        split
        · rename_i e h4
          simp only [ci, ho, ciCall, hb, h2, h3, h4, rdLenSF_eq e]
          rfl
        · exact slow
      · exact slow
    · exact slow
  | _ => unfold cfOf; rw [ho]; exact slow
noncomputable def QR.cr (c : QR) : CR := ⟨c.cf.ci, c.dst, c.guard⟩
theorem qr_eq (ops : List Oper) (o : Oper) : (qr P ns ops o).map QR.cr = cr P ns ops o := by
  unfold qr cr
  rw [← cfOf_eq]
  cases cfOf P ns o with
  | none => rfl
  | some c =>
    cases guardOf ns ops o with
    | none => rfl
    | some g =>
      cases pathO ns o.dst with
      | none => rfl
      | some d =>
        show Option.map QR.cr (bif o.op.operands.toList.all okO then some ⟨c, d, g⟩ else none) = bif o.op.operands.toList.all okO then some ⟨c.ci, d, g⟩ else none
        cases o.op.operands.toList.all okO <;> rfl
theorem qrs_eq (ops : List Oper) : ∀ l : List Oper, (qrs P ns ops l).map (List.map QR.cr) = crs P ns ops l
  | [] => rfl
  | o :: l => by
    unfold qrs crs
    rw [← qr_eq, ← qrs_eq ops l]
    cases qr P ns ops o with
    | none => rfl
    | some c => cases qrs P ns ops l <;> rfl
end
/- Regions. -/
theorem putD_eq (dst : Option Path) (v : Value) (tm : TM) (k : TM → R2) : putD dst v tm k = putK tm dst v k := by
  cases dst with
  | none => rfl
  | some p =>
    show sT p tm (some v) k = sV v fun v => Tr.setK (some v) p tm k
    rw [sV_eq, sT_eq]
theorem putS_eq (dst : Option Path) (v : Value) (tm : TM) (k : TM → R2) : putS dst v tm k = putK tm dst v k := by
  cases dst with
  | none => rfl
  | some p =>
    show (sF2 v fun v => sT p tm (some v) k) = sV v fun v => Tr.setK (some v) p tm k
    rw [sV_eq, sF2_eq, sT_eq]
theorem finF_eq (dst : Option Path) (tm : TM) (ih : Nx) (r : ORV) : finF r dst tm ih = finish dst tm ih r := by
  cases r with
  | none => rfl
  | some p =>
    obtain ⟨v, A⟩ := p
    exact putD_eq _ _ _ _
theorem newR_eq (A : AW) (o : AObj) (k : Nat → AW → R2) : newR A o k = match A.new o with
  | some (b, A') => k b A'
  | none => .no := by
  obtain ⟨t, nx⟩ := A
  unfold AW.new
  show @Bool.rec (fun _ => R2) .no (sOr (pathN nx) t (some o) fun t' => sN (Nat.succ nx) fun m => k nx ⟨t', m⟩) (Nat.ble (Nat.add nx 2) most) = _
  rw [boolrec_any]
  show (bif Nat.ble (nx + 2) most then _ else _) = _
  cases Nat.ble (nx + 2) most with
  | false => rfl
  | true =>
    simp only [cond_true, sOr_eq, pathN_eq, sN_eq, sNat_eq]
    rw [setK_eq, setK_eq _ _ _ (fun t => some (nx, (⟨t, nx + 1⟩ : AW)))]
theorem exF_eq (c : CF) (dst : Option Path) (call : CallF) (ih : Nx) (tm : TM) (A : AW) : exF c dst call ih tm A = exec1 call c.ci dst tm A ih := by
  cases c with
  | rc f =>
    show ovR putD (f tm A) dst tm A ih = match f tm A with | some v => putK tm dst v fun tm => ih tm A | none => .no
    cases f tm A with
    | none => rfl
    | some v => exact putD_eq _ _ _ _
  | rd f =>
    show ovR putS (f tm A) dst tm A ih = match f tm A with | some v => putK tm dst v fun tm => ih tm A | none => .no
    cases f tm A with
    | none => rfl
    | some v => exact putS_eq _ _ _ _
  | mkc f =>
    show @Option.rec (AObj × (Nat → Value)) (fun _ => Option Path → Nx → TM → AW → R2) _ _ (f tm) dst ih tm A = match f tm with | some (o, g) => (sObj o fun o => match A.new o with | some (b, A') => putK tm dst (g b) fun tm => ih tm A' | none => .no) | none => .no
    cases f tm with
    | none => rfl
    | some p =>
      obtain ⟨o, g⟩ := p
      show newR A o (fun b A' => putS dst (g b) tm fun tm => ih tm A') = sObj o fun o => match A.new o with | some (b, A') => putK tm dst (g b) fun tm => ih tm A' | none => .no
      rw [sObj_eq, newR_eq]
      simp only [putS_eq]
  | mk f => rfl
  | act f =>
    show outF (f tm A) call dst tm ih = match f tm A with | .val v A' => putK tm dst v fun tm => ih tm A' | .ent g args A' => finish dst tm ih (call g args A') | .no => .no
    cases f tm A with
    | val v A' => exact putS_eq _ _ _ _
    | ent g args A' => exact finF_eq _ _ _ _
    | no => rfl
theorem wB_eq (p : Path) (want : Bool) (tm : TM) : wB (p, want) tm = match tm.val p with
  | .bool b => b == want
  | _ => false := by
  show wBV (valF p tm) want = _
  rw [valF_eq]
  cases tm.val p with
  | bool b => cases b <;> cases want <;> rfl
  | _ => rfl
theorem stepF_eq (c : QR) (call : CallF) (ih : Nx) (tm : TM) (A : AW) : stepF c call ih tm A = stepCR call c.cr ih tm A := by
  obtain ⟨cf, dst, g⟩ := c
  cases g with
  | none => exact exF_eq _ _ _ _ _ _
  | some p =>
    obtain ⟨p, want⟩ := p
    show @Bool.rec (fun _ => CF → Option Path → CallF → Nx → TM → AW → R2) (fun _ dst _ ih tm A => putD dst undef tm fun tm => ih tm A) exF (wB (p, want) tm) cf dst call ih tm A = bif (match tm.val p with | .bool b => b == want | _ => false) then exec1 call cf.ci dst tm A ih else putK tm dst undef fun tm => ih tm A
    rw [wB_eq]
    cases (match tm.val p with | .bool b => b == want | _ => false) with
    | true => exact exF_eq _ _ _ _ _ _
    | false => exact putD_eq _ _ _ _
theorem seqF_eq (call : CallF) : ∀ l : List QR, seqF call l = seqOps call (l.map QR.cr)
  | [] => rfl
  | c :: l => by
    funext tm A
    show stepF c call (seqF call l) tm A = stepCR call c.cr (seqOps call (l.map QR.cr)) tm A
    rw [stepF_eq, seqF_eq call l]
/- The code. -/
theorem seqR_eq (r : R) (rec : Rec1) (b : Code) : seqR r rec b = match r with
  | .norm tm' A' => rec (.c b) tm' A'
  | .exit i tm' A' => .exit i tm' A'
  | .goto l tm' A' => .goto l tm' A'
  | .ret tm' A' => .ret tm' A'
  | .no => .no := by cases r <;> rfl
theorem blockR_eq (r : R) (i : Nat) : blockR r i = match r with
  | .norm tm' A' => .norm tm' A'
  | .exit j tm' A' => bif Nat.beq j i then .norm tm' A' else .exit j tm' A'
  | .goto l tm' A' => .goto l tm' A'
  | .ret tm' A' => .ret tm' A'
  | .no => .no := by
  cases r with
  | exit j tm A =>
    show @Bool.rec (fun _ => Nat → TM → AW → R) .exit (fun _ tm A => .norm tm A) (Nat.beq j i) j tm A = bif Nat.beq j i then .norm tm A else .exit j tm A
    cases Nat.beq j i <;> rfl
  | _ => rfl
theorem scopeR_eq (r : R) (rec : Rec1) (whole : Code) : scopeR r rec whole = match r with
  | .norm tm' A' => .norm tm' A'
  | .exit j tm' A' => .exit j tm' A'
  | .goto l tm' A' => match findLabel whole l with
    | some rest => rec (.s whole rest) tm' A'
    | none => .goto l tm' A'
  | .ret tm' A' => .ret tm' A'
  | .no => .no := by
  cases r with
  | goto l tm A =>
    show @Option.rec Code (fun _ => Nat → TM → AW → Rec1 → Code → R) (fun l tm A _ _ => .goto l tm A) (fun rest _ tm A rec whole => rec (.s whole rest) tm A) (findLabel whole l) l tm A rec whole = match findLabel whole l with | some rest => rec (.s whole rest) tm A | none => .goto l tm A
    cases findLabel whole l <;> rfl
  | _ => rfl
theorem condR_eq (P : Program) (x : Operand) (ns : Nat) (tm : TM) (rec : Rec1) (a b : Code) (A : AW) (call : CallF) : condR x ns tm rec a b A = jobStep P ns call rec (.c (.cond x a b)) tm A := by
  unfold condR
  rw [boolrec_any]
  show _ = bif okO x then doCond rec ((co ns x).ev tm) a b tm A else .no
  rw [evF_eq]
  cases okO x with
  | false => rfl
  | true =>
    show condV ((co ns x).ev tm) rec a b tm A = doCond rec ((co ns x).ev tm) a b tm A
    cases (co ns x).ev tm with
    | bool c => cases c <;> rfl
    | _ => rfl
theorem normF_eq (r : R2) : normF r = normal r := by cases r <;> rfl
theorem jobF_eq (P : Program) (ns : Nat) (call : CallF) (rec : Rec1) (j : Job) (tm : TM) (A : AW) : jobF j P ns call rec tm A = jobStep P ns call rec j tm A := by
  cases j with
  | s whole b => exact scopeR_eq _ _ _
  | c c =>
    cases c with
    | region id ops d =>
      cases d with
      | true => rfl
      | false =>
        show regionF call tm A (qrs P ns ops.toList ops.toList) = doRegion call tm A (crs P ns ops.toList ops.toList)
        rw [← qrs_eq]
        cases qrs P ns ops.toList ops.toList with
        | none => rfl
        | some l =>
          show normF (seqF call l tm A) = normal (seqOps call (l.map QR.cr) tm A)
          rw [seqF_eq, normF_eq]
    | seq a b => exact seqR_eq _ _ _
    | cond x a b => exact condR_eq P x ns tm rec a b A call
    | block i b => exact blockR_eq _ _
    | loop b => exact seqR_eq _ _ _
    | scope b => exact scopeR_eq _ _ _
    | _ => rfl
theorem runF_eq (P : Program) (ns : Nat) (call : CallF) : ∀ n, runF P ns call n = run P ns call n
  | 0 => rfl
  | n + 1 => by
    funext j tm A
    show jobF j P ns call (runF P ns call n) tm A = jobStep P ns call (run P ns call n) j tm A
    rw [jobF_eq, runF_eq P ns call n]
/- Calls. -/
theorem entF_eq (k : TM → ORV) : ∀ (l : List Value) (i : Nat) (tm : TM), entF l i tm k = enterTM k l i tm
  | [], _, _ => rfl
  | v :: l, i, tm => by
    show (sTr (pathN i) tm (some v) fun tm => entF l (i + 1) tm k) = sV v fun v => Tr.setK (some v) (path i) tm (enterTM k l (i + 1))
    rw [sV_eq, sTr_eq, pathN_eq]
    congr 1
    funext tm
    exact entF_eq k l (i + 1) tm
theorem cellV_eq (P : Program) (ns a t : Nat) (tm : TM) (A : AW) : cellV P ns a t tm A = match isAggT P t, sizeT P t with
  | some true, some n => rdLoadN n (co ns (.tmp a)) tm A
  | some false, _ => rdLoad (co ns (.tmp a)) tm A
  | _, _ => none := by
  unfold cellV
  rw [rdLoadNF_eq, rdLoadF_eq]
  cases isAggT P t with
  | none => rfl
  | some b => cases b <;> cases sizeT P t <;> rfl
theorem resF_eq (P : Program) (ns : Nat) (tm : TM) (A : AW) : ∀ (l : List ResultVar) (k : List Value → ORV), resF P ns l tm A k = (match resL P ns l tm A with
    | some vs => k vs
    | none => none)
  | [], _ => rfl
  | .tmp t :: l, k => by
    show ovK (evO (co ns (.tmp t)) tm) k (resF P ns l tm A) = _
    rw [evO_eq]
    show resF P ns l tm A (consR k _) = _
    rw [resF_eq P ns tm A l]
    show _ = match (match resL P ns l tm A with | some vs => some (((co ns (.tmp t)).ev tm) :: vs) | none => none) with | some vs => k vs | none => none
    cases resL P ns l tm A <;> rfl
  | .cell a t :: l, k => by
    show ovK (cellV P ns a t tm A) k (resF P ns l tm A) = _
    rw [cellV_eq]
    unfold resL
    have e : ∀ o : OV, ovK o k (resF P ns l tm A) = match (match o, resL P ns l tm A with | some v, some vs => some (v :: vs) | _, _ => none) with | some vs => k vs | none => none := by
      intro o
      cases o with
      | none => rfl
      | some v =>
        show resF P ns l tm A (consR k v) = _
        rw [resF_eq P ns tm A l]
        cases resL P ns l tm A <;> rfl
    cases isAggT P t with
    | none => rfl
    | some b =>
      cases b with
      | true =>
        cases sizeT P t with
        | none => rfl
        | some n => exact e _
      | false => cases sizeT P t <;> exact e _
theorem doneF_eq (P : Program) (fn : Func) (tm : TM) (A : AW) : doneF P fn tm A = done P fn tm A := by
  unfold doneF done
  rw [resF_eq]
  cases resL P fn.ntmps fn.results.toList tm A <;> rfl
theorem endsF_eq (P : Program) (fn : Func) (r : R) : endsF P fn r = ends P fn r := by
  cases r with
  | norm tm A => exact doneF_eq P fn tm A
  | ret tm A => exact doneF_eq P fn tm A
  | _ => rfl
theorem enterFF_eq (P : Program) (o : Option Func) (call : CallF) (args : List Value) (A : AW) : enterFF P o call args A = enterF P call args A o := by
  cases o with
  | none => rfl
  | some fn =>
    show bodyF P fn fn.body call args A = _
    unfold enterF
    show bodyF P fn fn.body call args A = match fn.body with | some b => bif Nat.ble fn.ntmps 281474976710600 && Nat.ble args.length fn.ntmps then enterTM (fun tm => ends P fn (run P fn.ntmps call 1000000 (.c b) tm A)) args 0 .nil else none | none => none
    cases fn.body with
    | none => rfl
    | some b =>
      show @Bool.rec (fun _ => ORV) none (entF args 0 .nil fun tm => endsF P fn (runF P fn.ntmps call 1000000 (.c b) tm A)) (@Bool.rec (fun _ => Bool) false (Nat.ble (lenF args) fn.ntmps) (Nat.ble fn.ntmps 281474976710600)) = _
      rw [boolrec_any, boolrec_any, lenF_eq, entF_eq, runF_eq]
      have e : (fun tm => endsF P fn (run P fn.ntmps call 1000000 (.c b) tm A)) = fun tm => ends P fn (run P fn.ntmps call 1000000 (.c b) tm A) := by
        funext tm
        exact endsF_eq P fn _
      rw [e]
      cases Nat.ble fn.ntmps 281474976710600 <;> rfl
theorem callF_eq (P : Program) (orc : Orc) : ∀ n, callF P orc n = callN P orc n
  | 0 => by funext f args A; rfl
  | n + 1 => by
    funext f args A
    show @Option.rec CallF (fun _ => CallF → FuncId → List Value → AW → ORV) (fun ih f args A => enterFF P P.funcs[f]? ih args A) (fun g _ f args A => g f args A) (orc f) (callF P orc n) f args A = match orc f with | some g => g f args A | none => enterF P (callN P orc n) args A P.funcs[f]?
    cases orc f with
    | some g => rfl
    | none =>
      show enterFF P P.funcs[f]? (callF P orc n) args A = _
      rw [enterFF_eq, callF_eq P orc n]
end Ev
end Go.Proofs.YtiglblfjmmdeeaaGreat

/- The evaluator: what stands in for crc.Crc does what it tells. -/
namespace Go.Proofs.YtiglblfjmmdeeaaGreat
open Go.RowKit
namespace Ev

section
variable {β : Type}
theorem kBit_eq (c : Nat) (k : Nat → β) : kBit c k = k (crcBit c) := by
  unfold kBit crcBit
  rw [Nat.and_one_is_mod]
  rcases Nat.mod_two_eq_zero_or_one c with h | h
  · rw [h]
    simp only [Nat.zero_ne_one, if_false]
    exact sNat_eq _ _
  · rw [h]
    simp only [if_true]
    exact sNat_eq _ _
theorem kByte_eq (c : Nat) (b : UInt8) (k : Nat → β) : kByte c b.toNat k = k (crcByte c b) := by
  unfold kByte
  rw [sNat_eq]
  simp only [kBit_eq]
  rfl
theorem kRow_ok (no : β) : ∀ (cs : List Value) (c : Nat) (k : Nat → β) (r : β), kRow no cs c k = r → r = no ∨ ∃ l : List UInt8, cs = bys l ∧ r = k (l.foldl crcByte c)
  | [], c, k, r, h => .inr ⟨[], rfl, h.symm⟩
  | v :: cs, c, k, r, h => by
    replace h : kOne no v (fun n => kByte c n fun c => kRow no cs c k) = r := h
    unfold kOne at h
    split at h
    · rename_i n
      cases hb : Nat.blt n 256
      · rw [hb] at h; exact .inl h.symm
      · rw [hb] at h
        simp only [cond_true] at h
        have hn : n < 256 := Nat.le_of_ble_eq_true hb
        have hbn : (UInt8.ofNat n).toNat = n := by simp [Nat.mod_eq_of_lt hn]
        rw [← hbn, kByte_eq] at h
        rcases kRow_ok no cs _ k r h with h1 | ⟨l, h1, h2⟩
        · exact .inl h1
        · refine .inr ⟨UInt8.ofNat n :: l, ?_, h2⟩
          rw [h1]
          unfold bys
          rw [List.map_cons, hbn]
          rfl
    · exact .inl h.symm
end
section
variable {P : Program} {w0 w : World} {σ : Sig} {A : AW} {X : Nat → Option AObj}
theorem bys_clo0 (l : List UInt8) : (bys l).all clo0 = true := by
  rw [List.all_eq_true]
  intro v hv
  obtain ⟨b, _, rfl⟩ := List.mem_map.1 hv
  rfl
theorem clo0_sh {l l' : List Value} (h : VRs σ l l') (hc : l.all clo0 = true) : l' = l := clo0_all hc h
/-- A slice of bytes reads as its cells tell. -/
theorem reads_of (h : St P w0 σ A X w) {a : Option Addr} {n k : Nat} {u : Value} {l : List UInt8} (hu : VR σ (.slice a n k) u) (hr : rowCells A 1 (.slice a n k) = some (bys l)) : ∃ A' c, u = .slice A' n c ∧ Reads w w.heap.size 1 A' n (bys l) := by
  obtain ⟨base, c, rfl, _⟩ := hu.slice_inv
  refine ⟨base, c, rfl, ?_⟩
  unfold rowCells at hr
  split at hr
  · rename_i heq
    injection heq with e1 e2 e3
    subst e2
    injection hr with hr
    rw [← hr]
    exact Reads.none_
  · rename_i b o n' k' heq
    injection heq with e1 e2 e3
    subst e1 e2 e3
    obtain ⟨r, s, nn, zz, o', c', hb, he, _, _, ho, _⟩ := hu.slc_inv
    injection he with e1 e2 e3
    subst e1
    obtain ⟨cs', h1, h2, h3⟩ := h.cells hb hr
    have := clo0_all (bys_clo0 l) h2
    subst this
    refine ⟨by simpa using h1, fun hn => ?_⟩
    have ho' : o' = s + o := by
      rcases ho with ⟨h4, _⟩ | h4
      · omega
      · exact h4
    subst ho'
    refine ⟨_, rfl, ?_, fun j v hj => by rw [addr_add]; exact h3 j v hj⟩
    have hl : 0 < (bys l).length := by omega
    have h4 := h3 0 _ (List.getElem?_eq_getElem hl)
    unfold World.cell? at h4
    rcases Nat.lt_or_ge r w.heap.size with h5 | h5
    · exact h5
    · rw [Array.getElem?_eq_none h5] at h4
      simp at h4
  · rename_i heq; cases heq
  · cases hr
theorem crc_orc {args : List Value} {v : Value} {A' : AW} (h : crcF 173 args A = some (v, A')) {args' : Array Value} (hst : St Tryz.prog w0 σ A X w) (hr : VRs σ args args'.toList) :
    Calls Tryz.prog 173 args' w fun e w' => ∃ v' σ', e = .returned v' ∧ Step σ A σ' A' ∧ St Tryz.prog w0 σ' A' X w' ∧ VR σ' v v' := by
  unfold crcF at h
  split at h
  · rename_i a n k
    obtain ⟨hn, h⟩ := cond_ok h
    have hn := Nat.le_of_ble_eq_true hn
    obtain ⟨l'⟩ := args'
    cases hr with
    | cons hu t =>
      cases t
      unfold kSum at h
      split at h
      · rename_i cs hcs
        rcases kRow_ok none cs _ _ _ h with h1 | ⟨l, rfl, h1⟩
        · cases h1
        · simp only [sNat_eq, Option.some.injEq, Prod.mk.injEq] at h1
          obtain ⟨rfl, rfl⟩ := h1
          obtain ⟨a', c, rfl, hR⟩ := reads_of hst hu hcs
          refine (crc_calls w w.heap.size a' n c l hR hn).mono ?_
          rintro e w' ⟨rfl, rfl⟩
          exact ⟨_, σ, rfl, Step.refl σ _, hst, .clo rfl⟩
      · cases h
  · cases h
end
end Ev
end Go.Proofs.YtiglblfjmmdeeaaGreat

/- The evaluator: what stands in for core.Proposer.Open and for crc.Crc; the program's own facts. -/
namespace Go.Proofs.YtiglblfjmmdeeaaGreat
open Go.RowKit
namespace Ev

section
variable {P : Program} {w0 w w' : World} {σ : Sig} {A : AW} {X : Nat → Option AObj}
/-- What is there stays when no block of before is changed. -/
theorem St.ext (h : St P w0 σ A X w) (e : Ext w w') : St P w0 σ A X w' :=
  ⟨h.dom, h.bound, h.disj, fun b o ho => let ⟨L, h1, h2, h3⟩ := h.objs b o ho; ⟨L, h1, h2, h3.keep (e.block _ h3.lt)⟩, h.inj,
    ⟨e.os.trans h.below.os, e.tape.trans h.below.tape, e.output.trans h.below.output, Nat.le_trans h.below.size e.size, fun k hk => (e.block k (Nat.lt_of_lt_of_le hk h.below.size)).trans (h.below.block k hk)⟩⟩
noncomputable def emptyMap (A : AW) : Option Value → Bool
  | some (.map (some b)) => match A.get b with
    | some (.map [] _) => true
    | _ => false
  | _ => false
noncomputable def openF : CallF := fun _ args A => match args with
  | [.pointer (some ⟨b, o, none⟩)] => bif emptyMap A (cellAt A b (o + 7)) && emptyMap A (cellAt A b (o + 8)) then some (.slice none 0 0, A) else none
  | _ => none
theorem emptyMap_r (h : St P w0 σ A X w) {b r s nn zz o : Nat} (hb : σ b = some ⟨r, s, nn, zz⟩) (he : emptyMap A (cellAt A b o) = true) : ∃ q, w.cell? ⟨r, s + o, none⟩ = some (.map (some q)) ∧ IM w q [] := by
  unfold emptyMap at he
  split at he
  · rename_i m hm
    obtain ⟨v', h1, h2⟩ := h.cell hb hm
    obtain ⟨q, nn', zz', h3, rfl⟩ := h2.map_inv
    refine ⟨q, h1, ?_⟩
    split at he
    · rename_i ck hg
      obtain ⟨es', h4, h5⟩ := h.entries h3 hg
      refine ⟨es', ck, h4, ?_⟩
      obtain ⟨l⟩ := es'
      cases h5
      rfl
    · cases he
  · cases he
theorem open_orc {args : List Value} {v : Value} {A' : AW} (h : openF 127 args A = some (v, A')) {args' : Array Value} (hst : St Tryz.prog w0 σ A X w) (hr : VRs σ args args'.toList) :
    Calls Tryz.prog 127 args' w fun e w' => ∃ v' σ', e = .returned v' ∧ Step σ A σ' A' ∧ St Tryz.prog w0 σ' A' X w' ∧ VR σ' v v' := by
  unfold openF at h
  split at h
  · rename_i b o
    obtain ⟨hc, h⟩ := cond_ok h
    rw [Bool.and_eq_true] at hc
    injection h with h
    injection h with h1 h2
    subst h1 h2
    obtain ⟨l'⟩ := args'
    cases hr with
    | cons hu t =>
      cases t
      obtain ⟨r, s, nn, zz, hb, rfl⟩ := hu.ptr_inv
      obtain ⟨q7, c7, m7⟩ := emptyMap_r hst hb hc.1
      obtain ⟨q8, c8, m8⟩ := emptyMap_r hst hb hc.2
      have hlt : r < w.heap.size := by
        unfold World.cell? at c7
        rcases Nat.lt_or_ge r w.heap.size with h5 | h5
        · exact h5
        · rw [Array.getElem?_eq_none h5] at c7
          simp at c7
      rw [← Nat.add_assoc] at c7 c8
      refine (prop_open1 q7 q8 c7 c8 m7 m8 hlt).mono ?_
      rintro e w' ⟨rfl, he⟩
      exact ⟨_, σ, rfl, Step.refl σ _, hst.ext he, .clo rfl⟩
  · cases h
end
noncomputable def orc : Orc := fun f => bif Nat.beq f 127 then some openF else bif Nat.beq f 173 then some crcF else none
theorem orc_ok : OrcOk Tryz.prog orc := by
  intro f g hg args A v A' h w0 σ X w args' hst hr
  unfold orc at hg
  cases h1 : Nat.beq f 127
  · rw [h1] at hg
    simp only [cond_false] at hg
    cases h2 : Nat.beq f 173
    · rw [h2] at hg; cases hg
    · rw [h2] at hg
      injection hg with hg
      subst hg
      obtain rfl := Nat.eq_of_beq_eq_true h2
      exact crc_orc h hst hr
  · rw [h1] at hg
    injection hg with hg
    subst hg
    obtain rfl := Nat.eq_of_beq_eq_true h1
    exact open_orc h hst hr
/-- No function has the name that asks how many goroutines there are. -/
noncomputable def nameOk (fn : Func) : Bool := !(fn.name == "runtime.NumGoroutine")
theorem noNum_of {P : Program} (h : P.funcs.toList.all nameOk = true) : NoNum P := by
  intro f fn hf
  rw [List.all_eq_true] at h
  have := h fn (by simpa using Array.mem_of_getElem? hf)
  unfold nameOk at this
  simpa using this
theorem noNum : NoNum Tryz.prog := noNum_of (by kernel_rfl)
theorem mixed : Tryz.prog.follows .mixedOrders = true := by kernel_rfl
/-- The evaluator says 'true'. -/
noncomputable def saysTrue : Option (Value × AW) → Bool
  | some (.bool true, _) => true
  | _ => false
theorem closed_true {n : Nat} {f : FuncId} (h : saysTrue (callN Tryz.prog orc n f [] ⟨.nil, 0⟩) = true) (w : World) : Calls Tryz.prog f #[] w fun e w' => e = .returned (.bool true) ∧ Ext w w' := by
  unfold saysTrue at h
  split at h
  · rename_i A' he
    refine (ev_calls noNum mixed orc_ok he rfl w).mono ?_
    rintro e w' ⟨v', σ', rfl, h1, h2⟩
    rw [h2.bool_inv]
    exact ⟨rfl, h1.below⟩
  · cases h
end Ev
end Go.Proofs.YtiglblfjmmdeeaaGreat

/- The quick evaluator: a closed sentence that it finds true is true. -/
namespace Go.Proofs.YtiglblfjmmdeeaaGreat
open Go.RowKit
namespace Ev
theorem closed_quick {n : Nat} {f : FuncId} (h : saysTrue (callF Tryz.prog orc n f [] ⟨.nil, 0⟩) = true) (w : World) : Calls Tryz.prog f #[] w fun e w' => e = .returned (.bool true) ∧ Ext w w' := by
  rw [callF_eq] at h
  exact closed_true h w
end Ev
end Go.Proofs.YtiglblfjmmdeeaaGreat
