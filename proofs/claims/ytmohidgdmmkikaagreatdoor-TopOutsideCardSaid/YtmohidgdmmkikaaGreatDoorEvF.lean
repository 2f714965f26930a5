/- The evaluator made quick: the same functions, each branch a closed term, so that a step of the kernel copies little. No proof stands here. -/
import Derived.Test.YtmohidgdmmkikaaGreatDoorEv25
namespace Go.Proofs.YtmohidgdmmkikaaGreatDoor
namespace Ev

abbrev OV := Option Value
abbrev OL := Option (List Value)
abbrev ORV := Option (Value × AW)
abbrev Nx := TM → AW → R2
noncomputable def gV : Path → TM → OV :=
  @List.rec Bool (fun _ => TM → OV) (@Tr.rec Value (fun _ => OV) none (fun _ v _ _ _ => v))
    (fun b _ ih t => @Tr.rec Value (fun _ => Bool → (TM → OV) → OV) (fun _ _ => none)
      (fun l _ r _ _ b ih => @Bool.rec (fun _ => TM → TM → (TM → OV) → OV) (fun _ r ih => ih r) (fun l _ ih => ih l) b l r ih) t b ih)
noncomputable def valF (p : Path) (tm : TM) : Value := @Option.rec Value (fun _ => Value) undef (fun v => v) (gV p tm)
noncomputable def orU : OV → OV := @Option.rec Value (fun _ => OV) (some undef) (fun v => some v)
noncomputable def evF : CO → TM → Value := @CO.rec (fun _ => TM → Value) (fun p tm => valF p tm) (fun v _ => v)
noncomputable def evO : CO → TM → OV := @CO.rec (fun _ => TM → OV) (fun p tm => orU (gV p tm)) (fun v _ => some v)
noncomputable def gO : Path → Tr AObj → Option AObj :=
  @List.rec Bool (fun _ => Tr AObj → Option AObj) (@Tr.rec AObj (fun _ => Option AObj) none (fun _ v _ _ _ => v))
    (fun b _ ih t => @Tr.rec AObj (fun _ => Bool → (Tr AObj → Option AObj) → Option AObj) (fun _ _ => none)
      (fun l _ r _ _ b ih => @Bool.rec (fun _ => Tr AObj → Tr AObj → (Tr AObj → Option AObj) → Option AObj) (fun _ r ih => ih r) (fun l _ ih => ih l) b l r ih) t b ih)
noncomputable def pathR : Nat → Nat → Path :=
  @Nat.rec (fun _ => Nat → Path) (fun _ => [])
    (fun _ ih n => @Nat.rec (fun _ => (Nat → Path) → Path) (fun _ => []) (fun m _ ih => Nat.beq (Nat.mod m 2) 0 :: ih (Nat.div m 2)) n ih)
noncomputable def pathN (n : Nat) : Path := pathR 48 n
noncomputable def getF (A : AW) (b : Nat) : Option AObj := @AW.rec (fun _ => Nat → Option AObj) (fun t _ b => gO (pathN b) t) A b
noncomputable def sT : Path → Tr Value → Option Value → (Tr Value → R2) → R2 :=
  @List.rec Bool (fun _ => Tr Value → Option Value → (Tr Value → R2) → R2)
    (@Tr.rec Value (fun _ => Option Value → (Tr Value → R2) → R2) (fun v k => k (.node .nil v .nil)) (fun l _ r _ _ v k => k (.node l v r)))
    (fun b _ ih t v k => @Tr.rec Value (fun _ => Bool → (Tr Value → Option Value → (Tr Value → R2) → R2) → Option Value → (Tr Value → R2) → R2)
      (fun b ih v k => @Bool.rec (fun _ => (Tr Value → Option Value → (Tr Value → R2) → R2) → Option Value → (Tr Value → R2) → R2) (fun ih v k => ih .nil v fun r => k (.node .nil none r)) (fun ih v k => ih .nil v fun l => k (.node l none .nil)) b ih v k)
      (fun l x r _ _ b ih v k => @Bool.rec (fun _ => Tr Value → Option Value → Tr Value → (Tr Value → Option Value → (Tr Value → R2) → R2) → Option Value → (Tr Value → R2) → R2) (fun l x r ih v k => ih r v fun r' => k (.node l x r')) (fun l x r ih v k => ih l v fun l' => k (.node l' x r)) b l x r ih v k) t b ih v k)
noncomputable def sTr : Path → Tr Value → Option Value → (Tr Value → ORV) → ORV :=
  @List.rec Bool (fun _ => Tr Value → Option Value → (Tr Value → ORV) → ORV)
    (@Tr.rec Value (fun _ => Option Value → (Tr Value → ORV) → ORV) (fun v k => k (.node .nil v .nil)) (fun l _ r _ _ v k => k (.node l v r)))
    (fun b _ ih t v k => @Tr.rec Value (fun _ => Bool → (Tr Value → Option Value → (Tr Value → ORV) → ORV) → Option Value → (Tr Value → ORV) → ORV)
      (fun b ih v k => @Bool.rec (fun _ => (Tr Value → Option Value → (Tr Value → ORV) → ORV) → Option Value → (Tr Value → ORV) → ORV) (fun ih v k => ih .nil v fun r => k (.node .nil none r)) (fun ih v k => ih .nil v fun l => k (.node l none .nil)) b ih v k)
      (fun l x r _ _ b ih v k => @Bool.rec (fun _ => Tr Value → Option Value → Tr Value → (Tr Value → Option Value → (Tr Value → ORV) → ORV) → Option Value → (Tr Value → ORV) → ORV) (fun l x r ih v k => ih r v fun r' => k (.node l x r')) (fun l x r ih v k => ih l v fun l' => k (.node l' x r)) b l x r ih v k) t b ih v k)
noncomputable def sO : Path → Tr AObj → Option AObj → (Tr AObj → Out) → Out :=
  @List.rec Bool (fun _ => Tr AObj → Option AObj → (Tr AObj → Out) → Out)
    (@Tr.rec AObj (fun _ => Option AObj → (Tr AObj → Out) → Out) (fun v k => k (.node .nil v .nil)) (fun l _ r _ _ v k => k (.node l v r)))
    (fun b _ ih t v k => @Tr.rec AObj (fun _ => Bool → (Tr AObj → Option AObj → (Tr AObj → Out) → Out) → Option AObj → (Tr AObj → Out) → Out)
      (fun b ih v k => @Bool.rec (fun _ => (Tr AObj → Option AObj → (Tr AObj → Out) → Out) → Option AObj → (Tr AObj → Out) → Out) (fun ih v k => ih .nil v fun r => k (.node .nil none r)) (fun ih v k => ih .nil v fun l => k (.node l none .nil)) b ih v k)
      (fun l x r _ _ b ih v k => @Bool.rec (fun _ => Tr AObj → Option AObj → Tr AObj → (Tr AObj → Option AObj → (Tr AObj → Out) → Out) → Option AObj → (Tr AObj → Out) → Out) (fun l x r ih v k => ih r v fun r' => k (.node l x r')) (fun l x r ih v k => ih l v fun l' => k (.node l' x r)) b l x r ih v k) t b ih v k)
noncomputable def sOr : Path → Tr AObj → Option AObj → (Tr AObj → R2) → R2 :=
  @List.rec Bool (fun _ => Tr AObj → Option AObj → (Tr AObj → R2) → R2)
    (@Tr.rec AObj (fun _ => Option AObj → (Tr AObj → R2) → R2) (fun v k => k (.node .nil v .nil)) (fun l _ r _ _ v k => k (.node l v r)))
    (fun b _ ih t v k => @Tr.rec AObj (fun _ => Bool → (Tr AObj → Option AObj → (Tr AObj → R2) → R2) → Option AObj → (Tr AObj → R2) → R2)
      (fun b ih v k => @Bool.rec (fun _ => (Tr AObj → Option AObj → (Tr AObj → R2) → R2) → Option AObj → (Tr AObj → R2) → R2) (fun ih v k => ih .nil v fun r => k (.node .nil none r)) (fun ih v k => ih .nil v fun l => k (.node l none .nil)) b ih v k)
      (fun l x r _ _ b ih v k => @Bool.rec (fun _ => Tr AObj → Option AObj → Tr AObj → (Tr AObj → Option AObj → (Tr AObj → R2) → R2) → Option AObj → (Tr AObj → R2) → R2) (fun l x r ih v k => ih r v fun r' => k (.node l x r')) (fun l x r ih v k => ih l v fun l' => k (.node l' x r)) b l x r ih v k) t b ih v k)
noncomputable def sN : Nat → (Nat → R2) → R2 := @Nat.rec (fun _ => (Nat → R2) → R2) (fun k => k 0) (fun m _ k => k (Nat.succ m))
noncomputable def sI : Int → (Int → R2) → R2 := @Int.rec (fun _ => (Int → R2) → R2) (fun m k => sN m fun m => k (.ofNat m)) (fun m k => sN m fun m => k (.negSucc m))
noncomputable def sNO : Nat → (Nat → OV) → OV := @Nat.rec (fun _ => (Nat → OV) → OV) (fun k => k 0) (fun m _ k => k (Nat.succ m))
noncomputable def sIO : Int → (Int → OV) → OV := @Int.rec (fun _ => (Int → OV) → OV) (fun m k => sNO m fun m => k (.ofNat m)) (fun m k => sNO m fun m => k (.negSucc m))
noncomputable def sNo : Nat → (Nat → Out) → Out := @Nat.rec (fun _ => (Nat → Out) → Out) (fun k => k 0) (fun m _ k => k (Nat.succ m))
noncomputable def sIo : Int → (Int → Out) → Out := @Int.rec (fun _ => (Int → Out) → Out) (fun m k => sNo m fun m => k (.ofNat m)) (fun m k => sNo m fun m => k (.negSucc m))
noncomputable def sAd : Addr → (Addr → R2) → R2 := @Addr.rec (fun _ => (Addr → R2) → R2) (fun b o s k => sN b fun b => sN o fun o => k ⟨b, o, s⟩)
noncomputable def sPt : Option Addr → (Option Addr → R2) → R2 := @Option.rec Addr (fun _ => (Option Addr → R2) → R2) (fun k => k none) (fun a k => sAd a fun a => k (some a))
noncomputable def sMp : Option Nat → (Option Nat → R2) → R2 := @Option.rec Nat (fun _ => (Option Nat → R2) → R2) (fun k => k none) (fun a k => sN a fun a => k (some a))
noncomputable def consF (k : List Value → R2) (v : Value) (l : List Value) : R2 := k (v :: l)
noncomputable def sBy : List UInt8 → (List UInt8 → R2) → R2 := fun l k => sBytes l k
noncomputable def sF0 : Value → (Value → R2) → R2 := @Value.rec (fun _ => (Value → R2) → R2) (fun _ => PUnit) (fun _ => PUnit)
  (fun b k => @Bool.rec (fun _ => (Value → R2) → R2) (fun k => k (.bool false)) (fun k => k (.bool true)) b k)
  (fun d n k => sI n fun n => k (.int d n))
  (fun d n k => k (Value.float d n))
  (fun d a b k => k (Value.complex d a b))
  (fun s k => sBy s.data.toList fun l => k (.string ⟨⟨l⟩⟩))
  (fun a k => sPt a fun a => k (.pointer a))
  (fun a n c k => sPt a fun a => sN n fun n => sN c fun c => k (.slice a n c))
  (fun r k => sMp r fun r => k (.map r))
  (fun r k => k (Value.chan r))
  (fun fn a b _ _ k => k (Value.func fn a b))
  (fun  k => k Value.nilFunc)
  (fun t v _ k => k (Value.iface t v))
  (fun  k => k Value.nilIface)
  (fun cs _ k => k (Value.agg cs))
  (fun vs _ k => k (Value.tuple vs))
  (fun _ _ => .unit) .unit (fun _ _ _ _ => .unit)
noncomputable def sL0 : List Value → (List Value → R2) → R2 := @List.rec Value (fun _ => (List Value → R2) → R2) (fun k => k []) (fun v _ ih k => sF0 v fun v => ih (consF k v))
noncomputable def sF1 : Value → (Value → R2) → R2 := @Value.rec (fun _ => (Value → R2) → R2) (fun _ => PUnit) (fun _ => PUnit)
  (fun b k => @Bool.rec (fun _ => (Value → R2) → R2) (fun k => k (.bool false)) (fun k => k (.bool true)) b k)
  (fun d n k => sI n fun n => k (.int d n))
  (fun d n k => k (Value.float d n))
  (fun d a b k => k (Value.complex d a b))
  (fun s k => sBy s.data.toList fun l => k (.string ⟨⟨l⟩⟩))
  (fun a k => sPt a fun a => k (.pointer a))
  (fun a n c k => sPt a fun a => sN n fun n => sN c fun c => k (.slice a n c))
  (fun r k => sMp r fun r => k (.map r))
  (fun r k => k (Value.chan r))
  (fun fn a b _ _ k => sL0 a.toList fun a => sL0 b.toList fun b => k (.func fn ⟨a⟩ ⟨b⟩))
  (fun  k => k Value.nilFunc)
  (fun t v _ k => sF0 v fun v => k (.iface t v))
  (fun  k => k Value.nilIface)
  (fun cs _ k => sL0 cs.toList fun l => k (.agg ⟨l⟩))
  (fun vs _ k => sL0 vs.toList fun l => k (.tuple ⟨l⟩))
  (fun _ _ => .unit) .unit (fun _ _ _ _ => .unit)
noncomputable def sL1 : List Value → (List Value → R2) → R2 := @List.rec Value (fun _ => (List Value → R2) → R2) (fun k => k []) (fun v _ ih k => sF1 v fun v => ih (consF k v))
noncomputable def sF2 : Value → (Value → R2) → R2 := @Value.rec (fun _ => (Value → R2) → R2) (fun _ => PUnit) (fun _ => PUnit)
  (fun b k => @Bool.rec (fun _ => (Value → R2) → R2) (fun k => k (.bool false)) (fun k => k (.bool true)) b k)
  (fun d n k => sI n fun n => k (.int d n))
  (fun d n k => k (Value.float d n))
  (fun d a b k => k (Value.complex d a b))
  (fun s k => sBy s.data.toList fun l => k (.string ⟨⟨l⟩⟩))
  (fun a k => sPt a fun a => k (.pointer a))
  (fun a n c k => sPt a fun a => sN n fun n => sN c fun c => k (.slice a n c))
  (fun r k => sMp r fun r => k (.map r))
  (fun r k => k (Value.chan r))
  (fun fn a b _ _ k => sL1 a.toList fun a => sL1 b.toList fun b => k (.func fn ⟨a⟩ ⟨b⟩))
  (fun  k => k Value.nilFunc)
  (fun t v _ k => sF1 v fun v => k (.iface t v))
  (fun  k => k Value.nilIface)
  (fun cs _ k => sL1 cs.toList fun l => k (.agg ⟨l⟩))
  (fun vs _ k => sL1 vs.toList fun l => k (.tuple ⟨l⟩))
  (fun _ _ => .unit) .unit (fun _ _ _ _ => .unit)
noncomputable def pA : Option Addr → (Nat → Nat → OV) → OV → OV := @Option.rec Addr (fun _ => (Nat → Nat → OV) → OV → OV) (fun _ d => d) (fun a f d => @Addr.rec (fun _ => (Nat → Nat → OV) → OV → OV) (fun b o s f d => @Option.rec Nat (fun _ => Nat → Nat → (Nat → Nat → OV) → OV → OV) (fun b o f _ => f b o) (fun _ _ _ _ d => d) s b o f d) a f d)
noncomputable def vP : Value → (Nat → Nat → OV) → (OV) → OV := @Value.rec (fun _ => (Nat → Nat → OV) → (OV) → OV) (fun _ => PUnit) (fun _ => PUnit)
  (fun _ _ d => d)
  (fun _ _ _ d => d)
  (fun _ _ _ d => d)
  (fun _ _ _ _ d => d)
  (fun _ _ d => d)
  (fun a f d => pA a f d)
  (fun _ _ _ _ d => d)
  (fun _ _ d => d)
  (fun _ _ d => d)
  (fun _ _ _ _ _ _ d => d)
  (fun  _ d => d)
  (fun _ _ _ _ d => d)
  (fun  _ d => d)
  (fun _ _ _ d => d)
  (fun _ _ _ d => d)
  (fun _ _ => .unit) .unit (fun _ _ _ _ => .unit)
noncomputable def vS : Value → (Nat → Nat → Nat → Nat → OV) → (OV) → OV := @Value.rec (fun _ => (Nat → Nat → Nat → Nat → OV) → (OV) → OV) (fun _ => PUnit) (fun _ => PUnit)
  (fun _ _ d => d)
  (fun _ _ _ d => d)
  (fun _ _ _ d => d)
  (fun _ _ _ _ d => d)
  (fun _ _ d => d)
  (fun _ _ d => d)
  (fun a n c f d => pA a (fun b o => f b o n c) d)
  (fun _ _ d => d)
  (fun _ _ d => d)
  (fun _ _ _ _ _ _ d => d)
  (fun  _ d => d)
  (fun _ _ _ _ d => d)
  (fun  _ d => d)
  (fun _ _ _ d => d)
  (fun _ _ _ d => d)
  (fun _ _ => .unit) .unit (fun _ _ _ _ => .unit)
noncomputable def vN : Value → (IntKind → Nat → OV) → (OV) → OV := @Value.rec (fun _ => (IntKind → Nat → OV) → (OV) → OV) (fun _ => PUnit) (fun _ => PUnit)
  (fun _ _ d => d)
  (fun k n f d => @Int.rec (fun _ => IntKind → (IntKind → Nat → OV) → OV → OV) (fun n k f _ => f k n) (fun _ _ _ d => d) n k f d)
  (fun _ _ _ d => d)
  (fun _ _ _ _ d => d)
  (fun _ _ d => d)
  (fun _ _ d => d)
  (fun _ _ _ _ d => d)
  (fun _ _ d => d)
  (fun _ _ d => d)
  (fun _ _ _ _ _ _ d => d)
  (fun  _ d => d)
  (fun _ _ _ _ d => d)
  (fun  _ d => d)
  (fun _ _ _ d => d)
  (fun _ _ _ d => d)
  (fun _ _ => .unit) .unit (fun _ _ _ _ => .unit)
noncomputable def vStr : Value → (List UInt8 → OV) → (OV) → OV := @Value.rec (fun _ => (List UInt8 → OV) → (OV) → OV) (fun _ => PUnit) (fun _ => PUnit)
  (fun _ _ d => d)
  (fun _ _ _ d => d)
  (fun _ _ _ d => d)
  (fun _ _ _ _ d => d)
  (fun s f _ => f s.data.toList)
  (fun _ _ d => d)
  (fun _ _ _ _ d => d)
  (fun _ _ d => d)
  (fun _ _ d => d)
  (fun _ _ _ _ _ _ d => d)
  (fun  _ d => d)
  (fun _ _ _ _ d => d)
  (fun  _ d => d)
  (fun _ _ _ d => d)
  (fun _ _ _ d => d)
  (fun _ _ => .unit) .unit (fun _ _ _ _ => .unit)
noncomputable def pAo : Option Addr → (Nat → Nat → Out) → Out → Out := @Option.rec Addr (fun _ => (Nat → Nat → Out) → Out → Out) (fun _ d => d) (fun a f d => @Addr.rec (fun _ => (Nat → Nat → Out) → Out → Out) (fun b o s f d => @Option.rec Nat (fun _ => Nat → Nat → (Nat → Nat → Out) → Out → Out) (fun b o f _ => f b o) (fun _ _ _ _ d => d) s b o f d) a f d)
noncomputable def vPo : Value → (Nat → Nat → Out) → (Out) → Out := @Value.rec (fun _ => (Nat → Nat → Out) → (Out) → Out) (fun _ => PUnit) (fun _ => PUnit)
  (fun _ _ d => d)
  (fun _ _ _ d => d)
  (fun _ _ _ d => d)
  (fun _ _ _ _ d => d)
  (fun _ _ d => d)
  (fun a f d => pAo a f d)
  (fun _ _ _ _ d => d)
  (fun _ _ d => d)
  (fun _ _ d => d)
  (fun _ _ _ _ _ _ d => d)
  (fun  _ d => d)
  (fun _ _ _ _ d => d)
  (fun  _ d => d)
  (fun _ _ _ d => d)
  (fun _ _ _ d => d)
  (fun _ _ => .unit) .unit (fun _ _ _ _ => .unit)
noncomputable def vSo : Value → (Nat → Nat → Nat → Nat → Out) → (Out) → Out := @Value.rec (fun _ => (Nat → Nat → Nat → Nat → Out) → (Out) → Out) (fun _ => PUnit) (fun _ => PUnit)
  (fun _ _ d => d)
  (fun _ _ _ d => d)
  (fun _ _ _ d => d)
  (fun _ _ _ _ d => d)
  (fun _ _ d => d)
  (fun _ _ d => d)
  (fun a n c f d => pAo a (fun b o => f b o n c) d)
  (fun _ _ d => d)
  (fun _ _ d => d)
  (fun _ _ _ _ _ _ d => d)
  (fun  _ d => d)
  (fun _ _ _ _ d => d)
  (fun  _ d => d)
  (fun _ _ _ d => d)
  (fun _ _ _ d => d)
  (fun _ _ => .unit) .unit (fun _ _ _ _ => .unit)
noncomputable def vNo : Value → (IntKind → Nat → Out) → (Out) → Out := @Value.rec (fun _ => (IntKind → Nat → Out) → (Out) → Out) (fun _ => PUnit) (fun _ => PUnit)
  (fun _ _ d => d)
  (fun k n f d => @Int.rec (fun _ => IntKind → (IntKind → Nat → Out) → Out → Out) (fun n k f _ => f k n) (fun _ _ _ d => d) n k f d)
  (fun _ _ _ d => d)
  (fun _ _ _ _ d => d)
  (fun _ _ d => d)
  (fun _ _ d => d)
  (fun _ _ _ _ d => d)
  (fun _ _ d => d)
  (fun _ _ d => d)
  (fun _ _ _ _ _ _ d => d)
  (fun  _ d => d)
  (fun _ _ _ _ d => d)
  (fun  _ d => d)
  (fun _ _ _ d => d)
  (fun _ _ _ d => d)
  (fun _ _ => .unit) .unit (fun _ _ _ _ => .unit)
noncomputable def vStro : Value → (List UInt8 → Out) → (Out) → Out := @Value.rec (fun _ => (List UInt8 → Out) → (Out) → Out) (fun _ => PUnit) (fun _ => PUnit)
  (fun _ _ d => d)
  (fun _ _ _ d => d)
  (fun _ _ _ d => d)
  (fun _ _ _ _ d => d)
  (fun s f _ => f s.data.toList)
  (fun _ _ d => d)
  (fun _ _ _ _ d => d)
  (fun _ _ d => d)
  (fun _ _ d => d)
  (fun _ _ _ _ _ _ d => d)
  (fun  _ d => d)
  (fun _ _ _ _ d => d)
  (fun  _ d => d)
  (fun _ _ _ d => d)
  (fun _ _ _ d => d)
  (fun _ _ => .unit) .unit (fun _ _ _ _ => .unit)
noncomputable def vB : Value → (OV) → (OV) → (OV) → OV := @Value.rec (fun _ => (OV) → (OV) → (OV) → OV) (fun _ => PUnit) (fun _ => PUnit)
  (fun b x y _ => @Bool.rec (fun _ => OV → OV → OV) (fun _ y => y) (fun x _ => x) b x y)
  (fun _ _ _ _ d => d)
  (fun _ _ _ _ d => d)
  (fun _ _ _ _ _ d => d)
  (fun _ _ _ d => d)
  (fun _ _ _ d => d)
  (fun _ _ _ _ _ d => d)
  (fun _ _ _ d => d)
  (fun _ _ _ d => d)
  (fun _ _ _ _ _ _ _ d => d)
  (fun  _ _ d => d)
  (fun _ _ _ _ _ d => d)
  (fun  _ _ d => d)
  (fun _ _ _ _ d => d)
  (fun _ _ _ _ d => d)
  (fun _ _ => .unit) .unit (fun _ _ _ _ => .unit)
noncomputable def vA : Value → (List Value → OV) → (OV) → OV := @Value.rec (fun _ => (List Value → OV) → (OV) → OV) (fun _ => PUnit) (fun _ => PUnit)
  (fun _ _ d => d)
  (fun _ _ _ d => d)
  (fun _ _ _ d => d)
  (fun _ _ _ _ d => d)
  (fun _ _ d => d)
  (fun _ _ d => d)
  (fun _ _ _ _ d => d)
  (fun _ _ d => d)
  (fun _ _ d => d)
  (fun _ _ _ _ _ _ d => d)
  (fun  _ d => d)
  (fun _ _ _ _ d => d)
  (fun  _ d => d)
  (fun cs _ f _ => f cs.toList)
  (fun _ _ _ d => d)
  (fun _ _ => .unit) .unit (fun _ _ _ _ => .unit)
noncomputable def vT : Value → (List Value → OV) → (OV) → OV := @Value.rec (fun _ => (List Value → OV) → (OV) → OV) (fun _ => PUnit) (fun _ => PUnit)
  (fun _ _ d => d)
  (fun _ _ _ d => d)
  (fun _ _ _ d => d)
  (fun _ _ _ _ d => d)
  (fun _ _ d => d)
  (fun _ _ d => d)
  (fun _ _ _ _ d => d)
  (fun _ _ d => d)
  (fun _ _ d => d)
  (fun _ _ _ _ _ _ d => d)
  (fun  _ d => d)
  (fun _ _ _ _ d => d)
  (fun  _ d => d)
  (fun _ _ _ d => d)
  (fun cs _ f _ => f cs.toList)
  (fun _ _ => .unit) .unit (fun _ _ _ _ => .unit)
noncomputable def atomF : Value → (Unit) → Bool := @Value.rec (fun _ => (Unit) → Bool) (fun _ => PUnit) (fun _ => PUnit)
  (fun _ _ => true)
  (fun _ _ _ => true)
  (fun _ _ _ => true)
  (fun _ _ _ _ => true)
  (fun _ _ => true)
  (fun _ _ => true)
  (fun _ _ _ _ => true)
  (fun _ _ => true)
  (fun _ _ => true)
  (fun _ _ _ _ _ _ => true)
  (fun  _ => true)
  (fun _ _ _ _ => true)
  (fun  _ => true)
  (fun _ _ _ => false)
  (fun _ _ _ => false)
  (fun _ _ => .unit) .unit (fun _ _ _ _ => .unit)
noncomputable def ovB (b : Bool) : OV := @Bool.rec (fun _ => OV) (some (.bool false)) (some (.bool true)) b
/- Rows. -/
noncomputable def goN (ih : Nat → OV) (o : Nat) : OV := ih o
noncomputable def nth : List Value → Nat → OV := @List.rec Value (fun _ => Nat → OV) (fun _ => none) (fun v _ ih o => @Nat.rec (fun _ => Value → (Nat → OV) → OV) (fun v _ => some v) (fun m _ _ ih => goN ih m) o v ih)
noncomputable def consL (k : List Value → OL) (v : Value) (l : List Value) : OL := k (v :: l)
noncomputable def goT (ih : List Value → (List Value → OL) → OL) (c : List Value) (k : List Value → OL) : OL := ih c k
noncomputable def takeT (base : List Value) : Nat → List Value → (List Value → OL) → OL := @Nat.rec (fun _ => List Value → (List Value → OL) → OL) (fun _ k => k base) (fun _ ih c k => @List.rec Value (fun _ => (List Value → (List Value → OL) → OL) → (List Value → OL) → OL) (fun _ _ => none) (fun v c _ ih k => goT ih c (consL k v)) c ih k)
noncomputable def goD (ih : List Value → OL) (c : List Value) : OL := ih c
noncomputable def dropT (base : List Value) (n : Nat) : Nat → List Value → OL := @Nat.rec (fun _ => List Value → OL) (fun c => takeT base n c some) (fun _ ih c => @List.rec Value (fun _ => (List Value → OL) → OL) (fun _ => none) (fun _ c _ ih => goD ih c) c ih)
noncomputable def cellAtF (A : AW) (b o : Nat) : OV := @Option.rec AObj (fun _ => Nat → OV) (fun _ => none) (fun ob o => @AObj.rec (fun _ => Nat → OV) (fun c _ o => nth c o) (fun _ _ _ => none) ob o) (getF A b) o
noncomputable def cellsF (base : List Value) (A : AW) (b o n : Nat) : OL := @Option.rec AObj (fun _ => List Value → Nat → Nat → OL) (fun _ _ _ => none) (fun ob base o n => @AObj.rec (fun _ => List Value → Nat → Nat → OL) (fun c _ base o n => dropT base n o c) (fun _ _ _ _ _ => none) ob base o n) (getF A b) base o n
noncomputable def aggF : OL → OV := @Option.rec (List Value) (fun _ => OV) none (fun l => some (.agg ⟨l⟩))
/- Reads. -/
noncomputable def rdMoveF (x : CO) (tm : TM) (_ : AW) : OV := evO x tm
noncomputable def rdPickF (c a b : CO) (tm : TM) (_ : AW) : OV := vB (evF c tm) (evO a tm) (evO b tm) none
noncomputable def rdLoadF (a : CO) (tm : TM) (A : AW) : OV := vP (evF a tm) (cellAtF A) none
noncomputable def rdLoadNF (n : Nat) (a : CO) (tm : TM) (A : AW) : OV := vP (evF a tm) (fun b o => aggF (cellsF [] A b o n)) none
noncomputable def rdFieldF (off : Nat) (a : CO) (tm : TM) (_ : AW) : OV := vP (evF a tm) (fun b o => sNO (Nat.add o off) fun o => some (aptr b o)) none
noncomputable def rdIndexArrF (len size : Nat) (x i : CO) (tm : TM) (_ : AW) : OV := vN (evF i tm) (fun _ n => vP (evF x tm) (fun b o => @Bool.rec (fun _ => OV) none (sNO (Nat.add o (Nat.mul n size)) fun o => some (aptr b o)) (Nat.ble (Nat.succ n) len)) none) none
noncomputable def rdIndexSlcF (size : Nat) (x i : CO) (tm : TM) (_ : AW) : OV := vN (evF i tm) (fun _ n => vS (evF x tm) (fun b o len _ => @Bool.rec (fun _ => OV) none (sNO (Nat.add o (Nat.mul n size)) fun o => some (aptr b o)) (Nat.ble (Nat.succ n) len)) none) none
noncomputable def nilC : Value → (Unit) → OV := @Value.rec (fun _ => (Unit) → OV) (fun _ => PUnit) (fun _ => PUnit)
  (fun _ _ => none)
  (fun _ _ _ => none)
  (fun _ _ _ => none)
  (fun _ _ _ _ => none)
  (fun _ _ => none)
  (fun a _ => @Option.rec Addr (fun _ => OV) none (fun a => some (.pointer (some a))) a)
  (fun _ _ _ _ => none)
  (fun r _ => some (.map r))
  (fun _ _ => none)
  (fun fn a b _ _ _ => @Fn.rec (fun _ => Array Value → Array Value → OV) (fun f a b => some (.func (.func f) a b)) (fun _ _ _ => none) (fun _ _ _ _ => none) (fun _ _ _ _ _ _ => none) (fun _ _ _ => none) fn a b)
  (fun  _ => none)
  (fun t v _ _ => some (.iface t v))
  (fun  _ => none)
  (fun _ _ _ => none)
  (fun _ _ _ => none)
  (fun _ _ => .unit) .unit (fun _ _ _ _ => .unit)
noncomputable def rdNilCheckF (x : CO) (tm : TM) (_ : AW) : OV := nilC (evF x tm) ()
/- Ints, both not below 0, of one kind; else the slow way. -/
noncomputable def kNo : IntKind → Nat := @IntKind.rec (fun _ => Nat) 0 1 2 3 4 5 6 7
abbrev IF := IntKind → Nat → Nat → OV → OV
noncomputable def i64F (s : Nat) (d : OV) : OV := @Bool.rec (fun _ => OV) d (sNO s fun s => some (.int .i64 (.ofNat s))) (Nat.ble s 9223372036854775807)
noncomputable def wrF8 (s : Nat) : OV := sNO (Nat.mod s 256) fun s => some (.int .u8 (.ofNat s))
noncomputable def wrF32 (s : Nat) : OV := sNO (Nat.mod s 4294967296) fun s => some (.int .u32 (.ofNat s))
noncomputable def wrF64 (s : Nat) : OV := sNO (Nat.mod s 18446744073709551616) fun s => some (.int .u64 (.ofNat s))
noncomputable def wrN : IntKind → Nat → OV → OV := @IntKind.rec (fun _ => Nat → OV → OV) (fun _ d => d) (fun _ d => d) (fun _ d => d) (fun s d => i64F s d) (fun s _ => wrF8 s) (fun _ d => d) (fun s _ => wrF32 s) (fun s _ => wrF64 s)
noncomputable def addF : IF := fun k m n d => wrN k (Nat.add m n) d
noncomputable def mulF : IF := fun k m n d => wrN k (Nat.mul m n) d
noncomputable def subF : IF := fun k m n d => @Bool.rec (fun _ => OV) d (wrN k (Nat.sub m n) d) (Nat.ble n m)
noncomputable def eqlF : IF := fun _ m n _ => ovB (Nat.beq m n)
noncomputable def neqF : IF := fun _ m n _ => @Bool.rec (fun _ => OV) (some (.bool true)) (some (.bool false)) (Nat.beq m n)
noncomputable def lssF : IF := fun _ m n _ => ovB (Nat.ble (Nat.succ m) n)
noncomputable def leqF : IF := fun _ m n _ => ovB (Nat.ble m n)
noncomputable def gtrF : IF := fun _ m n _ => ovB (Nat.ble (Nat.succ n) m)
noncomputable def geqF : IF := fun _ m n _ => ovB (Nat.ble n m)
noncomputable def rdIntsF (g : IF) (f : IntKind → Int → Int → Option Value) (x y : CO) (tm : TM) (A : AW) : OV :=
  vN (evF x tm) (fun k m => vN (evF y tm) (fun l n => @Bool.rec (fun _ => OV) (rdInts f x y tm A) (g k m n (rdInts f x y tm A)) (Nat.beq (kNo k) (kNo l))) (rdInts f x y tm A)) (rdInts f x y tm A)
noncomputable def fastOp : BinOp → Option IF
  | .add => some addF
  | .sub => some subF
  | .mul => some mulF
  | .eql => some eqlF
  | .neq => some neqF
  | .lss => some lssF
  | .leq => some leqF
  | .gtr => some gtrF
  | .geq => some geqF
  | _ => none
noncomputable def orElseF (f g : TM → AW → OV) (tm : TM) (A : AW) : OV := @Option.rec Value (fun _ => (TM → AW → OV) → TM → AW → OV) (fun g tm A => g tm A) (fun v _ _ _ => some v) (f tm A) g tm A
noncomputable def rdConvF (k : IntKind) (x : CO) (tm : TM) (A : AW) : OV := vN (evF x tm) (fun _ n => wrN k n (rdConv k x tm A)) (rdConv k x tm A)
noncomputable def kBits : IntKind → Nat := @IntKind.rec (fun _ => Nat) 8 16 32 64 8 16 32 64
noncomputable def rdShrF (x y : CO) (tm : TM) (A : AW) : OV := vN (evF x tm) (fun k m => vN (evF y tm) (fun _ n => @Bool.rec (fun _ => OV) (rdShr x y tm A) (sNO (Nat.shiftRight m n) fun s => some (.int k (.ofNat s))) (Nat.ble n (kBits k))) (rdShr x y tm A)) (rdShr x y tm A)
noncomputable def rdNotF (x : CO) (tm : TM) (_ : AW) : OV := vB (evF x tm) (some (.bool false)) (some (.bool true)) none
noncomputable def part1F (off : Nat) (cs : List Value) : OV := nth cs off
noncomputable def partNF (n off : Nat) (cs : List Value) : OV := aggF (dropT [] n off cs)
noncomputable def rdPartF (f : List Value → OV) (x : CO) (tm : TM) (_ : AW) : OV := vA (evF x tm) f none
noncomputable def rdExtractF (i : Nat) (x : CO) (tm : TM) (_ : AW) : OV := vT (evF x tm) (fun l => nth l i) none
noncomputable def lenS : Value → (OV) → OV := @Value.rec (fun _ => (OV) → OV) (fun _ => PUnit) (fun _ => PUnit)
  (fun _ d => d)
  (fun _ _ d => d)
  (fun _ _ d => d)
  (fun _ _ _ d => d)
  (fun _ d => d)
  (fun _ d => d)
  (fun _ n _ _ => some (.int .i64 (.ofNat n)))
  (fun _ d => d)
  (fun _ d => d)
  (fun _ _ _ _ _ d => d)
  (fun  d => d)
  (fun _ _ _ d => d)
  (fun  d => d)
  (fun _ _ d => d)
  (fun _ _ d => d)
  (fun _ _ => .unit) .unit (fun _ _ _ _ => .unit)
noncomputable def rdLenSF (x : CO) (tm : TM) (_ : AW) : OV := lenS (evF x tm) none
/- What acts. -/
noncomputable def consO (k : List Value → Out) (v : Value) (l : List Value) : Out := k (v :: l)
noncomputable def goV (ih : List Value → (List Value → Out) → Out) (c : List Value) (k : List Value → Out) : Out := ih c k
noncomputable def ovF : List Value → List Value → (List Value → Out) → Out := @List.rec Value (fun _ => List Value → (List Value → Out) → Out) (fun c k => k c)
  (fun v _ ih c k => @List.rec Value (fun _ => Value → (List Value → (List Value → Out) → Out) → (List Value → Out) → Out) (fun _ _ _ => .no) (fun _ c _ v ih k => goV ih c (consO k v)) c v ih k)
noncomputable def splF (cs : List Value) : Nat → List Value → (List Value → Out) → Out := @Nat.rec (fun _ => List Value → (List Value → Out) → Out) (fun c k => ovF cs c k)
  (fun _ ih c k => @List.rec Value (fun _ => (List Value → (List Value → Out) → Out) → (List Value → Out) → Out) (fun _ _ => .no) (fun v c _ ih k => goV ih c (consO k v)) c ih k)
noncomputable def allAt : List Value → Bool := @List.rec Value (fun _ => Bool) true (fun v _ ih => @Bool.rec (fun _ => Bool) false ih (atomF v ()))
noncomputable def lenF : List Value → Nat := @List.rec Value (fun _ => Nat) 0 (fun _ _ ih => Nat.succ ih)
noncomputable def wrF (v : Value) (A : AW) (b o : Nat) (cs : List Value) : Out := @AW.rec (fun _ => Value → Nat → Nat → List Value → Out) (fun t nx v b o cs =>
  @Option.rec AObj (fun _ => Tr AObj → Nat → Value → Nat → Nat → List Value → Out) (fun _ _ _ _ _ _ => .no) (fun ob t nx v b o cs => @AObj.rec (fun _ => Tr AObj → Nat → Value → Nat → Nat → List Value → Out) (fun c e t nx v b o cs => splF cs o c fun c' => sO (pathN b) t (some (.row c' e)) fun t' => .val v ⟨t', nx⟩) (fun _ _ _ _ _ _ _ _ => .no) ob t nx v b o cs) (gO (pathN b) t) t nx v b o cs) A v b o cs
noncomputable def wrA (v : Value) (A : AW) (b o : Nat) (cs : List Value) : Out := @Bool.rec (fun _ => Out) .no (wrF v A b o cs) (allAt cs)
noncomputable def stV : Value → (Nat) → (List Value → Out) → Out := @Value.rec (fun _ => (Nat) → (List Value → Out) → Out) (fun _ => PUnit) (fun _ => PUnit)
  (fun b n k => @Bool.rec (fun _ => Out) .no (k [(Value.bool b)]) (Nat.beq 1 n))
  (fun d m n k => @Bool.rec (fun _ => Out) .no (k [(Value.int d m)]) (Nat.beq 1 n))
  (fun d m n k => @Bool.rec (fun _ => Out) .no (k [(Value.float d m)]) (Nat.beq 1 n))
  (fun d a b n k => @Bool.rec (fun _ => Out) .no (k [(Value.complex d a b)]) (Nat.beq 1 n))
  (fun s n k => @Bool.rec (fun _ => Out) .no (k [(Value.string s)]) (Nat.beq 1 n))
  (fun a n k => @Bool.rec (fun _ => Out) .no (k [(Value.pointer a)]) (Nat.beq 1 n))
  (fun a m c n k => @Bool.rec (fun _ => Out) .no (k [(Value.slice a m c)]) (Nat.beq 1 n))
  (fun r n k => @Bool.rec (fun _ => Out) .no (k [(Value.map r)]) (Nat.beq 1 n))
  (fun r n k => @Bool.rec (fun _ => Out) .no (k [(Value.chan r)]) (Nat.beq 1 n))
  (fun fn a b _ _ n k => @Bool.rec (fun _ => Out) .no (k [(Value.func fn a b)]) (Nat.beq 1 n))
  (fun  n k => @Bool.rec (fun _ => Out) .no (k [Value.nilFunc]) (Nat.beq 1 n))
  (fun t v _ n k => @Bool.rec (fun _ => Out) .no (k [(Value.iface t v)]) (Nat.beq 1 n))
  (fun  n k => @Bool.rec (fun _ => Out) .no (k [Value.nilIface]) (Nat.beq 1 n))
  (fun cs _ n k => @Bool.rec (fun _ => Out) .no (k cs.toList) (Nat.beq (lenF cs.toList) n))
  (fun vs _ n k => @Bool.rec (fun _ => Out) .no (k [(Value.tuple vs)]) (Nat.beq 1 n))
  (fun _ _ => .unit) .unit (fun _ _ _ _ => .unit)
noncomputable def acStoreF (n : Nat) (a x : CO) (tm : TM) (A : AW) : Out := vPo (evF a tm) (fun b o => stV (evF x tm) n fun cs => wrA undef A b o cs) .no
noncomputable def evsO : List CO → TM → (List Value → Out) → Out := @List.rec CO (fun _ => TM → (List Value → Out) → Out) (fun _ k => k [])
  (fun x _ ih tm k => @Option.rec Value (fun _ => (TM → (List Value → Out) → Out) → TM → (List Value → Out) → Out) (fun _ _ _ => .no) (fun v ih tm k => ih tm (consO k v)) (evO x tm) ih tm k)
noncomputable def acCallF (f : FuncId) (args : List CO) (tm : TM) (A : AW) : Out := evsO args tm fun l => .ent f l A
noncomputable def newF (e : TypeId) (f : Nat → Value) (A : AW) (cs : List Value) : Out := @AW.rec (fun _ => TypeId → (Nat → Value) → List Value → Out) (fun t nx e f cs =>
  @Bool.rec (fun _ => Out) .no (sO (pathN nx) t (some (.row cs e)) fun t' => sNo (Nat.succ nx) fun m => .val (f nx) ⟨t', m⟩) (Nat.ble (Nat.add nx 2) most)) A e f cs
noncomputable def killF (A : AW) (k b : Nat) (g : AW → Out) : Out := @Bool.rec (fun _ => Out) (@AW.rec (fun _ => Nat → (AW → Out) → Out) (fun t nx b g => sO (pathN b) t none fun t' => g ⟨t', nx⟩) A b g) (g A) (Nat.beq (Nat.mod k 2) 1)
noncomputable def olO (l : OL) (f : List Value → Out) : Out := @Option.rec (List Value) (fun _ => (List Value → Out) → Out) (fun _ => .no) (fun l f => f l) l f
/-- To a slice of a row, new cells in their order. -/
noncomputable def appS (elem size m : Nat) (new : List Value) (A : AW) (b o n k : Nat) : Out :=
  @Bool.rec (fun _ => Out)
    (@Bool.rec (fun _ => Out) .no (olO (cellsF new A b o (Nat.mul n size)) fun cs => killF A k b fun A => sNo (Nat.add n m) fun nm => sNo (Nat.mul 2 nm) fun c => newF elem (fun b => aslc b 0 nm c) A cs)
      (@Bool.rec (fun _ => Bool) false (@Bool.rec (fun _ => Bool) false (elemOk A b elem k) (Nat.ble k bigN)) (Nat.ble n bigN)))
    (sNo (Nat.add n m) fun nm => wrA (aslc b o nm k) A b (Nat.add o (Nat.mul n size)) new) (Nat.ble (Nat.add n m) (Nat.div k 2))
noncomputable def apV : Value → (Nat) → (Nat) → (Nat) → (List Value) → (AW) → Out := @Value.rec (fun _ => (Nat) → (Nat) → (Nat) → (List Value) → (AW) → Out) (fun _ => PUnit) (fun _ => PUnit)
  (fun _ _ _ _ _ _ => .no)
  (fun _ _ _ _ _ _ _ => .no)
  (fun _ _ _ _ _ _ _ => .no)
  (fun _ _ _ _ _ _ _ _ => .no)
  (fun _ _ _ _ _ _ => .no)
  (fun _ _ _ _ _ _ => .no)
  (fun a n c elem size m new A => @Option.rec Addr (fun _ => Nat → Nat → Nat → Nat → Nat → List Value → AW → Out) (fun n c elem _ m new A => @Bool.rec (fun _ => Out) .no (@Bool.rec (fun _ => Out) .no (sNo (Nat.mul 2 m) fun c => newF elem (fun b => aslc b 0 m c) A new) (Nat.beq c 0)) (Nat.beq n 0)) (fun ad n c elem size m new A => pAo (some ad) (fun b o => appS elem size m new A b o n c) .no) a n c elem size m new A)
  (fun _ _ _ _ _ _ => .no)
  (fun _ _ _ _ _ _ => .no)
  (fun _ _ _ _ _ _ _ _ _ _ => .no)
  (fun  _ _ _ _ _ => .no)
  (fun _ _ _ _ _ _ _ _ => .no)
  (fun  _ _ _ _ _ => .no)
  (fun _ _ _ _ _ _ _ => .no)
  (fun _ _ _ _ _ _ _ => .no)
  (fun _ _ => .unit) .unit (fun _ _ _ _ => .unit)
noncomputable def apC (elem size : Nat) (s : CO) (tm : TM) (A : AW) (m : Nat) (new : List Value) : Out := @Bool.rec (fun _ => Out) .no (apV (evF s tm) elem size m new A) (@Bool.rec (fun _ => Bool) false (allAt new) (Nat.ble m (Nat.succ bigN)))
noncomputable def acAppendF (elem size : Nat) (s x : CO) (tm : TM) (A : AW) : Out :=
  vSo (evF x tm) (fun xb xo xn _ => @Nat.rec (fun _ => Nat → Nat → CO → CO → TM → AW → Nat → Nat → Out) (fun elem size s x tm A _ _ => acAppend elem size s x tm A)
    (fun m _ elem size s _ tm A xb xo => olO (cellsF [] A xb xo (Nat.mul (Nat.succ m) size)) fun new => apC elem size s tm A (Nat.succ m) new) xn elem size s x tm A xb xo) (acAppend elem size s x tm A)
/- The code. -/
inductive CF where
  /-- It reads; what it yields is worked out. -/
  | rc (f : TM → AW → OV)
  | rd (f : TM → AW → OV)
  | mkc (f : TM → Option (AObj × (Nat → Value)))
  | mk (f : TM → Option (AObj × (Nat → Value)))
  | act (f : TM → AW → Out)
noncomputable def CF.ci : CF → CI
  | .rc f => .rd f
  | .rd f => .rd f
  | .mkc f => .mk f
  | .mk f => .mk f
  | .act f => .act f
noncomputable def CI.cf : CI → CF
  | .rd f => .rd f
  | .mk f => .mk f
  | .act f => .act f
structure QR where
  cf : CF
  dst : Option Path
  guard : Option (Path × Bool)
noncomputable def putD : Option Path → Value → TM → (TM → R2) → R2 := @Option.rec Path (fun _ => Value → TM → (TM → R2) → R2) (fun _ tm k => k tm) (fun p v tm k => sT p tm (some v) k)
noncomputable def putS : Option Path → Value → TM → (TM → R2) → R2 := @Option.rec Path (fun _ => Value → TM → (TM → R2) → R2) (fun _ tm k => k tm) (fun p v tm k => sF2 v fun v => sT p tm (some v) k)
noncomputable def finF : ORV → Option Path → TM → Nx → R2 := @Option.rec (Value × AW) (fun _ => Option Path → TM → Nx → R2) (fun _ _ _ => .no) (fun p dst tm ih => @Prod.rec Value AW (fun _ => Option Path → TM → Nx → R2) (fun v A dst tm ih => putD dst v tm fun tm => ih tm A) p dst tm ih)
noncomputable def newR (A : AW) (o : AObj) (k : Nat → AW → R2) : R2 := @AW.rec (fun _ => AObj → (Nat → AW → R2) → R2) (fun t nx o k =>
  @Bool.rec (fun _ => R2) .no (sOr (pathN nx) t (some o) fun t' => sN (Nat.succ nx) fun m => k nx ⟨t', m⟩) (Nat.ble (Nat.add nx 2) most)) A o k
noncomputable def outF : Out → CallF → Option Path → TM → Nx → R2 := @Out.rec (fun _ => CallF → Option Path → TM → Nx → R2) (fun v A _ dst tm ih => putS dst v tm fun tm => ih tm A) (fun g args A call dst tm ih => finF (call g args A) dst tm ih) (fun _ _ _ _ => .no)
noncomputable def ovR (s : Option Path → Value → TM → (TM → R2) → R2) : OV → Option Path → TM → AW → Nx → R2 := @Option.rec Value (fun _ => Option Path → TM → AW → Nx → R2) (fun _ _ _ _ => .no) (fun v dst tm A ih => s dst v tm fun tm => ih tm A)
noncomputable def exF : CF → Option Path → CallF → Nx → TM → AW → R2 := @CF.rec (fun _ => Option Path → CallF → Nx → TM → AW → R2)
  (fun f dst _ ih tm A => ovR putD (f tm A) dst tm A ih)
  (fun f dst _ ih tm A => ovR putS (f tm A) dst tm A ih)
  (fun f dst _ ih tm A => @Option.rec (AObj × (Nat → Value)) (fun _ => Option Path → Nx → TM → AW → R2) (fun _ _ _ _ => .no) (fun p dst ih tm A => @Prod.rec AObj (Nat → Value) (fun _ => Option Path → Nx → TM → AW → R2) (fun o g dst ih tm A => newR A o fun b A' => putS dst (g b) tm fun tm => ih tm A') p dst ih tm A) (f tm) dst ih tm A)
  (fun f dst call ih tm A => exec1 call (.mk f) dst tm A ih)
  (fun f dst call ih tm A => outF (f tm A) call dst tm ih)
noncomputable def wBV : Value → (Bool) → Bool := @Value.rec (fun _ => (Bool) → Bool) (fun _ => PUnit) (fun _ => PUnit)
  (fun b w => @Bool.rec (fun _ => Bool → Bool) (fun w => @Bool.rec (fun _ => Bool) true false w) (fun w => w) b w)
  (fun _ _ _ => false)
  (fun _ _ _ => false)
  (fun _ _ _ _ => false)
  (fun _ _ => false)
  (fun _ _ => false)
  (fun _ _ _ _ => false)
  (fun _ _ => false)
  (fun _ _ => false)
  (fun _ _ _ _ _ _ => false)
  (fun  _ => false)
  (fun _ _ _ _ => false)
  (fun  _ => false)
  (fun _ _ _ => false)
  (fun _ _ _ => false)
  (fun _ _ => .unit) .unit (fun _ _ _ _ => .unit)
noncomputable def wB (p : Path × Bool) (tm : TM) : Bool := @Prod.rec Path Bool (fun _ => TM → Bool) (fun p w tm => wBV (valF p tm) w) p tm
noncomputable def stepF : QR → CallF → Nx → Nx := @QR.rec (fun _ => CallF → Nx → Nx) (fun cf dst g call ih tm A =>
  @Option.rec (Path × Bool) (fun _ => CF → Option Path → CallF → Nx → TM → AW → R2) exF (fun p cf dst call ih tm A => @Bool.rec (fun _ => CF → Option Path → CallF → Nx → TM → AW → R2) (fun _ dst _ ih tm A => putD dst undef tm fun tm => ih tm A) exF (wB p tm) cf dst call ih tm A) g cf dst call ih tm A)
noncomputable def seqF (call : CallF) : List QR → Nx := @List.rec QR (fun _ => Nx) (fun tm A => .ok tm A) (fun c _ ih => stepF c call ih)
section
variable (P : Program) (ns : Nat)
noncomputable def ciBinF (o : Oper) (op : BinOp) (t : TypeId) (x y : CO) : Option CF :=
  match intOp op, fastOp op, under P t with
  | some f, some g, some (.int _) => some (.rc (orElseF (rdIntsF g f x y) (rdClosed P ns o)))
  | _, _, some (.int _) => match op with
    | .shr => some (.rc (orElseF (rdShrF x y) (rdClosed P ns o)))
    | _ => (ciBin P ns o op t x y).map CI.cf
  | _, _, _ => (ciBin P ns o op t x y).map CI.cf
noncomputable def partOfF (t : TypeId) (off : Nat) : Option (List Value → OV) := match isAggT P t, sizeT P t with
  | some true, some n => some (partNF n off)
  | some false, some _ => some (part1F off)
  | _, _ => none
noncomputable def cfOf (o : Oper) : Option CF :=
  match o.op with
  | .move x => some (.rc (rdMoveF (co ns x)))
  | .assign x => some (.rc (rdMoveF (co ns x)))
  | .pick c a b => some (.rc (rdPickF (co ns c) (co ns a) (co ns b)))
  | .alloc t => match zeroT P t with
    | some z => some (.mkc (mkAlloc t z))
    | none => none
  | .load t a => match isAggT P t, sizeT P t with
    | some true, some n => some (.rc (rdLoadNF n (co ns a)))
    | some false, _ => some (.rc (rdLoadF (co ns a)))
    | _, _ => none
  | .store t a x => match sizeT P t with
    | some n => some (.act (acStoreF n (co ns a) (co ns x)))
    | none => none
  | .nilCheck x => some (.rc (rdNilCheckF (co ns x)))
  | .binOp op t x y _ => ciBinF P ns o op t (co ns x) (co ns y)
  | .unOp op _ x => match op with
    | .not => some (.rc (rdNotF (co ns x)))
    | _ => (ci P ns o).map CI.cf
  | .convert src dst x => match under P src, under P dst with
    | some (.int _), some (.int k) => some (.rc (orElseF (rdConvF k (co ns x)) (rdClosed P ns o)))
    | _, _ => (ci P ns o).map CI.cf
  | .fieldAddr s x f => match under P s with
    | some (.struct fields) => match fields.toList[f]? with
      | some fd => match sizeT P fd.type with
        | some (_ + 1) => some (.rc (rdFieldF fd.offset (co ns x)))
        | _ => none
      | none => none
    | _ => none
  | .field t x f => match under P t with
    | some (.struct fields) => match fields.toList[f]? with
      | some fd => match partOfF P fd.type fd.offset with
        | some g => some (.rc (rdPartF g (co ns x)))
        | none => none
      | none => none
    | _ => none
  | .indexAddr t x i => match under P t with
    | some (.array len elem) => match sizeT P elem with
      | some size => some (.rc (rdIndexArrF len size (co ns x) (co ns i)))
      | none => none
    | some (.slice elem) => match sizeT P elem with
      | some size => some (.rc (rdIndexSlcF size (co ns x) (co ns i)))
      | none => none
    | _ => none
  | .extract t i => some (.rc (rdExtractF i (co ns t)))
  | .call c => match c.callee with
    | .value (.func f) => bif hasBody P f then some (.act (acCallF f (cos ns c.args))) else (ci P ns o).map CI.cf
    | .builtin b => match b, cos ns c.args, c.argTypes.toList with
      | .append, [s, x], [st, xt] => match under P st, under P xt with
        | some (.slice elem), some (.slice _) => match sizeT P elem, zeroT P elem with
          | some (size + 1), some z => match bytesT P elem with
            | some (b + 1) => bif Nat.ble b 1000000 && Nat.beq (cellsL z).length (size + 1) then some (.act (acAppendF elem (size + 1) s x)) else none
            | _ => none
          | _, _ => none
        | _, _ => (ci P ns o).map CI.cf
      | .len, [x], [t] => match under P t with
        | some (.slice _) => some (.rc (rdLenSF x))
        | _ => (ci P ns o).map CI.cf
      | _, _, _ => (ci P ns o).map CI.cf
    | _ => (ci P ns o).map CI.cf
  | _ => (ci P ns o).map CI.cf
noncomputable def qr (ops : List Oper) (o : Oper) : Option QR := match cfOf P ns o, guardOf ns ops o, pathO ns o.dst with
  | some c, some g, some d => bif o.op.operands.toList.all okO then some ⟨c, d, g⟩ else none
  | _, _, _ => none
noncomputable def qrs (ops : List Oper) : List Oper → Option (List QR)
  | [] => some []
  | o :: l => match qr P ns ops o, qrs ops l with
    | some c, some cs => some (c :: cs)
    | _, _ => none
end
noncomputable def seqR : R → Rec1 → Code → R := @R.rec (fun _ => Rec1 → Code → R) (fun tm A rec b => rec (.c b) tm A) (fun i tm A _ _ => .exit i tm A) (fun l tm A _ _ => .goto l tm A) (fun tm A _ _ => .ret tm A) (fun _ _ => .no)
noncomputable def blockR : R → Nat → R := @R.rec (fun _ => Nat → R) (fun tm A _ => .norm tm A) (fun j tm A i => @Bool.rec (fun _ => Nat → TM → AW → R) .exit (fun _ tm A => .norm tm A) (Nat.beq j i) j tm A) (fun l tm A _ => .goto l tm A) (fun tm A _ => .ret tm A) (fun _ => .no)
noncomputable def scopeR : R → Rec1 → Code → R := @R.rec (fun _ => Rec1 → Code → R) (fun tm A _ _ => .norm tm A) (fun i tm A _ _ => .exit i tm A)
  (fun l tm A rec whole => @Option.rec Code (fun _ => Nat → TM → AW → Rec1 → Code → R) (fun l tm A _ _ => .goto l tm A) (fun rest _ tm A rec whole => rec (.s whole rest) tm A) (findLabel whole l) l tm A rec whole) (fun tm A _ _ => .ret tm A) (fun _ _ => .no)
noncomputable def normF : R2 → R := @R2.rec (fun _ => R) .norm .no
noncomputable def regionF (call : CallF) (tm : TM) (A : AW) (o : Option (List QR)) : R := @Option.rec (List QR) (fun _ => CallF → TM → AW → R) (fun _ _ _ => .no) (fun l call tm A => normF (seqF call l tm A)) o call tm A
noncomputable def condV : Value → (Rec1) → (Code) → (Code) → (TM) → (AW) → R := @Value.rec (fun _ => (Rec1) → (Code) → (Code) → (TM) → (AW) → R) (fun _ => PUnit) (fun _ => PUnit)
  (fun c rec a b tm A => @Bool.rec (fun _ => Rec1 → Code → Code → TM → AW → R) (fun rec _ b tm A => rec (.c b) tm A) (fun rec a _ tm A => rec (.c a) tm A) c rec a b tm A)
  (fun _ _ _ _ _ _ _ => .no)
  (fun _ _ _ _ _ _ _ => .no)
  (fun _ _ _ _ _ _ _ _ => .no)
  (fun _ _ _ _ _ _ => .no)
  (fun _ _ _ _ _ _ => .no)
  (fun _ _ _ _ _ _ _ _ => .no)
  (fun _ _ _ _ _ _ => .no)
  (fun _ _ _ _ _ _ => .no)
  (fun _ _ _ _ _ _ _ _ _ _ => .no)
  (fun  _ _ _ _ _ => .no)
  (fun _ _ _ _ _ _ _ _ => .no)
  (fun  _ _ _ _ _ => .no)
  (fun _ _ _ _ _ _ _ => .no)
  (fun _ _ _ _ _ _ _ => .no)
  (fun _ _ => .unit) .unit (fun _ _ _ _ => .unit)
noncomputable def condR (x : Operand) (ns : Nat) (tm : TM) (rec : Rec1) (a b : Code) (A : AW) : R := @Bool.rec (fun _ => R) .no (condV (evF (co ns x) tm) rec a b tm A) (okO x)
abbrev JT := Program → Nat → CallF → Rec1 → TM → AW → R
noncomputable def codeF : Code → JT := @Code.rec (fun _ => JT)
  (fun _ _ _ _ tm A => .norm tm A)
  (fun _ ops d P ns call _ tm A => @Bool.rec (fun _ => Array Oper → Program → Nat → CallF → TM → AW → R) (fun ops P ns call tm A => regionF call tm A (qrs P ns ops.toList ops.toList)) (fun ops P ns call tm A => doDrawn call tm A (cd P ns ops (masks ops.toList []))) d ops P ns call tm A)
  (fun a b _ _ _ _ _ rec tm A => seqR (rec (.c a) tm A) rec b)
  (fun x a b _ _ _ ns _ rec tm A => condR x ns tm rec a b A)
  (fun i b _ _ _ _ rec tm A => blockR (rec (.c b) tm A) i)
  (fun b _ _ _ _ rec tm A => seqR (rec (.c b) tm A) rec (.loop b))
  (fun _ _ _ _ _ _ _ _ _ _ _ _ => .no)
  (fun i _ _ _ _ tm A => .exit i tm A)
  (fun b _ _ _ _ rec tm A => scopeR (rec (.c b) tm A) rec b)
  (fun _ _ _ _ _ tm A => .norm tm A)
  (fun l _ _ _ _ tm A => .goto l tm A)
  (fun _ _ _ _ tm A => .ret tm A)
  (fun _ _ _ _ _ _ _ => .no)
noncomputable def jobF : Job → JT := @Job.rec (fun _ => JT) codeF (fun whole b _ _ _ rec tm A => scopeR (rec (.c b) tm A) rec whole)
noncomputable def runF (P : Program) (ns : Nat) (call : CallF) : Nat → Rec1 := @Nat.rec (fun _ => Rec1) (fun _ _ _ => .no) (fun _ ih j => jobF j P ns call ih)
/- Calls. -/
noncomputable def consR (k : List Value → ORV) (v : Value) (l : List Value) : ORV := k (v :: l)
noncomputable def entF : List Value → Nat → TM → (TM → ORV) → ORV := @List.rec Value (fun _ => Nat → TM → (TM → ORV) → ORV) (fun _ tm k => k tm) (fun v _ ih i tm k => sTr (pathN i) tm (some v) fun tm => ih (Nat.succ i) tm k)
noncomputable def cellV (P : Program) (ns a t : Nat) : TM → AW → OV := match isAggT P t, sizeT P t with
  | some true, some n => rdLoadNF n (co ns (.tmp a))
  | some false, _ => rdLoadF (co ns (.tmp a))
  | _, _ => fun _ _ => none
noncomputable def ovK : OV → (List Value → ORV) → ((List Value → ORV) → ORV) → ORV := @Option.rec Value (fun _ => (List Value → ORV) → ((List Value → ORV) → ORV) → ORV) (fun _ _ => none) (fun v k g => g (consR k v))
noncomputable def resF (P : Program) (ns : Nat) : List ResultVar → TM → AW → (List Value → ORV) → ORV := @List.rec ResultVar (fun _ => TM → AW → (List Value → ORV) → ORV) (fun _ _ k => k [])
  (fun rv _ ih tm A k => @ResultVar.rec (fun _ => (TM → AW → (List Value → ORV) → ORV) → TM → AW → (List Value → ORV) → ORV) (fun t ih tm A k => ovK (evO (co ns (.tmp t)) tm) k (ih tm A)) (fun a t ih tm A k => ovK (cellV P ns a t tm A) k (ih tm A)) rv ih tm A k)
noncomputable def doneF (P : Program) (fn : Func) (tm : TM) (A : AW) : ORV := resF P fn.ntmps fn.results.toList tm A fun vs => some (tupled vs, A)
noncomputable def endsF (P : Program) (fn : Func) : R → ORV := @R.rec (fun _ => ORV) (fun tm A => doneF P fn tm A) (fun _ _ _ => none) (fun _ _ _ => none) (fun tm A => doneF P fn tm A) none
noncomputable def bodyF (P : Program) (fn : Func) : Option Code → CallF → List Value → AW → ORV := @Option.rec Code (fun _ => CallF → List Value → AW → ORV) (fun _ _ _ => none) (fun b call args A =>
  @Bool.rec (fun _ => ORV) none (entF args 0 .nil fun tm => endsF P fn (runF P fn.ntmps call 1000000 (.c b) tm A)) (@Bool.rec (fun _ => Bool) false (Nat.ble (lenF args) fn.ntmps) (Nat.ble fn.ntmps 281474976710600)))
noncomputable def enterFF (P : Program) : Option Func → CallF → List Value → AW → ORV := @Option.rec Func (fun _ => CallF → List Value → AW → ORV) (fun _ _ _ => none) (fun fn call args A => bodyF P fn fn.body call args A)
noncomputable def callF (P : Program) (orc : Orc) : Nat → CallF := @Nat.rec (fun _ => CallF) (fun _ _ _ => none)
  (fun _ ih f args A => @Option.rec CallF (fun _ => CallF → FuncId → List Value → AW → ORV) (fun ih f args A => enterFF P P.funcs[f]? ih args A) (fun g _ f args A => g f args A) (orc f) ih f args A)
end Ev
end Go.Proofs.YtmohidgdmmkikaaGreatDoor
