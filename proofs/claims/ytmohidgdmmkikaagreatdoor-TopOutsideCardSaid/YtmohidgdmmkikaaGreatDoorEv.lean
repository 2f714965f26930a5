/- The evaluator: a run of Go code over an abstract heap, to be computed by the kernel. Blocks have names (numbers of the evaluator's own). The capacity of a slice is told twice and one more where it is exact, twice where it is a least one. What hangs on the program's text alone is worked out first, so that the kernel keeps it. No proof stands here. -/
import Derived.Orders
import Derived.Still
namespace Go.Proofs.YtmohidgdmmkikaaGreatDoor
namespace Ev

inductive AObj where
  | row (c : List Value) (e : TypeId)
  | map (es : List MapEntry) (clock : Nat)
inductive Tr (α : Type) where
  | nil
  | node (l : Tr α) (v : Option α) (r : Tr α)
abbrev Path := List Bool
/-- What comes next, the number worked out first. -/
noncomputable def sNat {β : Sort _} (n : Nat) (k : Nat → β) : β := Nat.casesOn n (k 0) fun m => k (Nat.succ m)
noncomputable def pathF : Nat → Nat → Path
  | 0, _ => []
  | f + 1, n =>
    match n with
    | 0 => []
    | m + 1 => Nat.beq (m % 2) 0 :: pathF f (m / 2)
noncomputable def path (n : Nat) : Path := pathF 48 n
noncomputable def Tr.get {α : Type} (t : Tr α) : Path → Option α :=
  Tr.rec (motive := fun _ => Path → Option α) (fun _ => none) (fun _ v _ gl gr p => List.rec (motive := fun _ => Option α) v (fun b q _ => Bool.rec (motive := fun _ => Option α) (gr q) (gl q) b) p) t
noncomputable def Tr.set {α : Type} (v : Option α) : Path → Tr α → Tr α
  | [], .nil => .node .nil v .nil
  | [], .node l _ r => .node l v r
  | true :: p, .nil => .node (Tr.set v p .nil) none .nil
  | false :: p, .nil => .node .nil none (Tr.set v p .nil)
  | true :: p, .node l x r => .node (Tr.set v p l) x r
  | false :: p, .node l x r => .node l x (Tr.set v p r)
/-- The same, the whole way worked out before what comes next. -/
noncomputable def Tr.setK {α : Type} {β : Type} (v : Option α) (p : Path) : Tr α → (Tr α → β) → β :=
  List.rec (motive := fun _ => Tr α → (Tr α → β) → β)
    (fun t k => Tr.rec (motive := fun _ => β) (k (.node .nil v .nil)) (fun l _ r _ _ => k (.node l v r)) t)
    (fun b _ ih t k => Tr.rec (motive := fun _ => β)
      (Bool.rec (motive := fun _ => β) (ih .nil fun r => k (.node .nil none r)) (ih .nil fun l => k (.node l none .nil)) b)
      (fun l x r _ _ => Bool.rec (motive := fun _ => β) (ih r fun r' => k (.node l x r')) (ih l fun l' => k (.node l' x r)) b) t) p
structure AW where
  t : Tr AObj
  next : Nat
noncomputable def AW.get (A : AW) (b : Nat) : Option AObj := A.t.get (path b)
noncomputable def most : Nat := 281474976710655
noncomputable def AW.upd (A : AW) (b : Nat) (o : Option AObj) : AW := A.t.setK o (path b) fun t => ⟨t, A.next⟩
noncomputable def AW.new (A : AW) (o : AObj) : Option (Nat × AW) := bif Nat.ble (A.next + 2) most then A.t.setK (some o) (path A.next) fun t => sNat (A.next + 1) fun m => some (A.next, ⟨t, m⟩) else none
/-- Values, worked out before what comes next. -/
noncomputable def consK {α β : Type} (k : List α → β) (v : α) (l : List α) : β := k (v :: l)
noncomputable def sBytes {β : Type} (l : List UInt8) : (List UInt8 → β) → β :=
  List.rec (motive := fun _ => (List UInt8 → β) → β) (fun k => k []) (fun b _ ih k => sNat b.toNat fun n => ih (consK k (UInt8.ofNat n))) l
noncomputable def sInt {β : Type} (n : Int) (k : Int → β) : β := Int.rec (motive := fun _ => β) (fun m => sNat m fun m => k (.ofNat m)) (fun m => sNat m fun m => k (.negSucc m)) n
noncomputable def sAddr {β : Type} (a : Addr) (k : Addr → β) : β := Addr.rec (motive := fun _ => β) (fun b o s => sNat b fun b => sNat o fun o => k ⟨b, o, s⟩) a
noncomputable def sPtr {β : Type} (a : Option Addr) (k : Option Addr → β) : β := Option.rec (motive := fun _ => β) (k none) (fun a => sAddr a fun a => k (some a)) a
noncomputable def sMap {β : Type} (a : Option Nat) (k : Option Nat → β) : β := Option.rec (motive := fun _ => β) (k none) (fun a => sNat a fun a => k (some a)) a
noncomputable def sL {β : Type} (f : Value → (Value → β) → β) (l : List Value) : (List Value → β) → β :=
  List.rec (motive := fun _ => (List Value → β) → β) (fun k => k []) (fun v _ ih k => f v fun v => ih (consK k v)) l
/-- A value, worked out before what comes next; 'f' does so with the parts of an aggregate. -/
noncomputable def sWith {β : Type} (f : Value → (Value → β) → β) (v : Value) (k : Value → β) : β :=
  Value.casesOn v
    (fun b => Bool.rec (motive := fun _ => β) (k (.bool false)) (k (.bool true)) b)
    (fun d n => sInt n fun n => k (.int d n))
    (fun d n => k (.float d n))
    (fun d a b => k (.complex d a b))
    (fun s => sBytes s.data.toList fun l => k (.string ⟨⟨l⟩⟩))
    (fun a => sPtr a fun a => k (.pointer a))
    (fun a n c => sPtr a fun a => sNat n fun n => sNat c fun c => k (.slice a n c))
    (fun r => sMap r fun r => k (.map r))
    (fun r => k (.chan r))
    (fun fn a b => sL f a.toList fun a => sL f b.toList fun b => k (.func fn ⟨a⟩ ⟨b⟩))
    (k .nilFunc)
    (fun t v => f v fun v => k (.iface t v))
    (k .nilIface)
    (fun cs => sL f cs.toList fun l => k (.agg ⟨l⟩))
    (fun vs => sL f vs.toList fun l => k (.tuple ⟨l⟩))
noncomputable def sV0 {β : Type} : Value → (Value → β) → β := sWith fun v k => k v
noncomputable def sV1 {β : Type} : Value → (Value → β) → β := sWith sV0
noncomputable def sV {β : Type} : Value → (Value → β) → β := sWith sV1
noncomputable def sA {β : Type} (A : AW) (k : AW → β) : β := AW.casesOn A fun t n => sNat n fun n => k ⟨t, n⟩
abbrev TM := Tr Value
noncomputable def TM.val (tm : TM) (p : Path) : Value := Option.rec (motive := fun _ => Value) undef (fun v => v) (Tr.get tm p)
/-- A value of one cell. -/
noncomputable def atomB : Value → Bool
  | .agg _ | .tuple _ => false
  | _ => true
noncomputable def clo0 : Value → Bool
  | .bool _ | .int .. | .float .. | .complex .. | .string _ | .nilFunc | .nilIface => true
  | .pointer a => a.isNone
  | .slice a _ _ => a.isNone
  | .map r | .chan r => r.isNone
  | _ => false
noncomputable def clo1 : Value → Bool
  | .agg cs => cs.toList.all clo0
  | .iface _ (.agg cs) => cs.toList.all clo0
  | .iface _ v => clo0 v
  | v => clo0 v
/-- A value without an address. -/
noncomputable def clo : Value → Bool
  | .tuple vs => vs.toList.all clo1
  | v => clo1 v
noncomputable def cellsL : Value → List Value
  | .agg cs => cs.toList
  | v => [v]

inductive CO where
  | slot (p : Path)
  | lit (v : Value)
noncomputable def co (ns : Nat) : Operand → CO
  | .tmp t => bif Nat.blt t ns then .slot (path t) else .lit undef
  | .const v => .lit v
  | .global g => .lit (.chan (some g))
  | .func f => .lit (.func (.func f) #[] #[])
noncomputable def okO : Operand → Bool
  | .const v => clo v
  | _ => true
noncomputable def CO.ev (x : CO) (tm : TM) : Value := CO.rec (motive := fun _ => Value) (fun p => tm.val p) (fun v => v) x

/-- A run that asks nothing of memory. -/
noncomputable def runPure (P : Program) {α : Type} : Sem α → Option α
  | .pure a => some a
  | .program k => runPure P (k P)
  | .choose q k => bif q.forced then runPure P (k 0) else none
  | .mark _ k => runPure P k
  | _ => none

section
variable (P : Program)
noncomputable def under (t : TypeId) : Option TypeDesc := P.underlying t
noncomputable def sizeT (t : TypeId) : Option Nat := match P.info? t with | some i => some i.size | none => none
noncomputable def bytesT (t : TypeId) : Option Nat := match P.info? t with | some i => some i.bytes | none => none
noncomputable def zeroT (t : TypeId) : Option Value := match P.info? t with
  | some i => match i.zero with
    | some z => bif clo1 z then some z else none
    | none => none
  | none => none
noncomputable def isAggT (t : TypeId) : Option Bool := match P.underlying t with
  | some (.struct _) | some (.array _ _) => some true
  | some _ => some false
  | none => none
end

noncomputable def aptr (b o : Nat) : Value := .pointer (some ⟨b, o, none⟩)
noncomputable def aslc (b o n k : Nat) : Value := .slice (some ⟨b, o, none⟩) n k
/-- What an operation comes to. -/
inductive Out where
  | val (v : Value) (A : AW)
  | ent (f : FuncId) (args : List Value) (A : AW)
  | no
inductive CI where
  /-- It reads, or does less. -/
  | rd (f : TM → AW → Option Value)
  /-- It makes a block and does nothing else: the block, the value by the block's name. -/
  | mk (f : TM → Option (AObj × (Nat → Value)))
  | act (f : TM → AW → Out)

/- Reads. -/
noncomputable def rdMove (x : CO) (tm : TM) (_ : AW) : Option Value := some (x.ev tm)
noncomputable def rdPick (c a b : CO) (tm : TM) (_ : AW) : Option Value := match c.ev tm with
  | .bool true => some (a.ev tm)
  | .bool false => some (b.ev tm)
  | _ => none
noncomputable def cellAt (A : AW) (b o : Nat) : Option Value := match A.get b with
  | some (.row c _) => c[o]?
  | _ => none
noncomputable def cellsAt (A : AW) (b o n : Nat) : Option (List Value) := match A.get b with
  | some (.row c _) => bif Nat.ble (o + n) c.length then some ((c.drop o).take n) else none
  | _ => none
noncomputable def rdLoad (a : CO) (tm : TM) (A : AW) : Option Value := match a.ev tm with
  | .pointer (some ⟨b, o, none⟩) => cellAt A b o
  | _ => none
noncomputable def aggOf : Option (List Value) → Option Value
  | some cs => some (.agg ⟨cs⟩)
  | none => none
noncomputable def rdLoadN (n : Nat) (a : CO) (tm : TM) (A : AW) : Option Value := match a.ev tm with
  | .pointer (some ⟨b, o, none⟩) => aggOf (cellsAt A b o n)
  | _ => none
noncomputable def rdField (off : Nat) (a : CO) (tm : TM) (_ : AW) : Option Value := match a.ev tm with
  | .pointer (some ⟨b, o, none⟩) => some (aptr b (o + off))
  | _ => none
noncomputable def rdIndexArr (len size : Nat) (x i : CO) (tm : TM) (_ : AW) : Option Value := match i.ev tm, x.ev tm with
  | .int _ (.ofNat n), .pointer (some ⟨b, o, none⟩) => bif Nat.blt n len then some (aptr b (o + n * size)) else none
  | _, _ => none
noncomputable def rdIndexSlc (size : Nat) (x i : CO) (tm : TM) (_ : AW) : Option Value := match i.ev tm, x.ev tm with
  | .int _ (.ofNat n), .slice (some ⟨b, o, none⟩) len _ => bif Nat.blt n len then some (aptr b (o + n * size)) else none
  | _, _ => none
noncomputable def rdNilCheck (x : CO) (tm : TM) (_ : AW) : Option Value := match x.ev tm with
  | .pointer (some a) => some (.pointer (some a))
  | .iface t v => some (.iface t v)
  | .func (.func f) a b => some (.func (.func f) a b)
  | .map r => some (.map r)
  | _ => none
noncomputable def cloL (xs : List CO) (tm : TM) : Bool := xs.all fun x => clo (x.ev tm)
noncomputable def evalC (ns : Nat) (tm : TM) (x : Operand) : Value := (co ns x).ev tm
/-- An operation whose operands have no address, that asks nothing of memory. -/
noncomputable def rdClosed (P : Program) (ns : Nat) (o : Oper) (tm : TM) (_ : AW) : Option Value :=
  bif cloL (o.op.operands.toList.map (co ns)) tm then
    match runPure P (execOp (evalC ns tm) o) with
    | some (.value v) => bif clo v then some v else none
    | _ => none
  else none
/-- Ints, the quick way where nothing is out of the kind's range. -/
noncomputable def ltI : Int → Int → Bool
  | .ofNat m, .ofNat n => Nat.blt m n
  | .negSucc _, .ofNat _ => true
  | .ofNat _, .negSucc _ => false
  | .negSucc m, .negSucc n => Nat.blt n m
noncomputable def eqI : Int → Int → Bool
  | .ofNat m, .ofNat n => Nat.beq m n
  | .negSucc m, .negSucc n => Nat.beq m n
  | _, _ => false
noncomputable def wrapI (k : IntKind) (n : Int) : Int :=
  match k, n with
  | .i64, .ofNat m => bif Nat.blt m 9223372036854775808 then .ofNat m else k.wrap (.ofNat m)
  | .i64, .negSucc m => bif Nat.blt m 9223372036854775808 then .negSucc m else k.wrap (.negSucc m)
  | .u8, .ofNat m => .ofNat (m % 256)
  | .u32, .ofNat m => .ofNat (m % 4294967296)
  | .u64, .ofNat m => .ofNat (m % 18446744073709551616)
  | k, n => k.wrap n
noncomputable def natOp (f : Nat → Nat → Nat) (k : IntKind) : Int → Int → Option Value
  | .ofNat m, .ofNat n => match k with
    | .u8 => bif Nat.blt m 256 && Nat.blt n 256 then some (.int .u8 (.ofNat (f m n))) else none
    | .u32 => bif Nat.blt m 4294967296 && Nat.blt n 4294967296 then some (.int .u32 (.ofNat (f m n))) else none
    | .u64 => bif Nat.blt m 18446744073709551616 && Nat.blt n 18446744073709551616 then some (.int .u64 (.ofNat (f m n))) else none
    | _ => none
  | _, _ => none
noncomputable def intOp : BinOp → Option (IntKind → Int → Int → Option Value)
  | .add => some fun k a b => some (.int k (wrapI k (a + b)))
  | .sub => some fun k a b => some (.int k (wrapI k (a - b)))
  | .mul => some fun k a b => some (.int k (wrapI k (a * b)))
  | .eql => some fun _ a b => some (.bool (eqI a b))
  | .neq => some fun _ a b => some (.bool (!eqI a b))
  | .lss => some fun _ a b => some (.bool (ltI a b))
  | .leq => some fun _ a b => some (.bool (!ltI b a))
  | .gtr => some fun _ a b => some (.bool (ltI b a))
  | .geq => some fun _ a b => some (.bool (!ltI a b))
  | .and => some (natOp Nat.land)
  | .or => some (natOp Nat.lor)
  | .xor => some (natOp Nat.xor)
  | _ => none
noncomputable def rdInts (f : IntKind → Int → Int → Option Value) (x y : CO) (tm : TM) (_ : AW) : Option Value := match x.ev tm, y.ev tm with
  | .int k a, .int l b => bif decide (k = l) then f k a b else none
  | _, _ => none
/-- A shift to the right, a number that is not below 0. -/
noncomputable def rdShr (x y : CO) (tm : TM) (_ : AW) : Option Value := match x.ev tm, y.ev tm with
  | .int k (.ofNat m), .int _ (.ofNat n) => bif Nat.ble n k.bits then some (.int k (.ofNat (m >>> n))) else none
  | _, _ => none
noncomputable def eqB : List UInt8 → List UInt8 → Bool
  | [], [] => true
  | a :: l, b :: m => bif Nat.beq a.toNat b.toNat then eqB l m else false
  | _, _ => false
noncomputable def strOp : BinOp → Option (ByteArray → ByteArray → Option Value)
  | .eql => some fun a b => some (.bool (eqB a.data.toList b.data.toList))
  | .neq => some fun a b => some (.bool (!eqB a.data.toList b.data.toList))
  | .add => some fun a b => bif Nat.ble (a.data.toList.length + b.data.toList.length) 1099511627776 then some (.string ⟨⟨a.data.toList ++ b.data.toList⟩⟩) else none
  | _ => none
noncomputable def rdStrs (f : ByteArray → ByteArray → Option Value) (x y : CO) (tm : TM) (_ : AW) : Option Value := match x.ev tm, y.ev tm with
  | .string a, .string b => f a b
  | _, _ => none
noncomputable def rdConv (k : IntKind) (x : CO) (tm : TM) (_ : AW) : Option Value := match x.ev tm with
  | .int _ n => some (.int k (wrapI k n))
  | _ => none
noncomputable def rdNot (x : CO) (tm : TM) (_ : AW) : Option Value := match x.ev tm with
  | .bool b => some (.bool (!b))
  | _ => none
noncomputable def rdByteAt (x i : CO) (tm : TM) (_ : AW) : Option Value := match x.ev tm, i.ev tm with
  | .string s, .int _ (.ofNat n) => match s.data.toList[n]? with
    | some b => some (.int .u8 (.ofNat b.toNat))
    | none => none
  | _, _ => none
noncomputable def orElse (f g : TM → AW → Option Value) (tm : TM) (A : AW) : Option Value := match f tm A with
  | some v => some v
  | none => g tm A
/-- == where a value with an address stands against nil. -/
noncomputable def aequal : TypeDesc → Value → Value → Option Bool
  | .pointer _, .pointer none, .pointer b => some b.isNone
  | .pointer _, .pointer (some _), .pointer none => some false
  | .slice _, .slice none _ _, .slice b _ _ => some b.isNone
  | .slice _, .slice (some _) _ _, .slice none _ _ => some false
  | .map _ _, .map none, .map b => some b.isNone
  | .map _ _, .map (some _), .map none => some false
  | .func _ _ _, .nilFunc, .func _ _ _ => some false
  | .func _ _ _, .func _ _ _, .nilFunc => some false
  | .interface _, .nilIface, .iface _ _ => some false
  | .interface _, .iface _ _, .nilIface => some false
  | _, _, _ => none
noncomputable def rdNil (neg : Bool) (d : TypeDesc) (x y : CO) (tm : TM) (_ : AW) : Option Value := match aequal d (x.ev tm) (y.ev tm) with
  | some b => some (.bool (b != neg))
  | none => none
/-- The cells of a slice, or of a text. -/
noncomputable def rowCells (A : AW) (size : Nat) : Value → Option (List Value)
  | .slice none 0 _ => some []
  | .slice (some ⟨b, o, none⟩) n _ => cellsAt A b o (n * size)
  | .string s => some (s.data.toList.map fun b => .int .u8 b.toNat)
  | _ => none
noncomputable def bytesOf : List Value → Option (List UInt8)
  | [] => some []
  | .int .u8 n :: l => match bytesOf l with
    | some bs => some (UInt8.ofNat n.toNat :: bs)
    | none => none
  | _ => none
noncomputable def strOf : Option (List Value) → Option Value
  | some cs => match bytesOf cs with
    | some bs => some (.string ⟨bs.toArray⟩)
    | none => none
  | none => none
noncomputable def rdStr (x : CO) (tm : TM) (A : AW) : Option Value := match x.ev tm with
  | .slice a n k => strOf (rowCells A 1 (.slice a n k))
  | _ => none
noncomputable def rdIface (t : TypeId) (x : CO) (tm : TM) (_ : AW) : Option Value := some (.iface t (x.ev tm))
noncomputable def rdFunc (fn : Fn) (a b : List CO) (tm : TM) (_ : AW) : Option Value := some (.func fn ⟨a.map (·.ev tm)⟩ ⟨b.map (·.ev tm)⟩)
noncomputable def bnd (v : Option Value) (lim dflt : Nat) : Option Nat :=
  match v with
  | none => some dflt
  | some (.int _ (.ofNat i)) => bif Nat.ble i lim then some i else none
  | _ => none
noncomputable def slc3 (size b o m : Nat) (h l : Option Nat) : Option Value := match h, l with
  | some h, some l => bif Nat.ble l h then some (aslc b (bif Nat.beq m l then o else o + l * size) (h - l) (2 * (m - l) + 1)) else none
  | _, _ => none
noncomputable def slc2 (size b o c ex : Nat) (h l : Option Nat) : Option Value := match h, l with
  | some h, some l => bif Nat.ble l h && Nat.ble h c then some (aslc b (bif Nat.beq c l then o else o + l * size) (h - l) (2 * (c - l) + ex)) else none
  | _, _ => none
noncomputable def sliceRow (size b o len c ex : Nat) (lo hi mx : Option Value) : Option Value :=
  match mx with
  | some _ => match hi, bnd mx c 0 with
    | some _, some m => slc3 size b o m (bnd hi m 0) (bnd lo m 0)
    | _, _ => none
  | none => slc2 size b o c ex (bnd hi c len) (bnd lo c 0)
noncomputable def evM (x : Option CO) (tm : TM) : Option Value := match x with
  | some x => some (x.ev tm)
  | none => none
noncomputable def rdSliceArr (n size : Nat) (x : CO) (lo hi mx : Option CO) (tm : TM) (_ : AW) : Option Value := match x.ev tm with
  | .pointer (some ⟨b, o, none⟩) => sliceRow size b o n n 1 (evM lo tm) (evM hi tm) (evM mx tm)
  | _ => none
noncomputable def subStr (s : ByteArray) (h l : Option Nat) : Option Value := match h, l with
  | some h, some l => bif Nat.ble l h then some (.string ⟨⟨(s.data.toList.drop l).take (h - l)⟩⟩) else none
  | _, _ => none
noncomputable def rdSliceStr (x : CO) (lo hi : Option CO) (tm : TM) (_ : AW) : Option Value := match x.ev tm with
  | .string s => subStr s (bnd (evM hi tm) s.data.toList.length s.data.toList.length) (bnd (evM lo tm) s.data.toList.length 0)
  | _ => none
/-- A slice whose capacity is a least one lies in a row of its own elements. -/
noncomputable def elemOk (A : AW) (b elem k : Nat) : Bool := bif Nat.beq (k % 2) 1 then true else match A.get b with
  | some (.row _ e) => Nat.beq e elem
  | _ => false
noncomputable def rdSliceSlc (elem size : Nat) (x : CO) (lo hi mx : Option CO) (tm : TM) (A : AW) : Option Value := match x.ev tm with
  | .slice (some ⟨b, o, none⟩) n k => bif elemOk A b elem k then sliceRow size b o n (k / 2) (k % 2) (evM lo tm) (evM hi tm) (evM mx tm) else none
  | _ => none
noncomputable def partN (n off : Nat) (cs : List Value) : Option Value := bif Nat.ble (off + n) cs.length then some (.agg ⟨(cs.drop off).take n⟩) else none
noncomputable def part1 (off : Nat) (cs : List Value) : Option Value := cs[off]?
noncomputable def rdPart (f : List Value → Option Value) (x : CO) (tm : TM) (_ : AW) : Option Value := match x.ev tm with
  | .agg cs => f cs.toList
  | _ => none
noncomputable def rdIndexAgg (len size : Nat) (f : Nat → List Value → Option Value) (x i : CO) (tm : TM) (_ : AW) : Option Value := match x.ev tm, i.ev tm with
  | .agg cs, .int _ (.ofNat n) => bif Nat.blt n len then f (n * size) cs.toList else none
  | _, _ => none
noncomputable def rdExtract (i : Nat) (x : CO) (tm : TM) (_ : AW) : Option Value := match x.ev tm with
  | .tuple vs => vs.toList[i]?
  | _ => none
noncomputable def rdLen (d : TypeDesc) (x : CO) (tm : TM) (A : AW) : Option Value := match d, x.ev tm with
  | .slice _, .slice _ n _ => some (.int .i64 n)
  | .string, .string s => some (.int .i64 s.data.toList.length)
  | .map _ _, .map none => some (.int .i64 0)
  | .map _ _, .map (some r) => match A.get r with
    | some (.map es _) => some (.int .i64 es.length)
    | _ => none
  | _, _ => none
noncomputable def rdConst (v : Value) (_ : TM) (_ : AW) : Option Value := some v
noncomputable def rdCap (x : CO) (tm : TM) (_ : AW) : Option Value := match x.ev tm with
  | .slice (some _) _ k => bif Nat.beq (k % 2) 1 then some (.int .i64 (k / 2 : Nat)) else none
  | _ => none
/- Maps. -/
noncomputable def findAsk (P : Program) (kt : TypeId) (k : Value) : List MapEntry → Nat → Option (Option (Nat × Value))
  | [], _ => some none
  | e :: es, i =>
    match runPure P (Op.equal kt k e.key) with
    | some true => some (some (i, e.val))
    | some false => findAsk P kt k es (i + 1)
    | none => none
/-- Where a key lies in a map's entries: none: it cannot be told. -/
noncomputable def find (P : Program) (kt : TypeId) (d : TypeDesc) (k : Value) (es : List MapEntry) : Option (Option (Nat × Value)) :=
  match Instr.findNow d k es 0 with
  | some r => some r
  | none => findAsk P kt k es 0
noncomputable def keyOk (P : Program) (empty : Bool) (kt : TypeId) (d : TypeDesc) (k : Value) : Bool := clo k && (match d, k with
  | .int _, .int _ _ => true
  | _, _ => (runPure P (Instr.checkKey empty 10000 kt k)).isSome)
noncomputable def entriesOf (A : AW) : Value → Option (List MapEntry)
  | .map none => some []
  | .map (some b) => match A.get b with
    | some (.map es _) => some es
    | _ => none
  | _ => none
noncomputable def yield2 (ok : Bool) (v : Value) (b : Bool) : Value := bif ok then .tuple #[v, .bool b] else v
noncomputable def rdLookup (P : Program) (kt : TypeId) (d : TypeDesc) (z : Value) (m k : CO) (ok : Bool) (tm : TM) (A : AW) : Option Value :=
  match entriesOf A (m.ev tm) with
  | none => none
  | some es => bif keyOk P es.isEmpty kt d (k.ev tm) then
      match find P kt d (k.ev tm) es with
      | none => none
      | some (some (_, v)) => some (yield2 ok v true)
      | some none => some (yield2 ok z false)
    else none

/- Makers. -/
noncomputable def mkAlloc (t : TypeId) (z : Value) (_ : TM) : Option (AObj × (Nat → Value)) := some (.row (cellsL z) t, fun b => aptr b 0)
noncomputable def mkBox (t : TypeId) (x : CO) (tm : TM) : Option (AObj × (Nat → Value)) := some (.row (cellsL (x.ev tm)) t, fun b => aptr b 0)
noncomputable def mkMap (_ : TM) : Option (AObj × (Nat → Value)) := some (.map [] 0, fun b => .map (some b))
noncomputable def mkMapN (x : CO) (tm : TM) : Option (AObj × (Nat → Value)) := match x.ev tm with
  | .int _ _ => some (.map [] 0, fun b => .map (some b))
  | _ => none
noncomputable def splice0 (c : List Value) (o : Nat) (cs : List Value) : Option (List Value) :=
  bif Nat.ble (o + cs.length) c.length then some (c.take o ++ (cs ++ c.drop (o + cs.length))) else none
noncomputable def fillL (place : Nat → Option (Nat × Nat)) (tm : TM) : List (Nat × CO) → List Value → Option (List Value)
  | [], c => some c
  | (i, x) :: rest, c =>
    match place i with
    | none => none
    | some (off, size) => bif Nat.beq (cellsL (x.ev tm)).length size then
        match splice0 c off (cellsL (x.ev tm)) with
        | some c' => fillL place tm rest c'
        | none => none
      else none
noncomputable def rdBuild (place : Nat → Option (Nat × Nat)) (z : List Value) (parts : List (Nat × CO)) (tm : TM) (_ : AW) : Option Value := aggOf (fillL place tm parts z)
noncomputable def mkSlice (e : TypeId) (place : Nat → Option (Nat × Nat)) (z : List Value) (len : Nat) (parts : List (Nat × CO)) (tm : TM) : Option (AObj × (Nat → Value)) :=
  match fillL place tm parts z with
  | some cs => some (.row cs e, fun b => aslc b 0 len (2 * len + 1))
  | none => none
noncomputable def mkMake (e : TypeId) (z : List Value) (bytes : Nat) (l c : CO) (tm : TM) : Option (AObj × (Nat → Value)) := match l.ev tm, c.ev tm with
  | .int .i64 (.ofNat n), .int .i64 (.ofNat m) => bif Nat.ble n m && Nat.ble m 1048576 && Nat.ble (bytes * m) 281474976710656 then some (.row ((List.replicate m z).flatten) e, fun b => aslc b 0 n (2 * m + 1)) else none
  | _, _ => none
noncomputable def mkBytes (e : TypeId) (x : CO) (tm : TM) : Option (AObj × (Nat → Value)) := match x.ev tm with
  | .string s => some (.row (s.data.toList.map fun b => .int .u8 b.toNat) e, fun b => aslc b 0 s.data.toList.length (2 * s.data.toList.length))
  | _ => none

/- What acts. -/
/-- Cells written over a row's, from a place on; what comes next has the new row, worked out. -/
noncomputable def overK {β : Type} (no : β) (cs : List Value) : List Value → (List Value → β) → β :=
  List.rec (motive := fun _ => List Value → (List Value → β) → β) (fun c k => k c)
    (fun v _ ih c k => List.casesOn c no fun _ c => sV0 v fun v => ih c (consK k v)) cs
noncomputable def splK {β : Type} (no : β) (cs : List Value) (o : Nat) : List Value → (List Value → β) → β :=
  Nat.rec (motive := fun _ => List Value → (List Value → β) → β) (fun c k => overK no cs c k)
    (fun _ ih c k => List.casesOn c no fun v c => ih c (consK k v)) o
noncomputable def wr (A : AW) (b o : Nat) (cs : List Value) : Option AW := match A.get b with
  | some (.row c e) => bif cs.all atomB then splK none cs o c fun c' => some (A.upd b (some (.row c' e))) else none
  | _ => none
noncomputable def valA (v : Value) : Option AW → Out
  | some A => sA A fun A => .val v A
  | none => .no
noncomputable def acStore (n : Nat) (a x : CO) (tm : TM) (A : AW) : Out := match a.ev tm with
  | .pointer (some ⟨b, o, none⟩) => bif Nat.beq (cellsL (x.ev tm)).length n then valA undef (wr A b o (cellsL (x.ev tm))) else .no
  | _ => .no
noncomputable def newRow (e : TypeId) (f : Nat → Value) (cs : List Value) (A : AW) : Out := sL sV0 cs fun cs => match A.new (.row cs e) with
  | some (b, A') => .val (f b) A'
  | none => .no
noncomputable def bigN : Nat := 33554432
noncomputable def lenA : Value → Nat
  | .slice _ n _ => n
  | .string s => s.data.toList.length
  | _ => 0
noncomputable def appendTo (elem size : Nat) (s : Value) (m : Nat) (new : List Value) (A : AW) : Out :=
  match s with
  | .slice none 0 0 => newRow elem (fun b => aslc b 0 m (2 * m)) new A
  | .slice (some ⟨b, o, none⟩) n k =>
    bif Nat.ble (n + m) (k / 2) then valA (aslc b o (n + m) k) (wr A b (o + n * size) new)
    else bif Nat.ble n bigN && Nat.ble k bigN && elemOk A b elem k then
      match cellsAt A b o (n * size) with
      | some old => newRow elem (fun b => aslc b 0 (n + m) (2 * (n + m))) (old ++ new) (bif Nat.beq (k % 2) 1 then A else A.upd b none)
      | none => .no
    else .no
  | _ => .no
noncomputable def acAppend (elem size : Nat) (s x : CO) (tm : TM) (A : AW) : Out :=
  match rowCells A size (x.ev tm) with
  | none => .no
  | some new => match lenA (x.ev tm) with
    | 0 => (match s.ev tm with
      | .slice a n k => bif Nat.ble n (k / 2) then .val (.slice a n k) A else .no
      | _ => .no)
    | m + 1 => bif new.all atomB && Nat.ble m bigN && Nat.beq new.length ((m + 1) * size) then appendTo elem size (s.ev tm) (m + 1) new A else .no
noncomputable def acCopy (size : Nat) (d x : CO) (tm : TM) (A : AW) : Out :=
  match d.ev tm, rowCells A size (x.ev tm) with
  | .slice (some ⟨b, o, none⟩) n _, some cs => bif Nat.beq cs.length (lenA (x.ev tm) * size) then valA (.int .i64 (Nat.min (lenA (x.ev tm)) n : Nat)) (wr A b o (cs.take (Nat.min (lenA (x.ev tm)) n * size))) else .no
  | _, _ => .no
noncomputable def acClear (z : List Value) (x : CO) (tm : TM) (A : AW) : Out :=
  match x.ev tm with
  | .slice _ 0 _ => .val (.tuple #[]) A
  | .slice (some ⟨b, o, none⟩) n _ => valA (.tuple #[]) (wr A b o ((List.replicate n z).flatten))
  | _ => .no
noncomputable def sEs {β : Type} (l : List MapEntry) : (List MapEntry → β) → β :=
  List.rec (motive := fun _ => (List MapEntry → β) → β) (fun k => k []) (fun e _ ih k => MapEntry.casesOn e fun a b n => sV1 a fun a => sV1 b fun b => sNat n fun n => ih (consK k ⟨a, b, n⟩)) l
noncomputable def setEntry (es : List MapEntry) (i : Nat) (k v : Value) : Option (List MapEntry) := match es[i]? with
  | some e => bif Instr.sameBits 10000 e.key k then some (es.set i { e with key := k, val := v }) else none
  | none => none
noncomputable def putEntry (es : List MapEntry) (clock : Nat) (k v : Value) : Option (Option (Nat × Value)) → Option (List MapEntry × Nat)
  | some (some (i, _)) => match setEntry es i k v with
    | some es' => some (es', clock)
    | none => none
  | some none => some (es ++ [{ key := k, val := v, born := clock }], clock + 1)
  | none => none
noncomputable def acUpdate (P : Program) (kt : TypeId) (d : TypeDesc) (m k v : CO) (tm : TM) (A : AW) : Out := match m.ev tm with
  | .map (some b) => match A.get b with
    | some (.map es clock) => bif keyOk P false kt d (k.ev tm) then
        match putEntry es clock (k.ev tm) (v.ev tm) (find P kt d (k.ev tm) es) with
        | some (es', c') => sNat c' fun c' => sEs es' fun es' => valA undef (some (A.upd b (some (.map es' c'))))
        | none => .no
      else .no
    | _ => .no
  | _ => .no
noncomputable def acDelete (P : Program) (kt : TypeId) (d : TypeDesc) (m k : CO) (tm : TM) (A : AW) : Out := match m.ev tm with
  | .map (some b) => match A.get b with
    | some (.map es clock) => bif keyOk P es.isEmpty kt d (k.ev tm) then
        match find P kt d (k.ev tm) es with
        | some (some (i, _)) => sEs (es.eraseIdx i) fun es' => valA (.tuple #[]) (some (A.upd b (some (.map es' clock))))
        | some none => .val (.tuple #[]) A
        | none => .no
      else .no
    | _ => .no
  | _ => .no
noncomputable def acCall (f : FuncId) (args : List CO) (tm : TM) (A : AW) : Out := .ent f (args.map (·.ev tm)) A
noncomputable def hasBody (P : Program) (f : FuncId) : Bool := match P.funcs[f]? with
  | some fn => fn.body.isSome
  | none => false
noncomputable def acCallV (P : Program) (f : CO) (args : List CO) (tm : TM) (A : AW) : Out := match f.ev tm with
  | .func (.func g) a b => bif hasBody P g then .ent g (a.toList ++ (args.map (·.ev tm) ++ b.toList)) A else .no
  | _ => .no
noncomputable def acExtern (P : Program) (f : FuncId) (args : List CO) (tm : TM) (A : AW) : Out :=
  bif cloL args tm then
    match runPure P (callFunc f ⟨args.map (·.ev tm)⟩) with
    | some (.value v) => bif clo v then .val v A else .no
    | _ => .no
  else .no
noncomputable def method (P : Program) (t : TypeId) (name : String) : Option FuncId :=
  match P.info? t, under P t with
  | some i, some (.pointer _) => match i.methods.find? (·.name == name) with
    | some m => bif m.path.isEmpty then (match m.func with | some (f, true) => some f | _ => none) else none
    | none => none
  | _, _ => none
noncomputable def acInvoke (P : Program) (r : CO) (name : String) (args : List CO) (tm : TM) (A : AW) : Out := match r.ev tm with
  | .iface t v => match method P t name with
    | some f => bif hasBody P f then .ent f (v :: args.map (·.ev tm)) A else .no
    | none => .no
  | _ => .no

section
variable (P : Program) (ns : Nat)
noncomputable def places (fields : Array Field) : Option (List (Nat × Nat)) := fields.toList.mapM fun f => match sizeT P f.type with
  | some n => some (f.offset, n)
  | none => none
noncomputable def cos (xs : Array Operand) : List CO := xs.toList.map (co ns)
noncomputable def coParts (ps : Array (Nat × Operand)) : List (Nat × CO) := ps.toList.map fun p => (p.1, co ns p.2)
noncomputable def partOf (t : TypeId) (off : Nat) : Option (List Value → Option Value) := match isAggT P t, sizeT P t with
  | some true, some n => some (partN n off)
  | some false, some _ => some (part1 off)
  | _, _ => none
noncomputable def ciBuild (t : TypeId) (ps : Array (Nat × Operand)) : Option CI := match zeroT P t, under P t with
  | some z, some (.struct fields) => match places P fields with
    | some pl => some (.rd (rdBuild (fun i => pl[i]?) (cellsL z) (coParts ns ps)))
    | none => none
  | some z, some (.array _ elem) => match sizeT P elem with
    | some size => some (.rd (rdBuild (fun i => some (i * size, size)) (cellsL z) (coParts ns ps)))
    | none => none
  | _, _ => none
noncomputable def ciBuildSlice (t : TypeId) (len : Nat) (ps : Array (Nat × Operand)) : Option CI := match under P t with
  | some (.slice elem) => match sizeT P elem, zeroT P elem with
    | some size, some z => bif Nat.ble (len * size) 16777216 && Nat.beq (cellsL z).length size then
        some (.mk (mkSlice elem (fun i => some (i * size, size)) ((List.replicate len (cellsL z)).flatten) len (coParts ns ps))) else none
    | _, _ => none
  | _ => none
noncomputable def ciSlice (o : Oper) (t : TypeId) (x : CO) (lo hi mx : Option CO) : Option CI := match under P t with
  | some (.array n elem) => match sizeT P elem with
    | some size => some (.rd (rdSliceArr n size x lo hi mx))
    | none => none
  | some (.slice elem) => match sizeT P elem with
    | some size => some (.rd (orElse (rdSliceSlc elem size x lo hi mx) (rdClosed P ns o)))
    | none => none
  | some .string => match mx with
    | none => some (.rd (rdSliceStr x lo hi))
    | some _ => none
  | _ => none
noncomputable def ciBin (o : Oper) (op : BinOp) (t : TypeId) (x y : CO) : Option CI :=
  match intOp op, strOp op, under P t with
  | some f, _, some (.int _) => some (.rd (orElse (rdInts f x y) (rdClosed P ns o)))
  | _, some f, some .string => some (.rd (orElse (rdStrs f x y) (rdClosed P ns o)))
  | _, _, some d => match op with
    | .shr => some (.rd (orElse (rdShr x y) (rdClosed P ns o)))
    | .eql => some (.rd (orElse (rdNil false d x y) (rdClosed P ns o)))
    | .neq => some (.rd (orElse (rdNil true d x y) (rdClosed P ns o)))
    | _ => some (.rd (rdClosed P ns o))
  | _, _, none => none
noncomputable def ciCall (o : Oper) (c : Call) : Option CI :=
  match c.callee with
  | .value (.func f) => bif hasBody P f then some (.act (acCall f (cos ns c.args))) else some (.act (acExtern P f (cos ns c.args)))
  | .value f => some (.act (acCallV P (co ns f) (cos ns c.args)))
  | .invoke r name => some (.act (acInvoke P (co ns r) name (cos ns c.args)))
  | .builtin b => match b, cos ns c.args, c.argTypes.toList with
    | .append, [s, x], [st, xt] => match under P st, under P xt with
      | _, some (.int _) => none
      | some (.slice elem), some _ => match sizeT P elem, zeroT P elem with
        | some (size + 1), some z => match bytesT P elem with
          | some (b + 1) => bif Nat.ble b 1000000 && Nat.beq (cellsL z).length (size + 1) then some (.act (acAppend elem (size + 1) s x)) else none
          | _ => none
        | _, _ => none
      | _, _ => none
    | .copy, [d, x], t :: _ => match under P t with
      | some (.slice elem) => match sizeT P elem with
        | some size => some (.act (acCopy size d x))
        | none => none
      | _ => none
    | .clear, [x], [t] => match under P t with
      | some (.slice elem) => match zeroT P elem with
        | some z => some (.act (acClear (cellsL z) x))
        | none => none
      | _ => none
    | .delete, [m, k], t :: _ => match under P t with
      | some (.map kt _) => match under P kt with
        | some d => some (.act (acDelete P kt d m k))
        | none => none
      | _ => none
    | .len, [x], [t] => match under P t with
      | some (.pointer arr) => match under P arr with
        | some (.array n _) => some (.rd (rdConst (.int .i64 n)))
        | _ => none
      | some (.array n _) => some (.rd (rdConst (.int .i64 n)))
      | some d => some (.rd (rdLen d x))
      | none => none
    | .cap, [x], [t] => match under P t with
      | some (.slice _) => some (.rd (rdCap x))
      | _ => none
    | .min, _, _ => some (.rd (rdClosed P ns o))
    | .max, _, _ => some (.rd (rdClosed P ns o))
    | _, _, _ => none
noncomputable def ci (o : Oper) : Option CI :=
  match o.op with
  | .move x => some (.rd (rdMove (co ns x)))
  | .assign x => some (.rd (rdMove (co ns x)))
  | .pick c a b => some (.rd (rdPick (co ns c) (co ns a) (co ns b)))
  | .alloc t => match zeroT P t with
    | some z => some (.mk (mkAlloc t z))
    | none => none
  | .box t x => some (.mk (mkBox t (co ns x)))
  | .build t parts => ciBuild P ns t parts
  | .buildSlice t len parts => ciBuildSlice P ns t len parts
  | .load t a => match isAggT P t, sizeT P t with
    | some true, some n => some (.rd (rdLoadN n (co ns a)))
    | some false, _ => some (.rd (rdLoad (co ns a)))
    | _, _ => none
  | .store t a x => match sizeT P t with
    | some n => some (.act (acStore n (co ns a) (co ns x)))
    | none => none
  | .nilCheck x => some (.rd (rdNilCheck (co ns x)))
  | .binOp op t x y _ => ciBin P ns o op t (co ns x) (co ns y)
  | .unOp op _ x => match op with
    | .not => some (.rd (rdNot (co ns x)))
    | _ => some (.rd (rdClosed P ns o))
  | .convert src dst x => match under P src, under P dst with
    | some .string, some (.slice e) => match under P e with
      | some (.int .u8) => match sizeT P e with
        | some 1 => some (.mk (mkBytes e (co ns x)))
        | _ => none
      | _ => none
    | some (.slice e), some .string => match under P e with
      | some (.int .u8) => some (.rd (rdStr (co ns x)))
      | _ => none
    | some _, some (.int k) => some (.rd (orElse (rdConv k (co ns x)) (rdClosed P ns o)))
    | some _, some _ => some (.rd (rdClosed P ns o))
    | _, _ => none
  | .makeInterface t x => match under P t with
    | some (.interface _) => none
    | some _ => some (.rd (rdIface t (co ns x)))
    | none => none
  | .makeFunc fn first captured => some (.rd (rdFunc fn (cos ns first) (cos ns captured)))
  | .makeMap t r => match r with
    | none => some (.mk mkMap)
    | some x => match under P t with
      | some (.map _ _) => some (.mk (mkMapN (co ns x)))
      | _ => none
  | .makeSlice t l c => match under P t with
    | some (.slice elem) => match sizeT P elem, zeroT P elem with
      | some size, some z => match bytesT P elem with
        | some bytes => bif Nat.beq (cellsL z).length size then some (.mk (mkMake elem (cellsL z) bytes (co ns l) (co ns c))) else none
        | none => none
      | _, _ => none
    | _ => none
  | .slice t x lo hi mx => ciSlice P ns o t (co ns x) (lo.map (co ns)) (hi.map (co ns)) (mx.map (co ns))
  | .fieldAddr s x f => match under P s with
    | some (.struct fields) => match fields.toList[f]? with
      | some fd => match sizeT P fd.type with
        | some (_ + 1) => some (.rd (rdField fd.offset (co ns x)))
        | _ => none
      | none => none
    | _ => none
  | .field t x f => match under P t with
    | some (.struct fields) => match fields.toList[f]? with
      | some fd => match partOf P fd.type fd.offset with
        | some g => some (.rd (rdPart g (co ns x)))
        | none => none
      | none => none
    | _ => none
  | .indexAddr t x i => match under P t with
    | some (.array len elem) => match sizeT P elem with
      | some size => some (.rd (rdIndexArr len size (co ns x) (co ns i)))
      | none => none
    | some (.slice elem) => match sizeT P elem with
      | some size => some (.rd (rdIndexSlc size (co ns x) (co ns i)))
      | none => none
    | _ => none
  | .index t x i => match under P t with
    | some (.array len elem) => match isAggT P elem, sizeT P elem with
      | some true, some size => some (.rd (rdIndexAgg len size (fun off => partN size off) (co ns x) (co ns i)))
      | some false, some size => some (.rd (rdIndexAgg len size part1 (co ns x) (co ns i)))
      | _, _ => none
    | some .string => some (.rd (rdByteAt (co ns x) (co ns i)))
    | _ => none
  | .lookup t m k ok => match under P t with
    | some (.map kt et) => match under P kt, zeroT P et with
      | some d, some z => some (.rd (rdLookup P kt d z (co ns m) (co ns k) ok))
      | _, _ => none
    | _ => none
  | .mapUpdate t m k x => match under P t with
    | some (.map kt _) => match under P kt with
      | some d => some (.act (acUpdate P kt d (co ns m) (co ns k) (co ns x)))
      | none => none
    | _ => none
  | .extract t i => some (.rd (rdExtract i (co ns t)))
  | .call c => ciCall P ns o c
  | _ => none

/- Regions. -/
structure CR where
  ci : CI
  dst : Option Path
  guard : Option (Path × Bool)
noncomputable def guardOf (ops : List Oper) (o : Oper) : Option (Option (Path × Bool)) := match o.guard with
  | none => some none
  | some (j, want) => match ops[j]? with
    | some g => match g.dst with
      | some t => bif Nat.blt t ns then some (some (path t, want)) else none
      | none => none
    | none => none
noncomputable def pathO : Option Tmp → Option (Option Path)
  | some t => bif Nat.blt t ns then some (some (path t)) else none
  | none => some none
noncomputable def cr (ops : List Oper) (o : Oper) : Option CR := match ci P ns o, guardOf ns ops o, pathO ns o.dst with
  | some c, some g, some d => bif o.op.operands.toList.all okO then some ⟨c, d, g⟩ else none
  | _, _, _ => none
noncomputable def crs (ops : List Oper) : List Oper → Option (List CR)
  | [] => some []
  | o :: l => match cr P ns ops o, crs ops l with
    | some c, some cs => some (c :: cs)
    | _, _ => none
noncomputable def CR.wanted (c : CR) (tm : TM) : Bool := match c.guard with
  | none => true
  | some (p, want) => match tm.val p with
    | .bool b => b == want
    | _ => false
noncomputable def putK {β : Type} (tm : TM) (dst : Option Path) (v : Value) (k : TM → β) : β :=
  match dst with
  | some d => sV v fun v => Tr.setK (some v) d tm k
  | none => k tm
inductive R2 where
  | ok (tm : TM) (A : AW)
  | no
abbrev CallF := FuncId → List Value → AW → Option (Value × AW)
noncomputable def finish (dst : Option Path) (tm : TM) (next : TM → AW → R2) : Option (Value × AW) → R2
  | some (v, A) => putK tm dst v fun tm => next tm A
  | none => .no
noncomputable def sObj {β : Type} (o : AObj) (k : AObj → β) : β := match o with
  | .row c e => sL sV0 c fun c => k (.row c e)
  | .map es c => k (.map es c)
noncomputable def exec1 (call : CallF) (c : CI) (dst : Option Path) (tm : TM) (A : AW) (next : TM → AW → R2) : R2 :=
  match c with
  | .rd f => match f tm A with
    | some v => putK tm dst v fun tm => next tm A
    | none => .no
  | .mk f => match f tm with
    | some (o, g) => sObj o fun o => match A.new o with
      | some (b, A') => putK tm dst (g b) fun tm => next tm A'
      | none => .no
    | none => .no
  | .act f => match f tm A with
    | .val v A' => putK tm dst v fun tm => next tm A'
    | .ent g args A' => finish dst tm next (call g args A')
    | .no => .no
noncomputable def stepCR (call : CallF) (c : CR) (next : TM → AW → R2) (tm : TM) (A : AW) : R2 :=
  bif c.wanted tm then exec1 call c.ci c.dst tm A next else putK tm c.dst undef fun tm => next tm A
noncomputable def seqOps (call : CallF) (l : List CR) : TM → AW → R2 :=
  List.rec (motive := fun _ => TM → AW → R2) (fun tm A => .ok tm A) (fun c _ ih => stepCR call c ih) l

/- Regions that draw their order. -/
/-- Those that an operation stands behind, as bits. -/
noncomputable def maskOf (acc : List Nat) : List Edge → Nat → Nat
  | [], s => s
  | e :: l, s => maskOf acc l (bif Region.binds .any e then s ||| 2 ^ e.on ||| acc.getD e.on 0 else s)
noncomputable def masks : List Oper → List Nat → List Nat
  | [], acc => acc
  | o :: rest, acc => masks rest (acc ++ [maskOf acc o.after.toList 0])
noncomputable def behind (ms : List Nat) (i k : Nat) : Bool := (ms.getD i 0).testBit k
noncomputable def looks (ops : Array Oper) (o : Oper) : List Tmp := o.dst.toList ++ o.looksAt ops
noncomputable def pairOk (ms : List Nat) (l : List Tmp) (i : Nat) : List Oper → Nat → Bool
  | [], _ => true
  | p :: rest, k => (match p.dst with
      | some d => !(l.contains d) || (bif Nat.beq i k then true else bif Nat.blt i k then behind ms k i else behind ms i k)
      | none => true) && pairOk ms l i rest (k + 1)
noncomputable def orderFrom (ops : Array Oper) (ms : List Nat) : List Oper → Nat → Bool
  | [], _ => true
  | o :: rest, i => (o.after.toList.all fun e => !Region.binds .any e || Nat.blt e.on i) && (match o.op with | .select .. => false | _ => true) &&
    pairOk ms (looks ops o) i ops.toList 0 && orderFrom ops ms rest (i + 1)
noncomputable def orderOk (ops : Array Oper) (ms : List Nat) : Bool := orderFrom ops ms ops.toList 0
noncomputable def eqv0 : Value → Value → Bool
  | .bool a, .bool b => a == b
  | .int j a, .int k b => decide (j = k) && decide (a = b)
  | .string a, .string b => decide (a.data.toList = b.data.toList)
  | .pointer a, .pointer b => decide (a = b)
  | .slice a n c, .slice b m d => decide (a = b) && Nat.beq n m && Nat.beq c d
  | .map a, .map b => decide (a = b)
  | .nilFunc, .nilFunc => true
  | .nilIface, .nilIface => true
  | .iface t (.pointer a), .iface u (.pointer b) => Nat.beq t u && decide (a = b)
  | .func (.func f) a b, .func (.func g) c d => Nat.beq f g && a.isEmpty && b.isEmpty && c.isEmpty && d.isEmpty
  | _, _ => false
noncomputable def eqvL : List Value → List Value → Bool
  | [], [] => true
  | a :: l, b :: m => eqv0 a b && eqvL l m
  | _, _ => false
noncomputable def eqv1 : Value → Value → Bool
  | .agg a, .agg b => eqvL a.toList b.toList
  | a, b => eqv0 a b
noncomputable def eqvT : List Value → List Value → Bool
  | [], [] => true
  | a :: l, b :: m => eqv1 a b && eqvT l m
  | _, _ => false
noncomputable def eqv : Value → Value → Bool
  | .tuple a, .tuple b => eqvT a.toList b.toList
  | a, b => eqv1 a b
noncomputable def eqvO (v : Value) : Option Value → Bool
  | some u => eqv v u
  | none => false
/-- What was read: by which operation, in which place, on which slots, what it yielded. -/
structure Rec where
  i : Nat
  f : TM → AW → Option Value
  tm : TM
  v : Value
structure DS where
  tm : TM
  M : AW
  Ms : List (Nat × AW)          -- the acting operations so far, the last first, each with the memory ahead of it
  pend : List (Nat × AObj)      -- what was made and is not let in yet
  recs : List Rec
noncomputable def letIn (c : Nat) (keep : Nat → Bool) : List (Nat × AObj) → AW → AW
  | [], A => A
  | (i, o) :: l, A => letIn c keep l (bif keep i then A.upd (c + i) (some o) else A)
noncomputable def DS.put (s : DS) (dst : Option Path) (v : Value) : DS := putK s.tm dst v fun tm => ⟨tm, s.M, s.Ms, s.pend, s.recs⟩
noncomputable def noMem : AW := ⟨.nil, 281474976710654⟩
noncomputable def dRead (i : Nat) (f : TM → AW → Option Value) (dst : Option Path) (s : DS) : Option DS :=
  match f s.tm noMem with
  | some v => some (s.put dst v)
  | none => match f s.tm s.M with
    | some v => some { s.put dst v with recs := ⟨i, f, s.tm, v⟩ :: s.recs }
    | none => none
noncomputable def dMake (c i : Nat) (f : TM → Option (AObj × (Nat → Value))) (dst : Option Path) (s : DS) : Option DS :=
  match f s.tm with
  | some (o, g) => sObj o fun o => some { s.put dst (g (c + i)) with pend := (i, o) :: s.pend }
  | none => none
noncomputable def dDone (ms : List Nat) (i : Nat) (s : DS) : R2 → Option DS
  | .ok tm M => some { tm := tm, M := M, Ms := (i, s.M) :: s.Ms, pend := s.pend.filter (fun p => !behind ms i p.1), recs := s.recs }
  | .no => none
noncomputable def chained (ms : List Nat) (i : Nat) : List (Nat × AW) → Bool
  | [] => true
  | (k, _) :: _ => behind ms i k
noncomputable def dStep (call : CallF) (ms : List Nat) (c : Nat) (o : CR) (i : Nat) (s : DS) : Option DS :=
  bif o.wanted s.tm then
    match o.ci with
    | .rd f => dRead i f o.dst s
    | .mk f => dMake c i f o.dst s
    | .act f => bif chained ms i s.Ms then dDone ms i s (exec1 call (.act f) o.dst s.tm (letIn c (behind ms i) s.pend s.M) R2.ok) else none
  else some (s.put o.dst undef)
noncomputable def drawOps (call : CallF) (ms : List Nat) (c : Nat) : List CR → Nat → DS → Option DS
  | [], _, s => some s
  | o :: rest, i, s => match dStep call ms c o i s with
    | some s' => drawOps call ms c rest (i + 1) s'
    | none => none
/-- Does a read yield its value in each memory in which it may come? -/
noncomputable def readOk (ms : List Nat) (r : Rec) : List (Nat × AW) → Bool
  | [] => true
  | (e, M) :: l =>
    -- in the memory ahead of e: not, if the read stands behind e, or if an earlier one stands behind the read
    (bif behind ms r.i e then true else bif l.any (fun p => behind ms p.1 r.i) then true else eqvO r.v (r.f r.tm M)) && readOk ms r l
noncomputable def lastOk (ms : List Nat) (r : Rec) (Ms : List (Nat × AW)) (M : AW) : Bool :=
  bif Ms.any (fun p => behind ms p.1 r.i) then true else eqvO r.v (r.f r.tm M)
noncomputable def allOk (ms : List Nat) (s : DS) : Bool := s.recs.all fun r => readOk ms r s.Ms && lastOk ms r s.Ms s.M
structure CD where
  l : List CR
  ms : List Nat
  n : Nat
noncomputable def cd (ops : Array Oper) (ms : List Nat) : Option CD := bif orderOk ops ms then match crs P ns ops.toList ops.toList with
    | some l => some ⟨l, ms, ops.size⟩
    | none => none
  else none
noncomputable def drawEnd (d : CD) (c : Nat) : Option DS → R2
  | some s => bif allOk d.ms s then sA (letIn c (fun _ => true) s.pend s.M) fun A => .ok s.tm A else .no
  | none => .no
noncomputable def drawn (call : CallF) (d : CD) (tm : TM) (A : AW) : R2 :=
  bif Nat.ble (A.next + d.n + 2) most then
    drawEnd d A.next (drawOps call d.ms A.next d.l 0 { tm := tm, M := ⟨A.t, A.next + d.n⟩, Ms := [], pend := [], recs := [] })
  else .no

/- The code. -/
inductive R where
  | norm (tm : TM) (A : AW)
  | exit (id : Nat) (tm : TM) (A : AW)
  | goto (l : Nat) (tm : TM) (A : AW)
  | ret (tm : TM) (A : AW)
  | no
inductive Job where
  | c (c : Code)
  | s (whole rest : Code)
abbrev Rec1 := Job → TM → AW → R
noncomputable def doSeq (rec : Rec1) (a b : Code) (tm : TM) (A : AW) : R := match rec (.c a) tm A with
  | .norm tm' A' => rec (.c b) tm' A'
  | .exit i tm' A' => .exit i tm' A'
  | .goto l tm' A' => .goto l tm' A'
  | .ret tm' A' => .ret tm' A'
  | .no => .no
noncomputable def doCond (rec : Rec1) (x : Value) (a b : Code) (tm : TM) (A : AW) : R := match x with
  | .bool true => rec (.c a) tm A
  | .bool false => rec (.c b) tm A
  | _ => .no
noncomputable def doBlock (rec : Rec1) (i : Nat) (b : Code) (tm : TM) (A : AW) : R := match rec (.c b) tm A with
  | .norm tm' A' => .norm tm' A'
  | .exit j tm' A' => bif Nat.beq j i then .norm tm' A' else .exit j tm' A'
  | .goto l tm' A' => .goto l tm' A'
  | .ret tm' A' => .ret tm' A'
  | .no => .no
noncomputable def doScope (rec : Rec1) (whole b : Code) (tm : TM) (A : AW) : R := match rec (.c b) tm A with
  | .norm tm' A' => .norm tm' A'
  | .exit j tm' A' => .exit j tm' A'
  | .goto l tm' A' => match findLabel whole l with
    | some rest => rec (.s whole rest) tm' A'
    | none => .goto l tm' A'
  | .ret tm' A' => .ret tm' A'
  | .no => .no
noncomputable def normal : R2 → R
  | .ok tm A => .norm tm A
  | .no => .no
noncomputable def doRegion (call : CallF) (tm : TM) (A : AW) : Option (List CR) → R
  | some l => normal (seqOps call l tm A)
  | none => .no
noncomputable def doDrawn (call : CallF) (tm : TM) (A : AW) : Option CD → R
  | some d => normal (drawn call d tm A)
  | none => .no
noncomputable def jobStep (call : CallF) (rec : Rec1) (j : Job) (tm : TM) (A : AW) : R :=
  match j with
  | .s whole b => doScope rec whole b tm A
  | .c c => match c with
    | .skip => .norm tm A
    | .label _ => .norm tm A
    | .ret => .ret tm A
    | .exit i => .exit i tm A
    | .goto l => .goto l tm A
    | .seq a b => doSeq rec a b tm A
    | .cond x a b => bif okO x then doCond rec ((co ns x).ev tm) a b tm A else .no
    | .block i b => doBlock rec i b tm A
    | .loop b => doSeq rec b (.loop b) tm A
    | .scope b => doScope rec b b tm A
    | .region _ ops false => doRegion call tm A (crs P ns ops.toList ops.toList)
    | .region _ ops true => doDrawn call tm A (cd P ns ops (masks ops.toList []))
    | _ => .no
noncomputable def run (call : CallF) (n : Nat) : Job → TM → AW → R :=
  Nat.rec (motive := fun _ => Job → TM → AW → R) (fun _ _ _ => .no) (fun _ ih => jobStep P ns call ih) n
noncomputable def resL : List ResultVar → TM → AW → Option (List Value)
  | [], _, _ => some []
  | .tmp t :: l, tm, A => match resL l tm A with
    | some vs => some (((co ns (.tmp t)).ev tm) :: vs)
    | none => none
  | .cell a t :: l, tm, A => match isAggT P t, sizeT P t with
    | some true, some n => (match rdLoadN n (co ns (.tmp a)) tm A, resL l tm A with
      | some v, some vs => some (v :: vs)
      | _, _ => none)
    | some false, _ => (match rdLoad (co ns (.tmp a)) tm A, resL l tm A with
      | some v, some vs => some (v :: vs)
      | _, _ => none)
    | _, _ => none
noncomputable def tupled : List Value → Value
  | [v] => v
  | vs => .tuple ⟨vs⟩
noncomputable def done (fn : Func) (tm : TM) (A : AW) : Option (Value × AW) := match resL P fn.ntmps fn.results.toList tm A with
  | some vs => some (tupled vs, A)
  | none => none
noncomputable def ends (fn : Func) : R → Option (Value × AW)
  | .norm tm A => done P fn tm A
  | .ret tm A => done P fn tm A
  | _ => none
noncomputable def enterTM {β : Type} (k : TM → β) : List Value → Nat → TM → β
  | [], _, tm => k tm
  | v :: l, i, tm => sV v fun v => Tr.setK (some v) (path i) tm (enterTM k l (i + 1))
abbrev Orc := FuncId → Option CallF
noncomputable def enterF (call : CallF) (args : List Value) (A : AW) : Option Func → Option (Value × AW)
  | some fn => match fn.body with
    | some b => bif Nat.ble fn.ntmps 281474976710600 && Nat.ble args.length fn.ntmps then enterTM (fun tm => ends P fn (run P fn.ntmps call 1000000 (.c b) tm A)) args 0 .nil else none
    | none => none
  | none => none
noncomputable def callN (orc : Orc) : Nat → CallF
  | 0, _, _, _ => none
  | d + 1, f, args, A =>
    match orc f with
    | some g => g f args A
    | none => enterF P (callN orc d) args A P.funcs[f]?
end
end Ev
end Go.Proofs.YtmohidgdmmkikaaGreatDoor
