/- Texts merged: Ev, Ev2, Ev3, Ev4, Ev5, Ev6, Ev7, Ev8. -/
import Derived.Orders
import Derived.Still
import Derived.Below
import Derived.Laws.Tables
import Derived.Laws.Cells
import Derived.Laws.IdiomCopy
import Derived.Laws.Entries
import Derived.Laws.Strings
import Derived.Laws.BytesString
import Derived.Laws.IdiomStrings
import Derived.IntWalk

/- The evaluator: a run of Go code over an abstract heap, to be computed by the kernel. Blocks have names (numbers of the evaluator's own). The capacity of a slice is told twice and one more where it is exact, twice where it is a least one. What hangs on the program's text alone is worked out first, so that the kernel keeps it. No proof stands here. -/
namespace Go.Proofs.YtiglblfjmmdeeaaGreat
namespace Ev

inductive AObj where
  | row (c : List Value) (e : TypeId)
  | map (es : List MapEntry) (clock : Nat)
inductive Tr (α : Type) where
  | nil
  | node (l : Tr α) (v : Option α) (r : Tr α)
abbrev Path := List Bool
/-- What comes next, the number worked out first. -/
noncomputable def sNat {β : Sort _} (n : Nat) (k : Nat → β) : β := Nat.casesOn n (k 0) fun m => k (Nat.succ m)
noncomputable def pathF : Nat → Nat → Path
  | 0, _ => []
  | f + 1, n =>
    match n with
    | 0 => []
    | m + 1 => Nat.beq (m % 2) 0 :: pathF f (m / 2)
noncomputable def path (n : Nat) : Path := pathF 48 n
noncomputable def Tr.get {α : Type} (t : Tr α) : Path → Option α :=
  Tr.rec (motive := fun _ => Path → Option α) (fun _ => none) (fun _ v _ gl gr p => List.rec (motive := fun _ => Option α) v (fun b q _ => Bool.rec (motive := fun _ => Option α) (gr q) (gl q) b) p) t
noncomputable def Tr.set {α : Type} (v : Option α) : Path → Tr α → Tr α
  | [], .nil => .node .nil v .nil
  | [], .node l _ r => .node l v r
  | true :: p, .nil => .node (Tr.set v p .nil) none .nil
  | false :: p, .nil => .node .nil none (Tr.set v p .nil)
  | true :: p, .node l x r => .node (Tr.set v p l) x r
  | false :: p, .node l x r => .node l x (Tr.set v p r)
/-- The same, the whole way worked out before what comes next. -/
noncomputable def Tr.setK {α : Type} {β : Type} (v : Option α) (p : Path) : Tr α → (Tr α → β) → β :=
  List.rec (motive := fun _ => Tr α → (Tr α → β) → β)
    (fun t k => Tr.rec (motive := fun _ => β) (k (.node .nil v .nil)) (fun l _ r _ _ => k (.node l v r)) t)
    (fun b _ ih t k => Tr.rec (motive := fun _ => β)
      (Bool.rec (motive := fun _ => β) (ih .nil fun r => k (.node .nil none r)) (ih .nil fun l => k (.node l none .nil)) b)
      (fun l x r _ _ => Bool.rec (motive := fun _ => β) (ih r fun r' => k (.node l x r')) (ih l fun l' => k (.node l' x r)) b) t) p
structure AW where
  t : Tr AObj
  next : Nat
noncomputable def AW.get (A : AW) (b : Nat) : Option AObj := A.t.get (path b)
noncomputable def most : Nat := 281474976710655
noncomputable def AW.upd (A : AW) (b : Nat) (o : Option AObj) : AW := A.t.setK o (path b) fun t => ⟨t, A.next⟩
noncomputable def AW.new (A : AW) (o : AObj) : Option (Nat × AW) := bif Nat.ble (A.next + 2) most then A.t.setK (some o) (path A.next) fun t => sNat (A.next + 1) fun m => some (A.next, ⟨t, m⟩) else none
/-- Values, worked out before what comes next. -/
noncomputable def consK {α β : Type} (k : List α → β) (v : α) (l : List α) : β := k (v :: l)
noncomputable def sBytes {β : Type} (l : List UInt8) : (List UInt8 → β) → β :=
  List.rec (motive := fun _ => (List UInt8 → β) → β) (fun k => k []) (fun b _ ih k => sNat b.toNat fun n => ih (consK k (UInt8.ofNat n))) l
noncomputable def sInt {β : Type} (n : Int) (k : Int → β) : β := Int.rec (motive := fun _ => β) (fun m => sNat m fun m => k (.ofNat m)) (fun m => sNat m fun m => k (.negSucc m)) n
noncomputable def sAddr {β : Type} (a : Addr) (k : Addr → β) : β := Addr.rec (motive := fun _ => β) (fun b o s => sNat b fun b => sNat o fun o => k ⟨b, o, s⟩) a
noncomputable def sPtr {β : Type} (a : Option Addr) (k : Option Addr → β) : β := Option.rec (motive := fun _ => β) (k none) (fun a => sAddr a fun a => k (some a)) a
noncomputable def sMap {β : Type} (a : Option Nat) (k : Option Nat → β) : β := Option.rec (motive := fun _ => β) (k none) (fun a => sNat a fun a => k (some a)) a
noncomputable def sL {β : Type} (f : Value → (Value → β) → β) (l : List Value) : (List Value → β) → β :=
  List.rec (motive := fun _ => (List Value → β) → β) (fun k => k []) (fun v _ ih k => f v fun v => ih (consK k v)) l
/-- A value, worked out before what comes next; 'f' does so with the parts of an aggregate. -/
noncomputable def sWith {β : Type} (f : Value → (Value → β) → β) (v : Value) (k : Value → β) : β :=
  Value.casesOn v
    (fun b => Bool.rec (motive := fun _ => β) (k (.bool false)) (k (.bool true)) b)
    (fun d n => sInt n fun n => k (.int d n))
    (fun d n => k (.float d n))
    (fun d a b => k (.complex d a b))
    (fun s => sBytes s.data.toList fun l => k (.string ⟨⟨l⟩⟩))
    (fun a => sPtr a fun a => k (.pointer a))
    (fun a n c => sPtr a fun a => sNat n fun n => sNat c fun c => k (.slice a n c))
    (fun r => sMap r fun r => k (.map r))
    (fun r => k (.chan r))
    (fun fn a b => sL f a.toList fun a => sL f b.toList fun b => k (.func fn ⟨a⟩ ⟨b⟩))
    (k .nilFunc)
    (fun t v => f v fun v => k (.iface t v))
    (k .nilIface)
    (fun cs => sL f cs.toList fun l => k (.agg ⟨l⟩))
    (fun vs => sL f vs.toList fun l => k (.tuple ⟨l⟩))
noncomputable def sV0 {β : Type} : Value → (Value → β) → β := sWith fun v k => k v
noncomputable def sV1 {β : Type} : Value → (Value → β) → β := sWith sV0
noncomputable def sV {β : Type} : Value → (Value → β) → β := sWith sV1
noncomputable def sA {β : Type} (A : AW) (k : AW → β) : β := AW.casesOn A fun t n => sNat n fun n => k ⟨t, n⟩
abbrev TM := Tr Value
noncomputable def TM.val (tm : TM) (p : Path) : Value := Option.rec (motive := fun _ => Value) undef (fun v => v) (Tr.get tm p)
/-- A value of one cell. -/
noncomputable def atomB : Value → Bool
  | .agg _ | .tuple _ => false
  | _ => true
noncomputable def clo0 : Value → Bool
  | .bool _ | .int .. | .float .. | .complex .. | .string _ | .nilFunc | .nilIface => true
  | .pointer a => a.isNone
  | .slice a _ _ => a.isNone
  | .map r | .chan r => r.isNone
  | _ => false
noncomputable def clo1 : Value → Bool
  | .agg cs => cs.toList.all clo0
  | .iface _ (.agg cs) => cs.toList.all clo0
  | .iface _ v => clo0 v
  | v => clo0 v
/-- A value without an address. -/
noncomputable def clo : Value → Bool
  | .tuple vs => vs.toList.all clo1
  | v => clo1 v
noncomputable def cellsL : Value → List Value
  | .agg cs => cs.toList
  | v => [v]

inductive CO where
  | slot (p : Path)
  | lit (v : Value)
noncomputable def co (ns : Nat) : Operand → CO
  | .tmp t => bif Nat.blt t ns then .slot (path t) else .lit undef
  | .const v => .lit v
  | .global g => .lit (.chan (some g))
  | .func f => .lit (.func (.func f) #[] #[])
noncomputable def okO : Operand → Bool
  | .const v => clo v
  | _ => true
noncomputable def CO.ev (x : CO) (tm : TM) : Value := CO.rec (motive := fun _ => Value) (fun p => tm.val p) (fun v => v) x

/-- A run that asks nothing of memory. -/
noncomputable def runPure (P : Program) {α : Type} : Sem α → Option α
  | .pure a => some a
  | .program k => runPure P (k P)
  | .choose q k => bif q.forced then runPure P (k 0) else none
  | .mark _ k => runPure P k
  | _ => none

section
variable (P : Program)
noncomputable def under (t : TypeId) : Option TypeDesc := P.underlying t
noncomputable def sizeT (t : TypeId) : Option Nat := match P.info? t with | some i => some i.size | none => none
noncomputable def bytesT (t : TypeId) : Option Nat := match P.info? t with | some i => some i.bytes | none => none
noncomputable def zeroT (t : TypeId) : Option Value := match P.info? t with
  | some i => match i.zero with
    | some z => bif clo1 z then some z else none
    | none => none
  | none => none
noncomputable def isAggT (t : TypeId) : Option Bool := match P.underlying t with
  | some (.struct _) | some (.array _ _) => some true
  | some _ => some false
  | none => none
end

noncomputable def aptr (b o : Nat) : Value := .pointer (some ⟨b, o, none⟩)
noncomputable def aslc (b o n k : Nat) : Value := .slice (some ⟨b, o, none⟩) n k
/-- What an operation comes to. -/
inductive Out where
  | val (v : Value) (A : AW)
  | ent (f : FuncId) (args : List Value) (A : AW)
  | no
inductive CI where
  /-- It reads, or does less. -/
  | rd (f : TM → AW → Option Value)
  /-- It makes a block and does nothing else: the block, the value by the block's name. -/
  | mk (f : TM → Option (AObj × (Nat → Value)))
  | act (f : TM → AW → Out)

/- Reads. -/
noncomputable def rdMove (x : CO) (tm : TM) (_ : AW) : Option Value := some (x.ev tm)
noncomputable def rdPick (c a b : CO) (tm : TM) (_ : AW) : Option Value := match c.ev tm with
  | .bool true => some (a.ev tm)
  | .bool false => some (b.ev tm)
  | _ => none
noncomputable def cellAt (A : AW) (b o : Nat) : Option Value := match A.get b with
  | some (.row c _) => c[o]?
  | _ => none
noncomputable def cellsAt (A : AW) (b o n : Nat) : Option (List Value) := match A.get b with
  | some (.row c _) => bif Nat.ble (o + n) c.length then some ((c.drop o).take n) else none
  | _ => none
noncomputable def rdLoad (a : CO) (tm : TM) (A : AW) : Option Value := match a.ev tm with
  | .pointer (some ⟨b, o, none⟩) => cellAt A b o
  | _ => none
noncomputable def aggOf : Option (List Value) → Option Value
  | some cs => some (.agg ⟨cs⟩)
  | none => none
noncomputable def rdLoadN (n : Nat) (a : CO) (tm : TM) (A : AW) : Option Value := match a.ev tm with
  | .pointer (some ⟨b, o, none⟩) => aggOf (cellsAt A b o n)
  | _ => none
noncomputable def rdField (off : Nat) (a : CO) (tm : TM) (_ : AW) : Option Value := match a.ev tm with
  | .pointer (some ⟨b, o, none⟩) => some (aptr b (o + off))
  | _ => none
noncomputable def rdIndexArr (len size : Nat) (x i : CO) (tm : TM) (_ : AW) : Option Value := match i.ev tm, x.ev tm with
  | .int _ (.ofNat n), .pointer (some ⟨b, o, none⟩) => bif Nat.blt n len then some (aptr b (o + n * size)) else none
  | _, _ => none
noncomputable def rdIndexSlc (size : Nat) (x i : CO) (tm : TM) (_ : AW) : Option Value := match i.ev tm, x.ev tm with
  | .int _ (.ofNat n), .slice (some ⟨b, o, none⟩) len _ => bif Nat.blt n len then some (aptr b (o + n * size)) else none
  | _, _ => none
noncomputable def rdNilCheck (x : CO) (tm : TM) (_ : AW) : Option Value := match x.ev tm with
  | .pointer (some a) => some (.pointer (some a))
  | .iface t v => some (.iface t v)
  | .func (.func f) a b => some (.func (.func f) a b)
  | .map r => some (.map r)
  | _ => none
noncomputable def cloL (xs : List CO) (tm : TM) : Bool := xs.all fun x => clo (x.ev tm)
noncomputable def evalC (ns : Nat) (tm : TM) (x : Operand) : Value := (co ns x).ev tm
/-- An operation whose operands have no address, that asks nothing of memory. -/
noncomputable def rdClosed (P : Program) (ns : Nat) (o : Oper) (tm : TM) (_ : AW) : Option Value :=
  bif cloL (o.op.operands.toList.map (co ns)) tm then
    match runPure P (execOp (evalC ns tm) o) with
    | some (.value v) => bif clo v then some v else none
    | _ => none
  else none
/-- Ints, the quick way where nothing is out of the kind's range. -/
noncomputable def ltI : Int → Int → Bool
  | .ofNat m, .ofNat n => Nat.blt m n
  | .negSucc _, .ofNat _ => true
  | .ofNat _, .negSucc _ => false
  | .negSucc m, .negSucc n => Nat.blt n m
noncomputable def eqI : Int → Int → Bool
  | .ofNat m, .ofNat n => Nat.beq m n
  | .negSucc m, .negSucc n => Nat.beq m n
  | _, _ => false
noncomputable def wrapI (k : IntKind) (n : Int) : Int :=
  match k, n with
  | .i64, .ofNat m => bif Nat.blt m 9223372036854775808 then .ofNat m else k.wrap (.ofNat m)
  | .i64, .negSucc m => bif Nat.blt m 9223372036854775808 then .negSucc m else k.wrap (.negSucc m)
  | .u8, .ofNat m => .ofNat (m % 256)
  | .u32, .ofNat m => .ofNat (m % 4294967296)
  | .u64, .ofNat m => .ofNat (m % 18446744073709551616)
  | k, n => k.wrap n
noncomputable def natOp (f : Nat → Nat → Nat) (k : IntKind) : Int → Int → Option Value
  | .ofNat m, .ofNat n => match k with
    | .u8 => bif Nat.blt m 256 && Nat.blt n 256 then some (.int .u8 (.ofNat (f m n))) else none
    | .u32 => bif Nat.blt m 4294967296 && Nat.blt n 4294967296 then some (.int .u32 (.ofNat (f m n))) else none
    | .u64 => bif Nat.blt m 18446744073709551616 && Nat.blt n 18446744073709551616 then some (.int .u64 (.ofNat (f m n))) else none
    | _ => none
  | _, _ => none
noncomputable def intOp : BinOp → Option (IntKind → Int → Int → Option Value)
  | .add => some fun k a b => some (.int k (wrapI k (a + b)))
  | .sub => some fun k a b => some (.int k (wrapI k (a - b)))
  | .mul => some fun k a b => some (.int k (wrapI k (a * b)))
  | .eql => some fun _ a b => some (.bool (eqI a b))
  | .neq => some fun _ a b => some (.bool (!eqI a b))
  | .lss => some fun _ a b => some (.bool (ltI a b))
  | .leq => some fun _ a b => some (.bool (!ltI b a))
  | .gtr => some fun _ a b => some (.bool (ltI b a))
  | .geq => some fun _ a b => some (.bool (!ltI a b))
  | .and => some (natOp Nat.land)
  | .or => some (natOp Nat.lor)
  | .xor => some (natOp Nat.xor)
  | _ => none
noncomputable def rdInts (f : IntKind → Int → Int → Option Value) (x y : CO) (tm : TM) (_ : AW) : Option Value := match x.ev tm, y.ev tm with
  | .int k a, .int l b => bif decide (k = l) then f k a b else none
  | _, _ => none
/-- A shift to the right, a number that is not below 0. -/
noncomputable def rdShr (x y : CO) (tm : TM) (_ : AW) : Option Value := match x.ev tm, y.ev tm with
  | .int k (.ofNat m), .int _ (.ofNat n) => bif Nat.ble n k.bits then some (.int k (.ofNat (m >>> n))) else none
  | _, _ => none
noncomputable def eqB : List UInt8 → List UInt8 → Bool
  | [], [] => true
  | a :: l, b :: m => bif Nat.beq a.toNat b.toNat then eqB l m else false
  | _, _ => false
noncomputable def strOp : BinOp → Option (ByteArray → ByteArray → Option Value)
  | .eql => some fun a b => some (.bool (eqB a.data.toList b.data.toList))
  | .neq => some fun a b => some (.bool (!eqB a.data.toList b.data.toList))
  | .add => some fun a b => bif Nat.ble (a.data.toList.length + b.data.toList.length) 1099511627776 then some (.string ⟨⟨a.data.toList ++ b.data.toList⟩⟩) else none
  | _ => none
noncomputable def rdStrs (f : ByteArray → ByteArray → Option Value) (x y : CO) (tm : TM) (_ : AW) : Option Value := match x.ev tm, y.ev tm with
  | .string a, .string b => f a b
  | _, _ => none
noncomputable def rdConv (k : IntKind) (x : CO) (tm : TM) (_ : AW) : Option Value := match x.ev tm with
  | .int _ n => some (.int k (wrapI k n))
  | _ => none
noncomputable def rdNot (x : CO) (tm : TM) (_ : AW) : Option Value := match x.ev tm with
  | .bool b => some (.bool (!b))
  | _ => none
noncomputable def rdByteAt (x i : CO) (tm : TM) (_ : AW) : Option Value := match x.ev tm, i.ev tm with
  | .string s, .int _ (.ofNat n) => match s.data.toList[n]? with
    | some b => some (.int .u8 (.ofNat b.toNat))
    | none => none
  | _, _ => none
noncomputable def orElse (f g : TM → AW → Option Value) (tm : TM) (A : AW) : Option Value := match f tm A with
  | some v => some v
  | none => g tm A
/-- == where a value with an address stands against nil. -/
noncomputable def aequal : TypeDesc → Value → Value → Option Bool
  | .pointer _, .pointer none, .pointer b => some b.isNone
  | .pointer _, .pointer (some _), .pointer none => some false
  | .slice _, .slice none _ _, .slice b _ _ => some b.isNone
  | .slice _, .slice (some _) _ _, .slice none _ _ => some false
  | .map _ _, .map none, .map b => some b.isNone
  | .map _ _, .map (some _), .map none => some false
  | .func _ _ _, .nilFunc, .func _ _ _ => some false
  | .func _ _ _, .func _ _ _, .nilFunc => some false
  | .interface _, .nilIface, .iface _ _ => some false
  | .interface _, .iface _ _, .nilIface => some false
  | _, _, _ => none
noncomputable def rdNil (neg : Bool) (d : TypeDesc) (x y : CO) (tm : TM) (_ : AW) : Option Value := match aequal d (x.ev tm) (y.ev tm) with
  | some b => some (.bool (b != neg))
  | none => none
/-- The cells of a slice, or of a text. -/
noncomputable def rowCells (A : AW) (size : Nat) : Value → Option (List Value)
  | .slice none 0 _ => some []
  | .slice (some ⟨b, o, none⟩) n _ => cellsAt A b o (n * size)
  | .string s => some (s.data.toList.map fun b => .int .u8 b.toNat)
  | _ => none
noncomputable def bytesOf : List Value → Option (List UInt8)
  | [] => some []
  | .int .u8 n :: l => match bytesOf l with
    | some bs => some (UInt8.ofNat n.toNat :: bs)
    | none => none
  | _ => none
noncomputable def strOf : Option (List Value) → Option Value
  | some cs => match bytesOf cs with
    | some bs => some (.string ⟨bs.toArray⟩)
    | none => none
  | none => none
noncomputable def rdStr (x : CO) (tm : TM) (A : AW) : Option Value := match x.ev tm with
  | .slice a n k => strOf (rowCells A 1 (.slice a n k))
  | _ => none
noncomputable def rdIface (t : TypeId) (x : CO) (tm : TM) (_ : AW) : Option Value := some (.iface t (x.ev tm))
noncomputable def rdFunc (fn : Fn) (a b : List CO) (tm : TM) (_ : AW) : Option Value := some (.func fn ⟨a.map (·.ev tm)⟩ ⟨b.map (·.ev tm)⟩)
noncomputable def bnd (v : Option Value) (lim dflt : Nat) : Option Nat :=
  match v with
  | none => some dflt
  | some (.int _ (.ofNat i)) => bif Nat.ble i lim then some i else none
  | _ => none
noncomputable def slc3 (size b o m : Nat) (h l : Option Nat) : Option Value := match h, l with
  | some h, some l => bif Nat.ble l h then some (aslc b (bif Nat.beq m l then o else o + l * size) (h - l) (2 * (m - l) + 1)) else none
  | _, _ => none
noncomputable def slc2 (size b o c ex : Nat) (h l : Option Nat) : Option Value := match h, l with
  | some h, some l => bif Nat.ble l h && Nat.ble h c then some (aslc b (bif Nat.beq c l then o else o + l * size) (h - l) (2 * (c - l) + ex)) else none
  | _, _ => none
noncomputable def sliceRow (size b o len c ex : Nat) (lo hi mx : Option Value) : Option Value :=
  match mx with
  | some _ => match hi, bnd mx c 0 with
    | some _, some m => slc3 size b o m (bnd hi m 0) (bnd lo m 0)
    | _, _ => none
  | none => slc2 size b o c ex (bnd hi c len) (bnd lo c 0)
noncomputable def evM (x : Option CO) (tm : TM) : Option Value := match x with
  | some x => some (x.ev tm)
  | none => none
noncomputable def rdSliceArr (n size : Nat) (x : CO) (lo hi mx : Option CO) (tm : TM) (_ : AW) : Option Value := match x.ev tm with
  | .pointer (some ⟨b, o, none⟩) => sliceRow size b o n n 1 (evM lo tm) (evM hi tm) (evM mx tm)
  | _ => none
noncomputable def subStr (s : ByteArray) (h l : Option Nat) : Option Value := match h, l with
  | some h, some l => bif Nat.ble l h then some (.string ⟨⟨(s.data.toList.drop l).take (h - l)⟩⟩) else none
  | _, _ => none
noncomputable def rdSliceStr (x : CO) (lo hi : Option CO) (tm : TM) (_ : AW) : Option Value := match x.ev tm with
  | .string s => subStr s (bnd (evM hi tm) s.data.toList.length s.data.toList.length) (bnd (evM lo tm) s.data.toList.length 0)
  | _ => none
/-- A slice whose capacity is a least one lies in a row of its own elements. -/
noncomputable def elemOk (A : AW) (b elem k : Nat) : Bool := bif Nat.beq (k % 2) 1 then true else match A.get b with
  | some (.row _ e) => Nat.beq e elem
  | _ => false
noncomputable def rdSliceSlc (elem size : Nat) (x : CO) (lo hi mx : Option CO) (tm : TM) (A : AW) : Option Value := match x.ev tm with
  | .slice (some ⟨b, o, none⟩) n k => bif elemOk A b elem k then sliceRow size b o n (k / 2) (k % 2) (evM lo tm) (evM hi tm) (evM mx tm) else none
  | _ => none
noncomputable def partN (n off : Nat) (cs : List Value) : Option Value := bif Nat.ble (off + n) cs.length then some (.agg ⟨(cs.drop off).take n⟩) else none
noncomputable def part1 (off : Nat) (cs : List Value) : Option Value := cs[off]?
noncomputable def rdPart (f : List Value → Option Value) (x : CO) (tm : TM) (_ : AW) : Option Value := match x.ev tm with
  | .agg cs => f cs.toList
  | _ => none
noncomputable def rdIndexAgg (len size : Nat) (f : Nat → List Value → Option Value) (x i : CO) (tm : TM) (_ : AW) : Option Value := match x.ev tm, i.ev tm with
  | .agg cs, .int _ (.ofNat n) => bif Nat.blt n len then f (n * size) cs.toList else none
  | _, _ => none
noncomputable def rdExtract (i : Nat) (x : CO) (tm : TM) (_ : AW) : Option Value := match x.ev tm with
  | .tuple vs => vs.toList[i]?
  | _ => none
noncomputable def rdLen (d : TypeDesc) (x : CO) (tm : TM) (A : AW) : Option Value := match d, x.ev tm with
  | .slice _, .slice _ n _ => some (.int .i64 n)
  | .string, .string s => some (.int .i64 s.data.toList.length)
  | .map _ _, .map none => some (.int .i64 0)
  | .map _ _, .map (some r) => match A.get r with
    | some (.map es _) => some (.int .i64 es.length)
    | _ => none
  | _, _ => none
noncomputable def rdConst (v : Value) (_ : TM) (_ : AW) : Option Value := some v
noncomputable def rdCap (x : CO) (tm : TM) (_ : AW) : Option Value := match x.ev tm with
  | .slice (some _) _ k => bif Nat.beq (k % 2) 1 then some (.int .i64 (k / 2 : Nat)) else none
  | _ => none
/- Maps. -/
noncomputable def findAsk (P : Program) (kt : TypeId) (k : Value) : List MapEntry → Nat → Option (Option (Nat × Value))
  | [], _ => some none
  | e :: es, i =>
    match runPure P (Op.equal kt k e.key) with
    | some true => some (some (i, e.val))
    | some false => findAsk P kt k es (i + 1)
    | none => none
/-- Where a key lies in a map's entries: none: it cannot be told. -/
noncomputable def find (P : Program) (kt : TypeId) (d : TypeDesc) (k : Value) (es : List MapEntry) : Option (Option (Nat × Value)) :=
  match Instr.findNow d k es 0 with
  | some r => some r
  | none => findAsk P kt k es 0
noncomputable def keyOk (P : Program) (empty : Bool) (kt : TypeId) (d : TypeDesc) (k : Value) : Bool := clo k && (match d, k with
  | .int _, .int _ _ => true
  | _, _ => (runPure P (Instr.checkKey empty 10000 kt k)).isSome)
noncomputable def entriesOf (A : AW) : Value → Option (List MapEntry)
  | .map none => some []
  | .map (some b) => match A.get b with
    | some (.map es _) => some es
    | _ => none
  | _ => none
noncomputable def yield2 (ok : Bool) (v : Value) (b : Bool) : Value := bif ok then .tuple #[v, .bool b] else v
noncomputable def rdLookup (P : Program) (kt : TypeId) (d : TypeDesc) (z : Value) (m k : CO) (ok : Bool) (tm : TM) (A : AW) : Option Value :=
  match entriesOf A (m.ev tm) with
  | none => none
  | some es => bif keyOk P es.isEmpty kt d (k.ev tm) then
      match find P kt d (k.ev tm) es with
      | none => none
      | some (some (_, v)) => some (yield2 ok v true)
      | some none => some (yield2 ok z false)
    else none

/- Makers. -/
noncomputable def mkAlloc (t : TypeId) (z : Value) (_ : TM) : Option (AObj × (Nat → Value)) := some (.row (cellsL z) t, fun b => aptr b 0)
noncomputable def mkBox (t : TypeId) (x : CO) (tm : TM) : Option (AObj × (Nat → Value)) := some (.row (cellsL (x.ev tm)) t, fun b => aptr b 0)
noncomputable def mkMap (_ : TM) : Option (AObj × (Nat → Value)) := some (.map [] 0, fun b => .map (some b))
noncomputable def mkMapN (x : CO) (tm : TM) : Option (AObj × (Nat → Value)) := match x.ev tm with
  | .int _ _ => some (.map [] 0, fun b => .map (some b))
  | _ => none
noncomputable def splice0 (c : List Value) (o : Nat) (cs : List Value) : Option (List Value) :=
  bif Nat.ble (o + cs.length) c.length then some (c.take o ++ (cs ++ c.drop (o + cs.length))) else none
noncomputable def fillL (place : Nat → Option (Nat × Nat)) (tm : TM) : List (Nat × CO) → List Value → Option (List Value)
  | [], c => some c
  | (i, x) :: rest, c =>
    match place i with
    | none => none
    | some (off, size) => bif Nat.beq (cellsL (x.ev tm)).length size then
        match splice0 c off (cellsL (x.ev tm)) with
        | some c' => fillL place tm rest c'
        | none => none
      else none
noncomputable def rdBuild (place : Nat → Option (Nat × Nat)) (z : List Value) (parts : List (Nat × CO)) (tm : TM) (_ : AW) : Option Value := aggOf (fillL place tm parts z)
noncomputable def mkSlice (e : TypeId) (place : Nat → Option (Nat × Nat)) (z : List Value) (len : Nat) (parts : List (Nat × CO)) (tm : TM) : Option (AObj × (Nat → Value)) :=
  match fillL place tm parts z with
  | some cs => some (.row cs e, fun b => aslc b 0 len (2 * len + 1))
  | none => none
noncomputable def mkMake (e : TypeId) (z : List Value) (bytes : Nat) (l c : CO) (tm : TM) : Option (AObj × (Nat → Value)) := match l.ev tm, c.ev tm with
  | .int .i64 (.ofNat n), .int .i64 (.ofNat m) => bif Nat.ble n m && Nat.ble m 1048576 && Nat.ble (bytes * m) 281474976710656 then some (.row ((List.replicate m z).flatten) e, fun b => aslc b 0 n (2 * m + 1)) else none
  | _, _ => none
noncomputable def mkBytes (e : TypeId) (x : CO) (tm : TM) : Option (AObj × (Nat → Value)) := match x.ev tm with
  | .string s => some (.row (s.data.toList.map fun b => .int .u8 b.toNat) e, fun b => aslc b 0 s.data.toList.length (2 * s.data.toList.length))
  | _ => none

/- What acts. -/
/-- Cells written over a row's, from a place on; what comes next has the new row, worked out. -/
noncomputable def overK {β : Type} (no : β) (cs : List Value) : List Value → (List Value → β) → β :=
  List.rec (motive := fun _ => List Value → (List Value → β) → β) (fun c k => k c)
    (fun v _ ih c k => List.casesOn c no fun _ c => sV0 v fun v => ih c (consK k v)) cs
noncomputable def splK {β : Type} (no : β) (cs : List Value) (o : Nat) : List Value → (List Value → β) → β :=
  Nat.rec (motive := fun _ => List Value → (List Value → β) → β) (fun c k => overK no cs c k)
    (fun _ ih c k => List.casesOn c no fun v c => ih c (consK k v)) o
noncomputable def wr (A : AW) (b o : Nat) (cs : List Value) : Option AW := match A.get b with
  | some (.row c e) => bif cs.all atomB then splK none cs o c fun c' => some (A.upd b (some (.row c' e))) else none
  | _ => none
noncomputable def valA (v : Value) : Option AW → Out
  | some A => sA A fun A => .val v A
  | none => .no
noncomputable def acStore (n : Nat) (a x : CO) (tm : TM) (A : AW) : Out := match a.ev tm with
  | .pointer (some ⟨b, o, none⟩) => bif Nat.beq (cellsL (x.ev tm)).length n then valA undef (wr A b o (cellsL (x.ev tm))) else .no
  | _ => .no
noncomputable def newRow (e : TypeId) (f : Nat → Value) (cs : List Value) (A : AW) : Out := sL sV0 cs fun cs => match A.new (.row cs e) with
  | some (b, A') => .val (f b) A'
  | none => .no
noncomputable def bigN : Nat := 33554432
noncomputable def lenA : Value → Nat
  | .slice _ n _ => n
  | .string s => s.data.toList.length
  | _ => 0
noncomputable def appendTo (elem size : Nat) (s : Value) (m : Nat) (new : List Value) (A : AW) : Out :=
  match s with
  | .slice none 0 0 => newRow elem (fun b => aslc b 0 m (2 * m)) new A
  | .slice (some ⟨b, o, none⟩) n k =>
    bif Nat.ble (n + m) (k / 2) then valA (aslc b o (n + m) k) (wr A b (o + n * size) new)
    else bif Nat.ble n bigN && Nat.ble k bigN && elemOk A b elem k then
      match cellsAt A b o (n * size) with
      | some old => newRow elem (fun b => aslc b 0 (n + m) (2 * (n + m))) (old ++ new) (bif Nat.beq (k % 2) 1 then A else A.upd b none)
      | none => .no
    else .no
  | _ => .no
noncomputable def acAppend (elem size : Nat) (s x : CO) (tm : TM) (A : AW) : Out :=
  match rowCells A size (x.ev tm) with
  | none => .no
  | some new => match lenA (x.ev tm) with
    | 0 => (match s.ev tm with
      | .slice a n k => bif Nat.ble n (k / 2) then .val (.slice a n k) A else .no
      | _ => .no)
    | m + 1 => bif new.all atomB && Nat.ble m bigN && Nat.beq new.length ((m + 1) * size) then appendTo elem size (s.ev tm) (m + 1) new A else .no
noncomputable def acCopy (size : Nat) (d x : CO) (tm : TM) (A : AW) : Out :=
  match d.ev tm, rowCells A size (x.ev tm) with
  | .slice (some ⟨b, o, none⟩) n _, some cs => bif Nat.beq cs.length (lenA (x.ev tm) * size) then valA (.int .i64 (Nat.min (lenA (x.ev tm)) n : Nat)) (wr A b o (cs.take (Nat.min (lenA (x.ev tm)) n * size))) else .no
  | _, _ => .no
noncomputable def acClear (z : List Value) (x : CO) (tm : TM) (A : AW) : Out :=
  match x.ev tm with
  | .slice _ 0 _ => .val (.tuple #[]) A
  | .slice (some ⟨b, o, none⟩) n _ => valA (.tuple #[]) (wr A b o ((List.replicate n z).flatten))
  | _ => .no
noncomputable def sEs {β : Type} (l : List MapEntry) : (List MapEntry → β) → β :=
  List.rec (motive := fun _ => (List MapEntry → β) → β) (fun k => k []) (fun e _ ih k => MapEntry.casesOn e fun a b n => sV1 a fun a => sV1 b fun b => sNat n fun n => ih (consK k ⟨a, b, n⟩)) l
noncomputable def setEntry (es : List MapEntry) (i : Nat) (k v : Value) : Option (List MapEntry) := match es[i]? with
  | some e => bif Instr.sameBits 10000 e.key k then some (es.set i { e with key := k, val := v }) else none
  | none => none
noncomputable def putEntry (es : List MapEntry) (clock : Nat) (k v : Value) : Option (Option (Nat × Value)) → Option (List MapEntry × Nat)
  | some (some (i, _)) => match setEntry es i k v with
    | some es' => some (es', clock)
    | none => none
  | some none => some (es ++ [{ key := k, val := v, born := clock }], clock + 1)
  | none => none
noncomputable def acUpdate (P : Program) (kt : TypeId) (d : TypeDesc) (m k v : CO) (tm : TM) (A : AW) : Out := match m.ev tm with
  | .map (some b) => match A.get b with
    | some (.map es clock) => bif keyOk P false kt d (k.ev tm) then
        match putEntry es clock (k.ev tm) (v.ev tm) (find P kt d (k.ev tm) es) with
        | some (es', c') => sNat c' fun c' => sEs es' fun es' => valA undef (some (A.upd b (some (.map es' c'))))
        | none => .no
      else .no
    | _ => .no
  | _ => .no
noncomputable def acDelete (P : Program) (kt : TypeId) (d : TypeDesc) (m k : CO) (tm : TM) (A : AW) : Out := match m.ev tm with
  | .map (some b) => match A.get b with
    | some (.map es clock) => bif keyOk P es.isEmpty kt d (k.ev tm) then
        match find P kt d (k.ev tm) es with
        | some (some (i, _)) => sEs (es.eraseIdx i) fun es' => valA (.tuple #[]) (some (A.upd b (some (.map es' clock))))
        | some none => .val (.tuple #[]) A
        | none => .no
      else .no
    | _ => .no
  | _ => .no
noncomputable def acCall (f : FuncId) (args : List CO) (tm : TM) (A : AW) : Out := .ent f (args.map (·.ev tm)) A
noncomputable def hasBody (P : Program) (f : FuncId) : Bool := match P.funcs[f]? with
  | some fn => fn.body.isSome
  | none => false
noncomputable def acCallV (P : Program) (f : CO) (args : List CO) (tm : TM) (A : AW) : Out := match f.ev tm with
  | .func (.func g) a b => bif hasBody P g then .ent g (a.toList ++ (args.map (·.ev tm) ++ b.toList)) A else .no
  | _ => .no
noncomputable def acExtern (P : Program) (f : FuncId) (args : List CO) (tm : TM) (A : AW) : Out :=
  bif cloL args tm then
    match runPure P (callFunc f ⟨args.map (·.ev tm)⟩) with
    | some (.value v) => bif clo v then .val v A else .no
    | _ => .no
  else .no
noncomputable def method (P : Program) (t : TypeId) (name : String) : Option FuncId :=
  match P.info? t, under P t with
  | some i, some (.pointer _) => match i.methods.find? (·.name == name) with
    | some m => bif m.path.isEmpty then (match m.func with | some (f, true) => some f | _ => none) else none
    | none => none
  | _, _ => none
noncomputable def acInvoke (P : Program) (r : CO) (name : String) (args : List CO) (tm : TM) (A : AW) : Out := match r.ev tm with
  | .iface t v => match method P t name with
    | some f => bif hasBody P f then .ent f (v :: args.map (·.ev tm)) A else .no
    | none => .no
  | _ => .no

section
variable (P : Program) (ns : Nat)
noncomputable def places (fields : Array Field) : Option (List (Nat × Nat)) := fields.toList.mapM fun f => match sizeT P f.type with
  | some n => some (f.offset, n)
  | none => none
noncomputable def cos (xs : Array Operand) : List CO := xs.toList.map (co ns)
noncomputable def coParts (ps : Array (Nat × Operand)) : List (Nat × CO) := ps.toList.map fun p => (p.1, co ns p.2)
noncomputable def partOf (t : TypeId) (off : Nat) : Option (List Value → Option Value) := match isAggT P t, sizeT P t with
  | some true, some n => some (partN n off)
  | some false, some _ => some (part1 off)
  | _, _ => none
noncomputable def ciBuild (t : TypeId) (ps : Array (Nat × Operand)) : Option CI := match zeroT P t, under P t with
  | some z, some (.struct fields) => match places P fields with
    | some pl => some (.rd (rdBuild (fun i => pl[i]?) (cellsL z) (coParts ns ps)))
    | none => none
  | some z, some (.array _ elem) => match sizeT P elem with
    | some size => some (.rd (rdBuild (fun i => some (i * size, size)) (cellsL z) (coParts ns ps)))
    | none => none
  | _, _ => none
noncomputable def ciBuildSlice (t : TypeId) (len : Nat) (ps : Array (Nat × Operand)) : Option CI := match under P t with
  | some (.slice elem) => match sizeT P elem, zeroT P elem with
    | some size, some z => bif Nat.ble (len * size) 16777216 && Nat.beq (cellsL z).length size then
        some (.mk (mkSlice elem (fun i => some (i * size, size)) ((List.replicate len (cellsL z)).flatten) len (coParts ns ps))) else none
    | _, _ => none
  | _ => none
noncomputable def ciSlice (o : Oper) (t : TypeId) (x : CO) (lo hi mx : Option CO) : Option CI := match under P t with
  | some (.array n elem) => match sizeT P elem with
    | some size => some (.rd (rdSliceArr n size x lo hi mx))
    | none => none
  | some (.slice elem) => match sizeT P elem with
    | some size => some (.rd (orElse (rdSliceSlc elem size x lo hi mx) (rdClosed P ns o)))
    | none => none
  | some .string => match mx with
    | none => some (.rd (rdSliceStr x lo hi))
    | some _ => none
  | _ => none
noncomputable def ciBin (o : Oper) (op : BinOp) (t : TypeId) (x y : CO) : Option CI :=
  match intOp op, strOp op, under P t with
  | some f, _, some (.int _) => some (.rd (orElse (rdInts f x y) (rdClosed P ns o)))
  | _, some f, some .string => some (.rd (orElse (rdStrs f x y) (rdClosed P ns o)))
  | _, _, some d => match op with
    | .shr => some (.rd (orElse (rdShr x y) (rdClosed P ns o)))
    | .eql => some (.rd (orElse (rdNil false d x y) (rdClosed P ns o)))
    | .neq => some (.rd (orElse (rdNil true d x y) (rdClosed P ns o)))
    | _ => some (.rd (rdClosed P ns o))
  | _, _, none => none
noncomputable def ciCall (o : Oper) (c : Call) : Option CI :=
  match c.callee with
  | .value (.func f) => bif hasBody P f then some (.act (acCall f (cos ns c.args))) else some (.act (acExtern P f (cos ns c.args)))
  | .value f => some (.act (acCallV P (co ns f) (cos ns c.args)))
  | .invoke r name => some (.act (acInvoke P (co ns r) name (cos ns c.args)))
  | .builtin b => match b, cos ns c.args, c.argTypes.toList with
    | .append, [s, x], [st, xt] => match under P st, under P xt with
      | _, some (.int _) => none
      | some (.slice elem), some _ => match sizeT P elem, zeroT P elem with
        | some (size + 1), some z => match bytesT P elem with
          | some (b + 1) => bif Nat.ble b 1000000 && Nat.beq (cellsL z).length (size + 1) then some (.act (acAppend elem (size + 1) s x)) else none
          | _ => none
        | _, _ => none
      | _, _ => none
    | .copy, [d, x], t :: _ => match under P t with
      | some (.slice elem) => match sizeT P elem with
        | some size => some (.act (acCopy size d x))
        | none => none
      | _ => none
    | .clear, [x], [t] => match under P t with
      | some (.slice elem) => match zeroT P elem with
        | some z => some (.act (acClear (cellsL z) x))
        | none => none
      | _ => none
    | .delete, [m, k], t :: _ => match under P t with
      | some (.map kt _) => match under P kt with
        | some d => some (.act (acDelete P kt d m k))
        | none => none
      | _ => none
    | .len, [x], [t] => match under P t with
      | some (.pointer arr) => match under P arr with
        | some (.array n _) => some (.rd (rdConst (.int .i64 n)))
        | _ => none
      | some (.array n _) => some (.rd (rdConst (.int .i64 n)))
      | some d => some (.rd (rdLen d x))
      | none => none
    | .cap, [x], [t] => match under P t with
      | some (.slice _) => some (.rd (rdCap x))
      | _ => none
    | .min, _, _ => some (.rd (rdClosed P ns o))
    | .max, _, _ => some (.rd (rdClosed P ns o))
    | _, _, _ => none
noncomputable def ci (o : Oper) : Option CI :=
  match o.op with
  | .move x => some (.rd (rdMove (co ns x)))
  | .assign x => some (.rd (rdMove (co ns x)))
  | .pick c a b => some (.rd (rdPick (co ns c) (co ns a) (co ns b)))
  | .alloc t => match zeroT P t with
    | some z => some (.mk (mkAlloc t z))
    | none => none
  | .box t x => some (.mk (mkBox t (co ns x)))
  | .build t parts => ciBuild P ns t parts
  | .buildSlice t len parts => ciBuildSlice P ns t len parts
  | .load t a => match isAggT P t, sizeT P t with
    | some true, some n => some (.rd (rdLoadN n (co ns a)))
    | some false, _ => some (.rd (rdLoad (co ns a)))
    | _, _ => none
  | .store t a x => match sizeT P t with
    | some n => some (.act (acStore n (co ns a) (co ns x)))
    | none => none
  | .nilCheck x => some (.rd (rdNilCheck (co ns x)))
  | .binOp op t x y _ => ciBin P ns o op t (co ns x) (co ns y)
  | .unOp op _ x => match op with
    | .not => some (.rd (rdNot (co ns x)))
    | _ => some (.rd (rdClosed P ns o))
  | .convert src dst x => match under P src, under P dst with
    | some .string, some (.slice e) => match under P e with
      | some (.int .u8) => match sizeT P e with
        | some 1 => some (.mk (mkBytes e (co ns x)))
        | _ => none
      | _ => none
    | some (.slice e), some .string => match under P e with
      | some (.int .u8) => some (.rd (rdStr (co ns x)))
      | _ => none
    | some _, some (.int k) => some (.rd (orElse (rdConv k (co ns x)) (rdClosed P ns o)))
    | some _, some _ => some (.rd (rdClosed P ns o))
    | _, _ => none
  | .makeInterface t x => match under P t with
    | some (.interface _) => none
    | some _ => some (.rd (rdIface t (co ns x)))
    | none => none
  | .makeFunc fn first captured => some (.rd (rdFunc fn (cos ns first) (cos ns captured)))
  | .makeMap t r => match r with
    | none => some (.mk mkMap)
    | some x => match under P t with
      | some (.map _ _) => some (.mk (mkMapN (co ns x)))
      | _ => none
  | .makeSlice t l c => match under P t with
    | some (.slice elem) => match sizeT P elem, zeroT P elem with
      | some size, some z => match bytesT P elem with
        | some bytes => bif Nat.beq (cellsL z).length size then some (.mk (mkMake elem (cellsL z) bytes (co ns l) (co ns c))) else none
        | none => none
      | _, _ => none
    | _ => none
  | .slice t x lo hi mx => ciSlice P ns o t (co ns x) (lo.map (co ns)) (hi.map (co ns)) (mx.map (co ns))
  | .fieldAddr s x f => match under P s with
    | some (.struct fields) => match fields.toList[f]? with
      | some fd => match sizeT P fd.type with
        | some (_ + 1) => some (.rd (rdField fd.offset (co ns x)))
        | _ => none
      | none => none
    | _ => none
  | .field t x f => match under P t with
    | some (.struct fields) => match fields.toList[f]? with
      | some fd => match partOf P fd.type fd.offset with
        | some g => some (.rd (rdPart g (co ns x)))
        | none => none
      | none => none
    | _ => none
  | .indexAddr t x i => match under P t with
    | some (.array len elem) => match sizeT P elem with
      | some size => some (.rd (rdIndexArr len size (co ns x) (co ns i)))
      | none => none
    | some (.slice elem) => match sizeT P elem with
      | some size => some (.rd (rdIndexSlc size (co ns x) (co ns i)))
      | none => none
    | _ => none
  | .index t x i => match under P t with
    | some (.array len elem) => match isAggT P elem, sizeT P elem with
      | some true, some size => some (.rd (rdIndexAgg len size (fun off => partN size off) (co ns x) (co ns i)))
      | some false, some size => some (.rd (rdIndexAgg len size part1 (co ns x) (co ns i)))
      | _, _ => none
    | some .string => some (.rd (rdByteAt (co ns x) (co ns i)))
    | _ => none
  | .lookup t m k ok => match under P t with
    | some (.map kt et) => match under P kt, zeroT P et with
      | some d, some z => some (.rd (rdLookup P kt d z (co ns m) (co ns k) ok))
      | _, _ => none
    | _ => none
  | .mapUpdate t m k x => match under P t with
    | some (.map kt _) => match under P kt with
      | some d => some (.act (acUpdate P kt d (co ns m) (co ns k) (co ns x)))
      | none => none
    | _ => none
  | .extract t i => some (.rd (rdExtract i (co ns t)))
  | .call c => ciCall P ns o c
  | _ => none

/- Regions. -/
structure CR where
  ci : CI
  dst : Option Path
  guard : Option (Path × Bool)
noncomputable def guardOf (ops : List Oper) (o : Oper) : Option (Option (Path × Bool)) := match o.guard with
  | none => some none
  | some (j, want) => match ops[j]? with
    | some g => match g.dst with
      | some t => bif Nat.blt t ns then some (some (path t, want)) else none
      | none => none
    | none => none
noncomputable def pathO : Option Tmp → Option (Option Path)
  | some t => bif Nat.blt t ns then some (some (path t)) else none
  | none => some none
noncomputable def cr (ops : List Oper) (o : Oper) : Option CR := match ci P ns o, guardOf ns ops o, pathO ns o.dst with
  | some c, some g, some d => bif o.op.operands.toList.all okO then some ⟨c, d, g⟩ else none
  | _, _, _ => none
noncomputable def crs (ops : List Oper) : List Oper → Option (List CR)
  | [] => some []
  | o :: l => match cr P ns ops o, crs ops l with
    | some c, some cs => some (c :: cs)
    | _, _ => none
noncomputable def CR.wanted (c : CR) (tm : TM) : Bool := match c.guard with
  | none => true
  | some (p, want) => match tm.val p with
    | .bool b => b == want
    | _ => false
noncomputable def putK {β : Type} (tm : TM) (dst : Option Path) (v : Value) (k : TM → β) : β :=
  match dst with
  | some d => sV v fun v => Tr.setK (some v) d tm k
  | none => k tm
inductive R2 where
  | ok (tm : TM) (A : AW)
  | no
abbrev CallF := FuncId → List Value → AW → Option (Value × AW)
noncomputable def finish (dst : Option Path) (tm : TM) (next : TM → AW → R2) : Option (Value × AW) → R2
  | some (v, A) => putK tm dst v fun tm => next tm A
  | none => .no
noncomputable def sObj {β : Type} (o : AObj) (k : AObj → β) : β := match o with
  | .row c e => sL sV0 c fun c => k (.row c e)
  | .map es c => k (.map es c)
noncomputable def exec1 (call : CallF) (c : CI) (dst : Option Path) (tm : TM) (A : AW) (next : TM → AW → R2) : R2 :=
  match c with
  | .rd f => match f tm A with
    | some v => putK tm dst v fun tm => next tm A
    | none => .no
  | .mk f => match f tm with
    | some (o, g) => sObj o fun o => match A.new o with
      | some (b, A') => putK tm dst (g b) fun tm => next tm A'
      | none => .no
    | none => .no
  | .act f => match f tm A with
    | .val v A' => putK tm dst v fun tm => next tm A'
    | .ent g args A' => finish dst tm next (call g args A')
    | .no => .no
noncomputable def stepCR (call : CallF) (c : CR) (next : TM → AW → R2) (tm : TM) (A : AW) : R2 :=
  bif c.wanted tm then exec1 call c.ci c.dst tm A next else putK tm c.dst undef fun tm => next tm A
noncomputable def seqOps (call : CallF) (l : List CR) : TM → AW → R2 :=
  List.rec (motive := fun _ => TM → AW → R2) (fun tm A => .ok tm A) (fun c _ ih => stepCR call c ih) l

/- Regions that draw their order. -/
/-- Those that an operation stands behind, as bits. -/
noncomputable def maskOf (acc : List Nat) : List Edge → Nat → Nat
  | [], s => s
  | e :: l, s => maskOf acc l (bif Region.binds .any e then s ||| 2 ^ e.on ||| acc.getD e.on 0 else s)
noncomputable def masks : List Oper → List Nat → List Nat
  | [], acc => acc
  | o :: rest, acc => masks rest (acc ++ [maskOf acc o.after.toList 0])
noncomputable def behind (ms : List Nat) (i k : Nat) : Bool := (ms.getD i 0).testBit k
noncomputable def looks (ops : Array Oper) (o : Oper) : List Tmp := o.dst.toList ++ o.looksAt ops
noncomputable def pairOk (ms : List Nat) (l : List Tmp) (i : Nat) : List Oper → Nat → Bool
  | [], _ => true
  | p :: rest, k => (match p.dst with
      | some d => !(l.contains d) || (bif Nat.beq i k then true else bif Nat.blt i k then behind ms k i else behind ms i k)
      | none => true) && pairOk ms l i rest (k + 1)
noncomputable def orderFrom (ops : Array Oper) (ms : List Nat) : List Oper → Nat → Bool
  | [], _ => true
  | o :: rest, i => (o.after.toList.all fun e => !Region.binds .any e || Nat.blt e.on i) && (match o.op with | .select .. => false | _ => true) &&
    pairOk ms (looks ops o) i ops.toList 0 && orderFrom ops ms rest (i + 1)
noncomputable def orderOk (ops : Array Oper) (ms : List Nat) : Bool := orderFrom ops ms ops.toList 0
noncomputable def eqv0 : Value → Value → Bool
  | .bool a, .bool b => a == b
  | .int j a, .int k b => decide (j = k) && decide (a = b)
  | .string a, .string b => decide (a.data.toList = b.data.toList)
  | .pointer a, .pointer b => decide (a = b)
  | .slice a n c, .slice b m d => decide (a = b) && Nat.beq n m && Nat.beq c d
  | .map a, .map b => decide (a = b)
  | .nilFunc, .nilFunc => true
  | .nilIface, .nilIface => true
  | .iface t (.pointer a), .iface u (.pointer b) => Nat.beq t u && decide (a = b)
  | .func (.func f) a b, .func (.func g) c d => Nat.beq f g && a.isEmpty && b.isEmpty && c.isEmpty && d.isEmpty
  | _, _ => false
noncomputable def eqvL : List Value → List Value → Bool
  | [], [] => true
  | a :: l, b :: m => eqv0 a b && eqvL l m
  | _, _ => false
noncomputable def eqv1 : Value → Value → Bool
  | .agg a, .agg b => eqvL a.toList b.toList
  | a, b => eqv0 a b
noncomputable def eqvT : List Value → List Value → Bool
  | [], [] => true
  | a :: l, b :: m => eqv1 a b && eqvT l m
  | _, _ => false
noncomputable def eqv : Value → Value → Bool
  | .tuple a, .tuple b => eqvT a.toList b.toList
  | a, b => eqv1 a b
noncomputable def eqvO (v : Value) : Option Value → Bool
  | some u => eqv v u
  | none => false
/-- What was read: by which operation, in which place, on which slots, what it yielded. -/
structure Rec where
  i : Nat
  f : TM → AW → Option Value
  tm : TM
  v : Value
structure DS where
  tm : TM
  M : AW
  Ms : List (Nat × AW)          -- the acting operations so far, the last first, each with the memory ahead of it
  pend : List (Nat × AObj)      -- what was made and is not let in yet
  recs : List Rec
noncomputable def letIn (c : Nat) (keep : Nat → Bool) : List (Nat × AObj) → AW → AW
  | [], A => A
  | (i, o) :: l, A => letIn c keep l (bif keep i then A.upd (c + i) (some o) else A)
noncomputable def DS.put (s : DS) (dst : Option Path) (v : Value) : DS := putK s.tm dst v fun tm => ⟨tm, s.M, s.Ms, s.pend, s.recs⟩
noncomputable def noMem : AW := ⟨.nil, 281474976710654⟩
noncomputable def dRead (i : Nat) (f : TM → AW → Option Value) (dst : Option Path) (s : DS) : Option DS :=
  match f s.tm noMem with
  | some v => some (s.put dst v)
  | none => match f s.tm s.M with
    | some v => some { s.put dst v with recs := ⟨i, f, s.tm, v⟩ :: s.recs }
    | none => none
noncomputable def dMake (c i : Nat) (f : TM → Option (AObj × (Nat → Value))) (dst : Option Path) (s : DS) : Option DS :=
  match f s.tm with
  | some (o, g) => sObj o fun o => some { s.put dst (g (c + i)) with pend := (i, o) :: s.pend }
  | none => none
noncomputable def dDone (ms : List Nat) (i : Nat) (s : DS) : R2 → Option DS
  | .ok tm M => some { tm := tm, M := M, Ms := (i, s.M) :: s.Ms, pend := s.pend.filter (fun p => !behind ms i p.1), recs := s.recs }
  | .no => none
noncomputable def chained (ms : List Nat) (i : Nat) : List (Nat × AW) → Bool
  | [] => true
  | (k, _) :: _ => behind ms i k
noncomputable def dStep (call : CallF) (ms : List Nat) (c : Nat) (o : CR) (i : Nat) (s : DS) : Option DS :=
  bif o.wanted s.tm then
    match o.ci with
    | .rd f => dRead i f o.dst s
    | .mk f => dMake c i f o.dst s
    | .act f => bif chained ms i s.Ms then dDone ms i s (exec1 call (.act f) o.dst s.tm (letIn c (behind ms i) s.pend s.M) R2.ok) else none
  else some (s.put o.dst undef)
noncomputable def drawOps (call : CallF) (ms : List Nat) (c : Nat) : List CR → Nat → DS → Option DS
  | [], _, s => some s
  | o :: rest, i, s => match dStep call ms c o i s with
    | some s' => drawOps call ms c rest (i + 1) s'
    | none => none
/-- Does a read yield its value in each memory in which it may come? -/
noncomputable def readOk (ms : List Nat) (r : Rec) : List (Nat × AW) → Bool
  | [] => true
  | (e, M) :: l =>
    -- in the memory ahead of e: not, if the read stands behind e, or if an earlier one stands behind the read
    (bif behind ms r.i e then true else bif l.any (fun p => behind ms p.1 r.i) then true else eqvO r.v (r.f r.tm M)) && readOk ms r l
noncomputable def lastOk (ms : List Nat) (r : Rec) (Ms : List (Nat × AW)) (M : AW) : Bool :=
  bif Ms.any (fun p => behind ms p.1 r.i) then true else eqvO r.v (r.f r.tm M)
noncomputable def allOk (ms : List Nat) (s : DS) : Bool := s.recs.all fun r => readOk ms r s.Ms && lastOk ms r s.Ms s.M
structure CD where
  l : List CR
  ms : List Nat
  n : Nat
noncomputable def cd (ops : Array Oper) (ms : List Nat) : Option CD := bif orderOk ops ms then match crs P ns ops.toList ops.toList with
    | some l => some ⟨l, ms, ops.size⟩
    | none => none
  else none
noncomputable def drawEnd (d : CD) (c : Nat) : Option DS → R2
  | some s => bif allOk d.ms s then sA (letIn c (fun _ => true) s.pend s.M) fun A => .ok s.tm A else .no
  | none => .no
noncomputable def drawn (call : CallF) (d : CD) (tm : TM) (A : AW) : R2 :=
  bif Nat.ble (A.next + d.n + 2) most then
    drawEnd d A.next (drawOps call d.ms A.next d.l 0 { tm := tm, M := ⟨A.t, A.next + d.n⟩, Ms := [], pend := [], recs := [] })
  else .no

/- The code. -/
inductive R where
  | norm (tm : TM) (A : AW)
  | exit (id : Nat) (tm : TM) (A : AW)
  | goto (l : Nat) (tm : TM) (A : AW)
  | ret (tm : TM) (A : AW)
  | no
inductive Job where
  | c (c : Code)
  | s (whole rest : Code)
abbrev Rec1 := Job → TM → AW → R
noncomputable def doSeq (rec : Rec1) (a b : Code) (tm : TM) (A : AW) : R := match rec (.c a) tm A with
  | .norm tm' A' => rec (.c b) tm' A'
  | .exit i tm' A' => .exit i tm' A'
  | .goto l tm' A' => .goto l tm' A'
  | .ret tm' A' => .ret tm' A'
  | .no => .no
noncomputable def doCond (rec : Rec1) (x : Value) (a b : Code) (tm : TM) (A : AW) : R := match x with
  | .bool true => rec (.c a) tm A
  | .bool false => rec (.c b) tm A
  | _ => .no
noncomputable def doBlock (rec : Rec1) (i : Nat) (b : Code) (tm : TM) (A : AW) : R := match rec (.c b) tm A with
  | .norm tm' A' => .norm tm' A'
  | .exit j tm' A' => bif Nat.beq j i then .norm tm' A' else .exit j tm' A'
  | .goto l tm' A' => .goto l tm' A'
  | .ret tm' A' => .ret tm' A'
  | .no => .no
noncomputable def doScope (rec : Rec1) (whole b : Code) (tm : TM) (A : AW) : R := match rec (.c b) tm A with
  | .norm tm' A' => .norm tm' A'
  | .exit j tm' A' => .exit j tm' A'
  | .goto l tm' A' => match findLabel whole l with
    | some rest => rec (.s whole rest) tm' A'
    | none => .goto l tm' A'
  | .ret tm' A' => .ret tm' A'
  | .no => .no
noncomputable def normal : R2 → R
  | .ok tm A => .norm tm A
  | .no => .no
noncomputable def doRegion (call : CallF) (tm : TM) (A : AW) : Option (List CR) → R
  | some l => normal (seqOps call l tm A)
  | none => .no
noncomputable def doDrawn (call : CallF) (tm : TM) (A : AW) : Option CD → R
  | some d => normal (drawn call d tm A)
  | none => .no
noncomputable def jobStep (call : CallF) (rec : Rec1) (j : Job) (tm : TM) (A : AW) : R :=
  match j with
  | .s whole b => doScope rec whole b tm A
  | .c c => match c with
    | .skip => .norm tm A
    | .label _ => .norm tm A
    | .ret => .ret tm A
    | .exit i => .exit i tm A
    | .goto l => .goto l tm A
    | .seq a b => doSeq rec a b tm A
    | .cond x a b => bif okO x then doCond rec ((co ns x).ev tm) a b tm A else .no
    | .block i b => doBlock rec i b tm A
    | .loop b => doSeq rec b (.loop b) tm A
    | .scope b => doScope rec b b tm A
    | .region _ ops false => doRegion call tm A (crs P ns ops.toList ops.toList)
    | .region _ ops true => doDrawn call tm A (cd P ns ops (masks ops.toList []))
    | _ => .no
noncomputable def run (call : CallF) (n : Nat) : Job → TM → AW → R :=
  Nat.rec (motive := fun _ => Job → TM → AW → R) (fun _ _ _ => .no) (fun _ ih => jobStep P ns call ih) n
noncomputable def resL : List ResultVar → TM → AW → Option (List Value)
  | [], _, _ => some []
  | .tmp t :: l, tm, A => match resL l tm A with
    | some vs => some (((co ns (.tmp t)).ev tm) :: vs)
    | none => none
  | .cell a t :: l, tm, A => match isAggT P t, sizeT P t with
    | some true, some n => (match rdLoadN n (co ns (.tmp a)) tm A, resL l tm A with
      | some v, some vs => some (v :: vs)
      | _, _ => none)
    | some false, _ => (match rdLoad (co ns (.tmp a)) tm A, resL l tm A with
      | some v, some vs => some (v :: vs)
      | _, _ => none)
    | _, _ => none
noncomputable def tupled : List Value → Value
  | [v] => v
  | vs => .tuple ⟨vs⟩
noncomputable def done (fn : Func) (tm : TM) (A : AW) : Option (Value × AW) := match resL P fn.ntmps fn.results.toList tm A with
  | some vs => some (tupled vs, A)
  | none => none
noncomputable def ends (fn : Func) : R → Option (Value × AW)
  | .norm tm A => done P fn tm A
  | .ret tm A => done P fn tm A
  | _ => none
noncomputable def enterTM {β : Type} (k : TM → β) : List Value → Nat → TM → β
  | [], _, tm => k tm
  | v :: l, i, tm => sV v fun v => Tr.setK (some v) (path i) tm (enterTM k l (i + 1))
abbrev Orc := FuncId → Option CallF
noncomputable def enterF (call : CallF) (args : List Value) (A : AW) : Option Func → Option (Value × AW)
  | some fn => match fn.body with
    | some b => bif Nat.ble fn.ntmps 281474976710600 && Nat.ble args.length fn.ntmps then enterTM (fun tm => ends P fn (run P fn.ntmps call 1000000 (.c b) tm A)) args 0 .nil else none
    | none => none
  | none => none
noncomputable def callN (orc : Orc) : Nat → CallF
  | 0, _, _, _ => none
  | d + 1, f, args, A =>
    match orc f with
    | some g => g f args A
    | none => enterF P (callN orc d) args A P.funcs[f]?
end
end Ev
end Go.Proofs.YtiglblfjmmdeeaaGreat

/- The evaluator: its words: tries, what is worked out first, values that stand for one another. -/
namespace Go.Proofs.YtiglblfjmmdeeaaGreat
namespace Ev

/- Tries. -/
section
variable {α β : Type}
theorem setK_any (v : Option α) (p : Path) : ∀ (β : Type) (t : Tr α) (k : Tr α → β), Tr.setK v p t k = k (Tr.setK v p t id) := by
  induction p with
  | nil => intro β t k; cases t <;> rfl
  | cons b p ih =>
    intro β t k
    cases t with
    | nil =>
      cases b
      · show Tr.setK v p .nil (fun r => k (.node .nil none r)) = k (Tr.setK v p .nil (fun r => Tr.node .nil none r))
        rw [ih, ih _ .nil (fun r => Tr.node .nil none r)]
      · show Tr.setK v p .nil (fun r => k (.node r none .nil)) = k (Tr.setK v p .nil (fun r => Tr.node r none .nil))
        rw [ih, ih _ .nil (fun r => Tr.node r none .nil)]
    | node l x r =>
      cases b
      · show Tr.setK v p r (fun r' => k (.node l x r')) = k (Tr.setK v p r (fun r' => Tr.node l x r'))
        rw [ih, ih _ r (fun r' => Tr.node l x r')]
      · show Tr.setK v p l (fun r' => k (.node r' x r)) = k (Tr.setK v p l (fun r' => Tr.node r' x r))
        rw [ih, ih _ l (fun r' => Tr.node r' x r)]
theorem setK_eq (v : Option α) (p : Path) (t : Tr α) (k : Tr α → β) : Tr.setK v p t k = k (Tr.setK v p t id) := setK_any v p β t k
theorem get_nil (p : Path) : Tr.get (.nil : Tr α) p = none := rfl
theorem get_set (v : Option α) (p : Path) : ∀ (t : Tr α) (q : Path), Tr.get (Tr.setK v p t id) q = if q = p then v else Tr.get t q := by
  induction p with
  | nil => intro t q; cases t <;> cases q <;> simp [Tr.setK, Tr.get] <;> (rename_i b q; cases b <;> rfl)
  | cons b p ih =>
    intro t q
    cases t with
    | nil =>
      cases b
      · show Tr.get (Tr.setK v p .nil (fun r => .node .nil none r)) q = _
        rw [setK_eq]
        cases q with
        | nil => simp [Tr.get]
        | cons c q =>
          cases c
          · show Tr.get (Tr.setK v p .nil id) q = _
            rw [ih]; simp [get_nil]
          · show Tr.get (.nil : Tr α) q = _
            simp [get_nil]
      · show Tr.get (Tr.setK v p .nil (fun r => .node r none .nil)) q = _
        rw [setK_eq]
        cases q with
        | nil => simp [Tr.get]
        | cons c q =>
          cases c
          · show Tr.get (.nil : Tr α) q = _
            simp [get_nil]
          · show Tr.get (Tr.setK v p .nil id) q = _
            rw [ih]; simp [get_nil]
    | node l x r =>
      cases b
      · show Tr.get (Tr.setK v p r (fun r' => .node l x r')) q = _
        rw [setK_eq]
        cases q with
        | nil => simp [Tr.get]
        | cons c q =>
          cases c
          · show Tr.get (Tr.setK v p r id) q = if false :: q = false :: p then v else Tr.get r q
            rw [ih]; simp
          · show Tr.get l q = if true :: q = false :: p then v else Tr.get l q
            simp
      · show Tr.get (Tr.setK v p l (fun r' => .node r' x r)) q = _
        rw [setK_eq]
        cases q with
        | nil => simp [Tr.get]
        | cons c q =>
          cases c
          · show Tr.get r q = if false :: q = true :: p then v else Tr.get r q
            simp
          · show Tr.get (Tr.setK v p l id) q = if true :: q = true :: p then v else Tr.get l q
            rw [ih]; simp
end
theorem pathF_inj : ∀ (f n m : Nat), n + 1 < 2 ^ f → m + 1 < 2 ^ f → pathF f n = pathF f m → n = m := by
  intro f
  induction f with
  | zero => intro n m hn; simp at hn
  | succ f ih =>
    intro n m hn hm h
    have hp : 2 ^ (f + 1) = 2 * 2 ^ f := by rw [Nat.pow_succ]; omega
    rw [hp] at hn hm
    cases n with
    | zero => cases m with
      | zero => rfl
      | succ m => simp [pathF] at h
    | succ n => cases m with
      | zero => simp [pathF] at h
      | succ m =>
        simp only [pathF, List.cons.injEq] at h
        obtain ⟨h1, h2⟩ := h
        have h3 := ih (n / 2) (m / 2) (by omega) (by omega) h2
        have h4 : (n % 2 = 0) ↔ (m % 2 = 0) := by
          have e : ∀ x : Nat, (x % 2 = 0) ↔ Nat.beq (x % 2) 0 = true := fun x => by simp
          rw [e, e, h1]
        omega
theorem path_inj {n m : Nat} (hn : n < most) (hm : m < most) (h : path n = path m) : n = m := by
  unfold most at hn hm
  exact pathF_inj 48 n m (by omega) (by omega) h

/- What is worked out first is the same. -/
section
variable {β : Type}
theorem sNat_eq {β : Sort _} (n : Nat) (k : Nat → β) : sNat n k = k n := by cases n <;> rfl
theorem sInt_eq (n : Int) (k : Int → β) : sInt n k = k n := by cases n <;> simp only [sInt, sNat_eq]
theorem sBytes_eq (l : List UInt8) : ∀ (k : List UInt8 → β), sBytes l k = k l := by
  induction l with
  | nil => intro k; rfl
  | cons b l ih =>
    intro k
    show sNat b.toNat (fun n => sBytes l fun l => k (UInt8.ofNat n :: l)) = _
    rw [sNat_eq, ih]
    simp
theorem sAddr_eq (a : Addr) (k : Addr → β) : sAddr a k = k a := by cases a; simp only [sAddr, sNat_eq]
theorem sPtr_eq (a : Option Addr) (k : Option Addr → β) : sPtr a k = k a := by cases a <;> simp only [sPtr, sAddr_eq]
theorem sMap_eq (a : Option Nat) (k : Option Nat → β) : sMap a k = k a := by cases a <;> simp only [sMap, sNat_eq]
theorem sL_eq {f : Value → (Value → β) → β} (hf : ∀ v k, f v k = k v) (l : List Value) : ∀ (k : List Value → β), sL f l k = k l := by
  induction l with
  | nil => intro k; rfl
  | cons v l ih =>
    intro k
    show f v (fun v => sL f l fun l => k (v :: l)) = _
    rw [hf, ih]
theorem sWith_eq {f : Value → (Value → β) → β} (hf : ∀ v k, f v k = k v) (v : Value) (k : Value → β) : sWith f v k = k v := by
  cases v <;> simp only [sWith, sInt_eq, sBytes_eq, sPtr_eq, sMap_eq, sNat_eq, sL_eq hf, hf]
  case bool b => cases b <;> rfl
theorem sV0_eq (v : Value) (k : Value → β) : sV0 v k = k v := sWith_eq (fun _ _ => rfl) v k
theorem sV1_eq (v : Value) (k : Value → β) : sV1 v k = k v := sWith_eq sV0_eq v k
theorem sV_eq (v : Value) (k : Value → β) : sV v k = k v := sWith_eq sV1_eq v k
theorem sA_eq (A : AW) (k : AW → β) : sA A k = k A := by cases A; simp only [sA, sNat_eq]
theorem sEs_eq (l : List MapEntry) : ∀ (k : List MapEntry → β), sEs l k = k l := by
  induction l with
  | nil => intro k; rfl
  | cons e l ih =>
    intro k
    cases e
    show sV1 _ (fun a => sV1 _ fun b => sNat _ fun n => sEs l fun l => k (⟨a, b, n⟩ :: l)) = _
    simp only [sV1_eq, sNat_eq, ih]
theorem sObj_eq (o : AObj) (k : AObj → β) : sObj o k = k o := by cases o <;> simp only [sObj, sL_eq sV0_eq]
noncomputable def put (tm : TM) (dst : Option Path) (v : Value) : TM := match dst with
  | some d => Tr.setK (some v) d tm id
  | none => tm
theorem putK_eq (tm : TM) (dst : Option Path) (v : Value) (k : TM → β) : putK tm dst v k = k (put tm dst v) := by
  cases dst with
  | none => rfl
  | some d => simp only [putK, put, sV_eq]; exact setK_eq _ _ _ _
end

/- The heap that is meant. -/
noncomputable def AW.den (A : AW) (b : Nat) : Option AObj := if b < most then A.get b else none
theorem den_get {A : AW} {b : Nat} (h : b < most) : A.get b = A.den b := by simp [AW.den, h]
theorem upd_get (A : AW) (b c : Nat) (o : Option AObj) (hb : b < most) (hc : c < most) : (A.upd b o).get c = if c = b then o else A.get c := by
  unfold AW.upd
  rw [setK_eq]
  unfold AW.get
  rw [get_set]
  by_cases h : c = b
  · simp [h]
  · rw [if_neg h, if_neg (fun e => h (path_inj hc hb e))]
theorem upd_den (A : AW) {b : Nat} (o : Option AObj) (hb : b < most) (c : Nat) : (A.upd b o).den c = if c = b then o else A.den c := by
  unfold AW.den
  by_cases hc : c < most
  · simp only [hc, if_true]; exact upd_get A b c o hb hc
  · have : c ≠ b := by omega
    simp [hc, this]
theorem upd_next (A : AW) (b : Nat) (o : Option AObj) : (A.upd b o).next = A.next := by
  unfold AW.upd
  rw [setK_eq]
theorem new_spec {A A' : AW} {o : AObj} {b : Nat} (h : A.new o = some (b, A')) : b = A.next ∧ A.next + 2 ≤ most ∧ A'.next = A.next + 1 ∧ ∀ c, A'.den c = if c = b then some o else A.den c := by
  unfold AW.new at h
  by_cases hn : A.next + 2 ≤ most
  · have h2 : Nat.ble (A.next + 2) most = true := Nat.ble_eq_true_of_le hn
    rw [h2] at h
    simp only [cond_true] at h
    rw [setK_eq] at h
    simp only [sNat_eq, Option.some.injEq, Prod.mk.injEq] at h
    obtain ⟨rfl, rfl⟩ := h
    refine ⟨rfl, hn, rfl, fun c => ?_⟩
    have := upd_den A (b := A.next) (some o) (by omega) c
    unfold AW.upd at this
    rw [setK_eq] at this
    exact this
  · have h2 : Nat.ble (A.next + 2) most = false := by
      cases hx : Nat.ble (A.next + 2) most
      · rfl
      · exact absurd (Nat.le_of_ble_eq_true hx) hn
    rw [h2] at h
    simp at h

/- Slots. -/
theorem val_put (tm : TM) (p q : Path) (v : Value) : (put tm (some p) v).val q = if q = p then v else tm.val q := by
  unfold put TM.val
  simp only
  rw [get_set]
  by_cases h : q = p <;> simp [h]
theorem val_put_none (tm : TM) (v : Value) : put tm none v = tm := rfl

/- Values that stand for one another: σ tells where a name's block lies, and from which cell on. -/
/-- Where a name's row lies: the block, its first cell, how many cells the block has, how many an element has. -/
structure Loc where
  r : Nat
  s : Nat
  n : Nat
  z : Nat
abbrev Sig := Nat → Option Loc
mutual
inductive VR (σ : Sig) : Value → Value → Prop
  | clo {v : Value} (h : clo0 v = true) : VR σ v v
  | glob (g : Nat) : VR σ (.chan (some g)) (.pointer (some ⟨g, 0, none⟩))
  | ptr {b r s nn zz : Nat} (o : Nat) (h : σ b = some ⟨r, s, nn, zz⟩) : VR σ (.pointer (some ⟨b, o, none⟩)) (.pointer (some ⟨r, s + o, none⟩))
  | slc {b r s nn zz : Nat} (o n k c : Nat) (h : σ b = some ⟨r, s, nn, zz⟩) (h1 : k % 2 = 1 → c = k / 2) (h2 : k / 2 ≤ c) (h3 : k % 2 = 0 → s + o + c * zz ≤ nn) : VR σ (.slice (some ⟨b, o, none⟩) n k) (.slice (some ⟨r, s + o, none⟩) n c)
  | slc0 {b r s nn zz : Nat} (o o' k c : Nat) (h : σ b = some ⟨r, s, nn, zz⟩) (h1 : k ≤ 1) (h2 : k = 1 → c = 0) (h3 : k = 0 → o' + c * zz ≤ nn) : VR σ (.slice (some ⟨b, o, none⟩) 0 k) (.slice (some ⟨r, o', none⟩) 0 c)
  | map {b r nn zz : Nat} (h : σ b = some ⟨r, 0, nn, zz⟩) : VR σ (.map (some b)) (.map (some r))
  | func {fn : Fn} {a a' c c' : Array Value} (h1 : VRs σ a.toList a'.toList) (h2 : VRs σ c.toList c'.toList) : VR σ (.func fn a c) (.func fn a' c')
  | iface {t : TypeId} {v v' : Value} (h : VR σ v v') : VR σ (.iface t v) (.iface t v')
  | agg {a a' : Array Value} (h : VRs σ a.toList a'.toList) : VR σ (.agg a) (.agg a')
  | tuple {a a' : Array Value} (h : VRs σ a.toList a'.toList) : VR σ (.tuple a) (.tuple a')
inductive VRs (σ : Sig) : List Value → List Value → Prop
  | nil : VRs σ [] []
  | cons {v v' : Value} {l l' : List Value} (h : VR σ v v') (t : VRs σ l l') : VRs σ (v :: l) (v' :: l')
end
def Sig.le (σ σ' : Sig) : Prop := ∀ b x, σ b = some x → σ' b = some x
theorem Sig.le_refl (σ : Sig) : σ.le σ := fun _ _ h => h
theorem Sig.le_trans {a b c : Sig} (h : a.le b) (k : b.le c) : a.le c := fun _ _ hx => k _ _ (h _ _ hx)
mutual
theorem VR.mono {σ σ' : Sig} (hs : σ.le σ') : ∀ {v v' : Value}, VR σ v v' → VR σ' v v'
  | _, _, .clo h => .clo h
  | _, _, .glob g => .glob g
  | _, _, .ptr o h => .ptr o (hs _ _ h)
  | _, _, .slc o n k c h h1 h2 h3 => .slc o n k c (hs _ _ h) h1 h2 h3
  | _, _, .slc0 o o' k c h h1 h2 h3 => .slc0 o o' k c (hs _ _ h) h1 h2 h3
  | _, _, .map h => .map (hs _ _ h)
  | _, _, .func h1 h2 => .func (VRs.mono hs h1) (VRs.mono hs h2)
  | _, _, .iface h => .iface (VR.mono hs h)
  | _, _, .agg h => .agg (VRs.mono hs h)
  | _, _, .tuple h => .tuple (VRs.mono hs h)
theorem VRs.mono {σ σ' : Sig} (hs : σ.le σ') : ∀ {l l' : List Value}, VRs σ l l' → VRs σ' l l'
  | _, _, .nil => .nil
  | _, _, .cons h t => .cons (VR.mono hs h) (VRs.mono hs t)
end
section
variable {σ : Sig} {l l' m m' : List Value} {v v' : Value}
theorem VRs.len (h : VRs σ l l') : l.length = l'.length := by
  induction l generalizing l' with
  | nil => cases h; rfl
  | cons v l ih => cases h with | cons h t => simp [ih t]
theorem VRs.append (h : VRs σ l l') (k : VRs σ m m') : VRs σ (l ++ m) (l' ++ m') := by
  induction l generalizing l' with
  | nil => cases h; exact k
  | cons v l ih => cases h with | cons h t => exact .cons h (ih t)
theorem VRs.drop (h : VRs σ l l') (n : Nat) : VRs σ (l.drop n) (l'.drop n) := by
  induction n generalizing l l' with
  | zero => exact h
  | succ n ih => cases h with
    | nil => exact .nil
    | cons h t => exact ih t
theorem VRs.take (h : VRs σ l l') (n : Nat) : VRs σ (l.take n) (l'.take n) := by
  induction n generalizing l l' with
  | zero => exact .nil
  | succ n ih => cases h with
    | nil => exact .nil
    | cons h t => exact .cons h (ih t)
theorem VRs.get (h : VRs σ l l') {n : Nat} (hv : l[n]? = some v) : ∃ v', l'[n]? = some v' ∧ VR σ v v' := by
  induction n generalizing l l' with
  | zero => cases h with
    | nil => simp at hv
    | cons h t => simp at hv; subst hv; exact ⟨_, rfl, h⟩
  | succ n ih => cases h with
    | nil => simp at hv
    | cons h t => simpa using ih t (by simpa using hv)
theorem VRs.all {P : Value → Bool} (hP : ∀ v v', VR σ v v' → P v = P v') (h : VRs σ l l') : l.all P = l'.all P := by
  induction l generalizing l' with
  | nil => cases h; rfl
  | cons v l ih => cases h with | cons h t => simp [hP _ _ h, ih t]
theorem VRs.map {f g : CO → Value} {xs : List CO} (h : ∀ x ∈ xs, VR σ (f x) (g x)) : VRs σ (xs.map f) (xs.map g) := by
  induction xs with
  | nil => exact .nil
  | cons x xs ih => exact .cons (h x (by simp)) (ih fun y hy => h y (by simp [hy]))
theorem VRs.flatten {n : Nat} (h : VRs σ l l') : VRs σ (List.replicate n l).flatten (List.replicate n l').flatten := by
  induction n with
  | zero => exact .nil
  | succ n ih => simpa [List.replicate_succ] using h.append ih
theorem VRs.set (h : VRs σ l l') (n : Nat) (hv : VR σ v v') : VRs σ (l.set n v) (l'.set n v') := by
  induction n generalizing l l' with
  | zero => cases h with
    | nil => exact .nil
    | cons h t => exact .cons hv t
  | succ n ih => cases h with
    | nil => exact .nil
    | cons h t => exact .cons h (ih t)
end
/-- A closed value stands for itself, and for nothing else. -/
theorem clo0_eq {σ : Sig} {v v' : Value} (hc : clo0 v = true) (h : VR σ v v') : v' = v := by
  cases h <;> first | rfl | simp [clo0] at hc
theorem clo0_all {σ : Sig} : ∀ {l l' : List Value}, l.all clo0 = true → VRs σ l l' → l' = l
  | [], _, _, h => by cases h; rfl
  | v :: l, _, hc, h => by
    cases h with
    | cons h t =>
      simp only [List.all_cons, Bool.and_eq_true] at hc
      rw [clo0_eq hc.1 h, clo0_all hc.2 t]
theorem clo1_eq {σ : Sig} {v v' : Value} (hc : clo1 v = true) (h : VR σ v v') : v' = v := by
  cases h with
  | clo h => rfl
  | glob g => simp [clo1, clo0] at hc
  | ptr o h => simp [clo1, clo0] at hc
  | slc o n k c h => simp [clo1, clo0] at hc
  | slc0 o o' k c h => simp [clo1, clo0] at hc
  | map h => simp [clo1, clo0] at hc
  | func h1 h2 => simp [clo1, clo0] at hc
  | iface h =>
    rename_i t u u'
    cases u with
    | agg cs =>
      simp only [clo1] at hc
      cases h with
      | clo h => rfl
      | agg h => rw [Value.iface.injEq]; refine ⟨rfl, ?_⟩; rw [Value.agg.injEq]; exact Array.ext' (clo0_all hc h)
    | _ => simp only [clo1] at hc; rw [clo0_eq hc h]
  | agg h => simp only [clo1] at hc; rw [Value.agg.injEq]; exact Array.ext' (clo0_all hc h)
  | tuple h => simp [clo1, clo0] at hc
theorem clo1_all {σ : Sig} : ∀ {l l' : List Value}, l.all clo1 = true → VRs σ l l' → l' = l
  | [], _, _, h => by cases h; rfl
  | v :: l, _, hc, h => by
    cases h with
    | cons h t =>
      simp only [List.all_cons, Bool.and_eq_true] at hc
      rw [clo1_eq hc.1 h, clo1_all hc.2 t]
theorem clo_eq {σ : Sig} {v v' : Value} (hc : clo v = true) (h : VR σ v v') : v' = v := by
  cases v with
  | tuple vs =>
    simp only [clo] at hc
    cases h with
    | clo h => rfl
    | tuple h => rw [Value.tuple.injEq]; exact Array.ext' (clo1_all hc h)
  | _ => exact clo1_eq hc h
theorem clo0_rs (σ : Sig) : ∀ {l : List Value}, l.all clo0 = true → VRs σ l l
  | [], _ => .nil
  | v :: l, hc => by
    simp only [List.all_cons, Bool.and_eq_true] at hc
    exact .cons (.clo hc.1) (clo0_rs σ hc.2)
theorem clo1_r (σ : Sig) {v : Value} (hc : clo1 v = true) : VR σ v v := by
  cases v with
  | agg cs => exact .agg (clo0_rs σ hc)
  | iface t v =>
    cases v with
    | agg cs => exact .iface (.agg (clo0_rs σ hc))
    | _ => exact .iface (.clo hc)
  | _ => exact .clo hc
theorem clo1_rs (σ : Sig) : ∀ {l : List Value}, l.all clo1 = true → VRs σ l l
  | [], _ => .nil
  | v :: l, hc => by
    simp only [List.all_cons, Bool.and_eq_true] at hc
    exact .cons (clo1_r σ hc.1) (clo1_rs σ hc.2)
theorem clo_r (σ : Sig) {v : Value} (hc : clo v = true) : VR σ v v := by
  cases v with
  | tuple vs => exact .tuple (clo1_rs σ hc)
  | _ => exact clo1_r σ hc
theorem VR.cells {σ : Sig} {v v' : Value} (h : VR σ v v') : VRs σ (cellsL v) (v'.cells.toList) := by
  cases h with
  | clo h => cases v <;> first | exact .cons (.clo h) .nil | simp [clo0] at h
  | agg h => exact h
  | glob g => exact .cons (.glob g) .nil
  | ptr o h => exact .cons (.ptr o h) .nil
  | slc o n k c h h1 h2 h3 => exact .cons (.slc o n k c h h1 h2 h3) .nil
  | slc0 o o' k c h h1 h2 h3 => exact .cons (.slc0 o o' k c h h1 h2 h3) .nil
  | map h => exact .cons (.map h) .nil
  | func h1 h2 => exact .cons (.func h1 h2) .nil
  | iface h => exact .cons (.iface h) .nil
  | tuple h => exact .cons (.tuple h) .nil
theorem cellsL_eq (v : Value) : cellsL v = v.cells.toList := by cases v <;> rfl
theorem VR.atom {σ : Sig} {v v' : Value} (h : VR σ v v') : atomB v = atomB v' := by cases h <;> rfl
theorem undef_r (σ : Sig) : VR σ undef undef := .tuple .nil
end Ev
end Go.Proofs.YtiglblfjmmdeeaaGreat

/- The evaluator: what stands behind its heap; what it reads is there. -/
namespace Go.Proofs.YtiglblfjmmdeeaaGreat
open Go.RowKit
namespace Ev

inductive ERs (σ : Sig) : List MapEntry → List MapEntry → Prop
  | nil : ERs σ [] []
  | cons {e e' : MapEntry} {l l' : List MapEntry} (hk : e'.key = e.key) (hc : clo e.key = true) (hb : e'.born = e.born) (hv : VR σ e.val e'.val) (t : ERs σ l l') : ERs σ (e :: l) (e' :: l')
theorem ERs.mono {σ σ' : Sig} (hs : σ.le σ') : ∀ {l l' : List MapEntry}, ERs σ l l' → ERs σ' l l'
  | _, _, .nil => .nil
  | _, _, .cons hk hc hb hv t => .cons hk hc hb (hv.mono hs) (ERs.mono hs t)
/-- A row's cells as they are in the world. -/
structure RowR (P : Program) (σ : Sig) (c : List Value) (e : TypeId) (L : Loc) (w : World) (c' : Array Value) (e' : TypeId) (fr : Nat × Nat) : Prop where
  heap : w.heap[L.r]? = some (.cells c' e' fr)
  size : c'.size = L.n
  fit : L.s + c.length ≤ L.n
  elem : ∀ z, sizeT P e = some z → L.z = z
  free : ∀ j, j < L.n → ¬(fr.1 ≤ j ∧ j < fr.2)
  val : ∀ (i : Nat) (v : Value), c[i]? = some v → ∃ v', c'[L.s + i]? = some v' ∧ VR σ v v'
def ObjR (P : Program) (σ : Sig) (o : AObj) (L : Loc) (w : World) : Prop :=
  match o with
  | .row c e => ∃ c' e' fr, RowR P σ c e L w c' e' fr
  | .map es clock => L.s = 0 ∧ ∃ es', w.heap[L.r]? = some (.map es' clock) ∧ ERs σ es es'.toList
theorem ObjR.mono {P : Program} {σ σ' : Sig} (hs : σ.le σ') {o : AObj} {L : Loc} {w : World} (h : ObjR P σ o L w) : ObjR P σ' o L w := by
  cases o with
  | row c e =>
    obtain ⟨c', e', fr, h⟩ := h
    exact ⟨c', e', fr, h.heap, h.size, h.fit, h.elem, h.free, fun i v hv => let ⟨v', h3, h4⟩ := h.val i v hv; ⟨v', h3, h4.mono hs⟩⟩
  | map es clock =>
    obtain ⟨h0, es', h1, h2⟩ := h
    exact ⟨h0, es', h1, h2.mono hs⟩
theorem ObjR.keep {P : Program} {σ : Sig} {o : AObj} {L : Loc} {w w' : World} (h : ObjR P σ o L w) (hk : w'.heap[L.r]? = w.heap[L.r]?) : ObjR P σ o L w' := by
  cases o with
  | row c e => obtain ⟨c', e', fr, h⟩ := h; exact ⟨c', e', fr, hk.trans h.heap, h.size, h.fit, h.elem, h.free, h.val⟩
  | map es clock => obtain ⟨h0, es', h1, h2⟩ := h; exact ⟨h0, es', hk.trans h1, h2⟩
theorem ObjR.lt {P : Program} {σ : Sig} {o : AObj} {L : Loc} {w : World} (h : ObjR P σ o L w) : L.r < w.heap.size := by
  cases o with
  | row c e => obtain ⟨c', e', fr, h⟩ := h; exact (Array.getElem?_eq_some_iff.1 h.heap).1
  | map es clock => obtain ⟨h0, es', h1, h2⟩ := h; exact (Array.getElem?_eq_some_iff.1 h1).1

def Live (A : AW) (X : Nat → Option AObj) (b : Nat) : Prop := A.den b ≠ none ∨ X b ≠ none
/-- The world holds what the evaluator's heap says, and the rest X beside it; what was there at w0 is as it was. -/
structure St (P : Program) (w0 : World) (σ : Sig) (A : AW) (X : Nat → Option AObj) (w : World) : Prop where
  dom : ∀ b x, σ b = some x → b < A.next
  bound : A.next < most
  disj : ∀ b, X b ≠ none → A.den b = none
  objs : ∀ b o, (A.den b = some o ∨ X b = some o) → ∃ L, σ b = some L ∧ w0.heap.size ≤ L.r ∧ ObjR P σ o L w
  inj : ∀ b b' L L', Live A X b → Live A X b' → σ b = some L → σ b' = some L' → L.r = L'.r → b = b'
  below : Below w0.heap.size w0 w

section
variable {P : Program} {w0 w : World} {σ : Sig} {A : AW} {X : Nat → Option AObj}
theorem St.den (h : St P w0 σ A X w) {b : Nat} {L : Loc} (hb : σ b = some L) : A.get b = A.den b := den_get (Nat.lt_trans (h.dom _ _ hb) h.bound)
theorem St.row (h : St P w0 σ A X w) {b : Nat} {L : Loc} {c : List Value} {e : TypeId} (hb : σ b = some L) (hg : A.get b = some (.row c e)) : ∃ c' e' fr, RowR P σ c e L w c' e' fr := by
  rw [h.den hb] at hg
  obtain ⟨L', h1, _, h3⟩ := h.objs b _ (.inl hg)
  rw [hb] at h1
  cases h1
  exact h3
theorem St.entries (h : St P w0 σ A X w) {b : Nat} {L : Loc} {es : List MapEntry} {clock : Nat} (hb : σ b = some L) (hg : A.get b = some (.map es clock)) :
    ∃ es', w.heap[L.r]? = some (.map es' clock) ∧ ERs σ es es'.toList := by
  rw [h.den hb] at hg
  obtain ⟨L', h1, _, h3⟩ := h.objs b _ (.inl hg)
  rw [hb] at h1
  cases h1
  exact h3.2
theorem St.cell (h : St P w0 σ A X w) {b r s nn zz o : Nat} {v : Value} (hb : σ b = some ⟨r, s, nn, zz⟩) (hg : cellAt A b o = some v) : ∃ v', w.cell? ⟨r, s + o, none⟩ = some v' ∧ VR σ v v' := by
  unfold cellAt at hg
  cases hx : A.get b with
  | none => rw [hx] at hg; simp at hg
  | some x =>
    rw [hx] at hg
    cases x with
    | map es clock => simp at hg
    | row c e =>
      obtain ⟨c', e', fr, hr⟩ := h.row hb hx
      obtain ⟨v', h3, h4⟩ := hr.val o v hg
      have h1 := hr.heap
      simp only at h1 h3
      exact ⟨v', by simp [World.cell?, h1, h3], h4⟩
theorem VRs.of_get {σ : Sig} : ∀ {l l' : List Value}, l.length = l'.length → (∀ (i : Nat) (v : Value), l[i]? = some v → ∃ v', l'[i]? = some v' ∧ VR σ v v') → VRs σ l l'
  | [], [], _, _ => .nil
  | v :: l, v' :: l', hl, h => by
    obtain ⟨u, h1, h2⟩ := h 0 v rfl
    simp at h1
    subst h1
    exact .cons h2 (VRs.of_get (by simpa using hl) fun i v hv => by simpa using h (i + 1) v (by simpa using hv))
  | [], _ :: _, hl, _ => by simp at hl
  | _ :: _, [], hl, _ => by simp at hl
theorem St.cells (h : St P w0 σ A X w) {b r s nn zz o n : Nat} {cs : List Value} (hb : σ b = some ⟨r, s, nn, zz⟩) (hg : cellsAt A b o n = some cs) :
    ∃ cs', cs'.length = n ∧ VRs σ cs cs' ∧ ∀ j v, cs'[j]? = some v → w.cell? ⟨r, s + o + j, none⟩ = some v := by
  unfold cellsAt at hg
  cases hx : A.get b with
  | none => rw [hx] at hg; simp at hg
  | some x =>
    rw [hx] at hg
    cases x with
    | map es clock => simp at hg
    | row c e =>
      obtain ⟨c', e', fr, hr⟩ := h.row hb hx
      have h1 := hr.heap
      have h2 := hr.val
      simp only at hg h1 h2
      cases hle : Nat.ble (o + n) c.length
      · rw [hle] at hg; simp at hg
      · rw [hle] at hg
        simp only [cond_true, Option.some.injEq] at hg
        have hle' := Nat.le_of_ble_eq_true hle
        subst hg
        have hj : ∀ j, j < n → ∃ v v', c[o + j]? = some v ∧ c'[s + o + j]? = some v' ∧ VR σ v v' := fun j hj => by
          have h3 : c[o + j]? = some c[o + j] := List.getElem?_eq_getElem (by omega)
          obtain ⟨v', h4, h5⟩ := h2 (o + j) _ h3
          exact ⟨_, v', h3, by rw [Nat.add_assoc]; exact h4, h5⟩
        refine ⟨(List.range n).map fun j => (c'[s + o + j]?).getD undef, by simp, VRs.of_get (by simp; omega) fun i v hv => ?_, fun j v hv => ?_⟩
        · have hin : i < n := by
            have := (List.getElem?_eq_some_iff.1 hv).1
            simp at this
            omega
          obtain ⟨u, v', h3, h4, h5⟩ := hj i hin
          have : v = u := by
            rw [List.getElem?_take_of_lt hin, List.getElem?_drop, h3] at hv
            injection hv with hv
            exact hv.symm
          subst this
          exact ⟨v', by simp [hin, h4], h5⟩
        · have hin : j < n := by
            have := (List.getElem?_eq_some_iff.1 hv).1
            simpa using this
          obtain ⟨u, v', h3, h4, h5⟩ := hj j hin
          simp [hin, h4] at hv
          subst hv
          simp [World.cell?, h1, h4]

/- Slots. -/
structure TR (ns : Nat) (σ : Sig) (tm : TM) (tmps : Array Value) : Prop where
  size : tmps.size = ns
  lt : ns < most
  val : ∀ t, t < ns → VR σ (tm.val (path t)) (tmps.getD t undef)
theorem TR.mono {σ σ' : Sig} (hs : σ.le σ') {ns : Nat} {tm : TM} {tmps : Array Value} (h : TR ns σ tm tmps) : TR ns σ' tm tmps := ⟨h.size, h.lt, fun t ht => (h.val t ht).mono hs⟩
theorem TR.ev {ns : Nat} {tm : TM} {a : Act} (h : TR ns σ tm a.tmps) (x : Operand) (hx : okO x = true) : VR σ ((co ns x).ev tm) (a.eval x) := by
  cases x with
  | tmp t =>
    cases hb : Nat.blt t ns
    · have hge : ns ≤ t := by
        have : ¬ t < ns := fun hl => by rw [show Nat.blt t ns = true from Nat.ble_eq_true_of_le hl] at hb; cases hb
        exact Nat.le_of_not_lt this
      have : a.eval (.tmp t) = undef := by
        show a.tmps.getD t undef = undef
        rw [Array.getD_eq_getD_getElem?, Array.getElem?_eq_none (by rw [h.size]; exact hge)]
        rfl
      rw [this]
      simp only [co, hb, cond_false]
      exact undef_r σ
    · have hlt : t < ns := Nat.le_of_ble_eq_true hb
      simp only [co, hb, cond_true]
      exact h.val t hlt
  | const v => exact clo_r σ hx
  | global g => exact .glob g
  | func f => exact .func .nil .nil
theorem TR.put {ns : Nat} {tm : TM} {tmps : Array Value} (h : TR ns σ tm tmps) {d : Nat} (hd : d < ns) {v v' : Value} (hv : VR σ v v') : TR ns σ (put tm (some (path d)) v) (tmps.setIfInBounds d v') := by
  refine ⟨by rw [Array.size_setIfInBounds]; exact h.size, h.lt, fun t ht => ?_⟩
  rw [val_put]
  by_cases e : t = d
  · subst e
    rw [if_pos rfl, Array.getD_eq_getD_getElem?, Array.getElem?_setIfInBounds_self_of_lt (by rw [h.size]; exact hd)]
    exact hv
  · have hp : path t ≠ path d := fun hp => e (path_inj (Nat.lt_trans ht h.lt) (Nat.lt_trans hd h.lt) hp)
    rw [if_neg hp, Array.getD_eq_getD_getElem?, Array.getElem?_setIfInBounds_ne (fun hh => e hh.symm), ← Array.getD_eq_getD_getElem?]
    exact h.val t ht

/- What the program's text tells. -/
theorem run_pure_of {α : Type} {s : Sem α} {a : α} : runPure P s = some a → ∀ w, s.run P w = .ok a w := by
  intro h
  induction s with
  | pure b => simp only [runPure, Option.some.injEq] at h; subst h; intro w; rfl
  | program k ih => intro w; exact ih P h w
  | choose q k ih =>
    intro w
    simp only [runPure] at h
    cases hq : q.forced
    · rw [hq] at h; simp at h
    · rw [hq] at h
      simp only [cond_true] at h
      simp only [Sem.run, hq, if_true]
      exact ih 0 h w
  | mark m k ih => intro w; exact ih h w
  | _ => simp [runPure] at h
theorem isAgg_run {t : TypeId} {b : Bool} (h : isAggT P t = some b) (w : World) : (isAgg t).run P w = .ok b w := by
  unfold isAggT at h
  cases hu : P.underlying t with
  | none => rw [hu] at h; simp at h
  | some d =>
    rw [hu] at h
    unfold isAgg
    simp only [Sem.run_bind, run_underlying hu, Result.andThen_ok]
    cases d <;> simp at h <;> subst h <;> rfl
theorem sizeT_info {t : TypeId} {n : Nat} (h : sizeT P t = some n) : ∃ i, P.info? t = some i ∧ i.size = n := by
  unfold sizeT at h
  cases hi : P.info? t with
  | none => rw [hi] at h; simp at h
  | some i => rw [hi] at h; simp at h; exact ⟨i, rfl, h⟩
theorem sizeOf_run {t : TypeId} {n : Nat} (h : sizeT P t = some n) (w : World) : (sizeOf t).run P w = .ok n w := by
  obtain ⟨i, hi, rfl⟩ := sizeT_info h
  simp [sizeOf, typeInfo, hi]
theorem zeroT_info {t : TypeId} {z : Value} (h : zeroT P t = some z) : ∃ i, P.info? t = some i ∧ i.zero = some z ∧ clo1 z = true := by
  unfold zeroT at h
  cases hi : P.info? t with
  | none => rw [hi] at h; simp at h
  | some i =>
    rw [hi] at h
    simp only at h
    cases hz : i.zero with
    | none => rw [hz] at h; simp at h
    | some u =>
      rw [hz] at h
      simp only at h
      cases hc : clo1 u
      · rw [hc] at h; simp at h
      · rw [hc] at h; simp at h; subst h; exact ⟨i, rfl, hz, hc⟩
theorem zero_run {t : TypeId} {z : Value} (h : zeroT P t = some z) (w : World) : (zeroValue t).run P w = .ok z w := by
  obtain ⟨i, hi, hz, _⟩ := zeroT_info h
  simp [zeroValue, typeInfo, hi, hz]
end
end Ev
end Go.Proofs.YtiglblfjmmdeeaaGreat

/- The evaluator: the operations that read. -/
namespace Go.Proofs.YtiglblfjmmdeeaaGreat
open Go.RowKit
namespace Ev

section
variable {σ : Sig} {u : Value}
theorem VR.ptr_inv {b o : Nat} (h : VR σ (.pointer (some ⟨b, o, none⟩)) u) : ∃ r s nn zz, σ b = some ⟨r, s, nn, zz⟩ ∧ u = .pointer (some ⟨r, s + o, none⟩) := by
  cases h with
  | clo h => simp [clo0] at h
  | ptr o h => exact ⟨_, _, _, _, h, rfl⟩
theorem VR.slc_inv {b o n k : Nat} (h : VR σ (.slice (some ⟨b, o, none⟩) n k) u) : ∃ r s nn zz o' c, σ b = some ⟨r, s, nn, zz⟩ ∧ u = .slice (some ⟨r, o', none⟩) n c ∧ (k % 2 = 1 → c = k / 2) ∧ k / 2 ≤ c ∧ ((n = 0 ∧ k ≤ 1) ∨ o' = s + o) ∧ (k % 2 = 0 → o' + c * zz ≤ nn) := by
  cases h with
  | clo h => simp [clo0] at h
  | slc o n k c h h1 h2 h3 => exact ⟨_, _, _, _, _, _, h, rfl, h1, h2, .inr rfl, h3⟩
  | slc0 o o' k c h h1 h2 h3 => exact ⟨_, _, _, _, _, _, h, rfl, fun e => by rw [h2 (by omega)]; omega, by omega, .inl ⟨rfl, h1⟩, fun e => h3 (by omega)⟩
theorem VR.int_inv {k : IntKind} {n : Int} (h : VR σ (.int k n) u) : u = .int k n := clo0_eq rfl h
theorem VR.bool_inv {b : Bool} (h : VR σ (.bool b) u) : u = .bool b := clo0_eq rfl h
theorem VR.str_inv {s : ByteArray} (h : VR σ (.string s) u) : u = .string s := clo0_eq rfl h
theorem VR.agg_inv {cs : Array Value} (h : VR σ (.agg cs) u) : ∃ cs', u = .agg cs' ∧ VRs σ cs.toList cs'.toList := by
  cases h with
  | clo h => simp [clo0] at h
  | agg h => exact ⟨_, rfl, h⟩
theorem VR.tuple_inv {cs : Array Value} (h : VR σ (.tuple cs) u) : ∃ cs', u = .tuple cs' ∧ VRs σ cs.toList cs'.toList := by
  cases h with
  | clo h => simp [clo0] at h
  | tuple h => exact ⟨_, rfl, h⟩
theorem VR.map_inv {b : Nat} (h : VR σ (.map (some b)) u) : ∃ r nn zz, σ b = some ⟨r, 0, nn, zz⟩ ∧ u = .map (some r) := by
  cases h with
  | clo h => simp [clo0] at h
  | map h => exact ⟨_, _, _, h, rfl⟩
theorem VR.func_inv {fn : Fn} {a c : Array Value} (h : VR σ (.func fn a c) u) : ∃ a' c', u = .func fn a' c' ∧ VRs σ a.toList a'.toList ∧ VRs σ c.toList c'.toList := by
  cases h with
  | clo h => simp [clo0] at h
  | func h1 h2 => exact ⟨_, _, rfl, h1, h2⟩
theorem VR.iface_inv {t : TypeId} {v : Value} (h : VR σ (.iface t v) u) : ∃ v', u = .iface t v' ∧ VR σ v v' := by
  cases h with
  | clo h => simp [clo0] at h
  | iface h => exact ⟨_, rfl, h⟩
theorem addr_add (r o j : Nat) : (⟨r, o, none⟩ : Addr).add j = ⟨r, o + j, none⟩ := by unfold Addr.add; split <;> simp_all
end

section
variable {P : Program} {w0 w : World} {σ : Sig} {A : AW} {X : Nat → Option AObj} {tm : TM} {v u u2 : Value} {x y : CO} {t : TypeId}

theorem sim_load1 (h : St P w0 σ A X w) (ha : isAggT P t = some false) (hu : VR σ (x.ev tm) u) (hv : rdLoad x tm A = some v) : ∃ v', (Instr.loadAt t u).run P w = .ok v' w ∧ VR σ v v' := by
  unfold rdLoad at hv
  split at hv
  · rename_i b o he
    rw [he] at hu
    obtain ⟨r, s, nn, zz, hb, rfl⟩ := hu.ptr_inv
    obtain ⟨v', h1, h2⟩ := h.cell hb hv
    refine ⟨v', ?_, h2⟩
    simp only [Instr.loadAt, Instr.sureAddr, loadVar, Sem.run_bind, Sem.run_pure, Result.andThen_ok, isAgg_run ha, Bool.false_eq_true, if_false, run_load, h1]
  · simp at hv
theorem sim_loadN {n : Nat} (h : St P w0 σ A X w) (ha : isAggT P t = some true) (hs : sizeT P t = some n) (hu : VR σ (x.ev tm) u) (hv : rdLoadN n x tm A = some v) : ∃ v', (Instr.loadAt t u).run P w = .ok v' w ∧ VR σ v v' := by
  unfold rdLoadN at hv
  split at hv
  · rename_i b o he
    rw [he] at hu
    obtain ⟨r, s, nn, zz, hb, rfl⟩ := hu.ptr_inv
    unfold aggOf at hv
    split at hv
    · rename_i cs hcs
      injection hv with hv
      subst hv
      obtain ⟨cs', h1, h2, h3⟩ := h.cells hb hcs
      have h4 := run_loadCells_list (P := P) w ⟨r, s + o, none⟩ cs' (fun j v hj => by rw [addr_add]; exact h3 j v hj)
      rw [h1] at h4
      refine ⟨.agg ⟨cs'⟩, ?_, .agg h2⟩
      simp only [Instr.loadAt, Instr.sureAddr, loadVar, Sem.run_bind, Sem.run_pure, Result.andThen_ok, isAgg_run ha, if_true, sizeOf_run hs, h4]
    · simp at hv
  · simp at hv
theorem sim_field {fields : Array Field} {f n : Nat} {fd : Field} (hd : P.underlying t = some (.struct fields)) (hf : fields.toList[f]? = some fd) (hs : sizeT P fd.type = some (n + 1)) (hu : VR σ (x.ev tm) u) (hv : rdField fd.offset x tm A = some v) :
    ∃ v', (Instr.fieldAt t u f).run P w = .ok v' w ∧ VR σ v v' := by
  unfold rdField at hv
  split at hv
  · rename_i b o he
    rw [he] at hu
    obtain ⟨r, s, nn, zz, hb, rfl⟩ := hu.ptr_inv
    injection hv with hv
    subst hv
    refine ⟨.pointer (some ⟨r, s + (o + fd.offset), none⟩), ?_, .ptr _ hb⟩
    have hf' : fields[f]? = some fd := by simpa using hf
    simp only [Instr.fieldAt, Instr.sureAddr, fieldPlace, Sem.run_bind, Sem.run_pure, Result.andThen_ok, run_underlying hd, hf', sizeOf_run hs, Nat.add_eq_zero_iff, Nat.succ_ne_self, and_false, if_false, addr_add, Nat.add_assoc]
  · simp at hv
theorem sim_indexArr {len size : Nat} {elem : TypeId} (hd : P.underlying t = some (.array len elem)) (hs : sizeT P elem = some size) (hu : VR σ (x.ev tm) u) (hu2 : VR σ (y.ev tm) u2) (hv : rdIndexArr len size x y tm A = some v) :
    ∃ v', (Instr.indexAt t u u2).run P w = .ok v' w ∧ VR σ v v' := by
  unfold rdIndexArr at hv
  split at hv
  · rename_i k n b o he he2
    rw [he] at hu2
    rw [he2] at hu
    obtain ⟨r, s, nn, zz, hb, rfl⟩ := hu.ptr_inv
    obtain rfl := hu2.int_inv
    cases hlt : Nat.blt n len
    · rw [hlt] at hv; simp at hv
    · rw [hlt] at hv
      simp only [cond_true, Option.some.injEq] at hv
      subst hv
      have hn : n < len := Nat.le_of_ble_eq_true hlt
      refine ⟨.pointer (some ⟨r, s + (o + n * size), none⟩), ?_, .ptr _ hb⟩
      simp only [Instr.indexAt, asIntOf, Instr.sureAddr, Sem.run_bind, Sem.run_pure, Result.andThen_ok, run_underlying hd, addr_add, Nat.add_assoc]
      rw [if_pos (by simp; omega)]
      simp [sizeOf_run hs]
  · simp at hv
theorem sim_indexSlc {size : Nat} {elem : TypeId} (hd : P.underlying t = some (.slice elem)) (hs : sizeT P elem = some size) (hu : VR σ (x.ev tm) u) (hu2 : VR σ (y.ev tm) u2) (hv : rdIndexSlc size x y tm A = some v) :
    ∃ v', (Instr.indexAt t u u2).run P w = .ok v' w ∧ VR σ v v' := by
  unfold rdIndexSlc at hv
  split at hv
  · rename_i k n b o len c he he2
    rw [he] at hu2
    rw [he2] at hu
    obtain ⟨r, s, nn, zz, o', c', hb, rfl, _, _, ho, _⟩ := hu.slc_inv
    obtain rfl := hu2.int_inv
    cases hlt : Nat.blt n len
    · rw [hlt] at hv; simp at hv
    · rw [hlt] at hv
      simp only [cond_true, Option.some.injEq] at hv
      subst hv
      have hn : n < len := Nat.le_of_ble_eq_true hlt
      obtain rfl : o' = s + o := by
        rcases ho with ⟨h0, _⟩ | h0
        · omega
        · exact h0
      refine ⟨.pointer (some ⟨r, s + (o + n * size), none⟩), ?_, .ptr _ hb⟩
      simp only [Instr.indexAt, asIntOf, Sem.run_bind, Sem.run_pure, Result.andThen_ok, run_underlying hd, addr_add, Nat.add_assoc]
      rw [if_pos (by simp; omega)]
      simp [sizeOf_run hs]
  · simp at hv
theorem sim_nilCheck {ρ : Operand → Value} {o : Oper} {z : Operand} (ho : o.op = .nilCheck z) (hu : VR σ (x.ev tm) (ρ z)) (hv : rdNilCheck x tm A = some v) : ∃ v', (execOp ρ o).run P w = .ok (.value v') w ∧ VR σ v v' := by
  unfold rdNilCheck at hv
  split at hv
  · rename_i a he
    rw [he] at hu
    injection hv with hv
    subst hv
    refine ⟨ρ z, ?_, hu⟩
    generalize hz : ρ z = q at hu
    cases hu with
    | clo h => simp [clo0] at h
    | ptr o h => simp only [execOp, ho, hz]; rfl
  · rename_i t q he
    rw [he] at hu
    injection hv with hv
    subst hv
    refine ⟨ρ z, ?_, hu⟩
    obtain ⟨v', hz, _⟩ := hu.iface_inv
    simp only [execOp, ho, hz]; rfl
  · rename_i f a b he
    rw [he] at hu
    injection hv with hv
    subst hv
    refine ⟨ρ z, ?_, hu⟩
    obtain ⟨a', c', hz, _, _⟩ := hu.func_inv
    simp only [execOp, ho, hz]; rfl
  · rename_i q he
    rw [he] at hu
    injection hv with hv
    subst hv
    refine ⟨ρ z, ?_, hu⟩
    generalize hz : ρ z = q' at hu
    cases hu with
    | clo h => simp only [execOp, ho, hz]; rfl
    | map h => simp only [execOp, ho, hz]; rfl
  · simp at hv
theorem sim_closed {ns : Nat} {ρ : Operand → Value} {o : Oper} (hsel : ∀ cs b, o.op ≠ .select cs b) (hE : ∀ z ∈ o.op.operands, VR σ ((co ns z).ev tm) (ρ z)) (hv : rdClosed P ns o tm A = some v) : ∃ v', (execOp ρ o).run P w = .ok (.value v') w ∧ VR σ v v' := by
  unfold rdClosed at hv
  cases hc : cloL (o.op.operands.toList.map (co ns)) tm
  · rw [hc] at hv; simp at hv
  · rw [hc] at hv
    simp only [cond_true] at hv
    have hc' : ∀ z ∈ o.op.operands, clo ((co ns z).ev tm) = true := fun z hz => by
      unfold cloL at hc
      rw [List.all_eq_true] at hc
      exact hc _ (List.mem_map.2 ⟨z, by simpa using hz, rfl⟩)
    have he : execOp (evalC ns tm) o = execOp ρ o := execOp_congr o hsel fun z hz => (clo_eq (hc' z hz) (hE z hz)).symm
    split at hv
    · rename_i v2 hr
      rw [he] at hr
      cases hcl : clo v2
      · rw [hcl] at hv; simp at hv
      · rw [hcl] at hv
        simp only [cond_true, Option.some.injEq] at hv
        subst hv
        exact ⟨_, run_pure_of hr w, clo_r σ hcl⟩
    · simp at hv
end
end Ev
end Go.Proofs.YtiglblfjmmdeeaaGreat

/- The evaluator: more operations that read. -/
namespace Go.Proofs.YtiglblfjmmdeeaaGreat
open Go.RowKit
namespace Ev

theorem cond_ok {α : Type} {c : Bool} {x : Option α} {v : α} (h : (bif c then x else none) = some v) : c = true ∧ x = some v := by
  cases c
  · simp at h
  · exact ⟨rfl, h⟩
theorem blt_lt {m n : Nat} (h : Nat.blt m n = true) : m < n := Nat.le_of_ble_eq_true h
/- Ints. -/
theorem beq_eq (m n : Nat) : Nat.beq m n = decide (m = n) := by
  cases h : Nat.beq m n
  · exact (decide_eq_false (Nat.ne_of_beq_eq_false h)).symm
  · exact (decide_eq_true (Nat.eq_of_beq_eq_true h)).symm
theorem blt_eq (m n : Nat) : Nat.blt m n = decide (m < n) := by
  cases h : Nat.blt m n
  · refine (decide_eq_false fun hl => ?_).symm
    rw [show Nat.blt m n = true from Nat.ble_eq_true_of_le hl] at h
    cases h
  · exact (decide_eq_true (blt_lt h)).symm
theorem eqI_eq (a b : Int) : eqI a b = (a == b) := by
  rw [show (a == b) = decide (a = b) from rfl]
  cases a <;> cases b <;> simp only [eqI, beq_eq] <;> simp <;> omega
theorem ltI_eq (a b : Int) : ltI a b = decide (a < b) := by
  cases a <;> cases b <;> simp only [ltI, blt_eq] <;> simp <;> omega
theorem wrap_u {k : IntKind} (hk : k.signed = false) (n : Int) : k.wrap n = n % (2 ^ k.bits : Int) := by
  unfold IntKind.wrap
  simp [hk]
theorem nat63 (m : Nat) (h : m < 9223372036854775808) : -9223372036854775808 ≤ (Int.ofNat m) ∧ (Int.ofNat m) ≤ 9223372036854775807 := by
  rw [Int.ofNat_eq_natCast]; omega
theorem neg63 (m : Nat) (h : m < 9223372036854775808) : -9223372036854775808 ≤ (Int.negSucc m) ∧ (Int.negSucc m) ≤ 9223372036854775807 := by
  rw [Int.negSucc_eq]; omega
theorem wrapI_eq (k : IntKind) (n : Int) : wrapI k n = k.wrap n := by
  unfold wrapI
  split
  · rename_i m
    rw [blt_eq]
    by_cases h : m < 9223372036854775808
    · rw [decide_eq_true h, cond_true]
      exact (IntWalk.i64_in _ (nat63 m h)).symm
    · rw [decide_eq_false h, cond_false]
  · rename_i m
    rw [blt_eq]
    by_cases h : m < 9223372036854775808
    · rw [decide_eq_true h, cond_true]
      exact (IntWalk.i64_in _ (neg63 m h)).symm
    · rw [decide_eq_false h, cond_false]
  · rename_i m
    rw [wrap_u (k := .u8) rfl]; rfl
  · rename_i m
    rw [wrap_u (k := .u32) rfl]; rfl
  · rename_i m
    rw [wrap_u (k := .u64) rfl]; rfl
  · rfl

section
variable {P : Program} {w : World} {σ : Sig} {A : AW} {tm : TM} {v u u2 : Value} {x y : CO} {t : TypeId}
theorem eqGuard_ints (op : BinOp) (p q : Operand) (k l : IntKind) (a b : Int) : (eqGuard op t p q (.int k a) (.int l b)).run P w = .ok () w := by
  unfold eqGuard
  cases op <;> rfl
theorem eqGuard_strs (op : BinOp) (p q : Operand) (a b : ByteArray) : (eqGuard op t p q (.string a) (.string b)).run P w = .ok () w := by
  unfold eqGuard
  cases op <;> rfl
theorem natOp_inv {f : Nat → Nat → Nat} {k : IntKind} {a b : Int} (h : natOp f k a b = some v) : ∃ m n, a = Int.ofNat m ∧ b = Int.ofNat n ∧ k.signed = false ∧ m < 2 ^ k.bits ∧ n < 2 ^ k.bits ∧ v = .int k (.ofNat (f m n)) := by
  cases a <;> cases b <;> try (simp [natOp] at h; done)
  rename_i m n
  cases k <;> try (simp [natOp] at h; done)
  all_goals
    simp only [natOp] at h
    obtain ⟨h1, h2⟩ := cond_ok h
    rw [Bool.and_eq_true] at h1
    injection h2 with h2
    exact ⟨m, n, rfl, rfl, rfl, blt_lt h1.1, blt_lt h1.2, h2.symm⟩
theorem ofInt_nat (k n : Nat) (h : n < 2 ^ k) : (BitVec.ofInt k (Int.ofNat n)).toNat = n := by
  simp
  exact Nat.mod_eq_of_lt h
theorem run_bits {f : Nat → Nat → Nat} {k : IntKind} {m n : Nat} {op : BinOp} {g : BitVec k.bits → BitVec k.bits → BitVec k.bits} (hs : k.signed = false) (hm : m < 2 ^ k.bits) (hn : n < 2 ^ k.bits)
    (hg : ∀ a b : BitVec k.bits, (g a b).toNat = f a.toNat b.toNat)
    (hop : Op.intBits op k (.ofNat m) (.ofNat n) = pure (.int k (k.wrap (g (BitVec.ofInt k.bits (.ofNat m)) (BitVec.ofInt k.bits (.ofNat n))).toNat))) :
    (Op.intBits op k (.ofNat m) (.ofNat n)).run P w = .ok (.int k (.ofNat (f m n))) w := by
  rw [hop, Sem.run_pure, hg, ofInt_nat _ _ hm, ofInt_nat _ _ hn]
  congr 1
  rw [wrap_u hs]
  have hlt : f m n < 2 ^ k.bits := by
    have h1 := (g (BitVec.ofInt k.bits (.ofNat m)) (BitVec.ofInt k.bits (.ofNat n))).isLt
    rw [hg, ofInt_nat _ _ hm, ofInt_nat _ _ hn] at h1
    exact h1
  rw [Int.emod_eq_of_lt (Int.natCast_nonneg _) (by exact_mod_cast hlt)]
  rfl
theorem run_int2 {op : BinOp} {f : IntKind → Int → Int → Option Value} (hf : intOp op = some f) {k : IntKind} {a b : Int} (hv : f k a b = some v) : (binOp op t (.int k a) (.int k b)).run P w = .ok v w := by
  cases op <;> simp only [intOp, Option.some.injEq, reduceCtorEq] at hf <;> subst hf <;> try simp only [Option.some.injEq] at hv
  case and =>
    obtain ⟨m, n, rfl, rfl, hs, hm, hn, rfl⟩ := natOp_inv hv
    simp only [binOp, ne_eq, not_true, if_false]
    exact run_bits (g := fun a b => a &&& b) hs hm hn (fun a b => BitVec.toNat_and a b) rfl
  case or =>
    obtain ⟨m, n, rfl, rfl, hs, hm, hn, rfl⟩ := natOp_inv hv
    simp only [binOp, ne_eq, not_true, if_false]
    exact run_bits (g := fun a b => a ||| b) hs hm hn (fun a b => BitVec.toNat_or a b) rfl
  case xor =>
    obtain ⟨m, n, rfl, rfl, hs, hm, hn, rfl⟩ := natOp_inv hv
    simp only [binOp, ne_eq, not_true, if_false]
    exact run_bits (g := fun a b => a ^^^ b) hs hm hn (fun a b => BitVec.toNat_xor a b) rfl
  case geq =>
    subst hv
    simp only [binOp, ne_eq, not_true, if_false, Op.intCmp, ltI_eq, Sem.run_pure]
    congr 2
    rw [Bool.eq_iff_iff]
    simp
  case leq =>
    subst hv
    simp only [binOp, ne_eq, not_true, if_false, Op.intCmp, ltI_eq, Sem.run_pure]
    congr 2
    rw [Bool.eq_iff_iff]
    simp
  case neq =>
    subst hv
    simp only [binOp, ne_eq, not_true, if_false, Op.intCmp, eqI_eq, Sem.run_pure]
    rfl
  all_goals
    subst hv
    simp only [binOp, ne_eq, not_true, if_false, Op.intArith, Op.intCmp, wrapI_eq, eqI_eq, ltI_eq, Sem.run_pure]
theorem sim_ints {op : BinOp} {f : IntKind → Int → Int → Option Value} {ρ : Operand → Value} {o : Oper} {p q : Operand} {yt : TypeId} (ho : o.op = .binOp op t p q yt) (hf : intOp op = some f) (hu : VR σ (x.ev tm) (ρ p)) (hu2 : VR σ (y.ev tm) (ρ q)) (hv : rdInts f x y tm A = some v) :
    ∃ v', (execOp ρ o).run P w = .ok (.value v') w ∧ VR σ v v' := by
  unfold rdInts at hv
  split at hv
  · rename_i k a l b he he2
    obtain ⟨hkl, hv2⟩ := cond_ok hv
    obtain rfl := of_decide_eq_true hkl
    clear hv
    rw [he] at hu
    rw [he2] at hu2
    have hv : f k a b = some v := hv2
    refine ⟨v, ?_, ?_⟩
    · simp only [execOp, ho, hu.int_inv, hu2.int_inv, Sem.run_bind, eqGuard_ints, Result.andThen_ok, run_int2 hf hv, Sem.run_pure]
    · cases op <;> simp only [intOp, Option.some.injEq, reduceCtorEq] at hf <;> subst hf <;> first
        | (simp only [Option.some.injEq] at hv; subst hv; exact .clo rfl)
        | (obtain ⟨m, n, rfl, rfl, hs, hm, hn, rfl⟩ := natOp_inv hv; exact .clo rfl)
  · simp at hv
theorem sim_shr {ρ : Operand → Value} {o : Oper} {p q : Operand} {yt : TypeId} (ho : o.op = .binOp .shr t p q yt) (hu : VR σ (x.ev tm) (ρ p)) (hu2 : VR σ (y.ev tm) (ρ q)) (hv : rdShr x y tm A = some v) :
    ∃ v', (execOp ρ o).run P w = .ok (.value v') w ∧ VR σ v v' := by
  unfold rdShr at hv
  split at hv
  · rename_i k m l n he he2
    obtain ⟨hle, hv⟩ := cond_ok hv
    have hle := Nat.le_of_ble_eq_true hle
    injection hv with hv
    subst hv
    rw [he] at hu
    rw [he2] at hu2
    refine ⟨_, ?_, .clo rfl⟩
    have hs : (Op.shift .shr k (.ofNat m) l (.ofNat n)).run P w = .ok (.int k (.ofNat (m >>> n))) w := by
      unfold Op.shift
      rw [if_neg (by simp)]
      simp only [Sem.run_pure]
      congr 2
      have : min (Int.ofNat n).toNat k.bits = n := Nat.min_eq_left hle
      rw [this, Nat.shiftRight_eq_div_pow]
      rw [Int.fdiv_eq_ediv_of_nonneg _ (by exact_mod_cast Nat.zero_le (2 ^ n))]
      simp
    simp only [execOp, ho, hu.int_inv, hu2.int_inv, Sem.run_bind, eqGuard_ints, Result.andThen_ok, binOp, hs, Sem.run_pure]
  · simp at hv
end
end Ev
end Go.Proofs.YtiglblfjmmdeeaaGreat

/- The evaluator: texts, nil, slices, parts: operations that read. -/
namespace Go.Proofs.YtiglblfjmmdeeaaGreat
open Go.RowKit
namespace Ev

theorem eqB_eq : ∀ (l m : List UInt8), eqB l m = (l == m)
  | [], [] => rfl
  | [], _ :: _ => rfl
  | _ :: _, [] => rfl
  | a :: l, b :: m => by
    simp only [eqB, beq_eq, List.cons_beq_cons, eqB_eq l m]
    by_cases h : a.toNat = b.toNat
    · have : a = b := UInt8.toNat_inj.1 h
      simp [this]
    · have : ¬ a = b := fun e => h (by rw [e])
      simp [h, this]
theorem ba_get (s : ByteArray) (n : Nat) : s[n]? = s.data.toList[n]? := by
  by_cases h : n < s.size
  · rw [ByteArray.getElem?_lt' s n h, List.getElem?_eq_getElem (by simpa using h)]
    rfl
  · have h2 : ¬ n < s.data.toList.length := by simpa using h
    rw [List.getElem?_eq_none (by omega)]
    simp [h]
theorem ba_len (s : ByteArray) : s.size = s.data.toList.length := by cases s; rfl
theorem ba_ext (s : ByteArray) (l h : Nat) : s.extract l h = ⟨⟨(s.data.toList.drop l).take (h - l)⟩⟩ := by
  apply ByteArray.ext
  simp [ByteArray.data_extract]
  apply Array.ext'
  simp

section
variable {P : Program} {w w0 : World} {σ : Sig} {A : AW} {X : Nat → Option AObj} {tm : TM} {v u u2 : Value} {x y : CO} {t : TypeId}
theorem run_str2 {op : BinOp} {f : ByteArray → ByteArray → Option Value} (hf : strOp op = some f) {a b : ByteArray} (hv : f a b = some v) : (binOp op t (.string a) (.string b)).run P w = .ok v w ∧ VR σ v v := by
  cases op <;> simp only [strOp, Option.some.injEq, reduceCtorEq] at hf <;> subst hf
  case eql =>
    simp only [Option.some.injEq] at hv
    subst hv
    refine ⟨?_, .clo rfl⟩
    simp only [binOp, Op.stringOp, Sem.run_pure, ByteArray.toList_eq, eqB_eq]
  case neq =>
    simp only [Option.some.injEq] at hv
    subst hv
    refine ⟨?_, .clo rfl⟩
    simp only [binOp, Op.stringOp, Sem.run_pure, ByteArray.toList_eq, eqB_eq]
  case add =>
    obtain ⟨hle, hv⟩ := cond_ok hv
    have hle := Nat.le_of_ble_eq_true hle
    injection hv with hv
    subst hv
    refine ⟨?_, .clo rfl⟩
    have h1 : ¬ ((a.size + b.size : Nat) : Int) > IntKind.i64.max := by
      rw [ba_len, ba_len]
      have : IntKind.i64.max = 9223372036854775807 := rfl
      rw [this]
      omega
    simp only [binOp, Op.stringOp, h1, if_false, Sem.run_pure]
    congr 2
theorem sim_strs {op : BinOp} {f : ByteArray → ByteArray → Option Value} {ρ : Operand → Value} {o : Oper} {p q : Operand} {yt : TypeId} (ho : o.op = .binOp op t p q yt) (hf : strOp op = some f) (hu : VR σ (x.ev tm) (ρ p)) (hu2 : VR σ (y.ev tm) (ρ q)) (hv : rdStrs f x y tm A = some v) :
    ∃ v', (execOp ρ o).run P w = .ok (.value v') w ∧ VR σ v v' := by
  unfold rdStrs at hv
  split at hv
  · rename_i a b he he2
    rw [he] at hu
    rw [he2] at hu2
    obtain ⟨h1, h2⟩ := run_str2 (σ := σ) (P := P) (w := w) (t := t) hf hv
    refine ⟨v, ?_, h2⟩
    simp only [execOp, ho, hu.str_inv, hu2.str_inv, Sem.run_bind, eqGuard_strs, Result.andThen_ok, h1, Sem.run_pure]
  · simp at hv
theorem sim_conv {k : IntKind} {src dst : TypeId} {ds : TypeDesc} (hs : P.underlying src = some ds) (hd : P.underlying dst = some (.int k)) (hu : VR σ (x.ev tm) u) (hv : rdConv k x tm A = some v) : ∃ v', (convert src dst u).run P w = .ok v' w ∧ VR σ v v' := by
  unfold rdConv at hv
  split at hv
  · rename_i l n he
    rw [he] at hu
    injection hv with hv
    subst hv
    refine ⟨_, ?_, .clo rfl⟩
    rw [hu.int_inv, wrapI_eq]
    simp only [convert, Sem.run_bind, run_underlying hs, run_underlying hd, Result.andThen_ok, Conv.intToInt, Sem.run_pure]
  · simp at hv
theorem sim_not (hu : VR σ (x.ev tm) u) (hv : rdNot x tm A = some v) : ∃ v', (Op.unary .not u).run P w = .ok v' w ∧ VR σ v v' := by
  unfold rdNot at hv
  split at hv
  · rename_i b he
    rw [he] at hu
    injection hv with hv
    subst hv
    exact ⟨_, by rw [hu.bool_inv]; rfl, .clo rfl⟩
  · simp at hv
theorem sim_byteAt (hd : P.underlying t = some .string) (hu : VR σ (x.ev tm) u) (hu2 : VR σ (y.ev tm) u2) (hv : rdByteAt x y tm A = some v) : ∃ v', (Instr.index t u u2).run P w = .ok v' w ∧ VR σ v v' := by
  unfold rdByteAt at hv
  split at hv
  · rename_i s k n he he2
    rw [he] at hu
    rw [he2] at hu2
    split at hv
    · rename_i b hb
      injection hv with hv
      subst hv
      refine ⟨_, ?_, .clo rfl⟩
      have h3 : (if (0 : Int) ≤ Int.ofNat n then s[(Int.ofNat n).toNat]? else none) = some b := by
        rw [if_pos (by simp)]
        show s[n]? = some b
        rw [ba_get, hb]
      rw [hu.str_inv, hu2.int_inv]
      simp only [Instr.index, asIntOf, Sem.run_bind, Sem.run_pure, Result.andThen_ok, run_underlying hd, h3]
      rfl
    · simp at hv
  · simp at hv
theorem VR.ptr_none {b : Option Addr} (h : VR σ (.pointer b) u) : ∃ b', u = .pointer b' ∧ b'.isNone = b.isNone := by
  cases h with
  | clo h => exact ⟨_, rfl, rfl⟩
  | ptr o h => exact ⟨_, rfl, rfl⟩
theorem VR.slc_none {b : Option Addr} {n k : Nat} (h : VR σ (.slice b n k) u) : ∃ b' c, u = .slice b' n c ∧ b'.isNone = b.isNone := by
  cases h with
  | clo h => exact ⟨_, _, rfl, rfl⟩
  | slc o n k c h h1 h2 h3 => exact ⟨_, _, rfl, rfl⟩
  | slc0 o o' k c h h1 h2 h3 => exact ⟨_, _, rfl, rfl⟩
theorem VR.map_none {b : Option Nat} (h : VR σ (.map b) u) : ∃ b', u = .map b' ∧ b'.isNone = b.isNone := by
  cases h with
  | clo h => exact ⟨_, rfl, rfl⟩
  | map h => exact ⟨_, rfl, rfl⟩
theorem none_of {α : Type} {b : Option α} (h : b.isNone = true) : b = none := by cases b <;> simp at h ⊢
theorem some_of {α : Type} {b : Option α} (h : b.isNone = false) : ∃ a, b = some a := by cases b <;> simp at h ⊢
theorem aequal_run {d : TypeDesc} {p q : Value} {b : Bool} (hd : P.underlying t = some d) (hp : VR σ p u) (hq : VR σ q u2) (h : aequal d p q = some b) : (∀ n, (Op.equalIn (n + 1) t u u2).run P w = .ok b w) ∧ (∀ op p q, (eqGuard op t p q u u2).run P w = .ok () w) ∧ binOp .eql t u u2 = (do pure (.bool (← Op.equal t u u2))) ∧ binOp .neq t u u2 = (do pure (.bool (!(← Op.equal t u u2)))) := by
  unfold aequal at h
  split at h
  · injection h with h
    subst h
    obtain ⟨b1, rfl, h1⟩ := hp.ptr_none
    obtain ⟨b2, rfl, h2⟩ := hq.ptr_none
    obtain rfl := none_of h1
    refine ⟨fun n => ?_, fun op _ _ => by cases op <;> rfl, ?_, ?_⟩
    · simp only [Op.equalIn, Sem.run_bind, run_underlying hd, Result.andThen_ok, Sem.run_pure, h2]
    all_goals (cases b2 <;> rfl)
  · injection h with h
    subst h
    obtain ⟨b1, rfl, h1⟩ := hp.ptr_none
    obtain ⟨b2, rfl, h2⟩ := hq.ptr_none
    obtain rfl := none_of h2
    obtain ⟨a1, rfl⟩ := some_of h1
    refine ⟨fun n => ?_, fun op _ _ => by cases op <;> rfl, rfl, rfl⟩
    simp only [Op.equalIn, Sem.run_bind, run_underlying hd, Result.andThen_ok, Sem.run_pure]
  · injection h with h
    subst h
    obtain ⟨b1, c1, rfl, h1⟩ := hp.slc_none
    obtain ⟨b2, c2, rfl, h2⟩ := hq.slc_none
    obtain rfl := none_of h1
    refine ⟨fun n => ?_, fun op _ _ => by cases op <;> rfl, rfl, rfl⟩
    simp only [Op.equalIn, Sem.run_bind, run_underlying hd, Result.andThen_ok, Sem.run_pure, h2]
  · injection h with h
    subst h
    obtain ⟨b1, c1, rfl, h1⟩ := hp.slc_none
    obtain ⟨b2, c2, rfl, h2⟩ := hq.slc_none
    obtain rfl := none_of h2
    obtain ⟨a1, rfl⟩ := some_of h1
    refine ⟨fun n => ?_, fun op _ _ => by cases op <;> rfl, rfl, rfl⟩
    simp only [Op.equalIn, Sem.run_bind, run_underlying hd, Result.andThen_ok, Sem.run_pure]
  · injection h with h
    subst h
    obtain ⟨b1, rfl, h1⟩ := hp.map_none
    obtain ⟨b2, rfl, h2⟩ := hq.map_none
    obtain rfl := none_of h1
    refine ⟨fun n => ?_, fun op _ _ => by cases op <;> rfl, rfl, rfl⟩
    simp only [Op.equalIn, Sem.run_bind, run_underlying hd, Result.andThen_ok, Sem.run_pure, h2]
  · injection h with h
    subst h
    obtain ⟨b1, rfl, h1⟩ := hp.map_none
    obtain ⟨b2, rfl, h2⟩ := hq.map_none
    obtain rfl := none_of h2
    obtain ⟨a1, rfl⟩ := some_of h1
    refine ⟨fun n => ?_, fun op _ _ => by cases op <;> rfl, rfl, rfl⟩
    simp only [Op.equalIn, Sem.run_bind, run_underlying hd, Result.andThen_ok, Sem.run_pure]
  · injection h with h
    subst h
    obtain rfl := clo0_eq rfl hp
    obtain ⟨a1, c1, rfl, _, _⟩ := hq.func_inv
    refine ⟨fun n => ?_, fun op _ _ => by cases op <;> rfl, rfl, rfl⟩
    simp only [Op.equalIn, Sem.run_bind, run_underlying hd, Result.andThen_ok, Sem.run_pure]
  · injection h with h
    subst h
    obtain rfl := clo0_eq rfl hq
    obtain ⟨a1, c1, rfl, _, _⟩ := hp.func_inv
    refine ⟨fun n => ?_, fun op _ _ => by cases op <;> rfl, rfl, rfl⟩
    simp only [Op.equalIn, Sem.run_bind, run_underlying hd, Result.andThen_ok, Sem.run_pure]
  · injection h with h
    subst h
    obtain rfl := clo0_eq rfl hp
    obtain ⟨a1, rfl, _⟩ := hq.iface_inv
    refine ⟨fun n => ?_, fun op _ _ => by cases op <;> rfl, rfl, rfl⟩
    simp only [Op.equalIn, Sem.run_bind, run_underlying hd, Result.andThen_ok, Sem.run_pure]
  · injection h with h
    subst h
    obtain rfl := clo0_eq rfl hq
    obtain ⟨a1, rfl, _⟩ := hp.iface_inv
    refine ⟨fun n => ?_, fun op _ _ => by cases op <;> rfl, rfl, rfl⟩
    simp only [Op.equalIn, Sem.run_bind, run_underlying hd, Result.andThen_ok, Sem.run_pure]
  · simp at h
theorem sim_nil {neg : Bool} {d : TypeDesc} {ρ : Operand → Value} {o : Oper} {op : BinOp} {p q : Operand} {yt : TypeId} (ho : o.op = .binOp op t p q yt) (hop : op = if neg then .neq else .eql) (hd : P.underlying t = some d) (hu : VR σ (x.ev tm) (ρ p)) (hu2 : VR σ (y.ev tm) (ρ q)) (hv : rdNil neg d x y tm A = some v) :
    ∃ v', (execOp ρ o).run P w = .ok (.value v') w ∧ VR σ v v' := by
  unfold rdNil at hv
  split at hv
  · rename_i b he
    injection hv with hv
    subst hv
    obtain ⟨h1, h2, h3, h4⟩ := aequal_run (w := w) hd hu hu2 he
    have h5 : (Op.equal t (ρ p) (ρ q)).run P w = .ok b w := h1 9999
    refine ⟨_, ?_, .clo rfl⟩
    cases neg
    · simp only [Bool.false_eq_true, if_false] at hop
      subst hop
      simp only [execOp, ho, Sem.run_bind, h2, Result.andThen_ok, h3, h5, Sem.run_pure]
      cases b <;> rfl
    · simp only [if_true] at hop
      subst hop
      simp only [execOp, ho, Sem.run_bind, h2, Result.andThen_ok, h4, h5, Sem.run_pure]
      cases b <;> rfl
  · simp at hv
end
end Ev
end Go.Proofs.YtiglblfjmmdeeaaGreat

/- The evaluator: slices, parts, lengths, maps that are read, values that are built. -/
namespace Go.Proofs.YtiglblfjmmdeeaaGreat
open Go.RowKit
namespace Ev

theorem bytesOf_spec : ∀ {l : List Value} {bs : List UInt8}, bytesOf l = some bs → ∃ ns : List Int, l = ns.map (Value.int .u8) ∧ bs = ns.map fun n => UInt8.ofNat n.toNat
  | [], bs, h => by simp [bytesOf] at h; subst h; exact ⟨[], rfl, rfl⟩
  | v :: l, bs, h => by
    unfold bytesOf at h
    split at h
    · rename_i h0; cases h0
    · rename_i n l' h0
      injection h0 with h1 h2
      subst h1
      subst h2
      split at h
      · rename_i bs' h3
        injection h with h
        subst h
        obtain ⟨ns, h4, h5⟩ := bytesOf_spec h3
        exact ⟨n :: ns, by rw [h4]; rfl, by rw [h5]; rfl⟩
      · simp at h
    · simp at h
theorem ints_clo (ns : List Int) : (ns.map (Value.int .u8)).all clo0 = true := by
  rw [List.all_eq_true]
  intro v hv
  obtain ⟨n, _, rfl⟩ := List.mem_map.1 hv
  rfl
theorem push_all (ns : List Int) : ∀ r : ByteArray, ns.foldl (fun r n => r.push (UInt8.ofNat n.toNat)) r = ⟨⟨r.data.toList ++ ns.map fun n => UInt8.ofNat n.toNat⟩⟩ := by
  induction ns with
  | nil => intro r; simp
  | cons n ns ih => intro r; simp only [List.foldl_cons, ih]; simp [ByteArray.push]

section
variable {P : Program} {w w0 : World} {σ : Sig} {A : AW} {X : Nat → Option AObj} {tm : TM} {v u u2 : Value} {x y : CO} {t : TypeId}
theorem sim_str {src dst e : TypeId} (h : St P w0 σ A X w) (hs : P.underlying src = some (.slice e)) (he : P.underlying e = some (.int .u8)) (hd : P.underlying dst = some .string) (hu : VR σ (x.ev tm) u) (hv : rdStr x tm A = some v) :
    ∃ v', (convert src dst u).run P w = .ok v' w ∧ VR σ v v' := by
  unfold rdStr at hv
  split at hv
  · rename_i a n k hx
    rw [hx] at hu
    unfold strOf at hv
    split at hv
    · rename_i cs hcs
      split at hv
      · rename_i bs hbs
        injection hv with hv
        subst hv
        obtain ⟨ns, rfl, rfl⟩ := bytesOf_spec hbs
        refine ⟨_, ?_, .clo rfl⟩
        unfold rowCells at hcs
        split at hcs
        · rename_i k' h0
          injection h0 with h1 h2 h3
          subst h1
          subst h2
          obtain rfl := clo0_eq rfl hu
          injection hcs with hcs
          obtain rfl : ns = [] := by cases ns <;> simp at hcs ⊢
          simp only [convert, Sem.run_bind, run_underlying hs, run_underlying hd, run_underlying he, Result.andThen_ok, Conv.bytesToString, Sem.run_pure]
          rfl
        · rename_i b o n' k' h0
          injection h0 with h1 h2 h3
          subst h1
          subst h2
          obtain ⟨r, s, nn, zz, o', c, hb, rfl, _, _, ho, _⟩ := hu.slc_inv
          obtain ⟨cs', h4, h5, h6⟩ := h.cells hb hcs
          have h7 := clo0_all (ints_clo ns) h5
          subst h7
          have h8 : (loadCells ⟨r, o', none⟩ n).run P w = .ok (ns.map (Value.int .u8)).toArray w := by
            rw [Nat.mul_one] at h4
            rcases ho with ⟨h9, _⟩ | rfl
            · subst h9
              obtain rfl : ns = [] := by cases ns <;> simp at h4 ⊢
              rfl
            · have := run_loadCells_list (P := P) w ⟨r, s + o, none⟩ (ns.map (Value.int .u8)) (fun j v hj => by rw [addr_add]; exact h6 j v hj)
              rw [h4] at this
              exact this
          simp only [convert, Sem.run_bind, run_underlying hs, run_underlying hd, run_underlying he, Result.andThen_ok, run_bytesToString w _ _ c ns h8]
          rw [push_all]
          simp
        · rename_i s h0; cases h0
        · simp at hcs
      · simp at hv
    · simp at hv
  · simp at hv

/- Slices. -/
def OVR (σ : Sig) : Option Value → Option Value → Prop
  | none, none => True
  | some a, some b => VR σ a b
  | _, _ => False
theorem bnd_run {p q : Option Value} {lim dflt m : Nat} (hr : OVR σ p q) (h : bnd p lim dflt = some m) : (p = none ∧ q = none ∧ m = dflt) ∨ (∃ k, q = some (.int k (Int.ofNat m)) ∧ m ≤ lim ∧ p ≠ none) := by
  unfold bnd at h
  split at h
  · injection h with h
    cases q with
    | none => exact .inl ⟨rfl, rfl, h.symm⟩
    | some q => exact hr.elim
  · rename_i k i
    obtain ⟨h1, h2⟩ := cond_ok h
    injection h2 with h2
    subst h2
    cases q with
    | none => exact hr.elim
    | some q => exact .inr ⟨k, by rw [VR.int_inv hr], Nat.le_of_ble_eq_true h1, by simp⟩
  · simp at h
theorem bound_run {k : IntKind} {m lim : Nat} (h : m ≤ lim) (code : BoundsCode) : (Instr.sliceBound (.int k (Int.ofNat m)) lim code).run P w = .ok m w := by
  simp only [Instr.sliceBound, asIntOf, Sem.run_bind, Sem.run_pure, Result.andThen_ok]
  rw [if_pos (by simp; omega)]
  rfl
theorem bounds2 {lo hi lo' hi' : Option Value} {isS : Bool} {len c c' h l : Nat} (hlo : OVR σ lo lo') (hhi : OVR σ hi hi') (hh : bnd hi c len = some h) (hl : bnd lo c 0 = some l) (hlh : l ≤ h) (hc : c ≤ c') :
    (Instr.sliceBounds isS len c' lo' hi' none).run P w = .ok (l, h, c') w := by
  unfold Instr.sliceBounds
  simp only [Sem.run_bind, Sem.run_pure, Result.andThen_ok]
  rcases bnd_run hhi hh with ⟨_, rfl, rfl⟩ | ⟨k, rfl, h1, _⟩
  · rcases bnd_run hlo hl with ⟨_, rfl, rfl⟩ | ⟨k2, rfl, h2, _⟩
    · simp only [Sem.run_bind, Sem.run_pure, Result.andThen_ok]
    · simp only [Sem.run_bind, Sem.run_pure, Result.andThen_ok, bound_run hlh]
  · rcases bnd_run hlo hl with ⟨_, rfl, rfl⟩ | ⟨k2, rfl, h2, _⟩
    · simp only [Sem.run_bind, Sem.run_pure, Result.andThen_ok, bound_run (Nat.le_trans h1 hc)]
    · simp only [Sem.run_bind, Sem.run_pure, Result.andThen_ok, bound_run (Nat.le_trans h1 hc), bound_run hlh]
theorem bounds3 {lo hi mx lo' hi' mx' : Option Value} {isS : Bool} {len c c' m h l : Nat} (hlo : OVR σ lo lo') (hhi : OVR σ hi hi') (hmx : OVR σ mx mx') (hm0 : mx ≠ none) (hh0 : hi ≠ none) (hm : bnd mx c 0 = some m) (hh : bnd hi m 0 = some h) (hl : bnd lo m 0 = some l) (hlh : l ≤ h) (hc : c ≤ c') :
    (Instr.sliceBounds isS len c' lo' hi' mx').run P w = .ok (l, h, m) w := by
  unfold Instr.sliceBounds
  rcases bnd_run hmx hm with ⟨h0, _, _⟩ | ⟨k, rfl, h1, _⟩
  · exact absurd h0 hm0
  rcases bnd_run hhi hh with ⟨h0, _, _⟩ | ⟨k1, rfl, h2, _⟩
  · exact absurd h0 hh0
  simp only [Sem.run_bind, Result.andThen_ok, bound_run (Nat.le_trans h1 hc), bound_run h2]
  rcases bnd_run hlo hl with ⟨_, rfl, rfl⟩ | ⟨k2, rfl, h3, _⟩
  · simp only [Sem.run_bind, Sem.run_pure, Result.andThen_ok]
  · simp only [Sem.run_bind, Sem.run_pure, Result.andThen_ok, bound_run hlh]
/-- What a slice expression over a row gives, where its bounds are known. -/
theorem slice_row {isS : Bool} {size b o len c ex r s nn zz o' c' : Nat} {lo hi mx lo' hi' mx' : Option Value} (hb : σ b = some ⟨r, s, nn, zz⟩) (hex : ex ≤ 1) (h1 : ex = 1 → c' = c) (h2 : c ≤ c') (ho : (len = 0 ∧ c = 0) ∨ o' = s + o) (hroom : ex = 0 → zz = size ∧ o' + c' * zz ≤ nn)
    (hlo : OVR σ lo lo') (hhi : OVR σ hi hi') (hmx : OVR σ mx mx') (hv : sliceRow size b o len c ex lo hi mx = some v) :
    ∃ l h m, (Instr.sliceBounds isS len c' lo' hi' mx').run P w = .ok (l, h, m) w ∧ VR σ v (.slice (some (if m = l then ⟨r, o', none⟩ else ⟨r, o' + l * size, none⟩)) (h - l) (m - l)) := by
  unfold sliceRow at hv
  split at hv
  · rename_i mv
    split at hv
    · rename_i hv0 m hm
      unfold slc3 at hv
      split at hv
      · rename_i h l hh hl
        obtain ⟨hlh, hv⟩ := cond_ok hv
        have hlh := Nat.le_of_ble_eq_true hlh
        injection hv with hv
        subst hv
        have hb3 := bounds3 (P := P) (w := w) (isS := isS) (len := len) hlo hhi hmx (by simp) (by simp) hm hh hl hlh h2
        refine ⟨l, h, m, hb3, ?_⟩
        have hmc : m ≤ c := by
          rcases bnd_run hmx hm with ⟨h0, _, _⟩ | ⟨_, _, h3, _⟩
          · simp at h0
          · exact h3
        have hhm : h ≤ m := by
          rcases bnd_run hhi hh with ⟨h0, _, _⟩ | ⟨_, _, h3, _⟩
          · simp at h0
          · exact h3
        rw [beq_eq]
        rcases ho with ⟨_, hc0⟩ | rfl
        · have : m = l := by omega
          have h3 : h - l = 0 := by omega
          have h4 : m - l = 0 := by omega
          rw [if_pos this, decide_eq_true this, cond_true, h3, h4]
          exact .slc0 o o' 1 0 hb (Nat.le_refl _) (fun _ => rfl) (fun h => by omega)
        · by_cases e : m = l
          · rw [if_pos e, decide_eq_true e, cond_true]
            exact .slc o _ _ _ hb (by omega) (by omega) (by omega)
          · rw [if_neg e, decide_eq_false e, cond_false, Nat.add_assoc]
            exact .slc _ _ _ _ hb (by omega) (by omega) (by omega)
      · simp at hv
    · simp at hv
  · unfold slc2 at hv
    split at hv
    · rename_i h l hh hl
      obtain ⟨hlh, hv⟩ := cond_ok hv
      rw [Bool.and_eq_true] at hlh
      have hhc := Nat.le_of_ble_eq_true hlh.2
      have hlh := Nat.le_of_ble_eq_true hlh.1
      injection hv with hv
      subst hv
      cases mx' with
      | some q => exact hmx.elim
      | none =>
        refine ⟨l, h, c', bounds2 hlo hhi hh hl hlh h2, ?_⟩
        rw [beq_eq]
        by_cases e : c = l
        · -- an empty slice
          have h3 : h - l = 0 := by omega
          rw [decide_eq_true e, cond_true, h3, show c - l = 0 by omega]
          have hk : 2 * 0 + ex ≤ 1 := by omega
          have hx : 2 * 0 + ex = 1 → c' - l = 0 := fun h4 => by have := h1 (by omega); omega
          have hl2 : l ≤ c' := by omega
          have hmul : l * size + (c' - l) * size = c' * size := by rw [← Nat.add_mul]; congr 1; omega
          split
          · refine .slc0 o o' _ _ hb hk hx fun h4 => ?_
            obtain ⟨rfl, h5⟩ := hroom (by omega)
            omega
          · refine .slc0 o _ _ _ hb hk hx fun h4 => ?_
            obtain ⟨rfl, h5⟩ := hroom (by omega)
            omega
        · rw [decide_eq_false e, cond_false, if_neg (by omega)]
          rcases ho with ⟨_, hc0⟩ | rfl
          · omega
          · rw [Nat.add_assoc]
            refine .slc _ _ _ _ hb (by omega) (by omega) fun h4 => ?_
            obtain ⟨rfl, h5⟩ := hroom (by omega)
            have hmul : l * zz + (c' - l) * zz = c' * zz := by rw [← Nat.add_mul]; congr 1; omega
            omega
    · simp at hv
theorem evM_r {ns : Nat} {ρ : Operand → Value} {z : Option Operand} (hE : ∀ q, z = some q → VR σ ((co ns q).ev tm) (ρ q)) : OVR σ (evM (z.map (co ns)) tm) (z.map ρ) := by
  cases z with
  | none => trivial
  | some q => exact hE q rfl
theorem sim_sliceArr {n size : Nat} {elem : TypeId} {lo hi mx : Option CO} {lo' hi' mx' : Option Value} (hd : P.underlying t = some (.array n elem)) (hs : sizeT P elem = some size) (hu : VR σ (x.ev tm) u) (hlo : OVR σ (evM lo tm) lo') (hhi : OVR σ (evM hi tm) hi') (hmx : OVR σ (evM mx tm) mx')
    (hv : rdSliceArr n size x lo hi mx tm A = some v) : ∃ v', (Instr.sliceAt t u lo' hi' mx').run P w = .ok v' w ∧ VR σ v v' := by
  unfold rdSliceArr at hv
  split at hv
  · rename_i b o he
    rw [he] at hu
    obtain ⟨r, s, nn, zz, hb, rfl⟩ := hu.ptr_inv
    obtain ⟨l, h, m, h1, h2⟩ := slice_row (P := P) (w := w) (isS := false) hb (Nat.le_refl 1) (fun _ => rfl) (Nat.le_refl n) (.inr rfl) (fun h => by omega) hlo hhi hmx hv
    refine ⟨_, ?_, h2⟩
    simp only [Instr.sliceAt, Instr.sureAddr, Sem.run_bind, Sem.run_pure, Result.andThen_ok, run_underlying hd, h1, sizeOf_run hs, addr_add]
  · simp at hv
theorem St.elem (h : St P w0 σ A X w) {b r s nn zz elem size k : Nat} (hb : σ b = some ⟨r, s, nn, zz⟩) (hs : sizeT P elem = some size) (he : elemOk A b elem k = true) (hk : k % 2 = 0) : zz = size ∧ ∃ c, A.get b = some (.row c elem) := by
  unfold elemOk at he
  rw [beq_eq, decide_eq_false (by omega), cond_false] at he
  split at he
  · rename_i c e hg
    obtain rfl := Nat.eq_of_beq_eq_true he
    obtain ⟨c', e', fr, hr⟩ := h.row hb hg
    exact ⟨hr.elem _ hs, c, hg⟩
  · cases he
theorem sim_sliceSlc {size : Nat} {elem : TypeId} {lo hi mx : Option CO} {lo' hi' mx' : Option Value} (hst : St P w0 σ A X w) (hd : P.underlying t = some (.slice elem)) (hs : sizeT P elem = some size) (hu : VR σ (x.ev tm) u) (hlo : OVR σ (evM lo tm) lo') (hhi : OVR σ (evM hi tm) hi') (hmx : OVR σ (evM mx tm) mx')
    (hv : rdSliceSlc elem size x lo hi mx tm A = some v) : ∃ v', (Instr.sliceAt t u lo' hi' mx').run P w = .ok v' w ∧ VR σ v v' := by
  unfold rdSliceSlc at hv
  split at hv
  · rename_i b o n k he
    rw [he] at hu
    obtain ⟨hok, hv⟩ := cond_ok hv
    obtain ⟨r, s, nn, zz, o', c', hb, rfl, h3, h4, h5, h6⟩ := hu.slc_inv
    obtain ⟨l, h, m, h1, h2⟩ := slice_row (P := P) (w := w) (isS := true) (c' := c') (o' := o') hb (by omega) (fun e => h3 e) h4 (by omega) (fun e => ⟨(hst.elem hb hs hok e).1, h6 e⟩) hlo hhi hmx hv
    refine ⟨_, ?_, h2⟩
    simp only [Instr.sliceAt, Instr.slice, Sem.run_bind, Sem.run_pure, Result.andThen_ok, run_underlying hd, h1, sizeOf_run hs, Option.map_some, addr_add]
    split <;> rfl
  · simp at hv
theorem sim_sliceStr {lo hi : Option CO} {lo' hi' : Option Value} (hd : P.underlying t = some .string) (hu : VR σ (x.ev tm) u) (hlo : OVR σ (evM lo tm) lo') (hhi : OVR σ (evM hi tm) hi') (hv : rdSliceStr x lo hi tm A = some v) :
    ∃ v', (Instr.sliceAt t u lo' hi' none).run P w = .ok v' w ∧ VR σ v v' := by
  unfold rdSliceStr at hv
  split at hv
  · rename_i s he
    rw [he] at hu
    unfold subStr at hv
    split at hv
    · rename_i h l hh hl
      obtain ⟨hlh, hv⟩ := cond_ok hv
      have hlh := Nat.le_of_ble_eq_true hlh
      injection hv with hv
      subst hv
      rw [← ba_len] at hh hl
      have hb := bounds2 (P := P) (w := w) (isS := false) hlo hhi hh hl hlh (Nat.le_refl _)
      refine ⟨_, ?_, .clo rfl⟩
      rw [hu.str_inv]
      simp only [Instr.sliceAt, Instr.slice, Sem.run_bind, Sem.run_pure, Result.andThen_ok, run_underlying hd, Option.isSome_none, Bool.false_eq_true, if_false, hb, ba_ext]
    · simp at hv
  · simp at hv

/- Parts. -/
theorem part_r {off : Nat} {f : List Value → Option Value} {cs cs' : Array Value} (hf : partOf P t off = some f) (hr : VRs σ cs.toList cs'.toList) (hv : f cs.toList = some v) : ∃ v', (part t cs' off).run P w = .ok v' w ∧ VR σ v v' := by
  unfold partOf at hf
  split at hf
  · rename_i n ha hs
    injection hf with hf
    subst hf
    obtain ⟨hle, hv⟩ := cond_ok hv
    injection hv with hv
    subst hv
    refine ⟨.agg (cs'.extract off (off + n)), ?_, .agg ?_⟩
    · simp only [part, Sem.run_bind, isAgg_run ha, Result.andThen_ok, if_true, sizeOf_run hs, Sem.run_pure]
    · simpa using (hr.drop off).take n
  · rename_i n ha hs
    injection hf with hf
    subst hf
    obtain ⟨v', h1, h2⟩ := hr.get hv
    refine ⟨v', ?_, h2⟩
    have h3 : cs'[off]? = some v' := by simpa using h1
    simp only [part, Sem.run_bind, isAgg_run ha, Result.andThen_ok, Bool.false_eq_true, if_false, h3, Sem.run_pure]
  · simp at hf
theorem sim_fieldOf {fields : Array Field} {f : Nat} {fd : Field} {g : List Value → Option Value} (hd : P.underlying t = some (.struct fields)) (hf : fields.toList[f]? = some fd) (hg : partOf P fd.type fd.offset = some g) (hu : VR σ (x.ev tm) u) (hv : rdPart g x tm A = some v) :
    ∃ v', (Instr.field t u f).run P w = .ok v' w ∧ VR σ v v' := by
  unfold rdPart at hv
  split at hv
  · rename_i cs he
    rw [he] at hu
    obtain ⟨cs', rfl, hr⟩ := hu.agg_inv
    obtain ⟨v', h1, h2⟩ := part_r (w := w) hg hr hv
    have hf' : fields[f]? = some fd := by simpa using hf
    refine ⟨v', ?_, h2⟩
    simp only [Instr.field, Sem.run_bind, run_underlying hd, Result.andThen_ok, hf', asAgg, Sem.run_pure, h1]
  · simp at hv
theorem sim_indexOf {len size : Nat} {elem : TypeId} {g : Nat → List Value → Option Value} (hd : P.underlying t = some (.array len elem)) (hs : sizeT P elem = some size) (hg : ∀ off, partOf P elem off = some (g off)) (hu : VR σ (x.ev tm) u) (hu2 : VR σ (y.ev tm) u2) (hv : rdIndexAgg len size g x y tm A = some v) :
    ∃ v', (Instr.index t u u2).run P w = .ok v' w ∧ VR σ v v' := by
  unfold rdIndexAgg at hv
  split at hv
  · rename_i cs k n he he2
    rw [he] at hu
    rw [he2] at hu2
    obtain ⟨hlt, hv⟩ := cond_ok hv
    have hlt := blt_lt hlt
    obtain ⟨cs', rfl, hr⟩ := hu.agg_inv
    obtain ⟨v', h1, h2⟩ := part_r (w := w) (hg _) hr hv
    refine ⟨v', ?_, h2⟩
    rw [hu2.int_inv]
    simp only [Instr.index, asIntOf, Sem.run_bind, Sem.run_pure, Result.andThen_ok, run_underlying hd]
    rw [if_pos (by simp; omega)]
    simp only [Sem.run_bind, sizeOf_run hs, Result.andThen_ok]
    exact h1
  · simp at hv
theorem sim_extract {i : Nat} (hu : VR σ (x.ev tm) u) (hv : rdExtract i x tm A = some v) : ∃ v', (Instr.extract u i).run P w = .ok v' w ∧ VR σ v v' := by
  unfold rdExtract at hv
  split at hv
  · rename_i vs he
    rw [he] at hu
    obtain ⟨vs', rfl, hr⟩ := hu.tuple_inv
    obtain ⟨v', h1, h2⟩ := hr.get hv
    refine ⟨v', ?_, h2⟩
    have h3 : vs'[i]? = some v' := by simpa using h1
    simp only [Instr.extract, h3, Sem.run_pure]
  · simp at hv
theorem ERs.len {l l' : List MapEntry} (h : ERs σ l l') : l.length = l'.length := by
  induction h with
  | nil => rfl
  | cons hk hc hb hv t ih => simp [ih]
theorem sim_len {d : TypeDesc} {ty : TypeId} (h : St P w0 σ A X w) (hd : P.underlying t = some d) (hu : VR σ (x.ev tm) u) (hv : rdLen d x tm A = some v) : ∃ v', (Builtin.len_ #[t] ty #[u]).run P w = .ok v' w ∧ VR σ v v' := by
  unfold rdLen at hv
  split at hv
  · rename_i b n k he
    rw [he] at hu
    injection hv with hv
    subst hv
    obtain ⟨b', c, rfl, _⟩ := hu.slc_none
    exact ⟨_, by simp [Builtin.len_, run_underlying hd, goInt], .clo rfl⟩
  · rename_i s he
    rw [he] at hu
    injection hv with hv
    subst hv
    rw [hu.str_inv]
    exact ⟨_, by rw [← ba_len]; simp [Builtin.len_, run_underlying hd, goInt], .clo rfl⟩
  · rename_i he
    rw [he] at hu
    injection hv with hv
    subst hv
    rw [clo0_eq rfl hu]
    exact ⟨_, by simp [Builtin.len_, run_underlying hd, goInt], .clo rfl⟩
  · rename_i r he
    rw [he] at hu
    split at hv
    · rename_i es clock hg
      injection hv with hv
      subst hv
      obtain ⟨q, nn, zz, hb, rfl⟩ := hu.map_inv
      obtain ⟨es', h1, h2⟩ := h.entries hb hg
      refine ⟨_, ?_, .clo rfl⟩
      have hg : (getObj q).run P w = .ok (.map es' clock) w := by simp [getObj, Sem.run, h1]
      have hl : es'.size = es.length := by rw [h2.len]; rfl
      simp [Builtin.len_, run_underlying hd, hg, goInt, hl]
    · simp at hv
  · simp at hv
theorem sim_cap {e ty : TypeId} (hd : P.underlying t = some (.slice e)) (hu : VR σ (x.ev tm) u) (hv : rdCap x tm A = some v) : ∃ v', (Builtin.cap_ #[t] ty #[u]).run P w = .ok v' w ∧ VR σ v v' := by
  unfold rdCap at hv
  split at hv
  · rename_i a n k he
    rw [he] at hu
    obtain ⟨h1, hv⟩ := cond_ok hv
    have h1 := Nat.eq_of_beq_eq_true h1
    injection hv with hv
    subst hv
    refine ⟨_, ?_, .clo rfl⟩
    cases hu with
    | clo h => simp [clo0] at h
    | slc o n k c h h2 h3 h4 =>
      obtain rfl := h2 h1
      simp only [Builtin.cap_, List.getElem?_toArray, List.getElem?_cons_zero, Sem.run_bind, Sem.run_pure, Result.andThen_ok, run_underlying hd, goInt]
    | slc0 o o' k c h h2 h3 h4 =>
      obtain rfl : k = 1 := by omega
      obtain rfl := h3 rfl
      simp only [Builtin.cap_, List.getElem?_toArray, List.getElem?_cons_zero, Sem.run_bind, Sem.run_pure, Result.andThen_ok, run_underlying hd, goInt]
  · simp at hv
end
end Ev
end Go.Proofs.YtiglblfjmmdeeaaGreat

/- The evaluator: maps that are read, values that are built; all that reads. -/
namespace Go.Proofs.YtiglblfjmmdeeaaGreat
open Go.RowKit
namespace Ev

section
variable {P : Program} {w w0 : World} {σ : Sig} {A : AW} {X : Nat → Option AObj} {tm : TM} {v u u2 k : Value} {x y : CO} {t kt : TypeId} {d : TypeDesc}
def FR (σ : Sig) : Option (Nat × Value) → Option (Nat × Value) → Prop
  | none, none => True
  | some (i, v), some (j, v') => i = j ∧ VR σ v v'
  | _, _ => False
theorem findNow_r : ∀ {es es' : List MapEntry}, ERs σ es es' → ∀ i, (∀ r, Instr.findNow d k es i = some r → ∃ r', Instr.findNow d k es' i = some r' ∧ FR σ r r') ∧ (Instr.findNow d k es i = none → Instr.findNow d k es' i = none)
  | _, _, .nil, i => ⟨fun r h => ⟨none, rfl, by simp [Instr.findNow] at h; subst h; trivial⟩, fun h => by simp [Instr.findNow] at h⟩
  | e :: l, e' :: l', .cons hk hc hb hv t, i => by
    have ih := findNow_r t (i + 1)
    constructor
    · intro r h
      simp only [Instr.findNow, hk] at h ⊢
      split at h
      · injection h with h
        subst h
        exact ⟨_, rfl, rfl, hv⟩
      · exact ih.1 r h
      · simp at h
    · intro h
      simp only [Instr.findNow, hk] at h ⊢
      split at h
      · simp at h
      · exact ih.2 h
      · rfl
theorem findAsk_r : ∀ {es es' : List MapEntry}, ERs σ es es' → ∀ i r, findAsk P kt k es i = some r → ∃ r', (Instr.findAsking kt k es' i).run P w = .ok r' w ∧ FR σ r r'
  | _, _, .nil, i, r, h => ⟨none, rfl, by simp [findAsk] at h; subst h; trivial⟩
  | e :: l, e' :: l', .cons hk hc hb hv t, i, r, h => by
    simp only [findAsk] at h
    simp only [Instr.findAsking, Sem.run_bind, hk]
    split at h
    · rename_i hr
      injection h with h
      subst h
      refine ⟨some (i, e'.val), ?_, rfl, hv⟩
      simp only [run_pure_of hr w, Result.andThen_ok, if_true, Sem.run_pure]
    · rename_i hr
      obtain ⟨r', h1, h2⟩ := findAsk_r t (i + 1) r h
      refine ⟨r', ?_, h2⟩
      simp only [run_pure_of hr w, Result.andThen_ok, Bool.false_eq_true, if_false, h1]
    · simp at h
theorem find_r {es es' : List MapEntry} (hd : P.underlying kt = some d) (h : ERs σ es es') {r : Option (Nat × Value)} (hf : find P kt d k es = some r) : ∃ r', (Instr.findKey kt k es').run P w = .ok r' w ∧ FR σ r r' := by
  unfold find at hf
  split at hf
  · rename_i r2 hr
    injection hf with hf
    subst hf
    obtain ⟨r', h1, h2⟩ := (findNow_r h 0).1 _ hr
    exact ⟨r', by simp only [Instr.findKey, Sem.run_bind, run_underlying hd, Result.andThen_ok, h1, Sem.run_pure], h2⟩
  · rename_i hr
    obtain ⟨r', h1, h2⟩ := findAsk_r (w := w) h 0 r hf
    exact ⟨r', by simp only [Instr.findKey, Sem.run_bind, run_underlying hd, Result.andThen_ok, (findNow_r h 0).2 hr, h1], h2⟩
theorem keyOk_run {empty : Bool} (hd : P.underlying kt = some d) (h : keyOk P empty kt d k = true) : clo k = true ∧ (Instr.checkKey empty 10000 kt k).run P w = .ok () w := by
  unfold keyOk at h
  rw [Bool.and_eq_true] at h
  refine ⟨h.1, ?_⟩
  have h2 := h.2
  split at h2
  · have : ∀ n, (Instr.checkKey empty (n + 1) kt (.int (by assumption) (by assumption))).run P w = .ok () w := fun n => by
      simp only [Instr.checkKey, Sem.run_bind, run_underlying hd, Result.andThen_ok, Sem.run_pure]
    exact this 9999
  · obtain ⟨a, ha⟩ := Option.isSome_iff_exists.1 h2
    exact run_pure_of ha w
theorem entriesOf_r (h : St P w0 σ A X w) {q : Value} {es : List MapEntry} (hu : VR σ q u) (hg : entriesOf A q = some es) : (u = .map none ∧ es = []) ∨ ∃ r es' clock, u = .map (some r) ∧ ERs σ es es'.toList ∧ (getObj r).run P w = .ok (.map es' clock) w := by
  unfold entriesOf at hg
  split at hg
  · injection hg with hg
    exact .inl ⟨clo0_eq rfl hu, hg.symm⟩
  · split at hg
    · rename_i b es2 clock hb
      injection hg with hg
      subst hg
      obtain ⟨r, nn, zz, h1, rfl⟩ := hu.map_inv
      obtain ⟨es', h2, h3⟩ := h.entries h1 hb
      exact .inr ⟨r, es', clock, rfl, h3, by simp [getObj, Sem.run, h2]⟩
    · simp at hg
  · simp at hg
theorem ERs.empty {l : List MapEntry} {l' : Array MapEntry} (h : ERs σ l l'.toList) : l'.isEmpty = l.isEmpty := by
  obtain ⟨l'⟩ := l'
  cases h <;> rfl
theorem yield_r {ok b : Bool} {v v' : Value} (h : VR σ v v') : VR σ (yield2 ok v b) (if ok then .tuple #[v', .bool b] else v') := by
  cases ok
  · exact h
  · exact .tuple (.cons h (.cons (.clo rfl) .nil))
theorem sim_lookup {et : TypeId} {z : Value} {ok : Bool} (h : St P w0 σ A X w) (ht : P.underlying t = some (.map kt et)) (hd : P.underlying kt = some d) (hz : zeroT P et = some z) (hu : VR σ (x.ev tm) u) (hu2 : VR σ (y.ev tm) u2) (hv : rdLookup P kt d z x y ok tm A = some v) :
    ∃ v', (Instr.lookup t u u2 ok).run P w = .ok v' w ∧ VR σ v v' := by
  unfold rdLookup at hv
  split at hv
  · simp at hv
  · rename_i es hes
    obtain ⟨hk, hv⟩ := cond_ok hv
    obtain ⟨hc, hck⟩ := keyOk_run (w := w) hd hk
    obtain rfl := clo_eq hc hu2
    have key : ∀ es' : Array MapEntry, ERs σ es es'.toList → ∃ r', (Instr.findKey kt (y.ev tm) es'.toList).run P w = .ok r' w ∧ ∃ v' b, (match r' with | some (_, q) => q = v' ∧ b = true | none => z = v' ∧ b = false) ∧ VR σ v (if ok then .tuple #[v', .bool b] else v') := fun es' h1 => by
      split at hv
      · simp at hv
      · rename_i i q hf
        injection hv with hv
        subst hv
        obtain ⟨r', h3, h4⟩ := find_r (w := w) hd h1 hf
        cases r' with
        | none => exact h4.elim
        | some r' => exact ⟨_, h3, r'.2, true, ⟨rfl, rfl⟩, yield_r h4.2⟩
      · rename_i hf
        injection hv with hv
        subst hv
        obtain ⟨r', h3, h4⟩ := find_r (w := w) hd h1 hf
        cases r' with
        | some r' => exact h4.elim
        | none =>
          obtain ⟨_, _, _, hzc⟩ := zeroT_info hz
          exact ⟨_, h3, z, false, ⟨rfl, rfl⟩, yield_r (clo1_r σ hzc)⟩
    rcases entriesOf_r (P := P) h hu hes with ⟨rfl, rfl⟩ | ⟨r, es', clock, rfl, h1, h2⟩
    · obtain ⟨r', h3, v', b, h4, h5⟩ := key #[] .nil
      refine ⟨_, ?_, h5⟩
      have hck' : (Instr.checkKey (#[] : Array MapEntry).isEmpty 10000 kt (y.ev tm)).run P w = .ok () w := hck
      simp only [Instr.lookup, Sem.run_bind, run_underlying ht, Result.andThen_ok, hck', h3, Sem.run_pure]
      cases r' with
      | none =>
        obtain ⟨rfl, rfl⟩ := h4
        simp only [Sem.run_bind, zero_run hz, Result.andThen_ok, Sem.run_pure]
      | some r' =>
        obtain ⟨rfl, rfl⟩ := h4
        simp only [Sem.run_bind, Result.andThen_ok, Sem.run_pure]
    · obtain ⟨r', h3, v', b, h4, h5⟩ := key es' h1
      refine ⟨_, ?_, h5⟩
      rw [← h1.empty] at hck
      simp only [Instr.lookup, Sem.run_bind, run_underlying ht, Result.andThen_ok, h2, hck, h3, Sem.run_pure]
      cases r' with
      | none =>
        obtain ⟨rfl, rfl⟩ := h4
        simp only [Sem.run_bind, zero_run hz, Result.andThen_ok, Sem.run_pure]
      | some r' =>
        obtain ⟨rfl, rfl⟩ := h4
        simp only [Sem.run_bind, Result.andThen_ok, Sem.run_pure]

/- Values that are built. -/
theorem foldl_set (off : Nat) : ∀ (l : List Value) (k : Nat) (c : Array Value), off + k + l.length ≤ c.size →
    ((l.zipIdx k).foldl (fun cs (p : Value × Nat) => cs.setIfInBounds (off + p.2) p.1) c).toList = c.toList.take (off + k) ++ (l ++ c.toList.drop (off + k + l.length))
  | [], k, c, _ => by simp
  | v :: l, k, c, h => by
    simp only [List.zipIdx_cons, List.foldl_cons]
    simp only [List.length_cons] at h
    rw [foldl_set off l (k + 1) _ (by simp; omega)]
    have hk : off + k < c.toList.length := by simp; omega
    simp only [Array.toList_setIfInBounds]
    rw [List.take_set, show off + (k + 1) = (off + k) + 1 by omega, List.take_succ_eq_append_getElem hk, List.set_append_right _ _ (by simp; omega)]
    rw [List.drop_set_of_lt (by omega)]
    have : off + k - (c.toList.take (off + k)).length = 0 := by simp; omega
    rw [this]
    simp
    congr 1
    omega
theorem splice_r {c cs cr : List Value} {off : Nat} {l' : List Value} (hc : VRs σ c cr) (hl : VRs σ cs l') : VRs σ (c.take off ++ (cs ++ c.drop (off + cs.length))) (cr.take off ++ (l' ++ cr.drop (off + l'.length))) := by
  rw [← hl.len]
  exact (hc.take off).append (hl.append (hc.drop _))
theorem fill_r {ns : Nat} {ρ : Operand → Value} {place : Nat → Option (Nat × Nat)} : ∀ (ps : List (Nat × Operand)) (c : List Value) (cr : Array Value) (e : List Value), (∀ p ∈ ps, VR σ ((co ns p.2).ev tm) (ρ p.2)) → VRs σ c cr.toList → fillL place tm (ps.map fun p => (p.1, co ns p.2)) c = some e →
    ∃ er, Instr.fill place cr (ps.map fun p => (p.1, ρ p.2)) = some er ∧ VRs σ e er.toList
  | [], c, cr, e, _, hc, h => by simp [fillL] at h; subst h; exact ⟨cr, rfl, hc⟩
  | (i, z) :: ps, c, cr, e, hE, hc, h => by
    simp only [List.map_cons, fillL] at h
    simp only [List.map_cons, Instr.fill]
    split at h
    · simp at h
    · rename_i off size hp
      obtain ⟨hs, h⟩ := cond_ok h
      have hs := Nat.eq_of_beq_eq_true hs
      split at h
      · rename_i c' hsp
        unfold splice0 at hsp
        obtain ⟨hle, hsp⟩ := cond_ok hsp
        have hle := Nat.le_of_ble_eq_true hle
        injection hsp with hsp
        subst hsp
        have hz := (hE (i, z) (by simp)).cells
        have hlen := hz.len
        have hcl := hc.len
        have h1 : (ρ z).cells.size = size := by rw [← hs, hlen]; simp
        have h2 : off + (ρ z).cells.size ≤ cr.size := by
          have : cr.size = cr.toList.length := by simp
          rw [this, ← hcl, h1, ← hs]
          exact hle
        have hfold : ((ρ z).cells.zipIdx.foldl (fun cs (p : Value × Nat) => cs.setIfInBounds (off + p.2) p.1) cr).toList = cr.toList.take off ++ ((ρ z).cells.toList ++ cr.toList.drop (off + (ρ z).cells.toList.length)) := by
          rw [← Array.foldl_toList, Array.toList_zipIdx]
          have := foldl_set off (ρ z).cells.toList 0 cr (by simpa using h2)
          simpa using this
        obtain ⟨er, h3, h4⟩ := fill_r ps _ ((ρ z).cells.zipIdx.foldl (fun cs (p : Value × Nat) => cs.setIfInBounds (off + p.2) p.1) cr) e (fun p hp => hE p (by simp [hp])) (by rw [hfold]; exact splice_r hc hz) h
        refine ⟨er, ?_, h4⟩
        rw [hp]
        simp only
        rw [if_neg (by simp [h1]; omega)]
        exact h3
      · simp at h
theorem places_eq (fields : Array Field) : places P fields = fields.toList.mapM fun f => (P.info? f.type).map fun i => (f.offset, i.size) := by
  unfold places
  congr 1
  funext f
  unfold sizeT
  cases P.info? f.type <;> rfl
theorem sim_build {ns : Nat} {ρ : Operand → Value} {f : TM → AW → Option Value} {ps : Array (Nat × Operand)} (hci : ciBuild P ns t ps = some (.rd f)) (hE : ∀ p ∈ ps, VR σ ((co ns p.2).ev tm) (ρ p.2)) (hv : f tm A = some v) :
    ∃ v', (Instr.build t (ps.map fun p => (p.1, ρ p.2))).run P w = .ok v' w ∧ VR σ v v' := by
  unfold ciBuild at hci
  have key : ∀ (place : Nat → Option (Nat × Nat)) (z : Value), clo1 z = true → rdBuild place (cellsL z) (coParts ns ps) tm A = some v → ∃ er : Array Value, Instr.fill place z.cells (ps.map fun p => (p.1, ρ p.2)).toList = some er ∧ VR σ v (.agg er) := fun place z hz h => by
    unfold rdBuild aggOf at h
    split at h
    · rename_i cs hcs
      injection h with h
      subst h
      obtain ⟨er, h1, h2⟩ := fill_r (ρ := ρ) ps.toList (cellsL z) z.cells cs (fun p hp => hE p (by simpa using hp)) ((clo1_r σ hz).cells) hcs
      exact ⟨er, by simpa using h1, .agg h2⟩
    · simp at h
  split at hci
  · rename_i z fields hz hd
    split at hci
    · rename_i pl hpl
      injection hci with hci
      injection hci with hci
      subst hci
      obtain ⟨i, hi, hzi, hzc⟩ := zeroT_info hz
      obtain ⟨er, h1, h2⟩ := key _ z hzc hv
      refine ⟨_, run_build w t _ er ?_, h2⟩
      rw [places_eq] at hpl
      unfold Program.built
      have hd' : P.underlying t = some (.struct fields) := hd
      simp only [hi, hd', hzi, hpl]
      rw [← h1]
      congr 1
      funext j
      simp
    · simp at hci
  · rename_i z n elem hz hd
    split at hci
    · rename_i size hs
      injection hci with hci
      injection hci with hci
      subst hci
      obtain ⟨i, hi, hzi, hzc⟩ := zeroT_info hz
      obtain ⟨ie, hie, rfl⟩ := sizeT_info hs
      obtain ⟨er, h1, h2⟩ := key _ z hzc hv
      refine ⟨_, run_build w t _ er ?_, h2⟩
      unfold Program.built
      have hd' : P.underlying t = some (.array n elem) := hd
      simp only [hi, hd', hzi, hie]
      exact h1
    · simp at hci
  · simp at hci
end
end Ev
end Go.Proofs.YtiglblfjmmdeeaaGreat
