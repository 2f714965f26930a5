/- crc.Crc: what it reckons. -/
import Derived.Test.YtiglblfjmmdeeaaGreatSep
import Derived.Laws.BitsAllLaws
import Derived.Deep.DeepCutAuto
namespace Go.Proofs.YtiglblfjmmdeeaaGreat
open Go.RowKit

attribute [local go_sem] Oper.pureUpon Oper.relUpon

/-- One bit of the sum; so many bits; a byte; a row of bytes. -/
def crcBit (c : Nat) : Nat := if c &&& 1 = 1 then c / 2 ^^^ 3988292384 else c / 2
def crcBits : Nat → Nat → Nat
  | 0, c => c
  | k + 1, c => crcBit (crcBits k c)
def crcByte (c : Nat) (b : UInt8) : Nat := crcBits 8 (c ^^^ b.toNat)
def crcRow (l : List UInt8) : Nat := l.foldl crcByte 4294967295
def crcN (l : List UInt8) : Nat := 4294967295 ^^^ crcRow l

theorem xor_lt {a b : Nat} (ha : a < 4294967296) (hb : b < 4294967296) : a ^^^ b < 4294967296 := Nat.xor_lt_two_pow (n := 32) ha hb
theorem crcBit_lt {c : Nat} (h : c < 4294967296) : crcBit c < 4294967296 := by
  unfold crcBit
  split
  · exact xor_lt (by omega) (by omega)
  · omega
theorem crcBits_lt {c : Nat} (h : c < 4294967296) : ∀ k, crcBits k c < 4294967296
  | 0 => h
  | k + 1 => crcBit_lt (crcBits_lt h k)
theorem crcByte_lt {c : Nat} (h : c < 4294967296) (b : UInt8) : crcByte c b < 4294967296 := crcBits_lt (xor_lt h (by have := b.toNat_lt; omega)) 8
theorem crcFold_lt : ∀ (l : List UInt8) (c : Nat), c < 4294967296 → l.foldl crcByte c < 4294967296
  | [], _, h => h
  | b :: l, c, h => crcFold_lt l _ (crcByte_lt h b)
theorem crcRow_lt (l : List UInt8) : crcRow l < 4294967296 := crcFold_lt l _ (by omega)
theorem crcN_lt (l : List UInt8) : crcN l < 4294967296 := xor_lt (by omega) (crcRow_lt l)
theorem crcRow_take (l : List UInt8) (k : Nat) (b : UInt8) (h : l[k]? = some b) : crcRow (l.take (k + 1)) = crcByte (crcRow (l.take k)) b := by
  unfold crcRow
  rw [List.take_add_one, h]
  simp

set_option maxRecDepth 100000 in
theorem crc_calls (w : World) (B : Nat) (A : Option Addr) (n c : Nat) (l : List UInt8) (hr : Reads w B 1 A n (bys l)) (hn : n ≤ 100000000) :
    Calls Tryz.prog 173 #[.slice A n c] w fun e w' => e = .returned (.int .u32 (crcN l : Int)) ∧ w = w' := by
  go_enter Tryz.func173, Tryz.ntmps173
  go_wp2_with fail
  go_loopw [3, 9] (fun x i wr => ∃ k : Nat, k ≤ n ∧ i = .int .i64 (k : Int) ∧ x = .int .u32 (crcRow (l.take k) : Int) ∧ wr = w) (fun _ i _ => n - (intOf i).toNat)
  case atStart => exact ⟨0, by omega, rfl, rfl, rfl⟩
  case round =>
    obtain ⟨k, hk, rfl, rfl, hw⟩ := hrel
    obtain rfl := hw.symm
    obtain ⟨q, hq⟩ : ∃ q, crcRow (l.take k) = q := ⟨_, rfl⟩
    have hql : q < 4294967296 := hq ▸ crcRow_lt _
    by_cases hlt : k < n
    · obtain ⟨ad, u, rfl, _, hx, hcl⟩ := hr.at_ hlt
      obtain ⟨b, rfl, hlk⟩ : ∃ b : UInt8, u = .int .u8 (b.toNat : Int) ∧ l[k]? = some b := by
        rw [bys_get] at hx
        cases hlk : l[k]? with
        | none => rw [hlk] at hx; cases hx
        | some c => rw [hlk] at hx; exact ⟨c, (Option.some.inj hx).symm, rfl⟩
      have h0 : (0 : Int) ≤ (k : Int) := by omega
      have h1 : (k : Int) < (n : Int) := by omega
      have hstep := crcRow_take l k b hlk
      rw [hq] at hstep ⊢
      obtain ⟨z, hz⟩ : ∃ z, b.toNat = z := ⟨_, rfl⟩
      have hzl : z < 256 := hz ▸ b.toNat_lt
      have hby : crcByte q b = crcBits 8 (q ^^^ z) := by unfold crcByte; rw [hz]
      rw [hz] at hcl
      have HBY := Lib.hid hby
      have HST := Lib.hid hstep
      have hxor : bits BinOp.xor IntKind.u32 (q : Int) (z : Int) = ((q ^^^ z : Nat) : Int) := u32_xor_nat q z hql (by omega)
      have hxl : q ^^^ z < 4294967296 := xor_lt hql (by omega)
      obtain ⟨y, hy⟩ : ∃ y, q ^^^ z = y := ⟨_, rfl⟩
      rw [hy] at hxor hxl
      have HY := Lib.hid hy
      clear hy hby hstep hx hlk hz hq
      go_wp2_with fail
      go_loopw [3, 6, 17] (fun x _ i wr => ∃ k : Nat, k ≤ 8 ∧ i = .int .i64 (k : Int) ∧ x = .int .u32 (crcBits k y : Int) ∧ wr = w) (fun _ _ i _ => 8 - (intOf i).toNat)
      case atStart => exact ⟨0, by omega, rfl, rfl, rfl⟩
      case round =>
        obtain ⟨j, hj, rfl, rfl, hw⟩ := hrel
        obtain rfl := hw.symm
        have hcl2 := crcBits_lt hxl j
        have hb : crcBits (j + 1) y = crcBit (crcBits j y) := rfl
        obtain ⟨v, hv⟩ : ∃ v, crcBits j y = v := ⟨_, rfl⟩
        rw [hv] at hb hcl2 ⊢
        have HV := Lib.hid hv
        clear hv
        by_cases hj8 : j < 8
        · have hand : bits BinOp.and IntKind.u32 (v : Int) 1 = ((v &&& 1 : Nat) : Int) := u32_and_nat v 1 hcl2 (by omega)
          have hhalf : v / 2 < 4294967296 := by omega
          have hxr : bits BinOp.xor IntKind.u32 ((v : Int) / 2) 3988292384 = ((v / 2 ^^^ 3988292384 : Nat) : Int) := u32_xor_nat (v / 2) 3988292384 hhalf (by omega)
          unfold crcBit at hb
          by_cases hbit : v &&& 1 = 1
          · rw [if_pos hbit] at hb
            rw [hbit] at hand
            have HB := Lib.hid hb
            clear hb hbit
            go_wp2_with fail
            go_roundw
            case rel => exact ⟨j + 1, by omega, by go_num, by rw [HB.out], trivial⟩
            case measure => simp [intOf]; omega
          · rw [if_neg hbit] at hb
            have h0 : v &&& 1 = 0 := by have := Nat.and_one_is_mod v; omega
            rw [h0] at hand
            have HB := Lib.hid hb
            clear hb hbit h0
            go_wp2_with fail
            go_roundw
            case rel => exact ⟨j + 1, by omega, by go_num, by rw [HB.out]; rfl, trivial⟩
            case measure => simp [intOf]; omega
        · have h8 : j = 8 := by omega
          subst h8
          clear hb
          go_wp2_with fail
          go_roundw
          case rel => exact ⟨k + 1, by omega, by go_num, by rw [HST.out, HBY.out, HY.out, HV.out], trivial⟩
          case measure => simp [intOf]; omega
    · have h1 : ¬ (k : Int) < (n : Int) := by omega
      have hxm : bits BinOp.xor IntKind.u32 IntKind.u32.max (q : Int) = ((4294967295 ^^^ q : Nat) : Int) := u32_xor_nat 4294967295 q (by omega) hql
      have hfin : crcN l = 4294967295 ^^^ q := by
        unfold crcN
        rw [← hq, List.take_of_length_le (by have := hr.len; omega)]
      rw [hq]
      have HF := Lib.hid hfin
      clear hq hfin
      go_wp2_with fail
      go_ret
      exact ⟨congrArg (fun z : Nat => Ending.returned (Value.int .u32 (z : Int))) HF.out.symm, rfl⟩

end Go.Proofs.YtiglblfjmmdeeaaGreat
