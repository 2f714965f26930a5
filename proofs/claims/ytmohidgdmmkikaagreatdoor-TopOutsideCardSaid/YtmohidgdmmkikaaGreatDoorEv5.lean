/- The evaluator: more operations that read. -/
import Derived.Test.YtmohidgdmmkikaaGreatDoorEv4
import Derived.Laws.Strings
import Derived.Laws.BytesString
import Derived.Laws.IdiomStrings
import Derived.IntWalk
namespace Go.Proofs.YtmohidgdmmkikaaGreatDoor
open Go.RowKit
namespace Ev

theorem cond_ok {α : Type} {c : Bool} {x : Option α} {v : α} (h : (bif c then x else none) = some v) : c = true ∧ x = some v := by
  cases c
  · simp at h
  · exact ⟨rfl, h⟩
theorem blt_lt {m n : Nat} (h : Nat.blt m n = true) : m < n := Nat.le_of_ble_eq_true h
/- Ints. -/
theorem beq_eq (m n : Nat) : Nat.beq m n = decide (m = n) := by
  cases h : Nat.beq m n
  · exact (decide_eq_false (Nat.ne_of_beq_eq_false h)).symm
  · exact (decide_eq_true (Nat.eq_of_beq_eq_true h)).symm
theorem blt_eq (m n : Nat) : Nat.blt m n = decide (m < n) := by
  cases h : Nat.blt m n
  · refine (decide_eq_false fun hl => ?_).symm
    rw [show Nat.blt m n = true from Nat.ble_eq_true_of_le hl] at h
    cases h
  · exact (decide_eq_true (blt_lt h)).symm
theorem eqI_eq (a b : Int) : eqI a b = (a == b) := by
  rw [show (a == b) = decide (a = b) from rfl]
  cases a <;> cases b <;> simp only [eqI, beq_eq] <;> simp <;> omega
theorem ltI_eq (a b : Int) : ltI a b = decide (a < b) := by
  cases a <;> cases b <;> simp only [ltI, blt_eq] <;> simp <;> omega
theorem wrap_u {k : IntKind} (hk : k.signed = false) (n : Int) : k.wrap n = n % (2 ^ k.bits : Int) := by
  unfold IntKind.wrap
  simp [hk]
theorem nat63 (m : Nat) (h : m < 9223372036854775808) : -9223372036854775808 ≤ (Int.ofNat m) ∧ (Int.ofNat m) ≤ 9223372036854775807 := by
  rw [Int.ofNat_eq_natCast]; omega
theorem neg63 (m : Nat) (h : m < 9223372036854775808) : -9223372036854775808 ≤ (Int.negSucc m) ∧ (Int.negSucc m) ≤ 9223372036854775807 := by
  rw [Int.negSucc_eq]; omega
theorem wrapI_eq (k : IntKind) (n : Int) : wrapI k n = k.wrap n := by
  unfold wrapI
  split
  · rename_i m
    rw [blt_eq]
    by_cases h : m < 9223372036854775808
    · rw [decide_eq_true h, cond_true]
      exact (IntWalk.i64_in _ (nat63 m h)).symm
    · rw [decide_eq_false h, cond_false]
  · rename_i m
    rw [blt_eq]
    by_cases h : m < 9223372036854775808
    · rw [decide_eq_true h, cond_true]
      exact (IntWalk.i64_in _ (neg63 m h)).symm
    · rw [decide_eq_false h, cond_false]
  · rename_i m
    rw [wrap_u (k := .u8) rfl]; rfl
  · rename_i m
    rw [wrap_u (k := .u32) rfl]; rfl
  · rename_i m
    rw [wrap_u (k := .u64) rfl]; rfl
  · rfl

section
variable {P : Program} {w : World} {σ : Sig} {A : AW} {tm : TM} {v u u2 : Value} {x y : CO} {t : TypeId}
theorem eqGuard_ints (op : BinOp) (p q : Operand) (k l : IntKind) (a b : Int) : (eqGuard op t p q (.int k a) (.int l b)).run P w = .ok () w := by
  unfold eqGuard
  cases op <;> rfl
theorem eqGuard_strs (op : BinOp) (p q : Operand) (a b : ByteArray) : (eqGuard op t p q (.string a) (.string b)).run P w = .ok () w := by
  unfold eqGuard
  cases op <;> rfl
theorem natOp_inv {f : Nat → Nat → Nat} {k : IntKind} {a b : Int} (h : natOp f k a b = some v) : ∃ m n, a = Int.ofNat m ∧ b = Int.ofNat n ∧ k.signed = false ∧ m < 2 ^ k.bits ∧ n < 2 ^ k.bits ∧ v = .int k (.ofNat (f m n)) := by
  cases a <;> cases b <;> try (simp [natOp] at h; done)
  rename_i m n
  cases k <;> try (simp [natOp] at h; done)
  all_goals
    simp only [natOp] at h
    obtain ⟨h1, h2⟩ := cond_ok h
    rw [Bool.and_eq_true] at h1
    injection h2 with h2
    exact ⟨m, n, rfl, rfl, rfl, blt_lt h1.1, blt_lt h1.2, h2.symm⟩
theorem ofInt_nat (k n : Nat) (h : n < 2 ^ k) : (BitVec.ofInt k (Int.ofNat n)).toNat = n := by
  simp
  exact Nat.mod_eq_of_lt h
theorem run_bits {f : Nat → Nat → Nat} {k : IntKind} {m n : Nat} {op : BinOp} {g : BitVec k.bits → BitVec k.bits → BitVec k.bits} (hs : k.signed = false) (hm : m < 2 ^ k.bits) (hn : n < 2 ^ k.bits)
    (hg : ∀ a b : BitVec k.bits, (g a b).toNat = f a.toNat b.toNat)
    (hop : Op.intBits op k (.ofNat m) (.ofNat n) = pure (.int k (k.wrap (g (BitVec.ofInt k.bits (.ofNat m)) (BitVec.ofInt k.bits (.ofNat n))).toNat))) :
    (Op.intBits op k (.ofNat m) (.ofNat n)).run P w = .ok (.int k (.ofNat (f m n))) w := by
  rw [hop, Sem.run_pure, hg, ofInt_nat _ _ hm, ofInt_nat _ _ hn]
  congr 1
  rw [wrap_u hs]
  have hlt : f m n < 2 ^ k.bits := by
    have h1 := (g (BitVec.ofInt k.bits (.ofNat m)) (BitVec.ofInt k.bits (.ofNat n))).isLt
    rw [hg, ofInt_nat _ _ hm, ofInt_nat _ _ hn] at h1
    exact h1
  rw [Int.emod_eq_of_lt (Int.natCast_nonneg _) (by exact_mod_cast hlt)]
  rfl
theorem run_int2 {op : BinOp} {f : IntKind → Int → Int → Option Value} (hf : intOp op = some f) {k : IntKind} {a b : Int} (hv : f k a b = some v) : (binOp op t (.int k a) (.int k b)).run P w = .ok v w := by
  cases op <;> simp only [intOp, Option.some.injEq, reduceCtorEq] at hf <;> subst hf <;> try simp only [Option.some.injEq] at hv
  case and =>
    obtain ⟨m, n, rfl, rfl, hs, hm, hn, rfl⟩ := natOp_inv hv
    simp only [binOp, ne_eq, not_true, if_false]
    exact run_bits (g := fun a b => a &&& b) hs hm hn (fun a b => BitVec.toNat_and a b) rfl
  case or =>
    obtain ⟨m, n, rfl, rfl, hs, hm, hn, rfl⟩ := natOp_inv hv
    simp only [binOp, ne_eq, not_true, if_false]
    exact run_bits (g := fun a b => a ||| b) hs hm hn (fun a b => BitVec.toNat_or a b) rfl
  case xor =>
    obtain ⟨m, n, rfl, rfl, hs, hm, hn, rfl⟩ := natOp_inv hv
    simp only [binOp, ne_eq, not_true, if_false]
    exact run_bits (g := fun a b => a ^^^ b) hs hm hn (fun a b => BitVec.toNat_xor a b) rfl
  case geq =>
    subst hv
    simp only [binOp, ne_eq, not_true, if_false, Op.intCmp, ltI_eq, Sem.run_pure]
    congr 2
    rw [Bool.eq_iff_iff]
    simp
  case leq =>
    subst hv
    simp only [binOp, ne_eq, not_true, if_false, Op.intCmp, ltI_eq, Sem.run_pure]
    congr 2
    rw [Bool.eq_iff_iff]
    simp
  case neq =>
    subst hv
    simp only [binOp, ne_eq, not_true, if_false, Op.intCmp, eqI_eq, Sem.run_pure]
    rfl
  all_goals
    subst hv
    simp only [binOp, ne_eq, not_true, if_false, Op.intArith, Op.intCmp, wrapI_eq, eqI_eq, ltI_eq, Sem.run_pure]
theorem sim_ints {op : BinOp} {f : IntKind → Int → Int → Option Value} {ρ : Operand → Value} {o : Oper} {p q : Operand} {yt : TypeId} (ho : o.op = .binOp op t p q yt) (hf : intOp op = some f) (hu : VR σ (x.ev tm) (ρ p)) (hu2 : VR σ (y.ev tm) (ρ q)) (hv : rdInts f x y tm A = some v) :
    ∃ v', (execOp ρ o).run P w = .ok (.value v') w ∧ VR σ v v' := by
  unfold rdInts at hv
  split at hv
  · rename_i k a l b he he2
    obtain ⟨hkl, hv2⟩ := cond_ok hv
    obtain rfl := of_decide_eq_true hkl
    clear hv
    rw [he] at hu
    rw [he2] at hu2
    have hv : f k a b = some v := hv2
    refine ⟨v, ?_, ?_⟩
    · simp only [execOp, ho, hu.int_inv, hu2.int_inv, Sem.run_bind, eqGuard_ints, Result.andThen_ok, run_int2 hf hv, Sem.run_pure]
    · cases op <;> simp only [intOp, Option.some.injEq, reduceCtorEq] at hf <;> subst hf <;> first
        | (simp only [Option.some.injEq] at hv; subst hv; exact .clo rfl)
        | (obtain ⟨m, n, rfl, rfl, hs, hm, hn, rfl⟩ := natOp_inv hv; exact .clo rfl)
  · simp at hv
theorem sim_shr {ρ : Operand → Value} {o : Oper} {p q : Operand} {yt : TypeId} (ho : o.op = .binOp .shr t p q yt) (hu : VR σ (x.ev tm) (ρ p)) (hu2 : VR σ (y.ev tm) (ρ q)) (hv : rdShr x y tm A = some v) :
    ∃ v', (execOp ρ o).run P w = .ok (.value v') w ∧ VR σ v v' := by
  unfold rdShr at hv
  split at hv
  · rename_i k m l n he he2
    obtain ⟨hle, hv⟩ := cond_ok hv
    have hle := Nat.le_of_ble_eq_true hle
    injection hv with hv
    subst hv
    rw [he] at hu
    rw [he2] at hu2
    refine ⟨_, ?_, .clo rfl⟩
    have hs : (Op.shift .shr k (.ofNat m) l (.ofNat n)).run P w = .ok (.int k (.ofNat (m >>> n))) w := by
      unfold Op.shift
      rw [if_neg (by simp)]
      simp only [Sem.run_pure]
      congr 2
      have : min (Int.ofNat n).toNat k.bits = n := Nat.min_eq_left hle
      rw [this, Nat.shiftRight_eq_div_pow]
      rw [Int.fdiv_eq_ediv_of_nonneg _ (by exact_mod_cast Nat.zero_le (2 ^ n))]
      simp
    simp only [execOp, ho, hu.int_inv, hu2.int_inv, Sem.run_bind, eqGuard_ints, Result.andThen_ok, binOp, hs, Sem.run_pure]
  · simp at hv
end
end Ev
end Go.Proofs.YtmohidgdmmkikaaGreatDoor
