/- The evaluator: texts, nil, slices, parts: operations that read. -/
import Derived.Test.YtmohidgdmmkikaaGreatDoorEv5
namespace Go.Proofs.YtmohidgdmmkikaaGreatDoor
open Go.RowKit
namespace Ev

theorem eqB_eq : ∀ (l m : List UInt8), eqB l m = (l == m)
  | [], [] => rfl
  | [], _ :: _ => rfl
  | _ :: _, [] => rfl
  | a :: l, b :: m => by
    simp only [eqB, beq_eq, List.cons_beq_cons, eqB_eq l m]
    by_cases h : a.toNat = b.toNat
    · have : a = b := UInt8.toNat_inj.1 h
      simp [this]
    · have : ¬ a = b := fun e => h (by rw [e])
      simp [h, this]
theorem ba_get (s : ByteArray) (n : Nat) : s[n]? = s.data.toList[n]? := by
  by_cases h : n < s.size
  · rw [ByteArray.getElem?_lt' s n h, List.getElem?_eq_getElem (by simpa using h)]
    rfl
  · have h2 : ¬ n < s.data.toList.length := by simpa using h
    rw [List.getElem?_eq_none (by omega)]
    simp [h]
theorem ba_len (s : ByteArray) : s.size = s.data.toList.length := by cases s; rfl
theorem ba_ext (s : ByteArray) (l h : Nat) : s.extract l h = ⟨⟨(s.data.toList.drop l).take (h - l)⟩⟩ := by
  apply ByteArray.ext
  simp [ByteArray.data_extract]
  apply Array.ext'
  simp

section
variable {P : Program} {w w0 : World} {σ : Sig} {A : AW} {X : Nat → Option AObj} {tm : TM} {v u u2 : Value} {x y : CO} {t : TypeId}
theorem run_str2 {op : BinOp} {f : ByteArray → ByteArray → Option Value} (hf : strOp op = some f) {a b : ByteArray} (hv : f a b = some v) : (binOp op t (.string a) (.string b)).run P w = .ok v w ∧ VR σ v v := by
  cases op <;> simp only [strOp, Option.some.injEq, reduceCtorEq] at hf <;> subst hf
  case eql =>
    simp only [Option.some.injEq] at hv
    subst hv
    refine ⟨?_, .clo rfl⟩
    simp only [binOp, Op.stringOp, Sem.run_pure, ByteArray.toList_eq, eqB_eq]
  case neq =>
    simp only [Option.some.injEq] at hv
    subst hv
    refine ⟨?_, .clo rfl⟩
    simp only [binOp, Op.stringOp, Sem.run_pure, ByteArray.toList_eq, eqB_eq]
  case add =>
    obtain ⟨hle, hv⟩ := cond_ok hv
    have hle := Nat.le_of_ble_eq_true hle
    injection hv with hv
    subst hv
    refine ⟨?_, .clo rfl⟩
    have h1 : ¬ ((a.size + b.size : Nat) : Int) > IntKind.i64.max := by
      rw [ba_len, ba_len]
      have : IntKind.i64.max = 9223372036854775807 := rfl
      rw [this]
      omega
    simp only [binOp, Op.stringOp, h1, if_false, Sem.run_pure]
    congr 2
theorem sim_strs {op : BinOp} {f : ByteArray → ByteArray → Option Value} {ρ : Operand → Value} {o : Oper} {p q : Operand} {yt : TypeId} (ho : o.op = .binOp op t p q yt) (hf : strOp op = some f) (hu : VR σ (x.ev tm) (ρ p)) (hu2 : VR σ (y.ev tm) (ρ q)) (hv : rdStrs f x y tm A = some v) :
    ∃ v', (execOp ρ o).run P w = .ok (.value v') w ∧ VR σ v v' := by
  unfold rdStrs at hv
  split at hv
  · rename_i a b he he2
    rw [he] at hu
    rw [he2] at hu2
    obtain ⟨h1, h2⟩ := run_str2 (σ := σ) (P := P) (w := w) (t := t) hf hv
    refine ⟨v, ?_, h2⟩
    simp only [execOp, ho, hu.str_inv, hu2.str_inv, Sem.run_bind, eqGuard_strs, Result.andThen_ok, h1, Sem.run_pure]
  · simp at hv
theorem sim_conv {k : IntKind} {src dst : TypeId} {ds : TypeDesc} (hs : P.underlying src = some ds) (hd : P.underlying dst = some (.int k)) (hu : VR σ (x.ev tm) u) (hv : rdConv k x tm A = some v) : ∃ v', (convert src dst u).run P w = .ok v' w ∧ VR σ v v' := by
  unfold rdConv at hv
  split at hv
  · rename_i l n he
    rw [he] at hu
    injection hv with hv
    subst hv
    refine ⟨_, ?_, .clo rfl⟩
    rw [hu.int_inv, wrapI_eq]
    simp only [convert, Sem.run_bind, run_underlying hs, run_underlying hd, Result.andThen_ok, Conv.intToInt, Sem.run_pure]
  · simp at hv
theorem sim_not (hu : VR σ (x.ev tm) u) (hv : rdNot x tm A = some v) : ∃ v', (Op.unary .not u).run P w = .ok v' w ∧ VR σ v v' := by
  unfold rdNot at hv
  split at hv
  · rename_i b he
    rw [he] at hu
    injection hv with hv
    subst hv
    exact ⟨_, by rw [hu.bool_inv]; rfl, .clo rfl⟩
  · simp at hv
theorem sim_byteAt (hd : P.underlying t = some .string) (hu : VR σ (x.ev tm) u) (hu2 : VR σ (y.ev tm) u2) (hv : rdByteAt x y tm A = some v) : ∃ v', (Instr.index t u u2).run P w = .ok v' w ∧ VR σ v v' := by
  unfold rdByteAt at hv
  split at hv
  · rename_i s k n he he2
    rw [he] at hu
    rw [he2] at hu2
    split at hv
    · rename_i b hb
      injection hv with hv
      subst hv
      refine ⟨_, ?_, .clo rfl⟩
      have h3 : (if (0 : Int) ≤ Int.ofNat n then s[(Int.ofNat n).toNat]? else none) = some b := by
        rw [if_pos (by simp)]
        show s[n]? = some b
        rw [ba_get, hb]
      rw [hu.str_inv, hu2.int_inv]
      simp only [Instr.index, asIntOf, Sem.run_bind, Sem.run_pure, Result.andThen_ok, run_underlying hd, h3]
      rfl
    · simp at hv
  · simp at hv
theorem VR.ptr_none {b : Option Addr} (h : VR σ (.pointer b) u) : ∃ b', u = .pointer b' ∧ b'.isNone = b.isNone := by
  cases h with
  | clo h => exact ⟨_, rfl, rfl⟩
  | ptr o h => exact ⟨_, rfl, rfl⟩
theorem VR.slc_none {b : Option Addr} {n k : Nat} (h : VR σ (.slice b n k) u) : ∃ b' c, u = .slice b' n c ∧ b'.isNone = b.isNone := by
  cases h with
  | clo h => exact ⟨_, _, rfl, rfl⟩
  | slc o n k c h h1 h2 h3 => exact ⟨_, _, rfl, rfl⟩
  | slc0 o o' k c h h1 h2 h3 => exact ⟨_, _, rfl, rfl⟩
theorem VR.map_none {b : Option Nat} (h : VR σ (.map b) u) : ∃ b', u = .map b' ∧ b'.isNone = b.isNone := by
  cases h with
  | clo h => exact ⟨_, rfl, rfl⟩
  | map h => exact ⟨_, rfl, rfl⟩
theorem none_of {α : Type} {b : Option α} (h : b.isNone = true) : b = none := by cases b <;> simp at h ⊢
theorem some_of {α : Type} {b : Option α} (h : b.isNone = false) : ∃ a, b = some a := by cases b <;> simp at h ⊢
theorem aequal_run {d : TypeDesc} {p q : Value} {b : Bool} (hd : P.underlying t = some d) (hp : VR σ p u) (hq : VR σ q u2) (h : aequal d p q = some b) : (∀ n, (Op.equalIn (n + 1) t u u2).run P w = .ok b w) ∧ (∀ op p q, (eqGuard op t p q u u2).run P w = .ok () w) ∧ binOp .eql t u u2 = (do pure (.bool (← Op.equal t u u2))) ∧ binOp .neq t u u2 = (do pure (.bool (!(← Op.equal t u u2)))) := by
  unfold aequal at h
  split at h
  · injection h with h
    subst h
    obtain ⟨b1, rfl, h1⟩ := hp.ptr_none
    obtain ⟨b2, rfl, h2⟩ := hq.ptr_none
    obtain rfl := none_of h1
    refine ⟨fun n => ?_, fun op _ _ => by cases op <;> rfl, ?_, ?_⟩
    · simp only [Op.equalIn, Sem.run_bind, run_underlying hd, Result.andThen_ok, Sem.run_pure, h2]
    all_goals (cases b2 <;> rfl)
  · injection h with h
    subst h
    obtain ⟨b1, rfl, h1⟩ := hp.ptr_none
    obtain ⟨b2, rfl, h2⟩ := hq.ptr_none
    obtain rfl := none_of h2
    obtain ⟨a1, rfl⟩ := some_of h1
    refine ⟨fun n => ?_, fun op _ _ => by cases op <;> rfl, rfl, rfl⟩
    simp only [Op.equalIn, Sem.run_bind, run_underlying hd, Result.andThen_ok, Sem.run_pure]
  · injection h with h
    subst h
    obtain ⟨b1, c1, rfl, h1⟩ := hp.slc_none
    obtain ⟨b2, c2, rfl, h2⟩ := hq.slc_none
    obtain rfl := none_of h1
    refine ⟨fun n => ?_, fun op _ _ => by cases op <;> rfl, rfl, rfl⟩
    simp only [Op.equalIn, Sem.run_bind, run_underlying hd, Result.andThen_ok, Sem.run_pure, h2]
  · injection h with h
    subst h
    obtain ⟨b1, c1, rfl, h1⟩ := hp.slc_none
    obtain ⟨b2, c2, rfl, h2⟩ := hq.slc_none
    obtain rfl := none_of h2
    obtain ⟨a1, rfl⟩ := some_of h1
    refine ⟨fun n => ?_, fun op _ _ => by cases op <;> rfl, rfl, rfl⟩
    simp only [Op.equalIn, Sem.run_bind, run_underlying hd, Result.andThen_ok, Sem.run_pure]
  · injection h with h
    subst h
    obtain ⟨b1, rfl, h1⟩ := hp.map_none
    obtain ⟨b2, rfl, h2⟩ := hq.map_none
    obtain rfl := none_of h1
    refine ⟨fun n => ?_, fun op _ _ => by cases op <;> rfl, rfl, rfl⟩
    simp only [Op.equalIn, Sem.run_bind, run_underlying hd, Result.andThen_ok, Sem.run_pure, h2]
  · injection h with h
    subst h
    obtain ⟨b1, rfl, h1⟩ := hp.map_none
    obtain ⟨b2, rfl, h2⟩ := hq.map_none
    obtain rfl := none_of h2
    obtain ⟨a1, rfl⟩ := some_of h1
    refine ⟨fun n => ?_, fun op _ _ => by cases op <;> rfl, rfl, rfl⟩
    simp only [Op.equalIn, Sem.run_bind, run_underlying hd, Result.andThen_ok, Sem.run_pure]
  · injection h with h
    subst h
    obtain rfl := clo0_eq rfl hp
    obtain ⟨a1, c1, rfl, _, _⟩ := hq.func_inv
    refine ⟨fun n => ?_, fun op _ _ => by cases op <;> rfl, rfl, rfl⟩
    simp only [Op.equalIn, Sem.run_bind, run_underlying hd, Result.andThen_ok, Sem.run_pure]
  · injection h with h
    subst h
    obtain rfl := clo0_eq rfl hq
    obtain ⟨a1, c1, rfl, _, _⟩ := hp.func_inv
    refine ⟨fun n => ?_, fun op _ _ => by cases op <;> rfl, rfl, rfl⟩
    simp only [Op.equalIn, Sem.run_bind, run_underlying hd, Result.andThen_ok, Sem.run_pure]
  · injection h with h
    subst h
    obtain rfl := clo0_eq rfl hp
    obtain ⟨a1, rfl, _⟩ := hq.iface_inv
    refine ⟨fun n => ?_, fun op _ _ => by cases op <;> rfl, rfl, rfl⟩
    simp only [Op.equalIn, Sem.run_bind, run_underlying hd, Result.andThen_ok, Sem.run_pure]
  · injection h with h
    subst h
    obtain rfl := clo0_eq rfl hq
    obtain ⟨a1, rfl, _⟩ := hp.iface_inv
    refine ⟨fun n => ?_, fun op _ _ => by cases op <;> rfl, rfl, rfl⟩
    simp only [Op.equalIn, Sem.run_bind, run_underlying hd, Result.andThen_ok, Sem.run_pure]
  · simp at h
theorem sim_nil {neg : Bool} {d : TypeDesc} {ρ : Operand → Value} {o : Oper} {op : BinOp} {p q : Operand} {yt : TypeId} (ho : o.op = .binOp op t p q yt) (hop : op = if neg then .neq else .eql) (hd : P.underlying t = some d) (hu : VR σ (x.ev tm) (ρ p)) (hu2 : VR σ (y.ev tm) (ρ q)) (hv : rdNil neg d x y tm A = some v) :
    ∃ v', (execOp ρ o).run P w = .ok (.value v') w ∧ VR σ v v' := by
  unfold rdNil at hv
  split at hv
  · rename_i b he
    injection hv with hv
    subst hv
    obtain ⟨h1, h2, h3, h4⟩ := aequal_run (w := w) hd hu hu2 he
    have h5 : (Op.equal t (ρ p) (ρ q)).run P w = .ok b w := h1 9999
    refine ⟨_, ?_, .clo rfl⟩
    cases neg
    · simp only [Bool.false_eq_true, if_false] at hop
      subst hop
      simp only [execOp, ho, Sem.run_bind, h2, Result.andThen_ok, h3, h5, Sem.run_pure]
      cases b <;> rfl
    · simp only [if_true] at hop
      subst hop
      simp only [execOp, ho, Sem.run_bind, h2, Result.andThen_ok, h4, h5, Sem.run_pure]
      cases b <;> rfl
  · simp at hv
end
end Ev
end Go.Proofs.YtmohidgdmmkikaaGreatDoor
