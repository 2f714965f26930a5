/- The evaluator: the operations that read. -/
import Derived.Test.YtmohidgdmmkikaaGreatDoorEv3
namespace Go.Proofs.YtmohidgdmmkikaaGreatDoor
open Go.RowKit
namespace Ev

section
variable {σ : Sig} {u : Value}
theorem VR.ptr_inv {b o : Nat} (h : VR σ (.pointer (some ⟨b, o, none⟩)) u) : ∃ r s nn zz, σ b = some ⟨r, s, nn, zz⟩ ∧ u = .pointer (some ⟨r, s + o, none⟩) := by
  cases h with
  | clo h => simp [clo0] at h
  | ptr o h => exact ⟨_, _, _, _, h, rfl⟩
theorem VR.slc_inv {b o n k : Nat} (h : VR σ (.slice (some ⟨b, o, none⟩) n k) u) : ∃ r s nn zz o' c, σ b = some ⟨r, s, nn, zz⟩ ∧ u = .slice (some ⟨r, o', none⟩) n c ∧ (k % 2 = 1 → c = k / 2) ∧ k / 2 ≤ c ∧ ((n = 0 ∧ k ≤ 1) ∨ o' = s + o) ∧ (k % 2 = 0 → o' + c * zz ≤ nn) := by
  cases h with
  | clo h => simp [clo0] at h
  | slc o n k c h h1 h2 h3 => exact ⟨_, _, _, _, _, _, h, rfl, h1, h2, .inr rfl, h3⟩
  | slc0 o o' k c h h1 h2 h3 => exact ⟨_, _, _, _, _, _, h, rfl, fun e => by rw [h2 (by omega)]; omega, by omega, .inl ⟨rfl, h1⟩, fun e => h3 (by omega)⟩
theorem VR.int_inv {k : IntKind} {n : Int} (h : VR σ (.int k n) u) : u = .int k n := clo0_eq rfl h
theorem VR.bool_inv {b : Bool} (h : VR σ (.bool b) u) : u = .bool b := clo0_eq rfl h
theorem VR.str_inv {s : ByteArray} (h : VR σ (.string s) u) : u = .string s := clo0_eq rfl h
theorem VR.agg_inv {cs : Array Value} (h : VR σ (.agg cs) u) : ∃ cs', u = .agg cs' ∧ VRs σ cs.toList cs'.toList := by
  cases h with
  | clo h => simp [clo0] at h
  | agg h => exact ⟨_, rfl, h⟩
theorem VR.tuple_inv {cs : Array Value} (h : VR σ (.tuple cs) u) : ∃ cs', u = .tuple cs' ∧ VRs σ cs.toList cs'.toList := by
  cases h with
  | clo h => simp [clo0] at h
  | tuple h => exact ⟨_, rfl, h⟩
theorem VR.map_inv {b : Nat} (h : VR σ (.map (some b)) u) : ∃ r nn zz, σ b = some ⟨r, 0, nn, zz⟩ ∧ u = .map (some r) := by
  cases h with
  | clo h => simp [clo0] at h
  | map h => exact ⟨_, _, _, h, rfl⟩
theorem VR.func_inv {fn : Fn} {a c : Array Value} (h : VR σ (.func fn a c) u) : ∃ a' c', u = .func fn a' c' ∧ VRs σ a.toList a'.toList ∧ VRs σ c.toList c'.toList := by
  cases h with
  | clo h => simp [clo0] at h
  | func h1 h2 => exact ⟨_, _, rfl, h1, h2⟩
theorem VR.iface_inv {t : TypeId} {v : Value} (h : VR σ (.iface t v) u) : ∃ v', u = .iface t v' ∧ VR σ v v' := by
  cases h with
  | clo h => simp [clo0] at h
  | iface h => exact ⟨_, rfl, h⟩
theorem addr_add (r o j : Nat) : (⟨r, o, none⟩ : Addr).add j = ⟨r, o + j, none⟩ := by unfold Addr.add; split <;> simp_all
end

section
variable {P : Program} {w0 w : World} {σ : Sig} {A : AW} {X : Nat → Option AObj} {tm : TM} {v u u2 : Value} {x y : CO} {t : TypeId}

theorem sim_load1 (h : St P w0 σ A X w) (ha : isAggT P t = some false) (hu : VR σ (x.ev tm) u) (hv : rdLoad x tm A = some v) : ∃ v', (Instr.loadAt t u).run P w = .ok v' w ∧ VR σ v v' := by
  unfold rdLoad at hv
  split at hv
  · rename_i b o he
    rw [he] at hu
    obtain ⟨r, s, nn, zz, hb, rfl⟩ := hu.ptr_inv
    obtain ⟨v', h1, h2⟩ := h.cell hb hv
    refine ⟨v', ?_, h2⟩
    simp only [Instr.loadAt, Instr.sureAddr, loadVar, Sem.run_bind, Sem.run_pure, Result.andThen_ok, isAgg_run ha, Bool.false_eq_true, if_false, run_load, h1]
  · simp at hv
theorem sim_loadN {n : Nat} (h : St P w0 σ A X w) (ha : isAggT P t = some true) (hs : sizeT P t = some n) (hu : VR σ (x.ev tm) u) (hv : rdLoadN n x tm A = some v) : ∃ v', (Instr.loadAt t u).run P w = .ok v' w ∧ VR σ v v' := by
  unfold rdLoadN at hv
  split at hv
  · rename_i b o he
    rw [he] at hu
    obtain ⟨r, s, nn, zz, hb, rfl⟩ := hu.ptr_inv
    unfold aggOf at hv
    split at hv
    · rename_i cs hcs
      injection hv with hv
      subst hv
      obtain ⟨cs', h1, h2, h3⟩ := h.cells hb hcs
      have h4 := run_loadCells_list (P := P) w ⟨r, s + o, none⟩ cs' (fun j v hj => by rw [addr_add]; exact h3 j v hj)
      rw [h1] at h4
      refine ⟨.agg ⟨cs'⟩, ?_, .agg h2⟩
      simp only [Instr.loadAt, Instr.sureAddr, loadVar, Sem.run_bind, Sem.run_pure, Result.andThen_ok, isAgg_run ha, if_true, sizeOf_run hs, h4]
    · simp at hv
  · simp at hv
theorem sim_field {fields : Array Field} {f n : Nat} {fd : Field} (hd : P.underlying t = some (.struct fields)) (hf : fields.toList[f]? = some fd) (hs : sizeT P fd.type = some (n + 1)) (hu : VR σ (x.ev tm) u) (hv : rdField fd.offset x tm A = some v) :
    ∃ v', (Instr.fieldAt t u f).run P w = .ok v' w ∧ VR σ v v' := by
  unfold rdField at hv
  split at hv
  · rename_i b o he
    rw [he] at hu
    obtain ⟨r, s, nn, zz, hb, rfl⟩ := hu.ptr_inv
    injection hv with hv
    subst hv
    refine ⟨.pointer (some ⟨r, s + (o + fd.offset), none⟩), ?_, .ptr _ hb⟩
    have hf' : fields[f]? = some fd := by simpa using hf
    simp only [Instr.fieldAt, Instr.sureAddr, fieldPlace, Sem.run_bind, Sem.run_pure, Result.andThen_ok, run_underlying hd, hf', sizeOf_run hs, Nat.add_eq_zero_iff, Nat.succ_ne_self, and_false, if_false, addr_add, Nat.add_assoc]
  · simp at hv
theorem sim_indexArr {len size : Nat} {elem : TypeId} (hd : P.underlying t = some (.array len elem)) (hs : sizeT P elem = some size) (hu : VR σ (x.ev tm) u) (hu2 : VR σ (y.ev tm) u2) (hv : rdIndexArr len size x y tm A = some v) :
    ∃ v', (Instr.indexAt t u u2).run P w = .ok v' w ∧ VR σ v v' := by
  unfold rdIndexArr at hv
  split at hv
  · rename_i k n b o he he2
    rw [he] at hu2
    rw [he2] at hu
    obtain ⟨r, s, nn, zz, hb, rfl⟩ := hu.ptr_inv
    obtain rfl := hu2.int_inv
    cases hlt : Nat.blt n len
    · rw [hlt] at hv; simp at hv
    · rw [hlt] at hv
      simp only [cond_true, Option.some.injEq] at hv
      subst hv
      have hn : n < len := Nat.le_of_ble_eq_true hlt
      refine ⟨.pointer (some ⟨r, s + (o + n * size), none⟩), ?_, .ptr _ hb⟩
      simp only [Instr.indexAt, asIntOf, Instr.sureAddr, Sem.run_bind, Sem.run_pure, Result.andThen_ok, run_underlying hd, addr_add, Nat.add_assoc]
      rw [if_pos (by simp; omega)]
      simp [sizeOf_run hs]
  · simp at hv
theorem sim_indexSlc {size : Nat} {elem : TypeId} (hd : P.underlying t = some (.slice elem)) (hs : sizeT P elem = some size) (hu : VR σ (x.ev tm) u) (hu2 : VR σ (y.ev tm) u2) (hv : rdIndexSlc size x y tm A = some v) :
    ∃ v', (Instr.indexAt t u u2).run P w = .ok v' w ∧ VR σ v v' := by
  unfold rdIndexSlc at hv
  split at hv
  · rename_i k n b o len c he he2
    rw [he] at hu2
    rw [he2] at hu
    obtain ⟨r, s, nn, zz, o', c', hb, rfl, _, _, ho, _⟩ := hu.slc_inv
    obtain rfl := hu2.int_inv
    cases hlt : Nat.blt n len
    · rw [hlt] at hv; simp at hv
    · rw [hlt] at hv
      simp only [cond_true, Option.some.injEq] at hv
      subst hv
      have hn : n < len := Nat.le_of_ble_eq_true hlt
      obtain rfl : o' = s + o := by
        rcases ho with ⟨h0, _⟩ | h0
        · omega
        · exact h0
      refine ⟨.pointer (some ⟨r, s + (o + n * size), none⟩), ?_, .ptr _ hb⟩
      simp only [Instr.indexAt, asIntOf, Sem.run_bind, Sem.run_pure, Result.andThen_ok, run_underlying hd, addr_add, Nat.add_assoc]
      rw [if_pos (by simp; omega)]
      simp [sizeOf_run hs]
  · simp at hv
theorem sim_nilCheck {ρ : Operand → Value} {o : Oper} {z : Operand} (ho : o.op = .nilCheck z) (hu : VR σ (x.ev tm) (ρ z)) (hv : rdNilCheck x tm A = some v) : ∃ v', (execOp ρ o).run P w = .ok (.value v') w ∧ VR σ v v' := by
  unfold rdNilCheck at hv
  split at hv
  · rename_i a he
    rw [he] at hu
    injection hv with hv
    subst hv
    refine ⟨ρ z, ?_, hu⟩
    generalize hz : ρ z = q at hu
    cases hu with
    | clo h => simp [clo0] at h
    | ptr o h => simp only [execOp, ho, hz]; rfl
  · rename_i t q he
    rw [he] at hu
    injection hv with hv
    subst hv
    refine ⟨ρ z, ?_, hu⟩
    obtain ⟨v', hz, _⟩ := hu.iface_inv
    simp only [execOp, ho, hz]; rfl
  · rename_i f a b he
    rw [he] at hu
    injection hv with hv
    subst hv
    refine ⟨ρ z, ?_, hu⟩
    obtain ⟨a', c', hz, _, _⟩ := hu.func_inv
    simp only [execOp, ho, hz]; rfl
  · rename_i q he
    rw [he] at hu
    injection hv with hv
    subst hv
    refine ⟨ρ z, ?_, hu⟩
    generalize hz : ρ z = q' at hu
    cases hu with
    | clo h => simp only [execOp, ho, hz]; rfl
    | map h => simp only [execOp, ho, hz]; rfl
  · simp at hv
theorem sim_closed {ns : Nat} {ρ : Operand → Value} {o : Oper} (hsel : ∀ cs b, o.op ≠ .select cs b) (hE : ∀ z ∈ o.op.operands, VR σ ((co ns z).ev tm) (ρ z)) (hv : rdClosed P ns o tm A = some v) : ∃ v', (execOp ρ o).run P w = .ok (.value v') w ∧ VR σ v v' := by
  unfold rdClosed at hv
  cases hc : cloL (o.op.operands.toList.map (co ns)) tm
  · rw [hc] at hv; simp at hv
  · rw [hc] at hv
    simp only [cond_true] at hv
    have hc' : ∀ z ∈ o.op.operands, clo ((co ns z).ev tm) = true := fun z hz => by
      unfold cloL at hc
      rw [List.all_eq_true] at hc
      exact hc _ (List.mem_map.2 ⟨z, by simpa using hz, rfl⟩)
    have he : execOp (evalC ns tm) o = execOp ρ o := execOp_congr o hsel fun z hz => (clo_eq (hc' z hz) (hE z hz)).symm
    split at hv
    · rename_i v2 hr
      rw [he] at hr
      cases hcl : clo v2
      · rw [hcl] at hv; simp at hv
      · rw [hcl] at hv
        simp only [cond_true, Option.some.injEq] at hv
        subst hv
        exact ⟨_, run_pure_of hr w, clo_r σ hcl⟩
    · simp at hv
end
end Ev
end Go.Proofs.YtmohidgdmmkikaaGreatDoor
