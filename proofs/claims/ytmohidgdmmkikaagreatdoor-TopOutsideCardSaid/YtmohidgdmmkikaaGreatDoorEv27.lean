/- The evaluator: what stands in for core.Proposer.Open and for crc.Crc; the program's own facts. -/
import Derived.Test.YtmohidgdmmkikaaGreatDoorEv26
import Derived.Test.YtmohidgdmmkikaaGreatDoorOpenOf
import Derived.KernelRfl
namespace Go.Proofs.YtmohidgdmmkikaaGreatDoor
open Go.RowKit
namespace Ev

section
variable {P : Program} {w0 w w' : World} {σ : Sig} {A : AW} {X : Nat → Option AObj}
/-- What is there stays when no block of before is changed. -/
theorem St.ext (h : St P w0 σ A X w) (e : Ext w w') : St P w0 σ A X w' :=
  ⟨h.dom, h.bound, h.disj, fun b o ho => let ⟨L, h1, h2, h3⟩ := h.objs b o ho; ⟨L, h1, h2, h3.keep (e.block _ h3.lt)⟩, h.inj,
    ⟨e.os.trans h.below.os, e.tape.trans h.below.tape, e.output.trans h.below.output, Nat.le_trans h.below.size e.size, fun k hk => (e.block k (Nat.lt_of_lt_of_le hk h.below.size)).trans (h.below.block k hk)⟩⟩
noncomputable def emptyMap (A : AW) : Option Value → Bool
  | some (.map (some b)) => match A.get b with
    | some (.map [] _) => true
    | _ => false
  | _ => false
noncomputable def openF : CallF := fun _ args A => match args with
  | [.pointer (some ⟨b, o, none⟩)] => bif emptyMap A (cellAt A b (o + 7)) && emptyMap A (cellAt A b (o + 8)) then some (.slice none 0 0, A) else none
  | _ => none
theorem emptyMap_r (h : St P w0 σ A X w) {b r s nn zz o : Nat} (hb : σ b = some ⟨r, s, nn, zz⟩) (he : emptyMap A (cellAt A b o) = true) : ∃ q, w.cell? ⟨r, s + o, none⟩ = some (.map (some q)) ∧ IM w q [] := by
  unfold emptyMap at he
  split at he
  · rename_i m hm
    obtain ⟨v', h1, h2⟩ := h.cell hb hm
    obtain ⟨q, nn', zz', h3, rfl⟩ := h2.map_inv
    refine ⟨q, h1, ?_⟩
    split at he
    · rename_i ck hg
      obtain ⟨es', h4, h5⟩ := h.entries h3 hg
      refine ⟨es', ck, h4, ?_⟩
      obtain ⟨l⟩ := es'
      cases h5
      rfl
    · cases he
  · cases he
theorem open_orc {args : List Value} {v : Value} {A' : AW} (h : openF 236 args A = some (v, A')) {args' : Array Value} (hst : St Tryz.prog w0 σ A X w) (hr : VRs σ args args'.toList) :
    Calls Tryz.prog 236 args' w fun e w' => ∃ v' σ', e = .returned v' ∧ Step σ A σ' A' ∧ St Tryz.prog w0 σ' A' X w' ∧ VR σ' v v' := by
  unfold openF at h
  split at h
  · rename_i b o
    obtain ⟨hc, h⟩ := cond_ok h
    rw [Bool.and_eq_true] at hc
    injection h with h
    injection h with h1 h2
    subst h1 h2
    obtain ⟨l'⟩ := args'
    cases hr with
    | cons hu t =>
      cases t
      obtain ⟨r, s, nn, zz, hb, rfl⟩ := hu.ptr_inv
      obtain ⟨q7, c7, m7⟩ := emptyMap_r hst hb hc.1
      obtain ⟨q8, c8, m8⟩ := emptyMap_r hst hb hc.2
      have hlt : r < w.heap.size := by
        unfold World.cell? at c7
        rcases Nat.lt_or_ge r w.heap.size with h5 | h5
        · exact h5
        · rw [Array.getElem?_eq_none h5] at c7
          simp at c7
      rw [← Nat.add_assoc] at c7 c8
      refine (prop_open1 q7 q8 c7 c8 m7 m8 hlt).mono ?_
      rintro e w' ⟨rfl, he⟩
      exact ⟨_, σ, rfl, Step.refl σ _, hst.ext he, .clo rfl⟩
  · cases h
end
noncomputable def orc : Orc := fun f => bif Nat.beq f 236 then some openF else bif Nat.beq f 305 then some crcF else none
theorem orc_ok : OrcOk Tryz.prog orc := by
  intro f g hg args A v A' h w0 σ X w args' hst hr
  unfold orc at hg
  cases h1 : Nat.beq f 236
  · rw [h1] at hg
    simp only [cond_false] at hg
    cases h2 : Nat.beq f 305
    · rw [h2] at hg; cases hg
    · rw [h2] at hg
      injection hg with hg
      subst hg
      obtain rfl := Nat.eq_of_beq_eq_true h2
      exact crc_orc h hst hr
  · rw [h1] at hg
    injection hg with hg
    subst hg
    obtain rfl := Nat.eq_of_beq_eq_true h1
    exact open_orc h hst hr
/-- No function has the name that asks how many goroutines there are. -/
noncomputable def nameOk (fn : Func) : Bool := !(fn.name == "runtime.NumGoroutine")
theorem noNum_of {P : Program} (h : P.funcs.toList.all nameOk = true) : NoNum P := by
  intro f fn hf
  rw [List.all_eq_true] at h
  have := h fn (by simpa using Array.mem_of_getElem? hf)
  unfold nameOk at this
  simpa using this
theorem noNum : NoNum Tryz.prog := noNum_of (by kernel_rfl)
theorem mixed : Tryz.prog.follows .mixedOrders = true := by kernel_rfl
/-- The evaluator says 'true'. -/
noncomputable def saysTrue : Option (Value × AW) → Bool
  | some (.bool true, _) => true
  | _ => false
theorem closed_true {n : Nat} {f : FuncId} (h : saysTrue (callN Tryz.prog orc n f [] ⟨.nil, 0⟩) = true) (w : World) : Calls Tryz.prog f #[] w fun e w' => e = .returned (.bool true) ∧ Ext w w' := by
  unfold saysTrue at h
  split at h
  · rename_i A' he
    refine (ev_calls noNum mixed orc_ok he rfl w).mono ?_
    rintro e w' ⟨v', σ', rfl, h1, h2⟩
    rw [h2.bool_inv]
    exact ⟨rfl, h1.below⟩
  · cases h
end Ev
end Go.Proofs.YtmohidgdmmkikaaGreatDoor
