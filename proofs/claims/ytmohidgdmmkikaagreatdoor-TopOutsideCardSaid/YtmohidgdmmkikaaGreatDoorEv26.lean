/- The evaluator: what stands in for crc.Crc does what it tells. -/
import Derived.Test.YtmohidgdmmkikaaGreatDoorEv25
import Derived.Test.YtmohidgdmmkikaaGreatDoorCrc
namespace Go.Proofs.YtmohidgdmmkikaaGreatDoor
open Go.RowKit
namespace Ev

section
variable {β : Type}
theorem kBit_eq (c : Nat) (k : Nat → β) : kBit c k = k (crcBit c) := by
  unfold kBit crcBit
  rw [Nat.and_one_is_mod]
  rcases Nat.mod_two_eq_zero_or_one c with h | h
  · rw [h]
    simp only [Nat.zero_ne_one, if_false]
    exact sNat_eq _ _
  · rw [h]
    simp only [if_true]
    exact sNat_eq _ _
theorem kByte_eq (c : Nat) (b : UInt8) (k : Nat → β) : kByte c b.toNat k = k (crcByte c b) := by
  unfold kByte
  rw [sNat_eq]
  simp only [kBit_eq]
  rfl
theorem kRow_ok (no : β) : ∀ (cs : List Value) (c : Nat) (k : Nat → β) (r : β), kRow no cs c k = r → r = no ∨ ∃ l : List UInt8, cs = bys l ∧ r = k (l.foldl crcByte c)
  | [], c, k, r, h => .inr ⟨[], rfl, h.symm⟩
  | v :: cs, c, k, r, h => by
    replace h : kOne no v (fun n => kByte c n fun c => kRow no cs c k) = r := h
    unfold kOne at h
    split at h
    · rename_i n
      cases hb : Nat.blt n 256
      · rw [hb] at h; exact .inl h.symm
      · rw [hb] at h
        simp only [cond_true] at h
        have hn : n < 256 := Nat.le_of_ble_eq_true hb
        have hbn : (UInt8.ofNat n).toNat = n := by simp [Nat.mod_eq_of_lt hn]
        rw [← hbn, kByte_eq] at h
        rcases kRow_ok no cs _ k r h with h1 | ⟨l, h1, h2⟩
        · exact .inl h1
        · refine .inr ⟨UInt8.ofNat n :: l, ?_, h2⟩
          rw [h1]
          unfold bys
          rw [List.map_cons, hbn]
          rfl
    · exact .inl h.symm
end
section
variable {P : Program} {w0 w : World} {σ : Sig} {A : AW} {X : Nat → Option AObj}
theorem bys_clo0 (l : List UInt8) : (bys l).all clo0 = true := by
  rw [List.all_eq_true]
  intro v hv
  obtain ⟨b, _, rfl⟩ := List.mem_map.1 hv
  rfl
theorem clo0_sh {l l' : List Value} (h : VRs σ l l') (hc : l.all clo0 = true) : l' = l := clo0_all hc h
/-- A slice of bytes reads as its cells tell. -/
theorem reads_of (h : St P w0 σ A X w) {a : Option Addr} {n k : Nat} {u : Value} {l : List UInt8} (hu : VR σ (.slice a n k) u) (hr : rowCells A 1 (.slice a n k) = some (bys l)) : ∃ A' c, u = .slice A' n c ∧ Reads w w.heap.size 1 A' n (bys l) := by
  obtain ⟨base, c, rfl, _⟩ := hu.slice_inv
  refine ⟨base, c, rfl, ?_⟩
  unfold rowCells at hr
  split at hr
  · rename_i heq
    injection heq with e1 e2 e3
    subst e2
    injection hr with hr
    rw [← hr]
    exact Reads.none_
  · rename_i b o n' k' heq
    injection heq with e1 e2 e3
    subst e1 e2 e3
    obtain ⟨r, s, nn, zz, o', c', hb, he, _, _, ho, _⟩ := hu.slc_inv
    injection he with e1 e2 e3
    subst e1
    obtain ⟨cs', h1, h2, h3⟩ := h.cells hb hr
    have := clo0_all (bys_clo0 l) h2
    subst this
    refine ⟨by simpa using h1, fun hn => ?_⟩
    have ho' : o' = s + o := by
      rcases ho with ⟨h4, _⟩ | h4
      · omega
      · exact h4
    subst ho'
    refine ⟨_, rfl, ?_, fun j v hj => by rw [addr_add]; exact h3 j v hj⟩
    have hl : 0 < (bys l).length := by omega
    have h4 := h3 0 _ (List.getElem?_eq_getElem hl)
    unfold World.cell? at h4
    rcases Nat.lt_or_ge r w.heap.size with h5 | h5
    · exact h5
    · rw [Array.getElem?_eq_none h5] at h4
      simp at h4
  · rename_i heq; cases heq
  · cases hr
theorem crc_orc {args : List Value} {v : Value} {A' : AW} (h : crcF 305 args A = some (v, A')) {args' : Array Value} (hst : St Tryz.prog w0 σ A X w) (hr : VRs σ args args'.toList) :
    Calls Tryz.prog 305 args' w fun e w' => ∃ v' σ', e = .returned v' ∧ Step σ A σ' A' ∧ St Tryz.prog w0 σ' A' X w' ∧ VR σ' v v' := by
  unfold crcF at h
  split at h
  · rename_i a n k
    obtain ⟨hn, h⟩ := cond_ok h
    have hn := Nat.le_of_ble_eq_true hn
    obtain ⟨l'⟩ := args'
    cases hr with
    | cons hu t =>
      cases t
      unfold kSum at h
      split at h
      · rename_i cs hcs
        rcases kRow_ok none cs _ _ _ h with h1 | ⟨l, rfl, h1⟩
        · cases h1
        · simp only [sNat_eq, Option.some.injEq, Prod.mk.injEq] at h1
          obtain ⟨rfl, rfl⟩ := h1
          obtain ⟨a', c, rfl, hR⟩ := reads_of hst hu hcs
          refine (crc_calls w w.heap.size a' n c l hR hn).mono ?_
          rintro e w' ⟨rfl, rfl⟩
          exact ⟨_, σ, rfl, Step.refl σ _, hst, .clo rfl⟩
      · cases h
  · cases h
end
end Ev
end Go.Proofs.YtmohidgdmmkikaaGreatDoor
