/- The evaluator: what acts: stores, append. -/
import Derived.Test.YtmohidgdmmkikaaGreatDoorEv12
namespace Go.Proofs.YtmohidgdmmkikaaGreatDoor
open Go.RowKit
namespace Ev

/-- From one state of the evaluator to a later one. -/
structure Step (σ : Sig) (A : AW) (σ' : Sig) (A' : AW) : Prop where
  le : σ.le σ'
  next : A.next ≤ A'.next
  old : ∀ b, b < A.next → σ' b = σ b
theorem Step.refl (σ : Sig) (A : AW) : Step σ A σ A := ⟨Sig.le_refl σ, Nat.le_refl _, fun _ _ => rfl⟩
theorem Step.trans {a b c : Sig} {A B C : AW} (h : Step a A b B) (k : Step b B c C) : Step a A c C := ⟨Sig.le_trans h.le k.le, Nat.le_trans h.next k.next, fun x hx => (k.old x (Nat.lt_of_lt_of_le hx h.next)).trans (h.old x hx)⟩
/-- What is said of an operation's outcome holds of its run. -/
def OutOk (P : Program) (w0 : World) (σ : Sig) (A : AW) (X : Nat → Option AObj) (w : World) (r : Result Next) : Out → Prop
  | .no => True
  | .val v A' => ∃ σ' v' w', Step σ A σ' A' ∧ St P w0 σ' A' X w' ∧ VR σ' v v' ∧ (r = .ok (.value v') w' ∨ (r = .ok .skip w' ∧ v' = undef))
  | .ent g args A' => A' = A ∧ ∃ args' : Array Value, r = .ok (.enter g args') w ∧ VRs σ args args'.toList
def ActOk (P : Program) (ns : Nat) (o : Oper) (f : TM → AW → Out) : Prop :=
  ∀ (w0 w : World) (σ : Sig) (A : AW) (X : Nat → Option AObj) (tm : TM) (ρ : Operand → Value), St P w0 σ A X w → (∀ z ∈ o.op.operands, VR σ ((co ns z).ev tm) (ρ z)) → OutOk P w0 σ A X w ((execOp ρ o).run P w) (f tm A)

section
variable {P : Program} {w0 w w1 : World} {σ : Sig} {A A' : AW} {X : Nat → Option AObj} {tm : TM} {v u u2 : Value} {x y : CO} {t elem : TypeId} {b o : Nat}
theorem valA_some (v : Value) (A : AW) : valA v (some A) = .val v A := by simp only [valA, sA_eq]
theorem valA_none (v : Value) : valA v none = .no := rfl
theorem St.wr (h : St P w0 σ A X w) {L : Loc} {cs vs : List Value} (hb : σ b = some L) (hw : wr A b o cs = some A') (hv : VRs σ cs vs) : ∃ w', (storeCells ⟨L.r, L.s + o, none⟩ vs).run P w = .ok () w' ∧ St P w0 σ A' X w' ∧ Step σ A σ A' := by
  obtain ⟨c, e, hg, hl, ha, rfl⟩ := wr_spec hw
  obtain ⟨h1, h2⟩ := h.write hb hg hl hv
  obtain ⟨c', e', fr, hr⟩ := h.row hb hg
  have ha' : vs.all atomB = true := by rw [← VRs.all (fun _ _ h => VR.atom h) hv]; exact ha
  exact ⟨_, store_run (c'_ := c') ⟨e', fr, hr.heap, hr.size, hr.free⟩ h2 ha', h1, Sig.le_refl σ, by rw [upd_next]; exact Nat.le_refl _, fun _ _ => rfl⟩
theorem sim_store {n : Nat} (h : St P w0 σ A X w) (hs : sizeT P t = some n) (hu : VR σ (x.ev tm) u) (hu2 : VR σ (y.ev tm) u2) : OutOk P w0 σ A X w ((do Instr.storeAt t u u2; pure Next.skip : Sem Next).run P w) (acStore n x y tm A) := by
  unfold acStore
  split
  · rename_i b o he
    rw [he] at hu
    obtain ⟨r, s, nn, zz, hb, rfl⟩ := hu.ptr_inv
    cases hlen : Nat.beq (cellsL (y.ev tm)).length n
    · trivial
    · have hlen := Nat.eq_of_beq_eq_true hlen
      simp only [cond_true]
      cases hw : Ev.wr A b o (cellsL (y.ev tm)) with
      | none => trivial
      | some A' =>
        rw [valA_some]
        have hc := hu2.cells
        obtain ⟨w', h1, h2, h3⟩ := h.wr hb hw hc
        refine ⟨σ, undef, w', h3, h2, undef_r σ, .inr ⟨?_, rfl⟩⟩
        have hsz : u2.cells.size = n := by rw [← hlen, hc.len]; simp
        have h1' : (storeCells ⟨r, s + o, none⟩ u2.cells.toList).run P w = .ok () w' := h1
        simp only [Instr.storeAt, Instr.sureAddr, storeVar, Sem.run_bind, Sem.run_pure, Result.andThen_ok, sizeOf_run hs, hsz, ne_eq, not_true, if_false, h1']
  · trivial

/- Append. -/
theorem append_room {st xt ty : TypeId} {dx : TypeDesc} {i : TypeInfo} {a : Addr} {sLen sCap m : Nat} {new : Array Value} (hd : P.underlying st = some (.slice elem)) (hx : P.underlying xt = some dx) (hni : ∀ k, dx ≠ .int k) (hi : P.info? elem = some i) (hl : (Builtin.lenOf u).run P w = .ok m w)
    (hf : (Builtin.firstCells i.size m u).run P w = .ok new w) (hroom : sLen + m ≤ sCap) (hst : (storeCells (a.add (sLen * i.size)) new.toList).run P w = .ok () w1) :
    (Builtin.append_ #[st, xt] ty #[.slice (some a) sLen sCap, u]).run P w = .ok (.slice (some a) (sLen + m) sCap) w1 := by
  have hz : (match dx with | .int _ => true | _ => false) = false := by cases dx <;> first | rfl | exact (hni _ rfl).elim
  simp [Builtin.append_, run_underlying hd, run_underlying hx, sizeOf, typeInfo, hi, hz, hl, hroom, hf, hst]
theorem append_grow {st xt ty : TypeId} {dx : TypeDesc} {i : TypeInfo} {z : Value} {base : Option Addr} {sLen sCap m : Nat} {old new : Array Value} (hd : P.underlying st = some (.slice elem)) (hx : P.underlying xt = some dx) (hni : ∀ k, dx ≠ .int k) (hi : P.info? elem = some i) (hz0 : i.zero = some z) (hl : (Builtin.lenOf u).run P w = .ok m w)
    (hf : (Builtin.firstCells i.size m u).run P w.drew = .ok new w.drew) (hfo : (Builtin.firstCells i.size sLen (.slice base sLen sCap)).run P w.drew = .ok old w.drew) (hg : sCap < sLen + m) (h63 : ((sLen + m : Nat) : Int) ≤ 9223372036854775807) (hfit : Builtin.nextslicecap (sLen + m) sCap * i.bytes ≤ 281474976710656) :
    (Builtin.append_ #[st, xt] ty #[.slice base sLen sCap, u]).run P w = .ok (.slice (some ⟨w.heap.size, 0, none⟩) (sLen + m) (grownCap w (sLen + m) sCap elem))
        (w.drew.alloc (.cells (old ++ new ++ Builtin.zeroCells z.cells (grownCap w (sLen + m) sCap elem - (sLen + m))) elem)) := by
  have hz : (match dx with | .int _ => true | _ => false) = false := by cases dx <;> first | rfl | exact (hni _ rfl).elim
  have hn : ¬ (sLen + m ≤ sCap) := by omega
  have h63' : ¬ (9223372036854775807 < ((sLen : Int) + (m : Int))) := by omega
  have h48' : ¬ (281474976710656 < Builtin.nextslicecap (sLen + m) sCap * i.bytes) := by omega
  simp [Builtin.append_, run_underlying hd, run_underlying hx, sizeOf, typeInfo, zeroValue, hi, hz0, hz, hl, hn, h63', h48', Question.forced, Go.newRow, grownCap]
  rw [hfo, Result.andThen_ok, hf, Result.andThen_ok]
  rfl
theorem drew_heap (w : World) : w.drew.heap = w.heap := rfl
theorem St.drew (h : St P w0 σ A X w) : St P w0 σ A X w.drew := ⟨h.dom, h.bound, h.disj, fun b o ho => let ⟨L, h1, h2, h3⟩ := h.objs b o ho; ⟨L, h1, h2, h3.keep rfl⟩, h.inj, ⟨h.below.os, h.below.tape, h.below.output, h.below.size, h.below.block⟩⟩
/-- What is handed to append or copy, cell by cell. -/
theorem rowCells_r (h : St P w0 σ A X w) {size : Nat} {q : Value} {cs : List Value} (hu : VR σ q u) (hg : rowCells A size q = some cs) (hlen : cs.length = lenA q * size) :
    ∃ cs', VRs σ cs cs' ∧ (Builtin.lenOf u).run P w = .ok (lenA q) w ∧ ∀ n, n ≤ lenA q → (Builtin.firstCells size n u).run P w = .ok ⟨cs'.take (n * size)⟩ w := by
  unfold rowCells at hg
  split at hg
  · injection hg with hg
    subst hg
    obtain rfl := clo0_eq rfl hu
    exact ⟨[], .nil, rfl, fun n hn => by simp [Builtin.firstCells]⟩
  · rename_i b o n k
    obtain ⟨r, s, nn, zz, o', c', hb, rfl, _, _, ho, _⟩ := hu.slc_inv
    obtain ⟨cs', h1, h2, h3⟩ := h.cells hb hg
    refine ⟨cs', h2, rfl, fun m hm => ?_⟩
    have hm' : m ≤ n := hm
    have hms : m * size ≤ n * size := Nat.mul_le_mul_right _ hm'
    have hl : (cs'.take (m * size)).length = m * size := by simp; omega
    by_cases h0 : m = 0
    · subst h0
      simp [Builtin.firstCells, loadCells, loadCellsFrom]
    · obtain rfl : o' = s + o := by
        rcases ho with ⟨h4, _⟩ | h4
        · omega
        · exact h4
      have := run_loadCells_list (P := P) w ⟨r, s + o, none⟩ (cs'.take (m * size)) (fun j v hj => by
        rw [addr_add]
        have hj2 : j < m * size := by
          have := (List.getElem?_eq_some_iff.1 hj).1
          omega
        rw [List.getElem?_take_of_lt hj2] at hj
        exact h3 j v hj)
      rw [hl] at this
      exact this
  · rename_i s
    injection hg with hg
    subst hg
    obtain rfl := clo0_eq rfl hu
    refine ⟨_, clo0_rs σ ?_, by show Result.ok s.size w = _; rw [ba_len]; rfl, fun n hn => ?_⟩
    · rw [List.all_eq_true]
      intro v hv
      obtain ⟨b, _, rfl⟩ := List.mem_map.1 hv
      rfl
    · have hn' : n ≤ s.data.toList.length := hn
      simp only [List.length_map] at hlen
      have hns : n * size = n := by
        have h1 : lenA (.string s) = s.data.toList.length := rfl
        rw [h1] at hlen
        rcases Nat.eq_zero_or_pos s.data.toList.length with h2 | h2
        · have : n = 0 := by omega
          subst this
          simp
        · have : size = 1 := by
            have h3 : s.data.toList.length * 1 = s.data.toList.length * size := by rw [Nat.mul_one]; exact hlen
            exact (Nat.eq_of_mul_eq_mul_left h2 h3).symm
          rw [this, Nat.mul_one]
      rw [hns]
      simp only [Builtin.firstCells, Sem.run_pure]
      congr 1
      apply Array.ext'
      rw [ba_ext]
      simp [List.map_take]
  · simp at hg
end
end Ev
end Go.Proofs.YtmohidgdmmkikaaGreatDoor
