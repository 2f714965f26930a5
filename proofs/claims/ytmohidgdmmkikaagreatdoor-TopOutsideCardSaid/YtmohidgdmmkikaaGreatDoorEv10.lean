/- The evaluator: blocks that are made; cells that are written. -/
import Derived.Test.YtmohidgdmmkikaaGreatDoorEv9
namespace Go.Proofs.YtmohidgdmmkikaaGreatDoor
open Go.RowKit
namespace Ev

/-- One block more. -/
structure NewW (w w1 : World) (ob : Obj) : Prop where
  os : w1.os = w.os
  tape : w1.tape = w.tape
  output : w1.output = w.output
  heap : w1.heap = w.heap.push ob
theorem NewW.keep {w w1 : World} {ob : Obj} (h : NewW w w1 ob) {r : Nat} (hr : r < w.heap.size) : w1.heap[r]? = w.heap[r]? := by
  rw [h.heap, Array.getElem?_push]
  simp [Nat.ne_of_lt hr]
theorem NewW.new {w w1 : World} {ob : Obj} (h : NewW w w1 ob) : w1.heap[w.heap.size]? = some ob := by rw [h.heap]; simp
theorem NewW.below {w0 w w1 : World} {ob : Obj} (h : NewW w w1 ob) (hb : Below w0.heap.size w0 w) : Below w0.heap.size w0 w1 :=
  ⟨h.os.trans hb.os, h.tape.trans hb.tape, h.output.trans hb.output, by rw [h.heap]; simp; have := hb.size; omega, fun k hk => (h.keep (Nat.lt_of_lt_of_le hk hb.size)).trans (hb.block k hk)⟩
def Sig.ext (σ : Sig) (b : Nat) (x : Loc) : Sig := fun c => if c = b then some x else σ c
theorem Sig.le_ext {σ : Sig} {b : Nat} {x : Loc} (h : σ b = none) : σ.le (σ.ext b x) := fun c y hc => by
  unfold Sig.ext
  by_cases e : c = b
  · subst e; rw [h] at hc; cases hc
  · rw [if_neg e]; exact hc
theorem Sig.ext_at (σ : Sig) (b : Nat) (x : Loc) : σ.ext b x b = some x := by simp [Sig.ext]
def updX (X : Nat → Option AObj) (b : Nat) (o : AObj) : Nat → Option AObj := fun c => if c = b then some o else X c

section
variable {P : Program} {w0 w w1 : World} {σ : Sig} {A A' : AW} {X : Nat → Option AObj} {tm : TM} {ob : Obj} {o : AObj} {b : Nat} {L : Loc}
theorem St.free (h : St P w0 σ A X w) (hb : A.next ≤ b) : σ b = none := by
  cases hs : σ b with
  | none => rfl
  | some x => have := h.dom b x hs; omega
theorem St.dead (h : St P w0 σ A X w) (hs : σ b = none) : A.den b = none ∧ X b = none := by
  constructor
  · cases hd : A.den b with
    | none => rfl
    | some o => obtain ⟨L, h1, _⟩ := h.objs b o (.inl hd); rw [hs] at h1; cases h1
  · cases hd : X b with
    | none => rfl
    | some o => obtain ⟨L, h1, _⟩ := h.objs b o (.inr hd); rw [hs] at h1; cases h1
/-- A step that makes one block and gives it a name that was free. -/
theorem St.grow (h : St P w0 σ A X w) (hw : NewW w w1 ob) (hL : L.r = w.heap.size) (ho : ObjR P σ o L w1) (hs : σ b = none) {X' : Nat → Option AObj} (hlt : b < A'.next) (hnext : A.next ≤ A'.next) (hbound : A'.next < most)
    (hdisj : ∀ c, X' c ≠ none → A'.den c = none) (hobj : ∀ c p, (A'.den c = some p ∨ X' c = some p) → (c = b ∧ p = o) ∨ (c ≠ b ∧ (A.den c = some p ∨ X c = some p))) : St P w0 (σ.ext b L) A' X' w1 := by
  have hlive : ∀ c, Live A' X' c → c = b ∨ Live A X c := fun c hc => by
    rcases hc with h1 | h1
    · obtain ⟨p, hp⟩ := Option.ne_none_iff_exists'.1 h1
      rcases hobj c p (.inl hp) with ⟨e, _⟩ | ⟨_, h2 | h2⟩
      · exact .inl e
      · exact .inr (.inl (by rw [h2]; simp))
      · exact .inr (.inr (by rw [h2]; simp))
    · obtain ⟨p, hp⟩ := Option.ne_none_iff_exists'.1 h1
      rcases hobj c p (.inr hp) with ⟨e, _⟩ | ⟨_, h2 | h2⟩
      · exact .inl e
      · exact .inr (.inl (by rw [h2]; simp))
      · exact .inr (.inr (by rw [h2]; simp))
  have hold : ∀ c L, Live A X c → σ c = some L → L.r < w.heap.size := fun c L hc hx => by
    have : ∃ p, A.den c = some p ∨ X c = some p := by
      rcases hc with h1 | h1
      · obtain ⟨p, hp⟩ := Option.ne_none_iff_exists'.1 h1; exact ⟨p, .inl hp⟩
      · obtain ⟨p, hp⟩ := Option.ne_none_iff_exists'.1 h1; exact ⟨p, .inr hp⟩
    obtain ⟨p, hp⟩ := this
    obtain ⟨L', h1, _, h3⟩ := h.objs c p hp
    rw [hx] at h1
    cases h1
    exact h3.lt
  refine ⟨fun c x hc => ?_, hbound, hdisj, fun c p hp => ?_, fun c c' L1 L2 hc hc' h1 h2 h12 => ?_, hw.below h.below⟩
  · unfold Sig.ext at hc
    by_cases e : c = b
    · rw [e]; exact hlt
    · rw [if_neg e] at hc; exact Nat.lt_of_lt_of_le (h.dom c x hc) hnext
  · rcases hobj c p hp with ⟨rfl, rfl⟩ | ⟨e, h1⟩
    · exact ⟨_, Sig.ext_at _ _ _, by rw [hL]; exact h.below.size, ho.mono (Sig.le_ext hs)⟩
    · obtain ⟨L1, h2, h3, h4⟩ := h.objs c p h1
      exact ⟨L1, by unfold Sig.ext; rw [if_neg e]; exact h2, h3, (h4.mono (Sig.le_ext hs)).keep (hw.keep h4.lt)⟩
  · unfold Sig.ext at h1 h2
    rcases hlive c hc with rfl | hc2 <;> rcases hlive c' hc' with rfl | hc2'
    · rfl
    · rw [if_pos rfl] at h1
      by_cases e : c' = c
      · exact e.symm
      · rw [if_neg e] at h2
        have := hold c' L2 hc2' h2
        cases h1
        omega
    · rw [if_pos rfl] at h2
      by_cases e : c = c'
      · exact e
      · rw [if_neg e] at h1
        have := hold c L1 hc2 h1
        cases h2
        omega
    · by_cases e : c = b
      · subst e
        exfalso
        have := h.dead hs
        rcases hc2 with h5 | h5
        · exact h5 this.1
        · exact h5 this.2
      · by_cases e' : c' = b
        · subst e'
          exfalso
          have := h.dead hs
          rcases hc2' with h5 | h5
          · exact h5 this.1
          · exact h5 this.2
        · rw [if_neg e] at h1
          rw [if_neg e'] at h2
          exact h.inj c c' L1 L2 hc2 hc2' h1 h2 h12
theorem St.newA (h : St P w0 σ A X w) (hw : NewW w w1 ob) (hL : L.r = w.heap.size) (ho : ObjR P σ o L w1) (hn : A.new o = some (b, A')) : St P w0 (σ.ext b L) A' X w1 ∧ σ.le (σ.ext b L) := by
  obtain ⟨rfl, h1, h2, h3⟩ := new_spec hn
  have hs := h.free (Nat.le_refl A.next)
  have hd := h.dead hs
  refine ⟨h.grow hw hL ho hs (by omega) (by omega) (by omega) (fun c hc => ?_) (fun c p hp => ?_), Sig.le_ext hs⟩
  · rw [h3]
    by_cases e : c = A.next
    · subst e; exact absurd hd.2 hc
    · rw [if_neg e]; exact h.disj c hc
  · rw [h3] at hp
    by_cases e : c = A.next
    · subst e
      rw [if_pos rfl, hd.2] at hp
      rcases hp with hp | hp
      · cases hp; exact .inl ⟨rfl, rfl⟩
      · cases hp
    · rw [if_neg e] at hp; exact .inr ⟨e, hp⟩
theorem St.newX (h : St P w0 σ A X w) (hw : NewW w w1 ob) (hL : L.r = w.heap.size) (ho : ObjR P σ o L w1) (hs : σ b = none) (hlt : b < A.next) : St P w0 (σ.ext b L) A (updX X b o) w1 ∧ σ.le (σ.ext b L) := by
  have hd := h.dead hs
  refine ⟨h.grow hw hL ho hs hlt (Nat.le_refl _) h.bound (fun c hc => ?_) (fun c p hp => ?_), Sig.le_ext hs⟩
  · unfold updX at hc
    by_cases e : c = b
    · subst e; exact hd.1
    · rw [if_neg e] at hc; exact h.disj c hc
  · unfold updX at hp
    by_cases e : c = b
    · subst e
      rw [if_pos rfl, hd.1] at hp
      rcases hp with hp | hp
      · cases hp
      · cases hp; exact .inl ⟨rfl, rfl⟩
    · rw [if_neg e] at hp; exact .inr ⟨e, hp⟩

/- What makes a block. -/
def MkOk (P : Program) (ns : Nat) (o : Oper) (f : TM → Option (AObj × (Nat → Value))) : Prop :=
  ∀ (w : World) (σ : Sig) (tm : TM) (ρ : Operand → Value) (p : AObj) (g : Nat → Value), (∀ z ∈ o.op.operands, VR σ ((co ns z).ev tm) (ρ z)) → f tm = some (p, g) →
    ∃ v' ob w1 L, (execOp ρ o).run P w = .ok (.value v') w1 ∧ NewW w w1 ob ∧ L.r = w.heap.size ∧ ObjR P σ p L w1 ∧ ∀ (σ' : Sig) (b : Nat), σ' b = some L → VR σ' (g b) v'
theorem newW_push (w : World) (ob : Obj) : NewW w { w with heap := w.heap.push ob } ob := ⟨rfl, rfl, rfl, rfl⟩
/-- Where a new row lies. -/
noncomputable def newL (P : Program) (e : TypeId) (r n : Nat) : Loc := ⟨r, 0, n, (sizeT P e).getD 0⟩
theorem row_new {cs : List Value} {c' : Array Value} {e e' : TypeId} {fr : Nat × Nat} (hr : VRs σ cs (c'.toList.take cs.length)) (hf : fr.1 = fr.2 ∨ c'.size ≤ fr.1) (hw : NewW w w1 (.cells c' e' fr)) : ObjR P σ (.row cs e) (newL P e w.heap.size c'.size) w1 := by
  refine ⟨c', e', fr, hw.new, rfl, by
    have := hr.len
    simp at this
    show 0 + cs.length ≤ c'.size
    omega, fun z hz => by simp [newL, hz], fun j hj => ?_, fun i v hv => ?_⟩
  · have : j < c'.size := hj
    omega
  · have hi : i < cs.length := (List.getElem?_eq_some_iff.1 hv).1
    obtain ⟨v', h1, h2⟩ := hr.get hv
    rw [List.getElem?_take_of_lt hi] at h1
    refine ⟨v', ?_, h2⟩
    have : (newL P e w.heap.size c'.size).s = 0 := rfl
    rw [this, Nat.zero_add]
    simpa using h1
theorem row_new' {cs : List Value} {c' : Array Value} {e e' : TypeId} (hr : VRs σ cs c'.toList) (hw : NewW w w1 (.cells c' e')) : ObjR P σ (.row cs e) (newL P e w.heap.size c'.size) w1 := row_new (by rw [hr.len, List.take_length]; exact hr) (.inl rfl) hw
end
end Ev
end Go.Proofs.YtmohidgdmmkikaaGreatDoor
