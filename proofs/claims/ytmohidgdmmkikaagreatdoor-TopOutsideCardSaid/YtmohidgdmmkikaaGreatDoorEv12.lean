/- The evaluator: cells that are written. -/
import Derived.Test.YtmohidgdmmkikaaGreatDoorEv11
namespace Go.Proofs.YtmohidgdmmkikaaGreatDoor
open Go.RowKit
namespace Ev

theorem over_eq {β : Type} (no : β) : ∀ (cs c : List Value) (k : List Value → β), overK no cs c k = if cs.length ≤ c.length then k (cs ++ c.drop cs.length) else no
  | [], c, k => by simp [overK]
  | v :: cs, c, k => by
    cases c with
    | nil => simp [overK]
    | cons u c =>
      have h := over_eq no cs c (fun l => k (v :: l))
      show sV0 v (fun v => overK no cs c fun l => k (v :: l)) = _
      rw [sV0_eq, h]
      simp
theorem spl_eq {β : Type} (no : β) (cs : List Value) : ∀ (o : Nat) (c : List Value) (k : List Value → β), splK no cs o c k = if o + cs.length ≤ c.length then k (c.take o ++ (cs ++ c.drop (o + cs.length))) else no
  | 0, c, k => by
    show overK no cs c k = _
    rw [over_eq]
    simp
  | o + 1, c, k => by
    cases c with
    | nil =>
      show no = _
      rw [if_neg (by simp)]
    | cons u c =>
      have h := spl_eq no cs o c (fun l => k (u :: l))
      show splK no cs o c (fun l => k (u :: l)) = _
      rw [h]
      simp only [List.length_cons]
      by_cases hh : o + cs.length ≤ c.length
      · rw [if_pos hh, if_pos (by omega)]
        congr 1
        rw [show o + 1 + cs.length = (o + cs.length) + 1 by omega]
        simp
      · rw [if_neg hh, if_neg (by omega)]
theorem wr_spec {A A' : AW} {b o : Nat} {cs : List Value} (h : wr A b o cs = some A') : ∃ c e, A.get b = some (.row c e) ∧ o + cs.length ≤ c.length ∧ cs.all atomB = true ∧ A' = A.upd b (some (.row (c.take o ++ (cs ++ c.drop (o + cs.length))) e)) := by
  unfold wr at h
  split at h
  · rename_i c e hg
    obtain ⟨ha, h⟩ := cond_ok h
    rw [spl_eq] at h
    split at h
    · rename_i hle
      injection h with h
      exact ⟨c, e, hg, hle, ha, h.symm⟩
    · cases h
  · cases h
/-- Cells over cells, as a list. -/
def over (c : List Value) (o : Nat) (vs : List Value) : List Value := c.take o ++ (vs ++ c.drop (o + vs.length))
theorem over_get {c vs : List Value} {o : Nat} (h : o + vs.length ≤ c.length) (i : Nat) : (over c o vs)[i]? = if i < o then c[i]? else if i < o + vs.length then vs[i - o]? else c[i]? := by
  unfold over
  by_cases h1 : i < o
  · rw [if_pos h1, List.getElem?_append_left (by simp; omega), List.getElem?_take_of_lt h1]
  · rw [if_neg h1, List.getElem?_append_right (by simp; omega)]
    have h2 : (c.take o).length = o := by simp; omega
    rw [h2]
    by_cases h3 : i < o + vs.length
    · rw [if_pos h3, List.getElem?_append_left (by omega)]
    · rw [if_neg h3, List.getElem?_append_right (by omega), List.getElem?_drop]
      congr 1
      omega
theorem over_len {c vs : List Value} {o : Nat} (h : o + vs.length ≤ c.length) : (over c o vs).length = c.length := by
  unfold over
  simp
  omega
theorem setCells_spec (b : Nat) : ∀ (vs : List Value) (o : Nat) (w : World) (c : Array Value) (e : TypeId) (fr : Nat × Nat), w.heap[b]? = some (.cells c e fr) → o + vs.length ≤ c.size →
    (w.setCells b o vs).heap[b]? = some (.cells ⟨over c.toList o vs⟩ e fr) ∧ (∀ k, k ≠ b → (w.setCells b o vs).heap[k]? = w.heap[k]?) ∧ (w.setCells b o vs).heap.size = w.heap.size ∧ (w.setCells b o vs).os = w.os ∧ (w.setCells b o vs).tape = w.tape ∧ (w.setCells b o vs).output = w.output
  | [], o, w, c, e, fr, h, _ => by
    refine ⟨?_, fun _ _ => rfl, rfl, rfl, rfl, rfl⟩
    have : over c.toList o [] = c.toList := by unfold over; simp
    rw [this]
    exact h
  | v :: vs, o, w, c, e, fr, h, hl => by
    simp only [List.length_cons] at hl
    have h1 : (w.setCell ⟨b, o, none⟩ v).heap[b]? = some (.cells (c.setIfInBounds o v) e fr) := by
      simp [World.setCell, Array.getElem?_modify, h]
    have h2 : ∀ k, k ≠ b → (w.setCell ⟨b, o, none⟩ v).heap[k]? = w.heap[k]? := fun k hk => by
      simp [World.setCell, Array.getElem?_modify, Ne.symm hk]
    have h3 : (w.setCell ⟨b, o, none⟩ v).heap.size = w.heap.size := by simp [World.setCell]
    obtain ⟨i1, i2, i3, i4, i5, i6⟩ := setCells_spec b vs (o + 1) (w.setCell ⟨b, o, none⟩ v) _ e fr h1 (by simp; omega)
    refine ⟨?_, fun k hk => (i2 k hk).trans (h2 k hk), i3.trans h3, i4, i5, i6⟩
    show ((w.setCell ⟨b, o, none⟩ v).setCells b (o + 1) vs).heap[b]? = _
    rw [i1]
    congr 2
    apply Array.ext'
    show over (c.setIfInBounds o v).toList (o + 1) vs = over c.toList o (v :: vs)
    have hs : (c.setIfInBounds o v).toList.length = c.toList.length := by simp
    have hcl : c.toList.length = c.size := by simp
    apply List.ext_getElem?
    intro i
    rw [over_get (by rw [hs, hcl]; omega), over_get (by simp; omega)]
    simp only [Array.toList_setIfInBounds, List.length_cons]
    by_cases hi : i < o
    · rw [if_pos (by omega), if_pos hi, List.getElem?_set_ne (by omega)]
    · rw [if_neg hi]
      by_cases hi2 : i = o
      · subst hi2
        rw [if_pos (by omega), if_pos (by omega), List.getElem?_set_self (by rw [hcl]; omega)]
        simp
      · rw [if_neg (by omega)]
        by_cases hi3 : i < o + 1 + vs.length
        · rw [if_pos hi3, if_pos (by omega), show i - o = (i - (o + 1)) + 1 by omega]
          simp
        · rw [if_neg hi3, if_neg (by omega), List.getElem?_set_ne (by omega)]

section
variable {P : Program} {w0 w w1 : World} {σ : Sig} {A : AW} {X : Nat → Option AObj} {tm : TM} {b o : Nat} {L : Loc} {c cs vs : List Value} {e : TypeId}
theorem St.live_get (h : St P w0 σ A X w) {p : AObj} (hb : σ b = some L) (hg : A.get b = some p) : A.den b = some p := by rw [← h.den hb]; exact hg
/-- The cells of a row that stores go to are there. -/
theorem store_run {c'_ : Array Value} (hr : ∃ e' fr, w.heap[L.r]? = some (.cells c'_ e' fr) ∧ c'_.size = L.n ∧ ∀ j, j < L.n → ¬(fr.1 ≤ j ∧ j < fr.2)) (hl : o + vs.length ≤ L.n) (ha : vs.all atomB = true) : (storeCells ⟨L.r, o, none⟩ vs).run P w = .ok () (w.setCells L.r o vs) := by
  obtain ⟨e', fr, h1, h2, h3⟩ := hr
  have := run_storeCells_cells (P := P) L.r o vs 0 w (fun j hj => by
      have : o + j < c'_.size := by rw [h2]; omega
      simp [World.cell?, h1, this]) (fun j hj => by
      have h4 := h3 (o + 0 + j) (by omega)
      simp only [World.frozen?, h1]
      simp only [Nat.add_zero] at h4 ⊢
      rw [Bool.and_eq_false_iff]
      simp
      omega) (fun v hv => by
      rw [List.all_eq_true] at ha
      have := ha v hv
      cases v <;> first | rfl | simp [atomB] at this)
  simpa using this
theorem St.write (h : St P w0 σ A X w) (hb : σ b = some L) (hg : A.get b = some (.row c e)) (hl : o + cs.length ≤ c.length) (hv : VRs σ cs vs) : St P w0 σ (A.upd b (some (.row (over c o cs) e))) X (w.setCells L.r (L.s + o) vs) ∧ L.s + o + vs.length ≤ L.n := by
  obtain ⟨c', e', fr, hr⟩ := h.row hb hg
  have hbn : b < most := Nat.lt_trans (h.dom _ _ hb) h.bound
  have hd := h.live_get hb hg
  have hlen := hv.len
  have hfit := hr.fit
  have hsz : L.s + o + vs.length ≤ L.n := by omega
  refine ⟨?_, hsz⟩
  have hcs : c'.toList.length = c'.size := by simp
  obtain ⟨i1, i2, i3, i4, i5, i6⟩ := setCells_spec L.r vs (L.s + o) w c' e' fr hr.heap (by rw [hr.size]; exact hsz)
  have hlv : ∀ x, Live (A.upd b (some (.row (over c o cs) e))) X x → Live A X x := fun x hx => by
    rcases hx with h1 | h1
    · rw [upd_den A _ hbn] at h1
      by_cases e : x = b
      · subst e; exact .inl (by rw [hd]; simp)
      · rw [if_neg e] at h1; exact .inl h1
    · exact .inr h1
  refine ⟨fun x y hx => by rw [upd_next]; exact h.dom x y hx, by rw [upd_next]; exact h.bound, fun x hx => ?_, fun x p hp => ?_, fun x x' L1 L2 h1 h2 => h.inj x x' L1 L2 (hlv x h1) (hlv x' h2), ⟨i4.trans h.below.os, i5.trans h.below.tape, i6.trans h.below.output, by rw [i3]; exact h.below.size, fun k hk => ?_⟩⟩
  · rw [upd_den A _ hbn]
    have := h.disj x hx
    by_cases e : x = b
    · subst e; rw [hd] at this; cases this
    · rw [if_neg e]; exact this
  · rw [upd_den A _ hbn] at hp
    by_cases e : x = b
    · subst e
      have hX : X x = none := by
        cases hx : X x with
        | none => rfl
        | some q => have := h.disj x (by rw [hx]; simp); rw [hd] at this; cases this
      rw [if_pos rfl, hX] at hp
      rcases hp with hp | hp
      · injection hp with hp
        subst hp
        obtain ⟨L1, g1, g2, _⟩ := h.objs x _ (.inl hd)
        rw [hb] at g1
        cases g1
        refine ⟨L, hb, g2, _, e', fr, i1, ?_, ?_, hr.elem, hr.free, fun i v hi => ?_⟩
        · show (over c'.toList (L.s + o) vs).length = L.n
          rw [over_len (by rw [hcs, hr.size]; exact hsz), hcs, hr.size]
        · rw [over_len hl]; exact hfit
        · rw [over_get hl] at hi
          have hg2 : ∀ j : Nat, (⟨over c'.toList (L.s + o) vs⟩ : Array Value)[j]? = (over c'.toList (L.s + o) vs)[j]? := fun j => List.getElem?_toArray ..
          rw [hg2, over_get (by rw [hcs, hr.size]; exact hsz)]
          by_cases h1 : i < o
          · rw [if_pos h1] at hi
            rw [if_pos (by omega)]
            simpa using hr.val i v hi
          · rw [if_neg h1] at hi
            rw [if_neg (by omega)]
            by_cases h2 : i < o + cs.length
            · rw [if_pos h2] at hi
              rw [if_pos (by omega), show L.s + i - (L.s + o) = i - o by omega]
              exact hv.get hi
            · rw [if_neg h2] at hi
              rw [if_neg (by omega)]
              simpa using hr.val i v hi
      · cases hp
    · rw [if_neg e] at hp
      obtain ⟨L1, g1, g2, g3⟩ := h.objs x p hp
      refine ⟨L1, g1, g2, g3.keep (i2 _ fun er => e ?_)⟩
      exact h.inj x b L1 L (hp.imp (fun e => by rw [e]; exact Option.some_ne_none _) (fun e => by rw [e]; exact Option.some_ne_none _)) (.inl (by rw [hd]; simp)) g1 hb er
  · obtain ⟨L1, g1, g2, _⟩ := h.objs b _ (.inl hd)
    rw [hb] at g1
    cases g1
    rw [i2 k (by omega)]
    exact h.below.block k hk
end
end Ev
end Go.Proofs.YtmohidgdmmkikaaGreatDoor
