/- The evaluator: append. -/
import Derived.Test.YtmohidgdmmkikaaGreatDoorEv13
namespace Go.Proofs.YtmohidgdmmkikaaGreatDoor
open Go.RowKit
namespace Ev

section
variable {P : Program} {w0 w w1 : World} {σ : Sig} {A A' : AW} {X : Nat → Option AObj} {tm : TM} {v u u2 : Value} {x y : CO} {t elem : TypeId} {b o : Nat}
theorem St.kill (h : St P w0 σ A X w) (hb : b < most) : St P w0 σ (A.upd b none) X w := by
  have hd : ∀ c p, (A.upd b none).den c = some p → A.den c = some p := fun c p hp => by
    rw [upd_den A _ hb] at hp
    by_cases e : c = b
    · rw [if_pos e] at hp; cases hp
    · rw [if_neg e] at hp; exact hp
  have hlv : ∀ c, Live (A.upd b none) X c → Live A X c := fun c hc => by
    rcases hc with h1 | h1
    · obtain ⟨p, hp⟩ := Option.ne_none_iff_exists'.1 h1
      exact .inl (by rw [hd c p hp]; exact Option.some_ne_none _)
    · exact .inr h1
  refine ⟨fun x y hx => by rw [upd_next]; exact h.dom x y hx, by rw [upd_next]; exact h.bound, fun x hx => ?_, fun x p hp => h.objs x p (hp.imp (hd x p) id), fun c c' L1 L2 h1 h2 => h.inj c c' L1 L2 (hlv c h1) (hlv c' h2), h.below⟩
  rw [upd_den A _ hb]
  by_cases e : x = b
  · rw [if_pos e]
  · rw [if_neg e]; exact h.disj x hx
/-- A row that goes on under a new name, cells written behind it. -/
theorem St.take (h : St P w0 σ A X w) {r s nn zz o' b2 off : Nat} {c cs vs : List Value} {e : TypeId} (hb : σ b = some ⟨r, s, nn, zz⟩) (hg : A.get b = some (.row c elem)) (hn : (A.upd b none).new (.row cs e) = some (b2, A'))
    (hsz : ∀ z, sizeT P e = some z → zz = z) (hoff : off + vs.length ≤ nn) (hfit : o' + cs.length ≤ nn)
    (hcs : ∀ c' : Array Value, (∃ e' fr, w.heap[r]? = some (.cells c' e' fr)) → ∀ (i : Nat) (v : Value), cs[i]? = some v → ∃ v', (over c'.toList off vs)[o' + i]? = some v' ∧ VR σ v v') :
    St P w0 (σ.ext b2 ⟨r, o', nn, zz⟩) A' X (w.setCells r off vs) ∧ Step σ A (σ.ext b2 ⟨r, o', nn, zz⟩) A' := by
  obtain ⟨c', e', fr, hr⟩ := h.row hb hg
  have hbn : b < most := Nat.lt_trans (h.dom _ _ hb) h.bound
  have hd := h.live_get hb hg
  obtain ⟨rfl, n1, n2, n3⟩ := new_spec hn
  rw [upd_next] at n1 n2 n3
  simp only [upd_next] at *
  have hs := h.free (Nat.le_refl A.next)
  have hdd := h.dead hs
  have hheap : w.heap[r]? = some (.cells c' e' fr) := hr.heap
  have hcsz : c'.size = nn := hr.size
  obtain ⟨i1, i2, i3, i4, i5, i6⟩ := setCells_spec r vs off w c' e' fr hheap (by rw [hcsz]; exact hoff)
  have hden : ∀ x, A'.den x = if x = A.next then some (.row cs e) else if x = b then none else A.den x := fun x => by
    rw [n3, upd_den A _ hbn]
  have hbx : b ≠ A.next := by have := h.dom _ _ hb; omega
  have hXb : X b = none := by
    cases hx : X b with
    | none => rfl
    | some q => have := h.disj b (by rw [hx]; simp); rw [hd] at this; cases this
  have hold : ∀ x, x ≠ A.next → Live A' X x → Live A X x ∧ x ≠ b := fun x hx hl => by
    rcases hl with h1 | h1
    · rw [hden, if_neg hx] at h1
      by_cases e : x = b
      · rw [if_pos e] at h1; exact absurd rfl h1
      · rw [if_neg e] at h1; exact ⟨.inl h1, e⟩
    · exact ⟨.inr h1, fun e => by subst e; exact h1 hXb⟩
  obtain ⟨L0, g1, g2, _⟩ := h.objs b _ (.inl hd)
  rw [hb] at g1
  cases g1
  have g2 : w0.heap.size ≤ r := g2
  refine ⟨⟨fun x y hx => ?_, by omega, fun x hx => ?_, fun x p hp => ?_, fun x x' L1 L2 h1 h2 l1 l2 l12 => ?_, ⟨i4.trans h.below.os, i5.trans h.below.tape, i6.trans h.below.output, by rw [i3]; exact h.below.size, fun k hk => by rw [i2 k (by omega)]; exact h.below.block k hk⟩⟩, Sig.le_ext hs, by omega, fun x hx => by unfold Sig.ext; rw [if_neg (by omega)]⟩
  · unfold Sig.ext at hx
    by_cases e : x = A.next
    · omega
    · rw [if_neg e] at hx; have := h.dom x y hx; omega
  · rw [hden]
    by_cases e : x = A.next
    · subst e; exact absurd hdd.2 hx
    · rw [if_neg e]
      by_cases e2 : x = b
      · rw [if_pos e2]
      · rw [if_neg e2]; exact h.disj x hx
  · by_cases e : x = A.next
    · subst e
      rw [hden, if_pos rfl, hdd.2] at hp
      rcases hp with hp | hp
      · injection hp with hp
        subst hp
        refine ⟨_, Sig.ext_at _ _ _, g2, _, e', fr, i1, ?_, hfit, fun z hz => hsz z hz, fun j hj => hr.free j hj, fun i v hi => ?_⟩
        · show (over c'.toList off vs).length = nn
          rw [over_len (by simp; omega)]
          simpa using hcsz
        · obtain ⟨v', k1, k2⟩ := hcs c' ⟨e', fr, hheap⟩ i v hi
          exact ⟨v', (List.getElem?_toArray ..).trans k1, k2.mono (Sig.le_ext hs)⟩
      · cases hp
    · have hl : Live A' X x := by
        rcases hp with hp | hp
        · exact .inl (by rw [hp]; exact Option.some_ne_none _)
        · exact .inr (by rw [hp]; exact Option.some_ne_none _)
      have hxb := (hold x e hl).2
      rw [hden, if_neg e, if_neg hxb] at hp
      obtain ⟨L1, k1, k2, k3⟩ := h.objs x p hp
      refine ⟨L1, by unfold Sig.ext; rw [if_neg e]; exact k1, k2, (k3.mono (Sig.le_ext hs)).keep (i2 _ fun er => hxb ?_)⟩
      exact h.inj x b L1 _ (hold x e hl).1 (.inl (by rw [hd]; exact Option.some_ne_none _)) k1 hb er
  · unfold Sig.ext at l1 l2
    by_cases e1 : x = A.next
    · by_cases e2 : x' = A.next
      · rw [e1, e2]
      · rw [if_pos e1] at l1
        rw [if_neg e2] at l2
        injection l1 with l1
        subst l1
        obtain ⟨k1, k2⟩ := hold x' e2 h2
        exact absurd (h.inj x' b L2 _ k1 (.inl (by rw [hd]; exact Option.some_ne_none _)) l2 hb l12.symm) k2
    · by_cases e2 : x' = A.next
      · rw [if_neg e1] at l1
        rw [if_pos e2] at l2
        injection l2 with l2
        subst l2
        obtain ⟨k1, k2⟩ := hold x e1 h1
        exact absurd (h.inj x b L1 _ k1 (.inl (by rw [hd]; exact Option.some_ne_none _)) l1 hb l12) k2
      · rw [if_neg e1] at l1
        rw [if_neg e2] at l2
        exact h.inj x x' L1 L2 (hold x e1 h1).1 (hold x' e2 h2).1 l1 l2 l12
theorem newRow_ok {e : TypeId} {f : Nat → Value} {cs : List Value} {r : Out} (h : Ev.newRow e f cs A = r) : r = .no ∨ ∃ b A', A.new (.row cs e) = some (b, A') ∧ r = .val (f b) A' := by
  unfold Ev.newRow at h
  rw [sL_eq sV0_eq] at h
  split at h
  · rename_i b A' hn
    exact .inr ⟨b, A', hn, h.symm⟩
  · exact .inl h.symm
theorem zeroCells_size (z : Array Value) (n : Nat) : (Builtin.zeroCells z n).size = n * z.size := by simp [Builtin.zeroCells]
/-- A new array with what was there and what is new. -/
theorem grow_new (h : St P w0 σ A X w) {size cap n : Nat} {cs : List Value} {c1 : List Value} {z : Value} (hs : sizeT P elem = some size) (hz : z.cells.size = size) (hr : VRs σ cs c1) (hl : cs.length = n * size) (hcap : n ≤ cap) (hn : A.new (.row cs elem) = some (b, A')) :
    ∃ σ', Step σ A σ' A' ∧ St P w0 σ' A' X (w.drew.alloc (.cells (⟨c1⟩ ++ Builtin.zeroCells z.cells (cap - n)) elem)) ∧ VR σ' (aslc b 0 n (2 * n)) (.slice (some ⟨w.heap.size, 0, none⟩) n cap) := by
  have hw : NewW w.drew (w.drew.alloc (.cells (⟨c1⟩ ++ Builtin.zeroCells z.cells (cap - n)) elem)) (.cells (⟨c1⟩ ++ Builtin.zeroCells z.cells (cap - n)) elem) := ⟨rfl, rfl, rfl, rfl⟩
  have ho : ObjR P σ (.row cs elem) (newL P elem w.drew.heap.size (⟨c1⟩ ++ Builtin.zeroCells z.cells (cap - n) : Array Value).size) (w.drew.alloc (.cells (⟨c1⟩ ++ Builtin.zeroCells z.cells (cap - n)) elem)) := by
    refine row_new ?_ (.inl rfl) hw
    rw [hr.len]
    simpa using hr
  obtain ⟨h1, h2⟩ := h.drew.newA hw rfl ho hn
  obtain ⟨rfl, n1, n2, n3⟩ := new_spec hn
  refine ⟨_, ⟨h2, by omega, fun x hx => by unfold Sig.ext; rw [if_neg (by omega)]⟩, h1, ?_⟩
  have hsz : (⟨c1⟩ ++ Builtin.zeroCells z.cells (cap - n) : Array Value).size = cap * size := by
    have : (⟨c1⟩ : Array Value).size = n * size := by rw [← hl, hr.len]; rfl
    rw [Array.size_append, this, zeroCells_size, hz, ← Nat.add_mul]
    congr 1
    omega
  have := VR.slc (σ := σ.ext A.next (newL P elem w.drew.heap.size (⟨c1⟩ ++ Builtin.zeroCells z.cells (cap - n) : Array Value).size)) (r := w.heap.size) (s := 0) 0 n (2 * n) cap (Sig.ext_at _ _ _) (by omega) (by omega) (fun _ => by
    rw [hsz, hs]
    simp)
  simpa [aslc] using this
end
end Ev
end Go.Proofs.YtmohidgdmmkikaaGreatDoor
