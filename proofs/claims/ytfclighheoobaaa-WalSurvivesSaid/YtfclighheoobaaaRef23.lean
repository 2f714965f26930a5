/- The document's log (strongroomref23): what each of its calls does. Its rows are written once; a set R of blocks holds all such objects. -/
import Derived.Test.YtfclighheoobaaaRefuse
import Derived.Test.YtfclighheoobaaaRelyX
import Derived.Deep.DeepCutAuto
import Derived.IntWalk
namespace Go.Proofs.Ytfclighheoobaaa
open Go.RowKit

attribute [local go_sem] ba_append ba_extract ba_size Oper.pureUpon Oper.relUpon

/-- The document's log behind the pointer q, its blocks among R. -/
def IsRf (w : World) (R : List Nat) (q : Nat) (s : St) : Prop :=
  ∃ A c, q ∈ R ∧ Blk w q 89 #[.int .i64 (s.first : Int), .slice A s.recs.length c, tx s.snap, tx s.note] ∧ Reads w w.heap.size 1 A s.recs.length (txs s.recs) ∧ (∀ ad, A = some ad → ad.block ∈ R ∧ ∃ cs, Blk w ad.block 9 cs) ∧ s.recs.length ≤ c ∧ c ≤ 9223372036854775807 ∧ s.ok

section
variable {W w w' : World} {R R' : List Nat} {q : Nat} {s : St}
theorem reads_block {A : Option Addr} {n : Nat} {xs : List Value} (h : Reads w w.heap.size 1 A n xs) (hs : w.heap.size ≤ w'.heap.size) (hk : ∀ ad, A = some ad → w'.heap[ad.block]? = w.heap[ad.block]?) : Reads w' w'.heap.size 1 A n xs :=
  ⟨h.1, fun hn => by
    obtain ⟨ad, e, hb, hc⟩ := h.2 hn
    exact ⟨ad, e, by omega, fun j u hu => (World.cell?_of_block (w := w) (by rw [block_of_add]; exact hk ad e)).trans (hc j u hu)⟩⟩
theorem IsRf.keep (h : IsRf w R q s) (hk : Keep R w w') : IsRf w' R q s := by
  obtain ⟨A, c, h1, h2, h3, h4, h5⟩ := h
  refine ⟨A, c, h1, h2.keep (hk _ h1), ⟨h3.1, fun hn => ?_⟩, fun ad e => ?_, h5⟩
  · obtain ⟨ad, e, _, hc⟩ := h3.2 hn
    obtain ⟨g1, cs, g2⟩ := h4 ad e
    exact ⟨ad, e, (g2.keep (hk _ g1)).lt, fun j u hu => (World.cell?_of_block (w := w) (by rw [block_of_add]; exact hk _ g1)).trans (hc j u hu)⟩
  obtain ⟨g1, cs, g2⟩ := h4 ad e
  exact ⟨g1, cs, g2.keep (hk _ g1)⟩
theorem IsRf.ext (h : IsRf w R q s) (hR : ∀ k ∈ R, k < w.heap.size) (e : Ext w w') : IsRf w' R q s := h.keep (fun k hk => e.block k (hR k hk))
theorem IsRf.more (h : IsRf w R q s) (hR : ∀ k ∈ R, k ∈ R') : IsRf w R' q s := by
  obtain ⟨A, c, h1, h2, h3, h4, h5⟩ := h
  exact ⟨A, c, hR _ h1, h2, h3, fun ad e => ⟨hR _ (h4 ad e).1, (h4 ad e).2⟩, h5⟩
theorem IsRf.lt (h : IsRf w R q s) : q < w.heap.size := by obtain ⟨A, c, h1, h2, _⟩ := h; exact h2.lt
theorem IsRf.mem (h : IsRf w R q s) : q ∈ R := by obtain ⟨A, c, h1, h2, _⟩ := h; exact h1
theorem IsRf.ok (h : IsRf w R q s) : s.ok := by obtain ⟨A, c, h1, h2, _, _, _, _, h5⟩ := h; exact h5
/-- Another object of the set stays where one is written. -/
theorem IsRf.far {p : Nat} {t : St} (h : IsRf w R q s) (hp : IsRf w R p t) (hm : Mod [p] w w') (hne : q ≠ p) : IsRf w' R q s := by
  obtain ⟨A, c, h1, h2, h3, h4, h5⟩ := h
  obtain ⟨_, _, _, p2, _⟩ := hp
  have hb : ∀ ad, A = some ad → w'.heap[ad.block]? = w.heap[ad.block]? := fun ad e => by
    obtain ⟨_, cs, g2⟩ := h4 ad e
    exact hm.block _ g2.lt (by simpa using g2.ne_ p2 (by decide))
  refine ⟨A, c, h1, h2.keep (hm.block _ h2.lt (by simpa using hne)), reads_block h3 hm.size hb, fun ad e => ?_, h5⟩
  obtain ⟨g1, cs, g2⟩ := h4 ad e
  exact ⟨g1, cs, g2.keep (hb ad e)⟩

theorem rf_new (w : World) : Calls Try.prog 45 #[] w fun e w' => ∃ q, e = .returned (.pointer (some ⟨q, 0, none⟩)) ∧ w.heap.size = q ∧ IsRf w' [q] q St.init ∧ Ext w w' := by
  go_enter Try.func45, Try.ntmps45
  go_wp2_with fail
  go_ret
  exact ⟨_, rfl, rfl, ⟨none, 0, by simp, Blk.new _ _ _, .none_, by simp, by decide, by decide, by decide, by decide, by decide, by decide, by simp [St.init]⟩, (Below.refl _ _).alloc (Nat.le_refl _) _⟩

theorem rf_copy (h : IsRf w R q s) : Calls Try.prog 46 #[.pointer (some ⟨q, 0, none⟩)] w fun e w' => ∃ q', e = .returned (.pointer (some ⟨q', 0, none⟩)) ∧ w.heap.size = q' ∧ IsRf w' (q' :: R) q' s ∧ Ext w w' := by
  obtain ⟨A, c, h1, h2, h3, h4, h5⟩ := h
  have c0 := h2.cell 0
  have c1 := h2.cell 1
  have c2 := h2.cell 2
  have c3 := h2.cell 3
  simp at c0 c1 c2 c3
  unfold tx at c2 c3
  go_enter Try.func46, Try.ntmps46
  go_wp2_with fail
  go_ret
  refine ⟨_, rfl, rfl, ⟨A, c, by simp, Blk.new _ _ _, (h3.alloc (Nat.le_refl _) _).more (by simp), fun ad e => ?_, h5⟩, (Below.refl _ _).alloc (Nat.le_refl _) _⟩
  obtain ⟨g1, cs, g2⟩ := h4 ad e
  exact ⟨by simp [g1], cs, g2.alloc _⟩

set_option maxRecDepth 100000 in
theorem rf_next (h : IsRf w R q s) : Calls Try.prog 57 #[.pointer (some ⟨q, 0, none⟩)] w fun e w' => e = .returned (.int .i64 (s.next : Int)) ∧ Ext w w' := by
  obtain ⟨A, c, h1, hb, h3, h4, h5, h6, hok⟩ := h
  have c0 := hb.cell 0
  have c1 := hb.cell 1
  simp at c0 c1
  have hb1 := hok.1
  have hb2 := hok.2.1
  have hn : (s.next : Int) = (s.first : Int) + (s.recs.length : Int) := by unfold St.next; omega
  generalize s.next = nx at *
  have HN := Lib.hid hn
  clear hok hn hb h3 h4
  go_enter Try.func57, Try.ntmps57
  go_wp2_with fail
  go_quiet (fail)
  go_wp2_with fail
  go_ret
  exact ⟨by rw [HN.out]; rfl, below_drewN (Below.refl _ _) _⟩

set_option maxRecDepth 100000 in
theorem rf_get (h : IsRf w R q s) (n : Int) : Calls Try.prog 58 #[.pointer (some ⟨q, 0, none⟩), .int .i64 n] w fun e w' => e = .returned (.tuple #[tx ((s.get n).getD []), .bool (s.get n).isSome]) ∧ Ext w w' := by
  have hnx := rf_next h
  obtain ⟨A, c, _, hb, h3, _, h5, h6, hok⟩ := h
  have c0 := hb.cell 0
  have c1 : ∀ w', Ext w w' → w'.cell? ⟨q, 1, none⟩ = some (.slice A s.recs.length c) := fun w' he => by have := (hb.below he hb.lt).cell 1; simpa using this
  have c0' : ∀ w', Ext w w' → w'.cell? ⟨q, 0, none⟩ = some (.int .i64 (s.first : Int)) := fun w' he => by have := (hb.below he hb.lt).cell 0; simpa using this
  simp at c0
  have HNX := Lib.hid hnx
  have hb1 := hok.1
  have hb2 := hok.2.1
  clear hnx hok
  by_cases h1 : n < (s.first : Int)
  · have hg : s.get n = none := by unfold St.get; rw [if_neg (by omega)]
    have HG := Lib.hid hg
    clear hg c1 c0' hb h3
    go_enter Try.func58, Try.ntmps58
    go_wp2_with fail
    go_ret2
    exact ⟨by rw [HG.out]; rfl, Ext.refl _⟩
  · by_cases h2 : n < (s.next : Int)
    · obtain ⟨k, hk⟩ : ∃ k : Nat, n - (s.first : Int) = (k : Int) := ⟨(n - (s.first : Int)).toNat, by omega⟩
      have hkl : k < s.recs.length := by unfold St.next at h2; omega
      have hx : s.recs[k]? = some s.recs[k] := List.getElem?_eq_getElem hkl
      generalize s.recs[k] = x at hx
      have hg : s.get n = some x := by
        unfold St.get
        rw [if_pos (by omega), hk]
        exact hx
      have HG := Lib.hid hg
      have hr : ∀ w', Ext w w' → ∃ ad, A = some ad ∧ w'.cell? (ad.add k) = some (tx x) := fun w' he => by
        obtain ⟨ad, u, g3, _, g5, g6⟩ := (h3.below he).at_ hkl
        refine ⟨ad, g3, ?_⟩
        rw [g6]
        unfold txs at g5
        rw [List.getElem?_map, hx] at g5
        exact g5.symm
      obtain ⟨ad, rfl, _⟩ := hr w (Ext.refl _)
      have hr2 : ∀ w', Ext w w' → w'.cell? (ad.add k) = some (tx x) := fun w' he => by
        obtain ⟨ad', g3, g4⟩ := hr w' he
        injection g3 with g3
        subst g3
        exact g4
      have k0 : (0 : Int) ≤ (k : Int) := by omega
      have k1 : (k : Int) < (s.recs.length : Int) := by omega
      generalize s.next = nx at *
      clear hg hx hr hb h3
      go_enter Try.func58, Try.ntmps58
      go_wp2_with fail
      refine (HNX.out).mono ?_
      rintro e w1 ⟨rfl, he1⟩
      have d1 := c0' w1 he1
      have d2 := c1 w1 he1
      have d3 := hr2 w1 he1
      clear c1 c0' hr2
      go_wp2_with fail
      go_quiet (fail)
      go_wp2_with fail
      go_ret2
      exact ⟨by rw [HG.out]; rfl, below_drewN he1 _⟩
    · have hg : s.get n = none := by unfold St.get; rw [if_neg (by omega)]
      have HG := Lib.hid hg
      have g3 : (s.next : Int) ≤ n := by omega
      generalize s.next = nx at *
      clear hg c1 c0' hb h3
      go_enter Try.func58, Try.ntmps58
      go_wp2_with fail
      refine (HNX.out).mono ?_
      rintro e w1 ⟨rfl, he1⟩
      go_wp2_with fail
      go_ret2
      exact ⟨by rw [HG.out]; rfl, he1⟩

set_option maxRecDepth 100000 in
theorem rf_meta (h : IsRf w R q s) (x : List UInt8) (hx : x.length ≤ 100) : Calls Try.prog 48 #[.pointer (some ⟨q, 0, none⟩), .string ⟨x.toArray⟩] w fun e w' =>
    e = .returned (.int .i64 0) ∧ IsRf w' R q { s with note := x } ∧ Mod [q] w w' := by
  obtain ⟨A, c, h1, hb, h3, h4, h5, h6, hok⟩ := h
  have c3 := hb.cell 3
  have f3 := hb.frozen 3
  simp at c3
  have i1 : ¬ ((x.length : Int) > 65536) := by omega
  have HH := Lib.hid (And.intro hb (And.intro h3 h4))
  clear hb h3 h4
  go_enter Try.func48, Try.ntmps48
  go_wp2_with fail
  go_ret
  obtain ⟨hb, h3, h4⟩ := HH.out
  have hm : Mod [q] w (w.setCell ⟨q, 3, none⟩ (.string ⟨x.toArray⟩)) := (Mod.refl _ _).setCell (by simp) _
  have hbk : ∀ ad, A = some ad → (w.setCell ⟨q, 3, none⟩ (.string ⟨x.toArray⟩)).heap[ad.block]? = w.heap[ad.block]? := fun ad e => by
    obtain ⟨_, cs, g2⟩ := h4 ad e
    exact hm.block _ g2.lt (by simpa using g2.ne_ hb (by decide))
  refine ⟨rfl, ⟨A, c, h1, by have := hb.set_ 3 (.string ⟨x.toArray⟩); simpa [tx] using this, reads_block h3 hm.size hbk, fun ad e => ?_, h5, h6, hok.1, hok.2.1, hok.2.2.1, by show x.length ≤ _; omega, hok.2.2.2.2⟩, hm⟩
  obtain ⟨g1, cs, g2⟩ := h4 ad e
  exact ⟨g1, cs, g2.keep (hbk ad e)⟩
end

end Go.Proofs.Ytfclighheoobaaa
