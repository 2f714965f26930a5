/- wal.Log: its state, and what the short methods answer. -/
import Derived.Test.YtfclighheoobaaaScan
import Derived.Deep.DeepCutAuto
namespace Go.Proofs.Ytfclighheoobaaa
open Go.RowKit

attribute [local go_sem] Oper.pureUpon Oper.relUpon

/-- A text as a value. -/
def tx (s : List UInt8) : Value := .string ⟨s.toArray⟩
def txs (l : List (List UInt8)) : List Value := l.map tx
theorem txs_len (l : List (List UInt8)) : (txs l).length = l.length := by simp [txs]
theorem txs_one (l : List (List UInt8)) : ∀ u ∈ txs l, u.oneCell' = true := by
  intro u hu
  simp only [txs, List.mem_map] at hu
  obtain ⟨c, _, rfl⟩ := hu
  rfl
theorem text_info : (Try.prog.info? 9).map (fun i => (i.zero, i.size, i.bytes)) = some (some (.string ByteArray.empty), 1, 16) := by kernel_rfl

/-- The state of a log. -/
structure St where
  first : Nat
  recs : List (List UInt8)
  snap : List UInt8
  note : List UInt8
def St.next (s : St) : Nat := s.first + s.recs.length
def St.init : St := ⟨1, [], [], []⟩
/-- Within the bounds of the program's numbers. -/
def St.ok (s : St) : Prop := s.first ≤ 1073741824 ∧ s.recs.length ≤ 1000000 ∧ s.snap.length ≤ 65536 ∧ s.note.length ≤ 65536 ∧ ∀ x ∈ s.recs, x.length ≤ 65536

def IsLg (w : World) (p dp : Nat) (v : Value) (s : St) : Prop :=
  Blk w p 83 #[.pointer (some ⟨dp, 0, none⟩), .int .i64 (s.first : Int), v, tx s.snap, tx s.note] ∧ w.ownsRow 0 9 1 v s.recs.length (txs s.recs) ∧ s.ok
def IsLog (w : World) (F : List Nat) (p dp : Nat) (s : St) : Prop := ∃ v, IsLg w p dp v s ∧ F = foot p v

section
variable {W w w' : World} {F : List Nat} {p dp : Nat} {s : St}
theorem IsLog.lt (h : IsLog w F p dp s) : ∀ k ∈ F, k < w.heap.size := by
  obtain ⟨v, h, rfl⟩ := h
  intro k hk
  simp only [foot, List.mem_cons, Option.mem_toList] at hk
  rcases hk with rfl | hk
  · exact h.1.lt
  · exact own_lt h.2.1 hk
theorem IsLog.keep (h : IsLog w F p dp s) (hk : Keep F w w') : IsLog w' F p dp s := by
  obtain ⟨v, h, rfl⟩ := h
  exact ⟨v, ⟨h.1.keep (hk p (by simp [foot])), own_keep h.2.1 (fun k hk' => hk k (by simp only [foot, List.mem_cons]; exact .inr hk')), h.2.2⟩, rfl⟩
theorem IsLog.ext (h : IsLog w F p dp s) (e : Ext w w') : IsLog w' F p dp s := h.keep fun k hk => e.block k (h.lt k hk)
theorem IsLog.ok (h : IsLog w F p dp s) : s.ok := by obtain ⟨v, h, _⟩ := h; exact h.2.2

set_option maxRecDepth 100000 in
theorem log_first (h : IsLog w F p dp s) : Calls Try.prog 43 #[.pointer (some ⟨p, 0, none⟩)] w fun e w' => e = .returned (.int .i64 (s.first : Int)) ∧ w = w' := by
  obtain ⟨v, ⟨hb, ho, hok⟩, rfl⟩ := h
  have c1 := hb.cell 1
  simp at c1
  go_enter Try.func43, Try.ntmps43
  go_wp2_with fail
  go_ret
  exact ⟨rfl, rfl⟩

set_option maxRecDepth 100000 in
theorem log_note (h : IsLog w F p dp s) : Calls Try.prog 36 #[.pointer (some ⟨p, 0, none⟩)] w fun e w' => e = .returned (tx s.note) ∧ w = w' := by
  obtain ⟨v, ⟨hb, ho, hok⟩, rfl⟩ := h
  have c4 := hb.cell 4
  simp at c4
  go_enter Try.func36, Try.ntmps36
  go_wp2_with fail
  go_ret
  exact ⟨rfl, rfl⟩

set_option maxRecDepth 100000 in
theorem log_snap (h : IsLog w F p dp s) : Calls Try.prog 44 #[.pointer (some ⟨p, 0, none⟩)] w fun e w' => e = .returned (.tuple #[.int .i64 (s.first : Int), tx s.snap]) ∧ Ext w w' := by
  obtain ⟨v, ⟨hb, ho, hok⟩, rfl⟩ := h
  have c1 := hb.cell 1
  have c3 := hb.cell 3
  simp at c1 c3
  go_enter Try.func44, Try.ntmps44
  go_wp2_with fail
  go_quiet (fail)
  go_wp2_with fail
  go_ret2
  exact ⟨rfl, below_drewN (Below.refl _ _) _⟩

set_option maxRecDepth 100000 in
theorem log_next (h : IsLog w F p dp s) : Calls Try.prog 40 #[.pointer (some ⟨p, 0, none⟩)] w fun e w' => e = .returned (.int .i64 (s.next : Int)) ∧ Ext w w' := by
  obtain ⟨v, ⟨hb, ho, hok⟩, rfl⟩ := h
  have c1 := hb.cell 1
  have c2 := hb.cell 2
  simp at c1 c2
  obtain ⟨A', c', rfl, _⟩ := own_slice ho
  have hb1 := hok.1
  have hb2 := hok.2.1
  have hn : (s.next : Int) = (s.first : Int) + (s.recs.length : Int) := by unfold St.next; omega
  generalize s.next = nx at *
  have HN := Lib.hid hn
  clear hok hn ho hb
  go_enter Try.func40, Try.ntmps40
  go_wp2_with fail
  go_quiet (fail)
  go_wp2_with fail
  go_ret
  exact ⟨by rw [HN.out]; rfl, below_drewN (Below.refl _ _) _⟩

/-- What a log answers of a number. -/
def St.get (s : St) (n : Int) : Option (List UInt8) := if (s.first : Int) ≤ n ∧ n < (s.next : Int) then s.recs[(n - (s.first : Int)).toNat]? else none

set_option maxRecDepth 100000 in
theorem log_get (h : IsLog w F p dp s) (n : Int) : Calls Try.prog 39 #[.pointer (some ⟨p, 0, none⟩), .int .i64 n] w fun e w' => e = .returned (.tuple #[tx ((s.get n).getD []), .bool (s.get n).isSome]) ∧ Ext w w' := by
  have hnx := fun w' (he : Ext w w') => log_next (h.ext he)
  obtain ⟨v, ⟨hb, ho, hok⟩, rfl⟩ := h
  have c1 := hb.cell 1
  have c2 : ∀ w', Ext w w' → w'.cell? ⟨p, 2, none⟩ = some v := fun w' he => by have := (hb.below he hb.lt).cell 2; simpa using this
  have c1' : ∀ w', Ext w w' → w'.cell? ⟨p, 1, none⟩ = some (.int .i64 (s.first : Int)) := fun w' he => by have := (hb.below he hb.lt).cell 1; simpa using this
  simp at c1
  have HNX := Lib.hid hnx
  have hb1 := hok.1
  have hb2 := hok.2.1
  clear hnx hok
  by_cases h1 : n < (s.first : Int)
  · have hg : s.get n = none := by unfold St.get; rw [if_neg (by omega)]
    have HG := Lib.hid hg
    clear hg c2 c1' ho hb
    go_enter Try.func39, Try.ntmps39
    go_wp2_with fail
    go_ret2
    exact ⟨by rw [HG.out]; rfl, Ext.refl _⟩
  · by_cases h2 : n < (s.next : Int)
    · obtain ⟨k, hk⟩ : ∃ k : Nat, n - (s.first : Int) = (k : Int) := ⟨(n - (s.first : Int)).toNat, by omega⟩
      have hkl : k < s.recs.length := by unfold St.next at h2; omega
      have hx : s.recs[k]? = some s.recs[k] := List.getElem?_eq_getElem hkl
      generalize s.recs[k] = x at hx
      have hg : s.get n = some x := by
        unfold St.get
        rw [if_pos (by omega), hk]
        exact hx
      have HG := Lib.hid hg
      obtain ⟨A', c', rfl, hc'⟩ := own_slice ho
      have hr : ∀ w', Ext w w' → ∃ ad, A' = some ad ∧ w'.cell? (ad.add k) = some (tx x) := fun w' he => by
        obtain ⟨ad, u, h3, _, h5, h6⟩ := ((reads_own ho).below he).at_ hkl
        refine ⟨ad, h3, ?_⟩
        rw [h6]
        unfold txs at h5
        rw [List.getElem?_map, hx] at h5
        exact h5.symm
      obtain ⟨ad, rfl, _⟩ := hr w (Ext.refl _)
      have hr2 : ∀ w', Ext w w' → w'.cell? (ad.add k) = some (tx x) := fun w' he => by
        obtain ⟨ad', h3, h4⟩ := hr w' he
        injection h3 with h3
        subst h3
        exact h4
      have k0 : (0 : Int) ≤ (k : Int) := by omega
      have k1 : (k : Int) < (s.recs.length : Int) := by omega
      generalize s.next = nx at *
      clear hg hx hr hc' ho hb
      go_enter Try.func39, Try.ntmps39
      go_wp2_with fail
      refine (HNX.out w (Ext.refl _)).mono ?_
      rintro e w1 ⟨rfl, he1⟩
      have d1 := c1' w1 he1
      have d2 := c2 w1 he1
      have d3 := hr2 w1 he1
      clear c1' c2 hr2
      go_wp2_with fail
      go_quiet (fail)
      go_wp2_with fail
      go_ret2
      exact ⟨by rw [HG.out]; rfl, below_drewN he1 _⟩
    · have hg : s.get n = none := by unfold St.get; rw [if_neg (by omega)]
      have HG := Lib.hid hg
      have h3 : (s.next : Int) ≤ n := by omega
      generalize s.next = nx at *
      clear hg c2 c1' ho hb
      go_enter Try.func39, Try.ntmps39
      go_wp2_with fail
      refine (HNX.out w (Ext.refl _)).mono ?_
      rintro e w1 ⟨rfl, he1⟩
      go_wp2_with fail
      go_ret2
      exact ⟨by rw [HG.out]; rfl, he1⟩
end

end Go.Proofs.Ytfclighheoobaaa
