/- The disk: what each of its methods does to the world, said of the bytes that it holds. -/
import Derived.Test.YtiglblfjmmdeeaaGreatMem
import Derived.Test.YtiglblfjmmdeeaaGreatRows
import Derived.WalkKit
import Derived.WalkSpells
import Derived.WalkLawsBesides
import Derived.Deep.QuietTactic
import Derived.BigQuiet
import Derived.StillTailTactics
namespace Go.Proofs.YtiglblfjmmdeeaaGreat
open Go.RowKit

theorem byte_info : (Tryz.prog.info? 5).map (fun i => (i.zero, i.size, i.bytes)) = some (some (.int .u8 0), 1, 1) := by kernel_rfl

/-- A disk behind the pointer p: the slice v holds the bytes l, the first s are safe. -/
def IsDisk (w : World) (p : Nat) (v : Value) (l : List UInt8) (s : Nat) : Prop :=
  Blk w p 92 #[v, .int .i64 (s : Int)] ∧ w.ownsRow 0 5 1 v l.length (bys l) ∧ s ≤ l.length ∧ l.length ≤ 4194304

/-- The blocks of a disk. -/
def foot (p : Nat) (v : Value) : List Nat := p :: v.ownBlock.toList

set_option maxHeartbeats 400000 in
theorem new_calls (w : World) :
    Calls Tryz.prog 28 #[] w fun e w' => ∃ p, e = .returned (.pointer (some ⟨p, 0, none⟩)) ∧ w.heap.size = p ∧ IsDisk w' p (.slice none 0 0) [] 0 ∧ Below w.heap.size w w' := by
  go_enter Tryz.func28, Tryz.ntmps28
  go_wp2
  go_ret
  exact ⟨_, rfl, rfl, ⟨Blk.new _ _ _, World.ownsRow_nil _ _ _ _, Nat.le_refl _, by simp⟩, (Below.refl _ _).alloc (Nat.le_refl _) _⟩


theorem Reads.len {w : World} {B n : Nat} {A : Option Addr} {l : List UInt8} (h : Reads w B 1 A n (bys l)) : n = l.length := by
  have := h.1
  rw [bys_len] at this
  omega

/-- slices.Clone of a slice of bytes: a row of its own. -/
theorem clone_calls (w : World) (B : Nat) (A : Option Addr) (n c : Nat) (l : List UInt8) (hr : Reads w B 1 A n (bys l)) (hB : B ≤ w.heap.size) (hn : n ≤ 1000000000) (hA : A = none → n = 0 ∧ c = 0) :
    Calls Tryz.prog 78 #[.slice A n c] w fun e w' => ∃ A' c', e = .returned (.slice A' n c') ∧ w'.ownsRow w.heap.size 5 1 (.slice A' n c') n (bys l) ∧ Below w.heap.size w w' := by
  obtain ⟨i0, hi0, hz0, hz1, hz2⟩ := info_parts byte_info
  have q := fun (w : World) (a : Option Addr) (n c n' c' : Nat) => Lib.run_eql_slice_nil (P := Tryz.prog) w 34 5 a n c n' c' Tryz.underlying34
  rcases A with _ | ad
  · obtain ⟨rfl, rfl⟩ := hA rfl
    have hl : bys l = [] := List.eq_nil_of_length_eq_zero (by simpa using hr.1)
    have hl' : l = [] := by simpa [bys] using hl
    subst hl'
    go_enter Tryz.func78, Tryz.ntmps78
    go_wp2
    go_ret
    exact ⟨_, _, rfl, World.ownsRow_nil _ _ _ _, Below.refl _ _⟩
  · clear hA
    have hr1 : Reads (w.alloc (.cells #[] 5)) B 1 (some ad) n (bys l) := hr.alloc hB _
    have hown : (w.alloc (.cells #[] 5)).ownsRow w.heap.size 5 1 (.slice (some ⟨w.heap.size, 0, none⟩) 0 0) 0 [] := World.ownsRow_lit _ #[] 0 (Nat.le_refl _) (by simp) rfl
    go_enter Tryz.func78, Tryz.ntmps78
    go_wp2_with (at_builtin; refine wpList_app _ rfl (.tmp 5) (.tmp 6) _ rfl 5 i0 _ 1 1 Tryz.underlying34 hi0 hz0 hz1 hz2 rfl (by omega) (.slice (some ⟨w.heap.size, 0, none⟩) 0 0) 0 [] w.heap.size rfl hown B (some ad) n c (bys l) rfl hr1 (bys_one _) (by omega) (by simp) ?_; intro A1 c1 w1 hown1 hg1 hat1; rw [Nat.zero_add] at hown1 hat1; rw [Nat.zero_add]; simp only [List.nil_append] at hown1)
    go_ret
    refine ⟨_, _, rfl, hown1, ((Below.refl _ _).alloc (Nat.le_refl _) _).grown hg1 (by simp) (fun k hk => ?_)⟩
    simp only [Value.ownBlock, Option.some.injEq] at hk
    omega

set_option maxHeartbeats 400000 in
theorem sync_calls (w : World) (p : Nat) (v : Value) (l : List UInt8) (s : Nat) (h : IsDisk w p v l s) :
    Calls Tryz.prog 159 #[.pointer (some ⟨p, 0, none⟩)] w fun e w' => e = .returned (.tuple #[]) ∧ IsDisk w' p v l l.length ∧ Mod [p] w w' := by
  have c0 := h.1.cell 0
  have c1 := h.1.cell 1
  have f1 := h.1.frozen 1
  simp at c0 c1
  obtain ⟨A, c, rfl, _⟩ := own_slice h.2.1
  go_enter Tryz.func159, Tryz.ntmps159
  go_wp2
  go_end0
  have hm : Mod [p] w (w.setCell ⟨p, 1, none⟩ (.int .i64 (l.length : Int))) := (Mod.refl _ _).setCell (by simp) _
  exact ⟨rfl, ⟨by simpa using h.1.set_ 1 _, own_mod h.2.1 hm (fun k hk e => own_blk_ne h.2.1 h.1 (by decide) (by simp at e; subst e; exact hk)), Nat.le_refl _, h.2.2.2⟩, hm⟩

theorem own_ne {w : World} {p : Nat} {v : Value} {l : List UInt8} {s : Nat} (h : IsDisk w p v l s) : v.ownBlock ≠ some p := own_blk_ne h.2.1 h.1 (by decide)

theorem reads_own {w : World} {base : Nat} {e : TypeId} {size n c : Nat} {A : Option Addr} {xs : List Value} (h : w.ownsRow base e size (.slice A n c) n xs) : Reads w w.heap.size size A n xs := Reads.of_own h

set_option maxHeartbeats 400000 in
theorem bytes_calls (w : World) (p : Nat) (v : Value) (l : List UInt8) (s : Nat) (h : IsDisk w p v l s) :
    Calls Tryz.prog 47 #[.pointer (some ⟨p, 0, none⟩)] w fun e w' => ∃ A' c', e = .returned (.slice A' l.length c') ∧ w'.ownsRow w.heap.size 5 1 (.slice A' l.length c') l.length (bys l) ∧ Below w.heap.size w w' := by
  have c0 := h.1.cell 0
  simp at c0
  have hl := h.2.2.2
  obtain ⟨A, c, rfl, _, _, hA, _⟩ := own_slice h.2.1
  have H := Lib.hid (clone_calls w w.heap.size A l.length c l (reads_own h.2.1) (Nat.le_refl _) (by omega) hA)
  clear hA
  go_enter Tryz.func47, Tryz.ntmps47
  go_wp2_with (go_at_call 78; refine H.out.mono ?_; rintro e w1 ⟨A1, c1, rfl, ho, hb⟩)
  go_ret
  exact ⟨_, _, rfl, ho, hb⟩

set_option maxRecDepth 100000 in
/-- Append: above the disk's room. -/
theorem append_full (w : World) (p : Nat) (v : Value) (l : List UInt8) (s : Nat) (h : IsDisk w p v l s) (A : Option Addr) (n c : Nat) (hn : 4194304 < n + l.length) :
    Calls Tryz.prog 158 #[.pointer (some ⟨p, 0, none⟩), .slice A n c] w fun e w' => e = .returned (.int .i64 13) ∧ w = w' := by
  have c0 := h.1.cell 0
  simp at c0
  have hl := h.2.2.2
  obtain ⟨A', c', rfl, _⟩ := own_slice h.2.1
  go_enter Tryz.func158, Tryz.ntmps158
  go_wp2
  go_ret
  exact ⟨rfl, rfl⟩

/-- The disk with another slice in its field, and the cell of its safe count. -/
theorem disk_put {w w1 : World} {p : Nat} {v v' : Value} {l l' : List UInt8} {s : Nat} (h : IsDisk w p v l s) {row : Option Nat} (hg : w.grownBy w1 row) (hp : row ≠ some p)
    (ho : w1.ownsRow 0 5 1 v' l'.length (bys l')) (hs : s ≤ l'.length) (hl : l'.length ≤ 4194304) (hv : v'.ownBlock ≠ some p) :
    IsDisk (w1.setCell ⟨p, 0, none⟩ v') p v' l' s := by
  have hb := h.1.grown hg (fun e => hp e.symm)
  refine ⟨by simpa using hb.set_ 0 v', ?_, hs, hl⟩
  refine own_mod ho ((Mod.refl [p] w1).setCell (by simp) _) (fun k hk e => ?_)
  simp at e
  subst e
  exact hv hk

set_option maxRecDepth 100000 in
theorem append_calls (w : World) (p : Nat) (v : Value) (l : List UInt8) (s : Nat) (h : IsDisk w p v l s) (A : Option Addr) (n c : Nat) (xs : List UInt8) (B : Nat) (hr : Reads w B 1 A n (bys xs)) (hn : n + l.length ≤ 4194304) :
    Calls Tryz.prog 158 #[.pointer (some ⟨p, 0, none⟩), .slice A n c] w fun e w' => e = .returned (.int .i64 0) ∧
      ∃ v', IsDisk w' p v' (l ++ xs) s ∧ Mod (foot p v) w w' ∧ (v'.ownBlock = v.ownBlock ∨ v'.ownBlock = some w.heap.size) := by
  have c0 := h.1.cell 0
  have f0 := h.1.frozen 0
  simp at c0
  have hl := h.2.2.2
  have hne := own_ne h
  have ho := h.2.1
  obtain ⟨i0, hi0, hz0, hz1, hz2⟩ := info_parts byte_info
  obtain ⟨A', c', rfl, _⟩ := own_slice ho
  go_enter Tryz.func158, Tryz.ntmps158
  go_wp2_with (at_builtin; refine wpList_app _ rfl (.tmp 18) (.tmp 19) _ rfl 5 i0 _ 1 1 Tryz.underlying34 hi0 hz0 hz1 hz2 rfl (by omega) (.slice A' l.length c') l.length (bys l) 0 rfl ho B A n c (bys xs) rfl hr (bys_one _) (by omega) (by simp) ?_; intro A1 c1 w1 hown1 hg1 hat1; have c0' : w1.cell? ⟨p, 0, none⟩ = some (.slice A' l.length c') := hg1.cell c0 (fun e => hne e.symm); have f0' : w1.frozen? ⟨p, 0, none⟩ = false := (hg1.frozen_far ⟨p, 0, none⟩ h.1.lt (fun e => hne e.symm)).trans f0)
  go_ret
  have hlt := h.1.lt
  have e1 : bys l ++ bys xs = bys (l ++ xs) := (bys_append _ _).symm
  have e2 : l.length + n = (l ++ xs).length := by rw [List.length_append, hr.len]
  rw [e1] at hown1
  have hv : (Value.slice A1 (l.length + n) c1).ownBlock ≠ some p := by
    rcases hat1 with e | e
    · rw [e]; exact hne
    · rw [e]; intro h'; simp at h'; omega
  refine ⟨rfl, _, disk_put h hg1 hne (e2 ▸ hown1) (by rw [← e2]; have := h.2.2.1; omega) (by omega) hv, ?_, hat1⟩
  exact ((Mod.of_grown hg1).sub (fun k hk _ => by simp only [foot, List.mem_cons]; exact .inr hk)).setCell (by simp [foot]) _

set_option maxRecDepth 100000 in
set_option maxHeartbeats 1000000 in
theorem crash_at (w : World) (p : Nat) (A' : Option Addr) (c' : Nat) (l : List UInt8) (s m d : Nat) (k : Int) (h : IsDisk w p (.slice A' l.length c') l s) (hd : l.length = s + d) (hc : l.length ≤ c')
    (hk : k < 0 ∧ m = 0 ∨ k = (m : Int) ∧ m ≤ d ∨ k > (m : Int) ∧ m = d) :
    Calls Tryz.prog 37 #[.pointer (some ⟨p, 0, none⟩), .int .i64 k] w fun e w' => e = .returned (.tuple #[]) ∧
      w' = ((w.setCell ⟨p, 0, none⟩ (.slice A' (s + m) c')).setCell ⟨p, 1, none⟩ (.int .i64 ((s + m : Nat) : Int))).drew := by
  have c0 := h.1.cell 0
  have f0 := h.1.frozen 0
  have c1 := h.1.cell 1
  have f1 := h.1.frozen 1
  simp at c0 c1
  have hl := h.2.2.2
  have hs := h.2.2.1
  have b1 : IntKind.i64.wrap ((l.length : Int) - (s : Int)) = (d : Int) := by rw [IntWalk.i64_in _ (by omega)]; omega
  have b2 : IntKind.i64.wrap ((s : Int) + (m : Int)) = (s : Int) + (m : Int) := IntWalk.i64_in _ (by omega)
  have b3 : IntKind.i64.wrap (s : Int) = (s : Int) := IntWalk.i64_in _ (by omega)
  have b4 : ((s : Int) + (m : Int)).toNat = s + m := by omega
  have b5 : (0 : Int) ≤ (s : Int) + (m : Int) := by omega
  have b6 : (s : Int) + (m : Int) ≤ (c' : Int) := by omega
  have b7 : (s : Int) ≤ (c' : Int) := by omega
  have b8 : ((s + m : Nat) : Int) = (s : Int) + (m : Int) := by omega
  rcases hk with ⟨h1, rfl⟩ | ⟨rfl, h1⟩ | ⟨h1, rfl⟩
  · have e1 : (k < 0) = True := by simp [h1]
    have e2 : ((d : Int) < 0) = False := by simp
    clear hd hl hs hc h
    go_enter Tryz.func37, Tryz.ntmps37
    go_wp2
    go_still_tail 24, (by kernel_rfl)
    go_wp2
    go_end0
    exact ⟨rfl, by first | rfl | (rw [b8]; rfl)⟩
  · have e1 : ((m : Int) < 0) = False := by simp
    have e2 : (d < m) = False := by simp; omega
    clear hd hl hs hc h
    go_enter Tryz.func37, Tryz.ntmps37
    go_wp2
    go_still_tail 24, (by kernel_rfl)
    go_wp2
    go_end0
    exact ⟨rfl, by first | rfl | (rw [b8]; rfl)⟩
  · have e1 : (k < 0) = False := by simp; omega
    have e2 : ((m : Int) < k) = True := by simp; omega
    clear hd hl hs hc h
    go_enter Tryz.func37, Tryz.ntmps37
    go_wp2
    go_still_tail 24, (by kernel_rfl)
    go_wp2
    go_end0
    exact ⟨rfl, by first | rfl | (rw [b8]; rfl)⟩

theorem own_base {w : World} {base : Nat} {e : TypeId} {size n : Nat} {v : Value} {xs : List Value} (h : w.ownsRow base e size v n xs) : w.ownsRow 0 e size v n xs := by
  refine ⟨h.1, ?_⟩
  rcases h.2 with h | ⟨g, cap, cur, h1, _, r⟩
  · exact .inl h
  · exact .inr ⟨g, cap, cur, h1, Nat.zero_le _, r⟩

theorem own_take {w : World} {base : Nat} {e : TypeId} {A : Option Addr} {n c : Nat} {l : List UInt8} (h : w.ownsRow base e 1 (.slice A n c) n (bys l)) (m : Nat) (hm : m ≤ n) : w.ownsRow base e 1 (.slice A m c) m (bys (l.take m)) := by
  have hl : l.length = n := by have := h.1; rw [bys_len] at this; omega
  refine ⟨by rw [bys_len, List.length_take]; omega, ?_⟩
  rcases h.2 with ⟨h1, h2⟩ | ⟨g, cap, cur, h1, h2, h3, h4, h5, h6, h7⟩
  · injection h1 with h1 h3 h4
    subst h1 h4
    exact .inl ⟨by rw [show m = 0 by omega], by omega⟩
  · injection h1 with h1 h8 h9
    subst h1 h9
    refine .inr ⟨g, c, cur, rfl, h2, h3, by omega, h5, h6, ?_⟩
    rw [← bys_take, ← h7, List.take_take]
    congr 1
    omega

/-- Crash: of what is not safe the first k bytes stay. -/
theorem crash_calls (w : World) (p : Nat) (v : Value) (l : List UInt8) (s : Nat) (h : IsDisk w p v l s) (k : Int) :
    Calls Tryz.prog 37 #[.pointer (some ⟨p, 0, none⟩), .int .i64 k] w fun e w' => e = .returned (.tuple #[]) ∧
      ∃ v', IsDisk w' p v' (l.take (s + k.toNat)) (min (s + k.toNat) l.length) ∧ Mod [p] w w' ∧ v'.ownBlock = v.ownBlock := by
  obtain ⟨A', c', rfl, hc, _⟩ := own_slice h.2.1
  have hs := h.2.2.1
  obtain ⟨d, hd⟩ : ∃ d, l.length = s + d := ⟨l.length - s, by omega⟩
  obtain ⟨m, hm, hmd⟩ : ∃ m : Nat, (k < 0 ∧ m = 0 ∨ k = (m : Int) ∧ m ≤ d ∨ k > (m : Int) ∧ m = d) ∧ m = min k.toNat d := by
    refine ⟨min k.toNat d, ?_, rfl⟩
    omega
  refine (crash_at w p A' c' l s m d k h hd hc hm).mono fun e w' ⟨he, hw⟩ => ⟨he, .slice A' (s + m) c', ?_, ?_, ?_⟩
  · subst hw
    have e1 : l.take (s + k.toNat) = l.take (s + m) := by
      rw [hmd]
      by_cases hk : k.toNat ≤ d
      · rw [Nat.min_eq_left hk]
      · rw [List.take_of_length_le (by omega), List.take_of_length_le (by omega)]
    have e2 : min (s + k.toNat) l.length = s + m := by omega
    have e3 : (l.take (s + m)).length = s + m := by rw [List.length_take]; omega
    have hm1 : Mod [p] w (((w.setCell ⟨p, 0, none⟩ (.slice A' (s + m) c')).setCell ⟨p, 1, none⟩ (.int .i64 ((s + m : Nat) : Int))).drew) := (((Mod.refl _ _).setCell (by simp) _).setCell (by simp) _).drew
    rw [e1, e2]
    have hb := ((h.1.set_ 0 (.slice A' (s + m) c')).set_ 1 (.int .i64 ((s + m : Nat) : Int))).drew
    refine ⟨by simpa using hb, ?_, by omega, by have := h.2.2.2; omega⟩
    rw [e3]
    exact own_mod (own_take h.2.1 (s + m) (by omega)) hm1 (fun j hj e => own_ne h (by simp at e; subst e; cases A' <;> exact hj))
  · subst hw
    exact (((Mod.refl _ _).setCell (by simp) _).setCell (by simp) _).drew
  · cases A' <;> rfl

theorem swap_full (w : World) (p : Nat) (A : Option Addr) (n c : Nat) (hn : 4194304 < n) :
    Calls Tryz.prog 97 #[.pointer (some ⟨p, 0, none⟩), .slice A n c] w fun e w' => e = .returned (.int .i64 13) ∧ w = w' := by
  go_enter Tryz.func97, Tryz.ntmps97
  go_wp2
  go_ret
  exact ⟨rfl, rfl⟩

set_option maxRecDepth 100000 in
theorem swap_calls (w : World) (p : Nat) (v : Value) (l : List UInt8) (s : Nat) (h : IsDisk w p v l s) (A : Option Addr) (n c : Nat) (xs : List UInt8) (B : Nat) (hr : Reads w B 1 A n (bys xs)) (hB : B ≤ w.heap.size) (hA : A = none → n = 0 ∧ c = 0) (hn : n ≤ 4194304) :
    Calls Tryz.prog 97 #[.pointer (some ⟨p, 0, none⟩), .slice A n c] w fun e w' => e = .returned (.int .i64 0) ∧
      ∃ v', IsDisk w' p v' xs xs.length ∧ Mod [p] w w' ∧ (∀ k, v'.ownBlock = some k → w.heap.size ≤ k) := by
  have H := Lib.hid (clone_calls w B A n c xs hr hB (by omega) hA)
  have HL := Lib.hid hr.len
  have hlt := h.1.lt
  clear hA
  go_enter Tryz.func97, Tryz.ntmps97
  go_wp2_with (go_at_call 78; refine H.out.mono ?_; rintro e w1 ⟨A1, c1, rfl, ho, hb⟩; have hb1 := h.1.below hb hlt; have f0 := hb1.frozen 0; have f1 := hb1.frozen 1; have q0 := hb1.cell 0; have q1 := hb1.cell 1; simp at q0 q1)
  go_ret
  have hl := HL.out
  have hm : Mod [p] w1 ((w1.setCell ⟨p, 0, none⟩ (.slice A1 n c1)).setCell ⟨p, 1, none⟩ (.int .i64 (n : Int))) := ((Mod.refl _ _).setCell (by simp) _).setCell (by simp) _
  have hge : ∀ k, (Value.slice A1 n c1).ownBlock = some k → w.heap.size ≤ k := fun k hk => (ho.lt k hk).1
  refine ⟨rfl, _, ⟨?_, ?_, Nat.le_refl _, by omega⟩, (Mod.of_below hb [p]).trans' hm, hge⟩
  · rw [← hl]; simpa using (hb1.set_ 0 (.slice A1 n c1)).set_ 1 (.int .i64 (n : Int))
  · rw [← hl]
    refine own_mod (own_base ho) hm (fun k hk e => ?_)
    simp at e
    have := hge k hk
    omega

end Go.Proofs.YtiglblfjmmdeeaaGreat
