/- wire.Reader, loosely: what is read is some bytes; nothing else changes. -/
import Derived.Test.YtmohidgdmmkikaaGreatDoorWireW
namespace Go.Proofs.YtmohidgdmmkikaaGreatDoor
open Go.RowKit

attribute [local go_sem] Oper.pureUpon Oper.relUpon

/-- A reader behind the pointer p, made since there were B blocks. -/
def IsRy (w : World) (B p : Nat) (y : Int) : Prop := ∃ (v : Value) (l : List UInt8) (i : Nat) (z : Int), B ≤ p ∧ B ≤ w.heap.size ∧ Blk w p 94 #[v, .int .i64 (i : Int), .int .i64 y, .int .i64 z] ∧ w.ownsRow B 5 1 v l.length (bys l) ∧ i ≤ l.length ∧ l.length ≤ 1000
def IsRw (w : World) (B p : Nat) : Prop := ∃ y, IsRy w B p y

set_option maxRecDepth 100000 in
theorem wjoin_one (w : World) (B : Nat) (ad : Addr) (c : Nat) (s sep : ByteArray) (hr : Reads w B 1 (some ad) 1 [.string s]) :
    Calls Tryz.prog 93 #[.slice (some ad) 1 c, .string sep] w fun e w' => e = .returned (.string s) ∧ w' = w := by
  obtain ⟨ad', u, he, _, hx, hc⟩ := hr.at_ (k := 0) (by omega)
  injection he with he
  subst he
  simp at hx
  subst hx
  have hc0 : w.cell? ad = some (.string s) := by simpa [Addr.add] using hc
  clear hc
  go_enter Tryz.func93, Tryz.ntmps93
  go_wp2_with fail
  go_ret
  exact ⟨rfl, rfl⟩

section
variable {w w1 : World} {B p : Nat}
theorem IsRw.set {v : Value} {l : List UInt8} {i : Nat} {y z : Int} (hBp : B ≤ p) (hBs : B ≤ w.heap.size) (hb : Blk w p 94 #[v, .int .i64 (i : Int), .int .i64 y, .int .i64 z]) (ho : w.ownsRow B 5 1 v l.length (bys l)) (hl : l.length ≤ 1000)
    {k : Nat} {u : Value} {i' : Nat} {y' z' : Int} (he : (#[v, .int .i64 (i : Int), .int .i64 y, .int .i64 z] : Array Value).setIfInBounds k u = #[v, .int .i64 (i' : Int), .int .i64 y', .int .i64 z']) (hi : i' ≤ l.length) :
    Below B w (w.setCell ⟨p, k, none⟩ u) ∧ B ≤ (w.setCell ⟨p, k, none⟩ u).heap.size ∧ Blk (w.setCell ⟨p, k, none⟩ u) p 94 #[v, .int .i64 (i' : Int), .int .i64 y', .int .i64 z'] ∧ (w.setCell ⟨p, k, none⟩ u).ownsRow B 5 1 v l.length (bys l) := by
  have hm : Mod [p] w (w.setCell ⟨p, k, none⟩ u) := (Mod.refl _ _).setCell (by simp) _
  have hne := own_blk_ne ho hb (by decide)
  refine ⟨hm.below hBs (by simpa using hBp), Nat.le_trans hBs hm.size, ?_, own_mod ho hm (fun j hj e => hne (by simp at e; subst e; exact hj))⟩
  rw [← he]
  exact hb.set_ k u

set_option maxRecDepth 100000 in
theorem wr_refuse (h : IsRy w B p 0) (y z : Int) :
    Calls Tryz.prog 64 #[.pointer (some ⟨p, 0, none⟩), .int .i64 y, .int .i64 z] w fun e w' => e = .returned (.tuple #[]) ∧ IsRy w' B p y ∧ Below B w w' := by
  obtain ⟨v, l, i, z0, hBp, hBs, hb, ho, hi, hl⟩ := h
  have c2 := hb.cell 2
  have c3 := hb.cell 3
  simp at c2 c3
  have f2 := hb.frozen 2
  have f3 := hb.frozen 3
  obtain ⟨e1, s1, b1, o1⟩ := IsRw.set (k := 2) (u := .int .i64 y) (y' := y) (z' := z0) hBp hBs hb ho hl rfl hi
  obtain ⟨e2, s2, b2, o2⟩ := IsRw.set (k := 3) (u := .int .i64 z) (y' := y) (z' := z) hBp s1 b1 o1 hl rfl hi
  have H2 : IsRy ((w.setCell ⟨p, 2, none⟩ (.int .i64 y)).setCell ⟨p, 3, none⟩ (.int .i64 z)) B p y := ⟨v, l, i, z, hBp, s2, b2, o2, hi, hl⟩
  have HH := Lib.hid (And.intro H2 (e1.trans e2))
  clear H2 e1 e2 s1 s2 b1 b2 o1 o2 hb ho
  go_enter Tryz.func64, Tryz.ntmps64
  go_wp2_with fail
  go_end0
  exact ⟨rfl, HH.out.1, HH.out.2⟩
set_option maxRecDepth 100000 in
theorem wr_refuse2 {y0 : Int} (h : IsRy w B p y0) (hy : y0 ≠ 0) (y z : Int) :
    Calls Tryz.prog 64 #[.pointer (some ⟨p, 0, none⟩), .int .i64 y, .int .i64 z] w fun e w' => e = .returned (.tuple #[]) ∧ w' = w := by
  obtain ⟨v, l, i, z0, hBp, hBs, hb, ho, hi, hl⟩ := h
  have c2 := hb.cell 2
  simp at c2
  clear hb ho
  go_enter Tryz.func64, Tryz.ntmps64
  go_wp2_with fail
  go_end0
  exact ⟨rfl, rfl⟩

theorem own_slice' {w : World} {base n c : Nat} {A : Option Addr} {e : TypeId} {size : Nat} {xs : List Value} (h : w.ownsRow base e size (.slice A n c) n xs) : n ≤ c ∧ (A = none → n = 0 ∧ c = 0) := by
  obtain ⟨A', c', he, hc⟩ := own_slice h
  injection he with e1 e2 e3
  subst e1 e3
  exact ⟨hc.1, hc.2.2.1⟩
set_option maxRecDepth 100000 in
theorem wr_refuse_any (h : IsRw w B p) (y z : Int) :
    Calls Tryz.prog 64 #[.pointer (some ⟨p, 0, none⟩), .int .i64 y, .int .i64 z] w fun e w' => e = .returned (.tuple #[]) ∧ IsRw w' B p ∧ Below B w w' := by
  obtain ⟨y0, h⟩ := h
  by_cases hy : y0 = 0
  · subst hy
    refine (wr_refuse h y z).mono ?_
    rintro e w1 ⟨rfl, h1, h2⟩
    exact ⟨rfl, ⟨_, h1⟩, h2⟩
  · refine (wr_refuse2 h hy y z).mono ?_
    rintro e w1 ⟨rfl, rfl⟩
    exact ⟨rfl, ⟨_, h⟩, Below.refl _ _⟩
/-- What take answers. -/
def Took (w : World) (B p : Nat) (n : Int) (e : Ending) (w' : World) : Prop := ∃ A m c xs, e = .returned (.slice A m c) ∧ Reads w' w'.heap.size 1 A m (bys xs) ∧ (m ≤ 1000 ∧ (m : Int) ≤ max n 0) ∧ IsRw w' B p ∧ Below B w w'
set_option maxRecDepth 100000 in
theorem wr_take (h : IsRw w B p) (n : Int) (hn : -9223372036854775808 ≤ n ∧ n < 9223372036854775808) :
    Calls Tryz.prog 65 #[.pointer (some ⟨p, 0, none⟩), .int .i64 n] w fun e w' => Took w B p n e w' := by
  obtain ⟨y0, h⟩ := h
  have h0 := h
  obtain ⟨v, l, i, z0, hBp, hBs, hb, ho, hi, hl⟩ := h
  have c0 := hb.cell 0
  have c1 := hb.cell 1
  have c2 := hb.cell 2
  simp at c0 c1 c2
  have f1 := hb.frozen 1
  obtain ⟨A', c', rfl, hc'⟩ := own_slice ho
  by_cases hy : y0 = 0
  · subst hy
    by_cases hlong : n > (l.length : Int) - (i : Int)
    · have H0 := Lib.hid h0
      clear h0 hb ho hc'
      have hw1 : IntKind.i64.wrap ((l.length : Int) - (i : Int)) = (l.length : Int) - (i : Int) := IntWalk.i64_in _ (by omega)
      go_enter Tryz.func65, Tryz.ntmps65
      go_wp2_with fail
      go_quiet (fail)
      go_wp2_with fail
      refine (wr_refuse (w := w.drewN nq) (B := B) H0.out 10 l.length).mono ?_
      rintro e w2 ⟨rfl, h2, hb2⟩
      have hb3 : Below B w w2 := (below_drewN (Below.refl _ _) nq).trans hb2
      have h20 := h2
      obtain ⟨v2, l2, i2, z2, _, _, hb, _, _, _⟩ := h2
      have c2' := hb.cell 2
      simp at c2'
      have H2 := Lib.hid (And.intro h20 hb3)
      clear h20 hb3 hb hb2
      go_wp2_with fail
      go_ret
      exact ⟨none, 0, 0, [], rfl, Reads.none_, ⟨by omega, by omega⟩, ⟨_, H2.out.1⟩, H2.out.2⟩
    · have hw1 : IntKind.i64.wrap ((l.length : Int) - (i : Int)) = (l.length : Int) - (i : Int) := IntWalk.i64_in _ (by omega)
      by_cases hneg : n ≤ 0
      · have H0 := Lib.hid h0
        clear h0 hb ho hc'
        go_enter Tryz.func65, Tryz.ntmps65
        go_wp2_with fail
        go_quiet (fail)
        go_wp2_with fail
        go_ret
        exact ⟨none, 0, 0, [], rfl, Reads.none_, ⟨by omega, by omega⟩, ⟨_, H0.out⟩, below_drewN (Below.refl _ _) _⟩
      · obtain ⟨m, rfl⟩ : ∃ m : Nat, n = (m : Int) := ⟨n.toNat, by omega⟩
        have hmi : i + m ≤ l.length := by omega
        have k1 : ¬ (m : Int) > (l.length : Int) - (i : Int) := by omega
        have k2 : ¬ (m : Int) ≤ 0 := hneg
        have H0 := Lib.hid (And.intro h0 (And.intro hb ho))
        clear h0 hb ho
        go_enter Tryz.func65, Tryz.ntmps65
        go_wp2_with fail
        go_quiet (fail)
        go_wp2_with fail
        obtain ⟨e1, hB3, hb3, ho3⟩ := IsRw.set (w := w.drewN nq) (k := 1) (u := .int .i64 ((i : Int) + (m : Int))) (i' := i + m) (y' := 0) (z' := z0) hBp hBs (H0.out.2.1.drewN nq) H0.out.2.2 hl (by simp) hmi
        have hbl3 := (below_drewN (Below.refl B w) nq).trans e1
        clear e1
        generalize ((w.drewN nq).setCell ⟨p, 1, none⟩ (.int .i64 ((i : Int) + (m : Int)))) = w3 at *
        have C0 : ∀ w', Ext w3 w' → w'.cell? ⟨p, 0, none⟩ = some (.slice A' l.length c') := fun w' he => by have := (hb3.below he hb3.lt).cell 0; simpa using this
        have C1 : ∀ w', Ext w3 w' → w'.cell? ⟨p, 1, none⟩ = some (.int .i64 ((i : Int) + (m : Int))) := fun w' he => by have := (hb3.below he hb3.lt).cell 1; simpa using this
        have hwm : IntKind.i64.wrap (i : Int) = (i : Int) := IntWalk.i64_in _ (by omega)
        obtain ⟨hlc, hnil⟩ := own_slice' ho3
        have g1 : (0 : Int) ≤ (i : Int) + (m : Int) := by omega
        have g2 : (i : Int) + (m : Int) ≤ (c' : Int) := by omega
        have g3 : (0 : Int) ≤ (i : Int) := by omega
        have g4 : (i : Int) ≤ max ((i : Int) + (m : Int)) 0 := by omega
        obtain ⟨A2, hsl, hrd, hnn, hA2⟩ := slice_mid (A := A') (c := c') (l := l) hlc (i := i) (k := m) (by omega)
        have H3 := Lib.hid (And.intro hbl3 (And.intro hb3 (And.intro ho3 hB3)))
        have HRD := Lib.hid hrd
        have HNN := Lib.hid hnn
        have HA2 := Lib.hid hA2
        have HNIL := Lib.hid hnil
        clear hbl3 hb3 ho3 hB3 H0 hrd hnn hA2 hsl hnil hlc
        refine wp_region_rely_tail 15 [none, none, none, none, none, none, none, none, none, none, none, none, none, none, none] (by kernel_rfl) (by kernel_rfl) ?_
        simp only [Wit, List.take_succ_cons, List.take_zero, List.drop_succ_cons, List.drop_zero]
        iterate 15 apply Exists.intro
        repeat (first | (refine rely_skip rfl ?_; simp only [Act.put, List.setIfInBounds_toArray, List.set_cons_zero, List.set_cons_succ]) | (apply rely_pure; (· rfl); (· intro w hw hd; go_simp; done); simp only [Act.put, List.setIfInBounds_toArray, List.set_cons_zero, List.set_cons_succ]) | (apply rely_pure; (· rfl); (· intro w hw hd; go_simp; exact rfl); simp only [Act.put, List.setIfInBounds_toArray, List.set_cons_zero, List.set_cons_succ]))
        apply rely_pure
        · rfl
        · intro w hw hd
          go_simp
          rw [if_pos (by omega : (i : Int) ≤ (i : Int) + (m : Int))]
          exact ⟨rfl, rfl⟩
        simp only [Act.put, List.setIfInBounds_toArray, List.set_cons_zero, List.set_cons_succ]
        refine rely_nil ?_
        intro w4 hw4
        have he4 := hw4.1
        clear hw4 C0 C1
        go_wp2_with fail
        have e1 : ((i : Int) + (m : Int)).toNat - i = m := by omega
        have e2 := HA2.out
        rw [if_neg (by have := HNIL; omega : ¬ c' = i)] at e2
        rw [e1, ← e2]
        have ho4 : w4.ownsRow B 5 1 (.slice A' l.length c') l.length (bys l) := own_mod H3.out.2.2.1 (Mod.of_below he4 []) (by simp)
        refine (clone_calls w4 w4.heap.size A2 m (c' - i) ((l.drop i).take m) (HRD.out w4 w4.heap.size (Reads.of_own ho4)) (Nat.le_refl _) (by omega) (fun hn => by have := HNIL.out (HNN.out hn); omega)).mono ?_
        rintro e w5 ⟨A5, c5, rfl, h5, he5⟩
        go_wp2_with fail
        go_ret
        have hm5 : Below B w w5 := (H3.out.1.trans ⟨he4.os, he4.tape, he4.output, he4.size, fun k hk => he4.block k (Nat.lt_of_lt_of_le hk H3.out.2.2.2)⟩).trans ⟨he5.os, he5.tape, he5.output, he5.size, fun k hk => he5.block k (Nat.lt_of_lt_of_le hk (Nat.le_trans H3.out.2.2.2 he4.size))⟩
        have hb4 := H3.out.2.1.below he4 H3.out.2.1.lt
        exact ⟨A5, m, c5, _, rfl, Reads.of_own h5, ⟨by omega, by omega⟩, ⟨0, _, l, i + m, z0, hBp, Nat.le_trans hBs hm5.size, hb4.below he5 hb4.lt, own_mod ho4 (Mod.of_below he5 []) (by simp), hmi, hl⟩, hm5⟩
  · have H0 := Lib.hid h0
    clear h0 hb ho hc'
    go_enter Tryz.func65, Tryz.ntmps65
    go_wp2_with fail
    go_quiet (fail)
    go_wp2_with fail
    go_ret
    exact ⟨none, 0, 0, [], rfl, Reads.none_, ⟨by omega, by omega⟩, ⟨_, H0.out⟩, below_drewN (Below.refl _ _) _⟩
/-- What reads a number yields. -/
def Got (w : World) (B p : Nat) (e : Ending) (w' : World) : Prop := ∃ n : Nat, e = .returned (.int .u64 (n : Int)) ∧ n < 18446744073709551616 ∧ IsRw w' B p ∧ Below B w w'
set_option maxRecDepth 100000 in
theorem wr_get (h : IsRw w B p) (n : Nat) (hn : n ≤ 8) :
    Calls Tryz.prog 61 #[.pointer (some ⟨p, 0, none⟩), .int .i64 (n : Int)] w fun e w' => Got w B p e w' := by
  go_enter Tryz.func61, Tryz.ntmps61
  go_wp2_with fail
  refine (wr_take h n (by omega)).mono ?_
  rintro e w1 ⟨A, m, c, xs, rfl, hR, ⟨hm, hm8⟩, hw, hbl⟩
  have HW := Lib.hid (And.intro hw hbl)
  clear hw hbl
  go_wp2_with fail
  go_loopw [5, 7, 12] (fun x _ i wr => ∃ k q : Nat, k ≤ m ∧ i = .int .i64 (k : Int) ∧ x = .int .u64 (q : Int) ∧ q < 256 ^ k ∧ wr = w1) (fun _ _ i _ => m - (intOf i).toNat)
  case atStart => exact ⟨0, 0, by omega, rfl, rfl, by decide, rfl⟩
  case round =>
    obtain ⟨k, q, hk, rfl, rfl, hq, hw⟩ := hrel
    obtain rfl := hw.symm
    by_cases hlt : k < m
    · obtain ⟨ad, u, rfl, _, hx, hcl⟩ := hR.at_ hlt
      obtain ⟨b, rfl⟩ : ∃ b : UInt8, u = .int .u8 (b.toNat : Int) := by
        rw [bys_get] at hx
        cases hlk : xs[k]? with
        | none => rw [hlk] at hx; cases hx
        | some c => rw [hlk] at hx; exact ⟨c, (Option.some.inj hx).symm⟩
      have h0 : (0 : Int) ≤ (k : Int) := by omega
      have h1 : (k : Int) < (m : Int) := by omega
      obtain ⟨z, hz⟩ : ∃ z, b.toNat = z := ⟨_, rfl⟩
      have hzl : z < 256 := hz ▸ b.toNat_lt
      rw [hz] at hcl
      have hq7 : q < 72057594037927936 := Nat.lt_of_lt_of_le hq (Nat.le_trans (Nat.pow_le_pow_right (by omega) (by omega : k ≤ 7)) (by decide))
      have e1 : bits BinOp.or IntKind.u64 ((q : Int) * 256) (z : Int) = ((z + 256 * q : Nat) : Int) := or_byte q z hq7 hzl
      have hq2 : z + 256 * q < 256 ^ (k + 1) := by rw [Nat.pow_succ]; omega
      have HQ := Lib.hid hq2
      clear hx hz hq2 hq
      go_wp2_with fail
      go_roundw
      case rel => exact ⟨k + 1, z + 256 * q, by omega, by go_num, rfl, HQ.out, trivial⟩
      case measure => simp [intOf]; omega
    · have h1 : ¬ (k : Int) < (m : Int) := by omega
      have hqm : q < 18446744073709551616 := Nat.lt_of_lt_of_le hq (Nat.le_trans (Nat.pow_le_pow_right (by omega) (by omega : k ≤ 8)) (by decide))
      have HQ := Lib.hid hqm
      clear hq hqm
      go_wp2_with fail
      go_ret
      exact ⟨q, rfl, HQ.out, HW.out.1, HW.out.2⟩
set_option maxRecDepth 100000 in
theorem wr_new (w : World) (B : Nat) (A : Option Addr) (n c : Nat) (l : List UInt8) (hr : Reads w B 1 A n (bys l)) (hB : B ≤ w.heap.size) (hn : n ≤ 1000) (hA : A = none → n = 0 ∧ c = 0) :
    Calls Tryz.prog 25 #[.slice A n c] w fun e w' => ∃ p, e = .returned (.pointer (some ⟨p, 0, none⟩)) ∧ IsRw w' w.heap.size p ∧ Ext w w' := by
  have HL := Lib.hid hr.len
  go_enter Tryz.func25, Tryz.ntmps25
  go_wp2_with fail
  refine (clone_calls w B A n c l hr hB (by omega) hA).mono ?_
  rintro e w1 ⟨A2, c2, rfl, h1, h2⟩
  go_wp2_with fail
  go_ret
  have hl := HL.out
  subst hl
  have hx : Ext w1 (w1.alloc (.cells #[.slice A2 l.length c2, .int .i64 0, .int .i64 0, .int .i64 0] 94)) := (Below.refl _ _).alloc (Nat.le_refl _) _
  have hx2 := Ext.trans h2 hx
  exact ⟨_, rfl, ⟨0, _, l, 0, 0, h2.size, hx2.size, Blk.new _ _ _, h1.alloc _, Nat.zero_le _, hn⟩, hx2⟩

set_option maxRecDepth 100000 in
theorem wr_fine {y : Int} (h : IsRy w B p y) :
    Calls Tryz.prog 41 #[.pointer (some ⟨p, 0, none⟩)] w fun e w' => (∃ b, e = .returned (.bool b)) ∧ w' = w := by
  obtain ⟨v, l, i, z, hBp, hBs, hb, ho, hi, hl⟩ := h
  have c2 := hb.cell 2
  simp at c2
  clear hb ho
  go_enter Tryz.func41, Tryz.ntmps41
  go_wp2_with fail
  go_ret
  exact ⟨⟨_, rfl⟩, rfl⟩

set_option maxRecDepth 100000 in
theorem wr_bool (h : IsRw w B p) :
    Calls Tryz.prog 43 #[.pointer (some ⟨p, 0, none⟩)] w fun e w' => (∃ b, e = .returned (.bool b)) ∧ IsRw w' B p ∧ Below B w w' := by
  go_enter Tryz.func43, Tryz.ntmps43
  go_wp2_with fail
  refine (wr_get h 1 (by omega)).mono ?_
  rintro e w1 ⟨n, rfl, hn, h1, h2⟩
  go_wp2_with fail
  go_ret
  exact ⟨⟨_, rfl⟩, h1, h2⟩

set_option maxRecDepth 100000 in
theorem wr_end {y : Int} (h : IsRy w B p y) :
    Calls Tryz.prog 66 #[.pointer (some ⟨p, 0, none⟩)] w fun e w' => (∃ a b : Int, e = .returned (.tuple #[.int .i64 a, .int .i64 b])) ∧ Ext w w' := by
  obtain ⟨v, l, i, z, hBp, hBs, hb, ho, hi, hl⟩ := h
  have c0 := hb.cell 0
  have c1 := hb.cell 1
  have c2 := hb.cell 2
  have c3 := hb.cell 3
  simp at c0 c1 c2 c3
  obtain ⟨A', c', rfl, _⟩ := own_slice ho
  clear hb ho
  by_cases hy : y = 0
  · subst hy
    by_cases hlt : (i : Int) < (l.length : Int)
    · go_enter Tryz.func66, Tryz.ntmps66
      go_wp2_with fail
      go_quiet (fail)
      go_wp2_with fail
      go_quiet (fail)
      go_wp2_with fail
      go_ret2
      exact ⟨⟨_, _, rfl⟩, below_drewN (below_drewN (Below.refl _ _) _) _⟩
    · go_enter Tryz.func66, Tryz.ntmps66
      go_wp2_with fail
      go_quiet (fail)
      go_wp2_with fail
      go_ret2
      exact ⟨⟨_, _, rfl⟩, below_drewN (Below.refl _ _) _⟩
  · go_enter Tryz.func66, Tryz.ntmps66
    go_wp2_with fail
    go_quiet (fail)
    go_wp2_with fail
    go_ret2
    exact ⟨⟨_, _, rfl⟩, below_drewN (Below.refl _ _) _⟩

set_option maxRecDepth 100000 in
theorem wr_all (h : IsRw w B p) :
    Calls Tryz.prog 40 #[.pointer (some ⟨p, 0, none⟩)] w fun e w' => (∃ b, e = .returned (.bool b)) ∧ IsRw w' B p ∧ Ext w w' := by
  obtain ⟨y, h⟩ := h
  have h0 := Lib.hid h
  go_enter Tryz.func40, Tryz.ntmps40
  go_wp2_with fail
  refine (wr_end h).mono ?_
  rintro e w1 ⟨⟨a, b, rfl⟩, he⟩
  go_wp2_with fail
  go_ret
  obtain ⟨v, l, i, z, hBp, hBs, hb, ho, hi, hl⟩ := h0.out
  exact ⟨⟨_, rfl⟩, ⟨y, v, l, i, z, hBp, Nat.le_trans hBs he.size, hb.below he hb.lt, own_mod ho (Mod.of_below he []) (by simp), hi, hl⟩, he⟩

set_option maxRecDepth 100000 in
theorem wr_text (h : IsRw w B p) (most : Nat) (hm : most ≤ 1000) :
    Calls Tryz.prog 39 #[.pointer (some ⟨p, 0, none⟩), .int .i64 (most : Int)] w fun e w' => (∃ s : ByteArray, e = .returned (.string s) ∧ s.size ≤ 1000) ∧ IsRw w' B p ∧ Below B w w' := by
  obtain ⟨y, h⟩ := h
  have h0 := Lib.hid h
  obtain ⟨v, l, i, z, hBp, hBs, hb, ho, hi, hl⟩ := h
  have c1 := hb.cell 1
  simp at c1
  clear hb ho
  go_enter Tryz.func39, Tryz.ntmps39
  go_wp2_with fail
  refine (wr_get (w := w) (B := B) ⟨y, h0.out⟩ 4 (by omega)).mono ?_
  rintro e w1 ⟨n, rfl, hn, h1, h2⟩
  by_cases hlong : most < n
  · go_wp2_with fail
    refine (wr_refuse_any h1 3 i).mono ?_
    rintro e w2 ⟨rfl, h3, h4⟩
    go_wp2_with fail
    refine (wr_take h3 (wrap64 (n : Int)) (by unfold wrap64; omega)).mono ?_
    rintro e w3 ⟨A, m, c, xs, rfl, hR, hm3, h5, h6⟩
    have hcv := run_str w3 28 9 5 Tryz.underlying28 Tryz.underlying5 Tryz.underlying9 hR c
    have HX := Lib.hid hR.len
    have HH := Lib.hid (And.intro h5 (And.intro h2 (And.intro h4 h6)))
    clear hR h1 h2 h5 h6
    go_wp2_with fail
    go_ret
    have hx := HX.out
    exact ⟨⟨_, rfl, by have := hm3.1; simp [ByteArray.size] at hx ⊢; omega⟩, HH.out.1, (HH.out.2.1.trans HH.out.2.2.1).trans HH.out.2.2.2⟩
  · go_wp2_with fail
    refine (wr_take h1 n (by omega)).mono ?_
    rintro e w3 ⟨A, m, c, xs, rfl, hR, hm3, h5, h6⟩
    have hcv := run_str w3 28 9 5 Tryz.underlying28 Tryz.underlying5 Tryz.underlying9 hR c
    have HX := Lib.hid hR.len
    have HH := Lib.hid (And.intro h5 (And.intro h2 (And.intro (Below.refl B w1) h6)))
    clear hR h1 h2 h5 h6
    go_wp2_with fail
    go_ret
    have hx := HX.out
    exact ⟨⟨_, rfl, by have := hm3.1; simp [ByteArray.size] at hx ⊢; omega⟩, HH.out.1, HH.out.2.1.trans HH.out.2.2.2⟩
end
end Go.Proofs.YtmohidgdmmkikaaGreatDoor
