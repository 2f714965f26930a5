/- auth.Gate: a user gets in by a login alone, which is told; loosely. -/
import Derived.Test.YtmohidgdmmkikaaGreatDoorWireR
import Derived.Laws.StructEq
namespace Go.Proofs.YtmohidgdmmkikaaGreatDoor
open Go.RowKit

attribute [local go_sem] Oper.pureUpon Oper.relUpon

/-- A user's cells, in another block than g. -/
def UserAt (w : World) (g b : Nat) (n0 p0 : ByteArray) : Prop := w.cell? ⟨b, 0, none⟩ = some (.string n0) ∧ w.cell? ⟨b, 1, none⟩ = some (.string p0) ∧ b < w.heap.size ∧ b ≠ g
section
variable {w w' : World} {g b : Nat} {n0 p0 : ByteArray}
theorem UserAt.lt (h : UserAt w g b n0 p0) : b < w.heap.size := h.2.2.1
theorem UserAt.ne (h : UserAt w g b n0 p0) : b ≠ g := h.2.2.2
theorem UserAt.mod {S : List Nat} (h : UserAt w g b n0 p0) (hm : Mod S w w') (hb : b ∉ S) : UserAt w' g b n0 p0 := ⟨(hm.cell h.2.2.1 hb).trans h.1, (hm.cell h.2.2.1 hb).trans h.2.1, Nat.lt_of_lt_of_le h.2.2.1 hm.size, h.2.2.2⟩
theorem UserAt.below (h : UserAt w g b n0 p0) (he : Ext w w') (_ : b < w.heap.size) : UserAt w' g b n0 p0 := h.mod (Mod.of_below he []) (by simp)
theorem UserAt.alloc (h : UserAt w g b n0 p0) (o : Obj) : UserAt (w.alloc o) g b n0 p0 := h.mod ((Mod.refl [] w).alloc o) (by simp)
end
theorem drewN_drewN (w : World) (a b : Nat) : (w.drewN a).drewN b = w.drewN (a + b) := by simp [World.drewN, Nat.add_assoc]
theorem user_eq (n0 p0 n1 p1 : ByteArray) : ∃ q : Bool, ∀ w, (binOp .eql 26 (.agg #[.string n1, .string p1]) (.agg #[.string n0, .string p0])).run Tryz.prog w = .ok (.bool q) w := by
  refine ⟨n1.toList == n0.toList && p1.toList == p0.toList, fun w => ?_⟩
  have hS : Tryz.prog.underlying 26 = some (.struct (Tryz.prog.fieldsOf 26)) := by kernel_rfl
  have hp : Tryz.prog.stoodInHeld 26 = false := by kernel_rfl
  rw [run_eql_struct, show (10000 : Nat) = 9999 + 1 from rfl, run_equalIn_agg w 9999 26 _ _ hS hp]
  have u := Tryz.underlying9
  simp only [Program.fieldsOf, Tryz.underlying26]
  go_simp
  cases h1 : (n1.toList == n0.toList) <;> cases h2 : (p1.toList == p0.toList) <;> simp_all

set_option maxRecDepth 100000 in
theorem users_index (w : World) (g b c : Nat) (n0 p0 n1 p1 : ByteArray) (hr : UserAt w g b n0 p0) :
    Calls Tryz.prog 68 #[.slice (some ⟨b, 0, none⟩) 1 c, .agg #[.string n1, .string p1]] w fun e w' => (∃ k : Int, e = .returned (.int .i64 k)) ∧ Ext w w' := by
  have hlt := hr.lt
  have hr1 := hr.alloc (.cells #[.string n1, .string p1] 26)
  have g0 := hr1.1
  have g1 := hr1.2.1
  have g2 := (Blk.new w 26 #[.string n1, .string p1]).cell 0
  have g3 := (Blk.new w 26 #[.string n1, .string p1]).cell 1
  simp at g2 g3
  have hm : Tryz.prog.eqGuardType Tryz.prog.depth 26 = false := by kernel_rfl
  obtain ⟨qe, hq⟩ := user_eq n0 p0 n1 p1
  clear hr hr1
  go_enter Tryz.func68, Tryz.ntmps68
  go_wp2_with fail
  go_loopw [5, 8] (fun _ i wr => ∃ (k q : Nat), k ≤ 1 ∧ i = .int .i64 (k : Int) ∧ wr = (w.alloc (.cells #[.string n1, .string p1] 26)).drewN q) (fun _ i _ => 1 - (intOf i).toNat)
  case atStart => exact ⟨0, 0, by omega, rfl, rfl⟩
  case round =>
    obtain ⟨k, q, hk, rfl, hw⟩ := hrel
    obtain rfl := hw.symm
    obtain rfl | rfl : k = 0 ∨ k = 1 := by omega
    · go_wp2_with fail
      go_quiet (fail)
      cases qe
      · go_wp2_with fail
        go_roundw
        case rel => exact ⟨1, q + nq, by omega, rfl, rfl⟩
        case measure => simp [intOf]
      · go_wp2_with fail
        go_ret
        exact ⟨⟨_, rfl⟩, below_drewN (below_drewN ((Below.refl _ _).alloc (Nat.le_refl _) _) _) _⟩
    · go_wp2_with fail
      go_ret
      exact ⟨⟨_, rfl⟩, below_drewN ((Below.refl _ _).alloc (Nat.le_refl _) _) _⟩

set_option maxRecDepth 100000 in
theorem users_contains (w : World) (g b c : Nat) (n0 p0 n1 p1 : ByteArray) (hr : UserAt w g b n0 p0) :
    Calls Tryz.prog 44 #[.slice (some ⟨b, 0, none⟩) 1 c, .agg #[.string n1, .string p1]] w fun e w' => (∃ k : Bool, e = .returned (.bool k)) ∧ Ext w w' := by
  go_enter Tryz.func44, Tryz.ntmps44
  go_wp2_with fail
  refine (users_index _ g b c n0 p0 n1 p1 (hr.alloc _)).mono ?_
  rintro e w1 ⟨⟨k, rfl⟩, he⟩
  go_wp2_with fail
  go_ret
  exact ⟨⟨_, rfl⟩, Ext.trans ((Below.refl _ _).alloc (Nat.le_refl _) _) he⟩

/-- Bytes of some kind. -/
def Bytes (w : World) (e : Ending) (w' : World) : Prop := (∃ A n c, e = .returned (.slice A n c)) ∧ Ext w w'
theorem below_ext {B : Nat} {a b c : World} (h : Below B a b) (hB : B ≤ a.heap.size) (k : Ext b c) : Below B a c := h.trans ⟨k.os, k.tape, k.output, k.size, fun i hi => k.block i (Nat.lt_of_lt_of_le hi (Nat.le_trans hB h.size))⟩
set_option maxRecDepth 100000 in
theorem bye_calls (w : World) (r : Nat) (hr : r < 4294967296) : Calls Tryz.prog 45 #[.int .u32 (r : Int)] w fun e w' => Bytes w e w' := by
  go_enter Tryz.func45, Tryz.ntmps45
  go_wp2_with fail
  refine (wwriter_new w).mono ?_
  rintro e w1 ⟨p, rfl, h1, x1⟩
  go_wp2_with fail
  refine (wwriter_byte h1 1 (by omega) (by simp)).mono ?_
  rintro e w2 ⟨rfl, h2, b2⟩
  have x2 := Below.trans x1 b2
  clear h1 x1 b2
  go_wp2_with fail
  refine (wwriter_u32 h2 r hr (by simp [beBytes_len])).mono ?_
  rintro e w3 ⟨rfl, h3, b3⟩
  have x3 := Below.trans x2 b3
  clear h2 x2 b3
  go_wp2_with fail
  refine (wwriter_text h3 ⟨#[]⟩ (by decide) (by simp [beBytes_len])).mono ?_
  rintro e w4 ⟨rfl, h4, b4⟩
  have x4 := Below.trans x3 b4
  clear h3 x3 b4
  go_wp2_with fail
  refine (wwriter_text h4 ⟨#[]⟩ (by decide) (by simp [beBytes_len])).mono ?_
  rintro e w5 ⟨rfl, h5, b5⟩
  have x5 := Below.trans x4 b5
  clear h4 x4 b5
  go_wp2_with fail
  refine (wwriter_done h5 (by simp [beBytes_len])).mono ?_
  rintro e w6 ⟨A, c, rfl, _, x6⟩
  have x7 : Ext w w6 := Below.trans x5 ⟨x6.os, x6.tape, x6.output, x6.size, fun k hk => x6.block k (Nat.lt_of_lt_of_le hk x5.size)⟩
  clear h5 x5 x6
  go_wp2_with fail
  go_ret
  exact ⟨⟨_, _, _, rfl⟩, x7⟩

theorem lit_reads1 (w : World) (u : Value) (t : TypeId) : Reads (w.alloc (.cells #[u] t)) (w.heap.size + 1) 1 (some ⟨w.heap.size, 0, none⟩) 1 [u] := by
  obtain ⟨_, _, h, hr⟩ := one1_new w u t
  cases h
  simpa using hr
set_option maxRecDepth 100000 in
theorem wwriter_names {w : World} {B p : Nat} {l : List UInt8} (h : IsWw w B p l) (B1 : Nat) (ad : Addr) (c : Nat) {s : ByteArray} (hr : Reads w B1 1 (some ad) 1 [.string s]) (hs : s.size ≤ 1000) (hl : l.length ≤ 90000) :
    Calls Tryz.prog 67 #[.pointer (some ⟨p, 0, none⟩), .slice (some ad) 1 c] w fun e w' => e = .returned (.tuple #[]) ∧ IsWw w' B p (l ++ beBytes 4 s.size ++ s.data.toList) ∧ Below B w w' := by
  go_enter Tryz.func67, Tryz.ntmps67
  go_wp2_with fail
  refine (wjoin_one w B1 ad c s _ hr).mono ?_
  rintro e w1 ⟨rfl, rfl⟩
  go_wp2_with fail
  refine (wwriter_text h s hs hl).mono ?_
  rintro e w2 ⟨rfl, h2, b2⟩
  go_wp2_with fail
  go_end0
  exact ⟨rfl, h2, b2⟩
section
variable {w : World} {B p : Nat} {l : List UInt8}
theorem IsWw.size (h : IsWw w B p l) : B ≤ w.heap.size := by obtain ⟨_, _, h, _⟩ := h; exact h
theorem IsWw.alloc (h : IsWw w B p l) (o : Obj) : IsWw (w.alloc o) B p l := by
  obtain ⟨v, h1, h2, h3, h4⟩ := h
  exact ⟨v, h1, Nat.le_trans h2 (by simp), h3.alloc o, h4.alloc o⟩
end
/-- A gate of one user, at g: how often one has tried, is one in. -/
def IsG (w : World) (g tr : Nat) (inn : Bool) : Prop := ∃ (b c : Nat) (n0 p0 us : ByteArray) (sv dead : Bool), Blk w g 63 #[.slice (some ⟨b, 0, none⟩) 1 c, .bool sv, .int .i64 (tr : Int), .string us, .bool inn, .bool dead] ∧ UserAt w g b n0 p0 ∧ tr ≤ 100
section
variable {w w' : World} {g tr : Nat} {inn : Bool}
theorem IsG.ext (h : IsG w g tr inn) (he : Ext w w') : IsG w' g tr inn := by
  obtain ⟨b, c, n0, p0, us, sv, dead, hb, hu, ht⟩ := h
  exact ⟨b, c, n0, p0, us, sv, dead, hb.below he hb.lt, hu.below he hu.lt, ht⟩
set_option maxRecDepth 100000 in
theorem gate_end (h : IsG w g tr inn) (r : Nat) (hr : r < 4294967296) :
    Calls Tryz.prog 28 #[.pointer (some ⟨g, 0, none⟩), .int .u32 (r : Int)] w fun e w' => (∃ A n c, e = .returned (.slice A n c)) ∧ IsG w' g tr inn ∧ Mod [g] w w' := by
  obtain ⟨b, c, n0, p0, us, sv, dead, hb, hu, ht⟩ := h
  have c5 := hb.cell 5
  simp at c5
  have f5 := hb.frozen 5
  have hlt := hb.lt
  go_enter Tryz.func28, Tryz.ntmps28
  go_wp2_with fail
  have hm : Mod [g] w (w.setCell ⟨g, 5, none⟩ (.bool true)) := (Mod.refl _ _).setCell (by simp) _
  have hne : b ≠ g := hu.ne
  have hG : IsG (w.setCell ⟨g, 5, none⟩ (.bool true)) g tr inn := ⟨b, c, n0, p0, us, sv, true, by simpa using hb.set_ 5 (.bool true), hu.mod hm (by simpa using hne), ht⟩
  refine (bye_calls _ r hr).mono ?_
  rintro e w1 ⟨⟨A, n, c1, rfl⟩, he⟩
  have hG1 := hG.ext he
  have hm1 : Mod [g] w w1 := hm.trans' (Mod.of_below he [g])
  clear hG hm hb hu c5 f5
  go_wp2_with fail
  go_ret
  exact ⟨⟨_, _, _, rfl⟩, hG1.ext ((Below.refl _ _).alloc (Nat.le_refl _) _), hm1.alloc _⟩

set_option maxRecDepth 100000 in
theorem gate_try (h : IsG w g tr inn) (ht : tr < 100) :
    Calls Tryz.prog 42 #[.pointer (some ⟨g, 0, none⟩)] w fun e w' => (∃ A n c, e = .returned (.slice A n c)) ∧ (∃ tr', tr' ≤ tr + 1 ∧ IsG w' g tr' inn) ∧ Mod [g] w w' := by
  obtain ⟨b, c, n0, p0, us, sv, dead, hb, hu, _⟩ := h
  have c2 := hb.cell 2
  simp at c2
  have f2 := hb.frozen 2
  have hlt := hb.lt
  have hm : Mod [g] w (w.setCell ⟨g, 2, none⟩ (.int .i64 ((tr : Int) + 1))) := (Mod.refl _ _).setCell (by simp) _
  have hne : b ≠ g := hu.ne
  have hG : IsG (w.setCell ⟨g, 2, none⟩ (.int .i64 ((tr : Int) + 1))) g (tr + 1) inn := ⟨b, c, n0, p0, us, sv, dead, by simpa using hb.set_ 2 (.int .i64 ((tr : Int) + 1)), hu.mod hm (by simpa using hne), by omega⟩
  clear hb hu
  have HG := Lib.hid (And.intro hG hm)
  clear hG hm
  by_cases h5 : (5 : Int) ≤ (tr : Int) + 1
  · go_enter Tryz.func42, Tryz.ntmps42
    go_wp2_with fail
    refine (gate_end HG.out.1 14 (by omega)).mono ?_
    rintro e w1 ⟨⟨A, n, c1, rfl⟩, h1, m1⟩
    go_wp2_with fail
    go_ret
    exact ⟨⟨_, _, _, rfl⟩, ⟨tr + 1, by omega, h1⟩, HG.out.2.trans' m1⟩
  · go_enter Tryz.func42, Tryz.ntmps42
    go_wp2_with fail
    refine (wwriter_new _).mono ?_
    rintro e w1 ⟨p, rfl, h1, x1⟩
    go_wp2_with fail
    refine (wwriter_byte h1 51 (by omega) (by simp)).mono ?_
    rintro e w2 ⟨rfl, h2, b2⟩
    have x2 := Below.trans x1 b2
    clear h1 x1 b2
    go_wp2_with fail
    refine Calls.mono (wwriter_names (h2.alloc _) (w2.heap.size + 1) ⟨w2.heap.size, 0, none⟩ 1 (lit_reads1 w2 _ 9) ?_ ?_) ?_
    · decide
    · simp [beBytes_len]
    rintro e w3 ⟨rfl, h3, b3⟩
    have x3 := Below.trans (Below.trans x2 ((Below.refl _ w2).alloc h2.size _)) b3
    have hl3 : (([] ++ beBytes 1 51) ++ beBytes 4 8 ++ [112, 97, 115, 115, 119, 111, 114, 100] : List UInt8).length ≤ 100 := by decide
    clear h2 x2 b3
    go_wp2_with fail
    refine (wwriter_bool h3 false (by first | decide | (simp [beBytes_len]; done))).mono ?_
    rintro e w4 ⟨rfl, h4, b4⟩
    have x4 := Below.trans x3 b4
    clear h3 x3 b4
    go_wp2_with fail
    refine (wwriter_done h4 (by first | decide | (simp [beBytes_len]; done))).mono ?_
    rintro e w5 ⟨A, c, rfl, _, x5⟩
    have x6 := below_ext x4 (Nat.le_refl _) x5
    clear h4 x4 x5
    go_wp2_with fail
    go_ret
    exact ⟨⟨_, _, _, rfl⟩, ⟨tr + 1, by omega, (HG.out.1.ext x6).ext ((Below.refl _ w5).alloc (Nat.le_refl _) _)⟩, (HG.out.2.trans' (Mod.of_below x6 [g])).alloc _⟩

/-- What the gate's parts come to, where nobody is let in. -/
def Shut (w : World) (g tr : Nat) (inn : Bool) (e : Ending) (w' : World) : Prop := (∃ A n c, e = .returned (.slice A n c)) ∧ (∃ tr', tr' ≤ tr + 1 ∧ IsG w' g tr' inn) ∧ Mod [g] w w'
theorem rw_keep {w w' : World} {B p : Nat} (h : IsRw w B p) (he : Ext w w') : IsRw w' B p := by
  obtain ⟨y, v, l, i, z, hBp, hBs, hb, ho, hi, hl⟩ := h
  exact ⟨y, v, l, i, z, hBp, Nat.le_trans hBs he.size, hb.below he hb.lt, own_mod ho (Mod.of_below he []) (by simp), hi, hl⟩
set_option maxRecDepth 100000 in
theorem gate_ask {W : World} {p : Nat} (hr : IsRw w W.heap.size p) (hG : IsG W g tr inn) (hW : Ext W w) :
    Calls Tryz.prog 26 #[.pointer (some ⟨g, 0, none⟩), .pointer (some ⟨p, 0, none⟩)] w fun e w' => Shut W g tr inn e w' := by
  go_enter Tryz.func26, Tryz.ntmps26
  go_wp2_with fail
  refine (wr_text hr 64 (by omega)).mono ?_
  rintro e w1 ⟨⟨s, rfl, hs⟩, h1, b1⟩
  have x1 : Ext W w1 := Below.trans hW b1
  clear hr b1 hW
  go_wp2_with fail
  refine (wr_all h1).mono ?_
  rintro e w2 ⟨⟨ok, rfl⟩, h2, b2⟩
  have x2 : Ext W w2 := Ext.trans x1 b2
  clear h1 b2 x1
  have hG2 := hG.ext x2
  obtain ⟨b, c, n0, p0, us, sv, dead, hb, hu, ht⟩ := id hG2
  have c1 := hb.cell 1
  simp at c1
  have f1 := hb.frozen 1
  have hlt := hb.lt
  have hne : b ≠ g := hu.ne
  have hm : Mod [g] W (w2.setCell ⟨g, 1, none⟩ (.bool true)) := (Mod.of_below x2 [g]).trans' ((Mod.refl _ _).setCell (by simp) _)
  have hG3 : IsG (w2.setCell ⟨g, 1, none⟩ (.bool true)) g tr inn := ⟨b, c, n0, p0, us, true, dead, by simpa using hb.set_ 1 (.bool true), hu.mod ((Mod.refl [g] _).setCell (by simp) _) (by simpa using hne), ht⟩
  have HG := Lib.hid (And.intro hG2 (And.intro x2 (And.intro hG3 hm)))
  clear hb hu hG2 x2 hG3 hm hG
  cases ok
  · go_wp2_with fail
    refine (gate_end HG.out.1 2 (by omega)).mono ?_
    rintro e w3 ⟨⟨A, n, c3, rfl⟩, h3, m3⟩
    go_wp2_with fail
    go_ret
    exact ⟨⟨_, _, _, rfl⟩, ⟨tr, by omega, h3⟩, (Mod.of_below HG.out.2.1 [g]).trans' m3⟩
  · cases sv
    · by_cases hq : (s.toList == [115, 115, 104, 45, 117, 115, 101, 114, 97, 117, 116, 104]) = true
      · go_wp2_with fail
        refine (wwriter_new _).mono ?_
        rintro e w3 ⟨q, rfl, h3, y3⟩
        go_wp2_with fail
        refine (wwriter_byte h3 6 (by omega) (by simp)).mono ?_
        rintro e w4 ⟨rfl, h4, b4⟩
        have y4 := Below.trans y3 b4
        clear h3 y3 b4
        go_wp2_with fail
        refine (wwriter_text h4 s hs (by simp [beBytes_len])).mono ?_
        rintro e w5 ⟨rfl, h5, b5⟩
        have y5 := Below.trans y4 b5
        have hz : s.data.toList.length ≤ 1000 := hs
        clear h4 y4 b5
        go_wp2_with fail
        refine Calls.mono (wwriter_done h5 ?_) ?_
        · rw [List.length_append, List.length_append, List.length_append, beBytes_len, beBytes_len]; simp only [List.length_nil]; omega
        rintro e w6 ⟨A, c, rfl, _, y6⟩
        have y7 := below_ext y5 (Nat.le_refl _) y6
        clear h5 y5 y6
        go_wp2_with fail
        go_ret
        exact ⟨⟨_, _, _, rfl⟩, ⟨tr, by omega, (HG.out.2.2.1.ext y7).ext ((Below.refl _ w6).alloc (Nat.le_refl _) _)⟩, (HG.out.2.2.2.trans' (Mod.of_below y7 [g])).alloc _⟩
      · have hq2 : (s.toList == [115, 115, 104, 45, 117, 115, 101, 114, 97, 117, 116, 104]) = false := by simpa using hq
        clear hq
        go_wp2_with fail
        refine (gate_end HG.out.1 7 (by omega)).mono ?_
        rintro e w3 ⟨⟨A, n, c3, rfl⟩, h3, m3⟩
        go_wp2_with fail
        go_ret
        exact ⟨⟨_, _, _, rfl⟩, ⟨tr, by omega, h3⟩, (Mod.of_below HG.out.2.1 [g]).trans' m3⟩
    · go_wp2_with fail
      refine (gate_end HG.out.1 2 (by omega)).mono ?_
      rintro e w3 ⟨⟨A, n, c3, rfl⟩, h3, m3⟩
      go_wp2_with fail
      go_ret
      exact ⟨⟨_, _, _, rfl⟩, ⟨tr, by omega, h3⟩, (Mod.of_below HG.out.2.1 [g]).trans' m3⟩

/-- Answers of one payload of one byte. -/
def Told (w : World) (v : Value) (x : Nat) : Prop := ∃ b c b1 c1, v = .slice (some ⟨b, 0, none⟩) 1 c ∧ Blk w b 28 #[.slice (some ⟨b1, 0, none⟩) 1 c1] ∧ Blk w b1 5 #[.int .u8 x]
/-- What a login comes to. -/
def Logged (w : World) (g tr : Nat) (inn : Bool) (e : Ending) (w' : World) : Prop := Shut w g tr inn e w' ∨ ∃ v, e = .returned v ∧ Told w' v 52 ∧ IsG w' g tr true ∧ Mod [g] w w'
set_option maxRecDepth 100000 in
theorem gate_login {W : World} {p : Nat} (hr : IsRw w W.heap.size p) (hG : IsG W g tr inn) (hW : Ext W w) (htr : tr < 100) :
    Calls Tryz.prog 27 #[.pointer (some ⟨g, 0, none⟩), .pointer (some ⟨p, 0, none⟩)] w fun e w' => Logged W g tr inn e w' := by
  go_enter Tryz.func27, Tryz.ntmps27
  go_wp2_with fail
  refine (wr_text hr 64 (by omega)).mono ?_
  rintro e w1 ⟨⟨s1, rfl, _⟩, h1, b1⟩
  have x1 : Ext W w1 := Below.trans hW b1
  clear hr b1 hW
  go_wp2_with fail
  refine (wr_text h1 64 (by omega)).mono ?_
  rintro e w2 ⟨⟨s2, rfl, _⟩, h2, b2⟩
  have x2 : Ext W w2 := Below.trans x1 b2
  clear h1 b2 x1
  go_wp2_with fail
  refine (wr_text h2 64 (by omega)).mono ?_
  rintro e w3 ⟨⟨s3, rfl, _⟩, h3, b3⟩
  have x3 : Ext W w3 := Below.trans x2 b3
  clear h2 b3 x2
  obtain ⟨y, h3y⟩ := id h3
  have H3 := Lib.hid h3
  clear h3
  go_wp2_with fail
  refine (wr_fine h3y).mono ?_
  rintro e w3' ⟨⟨ok, rfl⟩, hww⟩
  subst hww
  clear h3y
  have hG2 := hG.ext x3
  obtain ⟨b, c, n0, p0, us, sv, dead, hb, hu, ht⟩ := id hG2
  have c1 := hb.cell 1
  have c4 := hb.cell 4
  simp at c1 c4
  have HG := Lib.hid (And.intro hG2 x3)
  clear hb hu hG2 x3
  cases ok
  · go_wp2_with fail
    refine (gate_end HG.out.1 2 (by omega)).mono ?_
    rintro e wz ⟨⟨A, n, cz, rfl⟩, hz, mz⟩
    go_wp2_with fail
    go_ret
    exact .inl ⟨⟨_, _, _, rfl⟩, ⟨tr, by omega, hz⟩, (Mod.of_below HG.out.2 [g]).trans' mz⟩
  · cases sv
    · go_wp2_with fail
      refine (gate_end HG.out.1 2 (by omega)).mono ?_
      rintro e wz ⟨⟨A, n, cz, rfl⟩, hz, mz⟩
      go_wp2_with fail
      go_ret
      exact .inl ⟨⟨_, _, _, rfl⟩, ⟨tr, by omega, hz⟩, (Mod.of_below HG.out.2 [g]).trans' mz⟩
    · cases inn
      · by_cases hq : (s2.toList == [115, 115, 104, 45, 99, 111, 110, 110, 101, 99, 116, 105, 111, 110]) = true
        · by_cases hp : (s3.toList == [112, 97, 115, 115, 119, 111, 114, 100]) = true
          · go_wp2_with fail
            refine (wr_bool H3.out).mono ?_
            rintro e w4 ⟨⟨ch, rfl⟩, h4, b4⟩
            have x4 : Ext W w4 := Below.trans HG.out.2 b4
            clear b4
            go_wp2_with fail
            refine (wr_text h4 64 (by omega)).mono ?_
            rintro e w5 ⟨⟨s5, rfl, _⟩, h5, b5⟩
            have x5 : Ext W w5 := Below.trans x4 b5
            have G5 := Lib.hid (And.intro (hG.ext x5) x5)
            clear h4 b5 x4
            cases ch
            · go_wp2_with fail
              refine (wr_all h5).mono ?_
              rintro e w6 ⟨⟨al, rfl⟩, h6, b6⟩
              have x6 : Ext W w6 := Ext.trans x5 b6
              have hG6 := hG.ext x6
              obtain ⟨b6, c6, n6, p6, us6, sv6, dead6, hb6, hu6, ht6⟩ := id hG6
              have G6 := Lib.hid (And.intro hG6 x6)
              clear hG6 x6 h5 x5 h6
              cases al
              · go_wp2_with fail
                refine (gate_end G6.out.1 2 (by omega)).mono ?_
                rintro e wz ⟨⟨A, n, cz, rfl⟩, hz, mz⟩
                go_wp2_with fail
                go_ret
                exact .inl ⟨⟨_, _, _, rfl⟩, ⟨tr, by omega, hz⟩, (Mod.of_below G6.out.2 [g]).trans' mz⟩
              · have d0 := hb6.cell 0
                simp at d0
                have HB6 := Lib.hid (And.intro hb6 hu6)
                clear hb6 hu6
                go_wp2_with fail
                refine (users_contains w6 g b6 c6 n6 p6 s1 s5 HB6.out.2).mono ?_
                rintro e w7 ⟨⟨k, rfl⟩, b7⟩
                have x7 : Ext W w7 := Ext.trans G6.out.2 b7
                have hG7 := hG.ext x7
                obtain ⟨b7', c7, n7, p7, us7, sv7, dead7, hb7, hu7, ht7⟩ := id hG7
                have e3 := hb7.cell 3
                have e4 := hb7.cell 4
                simp at e3 e4
                have f3 := hb7.frozen 3
                have f4 := hb7.frozen 4
                have hlt := hb7.lt
                have hne : b7' ≠ g := hu7.ne
                have hm : Mod [g] W ((w7.setCell ⟨g, 3, none⟩ (.string s1)).setCell ⟨g, 4, none⟩ (.bool true)) := ((Mod.of_below x7 [g]).trans' ((Mod.refl _ _).setCell (by simp) _)).trans' ((Mod.refl _ _).setCell (by simp) _)
                have hG8 : IsG ((w7.setCell ⟨g, 3, none⟩ (.string s1)).setCell ⟨g, 4, none⟩ (.bool true)) g tr true := ⟨b7', c7, n7, p7, s1, sv7, dead7, by simpa using (hb7.set_ 3 (.string s1)).set_ 4 (.bool true), (hu7.mod ((Mod.refl [g] _).setCell (by simp) _) (by simpa using hne)).mod ((Mod.refl [g] _).setCell (by simp) _) (by simpa using hne), ht7⟩
                have G7 := Lib.hid (And.intro hG7 x7)
                have G8 := Lib.hid (And.intro hG8 hm)
                clear hG7 x7 hG8 hm hb7 hu7 HB6 G6 G5 HG hG
                cases k
                · go_wp2_with fail
                  refine (gate_try G7.out.1 htr).mono ?_
                  rintro e wz ⟨⟨A, n, cz, rfl⟩, hz, mz⟩
                  go_wp2_with fail
                  go_ret
                  exact .inl ⟨⟨_, _, _, rfl⟩, hz, (Mod.of_below G7.out.2 [g]).trans' mz⟩
                · go_wp2_with fail
                  go_ret
                  refine .inr ⟨_, rfl, ⟨w7.heap.size + 1, 1, w7.heap.size, 1, rfl, ?_, ?_⟩, (G8.out.1.ext ((Below.refl _ _).alloc (Nat.le_refl _) _)).ext ((Below.refl _ _).alloc (Nat.le_refl _) _), (G8.out.2.alloc _).alloc _⟩
                  · have := Blk.new (((w7.setCell ⟨g, 3, none⟩ (.string s1)).setCell ⟨g, 4, none⟩ (.bool true)).alloc (.cells #[.int .u8 52] 5)) 28 #[.slice (some ⟨w7.heap.size, 0, none⟩) 1 1]
                    simpa using this
                  · have := (Blk.new ((w7.setCell ⟨g, 3, none⟩ (.string s1)).setCell ⟨g, 4, none⟩ (.bool true)) 5 #[.int .u8 52]).alloc (.cells #[.slice (some ⟨w7.heap.size, 0, none⟩) 1 1] 28)
                    simpa using this
            · go_wp2_with fail
              refine (gate_end G5.out.1 2 (by omega)).mono ?_
              rintro e wz ⟨⟨A, n, cz, rfl⟩, hz, mz⟩
              go_wp2_with fail
              go_ret
              exact .inl ⟨⟨_, _, _, rfl⟩, ⟨tr, by omega, hz⟩, (Mod.of_below G5.out.2 [g]).trans' mz⟩
          · have hp2 : (s3.toList == [112, 97, 115, 115, 119, 111, 114, 100]) = false := by simpa using hp
            clear hp
            go_wp2_with fail
            refine (gate_try HG.out.1 htr).mono ?_
            rintro e wz ⟨⟨A, n, cz, rfl⟩, hz, mz⟩
            go_wp2_with fail
            go_ret
            exact .inl ⟨⟨_, _, _, rfl⟩, hz, (Mod.of_below HG.out.2 [g]).trans' mz⟩
        · have hq2 : (s2.toList == [115, 115, 104, 45, 99, 111, 110, 110, 101, 99, 116, 105, 111, 110]) = false := by simpa using hq
          clear hq
          go_wp2_with fail
          refine (gate_end HG.out.1 7 (by omega)).mono ?_
          rintro e wz ⟨⟨A, n, cz, rfl⟩, hz, mz⟩
          go_wp2_with fail
          go_ret
          exact .inl ⟨⟨_, _, _, rfl⟩, ⟨tr, by omega, hz⟩, (Mod.of_below HG.out.2 [g]).trans' mz⟩
      · go_wp2_with fail
        go_ret
        exact .inl ⟨⟨_, _, _, rfl⟩, ⟨tr, by omega, HG.out.1⟩, Mod.of_below HG.out.2 [g]⟩

/-- What an answer comes to: nobody is let in, or one is, by a login, and told so. -/
def DoPost (W : World) (g tr : Nat) (inn : Bool) (l : List UInt8) (e : Ending) (w' : World) : Prop := Shut W g tr inn e w' ∨ ∃ v, e = .returned v ∧ l[0]? = some 50 ∧ Told w' v 52 ∧ IsG w' g tr true ∧ Mod [g] W w'
set_option maxRecDepth 100000 in
theorem gate_do (hG : IsG w g tr inn) (htr : tr < 100) {B : Nat} {A : Option Addr} {n c : Nat} {l : List UInt8} (hR : Reads w B 1 A n (bys l)) (hB : B ≤ w.heap.size) (hn : n ≤ 1000) (hnc : n ≤ c) :
    Calls Tryz.prog 13 #[.pointer (some ⟨g, 0, none⟩), .slice A n c] w fun e w' => DoPost w g tr inn l e w' := by
  obtain ⟨b, c0, n0, p0, us, sv, dead, hb, hu, ht⟩ := id hG
  have c5 := hb.cell 5
  simp at c5
  have f5 := hb.frozen 5
  have HG := Lib.hid hG
  clear hu hb
  cases dead
  · rcases n with _ | m
    · go_enter Tryz.func13, Tryz.ntmps13
      go_wp2_with fail
      go_ret
      exact .inl ⟨⟨_, _, _, rfl⟩, ⟨tr, by omega, HG.out⟩, Mod.refl _ _⟩
    · obtain ⟨ad, u, rfl, hadB, hx, hcl⟩ := hR.at_ (k := 0) (by omega)
      obtain ⟨b0, rfl, hl0⟩ : ∃ b : UInt8, u = .int .u8 (b.toNat : Int) ∧ l[0]? = some b := by
        rw [bys_get] at hx
        cases hlk : l[0]? with
        | none => rw [hlk] at hx; cases hx
        | some c => rw [hlk] at hx; exact ⟨c, (Option.some.inj hx).symm, rfl⟩
      have hadl : ad.block < w.heap.size := by omega
      have hl50 : b0.toNat = 50 → l[0]? = some 50 := fun h => by rw [hl0, show b0 = 50 from UInt8.toNat_inj.1 h]
      obtain ⟨z, hz⟩ : ∃ z, b0.toNat = z := ⟨_, rfl⟩
      rw [hz] at hcl hl50
      have hcl : w.cell? ad = some (.int .u8 (z : Int)) := by simpa [Addr.add] using hcl
      have HL := Lib.hid hl50
      have hcut := hR.cut (k := 1) (cap := c) (by omega) hnc
      rw [bys_drop] at hcut
      clear hx hl0 hl50 hz
      by_cases hc1 : c = 1
      · subst hc1
        obtain rfl : m = 0 := by omega
        rw [if_pos rfl] at hcut
        have HRD : Reads w B 1 (some ad) 0 (bys (l.drop 1)) := hcut
        clear hcut hR
        go_enter Tryz.func13, Tryz.ntmps13
        go_wp2_with fail
        refine (wr_new w B (some ad) 0 0 (l.drop 1) HRD hB (by omega) (fun h => by cases h)).mono ?_
        rintro e w1 ⟨p, rfl, h1, x1⟩
        have hcl1 : w1.cell? ad = some (.int .u8 (z : Int)) := (x1.cell hadl).trans hcl
        have hG1 := hG.ext x1
        obtain ⟨b', c', n', p', us', sv', dead', hb', hu', ht'⟩ := id hG1
        have c5' := hb'.cell 5
        simp at c5'
        have f5' := hb'.frozen 5
        have hlt := hb'.lt
        have hne : b' ≠ g := hu'.ne
        have hm : Mod [g] w (w1.setCell ⟨g, 5, none⟩ (.bool true)) := (Mod.of_below x1 [g]).trans' ((Mod.refl _ _).setCell (by simp) _)
        have hG2 : IsG (w1.setCell ⟨g, 5, none⟩ (.bool true)) g tr inn := ⟨b', c', n', p', us', sv', true, by simpa using hb'.set_ 5 (.bool true), hu'.mod ((Mod.refl [g] _).setCell (by simp) _) (by simpa using hne), ht'⟩
        have H1 := Lib.hid (And.intro hG1 (And.intro x1 (And.intro hG2 hm)))
        have HR1 := Lib.hid h1
        clear hG1 x1 hG2 hm hb' hu' h1
        by_cases z1 : z = 1
        · subst z1
          go_wp2_with fail
          go_ret
          exact .inl ⟨⟨_, _, _, rfl⟩, ⟨tr, by omega, H1.out.2.2.1⟩, H1.out.2.2.2⟩
        by_cases z2 : z = 2
        · subst z2
          go_wp2_with fail
          go_ret
          exact .inl ⟨⟨_, _, _, rfl⟩, ⟨tr, by omega, H1.out.1⟩, Mod.of_below H1.out.2.1 [g]⟩
        by_cases z3 : z = 3
        · subst z3
          go_wp2_with fail
          go_ret
          exact .inl ⟨⟨_, _, _, rfl⟩, ⟨tr, by omega, H1.out.1⟩, Mod.of_below H1.out.2.1 [g]⟩
        by_cases z4 : z = 4
        · subst z4
          go_wp2_with fail
          go_ret
          exact .inl ⟨⟨_, _, _, rfl⟩, ⟨tr, by omega, H1.out.1⟩, Mod.of_below H1.out.2.1 [g]⟩
        by_cases z5 : z = 5
        · subst z5
          go_wp2_with fail
          refine (gate_ask HR1.out hG H1.out.2.1).mono ?_
          rintro e w2 ⟨⟨A2, n2, c2, rfl⟩, h3, h4⟩
          go_wp2_with fail
          go_ret
          exact .inl ⟨⟨_, _, _, rfl⟩, h3, h4⟩
        by_cases z50 : z = 50
        · subst z50
          go_wp2_with fail
          refine (gate_login HR1.out hG H1.out.2.1 htr).mono ?_
          rintro e w2 h3
          have hv : ∃ v, e = .returned v := by
            rcases h3 with ⟨⟨A2, n2, c2, h⟩, _, _⟩ | ⟨v, h, _⟩
            · exact ⟨_, h⟩
            · exact ⟨_, h⟩
          obtain ⟨v, rfl⟩ := hv
          have H3 := Lib.hid h3
          clear h3
          go_wp2_with fail
          go_ret
          rcases H3.out with h | ⟨v', h5, h6, h7, h8⟩
          · exact .inl h
          · exact .inr ⟨v', h5, HL.out trivial, h6, h7, h8⟩
        · have y1 : ¬ (z : Int) = 1 := by omega
          have y2 : ¬ (z : Int) = 2 := by omega
          have y3 : ¬ (z : Int) = 3 := by omega
          have y4 : ¬ (z : Int) = 4 := by omega
          have y5 : ¬ (z : Int) = 5 := by omega
          have y50 : ¬ (z : Int) = 50 := by omega
          go_wp2_with fail
          refine (gate_end H1.out.1 2 (by omega)).mono ?_
          rintro e w2 ⟨⟨A2, n2, c2, rfl⟩, h3, h4⟩
          go_wp2_with fail
          go_ret
          exact .inl ⟨⟨_, _, _, rfl⟩, ⟨tr, by omega, h3⟩, (Mod.of_below H1.out.2.1 [g]).trans' h4⟩
      · rw [if_neg hc1] at hcut
        have HRD : Reads w B 1 (some ⟨ad.block, ad.off + 1, none⟩) m (bys (l.drop 1)) := by simpa [Addr.add] using hcut
        clear hcut hR
        go_enter Tryz.func13, Tryz.ntmps13
        go_wp2_with fail
        refine (wr_new w B (some ⟨ad.block, ad.off + 1, none⟩) m (c - 1) (l.drop 1) HRD hB (by omega) (fun h => by cases h)).mono ?_
        rintro e w1 ⟨p, rfl, h1, x1⟩
        have hcl1 : w1.cell? ad = some (.int .u8 (z : Int)) := (x1.cell hadl).trans hcl
        have hG1 := hG.ext x1
        obtain ⟨b', c', n', p', us', sv', dead', hb', hu', ht'⟩ := id hG1
        have c5' := hb'.cell 5
        simp at c5'
        have f5' := hb'.frozen 5
        have hlt := hb'.lt
        have hne : b' ≠ g := hu'.ne
        have hm : Mod [g] w (w1.setCell ⟨g, 5, none⟩ (.bool true)) := (Mod.of_below x1 [g]).trans' ((Mod.refl _ _).setCell (by simp) _)
        have hG2 : IsG (w1.setCell ⟨g, 5, none⟩ (.bool true)) g tr inn := ⟨b', c', n', p', us', sv', true, by simpa using hb'.set_ 5 (.bool true), hu'.mod ((Mod.refl [g] _).setCell (by simp) _) (by simpa using hne), ht'⟩
        have H1 := Lib.hid (And.intro hG1 (And.intro x1 (And.intro hG2 hm)))
        have HR1 := Lib.hid h1
        clear hG1 x1 hG2 hm hb' hu' h1
        by_cases z1 : z = 1
        · subst z1
          go_wp2_with fail
          go_ret
          exact .inl ⟨⟨_, _, _, rfl⟩, ⟨tr, by omega, H1.out.2.2.1⟩, H1.out.2.2.2⟩
        by_cases z2 : z = 2
        · subst z2
          go_wp2_with fail
          go_ret
          exact .inl ⟨⟨_, _, _, rfl⟩, ⟨tr, by omega, H1.out.1⟩, Mod.of_below H1.out.2.1 [g]⟩
        by_cases z3 : z = 3
        · subst z3
          go_wp2_with fail
          go_ret
          exact .inl ⟨⟨_, _, _, rfl⟩, ⟨tr, by omega, H1.out.1⟩, Mod.of_below H1.out.2.1 [g]⟩
        by_cases z4 : z = 4
        · subst z4
          go_wp2_with fail
          go_ret
          exact .inl ⟨⟨_, _, _, rfl⟩, ⟨tr, by omega, H1.out.1⟩, Mod.of_below H1.out.2.1 [g]⟩
        by_cases z5 : z = 5
        · subst z5
          go_wp2_with fail
          refine (gate_ask HR1.out hG H1.out.2.1).mono ?_
          rintro e w2 ⟨⟨A2, n2, c2, rfl⟩, h3, h4⟩
          go_wp2_with fail
          go_ret
          exact .inl ⟨⟨_, _, _, rfl⟩, h3, h4⟩
        by_cases z50 : z = 50
        · subst z50
          go_wp2_with fail
          refine (gate_login HR1.out hG H1.out.2.1 htr).mono ?_
          rintro e w2 h3
          have hv : ∃ v, e = .returned v := by
            rcases h3 with ⟨⟨A2, n2, c2, h⟩, _, _⟩ | ⟨v, h, _⟩
            · exact ⟨_, h⟩
            · exact ⟨_, h⟩
          obtain ⟨v, rfl⟩ := hv
          have H3 := Lib.hid h3
          clear h3
          go_wp2_with fail
          go_ret
          rcases H3.out with h | ⟨v', h5, h6, h7, h8⟩
          · exact .inl h
          · exact .inr ⟨v', h5, HL.out trivial, h6, h7, h8⟩
        · have y1 : ¬ (z : Int) = 1 := by omega
          have y2 : ¬ (z : Int) = 2 := by omega
          have y3 : ¬ (z : Int) = 3 := by omega
          have y4 : ¬ (z : Int) = 4 := by omega
          have y5 : ¬ (z : Int) = 5 := by omega
          have y50 : ¬ (z : Int) = 50 := by omega
          go_wp2_with fail
          refine (gate_end H1.out.1 2 (by omega)).mono ?_
          rintro e w2 ⟨⟨A2, n2, c2, rfl⟩, h3, h4⟩
          go_wp2_with fail
          go_ret
          exact .inl ⟨⟨_, _, _, rfl⟩, ⟨tr, by omega, h3⟩, (Mod.of_below H1.out.2.1 [g]).trans' h4⟩
  · go_enter Tryz.func13, Tryz.ntmps13
    go_wp2_with fail
    go_ret
    exact .inl ⟨⟨_, _, _, rfl⟩, ⟨tr, by omega, HG.out⟩, Mod.refl _ _⟩

set_option maxRecDepth 100000 in
theorem gate_user (hG : IsG w g tr inn) :
    Calls Tryz.prog 14 #[.pointer (some ⟨g, 0, none⟩)] w fun e w' => (∃ us, e = .returned (.tuple #[.string us, .bool inn])) ∧ Ext w w' := by
  obtain ⟨b, c0, n0, p0, us, sv, dead, hb, hu, ht⟩ := hG
  have c3 := hb.cell 3
  have c4 := hb.cell 4
  simp at c3 c4
  clear hu hb
  go_enter Tryz.func14, Tryz.ntmps14
  go_wp2_with fail
  go_quiet (fail)
  go_wp2_with fail
  go_ret2
  exact ⟨⟨_, rfl⟩, below_drewN (Below.refl _ _) _⟩

theorem user_info : (Tryz.prog.info? 26).map (fun i => (i.zero, i.size, i.bytes)) = some (some (.agg #[.string ByteArray.empty, .string ByteArray.empty]), 2, 32) := by kernel_rfl
set_option maxRecDepth 100000 in
theorem users_clone (w : World) (b : Nat) (n0 p0 : ByteArray) (hb : Blk w b 26 #[.string n0, .string p0]) :
    Calls Tryz.prog 21 #[.slice (some ⟨b, 0, none⟩) 1 1] w fun e w' => ∃ b' c', e = .returned (.slice (some ⟨b', 0, none⟩) 1 c') ∧ w'.cell? ⟨b', 0, none⟩ = some (.string n0) ∧ w'.cell? ⟨b', 1, none⟩ = some (.string p0) ∧ b' < w'.heap.size ∧ Ext w w' := by
  obtain ⟨i0, hi0, hz0, hz1, hz2⟩ := info_parts user_info
  have q := fun (w : World) (a : Option Addr) (n c n' c' : Nat) => Lib.run_eql_slice_nil (P := Tryz.prog) w 27 26 a n c n' c' Tryz.underlying27
  have hr1 : Reads (w.alloc (.cells #[] 26)) (w.heap.size + 1) 2 (some ⟨b, 0, none⟩) 1 [.string n0, .string p0] := by
    have hb1 := hb.alloc (.cells #[] 26)
    refine ⟨rfl, fun _ => ⟨_, rfl, Nat.lt_succ_of_lt hb.lt, fun j u hu => ?_⟩⟩
    have hj : j < 2 := (List.getElem?_eq_some_iff.1 hu).1
    obtain rfl | rfl : j = 0 ∨ j = 1 := by omega
    · have := hb1.cell 0
      simp at hu this
      subst hu
      simpa [Addr.add] using this
    · have := hb1.cell 1
      simp at hu this
      subst hu
      simpa [Addr.add] using this
  have hown : (w.alloc (.cells #[] 26)).ownsRow w.heap.size 26 2 (.slice (some ⟨w.heap.size, 0, none⟩) 0 0) 0 [] := World.ownsRow_lit _ #[] 0 (Nat.le_refl _) (by simp) rfl
  clear hb
  go_enter Tryz.func21, Tryz.ntmps21
  go_wp2_with (at_builtin; refine wpList_app _ rfl (.tmp 5) (.tmp 6) _ rfl 26 i0 _ 2 32 Tryz.underlying27 hi0 hz0 hz1 hz2 rfl (by omega) (.slice (some ⟨w.heap.size, 0, none⟩) 0 0) 0 [] w.heap.size rfl hown (w.heap.size + 1) (some ⟨b, 0, none⟩) 1 1 [.string n0, .string p0] rfl hr1 (by simp [Value.oneCell']) (by omega) (by simp) ?_; intro A1 c1 w1 hown1 hg1 hat1; rw [Nat.zero_add] at hown1 hat1; rw [Nat.zero_add]; simp only [List.nil_append] at hown1)
  go_ret
  obtain ⟨ad, hA, hadl, hcells⟩ := (Reads.of_own hown1).2 (by omega)
  subst hA
  obtain ⟨_, _, he, _, _, _, hz⟩ := own_slice hown1
  injection he with e1 _ _
  have hz' := (hz ad e1.symm).1
  rw [hz'] at hcells ⊢
  refine ⟨ad.block, c1, rfl, by have := hcells 0 _ rfl; simpa [Addr.add] using this, by have := hcells 1 _ rfl; simpa [Addr.add] using this, hadl, ((Below.refl _ _).alloc (Nat.le_refl _) _).grown hg1 (by simp) (fun k hk => ?_)⟩
  simp only [Value.ownBlock, Option.some.injEq] at hk
  omega

set_option maxRecDepth 100000 in
theorem gate_new (w : World) (b : Nat) (n0 p0 : ByteArray) (hb : Blk w b 26 #[.string n0, .string p0]) :
    Calls Tryz.prog 5 #[.slice (some ⟨b, 0, none⟩) 1 1] w fun e w' => ∃ g, e = .returned (.pointer (some ⟨g, 0, none⟩)) ∧ w.heap.size ≤ g ∧ IsG w' g 0 false ∧ Ext w w' := by
  go_enter Tryz.func5, Tryz.ntmps5
  go_wp2_with fail
  refine (users_clone w b n0 p0 hb).mono ?_
  rintro e w1 ⟨b', c', rfl, h0, h1, hl, x1⟩
  go_wp2_with fail
  go_ret
  have x2 : Ext w1 (w1.alloc (.cells #[.slice (some ⟨b', 0, none⟩) 1 c', .bool false, .int .i64 0, .string ⟨#[]⟩, .bool false, .bool false] 63)) := (Below.refl _ _).alloc (Nat.le_refl _) _
  have hu : UserAt w1 w1.heap.size b' n0 p0 := ⟨h0, h1, hl, Nat.ne_of_lt hl⟩
  exact ⟨w1.heap.size, rfl, x1.size, ⟨b', c', n0, p0, ⟨#[]⟩, false, false, Blk.new _ _ _, hu.alloc _, by omega⟩, Ext.trans x1 x2⟩
end
end Go.Proofs.YtmohidgdmmkikaaGreatDoor
