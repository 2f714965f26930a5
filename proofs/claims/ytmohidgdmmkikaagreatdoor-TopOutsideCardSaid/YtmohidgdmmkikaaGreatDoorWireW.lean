/- wire.Writer: numbers, texts and lists as bytes, the highest byte first. -/
import Derived.Test.YtmohidgdmmkikaaGreatDoorPack
import Derived.Deep.RegionLaw
import Derived.IntWalk
import Derived.Lib.AppendStr
namespace Go.Proofs.YtmohidgdmmkikaaGreatDoor
open Go.RowKit

attribute [local go_sem] Oper.pureUpon Oper.relUpon

/-- The lowest bytes of a number, the highest first. -/
def beBytes : Nat → Nat → List UInt8
  | 0, _ => []
  | k + 1, n => UInt8.ofNat (n / 256 ^ k) :: beBytes k n
theorem beBytes_len : ∀ k n, (beBytes k n).length = k
  | 0, _ => rfl
  | k + 1, n => by simp [beBytes, beBytes_len k]
/-- A writer behind the pointer p, made since there were B blocks. -/
def IsWw (w : World) (B p : Nat) (l : List UInt8) : Prop := ∃ v, B ≤ p ∧ B ≤ w.heap.size ∧ Blk w p 65 #[v] ∧ w.ownsRow B 5 1 v l.length (bys l)

theorem wwriter_new (w : World) : Calls Tryz.prog 7 #[] w fun e w' => ∃ p, e = .returned (.pointer (some ⟨p, 0, none⟩)) ∧ IsWw w' w.heap.size p [] ∧ Ext w w' := by
  go_enter Tryz.func7, Tryz.ntmps7
  go_wp2
  go_ret
  exact ⟨_, rfl, ⟨.slice none 0 0, Nat.le_refl _, by simp, Blk.new _ _ _, World.ownsRow_nil _ _ _ _⟩, (Below.refl _ _).alloc (Nat.le_refl _) _⟩

/-- What holds at each jump back of Writer.put. -/
def WPutAt (w : World) (B p n k : Nat) (l : List UInt8) (a' : Act) (w' : World) : Prop :=
  ∃ (j : Nat) (u6 u7 u8 u9 u10 u11 u12 u13 u14 u15 u16 u17 u18 u19 u20 u21 u22 u23 : Value), a' = { tmps := #[.pointer (some ⟨p, 0, none⟩), .int .u64 n, .int .i64 j, undef, undef, undef, u6, u7, u8, u9, u10, u11, u12, u13, u14, u15, u16, u17, u18, u19, u20, u21, u22, u23], defers := [] } ∧
    ∃ l', IsWw w' B p l' ∧ Below B w w' ∧ l' ++ beBytes j n = l ++ beBytes k n ∧ j ≤ 8 ∧ l'.length + j ≤ 100100
/-- A writer with another slice. -/
theorem IsWw.put {w w1 : World} {B p : Nat} {v v' : Value} {n : Nat} {l l' : List UInt8} (hB : B ≤ p) (hsz : B ≤ w.heap.size) (ho : w.ownsRow B 5 1 v n (bys l))
    (hm : Mod (foot p v) w w1) (hb1 : Blk w1 p 65 #[v]) (ho1 : w1.ownsRow B 5 1 v' l'.length (bys l')) :
    IsWw (w1.setCell ⟨p, 0, none⟩ v') B p l' ∧ Below B w (w1.setCell ⟨p, 0, none⟩ v') := by
  have hne := own_blk_ne ho1 hb1 (by decide)
  have hm2 : Mod [p] w1 (w1.setCell ⟨p, 0, none⟩ v') := (Mod.refl _ _).setCell (by simp) _
  have hbel : Below B w w1 := hm.below hsz fun k hk => by
    simp only [foot, List.mem_cons, Option.mem_toList] at hk
    rcases hk with rfl | hk
    · exact hB
    · exact (ho.lt k hk).1
  refine ⟨⟨v', hB, ?_, by simpa using hb1.set_ 0 _, own_mod ho1 hm2 (fun k hk e => hne (by simp at e; subst e; exact hk))⟩, hbel.trans ?_⟩
  · exact Nat.le_trans hsz (Nat.le_trans hm.size hm2.size)
  · exact hm2.below (Nat.le_trans hsz hm.size) (by simpa using hB)
theorem wwr_grow {w w2 : World} {B p n : Nat} {t : TypeId} {v : Value} {xs : List Value} (hb : Blk w p t #[v]) (ho : w.ownsRow B 5 1 v n xs) (hg : w.grownBy w2 v.ownBlock) (ht : 5 ≠ t := by decide) : Blk w2 p t #[v] ∧ Mod (foot p v) w w2 := by
  have hne := own_blk_ne ho hb ht
  refine ⟨hb.mod (Mod.of_grown hg) (fun h => hne (by simpa using h)), (Mod.of_grown hg).sub fun k hk _ => by simp only [foot, List.mem_cons]; exact .inr hk⟩
/-- A row of one cell, new. -/
def One1 (u : Value) (v : Value) (w : World) : Prop := ∃ ad c, v = .slice (some ad) 1 c ∧ Reads w w.heap.size 1 (some ad) 1 [u]
theorem One1.stays (u : Value) : Stays (One1 u) := by rintro v w w' ⟨ad, c, rfl, hr⟩ he; exact ⟨ad, c, rfl, (hr.below he).more he.size⟩
theorem one1_new (w : World) (u : Value) (t : TypeId) : One1 u (.slice (some ⟨w.heap.size, 0, none⟩) 1 1) (w.alloc (.cells #[u] t)) := by
  have hone : (w.alloc (.cells #[u] t)).heap[w.heap.size]? = some (.cells #[u] t (0, 0)) := heap_alloc_new w _
  refine ⟨_, _, rfl, rfl, fun _ => ⟨_, rfl, by simp, fun i v hv => ?_⟩⟩
  have : i = 0 := by have := (List.getElem?_eq_some_iff.1 hv).1; simp at this; omega
  subst this
  simp at hv
  subst hv
  exact (Blk.cell (w := w.alloc _) hone 0).trans (by simp)
/-- The byte that put writes. -/
def putE (n j : Nat) : Value := .int .u8 (IntKind.u8.wrap ((n : Int) / 2 ^ (8 * (j : Int)).toNat))
theorem putE_eq (n j : Nat) : bys [UInt8.ofNat (n / 256 ^ j)] = [putE n j] := by
  have h1 : (8 * (j : Int)).toNat = 8 * j := by omega
  have h2 : (2 : Int) ^ (8 * j) = ((256 ^ j : Nat) : Int) := by
    rw [show (256 : Nat) = 2 ^ 8 from rfl, ← Nat.pow_mul]
    exact (Int.natCast_pow 2 (8 * j)).symm
  unfold putE
  rw [bys_ofNat, h1, h2, Int.natCast_ediv]
  rfl
set_option maxRecDepth 100000 in
theorem wwriter_put {w : World} {B p : Nat} {l : List UInt8} (h : IsWw w B p l) (n k : Nat) (hk : k ≤ 8) (hn : n < 18446744073709551616) (hl : l.length ≤ 100000) :
    Calls Tryz.prog 22 #[.pointer (some ⟨p, 0, none⟩), .int .u64 n, .int .i64 k] w fun e w' => e = .returned (.tuple #[]) ∧ IsWw w' B p (l ++ beBytes k n) ∧ Below B w w' := by
  obtain ⟨i0, hi0, hz0, hz1, hz2⟩ := info_parts byte_info
  go_enter Tryz.func22, Tryz.ntmps22
  go_wp2_with fail
  refine wp_scope_jumps 0 (WPutAt w B p n k l) (fun a' _ => (intOf (a'.tmps.getD 2 undef)).toNat) rfl ?_ ?_
  · go_wp2_with fail
    go_step3
    obtain ⟨v, hBp, hBs, hb, ho⟩ := h
    have c0 := hb.cell 0
    simp at c0
    have f0 := hb.frozen 0
    have hlt := hb.lt
    obtain ⟨A', c', rfl, _⟩ := own_slice ho
    rcases k with _ | j
    · have hjz : ¬ (((0 : Nat) : Int) > 0) := by omega
      go_wp2_with fail
      simp only [Exit.jump]
      go_end0
      exact ⟨rfl, ⟨_, hBp, hBs, hb, by simpa [beBytes] using ho⟩, Below.refl _ _⟩
    · have h0 : ((j + 1 : Nat) : Int) > 0 := by omega
      have h1 : ((j + 1 : Nat) : Int) - 1 = (j : Int) := by omega
      have hwr : IntKind.i64.wrap (8 * (j : Int)) = 8 * (j : Int) := IntWalk.i64_in _ (by omega)
      have ho1 := (ho.drew).alloc (.cells #[putE n j] 5)
      have hbd : Blk w.drew p 65 #[.slice A' l.length c'] := hb
      have hb1 := hbd.alloc (.cells #[putE n j] 5)
      have hm1 : Mod (foot p (.slice A' l.length c')) w (w.drew.alloc (.cells #[putE n j] 5)) := ((Mod.refl _ w).drew).alloc (.cells #[putE n j] 5)
      have hr1 : Reads (w.drew.alloc (.cells #[putE n j] 5)) (w.drew.heap.size + 1) 1 (some ⟨w.drew.heap.size, 0, none⟩) 1 (bys [UInt8.ofNat (n / 256 ^ j)]) := by
        rw [putE_eq]
        obtain ⟨_, _, h, hr⟩ := one1_new w.drew (putE n j) 5
        cases h
        simpa using hr
      have HO := Lib.hid ho1
      have HB := Lib.hid hb1
      have HM := Lib.hid hm1
      have HR := Lib.hid hr1
      have HHO := Lib.hid ho
      have HLN := Lib.hid hl
      have hbs1 := Nat.le_trans hBs hm1.size
      have HBS := Lib.hid hbs1
      clear hbs1 hr1 hm1 hb1 hbd ho1 hb ho
      unfold putE at HO HB HM HR HBS
      go_wp2_with fail
      go_region_law (refine step_app _ rfl (.tmp 14) (.tmp 20) _ rfl 5 i0 _ 1 1 Tryz.underlying28 hi0 hz0 hz1 hz2 rfl (by omega) (.slice A' l.length c') l.length (bys l) B rfl HO.out (w.drew.heap.size + 1) (some ⟨w.drew.heap.size, 0, none⟩) 1 1 (bys [UInt8.ofNat (n / 256 ^ j)]) rfl HR.out (bys_one _) (by omega) HBS.out ?_; intro A2 c2 w2 hown2 hg2 hat2; obtain ⟨hb2, hm2⟩ := wwr_grow HB.out HO.out hg2; have c0' := hb2.cell 0; have f0' := hb2.frozen 0; simp at c0')
      all_goals go_wp2_with fail
      all_goals go_step3
      all_goals (
        have hn1 : l.length + 1 = (l ++ [UInt8.ofNat (n / 256 ^ j)]).length := by simp
        rw [← bys_append] at hown2
        have hown3 : w2.ownsRow B 5 1 (.slice A2 (l.length + 1) c2) (l ++ [UInt8.ofNat (n / 256 ^ j)]).length (bys (l ++ [UInt8.ofNat (n / 256 ^ j)])) := hn1 ▸ hown2
        obtain ⟨hw2, hbl2⟩ := IsWw.put hBp hBs HHO.out (HM.out.trans' hm2) hb2 hown3
        have hll := HLN.out
        exact ⟨rfl, j, _, _, _, _, _, _, _, _, _, _, _, _, _, _, _, _, _, _, rfl, l ++ [UInt8.ofNat (n / 256 ^ j)], hw2, hbl2, by simp [beBytes], by omega, by simp; omega⟩)
  · rintro a' wj ⟨j, u6, u7, u8, u9, u10, u11, u12, u13, u14, u15, u16, u17, u18, u19, u20, u21, u22, u23, rfl, l', hw, hbel, hle, hj8, hll⟩
    obtain ⟨v, hBp, hBs, hb, ho⟩ := hw
    have c0 := hb.cell 0
    simp at c0
    have f0 := hb.frozen 0
    have hlt := hb.lt
    obtain ⟨A', c', rfl, _⟩ := own_slice ho
    rcases j with _ | j
    · have hjz : ¬ (((0 : Nat) : Int) > 0) := by omega
      go_wp2_with fail
      simp only [Exit.jump]
      go_end0
      simp only [beBytes, List.append_nil] at hle
      rw [← hle]
      exact ⟨rfl, ⟨_, hBp, hBs, hb, ho⟩, hbel⟩
    · have h0 : ((j + 1 : Nat) : Int) > 0 := by omega
      have h1 : ((j + 1 : Nat) : Int) - 1 = (j : Int) := by omega
      have hwr : IntKind.i64.wrap (8 * (j : Int)) = 8 * (j : Int) := IntWalk.i64_in _ (by omega)
      have ho1 := (ho.drew).alloc (.cells #[putE n j] 5)
      have hbd : Blk wj.drew p 65 #[.slice A' l'.length c'] := hb
      have hb1 := hbd.alloc (.cells #[putE n j] 5)
      have hm1 : Mod (foot p (.slice A' l'.length c')) wj (wj.drew.alloc (.cells #[putE n j] 5)) := ((Mod.refl _ wj).drew).alloc (.cells #[putE n j] 5)
      have hr1 : Reads (wj.drew.alloc (.cells #[putE n j] 5)) (wj.drew.heap.size + 1) 1 (some ⟨wj.drew.heap.size, 0, none⟩) 1 (bys [UInt8.ofNat (n / 256 ^ j)]) := by
        rw [putE_eq]
        obtain ⟨_, _, h, hr⟩ := one1_new wj.drew (putE n j) 5
        cases h
        simpa using hr
      have HO := Lib.hid ho1
      have HB := Lib.hid hb1
      have HM := Lib.hid hm1
      have HR := Lib.hid hr1
      have HHO := Lib.hid ho
      have HLN := Lib.hid hll
      have hbs1 := Nat.le_trans hBs hm1.size
      have HBS := Lib.hid hbs1
      clear hbs1 hr1 hm1 hb1 hbd ho1 hb ho
      unfold putE at HO HB HM HR HBS
      go_wp2_with fail
      go_region_law (refine step_app _ rfl (.tmp 14) (.tmp 20) _ rfl 5 i0 _ 1 1 Tryz.underlying28 hi0 hz0 hz1 hz2 rfl (by omega) (.slice A' l'.length c') l'.length (bys l') B rfl HO.out (wj.drew.heap.size + 1) (some ⟨wj.drew.heap.size, 0, none⟩) 1 1 (bys [UInt8.ofNat (n / 256 ^ j)]) rfl HR.out (bys_one _) (by omega) HBS.out ?_; intro A2 c2 w2 hown2 hg2 hat2; obtain ⟨hb2, hm2⟩ := wwr_grow HB.out HO.out hg2; have c0' := hb2.cell 0; have f0' := hb2.frozen 0; simp at c0')
      all_goals go_wp2_with fail
      all_goals go_step3
      all_goals (
        have hn1 : l'.length + 1 = (l' ++ [UInt8.ofNat (n / 256 ^ j)]).length := by simp
        rw [← bys_append] at hown2
        have hown3 : w2.ownsRow B 5 1 (.slice A2 (l'.length + 1) c2) (l' ++ [UInt8.ofNat (n / 256 ^ j)]).length (bys (l' ++ [UInt8.ofNat (n / 256 ^ j)])) := hn1 ▸ hown2
        obtain ⟨hw2, hbl2⟩ := IsWw.put hBp hBs HHO.out (HM.out.trans' hm2) hb2 hown3
        have hll := HLN.out
        exact ⟨rfl, ⟨j, _, _, _, _, _, _, _, _, _, _, _, _, _, _, _, _, _, _, rfl, l' ++ [UInt8.ofNat (n / 256 ^ j)], hw2, hbel.trans hbl2, by rw [← hle]; simp [beBytes], by omega, by rw [List.length_append, List.length_singleton]; omega⟩, by simp [intOf]⟩)

set_option maxRecDepth 100000 in
theorem wwriter_byte {w : World} {B p : Nat} {l : List UInt8} (h : IsWw w B p l) (n : Nat) (hn : n < 9223372036854775808) (hl : l.length ≤ 100000) :
    Calls Tryz.prog 8 #[.pointer (some ⟨p, 0, none⟩), .int .i64 n] w fun e w' => e = .returned (.tuple #[]) ∧ IsWw w' B p (l ++ beBytes 1 n) ∧ Below B w w' := by
  go_enter Tryz.func8, Tryz.ntmps8
  go_wp2_with fail
  refine (wwriter_put h n 1 (by omega) (by omega) hl).mono ?_
  rintro e w1 ⟨rfl, h1, h2⟩
  go_wp2_with fail
  go_end0
  exact ⟨rfl, h1, h2⟩

set_option maxRecDepth 100000 in
theorem wwriter_u32 {w : World} {B p : Nat} {l : List UInt8} (h : IsWw w B p l) (n : Nat) (hn : n < 4294967296) (hl : l.length ≤ 100000) :
    Calls Tryz.prog 23 #[.pointer (some ⟨p, 0, none⟩), .int .u32 n] w fun e w' => e = .returned (.tuple #[]) ∧ IsWw w' B p (l ++ beBytes 4 n) ∧ Below B w w' := by
  go_enter Tryz.func23, Tryz.ntmps23
  go_wp2_with fail
  refine (wwriter_put h n 4 (by omega) (by omega) hl).mono ?_
  rintro e w1 ⟨rfl, h1, h2⟩
  go_wp2_with fail
  go_end0
  exact ⟨rfl, h1, h2⟩

set_option maxRecDepth 100000 in
theorem wwriter_bool {w : World} {B p : Nat} {l : List UInt8} (h : IsWw w B p l) (b : Bool) (hl : l.length ≤ 100000) :
    Calls Tryz.prog 11 #[.pointer (some ⟨p, 0, none⟩), .bool b] w fun e w' => e = .returned (.tuple #[]) ∧ IsWw w' B p (l ++ beBytes 1 b.toNat) ∧ Below B w w' := by
  cases b
  · go_enter Tryz.func11, Tryz.ntmps11
    go_wp2_with fail
    refine (wwriter_byte h 0 (by omega) hl).mono ?_
    rintro e w1 ⟨rfl, h1, h2⟩
    go_wp2_with fail
    go_end0
    exact ⟨rfl, h1, h2⟩
  · go_enter Tryz.func11, Tryz.ntmps11
    go_wp2_with fail
    refine (wwriter_byte h 1 (by omega) hl).mono ?_
    rintro e w1 ⟨rfl, h1, h2⟩
    go_wp2_with fail
    go_end0
    exact ⟨rfl, h1, h2⟩

theorem strCells_bys (s : ByteArray) : Lib.strCells s = bys s.data.toList := by
  simp [Lib.strCells, bys]

set_option maxRecDepth 100000 in
theorem wwriter_text {w : World} {B p : Nat} {l : List UInt8} (h : IsWw w B p l) (s : ByteArray) (hs : s.size ≤ 1000) (hl : l.length ≤ 90000) :
    Calls Tryz.prog 9 #[.pointer (some ⟨p, 0, none⟩), .string s] w fun e w' => e = .returned (.tuple #[]) ∧ IsWw w' B p (l ++ beBytes 4 s.size ++ s.data.toList) ∧ Below B w w' := by
  have hw : IntKind.i64.wrap (s.size : Int) = (s.size : Int) := IntWalk.i64_in _ (by omega)
  obtain ⟨i0, hi0, hz0, hz1, hz2⟩ := info_parts byte_info
  go_enter Tryz.func9, Tryz.ntmps9
  go_wp2_with fail
  refine (wwriter_u32 h s.size (by omega) (by omega)).mono ?_
  rintro e w1 ⟨rfl, h1, hn1⟩
  obtain ⟨l1, hl1⟩ : ∃ l1, l ++ beBytes 4 s.size = l1 := ⟨_, rfl⟩
  rw [hl1] at h1
  have HL1 := Lib.hid hl1
  have hlen : l1.length = l.length + 4 := by rw [← hl1]; simp [beBytes_len]
  clear hl1
  obtain ⟨v, hBp, hBs, hb, ho⟩ := h1
  have c0 := hb.cell 0
  simp at c0
  have f0 := hb.frozen 0
  have hlt := hb.lt
  obtain ⟨A', c', rfl, _⟩ := own_slice ho
  have HO := Lib.hid ho
  have HB := Lib.hid hb
  have HN := Lib.hid hn1
  have HLL := Lib.hid hl
  have HS := Lib.hid hs
  have HLE := Lib.hid hlen
  have HBS := Lib.hid hBs
  clear ho hb hn1 hl hs hlen
  go_wp2_with (at_builtin; refine Lib.wpList_append_own_string _ rfl (.tmp 13) (.tmp 14) _ _ rfl B 5 i0 Tryz.underlying28 Tryz.underlying9 hi0 hz0 hz1 hz2 (.slice A' l1.length c') _ _ rfl HO.out s rfl (by rw [HLE.out]; have := HLL.out; have := HS.out; simp only [maxLen]; omega) (by rw [HLE.out]; have := HLL.out; have := HS.out; omega) HBS.out ?_; intro v2 w2 hown2 hg2 hat2; obtain ⟨A2, c2, rfl, _⟩ := own_slice hown2; obtain ⟨hb2, hm2⟩ := wwr_grow HB.out HO.out hg2; have c0' := hb2.cell 0; have f0' := hb2.frozen 0; simp at c0')
  go_end0
  rw [strCells_bys, ← bys_append] at hown2
  have hn2 : l1.length + s.size = (l1 ++ s.data.toList).length := by rw [List.length_append]; rfl
  have hown3 : w2.ownsRow B 5 1 (.slice A2 (l1.length + s.size) c2) (l1 ++ s.data.toList).length (bys (l1 ++ s.data.toList)) := hn2 ▸ hown2
  obtain ⟨hw2, hbl2⟩ := IsWw.put hBp HBS.out HO.out hm2 hb2 hown3
  rw [HL1.out]
  exact ⟨rfl, hw2, HN.out.trans hbl2⟩

set_option maxRecDepth 100000 in
theorem wwriter_done {w : World} {B p : Nat} {l : List UInt8} (h : IsWw w B p l) (hl : l.length ≤ 1000000) :
    Calls Tryz.prog 12 #[.pointer (some ⟨p, 0, none⟩)] w fun e w' => ∃ A c, e = .returned (.slice A l.length c) ∧ w'.ownsRow w.heap.size 5 1 (.slice A l.length c) l.length (bys l) ∧ Ext w w' := by
  obtain ⟨v, hBp, hBs, hb, ho⟩ := h
  have c0 := hb.cell 0
  simp at c0
  obtain ⟨A', c', rfl, _⟩ := own_slice ho
  go_enter Tryz.func12, Tryz.ntmps12
  go_wp2_with fail
  refine (clone_calls w w.heap.size A' l.length c' l (Reads.of_own ho) (Nat.le_refl _) (by omega) (own_none (own_base ho))).mono ?_
  rintro e w1 ⟨A2, c2, rfl, h1, h2⟩
  go_wp2_with fail
  go_ret
  exact ⟨A2, c2, rfl, h1, h2⟩
end Go.Proofs.YtmohidgdmmkikaaGreatDoor
