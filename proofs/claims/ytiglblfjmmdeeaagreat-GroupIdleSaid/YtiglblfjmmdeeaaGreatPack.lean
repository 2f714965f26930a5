/- pack.Writer, pack.Reader: numbers as bytes. -/
import Derived.Test.YtiglblfjmmdeeaaGreatSep
import Derived.WalkMore
import Derived.ScopeJumps
import Derived.Laws.BitsAllLaws
import Derived.Deep.DeepCutAuto
namespace Go.Proofs.YtiglblfjmmdeeaaGreat
open Go.RowKit

attribute [local go_sem] Oper.pureUpon Oper.relUpon

/-- The lowest bytes of a number, the lowest first. -/
def leBytes : Nat → Nat → List UInt8
  | 0, _ => []
  | k + 1, n => UInt8.ofNat n :: leBytes k (n / 256)
theorem leBytes_len : ∀ k n, (leBytes k n).length = k
  | 0, _ => rfl
  | k + 1, n => by simp [leBytes, leBytes_len k]

/-- A writer behind the pointer p. -/
def IsWrit (w : World) (p : Nat) (v : Value) (l : List UInt8) : Prop := Blk w p 206 #[v] ∧ w.ownsRow 0 5 1 v l.length (bys l)
def IsWr (w : World) (F : List Nat) (p : Nat) (l : List UInt8) : Prop := ∃ v, IsWrit w p v l ∧ F = foot p v

section
variable {W w w' : World} {F : List Nat} {p : Nat} {l : List UInt8}
theorem IsWr.lt (h : IsWr w F p l) : ∀ k ∈ F, k < w.heap.size := by
  obtain ⟨v, h, rfl⟩ := h
  intro k hk
  simp only [foot, List.mem_cons, Option.mem_toList] at hk
  rcases hk with rfl | hk
  · exact h.1.lt
  · exact own_lt h.2 hk
theorem IsWr.keep (h : IsWr w F p l) (hk : Keep F w w') : IsWr w' F p l := by
  obtain ⟨v, h, rfl⟩ := h
  exact ⟨v, ⟨h.1.keep (hk p (by simp [foot])), own_keep h.2 (fun k hk' => hk k (by simp only [foot, List.mem_cons]; exact .inr hk'))⟩, rfl⟩
theorem IsWr.ext (h : IsWr w F p l) (e : Ext w w') : IsWr w' F p l := h.keep fun k hk => e.block k (h.lt k hk)
theorem Next.trans {F G H : List Nat} {a b c : World} (h : Next F G a b) (k : Next G H b c) : Next F H a c :=
  ⟨⟨k.1.os.trans h.1.os, k.1.tape.trans h.1.tape, k.1.output.trans h.1.output, Nat.le_trans h.1.size k.1.size, fun i hi hn => by
    have h1 := h.1.block i hi hn
    by_cases hG : i ∈ G
    · rcases (h.2 i hG).1 with h2 | h2
      · exact absurd h2 hn
      · omega
    · exact (k.1.block i (Nat.lt_of_lt_of_le hi h.1.size) hG).trans h1⟩, fun i hi => by
    obtain ⟨h1, h2⟩ := k.2 i hi
    refine ⟨?_, h2⟩
    rcases h1 with h1 | h1
    · exact (h.2 i h1).1
    · exact .inr (Nat.le_trans h.1.size h1)⟩
end

theorem writer_new (w : World) : Calls Tryz.prog 137 #[] w fun e w' => ∃ p, e = .returned (.pointer (some ⟨p, 0, none⟩)) ∧ w.heap.size = p ∧ IsWr w' [p] p [] ∧ Ext w w' := by
  go_enter Tryz.func137, Tryz.ntmps137
  go_wp2
  go_ret
  exact ⟨_, rfl, rfl, ⟨.slice none 0 0, ⟨Blk.new _ _ _, World.ownsRow_nil _ _ _ _⟩, rfl⟩, (Below.refl _ _).alloc (Nat.le_refl _) _⟩

/-- What holds at each jump back of Writer.put. -/
def PutAt (w : World) (F : List Nat) (p n k : Nat) (l : List UInt8) (a' : Act) (w' : World) : Prop :=
  ∃ (j m : Nat) (u7 u8 u9 u10 u11 u12 u13 u14 u15 u16 u17 u18 u19 u20 u21 u22 u23 u24 : Value), a' = { tmps := #[.pointer (some ⟨p, 0, none⟩), .int .u64 m, .int .i64 k, undef, undef, undef, .int .i64 j, u7, u8, u9, u10, u11, u12, u13, u14, u15, u16, u17, u18, u19, u20, u21, u22, u23, u24], defers := [] } ∧
    ∃ F' l', IsWr w' F' p l' ∧ Next F F' w w' ∧ l' ++ leBytes j m = l ++ leBytes k n ∧ j ≤ 8 ∧ m < 18446744073709551616 ∧ l'.length + j ≤ 100100

theorem bys_ofNat (m : Nat) : bys [UInt8.ofNat m] = [.int .u8 ((m : Int) % 256)] := by
  simp [bys, UInt8.toNat_ofNat']

theorem wr_grow {w w2 : World} {p n : Nat} {t : TypeId} {v : Value} {xs : List Value} (hb : Blk w p t #[v]) (ho : w.ownsRow 0 5 1 v n xs) (hg : w.grownBy w2 v.ownBlock) (ht : 5 ≠ t := by decide) : Blk w2 p t #[v] ∧ Mod (foot p v) w w2 := by
  have hne := own_blk_ne ho hb ht
  refine ⟨hb.mod (Mod.of_grown hg) (fun h => hne (by simpa using h)), (Mod.of_grown hg).sub fun k hk _ => by simp only [foot, List.mem_cons]; exact .inr hk⟩

/-- A writer with another slice. -/
theorem IsWr.put {w w1 : World} {A A' : Option Addr} {n c n' c' p : Nat} {l l' : List UInt8} (hb : Blk w p 206 #[.slice A n c]) (ho : w.ownsRow 0 5 1 (.slice A n c) n (bys l))
    (hm : Mod (foot p (.slice A n c)) w w1) (hb1 : Blk w1 p 206 #[.slice A n c]) (ho1 : w1.ownsRow 0 5 1 (.slice A' n' c') n' (bys l')) (hn : n' = l'.length)
    (hnew : ∀ k, (Value.slice A' n' c').ownBlock = some k → (Value.slice A n c).ownBlock = some k ∨ w.heap.size ≤ k) :
    IsWr (w1.setCell ⟨p, 0, none⟩ (.slice A' n' c')) (foot p (.slice A' n' c')) p l' ∧ Next (foot p (.slice A n c)) (foot p (.slice A' n' c')) w (w1.setCell ⟨p, 0, none⟩ (.slice A' n' c')) := by
  subst hn
  have hne := own_blk_ne ho1 hb1 (by decide)
  have hm2 : Mod [p] w1 (w1.setCell ⟨p, 0, none⟩ (.slice A' l'.length c')) := (Mod.refl _ _).setCell (by simp) _
  have hw : IsWr (w1.setCell ⟨p, 0, none⟩ (.slice A' l'.length c')) (foot p (.slice A' l'.length c')) p l' :=
    ⟨_, ⟨by simpa using hb1.set_ 0 _, own_mod ho1 hm2 (fun k hk e => hne (by simp at e; subst e; exact hk))⟩, rfl⟩
  refine ⟨hw, hm.trans' (hm2.sub fun k hk _ => by simp at hk; subst hk; simp [foot]), fun k hk => ⟨?_, hw.lt k hk⟩⟩
  simp only [foot, List.mem_cons, Option.mem_toList] at hk ⊢
  rcases hk with rfl | hk
  · exact .inl (.inl rfl)
  · rcases hnew k hk with h1 | h1
    · exact .inl (.inr h1)
    · exact .inr h1

set_option maxRecDepth 100000 in
theorem writer_put {w : World} {F : List Nat} {p : Nat} {l : List UInt8} (h : IsWr w F p l) (n k : Nat) (hk : k ≤ 8) (hn : n < 18446744073709551616) (hl : l.length ≤ 100000) :
    Calls Tryz.prog 126 #[.pointer (some ⟨p, 0, none⟩), .int .u64 n, .int .i64 k] w fun e w' => e = .returned (.tuple #[]) ∧ ∃ F', IsWr w' F' p (l ++ leBytes k n) ∧ Next F F' w w' := by
  obtain ⟨i0, hi0, hz0, hz1, hz2⟩ := info_parts byte_info
  go_enter Tryz.func126, Tryz.ntmps126
  go_wp2_with fail
  refine wp_scope_jumps 0 (PutAt w F p n k l) (fun a' _ => (intOf (a'.tmps.getD 6 undef)).toNat) rfl ?_ ?_
  · go_wp2_with fail
    go_step3
    obtain ⟨v, ⟨hb, ho⟩, rfl⟩ := h
    have c0 := hb.cell 0
    simp at c0
    have f0 := hb.frozen 0
    have hlt := hb.lt
    obtain ⟨A', c', rfl, _⟩ := own_slice ho
    rcases k with _ | j
    · have hjz : ((0 : Nat) : Int) = 0 := rfl
      go_wp2_with fail
      simp only [Exit.jump]
      refine bodyPost_ret (results_none rfl _ _ _) rfl ?_
      exact ⟨rfl, _, ⟨_, ⟨hb, by simpa [leBytes] using ho⟩, by simp⟩, Mod.refl _ _, fun i hi => ⟨.inl hi, IsWr.lt ⟨_, ⟨hb, ho⟩, rfl⟩ i hi⟩⟩
    · have h0 : ((j : Int) + 1 == 0) = false := by simp; omega
      have h1 : ((j + 1 : Nat) : Int) - 1 = (j : Int) := by omega
      have hone : (w.alloc (.cells #[.int .u8 ((n : Int) % 256)] 5)).heap[w.heap.size]? = some (.cells #[.int .u8 ((n : Int) % 256)] 5 (0, 0)) := heap_alloc_new w _
      have hr1 : Reads (w.alloc (.cells #[.int .u8 ((n : Int) % 256)] 5)) (w.heap.size + 1) 1 (some ⟨w.heap.size, 0, none⟩) 1 (bys [UInt8.ofNat n]) := by
        rw [bys_ofNat]
        exact ⟨rfl, fun _ => ⟨_, rfl, by simp, fun i u hu => by
          have : i = 0 := by have := (List.getElem?_eq_some_iff.1 hu).1; simp at this; omega
          subst this
          simp at hu
          subst hu
          exact (Blk.cell (w := w.alloc _) hone 0).trans (by simp)⟩⟩
      have ho1 := ho.alloc (.cells #[.int .u8 ((n : Int) % 256)] 5)
      have hb1 := hb.alloc (.cells #[.int .u8 ((n : Int) % 256)] 5)
      have hm1 := (Mod.refl (foot p (.slice A' l.length c')) w).alloc (.cells #[.int .u8 ((n : Int) % 256)] 5)
      have HR := Lib.hid hr1
      have HLL := Lib.hid hl
      clear hone hr1
      go_wp2_with (at_builtin; refine wpList_app _ rfl (.tmp 14) (.tmp 17) _ rfl 5 i0 _ 1 1 Tryz.underlying34 hi0 hz0 hz1 hz2 rfl (by omega) (.slice A' l.length c') l.length (bys l) 0 rfl ho1 (w.heap.size + 1) (some ⟨w.heap.size, 0, none⟩) 1 1 (bys [UInt8.ofNat n]) rfl HR.out (bys_one _) (by omega) (Nat.zero_le _) ?_; intro A2 c2 w2 hown2 hg2 hat2; obtain ⟨hb2, hm2⟩ := wr_grow hb1 ho1 hg2; have c0' := hb2.cell 0; have f0' := hb2.frozen 0; simp at c0')
      have hn1 : l.length + 1 = (l ++ [UInt8.ofNat n]).length := by simp
      rw [← bys_append] at hown2
      obtain ⟨hw2, hnx2⟩ := IsWr.put hb ho (hm1.trans' hm2) hb2 hown2 hn1 (fun k' hk' => by
        rcases hat2 with e | e
        · exact .inl (e.symm.trans hk')
        · rw [e] at hk'
          injection hk' with hk'
          exact .inr (by rw [← hk']; simp))
      obtain ⟨F2, hF2⟩ : ∃ F2, foot p (.slice A2 (l.length + 1) c2) = F2 := ⟨_, rfl⟩
      rw [hF2] at hw2 hnx2
      go_step3
      exact ⟨rfl, j, n / 256, _, _, _, _, _, _, _, _, _, _, _, _, _, _, _, _, _, _, rfl, F2, l ++ [UInt8.ofNat n], hw2, hnx2, by simp [leBytes], by omega, by omega, by simp; omega⟩
  · rintro a' wj ⟨j, m, u7, u8, u9, u10, u11, u12, u13, u14, u15, u16, u17, u18, u19, u20, u21, u22, u23, u24, rfl, F1, l', hw, hnx, hle, hj8, hm64, hll⟩
    obtain ⟨v, ⟨hb, ho⟩, rfl⟩ := hw
    have c0 := hb.cell 0
    simp at c0
    have f0 := hb.frozen 0
    have hlt := hb.lt
    obtain ⟨A', c', rfl, _⟩ := own_slice ho
    rcases j with _ | j
    · have hjz : ((0 : Nat) : Int) = 0 := rfl
      go_wp2_with fail
      simp only [Exit.jump]
      refine bodyPost_ret (results_none rfl _ _ _) rfl ?_
      simp only [leBytes, List.append_nil] at hle
      rw [← hle]
      exact ⟨rfl, _, ⟨_, ⟨hb, ho⟩, rfl⟩, hnx⟩
    · have h0 : ((j : Int) + 1 == 0) = false := by simp; omega
      have h1 : ((j + 1 : Nat) : Int) - 1 = (j : Int) := by omega
      have hone : (wj.alloc (.cells #[.int .u8 ((m : Int) % 256)] 5)).heap[wj.heap.size]? = some (.cells #[.int .u8 ((m : Int) % 256)] 5 (0, 0)) := heap_alloc_new wj _
      have hr1 : Reads (wj.alloc (.cells #[.int .u8 ((m : Int) % 256)] 5)) (wj.heap.size + 1) 1 (some ⟨wj.heap.size, 0, none⟩) 1 (bys [UInt8.ofNat m]) := by
        rw [bys_ofNat]
        exact ⟨rfl, fun _ => ⟨_, rfl, by simp, fun i u hu => by
          have : i = 0 := by have := (List.getElem?_eq_some_iff.1 hu).1; simp at this; omega
          subst this
          simp at hu
          subst hu
          exact (Blk.cell (w := wj.alloc _) hone 0).trans (by simp)⟩⟩
      have ho1 := ho.alloc (.cells #[.int .u8 ((m : Int) % 256)] 5)
      have hb1 := hb.alloc (.cells #[.int .u8 ((m : Int) % 256)] 5)
      have hm1 := (Mod.refl (foot p (.slice A' l'.length c')) wj).alloc (.cells #[.int .u8 ((m : Int) % 256)] 5)
      have HR := Lib.hid hr1
      have HLL := Lib.hid hll
      clear hone hr1
      go_wp2_with (at_builtin; refine wpList_app _ rfl (.tmp 14) (.tmp 17) _ rfl 5 i0 _ 1 1 Tryz.underlying34 hi0 hz0 hz1 hz2 rfl (by omega) (.slice A' l'.length c') l'.length (bys l') 0 rfl ho1 (wj.heap.size + 1) (some ⟨wj.heap.size, 0, none⟩) 1 1 (bys [UInt8.ofNat m]) rfl HR.out (bys_one _) (by omega) (Nat.zero_le _) ?_; intro A2 c2 w2 hown2 hg2 hat2; obtain ⟨hb2, hm2⟩ := wr_grow hb1 ho1 hg2; have c0' := hb2.cell 0; have f0' := hb2.frozen 0; simp at c0')
      have hn1 : l'.length + 1 = (l' ++ [UInt8.ofNat m]).length := by simp
      rw [← bys_append] at hown2
      obtain ⟨hw2, hnx2⟩ := IsWr.put hb ho (hm1.trans' hm2) hb2 hown2 hn1 (fun k' hk' => by
        rcases hat2 with e | e
        · exact .inl (e.symm.trans hk')
        · rw [e] at hk'
          injection hk' with hk'
          exact .inr (by rw [← hk']; simp))
      obtain ⟨F2, hF2⟩ : ∃ F2, foot p (.slice A2 (l'.length + 1) c2) = F2 := ⟨_, rfl⟩
      rw [hF2] at hw2 hnx2
      go_step3
      refine ⟨rfl, ⟨j, m / 256, _, _, _, _, _, _, _, _, _, _, _, _, _, _, _, _, _, _, rfl, F2, l' ++ [UInt8.ofNat m], hw2, hnx.trans hnx2, by rw [← hle]; simp [leBytes], by omega, by omega, by simp; omega⟩, by simp [intOf]⟩

set_option maxRecDepth 100000 in
theorem writer_byte {w : World} {F : List Nat} {p : Nat} {l : List UInt8} (h : IsWr w F p l) (n : Nat) (hn : n < 9223372036854775808) (hl : l.length ≤ 100000) :
    Calls Tryz.prog 138 #[.pointer (some ⟨p, 0, none⟩), .int .i64 n] w fun e w' => e = .returned (.tuple #[]) ∧ ∃ F', IsWr w' F' p (l ++ [UInt8.ofNat n]) ∧ Next F F' w w' := by
  go_enter Tryz.func138, Tryz.ntmps138
  go_wp2_with fail
  refine (writer_put h n 1 (by omega) (by omega) hl).mono ?_
  rintro e w1 ⟨rfl, F', h1, h2⟩
  go_wp2_with fail
  go_end0
  exact ⟨rfl, F', h1, h2⟩

set_option maxRecDepth 100000 in
theorem writer_long {w : World} {F : List Nat} {p : Nat} {l : List UInt8} (h : IsWr w F p l) (n : Nat) (hn : n < 9223372036854775808) (hl : l.length ≤ 100000) :
    Calls Tryz.prog 71 #[.pointer (some ⟨p, 0, none⟩), .int .i64 n] w fun e w' => e = .returned (.tuple #[]) ∧ ∃ F', IsWr w' F' p (l ++ leBytes 8 n) ∧ Next F F' w w' := by
  go_enter Tryz.func71, Tryz.ntmps71
  go_wp2_with fail
  refine (writer_put h n 8 (by omega) (by omega) hl).mono ?_
  rintro e w1 ⟨rfl, F', h1, h2⟩
  go_wp2_with fail
  go_end0
  exact ⟨rfl, F', h1, h2⟩

theorem own_none {w : World} {B n c : Nat} {A : Option Addr} {xs : List Value} (h : w.ownsRow B 5 1 (.slice A n c) n xs) (hA : A = none) : n = 0 ∧ c = 0 := by
  rcases h.2 with ⟨hv, hn⟩ | ⟨g, cap, cur, hv, _⟩
  · injection hv with _ _ e3
    exact ⟨hn, e3⟩
  · injection hv with e1
    rw [hA] at e1
    cases e1

set_option maxRecDepth 100000 in
theorem writer_done {w : World} {F : List Nat} {p : Nat} {l : List UInt8} (h : IsWr w F p l) (hl : l.length ≤ 1000000) :
    Calls Tryz.prog 140 #[.pointer (some ⟨p, 0, none⟩)] w fun e w' => ∃ A c, e = .returned (.slice A l.length c) ∧ w'.ownsRow w.heap.size 5 1 (.slice A l.length c) l.length (bys l) ∧ Ext w w' := by
  obtain ⟨v, ⟨hb, ho⟩, rfl⟩ := h
  have c0 := hb.cell 0
  simp at c0
  obtain ⟨A', c', rfl, _⟩ := own_slice ho
  go_enter Tryz.func140, Tryz.ntmps140
  go_wp2_with fail
  refine (clone_calls w w.heap.size A' l.length c' l (Reads.of_own ho) (Nat.le_refl _) (by omega) (own_none ho)).mono ?_
  rintro e w1 ⟨A2, c2, rfl, h1, h2⟩
  go_wp2_with fail
  go_ret
  exact ⟨A2, c2, rfl, h1, h2⟩

/-! ### Readers -/
/-- A row of bytes as a number, the lowest first. -/
def leNum : List UInt8 → Nat
  | [] => 0
  | b :: l => b.toNat + 256 * leNum l
theorem leNum_leBytes : ∀ (k n : Nat), n < 256 ^ k → leNum (leBytes k n) = n
  | 0, n, h => by simp at h; subst h; rfl
  | k + 1, n, h => by
    have h1 : n / 256 < 256 ^ k := by rw [Nat.pow_succ] at h; exact Nat.div_lt_of_lt_mul (by omega)
    simp only [leBytes, leNum, leNum_leBytes k _ h1, UInt8.toNat_ofNat']
    omega
theorem leNum_lt : ∀ (l : List UInt8), leNum l < 256 ^ l.length
  | [] => by simp [leNum]
  | b :: l => by
    have h1 := leNum_lt l
    have h2 := b.toNat_lt
    simp only [leNum, List.length_cons, Nat.pow_succ]
    omega

/-- A reader behind the pointer p: its bytes, and the place. -/
def IsReader (w : World) (p : Nat) (v : Value) (l : List UInt8) (at_ : Nat) : Prop :=
  Blk w p 149 #[v, .int .i64 (at_ : Int), .int .i64 0, .int .i64 0] ∧ w.ownsRow 0 5 1 v l.length (bys l) ∧ at_ ≤ l.length ∧ l.length ≤ 10000000
def IsRd (w : World) (F : List Nat) (p : Nat) (l : List UInt8) (at_ : Nat) : Prop := ∃ v, IsReader w p v l at_ ∧ F = foot p v

section
variable {W w w' : World} {F : List Nat} {p at_ : Nat} {l : List UInt8}
theorem IsRd.lt (h : IsRd w F p l at_) : ∀ k ∈ F, k < w.heap.size := by
  obtain ⟨v, h, rfl⟩ := h
  intro k hk
  simp only [foot, List.mem_cons, Option.mem_toList] at hk
  rcases hk with rfl | hk
  · exact h.1.lt
  · exact own_lt h.2.1 hk
theorem IsRd.keep (h : IsRd w F p l at_) (hk : Keep F w w') : IsRd w' F p l at_ := by
  obtain ⟨v, h, rfl⟩ := h
  exact ⟨v, ⟨h.1.keep (hk p (by simp [foot])), own_keep h.2.1 (fun k hk' => hk k (by simp only [foot, List.mem_cons]; exact .inr hk')), h.2.2⟩, rfl⟩
theorem IsRd.ext (h : IsRd w F p l at_) (e : Ext w w') : IsRd w' F p l at_ := h.keep fun k hk => e.block k (h.lt k hk)
end

set_option maxRecDepth 100000 in
theorem reader_new (w : World) (B : Nat) (A : Option Addr) (n c : Nat) (l : List UInt8) (hr : Reads w B 1 A n (bys l)) (hB : B ≤ w.heap.size) (hn : n ≤ 10000000) (hA : A = none → n = 0 ∧ c = 0) :
    Calls Tryz.prog 49 #[.slice A n c] w fun e w' => ∃ p F, e = .returned (.pointer (some ⟨p, 0, none⟩)) ∧ IsRd w' F p l 0 ∧ Ext w w' ∧ ∀ k ∈ F, w.heap.size ≤ k := by
  have HL := Lib.hid hr.len
  go_enter Tryz.func49, Tryz.ntmps49
  go_wp2_with fail
  refine (clone_calls w B A n c l hr hB (by omega) hA).mono ?_
  rintro e w1 ⟨A2, c2, rfl, h1, h2⟩
  go_wp2_with fail
  go_ret
  obtain rfl := HL.out
  have hx : Ext w1 (w1.alloc (.cells #[.slice A2 l.length c2, .int .i64 0, .int .i64 0, .int .i64 0] 149)) := (Below.refl _ _).alloc (Nat.le_refl _) _
  refine ⟨_, _, rfl, ⟨_, ⟨Blk.new _ _ _, own_base (h1.alloc _), Nat.zero_le _, hn⟩, rfl⟩, Ext.trans h2 hx, fun k hk => ?_⟩
  simp only [foot, List.mem_cons, Option.mem_toList] at hk
  rcases hk with rfl | hk
  · exact h2.size
  · exact (h1.lt k hk).1

/-- 's[i : i + k]' of a row of bytes. -/
theorem slice_mid {A : Option Addr} {n c : Nat} {l : List UInt8} (hle : n ≤ c) {i k : Nat} (hk : i + k ≤ n) :
    ∃ A2, (∀ w, (Instr.slice 34 (.slice A n c) (some (.int .i64 (i : Int))) (some (.int .i64 ((i : Int) + (k : Int)))) none).run Tryz.prog w = .ok (.slice A2 k (c - i)) w) ∧
      (∀ w B, Reads w B 1 A n (bys l) → Reads w B 1 A2 k (bys ((l.drop i).take k))) ∧ (A2 = none → A = none) ∧ A2 = (if c = i then A else A.map (·.add i)) := by
  refine ⟨if c = i then A else A.map (·.add i), fun w => ?_, fun w B h => ?_, fun h => ?_, rfl⟩
  · obtain ⟨i0, hi0, hz0, hz1, hz2⟩ := info_parts byte_info
    have he : Tryz.prog.elem 34 = 5 := by kernel_rfl
    rw [run_slice_lh w 34 A n c (by rw [he]; exact Tryz.underlying34) .i64 .i64 (i : Int) ((i : Int) + (k : Int)) (by omega) (by omega) (by omega), he]
    have e1 : ((i : Int) + (k : Int)).toNat = i + k := by omega
    simp [sizeOf, typeInfo, hi0, hz1, sliced, e1]
  · have h1 := h.cut (k := i) (by omega) hle
    simp only [Nat.mul_one] at h1
    rw [bys_drop] at h1
    rw [← bys_take, ← bys_drop]
    refine ⟨?_, fun h0 => ?_⟩
    · have h3 := h1.1
      rw [← bys_drop] at h3
      rw [List.length_take]; omega
    · obtain ⟨ad, h3, h4, h5⟩ := h1.2 (by omega)
      refine ⟨ad, h3, h4, fun j u hj => h5 j u ?_⟩
      rw [List.getElem?_take] at hj
      split at hj
      · rw [← bys_drop]; exact hj
      · cases hj
  · split at h
    · exact h
    · simpa using h

set_option maxRecDepth 100000 in
theorem reader_take {w : World} {F : List Nat} {p at_ : Nat} {l : List UInt8} (h : IsRd w F p l at_) (n : Nat) (hn : at_ + n ≤ l.length) :
    Calls Tryz.prog 148 #[.pointer (some ⟨p, 0, none⟩), .int .i64 n] w fun e w' => ∃ A2 c2, e = .returned (.slice A2 n c2) ∧ IsRd w' F p l (at_ + n) ∧ Next F F w w' ∧ Reads w' w'.heap.size 1 A2 n (bys ((l.drop at_).take n)) := by
  obtain ⟨v, ⟨hb, ho, hat, hmax⟩, rfl⟩ := h
  have c0 := hb.cell 0
  have c1 := hb.cell 1
  have c2 := hb.cell 2
  simp at c0 c1 c2
  have f1 := hb.frozen 1
  obtain ⟨A', c', rfl, hc'⟩ := own_slice ho
  have hne := own_blk_ne ho hb (by decide)
  have hlc : l.length ≤ c' := hc'.1
  have k1 : ¬ (n : Int) > (l.length : Int) - (at_ : Int) := by omega
  have k2 : (0 : Int) ≤ (at_ : Int) := by omega
  have k3 : (at_ : Int) ≤ (at_ : Int) + (n : Int) := by omega
  have k4 : (at_ : Int) + (n : Int) ≤ (c' : Int) := by omega
  have k5 : (at_ : Int) + (n : Int) - (n : Int) = (at_ : Int) := by omega
  obtain ⟨A2, hsl, hrd, _, hA2⟩ := slice_mid (A := A') (l := l) hlc hn
  clear hc' hsl
  have hm : Mod [p] w (w.setCell ⟨p, 1, none⟩ (.int .i64 ((at_ : Int) + (n : Int)))) := (Mod.refl _ _).setCell (by simp) _
  have hin : p ∈ foot p (.slice A' l.length c') := by simp [foot]
  have ho1 : (w.setCell ⟨p, 1, none⟩ (.int .i64 ((at_ : Int) + (n : Int)))).ownsRow 0 5 1 (.slice A' l.length c') l.length (bys l) := own_mod ho hm (fun k hk e => hne (by simp at e; subst e; exact hk))
  have hrd1 : IsRd (w.setCell ⟨p, 1, none⟩ (.int .i64 ((at_ : Int) + (n : Int)))) (foot p (.slice A' l.length c')) p l (at_ + n) :=
    ⟨_, ⟨by simpa using hb.set_ 1 (.int .i64 ((at_ : Int) + (n : Int))), ho1, hn, hmax⟩, rfl⟩
  have hmf : Mod (foot p (.slice A' l.length c')) w (w.setCell ⟨p, 1, none⟩ (.int .i64 ((at_ : Int) + (n : Int)))) := hm.sub fun k hk _ => by simp at hk; subst hk; exact hin
  have hread : Reads (w.setCell ⟨p, 1, none⟩ (.int .i64 ((at_ : Int) + (n : Int)))) (w.setCell ⟨p, 1, none⟩ (.int .i64 ((at_ : Int) + (n : Int)))).heap.size 1 A2 n (bys ((l.drop at_).take n)) := hrd _ _ (reads_own ho1)
  have HR := Lib.hid hrd1
  have HM := Lib.hid hmf
  have HD := Lib.hid hread
  have HA := Lib.hid hA2
  clear hrd1 hmf hread hA2 ho1 hin hm hrd ho hb
  by_cases hca : c' = at_
  · go_enter Tryz.func148, Tryz.ntmps148
    go_wp2_with fail
    go_quiet (fail)
    go_wp2_with fail
    go_quiet (fail)
    go_wp2_with fail
    go_ret
    have e2 := HA.out
    rw [if_pos hca] at e2
    subst e2
    exact ⟨_, _, congrArg (fun z => Ending.returned (Value.slice _ z _)) (Nat.add_sub_cancel_left at_ n), HR.out, ⟨⟨HM.out.os, HM.out.tape, HM.out.output, HM.out.size, HM.out.block⟩, fun k hk => ⟨.inl hk, HR.out.lt k hk⟩⟩, HD.out⟩
  · go_enter Tryz.func148, Tryz.ntmps148
    go_wp2_with fail
    go_quiet (fail)
    go_wp2_with fail
    go_quiet (fail)
    go_wp2_with fail
    go_ret
    have e2 := HA.out
    rw [if_neg hca] at e2
    subst e2
    exact ⟨_, _, congrArg (fun z => Ending.returned (Value.slice _ z _)) (Nat.add_sub_cancel_left at_ n), HR.out, ⟨⟨HM.out.os, HM.out.tape, HM.out.output, HM.out.size, HM.out.block⟩, fun k hk => ⟨.inl hk, HR.out.lt k hk⟩⟩, HD.out⟩

/-- What holds at each jump back of Reader.get. -/
def GetAt (w : World) (F : List Nat) (p at_ n : Nat) (l xs : List UInt8) (a' : Act) (w' : World) : Prop :=
  ∃ (i : Nat) (A : Option Addr) (c : Nat) (u8 u9 u10 u11 u12 u13 u14 u15 u16 u17 u18 u19 u20 u21 u22 u23 u24 u25 : Value), a' = { tmps := #[.pointer (some ⟨p, 0, none⟩), .int .i64 n, undef, undef, .int .u64 0, .int .u64 (leNum (xs.drop i) : Int), .slice A n c, .int .i64 i, u8, u9, u10, u11, u12, u13, u14, u15, u16, u17, u18, u19, u20, u21, u22, u23, u24, u25], defers := [] } ∧
    i ≤ n ∧ Reads w' w'.heap.size 1 A n (bys xs) ∧ IsRd w' F p l (at_ + n) ∧ Next F F w w'

theorem leNum_drop (xs : List UInt8) (i : Nat) (b : UInt8) (h : xs[i]? = some b) : leNum (xs.drop i) = b.toNat + 256 * leNum (xs.drop (i + 1)) := by
  have hl := (List.getElem?_eq_some_iff.1 h).1
  rw [List.drop_eq_getElem_cons hl, leNum]
  have : xs[i] = b := by rw [List.getElem?_eq_getElem hl] at h; exact Option.some.inj h
  rw [this]

set_option maxRecDepth 100000 in
theorem or_byte (v z : Nat) (hv : v < 72057594037927936) (hz : z < 256) : bits BinOp.or IntKind.u64 ((v : Int) * 256) (z : Int) = ((z + 256 * v : Nat) : Int) := by
  have h1 := u64_or_nat (v * 256) z (by omega) (by omega)
  have h2 : v <<< 8 + z = v <<< 8 ||| z := Nat.shiftLeft_add_eq_or_of_lt (by omega) v
  rw [Nat.shiftLeft_eq] at h2
  have h3 : ((v * 256 : Nat) : Int) = (v : Int) * 256 := by omega
  rw [h3] at h1
  rw [h1, show v * 256 = v * 2 ^ 8 by omega, ← h2]
  omega

set_option maxRecDepth 100000 in
theorem reader_get {w : World} {F : List Nat} {p at_ : Nat} {l : List UInt8} (h : IsRd w F p l at_) (n : Nat) (hn : at_ + n ≤ l.length) (hn8 : n ≤ 8) :
    Calls Tryz.prog 105 #[.pointer (some ⟨p, 0, none⟩), .int .i64 n] w fun e w' => e = .returned (.int .u64 (leNum ((l.drop at_).take n) : Int)) ∧ IsRd w' F p l (at_ + n) ∧ Next F F w w' := by
  obtain ⟨xs, hxs⟩ : ∃ xs, (l.drop at_).take n = xs := ⟨_, rfl⟩
  have hxl : xs.length = n := by rw [← hxs, List.length_take, List.length_drop]; omega
  rw [hxs]
  go_enter Tryz.func105, Tryz.ntmps105
  go_wp2_with fail
  refine wp_scope_jumps 0 (GetAt w F p at_ n l xs) (fun a' _ => (intOf (a'.tmps.getD 7 undef)).toNat) rfl ?_ ?_
  · go_wp2_with fail
    refine (reader_take h n hn).mono ?_
    rintro e w1 ⟨A, c, rfl, hrd, hnx, hR⟩
    rw [hxs] at hR
    go_wp2_with fail
    go_step3
    obtain rfl | ⟨i', rfl⟩ : n = 0 ∨ ∃ i', n = i' + 1 := by
      rcases n with _ | i
      · exact .inl rfl
      · exact .inr ⟨i, rfl⟩
    · have h0 : ¬ (((0 : Nat) : Int) > 0) := by omega
      have hz : leNum xs = 0 := by rw [List.eq_nil_of_length_eq_zero hxl]; rfl
      have HZ := Lib.hid hz
      clear hz
      go_wp2_with fail
      simp only [Exit.jump]
      go_ret
      exact ⟨by rw [HZ.out]; rfl, hrd, hnx⟩
    · have h0 : ((i' + 1 : Nat) : Int) > 0 := by omega
      obtain ⟨ad, u, rfl, _, hx, hcl⟩ := hR.at_ (k := i') (by omega)
      obtain ⟨b, rfl, hlk⟩ : ∃ b : UInt8, u = .int .u8 (b.toNat : Int) ∧ xs[i']? = some b := by
        rw [bys_get] at hx
        cases hlk : xs[i']? with
        | none => rw [hlk] at hx; cases hx
        | some c => rw [hlk] at hx; exact ⟨c, (Option.some.inj hx).symm, rfl⟩
      have hstep := leNum_drop xs i' b hlk
      have hv : leNum (xs.drop (i' + 1)) = 0 := by rw [List.drop_eq_nil_of_le (by omega)]; rfl
      rw [hv] at hstep
      obtain ⟨z, hz⟩ : ∃ z, b.toNat = z := ⟨_, rfl⟩
      have hzl : z < 256 := hz ▸ b.toNat_lt
      rw [hz] at hstep hcl
      have e1 : bits BinOp.or IntKind.u64 0 (z : Int) = (z : Int) := by simpa using or_byte 0 z (by omega) hzl
      have h2 : (0 : Int) ≤ (i' : Int) := by omega
      have h3 : (i' : Int) < ((i' + 1 : Nat) : Int) := by omega
      have HS := Lib.hid hstep
      clear hstep hx hlk hz hv
      go_wp2_with fail
      go_step3
      refine ⟨rfl, i', some ad, c, _, _, _, _, _, _, _, _, _, _, _, _, _, _, _, _, _, _, by rw [HS.out]; rfl, by omega, hR, hrd, hnx⟩
  · rintro a' wj ⟨i, A, c, u8, u9, u10, u11, u12, u13, u14, u15, u16, u17, u18, u19, u20, u21, u22, u23, u24, u25, rfl, hi, hR, hrd, hnx⟩
    obtain rfl | ⟨i', rfl⟩ : i = 0 ∨ ∃ i', i = i' + 1 := by
      rcases i with _ | i
      · exact .inl rfl
      · exact .inr ⟨i, rfl⟩
    · have h0 : ¬ (((0 : Nat) : Int) > 0) := by omega
      go_wp2_with fail
      simp only [Exit.jump]
      go_ret
      exact ⟨rfl, hrd, hnx⟩
    · have h0 : ((i' + 1 : Nat) : Int) > 0 := by omega
      obtain ⟨ad, u, rfl, _, hx, hcl⟩ := hR.at_ (k := i') (by omega)
      obtain ⟨b, rfl, hlk⟩ : ∃ b : UInt8, u = .int .u8 (b.toNat : Int) ∧ xs[i']? = some b := by
        rw [bys_get] at hx
        cases hlk : xs[i']? with
        | none => rw [hlk] at hx; cases hx
        | some c => rw [hlk] at hx; exact ⟨c, (Option.some.inj hx).symm, rfl⟩
      have hstep := leNum_drop xs i' b hlk
      obtain ⟨v, hv⟩ : ∃ v, leNum (xs.drop (i' + 1)) = v := ⟨_, rfl⟩
      have hvl : v < 72057594037927936 := by
        have h1 := leNum_lt (xs.drop (i' + 1))
        rw [hv] at h1
        have h2 : (xs.drop (i' + 1)).length ≤ 7 := by rw [List.length_drop]; omega
        exact Nat.lt_of_lt_of_le h1 (Nat.le_trans (Nat.pow_le_pow_right (by omega) h2) (by decide))
      rw [hv] at hstep ⊢
      obtain ⟨z, hz⟩ : ∃ z, b.toNat = z := ⟨_, rfl⟩
      have hzl : z < 256 := hz ▸ b.toNat_lt
      rw [hz] at hstep hcl
      have e1 : bits BinOp.or IntKind.u64 ((v : Int) * 256) (z : Int) = ((z + 256 * v : Nat) : Int) := or_byte v z hvl hzl
      have h2 : (0 : Int) ≤ (i' : Int) := by omega
      have h3 : (i' : Int) < (n : Int) := by omega
      have HS := Lib.hid hstep
      clear hstep hx hlk hz hv
      go_wp2_with fail
      go_step3
      refine ⟨rfl, ⟨i', some ad, c, _, _, _, _, _, _, _, _, _, _, _, _, _, _, _, _, _, _, by rw [HS.out]; rfl, by omega, hR, hrd, hnx⟩, by simp [intOf]⟩

set_option maxRecDepth 100000 in
theorem reader_byte {w : World} {F : List Nat} {p at_ : Nat} {l : List UInt8} (h : IsRd w F p l at_) {b : UInt8} (hb : l[at_]? = some b) :
    Calls Tryz.prog 54 #[.pointer (some ⟨p, 0, none⟩)] w fun e w' => e = .returned (.int .i64 (b.toNat : Int)) ∧ IsRd w' F p l (at_ + 1) ∧ Next F F w w' := by
  have hl := (List.getElem?_eq_some_iff.1 hb).1
  have e1 : leNum ((l.drop at_).take 1) = b.toNat := by
    rw [List.drop_eq_getElem_cons hl, List.take_succ_cons, List.take_zero]
    have : l[at_] = b := by rw [List.getElem?_eq_getElem hl] at hb; exact Option.some.inj hb
    rw [this]
    simp [leNum]
  have h1 := b.toNat_lt
  generalize b.toNat = z at *
  go_enter Tryz.func54, Tryz.ntmps54
  go_wp2_with fail
  refine (reader_get h 1 (by omega) (by omega)).mono ?_
  rintro e w1 ⟨rfl, h2, h3⟩
  rw [e1]
  go_wp2_with fail
  go_ret
  exact ⟨rfl, h2, h3⟩

set_option maxRecDepth 100000 in
theorem reader_long {w : World} {F : List Nat} {p at_ : Nat} {l : List UInt8} (h : IsRd w F p l at_) (n : Nat) (hn : at_ + 8 ≤ l.length) (he : leNum ((l.drop at_).take 8) = n) (hlt : n < 9223372036854775808) :
    Calls Tryz.prog 61 #[.pointer (some ⟨p, 0, none⟩)] w fun e w' => e = .returned (.int .i64 (n : Int)) ∧ IsRd w' F p l (at_ + 8) ∧ Next F F w w' := by
  go_enter Tryz.func61, Tryz.ntmps61
  go_wp2_with fail
  refine (reader_get h 8 hn (by omega)).mono ?_
  rintro e w1 ⟨rfl, h2, h3⟩
  rw [he]
  go_wp2_with fail
  go_ret
  exact ⟨rfl, h2, h3⟩

set_option maxRecDepth 100000 in
theorem reader_refused {w : World} {F : List Nat} {p at_ : Nat} {l : List UInt8} (h : IsRd w F p l at_) :
    Calls Tryz.prog 111 #[.pointer (some ⟨p, 0, none⟩)] w fun e w' => e = .returned (.bool false) ∧ w = w' := by
  obtain ⟨v, ⟨hb, ho, hat, hmax⟩, rfl⟩ := h
  have c2 := hb.cell 2
  simp at c2
  go_enter Tryz.func111, Tryz.ntmps111
  go_wp2_with fail
  go_ret
  exact ⟨rfl, rfl⟩

set_option maxRecDepth 100000 in
theorem reader_left {w : World} {F : List Nat} {p at_ : Nat} {l : List UInt8} (h : IsRd w F p l at_) :
    Calls Tryz.prog 180 #[.pointer (some ⟨p, 0, none⟩)] w fun e w' => e = .returned (.int .i64 ((l.length : Int) - (at_ : Int))) ∧ Ext w w' := by
  obtain ⟨v, ⟨hb, ho, hat, hmax⟩, rfl⟩ := h
  have c0 := hb.cell 0
  have c1 := hb.cell 1
  have c2 := hb.cell 2
  simp at c0 c1 c2
  obtain ⟨A', c', rfl, _⟩ := own_slice ho
  clear hb ho
  go_enter Tryz.func180, Tryz.ntmps180
  go_wp2_with fail
  go_quiet (fail)
  go_wp2_with fail
  go_ret
  exact ⟨rfl, below_drewN (Below.refl _ _) _⟩

end Go.Proofs.YtiglblfjmmdeeaaGreat
