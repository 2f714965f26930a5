/- wal.Log.Put. -/
import Derived.Test.YtfclighheoobaaaImage
import Derived.Deep.DeepCutAuto
import Derived.IntWalk
namespace Go.Proofs.Ytfclighheoobaaa
open Go.RowKit

attribute [local go_sem] Oper.pureUpon Oper.relUpon
attribute [local go_sem high] run_takeT'

/-- A slice of texts that owns its row from block b on. -/
def OwnT (b n : Nat) (xs : List Value) (v : Value) (w : World) : Prop := ∃ A c, v = .slice A n c ∧ w.ownsRow b 9 1 (.slice A n c) n xs
theorem OwnT.stays (b n : Nat) (xs : List Value) : Stays (OwnT b n xs) := by
  rintro v w w' ⟨A, c, rfl, ho⟩ he
  exact ⟨A, c, rfl, own_mod ho (Mod.of_below he []) (by simp)⟩
/-- A slice of one text. -/
def One (u : Value) (v : Value) (w : World) : Prop := ∃ ad c, v = .slice (some ad) 1 c ∧ Reads w w.heap.size 1 (some ad) 1 [u]
theorem One.stays (u : Value) : Stays (One u) := by rintro v w w' ⟨A, c, rfl, hr⟩ he; exact ⟨A, c, rfl, (hr.below he).more he.size⟩
theorem one_new (w : World) (u : Value) (t : TypeId) : One u (.slice (some ⟨w.heap.size, 0, none⟩) 1 1) (w.alloc (.cells #[u] t)) := by
  have h := lit_reads w u t
  exact ⟨_, _, rfl, by simpa using h⟩

set_option maxRecDepth 100000 in
/-- append onto a slice of texts without room behind it: a new row. -/
theorem append_tight {w : World} {b : Nat} (hb : b ≤ w.heap.size) {B : Nat} {A : Option Addr} {k : Nat} {xs : List Value} (hr : Reads w B 1 A k xs) {u v : Value} (hu : One u v w) (hk : k ≤ 1000000) (ty : TypeId) :
    ∃ v' w', (Builtin.append_ #[49, 49] ty #[.slice A k k, v]).run Try.prog w = .ok v' w' ∧ OwnT b (k + 1) (xs ++ [u]) v' w' ∧ Ext w w' := by
  obtain ⟨i0, hi0, hz0, hz1, hz2⟩ := info_parts text_info
  obtain ⟨ad, c, rfl, hr2⟩ := hu
  have hl : xs.length = k * i0.size := by rw [hz1]; exact hr.1
  have hnews : ∀ j y, ([u] : List Value)[j]? = some y → w.cell? (ad.add j) = some y := by
    obtain ⟨ad', h1, _, h3⟩ := hr2.2 (by omega)
    injection h1 with h1
    subst h1
    exact h3
  have hzs : (Value.string ByteArray.empty).cells.size = 1 := rfl
  have grown : ∀ cap0, cap0 < k + 1 → OwnT b (k + 1) (xs ++ [u]) (.slice (some ⟨w.heap.size, 0, none⟩) (k + 1) (grownCap w (k + 1) cap0 9))
      (w.drew.alloc (.cells (xs.toArray ++ [u].toArray ++ Builtin.zeroCells (Value.string ByteArray.empty).cells (grownCap w (k + 1) cap0 9 - (k + 1))) 9)) := by
    intro cap0 _
    have hge := grownCap_ge w (k + 1) cap0 9
    have hcm : grownCap w (k + 1) cap0 9 ≤ maxLen := grownCap_le_maxLen w (k + 1) cap0 9 (by simp only [maxLen]; omega)
    have hxl : xs.length = k := by rw [hl, hz1]; omega
    refine ⟨_, _, rfl, ⟨by simp [hxl], .inr ⟨w.heap.size, _, _, rfl, hb, heap_alloc_new w.drew _, hge, hcm, ?_, ?_⟩⟩⟩
    · simp only [Array.size_append, List.size_toArray, size_zeroCells, hzs, hxl, List.length_singleton]
      omega
    · simp only [Array.toList_append, List.append_assoc]
      rw [← List.append_assoc]
      exact List.take_left' (by simp [hxl])
  have hext : ∀ cs, Ext w (w.drew.alloc (.cells cs 9)) := fun cs => ⟨rfl, rfl, rfl, by simp, fun j hj => Below.heap_alloc w.drew _ j hj⟩
  rcases A with _ | a
  · have hk0 := hr.none_len rfl
    subst hk0
    have hx : xs = [] := List.eq_nil_of_length_eq_zero (by simpa using hr.1)
    subst hx
    have h1 := run_append_nil (P := Try.prog) w 49 ty 9 i0 _ Try.underlying49 hi0 hz0 ad 1 c [u] (by rw [hz1]; rfl) hnews (by omega) (by omega) (by rw [hz2]; omega)
    exact ⟨_, _, h1, by simpa using grown 0 (by omega), hext _⟩
  · have holds : ∀ j y, xs[j]? = some y → w.cell? (a.add j) = some y := by
      intro j y hy
      rcases Nat.eq_zero_or_pos k with h0 | h0
      · subst h0
        have hx : xs = [] := List.eq_nil_of_length_eq_zero (by simpa using hr.1)
        subst hx
        simp at hy
      · obtain ⟨a', h1, _, h3⟩ := hr.2 h0
        injection h1 with h1
        subst h1
        exact h3 j y hy
    have h1 := run_append_grow (P := Try.prog) w 49 ty 9 i0 _ Try.underlying49 hi0 hz0 a k k xs hl holds ad 1 c [u] (by rw [hz1]; rfl) hnews (by omega) (by omega) (growslice_fits (by omega) (by rw [hz2]; omega))
    exact ⟨_, _, h1, grown k (by omega), hext _⟩

theorem run_take3 (w : World) (A : Option Addr) (n c : Nat) (kh km : IntKind) (h : Int) (h0 : 0 ≤ h) (h2 : h ≤ (c : Int)) : (Instr.slice 49 (.slice A n c) none (some (.int kh h)) (some (.int km h))).run Try.prog w = .ok (.slice A h.toNat h.toNat) w := by
  obtain ⟨i0, hi0, hz0, hz1, hz2⟩ := info_parts text_info
  have he : Try.prog.elem 49 = 9 := by kernel_rfl
  rw [run_slice_any w 49 A n c (by rw [he]; exact Try.underlying49), he]
  have e1 : Option.map (fun x : Addr => x.add 0) A = A := by cases A <;> simp [Addr.add]
  have h3 : ((h.toNat : Nat) : Int) = h := Int.toNat_of_nonneg h0
  simp [Instr.sliceBounds, run_sliceBound, h0, h2, h3, sizeOf, typeInfo, hi0, hz1, sliced, e1]
attribute [local go_sem high] run_take3

/-- A log, with its disk; other objects beside them. -/
def LogOn (W w : World) (Fs : List (List Nat)) (p dp : Nat) (l : List UInt8) (sf : Nat) (s : St) : Prop := ∃ Fd Fl, IsD w Fd dp l sf ∧ IsLog w Fl p dp s ∧ Sep W w (Fd :: Fl :: Fs)

section
variable {W w : World} {Fs : List (List Nat)} {p dp : Nat} {l : List UInt8} {sf : Nat} {s : St}
set_option maxRecDepth 100000 in
set_option maxHeartbeats 2000000 in
theorem log_put (h : LogOn W w Fs p dp l sf s) (n : Nat) (x : List UInt8) (hn1 : s.first ≤ n) (hn2 : n ≤ s.next) (hn3 : n < 1073741824) (hx : x.length ≤ 65536) (hd : x.length + 21 + l.length ≤ 4194304) (hl : s.recs.length ≤ 900000) :
    Calls Try.prog 33 #[.pointer (some ⟨p, 0, none⟩), .int .i64 n, .string ⟨x.toArray⟩] w fun e w' => e = .returned (.int .i64 0) ∧ LogOn W w' Fs p dp (l ++ enc 1 n x) sf (s.putAt n x) ∧ ∀ G ∈ Fs, Keep G w w' := by
  obtain ⟨Fd, Fl, hd0, hl0, s0⟩ := h
  have hok := hl0.ok
  have hk1 := hok.1
  have hnx := log_next hl0
  have hsz : (⟨x.toArray⟩ : ByteArray).size = x.length := ba_size x
  have i1 : ¬ ((n : Int) < (s.first : Int)) := by omega
  have i2 : ¬ ((n : Int) > (s.next : Int)) := by omega
  have i3 : decide ((1073741824 : Int) ≤ (n : Int)) = false := decide_eq_false (by omega)
  have i4 : ¬ ((x.length : Int) > 65536) := by omega
  obtain ⟨k, hk⟩ : ∃ k, n - s.first = k := ⟨_, rfl⟩
  have hkl : k ≤ s.recs.length := by unfold St.next at hn2; omega
  have hk0 : (0 : Int) ≤ (k : Int) := by omega
  have hki : (n : Int) - (s.first : Int) = (k : Int) := by omega
  have hwk : IntKind.i64.wrap (k : Int) = (k : Int) := IntWalk.i64_in _ (by omega)
  have hwn : IntKind.i64.wrap ((n : Int) - (s.first : Int)) = (k : Int) := by rw [hki]; exact hwk
  have c10 : w.cell? ⟨p, 1, none⟩ = some (.int .i64 (s.first : Int)) := by obtain ⟨v, hh, _⟩ := hl0; have := hh.1.cell 1; simpa using this
  generalize s.next = snx at *
  have HK := Lib.hid hk
  clear hk hok
  go_enter Try.func33, Try.ntmps33
  go_wp2_with fail
  refine hnx.mono ?_
  rintro e w1 ⟨rfl, he1⟩
  have hd1 := hd0.ext he1
  have hl1 := hl0.ext he1
  have s1 := s0.ext he1
  have C0 : ∀ w', Ext w1 w' → w'.cell? ⟨p, 0, none⟩ = some (.pointer (some ⟨dp, 0, none⟩)) := fun w' he => by obtain ⟨v, hh, _⟩ := hl1.ext he; have := hh.1.cell 0; simpa using this
  have W1 : ∀ w', Ext w1 w' → Calls Try.prog 53 #[.int .i64 1, .int .i64 n, .string ⟨x.toArray⟩] w' fun e w'' => ∃ v, e = .returned v ∧ OwnB w1.heap.size (enc 1 n x).length (enc 1 n x) v w'' ∧ Ext w' w'' :=
    fun w' hw => written_rel w1.heap.size w' hw.size 1 n x (by omega) (by omega) (by omega)
  have K1 : ∀ G ∈ Fs, Keep G w w1 := fun G hG => s0.keep he1 G (by simp [hG])
  have hel := enc_len 1 n x
  obtain ⟨b1, hb1⟩ : ∃ b1, enc 1 n x = b1 := ⟨_, rfl⟩
  rw [hb1] at W1 hel
  have HB1 := Lib.hid hb1
  clear hb1
  have HEL := Lib.hid hel
  have HW1 := Lib.hid W1
  have HK1 := Lib.hid K1
  have HC0 := Lib.hid C0
  clear hnx hd0 hl0 s0 he1 c10 hel W1 K1 C0
  have HD := Lib.hid hd
  have HN := Lib.hid hn3
  clear hd hn3 hn1
  go_wp2_with fail
  have C0 := HC0.out
  refine wp_region_rely_tail 7 [none, none, none, none, none, none, some (OwnB w1.heap.size b1.length b1)] (by kernel_rfl) (by kernel_rfl) ?_
  simp only [Wit, List.take_succ_cons, List.take_zero, List.drop_succ_cons, List.drop_zero]
  iterate 6 apply Exists.intro
  repeat (first | (refine rely_skip rfl ?_; simp only [Act.put, List.setIfInBounds_toArray, List.set_cons_zero, List.set_cons_succ]) | (apply rely_pure; (· rfl); (· intro w hw hd; go_simp; done); simp only [Act.put, List.setIfInBounds_toArray, List.set_cons_zero, List.set_cons_succ]) | (apply rely_pure; (· rfl); (· intro w hw hd; go_simp; exact rfl); simp only [Act.put, List.setIfInBounds_toArray, List.set_cons_zero, List.set_cons_succ]))
  refine rely_rel rfl (OwnB.stays _ _ _) (fun w hw hd => ?_) ?_
  · go_simp
    exact HW1.out w hw
  intro v1
  simp only [Act.put, List.setIfInBounds_toArray, List.set_cons_zero, List.set_cons_succ]
  refine rely_nil ?_
  intro w2 hw2
  obtain ⟨A2, c2, rfl, ho2⟩ : OwnB w1.heap.size b1.length b1 v1 w2 := (hw2.2 6).1
  have he2 := hw2.1
  have hd2 := hd1.ext he2
  have hl2 := hl1.ext he2
  have s2 := s1.ext he2
  have K2 : ∀ G ∈ Fs, Keep G w w2 := fun G hG => (HK1.out G hG).trans (s1.keep he2 G (by simp [hG]))
  clear hw2 C0 HW1 hd1 hl1 s1 he2 HK1 HC0
  go_wp2_with fail
  refine (sd_append hd2 (Reads.of_own ho2) (by have := HEL.out; have := HD.out; omega)).mono ?_
  rintro e w3 ⟨rfl, F3, hd3, nx⟩
  obtain ⟨s3, ks⟩ := s2.next nx
  have hl3 := hl2.keep (ks Fl (by simp))
  have K3 : ∀ G ∈ Fs, Keep G w w3 := fun G hG => (K2 G hG).trans (ks G (by simp [hG]))
  clear nx ks hd2 hl2 s2 K2 ho2
  obtain ⟨vv, ⟨hb3, ho3, hok3⟩, hF⟩ := id hl3
  obtain ⟨A3, c3, rfl, hc3⟩ := own_slice ho3
  have hkc : (k : Int) ≤ (c3 : Int) := by omega
  have C1 : ∀ w', Ext w3 w' → w'.cell? ⟨p, 1, none⟩ = some (.int .i64 (s.first : Int)) := fun w' he => by have := (hb3.below he hb3.lt).cell 1; simpa using this
  have C2 : ∀ w', Ext w3 w' → w'.cell? ⟨p, 2, none⟩ = some (.slice A3 s.recs.length c3) := fun w' he => by have := (hb3.below he hb3.lt).cell 2; simpa using this
  have R3 : ∀ w', Ext w3 w' → Reads w' w3.heap.size 1 A3 k ((txs s.recs).take k) := fun w' he => (Reads.of_own (own_takeV ho3 k hkl)).below he
  have HH := Lib.hid (And.intro hb3 (And.intro ho3 hok3))
  have HFF := Lib.hid hF
  clear hb3 ho3 hok3 hF hc3 hl3
  go_wp2_with fail
  refine wp_region_rely_tail 21 [none, none, none, none, none, none, none, none, none, none, none, none, none, none, none, none, none, none, none, some (One (.string ⟨x.toArray⟩)), some (OwnT w3.heap.size (k + 1) ((txs s.recs).take k ++ [.string ⟨x.toArray⟩]))] (by kernel_rfl) (by kernel_rfl) ?_
  simp only [Wit, List.take_succ_cons, List.take_zero, List.drop_succ_cons, List.drop_zero]
  iterate 19 apply Exists.intro
  repeat (first | (refine rely_skip rfl ?_; simp only [Act.put, List.setIfInBounds_toArray, List.set_cons_zero, List.set_cons_succ]) | (apply rely_pure; (· rfl); (· intro w hw hd; go_simp; done); simp only [Act.put, List.setIfInBounds_toArray, List.set_cons_zero, List.set_cons_succ]) | (apply rely_pure; (· rfl); (· intro w hw hd; go_simp; exact rfl); simp only [Act.put, List.setIfInBounds_toArray, List.set_cons_zero, List.set_cons_succ]))
  refine rely_rel rfl (One.stays _) (fun w hw hd => ?_) ?_
  · go_simp
    exact ⟨one_new w _ _, (Below.refl _ _).alloc (Nat.le_refl _) _⟩
  intro v2
  simp only [Act.put, List.setIfInBounds_toArray, List.set_cons_zero, List.set_cons_succ]
  refine rely_rel rfl (OwnT.stays _ _ _) (fun w hw hd => ?_) ?_
  · have g1 : One (.string ⟨x.toArray⟩) v2 w := hd ⟨19, .data⟩ (by simp) rfl
    obtain ⟨v', w', e1, e2, e3⟩ := append_tight (ty := 49) hw.size (R3 w hw) g1 (by omega)
    rw [run_exec_append rfl rfl rfl e1]
    exact ⟨e2, e3⟩
  intro v3
  simp only [Act.put, List.setIfInBounds_toArray, List.set_cons_zero, List.set_cons_succ]
  refine rely_nil ?_
  intro w4 hw4
  have q4 : OwnT w3.heap.size (k + 1) ((txs s.recs).take k ++ [Value.string (⟨x.toArray⟩ : ByteArray)]) v3 w4 := (hw4.2 20).1
  obtain ⟨A4, c4, rfl, ho4⟩ := q4
  have he4 := hw4.1
  obtain ⟨hb3, ho3, hok3⟩ := HH.out
  have hb4 := hb3.below he4 hb3.lt
  have C2' := C2 w4 he4
  have f2' := hb4.frozen 2
  have HK3 := Lib.hid K3
  have HB4 := Lib.hid hb4
  have HB3 := Lib.hid (And.intro hb3 (And.intro ho3 hok3))
  clear hw4 C1 C2 R3 K3 hb3 ho3 hok3 hb4
  go_wp2_with fail
  go_ret
  obtain ⟨hb3, ho3, hok3⟩ := HB3.out
  have hm2 : Mod [p] w4 (w4.setCell ⟨p, 2, none⟩ (.slice A4 (k + 1) c4)) := (Mod.refl _ _).setCell (by simp) _
  have hne4 := own_blk_ne ho4 HB4.out (by decide)
  have hrl : (s.putAt n x).recs.length = k + 1 := by simp only [St.putAt, List.length_append, List.length_take, List.length_cons, List.length_nil]; have := HK.out; omega
  have hrx : txs (s.putAt n x).recs = (txs s.recs).take k ++ [.string ⟨x.toArray⟩] := by
    show txs (s.recs.take (n - s.first) ++ [x]) = _
    rw [HK.out, ← txs_snoc, txs_take]
    rfl
  have hmod : Mod (foot p (.slice A3 s.recs.length c3)) w3 (w4.setCell ⟨p, 2, none⟩ (.slice A4 (k + 1) c4)) := (Mod.of_below he4 _).trans' (hm2.sub fun j hj _ => by simp at hj; subst hj; simp [foot])
  obtain ⟨r1, r2⟩ := IsLog.put (s' := s.putAt n x) ⟨hb3, ho3, hok3⟩ hmod (v' := .slice A4 (k + 1) c4) (by have := HB4.out.set_ 2 (.slice A4 (k + 1) c4); simpa [St.putAt] using this)
    (by rw [hrl, hrx]; exact own_base (own_mod ho4 hm2 (fun j hj e => hne4 (by simp at e; subst e; exact hj)))) (St.putAt_ok hok3 n x hx hl) (fun j hj => .inr (ho4.lt j hj).1)
  rw [← HFF.out] at r2
  obtain ⟨s5, ks⟩ := s3.swap.next r2
  rw [HB1.out]
  exact ⟨rfl, ⟨F3, _, hd3.keep (ks F3 (by simp)), r1, s5.swap⟩, fun G hG => (HK3.out G hG).trans (ks G (by simp [hG]))⟩
end

end Go.Proofs.Ytfclighheoobaaa
