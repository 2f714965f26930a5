/- The document's log: Base, and calls with any number. -/
import Derived.Test.YtfclighheoobaaaRef23c
namespace Go.Proofs.Ytfclighheoobaaa
open Go.RowKit

attribute [local go_sem] ba_append ba_extract ba_size Oper.pureUpon Oper.relUpon

section
variable {w : World} {R : List Nat} {q : Nat} {s : St}
set_option maxRecDepth 100000 in
set_option maxHeartbeats 2000000 in
theorem rf_base (h : IsRf w R q s) (hR : ∀ k ∈ R, k < w.heap.size) (n : Nat) (x : List UInt8) (hn1 : s.first ≤ n) (hn2 : n ≤ 1073741824) (hx : x.length ≤ 65536) :
    Calls Try.prog 49 #[.pointer (some ⟨q, 0, none⟩), .int .i64 n, .string ⟨x.toArray⟩] w fun e w' => e = .returned (.int .i64 0) ∧
      ∃ R', IsRf w' R' q (s.baseAt n x) ∧ (∀ k ∈ R, k ∈ R') ∧ Mod [q] w w' ∧ ∀ k ∈ R', (k ∈ R ∨ w.heap.size ≤ k) ∧ k < w'.heap.size := by
  have hok := h.ok
  have hk1 := hok.1
  have hk2 := hok.2.1
  have hnx := rf_next h
  have i1 : ¬ ((n : Int) < (s.first : Int)) := by omega
  have i3 : decide ((1073741824 : Int) < (n : Int)) = false := decide_eq_false (by omega)
  have i4 : ¬ ((x.length : Int) > 65536) := by omega
  have hok2 := St.baseAt_ok hok n x hn2 hx
  have h0 := h
  obtain ⟨A, c, _, hb, hrd, _, hlc, hc9, _⟩ := h
  have c0 := hb.cell 0
  simp at c0
  obtain ⟨rs, hrs⟩ : ∃ rs, s.recs.drop (n - s.first) = rs := ⟨_, rfl⟩
  have hrl : rs.length ≤ 1000000 := by rw [← hrs, List.length_drop]; omega
  have HRS := Lib.hid hrs
  have H0 := Lib.hid h0
  have HR := Lib.hid hR
  have HOK := Lib.hid hok2
  have HB := Lib.hid hb
  have HRD := Lib.hid hrd
  have HNX : Hid (s.next = s.first + s.recs.length) := Lib.hid rfl
  clear hrs hok hok2 h0 hR hb hrd hn2
  generalize s.next = snx at *
  go_enter Try.func49, Try.ntmps49
  go_upto_if 23 with (refine hnx.mono ?_; rintro e w1 ⟨rfl, he1⟩)
  have hb1 := HB.out.below he1 HB.out.lt
  have hlt1 := hb1.lt
  have HB1 := Lib.hid hb1
  have HE1 := Lib.hid he1
  go_cut [] (fun wx => ∃ A7 c7 w5, Hid (Ext w w5) ∧ Hid (w5.ownsRow w.heap.size 9 1 (.slice A7 rs.length c7) rs.length (txs rs)) ∧ wx = w5.setCell ⟨q, 1, none⟩ (.slice A7 rs.length c7))
  case first =>
    by_cases hle : n ≤ snx
    · have i5 : (n : Int) ≤ (snx : Int) := by omega
      obtain ⟨k, hk⟩ : ∃ k, n - s.first = k := ⟨_, rfl⟩
      have hkl : k ≤ s.recs.length := by have := HNX.out; omega
      have hk0 : (0 : Int) ≤ (k : Int) := by omega
      have hkn : (k : Int) ≤ (s.recs.length : Int) := by omega
      have hki : (n : Int) - (s.first : Int) = (k : Int) := by omega
      have hwk : IntKind.i64.wrap (k : Int) = (k : Int) := IntWalk.i64_in _ (by omega)
      have hwn : IntKind.i64.wrap ((n : Int) - (s.first : Int)) = (k : Int) := by rw [hki]; exact hwk
      obtain ⟨A2, hsl0, hrd⟩ := slice_fromT (A := A) (xs := txs s.recs) hlc hkl
      have hsl : ∀ w, (Instr.slice 49 (.slice A s.recs.length c) (some (.int .i64 (k : Int))) none none).run Try.prog w = .ok (.slice A2 rs.length (c - k)) w := by
        intro w
        rw [hsl0 w, ← HRS.out, List.length_drop, hk]
      clear hsl0
      have hrsl : s.recs.length - k = rs.length := by rw [← HRS.out, List.length_drop, hk]
      have hrr := hrd w1 w.heap.size (HRD.out.below he1)
      rw [txs_drop, show s.recs.drop k = rs by rw [← HRS.out, hk], hrsl] at hrr
      have hrr1 := hrr.more he1.size
      have C0 : ∀ w', Ext w1 w' → w'.cell? ⟨q, 0, none⟩ = some (.int .i64 (s.first : Int)) := fun w' he => by have := (hb1.below he hlt1).cell 0; simpa using this
      have C1 : ∀ w', Ext w1 w' → w'.cell? ⟨q, 1, none⟩ = some (.slice A s.recs.length c) := fun w' he => by have := (hb1.below he hlt1).cell 1; simpa using this
      have R1 : ∀ w', Ext w1 w' → Reads w' w1.heap.size 1 A2 rs.length (txs rs) := fun w' he => hrr1.below he
      clear hle hrd hrr hrr1 c0 hb1 he1 hnx
      go_wp2_with fail
      refine wp_region_rely_tail 14 [none, some (Own0T w1.heap.size), none, none, none, none, none, none, none, none, none, none, none, some (OwnT w1.heap.size rs.length (txs rs))] (by kernel_rfl) (by kernel_rfl) ?_
      simp only [Wit, List.take_succ_cons, List.take_zero, List.drop_succ_cons, List.drop_zero]
      iterate 12 apply Exists.intro
      (first | (refine rely_skip rfl ?_; simp only [Act.put, List.setIfInBounds_toArray, List.set_cons_zero, List.set_cons_succ]) | (apply rely_pure; (· rfl); (· intro w hw hd; go_simp; done); simp only [Act.put, List.setIfInBounds_toArray, List.set_cons_zero, List.set_cons_succ]) | (apply rely_pure; (· rfl); (· intro w hw hd; go_simp; exact rfl); simp only [Act.put, List.setIfInBounds_toArray, List.set_cons_zero, List.set_cons_succ]))
      refine rely_rel rfl (Own0T.stays _) (fun w hw hd => ?_) ?_
      · go_simp
        exact ⟨own0T_new w hw.size, (Below.refl _ _).alloc (Nat.le_refl _) _⟩
      intro v1
      simp only [Act.put, List.setIfInBounds_toArray, List.set_cons_zero, List.set_cons_succ]
      repeat (first | (refine rely_skip rfl ?_; simp only [Act.put, List.setIfInBounds_toArray, List.set_cons_zero, List.set_cons_succ]) | (apply rely_pure; (· rfl); (· intro w hw hd; go_simp; done); simp only [Act.put, List.setIfInBounds_toArray, List.set_cons_zero, List.set_cons_succ]) | (apply rely_pure; (· rfl); (· intro w hw hd; go_simp; exact rfl); simp only [Act.put, List.setIfInBounds_toArray, List.set_cons_zero, List.set_cons_succ]))
      refine rely_rel rfl (OwnT.stays _ _ _) (fun w hw hd => ?_) ?_
      · have g1 : Own0T w1.heap.size v1 w := hd ⟨1, .data⟩ (by simp) rfl
        obtain ⟨v', w', e1, e2, e3⟩ := appendT_new (c := c - k) g1 hw.size (R1 w hw) (txs_one _) (by omega) 49
        rw [run_exec_append rfl rfl rfl e1]
        exact ⟨e2, e3⟩
      intro v2
      simp only [Act.put, List.setIfInBounds_toArray, List.set_cons_zero, List.set_cons_succ]
      refine rely_nil ?_
      intro w4 hw4
      have q4 : OwnT w1.heap.size rs.length (txs rs) v2 w4 := (hw4.2 13).1
      obtain ⟨A4, c4, rfl, ho4⟩ := q4
      have he4 := hw4.1
      have hb4 := HB1.out.below he4 hlt1
      have f4 := hb4.frozen 1
      have C1' := C1 w4 he4
      have HE4 := Lib.hid he4
      have HO4 := Lib.hid ho4
      clear hw4 C0 C1 R1 he4 ho4 hb4
      go_wp2_with fail
      go_meet
      exact ⟨A4, c4, w4, Lib.hid (HE1.out.trans HE4.out), Lib.hid (own_more HO4.out HE1.out.size), rfl⟩
    · have i5 : ¬ (n : Int) ≤ (snx : Int) := by omega
      have hr0 : rs = [] := by rw [← HRS.out]; exact List.drop_eq_nil_of_le (by have := HNX.out; omega)
      have HE := Lib.hid hr0
      have d1 := hb1.cell 1
      simp at d1
      have f1 := hb1.frozen 1
      clear hr0 hle hb1 he1 hnx c0
      go_wp2_with fail
      go_meet
      have e1 := HE.out
      subst e1
      exact ⟨none, 0, w1, HE1, Lib.hid (World.ownsRow_nil _ _ _ _), rfl⟩
  case rest =>
  obtain ⟨A7, c7, w5, he5, ho5, hwc⟩ := hcut
  have hb5 := HB.out.below he5.out HB.out.lt
  have hb6 := hb5.set_ 1 (.slice A7 rs.length c7)
  rw [← hwc] at hb6
  simp at hb6
  have d0 := hb6.cell 0
  have f0 := hb6.frozen 0
  simp at d0
  have hb7 := hb6.set_ 0 (.int .i64 (n : Int))
  simp at hb7
  have d2 := hb7.cell 2
  have f2 := hb7.frozen 2
  simp at d2
  have hm6 : Mod [q] w5 wc := by rw [hwc]; exact (Mod.refl _ _).setCell (by simp) _
  have HM6 := Lib.hid hm6
  have HB7 := Lib.hid hb7
  clear hb5 hb6 hb7 hwc hm6 hnx he1 hb1
  go_wp2_with fail
  go_ret
  have hm : Mod [q] w5 ((wc.setCell ⟨q, 0, none⟩ (.int .i64 (n : Int))).setCell ⟨q, 2, none⟩ (.string ⟨x.toArray⟩)) := (HM6.out.setCell (by simp) _).setCell (by simp) _
  have hbs : s.baseAt n x = ⟨n, rs, x, s.note⟩ := by unfold St.baseAt; rw [HRS.out]
  have hok := HOK.out
  rw [hbs] at hok ⊢
  exact ⟨rfl, rf_end (s' := ⟨n, rs, x, s.note⟩) H0.out HR.out he5.out hm (by have := HB7.out.set_ 2 (.string ⟨x.toArray⟩); simpa [tx] using this) ho5.out hok⟩

set_option maxRecDepth 100000 in
theorem rf_put_arg (h : IsRf w R q s) (n : Int) (x : ByteArray) (hn : n < (s.first : Int) ∨ (s.next : Int) < n ∨ 1073741824 ≤ n) :
    Calls Try.prog 47 #[.pointer (some ⟨q, 0, none⟩), .int .i64 n, .string x] w fun e w' => e = .returned (.int .i64 1) ∧ Ext w w' := by
  have hnx := rf_next h
  have c10 : w.cell? ⟨q, 0, none⟩ = some (.int .i64 (s.first : Int)) := by obtain ⟨_, _, _, hh, _⟩ := h; have := hh.cell 0; simpa using this
  generalize s.next = nx at *
  generalize s.first = f at *
  clear h
  by_cases h1 : n < (f : Int)
  · clear hn
    go_enter Try.func47, Try.ntmps47
    go_wp2_with fail
    go_ret
    exact ⟨rfl, Ext.refl _⟩
  by_cases h2 : (nx : Int) < n
  · clear hn
    go_enter Try.func47, Try.ntmps47
    go_wp2_with fail
    refine hnx.mono ?_
    rintro e w1 ⟨rfl, he1⟩
    go_wp2_with fail
    go_ret
    exact ⟨rfl, he1⟩
  · have h3 : decide ((1073741824 : Int) ≤ n) = true := decide_eq_true (by omega)
    clear hn
    go_enter Try.func47, Try.ntmps47
    go_wp2_with fail
    refine hnx.mono ?_
    rintro e w1 ⟨rfl, he1⟩
    go_wp2_with fail
    go_ret
    exact ⟨rfl, he1⟩

set_option maxRecDepth 100000 in
theorem rf_base_arg (h : IsRf w R q s) (n : Int) (x : ByteArray) (hn : n < (s.first : Int) ∨ 1073741824 < n) :
    Calls Try.prog 49 #[.pointer (some ⟨q, 0, none⟩), .int .i64 n, .string x] w fun e w' => e = .returned (.int .i64 1) ∧ Ext w w' := by
  have c10 : w.cell? ⟨q, 0, none⟩ = some (.int .i64 (s.first : Int)) := by obtain ⟨_, _, _, hh, _⟩ := h; have := hh.cell 0; simpa using this
  generalize s.first = f at *
  clear h
  by_cases h1 : n < (f : Int)
  · clear hn
    go_enter Try.func49, Try.ntmps49
    go_wp2_with fail
    go_ret
    exact ⟨rfl, Ext.refl _⟩
  · have h3 : decide ((1073741824 : Int) < n) = true := decide_eq_true (by omega)
    clear hn
    go_enter Try.func49, Try.ntmps49
    go_wp2_with fail
    go_ret
    exact ⟨rfl, Ext.refl _⟩

theorem rf_putI (h : IsRf w R q s) (hR : ∀ k ∈ R, k < w.heap.size) (n : Int) (x : List UInt8) (hx : x.length ≤ 100) (hl : s.recs.length ≤ 900000) :
    Calls Try.prog 47 #[.pointer (some ⟨q, 0, none⟩), .int .i64 n, .string ⟨x.toArray⟩] w fun e w' => e = .returned (codeOf (s.putOk n)) ∧
      ∃ R', IsRf w' R' q (s.putI n x) ∧ (∀ k ∈ R, k ∈ R') ∧ Mod [q] w w' ∧ ∀ k ∈ R', (k ∈ R ∨ w.heap.size ≤ k) ∧ k < w'.heap.size := by
  by_cases hn : (s.first : Int) ≤ n ∧ n ≤ (s.next : Int) ∧ n < 1073741824
  · have e1 : s.putOk n = true := decide_eq_true hn
    have e2 : ((n.toNat : Nat) : Int) = n := Int.toNat_of_nonneg (by omega)
    have h1 := RX.rf_put h hR n.toNat x (by omega) (by omega) (by omega) (by omega) hl
    rw [e2] at h1
    unfold St.putI
    rw [e1, if_pos rfl]
    exact h1
  · have e1 : s.putOk n = false := decide_eq_false hn
    unfold St.putI
    rw [e1, if_neg (by decide)]
    refine (rf_put_arg h n _ (by omega)).mono ?_
    rintro e w' ⟨rfl, he⟩
    exact ⟨rfl, R, h.ext hR he, fun _ h => h, Mod.of_below he _, fun k hk => ⟨.inl hk, Nat.lt_of_lt_of_le (hR k hk) he.size⟩⟩
theorem rf_baseI (h : IsRf w R q s) (hR : ∀ k ∈ R, k < w.heap.size) (n : Int) (x : List UInt8) (hx : x.length ≤ 100) :
    Calls Try.prog 49 #[.pointer (some ⟨q, 0, none⟩), .int .i64 n, .string ⟨x.toArray⟩] w fun e w' => e = .returned (codeOf (s.baseOk n)) ∧
      ∃ R', IsRf w' R' q (s.baseI n x) ∧ (∀ k ∈ R, k ∈ R') ∧ Mod [q] w w' ∧ ∀ k ∈ R', (k ∈ R ∨ w.heap.size ≤ k) ∧ k < w'.heap.size := by
  by_cases hn : (s.first : Int) ≤ n ∧ n ≤ 1073741824
  · have e1 : s.baseOk n = true := decide_eq_true hn
    have e2 : ((n.toNat : Nat) : Int) = n := Int.toNat_of_nonneg (by omega)
    have h1 := rf_base h hR n.toNat x (by omega) (by omega) (by omega)
    rw [e2] at h1
    unfold St.baseI
    rw [e1, if_pos rfl]
    exact h1
  · have e1 : s.baseOk n = false := decide_eq_false hn
    unfold St.baseI
    rw [e1, if_neg (by decide)]
    refine (rf_base_arg h n _ (by omega)).mono ?_
    rintro e w' ⟨rfl, he⟩
    exact ⟨rfl, R, h.ext hR he, fun _ h => h, Mod.of_below he _, fun k hk => ⟨.inl hk, Nat.lt_of_lt_of_le (hR k hk) he.size⟩⟩
end

end Go.Proofs.Ytfclighheoobaaa
