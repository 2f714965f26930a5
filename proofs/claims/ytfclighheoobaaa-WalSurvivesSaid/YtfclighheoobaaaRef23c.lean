/- The document's log: Put. -/
import Derived.Test.YtfclighheoobaaaRef23b
namespace Go.Proofs.Ytfclighheoobaaa.RX
open Go.RowKit Go.Proofs.Ytfclighheoobaaa

attribute [local go_sem] ba_append ba_extract ba_size Oper.pureUpon RX.relUpon
attribute [local go_sem high] run_takeT'

section
variable {w : World} {R : List Nat} {q : Nat} {s : St}
set_option maxRecDepth 100000 in
set_option maxHeartbeats 2000000 in
theorem rf_put (h : IsRf w R q s) (hR : ∀ k ∈ R, k < w.heap.size) (n : Nat) (x : List UInt8) (hn1 : s.first ≤ n) (hn2 : n ≤ s.next) (hn3 : n < 1073741824) (hx : x.length ≤ 65536) (hl : s.recs.length ≤ 900000) :
    Calls Try.prog 47 #[.pointer (some ⟨q, 0, none⟩), .int .i64 n, .string ⟨x.toArray⟩] w fun e w' => e = .returned (.int .i64 0) ∧
      ∃ R', IsRf w' R' q (s.putAt n x) ∧ (∀ k ∈ R, k ∈ R') ∧ Mod [q] w w' ∧ ∀ k ∈ R', (k ∈ R ∨ w.heap.size ≤ k) ∧ k < w'.heap.size := by
  have hok := h.ok
  have hk1 := hok.1
  have hnx := rf_next h
  have i1 : ¬ ((n : Int) < (s.first : Int)) := by omega
  have i2 : ¬ ((n : Int) > (s.next : Int)) := by omega
  have i3 : decide ((1073741824 : Int) ≤ (n : Int)) = false := decide_eq_false (by omega)
  have i4 : ¬ ((x.length : Int) > 65536) := by omega
  obtain ⟨k, hk⟩ : ∃ k, n - s.first = k := ⟨_, rfl⟩
  have hkl : k ≤ s.recs.length := by unfold St.next at hn2; omega
  have hk0 : (0 : Int) ≤ (k : Int) := by omega
  have hki : (n : Int) - (s.first : Int) = (k : Int) := by omega
  have hwk : IntKind.i64.wrap (k : Int) = (k : Int) := IntWalk.i64_in _ (by omega)
  have hwn : IntKind.i64.wrap ((n : Int) - (s.first : Int)) = (k : Int) := by rw [hki]; exact hwk
  have hok2 := St.putAt_ok hok n x hx hl
  have h0 := h
  obtain ⟨A, c, _, hb, hrd, _, hlc, hc9, _⟩ := h
  have c0 := hb.cell 0
  simp at c0
  have hkc : (k : Int) ≤ (c : Int) := by omega
  generalize s.next = snx at *
  have HK := Lib.hid hk
  have H0 := Lib.hid h0
  have HR := Lib.hid hR
  have HOK := Lib.hid hok2
  clear hk hok hok2 h0 hR
  go_enter Try.func47, Try.ntmps47
  go_wp2_with fail
  refine hnx.mono ?_
  rintro e w1 ⟨rfl, he1⟩
  have hb1 := hb.below he1 hb.lt
  have hlt1 := hb1.lt
  have r1 : Reads w1 w1.heap.size 1 A k ((txs s.recs).take k) := by
    refine ⟨by rw [List.length_take, txs_len]; omega, fun hk => ?_⟩
    obtain ⟨ad, e, h1, h2⟩ := ((hrd.below he1).more he1.size).2 (by omega)
    exact ⟨ad, e, h1, fun j u hu => h2 j u (by
      rw [List.getElem?_take] at hu
      split at hu
      · exact hu
      · cases hu)⟩
  have C0 : ∀ w', XS w1.heap.size k (.string ⟨x.toArray⟩) w1 w' → w'.cell? ⟨q, 0, none⟩ = some (.int .i64 (s.first : Int)) := fun w' he => by have := (hb1.below (he.below (Nat.le_refl _)) hlt1).cell 0; simpa using this
  have C1 : ∀ w', XS w1.heap.size k (.string ⟨x.toArray⟩) w1 w' → w'.cell? ⟨q, 1, none⟩ = some (.slice A s.recs.length c) := fun w' he => by have := (hb1.below (he.below (Nat.le_refl _)) hlt1).cell 1; simpa using this
  have R1 : ∀ w', XS w1.heap.size k (.string ⟨x.toArray⟩) w1 w' → Reads w' w1.heap.size 1 A k ((txs s.recs).take k) := fun w' he => r1.below (he.below (Nat.le_refl _))
  have HB1 := Lib.hid hb1
  have HE1 := Lib.hid he1
  clear hnx hb hrd r1 he1 c0 hb1
  go_wp2_with fail
  refine wp_region_rely_tail (X := XS w1.heap.size k (.string ⟨x.toArray⟩)) 17 [none, some (Own0T w1.heap.size), none, none, none, none, none, none, none, none, none, none, none, some (OwnT w1.heap.size k ((txs s.recs).take k)), none, some (OneT w1.heap.size (.string ⟨x.toArray⟩)), some (OwnT w1.heap.size (k + 1) ((txs s.recs).take k ++ [.string ⟨x.toArray⟩]))] (by kernel_rfl) (by kernel_rfl) ?_
  simp only [Wit, List.take_succ_cons, List.take_zero, List.drop_succ_cons, List.drop_zero]
  iterate 13 apply Exists.intro
  (first | (refine rely_skip rfl ?_; simp only [Act.put, List.setIfInBounds_toArray, List.set_cons_zero, List.set_cons_succ]) | (apply rely_pure; (· rfl); (· intro w hw hd; go_simp; done); simp only [Act.put, List.setIfInBounds_toArray, List.set_cons_zero, List.set_cons_succ]) | (apply rely_pure; (· rfl); (· intro w hw hd; go_simp; exact rfl); simp only [Act.put, List.setIfInBounds_toArray, List.set_cons_zero, List.set_cons_succ]))
  refine rely_rel rfl (Own0T.staysX) (fun w hw hd => ?_) ?_
  · go_simp
    exact ⟨own0T_new w hw.size, xs_ext ((Below.refl _ _).alloc (Nat.le_refl _) _)⟩
  intro v1
  simp only [Act.put, List.setIfInBounds_toArray, List.set_cons_zero, List.set_cons_succ]
  repeat (first | (refine rely_skip rfl ?_; simp only [Act.put, List.setIfInBounds_toArray, List.set_cons_zero, List.set_cons_succ]) | (apply rely_pure; (· rfl); (· intro w hw hd; go_simp; done); simp only [Act.put, List.setIfInBounds_toArray, List.set_cons_zero, List.set_cons_succ]) | (apply rely_pure; (· rfl); (· intro w hw hd; go_simp; exact rfl); simp only [Act.put, List.setIfInBounds_toArray, List.set_cons_zero, List.set_cons_succ]))
  refine rely_rel rfl (OwnT.staysX (.inl (Nat.le_refl _))) (fun w hw hd => ?_) ?_
  · have g1 : Own0T w1.heap.size v1 w := hd ⟨1, .data⟩ (by simp) rfl
    obtain ⟨v', w', e1, e2, e3⟩ := appendT_new (c := c) g1 hw.size (R1 w hw) (fun u hu => txs_one _ u (List.mem_of_mem_take hu)) (by omega) 49
    rw [run_exec_append rfl rfl rfl e1]
    exact ⟨e2, xs_ext e3⟩
  intro v2
  simp only [Act.put, List.setIfInBounds_toArray, List.set_cons_zero, List.set_cons_succ]
  repeat (first | (refine rely_skip rfl ?_; simp only [Act.put, List.setIfInBounds_toArray, List.set_cons_zero, List.set_cons_succ]) | (apply rely_pure; (· rfl); (· intro w hw hd; go_simp; done); simp only [Act.put, List.setIfInBounds_toArray, List.set_cons_zero, List.set_cons_succ]) | (apply rely_pure; (· rfl); (· intro w hw hd; go_simp; exact rfl); simp only [Act.put, List.setIfInBounds_toArray, List.set_cons_zero, List.set_cons_succ]))
  refine rely_rel rfl (OneT.staysX) (fun w hw hd => ?_) ?_
  · go_simp
    exact ⟨oneT_new w hw.size _, xs_ext ((Below.refl _ _).alloc (Nat.le_refl _) _)⟩
  intro v3
  simp only [Act.put, List.setIfInBounds_toArray, List.set_cons_zero, List.set_cons_succ]
  refine rely_rel rfl (OwnT.staysX (.inr ⟨rfl, by rw [List.getElem?_append_right (by rw [List.length_take, txs_len]; omega)]; rw [List.length_take, txs_len, Nat.min_eq_left hkl, Nat.sub_self]; rfl⟩)) (fun w hw hd => ?_) ?_
  · have g1 : OwnT w1.heap.size k ((txs s.recs).take k) v2 w := hd ⟨13, .data⟩ (by simp) rfl
    have g2 : OneT w1.heap.size (.string ⟨x.toArray⟩) v3 w := hd ⟨15, .data⟩ (by simp) rfl
    obtain ⟨v', w', e1, e2, e3⟩ := appendT_two g1 g2 rfl hw.size (by omega) 49
    rw [run_exec_append rfl rfl rfl e1]
    exact ⟨e2, e3⟩
  intro v4
  simp only [Act.put, List.setIfInBounds_toArray, List.set_cons_zero, List.set_cons_succ]
  refine rely_nil ?_
  intro w4 hw4
  have q4 : OwnT w1.heap.size (k + 1) ((txs s.recs).take k ++ [Value.string (⟨x.toArray⟩ : ByteArray)]) v4 w4 := (hw4.2 16).1
  obtain ⟨A4, c4, rfl, ho4⟩ := q4
  have he4 : Ext w1 w4 := hw4.1.below (Nat.le_refl _)
  have C1' := C1 w4 hw4.1
  have hb4 := HB1.out.below he4 hlt1
  have f4 := hb4.frozen 1
  have HB4 := Lib.hid hb4
  have HE4 := Lib.hid he4
  have HO4 := Lib.hid ho4
  clear hw4 C0 C1 R1 hb4 he4 ho4 HB1
  go_wp2_with fail
  go_ret
  have he := HE1.out.trans HE4.out
  have hrl : (s.putAt n x).recs.length = k + 1 := by simp only [St.putAt, List.length_append, List.length_take, List.length_cons, List.length_nil]; have := HK.out; omega
  have hrx : txs (s.putAt n x).recs = (txs s.recs).take k ++ [.string ⟨x.toArray⟩] := by
    show txs (s.recs.take (n - s.first) ++ [x]) = _
    rw [HK.out, ← txs_snoc, txs_take]
    rfl
  have hm : Mod [q] w4 (w4.setCell ⟨q, 1, none⟩ (.slice A4 (k + 1) c4)) := (Mod.refl _ _).setCell (by simp) _
  exact ⟨rfl, rf_end (s' := s.putAt n x) H0.out HR.out he hm (by rw [hrl]; have := HB4.out.set_ 1 (.slice A4 (k + 1) c4); simpa [St.putAt] using this) (by rw [hrl, hrx]; exact own_more HO4.out HE1.out.size) HOK.out⟩
end

end Go.Proofs.Ytfclighheoobaaa.RX
