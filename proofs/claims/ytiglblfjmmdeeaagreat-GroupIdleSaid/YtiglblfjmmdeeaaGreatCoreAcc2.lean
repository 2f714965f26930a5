/- core.Acceptor: Votes where there are none, Prepare, Accept. -/
import Derived.Test.YtiglblfjmmdeeaaGreatCoreAcc
namespace Go.Proofs.YtiglblfjmmdeeaaGreat
open Go.RowKit Go.Maps Go.ChangeMaps

attribute [local go_sem] Oper.pureUpon Oper.relUpon

section
variable {W w w' : World} {F : List Nat} {p top : Nat} {pr pn : Int} {vs : List (Int × Vt)}
set_option maxRecDepth 100000 in
theorem acc_votes_none (h : IsAcc w F p pr pn vs top) (from_ : Int) (hf : (top : Int) ≤ max from_ 0) : Calls Tryz.prog 75 #[.pointer (some ⟨p, 0, none⟩), .int .i64 from_] w fun e w' => e = .returned (.slice none 0 0) ∧ w = w' := by
  obtain ⟨b, h1, h2, _⟩ := h
  have c3 := h1.cell 3
  simp at c3
  by_cases h0 : from_ < 0
  · have ht : top = 0 := by omega
    subst ht
    clear hf h1 h2
    go_enter Tryz.func75, Tryz.ntmps75
    go_wp2_with fail
    go_loopw [5, 6] (fun v i wr => wr = w ∧ v = .slice none 0 0 ∧ i = .int .i64 0) (fun _ _ _ => 0)
    case atStart => exact ⟨rfl, rfl, by congr 1⟩
    case round =>
      obtain ⟨rfl, rfl, rfl⟩ := hrel
      go_wp2_with fail
      go_ret
      exact ⟨rfl, rfl⟩
  · have h9 : ¬ from_ < (top : Int) := by omega
    clear hf h1 h2
    go_enter Tryz.func75, Tryz.ntmps75
    go_wp2_with fail
    go_loopw [5, 6] (fun v i wr => wr = w ∧ v = .slice none 0 0 ∧ i = .int .i64 from_) (fun _ _ _ => 0)
    case atStart => exact ⟨rfl, rfl, by congr 1⟩
    case round =>
      obtain ⟨rfl, rfl, rfl⟩ := hrel
      go_wp2_with fail
      go_ret
      exact ⟨rfl, rfl⟩

/-- The boxed parameter, and the test of Prepare. -/
theorem acc_cells (h : IsAcc w F p pr pn vs top) : (∀ w', Ext w w' → w'.cell? ⟨p, 0, none⟩ = some (.int .i64 pr)) ∧ (∀ w', Ext w w' → w'.cell? ⟨p, 1, none⟩ = some (.int .i64 pn)) ∧ (∀ w', Ext w w' → w'.cell? ⟨p, 3, none⟩ = some (.int .i64 (top : Int))) ∧ (∀ w', Ext w w' → ∀ i, w'.frozen? ⟨p, i, none⟩ = false) := by
  obtain ⟨b, h1, h2, _⟩ := h
  exact ⟨fun w' he => by have := (h1.below he h1.lt).cell 0; simpa using this, fun w' he => by have := (h1.below he h1.lt).cell 1; simpa using this, fun w' he => by have := (h1.below he h1.lt).cell 3; simpa using this, fun w' he i => (h1.below he h1.lt).frozen i⟩

set_option maxRecDepth 100000 in
theorem acc_prepare_no (h : IsAcc w F p pr pn vs top) (r n : Int) (from_ : Int) (hl : balLess pr pn r n = false) :
    Calls Tryz.prog 79 #[.pointer (some ⟨p, 0, none⟩), bal r n, .int .i64 from_] w fun e w' => e = .returned (.tuple #[.bool false, .slice none 0 0]) ∧ Ext w w' := by
  obtain ⟨c0, c1, _, _⟩ := acc_cells h
  have hc := fun w => less_calls w pr pn r n
  rw [hl] at hc
  unfold bal at hc ⊢
  have he1 : Ext w (w.alloc (.cells #[.int .i64 r, .int .i64 n] 108)) := (Below.refl _ _).alloc (Nat.le_refl _) _
  have b1 := Blk.new w 108 #[.int .i64 r, .int .i64 n]
  have HC := Lib.hid hc
  have K0 := Lib.hid c0
  have K1 := Lib.hid c1
  have B1 := Lib.hid b1
  have HE := Lib.hid he1
  clear hc c0 c1 b1 he1 h hl
  go_enter Tryz.func79, Tryz.ntmps79
  go_wp2_with fail
  obtain ⟨g, hg⟩ : ∃ g, w.heap.size = g := ⟨_, rfl⟩
  obtain ⟨w1, hw1⟩ : ∃ w1, w.alloc (.cells #[.int .i64 r, .int .i64 n] 108) = w1 := ⟨_, rfl⟩
  have b1 := B1.out
  have he1 := HE.out
  rw [hw1] at b1 he1
  rw [hg] at b1
  rw [hw1]
  have C0 : ∀ w', Ext w1 w' → w'.cell? ⟨p, 0, none⟩ = some (.int .i64 pr) := fun w' he => K0.out w' (he1.trans he)
  have C1 : ∀ w', Ext w1 w' → w'.cell? ⟨p, 1, none⟩ = some (.int .i64 pn) := fun w' he => K1.out w' (he1.trans he)
  have D0 : ∀ w', Ext w1 w' → w'.cell? ⟨g, 0, none⟩ = some (.int .i64 r) := fun w' he => by have := (b1.below he b1.lt).cell 0; simpa using this
  have D1 : ∀ w', Ext w1 w' → w'.cell? ⟨g, 1, none⟩ = some (.int .i64 n) := fun w' he => by have := (b1.below he b1.lt).cell 1; simpa using this
  have HE1 := Lib.hid he1
  have HB1 := Lib.hid b1
  clear hw1 b1 he1 B1
  refine wp_region_rely [none, none, none, none, none, none, none] (by kernel_rfl) (by kernel_rfl) ?_
  simp only [Wit]
  iterate 7 apply Exists.intro
  repeat (first | (refine rely_skip rfl ?_; simp only [Act.put, List.setIfInBounds_toArray, List.set_cons_zero, List.set_cons_succ]) | (apply rely_pure; (· rfl); (· intro w hw hd; go_simp; done); simp only [Act.put, List.setIfInBounds_toArray, List.set_cons_zero, List.set_cons_succ]) | (apply rely_pure; (· rfl); (· intro w hw hd; go_simp; exact rfl); simp only [Act.put, List.setIfInBounds_toArray, List.set_cons_zero, List.set_cons_succ]))
  apply rely_pure
  · rfl
  · intro w hw hd
    go_simp
    exact HC.out w
  simp only [Act.put, List.setIfInBounds_toArray, List.set_cons_zero, List.set_cons_succ]
  repeat (first | (refine rely_skip rfl ?_; simp only [Act.put, List.setIfInBounds_toArray, List.set_cons_zero, List.set_cons_succ]) | (apply rely_pure; (· rfl); (· intro w hw hd; go_simp; done); simp only [Act.put, List.setIfInBounds_toArray, List.set_cons_zero, List.set_cons_succ]) | (apply rely_pure; (· rfl); (· intro w hw hd; go_simp; exact rfl); simp only [Act.put, List.setIfInBounds_toArray, List.set_cons_zero, List.set_cons_succ]))
  refine rely_nil ?_
  intro w9 hw9
  have he9 := hw9.1
  clear hw9 C0 C1 D0 D1
  go_wp2_with fail
  go_ret2
  exact ⟨rfl, HE1.out.trans he9⟩

/-- A new ballot that is promised. -/
theorem acc_set (h : IsAcc w F p pr pn vs top) (r n : Int) : IsAcc ((w.setCell ⟨p, 0, none⟩ (.int .i64 r)).setCell ⟨p, 1, none⟩ (.int .i64 n)) F p r n vs top ∧ Mod [p] w ((w.setCell ⟨p, 0, none⟩ (.int .i64 r)).setCell ⟨p, 1, none⟩ (.int .i64 n)) := by
  obtain ⟨b, h1, h2, rfl⟩ := h
  have hbp : b ≠ p := by
    rintro rfl
    obtain ⟨es, ck, hb, _⟩ := h2
    unfold Blk at h1
    rw [h1] at hb
    cases hb
  have hm : Mod [p] w ((w.setCell ⟨p, 0, none⟩ (.int .i64 r)).setCell ⟨p, 1, none⟩ (.int .i64 n)) := ((Mod.refl _ _).setCell (by simp) _).setCell (by simp) _
  exact ⟨⟨b, by simpa using (h1.set_ 0 (.int .i64 r)).set_ 1 (.int .i64 n), IM.keep h2 (hm.block b (IM.lt h2) (by simpa using hbp)), rfl⟩, hm⟩

set_option maxRecDepth 100000 in
theorem acc_prepare (h : IsAcc w F p pr pn vs top) (r n : Int) (from_ : Int) (hl : balLess pr pn r n = true) (hf : (top : Int) ≤ max from_ 0) :
    Calls Tryz.prog 79 #[.pointer (some ⟨p, 0, none⟩), bal r n, .int .i64 from_] w fun e w' => e = .returned (.tuple #[.bool true, .slice none 0 0]) ∧ IsAcc w' F p r n vs top ∧ Next F F w w' := by
  have H := Lib.hid h
  obtain ⟨c0, c1, _, f0⟩ := acc_cells h
  have FZ := Lib.hid f0
  clear f0
  have hc := fun w => less_calls w pr pn r n
  rw [hl] at hc
  unfold bal at hc ⊢
  have he1 : Ext w (w.alloc (.cells #[.int .i64 r, .int .i64 n] 108)) := (Below.refl _ _).alloc (Nat.le_refl _) _
  have b1 := Blk.new w 108 #[.int .i64 r, .int .i64 n]
  have HC := Lib.hid hc
  have K0 := Lib.hid c0
  have K1 := Lib.hid c1
  have B1 := Lib.hid b1
  have HE := Lib.hid he1
  clear hc c0 c1 b1 he1 h hl
  go_enter Tryz.func79, Tryz.ntmps79
  go_wp2_with fail
  obtain ⟨g, hg⟩ : ∃ g, w.heap.size = g := ⟨_, rfl⟩
  obtain ⟨w1, hw1⟩ : ∃ w1, w.alloc (.cells #[.int .i64 r, .int .i64 n] 108) = w1 := ⟨_, rfl⟩
  have b1 := B1.out
  have he1 := HE.out
  rw [hw1] at b1 he1
  rw [hg] at b1
  rw [hw1]
  have C0 : ∀ w', Ext w1 w' → w'.cell? ⟨p, 0, none⟩ = some (.int .i64 pr) := fun w' he => K0.out w' (he1.trans he)
  have C1 : ∀ w', Ext w1 w' → w'.cell? ⟨p, 1, none⟩ = some (.int .i64 pn) := fun w' he => K1.out w' (he1.trans he)
  have D0 : ∀ w', Ext w1 w' → w'.cell? ⟨g, 0, none⟩ = some (.int .i64 r) := fun w' he => by have := (b1.below he b1.lt).cell 0; simpa using this
  have D1 : ∀ w', Ext w1 w' → w'.cell? ⟨g, 1, none⟩ = some (.int .i64 n) := fun w' he => by have := (b1.below he b1.lt).cell 1; simpa using this
  have HE1 := Lib.hid he1
  have HB1 := Lib.hid b1
  clear hw1 b1 he1 B1
  refine wp_region_rely [none, none, none, none, none, none, none] (by kernel_rfl) (by kernel_rfl) ?_
  simp only [Wit]
  iterate 7 apply Exists.intro
  repeat (first | (refine rely_skip rfl ?_; simp only [Act.put, List.setIfInBounds_toArray, List.set_cons_zero, List.set_cons_succ]) | (apply rely_pure; (· rfl); (· intro w hw hd; go_simp; done); simp only [Act.put, List.setIfInBounds_toArray, List.set_cons_zero, List.set_cons_succ]) | (apply rely_pure; (· rfl); (· intro w hw hd; go_simp; exact rfl); simp only [Act.put, List.setIfInBounds_toArray, List.set_cons_zero, List.set_cons_succ]))
  apply rely_pure
  · rfl
  · intro w hw hd
    go_simp
    exact HC.out w
  simp only [Act.put, List.setIfInBounds_toArray, List.set_cons_zero, List.set_cons_succ]
  repeat (first | (refine rely_skip rfl ?_; simp only [Act.put, List.setIfInBounds_toArray, List.set_cons_zero, List.set_cons_succ]) | (apply rely_pure; (· rfl); (· intro w hw hd; go_simp; done); simp only [Act.put, List.setIfInBounds_toArray, List.set_cons_zero, List.set_cons_succ]) | (apply rely_pure; (· rfl); (· intro w hw hd; go_simp; exact rfl); simp only [Act.put, List.setIfInBounds_toArray, List.set_cons_zero, List.set_cons_succ]))
  refine rely_nil ?_
  intro w9 hw9
  have he9 := hw9.1
  clear hw9 C0 C1 D0 D1
  have h9 := H.out.ext (HE1.out.trans he9)
  have f0 := FZ.out w9 (HE1.out.trans he9) 0
  have f1 := FZ.out w9 (HE1.out.trans he9) 1
  have d0 := K0.out w9 (HE1.out.trans he9)
  have d1 := K1.out w9 (HE1.out.trans he9)
  have e0 := (HB1.out.below he9 HB1.out.lt).cell 0
  have e1 := (HB1.out.below he9 HB1.out.lt).cell 1
  simp at e0 e1
  obtain ⟨h10, hm10⟩ := acc_set h9 r n
  have hv := acc_votes_none h10 from_ hf
  have HV := Lib.hid hv
  have H10 := Lib.hid (And.intro h10 hm10)
  have HX := Lib.hid (HE1.out.trans he9)
  clear hv h9 h10 hm10 he9
  go_wp2_with fail
  refine HV.out.mono ?_
  rintro e w11 ⟨rfl, rfl⟩
  go_wp2_with fail
  go_ret2
  have hmod : Mod F w ((w9.setCell ⟨p, 0, none⟩ (.int .i64 r)).setCell ⟨p, 1, none⟩ (.int .i64 n)) := ((Mod.of_below HX.out _).trans' H10.out.2).sub (fun j hj _ => by
    simp at hj
    subst hj
    obtain ⟨_, _, _, e⟩ := H.out
    rw [e]
    simp)
  exact ⟨rfl, H10.out.1, hmod, fun k hk => ⟨.inl hk, Nat.lt_of_lt_of_le (H.out.lt k hk) hmod.size⟩⟩
end

end Go.Proofs.YtiglblfjmmdeeaaGreat
