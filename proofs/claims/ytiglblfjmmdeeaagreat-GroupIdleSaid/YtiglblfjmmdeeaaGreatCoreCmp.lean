/- core.Less: ballots in their order. -/
import Derived.Test.YtiglblfjmmdeeaaGreatIMap
import Derived.Deep.DeepCutAuto
namespace Go.Proofs.YtiglblfjmmdeeaaGreat
open Go.RowKit

attribute [local go_sem] Oper.pureUpon Oper.relUpon

theorem isnan_calls (w : World) (a : Int) : Calls Tryz.prog 190 #[.int .i64 a] w fun e w' => e = .returned (.bool false) ∧ w = w' := by
  go_enter Tryz.func190, Tryz.ntmps190
  go_wp2_with fail
  go_ret
  exact ⟨by simp, rfl⟩

def cmpI (a b : Int) : Int := if a < b then -1 else if b < a then 1 else 0
theorem cmpI_zero {a b : Int} : cmpI a b = 0 ↔ a = b := by unfold cmpI; split <;> (try split) <;> omega
theorem cmpI_neg {a b : Int} : cmpI a b < 0 ↔ a < b := by unfold cmpI; split <;> (try split) <;> omega

theorem cmp_calls (w : World) (a b : Int) : Calls Tryz.prog 182 #[.int .i64 a, .int .i64 b] w fun e w' => e = .returned (.int .i64 (cmpI a b)) ∧ w = w' := by
  by_cases h1 : a < b
  · have hc : cmpI a b = -1 := by unfold cmpI; rw [if_pos h1]
    rw [hc]
    clear hc
    go_enter Tryz.func182, Tryz.ntmps182
    go_wp2_with fail
    refine (isnan_calls w a).mono ?_
    rintro e w1 ⟨rfl, rfl⟩
    go_wp2_with fail
    refine (isnan_calls w b).mono ?_
    rintro e w1 ⟨rfl, rfl⟩
    go_wp2_with fail
    go_ret
    exact ⟨rfl, rfl⟩
  · by_cases h2 : b < a
    · have hc : cmpI a b = 1 := by unfold cmpI; rw [if_neg h1, if_pos h2]
      rw [hc]
      clear hc
      go_enter Tryz.func182, Tryz.ntmps182
      go_wp2_with fail
      refine (isnan_calls w a).mono ?_
      rintro e w1 ⟨rfl, rfl⟩
      go_wp2_with fail
      refine (isnan_calls w b).mono ?_
      rintro e w1 ⟨rfl, rfl⟩
      go_wp2_with fail
      go_ret
      exact ⟨rfl, rfl⟩
    · have hc : cmpI a b = 0 := by unfold cmpI; rw [if_neg h1, if_neg h2]
      rw [hc]
      clear hc
      go_enter Tryz.func182, Tryz.ntmps182
      go_wp2_with fail
      refine (isnan_calls w a).mono ?_
      rintro e w1 ⟨rfl, rfl⟩
      go_wp2_with fail
      refine (isnan_calls w b).mono ?_
      rintro e w1 ⟨rfl, rfl⟩
      go_wp2_with fail
      go_ret
      exact ⟨rfl, rfl⟩

def orI (a b : Int) : Int := if a = 0 then b else a
/-- A row of two ints. -/
def TwoI (a b : Int) (v : Value) (w : World) : Prop := ∃ g, v = .slice (some ⟨g, 0, none⟩) 2 2 ∧ Blk w g 3 #[.int .i64 a, .int .i64 b]
theorem TwoI.stays (a b : Int) : Stays (TwoI a b) := by
  rintro v w w' ⟨g, rfl, hg⟩ he
  exact ⟨g, rfl, hg.below he hg.lt⟩

set_option maxRecDepth 100000 in
theorem or_calls (w : World) (a b : Int) (g : Nat) (h : Blk w g 3 #[.int .i64 a, .int .i64 b]) : Calls Tryz.prog 181 #[.slice (some ⟨g, 0, none⟩) 2 2] w fun e w' => e = .returned (.int .i64 (orI a b)) ∧ w = w' := by
  have c0 := h.cell 0
  have c1 := h.cell 1
  simp at c0 c1
  have HO : Hid (orI a b = if a = 0 then b else a) := Lib.hid rfl
  generalize orI a b = o at *
  clear h
  go_enter Tryz.func181, Tryz.ntmps181
  go_wp2_with fail
  go_loopw [8] (fun i wr => wr = w ∧ ∃ k : Nat, i = .int .i64 k ∧ k ≤ 2 ∧ Hid ((0 < k → a = 0) ∧ (1 < k → b = 0))) (fun i _ => 2 - (intOf i).toNat)
  case atStart => exact ⟨rfl, 0, rfl, by omega, Lib.hid ⟨by omega, by omega⟩⟩
  case round =>
    obtain ⟨rfl, k, rfl, hk, HK⟩ := hrel
    have hc : k = 0 ∨ k = 1 ∨ k = 2 := by omega
    rcases hc with rfl | rfl | rfl
    · by_cases ha : a = 0
      · have HA := Lib.hid ha
        subst ha
        go_wp2_with fail
        go_roundw
        case rel => exact ⟨by trivial, 1, rfl, by omega, Lib.hid ⟨fun _ => by trivial, by omega⟩⟩
        case measure => simp [intOf]
      · have i1 : (a != 0) = true := by simpa using ha
        go_wp2_with fail
        go_ret
        have := HO.out
        rw [if_neg ha] at this
        exact ⟨by rw [this]; rfl, rfl⟩
    · have ha := HK.out.1 (by omega)
      by_cases hb : b = 0
      · subst hb
        go_wp2_with fail
        go_roundw
        case rel => exact ⟨by trivial, 2, rfl, by omega, Lib.hid ⟨fun _ => ha, fun _ => by trivial⟩⟩
        case measure => simp [intOf]
      · have i1 : (b != 0) = true := by simpa using hb
        have HA := Lib.hid ha
        clear ha
        go_wp2_with fail
        go_ret
        have := HO.out
        rw [if_pos HA.out] at this
        exact ⟨by rw [this]; rfl, rfl⟩
    · have ha := HK.out.1 (by omega)
      have hb := HK.out.2 (by omega)
      have HAB := Lib.hid (And.intro ha hb)
      clear ha hb
      go_wp2_with fail
      go_ret
      have := HO.out
      rw [if_pos HAB.out.1, HAB.out.2] at this
      exact ⟨by rw [this]; rfl, rfl⟩

/-- A ballot as a value. -/
def bal (r n : Int) : Value := .agg #[.int .i64 r, .int .i64 n]
def balLess (r n r' n' : Int) : Bool := decide (r < r' ∨ (r = r' ∧ n < n'))

set_option maxRecDepth 100000 in
theorem compare_calls (w : World) (r n r' n' : Int) : Calls Tryz.prog 157 #[bal r n, bal r' n'] w fun e w' => e = .returned (.int .i64 (orI (cmpI r r') (cmpI n n'))) ∧ Ext w w' := by
  have cmp1 := fun w => (cmp_calls w r r').mono (R' := fun e w' => e = .returned (.int .i64 (cmpI r r')) ∧ Ext w w') (by rintro e w' ⟨rfl, rfl⟩; exact ⟨rfl, Ext.refl _⟩)
  have cmp2 := fun w => (cmp_calls w n n').mono (R' := fun e w' => e = .returned (.int .i64 (cmpI n n')) ∧ Ext w w') (by rintro e w' ⟨rfl, rfl⟩; exact ⟨rfl, Ext.refl _⟩)
  generalize cmpI r r' = p at *
  generalize cmpI n n' = q at *
  have K1 := Lib.hid cmp1
  have K2 := Lib.hid cmp2
  clear cmp1 cmp2
  unfold bal
  go_enter Tryz.func157, Tryz.ntmps157
  go_wp2_with fail
  obtain ⟨g, hg⟩ : ∃ g, w.heap.size = g := ⟨_, rfl⟩
  obtain ⟨w1, hw1⟩ : ∃ w1, (w.alloc (.cells #[.int .i64 r, .int .i64 n] 108)).alloc (.cells #[.int .i64 r', .int .i64 n'] 108) = w1 := ⟨_, rfl⟩
  have b1 : Blk w1 g 108 #[.int .i64 r, .int .i64 n] := by rw [← hw1, ← hg]; exact (Blk.new _ _ _).alloc _
  have b2 : Blk w1 (g + 1) 108 #[.int .i64 r', .int .i64 n'] := by
    have h := Blk.new (w.alloc (.cells #[.int .i64 r, .int .i64 n] 108)) 108 #[.int .i64 r', .int .i64 n']
    rw [hw1] at h
    simpa [hg] using h
  have he1 : Ext w w1 := by rw [← hw1]; exact ((Below.refl _ _).alloc (Nat.le_refl _) _).alloc (by simp) _
  rw [hw1]
  have C0 : ∀ w', Ext w1 w' → w'.cell? ⟨g, 0, none⟩ = some (.int .i64 r) := fun w' he => by have := (b1.below he b1.lt).cell 0; simpa using this
  have C1 : ∀ w', Ext w1 w' → w'.cell? ⟨g, 1, none⟩ = some (.int .i64 n) := fun w' he => by have := (b1.below he b1.lt).cell 1; simpa using this
  have C2 : ∀ w', Ext w1 w' → w'.cell? ⟨g + 1, 0, none⟩ = some (.int .i64 r') := fun w' he => by have := (b2.below he b2.lt).cell 0; simpa using this
  have C3 : ∀ w', Ext w1 w' → w'.cell? ⟨g + 1, 1, none⟩ = some (.int .i64 n') := fun w' he => by have := (b2.below he b2.lt).cell 1; simpa using this
  have HE := Lib.hid he1
  clear b1 b2 hw1 he1
  refine wp_region_rely [none, none, none, none, none, none, none, none, none, none, some (TwoI p q), none, none] (by kernel_rfl) (by kernel_rfl) ?_
  simp only [Wit]
  iterate 12 apply Exists.intro
  repeat (first | (refine rely_skip rfl ?_; simp only [Act.put, List.setIfInBounds_toArray, List.set_cons_zero, List.set_cons_succ]) | (apply rely_pure; (· rfl); (· intro w hw hd; go_simp; done); simp only [Act.put, List.setIfInBounds_toArray, List.set_cons_zero, List.set_cons_succ]) | (apply rely_pure; (· rfl); (· intro w hw hd; go_simp; exact rfl); simp only [Act.put, List.setIfInBounds_toArray, List.set_cons_zero, List.set_cons_succ]))
  apply rely_pure
  · rfl
  · intro w hw hd
    go_simp
    exact K1.out w
  simp only [Act.put, List.setIfInBounds_toArray, List.set_cons_zero, List.set_cons_succ]
  repeat (first | (refine rely_skip rfl ?_; simp only [Act.put, List.setIfInBounds_toArray, List.set_cons_zero, List.set_cons_succ]) | (apply rely_pure; (· rfl); (· intro w hw hd; go_simp; done); simp only [Act.put, List.setIfInBounds_toArray, List.set_cons_zero, List.set_cons_succ]) | (apply rely_pure; (· rfl); (· intro w hw hd; go_simp; exact rfl); simp only [Act.put, List.setIfInBounds_toArray, List.set_cons_zero, List.set_cons_succ]))
  apply rely_pure
  · rfl
  · intro w hw hd
    go_simp
    exact K2.out w
  simp only [Act.put, List.setIfInBounds_toArray, List.set_cons_zero, List.set_cons_succ]
  refine rely_rel rfl (TwoI.stays _ _) (fun w hw hd => ?_) ?_
  · go_simp
    exact ⟨⟨_, rfl, Blk.new _ _ _⟩, (Below.refl _ _).alloc (Nat.le_refl _) _⟩
  intro v1
  simp only [Act.put, List.setIfInBounds_toArray, List.set_cons_zero, List.set_cons_succ]
  apply rely_pure
  · rfl
  · intro w hw hd
    obtain ⟨g2, rfl, hg2⟩ : TwoI p q v1 w := hd ⟨10, .data⟩ (by simp) rfl
    go_simp
    exact (or_calls w p q g2 hg2).mono (by rintro e w' ⟨rfl, rfl⟩; exact ⟨rfl, Ext.refl _⟩)
  simp only [Act.put, List.setIfInBounds_toArray, List.set_cons_zero, List.set_cons_succ]
  repeat (first | (refine rely_skip rfl ?_; simp only [Act.put, List.setIfInBounds_toArray, List.set_cons_zero, List.set_cons_succ]) | (apply rely_pure; (· rfl); (· intro w hw hd; go_simp; done); simp only [Act.put, List.setIfInBounds_toArray, List.set_cons_zero, List.set_cons_succ]) | (apply rely_pure; (· rfl); (· intro w hw hd; go_simp; exact rfl); simp only [Act.put, List.setIfInBounds_toArray, List.set_cons_zero, List.set_cons_succ]))
  refine rely_nil ?_
  intro w9 hw9
  have he9 := HE.out.trans hw9.1
  clear hw9 C0 C1 C2 C3
  go_wp2_with fail
  go_ret
  exact ⟨rfl, he9⟩

theorem orI_neg {a b : Int} : orI a b < 0 ↔ a < 0 ∨ (a = 0 ∧ b < 0) := by unfold orI; split <;> omega
set_option maxRecDepth 100000 in
theorem less_calls (w : World) (r n r' n' : Int) : Calls Tryz.prog 119 #[bal r n, bal r' n'] w fun e w' => e = .returned (.bool (balLess r n r' n')) ∧ Ext w w' := by
  have hc := fun w => compare_calls w r n r' n'
  have hb : balLess r n r' n' = decide (orI (cmpI r r') (cmpI n n') < 0) := by
    unfold balLess
    apply Bool.eq_iff_iff.2
    simp only [decide_eq_true_eq, orI_neg, cmpI_neg, cmpI_zero]
  generalize balLess r n r' n' = bl at *
  generalize orI (cmpI r r') (cmpI n n') = o at *
  have HB := Lib.hid hb
  have HC := Lib.hid hc
  clear hb hc
  unfold bal at HC
  unfold bal
  go_enter Tryz.func119, Tryz.ntmps119
  go_wp2_with fail
  refine (HC.out _).mono ?_
  rintro e w3 ⟨rfl, he3⟩
  go_wp2_with fail
  go_ret
  exact ⟨by rw [HB.out]; rfl, Ext.trans (((Below.refl _ _).alloc (Nat.le_refl _) _).alloc (by simp) _) he3⟩

end Go.Proofs.YtiglblfjmmdeeaaGreat
