/- core.Log: Take. -/
import Derived.Test.YtiglblfjmmdeeaaGreatCoreLog2
import Derived.Deep.DeepCutAuto
namespace Go.Proofs.YtiglblfjmmdeeaaGreat
open Go.RowKit Go.Maps Go.ChangeMaps

attribute [local go_sem] Oper.pureUpon Oper.relUpon

/-- What Take hands on. -/
def takeL (kn : List (Int × List UInt8)) (tk m : Nat) : List (List UInt8) := (List.range m).map fun j : Nat => (lookS kn ((tk : Int) + (j : Int))).getD []
theorem takeL_succ (kn : List (Int × List UInt8)) (tk m : Nat) : takeL kn tk (m + 1) = takeL kn tk m ++ [(lookS kn ((tk : Int) + (m : Int))).getD []] := by simp [takeL, List.range_succ]
theorem takeL_len (kn : List (Int × List UInt8)) (tk m : Nat) : (takeL kn tk m).length = m := by simp [takeL]

/-- A slice of one text. -/
def One (u : Value) (v : Value) (w : World) : Prop := ∃ ad c, v = .slice (some ad) 1 c ∧ Reads w w.heap.size 1 (some ad) 1 [u]
theorem One.stays (u : Value) : Stays (One u) := by rintro v w w' ⟨ad, c, rfl, hr⟩ he; exact ⟨ad, c, rfl, (hr.below he).more he.size⟩
theorem one_new (w : World) (u : Value) (t : TypeId) : One u (.slice (some ⟨w.heap.size, 0, none⟩) 1 1) (w.alloc (.cells #[u] t)) := by
  have h := lit_reads w u t
  exact ⟨_, _, rfl, by simpa using h⟩

section
variable {W w w' : World} {F : List Nat} {p tk n : Nat} {kn : List (Int × List UInt8)}
theorem sm_lookup1 {b : Nat} (h : SM w b kn) {k : Int} (hk : isKey k) : (Instr.lookup 126 (.map (some b)) (.int .i64 k) false).run Tryz.prog w = .ok (tx ((lookS kn k).getD [])) w := by
  have h1 := im_lookup h Tryz.underlying126 Tryz.underlying3 (zero_text w) hk false
  rw [lookL_map] at h1
  rw [h1]
  cases lookS kn k <;> rfl

set_option maxRecDepth 100000 in
set_option maxHeartbeats 2000000 in
theorem cl_take (h : IsCL w F p kn tk) (hn : IsNext kn tk n) (hb : n ≤ 1000000) : Calls Tryz.prog 98 #[.pointer (some ⟨p, 0, none⟩)] w fun e w' =>
    ∃ A c, e = .returned (.slice A (n - tk) c) ∧ w'.ownsRow w.heap.size 9 1 (.slice A (n - tk) c) (n - tk) (txs (takeL kn tk (n - tk))) ∧ IsCL w' F p kn n ∧ Mod F w w' := by
  have hnx := cl_next h hn (by omega)
  obtain ⟨b, h1, h2, rfl⟩ := h
  have hbp : b ≠ p := by
    rintro rfl
    obtain ⟨es, ck, hb, _⟩ := h2
    unfold Blk at h1
    rw [h1] at hb
    cases hb
  obtain ⟨i0, hi0, hz0, hz1, hz2⟩ := info_parts text_info
  have n1 := hn.1
  have hlt := h1.lt
  have hltb := IM.lt h2
  have H2 := Lib.hid h2
  clear hn h2
  go_enter Tryz.func98, Tryz.ntmps98
  go_wp2_with fail
  refine hnx.mono ?_
  rintro e w0 ⟨rfl, rfl⟩
  clear hnx
  go_wp2_with fail
  go_loopw [3] (fun v wr => ∃ (k c : Nat) (A : Option Addr), v = .slice A k c ∧ tk + k ≤ n ∧ Blk wr p 128 #[.map (some b), .int .i64 ((tk : Int) + (k : Int))] ∧ Hid (wr.ownsRow w.heap.size 9 1 (.slice A k c) k (txs (takeL kn tk k))) ∧ Hid (Mod [p] w wr)) (fun v wr => match wr.cell? ⟨p, 1, none⟩ with | some (.int _ q) => n - q.toNat | _ => 0)
  case atStart => exact ⟨0, 0, none, rfl, by omega, by simpa using h1, Lib.hid (World.ownsRow_nil _ _ _ _), Lib.hid (Mod.refl _ _)⟩
  case round =>
    obtain ⟨k, c, A, rfl, hk, hbl, HO, HM⟩ := hrel
    clear h1
    have hsm : SM wr b kn := IM.keep H2.out (HM.out.block b hltb (by simpa using hbp))
    have c0 := hbl.cell 0
    have c1 := hbl.cell 1
    simp at c0 c1
    by_cases hlt2 : tk + k < n
    · have i1 : (tk : Int) + (k : Int) < (n : Int) := by omega
      have C0 : ∀ w', Ext wr w' → w'.cell? ⟨p, 0, none⟩ = some (.map (some b)) := fun w' he => by have := (hbl.below he hbl.lt).cell 0; simpa using this
      have C1 : ∀ w', Ext wr w' → w'.cell? ⟨p, 1, none⟩ = some (.int .i64 ((tk : Int) + (k : Int))) := fun w' he => by have := (hbl.below he hbl.lt).cell 1; simpa using this
      have hl := fun w' (he : Ext wr w') => sm_lookup1 (hsm.ext he) (is_key (k := (tk : Int) + (k : Int)) (by omega) (by omega))
      obtain ⟨x, hx⟩ : ∃ x, (lookS kn ((tk : Int) + (k : Int))).getD [] = x := ⟨_, rfl⟩
      rw [hx] at hl
      unfold tx at hl
      have HX := Lib.hid hx
      have HB := Lib.hid hbl
      clear hx hsm hbl
      go_wp2_with fail
      refine wp_region_rely_tail 11 [none, none, none, none, none, none, none, none, none, none, some (One (.string ⟨x.toArray⟩))] (by kernel_rfl) (by kernel_rfl) ?_
      simp only [Wit, List.take_succ_cons, List.take_zero, List.drop_succ_cons, List.drop_zero]
      iterate 10 apply Exists.intro
      repeat (first | (refine rely_skip rfl ?_; simp only [Act.put, List.setIfInBounds_toArray, List.set_cons_zero, List.set_cons_succ]) | (apply rely_pure; (· rfl); (· intro w hw hd; go_simp; done); simp only [Act.put, List.setIfInBounds_toArray, List.set_cons_zero, List.set_cons_succ]) | (apply rely_pure; (· rfl); (· intro w hw hd; go_simp; exact rfl); simp only [Act.put, List.setIfInBounds_toArray, List.set_cons_zero, List.set_cons_succ]))
      refine rely_rel rfl (One.stays _) (fun w hw hd => ?_) ?_
      · go_simp
        exact ⟨one_new w _ _, (Below.refl _ _).alloc (Nat.le_refl _) _⟩
      intro v1
      simp only [Act.put, List.setIfInBounds_toArray, List.set_cons_zero, List.set_cons_succ]
      refine rely_nil ?_
      intro w4 hw4
      obtain ⟨ad, c4, rfl, hr4⟩ : One (.string ⟨x.toArray⟩) v1 w4 := (hw4.2 10).1
      have he4 := hw4.1
      have hm4 : Mod [p] w w4 := HM.out.trans' (Mod.of_below he4 _)
      have hown : w4.ownsRow w.heap.size 9 1 (.slice A k c) k (txs (takeL kn tk k)) := own_mod HO.out (Mod.of_below he4 []) (by simp)
      have hbs := hm4.size
      have b4 := Lib.hid (HB.out.below he4 HB.out.lt)
      clear hw4 C0 C1 hl
      go_wp2_with (at_builtin; refine wpList_app _ rfl (.tmp 20) (.tmp 30) _ rfl 9 i0 _ 1 16 Tryz.underlying37 hi0 hz0 hz1 hz2 rfl (by omega) (.slice A k c) k _ w.heap.size rfl hown _ _ 1 c4 [.string ⟨x.toArray⟩] rfl hr4 (by simp [Value.oneCell']) (by omega) hbs ?_; intro A5 c5 w5 hown5 hg5 hat5; have b5 := b4.out.grown hg5 (by intro e; have := (hown.lt p e.symm).1; omega); have d1 := b5.cell 1; have f1 := b5.frozen 1; simp at d1)
      go_roundw
      case rel =>
        have hm6 : Mod [p] w5 (w5.setCell ⟨p, 1, none⟩ (.int .i64 ((tk : Int) + (k : Int) + 1))) := (Mod.refl _ _).setCell (by simp) _
        have hm5 : Mod [p] w w5 := hm4.grown hg5 (fun j hj hjl => by have := (hown.lt j hj).1; omega)
        refine ⟨k + 1, c5, A5, rfl, by omega, ?_, ?_, Lib.hid (hm5.trans' hm6)⟩
        · have := b5.set_ 1 (.int .i64 ((tk : Int) + (k : Int) + 1))
          rw [show (tk : Int) + ((k + 1 : Nat) : Int) = (tk : Int) + (k : Int) + 1 by omega]
          simpa using this
        · refine Lib.hid (own_mod ?_ hm6 (fun j hj e => ?_))
          · rw [takeL_succ, HX.out]
            simpa [txs, tx] using hown5
          · simp at e
            have := (hown5.lt j hj).1
            omega
      case measure =>
        have h6 := (b5.set_ 1 (.int .i64 ((tk : Int) + (k : Int) + 1))).cell 1
        simp at h6
        rw [h6, c1]
        simp
        omega
    · have hnk : n - tk = k := by omega
      have i1 : ¬ (tk : Int) + (k : Int) < (n : Int) := by omega
      have HNK := Lib.hid hnk
      clear hnk
      have HB := Lib.hid hbl
      have HS := Lib.hid hsm
      clear hbl hsm
      go_wp2_with fail
      go_ret
      have hnk := HNK.out
      refine ⟨A, c, by rw [hnk]; rfl, by rw [hnk]; exact HO.out, ⟨b, ?_, HS.out, rfl⟩, HM.out.sub (fun j hj _ => by simp at hj; subst hj; simp)⟩
      rw [show (n : Int) = (tk : Int) + (k : Int) by omega]
      exact HB.out
end

end Go.Proofs.YtiglblfjmmdeeaaGreat
