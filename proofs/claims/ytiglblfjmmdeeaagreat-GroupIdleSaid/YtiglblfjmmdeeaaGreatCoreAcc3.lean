/- core.Acceptor: Accept. -/
import Derived.Test.YtiglblfjmmdeeaaGreatCoreAcc2
namespace Go.Proofs.YtiglblfjmmdeeaaGreat
open Go.RowKit Go.Maps Go.ChangeMaps

attribute [local go_sem] Oper.pureUpon Oper.relUpon

section
variable {W w w' : World} {F : List Nat} {p top : Nat} {pr pn : Int} {vs : List (Int × Vt)}
theorem acc_end {w9 w10 w11 w12 : World} {b : Nat} {r n : Int} {vs' : List (Int × Vt)} (h : IsAcc w F p pr pn vs top) (hF : F = [p, b]) (h1 : Ext w w9) (h2 : Mod [p] w9 w10) (h3 : Ext w10 w11) (h4 : Mod [b] w11 w12)
    (hb : Blk w12 p 134 #[.int .i64 r, .int .i64 n, .map (some b), .int .i64 (top : Int)]) (hm : IM w12 b (vs'.map fun x => (x.1, vtv x.2))) (hbp : b ≠ p) (t' : Nat) :
    IsAcc (w12.setCell ⟨p, 3, none⟩ (.int .i64 (t' : Int))) F p r n vs' t' ∧ Next F F w (w12.setCell ⟨p, 3, none⟩ (.int .i64 (t' : Int))) := by
  have hm5 : Mod [p] w12 (w12.setCell ⟨p, 3, none⟩ (.int .i64 (t' : Int))) := (Mod.refl _ _).setCell (by simp) _
  have hmod : Mod F w (w12.setCell ⟨p, 3, none⟩ (.int .i64 (t' : Int))) := by
    rw [hF]
    have a1 : Mod [p, b] w w9 := Mod.of_below h1 _
    have a2 : Mod [p, b] w9 w10 := h2.sub (fun k hk _ => by simp at hk; subst hk; simp)
    have a3 : Mod [p, b] w10 w11 := Mod.of_below h3 _
    have a4 : Mod [p, b] w11 w12 := h4.sub (fun k hk _ => by simp at hk; subst hk; simp)
    have a5 : Mod [p, b] w12 (w12.setCell ⟨p, 3, none⟩ (.int .i64 (t' : Int))) := hm5.sub (fun k hk _ => by simp at hk; subst hk; simp)
    exact (((a1.trans' a2).trans' a3).trans' a4).trans' a5
  refine ⟨⟨b, by simpa using hb.set_ 3 (.int .i64 (t' : Int)), IM.keep hm (hm5.block b (IM.lt hm) (by simpa using hbp)), hF⟩, hmod, fun k hk => ⟨.inl hk, Nat.lt_of_lt_of_le (h.lt k hk) hmod.size⟩⟩

set_option maxRecDepth 100000 in
set_option maxHeartbeats 2000000 in
theorem acc_accept (h : IsAcc w F p pr pn vs top) (r n : Int) (slot : Nat) (v : List UInt8) (hl : balLess r n pr pn = false) (hr : 0 < r) (hs : slot < 1048576) (ht : top ≤ 1048576) :
    Calls Tryz.prog 153 #[.pointer (some ⟨p, 0, none⟩), bal r n, .int .i64 slot, tx v] w fun e w' => e = .returned (.bool true) ∧ IsAcc w' F p r n (putV vs slot ⟨slot, r, n, v⟩) (max top (slot + 1)) ∧ Next F F w w' := by
  have H := Lib.hid h
  obtain ⟨c0, c1, _, f0⟩ := acc_cells h
  have FZ := Lib.hid f0
  clear f0
  have hc := fun w => less_calls w r n pr pn
  rw [hl] at hc
  unfold bal tx at *
  have he1 : Ext w (w.alloc (.cells #[.int .i64 r, .int .i64 n] 108)) := (Below.refl _ _).alloc (Nat.le_refl _) _
  have b1 := Blk.new w 108 #[.int .i64 r, .int .i64 n]
  have HC := Lib.hid hc
  have K0 := Lib.hid c0
  have K1 := Lib.hid c1
  have B1 := Lib.hid b1
  have HE := Lib.hid he1
  clear hc c0 c1 b1 he1 h hl
  have i1 : ((r : Int) == 0) = false := by simp; omega
  have i2 : ¬ ((slot : Int) < 0) := by omega
  have i3 : decide ((1048576 : Int) ≤ (slot : Int)) = false := decide_eq_false (by omega)
  go_enter Tryz.func153, Tryz.ntmps153
  go_wp2_with fail
  obtain ⟨g, hg⟩ : ∃ g, w.heap.size = g := ⟨_, rfl⟩
  obtain ⟨w1, hw1⟩ : ∃ w1, w.alloc (.cells #[.int .i64 r, .int .i64 n] 108) = w1 := ⟨_, rfl⟩
  have b1 := B1.out
  have he1 := HE.out
  rw [hw1] at b1 he1
  rw [hg] at b1
  rw [hw1]
  have C0 : ∀ w', Ext w1 w' → w'.cell? ⟨p, 0, none⟩ = some (.int .i64 pr) := fun w' he => K0.out w' (he1.trans he)
  have C1 : ∀ w', Ext w1 w' → w'.cell? ⟨p, 1, none⟩ = some (.int .i64 pn) := fun w' he => K1.out w' (he1.trans he)
  have D0 : ∀ w', Ext w1 w' → w'.cell? ⟨g, 0, none⟩ = some (.int .i64 r) := fun w' he => by have := (b1.below he b1.lt).cell 0; simpa using this
  have D1 : ∀ w', Ext w1 w' → w'.cell? ⟨g, 1, none⟩ = some (.int .i64 n) := fun w' he => by have := (b1.below he b1.lt).cell 1; simpa using this
  have HE1 := Lib.hid he1
  have HB1 := Lib.hid b1
  clear hw1 b1 he1 B1
  refine wp_region_rely [none, none, none, none, none, none, none, none, none, none, none, none, none, none, none, none, none, none, none] (by kernel_rfl) (by kernel_rfl) ?_
  simp only [Wit]
  iterate 19 apply Exists.intro
  repeat (first | (refine rely_skip rfl ?_; simp only [Act.put, List.setIfInBounds_toArray, List.set_cons_zero, List.set_cons_succ]) | (apply rely_pure; (· rfl); (· intro w hw hd; go_simp; done); simp only [Act.put, List.setIfInBounds_toArray, List.set_cons_zero, List.set_cons_succ]) | (apply rely_pure; (· rfl); (· intro w hw hd; go_simp; exact rfl); simp only [Act.put, List.setIfInBounds_toArray, List.set_cons_zero, List.set_cons_succ]))
  apply rely_pure
  · rfl
  · intro w hw hd
    go_simp
    exact HC.out w
  simp only [Act.put, List.setIfInBounds_toArray, List.set_cons_zero, List.set_cons_succ]
  repeat (first | (refine rely_skip rfl ?_; simp only [Act.put, List.setIfInBounds_toArray, List.set_cons_zero, List.set_cons_succ]) | (apply rely_pure; (· rfl); (· intro w hw hd; go_simp; done); simp only [Act.put, List.setIfInBounds_toArray, List.set_cons_zero, List.set_cons_succ]) | (apply rely_pure; (· rfl); (· intro w hw hd; go_simp; exact rfl); simp only [Act.put, List.setIfInBounds_toArray, List.set_cons_zero, List.set_cons_succ]))
  refine rely_nil ?_
  intro w9 hw9
  have he9 := hw9.1
  clear hw9 C0 C1 D0 D1
  have h9 := H.out.ext (HE1.out.trans he9)
  have f0 := FZ.out w9 (HE1.out.trans he9) 0
  have f1 := FZ.out w9 (HE1.out.trans he9) 1
  have d0 := K0.out w9 (HE1.out.trans he9)
  have d1 := K1.out w9 (HE1.out.trans he9)
  have e0 := (HB1.out.below he9 HB1.out.lt).cell 0
  have e1 := (HB1.out.below he9 HB1.out.lt).cell 1
  simp at e0 e1
  obtain ⟨h10, hm10⟩ := acc_set h9 r n
  have HB9 := Lib.hid (HB1.out.below he9 HB1.out.lt)
  have HX := Lib.hid (HE1.out.trans he9)
  obtain ⟨w10, hw10⟩ : ∃ w10, (w9.setCell ⟨p, 0, none⟩ (.int .i64 r)).setCell ⟨p, 1, none⟩ (.int .i64 n) = w10 := ⟨_, rfl⟩
  rw [hw10] at h10 hm10
  have H10 := Lib.hid (And.intro h10 hm10)
  obtain ⟨b, hb10, hv10, hF⟩ := id h10
  have hbp : b ≠ p := by
    rintro rfl
    obtain ⟨es, ck, hb, _⟩ := hv10
    unfold Blk at hb10
    rw [hb10] at hb
    cases hb
  have hgp : g ≠ p := by
    have := H.out.lt p (by rw [hF]; simp)
    omega
  have hg10 : Blk w10 g 108 #[.int .i64 r, .int .i64 n] := HB9.out.keep (hm10.block g HB9.out.lt (by simpa using hgp))
  have HP10 := Lib.hid hb10
  have HV10 := Lib.hid hv10
  have HG10 := Lib.hid hg10
  have HFF := Lib.hid hF
  clear h9 h10 hm10 he9 hb10 hv10 hg10 hF
  go_upto_region 4 with fail
  have E2 : ∀ w', Ext w10 w' → w'.cell? ⟨p, 2, none⟩ = some (.map (some b)) := fun w' he => by have := (HP10.out.below he HP10.out.lt).cell 2; simpa using this
  have G0 : ∀ w', Ext w10 w' → w'.cell? ⟨g, 0, none⟩ = some (.int .i64 r) := fun w' he => by have := (HG10.out.below he HG10.out.lt).cell 0; simpa using this
  have G1 : ∀ w', Ext w10 w' → w'.cell? ⟨g, 1, none⟩ = some (.int .i64 n) := fun w' he => by have := (HG10.out.below he HG10.out.lt).cell 1; simpa using this
  have HW10 := Lib.hid hw10
  clear hw10
  refine wp_region_rely_tail 9 [none, none, none, none, none, none, none, none, none] (by kernel_rfl) (by kernel_rfl) ?_
  simp only [Wit, List.take_succ_cons, List.take_zero, List.drop_succ_cons, List.drop_zero]
  iterate 9 apply Exists.intro
  repeat (first | (refine rely_skip rfl ?_; simp only [Act.put, List.setIfInBounds_toArray, List.set_cons_zero, List.set_cons_succ]) | (apply rely_pure; (· rfl); (· intro w hw hd; go_simp; done); simp only [Act.put, List.setIfInBounds_toArray, List.set_cons_zero, List.set_cons_succ]) | (apply rely_pure; (· rfl); (· intro w hw hd; go_simp; exact rfl); simp only [Act.put, List.setIfInBounds_toArray, List.set_cons_zero, List.set_cons_succ]))
  refine rely_nil ?_
  intro w11 hw11
  have he11 := hw11.1
  have hb11 := HP10.out.below he11 HP10.out.lt
  have hv11 : AM w11 b vs := IM.ext HV10.out he11
  have HX11 := Lib.hid he11
  have HB11 := Lib.hid hb11
  have HV11 := Lib.hid hv11
  have hk : isKey (slot : Int) := is_key (by omega) (by omega)
  clear hw11 E2 G0 G1 he11 hb11 hv11
  go_upto_region 5 with (at_mapUpdate; refine wpList_mapUpdate_im _ rfl _ _ _ 132 rfl 3 117 Tryz.underlying132 Tryz.underlying3 b _ rfl HV11.out slot rfl hk (vtv ⟨slot, r, n, v⟩) rfl ?_; intro w12 hm12 hmod12 hsz12)
  have hb12 : Blk w12 p 134 #[.int .i64 r, .int .i64 n, .map (some b), .int .i64 (top : Int)] := HB11.out.keep (hmod12.block p HB11.out.lt (by simpa using (Ne.symm hbp)))
  have c3 := hb12.cell 3
  have f3 := hb12.frozen 3
  simp at c3
  have HB12 := Lib.hid hb12
  have HM12 := Lib.hid (And.intro hm12 (And.intro hmod12 hsz12))
  clear hb12 hm12 hmod12 hsz12
  have hfin := fun t' => acc_end (t' := t') (vs' := putV vs slot ⟨slot, r, n, v⟩) H.out HFF.out HX.out H10.out.2 HX11.out HM12.out.2.1 HB12.out (by have := HM12.out.1; rw [putL_vt] at this; exact this) hbp
  have HFN := Lib.hid hfin
  clear hfin
  by_cases hts : slot + 1 ≤ top
  · have j1 : max top (slot + 1) = top := by omega
    have J1 := Lib.hid j1
    have j2 : ¬ ((top : Int) < (slot : Int) + 1) := by omega
    clear j1 hts
    go_wp2_with fail
    all_goals go_ret
    all_goals (rw [J1.out]; exact ⟨rfl, HFN.out top⟩)
  · have j1 : max top (slot + 1) = slot + 1 := by omega
    have J1 := Lib.hid j1
    have j2 : (top : Int) < (slot : Int) + 1 := by omega
    have h5 := HFN.out (slot + 1)
    rw [show ((slot + 1 : Nat) : Int) = (slot : Int) + 1 by omega] at h5
    have H5 := Lib.hid h5
    clear j1 hts h5
    go_wp2_with fail
    all_goals go_ret
    all_goals (rw [J1.out]; exact ⟨rfl, H5.out⟩)
end

end Go.Proofs.YtiglblfjmmdeeaaGreat
