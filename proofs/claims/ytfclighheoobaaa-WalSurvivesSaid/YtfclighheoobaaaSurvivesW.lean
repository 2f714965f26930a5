/- WalSurvives: the walk. -/
import Derived.Test.YtfclighheoobaaaSurvives
import Derived.IntWalk
namespace Go.Proofs.Ytfclighheoobaaa
open Go.RowKit

attribute [local go_sem] ba_append ba_extract ba_size Oper.pureUpon Oper.relUpon
attribute [local go_sem ↓] Go.wp_at_zero Go.wp_at_succ

set_option maxRecDepth 100000 in
set_option maxHeartbeats 4000000 in
theorem survives_walk (W : World) (A : Option Addr) (n c : Nat) (K N : Nat → Int) (X : Nat → List UInt8) (hl : AskS W A n K N X) :
    Calls Try.prog 13 #[.slice A n c] W fun e w' => e = .returned (.bool true) ∧ Below W.heap.size W w' := by
  have hn := hl.1
  unfold maxLen at hn
  have HL := Lib.hid hl.2
  clear hl
  obtain ⟨i0, hi0, hz0, hz1, hz2⟩ := info_parts ptr_info
  go_enter Try.func13, Try.ntmps13
  go_wp2_with fail
  refine (fresh_j W).mono ?_
  rintro e w1 ⟨p0, dp, rfl, h1⟩
  go_wp2_with fail
  refine (rf_new w1).mono ?_
  rintro e w2 ⟨q0, rfl, hq, h2, he2⟩
  have hpe : PE W w2 [] [] p0 dp q0 0 0 St.init St.init [] := by
    obtain ⟨⟨Fd, Fl, hd, hl, s0⟩, hr⟩ := h1
    have s1 : Sep W w2 [[q0], Fd, Fl] := s0.new he2 (by intro k hk; simp at hk; subst hk; exact ⟨by omega, h2.lt⟩)
    exact ⟨[q0], ⟨⟨Fd, Fl, hd.ext he2, hl.ext he2, s1.rot⟩, hr⟩, small_init, h2, by simp⟩
  clear h1 h2 he2 hq
  go_wp2_with fail
  refine (pe_copy hpe q0 St.init (.inl rfl)).mono ?_
  rintro e w3 ⟨q1, rfl, h3, _, _⟩
  clear hpe
  have hge := h3.below.size
  have h4 := h3.block (.cells #[.pointer (some ⟨q1, 0, none⟩)] 68)
  have hsv : Sv W (w3.alloc (.cells #[.pointer (some ⟨q1, 0, none⟩)] 68)) [] dp 1 0 p0 q0 St.init [(q1, St.init)] (some ⟨w3.heap.size, 0, none⟩) 1 :=
    ⟨[], [], [], 0, h4, ⟨rfl, .inr ⟨w3.heap.size, 1, _, rfl, hge, heap_alloc_new w3 _, Nat.le_refl _, by decide, rfl, rfl⟩⟩, rfl, by decide, rfl, fun i e he => by
      have hi : i = 0 := by have := (List.getElem?_eq_some_iff.1 he).1; simp at this; omega
      subst hi
      simp at he
      subst he
      exact ⟨.nil, few_init⟩, few_init⟩
  have hsv' := hsv
  clear h3 h4 hge
  go_wp2_with fail
  go_loopw [4, 6, 7, 8] (fun x v st i wr => ∃ (k p q : Nat) (s : St) (T : List (Nat × St)) (A : Option Addr) (c : Nat), k ≤ n ∧ k ≤ 60 ∧ x = .pointer (some ⟨p, 0, none⟩) ∧ v = .pointer (some ⟨q, 0, none⟩) ∧ st = .slice A T.length c ∧ i = .int .i64 k ∧ Sv W wr [] dp 1 k p q s T A c) (fun _ _ _ i _ => 60 - (intOf i).toNat)
  case atStart => exact ⟨0, p0, q0, St.init, _, _, _, by omega, by omega, rfl, rfl, rfl, rfl, hsv⟩
  case round =>
    obtain ⟨k, p, q, s, T, A5, c5, hkn, hk60, rfl, rfl, rfl, rfl, hp⟩ := hrel
    clear hsv hsv'
    have hpb : Below W.heap.size W wr := by obtain ⟨_, _, _, _, h, _⟩ := hp; exact h.below
    by_cases hlt : k < n ∧ k < 60
    · obtain ⟨hlt1, hlt2⟩ := hlt
      obtain ⟨b, o, rfl, hab, hc0, hc1, hc2⟩ := HL.out k hlt1
      have hcb := fun j v (h : W.cell? ⟨b, j, none⟩ = some v) => (hpb.cell (p := ⟨b, j, none⟩) hab).trans h
      have g0 := hcb _ _ hc0
      have g1 := hcb _ _ hc1
      have g2 := hcb _ _ hc2
      clear hcb hc0 hc1 hc2 hpb
      obtain ⟨xs, hxs⟩ : ∃ xs, (X k).take 100 = xs := ⟨_, rfl⟩
      have hxl : xs.length ≤ 100 := by rw [← hxs, List.length_take]; omega
      have hfew := fun w => few_calls w (X k)
      rw [hxs] at hfew
      have HFW := Lib.hid hfew
      clear hxs hfew
      generalize hkk : K k = kk at *
      generalize hnk : N k = nk at *
      generalize hxk : X k = xk at *
      clear hkk hnk hxk
      obtain ⟨g, hg⟩ : ∃ g, wr.heap.size = g := ⟨_, rfl⟩
      obtain ⟨es, es0, es1, sf, hpe, hrow, hes, hsf, hTl, hTr, hfe⟩ := hp
      have HES := Lib.hid hes
      have HTR := Lib.hid hTr
      have HFE := Lib.hid hfe
      have HTL := Lib.hid hTl
      have hrl := hfe.2.1
      have hfi := hfe.1
      clear hes hTr hfe hTl
      go_wp2_with fail
      refine (HFW.out _).mono ?_
      rintro e w3 ⟨rfl, rfl⟩
      go_upto_block 2 with fail
      clear g0 g1 g2 hab hkn hk60
      obtain ⟨wx, hwx⟩ : ∃ wx, wr.alloc (.cells #[.int .i64 kk, .int .i64 nk, .string ⟨xs.toArray⟩] 72) = wx := ⟨_, rfl⟩
      rw [hwx]
      have bg : Blk wx g 72 #[.int .i64 kk, .int .i64 nk, .string ⟨xs.toArray⟩] := by rw [← hwx, ← hg]; exact Blk.new _ _ _
      have pg : PE W wx ((Value.slice A5 T.length c5).ownBlock.toList :: [[g]]) es p dp q sf k s s T := by
        have := hpe.block (.cells #[.int .i64 kk, .int .i64 nk, .string ⟨xs.toArray⟩] 72)
        rw [hwx, hg] at this
        exact this.perm (List.Perm.swap _ _ _)
      have hrw : wx.ownsRow W.heap.size 68 1 (.slice A5 T.length c5) T.length (T.map ptrOf) := by rw [← hwx]; exact own_mod hrow ((Mod.refl [] _).alloc _) (by simp)
      have hsm := pg.small
      have HROW := Lib.hid hrw
      clear hpe hwx hrow hrw
      go_cut [4, 6, 7] (fun x v st wk => ∃ (p q : Nat) (s : St) (T : List (Nat × St)) (A : Option Addr) (c : Nat), x = .pointer (some ⟨p, 0, none⟩) ∧ v = .pointer (some ⟨q, 0, none⟩) ∧ st = .slice A T.length c ∧ Sv W wk [[g]] dp 0 (k + 1) p q s T A c)
      case first =>
        have cells : ∀ w', Blk w' g 72 #[.int .i64 kk, .int .i64 nk, .string ⟨xs.toArray⟩] → w'.cell? ⟨g, 1, none⟩ = some (.int .i64 nk) ∧ w'.cell? ⟨g, 2, none⟩ = some (.string ⟨xs.toArray⟩) := fun w' h => by
          have e1 := h.cell 1
          have e2 := h.cell 2
          simp at e1 e2
          exact ⟨e1, e2⟩
        have HCL := Lib.hid cells
        have HBG := Lib.hid bg
        obtain ⟨x1, x2⟩ := cells _ bg
        clear cells bg
        by_cases h1 : kk = 1
        · subst h1
          have hfirst := fun w' (he : Ext wx w') => pe_first (pg.ext he)
          have hnext := fun w' (he : Ext wx w') => pe_next (pg.ext he)
          obtain ⟨f, hf⟩ : ∃ f, s.first = f := ⟨_, rfl⟩
          obtain ⟨nx, hnx⟩ : ∃ nx, s.next = nx := ⟨_, rfl⟩
          obtain ⟨d, hd⟩ : ∃ d, s.recs.length = d := ⟨_, rfl⟩
          have hnd : (nx : Int) - (f : Int) = (d : Int) := by rw [← hnx, ← hf, ← hd]; unfold St.next; omega
          have hfb : f ≤ 1 + 6 * k := by rw [← hf]; exact hfi
          have hdb : d ≤ k := by rw [← hd]; exact hrl
          rw [hf] at hfirst
          rw [hnx] at hnext
          obtain ⟨r, hr, hrd⟩ := within_nat nk d
          have hwi := fun w => (within_calls w nk 0 (d : Int) (by decide) (by omega) (by omega)).mono (R' := fun e w' => e = .returned (.int .i64 (r : Int)) ∧ Ext w w') (by rintro e w' ⟨rfl, rfl⟩; rw [hr]; exact ⟨rfl, Ext.refl _⟩)
          have C1 : ∀ w', Ext wx w' → w'.cell? ⟨g, 1, none⟩ = some (.int .i64 nk) := fun w' he => (HCL.out w' (HBG.out.below he HBG.out.lt)).1
          have HF := Lib.hid hfirst
          have HX := Lib.hid hnext
          have HW := Lib.hid hwi
          have HS := Lib.hid (And.intro hf (And.intro hnx hd))
          have hws : IntKind.i64.wrap ((nx : Int) - (f : Int)) = (d : Int) := by rw [hnd]; exact IntWalk.i64_in _ (by omega)
          have hwd : IntKind.i64.wrap (d : Int) = (d : Int) := IntWalk.i64_in _ (by omega)
          have hwa : IntKind.i64.wrap ((f : Int) + (r : Int)) = (f : Int) + (r : Int) := IntWalk.i64_in _ (by omega)
          have PG := Lib.hid pg
          clear hfirst hnext hwi hf hnx hd hr pg x1 x2 hfi hrl
          go_upto_region 29 with fail
          refine wp_region_rely [none, none, none, none, none, none, none, none, none, none, none, none] (by kernel_rfl) (by kernel_rfl) ?_
          simp only [Wit]
          iterate 12 apply Exists.intro
          (first | (refine rely_skip rfl ?_; simp only [Act.put, List.setIfInBounds_toArray, List.set_cons_zero, List.set_cons_succ]) | (apply rely_pure; (· rfl); (· intro w hw hd; go_simp; done); simp only [Act.put, List.setIfInBounds_toArray, List.set_cons_zero, List.set_cons_succ]) | (apply rely_pure; (· rfl); (· intro w hw hd; go_simp; exact rfl); simp only [Act.put, List.setIfInBounds_toArray, List.set_cons_zero, List.set_cons_succ]))
          apply rely_pure
          · rfl
          · intro w hw hd
            go_simp
            exact HF.out w hw
          simp only [Act.put, List.setIfInBounds_toArray, List.set_cons_zero, List.set_cons_succ]
          repeat (first | (refine rely_skip rfl ?_; simp only [Act.put, List.setIfInBounds_toArray, List.set_cons_zero, List.set_cons_succ]) | (apply rely_pure; (· rfl); (· intro w hw hd; go_simp; done); simp only [Act.put, List.setIfInBounds_toArray, List.set_cons_zero, List.set_cons_succ]) | (apply rely_pure; (· rfl); (· intro w hw hd; go_simp; exact rfl); simp only [Act.put, List.setIfInBounds_toArray, List.set_cons_zero, List.set_cons_succ]))
          apply rely_pure
          · rfl
          · intro w hw hd
            go_simp
            exact HX.out w hw
          simp only [Act.put, List.setIfInBounds_toArray, List.set_cons_zero, List.set_cons_succ]
          repeat (first | (refine rely_skip rfl ?_; simp only [Act.put, List.setIfInBounds_toArray, List.set_cons_zero, List.set_cons_succ]) | (apply rely_pure; (· rfl); (· intro w hw hd; go_simp; done); simp only [Act.put, List.setIfInBounds_toArray, List.set_cons_zero, List.set_cons_succ]) | (apply rely_pure; (· rfl); (· intro w hw hd; go_simp; exact rfl); simp only [Act.put, List.setIfInBounds_toArray, List.set_cons_zero, List.set_cons_succ]))
          apply rely_pure
          · rfl
          · intro w hw hd
            go_simp
            exact HF.out w hw
          simp only [Act.put, List.setIfInBounds_toArray, List.set_cons_zero, List.set_cons_succ]
          repeat (first | (refine rely_skip rfl ?_; simp only [Act.put, List.setIfInBounds_toArray, List.set_cons_zero, List.set_cons_succ]) | (apply rely_pure; (· rfl); (· intro w hw hd; go_simp; done); simp only [Act.put, List.setIfInBounds_toArray, List.set_cons_zero, List.set_cons_succ]) | (apply rely_pure; (· rfl); (· intro w hw hd; go_simp; exact rfl); simp only [Act.put, List.setIfInBounds_toArray, List.set_cons_zero, List.set_cons_succ]))
          apply rely_pure
          · rfl
          · intro w hw hd
            go_simp
            exact HW.out w
          simp only [Act.put, List.setIfInBounds_toArray, List.set_cons_zero, List.set_cons_succ]
          repeat (first | (refine rely_skip rfl ?_; simp only [Act.put, List.setIfInBounds_toArray, List.set_cons_zero, List.set_cons_succ]) | (apply rely_pure; (· rfl); (· intro w hw hd; go_simp; done); simp only [Act.put, List.setIfInBounds_toArray, List.set_cons_zero, List.set_cons_succ]) | (apply rely_pure; (· rfl); (· intro w hw hd; go_simp; exact rfl); simp only [Act.put, List.setIfInBounds_toArray, List.set_cons_zero, List.set_cons_succ]))
          refine rely_nil ?_
          intro w4 hw4
          have he4 := hw4.1
          have p4 := PG.out.ext he4
          have b4 := HBG.out.below he4 HBG.out.lt
          have x4 := (HCL.out w4 b4).2
          have R4 := Lib.hid (own_mod HROW.out (Mod.of_below he4 []) (by simp))
          obtain ⟨hf, hnx, hd⟩ := HS.out
          have hput := pe_put p4 (f + r) xs (by omega) (by unfold St.next; omega) (by omega) hxl (by omega)
          have hrp := fun w m es s' (h : PE W w ((Value.slice A5 T.length c5).ownBlock.toList :: [[g]]) es p dp q sf m s' s T) => pe_rput h (f + r) xs (by omega) (by unfold St.next; omega) (by omega) hxl (by omega)
          rw [show ((f + r : Nat) : Int) = (f : Int) + (r : Int) by omega] at hput
          simp only [show ((f + r : Nat) : Int) = (f : Int) + (r : Int) by omega] at hrp
          have HRP := Lib.hid hrp
          have HPT := Lib.hid hput
          have B4 := Lib.hid b4
          clear hrp hput b4 hw4 he4 C1 hf hnx hd p4
          go_wp2_with fail
          refine (HPT.out).mono ?_
          rintro e w5 ⟨rfl, p5, k5⟩
          have b5 := B4.out.keep (k5 [g] (by simp) g (by simp))
          have x5 := (HCL.out w5 b5).2
          have R5 := Lib.hid (own_keep R4.out (k5 _ (by simp)))
          clear k5 b5 x4 R4 HPT
          go_wp2_with fail
          refine (HRP.out _ _ _ _ p5).mono ?_
          rintro e w6 ⟨rfl, p6, k6⟩
          have R6 := Lib.hid (own_keep R5.out (k6 _ (by simp)))
          clear p5 k6 x5 R5 HRP
          go_wp2_with fail
          all_goals go_meet
          all_goals exact ⟨p, q, _, T, A5, c5, rfl, rfl, rfl, sv_snoc p6 R6.out HES.out hsf HTL.out HTR.out (few_put HFE.out hxl)⟩
        by_cases h2 : kk = 2
        · subst h2
          clear x1
          go_wp2_with fail
          refine (pe_meta pg xs hxl (by omega)).mono ?_
          rintro e w5 ⟨rfl, p5, k5⟩
          have b5 := HBG.out.keep (k5 [g] (by simp) g (by simp))
          have x5 := (HCL.out w5 b5).2
          have r5 := own_keep HROW.out (k5 _ (by simp))
          have R5 := Lib.hid r5
          clear pg k5 b5 r5 x2
          go_wp2_with fail
          refine (pe_rmeta p5 xs hxl).mono ?_
          rintro e w6 ⟨rfl, p6, k6⟩
          have R6 := Lib.hid (own_keep R5.out (k6 _ (by simp)))
          clear p5 k6 x5 R5
          go_wp2_with fail
          all_goals go_meet
          all_goals exact ⟨p, q, _, T, A5, c5, rfl, rfl, rfl, sv_snoc p6 R6.out HES.out hsf HTL.out HTR.out (few_meta HFE.out hxl)⟩
        by_cases h3 : kk = 3
        · subst h3
          have hfirst := fun w' (he : Ext wx w') => pe_first (pg.ext he)
          obtain ⟨f, hf⟩ : ∃ f, s.first = f := ⟨_, rfl⟩
          have hfb : f ≤ 1 + 6 * k := by rw [← hf]; exact hfi
          rw [hf] at hfirst
          obtain ⟨r, (hr : within nk 0 6 = _), hrd⟩ := within_nat nk 6
          have hwi := fun w => (within_calls w nk 0 6 (by decide) (by decide) (by decide)).mono (R' := fun e w' => e = .returned (.int .i64 (r : Int)) ∧ Ext w w') (by rintro e w' ⟨rfl, rfl⟩; rw [hr]; exact ⟨rfl, Ext.refl _⟩)
          have C1 : ∀ w', Ext wx w' → w'.cell? ⟨g, 1, none⟩ = some (.int .i64 nk) := fun w' he => (HCL.out w' (HBG.out.below he HBG.out.lt)).1
          have HF := Lib.hid hfirst
          have HW := Lib.hid hwi
          have HS := Lib.hid hf
          have hwa : IntKind.i64.wrap ((f : Int) + (r : Int)) = (f : Int) + (r : Int) := IntWalk.i64_in _ (by omega)
          have PG := Lib.hid pg
          clear hfirst hwi hf hr pg x1 x2 hfi hrl
          go_upto_region 36 with fail
          refine wp_region_rely [none, none, none, none, none, none, none] (by kernel_rfl) (by kernel_rfl) ?_
          simp only [Wit]
          iterate 7 apply Exists.intro
          (first | (refine rely_skip rfl ?_; simp only [Act.put, List.setIfInBounds_toArray, List.set_cons_zero, List.set_cons_succ]) | (apply rely_pure; (· rfl); (· intro w hw hd; go_simp; done); simp only [Act.put, List.setIfInBounds_toArray, List.set_cons_zero, List.set_cons_succ]) | (apply rely_pure; (· rfl); (· intro w hw hd; go_simp; exact rfl); simp only [Act.put, List.setIfInBounds_toArray, List.set_cons_zero, List.set_cons_succ]))
          apply rely_pure
          · rfl
          · intro w hw hd
            go_simp
            exact HF.out w hw
          simp only [Act.put, List.setIfInBounds_toArray, List.set_cons_zero, List.set_cons_succ]
          repeat (first | (refine rely_skip rfl ?_; simp only [Act.put, List.setIfInBounds_toArray, List.set_cons_zero, List.set_cons_succ]) | (apply rely_pure; (· rfl); (· intro w hw hd; go_simp; done); simp only [Act.put, List.setIfInBounds_toArray, List.set_cons_zero, List.set_cons_succ]) | (apply rely_pure; (· rfl); (· intro w hw hd; go_simp; exact rfl); simp only [Act.put, List.setIfInBounds_toArray, List.set_cons_zero, List.set_cons_succ]))
          apply rely_pure
          · rfl
          · intro w hw hd
            go_simp
            exact HW.out w
          simp only [Act.put, List.setIfInBounds_toArray, List.set_cons_zero, List.set_cons_succ]
          repeat (first | (refine rely_skip rfl ?_; simp only [Act.put, List.setIfInBounds_toArray, List.set_cons_zero, List.set_cons_succ]) | (apply rely_pure; (· rfl); (· intro w hw hd; go_simp; done); simp only [Act.put, List.setIfInBounds_toArray, List.set_cons_zero, List.set_cons_succ]) | (apply rely_pure; (· rfl); (· intro w hw hd; go_simp; exact rfl); simp only [Act.put, List.setIfInBounds_toArray, List.set_cons_zero, List.set_cons_succ]))
          refine rely_nil ?_
          intro w4 hw4
          have he4 := hw4.1
          have p4 := PG.out.ext he4
          have b4 := HBG.out.below he4 HBG.out.lt
          have x4 := (HCL.out w4 b4).2
          have hf := HS.out
          have hput := pe_base p4 (f + r) xs (by omega) (by omega) hxl (by omega)
          have hrp := fun w m sf es s' (h : PE W w ((Value.slice A5 T.length c5).ownBlock.toList :: [[g]]) es p dp q sf m s' s T) => pe_rbase h (f + r) xs (by omega) (by omega) hxl
          rw [show ((f + r : Nat) : Int) = (f : Int) + (r : Int) by omega] at hput
          simp only [show ((f + r : Nat) : Int) = (f : Int) + (r : Int) by omega] at hrp
          have hfb6 := few_base (n := f + r) HFE.out (by omega) hxl
          have HRP := Lib.hid hrp
          have HPT := Lib.hid hput
          have B4 := Lib.hid b4
          have HFB := Lib.hid hfb6
          clear hrp hput b4 hw4 he4 C1 hf p4 hfb6
          go_wp2_with fail
          refine (HPT.out).mono ?_
          rintro e w5 ⟨rfl, es5, p5, k5⟩
          have b5 := B4.out.keep (k5 [g] (by simp) g (by simp))
          have x5 := (HCL.out w5 b5).2
          clear k5 b5 x4 HPT
          go_wp2_with fail
          refine (HRP.out _ _ _ _ _ p5).mono ?_
          rintro e w6 ⟨rfl, p6, k6⟩
          clear p5 k6 x5 HRP
          go_wp2_with fail
          all_goals go_meet
          all_goals exact ⟨p, q, _, [], none, 0, rfl, rfl, rfl, sv_clear (p6.more (by omega)) HFB.out⟩
        by_cases h4 : kk = 4
        · subst h4
          clear x1 x2
          go_wp2_with fail
          refine (pe_sync pg).mono ?_
          rintro e w5 ⟨rfl, p5, _⟩
          clear pg
          go_wp2_with fail
          all_goals go_meet
          all_goals exact ⟨p, q, s, [], none, 0, rfl, rfl, rfl, sv_clear (p5.more (by omega)) (HFE.out.more (by omega))⟩
        · have hrn := pg.runs
          have hTlen : T.length ≤ 100 := by
            have h1 := hsm.2.1
            rw [HES.out, List.length_append] at h1
            have h2 := HTL.out
            omega
          have HSM := Lib.hid hsm
          clear x2 hsm
          go_wp2_with fail
          refine (pe_crash pg nk).mono ?_
          rintro e w5 ⟨rfl, j, tn, sf5, hj, ht, hlo, pd, hsf5, k5⟩
          obtain ⟨s6, i6, e6, hr6, hi6, he6, hf6⟩ := crash_state hrn HES.out HTL.out HTR.out hj (hlo es0.length (by rw [HES.out]; simp) (by rw [HES.out, List.take_left]; exact hsf))
          have hop := pd_open pd hr6 ht hsf5 (by omega) (small_take (j := j) HSM.out hf6)
          obtain ⟨es6, hes6⟩ : ∃ es6, es.take j = es6 := ⟨_, rfl⟩
          rw [hes6] at hop
          have HOP := Lib.hid hop
          have R5 := Lib.hid (own_keep HROW.out (k5 _ (by simp)))
          have HF6 := Lib.hid hf6
          have HI6 := Lib.hid (And.intro hi6 he6)
          clear pg hrn hj ht hlo pd hsf5 k5 hr6 hi6 he6 hf6 hop hes6 HROW HES HTR HTL HFE hsf HBG HCL HSM x1
          go_wp2_with fail
          refine HOP.out.mono ?_
          rintro e w7 ⟨y, rfl, p7, k7⟩
          have R7 := Lib.hid (own_keep R5.out (k7 _ (by simp)))
          clear k7 R5 HOP
          have P7 := Lib.hid p7
          have hb7 := p7.below
          clear p7
          go_wp2_with fail
          go_loopw [14, 15] (fun f v wr => ∃ (z : Nat) (fi : Int), v = .int .i64 z ∧ f = .int .i64 fi ∧ z ≤ T.length ∧ Ext w7 wr ∧ Hid (Found T s6 (.int .i64 fi) z)) (fun _ v _ => T.length - (intOf v).toNat)
          case atStart => exact ⟨0, -1, rfl, rfl, by omega, Ext.refl _, Lib.hid (.inl ⟨rfl, fun g e hg => by omega⟩)⟩
          case round =>
            obtain ⟨z, fi, rfl, rfl, hz, hez, HZ⟩ := hrel
            by_cases hzl : z < T.length
            · have R8 := own_mod R7.out (Mod.of_below hez []) (by simp)
              obtain ⟨ad, rfl, hcell⟩ := row_cell R8 hzl
              have hal := pe_alike (P7.out.ext hez) T[z].1 T[z].2 (.inr (List.getElem_mem hzl))
              have HAL := Lib.hid hal
              have i1 : (z : Int) < (T.length : Int) := by omega
              have i2 : (0 : Int) ≤ (z : Int) := by omega
              unfold ptrOf at hcell
              clear hal R8
              go_wp2_with fail
              refine HAL.out.mono ?_
              rintro e w9 ⟨bb, rfl, hbb, he9⟩
              have HBB := Lib.hid hbb
              have hez9 := hez.trans he9
              clear hbb hcell HAL hez he9
              cases bb with
              | true =>
                have hF := Lib.hid (found_yes hzl (HBB.out.1 rfl))
                go_wp2_with fail
                go_roundw
                case rel => exact ⟨z + 1, z, by go_num, rfl, by omega, hez9, hF⟩
                case measure => simp [intOf]; omega
              | false =>
                have hF := Lib.hid (found_no hzl (fun h => by have := HBB.out.2 h; cases this) HZ.out)
                go_wp2_with fail
                go_roundw
                case rel => exact ⟨z + 1, fi, by go_num, rfl, by omega, hez9, hF⟩
                case measure => simp [intOf]; omega
            · obtain rfl : z = T.length := by omega
              have hfd : ∃ (g : Nat) (e : Nat × St), Value.int .i64 fi = .int .i64 (g : Int) ∧ g < T.length ∧ T[g]? = some e ∧ e.2 = s6 := by
                rcases HZ.out with ⟨_, h2⟩ | h
                · exact absurd HI6.out.2 (h2 i6 e6 (List.getElem?_eq_some_iff.1 HI6.out.1).1 HI6.out.1)
                · exact h
              obtain ⟨g', e', hfg, hg', hge, hes'⟩ := hfd
              injection hfg with _ hfg
              subst hfg
              have R8 := own_mod R7.out (Mod.of_below hez []) (by simp)
              obtain ⟨ad, rfl, hcell⟩ := row_cell R8 hg'
              have e1 : T[g'] = e' := by rw [List.getElem?_eq_getElem hg'] at hge; injection hge
              have hcp := pe_copy (P7.out.ext hez) e'.1 e'.2 (.inr (by rw [← e1]; exact List.getElem_mem hg'))
              rw [e1] at hcell
              rw [hes'] at hcp
              have HCP := Lib.hid hcp
              have i1 : (g' : Int) < (T.length : Int) := by omega
              have i2 : (0 : Int) ≤ (g' : Int) := by omega
              have i3 : ¬ ((g' : Int) < 0) := by omega
              have i4 : ¬ ((T.length : Int) < (T.length : Int)) := by omega
              unfold ptrOf at hcell
              clear hcp R8 e1 hge hes' HZ
              go_wp2_with fail
              refine HCP.out.mono ?_
              rintro e w9 ⟨q9, rfl, _, p9, he9⟩
              clear HCP hcell
              go_wp2_with fail
              refine (pe_dsync p9).mono ?_
              rintro e w10 ⟨rfl, p10, _⟩
              clear p9
              go_wp2_with fail
              all_goals go_meet
              all_goals exact ⟨y, q9, s6, [], none, 0, rfl, rfl, rfl, sv_clear (p10.more (by omega)) (HF6.out.more (by omega))⟩
      case rest =>
      obtain ⟨p2, q2, s2, T2, A2, c2, rfl, rfl, rfl, es2, ea2, eb2, sf2, hpe, hrow, hes, hsf2, hTl, hTr, hfe⟩ := hcut
      have hT2 : T2.length ≤ 100 := by
        have h1 := hpe.small.2.1
        rw [hes, List.length_append] at h1
        omega
      have HES := Lib.hid hes
      have HTR := Lib.hid hTr
      have HFE := Lib.hid hfe
      have HTL := Lib.hid hTl
      have HROW := Lib.hid hrow
      clear pg bg hsm hrl hfi hes hTr hfe hTl hrow
      go_wp2_with fail
      refine (pe_copy hpe q2 s2 (.inl rfl)).mono ?_
      rintro e w6 ⟨q6, rfl, p6, _, he6⟩
      have hr := lit_reads w6 (.pointer (some ⟨q6, 0, none⟩)) 68
      have hown : (w6.alloc (.cells #[.pointer (some ⟨q6, 0, none⟩)] 68)).ownsRow W.heap.size 68 1 (.slice A2 T2.length c2) T2.length (T2.map ptrOf) := own_mod HROW.out ((Mod.of_below he6 []).alloc _) (by simp)
      have hbs := p6.below.size
      have P6 := Lib.hid p6
      clear hpe he6 p6
      go_upto_region 44 with (at_builtin; refine wpList_app _ rfl (.tmp 140) (.tmp 143) _ rfl 68 i0 _ 1 8 Try.underlying70 hi0 hz0 hz1 hz2 rfl (by omega) (.slice A2 T2.length c2) T2.length (T2.map ptrOf) W.heap.size rfl hown _ _ 1 1 [.pointer (some ⟨q6, 0, none⟩)] rfl (by simpa using hr) (by simp [Value.oneCell']) (by omega) (by simp; omega) ?_; intro A7 c7 w7 hown7 hg7 hat7)
      have p7 := P6.out.app hown7 hg7 hat7
      have s7 := Lib.hid (sv_push (p7.perm (List.Perm.swap _ _ _)).drop hown7 HES.out hsf2 HTL.out HTR.out HFE.out)
      clear hr hown hbs hown7 hg7 hat7 P6 HES HTR HFE HTL HROW
      go_wp2_with fail
      refine (pe_alike p7 q2 s2 (.inl rfl)).mono ?_
      rintro e w8 ⟨bb, rfl, hbb, he8⟩
      obtain rfl : bb = true := hbb.2 rfl
      have s8 := s7.out.ext he8
      clear s7 p7 hbb he8
      go_wp2_with fail
      go_roundw
      case rel => (first | exact ⟨k + 1, p2, q2, s2, T2 ++ [(q6, s2)], A7, c7, by omega, by omega, rfl, rfl, by simp, by go_num, s8⟩ | ((repeat apply Exists.intro); exact ⟨⟨k + 1, p2, q2, s2, T2 ++ [(q6, s2)], A7, c7, by omega, by omega, rfl, rfl, by simp, by go_num, s8⟩, rfl⟩))
      case measure => simp [intOf]; omega
    · have hbw := hpb
      clear hp HL
      by_cases hk1 : k < n
      · have hk2 : ¬ ((k : Int) < 60) := by omega
        go_wp2_with fail
        refine (known23 _).mono ?_
        rintro e w9 ⟨rfl, he⟩
        go_wp2_with fail
        go_ret
        exact ⟨rfl, hbw.trans (he.mono hbw.size)⟩
      · have hk2 : ¬ ((k : Int) < (n : Int)) := by omega
        go_wp2_with fail
        refine (known23 _).mono ?_
        rintro e w9 ⟨rfl, he⟩
        go_wp2_with fail
        go_ret
        exact ⟨rfl, hbw.trans (he.mono hbw.size)⟩

end Go.Proofs.Ytfclighheoobaaa
