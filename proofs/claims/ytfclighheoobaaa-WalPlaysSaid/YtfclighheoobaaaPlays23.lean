/- WalPlays: a log holds what the document says, for any calls. -/
import Derived.Test.YtfclighheoobaaaBoth
import Derived.Test.YtfclighheoobaaaOpenAsk23
import Derived.Deep.DeepCutAuto
import Derived.Deep.CutBlock
import Derived.Deep.RegionHeld3
namespace Go.Proofs.Ytfclighheoobaaa
open Go.RowKit

attribute [local go_sem] ba_append ba_extract ba_size Oper.pureUpon Oper.relUpon
attribute [local go_sem ↓] Go.wp_at_zero Go.wp_at_succ

theorem PW.len {W w : World} {Fs : List (List Nat)} {p dp q sf m : Nat} {s t : St} {T : List (Nat × St)} (h : PW W w Fs p dp q sf m s t T) : s.recs.length ≤ m := by
  obtain ⟨R, ⟨es, _, hs⟩, _⟩ := h
  exact hs.2.2.1
theorem code_int (b : Bool) : ∃ c : Int, codeOf b = .int .i64 c := ⟨_, rfl⟩

set_option maxRecDepth 100000 in
set_option maxHeartbeats 4000000 in
theorem wplays_walk (W : World) (A : Option Addr) (n c : Nat) (K N : Nat → Int) (X : Nat → List UInt8) (hl : AskS W A n K N X) :
    Calls Try.prog 15 #[.slice A n c] W fun e w' => e = .returned (.bool true) ∧ Below W.heap.size W w' := by
  have hn := hl.1
  unfold maxLen at hn
  have HL := Lib.hid hl.2
  clear hl
  go_enter Try.func15, Try.ntmps15
  go_wp2_with fail
  refine (js_fresh W).mono ?_
  rintro e w1 ⟨p0, dp, rfl, h1⟩
  go_wp2_with fail
  refine (rf_new w1).mono ?_
  rintro e w2 ⟨q, rfl, hq, h2, he2⟩
  have hpw : PW W w2 [] p0 dp q 0 0 St.init St.init [] := by
    obtain ⟨es, ⟨⟨Fd, Fl, hd, hl, s0⟩, hr⟩, hs⟩ := h1
    have s1 : Sep W w2 [[q], Fd, Fl] := s0.new he2 (by intro k hk; simp at hk; subst hk; exact ⟨by omega, h2.lt⟩)
    exact ⟨[q], ⟨es, ⟨⟨Fd, Fl, hd.ext he2, hl.ext he2, s1.rot⟩, hr⟩, hs⟩, h2, by simp⟩
  clear h1 h2 he2 hq
  go_wp2_with fail
  go_loopw [4, 7] (fun x i wr => ∃ (k p sf : Nat) (s : St), k ≤ n ∧ k ≤ 60 ∧ i = .int .i64 k ∧ x = .pointer (some ⟨p, 0, none⟩) ∧ PW W wr [] p dp q sf k s s []) (fun _ i _ => 60 - (intOf i).toNat)
  case atStart => exact ⟨0, p0, 0, _, by omega, by omega, rfl, rfl, hpw⟩
  case round =>
    obtain ⟨k, p, sf, s, hkn, hk60, rfl, rfl, hp⟩ := hrel
    clear hpw
    by_cases hlt : k < n ∧ k < 60
    · obtain ⟨hlt1, hlt2⟩ := hlt
      obtain ⟨b, o, rfl, hab, hc0, hc1, hc2⟩ := HL.out k hlt1
      have hcb := fun j v (h : W.cell? ⟨b, j, none⟩ = some v) => (hp.below.cell (p := ⟨b, j, none⟩) hab).trans h
      have g0 := hcb _ _ hc0
      have g1 := hcb _ _ hc1
      have g2 := hcb _ _ hc2
      clear hcb hc0 hc1 hc2
      obtain ⟨xs, hxs⟩ : ∃ xs, (X k).take 100 = xs := ⟨_, rfl⟩
      have hxl : xs.length ≤ 100 := by rw [← hxs, List.length_take]; omega
      have hfew := fun w => few_calls w (X k)
      rw [hxs] at hfew
      have HFW := Lib.hid hfew
      clear hxs hfew
      generalize hkk : K k = kk at *
      generalize hnk : N k = nk at *
      generalize hxk : X k = xk at *
      clear hkk hnk hxk
      obtain ⟨g, hg⟩ : ∃ g, wr.heap.size = g := ⟨_, rfl⟩
      go_wp2_with fail
      refine (HFW.out _).mono ?_
      rintro e w3 ⟨rfl, rfl⟩
      go_upto_block 2 with fail
      clear g0 g1 g2 hab hkn hk60
      obtain ⟨wx, hwx⟩ : ∃ wx, wr.alloc (.cells #[.int .i64 kk, .int .i64 nk, .string ⟨xs.toArray⟩] 72) = wx := ⟨_, rfl⟩
      rw [hwx]
      have bg : Blk wx g 72 #[.int .i64 kk, .int .i64 nk, .string ⟨xs.toArray⟩] := by rw [← hwx, ← hg]; exact Blk.new _ _ _
      have pg : PW W wx [[g]] p dp q sf k s s [] := by have := hp.block (.cells #[.int .i64 kk, .int .i64 nk, .string ⟨xs.toArray⟩] 72); rw [hwx, hg] at this; exact this
      clear hp hwx
      have hrl := pg.len
      go_cut [4] (fun x4 wk => ∃ (p sf : Nat) (s : St), x4 = .pointer (some ⟨p, 0, none⟩) ∧ PW W wk [[g]] p dp q sf (k + 1) s s [])
      case first =>
        have pd := pg.ext (Ext.drew wx)
        have bd : Blk wx.drew g 72 #[.int .i64 kk, .int .i64 nk, .string ⟨xs.toArray⟩] := bg
        have cells : ∀ w', Blk w' g 72 #[.int .i64 kk, .int .i64 nk, .string ⟨xs.toArray⟩] → w'.cell? ⟨g, 1, none⟩ = some (.int .i64 nk) ∧ w'.cell? ⟨g, 2, none⟩ = some (.string ⟨xs.toArray⟩) := fun w' h => by
          have e1 := h.cell 1
          have e2 := h.cell 2
          simp at e1 e2
          exact ⟨e1, e2⟩
        obtain ⟨x1, x2⟩ := cells _ bg
        by_cases h1 : kk = 1
        · subst h1
          have hput := pw_put pd nk xs hxl (by omega)
          have hrp := fun w (h : PW W w [[g]] p dp q sf (k + 1) (s.putI nk xs) s []) => pw_rput h nk xs hxl (by omega)
          obtain ⟨cv, hcv⟩ := code_int (s.putOk nk)
          rw [hcv] at hput
          simp only [hcv] at hrp
          obtain ⟨s5, hs5⟩ : ∃ s5, s.putI nk xs = s5 := ⟨_, rfl⟩
          rw [hs5] at hput
          simp only [hs5] at hrp
          have HPT := Lib.hid hput
          have HRP := Lib.hid hrp
          have HCL := Lib.hid cells
          have HBD := Lib.hid bd
          clear hput hrp hcv hs5 cells bd pd pg bg
          go_wp2_with fail
          go_region_held3 (fun w' => w'.cell? ⟨g, 1, none⟩ = some (.int .i64 nk) ∧ w'.cell? ⟨g, 2, none⟩ = some (.string ⟨xs.toArray⟩))
            (first | assumption | exact ⟨x1, x2⟩ | go_keep)
            (first
              | (go_at_call 33; refine (HPT.out).mono ?_; rintro e w5 ⟨rfl, p5, k5⟩; have b5 := HBD.out.keep (k5 [g] (by simp) g (by simp)); have x5 := HCL.out w5 b5)
              | (go_at_call 47; refine (HRP.out _ p5).mono ?_; rintro e w6 ⟨rfl, p6, k6⟩; have b6 := b5.keep (k6 [g] (by simp) g (by simp)); have x6 := HCL.out w6 b6))
          go_wp2_with fail
          all_goals go_meet
          all_goals exact ⟨p, sf, s5, rfl, p6⟩
        by_cases h2 : kk = 2
        · subst h2
          have hput := pw_meta pd xs hxl (by omega)
          have hrp := fun w (h : PW W w [[g]] p dp q sf (k + 1) { s with note := xs } s []) => pw_rmeta h xs hxl
          obtain ⟨s5, hs5⟩ : ∃ s5 : St, { s with note := xs } = s5 := ⟨_, rfl⟩
          rw [hs5] at hput
          simp only [hs5] at hrp
          have HPT := Lib.hid hput
          have HRP := Lib.hid hrp
          have HCL := Lib.hid cells
          have HBD := Lib.hid bd
          clear hput hrp hs5 cells bd pd pg bg
          go_wp2_with fail
          go_region_held3 (fun w' => w'.cell? ⟨g, 1, none⟩ = some (.int .i64 nk) ∧ w'.cell? ⟨g, 2, none⟩ = some (.string ⟨xs.toArray⟩))
            (first | assumption | exact ⟨x1, x2⟩ | go_keep)
            (first
              | (go_at_call 34; refine (HPT.out).mono ?_; rintro e w5 ⟨rfl, p5, k5⟩; have b5 := HBD.out.keep (k5 [g] (by simp) g (by simp)); have x5 := HCL.out w5 b5)
              | (go_at_call 48; refine (HRP.out _ p5).mono ?_; rintro e w6 ⟨rfl, p6, k6⟩; have b6 := b5.keep (k6 [g] (by simp) g (by simp)); have x6 := HCL.out w6 b6))
          go_wp2_with fail
          all_goals go_meet
          all_goals exact ⟨p, sf, s5, rfl, p6⟩
        by_cases h3 : kk = 3
        · subst h3
          have hput := pw_base pd nk xs hxl (by omega)
          have hrp := fun w sf (h : PW W w [[g]] p dp q sf k (s.baseI nk xs) s []) => pw_rbase h nk xs hxl
          obtain ⟨cv, hcv⟩ := code_int (s.baseOk nk)
          rw [hcv] at hput
          simp only [hcv] at hrp
          obtain ⟨s5, hs5⟩ : ∃ s5, s.baseI nk xs = s5 := ⟨_, rfl⟩
          rw [hs5] at hput
          simp only [hs5] at hrp
          have HPT := Lib.hid hput
          have HRP := Lib.hid hrp
          have HCL := Lib.hid cells
          have HBD := Lib.hid bd
          clear hput hrp hcv hs5 cells bd pd pg bg
          go_wp2_with fail
          go_region_held3 (fun w' => w'.cell? ⟨g, 1, none⟩ = some (.int .i64 nk) ∧ w'.cell? ⟨g, 2, none⟩ = some (.string ⟨xs.toArray⟩))
            (first | assumption | exact ⟨x1, x2⟩ | go_keep)
            (first
              | (go_at_call 42; refine (HPT.out).mono ?_; rintro e w5 ⟨rfl, sf5, p5, k5⟩; have b5 := HBD.out.keep (k5 [g] (by simp) g (by simp)); have x5 := HCL.out w5 b5)
              | (go_at_call 49; refine (HRP.out _ _ p5).mono ?_; rintro e w6 ⟨rfl, p6, k6⟩; have b6 := b5.keep (k6 [g] (by simp) g (by simp)); have x6 := HCL.out w6 b6))
          go_wp2_with fail
          all_goals go_meet
          all_goals exact ⟨p, sf5, s5, rfl, p6.more (by omega)⟩
        by_cases h4 : kk = 4
        · subst h4
          clear pd bd cells x1 x2 h1 h2 h3
          go_wp2_with fail
          refine (pw_sync pg).mono ?_
          rintro e w5 ⟨rfl, l, hl, p5, _, hsafe, hbytes⟩
          have HSF := Lib.hid hsafe
          have HBY := Lib.hid hbytes
          clear hsafe hbytes pg
          go_wp2_with fail
          refine (HSF.out w5 (Ext.refl _)).mono ?_
          rintro e w6 ⟨rfl, he6⟩
          go_wp2_with fail
          refine (HBY.out w6 he6).mono ?_
          rintro e w7 ⟨A7, c7, rfl, he7⟩
          have p7 := (p5.ext he6).ext he7
          clear p5 he6 he7
          go_wp2_with fail
          all_goals go_meet
          all_goals exact ⟨p, l, s, rfl, p7.more (by omega)⟩
        · clear pd bd cells x1 x2
          go_wp2_with fail
          refine (pw_open pg (by omega)).mono ?_
          rintro e w5 ⟨y, rfl, p5, _⟩
          clear pg
          go_wp2_with fail
          all_goals go_meet
          all_goals exact ⟨y, sf, s, rfl, p5.more (by omega)⟩
      case rest =>
      obtain ⟨p2, sf2, s2, rfl, p5⟩ := hcut
      clear pg bg
      go_wp2_with fail
      refine (pw_alike p5 q s2 (.inl rfl)).mono ?_
      rintro e w6 ⟨bb, rfl, hbb, he6⟩
      obtain rfl : bb = true := hbb.2 rfl
      have p6 := (p5.ext he6).drop
      clear p5 he6 hbb
      go_wp2_with fail
      go_roundw
      case rel => (first | exact ⟨k + 1, p2, sf2, s2, by omega, by omega, by go_num, rfl, p6⟩ | ((repeat apply Exists.intro); exact ⟨⟨k + 1, p2, sf2, s2, by omega, by omega, by go_num, rfl, p6⟩, rfl⟩))
      case measure => simp [intOf]; omega
    · have hbw := hp.below
      clear hp HL
      by_cases hk1 : k < n
      · have hk2 : ¬ ((k : Int) < 60) := by omega
        go_wp2_with fail
        refine (known23 _).mono ?_
        rintro e w9 ⟨rfl, he⟩
        go_wp2_with fail
        go_ret
        exact ⟨rfl, hbw.trans (he.mono hbw.size)⟩
      · have hk2 : ¬ ((k : Int) < (n : Int)) := by omega
        go_wp2_with fail
        refine (known23 _).mono ?_
        rintro e w9 ⟨rfl, he⟩
        go_wp2_with fail
        go_ret
        exact ⟨rfl, hbw.trans (he.mono hbw.size)⟩

end Go.Proofs.Ytfclighheoobaaa
