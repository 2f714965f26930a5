/- The law GroupIdle: a group of which nothing was asked. -/
import Derived.Test.YtiglblfjmmdeeaaGreatIdleT
import Derived.Test.YtiglblfjmmdeeaaGreatEvKn
import Derived.Test.YtiglblfjmmdeeaaGreatOpenItem
import Derived.Deep.DeepCutAuto
import Derived.Deep.CutBlock
namespace Go.Proofs.YtiglblfjmmdeeaaGreat
open Go.RowKit Go.Maps Go.ChangeMaps

attribute [local go_sem] ba_append ba_extract ba_size Oper.pureUpon Oper.relUpon

section
variable {w w' : World} {F : Key → List Nat} {S : Key → Ob} {gp wp tp g c n b b' : Nat} {D : Nat → Nd} {ts : List (Int × Int × List UInt8)} {Q : (Nat → Nd) → List (Int × Int × List UInt8) → Prop}
theorem Grps.any (h : Grps F w gp wp tp g c n b Q w') (hb : b ≤ b') : Grps F w gp wp tp g c n b' Any w' := by
  obtain ⟨F', S', D', ts', G', f', _⟩ := h
  exact ⟨F', S', D', ts', G'.mono hb, f', trivial⟩
theorem do_any (G : Grp w F S gp wp tp g c n b D ts) (hb9 : b ≤ 90) (kind node x : Int) (hx : isInt x) (s : List UInt8) (h12 : kind = 1 ∨ kind = 2 → s = []) (hs : s.length ≤ 100) :
    Calls Tryz.prog 6 #[.pointer (some ⟨gp, 0, none⟩), itemv kind node x s] w fun e w' => e = .returned (.slice none 0 0) ∧ Grps F w gp wp tp g c n (b + 1) Any w' := by
  have up : ∀ Q b', b' ≤ b + 1 → (Calls Tryz.prog 6 #[.pointer (some ⟨gp, 0, none⟩), itemv kind node x s] w fun e w' => e = .returned (.slice none 0 0) ∧ Grps F w gp wp tp g c n b' Q w') →
      Calls Tryz.prog 6 #[.pointer (some ⟨gp, 0, none⟩), itemv kind node x s] w fun e w' => e = .returned (.slice none 0 0) ∧ Grps F w gp wp tp g c n (b + 1) Any w' := fun Q b' hb h => h.mono fun e w' ⟨h1, h2⟩ => ⟨h1, h2.any hb⟩
  by_cases h : kind ≤ 0 ∨ 10 ≤ kind
  · exact up _ _ (Nat.le_succ _) (do_none G hb9 kind node x hx s h)
  rcases (by omega : kind = 1 ∨ kind = 2 ∨ kind = 3 ∨ kind = 4 ∨ kind = 5 ∨ kind = 6 ∨ kind = 7 ∨ kind = 8 ∨ kind = 9) with rfl | rfl | rfl | rfl | rfl | rfl | rfl | rfl | rfl
  · exact up _ _ (Nat.le_succ _) (do_1 G hb9 node x hx s (h12 (.inl rfl)))
  · exact up _ _ (Nat.le_succ _) (do_2 G hb9 node x hx s (h12 (.inr rfl)))
  · exact up _ _ (Nat.le_refl _) (do_3 G hb9 node x hx s)
  · exact up _ _ (Nat.le_refl _) (do_4 G hb9 node x hx s)
  · exact up _ _ (Nat.le_refl _) (do_5 G hb9 node x hx s)
  · exact up _ _ (Nat.le_refl _) (do_6 G hb9 node x hx s)
  · exact up _ _ (Nat.le_refl _) (do_7 G hb9 node x hx s)
  · exact up _ _ (Nat.le_refl _) (do_8 G hb9 node x hx s)
  · exact up _ _ (Nat.le_refl _) (do_9 G hb9 node x hx s (by omega))
end

theorem Fr.ext0 {W w : World} {F : Key → List Nat} (f : Fr (fun _ => []) F W w) : Ext W w := ⟨f.os, f.tape, f.output, f.size, fun k hk => f.block k hk (by simp)⟩
theorem Ext.set {W w : World} {a : Addr} (e : Ext W w) (h : W.heap.size ≤ a.block) (v : Value) : Ext W (w.setCell a v) := ⟨e.os, e.tape, e.output, by simpa [World.setCell] using e.size, fun k hk => (Below.heap_setCell _ _ _ _ (by omega)).trans (e.block k hk)⟩
theorem within5 (n : Int) : ∃ m : Nat, within n 0 4 = m ∧ m ≤ 4 := by
  have h1 := Int.emod_nonneg n (b := 5) (by omega)
  have h2 := Int.emod_lt_of_pos n (b := 5) (by omega)
  refine ⟨(within n 0 4).toNat, ?_, ?_⟩ <;> (unfold within; omega)

set_option maxRecDepth 100000 in
set_option maxHeartbeats 4000000 in
theorem idle_walk (W : World) (a : Int) (A : Option Addr) (nn cc : Nat) (K E N : Nat → Int) (X : Nat → List UInt8) (hS : ItemS W A nn K E N X) :
    Calls Tryz.prog 3 #[.int .i64 a, .slice A nn cc] W fun e w' => e = .returned (.bool true) ∧ Below W.heap.size W w' := by
  obtain ⟨m, hm, hm4⟩ := within5 a
  have hwi := within_calls W a 0 4 (by decide) (by decide) (by decide)
  rw [hm] at hwi
  obtain ⟨n, hn⟩ : ∃ n, 1 + m = n := ⟨_, rfl⟩
  have hn' : (1 : Int) + (m : Int) = (n : Int) := by omega
  have n1 : 1 ≤ n := by omega
  have n5 : n ≤ 5 := by omega
  have HN := Lib.hid hn'
  have HGN := Lib.hid (gnew_calls W n1 n5)
  have hnn := hS.1
  unfold maxLen at hnn
  have HSS := Lib.hid hS.2
  clear hS hm hn
  go_enter Tryz.func3, Tryz.ntmps3
  go_wp2_with fail
  refine hwi.mono ?_
  rintro e w1 ⟨rfl, rfl⟩
  go_wp2_with fail
  refine HGN.out.mono ?_
  rintro e w1 ⟨gp, wp, tp, g, c, D, F1, S1, rfl, G1, f1, _⟩
  have H1 := Lib.hid (And.intro G1 f1)
  clear G1 f1 hwi hn' HGN hnn
  go_upto_block 0 with fail
  go_cut [] (fun wk => Hid (∃ F S D ts, Grp wk F S gp wp tp g c n 60 D ts ∧ Fr (fun _ => []) F W wk))
  case first =>
    go_wp2_with fail
    go_loopw [7] (fun v wr => ∃ i : Nat, v = .int .i64 i ∧ i ≤ 60 ∧ Hid (∃ F S D ts, Grp wr F S gp wp tp g c n i D ts ∧ Fr (fun _ => []) F W wr)) (fun v _ => 60 - (intOf v).toNat)
    case atStart => exact ⟨0, rfl, by omega, Lib.hid ⟨F1, S1, D, [], H1.out.1, H1.out.2⟩⟩
    case round =>
      obtain ⟨i, rfl, hi, HH⟩ := hrel
      by_cases hin : i < nn ∧ i < 60
      · obtain ⟨hi1, hi2⟩ := hin
        obtain ⟨b, o, rfl, hb, c0, c1, c2, c3, hNi⟩ := HSS.out i hi1
        obtain ⟨F, S, D, ts, G, f⟩ := HH.out
        have e0 := f.ext0
        have g0 := (e0.cell (p := ⟨b, o + i * 4, none⟩) hb).trans c0
        have g1 := (e0.cell (p := ⟨b, o + i * 4 + 1, none⟩) hb).trans c1
        have g2 := (e0.cell (p := ⟨b, o + i * 4 + 2, none⟩) hb).trans c2
        have g3 := (e0.cell (p := ⟨b, o + i * 4 + 3, none⟩) hb).trans c3
        have hi1' : (i : Int) < (nn : Int) := by omega
        have hi2' : (i : Int) < 60 := by omega
        clear c0 c1 c2 c3 e0 HH
        generalize K i = kk at *
        generalize E i = ee at *
        generalize N i = xx at *
        generalize X i = tt at *
        by_cases h1 : kk = 1
        · -- a text
          subst h1
          have e1 : Ext wr (wr.alloc (.cells #[.int .i64 1, .int .i64 ee, .int .i64 xx, .string ⟨#[]⟩] 29)) := (Below.refl _ _).alloc (Nat.le_refl _) _
          have hdo := do_any (G.ext e1) (by omega) 1 ee xx hNi ([]) (fun _ => rfl) (by simp)
          unfold itemv at hdo
          have HDO := Lib.hid (And.intro hdo (And.intro e1 f))
          clear hdo e1 G f hNi
          go_wp2_with fail
          refine HDO.out.1.mono ?_
          rintro e w3 ⟨rfl, F3, S3, D3, ts3, G3, f3, _⟩
          have H3 := Lib.hid (And.intro G3 ((HDO.out.2.2.trans (Fr.ext F HDO.out.2.1)).trans f3))
          clear G3 f3
          go_wp2_with fail
          go_roundw
          case rel => exact ⟨i + 1, by go_num, by omega, Lib.hid ⟨F3, S3, D3, ts3, H3.out.1, H3.out.2⟩⟩
          case measure => (simp [intOf]; omega)
        · by_cases h2 : kk = 2
          · -- a mark
            subst h2
            have e1 : Ext wr (wr.alloc (.cells #[.int .i64 2, .int .i64 ee, .int .i64 xx, .string ⟨#[]⟩] 29)) := (Below.refl _ _).alloc (Nat.le_refl _) _
            have hdo := do_any (G.ext e1) (by omega) 2 ee xx hNi ([]) (fun _ => rfl) (by simp)
            unfold itemv at hdo
            have HDO := Lib.hid (And.intro hdo (And.intro e1 f))
            clear hdo e1 G f hNi
            go_wp2_with fail
            refine HDO.out.1.mono ?_
            rintro e w3 ⟨rfl, F3, S3, D3, ts3, G3, f3, _⟩
            have H3 := Lib.hid (And.intro G3 ((HDO.out.2.2.trans (Fr.ext F HDO.out.2.1)).trans f3))
            clear G3 f3
            go_wp2_with fail
            go_roundw
            case rel => exact ⟨i + 1, by go_num, by omega, Lib.hid ⟨F3, S3, D3, ts3, H3.out.1, H3.out.2⟩⟩
            case measure => (simp [intOf]; omega)
          · have h1b : (kk == 1) = false := by rw [beq_eq_false_iff_ne]; exact h1
            have h2b : (kk == 2) = false := by rw [beq_eq_false_iff_ne]; exact h2
            by_cases hbig : 100 < tt.length
            · -- too long a text
              have hbig' : (100 : Int) < (tt.length : Int) := by omega
              have e1 : Ext wr (wr.alloc (.cells #[.int .i64 kk, .int .i64 ee, .int .i64 xx, .string ⟨(tt.take 100).toArray⟩] 29)) := (Below.refl _ _).alloc (Nat.le_refl _) _
              have hdo := do_any (G.ext e1) (by omega) kk ee xx hNi (tt.take 100) (fun h => by rcases h with h | h <;> contradiction) (by rw [List.length_take]; omega)
              unfold itemv at hdo
              have HDO := Lib.hid (And.intro hdo (And.intro e1 f))
              clear hdo e1 G f hNi
              go_wp2_with fail
              refine HDO.out.1.mono ?_
              rintro e w3 ⟨rfl, F3, S3, D3, ts3, G3, f3, _⟩
              have H3 := Lib.hid (And.intro G3 ((HDO.out.2.2.trans (Fr.ext F HDO.out.2.1)).trans f3))
              clear G3 f3
              go_wp2_with fail
              go_roundw
              case rel => exact ⟨i + 1, by go_num, by omega, Lib.hid ⟨F3, S3, D3, ts3, H3.out.1, H3.out.2⟩⟩
              case measure => (simp [intOf]; omega)
            · -- as it is
              have hbig' : ¬ (100 : Int) < (tt.length : Int) := by omega
              have e1 : Ext wr (wr.alloc (.cells #[.int .i64 kk, .int .i64 ee, .int .i64 xx, .string ⟨tt.toArray⟩] 29)) := (Below.refl _ _).alloc (Nat.le_refl _) _
              have hdo := do_any (G.ext e1) (by omega) kk ee xx hNi (tt) (fun h => by rcases h with h | h <;> contradiction) (by omega)
              unfold itemv at hdo
              have HDO := Lib.hid (And.intro hdo (And.intro e1 f))
              clear hdo e1 G f hNi
              go_wp2_with fail
              refine HDO.out.1.mono ?_
              rintro e w3 ⟨rfl, F3, S3, D3, ts3, G3, f3, _⟩
              have H3 := Lib.hid (And.intro G3 ((HDO.out.2.2.trans (Fr.ext F HDO.out.2.1)).trans f3))
              clear G3 f3
              go_wp2_with fail
              go_roundw
              case rel => exact ⟨i + 1, by go_num, by omega, Lib.hid ⟨F3, S3, D3, ts3, H3.out.1, H3.out.2⟩⟩
              case measure => (simp [intOf]; omega)
      · have hin' : ¬ (i : Int) < (nn : Int) ∨ ¬ (i : Int) < 60 := by omega
        obtain ⟨F, S, D, ts, G, f⟩ := HH.out
        have HG := Lib.hid (And.intro (G.mono (b' := 60) (by omega)) f)
        clear G f HH hin
        by_cases hi1 : (i : Int) < (nn : Int)
        · have hi2 : ¬ (i : Int) < 60 := by omega
          clear hin'
          go_wp2_with fail
          go_meet
          exact Lib.hid ⟨F, S, D, ts, HG.out.1, HG.out.2⟩
        · clear hin'
          go_wp2_with fail
          go_meet
          exact Lib.hid ⟨F, S, D, ts, HG.out.1, HG.out.2⟩
  case rest =>
  obtain ⟨F2, S2, D2, ts2, G2, f2⟩ := hcut.out
  have H2 := Lib.hid (And.intro G2 f2)
  clear G2 f2 hcut HSS H1
  go_wp2_with fail
  go_loopw [9] (fun v wr => ∃ j : Nat, v = .int .i64 j ∧ j ≤ n ∧ Hid (∃ F S D ts, Grp wr F S gp wp tp g c n (60 + j) D ts ∧ Fr (fun _ => []) F W wr ∧ ∀ k, k < j → (D k).N.up = true)) (fun v _ => n - (intOf v).toNat)
  case atStart => exact ⟨0, rfl, Nat.zero_le _, Lib.hid ⟨F2, S2, D2, ts2, H2.out.1, H2.out.2, fun k hk => by omega⟩⟩
  case round =>
    obtain ⟨j, rfl, hj, HH⟩ := hrel
    by_cases hjn : j < n
    · obtain ⟨F, S, D, ts, G, f, hup⟩ := HH.out
      have hjn' : (j : Int) < (n : Int) := by omega
      have hdo := do_8 G (by omega) (j : Int) 0 ⟨by omega, by omega⟩ []
      unfold itemv at hdo
      have HDO := Lib.hid (And.intro hdo (And.intro f hup))
      clear hdo G f hup HH
      go_wp2_with fail
      refine HDO.out.1.mono ?_
      rintro e w3 ⟨rfl, F3, S3, D3, ts3, G3, f3, hu3⟩
      have H3 := Lib.hid (And.intro G3 (And.intro (HDO.out.2.1.trans f3) hu3))
      clear G3 f3 hu3
      go_wp2_with fail
      go_roundw
      case rel =>
        refine ⟨j + 1, by go_num, by omega, Lib.hid ⟨F3, S3, D3, ts3, H3.out.1, H3.out.2.1, fun k hk => ?_⟩⟩
        by_cases e : k = j
        · subst e; exact H3.out.2.2.2 k rfl hjn
        · exact H3.out.2.2.1 k (HDO.out.2.2 k (by omega))
      case measure => (simp [intOf]; omega)
    · obtain rfl : n = j := by omega
      obtain ⟨F3, S3, D, ts3, G3, f3, hup⟩ := HH.out
      have HST := Lib.hid (And.intro (settle_calls G3 (by omega)) (And.intro f3 hup))
      clear G3 f3 hup HH
      go_wp2_with fail
      refine HST.out.1.mono ?_
      rintro e w4 ⟨⟨q, hq, rfl⟩, F4, S4, D4, ts4, G4, f4, rfl, rfl⟩
      have hq' : ¬ (q : Int) > 20000 := by omega
      obtain ⟨zs, w5, hz, hmk, hcv, he5⟩ := great_text w4
      have hdo := do_1b (G4.ext he5) (by omega) 0 0 ⟨by omega, by omega⟩ zs (by omega) (by omega)
      unfold itemv at hdo
      have HDO := Lib.hid (And.intro hdo ((HST.out.2.1.trans f4).trans (Fr.ext F4 he5)))
      clear hdo G4 f4 he5 hz
      go_wp2_with fail
      refine HDO.out.1.mono ?_
      rintro e w6 ⟨rfl, F6, S6, D6, ts6, G6, f6, rfl, rfl⟩
      have HST2 := Lib.hid (And.intro (settle_calls G6 (by omega)) (HDO.out.2.trans f6))
      clear G6 f6 hmk hcv
      go_wp2_with fail
      refine HST2.out.1.mono ?_
      rintro e w7 ⟨⟨q2, hq2, rfl⟩, F7, S7, D7, ts7, G7, f7, rfl, rfl⟩
      have H7 := Lib.hid (And.intro G7 (HST2.out.2.trans f7))
      have HUP := Lib.hid HST.out.2.2
      clear G7 f7
      go_wp2_with fail
      go_loopw [12] (fun v wx => ∃ j : Nat, v = .int .i64 j ∧ j ≤ n ∧ Hid (∃ F S, Grp wx F S gp wp tp g c n (60 + n) D7 [] ∧ Fr (fun _ => []) F W wx)) (fun v _ => n - (intOf v).toNat)
      case atStart => exact ⟨0, rfl, Nat.zero_le _, Lib.hid ⟨F7, S7, H7.out.1, H7.out.2⟩⟩
      case round =>
        obtain ⟨j, rfl, hj2, HK⟩ := hrel
        by_cases hjn2 : j < n
        · obtain ⟨F8, S8, G8, f8⟩ := HK.out
          have hjn' : (j : Int) < (n : Int) := by omega
          have hba := base_calls G8 hjn2 (HUP.out j hjn2)
          have HB := Lib.hid (And.intro hba (And.intro G8 f8))
          clear hba G8 f8 HK
          go_wp2_with fail
          refine HB.out.1.mono ?_
          rintro e w8 ⟨rfl, he8⟩
          have G9 := HB.out.2.1.ext he8
          have hlo := log_calls G9 hjn2 (HUP.out j hjn2)
          obtain ⟨u, hu, hu2⟩ := gup_calls G9 (j : Int)
          rw [hu2 HUP.out, decide_eq_true (by omega)] at hu
          have H9 := Lib.hid (And.intro G9 (HB.out.2.2.trans (Fr.ext F8 he8)))
          clear G9 he8 hu2
          go_wp2_with fail
          refine hlo.mono ?_
          rintro e w9 ⟨rfl, rfl⟩
          go_wp2_with fail
          refine hu.mono ?_
          rintro e w9 ⟨rfl, rfl⟩
          go_wp2_with fail
          go_roundw
          case rel => exact ⟨j + 1, by go_num, by omega, Lib.hid ⟨F8, S8, H9.out.1, H9.out.2⟩⟩
          case measure => (simp [intOf]; omega)
        · obtain rfl : n = j := by omega
          obtain ⟨F8, S8, G8, f8⟩ := HK.out
          have hlo := log_none G8
          obtain ⟨u, hu, hu2⟩ := gup_calls G8 (-1)
          rw [hu2 HUP.out, decide_eq_false (by omega)] at hu
          have hkn := fun w => known_calls w
          have HF := Lib.hid f8.ext0
          clear G8 f8 hu2 HK
          go_wp2_with fail
          refine hlo.mono ?_
          rintro e w9 ⟨rfl, rfl⟩
          go_wp2_with fail
          refine hu.mono ?_
          rintro e w9 ⟨rfl, rfl⟩
          go_wp2_with fail
          refine (hkn _).mono ?_
          rintro e w9 ⟨rfl, he9⟩
          have HE9 := Lib.hid he9
          clear he9
          go_wp2_with fail
          go_ret
          exact ⟨rfl, HF.out.trans HE9.out⟩
end Go.Proofs.YtiglblfjmmdeeaaGreat
