/- WalSame. -/
import Derived.Test.YtfclighheoobaaaSmall
import Derived.Test.YtfclighheoobaaaOpenT
import Derived.Deep.DeepCutAuto
import Derived.Deep.RegionHeld3
import Derived.Deep.CutBlock
namespace Go.Proofs.Ytfclighheoobaaa
open Go.RowKit

attribute [local go_sem] ba_append ba_extract ba_size Oper.pureUpon Oper.relUpon

/-- What a log of WalSame is behind its calls: records of the argument. -/
def Good (st : St) (n : Nat) (F : Nat → List UInt8) : Prop := st.note = [116, 104, 101, 32, 110, 111, 116, 101] ∧ 1 ≤ st.first ∧ st.first ≤ st.next ∧ st.next ≤ 16 ∧ st.next ≤ n + 1 + 16 ∧ ∀ i : Nat, st.first ≤ i + 1 → i + 1 < st.next → st.get ((i : Int) + 1) = some (F i) ∧ i < n

theorem good_start {n k : Nat} (hk : k ≤ n) (hk2 : k ≤ 15) (F : Nat → List UInt8) {st : St} (h1 : st.first = 1) (h2 : st.recs = (List.range k).map F) (hn : st.note = [116, 104, 101, 32, 110, 111, 116, 101]) : Good st n F := by
  have h3 : st.next = k + 1 := by unfold St.next; rw [h1, h2]; simp; omega
  refine ⟨hn, by omega, by omega, by omega, by omega, fun i hi1 hi2 => ⟨?_, by omega⟩⟩
  unfold St.get
  rw [if_pos (by omega), h1, h2]
  have e1 : ((i : Int) + 1 - ((1 : Nat) : Int)).toNat = i := by omega
  rw [e1, List.getElem?_map, List.getElem?_range (by omega)]
  rfl
theorem good_base {n : Nat} {F : Nat → List UInt8} {st : St} (h : Good st n F) (hf : st.first = 1) {b : Nat} (hb1 : 1 ≤ b) (hb2 : b ≤ 16) (x : List UInt8) : Good (st.baseAt b x) n F := by
  obtain ⟨h1, h2, h3, h4, h5, h6⟩ := h
  have hl : (st.baseAt b x).next = b + (st.recs.length - (b - 1)) := by show b + (st.recs.drop (b - st.first)).length = _; rw [List.length_drop, hf]
  have hn : st.next = 1 + st.recs.length := by unfold St.next; rw [hf]
  have hfb : (st.baseAt b x).first = b := rfl
  refine ⟨h1, by omega, by omega, by omega, by omega, fun i hi1 hi2 => ?_⟩
  obtain ⟨g1, g2⟩ := h6 i (by omega) (by omega)
  refine ⟨?_, g2⟩
  rw [← g1]
  unfold St.get
  rw [if_pos (by omega), if_pos (by omega), hfb, hf]
  show (st.recs.drop (b - st.first))[_]? = _
  rw [hf, List.getElem?_drop]
  congr 1
  omega

set_option maxRecDepth 100000 in
set_option maxHeartbeats 4000000 in
theorem same_walk (W : World) (A : Option Addr) (n c : Nat) (X : Nat → List UInt8) (hl : TArg W A n X) (base : Int) (_ : (Lit.int .i64 base).wf = true) (times : Int) (_ : (Lit.int .i64 times).wf = true) :
    Calls Try.prog 12 #[.slice A n c, .int .i64 base, .int .i64 times] W fun e w' => e = .returned (.bool true) ∧ Below W.heap.size W w' := by
  have hn := hl.1
  unfold maxLen at hn
  have HL := Lib.hid hl.2
  clear hl
  obtain ⟨F, hF⟩ : ∃ F : Nat → List UInt8, F = fun i => (X i).take 100 := ⟨_, rfl⟩
  have HF := Lib.hid hF
  clear hF
  go_enter Try.func12, Try.ntmps12
  go_wp2_with fail
  refine (js_fresh W).mono ?_
  rintro e w1 ⟨p, dp, rfl, h1⟩
  go_upto_block 0 with fail
  go_cut [] (fun wx => ∃ s, JS W wx [] p dp 0 s 15 ∧ s.first = 1 ∧ ∃ k, k ≤ n ∧ k ≤ 15 ∧ s.recs = (List.range k).map F)
  case first =>
   go_wp2_with fail
   go_loopw [10] (fun i wr => ∃ (k : Nat) (s : St), k ≤ n ∧ k ≤ 15 ∧ i = .int .i64 k ∧ JS W wr [] p dp 0 s k ∧ s.first = 1 ∧ s.recs = (List.range k).map F) (fun i _ => 15 - (intOf i).toNat)
   case atStart => exact ⟨0, _, by omega, by omega, rfl, h1, rfl, rfl⟩
   case round =>
     obtain ⟨k, s, hkn, hk15, rfl, hj, hf1, hr⟩ := hrel
     clear h1
     have hnx : s.next = k + 1 := by unfold St.next; rw [hf1, hr]; simp; omega
     by_cases hlt : k < n ∧ k < 15
     · obtain ⟨hlt1, hlt2⟩ := hlt
       obtain ⟨ad, rfl, hab, hcell⟩ := HL.out k hlt1
       have c0 : wr.cell? (ad.add k) = some (.string ⟨(X k).toArray⟩) := (hj.below.cell (p := ad.add k) (by rw [block_of_add]; exact hab)).trans hcell
       have CC : ∀ w', Below W.heap.size W w' → w'.cell? (ad.add k) = some (.string ⟨(X k).toArray⟩) := fun w' hw => (hw.cell (p := ad.add k) (by rw [block_of_add]; exact hab)).trans hcell
       have k0 : (0 : Int) ≤ (k : Int) := by omega
       have k1 : (k : Int) < (n : Int) := by omega
       have hjd := hj.ext (Ext.drew _)
       obtain ⟨xs, hxs⟩ : ∃ xs, (X k).take 100 = xs := ⟨_, rfl⟩
       have hxl : xs.length ≤ 100 := by rw [← hxs, List.length_take]; omega
       have hfew := fun w => few_calls w (X k)
       rw [hxs] at hfew
       have hFk : F k = xs := by rw [HF.out]; exact hxs
       have hput := fun w (h : JS W w [] p dp 0 s k) => js_put h s.next xs (by omega) (by omega) (by omega) hxl (by omega)
       have hnext := fun w (h : JS W w [] p dp 0 s k) => js_next h
       obtain ⟨s5, hs5⟩ : ∃ s5 : St, s.putAt s.next xs = s5 := ⟨_, rfl⟩
       rw [hs5] at hput
       generalize s.next = nx at *
       have HC := Lib.hid CC
       have HFW := Lib.hid hfew
       have HPT := Lib.hid hput
       have HNX := Lib.hid hnext
       have HXS := Lib.hid hxs
       have HFK := Lib.hid hFk
       have HS5 := Lib.hid hs5
       have HR := Lib.hid (And.intro hf1 (And.intro hr hnx))
       clear CC hfew hput hnext hxs hcell hj hFk hs5 hf1 hr hnx
       go_wp2_with fail
       go_region_held3 (fun w' => w'.cell? (ad.add k) = some (.string ⟨(X k).toArray⟩))
         (first | assumption | go_keep)
         (first
           | (go_at_call 35; refine (HFW.out _).mono ?_; rintro e w9 ⟨rfl, rfl⟩)
           | (go_at_call 40; refine (HNX.out _ hjd).mono ?_; rintro e w5 ⟨rfl, he5⟩; have h5 := hjd.ext he5; have x5 := HC.out w5 h5.below)
           | (go_at_call 33; refine (HPT.out _ h5).mono ?_; rintro e w6 ⟨rfl, h6, _⟩; have x6 := HC.out w6 h6.below))
       go_wp2_with fail
       go_roundw
       case rel =>
         obtain ⟨hf1, hr, hnx⟩ := HR.out
         have hs5 := HS5.out
         refine ⟨k + 1, s5, by omega, by omega, by go_num, h6, by rw [← hs5]; exact hf1, ?_⟩
         rw [← hs5, List.range_succ, List.map_append, ← hr]
         show s.recs.take (nx - s.first) ++ [xs] = _
         have : s.recs.length = k := by rw [hr]; simp
         rw [List.take_of_length_le (by omega)]
         simp [HFK.out]
       case measure => simp [intOf]; omega
     · have hex : ∃ s, JS W wr [] p dp 0 s 15 ∧ s.first = 1 ∧ ∃ k, k ≤ n ∧ k ≤ 15 ∧ s.recs = (List.range k).map F := ⟨s, hj.more hk15, hf1, k, hkn, hk15, hr⟩
       clear hj hf1 hr hnx
       by_cases hk1 : k < n
       · have hk2 : ¬ ((k : Int) < 15) := by omega
         go_wp2_with fail
         go_meet
         exact hex
       · have hk2 : ¬ ((k : Int) < (n : Int)) := by omega
         go_wp2_with fail
         go_meet
         exact hex
  case rest =>
  clear h1
  obtain ⟨s, hj, hf1, k, hkn, hk15, hr⟩ := hcut
  go_wp2_with fail
  refine (js_meta hj [116, 104, 101, 32, 110, 111, 116, 101] (by decide) (by decide)).mono ?_
  rintro e w3 ⟨rfl, h3, _⟩
  go_wp2_with fail
  obtain ⟨b, (hb : within base 0 16 = _), hb16⟩ := within_nat base 16
  refine (within_calls _ base 0 16 (by decide) (by decide) (by decide)).mono ?_
  rintro e w4 ⟨rfl, rfl⟩
  rw [hb]
  have hg : Good { s with note := [116, 104, 101, 32, 110, 111, 116, 101] } n F := good_start hkn hk15 F hf1 hr rfl
  go_upto_region 11 with fail
  go_cut [58] (fun v wx => v = .bool false ∧ ∃ st sf, JS W wx [] p dp sf st 16 ∧ Good st n F)
  case first =>
    by_cases hb0 : b = 0
    · subst hb0
      go_wp2_with fail
      go_meet
      exact ⟨rfl, _, _, h3, hg⟩
    · have hb1 : (0 : Int) < (b : Int) := by omega
      go_wp2_with fail
      refine (js_base h3 b [116, 104, 101, 32, 98, 97, 115, 101] (by show s.first ≤ b; omega) (by omega) (by decide) (by decide)).mono ?_
      rintro e w5 ⟨rfl, sf, h5, _⟩
      go_wp2_with fail
      go_meet
      exact ⟨rfl, _, _, h5, good_base hg hf1 (by omega) hb16 _⟩
  case rest =>
  clear hg h3 hb hj hr hf1
  obtain ⟨rfl, st, sf, hj, hg⟩ := hcut
  obtain ⟨hnote, hf1, hfn, hn16, _, hget⟩ := hg
  have HGET := Lib.hid hget
  clear hget
  go_wp2_with fail
  refine (js_first hj).mono ?_
  rintro e w6 ⟨rfl, rfl⟩
  go_wp2_with fail
  refine (js_next hj).mono ?_
  rintro e w7 ⟨rfl, he7⟩
  have h7 := hj.ext he7
  clear hj he7
  go_wp2_with fail
  obtain ⟨r, (hr : within times 0 3 = _), hr3⟩ := within_nat times 3
  refine (within_calls _ times 0 3 (by decide) (by decide) (by decide)).mono ?_
  rintro e w8 ⟨rfl, rfl⟩
  rw [hr]
  clear hr
  go_wp2_with fail
  go_loopw [8, 14] (fun x i wr => ∃ q j : Nat, x = .pointer (some ⟨q, 0, none⟩) ∧ i = .int .i64 j ∧ j ≤ 4 ∧ JS W wr [] q dp sf st 16) (fun _ i _ => (intOf i).toNat)
  case atStart => exact ⟨p, 1 + r, rfl, by go_num, by omega, h7⟩
  case round =>
    obtain ⟨q, j, rfl, rfl, hj4, hj⟩ := hrel
    clear h7
    by_cases hj0 : 0 < j
    · have hj1 : (0 : Int) < (j : Int) := by omega
      go_wp2_with fail
      refine (js_open hj (by decide)).mono ?_
      rintro e w9 ⟨y, rfl, h9, _⟩
      clear hj
      go_wp2_with fail
      refine (js_first h9).mono ?_
      rintro e w10 ⟨rfl, rfl⟩
      go_wp2_with fail
      refine (js_next h9).mono ?_
      rintro e w11 ⟨rfl, he11⟩
      have h11 := h9.ext he11
      clear h9 he11
      go_wp2_with fail
      refine (js_note h11 hnote).mono ?_
      rintro e w12 ⟨rfl, rfl⟩
      go_wp2_with fail
      go_loopw [17] (fun i wr => ∃ k : Nat, i = .int .i64 ((k : Int) + 1) ∧ st.first ≤ k + 1 ∧ k + 1 ≤ st.next ∧ JS W wr [] y dp sf st 16) (fun i _ => 20 - (intOf i).toNat)
      case atStart => exact ⟨st.first - 1, by congr 1; omega, by omega, by omega, h11⟩
      case round =>
        obtain ⟨k, rfl, hk1, hk2, hj⟩ := hrel
        clear h11
        by_cases hkn : k + 1 < st.next
        · obtain ⟨g1, g2⟩ := HGET.out k hk1 hkn
          obtain ⟨ad, rfl, hab, hcell⟩ := HL.out k g2
          have CC : ∀ w', Below W.heap.size W w' → w'.cell? (ad.add k) = some (.string ⟨(X k).toArray⟩) := fun w' hw => (hw.cell (p := ad.add k) (by rw [block_of_add]; exact hab)).trans hcell
          have HC := Lib.hid CC
          have hfew := fun w => few_calls w (X k)
          have hFk : (X k).take 100 = F k := by rw [HF.out]
          rw [hFk] at hfew
          have HFW := Lib.hid hfew
          have i1 : (k : Int) + 1 < (st.next : Int) := by omega
          have i2 : ¬ ((k : Int) + 1 > (n : Int)) := by omega
          have i3 : (0 : Int) ≤ (k : Int) := by omega
          have i4 : (k : Int) < (n : Int) := by omega
          clear CC hfew hFk hcell
          go_wp2_with fail
          refine (js_get_some hj g1).mono ?_
          rintro e w13 ⟨rfl, he13⟩
          have h13 := hj.ext he13
          have c13 := HC.out w13 h13.below
          clear hj he13
          go_wp2_with fail
          refine (HFW.out _).mono ?_
          rintro e w14 ⟨rfl, rfl⟩
          go_wp2_with fail
          go_roundw
          case rel => exact ⟨k + 1, by go_num, by omega, by omega, h13⟩
          case measure => simp [intOf]; omega
        · have i1 : ¬ ((k : Int) + 1 < (st.next : Int)) := by omega
          go_wp2_with fail
          go_roundw
          case rel => exact ⟨y, j - 1, rfl, by go_num, by omega, hj⟩
          case measure => simp [intOf]; omega
    · obtain rfl : j = 0 := by omega
      go_wp2_with fail
      refine (js_put hj st.next [109, 111, 114, 101] hfn (Nat.le_refl _) (by omega) (by decide) (by decide)).mono ?_
      rintro e w9 ⟨rfl, h9, _⟩
      have hnx9 : (st.putAt st.next [109, 111, 114, 101]).next = st.next + 1 := by
        show st.first + (st.recs.take (st.next - st.first) ++ [[109, 111, 114, 101]]).length = _
        simp [List.length_take, St.next]
        omega
      clear hj
      go_wp2_with fail
      refine (js_next h9).mono ?_
      rintro e w10 ⟨rfl, he10⟩
      rw [hnx9]
      have hbw := h9.below.trans (he10.mono h9.below.size)
      clear h9 he10 hnx9
      go_wp2_with fail
      refine (known23 _).mono ?_
      rintro e w11 ⟨rfl, he⟩
      go_wp2_with fail
      go_ret
      exact ⟨rfl, hbw.trans (he.mono hbw.size)⟩

end Go.Proofs.Ytfclighheoobaaa
