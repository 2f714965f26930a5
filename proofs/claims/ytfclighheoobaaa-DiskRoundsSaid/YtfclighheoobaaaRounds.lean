/- DiskRounds: what is appended in rounds, each synced, is there behind crashes between. -/
import Derived.Test.YtfclighheoobaaaDisk2
import Derived.Deep.DeepCutAuto
import Derived.Deep.CutBlock
namespace Go.Proofs.Ytfclighheoobaaa
open Go.RowKit

attribute [local go_sem] ba_append ba_extract ba_size

set_option maxRecDepth 100000 in
set_option maxHeartbeats 1000000 in
theorem rounds_walk (W : World) (A : Option Addr) (n c : Nat) (X : Nat → List UInt8) (hl : RArg W A n X) (A2 : Option Addr) (m c2 : Nat) (Z : Nat → Int) (hk : IArg W A2 m Z) :
    Calls Try.prog 3 #[.slice A n c, .slice A2 m c2] W fun e w' => e = .returned (.bool true) ∧ Below W.heap.size W w' := by
  have hn := hl.1
  have hm := hk.1
  unfold maxLen at hn hm
  have HL := Lib.hid hl.2
  have HK := Lib.hid hk.2
  clear hl hk
  have kc := fun (w : World) (C : Array Value) (n c : Nat) => Lib.run_convert_bytes_const (P := Try.prog) w 26 5 C n c Try.underlying26 Try.underlying5
  go_enter Try.func3, Try.ntmps3
  go_wp2_with fail
  refine (d_new W W (Below.refl _ _)).mono ?_
  rintro e w1 ⟨p, rfl, h1⟩
  go_wp2
  go_loopw [6, 7] (fun want i wr => ∃ (k : Nat) (l : List UInt8), k ≤ n ∧ k ≤ 12 ∧ i = .int .i64 k ∧ want = .string ⟨l.toArray⟩ ∧ l.length ≤ 104 * k ∧ D W wr p l l.length) (fun _ i _ => 12 - (intOf i).toNat)
  case atStart => exact ⟨0, [], by omega, by omega, rfl, rfl, by simp, h1⟩
  case round =>
    obtain ⟨k, l, hkn, hk12, rfl, rfl, hll, hd⟩ := hrel
    by_cases hlt : k < n ∧ k < 12
    · obtain ⟨hlt1, hlt2⟩ := hlt
      obtain ⟨ad, Ai, ci, rfl, hab, hcell, hbarg⟩ := HL.out k hlt1
      have hcell' := (hd.below.cell (p := ad.add k) (by rw [block_of_add]; exact hab)).trans hcell
      have hx' : ((X k).take 100).length = min 100 (X k).length := List.length_take
      have hb100 : BArg W Ai (min 100 (X k).length) ci ((X k).take 100) := by
        have := hbarg.take (m := min 100 (X k).length) (by omega)
        rwa [← List.take_take, List.take_length] at this
      generalize hxl : min 100 (X k).length = x at *
      have Hxl := Lib.hid hxl
      have Hx' := Lib.hid hx'
      clear hxl hx'
      have hle : (X k).length ≤ ci := hbarg.le
      go_upto_if 29 with fail
      go_cut [8] (fun s8 wx => s8 = .slice Ai x ci ∧ wx = wr)
      case first =>
        go_wp2_with fail
        all_goals go_meet
        all_goals have hx2 := Hxl.out
        all_goals exact ⟨by congr 1; omega, rfl⟩
      case rest =>
        obtain ⟨rfl, rfl⟩ := hcut
        have hx100 : x ≤ 100 := by have := Hxl.out; omega
        go_wp2_with fail
        refine (d_append hd (hb100.reads.below hd.below) (by omega)).mono ?_
        rintro e w2 ⟨rfl, h2⟩
        go_wp2_with fail
        refine (d_sync h2).mono ?_
        rintro e w3 ⟨rfl, h3⟩
        have hs := run_str w3 26 9 5 Try.underlying26 Try.underlying5 Try.underlying9 (hb100.reads.below h3.below)
        go_wp2_with fail
        refine (d_append (xs := [108, 111, 115, 116]) (h3.alloc _) (reads_new _ _ _ _) (by have := Hx'.out; simp; omega)).mono ?_
        rintro e w4 ⟨rfl, h4⟩
        clear hs
        go_upto_if 50 with fail
        go_cut [9] (fun s9 wx => ∃ q : Nat, s9 = .int .i64 (q : Int) ∧ q ≤ 4 ∧ wx = w4)
        case first =>
          by_cases hkm : k < m
          · obtain ⟨ad2, rfl, hab2, hcell2⟩ := HK.out k hkm
            have hcell2' := (h4.below.cell (p := ad2.add k) (by rw [block_of_add]; exact hab2)).trans hcell2
            have hkm' : decide (k < m) = true := by simpa using hkm
            go_wp2_with fail
            refine (within_calls _ (Z k) 0 4 (by omega) (by omega) (by omega)).mono ?_
            rintro e w5 ⟨rfl, rfl⟩
            obtain ⟨q, hq, hq4⟩ : ∃ q : Nat, within (Z k) 0 4 = q ∧ q ≤ 4 := by
              refine ⟨(within (Z k) 0 4).toNat, ?_, ?_⟩ <;> (unfold within; omega)
            rw [hq]
            go_wp2_with fail
            go_meet
            exact ⟨q, rfl, hq4, rfl⟩
          · have hkm' : decide (k < m) = false := by simpa using hkm
            go_wp2_with fail
            go_meet
            exact ⟨0, rfl, by omega, rfl⟩
        case rest =>
          obtain ⟨q, rfl, hq, rfl⟩ := hcut
          go_wp2_with fail
          refine (d_crash h4 q).mono ?_
          rintro e w5 ⟨rfl, h5⟩
          obtain ⟨l5, he5, hn5, h5⟩ : ∃ l5, l ++ ((X k).take 100 ++ [108, 111, 115, 116].take q) = l5 ∧ l5.length ≤ 104 * (k + 1) ∧ D W w5 p l5 l5.length := by
            have hx2 := Hx'.out
            refine ⟨_, rfl, by simp only [List.length_append, List.length_take, List.length_cons, List.length_nil]; omega, ?_⟩
            have e : (l ++ List.take 100 (X k) ++ [108, 111, 115, 116]).take ((l ++ List.take 100 (X k)).length + Int.toNat (q : Int)) = l ++ ((X k).take 100 ++ [108, 111, 115, 116].take q) := by
              rw [Int.toNat_natCast, List.take_length_add_append, List.append_assoc]
            rwa [e] at h5
          go_wp2_with fail
          refine (d_bytes h5).mono ?_
          rintro e w6 ⟨A6, c6, rfl, ho6, h6, hb6⟩
          have hs6 := run_str w6 26 9 5 Try.underlying26 Try.underlying5 Try.underlying9 (reads_own ho6)
          go_wp2_with fail
          refine (d_safe h6).mono ?_
          rintro e w7 ⟨rfl, rfl⟩
          go_wp2_with fail
          go_roundw
          case rel => exact ⟨k + 1, l5, by omega, by omega, by go_num, rfl, hn5, h6⟩
          case measure => simp [intOf]; omega
    · have h12 : (decide (k < n) = true ∧ decide ((k : Int) < 12) = false) ∨ decide (k < n) = false := by
        rcases Nat.lt_or_ge k n with h | h
        · exact .inl ⟨by simpa using h, by simp; omega⟩
        · exact .inr (by simpa using h)
      clear hlt
      rcases h12 with ⟨h1, h2⟩ | h1
      all_goals
        go_wp2_with fail
        refine (d_bytes hd).mono ?_
        rintro e w6 ⟨A6, c6, rfl, ho6, h6, hb6⟩
        have hs6 := run_str w6 26 9 5 Try.underlying26 Try.underlying5 Try.underlying9 (reads_own ho6)
        go_wp2_with fail
        refine (known_calls W w6 h6.below).mono ?_
        rintro e w7 ⟨rfl, hb7⟩
        go_wp2
        go_ret
        exact ⟨rfl, hb7⟩

end Go.Proofs.Ytfclighheoobaaa
