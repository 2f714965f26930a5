/- TopOutside's walk: the gate's word comes first. -/
import Derived.Test.YtmohidgdmmkikaaGreatDoorAuth
import Derived.Test.YtmohidgdmmkikaaGreatDoorOpen
import Derived.Laws.Strings
namespace Go.Proofs.YtmohidgdmmkikaaGreatDoor
open Go.RowKit

attribute [local go_sem] Oper.pureUpon Oper.relUpon

set_option maxRecDepth 100000 in
theorem cut_calls (w : World) (A : Option Addr) (n c : Nat) (hc : n ≤ c) :
    Calls Tryz.prog 6 #[.slice A n c, .int .i64 100] w fun e w' => e = .returned (.slice A (min n 100) c) ∧ w' = w := by
  by_cases h : n > 100
  · have h1 : (n : Int) > 100 := by omega
    have hmin : min n 100 = 100 := by omega
    rw [hmin]
    go_enter Tryz.func6, Tryz.ntmps6
    go_wp2_with fail
    go_ret
    exact ⟨rfl, rfl⟩
  · have h1 : ¬ (n : Int) > 100 := by omega
    have hmin : min n 100 = n := by omega
    rw [hmin]
    go_enter Tryz.func6, Tryz.ntmps6
    go_wp2_with fail
    go_ret
    exact ⟨rfl, rfl⟩

set_option maxRecDepth 100000 in
theorem head_calls (w : World) (s : ByteArray) (hs : s.size < 9223372036854775808) :
    Calls Tryz.prog 10 #[.string s, .int .i64 60] w fun e w' => (∃ s' : ByteArray, e = .returned (.string s') ∧ s'.size ≤ 60) ∧ w' = w := by
  by_cases h : s.size > 60
  · have h1 : (s.size : Int) > 60 := by omega
    go_enter Tryz.func10, Tryz.ntmps10
    go_wp2_with fail
    go_ret
    exact ⟨⟨_, rfl, by rw [ByteArray.size_extract]; omega⟩, rfl⟩
  · have h1 : ¬ (s.size : Int) > 60 := by omega
    go_enter Tryz.func10, Tryz.ntmps10
    go_wp2_with fail
    go_ret
    exact ⟨⟨_, rfl, by omega⟩, rfl⟩

theorem cell_lt {w : World} {a : Addr} {v : Value} (h : w.cell? a = some v) : a.block < w.heap.size := by
  unfold World.cell? at h
  rcases Nat.lt_or_ge a.block w.heap.size with h5 | h5
  · exact h5
  · rw [Array.getElem?_eq_none h5] at h
    simp at h
set_option maxRecDepth 100000 in
set_option maxHeartbeats 1000000 in
theorem outside_walk (hawake : ∀ w, Calls Tryz.prog 15 #[] w fun e w' => e = .returned (.bool true) ∧ Ext w w') (W : World) (A : Option Addr) (n c : Nat) (X : Nat → List UInt8) (hl : RArg W A n X) (user pass : ByteArray) (hu : user.size < 9223372036854775808) (hp : pass.size < 9223372036854775808) :
    Calls Tryz.prog 3 #[.slice A n c, .string user, .string pass] W fun e w' => e = .returned (.bool true) ∧ Below W.heap.size W w' := by
  have hn := hl.1
  unfold maxLen at hn
  have HL := Lib.hid hl.2
  clear hl
  go_enter Tryz.func3, Tryz.ntmps3
  go_wp2_with fail
  refine (gate_new _ W.heap.size _ _ (Blk.new W 26 _)).mono ?_
  rintro e w1 ⟨g, rfl, hg, hG, x1⟩
  go_wp2_with fail
  have hgW : W.heap.size ≤ g := Nat.le_trans (by simp) hg
  have hx1 : Below W.heap.size W w1 := Below.trans ((Below.refl _ W).alloc (Nat.le_refl _) _) ⟨x1.os, x1.tape, x1.output, x1.size, fun j hj => x1.block j (Nat.lt_of_lt_of_le hj (by simp))⟩
  clear hg x1
  go_loopw [8, 9] (fun inn i wr => ∃ (k : Nat) (b : Bool) (tr : Nat), k ≤ 15 ∧ k ≤ n ∧ i = .int .i64 (k : Int) ∧ inn = .bool b ∧ tr ≤ k ∧ IsG wr g tr b ∧ Below W.heap.size W wr) (fun _ i _ => 15 - (intOf i).toNat)
  case atStart => exact ⟨0, false, 0, by omega, by omega, rfl, rfl, by omega, hG, hx1⟩
  case round =>
    obtain ⟨k, b, tr, hk15, hkn, rfl, rfl, htr, hGr, hxr⟩ := hrel
    by_cases hlt : k < n ∧ k < 15
    · obtain ⟨hlt1, hlt2⟩ := hlt
      obtain ⟨ad, Ai, ci, rfl, hab, hcell, hbarg⟩ := HL.out k hlt1
      have hcell' := (hxr.cell (p := ad.add k) (by rw [block_of_add]; exact hab)).trans hcell
      have hle : (X k).length ≤ ci := hbarg.le
      by_cases h7 : k = 7
      · subst h7
        have hcell7 : wr.cell? ⟨ad.block, ad.off + 7, none⟩ = some (.slice Ai (X 7).length ci) := by simpa [Addr.add] using hcell'
        clear hcell hbarg
        go_wp2_with fail
        refine (cut_calls wr Ai (X 7).length ci hle).mono ?_
        rintro e w2 ⟨rfl, hww⟩
        subst hww
        go_wp2_with fail
        refine (wwriter_new w2).mono ?_
        rintro e v1 ⟨q, rfl, i1, y1⟩
        go_wp2_with fail
        refine (wwriter_byte i1 50 (by omega) (by simp)).mono ?_
        rintro e v2 ⟨rfl, i2, y2⟩
        have t2 := Below.trans y1 y2
        clear i1 y1 y2
        have n2 : (([] : List UInt8) ++ beBytes 1 50).length ≤ 1 := by simp [beBytes_len]
        generalize ([] : List UInt8) ++ beBytes 1 50 = l2 at i2 n2
        go_wp2_with fail
        refine (head_calls v2 user hu).mono ?_
        rintro e v2' ⟨⟨s1, rfl, hs1⟩, hvv⟩
        subst hvv
        go_wp2_with fail
        refine (wwriter_text i2 s1 (by omega) (by omega)).mono ?_
        rintro e v3 ⟨rfl, i3, y3⟩
        have t3 := Below.trans t2 y3
        clear i2 y3 t2
        have n3 : (l2 ++ beBytes 4 s1.size ++ s1.data.toList).length ≤ 65 := by rw [List.length_append, List.length_append, beBytes_len]; have : s1.data.toList.length = s1.size := rfl; omega
        generalize l2 ++ beBytes 4 s1.size ++ s1.data.toList = l3 at i3 n3
        go_wp2_with fail
        refine (wwriter_text i3 _ (by decide) (by omega)).mono ?_
        rintro e v4 ⟨rfl, i4, y4⟩
        have t4 := Below.trans t3 y4
        clear i3 y4 t3
        have n4 : (l3 ++ beBytes 4 (ByteArray.mk #[115, 115, 104, 45, 99, 111, 110, 110, 101, 99, 116, 105, 111, 110]).size ++ (ByteArray.mk #[115, 115, 104, 45, 99, 111, 110, 110, 101, 99, 116, 105, 111, 110]).data.toList).length ≤ 83 := by rw [List.length_append, List.length_append, beBytes_len]; simp only [List.length_cons, List.length_nil]; omega
        generalize l3 ++ beBytes 4 (ByteArray.mk #[115, 115, 104, 45, 99, 111, 110, 110, 101, 99, 116, 105, 111, 110]).size ++ (ByteArray.mk #[115, 115, 104, 45, 99, 111, 110, 110, 101, 99, 116, 105, 111, 110]).data.toList = l4 at i4 n4
        go_wp2_with fail
        refine (wwriter_text i4 _ (by decide) (by omega)).mono ?_
        rintro e v5 ⟨rfl, i5, y5⟩
        have t5 := Below.trans t4 y5
        clear i4 y5 t4
        have n5 : (l4 ++ beBytes 4 (ByteArray.mk #[112, 97, 115, 115, 119, 111, 114, 100]).size ++ (ByteArray.mk #[112, 97, 115, 115, 119, 111, 114, 100]).data.toList).length ≤ 95 := by rw [List.length_append, List.length_append, beBytes_len]; simp only [List.length_cons, List.length_nil]; omega
        generalize l4 ++ beBytes 4 (ByteArray.mk #[112, 97, 115, 115, 119, 111, 114, 100]).size ++ (ByteArray.mk #[112, 97, 115, 115, 119, 111, 114, 100]).data.toList = l5 at i5 n5
        go_wp2_with fail
        refine (wwriter_bool i5 false (by omega)).mono ?_
        rintro e v6 ⟨rfl, i6, y6⟩
        have t6 := Below.trans t5 y6
        clear i5 y6 t5
        have n6 : (l5 ++ beBytes 1 false.toNat).length ≤ 96 := by rw [List.length_append, beBytes_len]; omega
        generalize l5 ++ beBytes 1 false.toNat = l6 at i6 n6
        go_wp2_with fail
        refine (head_calls v6 pass hp).mono ?_
        rintro e v6' ⟨⟨s2, rfl, hs2⟩, hvv⟩
        subst hvv
        go_wp2_with fail
        refine (wwriter_text i6 s2 (by omega) (by omega)).mono ?_
        rintro e v7 ⟨rfl, i7, y7⟩
        have t7 := Below.trans t6 y7
        clear i6 y7 t6
        have n7 : (l6 ++ beBytes 4 s2.size ++ s2.data.toList).length ≤ 160 := by rw [List.length_append, List.length_append, beBytes_len]; have : s2.data.toList.length = s2.size := rfl; omega
        generalize l6 ++ beBytes 4 s2.size ++ s2.data.toList = l7 at i7 n7
        go_wp2_with fail
        refine (wwriter_done i7 (by omega)).mono ?_
        rintro e v8 ⟨A8, c8, rfl, o8, y8⟩
        have hx := below_ext (Below.trans hxr ⟨t7.os, t7.tape, t7.output, t7.size, fun j hj => t7.block j (Nat.lt_of_lt_of_le hj hxr.size)⟩) (Nat.le_refl _) y8
        have hGx := (hGr.ext t7).ext y8
        have hRx := Reads.of_own o8
        have hgv : g < v7.heap.size := by
          obtain ⟨_, _, _, _, _, _, _, hbg, _, _⟩ := hGr.ext t7
          exact hbg.lt
        have hneg : ∀ a, A8 = some a → 0 < l7.length → a.block ≠ g := fun a ha h0 => by
          subst ha
          obtain ⟨_, _, he, _, _, _, hz⟩ := own_slice o8
          injection he with e1 _ _
          have := (o8.lt a.block (hz a e1.symm).2).1
          omega
        have hBx := Nat.le_refl v8.heap.size
        have hmx : l7.length ≤ 1000 := by omega
        have hmc : l7.length ≤ c8 := (own_slice' o8).1
        obtain ⟨k, hk7⟩ : ∃ k, k = 7 := ⟨_, rfl⟩
        clear hGr hxr hcell' hcell7 i7 t7 y8 o8
        generalize l7.length = mx at *
        go_wp2_with fail
        refine (gate_do hGx (by omega) hRx hBx hmx hmc).mono ?_
        rintro e w5 hpost
        have hbel5 : ∀ w', Mod [g] v8 w' → Below W.heap.size W w' := fun w' hm => hx.trans (hm.below hx.size (by simpa using hgW))
        rcases hpost with ⟨⟨A5, n5, c5, rfl⟩, ⟨tr5, htr5, hG5⟩, m5⟩ | ⟨v, rfl, hl50, ⟨b6, c6, b7, c7, rfl, hB6, hB7⟩, hG5, m5⟩
        · have x5 := hbel5 _ m5
          clear hGx hRx hBx hmx hmc hbel5 hx m5
          cases b
          · go_wp2_with fail
            refine (gate_user hG5).mono ?_
            rintro e w6 ⟨⟨us, rfl⟩, x6⟩
            have H6 := Lib.hid (And.intro (hG5.ext x6) (below_ext x5 (Nat.le_refl _) x6))
            clear hG5 x6 x5
            go_wp2_with fail
            go_roundw
            case rel => exact ⟨8, false, tr5, by omega, by omega, rfl, rfl, by omega, H6.out.1, H6.out.2⟩
            case measure => simp [intOf]
          · go_wp2_with fail
            refine (gate_user hG5).mono ?_
            rintro e w6 ⟨⟨us, rfl⟩, x6⟩
            have H6 := Lib.hid (And.intro (hG5.ext x6) (below_ext x5 (Nat.le_refl _) x6))
            clear hG5 x6 x5
            go_wp2_with fail
            go_roundw
            case rel => exact ⟨8, true, tr5, by omega, by omega, rfl, rfl, by omega, H6.out.1, H6.out.2⟩
            case measure => simp [intOf]
        · have x5 := hbel5 _ m5
          obtain ⟨m', rfl⟩ : ∃ m', mx = m' + 1 := by
            have h1 := hRx.len
            have h2 := (List.getElem?_eq_some_iff.1 hl50).1
            exact ⟨mx - 1, by omega⟩
          obtain ⟨adx, u, rfl, hadB, hux, hcx⟩ := hRx.at_ (k := 0) (by omega)
          obtain rfl : u = .int .u8 50 := by
            rw [bys_get, hl50] at hux
            exact (Option.some.inj hux).symm
          have hcx5 : w5.cell? adx = some (.int .u8 50) := (m5.cell (by omega) (by simpa using hneg adx rfl (by omega))).trans (by simpa [Addr.add] using hcx)
          clear hGx hRx hBx hmx hmc hbel5 hx m5 hcx hux hl50
          cases b
          · go_wp2_with fail
            refine (gate_user hG5).mono ?_
            rintro e w6 ⟨⟨us, rfl⟩, x6⟩
            have hcx6 : w6.cell? adx = some (.int .u8 50) := (x6.cell (cell_lt hcx5)).trans hcx5
            have d6 := (hB6.below x6 hB6.lt).cell 0
            have d7 := (hB7.below x6 hB7.lt).cell 0
            simp at d6 d7
            have H6 := Lib.hid (And.intro (hG5.ext x6) (below_ext x5 (Nat.le_refl _) x6))
            clear hG5 x6 x5 hB6 hB7 hcx5
            go_wp2_with fail
            go_roundw
            case rel => exact ⟨8, true, tr, by omega, by omega, rfl, rfl, by omega, H6.out.1, H6.out.2⟩
            case measure => simp [intOf]
          · go_wp2_with fail
            refine (gate_user hG5).mono ?_
            rintro e w6 ⟨⟨us, rfl⟩, x6⟩
            have H6 := Lib.hid (And.intro (hG5.ext x6) (below_ext x5 (Nat.le_refl _) x6))
            clear hG5 x6 x5 hB6 hB7 hcx5
            go_wp2_with fail
            go_roundw
            case rel => exact ⟨8, true, tr, by omega, by omega, rfl, rfl, by omega, H6.out.1, H6.out.2⟩
            case measure => simp [intOf]
      · have h7' : ¬ (k : Int) = 7 := by omega
        go_wp2_with fail
        refine (cut_calls wr Ai (X k).length ci hle).mono ?_
        rintro e w2 ⟨rfl, hww⟩
        subst hww
        have hb100 : BArg W Ai (min (X k).length 100) ci ((X k).take (min (X k).length 100)) := hbarg.take (by omega)
        have hRx : Reads w2 W.heap.size 1 Ai (min (X k).length 100) (bys ((X k).take (min (X k).length 100))) := hb100.reads.below hxr
        have hBx := hxr.size
        have hmx : min (X k).length 100 ≤ 1000 := by omega
        have hmc : min (X k).length 100 ≤ ci := by omega
        have hneg : ∀ a, Ai = some a → 0 < min (X k).length 100 → a.block ≠ g := fun a ha h0 => by
          obtain ⟨a', _, ha', hb', _, _⟩ := hRx.at_ (k := 0) (by omega)
          rw [ha] at ha'
          injection ha' with ha'
          subst ha'
          omega
        have hGx := hGr
        have hx := hxr
        generalize (X k).take (min (X k).length 100) = lx at *
        generalize hmm : min (X k).length 100 = mx at *
        clear hGr hxr hcell hb100 hbarg hcell'
        go_wp2_with fail
        refine (gate_do hGx (by omega) hRx hBx hmx hmc).mono ?_
        rintro e w5 hpost
        have hbel5 : ∀ w', Mod [g] w2 w' → Below W.heap.size W w' := fun w' hm => hx.trans (hm.below hx.size (by simpa using hgW))
        rcases hpost with ⟨⟨A5, n5, c5, rfl⟩, ⟨tr5, htr5, hG5⟩, m5⟩ | ⟨v, rfl, hl50, ⟨b6, c6, b7, c7, rfl, hB6, hB7⟩, hG5, m5⟩
        · have x5 := hbel5 _ m5
          clear hGx hRx hBx hmx hmc hbel5 hx m5
          cases b
          · go_wp2_with fail
            refine (gate_user hG5).mono ?_
            rintro e w6 ⟨⟨us, rfl⟩, x6⟩
            have H6 := Lib.hid (And.intro (hG5.ext x6) (below_ext x5 (Nat.le_refl _) x6))
            clear hG5 x6 x5
            go_wp2_with fail
            go_roundw
            case rel => exact ⟨k + 1, false, tr5, by omega, by omega, rfl, rfl, by omega, H6.out.1, H6.out.2⟩
            case measure => simp [intOf]; omega
          · go_wp2_with fail
            refine (gate_user hG5).mono ?_
            rintro e w6 ⟨⟨us, rfl⟩, x6⟩
            have H6 := Lib.hid (And.intro (hG5.ext x6) (below_ext x5 (Nat.le_refl _) x6))
            clear hG5 x6 x5
            go_wp2_with fail
            go_roundw
            case rel => exact ⟨k + 1, true, tr5, by omega, by omega, rfl, rfl, by omega, H6.out.1, H6.out.2⟩
            case measure => simp [intOf]; omega
        · have x5 := hbel5 _ m5
          obtain ⟨m', rfl⟩ : ∃ m', mx = m' + 1 := by
            have h1 := hRx.len
            have h2 := (List.getElem?_eq_some_iff.1 hl50).1
            exact ⟨mx - 1, by omega⟩
          obtain ⟨adx, u, rfl, hadB, hux, hcx⟩ := hRx.at_ (k := 0) (by omega)
          obtain rfl : u = .int .u8 50 := by
            rw [bys_get, hl50] at hux
            exact (Option.some.inj hux).symm
          have hcx5 : w5.cell? adx = some (.int .u8 50) := (m5.cell (by omega) (by simpa using hneg adx rfl (by omega))).trans (by simpa [Addr.add] using hcx)
          clear hGx hRx hBx hmx hmc hbel5 hx m5 hcx hux hl50
          cases b
          · go_wp2_with fail
            refine (gate_user hG5).mono ?_
            rintro e w6 ⟨⟨us, rfl⟩, x6⟩
            have hcx6 : w6.cell? adx = some (.int .u8 50) := (x6.cell (cell_lt hcx5)).trans hcx5
            have d6 := (hB6.below x6 hB6.lt).cell 0
            have d7 := (hB7.below x6 hB7.lt).cell 0
            simp at d6 d7
            have H6 := Lib.hid (And.intro (hG5.ext x6) (below_ext x5 (Nat.le_refl _) x6))
            clear hG5 x6 x5 hB6 hB7 hcx5
            go_wp2_with fail
            go_roundw
            case rel => exact ⟨k + 1, true, tr, by omega, by omega, rfl, rfl, by omega, H6.out.1, H6.out.2⟩
            case measure => simp [intOf]; omega
          · go_wp2_with fail
            refine (gate_user hG5).mono ?_
            rintro e w6 ⟨⟨us, rfl⟩, x6⟩
            have H6 := Lib.hid (And.intro (hG5.ext x6) (below_ext x5 (Nat.le_refl _) x6))
            clear hG5 x6 x5 hB6 hB7 hcx5
            go_wp2_with fail
            go_roundw
            case rel => exact ⟨k + 1, true, tr, by omega, by omega, rfl, rfl, by omega, H6.out.1, H6.out.2⟩
            case measure => simp [intOf]; omega
    · by_cases hkn2 : k < n
      · have hk : k = 15 := by omega
        subst hk
        go_wp2_with fail
        refine (hawake wr).mono ?_
        rintro e w2 ⟨rfl, x2⟩
        have x3 := below_ext hxr (Nat.le_refl _) x2
        clear hxr x2 hGr hG
        go_wp2_with fail
        go_ret
        exact ⟨rfl, x3⟩
      · have hk : k = n := by omega
        subst hk
        go_wp2_with fail
        refine (hawake wr).mono ?_
        rintro e w2 ⟨rfl, x2⟩
        have x3 := below_ext hxr (Nat.le_refl _) x2
        clear hxr x2 hGr hG
        go_wp2_with fail
        go_ret
        exact ⟨rfl, x3⟩
end Go.Proofs.YtmohidgdmmkikaaGreatDoor
