/- WalBases. -/
import Derived.Test.YtfclighheoobaaaGoes
import Derived.Laws.Runes
namespace Go.Proofs.Ytfclighheoobaaa
open Go.RowKit

attribute [local go_sem] ba_append ba_extract ba_size Oper.pureUpon Oper.relUpon

/-- The record of number i + 1. -/
def recd (i : Nat) : List UInt8 := [114, 101, 99, 111, 114, 100, 32, 98 + UInt8.ofNat i]
theorem utf8_low (r : Nat) (h : r < 128) : Utf8.encode (r : Int) = ⟨#[UInt8.ofNat r]⟩ := by
  have hv : Utf8.valid (r : Int) = true := by unfold Utf8.valid; simp; omega
  unfold Utf8.encode
  simp [hv, h]

theorem enc_low (k : Nat) (h : k < 30) : Utf8.encode (97 + ((k : Int) + 1)) = ⟨#[98 + UInt8.ofNat k]⟩ := by
  have h1 := utf8_low (98 + k) (by omega)
  rw [UInt8.ofNat_add] at h1
  have h2 : ((98 + k : Nat) : Int) = 97 + ((k : Int) + 1) := by omega
  rw [h2] at h1
  exact h1

theorem bases_get {st : St} {N : Nat} (h : Went st N 1 recd) (b : Nat) (hb : 1 ≤ b) (x : List UInt8) {i : Nat} (hi : i + 1 < (st.baseAt b x).next) :
    (b ≤ i + 1 → (st.baseAt b x).get ((i : Int) + 1) = some (recd i)) ∧ (i + 1 < b → (st.baseAt b x).get ((i : Int) + 1) = none) := by
  obtain ⟨h1, _, _, h4⟩ := h
  have e1 : (st.baseAt b x).recs = ((List.range N).map recd).drop (b - 1) := by show st.recs.drop (b - st.first) = _; rw [h1, h4]; rfl
  have e2 : (st.baseAt b x).next = b + (N - (b - 1)) := by show b + (st.baseAt b x).recs.length = _; rw [e1]; simp
  have e3 : (st.baseAt b x).first = b := rfl
  refine ⟨fun h => ?_, fun h => ?_⟩
  · unfold St.get
    rw [if_pos (by omega), e1, e3, List.getElem?_drop]
    have e4 : b - 1 + ((i : Int) + 1 - (b : Int)).toNat = i := by omega
    rw [e4, List.getElem?_map, List.getElem?_range (by omega)]
    rfl
  · unfold St.get
    rw [if_neg (by omega)]

set_option maxRecDepth 100000 in
set_option maxHeartbeats 4000000 in
theorem bases_walk (W : World) (n0 : Int) (_ : (Lit.int .i64 n0).wf = true) (at0 : Int) (_ : (Lit.int .i64 at0).wf = true) (snap : ByteArray) (hs : snap.size ≤ maxLen) (keep : Int) (_ : (Lit.int .i64 keep).wf = true) :
    Calls Try.prog 14 #[.int .i64 n0, .int .i64 at0, .string snap, .int .i64 keep] W fun e w' => e = .returned (.bool true) ∧ Below W.heap.size W w' := by
  clear hs
  obtain ⟨X, rfl⟩ : ∃ X : List UInt8, snap = ⟨X.toArray⟩ := ⟨snap.data.toList, by cases snap; simp⟩
  obtain ⟨N, (hN : within n0 0 20 = _), hN20⟩ := within_nat n0 20
  obtain ⟨b, hb, hb3⟩ := within_nat at0 (N + 3)
  rw [show ((N + 3 : Nat) : Int) = (N : Int) + 3 by omega] at hb
  obtain ⟨kp, (hkp : within keep 0 3 = _), hkp3⟩ := within_nat keep 3
  have hw1 := fun w => within_calls w n0 0 20 (by decide) (by decide) (by decide)
  have hw2 := fun w => within_calls w at0 0 ((N : Int) + 3) (by decide) (by omega) (by omega)
  have hw3 := fun w => within_calls w keep 0 3 (by decide) (by decide) (by decide)
  rw [hN] at hw1
  rw [hb] at hw2
  rw [hkp] at hw3
  have HW1 := Lib.hid hw1
  have HW2 := Lib.hid hw2
  have HW3 := Lib.hid hw3
  clear hw1 hw2 hw3 hN hb hkp
  go_enter Try.func14, Try.ntmps14
  go_wp2_with fail
  refine (js_fresh W).mono ?_
  rintro e w1 ⟨p, dp, rfl, h1⟩
  have g1 : Went St.init 0 1 recd := ⟨rfl, by decide, by decide, rfl⟩
  go_wp2_with fail
  refine (HW1.out _).mono ?_
  rintro e w2 ⟨rfl, rfl⟩
  go_wp2_with fail
  refine (HW2.out _).mono ?_
  rintro e w2 ⟨rfl, rfl⟩
  go_wp2_with fail
  go_loopw [12] (fun i wr => ∃ (k : Nat) (st : St), i = .int .i64 ((k : Int) + 1) ∧ k ≤ N ∧ JS W wr [] p dp 0 st k ∧ Went st k 1 recd ∧ st.note = []) (fun i _ => 30 - (intOf i).toNat)
  case atStart => exact ⟨0, _, rfl, by omega, h1, g1, rfl⟩
  case round =>
    obtain ⟨k, st, rfl, hkN, hj, hg, hnt⟩ := hrel
    clear h1 g1
    by_cases hlt : k < N
    · have i1 : (k : Int) + 1 ≤ (N : Int) := by omega
      have henc := enc_low k (by omega)
      have hgn := hg.next
      have hput := js_put hj (k + 1) (recd k) (by have := hg.1; omega) (by omega) (by omega) (by simp [recd]) (by omega)
      rw [show ((k + 1 : Nat) : Int) = (k : Int) + 1 by omega] at hput
      unfold recd at hput
      go_wp2_with fail
      refine hput.mono ?_
      rintro e w2 ⟨rfl, h2, _⟩
      clear hput henc hj
      go_wp2_with fail
      go_roundw
      case rel => exact ⟨k + 1, _, by go_num, by omega, h2, hg.put, hnt⟩
      case measure => simp [intOf]; omega
    · have i1 : ¬ ((k : Int) + 1 ≤ (N : Int)) := by omega
      obtain rfl : k = N := by omega
      clear hlt hkN
      go_wp2_with fail
      refine (js_meta hj [110, 111, 116, 101] (by decide) (by omega)).mono ?_
      rintro e w3 ⟨rfl, h3, _⟩
      obtain ⟨st2, hst2⟩ : ∃ st2 : St, { st with note := [110, 111, 116, 101] } = st2 := ⟨_, rfl⟩
      rw [hst2] at h3
      have hg2 : Went st2 k 1 recd := by rw [← hst2]; exact hg
      have hn2 : st2.note = [110, 111, 116, 101] := by rw [← hst2]
      clear hst2 hg hnt hj
      obtain ⟨es, h3, hs3⟩ := h3
      obtain ⟨xs, hxs⟩ : ∃ xs, X.take 100 = xs := ⟨_, rfl⟩
      have hxl : xs.length ≤ 100 := by rw [← hxs, List.length_take]; omega
      have hfew := fun w => few_calls w X
      rw [hxs] at hfew
      have HFW := Lib.hid hfew
      clear hxs hfew
      go_wp2_with fail
      refine (HFW.out _).mono ?_
      rintro e w4 ⟨rfl, rfl⟩
      have hbase := j_base h3 (1 + b) xs (by have := hg2.1; omega) (by omega) (by omega) (by have := encAll_short hs3 (1 + b) hxl (1 + b - st2.first); omega)
      rw [show ((1 + b : Nat) : Int) = 1 + (b : Int) by omega] at hbase
      have hs5 := hs3.base (1 + b) hxl
      have hnx5 : (st2.baseAt (1 + b) xs).next = 1 + b + (k - b) := by
        have e1 := hg2.next
        have e2 := hg2.1
        show 1 + b + (st2.recs.drop (1 + b - st2.first)).length = _
        unfold St.next at e1
        rw [List.length_drop]
        omega
      have hget := fun i h => bases_get hg2 (1 + b) (by omega) xs (i := i) h
      have hf5 : (st2.baseAt (1 + b) xs).first = 1 + b := rfl
      have hnt5 : (st2.baseAt (1 + b) xs).note = [110, 111, 116, 101] := hn2
      have hsn5 : (st2.baseAt (1 + b) xs).snap = xs := rfl
      generalize st2.baseAt (1 + b) xs = s5 at *
      generalize imgEnts (1 + b) xs st2.note (st2.recs.drop (1 + b - st2.first)) = es5 at *
      have HGET := Lib.hid hget
      have HNX := Lib.hid hnx5
      have hnb : s5.next ≤ 26 := by omega
      have hfn : s5.first ≤ s5.next := by omega
      clear hget hg2 hn2 h3 hs3 hnx5
      go_wp2_with fail
      refine hbase.mono ?_
      rintro e w5 ⟨rfl, h5, _⟩
      clear hbase
      go_wp2_with fail
      refine (j_next h5).mono ?_
      rintro e w6 ⟨rfl, he6⟩
      have h6 := h5.ext he6
      have hsm := hs5.1
      have hrl := hs5.2.2.1
      have hes := hs5.2.1
      clear h5 he6 hs5
      go_wp2_with fail
      refine (j_put h6 s5.next [108, 111, 115, 116] hfn (Nat.le_refl _) (by omega) (by decide) (by show 4 + 21 + _ ≤ _; omega) (by omega)).mono ?_
      rintro e w7 ⟨rfl, h7, _⟩
      have hr5 := h6.2
      clear h6
      go_wp2_with fail
      refine (HW3.out _).mono ?_
      rintro e w8 ⟨rfl, rfl⟩
      go_wp2_with fail
      refine (j_crash h7 (kp : Int)).mono ?_
      rintro e w8 ⟨rfl, Fd, j, t, sf', hj, ht, hlo, hhi, hd, _, hsp, _⟩
      have hje : j = es5.length := by
        have e1 : (bytesOf (es5 ++ [(⟨1, s5.next, [108, 111, 115, 116]⟩ : Ent)])).length = (bytesOf es5).length + 25 := by rw [bytesOf_snoc, List.length_append, enc_len]; rfl
        have e2 := hhi (by rw [e1]; omega)
        have e3 := hlo es5.length (by simp) (by rw [List.take_left]; exact Nat.le_refl _)
        simp at e2
        omega
      have htk : (es5 ++ [(⟨1, s5.next, [108, 111, 115, 116]⟩ : Ent)]).take j = es5 := by rw [hje, List.take_left]
      rw [htk] at hd
      have hel : es5.length ≤ 900000 := by omega
      clear htk hje hlo hhi hj h7
      go_wp2_with fail
      refine (j_open hr5 hel ht hd hsp).mono ?_
      rintro e w9 ⟨y, sf9, rfl, h9, _, _, _⟩
      clear hd hsp ht hr5
      go_wp2_with fail
      refine (j_snap h9).mono ?_
      rintro e w10 ⟨rfl, he10⟩
      have h10 := h9.ext he10
      rw [hf5, hsn5]
      unfold tx
      clear h9 he10
      go_upto_if 84 with fail
      go_cut [17] (fun v wx => v = .int .i64 (s5.next : Int) ∧ wx = w10)
      case first =>
        by_cases hbk : b ≤ k
        · have i2 : ¬ ((k : Int) + 1 < 1 + (b : Int)) := by omega
          go_wp2_with fail
          go_meet
          exact ⟨by have := HNX.out; congr 1; omega, rfl⟩
        · have i2 : (k : Int) + 1 < 1 + (b : Int) := by omega
          go_wp2_with fail
          go_meet
          exact ⟨by have := HNX.out; congr 1; omega, rfl⟩
      case rest =>
      obtain ⟨rfl, rfl⟩ := hcut
      have hfi : ((1 + b : Nat) : Int) = 1 + (b : Int) := by omega
      try rw [hfi]
      go_wp2_with fail
      refine (HFW.out _).mono ?_
      rintro e w11 ⟨rfl, rfl⟩
      go_wp2_with fail
      refine (j_first h10).mono ?_
      rintro e w11 ⟨rfl, rfl⟩
      rw [hf5]
      try rw [hfi]
      go_wp2_with fail
      refine (j_next h10).mono ?_
      rintro e w12 ⟨rfl, he12⟩
      have h12 := h10.ext he12
      clear h10 he12
      go_wp2_with fail
      refine (j_note h12).mono ?_
      rintro e w13 ⟨rfl, rfl⟩
      rw [hnt5]
      unfold tx
      clear hfi hf5 hsn5 hnt5 hsm hrl hel hN20 hb3 hkp3
      clear hfn
      go_wp2_with fail
      go_loopw [18] (fun i wr => ∃ j : Nat, i = .int .i64 ((j : Int) + 1) ∧ j + 1 ≤ s5.next ∧ JOn W wr [] y dp es5 sf9 s5) (fun i _ => 40 - (intOf i).toNat)
      case atStart => exact ⟨0, rfl, by have := HNX.out; omega, h12⟩
      case round =>
        obtain ⟨j, rfl, hjn, hj⟩ := hrel
        clear h12
        by_cases hlt : j + 1 < s5.next
        · obtain ⟨g1, g2⟩ := HGET.out j hlt
          have i1 : (j : Int) + 1 < (s5.next : Int) := by omega
          have henc := enc_low j (by omega)
          have hg := j_get hj ((j : Int) + 1)
          by_cases hbj : 1 + b ≤ j + 1
          · have i3 : 1 + (b : Int) ≤ (j : Int) + 1 := by omega
            rw [g1 hbj] at hg
            simp only [Option.getD_some, Option.isSome_some] at hg
            unfold tx recd at hg
            clear g1 g2 hbj
            go_wp2_with fail
            refine hg.mono ?_
            rintro e w14 ⟨rfl, he14⟩
            have h14 := hj.ext he14
            clear hg hj he14
            go_wp2_with fail
            go_roundw
            case rel => exact ⟨j + 1, by go_num, by omega, h14⟩
            case measure => simp [intOf]; omega
          · have i3 : ¬ (1 + (b : Int) ≤ (j : Int) + 1) := by omega
            rw [g2 (by omega)] at hg
            simp only [Option.getD_none, Option.isSome_none] at hg
            unfold tx at hg
            clear g1 g2 hbj henc
            go_wp2_with fail
            refine hg.mono ?_
            rintro e w14 ⟨rfl, he14⟩
            have h14 := hj.ext he14
            clear hg hj he14
            go_wp2_with fail
            go_roundw
            case rel => exact ⟨j + 1, by go_num, by omega, h14⟩
            case measure => simp [intOf]; omega
        · have i1 : ¬ ((j : Int) + 1 < (s5.next : Int)) := by omega
          have hbw := hj.below
          clear hj HGET HNX
          go_wp2_with fail
          refine (known23 _).mono ?_
          rintro e w15 ⟨rfl, he⟩
          go_wp2_with fail
          go_ret
          exact ⟨rfl, hbw.trans (he.mono hbw.size)⟩

end Go.Proofs.Ytfclighheoobaaa
