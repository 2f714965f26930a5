/- WalNumbers: chapter 23's runs, and one for each refusal. -/
import Derived.Test.YtfclighheoobaaaRefuse
import Derived.Test.YtfclighheoobaaaNumbers
namespace Go.Proofs.Ytfclighheoobaaa
open Go.RowKit

attribute [local go_sem] ba_append ba_extract ba_size Oper.pureUpon Oper.relUpon

theorem encAll_one (n : Nat) (a b x : List UInt8) : (encAll n a b [x]).length = a.length + b.length + x.length + 63 := by
  unfold encAll
  simp only [List.length_append, enc_len, encPuts, List.length_nil]
  omega
theorem encAll_none (n : Nat) (a b : List UInt8) : (encAll n a b []).length = a.length + b.length + 42 := by
  unfold encAll
  simp only [List.length_append, enc_len, encPuts, List.length_nil]
  omega

set_option maxRecDepth 100000 in
set_option maxHeartbeats 4000000 in
theorem wnumbers_walk (W : World) : Calls Try.prog 11 #[] W fun e w' => e = .returned (.bool true) ∧ Below W.heap.size W w' := by
  obtain ⟨n1, hn1⟩ : ∃ n1 : Nat, n1 = 65537 := ⟨_, rfl⟩
  have m1 := make_bytes n1 65537 (by omega) (by omega)
  obtain ⟨L, hL⟩ : ∃ L : List UInt8, L = List.replicate n1 0 := ⟨_, rfl⟩
  have hLl : L.length = 65537 := by rw [hL, List.length_replicate, hn1]
  have hconv : ∀ w : World, (convert 26 9 (.slice (some ⟨w.heap.size, 0, none⟩) n1 n1)).run Try.prog (w.alloc (.cells (zs n1) 5)) = .ok (.string ⟨L.toArray⟩) (w.alloc (.cells (zs n1) 5)) := fun w => by
    have := reads_zs w n1
    rw [← hL] at this
    exact run_str _ 26 9 5 Try.underlying26 Try.underlying5 Try.underlying9 this n1
  have hsz : (⟨L.toArray⟩ : ByteArray).size = 65537 := by rw [ba_size, hLl]
  have HSZ := Lib.hid hsz
  have HLL := Lib.hid hLl
  clear hn1 hL hsz hLl
  go_enter Try.func11, Try.ntmps11
  go_wp2_with fail
  refine (open_nil W).mono ?_
  rintro e w0 ⟨rfl, rfl⟩
  go_wp2_with fail
  refine (fresh_j W).mono ?_
  rintro e w1 ⟨p, dp, rfl, h1⟩
  go_wp2_with fail
  have h2 := h1.ext ((Below.refl _ _).alloc (Nat.le_refl _) (.cells (zs n1) 5))
  generalize w1.alloc (.cells (zs n1) 5) = w2 at *
  clear h1 m1 hconv
  refine (j_put_arg h2 5 _ (by decide)).mono ?_
  rintro e w3 ⟨rfl, he⟩
  have h3 := h2.ext he
  clear h2 he
  go_wp2_with fail
  refine (j_put_arg h3 0 _ (by decide)).mono ?_
  rintro e w4 ⟨rfl, he⟩
  have h4 := h3.ext he
  clear h3 he
  go_wp2_with fail
  refine (j_put_long h4 1 _ (by decide) (by decide) (by decide) (by rw [HSZ.out]; decide)).mono ?_
  rintro e w5 ⟨rfl, he⟩
  have h5 := h4.ext he
  clear h4 he
  go_wp2_with fail
  refine (log_meta_long _ _ _ (by rw [HSZ.out]; decide)).mono ?_
  rintro e w6 ⟨rfl, he⟩
  have h6 := h5.ext he
  clear h5 he
  go_wp2_with fail
  refine (j_base_long h6 9 _ (by decide) (by decide) (by rw [HSZ.out]; decide)).mono ?_
  rintro e w7 ⟨rfl, he⟩
  have h7 := h6.ext he
  clear h6 he
  have hll : (1 : Int) ≤ (L.length : Int) := by have := HLL.out; omega
  go_wp2_with fail
  have hsl : (⟨L.toArray⟩ : ByteArray).extract 1 L.length = ⟨(L.drop 1).toArray⟩ := by
    apply ByteArray.ext
    apply Array.ext'
    simp
    exact List.take_of_length_le (by simp)
  rw [hsl]
  obtain ⟨x1, hx1⟩ : ∃ x1, L.drop 1 = x1 := ⟨_, rfl⟩
  rw [hx1]
  have hxl : x1.length = 65536 := by rw [← hx1, List.length_drop]; have := HLL.out; omega
  have HX1 := Lib.hid hxl
  clear hsl hx1 hxl hll HSZ HLL
  refine (j_put h7 1 x1 (by decide) (by decide) (by decide) (by have := HX1.out; omega) (by have := HX1.out; simp [bytesOf, encs]; omega) (by decide)).mono ?_
  rintro e w8 ⟨rfl, h8, _⟩
  have hb8 : (bytesOf ([] ++ [(⟨1, 1, x1⟩ : Ent)])).length = 65557 := by rw [bytesOf_snoc, List.length_append, enc_len]; have := HX1.out; simp [bytesOf, encs]; omega
  generalize ([] ++ [(⟨1, 1, x1⟩ : Ent)]) = es8 at *
  have hs8 : St.init.putAt 1 x1 = ⟨1, [x1], [], []⟩ := rfl
  rw [hs8] at h8
  clear h7 hs8
  go_wp2_with fail
  refine (j_put h8 2 [116, 119, 111] (by show 1 ≤ 2; decide) (by show 2 ≤ 2; decide) (by decide) (by decide) (by rw [hb8]; decide) (by show 1 ≤ 900000; decide)).mono ?_
  rintro e w9 ⟨rfl, h9, _⟩
  have hb9 : (bytesOf (es8 ++ [(⟨1, 2, [116, 119, 111]⟩ : Ent)])).length = 65581 := by rw [bytesOf_snoc, List.length_append, enc_len, hb8]; rfl
  generalize (es8 ++ [(⟨1, 2, [116, 119, 111]⟩ : Ent)]) = es9 at *
  have hs9 : St.putAt ⟨1, [x1], [], []⟩ 2 [116, 119, 111] = ⟨1, [x1, [116, 119, 111]], [], []⟩ := rfl
  rw [hs9] at h9
  clear h8 hs9 hb8
  go_wp2_with fail
  refine (j_put h9 3 [116, 104, 114, 101, 101] (by show 1 ≤ 3; decide) (by show 3 ≤ 3; decide) (by decide) (by decide) (by rw [hb9]; decide) (by show 2 ≤ 900000; decide)).mono ?_
  rintro e w10 ⟨rfl, h10, _⟩
  have hb10 : (bytesOf (es9 ++ [(⟨1, 3, [116, 104, 114, 101, 101]⟩ : Ent)])).length = 65607 := by rw [bytesOf_snoc, List.length_append, enc_len, hb9]; rfl
  generalize (es9 ++ [(⟨1, 3, [116, 104, 114, 101, 101]⟩ : Ent)]) = es10 at *
  have hs10 : St.putAt ⟨1, [x1, [116, 119, 111]], [], []⟩ 3 [116, 104, 114, 101, 101] = ⟨1, [x1, [116, 119, 111], [116, 104, 114, 101, 101]], [], []⟩ := rfl
  rw [hs10] at h10
  clear h9 hs10 hb9
  go_wp2_with fail
  refine (j_meta h10 [110, 111, 116, 101] (by decide) (by rw [hb10]; decide)).mono ?_
  rintro e w11 ⟨rfl, h11, _⟩
  generalize (es10 ++ [(⟨2, 0, [110, 111, 116, 101]⟩ : Ent)]) = es11 at *
  clear h10 hb10
  go_wp2_with fail
  refine (j_base h11 3 [115, 110, 97, 112] (by show 1 ≤ 3; decide) (by decide) (by decide) (by show (encAll 3 [115, 110, 97, 112] [110, 111, 116, 101] (List.drop (3 - 1) [x1, [116, 119, 111], [116, 104, 114, 101, 101]])).length ≤ 4194304; rw [show List.drop (3 - 1) [x1, [116, 119, 111], [116, 104, 114, 101, 101]] = [[116, 104, 114, 101, 101]] from rfl, encAll_one]; decide)).mono ?_
  rintro e w12 ⟨rfl, h12, _⟩
  have hs12 : St.baseAt ⟨1, [x1, [116, 119, 111], [116, 104, 114, 101, 101]], [], [110, 111, 116, 101]⟩ 3 [115, 110, 97, 112] = ⟨3, [[116, 104, 114, 101, 101]], [115, 110, 97, 112], [110, 111, 116, 101]⟩ := rfl
  rw [hs12] at h12
  have hl12 : (imgEnts 3 [115, 110, 97, 112] [110, 111, 116, 101] (List.drop (3 - 1) [x1, [116, 119, 111], [116, 104, 114, 101, 101]])).length = 3 := rfl
  simp only at h12
  generalize imgEnts 3 [115, 110, 97, 112] [110, 111, 116, 101] (List.drop (3 - 1) [x1, [116, 119, 111], [116, 104, 114, 101, 101]]) = es12 at *
  clear h11 hs12
  go_wp2_with fail
  refine (j_base_arg h12 2 _ (by decide)).mono ?_
  rintro e w13 ⟨rfl, he⟩
  have h13 := h12.ext he
  clear h12 he
  go_wp2_with fail
  refine (j_snap h13).mono ?_
  rintro e w14 ⟨rfl, he⟩
  have h14 := h13.ext he
  clear h13 he
  unfold tx
  go_wp2_with fail
  refine (j_get h14 3).mono ?_
  rintro e w15 ⟨rfl, he⟩
  have h15 := h14.ext he
  rw [show St.get ⟨3, [[116, 104, 114, 101, 101]], [115, 110, 97, 112], [110, 111, 116, 101]⟩ 3 = some [116, 104, 114, 101, 101] from rfl]
  unfold tx
  clear h14 he
  go_wp2_with fail
  refine (j_get h15 2).mono ?_
  rintro e w16 ⟨rfl, he⟩
  have h16 := h15.ext he
  rw [show St.get ⟨3, [[116, 104, 114, 101, 101]], [115, 110, 97, 112], [110, 111, 116, 101]⟩ 2 = none from rfl]
  unfold tx
  clear h15 he
  go_wp2_with fail
  refine (j_crash h16 0).mono ?_
  rintro e w17 ⟨rfl, Fd, j, t, sf', hj, ht, hlo, _, hd, _, hsp, _⟩
  have hje : j = es12.length := by
    have := hlo es12.length (Nat.le_refl _) (by rw [List.take_length]; exact Nat.le_refl _)
    omega
  rw [hje, List.take_length] at hd
  have hr16 := h16.2
  clear h16 hlo hj hje
  go_wp2_with fail
  refine (j_open hr16 (by omega) ht hd hsp).mono ?_
  rintro e w18 ⟨q, sf18, rfl, h18, _, _, _⟩
  clear hd hsp ht hr16 hl12
  go_wp2_with fail
  refine (j_base h18 9 [102, 97, 114] (by decide) (by decide) (by decide) (by rw [show List.drop (9 - 3) [[116, 104, 114, 101, 101]] = ([] : List (List UInt8)) from rfl, encAll_none]; decide)).mono ?_
  rintro e w19 ⟨rfl, h19, _⟩
  have hs19 : St.baseAt ⟨3, [[116, 104, 114, 101, 101]], [115, 110, 97, 112], [110, 111, 116, 101]⟩ 9 [102, 97, 114] = ⟨9, [], [102, 97, 114], [110, 111, 116, 101]⟩ := rfl
  rw [hs19] at h19
  simp only at h19
  generalize imgEnts 9 [102, 97, 114] [110, 111, 116, 101] (List.drop (9 - 3) [[116, 104, 114, 101, 101]]) = es19 at *
  clear h18 hs19
  obtain ⟨M, hM⟩ : ∃ M : Nat, M = 1073741824 := ⟨_, rfl⟩
  have hMi : (M : Int) = 1073741824 := by omega
  have hbase := j_base h19 M [109, 111, 115, 116] (by show 9 ≤ M; omega) (by omega) (by decide) (by rw [List.drop_nil, encAll_none]; decide)
  rw [hMi] at hbase
  have hs20 : St.baseAt ⟨9, [], [102, 97, 114], [110, 111, 116, 101]⟩ M [109, 111, 115, 116] = ⟨M, [], [109, 111, 115, 116], [110, 111, 116, 101]⟩ := by simp [St.baseAt]
  rw [hs20] at hbase
  simp only at hbase
  generalize imgEnts M [109, 111, 115, 116] [110, 111, 116, 101] (List.drop (M - 9) []) = es20 at *
  go_wp2_with fail
  refine hbase.mono ?_
  rintro e w20 ⟨rfl, h20, _⟩
  clear hbase hs20 h19
  have HM := Lib.hid hM
  have HMI := Lib.hid hMi
  clear hM hMi
  go_wp2_with fail
  refine (j_put_arg h20 1073741824 _ (.inr (.inr (by decide)))).mono ?_
  rintro e w21 ⟨rfl, he⟩
  have h21 := h20.ext he
  clear h20 he
  go_wp2_with fail
  refine (j_base_arg h21 1073741825 _ (.inr (by decide))).mono ?_
  rintro e w22 ⟨rfl, he⟩
  have h22 := h21.ext he
  clear h21 he
  go_wp2_with fail
  refine (j_snap h22).mono ?_
  rintro e w23 ⟨rfl, he⟩
  have h23 := h22.ext he
  clear h22 he
  rw [show ((St.first ⟨M, [], [109, 111, 115, 116], [110, 111, 116, 101]⟩ : Nat) : Int) = 1073741824 from HMI.out]
  unfold tx
  go_wp2_with fail
  refine (j_note h23).mono ?_
  rintro e w24 ⟨rfl, rfl⟩
  unfold tx
  go_wp2_with fail
  refine (j_next h23).mono ?_
  rintro e w25 ⟨rfl, he⟩
  rw [show ((St.next ⟨M, [], [109, 111, 115, 116], [110, 111, 116, 101]⟩ : Nat) : Int) = 1073741824 from HMI.out]
  have hbw := h23.below.trans (he.mono h23.below.size)
  clear h23 he
  go_wp2_with fail
  refine (known23 _).mono ?_
  rintro e w26 ⟨rfl, he⟩
  go_wp2_with fail
  go_ret
  exact ⟨rfl, hbw.trans (he.mono hbw.size)⟩

end Go.Proofs.Ytfclighheoobaaa
