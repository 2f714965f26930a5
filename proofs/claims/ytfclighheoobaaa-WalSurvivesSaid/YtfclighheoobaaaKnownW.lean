/- strongroomlaw23.known: some of chapter 23's runs. -/
import Derived.Test.YtfclighheoobaaaJour
import Derived.Deep.DeepCutAuto
namespace Go.Proofs.Ytfclighheoobaaa
open Go.RowKit

attribute [local go_sem] Oper.pureUpon Oper.relUpon

theorem fresh_j (w : World) : Calls Try.prog 32 #[] w fun e w' => ∃ p dp, e = .returned (.tuple #[.pointer (some ⟨dp, 0, none⟩), .pointer (some ⟨p, 0, none⟩), .bool true]) ∧ JOn w w' [] p dp [] 0 St.init := by
  refine (fresh_calls w).mono ?_
  rintro e w' ⟨p, dp, rfl, h⟩
  exact ⟨p, dp, rfl, by simpa [bytesOf, encs] using h, .nil⟩

set_option maxRecDepth 100000 in
set_option maxHeartbeats 2000000 in
theorem known23 (w : World) : Calls Try.prog 41 #[] w fun e w' => e = .returned (.bool true) ∧ Ext w w' := by
  go_enter Try.func41, Try.ntmps41
  go_wp2_with fail
  refine (fresh_j w).mono ?_
  rintro e w1 ⟨p, dp, rfl, h1⟩
  go_wp2_with fail
  refine (j_put h1 1 [97] (by decide) (by decide) (by decide) (by decide) (by decide) (by decide)).mono ?_
  rintro e w2 ⟨rfl, h2, _⟩
  go_wp2_with fail
  refine (j_sync h2).mono ?_
  rintro e w3 ⟨rfl, h3, _⟩
  go_wp2_with fail
  refine (j_put h3 2 [98] (by decide) (by decide) (by decide) (by decide) (by rw [bytesOf_append, List.length_append, bytesOf_one, enc_len]; decide) (by decide)).mono ?_
  rintro e w4 ⟨rfl, h4, _⟩
  go_wp2_with fail
  refine (j_crash h4 3).mono ?_
  rintro e w5 ⟨rfl, Fd, j, t, sf', hj, ht, hlo, hhi, hd, _, hs, _⟩
  obtain ⟨e1, he1⟩ : ∃ e1 : Ent, e1 = ⟨1, 1, [97]⟩ := ⟨_, rfl⟩
  have hb1 : (bytesOf [(⟨1, 1, [97]⟩ : Ent)]).length = 22 := by rw [bytesOf_one, enc_len]; rfl
  have hb2 : (bytesOf ([] ++ [(⟨1, 1, [97]⟩ : Ent)] ++ [(⟨1, 2, [98]⟩ : Ent)])).length = 44 := by rw [bytesOf_append, List.length_append, bytesOf_one, enc_len, List.nil_append, hb1]; rfl
  have hj1 : j = 1 := by
    have h5 := hlo 1 (by simp) (by simp)
    have h6 := hhi (by rw [hb2, List.nil_append, hb1]; decide)
    simp at h6
    omega
  subst hj1
  have htk : List.take 1 ([] ++ [(⟨1, 1, [97]⟩ : Ent)] ++ [(⟨1, 2, [98]⟩ : Ent)]) = [⟨1, 1, [97]⟩] := rfl
  rw [htk] at hd
  have hr1 : Runs St.init [(⟨1, 1, [97]⟩ : Ent)] ⟨1, [[97]], [], []⟩ := .cons ⟨by decide, .inl (by decide)⟩ .nil
  clear hlo hhi hj htk hb2 h1 h2 h3 h4 he1 e1
  go_wp2_with fail
  refine (j_open hr1 (by decide) ht hd hs).mono ?_
  rintro e w6 ⟨q, sf2, rfl, h6, _, _, _⟩
  clear hd hs hr1
  go_wp2_with fail
  have hn2 : St.next ⟨1, [[97]], [], []⟩ = 2 := rfl
  refine (j_next h6).mono ?_
  rintro e w7 ⟨rfl, he7⟩
  have h7 := h6.ext he7
  rw [hn2]
  clear h6 he7 hn2
  go_wp2_with fail
  refine (j_put h7 2 [98] (by decide) (by decide) (by decide) (by decide) (by rw [hb1]; decide) (by decide)).mono ?_
  rintro e w8 ⟨rfl, h8, _⟩
  go_wp2_with fail
  have hb3 : (bytesOf ([(⟨1, 1, [97]⟩ : Ent)] ++ [⟨1, 2, [98]⟩])).length = 44 := by rw [bytesOf_append, List.length_append, hb1, bytesOf_one, enc_len]; rfl
  refine (j_put h8 1 [99] (by decide) (by decide) (by decide) (by decide) (by rw [hb3]; decide) (by decide)).mono ?_
  rintro e w9 ⟨rfl, h9, _⟩
  have hs9 : ((St.mk 1 [[97]] [] []).putAt 2 [98]).putAt 1 [99] = ⟨1, [[99]], [], []⟩ := rfl
  rw [hs9] at h9
  clear h7 h8 hb1 hb3 hs9
  go_wp2_with fail
  refine (j_get h9 1).mono ?_
  rintro e w10 ⟨rfl, he10⟩
  have hg : St.get ⟨1, [[99]], [], []⟩ 1 = some [99] := rfl
  rw [hg]
  have h10 := h9.ext he10
  clear hg h9 he10
  go_wp2_with fail
  have hn2 : St.next ⟨1, [[99]], [], []⟩ = 2 := rfl
  refine (j_next h10).mono ?_
  rintro e w11 ⟨rfl, he11⟩
  rw [hn2]
  have hbe := h10.below.trans (he11.mono h10.below.size)
  unfold tx
  clear hn2 h10 he11
  go_wp2_with fail
  go_ret
  exact ⟨rfl, hbe⟩

end Go.Proofs.Ytfclighheoobaaa
