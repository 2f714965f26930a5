/- WalNotes. -/
import Derived.Test.YtfclighheoobaaaKnownW
import Derived.Test.YtfclighheoobaaaOpenT
import Derived.Deep.DeepCutAuto
import Derived.Deep.RegionHeld3
namespace Go.Proofs.Ytfclighheoobaaa
open Go.RowKit

attribute [local go_sem] ba_append ba_extract ba_size Oper.pureUpon Oper.relUpon

theorem j_note_is {W w : World} {Fs : List (List Nat)} {p dp : Nat} {es : List Ent} {sf : Nat} {s : St} (h : JOn W w Fs p dp es sf s) {x : List UInt8} (hx : s.note = x) : Calls Try.prog 36 #[.pointer (some ⟨p, 0, none⟩)] w fun e w' => e = .returned (.string ⟨x.toArray⟩) ∧ w = w' := by
  subst hx
  exact j_note h

set_option maxRecDepth 100000 in
set_option maxHeartbeats 4000000 in
theorem notes_walk (W : World) (A : Option Addr) (n c : Nat) (X : Nat → List UInt8) (hl : TArg W A n X) (keep : Int) (hkeep : (Lit.int .i64 keep).wf = true) :
    Calls Try.prog 9 #[.slice A n c, .int .i64 keep] W fun e w' => e = .returned (.bool true) ∧ Below W.heap.size W w' := by
  have hn := hl.1
  unfold maxLen at hn
  have HL := Lib.hid hl.2
  clear hl hkeep
  go_enter Try.func9, Try.ntmps9
  go_wp2_with fail
  refine (fresh_j W).mono ?_
  rintro e w1 ⟨p, dp, rfl, h1⟩
  go_wp2_with fail
  refine (j_put h1 1 [111, 110, 101] (by decide) (by decide) (by decide) (by decide) (by decide) (by decide)).mono ?_
  rintro e w2 ⟨rfl, h2, _⟩
  clear h1
  go_wp2_with fail
  have hb0 : (bytesOf ([] ++ [(⟨1, 1, [111, 110, 101]⟩ : Ent)])).length ≤ 1000 * (0 + 1) := by rw [List.nil_append, bytesOf_one, enc_len]; decide
  go_loopw [6, 8] (fun x i wr => ∃ (k p : Nat) (es : List Ent) (sf : Nat) (s : St), k ≤ n ∧ k ≤ 10 ∧ i = .int .i64 k ∧ x = .pointer (some ⟨p, 0, none⟩) ∧ JOn W wr [] p dp es sf s ∧ s.first = 1 ∧ s.recs[0]? = some [111, 110, 101] ∧ s.recs.length ≤ 2 ∧ (bytesOf es).length ≤ 1000 * (k + 1) ∧ es.length ≤ 1000 * (k + 1)) (fun _ i _ => 10 - (intOf i).toNat)
  case atStart => exact ⟨0, p, _, 0, _, by omega, by omega, rfl, rfl, h2, rfl, rfl, by decide, hb0, by simp⟩
  case round =>
    obtain ⟨k, p, es, sf, s, hkn, hk10, rfl, rfl, hj, hf1, hr0, hrl, hbl, hel⟩ := hrel
    clear h2 hb0
    by_cases hlt : k < n ∧ k < 10
    · obtain ⟨hlt1, hlt2⟩ := hlt
      obtain ⟨ad, rfl, hab, hcell⟩ := HL.out k hlt1
      have c0 : wr.cell? (ad.add k) = some (.string ⟨(X k).toArray⟩) := (hj.below.cell (p := ad.add k) (by rw [block_of_add]; exact hab)).trans hcell
      have CC : ∀ w', Below W.heap.size W w' → w'.cell? (ad.add k) = some (.string ⟨(X k).toArray⟩) := fun w' hw => (hw.cell (p := ad.add k) (by rw [block_of_add]; exact hab)).trans hcell
      have k0 : (0 : Int) ≤ (k : Int) := by omega
      have k1 : (k : Int) < (n : Int) := by omega
      have hjd := hj.ext (Ext.drew _)
      obtain ⟨xs, hxs⟩ : ∃ xs, (X k).take 100 = xs := ⟨_, rfl⟩
      have hxl : xs.length ≤ 100 := by rw [← hxs, List.length_take]; omega
      have hfew := fun w => few_calls w (X k)
      rw [hxs] at hfew
      have hmeta := fun w (h : JOn W w [] p dp es sf s) => j_meta h xs (by omega) (by omega)
      have HC := Lib.hid CC
      have HFW := Lib.hid hfew
      have HMT := Lib.hid hmeta
      have HXS := Lib.hid hxs
      have HHJ := Lib.hid hj
      clear CC hfew hmeta hxs hcell hj
      go_wp2_with fail
      go_region_held3 (fun w' => w'.cell? (ad.add k) = some (.string ⟨(X k).toArray⟩))
        (first | assumption | go_keep)
        (first
          | (go_at_call 35; refine (HFW.out _).mono ?_; rintro e w9 ⟨rfl, rfl⟩)
          | (go_at_call 34; refine (HMT.out _ hjd).mono ?_; rintro e w5 ⟨rfl, h5, _⟩; have x5 := HC.out w5 h5.below)
          | (go_at_call 36; refine (j_note_is h5 (x := xs) rfl).mono ?_; rintro e w8 ⟨rfl, rfl⟩))
      have hnx : s.next = s.recs.length + 1 := by unfold St.next; omega
      have hr1 : 1 ≤ s.recs.length := (List.getElem?_eq_some_iff.1 hr0).1
      obtain ⟨s5, hs5⟩ : ∃ s5 : St, { s with note := xs } = s5 := ⟨_, rfl⟩
      rw [hs5] at h5
      have hn5 : s5.note = xs := by rw [← hs5]
      have hf5 : s5.first = 1 := by rw [← hs5]; exact hf1
      have hc5 : s5.recs = s.recs := by rw [← hs5]
      have hb5 : (bytesOf (es ++ [(⟨2, 0, xs⟩ : Ent)])).length ≤ 1000 * (k + 1) + 121 := by rw [bytesOf_append, List.length_append, bytesOf_one, enc_len]; show _ + (xs.length + 21) ≤ _; omega
      have HR5 := Lib.hid h5.2
      clear HHJ HMT hjd x5 c0 hs5
      go_wp2_with fail
      refine (j_sync h5).mono ?_
      rintro e w6 ⟨rfl, h6, _⟩
      clear h5
      go_wp2_with fail
      refine (j_put h6 2 [116, 119, 111] (by omega) (by unfold St.next; rw [hc5]; omega) (by decide) (by decide) (by show 3 + 21 + _ ≤ _; omega) (by rw [hc5]; omega)).mono ?_
      rintro e w7 ⟨rfl, h7, _⟩
      clear h6
      go_wp2_with fail
      refine (j_crash h7 keep).mono ?_
      rintro e w8 ⟨rfl, Fd, j, t, sf', hj, ht, hlo, _, hd, _, hs, _⟩
      go_wp2_with fail
      obtain ⟨e5, he5⟩ : ∃ e5, es ++ [(⟨2, 0, xs⟩ : Ent)] = e5 := ⟨_, rfl⟩
      rw [he5] at h7 hj hlo hd hb5
      have HR5' : Runs St.init e5 s5 := by rw [← he5]; exact HR5.out
      have hl5 : e5.length ≤ 1000 * (k + 1) + 1 := by rw [← he5, List.length_append]; simp; omega
      have hge : e5.length ≤ j := hlo e5.length (by simp) (by rw [List.take_left]; exact Nat.le_refl _)
      obtain ⟨es6, s6, hr6, htk, hb6, hl6, hn6, hf6, hr06, hrl6⟩ : ∃ es6 s6, Runs St.init es6 s6 ∧ (e5 ++ [(⟨1, 2, [116, 119, 111]⟩ : Ent)]).take j = es6 ∧ (bytesOf es6).length ≤ 1000 * (k + 1) + 200 ∧ es6.length ≤ 1000 * (k + 1) + 2 ∧ s6.note = xs ∧ s6.first = 1 ∧ s6.recs[0]? = some [111, 110, 101] ∧ s6.recs.length ≤ 2 := by
        by_cases hje : j = e5.length
        · exact ⟨e5, s5, HR5', by rw [hje, List.take_left], by omega, by omega, hn5, hf5, by rw [hc5]; exact hr0, by rw [hc5]; exact hrl⟩
        · have hj2 : (e5 ++ [(⟨1, 2, [116, 119, 111]⟩ : Ent)]).take j = e5 ++ [⟨1, 2, [116, 119, 111]⟩] := List.take_of_length_le (by simp; omega)
          refine ⟨_, _, h7.2, hj2, by rw [bytesOf_append, List.length_append, bytesOf_one, enc_len]; show _ + (3 + 21) ≤ _; omega, by simp; omega, hn5, hf5, ?_, ?_⟩
          · show (s5.recs.take (2 - s5.first) ++ [[116, 119, 111]])[0]? = _
            rw [hf5, hc5]
            obtain ⟨y, l, hyl⟩ : ∃ y l, s.recs = y :: l := by
              cases hs : s.recs with
              | nil => rw [hs] at hr1; simp at hr1
              | cons y l => exact ⟨y, l, rfl⟩
            rw [hyl] at hr0 ⊢
            simpa using hr0
          · show (s5.recs.take (2 - s5.first) ++ [[116, 119, 111]]).length ≤ 2
            rw [hf5]
            simp [List.length_take]
            omega
      rw [htk] at hd
      clear htk hge hlo hj h7 HR5' HR5 he5 hl5 hb5
      go_wp2_with fail
      refine (j_open hr6 (by omega) ht hd hs).mono ?_
      rintro e w9 ⟨q, sf9, rfl, h9, _, _, _⟩
      go_wp2_with fail
      have hg : s6.get 1 = some [111, 110, 101] := by
        unfold St.get
        have h1 := (List.getElem?_eq_some_iff.1 hr06).1
        rw [hf6, if_pos ⟨by decide, by unfold St.next; rw [hf6]; omega⟩]
        exact hr06
      refine (j_get h9 1).mono ?_
      rintro e w10 ⟨rfl, he10⟩
      have h10 := h9.ext he10
      rw [hg]
      have hnx6 : s6.next ≤ 3 := by unfold St.next; rw [hf6]; omega
      unfold tx
      clear h9 he10 hd hs hr6 hg
      have c10 := HC.out w10 h10.below
      have h10d := h10.ext (Ext.drew _)
      have k3 : ¬ ((s6.next : Int) > 3) := by omega
      go_wp2_with fail
      go_region_held3 (fun w' => w'.cell? (ad.add k) = some (.string ⟨(X k).toArray⟩))
        (first | assumption | go_keep)
        (first
          | (go_at_call 35; refine (HFW.out _).mono ?_; rintro e w9 ⟨rfl, rfl⟩)
          | (go_at_call 36; refine (j_note_is h10d hn6).mono ?_; rintro e w8 ⟨rfl, rfl⟩)
          | (go_at_call 40; refine (j_next h10d).mono ?_; rintro e w11 ⟨rfl, he11⟩; have h11 := h10d.ext he11; have x11 := HC.out w11 h11.below))
      go_wp2_with fail
      go_roundw
      case rel => exact ⟨k + 1, q, es6, sf9, s6, by omega, by omega, by go_num, rfl, h11, hf6, hr06, hrl6, by omega, by omega⟩
      case measure => simp [intOf]; omega
    · have hbw := hj.below
      clear hj HL
      by_cases hk1 : k < n
      · have hk2 : ¬ ((k : Int) < 10) := by omega
        go_wp2_with fail
        refine (known23 _).mono ?_
        rintro e w9 ⟨rfl, he⟩
        go_wp2_with fail
        go_ret
        exact ⟨rfl, hbw.trans (he.mono hbw.size)⟩
      · have hk2 : ¬ ((k : Int) < (n : Int)) := by omega
        go_wp2_with fail
        refine (known23 _).mono ?_
        rintro e w9 ⟨rfl, he⟩
        go_wp2_with fail
        go_ret
        exact ⟨rfl, hbw.trans (he.mono hbw.size)⟩

end Go.Proofs.Ytfclighheoobaaa
