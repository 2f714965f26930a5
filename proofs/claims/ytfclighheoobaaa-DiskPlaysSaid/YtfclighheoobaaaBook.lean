/- strongroombook: Roomy, Same, Intact at lists of bytes: what each answers. -/
import Derived.Test.YtfclighheoobaaaSep
import Derived.Laws.CopyOwn
import Derived.Laws.MakeOwn
import Derived.Deep.DeepCutAuto
namespace Go.Proofs.Ytfclighheoobaaa
open Go.RowKit

theorem byte_size : (Try.prog.info? 5).map (·.size) = some 1 := by kernel_rfl

theorem make_cells (n : Nat) (m : Int) (hm : m = n) (hn : n ≤ 100000000) (w : World) :
    (Instr.makeSlice 26 (.int .i64 m) (.int .i64 m)).run Try.prog w = .ok (.slice (some ⟨w.heap.size, 0, none⟩) n n) (w.alloc (.cells (bys (List.replicate n 0)).toArray 5)) := by
  obtain ⟨i0, hi0, hz0, hz1, hz2⟩ := info_parts byte_info
  subst hm
  have := run_make (P := Try.prog) w 26 5 i0 _ Try.underlying26 hi0 hz0 .i64 .i64 (n : Int) (n : Int) (by omega) (Int.le_refl _) (by rw [hz2]; omega) (by omega)
  rw [hz1] at this
  have e : madeCells (Value.cells (.int .u8 0)) n = (bys (List.replicate n 0)).toArray := by
    apply Array.ext'
    unfold madeCells bys
    apply List.ext_getElem
    · simp
    · intro i h1 h2
      simp [Value.cells, Nat.mod_one]
  simpa [e] using this

theorem splice_all (n : Nat) (l : List UInt8) (hn : n = l.length) : splice (bys (List.replicate (n + 80) 0)) 0 (bys l) = bys (l ++ List.replicate 80 0) := by
  subst hn
  unfold splice
  rw [bys_append, bys_len]
  simp [bys]

theorem bys_set (l : List UInt8) (i : Nat) (c : UInt8) : (bys l).set i (.int .u8 (c.toNat : Int)) = bys (l.set i c) := by
  simp [bys, List.map_set]

theorem roomy_step (l : List UInt8) (j : Nat) (hj : j < 80) (c : UInt8) : (l ++ List.replicate j c ++ List.replicate (80 - j) 0).set (l.length + j) c = l ++ List.replicate (j + 1) c ++ List.replicate (80 - (j + 1)) 0 := by
  rw [List.set_append_right _ _ (by simp)]
  have e : l.length + j - (l ++ List.replicate j c).length = 0 := by simp
  rw [e, show 80 - j = (80 - (j + 1)) + 1 by omega, List.replicate_succ, List.set_cons_zero, List.replicate_succ']
  simp

set_option maxRecDepth 100000 in
set_option maxHeartbeats 1000000 in
theorem roomy_calls (w : World) (B : Nat) (A : Option Addr) (n c : Nat) (l : List UInt8) (hr : Reads w B 1 A n (bys l)) (hB : B ≤ w.heap.size) (hn : n ≤ 1000) (mark : UInt8) (mk : Int) (hmk : mk = (mark.toNat : Int)) :
    Calls Try.prog 26 #[.slice A n c, .int .u8 mk] w fun e w' => ∃ g, e = .returned (.slice (some ⟨g, 0, none⟩) (n + 80) (n + 80)) ∧ g = w.heap.size ∧ Blk w' g 5 (bys (l ++ List.replicate 80 mark)).toArray ∧ Ext w w' := by
  have HL := Lib.hid hr.len
  have HMK := Lib.hid hmk
  clear hmk
  have hmake := make_cells (n + 80) ((n : Int) + 80) (by omega) (by omega)
  have hblk : (w.alloc (.cells (bys (List.replicate (n + 80) 0)).toArray 5)).heap[w.heap.size]? = some (.cells (bys (List.replicate (n + 80) 0)).toArray 5 (0, 0)) := heap_alloc_new w _
  have hpos : 0 < (bys l).length → (some ⟨w.heap.size, 0, none⟩ : Option Addr) = some ⟨w.heap.size, 0, none⟩ ∧ ∃ ad, A = some ad ∧ ∀ j v, (bys l)[j]? = some v → (w.alloc (.cells (bys (List.replicate (n + 80) 0)).toArray 5)).cell? (ad.add j) = some v := by
    intro h0
    have hr' := hr.alloc hB (.cells (bys (List.replicate (n + 80) 0)).toArray 5)
    obtain ⟨ad, h1, _, h3⟩ := hr'.2 (by rw [bys_len] at h0; have := HL.out; omega)
    exact ⟨rfl, ad, h1, h3⟩
  have hn1 : (bys l).length = Nat.min n (n + 80) := by rw [bys_len]; have := HL.out; show l.length = min n (n + 80); omega
  have hfit : 0 + (bys l).length ≤ (bys (List.replicate (n + 80) 0)).length := by rw [bys_len, bys_len, List.length_replicate]; have := HL.out; omega
  have hbl0 : Below w.heap.size w (w.alloc (.cells (bys (List.replicate (n + 80) 0)).toArray 5)) := (Below.refl _ _).alloc (Nat.le_refl _) _
  have HBL := Lib.hid hblk
  have HP := Lib.hid hpos
  have HN1 := Lib.hid hn1
  have HFT := Lib.hid hfit
  have HB0 := Lib.hid hbl0
  clear hblk hpos hn1 hfit hbl0
  go_enter Try.func26, Try.ntmps26
  go_wp2_with (with_reducible refine wpList_copy_splice rfl (.tmp 11) (.tmp 12) 26 26 rfl 5 Try.underlying26 byte_size (some ⟨w.heap.size, 0, none⟩) A (n + 80) (n + 80) n c rfl rfl w.heap.size 0 (bys (List.replicate (n + 80) 0)) 5 HBL.out (bys l) HN1.out HP.out HFT.out (bys_one _) w.heap.size w HB0.out (Nat.le_refl _) ?_; intro w1 hb1 he1)
  go_loopw [6] (fun i wr => ∃ j : Nat, j ≤ 80 ∧ i = .int .i64 ((n : Int) + (j : Int)) ∧ Hid (Blk wr w.heap.size 5 (bys (l ++ List.replicate j mark ++ List.replicate (80 - j) 0)).toArray) ∧ Ext w wr) (fun i _ => n + 80 - (intOf i).toNat)
  case atStart =>
    refine ⟨0, by omega, by simp, ?_, he1⟩
    have e1 := hb1.out
    rw [splice_all n l HL.out] at e1
    have e2 : l ++ List.replicate 0 mark ++ List.replicate (80 - 0) 0 = l ++ List.replicate 80 0 := by rw [List.replicate_zero, List.append_nil]
    rw [e2]
    exact e1
  case round =>
    obtain ⟨j, hj, rfl, hblk, hext⟩ := hrel
    by_cases hlt : j < 80
    · have hc : ∃ v, wr.cell? ⟨w.heap.size, n + j, none⟩ = some v := by
        rw [hblk.out.cell]
        have e1 := HL.out
        have hlen : n + j < (bys (l ++ List.replicate j mark ++ List.replicate (80 - j) 0)).toArray.size := by simp [bys_len]; omega
        exact ⟨_, Array.getElem?_eq_getElem hlen⟩
      obtain ⟨v0, hc⟩ := hc
      have hf : wr.frozen? ⟨w.heap.size, n + j, none⟩ = false := hblk.out.frozen _
      have hlt' : w.heap.size < wr.heap.size := hblk.out.lt
      go_wp2_with fail
      go_roundw
      case rel =>
        have e0 := HL.out
        have hb2 := hblk.out.set_ (n + j) (.int .u8 mk)
        rw [HMK.out, List.setIfInBounds_toArray, bys_set, e0, roomy_step l j hlt mark, ← e0, ← HMK.out] at hb2
        exact ⟨j + 1, by omega, by go_num, hb2, hext.setCell (Nat.le_refl _) _⟩
      case measure => simp [intOf]; omega
    · go_wp2
      go_ret
      obtain rfl : j = 80 := by omega
      have e2 := hblk.out
      simp only [Nat.sub_self, List.replicate_zero, List.append_nil] at e2
      exact ⟨_, rfl, rfl, e2, hext⟩

/-- Two lists that are the same. -/
theorem same_calls (w : World) (B B2 : Nat) (A A2 : Option Addr) (n c c2 : Nat) (l : List UInt8) (hr : Reads w B 1 A n (bys l)) (hr2 : Reads w B2 1 A2 n (bys l)) (hB : B ≤ w.heap.size) (hB2 : B2 ≤ w.heap.size) (hn : n ≤ 1000000) :
    Calls Try.prog 52 #[.slice A n c, .slice A2 n c2] w fun e w' => e = .returned (.bool true) ∧ Ext w w' := by
  go_enter Try.func52, Try.ntmps52
  go_wp2
  go_loopw [5] (fun i wr => ∃ k : Nat, k ≤ n ∧ i = .int .i64 (k : Int) ∧ Ext w wr) (fun i _ => n - (intOf i).toNat)
  case atStart => exact ⟨0, by omega, rfl, Ext.refl _⟩
  case round =>
    obtain ⟨k, hk, rfl, hext⟩ := hrel
    by_cases hlt : k < n
    · have hrw := hr.keep (w' := wr) (fun p hp => hext.cell (Nat.lt_of_lt_of_le hp hB))
      have hrw2 := hr2.keep (w' := wr) (fun p hp => hext.cell (Nat.lt_of_lt_of_le hp hB2))
      obtain ⟨ad, u, rfl, _, hx, hc⟩ := hrw.at_ hlt
      obtain ⟨ad2, u2, rfl, _, hx2, hc2⟩ := hrw2.at_ hlt
      obtain rfl : u = u2 := by rw [hx] at hx2; exact Option.some.inj hx2
      obtain ⟨b, rfl⟩ : ∃ b : Nat, u = .int .u8 (b : Int) := by
        rw [bys_get] at hx
        cases hlk : l[k]? with
        | none => rw [hlk] at hx; cases hx
        | some c => rw [hlk] at hx; exact ⟨c.toNat, (Option.some.inj hx).symm⟩
      clear hx hx2 hr hr2
      have h0 : (0 : Int) ≤ (k : Int) := by omega
      have h1 : (k : Int) < (n : Int) := by omega
      go_wp2_with fail
      go_quiet (fail)
      go_wp2_with fail
      go_roundw
      case rel => exact ⟨k + 1, by omega, by go_num, below_drewN hext _⟩
      case measure => simp [intOf]; omega
    · go_wp2
      go_ret
      exact ⟨rfl, hext⟩

/-- A list that Roomy made is as it was. -/
theorem intact_calls {mark : UInt8} (w : World) (g n B : Nat) (A : Option Addr) (c : Nat) (l : List UInt8) (hb : Blk w g 5 (bys (l ++ List.replicate 80 mark)).toArray) (hr : Reads w B 1 A n (bys l)) (hB : B ≤ w.heap.size) (hn : n ≤ 1000) (mk : Int) (hmk : mk = (mark.toNat : Int)) :
    Calls Try.prog 31 #[.slice (some ⟨g, 0, none⟩) (n + 80) (n + 80), .slice A n c, .int .u8 mk] w fun e w' => e = .returned (.bool true) ∧ Ext w w' := by
  have HL := Lib.hid hr.len
  have hr2 : Reads w w.heap.size 1 (some ⟨g, 0, none⟩) n (bys l) := by
    refine ⟨hr.1, fun _ => ⟨_, rfl, hb.lt, fun j u hu => ?_⟩⟩
    have ha : (⟨g, 0, none⟩ : Addr).add j = ⟨g, j, none⟩ := by unfold Addr.add; split <;> simp_all
    have hj : j < (bys l).length := (List.getElem?_eq_some_iff.1 hu).1
    rw [ha, hb.cell, bys_append]
    simp only [List.getElem?_toArray]
    rw [List.getElem?_append_left hj, hu]
  have HS := Lib.hid (fun w' (he : Ext w w') => same_calls w' w.heap.size B (some ⟨g, 0, none⟩) A n (n + 80) c l (hr2.below he) (hr.below (he.mono hB)) he.size (Nat.le_trans hB he.size) (by omega))
  clear hr2 hr
  have hlt : g < w.heap.size := hb.lt
  have hcell : ∀ w', Ext w w' → ∀ j, j < 80 → w'.cell? ⟨g, n + j, none⟩ = some (.int .u8 mk) := by
    intro w' he j hj
    have hb' := hb.below he hlt
    rw [hb'.cell, bys_append]
    have e1 := HL.out
    simp only [List.getElem?_toArray]
    rw [List.getElem?_append_right (by rw [bys_len]; omega), bys_len, bys_get, List.getElem?_replicate, if_pos (by omega), hmk]
    rfl
  have HC := Lib.hid hcell
  clear hcell hmk
  go_enter Try.func31, Try.ntmps31
  go_wp2_with fail
  refine (HS.out w (Ext.refl _)).mono ?_
  rintro e w1 ⟨rfl, he1⟩
  go_wp2_with fail
  go_loopw [7] (fun i wr => ∃ j : Nat, j ≤ 80 ∧ i = .int .i64 ((n : Int) + (j : Int)) ∧ Ext w wr) (fun i _ => n + 80 - (intOf i).toNat)
  case atStart => exact ⟨0, by omega, by simp, he1⟩
  case round =>
    obtain ⟨j, hj, rfl, hext⟩ := hrel
    by_cases hlt8 : j < 80
    · have hc := HC.out wr hext j hlt8
      go_wp2_with fail
      go_roundw
      case rel => exact ⟨j + 1, by omega, by go_num, hext⟩
      case measure => simp [intOf]; omega
    · go_wp2
      go_ret
      exact ⟨rfl, hext⟩

end Go.Proofs.Ytfclighheoobaaa
