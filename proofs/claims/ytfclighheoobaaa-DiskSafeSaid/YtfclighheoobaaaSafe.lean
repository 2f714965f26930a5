/- DiskSafe: what was safe stays through any crash; a Swap is whole and safe at once. -/
import Derived.Test.YtfclighheoobaaaDisk2
import Derived.Deep.DeepCutAuto
import Derived.Deep.CutBlock
import Derived.Test.YtfclighheoobaaaRely
import Derived.Deep.DrawnRows
namespace Go.Proofs.Ytfclighheoobaaa
open Go.RowKit

attribute [local go_sem] ba_append ba_extract ba_size Oper.pureUpon Oper.relUpon
attribute [local go_sem ↓] Go.wp_at_zero Go.wp_at_succ

theorem BArg.cut {W : World} {A : Option Addr} {n c : Nat} {l : List UInt8} (h : BArg W A n c l) (m : Nat) : BArg W A (min m n) c (l.take m) := by
  have := h.take (m := min m n) (by omega)
  have e : l.take (min m n) = l.take m := by
    have hl := h.reads.len
    rw [hl, ← List.take_take, List.take_length]
  rwa [e] at this

set_option maxRecDepth 100000 in
set_option maxHeartbeats 4000000 in
theorem safe_walk (W : World) (A0 : Option Addr) (n0 c0 : Nat) (l0 : List UInt8) (h0 : BArg W A0 n0 c0 l0) (A1 : Option Addr) (n1 c1 : Nat) (l1 : List UInt8) (h1 : BArg W A1 n1 c1 l1)
    (A2 : Option Addr) (n2 c2 : Nat) (l2 : List UInt8) (h2 : BArg W A2 n2 c2 l2) (keep : Int) (hkeep : (Lit.int .i64 keep).wf = true) :
    Calls Try.prog 7 #[.slice A0 n0 c0, .slice A1 n1 c1, .slice A2 n2 c2, .int .i64 keep] W fun e w' => e = .returned (.bool true) ∧ Below W.heap.size W w' := by
  have le0 : n0 ≤ c0 := h0.le
  have le1 : n1 ≤ c1 := h1.le
  have le2 : n2 ≤ c2 := h2.le
  have mx0 : c0 ≤ 9223372036854775807 := h0.max
  have mx1 : c1 ≤ 9223372036854775807 := h1.max
  have mx2 : c2 ≤ 9223372036854775807 := h2.max
  have k0 := h0.cut 500
  have k1 := h1.cut 500
  have k2 := h2.cut 500
  generalize ha : l0.take 500 = a at *
  generalize hb : l1.take 500 = b at *
  generalize hc : l2.take 500 = d at *
  clear ha hb hc h0 h1 h2
  obtain ⟨m0, hm0, hm0'⟩ : ∃ m, min 500 n0 = m ∧ m ≤ 500 := ⟨_, rfl, by omega⟩
  obtain ⟨m1, hm1, hm1'⟩ : ∃ m, min 500 n1 = m ∧ m ≤ 500 := ⟨_, rfl, by omega⟩
  obtain ⟨m2, hm2, hm2'⟩ : ∃ m, min 500 n2 = m ∧ m ≤ 500 := ⟨_, rfl, by omega⟩
  rw [hm0] at k0
  rw [hm1] at k1
  rw [hm2] at k2
  have HM0 := Lib.hid hm0
  have HM1 := Lib.hid hm1
  have HM2 := Lib.hid hm2
  clear hm0 hm1 hm2
  have kc := fun (w : World) (C : Array Value) (n c : Nat) => Lib.run_convert_bytes_const (P := Try.prog) w 26 5 C n c Try.underlying26 Try.underlying5
  go_enter Try.func7, Try.ntmps7
  go_wp2_with fail
  refine (d_new W W (Below.refl _ _)).mono ?_
  rintro e w1 ⟨p, rfl, d1⟩
  go_upto_if 15 with fail
  go_cut [0] (fun s wx => s = .slice A0 m0 c0 ∧ wx = w1)
  case first =>
    go_wp2_with fail
    all_goals go_meet
    all_goals have hx2 := HM0.out
    all_goals exact ⟨by congr 1; omega, rfl⟩
  case rest =>
  obtain ⟨rfl, rfl⟩ := hcut
  go_upto_if 20 with fail
  go_cut [1] (fun s wx => s = .slice A1 m1 c1 ∧ wx = wc)
  case first =>
    go_wp2_with fail
    all_goals go_meet
    all_goals have hx2 := HM1.out
    all_goals exact ⟨by congr 1; omega, rfl⟩
  case rest =>
  obtain ⟨rfl, rfl⟩ := hcut
  go_upto_if 25 with fail
  go_cut [2] (fun s wx => s = .slice A2 m2 c2 ∧ wx = wc)
  case first =>
    go_wp2_with fail
    all_goals go_meet
    all_goals have hx2 := HM2.out
    all_goals exact ⟨by congr 1; omega, rfl⟩
  case rest =>
  obtain ⟨rfl, rfl⟩ := hcut
  have la := k0.reads.len
  have lb := k1.reads.len
  have ld := k2.reads.len
  have HLa := Lib.hid la
  have HLb := Lib.hid lb
  have HLd := Lib.hid ld
  clear la lb ld
  go_wp2_with fail
  refine (d_append d1 (k0.reads.below d1.below) (by simp; omega)).mono ?_
  rintro e w2 ⟨rfl, d2⟩
  replace d2 : D W w2 p a 0 := d2
  go_wp2_with fail
  refine (d_sync d2).mono ?_
  rintro e w3 ⟨rfl, d3⟩
  go_wp2_with fail
  refine (d_append d3 (k1.reads.below d3.below) (by have := HLa.out; omega)).mono ?_
  rintro e w4 ⟨rfl, d4⟩
  go_wp2_with fail
  refine (d_crash d4 keep).mono ?_
  rintro e w5 ⟨rfl, d5⟩
  go_upto_if 40 with fail
  go_cut [3] (fun s wx => s = .int .i64 (keep.toNat : Int) ∧ wx = w5)
  case first =>
    go_wp2_with fail
    all_goals go_meet
    all_goals exact ⟨by congr 1; omega, rfl⟩
  case rest =>
  obtain ⟨rfl, rfl⟩ := hcut
  go_upto_if 44 with fail
  go_cut [3] (fun s wx => s = .int .i64 ((min keep.toNat m1 : Nat) : Int) ∧ wx = wc)
  case first =>
    go_wp2_with fail
    all_goals go_meet
    all_goals exact ⟨by congr 1; omega, rfl⟩
  case rest =>
  obtain ⟨rfl, rfl⟩ := hcut
  obtain ⟨q, hq, hq1, hq2⟩ : ∃ q : Nat, min keep.toNat m1 = q ∧ q ≤ m1 ∧ b.take keep.toNat = b.take q := by
    have hlb := HLb.out
    refine ⟨min keep.toNat m1, rfl, by omega, ?_⟩
    rcases Nat.le_total keep.toNat m1 with h | h
    · rw [Nat.min_eq_left h]
    · rw [Nat.min_eq_right h, List.take_of_length_le (by omega), List.take_of_length_le (by omega)]
  rw [hq]
  clear hq
  obtain ⟨l5, hl5, n5, n6, h5⟩ : ∃ l5, a ++ b.take q = l5 ∧ l5.length ≤ 1000 ∧ l5.length = m0 + q ∧ D W wc p l5 l5.length := by
    have e1 := HLa.out
    have e2 := HLb.out
    refine ⟨_, rfl, by rw [List.length_append, List.length_take]; omega, by rw [List.length_append, List.length_take]; omega, ?_⟩
    have e : (a ++ b).take (a.length + keep.toNat) = a ++ b.take q := by rw [List.take_length_add_append, hq2]
    rwa [e] at d5
  have kq : BArg W A1 q c1 (b.take q) := by
    have hlb := HLb.out
    exact k1.take (by omega)
  have conv := fun {w : World} {A : Option Addr} {n c : Nat} {l : List UInt8} (h : BArg W A n c l) (hb : Below W.heap.size W w) => run_str w 26 9 5 Try.underlying26 Try.underlying5 Try.underlying9 (h.reads.below hb) c
  have s1 := conv k0 h5.below.drew
  have s2 := conv kq h5.below.drew
  have qc : (q : Int) ≤ (c1 : Int) := by have := k1.le; omega
  have q0 : (0 : Int) ≤ (q : Int) := by omega
  have hadd : ∀ w, (Op.stringOp .add ⟨a.toArray⟩ ⟨(b.take q).toArray⟩).run Try.prog w = .ok (.string ⟨l5.toArray⟩) w := by
    intro w
    have e1 := HLa.out
    have e2 := HLb.out
    rw [run_string_add_sum w _ _ (by rw [ba_size, ba_size, List.length_take]; omega), ba_append, hl5]
  have hwq : IntKind.i64.wrap ((m0 : Int) + (q : Int)) = (l5.length : Int) := by rw [IntWalk.i64_in _ (by omega)]; omega
  clear s1 s2 n6
  go_wp2_with fail
  have es := fun {w : World} (hw : Ext wc w) => conv k0 (h5.below.trans (hw.mono h5.below.size))
  have es2 := fun {w : World} (hw : Ext wc w) => conv kq (h5.below.trans (hw.mono h5.below.size))
  refine wp_region_rely [none, some (RB l5), none, none, none, none, none, none, none, none, none, none, none, none, none, none, none, none, none, none] (by kernel_rfl) (by kernel_rfl) ?_
  simp only [Wit]
  iterate 19 apply Exists.intro
  (first | (refine rely_skip rfl ?_; simp only [Act.put, List.setIfInBounds_toArray, List.set_cons_zero, List.set_cons_succ]) | (apply rely_pure; (· rfl); (· intro w hw hd; go_simp; done); simp only [Act.put, List.setIfInBounds_toArray, List.set_cons_zero, List.set_cons_succ]) | (apply rely_pure; (· rfl); (· intro w hw hd; go_simp; exact rfl); simp only [Act.put, List.setIfInBounds_toArray, List.set_cons_zero, List.set_cons_succ]))
  refine rely_rel rfl (RB.stays l5) (fun w hw hd => ?_) ?_
  · go_simp
    exact d_bytes_rel h5 hw
  intro v1
  simp only [Act.put, List.setIfInBounds_toArray, List.set_cons_zero, List.set_cons_succ]
  apply rely_pure
  · rfl
  · intro w hw hd
    have s6 := (hd ⟨1, .data⟩ (by simp) rfl : RB l5 v1 w).str
    go_simp
    exact rfl
  simp only [Act.put, List.setIfInBounds_toArray, List.set_cons_zero, List.set_cons_succ]
  (first | (refine rely_skip rfl ?_; simp only [Act.put, List.setIfInBounds_toArray, List.set_cons_zero, List.set_cons_succ]) | (apply rely_pure; (· rfl); (· intro w hw hd; go_simp; done); simp only [Act.put, List.setIfInBounds_toArray, List.set_cons_zero, List.set_cons_succ]) | (apply rely_pure; (· rfl); (· intro w hw hd; go_simp; exact rfl); simp only [Act.put, List.setIfInBounds_toArray, List.set_cons_zero, List.set_cons_succ]))
  apply rely_pure
  · rfl
  · intro w hw hd
    have s6 := es hw
    go_simp
    exact rfl
  simp only [Act.put, List.setIfInBounds_toArray, List.set_cons_zero, List.set_cons_succ]
  (first | (refine rely_skip rfl ?_; simp only [Act.put, List.setIfInBounds_toArray, List.set_cons_zero, List.set_cons_succ]) | (apply rely_pure; (· rfl); (· intro w hw hd; go_simp; done); simp only [Act.put, List.setIfInBounds_toArray, List.set_cons_zero, List.set_cons_succ]) | (apply rely_pure; (· rfl); (· intro w hw hd; go_simp; exact rfl); simp only [Act.put, List.setIfInBounds_toArray, List.set_cons_zero, List.set_cons_succ]))
  (first | (refine rely_skip rfl ?_; simp only [Act.put, List.setIfInBounds_toArray, List.set_cons_zero, List.set_cons_succ]) | (apply rely_pure; (· rfl); (· intro w hw hd; go_simp; done); simp only [Act.put, List.setIfInBounds_toArray, List.set_cons_zero, List.set_cons_succ]) | (apply rely_pure; (· rfl); (· intro w hw hd; go_simp; exact rfl); simp only [Act.put, List.setIfInBounds_toArray, List.set_cons_zero, List.set_cons_succ]))
  (first | (refine rely_skip rfl ?_; simp only [Act.put, List.setIfInBounds_toArray, List.set_cons_zero, List.set_cons_succ]) | (apply rely_pure; (· rfl); (· intro w hw hd; go_simp; done); simp only [Act.put, List.setIfInBounds_toArray, List.set_cons_zero, List.set_cons_succ]) | (apply rely_pure; (· rfl); (· intro w hw hd; go_simp; exact rfl); simp only [Act.put, List.setIfInBounds_toArray, List.set_cons_zero, List.set_cons_succ]))
  apply rely_pure
  · rfl
  · intro w hw hd
    have s6 := es2 hw
    go_simp
    exact rfl
  simp only [Act.put, List.setIfInBounds_toArray, List.set_cons_zero, List.set_cons_succ]
  (first | (refine rely_skip rfl ?_; simp only [Act.put, List.setIfInBounds_toArray, List.set_cons_zero, List.set_cons_succ]) | (apply rely_pure; (· rfl); (· intro w hw hd; go_simp; done); simp only [Act.put, List.setIfInBounds_toArray, List.set_cons_zero, List.set_cons_succ]) | (apply rely_pure; (· rfl); (· intro w hw hd; go_simp; exact rfl); simp only [Act.put, List.setIfInBounds_toArray, List.set_cons_zero, List.set_cons_succ]))
  (first | (refine rely_skip rfl ?_; simp only [Act.put, List.setIfInBounds_toArray, List.set_cons_zero, List.set_cons_succ]) | (apply rely_pure; (· rfl); (· intro w hw hd; go_simp; done); simp only [Act.put, List.setIfInBounds_toArray, List.set_cons_zero, List.set_cons_succ]) | (apply rely_pure; (· rfl); (· intro w hw hd; go_simp; exact rfl); simp only [Act.put, List.setIfInBounds_toArray, List.set_cons_zero, List.set_cons_succ]))
  (first | (refine rely_skip rfl ?_; simp only [Act.put, List.setIfInBounds_toArray, List.set_cons_zero, List.set_cons_succ]) | (apply rely_pure; (· rfl); (· intro w hw hd; go_simp; done); simp only [Act.put, List.setIfInBounds_toArray, List.set_cons_zero, List.set_cons_succ]) | (apply rely_pure; (· rfl); (· intro w hw hd; go_simp; exact rfl); simp only [Act.put, List.setIfInBounds_toArray, List.set_cons_zero, List.set_cons_succ]))
  (first | (refine rely_skip rfl ?_; simp only [Act.put, List.setIfInBounds_toArray, List.set_cons_zero, List.set_cons_succ]) | (apply rely_pure; (· rfl); (· intro w hw hd; go_simp; done); simp only [Act.put, List.setIfInBounds_toArray, List.set_cons_zero, List.set_cons_succ]) | (apply rely_pure; (· rfl); (· intro w hw hd; go_simp; exact rfl); simp only [Act.put, List.setIfInBounds_toArray, List.set_cons_zero, List.set_cons_succ]))
  apply rely_pure
  · rfl
  · intro w hw hd
    go_simp
    exact d_safe_pure h5 hw
  simp only [Act.put, List.setIfInBounds_toArray, List.set_cons_zero, List.set_cons_succ]
  repeat (first | (refine rely_skip rfl ?_; simp only [Act.put, List.setIfInBounds_toArray, List.set_cons_zero, List.set_cons_succ]) | (apply rely_pure; (· rfl); (· intro w hw hd; go_simp; done); simp only [Act.put, List.setIfInBounds_toArray, List.set_cons_zero, List.set_cons_succ]) | (apply rely_pure; (· rfl); (· intro w hw hd; go_simp; exact rfl); simp only [Act.put, List.setIfInBounds_toArray, List.set_cons_zero, List.set_cons_succ]))
  refine rely_nil ?_
  intro w6 hw6
  have h6 := h5.ext hw6.1
  clear es es2 kq hadd hl5 hwq
  go_wp2_with fail
  refine (d_append (xs := [108, 111, 115, 116]) (h6.alloc _) (reads_new _ _ _ _) (by simp; omega)).mono ?_
  rintro e w7 ⟨rfl, h7⟩
  go_wp2_with fail
  refine (d_swap h7 (k2.reads.below h7.below) h7.below.size k2.none (by omega)).mono ?_
  rintro e w8 ⟨rfl, h8⟩
  go_wp2_with fail
  refine (d_crash h8 0).mono ?_
  rintro e w9 ⟨rfl, h9⟩
  replace h9 : D W w9 p d d.length := by simpa using h9
  go_wp2_with fail
  have es := fun {w : World} (hw : Ext w9 w) => conv k2 (h9.below.trans (hw.mono h9.below.size))
  refine wp_region_rely [none, some (RB d), none, none, none, none, none, none, none, none, none, none, none, none, none, none, none] (by kernel_rfl) (by kernel_rfl) ?_
  simp only [Wit]
  iterate 16 apply Exists.intro
  (first | (refine rely_skip rfl ?_; simp only [Act.put, List.setIfInBounds_toArray, List.set_cons_zero, List.set_cons_succ]) | (apply rely_pure; (· rfl); (· intro w hw hd; go_simp; done); simp only [Act.put, List.setIfInBounds_toArray, List.set_cons_zero, List.set_cons_succ]) | (apply rely_pure; (· rfl); (· intro w hw hd; go_simp; exact rfl); simp only [Act.put, List.setIfInBounds_toArray, List.set_cons_zero, List.set_cons_succ]))
  refine rely_rel rfl (RB.stays d) (fun w hw hd => ?_) ?_
  · go_simp
    exact d_bytes_rel h9 hw
  intro v1
  simp only [Act.put, List.setIfInBounds_toArray, List.set_cons_zero, List.set_cons_succ]
  apply rely_pure
  · rfl
  · intro w hw hd
    have s6 := (hd ⟨1, .data⟩ (by simp) rfl : RB d v1 w).str
    go_simp
    exact rfl
  simp only [Act.put, List.setIfInBounds_toArray, List.set_cons_zero, List.set_cons_succ]
  (first | (refine rely_skip rfl ?_; simp only [Act.put, List.setIfInBounds_toArray, List.set_cons_zero, List.set_cons_succ]) | (apply rely_pure; (· rfl); (· intro w hw hd; go_simp; done); simp only [Act.put, List.setIfInBounds_toArray, List.set_cons_zero, List.set_cons_succ]) | (apply rely_pure; (· rfl); (· intro w hw hd; go_simp; exact rfl); simp only [Act.put, List.setIfInBounds_toArray, List.set_cons_zero, List.set_cons_succ]))
  apply rely_pure
  · rfl
  · intro w hw hd
    have s6 := es hw
    go_simp
    exact rfl
  simp only [Act.put, List.setIfInBounds_toArray, List.set_cons_zero, List.set_cons_succ]
  repeat (first | (refine rely_skip rfl ?_; simp only [Act.put, List.setIfInBounds_toArray, List.set_cons_zero, List.set_cons_succ]) | (apply rely_pure; (· rfl); (· intro w hw hd; go_simp; done); simp only [Act.put, List.setIfInBounds_toArray, List.set_cons_zero, List.set_cons_succ]) | (apply rely_pure; (· rfl); (· intro w hw hd; go_simp; exact rfl); simp only [Act.put, List.setIfInBounds_toArray, List.set_cons_zero, List.set_cons_succ]))
  apply rely_pure
  · rfl
  · intro w hw hd
    go_simp
    exact d_safe_pure h9 hw
  simp only [Act.put, List.setIfInBounds_toArray, List.set_cons_zero, List.set_cons_succ]
  have ed := HLd.out
  repeat (first | (refine rely_skip rfl ?_; simp only [Act.put, List.setIfInBounds_toArray, List.set_cons_zero, List.set_cons_succ]) | (apply rely_pure; (· rfl); (· intro w hw hd; go_simp; done); simp only [Act.put, List.setIfInBounds_toArray, List.set_cons_zero, List.set_cons_succ]) | (apply rely_pure; (· rfl); (· intro w hw hd; go_simp; exact rfl); simp only [Act.put, List.setIfInBounds_toArray, List.set_cons_zero, List.set_cons_succ]))
  apply rely_pure
  · rfl
  · intro w hw hd
    go_simp
    exact known_calls w w (Below.refl _ _)
  simp only [Act.put, List.setIfInBounds_toArray, List.set_cons_zero, List.set_cons_succ]
  repeat (first | (refine rely_skip rfl ?_; simp only [Act.put, List.setIfInBounds_toArray, List.set_cons_zero, List.set_cons_succ]) | (apply rely_pure; (· rfl); (· intro w hw hd; go_simp; done); simp only [Act.put, List.setIfInBounds_toArray, List.set_cons_zero, List.set_cons_succ]) | (apply rely_pure; (· rfl); (· intro w hw hd; go_simp; exact rfl); simp only [Act.put, List.setIfInBounds_toArray, List.set_cons_zero, List.set_cons_succ]))
  refine rely_nil ?_
  intro w6 hw6
  go_wp2
  go_ret
  exact ⟨rfl, h9.below.trans (hw6.1.mono h9.below.size)⟩

end Go.Proofs.Ytfclighheoobaaa
