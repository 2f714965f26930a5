/- DiskHalves: bytes that are appended in two pieces are as in one; a crash that keeps all keeps all, one that keeps none keeps what is safe. -/
import Derived.Test.YtfclighheoobaaaSep
import Derived.Deep.DeepCutAuto
namespace Go.Proofs.Ytfclighheoobaaa
open Go.RowKit

attribute [local go_sem] ba_append ba_extract ba_size Oper.pureUpon Oper.relUpon

set_option maxRecDepth 100000 in
theorem cut_calls (w : World) (A : Option Addr) (n c : Nat) (m : Int) (h0 : 0 ≤ m) (hn : n ≤ c) (hc : c ≤ 9223372036854775807) :
    Calls Try.prog 24 #[.slice A n c, .int .i64 m] w fun e w' => e = .returned (.slice A (min m.toNat n) c) ∧ w = w' := by
  by_cases h : (n : Int) > m
  · have hm : m ≤ (c : Int) := by omega
    go_enter Try.func24, Try.ntmps24
    go_wp2
    go_ret
    exact ⟨by show Ending.returned (.slice A _ c) = Ending.returned (.slice A _ c); first | (congr 2; omega) | (congr 2), rfl⟩
  · go_enter Try.func24, Try.ntmps24
    go_wp2
    go_ret
    exact ⟨by show Ending.returned (.slice A _ c) = Ending.returned (.slice A _ c); first | (congr 2; omega) | (congr 2), rfl⟩

theorem BArg.cut {W : World} {A : Option Addr} {n c : Nat} {l : List UInt8} (h : BArg W A n c l) (m : Nat) : BArg W A (min m n) c (l.take m) := by
  have := h.take (m := min m n) (by omega)
  have e : l.take (min m n) = l.take m := by
    have hl := h.reads.len
    rw [hl, ← List.take_take, List.take_length]
  rwa [e] at this

theorem conv_b {W w : World} {A : Option Addr} {n c : Nat} {l : List UInt8} (h : BArg W A n c l) (hb : Below W.heap.size W w) : (convert 26 9 (.slice A n c)).run Try.prog w = .ok (.string ⟨l.toArray⟩) w :=
  run_str w 26 9 5 Try.underlying26 Try.underlying5 Try.underlying9 (h.reads.below hb) c

set_option maxRecDepth 100000 in
set_option maxHeartbeats 4000000 in
theorem halves_walk (W : World) (A0 : Option Addr) (n0 c0 : Nat) (l0 : List UInt8) (h0 : BArg W A0 n0 c0 l0) (A1 : Option Addr) (n1 c1 : Nat) (l1 : List UInt8) (h1 : BArg W A1 n1 c1 l1) (cut : Int) (hcut : (Lit.int .i64 cut).wf = true) :
    Calls Try.prog 4 #[.slice A0 n0 c0, .slice A1 n1 c1, .int .i64 cut] W fun e w' => e = .returned (.bool true) ∧ Below W.heap.size W w' := by
  have le0 : n0 ≤ c0 := h0.le
  have le1 : n1 ≤ c1 := h1.le
  have mx0 : c0 ≤ 9223372036854775807 := h0.max
  have mx1 : c1 ≤ 9223372036854775807 := h1.max
  have k0 := h0.cut 200
  have k1 := h1.cut 200
  generalize ha : l0.take 200 = a at *
  generalize hb : l1.take 200 = b at *
  clear ha hb h0 h1
  obtain ⟨m0, hm0, hm0'⟩ : ∃ m, min 200 n0 = m ∧ m ≤ 200 := ⟨_, rfl, by omega⟩
  obtain ⟨m1, hm1, hm1'⟩ : ∃ m, min 200 n1 = m ∧ m ≤ 200 := ⟨_, rfl, by omega⟩
  rw [hm0] at k0
  rw [hm1] at k1
  have HM0 := Lib.hid hm0
  have HM1 := Lib.hid hm1
  clear hm0 hm1
  have HLa := Lib.hid k0.reads.len
  have HLb := Lib.hid k1.reads.len
  go_enter Try.func4, Try.ntmps4
  go_wp2_with fail
  refine (cut_calls W A0 n0 c0 200 (by omega) le0 mx0).mono ?_
  rintro e w1 ⟨rfl, rfl⟩
  rw [show min (Int.toNat 200) n0 = m0 from HM0.out]
  go_wp2_with fail
  refine (cut_calls W A1 n1 c1 200 (by omega) le1 mx1).mono ?_
  rintro e w1 ⟨rfl, rfl⟩
  rw [show min (Int.toNat 200) n1 = m1 from HM1.out]
  clear le0 le1 mx0 mx1 HM0 HM1
  go_wp2_with fail
  refine (sd_new W).mono ?_
  rintro e w1 ⟨p, rfl, hp1, d1, hx1⟩
  have s1 : Sep W w1 [[p]] := (Sep.start W).new hx1 (by have := d1.lt; simp at this ⊢; omega)
  go_wp2_with fail
  refine (sd_new w1).mono ?_
  rintro e w2 ⟨q, rfl, hq2, e2, hx2⟩
  have s2 : Sep W w2 [[q], [p]] := s1.new hx2 (by have := e2.lt; simp at this ⊢; omega)
  have d2 := d1.ext hx2
  clear d1 hx1 hx2 s1 hp1 hq2
  go_wp2_with fail
  refine (within_calls _ cut 0 m1 (by omega) (by omega) (by omega)).mono ?_
  rintro e w3 ⟨rfl, rfl⟩
  obtain ⟨k, hk, hkm⟩ : ∃ k : Nat, within cut 0 m1 = k ∧ k ≤ m1 := by
    refine ⟨(within cut 0 m1).toNat, ?_, ?_⟩ <;> (unfold within; have := Int.emod_nonneg cut (show (m1 : Int) - 0 + 1 ≠ 0 by omega); have := Int.emod_lt_of_pos cut (show 0 < (m1 : Int) - 0 + 1 by omega); omega)
  rw [hk]
  clear hk
  go_wp2_with fail
  refine (sd_append d2 (k0.reads.below s2.below) (by simp; omega)).mono ?_
  rintro e w3 ⟨rfl, F3, d3, nx⟩
  obtain ⟨s3, ks⟩ := s2.swap.next nx
  have e3 := e2.keep (ks [q] (by simp))
  clear nx ks d2 e2 s2
  go_wp2_with fail
  refine (sd_sync d3).mono ?_
  rintro e w4 ⟨rfl, d4, nx⟩
  obtain ⟨s4, ks⟩ := s3.next nx
  have e4 := e3.keep (ks [q] (by simp))
  clear nx ks d3 e3 s3
  go_wp2_with fail
  refine (sd_append d4 (k1.reads.below s4.below) (by have := HLa.out; simp; omega)).mono ?_
  rintro e w5 ⟨rfl, F5, d5, nx⟩
  obtain ⟨s5, ks⟩ := s4.next nx
  have e5 := e4.keep (ks [q] (by simp))
  clear nx ks d4 e4 s4
  go_wp2_with fail
  refine (sd_append e5 (k0.reads.below s5.below) (by simp; omega)).mono ?_
  rintro e w6 ⟨rfl, F6, e6, nx⟩
  obtain ⟨s6, ks⟩ := s5.swap.next nx
  have d6 := d5.keep (ks F5 (by simp))
  clear nx ks d5 e5 s5
  go_wp2_with fail
  refine (sd_sync e6).mono ?_
  rintro e w7 ⟨rfl, e7, nx⟩
  obtain ⟨s7, ks⟩ := s6.next nx
  have d7 := d6.keep (ks F5 (by simp))
  clear nx ks d6 e6 s6
  have le1 : m1 ≤ c1 := k1.le
  obtain ⟨A2, hsl, kd⟩ := barg_from k1 hkm
  go_wp2_with fail
  have kk := k1.take hkm
  refine (sd_append e7 (kk.reads.below s7.below) (by have := HLa.out; simp; omega)).mono ?_
  rintro e w8 ⟨rfl, F8, e8, nx⟩
  obtain ⟨s8, ks⟩ := s7.next nx
  have d8 := d7.keep (ks F5 (by simp))
  clear nx ks d7 e7 s7
  go_wp2_with fail
  refine (sd_append e8 (kd.reads.below s8.below) (by have e1 := HLa.out; have e2 := HLb.out; simp; omega)).mono ?_
  rintro e w9 ⟨rfl, F9, e9, nx⟩
  obtain ⟨s9, ks⟩ := s8.next nx
  have d9 := d8.keep (ks F5 (by simp))
  clear nx ks d8 e8 s8 hsl kd kk
  obtain ⟨ab, hab⟩ : ∃ ab, a ++ b = ab := ⟨_, rfl⟩
  replace d9 : IsD w9 F5 p ab m0 := by rw [← hab, HLa.out]; simpa using d9
  replace e9 : IsD w9 F9 q ab m0 := by
    rw [← hab, HLa.out]
    have e1 : [] ++ a ++ b.take k ++ b.drop k = a ++ b := by simp
    rw [e1] at e9
    simpa using e9
  have HAB := Lib.hid hab
  clear hab
  go_wp2_with fail
  refine wp_region_rely [none, some (RB ab), none, none, some (RB ab), none, none, none, none, none, none, none, none, none, none, none, none, none, none, none, none] (by kernel_rfl) (by kernel_rfl) ?_
  simp only [Wit]
  iterate 19 apply Exists.intro
  (first | (refine rely_skip rfl ?_; simp only [Act.put, List.setIfInBounds_toArray, List.set_cons_zero, List.set_cons_succ]) | (apply rely_pure; (· rfl); (· intro w hw hd; go_simp; done); simp only [Act.put, List.setIfInBounds_toArray, List.set_cons_zero, List.set_cons_succ]) | (apply rely_pure; (· rfl); (· intro w hw hd; go_simp; exact rfl); simp only [Act.put, List.setIfInBounds_toArray, List.set_cons_zero, List.set_cons_succ]))
  refine rely_rel rfl (RB.stays ab) (fun w hw hd => ?_) ?_
  · go_simp
    exact sd_bytes_rel d9 hw
  intro v1
  simp only [Act.put, List.setIfInBounds_toArray, List.set_cons_zero, List.set_cons_succ]
  apply rely_pure
  · rfl
  · intro w hw hd
    have s6 := (hd ⟨1, .data⟩ (by simp) rfl : RB (ab) v1 w).str
    go_simp
    exact rfl
  simp only [Act.put, List.setIfInBounds_toArray, List.set_cons_zero, List.set_cons_succ]
  (first | (refine rely_skip rfl ?_; simp only [Act.put, List.setIfInBounds_toArray, List.set_cons_zero, List.set_cons_succ]) | (apply rely_pure; (· rfl); (· intro w hw hd; go_simp; done); simp only [Act.put, List.setIfInBounds_toArray, List.set_cons_zero, List.set_cons_succ]) | (apply rely_pure; (· rfl); (· intro w hw hd; go_simp; exact rfl); simp only [Act.put, List.setIfInBounds_toArray, List.set_cons_zero, List.set_cons_succ]))
  refine rely_rel rfl (RB.stays ab) (fun w hw hd => ?_) ?_
  · go_simp
    exact sd_bytes_rel e9 hw
  intro v2
  simp only [Act.put, List.setIfInBounds_toArray, List.set_cons_zero, List.set_cons_succ]
  apply rely_pure
  · rfl
  · intro w hw hd
    have s6 := (hd ⟨4, .data⟩ (by simp) rfl : RB (ab) v2 w).str
    go_simp
    exact rfl
  simp only [Act.put, List.setIfInBounds_toArray, List.set_cons_zero, List.set_cons_succ]
  repeat (first | (refine rely_skip rfl ?_; simp only [Act.put, List.setIfInBounds_toArray, List.set_cons_zero, List.set_cons_succ]) | (apply rely_pure; (· rfl); (· intro w hw hd; go_simp; done); simp only [Act.put, List.setIfInBounds_toArray, List.set_cons_zero, List.set_cons_succ]) | (apply rely_pure; (· rfl); (· intro w hw hd; go_simp; exact rfl); simp only [Act.put, List.setIfInBounds_toArray, List.set_cons_zero, List.set_cons_succ]))
  apply rely_pure
  · rfl
  · intro w hw hd
    go_simp
    exact sd_safe_pure d9 hw
  simp only [Act.put, List.setIfInBounds_toArray, List.set_cons_zero, List.set_cons_succ]
  repeat (first | (refine rely_skip rfl ?_; simp only [Act.put, List.setIfInBounds_toArray, List.set_cons_zero, List.set_cons_succ]) | (apply rely_pure; (· rfl); (· intro w hw hd; go_simp; done); simp only [Act.put, List.setIfInBounds_toArray, List.set_cons_zero, List.set_cons_succ]) | (apply rely_pure; (· rfl); (· intro w hw hd; go_simp; exact rfl); simp only [Act.put, List.setIfInBounds_toArray, List.set_cons_zero, List.set_cons_succ]))
  apply rely_pure
  · rfl
  · intro w hw hd
    go_simp
    exact sd_safe_pure e9 hw
  simp only [Act.put, List.setIfInBounds_toArray, List.set_cons_zero, List.set_cons_succ]
  repeat (first | (refine rely_skip rfl ?_; simp only [Act.put, List.setIfInBounds_toArray, List.set_cons_zero, List.set_cons_succ]) | (apply rely_pure; (· rfl); (· intro w hw hd; go_simp; done); simp only [Act.put, List.setIfInBounds_toArray, List.set_cons_zero, List.set_cons_succ]) | (apply rely_pure; (· rfl); (· intro w hw hd; go_simp; exact rfl); simp only [Act.put, List.setIfInBounds_toArray, List.set_cons_zero, List.set_cons_succ]))
  refine rely_nil ?_
  intro w10 hw10
  have d10 := d9.ext hw10.1
  have e10 := e9.ext hw10.1
  have s10 := s9.ext hw10.1
  clear d9 e9 s9 hw10
  go_wp2_with fail
  refine (sd_crash d10 m1).mono ?_
  rintro e w11 ⟨rfl, d11, nx⟩
  obtain ⟨s11, ks⟩ := s10.swap.next nx
  have e11 := e10.keep (ks F9 (by simp))
  clear nx ks d10 e10 s10
  go_wp2_with fail
  refine (sd_crash e11 0).mono ?_
  rintro e w12 ⟨rfl, e12, nx⟩
  obtain ⟨s12, ks⟩ := s11.swap.next nx
  have d12 := d11.keep (ks F5 (by simp))
  clear nx ks d11 e11 s11
  have ea : (ab.take (m0 + Int.toNat 0)) = a := by
    have e1 := HLa.out
    rw [← HAB.out]
    simp [e1]
  have eab : (ab.take (m0 + Int.toNat (m1 : Int))) = ab := by
    have e1 := HLa.out
    have e2 := HLb.out
    rw [← HAB.out]
    exact List.take_of_length_le (by simp; omega)
  rw [ea, ← HLa.out] at e12
  rw [eab] at d12
  clear ea eab
  have ca := fun {w : World} (hw : Ext w12 w) => conv_b k0 (s12.below.trans (hw.mono s12.below.size))
  have cb := fun {w : World} (hw : Ext w12 w) => conv_b k1 (s12.below.trans (hw.mono s12.below.size))
  have hadd : ∀ w, (Op.stringOp .add ⟨a.toArray⟩ ⟨b.toArray⟩).run Try.prog w = .ok (.string ⟨ab.toArray⟩) w := by
    intro w
    have e1 := HLa.out
    have e2 := HLb.out
    rw [run_string_add_sum w _ _ (by rw [ba_size, ba_size]; omega), ba_append, HAB.out]
  go_wp2_with fail
  refine wp_region_rely [none, some (RB ab), none, none, none, none, none, none, none, none, none, some (RB a), none, none, none, none, none, none, none, none, none, none, none, none, none, none, none, none] (by kernel_rfl) (by kernel_rfl) ?_
  simp only [Wit]
  iterate 26 apply Exists.intro
  (first | (refine rely_skip rfl ?_; simp only [Act.put, List.setIfInBounds_toArray, List.set_cons_zero, List.set_cons_succ]) | (apply rely_pure; (· rfl); (· intro w hw hd; go_simp; done); simp only [Act.put, List.setIfInBounds_toArray, List.set_cons_zero, List.set_cons_succ]) | (apply rely_pure; (· rfl); (· intro w hw hd; go_simp; exact rfl); simp only [Act.put, List.setIfInBounds_toArray, List.set_cons_zero, List.set_cons_succ]))
  refine rely_rel rfl (RB.stays ab) (fun w hw hd => ?_) ?_
  · go_simp
    exact sd_bytes_rel d12 hw
  intro v1
  simp only [Act.put, List.setIfInBounds_toArray, List.set_cons_zero, List.set_cons_succ]
  apply rely_pure
  · rfl
  · intro w hw hd
    have s6 := (hd ⟨1, .data⟩ (by simp) rfl : RB (ab) v1 w).str
    go_simp
    exact rfl
  simp only [Act.put, List.setIfInBounds_toArray, List.set_cons_zero, List.set_cons_succ]
  (first | (refine rely_skip rfl ?_; simp only [Act.put, List.setIfInBounds_toArray, List.set_cons_zero, List.set_cons_succ]) | (apply rely_pure; (· rfl); (· intro w hw hd; go_simp; done); simp only [Act.put, List.setIfInBounds_toArray, List.set_cons_zero, List.set_cons_succ]) | (apply rely_pure; (· rfl); (· intro w hw hd; go_simp; exact rfl); simp only [Act.put, List.setIfInBounds_toArray, List.set_cons_zero, List.set_cons_succ]))
  apply rely_pure
  · rfl
  · intro w hw hd
    have s6 := ca hw
    go_simp
    exact rfl
  simp only [Act.put, List.setIfInBounds_toArray, List.set_cons_zero, List.set_cons_succ]
  (first | (refine rely_skip rfl ?_; simp only [Act.put, List.setIfInBounds_toArray, List.set_cons_zero, List.set_cons_succ]) | (apply rely_pure; (· rfl); (· intro w hw hd; go_simp; done); simp only [Act.put, List.setIfInBounds_toArray, List.set_cons_zero, List.set_cons_succ]) | (apply rely_pure; (· rfl); (· intro w hw hd; go_simp; exact rfl); simp only [Act.put, List.setIfInBounds_toArray, List.set_cons_zero, List.set_cons_succ]))
  apply rely_pure
  · rfl
  · intro w hw hd
    have s6 := cb hw
    go_simp
    exact rfl
  simp only [Act.put, List.setIfInBounds_toArray, List.set_cons_zero, List.set_cons_succ]
  (first | (refine rely_skip rfl ?_; simp only [Act.put, List.setIfInBounds_toArray, List.set_cons_zero, List.set_cons_succ]) | (apply rely_pure; (· rfl); (· intro w hw hd; go_simp; done); simp only [Act.put, List.setIfInBounds_toArray, List.set_cons_zero, List.set_cons_succ]) | (apply rely_pure; (· rfl); (· intro w hw hd; go_simp; exact rfl); simp only [Act.put, List.setIfInBounds_toArray, List.set_cons_zero, List.set_cons_succ]))
  (first | (refine rely_skip rfl ?_; simp only [Act.put, List.setIfInBounds_toArray, List.set_cons_zero, List.set_cons_succ]) | (apply rely_pure; (· rfl); (· intro w hw hd; go_simp; done); simp only [Act.put, List.setIfInBounds_toArray, List.set_cons_zero, List.set_cons_succ]) | (apply rely_pure; (· rfl); (· intro w hw hd; go_simp; exact rfl); simp only [Act.put, List.setIfInBounds_toArray, List.set_cons_zero, List.set_cons_succ]))
  (first | (refine rely_skip rfl ?_; simp only [Act.put, List.setIfInBounds_toArray, List.set_cons_zero, List.set_cons_succ]) | (apply rely_pure; (· rfl); (· intro w hw hd; go_simp; done); simp only [Act.put, List.setIfInBounds_toArray, List.set_cons_zero, List.set_cons_succ]) | (apply rely_pure; (· rfl); (· intro w hw hd; go_simp; exact rfl); simp only [Act.put, List.setIfInBounds_toArray, List.set_cons_zero, List.set_cons_succ]))
  (first | (refine rely_skip rfl ?_; simp only [Act.put, List.setIfInBounds_toArray, List.set_cons_zero, List.set_cons_succ]) | (apply rely_pure; (· rfl); (· intro w hw hd; go_simp; done); simp only [Act.put, List.setIfInBounds_toArray, List.set_cons_zero, List.set_cons_succ]) | (apply rely_pure; (· rfl); (· intro w hw hd; go_simp; exact rfl); simp only [Act.put, List.setIfInBounds_toArray, List.set_cons_zero, List.set_cons_succ]))
  refine rely_rel rfl (RB.stays a) (fun w hw hd => ?_) ?_
  · go_simp
    exact sd_bytes_rel e12 hw
  intro v2
  simp only [Act.put, List.setIfInBounds_toArray, List.set_cons_zero, List.set_cons_succ]
  apply rely_pure
  · rfl
  · intro w hw hd
    have s6 := (hd ⟨11, .data⟩ (by simp) rfl : RB (a) v2 w).str
    go_simp
    exact rfl
  simp only [Act.put, List.setIfInBounds_toArray, List.set_cons_zero, List.set_cons_succ]
  (first | (refine rely_skip rfl ?_; simp only [Act.put, List.setIfInBounds_toArray, List.set_cons_zero, List.set_cons_succ]) | (apply rely_pure; (· rfl); (· intro w hw hd; go_simp; done); simp only [Act.put, List.setIfInBounds_toArray, List.set_cons_zero, List.set_cons_succ]) | (apply rely_pure; (· rfl); (· intro w hw hd; go_simp; exact rfl); simp only [Act.put, List.setIfInBounds_toArray, List.set_cons_zero, List.set_cons_succ]))
  apply rely_pure
  · rfl
  · intro w hw hd
    have s6 := ca hw
    go_simp
    exact rfl
  simp only [Act.put, List.setIfInBounds_toArray, List.set_cons_zero, List.set_cons_succ]
  repeat (first | (refine rely_skip rfl ?_; simp only [Act.put, List.setIfInBounds_toArray, List.set_cons_zero, List.set_cons_succ]) | (apply rely_pure; (· rfl); (· intro w hw hd; go_simp; done); simp only [Act.put, List.setIfInBounds_toArray, List.set_cons_zero, List.set_cons_succ]) | (apply rely_pure; (· rfl); (· intro w hw hd; go_simp; exact rfl); simp only [Act.put, List.setIfInBounds_toArray, List.set_cons_zero, List.set_cons_succ]))
  apply rely_pure
  · rfl
  · intro w hw hd
    go_simp
    exact sd_safe_pure e12 hw
  simp only [Act.put, List.setIfInBounds_toArray, List.set_cons_zero, List.set_cons_succ]
  repeat (first | (refine rely_skip rfl ?_; simp only [Act.put, List.setIfInBounds_toArray, List.set_cons_zero, List.set_cons_succ]) | (apply rely_pure; (· rfl); (· intro w hw hd; go_simp; done); simp only [Act.put, List.setIfInBounds_toArray, List.set_cons_zero, List.set_cons_succ]) | (apply rely_pure; (· rfl); (· intro w hw hd; go_simp; exact rfl); simp only [Act.put, List.setIfInBounds_toArray, List.set_cons_zero, List.set_cons_succ]))
  apply rely_pure
  · rfl
  · intro w hw hd
    go_simp
    exact known_pure _
  simp only [Act.put, List.setIfInBounds_toArray, List.set_cons_zero, List.set_cons_succ]
  repeat (first | (refine rely_skip rfl ?_; simp only [Act.put, List.setIfInBounds_toArray, List.set_cons_zero, List.set_cons_succ]) | (apply rely_pure; (· rfl); (· intro w hw hd; go_simp; done); simp only [Act.put, List.setIfInBounds_toArray, List.set_cons_zero, List.set_cons_succ]) | (apply rely_pure; (· rfl); (· intro w hw hd; go_simp; exact rfl); simp only [Act.put, List.setIfInBounds_toArray, List.set_cons_zero, List.set_cons_succ]))
  refine rely_nil ?_
  intro w13 hw13
  go_wp2
  go_ret
  exact ⟨rfl, s12.below.trans (hw13.1.mono s12.below.size)⟩

end Go.Proofs.Ytfclighheoobaaa
