/- wal.Log.image: all of a log as bytes. -/
import Derived.Test.YtfclighheoobaaaRecall
import Derived.Deep.DeepCutAuto
namespace Go.Proofs.Ytfclighheoobaaa
open Go.RowKit

attribute [local go_sem] Oper.pureUpon Oper.relUpon

/-- Records, put one behind the other from number n on, as bytes. -/
def encPuts : Nat → List (List UInt8) → List UInt8
  | _, [] => []
  | n, x :: l => enc 1 n x ++ encPuts (n + 1) l
theorem encPuts_snoc : ∀ (l : List (List UInt8)) (n : Nat) (x : List UInt8), encPuts n (l ++ [x]) = encPuts n l ++ enc 1 (n + l.length) x
  | [], n, x => by simp [encPuts]
  | y :: l, n, x => by
    simp only [List.cons_append, encPuts, encPuts_snoc l (n + 1) x, List.append_assoc, List.length_cons]
    rw [show n + 1 + l.length = n + (l.length + 1) by omega]
theorem encPuts_le : ∀ (l : List (List UInt8)) (n j : Nat), (encPuts n (l.take j)).length ≤ (encPuts n l).length
  | [], n, j => by simp [encPuts]
  | y :: l, n, 0 => by simp [encPuts]
  | y :: l, n, j + 1 => by
    simp only [List.take_succ_cons, encPuts, List.length_append]
    have := encPuts_le l (n + 1) j
    omega
theorem encPuts_len : ∀ (l : List (List UInt8)) (n : Nat), l.length ≤ (encPuts n l).length
  | [], _ => Nat.zero_le _
  | x :: l, n => by simp only [encPuts, List.length_append, enc_len, List.length_cons]; have := encPuts_len l (n + 1); omega
/-- All of a log. -/
def encAll (n : Nat) (snap note : List UInt8) (l : List (List UInt8)) : List UInt8 := enc 3 n snap ++ enc 2 0 note ++ encPuts n l

theorem written_rel (b : Nat) (w : World) (hb : b ≤ w.heap.size) (kind n : Nat) (s : List UInt8) (hk : kind < 256) (hn : n < 9223372036854775808) (hs : s.length ≤ 500000) :
    Calls Try.prog 53 #[.int .i64 kind, .int .i64 n, .string ⟨s.toArray⟩] w fun e w' => ∃ v, e = .returned v ∧ OwnB b (enc kind n s).length (enc kind n s) v w' ∧ Ext w w' := by
  refine (written_calls w kind n s hk hn hs).mono ?_
  rintro e w' ⟨A, c, rfl, ho, he⟩
  exact ⟨_, rfl, ⟨A, c, rfl, own_more ho hb⟩, he⟩

section
variable {w : World} {F : List Nat} {p dp : Nat} {s : St}
set_option maxRecDepth 100000 in
set_option maxHeartbeats 2000000 in
theorem image_calls (h : IsLog w F p dp s) (n : Nat) (snap : List UInt8) (hn : n ≤ 1073741824) (hsn : snap.length ≤ 65536) (rs : List (List UInt8)) (A : Option Addr) (c B : Nat) (hr : Reads w B 1 A rs.length (txs rs)) (hB : B ≤ w.heap.size)
    (hrs : ∀ x ∈ rs, x.length ≤ 65536) (hT : (encAll n snap s.note rs).length ≤ 100000000) :
    Calls Try.prog 56 #[.pointer (some ⟨p, 0, none⟩), .int .i64 n, tx snap, .slice A rs.length c] w fun e w' =>
      ∃ A' c', e = .returned (.slice A' (encAll n snap s.note rs).length c') ∧ w'.ownsRow w.heap.size 5 1 (.slice A' (encAll n snap s.note rs).length c') (encAll n snap s.note rs).length (bys (encAll n snap s.note rs)) ∧ Ext w w' := by
  obtain ⟨i0, hi0, hz0, hz1, hz2⟩ := info_parts byte_info
  obtain ⟨v, ⟨hb, ho, hok⟩, rfl⟩ := h
  have c4 : ∀ w', Ext w w' → w'.cell? ⟨p, 4, none⟩ = some (.string ⟨s.note.toArray⟩) := fun w' he => by have := (hb.below he hb.lt).cell 4; simpa [tx] using this
  have hnl := hok.2.2.2.1
  have e3 := enc_len 3 n snap
  have e2 := enc_len 2 0 s.note
  have hAll : encAll n snap s.note rs = enc 3 n snap ++ enc 2 0 s.note ++ encPuts n rs := rfl
  have w3 := fun w' (hw : Ext w w') => written_rel w.heap.size w' hw.size 3 n snap (by omega) (by omega) (by omega)
  have w2 := fun w' (hw : Ext w w') => written_rel w.heap.size w' hw.size 2 0 s.note (by omega) (by omega) (by omega)
  generalize enc 3 n snap = b3 at *
  generalize enc 2 0 s.note = b2 at *
  generalize encAll n snap s.note rs = ba at *
  have hP := fun j => encPuts_le rs n j
  have hT2 : b3.length + b2.length + (encPuts n rs).length ≤ 100000000 := by rw [hAll] at hT; simpa [Nat.add_assoc] using hT
  have HALL := Lib.hid hAll
  have HR := Lib.hid hr
  have HRS := Lib.hid hrs
  have HP := Lib.hid hP
  have W2 : ∀ w', Ext w w' → Calls Try.prog 53 #[.int .i64 2, .int .i64 0, .string ⟨s.note.toArray⟩] w' fun e w'' => ∃ v, e = .returned v ∧ OwnB w.heap.size b2.length b2 v w'' ∧ Ext w' w'' := w2
  have W3 : ∀ w', Ext w w' → Calls Try.prog 53 #[.int .i64 3, .int .i64 n, .string ⟨snap.toArray⟩] w' fun e w'' => ∃ v, e = .returned v ∧ OwnB w.heap.size b3.length b3 v w'' ∧ Ext w' w'' := w3
  have HW2 := Lib.hid W2
  have HW3 := Lib.hid W3
  clear hAll hr hrs hP w2 w3 W2 W3 hT hb ho hok e2 e3
  unfold tx
  go_enter Try.func56, Try.ntmps56
  go_wp2_with fail
  refine wp_region_rely_tail 8 [none, none, some (OwnB w.heap.size b3.length b3), none, none, none, none, some (OwnB w.heap.size b2.length b2)] (by kernel_rfl) (by kernel_rfl) ?_
  simp only [Wit, List.take_succ_cons, List.take_zero, List.drop_succ_cons, List.drop_zero]
  iterate 6 apply Exists.intro
  (first | (refine rely_skip rfl ?_; simp only [Act.put, List.setIfInBounds_toArray, List.set_cons_zero, List.set_cons_succ]) | (apply rely_pure; (· rfl); (· intro w hw hd; go_simp; done); simp only [Act.put, List.setIfInBounds_toArray, List.set_cons_zero, List.set_cons_succ]) | (apply rely_pure; (· rfl); (· intro w hw hd; go_simp; exact rfl); simp only [Act.put, List.setIfInBounds_toArray, List.set_cons_zero, List.set_cons_succ]))
  (first | (refine rely_skip rfl ?_; simp only [Act.put, List.setIfInBounds_toArray, List.set_cons_zero, List.set_cons_succ]) | (apply rely_pure; (· rfl); (· intro w hw hd; go_simp; done); simp only [Act.put, List.setIfInBounds_toArray, List.set_cons_zero, List.set_cons_succ]) | (apply rely_pure; (· rfl); (· intro w hw hd; go_simp; exact rfl); simp only [Act.put, List.setIfInBounds_toArray, List.set_cons_zero, List.set_cons_succ]))
  refine rely_rel rfl (OwnB.stays _ _ _) (fun w hw hd => ?_) ?_
  · go_simp
    exact HW3.out w hw
  intro v1
  simp only [Act.put, List.setIfInBounds_toArray, List.set_cons_zero, List.set_cons_succ]
  repeat (first | (refine rely_skip rfl ?_; simp only [Act.put, List.setIfInBounds_toArray, List.set_cons_zero, List.set_cons_succ]) | (apply rely_pure; (· rfl); (· intro w hw hd; go_simp; done); simp only [Act.put, List.setIfInBounds_toArray, List.set_cons_zero, List.set_cons_succ]) | (apply rely_pure; (· rfl); (· intro w hw hd; go_simp; exact rfl); simp only [Act.put, List.setIfInBounds_toArray, List.set_cons_zero, List.set_cons_succ]))
  refine rely_rel rfl (OwnB.stays _ _ _) (fun w hw hd => ?_) ?_
  · go_simp
    exact HW2.out w hw
  intro v2
  simp only [Act.put, List.setIfInBounds_toArray, List.set_cons_zero, List.set_cons_succ]
  refine rely_nil ?_
  intro w1 hw1
  obtain ⟨A1, c1, rfl, ho1⟩ : OwnB w.heap.size b3.length b3 v1 w1 := (hw1.2 2).1
  obtain ⟨A2, c2, rfl, ho2⟩ : OwnB w.heap.size b2.length b2 v2 w1 := (hw1.2 7).1
  have he1 := hw1.1
  clear hw1 c4
  go_wp2_with (at_builtin; refine wpList_app _ rfl (.tmp 14) (.tmp 19) _ rfl 5 i0 _ 1 1 Try.underlying26 hi0 hz0 hz1 hz2 rfl (by omega) (.slice A1 b3.length c1) b3.length (bys b3) w.heap.size rfl ho1 w1.heap.size A2 b2.length c2 (bys b2) rfl (Reads.of_own ho2) (bys_one _) (by omega) he1.size ?_; intro A5 c5 w5 hown5 hg5 hat5; have he5 : Ext w w5 := he1.grown hg5 he1.size (fun k hk => (ho1.lt k hk).1))
  rw [← bys_append] at hown5
  obtain ⟨l5, hl5⟩ : ∃ l5, b3 ++ b2 = l5 := ⟨_, rfl⟩
  have hm5 : b3.length + b2.length = l5.length := by rw [← hl5, List.length_append]
  rw [hl5, hm5] at hown5
  rw [hm5]
  rw [hm5] at hT2
  have HL5 := Lib.hid hl5
  clear hl5 ho1 ho2 hg5 hat5 he1 hm5
  go_loopw [9, 23] (fun o i wr => ∃ (j : Nat) (A' : Option Addr) (c' : Nat) (l : List UInt8), j ≤ rs.length ∧ i = .int .i64 (j : Int) ∧ o = .slice A' l.length c' ∧
    Hid (l = l5 ++ encPuts n (rs.take j)) ∧ Hid (wr.ownsRow w.heap.size 5 1 (.slice A' l.length c') l.length (bys l)) ∧ Hid (Ext w wr)) (fun _ i _ => rs.length - (intOf i).toNat)
  case atStart => exact ⟨0, A5, c5, l5, by omega, rfl, rfl, Lib.hid (by simp [encPuts]), Lib.hid hown5, Lib.hid he5⟩
  case round =>
    obtain ⟨j, A', c', l, hj, rfl, rfl, hl, ho, he⟩ := hrel
    clear hown5 he5
    have hll : l.length ≤ 100000000 := by rw [hl.out, List.length_append]; have := HP.out j; omega
    by_cases hjl : j < rs.length
    · have hx : rs[j]? = some rs[j] := List.getElem?_eq_getElem hjl
      generalize rs[j] = x at hx
      have hxl : x.length ≤ 65536 := HRS.out x (List.mem_of_getElem? hx)
      have hrw := HR.out.keep (w' := wr) (fun p hp => he.out.cell (Nat.lt_of_lt_of_le hp hB))
      obtain ⟨ad, u, rfl, _, hu, hc⟩ := hrw.at_ hjl
      obtain rfl : u = .string ⟨x.toArray⟩ := by
        unfold txs at hu
        rw [List.getElem?_map, hx] at hu
        exact (Option.some.inj hu).symm
      have h0 : (0 : Int) ≤ (j : Int) := by omega
      have h1 : (j : Int) < (rs.length : Int) := by omega
      obtain ⟨nj, hnj⟩ : ∃ nj, n + j = nj := ⟨_, rfl⟩
      have hnji : (n : Int) + (j : Int) = (nj : Int) := by omega
      have hjm : j ≤ 100000000 := by
        have := encPuts_len rs n
        omega
      have hwr := written_calls wr 1 nj x (by omega) (by omega) (by omega)
      have hlen := enc_len 1 nj x
      have hE : encPuts n (rs.take (j + 1)) = encPuts n (rs.take j) ++ enc 1 nj x := by
        rw [List.take_add_one, hx, Option.toList_some, encPuts_snoc, List.length_take, Nat.min_eq_left hj, hnj]
      generalize enc 1 nj x = b1 at *
      have hb1 : b1.length ≤ 70000 := by omega
      have HE := Lib.hid hE
      have HNJ := Lib.hid hnj
      clear hx hu hrw hlen hE hnj
      go_wp2_with fail
      refine hwr.mono ?_
      rintro e w6 ⟨A6, c6, rfl, ho6, he6⟩
      have ho' := own_mod ho.out (Mod.of_below he6 []) (by simp)
      have hb6 : w.heap.size ≤ w6.heap.size := Nat.le_trans he.out.size he6.size
      clear hwr
      go_wp2_with (at_builtin; refine wpList_app _ rfl (.tmp 28) (.tmp 33) _ rfl 5 i0 _ 1 1 Try.underlying26 hi0 hz0 hz1 hz2 rfl (by omega) (.slice A' l.length c') l.length (bys l) w.heap.size rfl ho' w6.heap.size A6 b1.length c6 (bys b1) rfl (Reads.of_own ho6) (bys_one _) (by omega) hb6 ?_; intro A7 c7 w7 hown7 hg7 hat7)
      have he7 : Ext w w7 := (he.out.trans he6).grown hg7 hb6 (fun k hk => (ho'.lt k hk).1)
      have hlb : l.length + b1.length = (l ++ b1).length := by rw [List.length_append]
      rw [← bys_append, hlb] at hown7
      rw [hlb]
      refine ⟨⟨j + 1, A7, c7, l ++ b1, by omega, by go_num, rfl, Lib.hid (by rw [hl.out, HE.out, List.append_assoc]), Lib.hid hown7, Lib.hid he7⟩, by simp [intOf]; omega⟩
    · have h1 : ¬ (j : Int) < (rs.length : Int) := by omega
      go_wp2_with fail
      go_ret
      have e1 : l = ba := by rw [hl.out, HALL.out, ← HL5.out, List.take_of_length_le (by omega)]
      subst e1
      exact ⟨A', c', rfl, ho.out, he.out⟩
end

end Go.Proofs.Ytfclighheoobaaa
