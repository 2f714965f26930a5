/- frames.Frame, wal.written: a record as bytes. -/
import Derived.Test.YtiglblfjmmdeeaaGreatSeal
import Derived.Lib.AppendStr
import Derived.Deep.DeepCutAuto
namespace Go.Proofs.YtiglblfjmmdeeaaGreat
open Go.RowKit

attribute [local go_sem] Oper.pureUpon Oper.relUpon

/-- A record in its frame. -/
def frm (l : List UInt8) : List UInt8 := leBytes 8 (sealed l).length ++ sealed l
theorem frm_len (l : List UInt8) : (frm l).length = l.length + 12 := by unfold frm; rw [List.length_append, leBytes_len, sealed_len]; omega
/-- A record of the log: its kind, its number, its text. -/
def pay (kind n : Nat) (s : List UInt8) : List UInt8 := [UInt8.ofNat kind] ++ leBytes 8 n ++ s
theorem pay_len (kind n : Nat) (s : List UInt8) : (pay kind n s).length = s.length + 9 := by unfold pay; simp [leBytes_len]; omega
def enc (kind n : Nat) (s : List UInt8) : List UInt8 := frm (pay kind n s)
theorem enc_len (kind n : Nat) (s : List UInt8) : (enc kind n s).length = s.length + 21 := by unfold enc; rw [frm_len, pay_len]

theorem Sep.nx {W w w' : World} {F F' : List Nat} {Fs : List (List Nat)} (h : Sep W w (F :: Fs)) (n : Next F F' w w') : Sep W w' (F' :: Fs) := (h.next n).1

set_option maxRecDepth 100000 in
theorem frame_calls (w : World) (B : Nat) (A : Option Addr) (n c : Nat) (l : List UInt8) (hr : Reads w B 1 A n (bys l)) (hB : B ≤ w.heap.size) (hn : n ≤ 900000) :
    Calls Tryz.prog 139 #[.slice A n c] w fun e w' => ∃ A' c', e = .returned (.slice A' (frm l).length c') ∧ w'.ownsRow w.heap.size 5 1 (.slice A' (frm l).length c') (frm l).length (bys (frm l)) ∧ Ext w w' := by
  obtain ⟨i0, hi0, hz0, hz1, hz2⟩ := info_parts byte_info
  have HL := Lib.hid hr.len
  have hsl : (sealed l).length = n + 4 := by rw [sealed_len]; have := HL.out; omega
  have hf : leBytes 8 (sealed l).length ++ sealed l = frm l := rfl
  have hsc := fun w' (he : Ext w w') => seal_calls w' B A n c l (hr.keep (w' := w') (fun p hp => he.cell (Nat.lt_of_lt_of_le hp hB))) (Nat.le_trans hB he.size) (by omega)
  generalize sealed l = sl at *
  generalize hfl : frm l = fl at *
  have hfn : fl.length = n + 12 := by rw [← hf, List.length_append, leBytes_len]; omega
  have HF := Lib.hid hf
  have HSC := Lib.hid hsc
  have HFN := Lib.hid hfn
  have HSL := Lib.hid hsl
  have hs9 : sl.length ≤ 900004 := by omega
  clear hf hsc hfl hr hfn hsl
  go_enter Tryz.func139, Tryz.ntmps139
  go_wp2_with fail
  refine (writer_new w).mono ?_
  rintro e w1 ⟨p, rfl, hp, h1, he1⟩
  have s1 : Sep w w1 [[p]] := (Sep.start w).new he1 (by have := h1.lt; simp at this ⊢; omega)
  clear hp
  go_wp2_with fail
  refine (HSC.out w1 he1).mono ?_
  rintro e w2 ⟨A2, c2, rfl, ho2, he2⟩
  have h2 := h1.ext he2
  have s2 : Sep w w2 [[p], (Value.slice A2 sl.length c2).ownBlock.toList] := (s1.new he2 (F := (Value.slice A2 sl.length c2).ownBlock.toList) (fun k hk => ho2.lt k (by simpa using hk))).swap
  clear h1 s1
  go_wp2_with fail
  refine (writer_long h2 sl.length (by omega) (by simp)).mono ?_
  rintro e w3 ⟨rfl, F3, h3, nx3⟩
  obtain ⟨s3, ks⟩ := s2.next nx3
  have ho3 := own_keep ho2 (ks _ (by simp))
  simp only [List.nil_append] at h3
  clear h2 s2 nx3 ks ho2
  go_wp2_with fail
  refine (writer_done h3 (by rw [leBytes_len]; omega)).mono ?_
  rintro e w4 ⟨A4, c4, rfl, ho4, he4⟩
  have ho34 : Reads w4 w3.heap.size 1 A2 sl.length (bys sl) := (Reads.of_own ho3).below he4
  clear ho3 h3
  go_wp2_with (at_builtin; refine wpList_app _ rfl (.tmp 13) (.tmp 14) _ rfl 5 i0 _ 1 1 Tryz.underlying34 hi0 hz0 hz1 hz2 rfl (by omega) (.slice A4 (leBytes 8 sl.length).length c4) (leBytes 8 sl.length).length (bys (leBytes 8 sl.length)) w3.heap.size rfl ho4 w3.heap.size A2 sl.length c2 (bys sl) rfl ho34 (bys_one _) (by rw [leBytes_len]; omega) he4.size ?_; intro A5 c5 w5 hown5 hg5 hat5)
  go_ret
  have he5 : Ext w3 w5 := he4.grown hg5 he4.size (fun k hk => (ho4.lt k hk).1)
  have e1 : (leBytes 8 sl.length).length + sl.length = fl.length := by rw [← HF.out, List.length_append]
  rw [← bys_append, HF.out, e1] at hown5
  rw [e1]
  exact ⟨_, _, rfl, own_more hown5 s3.below.size, Ext.trans s3.below he5⟩


end Go.Proofs.YtiglblfjmmdeeaaGreat
