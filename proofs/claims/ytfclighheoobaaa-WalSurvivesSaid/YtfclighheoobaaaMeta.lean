/- wal.Log.Meta, Sync. -/
import Derived.Test.YtfclighheoobaaaPut
import Derived.Deep.DeepCutAuto
namespace Go.Proofs.Ytfclighheoobaaa
open Go.RowKit

attribute [local go_sem] Oper.pureUpon Oper.relUpon

section
variable {W w w' : World} {Fs : List (List Nat)} {p dp : Nat} {l : List UInt8} {sf : Nat} {s : St}
theorem LogOn.ext (h : LogOn W w Fs p dp l sf s) (e : Ext w w') : LogOn W w' Fs p dp l sf s := by
  obtain ⟨Fd, Fl, hd, hl, hs⟩ := h
  exact ⟨Fd, Fl, hd.ext e, hl.ext e, hs.ext e⟩
theorem LogOn.keeps (h : LogOn W w Fs p dp l sf s) (e : Ext w w') : ∀ G ∈ Fs, Keep G w w' := by
  obtain ⟨Fd, Fl, hd, hl, hs⟩ := h
  exact fun G hG => hs.keep e G (by simp [hG])
theorem LogOn.below (h : LogOn W w Fs p dp l sf s) : Below W.heap.size W w := by obtain ⟨Fd, Fl, hd, hl, hs⟩ := h; exact hs.below
theorem LogOn.ok (h : LogOn W w Fs p dp l sf s) : s.ok := by obtain ⟨Fd, Fl, hd, hl, hs⟩ := h; exact hl.ok

set_option maxRecDepth 100000 in
theorem log_sync (h : LogOn W w Fs p dp l sf s) : Calls Try.prog 37 #[.pointer (some ⟨p, 0, none⟩)] w fun e w' => e = .returned (.tuple #[]) ∧ LogOn W w' Fs p dp l l.length s ∧ ∀ G ∈ Fs, Keep G w w' := by
  obtain ⟨Fd, Fl, hd, hl, hs⟩ := h
  have c0 : w.cell? ⟨p, 0, none⟩ = some (.pointer (some ⟨dp, 0, none⟩)) := by obtain ⟨v, hh, _⟩ := hl; have := hh.1.cell 0; simpa using this
  go_enter Try.func37, Try.ntmps37
  go_wp2_with fail
  refine (sd_sync hd).mono ?_
  rintro e w1 ⟨rfl, hd1, nx⟩
  obtain ⟨s1, ks⟩ := hs.next nx
  go_wp2_with fail
  go_end0
  exact ⟨rfl, ⟨Fd, Fl, hd1, hl.keep (ks Fl (by simp)), s1⟩, fun G hG => ks G (by simp [hG])⟩

set_option maxRecDepth 100000 in
set_option maxHeartbeats 2000000 in
theorem log_meta (h : LogOn W w Fs p dp l sf s) (x : List UInt8) (hx : x.length ≤ 65536) (hd : x.length + 21 + l.length ≤ 4194304) :
    Calls Try.prog 34 #[.pointer (some ⟨p, 0, none⟩), .string ⟨x.toArray⟩] w fun e w' => e = .returned (.int .i64 0) ∧ LogOn W w' Fs p dp (l ++ enc 2 0 x) sf { s with note := x } ∧ ∀ G ∈ Fs, Keep G w w' := by
  obtain ⟨Fd, Fl, hd1, hl1, s1⟩ := h
  have hsz : (⟨x.toArray⟩ : ByteArray).size = x.length := ba_size x
  have i4 : ¬ ((x.length : Int) > 65536) := by omega
  have C0 : ∀ w', Ext w w' → w'.cell? ⟨p, 0, none⟩ = some (.pointer (some ⟨dp, 0, none⟩)) := fun w' he => by obtain ⟨v, hh, _⟩ := hl1.ext he; have := hh.1.cell 0; simpa using this
  have W1 : ∀ w', Ext w w' → Calls Try.prog 53 #[.int .i64 2, .int .i64 0, .string ⟨x.toArray⟩] w' fun e w'' => ∃ v, e = .returned v ∧ OwnB w.heap.size (enc 2 0 x).length (enc 2 0 x) v w'' ∧ Ext w' w'' :=
    fun w' hw => written_rel w.heap.size w' hw.size 2 0 x (by omega) (by omega) (by omega)
  have hel := enc_len 2 0 x
  obtain ⟨b1, hb1⟩ : ∃ b1, enc 2 0 x = b1 := ⟨_, rfl⟩
  rw [hb1] at W1 hel
  have HB1 := Lib.hid hb1
  have HEL := Lib.hid hel
  have HW1 := Lib.hid W1
  have HD := Lib.hid hd
  clear hb1 hel W1 hd
  go_enter Try.func34, Try.ntmps34
  go_wp2_with fail
  refine wp_region_rely_tail 6 [none, none, none, none, none, some (OwnB w.heap.size b1.length b1)] (by kernel_rfl) (by kernel_rfl) ?_
  simp only [Wit, List.take_succ_cons, List.take_zero, List.drop_succ_cons, List.drop_zero]
  iterate 5 apply Exists.intro
  repeat (first | (refine rely_skip rfl ?_; simp only [Act.put, List.setIfInBounds_toArray, List.set_cons_zero, List.set_cons_succ]) | (apply rely_pure; (· rfl); (· intro w hw hd; go_simp; done); simp only [Act.put, List.setIfInBounds_toArray, List.set_cons_zero, List.set_cons_succ]) | (apply rely_pure; (· rfl); (· intro w hw hd; go_simp; exact rfl); simp only [Act.put, List.setIfInBounds_toArray, List.set_cons_zero, List.set_cons_succ]))
  refine rely_rel rfl (OwnB.stays _ _ _) (fun w hw hd => ?_) ?_
  · go_simp
    exact HW1.out w hw
  intro v1
  simp only [Act.put, List.setIfInBounds_toArray, List.set_cons_zero, List.set_cons_succ]
  refine rely_nil ?_
  intro w2 hw2
  obtain ⟨A2, c2, rfl, ho2⟩ : OwnB w.heap.size b1.length b1 v1 w2 := (hw2.2 5).1
  have he2 := hw2.1
  have hd2 := hd1.ext he2
  have hl2 := hl1.ext he2
  have s2 := s1.ext he2
  have HK2 : Hid (∀ G ∈ Fs, Keep G w w2) := Lib.hid (fun G hG => s1.keep he2 G (by simp [hG]))
  clear hw2 C0 HW1 hd1 hl1 s1 he2
  go_wp2_with fail
  refine (sd_append hd2 (Reads.of_own ho2) (by have := HEL.out; have := HD.out; omega)).mono ?_
  rintro e w3 ⟨rfl, F3, hd3, nx⟩
  obtain ⟨s3, ks⟩ := s2.next nx
  have hl3 := hl2.keep (ks Fl (by simp))
  have HK3 : Hid (∀ G ∈ Fs, Keep G w w3) := Lib.hid (fun G hG => (HK2.out G hG).trans (ks G (by simp [hG])))
  clear nx ks hd2 hl2 s2 ho2
  obtain ⟨vv, ⟨hb3, ho3, hok3⟩, hF⟩ := id hl3
  have c4 : w3.cell? ⟨p, 4, none⟩ = some (tx s.note) := by have := hb3.cell 4; simpa using this
  have f4 := hb3.frozen 4
  have HB3 := Lib.hid (And.intro hb3 (And.intro ho3 hok3))
  have HFF := Lib.hid hF
  clear hb3 ho3 hok3 hF hl3
  go_wp2_with fail
  go_ret
  obtain ⟨hb3, ho3, hok3⟩ := HB3.out
  have hm2 : Mod [p] w3 (w3.setCell ⟨p, 4, none⟩ (tx x)) := (Mod.refl _ _).setCell (by simp) _
  have hne3 := own_blk_ne ho3 hb3 (by decide)
  obtain ⟨r1, r2⟩ := IsLog.put (s' := { s with note := x }) ⟨hb3, ho3, hok3⟩ (hm2.sub (T := foot p vv) fun j hj _ => by simp at hj; subst hj; simp [foot]) (v' := vv) (by have := hb3.set_ 4 (tx x); simpa using this)
    (own_mod ho3 hm2 (fun j hj e => hne3 (by simp at e; subst e; exact hj))) ⟨hok3.1, hok3.2.1, hok3.2.2.1, hx, hok3.2.2.2.2⟩ (fun j hj => .inl hj)
  rw [← HFF.out] at r1 r2
  obtain ⟨s5, ks⟩ := s3.swap.next r2
  rw [HB1.out]
  exact ⟨rfl, ⟨F3, _, hd3.keep (ks F3 (by simp)), r1, s5.swap⟩, fun G hG => (HK3.out G hG).trans (ks G (by simp [hG]))⟩
end

end Go.Proofs.Ytfclighheoobaaa
