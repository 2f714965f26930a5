/- wal.Log.Base. -/
import Derived.Test.YtfclighheoobaaaMeta
import Derived.Deep.DeepCutAuto
import Derived.IntWalk
namespace Go.Proofs.Ytfclighheoobaaa
open Go.RowKit

attribute [local go_sem] Oper.pureUpon Oper.relUpon

/-- 'b[k:]' of texts. -/
theorem slice_fromT {A : Option Addr} {n c k : Nat} {xs : List Value} (hle : n ≤ c) (hk : k ≤ n) :
    ∃ A2, (∀ w, (Instr.slice 49 (.slice A n c) (some (.int .i64 (k : Int))) none none).run Try.prog w = .ok (.slice A2 (n - k) (c - k)) w) ∧ (∀ w B, Reads w B 1 A n xs → Reads w B 1 A2 (n - k) (xs.drop k)) := by
  refine ⟨if c = k then A else A.map (·.add k), fun w => ?_, fun w B h => ?_⟩
  · obtain ⟨i0, hi0, hz0, hz1, hz2⟩ := info_parts text_info
    have he : Try.prog.elem 49 = 9 := by kernel_rfl
    rw [run_slice_l w 49 A n c (by rw [he]; exact Try.underlying49) .i64 (k : Int) (by omega) (by omega), he]
    simp [sizeOf, typeInfo, hi0, hz1, sliced]
  · have hr := h.cut (k := k) hk hle
    simpa only [Nat.mul_one] using hr
theorem txs_drop (l : List (List UInt8)) (k : Nat) : (txs l).drop k = txs (l.drop k) := by simp [txs, List.map_drop]

/-- A log's state behind a Base. -/
def St.baseAt (s : St) (n : Nat) (x : List UInt8) : St := ⟨n, s.recs.drop (n - s.first), x, s.note⟩
theorem St.baseAt_ok {s : St} (h : s.ok) (n : Nat) (x : List UInt8) (hn : n ≤ 1073741824) (hx : x.length ≤ 65536) : (s.baseAt n x).ok := by
  obtain ⟨h1, h2, h3, h4, h5⟩ := h
  refine ⟨hn, ?_, hx, h4, fun y hy => h5 y (List.mem_of_mem_drop hy)⟩
  simp only [St.baseAt, List.length_drop]; omega

section
variable {W w w' : World} {Fs : List (List Nat)} {p dp : Nat} {l : List UInt8} {sf : Nat} {s : St}
theorem image_rel (b : Nat) (hb : b ≤ w.heap.size) {F : List Nat} (h : IsLog w F p dp s) (n : Nat) (snap : List UInt8) (hn : n ≤ 1073741824) (hsn : snap.length ≤ 65536) (rs : List (List UInt8)) (A : Option Addr) (c B : Nat) (hr : Reads w B 1 A rs.length (txs rs)) (hB : B ≤ w.heap.size)
    (hrs : ∀ x ∈ rs, x.length ≤ 65536) (hT : (encAll n snap s.note rs).length ≤ 100000000) :
    Calls Try.prog 56 #[.pointer (some ⟨p, 0, none⟩), .int .i64 n, .string ⟨snap.toArray⟩, .slice A rs.length c] w fun e w' => ∃ v, e = .returned v ∧ OwnB b (encAll n snap s.note rs).length (encAll n snap s.note rs) v w' ∧ Ext w w' := by
  refine (image_calls h n snap hn hsn rs A c B hr hB hrs hT).mono ?_
  rintro e w' ⟨A, c, rfl, ho, he⟩
  exact ⟨_, rfl, ⟨A, c, rfl, own_more ho hb⟩, he⟩

set_option maxRecDepth 100000 in
set_option maxHeartbeats 2000000 in
theorem log_base (h : LogOn W w Fs p dp l sf s) (n : Nat) (x : List UInt8) (hn1 : s.first ≤ n) (hn2 : n ≤ 1073741824) (hx : x.length ≤ 65536) (hT : (encAll n x s.note (s.recs.drop (n - s.first))).length ≤ 4194304) :
    Calls Try.prog 42 #[.pointer (some ⟨p, 0, none⟩), .int .i64 n, .string ⟨x.toArray⟩] w fun e w' => e = .returned (.int .i64 0) ∧
      LogOn W w' Fs p dp (encAll n x s.note (s.recs.drop (n - s.first))) (encAll n x s.note (s.recs.drop (n - s.first))).length (s.baseAt n x) ∧ ∀ G ∈ Fs, Keep G w w' := by
  obtain ⟨i0, hi0, hz0, hz1, hz2⟩ := info_parts text_info
  have HL := Lib.hid h
  obtain ⟨Fd, Fl, hd0, hl0, s0⟩ := h
  have hok := hl0.ok
  have hk1 := hok.1
  have hk2 := hok.2.1
  have hsz : (⟨x.toArray⟩ : ByteArray).size = x.length := ba_size x
  have i1 : ¬ ((n : Int) < (s.first : Int)) := by omega
  have i3 : decide ((1073741824 : Int) < (n : Int)) = false := decide_eq_false (by omega)
  have i4 : ¬ ((x.length : Int) > 65536) := by omega
  have HN2 := Lib.hid hn2
  have HTT := Lib.hid hT
  have HOK := Lib.hid hok
  have HS0 := Lib.hid s0
  have HD0 := Lib.hid hd0
  have c1 : w.cell? ⟨p, 1, none⟩ = some (.int .i64 (s.first : Int)) := by obtain ⟨v, hh, _⟩ := hl0; have := hh.1.cell 1; simpa using this
  have hnx := log_next hl0
  have C1 : ∀ w', Ext w w' → w'.cell? ⟨p, 1, none⟩ = some (.int .i64 (s.first : Int)) := fun w' he => by obtain ⟨v, hh, _⟩ := hl0.ext he; have := hh.1.cell 1; simpa using this
  obtain ⟨rs, hrs⟩ : ∃ rs, s.recs.drop (n - s.first) = rs := ⟨_, rfl⟩
  have hrl : rs.length ≤ 1000000 := by rw [← hrs, List.length_drop]; omega
  obtain ⟨vv, ⟨hb0, ho0, _⟩, hF⟩ := id hl0
  obtain ⟨A0, c0, rfl, hc0⟩ := own_slice ho0
  have C2 : ∀ w', Ext w w' → w'.cell? ⟨p, 2, none⟩ = some (.slice A0 s.recs.length c0) := fun w' he => by have := (hb0.below he hb0.lt).cell 2; simpa using this
  have R0 := Reads.of_own ho0
  have HRS := Lib.hid hrs
  have HR0 := Lib.hid R0
  have HC0 := Lib.hid hc0.1
  have HL0 := Lib.hid hl0
  have HNX : Hid (s.next = s.first + s.recs.length) := Lib.hid rfl
  clear hrs R0 hc0 hb0 ho0 hd0 hl0 s0 hok hT hn2 hF
  generalize s.next = snx at *
  go_enter Try.func42, Try.ntmps42
  go_upto_if 27 with (refine hnx.mono ?_; rintro e w1 ⟨rfl, he1⟩)
  go_cut [7] (fun s7 wx => ∃ A7 c7, s7 = .slice A7 rs.length c7 ∧ Hid (wx.ownsRow w.heap.size 9 1 (.slice A7 rs.length c7) rs.length (txs rs)) ∧ Hid (Ext w wx))
  case first =>
    by_cases hle : n ≤ snx
    · have i5 : (n : Int) ≤ (snx : Int) := by omega
      obtain ⟨k, hk⟩ : ∃ k, n - s.first = k := ⟨_, rfl⟩
      have hkl : k ≤ s.recs.length := by have := HNX.out; omega
      have hk0 : (0 : Int) ≤ (k : Int) := by omega
      have hkn : (k : Int) ≤ (s.recs.length : Int) := by omega
      have hki : (n : Int) - (s.first : Int) = (k : Int) := by omega
      have hwk : IntKind.i64.wrap (k : Int) = (k : Int) := IntWalk.i64_in _ (by omega)
      have hwn : IntKind.i64.wrap ((n : Int) - (s.first : Int)) = (k : Int) := by rw [hki]; exact hwk
      have hsf := slice_fromT (A := A0) (xs := txs s.recs) HC0.out hkl
      obtain ⟨A2, hsl0, hrd⟩ := hsf
      have hsl : ∀ w, (Instr.slice 49 (.slice A0 s.recs.length c0) (some (.int .i64 (k : Int))) none none).run Try.prog w = .ok (.slice A2 rs.length (c0 - k)) w := by
        intro w
        rw [hsl0 w, ← HRS.out, List.length_drop, hk]
      clear hsl0
      have hrsl : s.recs.length - k = rs.length := by rw [← HRS.out, List.length_drop, hk]
      rw [txs_drop, show s.recs.drop k = rs by rw [← HRS.out, hk], hrsl] at hrd
      have HRD := Lib.hid hrd
      have HRL := Lib.hid hrsl
      clear hle hrd
      go_wp2_with fail
      refine wp_region_rely_tail 12 [none, none, none, none, none, none, none, none, none, none, none, none] (by kernel_rfl) (by kernel_rfl) ?_
      simp only [Wit, List.take_succ_cons, List.take_zero, List.drop_succ_cons, List.drop_zero]
      iterate 12 apply Exists.intro
      have D1 : ∀ w', Ext w1 w' → w'.cell? ⟨p, 1, none⟩ = some (.int .i64 (s.first : Int)) := fun w' he => C1 w' (he1.trans he)
      have D2 : ∀ w', Ext w1 w' → w'.cell? ⟨p, 2, none⟩ = some (.slice A0 s.recs.length c0) := fun w' he => C2 w' (he1.trans he)
      repeat (first | (refine rely_skip rfl ?_; simp only [Act.put, List.setIfInBounds_toArray, List.set_cons_zero, List.set_cons_succ]) | (apply rely_pure; (· rfl); (· intro w hw hd; go_simp; done); simp only [Act.put, List.setIfInBounds_toArray, List.set_cons_zero, List.set_cons_succ]) | (apply rely_pure; (· rfl); (· intro w hw hd; go_simp; exact rfl); simp only [Act.put, List.setIfInBounds_toArray, List.set_cons_zero, List.set_cons_succ]))
      refine rely_nil ?_
      intro w2 hw2
      have he2 := he1.trans hw2.1
      have hrr := HRD.out w2 w.heap.size (HR0.out.below he2)
      clear hw2 C1 C2 D1 D2
      go_wp2_with (at_builtin; refine wpList_app _ rfl (.tmp 28) (.tmp 39) _ rfl 9 i0 _ 1 16 Try.underlying49 hi0 hz0 hz1 hz2 rfl (by omega) (.slice none 0 0) 0 [] w.heap.size rfl (World.ownsRow_nil _ _ _ _) w.heap.size A2 rs.length (c0 - k) (txs rs) rfl hrr (txs_one _) (by omega) he2.size ?_; intro A5 c5 w5 hown5 hg5 hat5; rw [Nat.zero_add] at hown5; rw [Nat.zero_add]; simp only [List.nil_append] at hown5)
      go_meet
      exact ⟨A5, c5, rfl, Lib.hid hown5, Lib.hid (he2.grown hg5 he2.size (fun k hk => by simp [Value.ownBlock] at hk))⟩
    · have i5 : ¬ (n : Int) ≤ (snx : Int) := by omega
      have hr0 : rs = [] := by rw [← HRS.out]; exact List.drop_eq_nil_of_le (by have := HNX.out; omega)
      have HE := Lib.hid hr0
      clear hr0 C1 C2 hle
      go_wp2_with fail
      go_meet
      have e1 := HE.out
      subst e1
      exact ⟨none, 0, rfl, Lib.hid (World.ownsRow_nil _ _ _ _), Lib.hid he1⟩
  case rest =>
  obtain ⟨A7, c7, rfl, o7, he7⟩ := hcut
  clear C1 C2 he1 hnx
  have hl7 := HL0.out.ext he7.out
  have C0 : ∀ w', Ext wc w' → w'.cell? ⟨p, 0, none⟩ = some (.pointer (some ⟨dp, 0, none⟩)) := fun w' he => by obtain ⟨v, hh, _⟩ := hl7.ext he; have := hh.1.cell 0; simpa using this
  have hrs' : ∀ y ∈ rs, y.length ≤ 65536 := fun y hy => HOK.out.2.2.2.2 y (List.mem_of_mem_drop (by rw [HRS.out]; exact hy))
  obtain ⟨ea, hea⟩ : ∃ ea, encAll n x s.note rs = ea := ⟨_, rfl⟩
  have heal : ea.length ≤ 4194304 := by have := HTT.out; rw [HRS.out, hea] at this; exact this
  have W1 : ∀ w', Ext wc w' → Calls Try.prog 56 #[.pointer (some ⟨p, 0, none⟩), .int .i64 n, .string ⟨x.toArray⟩, .slice A7 rs.length c7] w' fun e w'' => ∃ v, e = .returned v ∧ OwnB wc.heap.size ea.length ea v w'' ∧ Ext w' w'' := fun w' hw => by
    have h1 := image_rel wc.heap.size hw.size (hl7.ext hw) n x HN2.out hx rs A7 c7 wc.heap.size ((Reads.of_own o7.out).below hw) hw.size hrs' (by rw [hea]; omega)
    rwa [hea] at h1
  have s7 : Sep W wc ((Value.slice A7 rs.length c7).ownBlock.toList :: Fd :: Fl :: Fs) := HS0.out.new he7.out (fun k hk => o7.out.lt k (by simpa using hk))
  have HW1 := Lib.hid W1
  have HEA := Lib.hid hea
  have S7 := Lib.hid s7
  have HRS' := Lib.hid hrs'
  clear W1 hea s7 hrs' hl7
  go_wp2_with fail
  refine wp_region_rely_tail 9 [none, none, none, none, none, none, none, none, some (OwnB wc.heap.size ea.length ea)] (by kernel_rfl) (by kernel_rfl) ?_
  simp only [Wit, List.take_succ_cons, List.take_zero, List.drop_succ_cons, List.drop_zero]
  iterate 8 apply Exists.intro
  repeat (first | (refine rely_skip rfl ?_; simp only [Act.put, List.setIfInBounds_toArray, List.set_cons_zero, List.set_cons_succ]) | (apply rely_pure; (· rfl); (· intro w hw hd; go_simp; done); simp only [Act.put, List.setIfInBounds_toArray, List.set_cons_zero, List.set_cons_succ]) | (apply rely_pure; (· rfl); (· intro w hw hd; go_simp; exact rfl); simp only [Act.put, List.setIfInBounds_toArray, List.set_cons_zero, List.set_cons_succ]))
  refine rely_rel rfl (OwnB.stays _ _ _) (fun w hw hd => ?_) ?_
  · go_simp
    exact HW1.out w hw
  intro v1
  simp only [Act.put, List.setIfInBounds_toArray, List.set_cons_zero, List.set_cons_succ]
  refine rely_nil ?_
  intro w2 hw2
  obtain ⟨A2, c2, rfl, ho2⟩ : OwnB wc.heap.size ea.length ea v1 w2 := (hw2.2 8).1
  have he2 := hw2.1
  have hd2 := (HD0.out.ext he7.out).ext he2
  have hl2 := (HL0.out.ext he7.out).ext he2
  have s2 := S7.out.swap.ext he2
  have o2 := own_mod o7.out (Mod.of_below he2 []) (by simp)
  have HK2 : Hid (∀ G ∈ Fs, Keep G w w2) := Lib.hid (fun G hG => HS0.out.keep (he7.out.trans he2) G (by simp [hG]))
  clear hw2 C0 HW1 he2
  go_wp2_with fail
  refine (sd_swap hd2 (Reads.of_own ho2) (Nat.le_refl _) (own_none ho2) heal).mono ?_
  rintro e w3 ⟨rfl, F3, hd3, nx⟩
  obtain ⟨s3, ks⟩ := s2.next nx
  have hl3 := hl2.keep (ks Fl (by simp))
  have o3 := own_keep o2 (ks _ (by simp))
  have HK3 : Hid (∀ G ∈ Fs, Keep G w w3) := Lib.hid (fun G hG => (HK2.out G hG).trans (ks G (by simp [hG])))
  clear nx ks hd2 hl2 s2 ho2 o2
  obtain ⟨v3, ⟨hb3, ho3, hok3⟩, hF⟩ := id hl3
  have d1 : w3.cell? ⟨p, 1, none⟩ = some (.int .i64 (s.first : Int)) := by have := hb3.cell 1; simpa using this
  have d2 : w3.cell? ⟨p, 2, none⟩ = some v3 := by have := hb3.cell 2; simpa using this
  have d3 : w3.cell? ⟨p, 3, none⟩ = some (tx s.snap) := by have := hb3.cell 3; simpa using this
  have f1 := hb3.frozen 1
  have f2 := hb3.frozen 2
  have f3 := hb3.frozen 3
  have HB3 := Lib.hid hb3
  have HO3 := Lib.hid o3
  have HFF := Lib.hid hF
  have HS3 := Lib.hid s3
  clear hb3 ho3 hok3 hF hl3 o3 s3
  go_wp2_with fail
  go_ret
  have hm2 : Mod [p] w3 (((w3.setCell ⟨p, 1, none⟩ (.int .i64 (n : Int))).setCell ⟨p, 3, none⟩ (.string ⟨x.toArray⟩)).setCell ⟨p, 2, none⟩ (.slice A7 rs.length c7)) := (((Mod.refl _ _).setCell (by simp) _).setCell (by simp) _).setCell (by simp) _
  have hne := own_blk_ne HO3.out HB3.out (by decide)
  have hpl : p ∈ Fl := by rw [HFF.out]; simp [foot]
  have hb' : Blk (((w3.setCell ⟨p, 1, none⟩ (.int .i64 (n : Int))).setCell ⟨p, 3, none⟩ (.string ⟨x.toArray⟩)).setCell ⟨p, 2, none⟩ (.slice A7 rs.length c7)) p 83 #[.pointer (some ⟨dp, 0, none⟩), .int .i64 (n : Int), .slice A7 rs.length c7, tx x, tx s.note] := by
    have h9 := ((HB3.out.set_ 1 (.int .i64 (n : Int))).set_ 3 (tx x)).set_ 2 (.slice A7 rs.length c7)
    simp at h9
    exact h9
  have ho' := own_base (own_mod HO3.out hm2 (fun j hj e => hne (by simp at e; subst e; exact hj)))
  have hbn : s.baseAt n x = ⟨n, rs, x, s.note⟩ := by unfold St.baseAt; rw [HRS.out]
  have hok' : (s.baseAt n x).ok := St.baseAt_ok HOK.out n x HN2.out hx
  rw [HRS.out, HEA.out, hbn]
  rw [hbn] at hok'
  have hlog : IsLog (((w3.setCell ⟨p, 1, none⟩ (.int .i64 (n : Int))).setCell ⟨p, 3, none⟩ (.string ⟨x.toArray⟩)).setCell ⟨p, 2, none⟩ (.slice A7 rs.length c7)) (foot p (.slice A7 rs.length c7)) p dp ⟨n, rs, x, s.note⟩ := ⟨_, ⟨hb', ho', hok'⟩, rfl⟩
  have s4 := (HS3.out.perm ((List.Perm.swap _ _ _).trans ((List.Perm.swap _ _ _).cons _))).join
  obtain ⟨s5, ks⟩ := s4.next (F' := foot p (.slice A7 rs.length c7)) ⟨hm2.sub fun j hj _ => by simp at hj; subst hj; exact List.mem_append_right _ hpl, fun j hj => ⟨.inl (by
    simp only [foot, List.mem_cons] at hj
    rcases hj with rfl | hj
    · exact List.mem_append_right _ hpl
    · exact List.mem_append_left _ hj), hlog.lt j hj⟩⟩
  exact ⟨rfl, ⟨F3, _, hd3.keep (ks F3 (by simp)), hlog, s5.swap⟩, fun G hG => (HK3.out G hG).trans (ks G (by simp [hG]))⟩
end

end Go.Proofs.Ytfclighheoobaaa
