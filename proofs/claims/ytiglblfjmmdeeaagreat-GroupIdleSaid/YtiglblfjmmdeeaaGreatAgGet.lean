/- agree: what is read out of messages and records: ballots, ids, texts. -/
import Derived.Test.YtiglblfjmmdeeaaGreatAgPut
namespace Go.Proofs.YtiglblfjmmdeeaaGreat
open Go.RowKit Go.Maps Go.ChangeMaps

attribute [local go_sem] Oper.pureUpon Oper.relUpon

section
variable {w : World} {F : List Nat} {p at_ : Nat} {l rest : List UInt8}
theorem Next.set_out {F F' : List Nat} {w w3 : World} (n : Next F F' w w3) {q : Addr} (u : Value) (hq : w.heap.size ≤ q.block) : Next F F' w (w3.setCell q u) :=
  ⟨n.1.setCell (fun h => by omega) u, fun k hk => ⟨(n.2 k hk).1, by simpa [World.setCell] using (n.2 k hk).2⟩⟩
theorem keep_set {w3 : World} {q : Addr} (u : Value) (hq : ∀ k ∈ F, k ≠ q.block) : Keep F w3 (w3.setCell q u) := fun k hk => Below.heap_setCell _ _ _ _ (hq k hk)
theorem drop_more {k : Nat} {xs : List UInt8} (hd : l.drop at_ = xs ++ rest) (hk : xs.length = k) : l.drop (at_ + k) = rest := by
  rw [← List.drop_drop, hd, ← hk, List.drop_left]
theorem drop_len {xs : List UInt8} (hd : l.drop at_ = xs ++ rest) (h0 : at_ ≤ l.length) : at_ + xs.length + rest.length = l.length := by
  have := congrArg List.length hd
  simp at this
  omega
theorem IsRd.at_le (h : IsRd w F p l at_) : at_ ≤ l.length ∧ l.length ≤ 10000000 := by
  obtain ⟨v, h, _⟩ := h
  exact ⟨h.2.2.1, h.2.2.2⟩
theorem read_long (h : IsRd w F p l at_) (n : Nat) (hd : l.drop at_ = leBytes 8 n ++ rest) (hn : n < 9223372036854775808) :
    Calls Tryz.prog 61 #[.pointer (some ⟨p, 0, none⟩)] w fun e w' => e = .returned (.int .i64 (n : Int)) ∧ IsRd w' F p l (at_ + 8) ∧ Next F F w w' := by
  have h8 : (leBytes 8 n).length = 8 := leBytes_len 8 n
  have := drop_len hd h.at_le.1
  refine reader_long h n (by omega) ?_ hn
  rw [hd, List.take_left' h8]
  exact leNum_leBytes 8 n (by omega)

theorem read_byte (h : IsRd w F p l at_) (b : UInt8) (hd : l.drop at_ = [b] ++ rest) :
    Calls Tryz.prog 54 #[.pointer (some ⟨p, 0, none⟩)] w fun e w' => e = .returned (.int .i64 (b.toNat : Int)) ∧ IsRd w' F p l (at_ + 1) ∧ Next F F w w' := by
  refine reader_byte h ?_
  have := congrArg (fun l => l[0]?) hd
  simpa using this

set_option maxRecDepth 100000 in
theorem reader_short (h : IsRd w F p l at_) (n : Nat) (hd : l.drop at_ = leBytes 2 n ++ rest) (hn : n < 65536) :
    Calls Tryz.prog 174 #[.pointer (some ⟨p, 0, none⟩)] w fun e w' => e = .returned (.int .i64 (n : Int)) ∧ IsRd w' F p l (at_ + 2) ∧ Next F F w w' := by
  have h2 : (leBytes 2 n).length = 2 := leBytes_len 2 n
  have hl := drop_len hd h.at_le.1
  have hg := reader_get h 2 (by omega) (by omega)
  rw [hd, List.take_left' h2, leNum_leBytes 2 n (by omega)] at hg
  go_enter Tryz.func174, Tryz.ntmps174
  go_wp2_with fail
  refine hg.mono ?_
  rintro e w1 ⟨rfl, h1, h3⟩
  go_wp2_with fail
  go_ret
  exact ⟨rfl, h1, h3⟩

set_option maxRecDepth 100000 in
theorem reader_text (h : IsRd w F p l at_) (s : List UInt8) (hd : l.drop at_ = leBytes 2 s.length ++ (s ++ rest)) (hn : s.length < 65536) :
    Calls Tryz.prog 134 #[.pointer (some ⟨p, 0, none⟩), .int .i64 65535] w fun e w' => e = .returned (tx s) ∧ IsRd w' F p l (at_ + 2 + s.length) ∧ Next F F w w' := by
  have h2 : (leBytes 2 s.length).length = 2 := leBytes_len 2 _
  have hd2 := drop_more hd h2
  have hs := reader_short h s.length hd hn
  have hl := drop_len hd h.at_le.1
  simp only [List.length_append] at hl
  have HT := Lib.hid (fun (w1 : World) (h1 : IsRd w1 F p l (at_ + 2)) => reader_take h1 s.length (by omega))
  have hx : ((l.drop (at_ + 2)).take s.length) = s := by rw [hd2, List.take_left]
  obtain ⟨v, ⟨hb, ho, hat, hmax⟩, hF⟩ := id h
  have c1 := hb.cell 1
  simp at c1
  have H := Lib.hid h
  have HX := Lib.hid hx
  clear hb ho h hx hd hd2 hl hF h2
  unfold tx
  go_enter Tryz.func134, Tryz.ntmps134
  go_wp2_with fail
  refine hs.mono ?_
  rintro e w1 ⟨rfl, h1, n1⟩
  obtain ⟨v1, ⟨hb1, _, _, _⟩, _⟩ := id h1
  have d2 := hb1.cell 2
  simp at d2
  have ht := HT.out w1 h1
  have N1 := Lib.hid n1
  clear n1 h1 hb1 hs c1
  have hmx : max (65535 : Int) 0 = 65535 := rfl
  go_wp2_with fail
  refine ht.mono ?_
  rintro e w2 ⟨A2, c2, rfl, h2, n2, hr⟩
  rw [HX.out] at hr
  have hst := run_str w2 34 9 5 Tryz.underlying34 Tryz.underlying5 Tryz.underlying9 hr c2
  clear hr
  go_wp2_with fail
  go_ret
  exact ⟨rfl, h2, N1.out.trans n2⟩

set_option maxRecDepth 100000 in
theorem getBallot_calls (h : IsRd w F p l at_) (r n : Nat) (hd : l.drop at_ = leBytes 8 r ++ (leBytes 8 n ++ rest)) (hr : r < 9223372036854775808) (hn : n < 9223372036854775808) :
    Calls Tryz.prog 55 #[.pointer (some ⟨p, 0, none⟩)] w fun e w' => e = .returned (bal r n) ∧ IsRd w' F p l (at_ + 16) ∧ Next F F w w' := by
  have hlt := h.lt
  have e1 : Ext w (w.alloc (.cells #[.int .i64 0, .int .i64 0] 108)) := (Below.refl _ _).alloc (Nat.le_refl _) _
  have hb := Blk.new w 108 #[.int .i64 0, .int .i64 0]
  have h1 := h.ext e1
  have n1 := Next.of_ext e1 hlt
  have H := Lib.hid (And.intro h1 n1)
  have HB := Lib.hid hb
  have HD := Lib.hid (And.intro hd (drop_more hd (leBytes_len 8 r)))
  clear h h1 n1 hb e1 hd
  unfold bal
  go_enter Tryz.func55, Tryz.ntmps55
  go_wp2_with fail
  refine (read_long H.out.1 r HD.out.1 hr).mono ?_
  rintro e w2 ⟨rfl, h2, n2⟩
  obtain ⟨b2, hF2⟩ := blk_next HB.out (fun k hk => by have := hlt k hk; omega) n2
  have H2 := Lib.hid (And.intro h2 n2)
  have B2 := Lib.hid b2
  clear h2 n2 b2
  go_wp2_with fail
  refine (read_long H2.out.1 n HD.out.2 hn).mono ?_
  rintro e w3 ⟨rfl, h3, n3⟩
  obtain ⟨b3, hF3⟩ := blk_next B2.out hF2 n3
  have c0 := b3.cell 0
  have c1 := b3.cell 1
  have f0 := b3.frozen 0
  have f1 := b3.frozen 1
  simp at c0 c1
  have H3 := Lib.hid (And.intro h3 n3)
  clear h3 n3 b3
  go_wp2_with fail
  refine bodyPost_ret (v := .agg #[.int .i64 r, .int .i64 n]) (by simp [results, Tryz.results55, go_sem, c0, c1]) rfl ⟨rfl, ?_⟩
  refine ⟨(H3.out.1.keep (keep_set _ hF3)).keep (keep_set _ hF3), ?_⟩
  exact ((H.out.2.trans (H2.out.2.trans H3.out.2)).set_out _ (Nat.le_refl _)).set_out _ (Nat.le_refl _)

set_option maxRecDepth 100000 in
theorem getId_calls (h : IsRd w F p l at_) (a b c : Nat) (hd : l.drop at_ = idb a b c ++ rest) (ha : a < 9223372036854775808) (hb : b < 9223372036854775808) (hc : c < 9223372036854775808) :
    Calls Tryz.prog 125 #[.pointer (some ⟨p, 0, none⟩)] w fun e w' => e = .returned (idv a b c) ∧ IsRd w' F p l (at_ + 24) ∧ Next F F w w' := by
  have hlt := h.lt
  unfold idb at hd
  rw [List.append_assoc, List.append_assoc] at hd
  have e1 : Ext w (w.alloc (.cells #[.int .i64 0, .int .i64 0, .int .i64 0] 104)) := (Below.refl _ _).alloc (Nat.le_refl _) _
  have hbk := Blk.new w 104 #[.int .i64 0, .int .i64 0, .int .i64 0]
  have h1 := h.ext e1
  have n1 := Next.of_ext e1 hlt
  have hd1 := drop_more hd (leBytes_len 8 a)
  have H := Lib.hid (And.intro h1 n1)
  have HB := Lib.hid hbk
  have HD := Lib.hid (And.intro hd (And.intro hd1 (drop_more hd1 (leBytes_len 8 b))))
  clear h h1 n1 hbk e1 hd hd1
  unfold idv
  go_enter Tryz.func125, Tryz.ntmps125
  go_wp2_with fail
  refine (read_long H.out.1 a HD.out.1 ha).mono ?_
  rintro e w2 ⟨rfl, h2, n2⟩
  obtain ⟨b2, hF2⟩ := blk_next HB.out (fun k hk => by have := hlt k hk; omega) n2
  have H2 := Lib.hid (And.intro h2 n2)
  have B2 := Lib.hid b2
  have hs2 := n2.1.size
  simp at hs2
  clear h2 n2 b2
  go_wp2_with fail
  have hlt2 := H2.out.1.lt
  have e2 : Ext w2 (w2.alloc (.cells #[.int .i64 (a : Int), .int .i64 0, .int .i64 0] 104)) := (Below.refl _ _).alloc (Nat.le_refl _) _
  have hx2 := Blk.new w2 104 #[.int .i64 (a : Int), .int .i64 0, .int .i64 0]
  have r2 := H2.out.1.ext e2
  have m2 := (H.out.2.trans H2.out.2).trans (Next.of_ext e2 hlt2)
  have bb2 := B2.out.alloc (.cells #[.int .i64 (a : Int), .int .i64 0, .int .i64 0] 104)
  have R2 := Lib.hid (And.intro r2 m2)
  have X2 := Lib.hid (And.intro hx2 bb2)
  clear e2 r2 m2 bb2 hx2
  refine (read_long R2.out.1 b HD.out.2.1 hb).mono ?_
  rintro e w3 ⟨rfl, h3, n3⟩
  obtain ⟨x3, hF3⟩ := blk_next X2.out.1 (fun k hk => by have := hlt2 k hk; omega) n3
  obtain ⟨b3, hG3⟩ := blk_next X2.out.2 hF2 n3
  have f1 := x3.frozen 1
  have c1 := x3.cell 1
  simp at c1
  have H3 := Lib.hid (And.intro h3 (R2.out.2.trans n3))
  have B3 := Lib.hid (And.intro x3 b3)
  have hs3 := n3.1.size
  simp at hs3
  clear h3 n3 x3 b3
  go_wp2_with fail
  have x4 := B3.out.1.set_ 1 (.int .i64 (b : Int))
  have hne : w.heap.size ≠ w2.heap.size := by omega
  have b4 := B3.out.2.far (p := ⟨w2.heap.size, 1, none⟩) hne (.int .i64 (b : Int))
  have r4 := H3.out.1.keep (keep_set (q := ⟨w2.heap.size, 1, none⟩) (.int .i64 (b : Int)) hF3)
  have m4 := H3.out.2.set_out (q := ⟨w2.heap.size, 1, none⟩) (.int .i64 (b : Int)) (by show w.heap.size ≤ w2.heap.size; omega)
  simp only [List.setIfInBounds_toArray, List.set_cons_succ, List.set_cons_zero] at x4
  obtain ⟨w4, hw4⟩ : ∃ w4, w3.setCell ⟨w2.heap.size, 1, none⟩ (.int .i64 (b : Int)) = w4 := ⟨_, rfl⟩
  rw [hw4] at x4 b4 r4 m4 ⊢
  have R4 := Lib.hid (And.intro r4 m4)
  have X4 := Lib.hid (And.intro x4 b4)
  clear hw4 x4 b4 r4 m4
  refine (read_long R4.out.1 c HD.out.2.2 hc).mono ?_
  rintro e w5 ⟨rfl, h5, n5⟩
  obtain ⟨x5, hF5⟩ := blk_next X4.out.1 hF3 n5
  obtain ⟨b5, hG5⟩ := blk_next X4.out.2 hG3 n5
  have f2 := x5.frozen 2
  have c0 := x5.cell 0
  have c1' := x5.cell 1
  have c2 := x5.cell 2
  simp at c0 c1' c2
  have g0 := b5.frozen 0
  have g1 := b5.frozen 1
  have g2 := b5.frozen 2
  have d0 := b5.cell 0
  have d1 := b5.cell 1
  have d2 := b5.cell 2
  simp at d0 d1 d2
  have H5 := Lib.hid (And.intro h5 (R4.out.2.trans n5))
  clear h5 n5 x5 b5
  go_wp2_with fail
  refine bodyPost_ret (v := .agg #[.int .i64 a, .int .i64 b, .int .i64 c]) (by simp [results, Tryz.results125, go_sem, c0, c1', d0, d1, d2, hne]) rfl ⟨rfl, ?_⟩
  have k2 : w.heap.size ≤ w2.heap.size := by omega
  refine ⟨(((H5.out.1.keep (keep_set _ hF5)).keep (keep_set _ hG5)).keep (keep_set _ hG5)).keep (keep_set _ hG5), ?_⟩
  exact (((H5.out.2.set_out _ k2).set_out _ (Nat.le_refl _)).set_out _ (Nat.le_refl _)).set_out _ (Nat.le_refl _)

set_option maxRecDepth 100000 in
theorem getText_calls (h : IsRd w F p l at_) (s : List UInt8) (hd : l.drop at_ = leBytes 8 s.length ++ (leBytes 2 s.length ++ (s ++ rest))) (h0 : 0 < s.length) (hs : s.length < 65536) :
    Calls Tryz.prog 81 #[.pointer (some ⟨p, 0, none⟩)] w fun e w' => e = .returned (tx s) ∧ IsRd w' F p l (at_ + 10 + s.length) ∧ Next F F w w' := by
  obtain ⟨i0, hi0, hz0, hz1, hz2⟩ := info_parts byte_info
  have hd2 := drop_more hd (leBytes_len 8 _)
  have hsz : (⟨s.toArray⟩ : ByteArray).size = s.length := ba_size s
  have hsc : Lib.strCells ⟨s.toArray⟩ = bys s := rfl
  have HT := Lib.hid (fun (w1 : World) (h1 : IsRd w1 F p l (at_ + 8)) => reader_text h1 s hd2 hs)
  have hl1 := read_long h s.length hd (by omega)
  have i1 : (0 : Int) < (s.length : Int) := by omega
  clear hd hd2
  unfold tx at *
  go_enter Tryz.func81, Tryz.ntmps81
  go_wp2_with fail
  refine hl1.mono ?_
  rintro e w1 ⟨rfl, h1, n1⟩
  have hrf := reader_refused h1
  have ht := HT.out w1 h1
  have H1 := Lib.hid (And.intro h1 n1)
  clear h1 n1 hl1
  go_wp2_with fail
  refine wp_loop_rounds 2 ?_
  rw [rounds_succ]
  go_wp2_with fail
  refine hrf.mono ?_
  rintro e w2 ⟨rfl, rfl⟩
  clear hrf
  go_wp2_with fail
  refine ht.mono ?_
  rintro e w2 ⟨rfl, h2, n2⟩
  have H2 := Lib.hid (And.intro h2 n2)
  clear h2 n2 ht
  go_wp2_with (at_builtin; refine wpList_append_str _ rfl (.tmp 16) (.tmp 18) _ _ rfl 0 5 i0 Tryz.underlying34 Tryz.underlying9 hi0 hz0 hz1 hz2 (.slice none 0 0) 0 [] rfl (World.ownsRow_nil _ _ _ _) ⟨s.toArray⟩ rfl (by rw [hsz]; simp only [maxLen]; omega) (by rw [hsz]; omega) (Nat.zero_le _) ?_; intro A5 c5 w5 hown5 hg5 hat5)
  have he5 : Ext w2 w5 := (Below.refl _ _).grown hg5 (Nat.le_refl _) (fun k hk => by simp [Value.ownBlock] at hk)
  rw [hsz, hsc] at hown5
  simp only [Nat.zero_add, List.nil_append] at hown5
  have h5 := H2.out.1.ext he5
  have n5 := H1.out.2.trans (H2.out.2.trans (Next.of_ext he5 H2.out.1.lt))
  have hst := run_str w5 34 9 5 Tryz.underlying34 Tryz.underlying5 Tryz.underlying9 (Reads.of_own hown5) c5
  have i2 : ¬ (s.length : Int) < (s.length : Int) := by omega
  have H5 := Lib.hid (And.intro h5 n5)
  clear h5 n5 hown5 i1 he5
  rw [rounds_succ]
  go_wp2_with fail
  go_ret
  refine ⟨rfl, ?_, H5.out.2⟩
  rw [show at_ + 10 + s.length = at_ + 8 + 2 + s.length by omega]
  exact H5.out.1
end

end Go.Proofs.YtiglblfjmmdeeaaGreat
