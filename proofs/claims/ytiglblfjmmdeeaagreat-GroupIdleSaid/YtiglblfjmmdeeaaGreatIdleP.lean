/- group: Do, in a group of which nothing was asked. -/
import Derived.Test.YtiglblfjmmdeeaaGreatMIdC
namespace Go.Proofs.YtiglblfjmmdeeaaGreat
open Go.RowKit Go.Maps Go.ChangeMaps

attribute [local go_sem] Oper.pureUpon Oper.relUpon

section
variable {w w' : World} {F : Key → List Nat} {S : Key → Ob} {gp wp tp g c n b b' : Nat} {D : Nat → Nd} {ts : List (Int × Int × List UInt8)} {Q : (Nat → Nd) → List (Int × Int × List UInt8) → Prop}
theorem Grp.mono (G : Grp w F S gp wp tp g c n b D ts) (hb : b ≤ b') : Grp w F S gp wp tp g c n b' D ts := ⟨G.m, G.i.mono hb, G.gr⟩
/-- An int that a word holds. -/
def isInt (k : Int) : Prop := -9223372036854775808 ≤ k ∧ k ≤ 9223372036854775807
abbrev Any (_ : Nat → Nd) (_ : List (Int × Int × List UInt8)) : Prop := True

theorem step_deliver (G : Grp w F S gp wp tp g c n b D ts) (hb9 : b ≤ 90) (node x : Int) (hx : isInt x) (s : List UInt8) : Calls Tryz.prog 14 #[.pointer (some ⟨wp, 0, none⟩), .int .i64 x] w fun e w' => (∃ v, e = .returned v) ∧ Grps F w gp wp tp g c n (b + 1) Any w' := by
  by_cases h0 : 0 < ts.length
  · refine (G.deliver h0 (by omega) x hx.1 hx.2).mono ?_
    rintro e w' ⟨rfl, F', S', ts', G', f', _⟩
    exact ⟨⟨_, rfl⟩, F', S', D, ts', G'.mono (Nat.le_succ _), f', trivial⟩
  · obtain rfl : ts = [] := List.eq_nil_of_length_eq_zero (by omega)
    refine (G.deliver_no x).mono ?_
    rintro e w' ⟨rfl, rfl⟩
    exact ⟨⟨_, rfl⟩, F, S, D, [], G.mono (Nat.le_succ _), Fr.refl _ _, trivial⟩
theorem step_drop (G : Grp w F S gp wp tp g c n b D ts) (hb9 : b ≤ 90) (node x : Int) (hx : isInt x) (s : List UInt8) : Calls Tryz.prog 15 #[.pointer (some ⟨wp, 0, none⟩), .int .i64 x] w fun e w' => (∃ v, e = .returned v) ∧ Grps F w gp wp tp g c n (b + 1) Any w' := by
  by_cases h0 : 0 < ts.length
  · refine (drop_some G.m G.i x h0 (by omega) hx.1 hx.2).mono ?_
    rintro e w' ⟨rfl, i, hi, F', hm, hf⟩
    have hl : (ts.eraseIdx i).length + 1 = ts.length := by rw [List.length_eraseIdx_of_lt hi]; omega
    exact ⟨⟨_, rfl⟩, F', _, D, _, G.net hm (by have := G.i.len; omega) (Nat.le_succ _) (fun t ht => G.i.good t (List.mem_of_mem_eraseIdx ht)), hf, trivial⟩
  · obtain rfl : ts = [] := List.eq_nil_of_length_eq_zero (by omega)
    refine (drop_none G.m G.i x).mono ?_
    rintro e w' ⟨rfl, rfl⟩
    exact ⟨⟨_, rfl⟩, F, S, D, [], G.mono (Nat.le_succ _), Fr.refl _ _, trivial⟩
theorem step_twice (G : Grp w F S gp wp tp g c n b D ts) (hb9 : b ≤ 90) (node x : Int) (hx : isInt x) (s : List UInt8) : Calls Tryz.prog 16 #[.pointer (some ⟨wp, 0, none⟩), .int .i64 x] w fun e w' => (∃ v, e = .returned v) ∧ Grps F w gp wp tp g c n (b + 1) Any w' := by
  by_cases h0 : 0 < ts.length
  · refine (twice_some G.m G.i x h0 (by omega) hx.1 hx.2).mono ?_
    rintro e w' ⟨rfl, t, ht, F', hm, hf⟩
    exact ⟨⟨_, rfl⟩, F', _, D, _, G.net hm (by have := G.i.len; rw [List.length_append]; simp only [List.length_cons, List.length_nil]; omega) (Nat.le_succ _) (fun u hu => by
      rcases List.mem_append.1 hu with hu | hu
      · exact G.i.good u hu
      · simp at hu; subst hu; exact ht), hf, trivial⟩
  · obtain rfl : ts = [] := List.eq_nil_of_length_eq_zero (by omega)
    refine (twice_none G.m G.i x).mono ?_
    rintro e w' ⟨rfl, rfl⟩
    exact ⟨⟨_, rfl⟩, F, S, D, [], G.mono (Nat.le_succ _), Fr.refl _ _, trivial⟩
theorem step_tick (G : Grp w F S gp wp tp g c n b D ts) (hb9 : b ≤ 90) (node x : Int) (hx : isInt x) (s : List UInt8) : Calls Tryz.prog 17 #[.pointer (some ⟨wp, 0, none⟩), .int .i64 node, .int .i64 x] w fun e w' => (∃ v, e = .returned v) ∧ Grps F w gp wp tp g c n (b + 1) Any w' := by
  refine (wtick_calls G.m G.i (by omega) node x).mono ?_
  rintro e w' ⟨rfl, h⟩
  exact ⟨⟨_, rfl⟩, G.of h⟩
theorem step_crash (G : Grp w F S gp wp tp g c n b D ts) (hb9 : b ≤ 90) (node x : Int) (hx : isInt x) (s : List UInt8) : Calls Tryz.prog 18 #[.pointer (some ⟨wp, 0, none⟩), .int .i64 node, .int .i64 x] w fun e w' => (∃ v, e = .returned v) ∧ Grps F w gp wp tp g c n (b + 1) Any w' := by
  refine (wcrash_calls G.m G.i node x).mono ?_
  rintro e w' ⟨rfl, h⟩
  exact ⟨⟨_, rfl⟩, G.of h⟩
/-- What Start does to the nodes. -/
def Ups (D : Nat → Nd) (n : Nat) (node : Int) (D' : Nat → Nd) (_ : List (Int × Int × List UInt8)) : Prop := (∀ j, (D j).N.up = true → (D' j).N.up = true) ∧ ∀ j : Nat, node = j → j < n → (D' j).N.up = true
theorem step_start (G : Grp w F S gp wp tp g c n b D ts) (hb9 : b ≤ 90) (node x : Int) (hx : isInt x) (s : List UInt8) : Calls Tryz.prog 19 #[.pointer (some ⟨wp, 0, none⟩), .int .i64 node] w fun e w' => (∃ v, e = .returned v) ∧ Grps F w gp wp tp g c n (b + 1) (Ups D n node) w' := by
  refine (wstart_calls G.m G.i (by omega) node).mono ?_
  rintro e w' ⟨⟨u, rfl⟩, h⟩
  exact ⟨⟨_, rfl⟩, G.of h⟩
theorem step_cut (G : Grp w F S gp wp tp g c n b D ts) (hb9 : b ≤ 90) (node x : Int) (hx : isInt x) (s : List UInt8) : Calls Tryz.prog 20 #[.pointer (some ⟨wp, 0, none⟩), .int .i64 node, .int .i64 x, .string ⟨s.toArray⟩] w fun e w' => (∃ v, e = .returned v) ∧ Grps F w gp wp tp g c n (b + 1) Any w' := by
  refine (wcut_calls G.m G.i node x s).mono ?_
  rintro e w' ⟨rfl, rfl⟩
  exact ⟨⟨_, rfl⟩, F, S, D, ts, G.mono (Nat.le_succ _), Fr.refl _ _, trivial⟩

def itemv (kind node x : Int) (s : List UInt8) : Value := .agg #[.int .i64 kind, .int .i64 node, .int .i64 x, .string ⟨s.toArray⟩]

set_option maxRecDepth 100000 in
set_option maxHeartbeats 1000000 in
theorem do_none (G : Grp w F S gp wp tp g c n b D ts) (hb9 : b ≤ 90) (kind node x : Int) (hx : isInt x) (s : List UInt8) (hk : kind ≤ 0 ∨ 10 ≤ kind) : Calls Tryz.prog 6 #[.pointer (some ⟨gp, 0, none⟩), itemv kind node x s] w fun e w' => e = .returned (.slice none 0 0) ∧ Grps F w gp wp tp g c n b (fun D' ts' => D' = D ∧ ts' = ts) w' := by
  unfold itemv
  have he0 : Ext w (w.alloc (.cells #[.int .i64 kind, .int .i64 node, .int .i64 x, .string ⟨s.toArray⟩] 29)) := (Below.refl _ _).alloc (Nat.le_refl _) _
  have hx0 := Blk.new w 29 #[.int .i64 kind, .int .i64 node, .int .i64 x, .string ⟨s.toArray⟩]
  have k1 : (kind == 1) = false := by rw [beq_eq_false_iff_ne]; omega
  have k2 : (kind == 2) = false := by rw [beq_eq_false_iff_ne]; omega
  have k3 : (kind == 3) = false := by rw [beq_eq_false_iff_ne]; omega
  have k4 : (kind == 4) = false := by rw [beq_eq_false_iff_ne]; omega
  have k5 : (kind == 5) = false := by rw [beq_eq_false_iff_ne]; omega
  have k6 : (kind == 6) = false := by rw [beq_eq_false_iff_ne]; omega
  have k7 : (kind == 7) = false := by rw [beq_eq_false_iff_ne]; omega
  have k8 : (kind == 8) = false := by rw [beq_eq_false_iff_ne]; omega
  have k9 : (kind == 9) = false := by rw [beq_eq_false_iff_ne]; omega
  clear hk
  have HT := Lib.hid (G.ext he0).told
  have HE0 := Lib.hid he0
  clear hx0 he0 G
  go_enter Tryz.func6, Tryz.ntmps6
  go_wp2_with fail
  refine HT.out.mono ?_
  rintro e w4 ⟨rfl, F4, S4, D4, ts4, G4, f4, rfl, rfl⟩
  have H4 := Lib.hid (And.intro G4 f4)
  clear G4 f4
  go_wp2_with fail
  go_ret
  exact ⟨rfl, F4, S4, _, _, H4.out.1, (Fr.ext F HE0.out).trans H4.out.2, rfl, rfl⟩

set_option maxRecDepth 100000 in
set_option maxHeartbeats 1000000 in
theorem do_1 (G : Grp w F S gp wp tp g c n b D ts) (hb9 : b ≤ 90) (node x : Int) (hx : isInt x) (s : List UInt8) (hs : s = []) : Calls Tryz.prog 6 #[.pointer (some ⟨gp, 0, none⟩), itemv 1 node x s] w fun e w' => e = .returned (.slice none 0 0) ∧ Grps F w gp wp tp g c n b (fun D' ts' => D' = D ∧ ts' = ts) w' := by
  unfold itemv
  have he0 : Ext w (w.alloc (.cells #[.int .i64 1, .int .i64 node, .int .i64 x, .string ⟨s.toArray⟩] 29)) := (Below.refl _ _).alloc (Nat.le_refl _) _
  have hx0 := Blk.new w 29 #[.int .i64 1, .int .i64 node, .int .i64 x, .string ⟨s.toArray⟩]
  subst hs
  have HT := Lib.hid (G.ext he0).told
  have HE0 := Lib.hid he0
  clear hx0 he0 G
  go_enter Tryz.func6, Tryz.ntmps6
  go_wp2_with fail
  refine HT.out.mono ?_
  rintro e w4 ⟨rfl, F4, S4, D4, ts4, G4, f4, rfl, rfl⟩
  have H4 := Lib.hid (And.intro G4 f4)
  clear G4 f4
  go_wp2_with fail
  go_ret
  exact ⟨rfl, F4, S4, _, _, H4.out.1, (Fr.ext F HE0.out).trans H4.out.2, rfl, rfl⟩

set_option maxRecDepth 100000 in
set_option maxHeartbeats 1000000 in
theorem do_1b (G : Grp w F S gp wp tp g c n b D ts) (hb9 : b ≤ 90) (node x : Int) (hx : isInt x) (s : List UInt8) (hs : 10000 < s.length) (hs9 : s.length ≤ 20000) : Calls Tryz.prog 6 #[.pointer (some ⟨gp, 0, none⟩), itemv 1 node x s] w fun e w' => e = .returned (.slice none 0 0) ∧ Grps F w gp wp tp g c n b (fun D' ts' => D' = D ∧ ts' = ts) w' := by
  unfold itemv
  have he0 : Ext w (w.alloc (.cells #[.int .i64 1, .int .i64 node, .int .i64 x, .string ⟨s.toArray⟩] 29)) := (Below.refl _ _).alloc (Nat.le_refl _) _
  have hx0 := Blk.new w 29 #[.int .i64 1, .int .i64 node, .int .i64 x, .string ⟨s.toArray⟩]
  have hl : ¬ (s.length : Int) ≤ 10000 := by omega
  have hne : ¬ s = [] := by rintro rfl; simp at hs
  have hne2 : ¬ (⟨s.toArray⟩ : ByteArray) = ⟨#[]⟩ := by intro e; apply hne; have := congrArg (fun b : ByteArray => b.data.toList) e; simpa using this
  have HT := Lib.hid (G.ext he0).told
  have HE0 := Lib.hid he0
  clear hx0 he0 G
  go_enter Tryz.func6, Tryz.ntmps6
  go_wp2_with fail
  refine HT.out.mono ?_
  rintro e w4 ⟨rfl, F4, S4, D4, ts4, G4, f4, rfl, rfl⟩
  have H4 := Lib.hid (And.intro G4 f4)
  clear G4 f4
  go_wp2_with fail
  go_ret
  exact ⟨rfl, F4, S4, _, _, H4.out.1, (Fr.ext F HE0.out).trans H4.out.2, rfl, rfl⟩

set_option maxRecDepth 100000 in
set_option maxHeartbeats 1000000 in
theorem do_2 (G : Grp w F S gp wp tp g c n b D ts) (hb9 : b ≤ 90) (node x : Int) (hx : isInt x) (s : List UInt8) (hs : s = []) : Calls Tryz.prog 6 #[.pointer (some ⟨gp, 0, none⟩), itemv 2 node x s] w fun e w' => e = .returned (.slice none 0 0) ∧ Grps F w gp wp tp g c n b (fun D' ts' => D' = D ∧ ts' = ts) w' := by
  unfold itemv
  have he0 : Ext w (w.alloc (.cells #[.int .i64 2, .int .i64 node, .int .i64 x, .string ⟨s.toArray⟩] 29)) := (Below.refl _ _).alloc (Nat.le_refl _) _
  have hx0 := Blk.new w 29 #[.int .i64 2, .int .i64 node, .int .i64 x, .string ⟨s.toArray⟩]
  subst hs
  have HT := Lib.hid (G.ext he0).told
  have HE0 := Lib.hid he0
  clear hx0 he0 G
  go_enter Tryz.func6, Tryz.ntmps6
  go_wp2_with fail
  refine HT.out.mono ?_
  rintro e w4 ⟨rfl, F4, S4, D4, ts4, G4, f4, rfl, rfl⟩
  have H4 := Lib.hid (And.intro G4 f4)
  clear G4 f4
  go_wp2_with fail
  go_ret
  exact ⟨rfl, F4, S4, _, _, H4.out.1, (Fr.ext F HE0.out).trans H4.out.2, rfl, rfl⟩

set_option maxRecDepth 100000 in
set_option maxHeartbeats 1000000 in
theorem do_3 (G : Grp w F S gp wp tp g c n b D ts) (hb9 : b ≤ 90) (node x : Int) (hx : isInt x) (s : List UInt8) : Calls Tryz.prog 6 #[.pointer (some ⟨gp, 0, none⟩), itemv 3 node x s] w fun e w' => e = .returned (.slice none 0 0) ∧ Grps F w gp wp tp g c n (b + 1) Any w' := by
  unfold itemv
  have he0 : Ext w (w.alloc (.cells #[.int .i64 3, .int .i64 node, .int .i64 x, .string ⟨s.toArray⟩] 29)) := (Below.refl _ _).alloc (Nat.le_refl _) _
  have hx0 := Blk.new w 29 #[.int .i64 3, .int .i64 node, .int .i64 x, .string ⟨s.toArray⟩]
  have C0 : ∀ w', Ext (w.alloc (.cells #[.int .i64 3, .int .i64 node, .int .i64 x, .string ⟨s.toArray⟩] 29)) w' → w'.cell? ⟨gp, 0, none⟩ = some (.pointer (some ⟨wp, 0, none⟩)) := fun w' he => (G.ext (he0.trans he)).cell0
  have D1 : ∀ w', Ext (w.alloc (.cells #[.int .i64 3, .int .i64 node, .int .i64 x, .string ⟨s.toArray⟩] 29)) w' → w'.cell? ⟨w.heap.size, 1, none⟩ = some (.int .i64 node) := fun w' he => by have := (blk_ext hx0 he).cell 1; simpa using this
  have D2 : ∀ w', Ext (w.alloc (.cells #[.int .i64 3, .int .i64 node, .int .i64 x, .string ⟨s.toArray⟩] 29)) w' → w'.cell? ⟨w.heap.size, 2, none⟩ = some (.int .i64 x) := fun w' he => by have := (blk_ext hx0 he).cell 2; simpa using this
  have D3 : ∀ w', Ext (w.alloc (.cells #[.int .i64 3, .int .i64 node, .int .i64 x, .string ⟨s.toArray⟩] 29)) w' → w'.cell? ⟨w.heap.size, 3, none⟩ = some (.string ⟨s.toArray⟩) := fun w' he => by have := (blk_ext hx0 he).cell 3; simpa using this
  have HST := Lib.hid (fun w' (he : Ext (w.alloc (.cells #[.int .i64 3, .int .i64 node, .int .i64 x, .string ⟨s.toArray⟩] 29)) w') => step_deliver (G.ext (he0.trans he)) hb9 node x hx s)
  have HE0 := Lib.hid he0
  clear hx0 he0 G
  go_enter Tryz.func6, Tryz.ntmps6
  go_wp2_with fail
  refine wp_region_rely_tail 6 [none, none, none, none, none, none] (by kernel_rfl) (by kernel_rfl) ?_
  simp only [Wit, List.take_succ_cons, List.take_zero, List.drop_succ_cons, List.drop_zero]
  iterate 6 apply Exists.intro
  iterate 6 (first | (refine rely_skip rfl ?_; simp only [Act.put, List.setIfInBounds_toArray, List.set_cons_zero, List.set_cons_succ]) | (apply rely_pure; (· rfl); (· intro w hw hd; go_simp; done); simp only [Act.put, List.setIfInBounds_toArray, List.set_cons_zero, List.set_cons_succ]) | (apply rely_pure; (· rfl); (· intro w hw hd; go_simp; exact rfl); simp only [Act.put, List.setIfInBounds_toArray, List.set_cons_zero, List.set_cons_succ]))
  refine rely_nil ?_
  intro w2 hw2
  have he2 := hw2.1
  have hst := HST.out w2 he2
  have HE2 := Lib.hid he2
  clear hw2 C0 D1 D2 D3 he2
  go_wp2_with fail
  refine hst.mono ?_
  rintro e w3 ⟨⟨v, rfl⟩, F3, S3, D3, ts3, G3, f3, hq⟩
  have HT := Lib.hid G3.told
  have H3 := Lib.hid (And.intro f3 hq)
  clear G3 f3 hq hst
  go_wp2_with fail
  refine HT.out.mono ?_
  rintro e w4 ⟨rfl, F4, S4, D4, ts4, G4, f4, rfl, rfl⟩
  have H4 := Lib.hid (And.intro G4 f4)
  clear G4 f4
  go_wp2_with fail
  go_ret
  exact ⟨rfl, F4, S4, _, _, H4.out.1, ((Fr.ext F (HE0.out.trans HE2.out)).trans H3.out.1).trans H4.out.2, H3.out.2⟩

set_option maxRecDepth 100000 in
set_option maxHeartbeats 1000000 in
theorem do_4 (G : Grp w F S gp wp tp g c n b D ts) (hb9 : b ≤ 90) (node x : Int) (hx : isInt x) (s : List UInt8) : Calls Tryz.prog 6 #[.pointer (some ⟨gp, 0, none⟩), itemv 4 node x s] w fun e w' => e = .returned (.slice none 0 0) ∧ Grps F w gp wp tp g c n (b + 1) Any w' := by
  unfold itemv
  have he0 : Ext w (w.alloc (.cells #[.int .i64 4, .int .i64 node, .int .i64 x, .string ⟨s.toArray⟩] 29)) := (Below.refl _ _).alloc (Nat.le_refl _) _
  have hx0 := Blk.new w 29 #[.int .i64 4, .int .i64 node, .int .i64 x, .string ⟨s.toArray⟩]
  have C0 : ∀ w', Ext (w.alloc (.cells #[.int .i64 4, .int .i64 node, .int .i64 x, .string ⟨s.toArray⟩] 29)) w' → w'.cell? ⟨gp, 0, none⟩ = some (.pointer (some ⟨wp, 0, none⟩)) := fun w' he => (G.ext (he0.trans he)).cell0
  have D1 : ∀ w', Ext (w.alloc (.cells #[.int .i64 4, .int .i64 node, .int .i64 x, .string ⟨s.toArray⟩] 29)) w' → w'.cell? ⟨w.heap.size, 1, none⟩ = some (.int .i64 node) := fun w' he => by have := (blk_ext hx0 he).cell 1; simpa using this
  have D2 : ∀ w', Ext (w.alloc (.cells #[.int .i64 4, .int .i64 node, .int .i64 x, .string ⟨s.toArray⟩] 29)) w' → w'.cell? ⟨w.heap.size, 2, none⟩ = some (.int .i64 x) := fun w' he => by have := (blk_ext hx0 he).cell 2; simpa using this
  have D3 : ∀ w', Ext (w.alloc (.cells #[.int .i64 4, .int .i64 node, .int .i64 x, .string ⟨s.toArray⟩] 29)) w' → w'.cell? ⟨w.heap.size, 3, none⟩ = some (.string ⟨s.toArray⟩) := fun w' he => by have := (blk_ext hx0 he).cell 3; simpa using this
  have HST := Lib.hid (fun w' (he : Ext (w.alloc (.cells #[.int .i64 4, .int .i64 node, .int .i64 x, .string ⟨s.toArray⟩] 29)) w') => step_drop (G.ext (he0.trans he)) hb9 node x hx s)
  have HE0 := Lib.hid he0
  clear hx0 he0 G
  go_enter Tryz.func6, Tryz.ntmps6
  go_wp2_with fail
  refine wp_region_rely_tail 6 [none, none, none, none, none, none] (by kernel_rfl) (by kernel_rfl) ?_
  simp only [Wit, List.take_succ_cons, List.take_zero, List.drop_succ_cons, List.drop_zero]
  iterate 6 apply Exists.intro
  iterate 6 (first | (refine rely_skip rfl ?_; simp only [Act.put, List.setIfInBounds_toArray, List.set_cons_zero, List.set_cons_succ]) | (apply rely_pure; (· rfl); (· intro w hw hd; go_simp; done); simp only [Act.put, List.setIfInBounds_toArray, List.set_cons_zero, List.set_cons_succ]) | (apply rely_pure; (· rfl); (· intro w hw hd; go_simp; exact rfl); simp only [Act.put, List.setIfInBounds_toArray, List.set_cons_zero, List.set_cons_succ]))
  refine rely_nil ?_
  intro w2 hw2
  have he2 := hw2.1
  have hst := HST.out w2 he2
  have HE2 := Lib.hid he2
  clear hw2 C0 D1 D2 D3 he2
  go_wp2_with fail
  refine hst.mono ?_
  rintro e w3 ⟨⟨v, rfl⟩, F3, S3, D3, ts3, G3, f3, hq⟩
  have HT := Lib.hid G3.told
  have H3 := Lib.hid (And.intro f3 hq)
  clear G3 f3 hq hst
  go_wp2_with fail
  refine HT.out.mono ?_
  rintro e w4 ⟨rfl, F4, S4, D4, ts4, G4, f4, rfl, rfl⟩
  have H4 := Lib.hid (And.intro G4 f4)
  clear G4 f4
  go_wp2_with fail
  go_ret
  exact ⟨rfl, F4, S4, _, _, H4.out.1, ((Fr.ext F (HE0.out.trans HE2.out)).trans H3.out.1).trans H4.out.2, H3.out.2⟩

set_option maxRecDepth 100000 in
set_option maxHeartbeats 1000000 in
theorem do_5 (G : Grp w F S gp wp tp g c n b D ts) (hb9 : b ≤ 90) (node x : Int) (hx : isInt x) (s : List UInt8) : Calls Tryz.prog 6 #[.pointer (some ⟨gp, 0, none⟩), itemv 5 node x s] w fun e w' => e = .returned (.slice none 0 0) ∧ Grps F w gp wp tp g c n (b + 1) Any w' := by
  unfold itemv
  have he0 : Ext w (w.alloc (.cells #[.int .i64 5, .int .i64 node, .int .i64 x, .string ⟨s.toArray⟩] 29)) := (Below.refl _ _).alloc (Nat.le_refl _) _
  have hx0 := Blk.new w 29 #[.int .i64 5, .int .i64 node, .int .i64 x, .string ⟨s.toArray⟩]
  have C0 : ∀ w', Ext (w.alloc (.cells #[.int .i64 5, .int .i64 node, .int .i64 x, .string ⟨s.toArray⟩] 29)) w' → w'.cell? ⟨gp, 0, none⟩ = some (.pointer (some ⟨wp, 0, none⟩)) := fun w' he => (G.ext (he0.trans he)).cell0
  have D1 : ∀ w', Ext (w.alloc (.cells #[.int .i64 5, .int .i64 node, .int .i64 x, .string ⟨s.toArray⟩] 29)) w' → w'.cell? ⟨w.heap.size, 1, none⟩ = some (.int .i64 node) := fun w' he => by have := (blk_ext hx0 he).cell 1; simpa using this
  have D2 : ∀ w', Ext (w.alloc (.cells #[.int .i64 5, .int .i64 node, .int .i64 x, .string ⟨s.toArray⟩] 29)) w' → w'.cell? ⟨w.heap.size, 2, none⟩ = some (.int .i64 x) := fun w' he => by have := (blk_ext hx0 he).cell 2; simpa using this
  have D3 : ∀ w', Ext (w.alloc (.cells #[.int .i64 5, .int .i64 node, .int .i64 x, .string ⟨s.toArray⟩] 29)) w' → w'.cell? ⟨w.heap.size, 3, none⟩ = some (.string ⟨s.toArray⟩) := fun w' he => by have := (blk_ext hx0 he).cell 3; simpa using this
  have HST := Lib.hid (fun w' (he : Ext (w.alloc (.cells #[.int .i64 5, .int .i64 node, .int .i64 x, .string ⟨s.toArray⟩] 29)) w') => step_twice (G.ext (he0.trans he)) hb9 node x hx s)
  have HE0 := Lib.hid he0
  clear hx0 he0 G
  go_enter Tryz.func6, Tryz.ntmps6
  go_wp2_with fail
  refine wp_region_rely_tail 6 [none, none, none, none, none, none] (by kernel_rfl) (by kernel_rfl) ?_
  simp only [Wit, List.take_succ_cons, List.take_zero, List.drop_succ_cons, List.drop_zero]
  iterate 6 apply Exists.intro
  iterate 6 (first | (refine rely_skip rfl ?_; simp only [Act.put, List.setIfInBounds_toArray, List.set_cons_zero, List.set_cons_succ]) | (apply rely_pure; (· rfl); (· intro w hw hd; go_simp; done); simp only [Act.put, List.setIfInBounds_toArray, List.set_cons_zero, List.set_cons_succ]) | (apply rely_pure; (· rfl); (· intro w hw hd; go_simp; exact rfl); simp only [Act.put, List.setIfInBounds_toArray, List.set_cons_zero, List.set_cons_succ]))
  refine rely_nil ?_
  intro w2 hw2
  have he2 := hw2.1
  have hst := HST.out w2 he2
  have HE2 := Lib.hid he2
  clear hw2 C0 D1 D2 D3 he2
  go_wp2_with fail
  refine hst.mono ?_
  rintro e w3 ⟨⟨v, rfl⟩, F3, S3, D3, ts3, G3, f3, hq⟩
  have HT := Lib.hid G3.told
  have H3 := Lib.hid (And.intro f3 hq)
  clear G3 f3 hq hst
  go_wp2_with fail
  refine HT.out.mono ?_
  rintro e w4 ⟨rfl, F4, S4, D4, ts4, G4, f4, rfl, rfl⟩
  have H4 := Lib.hid (And.intro G4 f4)
  clear G4 f4
  go_wp2_with fail
  go_ret
  exact ⟨rfl, F4, S4, _, _, H4.out.1, ((Fr.ext F (HE0.out.trans HE2.out)).trans H3.out.1).trans H4.out.2, H3.out.2⟩

set_option maxRecDepth 100000 in
set_option maxHeartbeats 1000000 in
theorem do_6 (G : Grp w F S gp wp tp g c n b D ts) (hb9 : b ≤ 90) (node x : Int) (hx : isInt x) (s : List UInt8) : Calls Tryz.prog 6 #[.pointer (some ⟨gp, 0, none⟩), itemv 6 node x s] w fun e w' => e = .returned (.slice none 0 0) ∧ Grps F w gp wp tp g c n (b + 1) Any w' := by
  unfold itemv
  have he0 : Ext w (w.alloc (.cells #[.int .i64 6, .int .i64 node, .int .i64 x, .string ⟨s.toArray⟩] 29)) := (Below.refl _ _).alloc (Nat.le_refl _) _
  have hx0 := Blk.new w 29 #[.int .i64 6, .int .i64 node, .int .i64 x, .string ⟨s.toArray⟩]
  have C0 : ∀ w', Ext (w.alloc (.cells #[.int .i64 6, .int .i64 node, .int .i64 x, .string ⟨s.toArray⟩] 29)) w' → w'.cell? ⟨gp, 0, none⟩ = some (.pointer (some ⟨wp, 0, none⟩)) := fun w' he => (G.ext (he0.trans he)).cell0
  have D1 : ∀ w', Ext (w.alloc (.cells #[.int .i64 6, .int .i64 node, .int .i64 x, .string ⟨s.toArray⟩] 29)) w' → w'.cell? ⟨w.heap.size, 1, none⟩ = some (.int .i64 node) := fun w' he => by have := (blk_ext hx0 he).cell 1; simpa using this
  have D2 : ∀ w', Ext (w.alloc (.cells #[.int .i64 6, .int .i64 node, .int .i64 x, .string ⟨s.toArray⟩] 29)) w' → w'.cell? ⟨w.heap.size, 2, none⟩ = some (.int .i64 x) := fun w' he => by have := (blk_ext hx0 he).cell 2; simpa using this
  have D3 : ∀ w', Ext (w.alloc (.cells #[.int .i64 6, .int .i64 node, .int .i64 x, .string ⟨s.toArray⟩] 29)) w' → w'.cell? ⟨w.heap.size, 3, none⟩ = some (.string ⟨s.toArray⟩) := fun w' he => by have := (blk_ext hx0 he).cell 3; simpa using this
  have HST := Lib.hid (fun w' (he : Ext (w.alloc (.cells #[.int .i64 6, .int .i64 node, .int .i64 x, .string ⟨s.toArray⟩] 29)) w') => step_tick (G.ext (he0.trans he)) hb9 node x hx s)
  have HE0 := Lib.hid he0
  clear hx0 he0 G
  go_enter Tryz.func6, Tryz.ntmps6
  go_wp2_with fail
  refine wp_region_rely_tail 8 [none, none, none, none, none, none, none, none] (by kernel_rfl) (by kernel_rfl) ?_
  simp only [Wit, List.take_succ_cons, List.take_zero, List.drop_succ_cons, List.drop_zero]
  iterate 8 apply Exists.intro
  iterate 8 (first | (refine rely_skip rfl ?_; simp only [Act.put, List.setIfInBounds_toArray, List.set_cons_zero, List.set_cons_succ]) | (apply rely_pure; (· rfl); (· intro w hw hd; go_simp; done); simp only [Act.put, List.setIfInBounds_toArray, List.set_cons_zero, List.set_cons_succ]) | (apply rely_pure; (· rfl); (· intro w hw hd; go_simp; exact rfl); simp only [Act.put, List.setIfInBounds_toArray, List.set_cons_zero, List.set_cons_succ]))
  refine rely_nil ?_
  intro w2 hw2
  have he2 := hw2.1
  have hst := HST.out w2 he2
  have HE2 := Lib.hid he2
  clear hw2 C0 D1 D2 D3 he2
  go_wp2_with fail
  refine hst.mono ?_
  rintro e w3 ⟨⟨v, rfl⟩, F3, S3, D3, ts3, G3, f3, hq⟩
  have HT := Lib.hid G3.told
  have H3 := Lib.hid (And.intro f3 hq)
  clear G3 f3 hq hst
  go_wp2_with fail
  refine HT.out.mono ?_
  rintro e w4 ⟨rfl, F4, S4, D4, ts4, G4, f4, rfl, rfl⟩
  have H4 := Lib.hid (And.intro G4 f4)
  clear G4 f4
  go_wp2_with fail
  go_ret
  exact ⟨rfl, F4, S4, _, _, H4.out.1, ((Fr.ext F (HE0.out.trans HE2.out)).trans H3.out.1).trans H4.out.2, H3.out.2⟩

set_option maxRecDepth 100000 in
set_option maxHeartbeats 1000000 in
theorem do_7 (G : Grp w F S gp wp tp g c n b D ts) (hb9 : b ≤ 90) (node x : Int) (hx : isInt x) (s : List UInt8) : Calls Tryz.prog 6 #[.pointer (some ⟨gp, 0, none⟩), itemv 7 node x s] w fun e w' => e = .returned (.slice none 0 0) ∧ Grps F w gp wp tp g c n (b + 1) Any w' := by
  unfold itemv
  have he0 : Ext w (w.alloc (.cells #[.int .i64 7, .int .i64 node, .int .i64 x, .string ⟨s.toArray⟩] 29)) := (Below.refl _ _).alloc (Nat.le_refl _) _
  have hx0 := Blk.new w 29 #[.int .i64 7, .int .i64 node, .int .i64 x, .string ⟨s.toArray⟩]
  have C0 : ∀ w', Ext (w.alloc (.cells #[.int .i64 7, .int .i64 node, .int .i64 x, .string ⟨s.toArray⟩] 29)) w' → w'.cell? ⟨gp, 0, none⟩ = some (.pointer (some ⟨wp, 0, none⟩)) := fun w' he => (G.ext (he0.trans he)).cell0
  have D1 : ∀ w', Ext (w.alloc (.cells #[.int .i64 7, .int .i64 node, .int .i64 x, .string ⟨s.toArray⟩] 29)) w' → w'.cell? ⟨w.heap.size, 1, none⟩ = some (.int .i64 node) := fun w' he => by have := (blk_ext hx0 he).cell 1; simpa using this
  have D2 : ∀ w', Ext (w.alloc (.cells #[.int .i64 7, .int .i64 node, .int .i64 x, .string ⟨s.toArray⟩] 29)) w' → w'.cell? ⟨w.heap.size, 2, none⟩ = some (.int .i64 x) := fun w' he => by have := (blk_ext hx0 he).cell 2; simpa using this
  have D3 : ∀ w', Ext (w.alloc (.cells #[.int .i64 7, .int .i64 node, .int .i64 x, .string ⟨s.toArray⟩] 29)) w' → w'.cell? ⟨w.heap.size, 3, none⟩ = some (.string ⟨s.toArray⟩) := fun w' he => by have := (blk_ext hx0 he).cell 3; simpa using this
  have HST := Lib.hid (fun w' (he : Ext (w.alloc (.cells #[.int .i64 7, .int .i64 node, .int .i64 x, .string ⟨s.toArray⟩] 29)) w') => step_crash (G.ext (he0.trans he)) hb9 node x hx s)
  have HE0 := Lib.hid he0
  clear hx0 he0 G
  go_enter Tryz.func6, Tryz.ntmps6
  go_wp2_with fail
  refine wp_region_rely_tail 8 [none, none, none, none, none, none, none, none] (by kernel_rfl) (by kernel_rfl) ?_
  simp only [Wit, List.take_succ_cons, List.take_zero, List.drop_succ_cons, List.drop_zero]
  iterate 8 apply Exists.intro
  iterate 8 (first | (refine rely_skip rfl ?_; simp only [Act.put, List.setIfInBounds_toArray, List.set_cons_zero, List.set_cons_succ]) | (apply rely_pure; (· rfl); (· intro w hw hd; go_simp; done); simp only [Act.put, List.setIfInBounds_toArray, List.set_cons_zero, List.set_cons_succ]) | (apply rely_pure; (· rfl); (· intro w hw hd; go_simp; exact rfl); simp only [Act.put, List.setIfInBounds_toArray, List.set_cons_zero, List.set_cons_succ]))
  refine rely_nil ?_
  intro w2 hw2
  have he2 := hw2.1
  have hst := HST.out w2 he2
  have HE2 := Lib.hid he2
  clear hw2 C0 D1 D2 D3 he2
  go_wp2_with fail
  refine hst.mono ?_
  rintro e w3 ⟨⟨v, rfl⟩, F3, S3, D3, ts3, G3, f3, hq⟩
  have HT := Lib.hid G3.told
  have H3 := Lib.hid (And.intro f3 hq)
  clear G3 f3 hq hst
  go_wp2_with fail
  refine HT.out.mono ?_
  rintro e w4 ⟨rfl, F4, S4, D4, ts4, G4, f4, rfl, rfl⟩
  have H4 := Lib.hid (And.intro G4 f4)
  clear G4 f4
  go_wp2_with fail
  go_ret
  exact ⟨rfl, F4, S4, _, _, H4.out.1, ((Fr.ext F (HE0.out.trans HE2.out)).trans H3.out.1).trans H4.out.2, H3.out.2⟩

set_option maxRecDepth 100000 in
set_option maxHeartbeats 1000000 in
theorem do_8 (G : Grp w F S gp wp tp g c n b D ts) (hb9 : b ≤ 90) (node x : Int) (hx : isInt x) (s : List UInt8) : Calls Tryz.prog 6 #[.pointer (some ⟨gp, 0, none⟩), itemv 8 node x s] w fun e w' => e = .returned (.slice none 0 0) ∧ Grps F w gp wp tp g c n (b + 1) (Ups D n node) w' := by
  unfold itemv
  have he0 : Ext w (w.alloc (.cells #[.int .i64 8, .int .i64 node, .int .i64 x, .string ⟨s.toArray⟩] 29)) := (Below.refl _ _).alloc (Nat.le_refl _) _
  have hx0 := Blk.new w 29 #[.int .i64 8, .int .i64 node, .int .i64 x, .string ⟨s.toArray⟩]
  have C0 : ∀ w', Ext (w.alloc (.cells #[.int .i64 8, .int .i64 node, .int .i64 x, .string ⟨s.toArray⟩] 29)) w' → w'.cell? ⟨gp, 0, none⟩ = some (.pointer (some ⟨wp, 0, none⟩)) := fun w' he => (G.ext (he0.trans he)).cell0
  have D1 : ∀ w', Ext (w.alloc (.cells #[.int .i64 8, .int .i64 node, .int .i64 x, .string ⟨s.toArray⟩] 29)) w' → w'.cell? ⟨w.heap.size, 1, none⟩ = some (.int .i64 node) := fun w' he => by have := (blk_ext hx0 he).cell 1; simpa using this
  have D2 : ∀ w', Ext (w.alloc (.cells #[.int .i64 8, .int .i64 node, .int .i64 x, .string ⟨s.toArray⟩] 29)) w' → w'.cell? ⟨w.heap.size, 2, none⟩ = some (.int .i64 x) := fun w' he => by have := (blk_ext hx0 he).cell 2; simpa using this
  have D3 : ∀ w', Ext (w.alloc (.cells #[.int .i64 8, .int .i64 node, .int .i64 x, .string ⟨s.toArray⟩] 29)) w' → w'.cell? ⟨w.heap.size, 3, none⟩ = some (.string ⟨s.toArray⟩) := fun w' he => by have := (blk_ext hx0 he).cell 3; simpa using this
  have HST := Lib.hid (fun w' (he : Ext (w.alloc (.cells #[.int .i64 8, .int .i64 node, .int .i64 x, .string ⟨s.toArray⟩] 29)) w') => step_start (G.ext (he0.trans he)) hb9 node x hx s)
  have HE0 := Lib.hid he0
  clear hx0 he0 G
  go_enter Tryz.func6, Tryz.ntmps6
  go_wp2_with fail
  refine wp_region_rely_tail 6 [none, none, none, none, none, none] (by kernel_rfl) (by kernel_rfl) ?_
  simp only [Wit, List.take_succ_cons, List.take_zero, List.drop_succ_cons, List.drop_zero]
  iterate 6 apply Exists.intro
  iterate 6 (first | (refine rely_skip rfl ?_; simp only [Act.put, List.setIfInBounds_toArray, List.set_cons_zero, List.set_cons_succ]) | (apply rely_pure; (· rfl); (· intro w hw hd; go_simp; done); simp only [Act.put, List.setIfInBounds_toArray, List.set_cons_zero, List.set_cons_succ]) | (apply rely_pure; (· rfl); (· intro w hw hd; go_simp; exact rfl); simp only [Act.put, List.setIfInBounds_toArray, List.set_cons_zero, List.set_cons_succ]))
  refine rely_nil ?_
  intro w2 hw2
  have he2 := hw2.1
  have hst := HST.out w2 he2
  have HE2 := Lib.hid he2
  clear hw2 C0 D1 D2 D3 he2
  go_wp2_with fail
  refine hst.mono ?_
  rintro e w3 ⟨⟨v, rfl⟩, F3, S3, D3, ts3, G3, f3, hq⟩
  have HT := Lib.hid G3.told
  have H3 := Lib.hid (And.intro f3 hq)
  clear G3 f3 hq hst
  go_wp2_with fail
  refine HT.out.mono ?_
  rintro e w4 ⟨rfl, F4, S4, D4, ts4, G4, f4, rfl, rfl⟩
  have H4 := Lib.hid (And.intro G4 f4)
  clear G4 f4
  go_wp2_with fail
  go_ret
  exact ⟨rfl, F4, S4, _, _, H4.out.1, ((Fr.ext F (HE0.out.trans HE2.out)).trans H3.out.1).trans H4.out.2, H3.out.2⟩

set_option maxRecDepth 100000 in
set_option maxHeartbeats 1000000 in
theorem do_9 (G : Grp w F S gp wp tp g c n b D ts) (hb9 : b ≤ 90) (node x : Int) (hx : isInt x) (s : List UInt8) (hs : s.length ≤ 10000) : Calls Tryz.prog 6 #[.pointer (some ⟨gp, 0, none⟩), itemv 9 node x s] w fun e w' => e = .returned (.slice none 0 0) ∧ Grps F w gp wp tp g c n (b + 1) Any w' := by
  unfold itemv
  have he0 : Ext w (w.alloc (.cells #[.int .i64 9, .int .i64 node, .int .i64 x, .string ⟨s.toArray⟩] 29)) := (Below.refl _ _).alloc (Nat.le_refl _) _
  have hx0 := Blk.new w 29 #[.int .i64 9, .int .i64 node, .int .i64 x, .string ⟨s.toArray⟩]
  have hl : (s.length : Int) ≤ 10000 := by omega
  have C0 : ∀ w', Ext (w.alloc (.cells #[.int .i64 9, .int .i64 node, .int .i64 x, .string ⟨s.toArray⟩] 29)) w' → w'.cell? ⟨gp, 0, none⟩ = some (.pointer (some ⟨wp, 0, none⟩)) := fun w' he => (G.ext (he0.trans he)).cell0
  have D1 : ∀ w', Ext (w.alloc (.cells #[.int .i64 9, .int .i64 node, .int .i64 x, .string ⟨s.toArray⟩] 29)) w' → w'.cell? ⟨w.heap.size, 1, none⟩ = some (.int .i64 node) := fun w' he => by have := (blk_ext hx0 he).cell 1; simpa using this
  have D2 : ∀ w', Ext (w.alloc (.cells #[.int .i64 9, .int .i64 node, .int .i64 x, .string ⟨s.toArray⟩] 29)) w' → w'.cell? ⟨w.heap.size, 2, none⟩ = some (.int .i64 x) := fun w' he => by have := (blk_ext hx0 he).cell 2; simpa using this
  have D3 : ∀ w', Ext (w.alloc (.cells #[.int .i64 9, .int .i64 node, .int .i64 x, .string ⟨s.toArray⟩] 29)) w' → w'.cell? ⟨w.heap.size, 3, none⟩ = some (.string ⟨s.toArray⟩) := fun w' he => by have := (blk_ext hx0 he).cell 3; simpa using this
  have HST := Lib.hid (fun w' (he : Ext (w.alloc (.cells #[.int .i64 9, .int .i64 node, .int .i64 x, .string ⟨s.toArray⟩] 29)) w') => step_cut (G.ext (he0.trans he)) hb9 node x hx s)
  have HE0 := Lib.hid he0
  clear hx0 he0 G
  go_enter Tryz.func6, Tryz.ntmps6
  go_wp2_with fail
  refine wp_region_rely_tail 10 [none, none, none, none, none, none, none, none, none, none] (by kernel_rfl) (by kernel_rfl) ?_
  simp only [Wit, List.take_succ_cons, List.take_zero, List.drop_succ_cons, List.drop_zero]
  iterate 10 apply Exists.intro
  iterate 10 (first | (refine rely_skip rfl ?_; simp only [Act.put, List.setIfInBounds_toArray, List.set_cons_zero, List.set_cons_succ]) | (apply rely_pure; (· rfl); (· intro w hw hd; go_simp; done); simp only [Act.put, List.setIfInBounds_toArray, List.set_cons_zero, List.set_cons_succ]) | (apply rely_pure; (· rfl); (· intro w hw hd; go_simp; exact rfl); simp only [Act.put, List.setIfInBounds_toArray, List.set_cons_zero, List.set_cons_succ]))
  refine rely_nil ?_
  intro w2 hw2
  have he2 := hw2.1
  have hst := HST.out w2 he2
  have HE2 := Lib.hid he2
  clear hw2 C0 D1 D2 D3 he2
  go_wp2_with fail
  refine hst.mono ?_
  rintro e w3 ⟨⟨v, rfl⟩, F3, S3, D3, ts3, G3, f3, hq⟩
  have HT := Lib.hid G3.told
  have H3 := Lib.hid (And.intro f3 hq)
  clear G3 f3 hq hst
  go_wp2_with fail
  refine HT.out.mono ?_
  rintro e w4 ⟨rfl, F4, S4, D4, ts4, G4, f4, rfl, rfl⟩
  have H4 := Lib.hid (And.intro G4 f4)
  clear G4 f4
  go_wp2_with fail
  go_ret
  exact ⟨rfl, F4, S4, _, _, H4.out.1, ((Fr.ext F (HE0.out.trans HE2.out)).trans H3.out.1).trans H4.out.2, H3.out.2⟩
end

end Go.Proofs.YtiglblfjmmdeeaaGreat
