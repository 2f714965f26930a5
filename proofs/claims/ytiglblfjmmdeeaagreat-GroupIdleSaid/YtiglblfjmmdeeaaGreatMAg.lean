/- Texts merged: AgAll, AgPutR, AgIdle, AgTick. -/
import Derived.Test.YtiglblfjmmdeeaaGreatAgNode
import Derived.Test.YtiglblfjmmdeeaaGreatOpenOf

/- agree: all. -/
namespace Go.Proofs.YtiglblfjmmdeeaaGreat
open Go.RowKit Go.Maps Go.ChangeMaps

attribute [local go_sem] Oper.pureUpon Oper.relUpon

/-- A message to each node but one. -/
def sentTo (me n : Nat) (body : List UInt8) : List (Int × Int × List UInt8) := ((List.range n).filter fun t : Nat => decide (t ≠ me)).map fun t : Nat => ((me : Int), ((t : Int), body))
theorem sentTo_succ (me n : Nat) (body : List UInt8) : sentTo me (n + 1) body = sentTo me n body ++ (if n = me then [] else [((me : Int), (n : Int), body)]) := by
  unfold sentTo
  rw [List.range_succ, List.filter_append, List.map_append]
  by_cases h : n = me <;> simp [h]
theorem sentTo_len (me n : Nat) (body : List UInt8) : (sentTo me n body).length ≤ n := by
  unfold sentTo
  rw [List.length_map]
  exact Nat.le_trans (List.length_filter_le _ _) (by simp)

section
variable {w : World} {F : Key → List Nat} {S : Key → Ob} {np : Nat} {k : Key} {N : NS} {app : Value} {ts : List (Int × Int × List UInt8)}
set_option maxRecDepth 100000 in
set_option maxHeartbeats 1000000 in
theorem all_calls (h : M w F S) {A : Option Addr} {n c : Nat} (hw : S (10, 0) = .world N.wp (.slice A n c) app ts) (hn : S k = nodeOb np N) (hk10 : k ≠ (10, 0)) (h13 : S (13, 0) = .none) (ht : ts.length + n ≤ 4000) (kind fb : Nat) (caps : Array Value) (bs : List UInt8) (hk : kind < 256) (hb : bs.length ≤ 80000)
    (hwr : ∀ w2 F2 ts2, M w2 F2 (upd S (10, 0) (.world N.wp (.slice A n c) app ts2)) → Fr F F2 w w2 → Writes w2 fb caps [UInt8.ofNat kind] bs) :
    Calls Tryz.prog 69 #[.pointer (some ⟨np, 0, none⟩), .int .i64 kind, .func (.func fb) #[] caps] w fun e w' => e = .returned (.tuple #[]) ∧
      Go2 F w w' (upd S (10, 0) (.world N.wp (.slice A n c) app (ts ++ sentTo N.me n ([UInt8.ofNat kind] ++ bs)))) := by
  have HW := Lib.hid hwr
  clear hwr
  obtain ⟨l9, hl9⟩ : ∃ l9, [UInt8.ofNat kind] ++ bs = l9 := ⟨_, rfl⟩
  rw [hl9]
  have HL9 := Lib.hid hl9
  clear hl9
  have hblk := h.blk hn
  have c0 := hblk.cell 0
  simp [ncells] at c0
  have hsz := size_calls h hw
  clear hblk
  go_enter Tryz.func69, Tryz.ntmps69
  go_wp2_with fail
  refine hsz.mono ?_
  rintro e w1 ⟨rfl, rfl⟩
  go_wp2_with fail
  go_loopw [12] (fun v wr => ∃ j : Nat, v = .int .i64 j ∧ j ≤ n ∧ Hid (∃ F2, M wr F2 (upd S (10, 0) (.world N.wp (.slice A n c) app (ts ++ sentTo N.me j l9))) ∧ Fr F F2 w wr)) (fun v _ => n - (intOf v).toNat)
  case atStart => exact ⟨0, rfl, Nat.zero_le _, Lib.hid ⟨F, by rw [show ts ++ sentTo N.me 0 l9 = ts by simp [sentTo], upd_self S hw]; exact h, Fr.refl _ _⟩⟩
  case round =>
    obtain ⟨j, rfl, hj, HH⟩ := hrel
    obtain ⟨F2, hm2, hf2⟩ := HH.out
    have hn2 : (upd S (10, 0) (.world N.wp (.slice A n c) app (ts ++ sentTo N.me j l9))) k = nodeOb np N := by rw [upd_ne' _ hk10]; exact hn
    by_cases hjn : j < n
    · have d1 := (hm2.blk hn2).cell 1
      simp [ncells] at d1
      by_cases hme : j = N.me
      · have i1 : ((j : Int) != (N.me : Int)) = false := by simp [hme]
        have HME := Lib.hid hme
        clear hme hn2 hm2
        go_wp2_with fail
        go_roundw
        case rel =>
          refine ⟨j + 1, by go_num, by omega, Lib.hid ?_⟩
          rw [sentTo_succ, if_pos HME.out, List.append_nil]
          exact HH.out
        case measure => simp [intOf]; omega
      · have i1 : ((j : Int) != (N.me : Int)) = true := by simp; omega
        have hw2 := HW.out w F ts (by rw [upd_self S hw]; exact h) (Fr.refl _ _)
        have hlen := sentTo_len N.me j l9
        have hs := nsend_calls hm2 (upd_same _ _ _) hn2 (by rw [upd_ne' _ (by decide)]; exact h13) (by simp; omega) j kind fb caps bs hk hb (HW.out _ _ _ hm2 hf2)
        rw [HL9.out, upd_upd] at hs
        have HS := Lib.hid hs
        have HME := Lib.hid hme
        clear hs hw2 hme hn2 hm2
        go_wp2_with fail
        refine HS.out.mono ?_
        rintro e w3 ⟨rfl, g3⟩
        have G3 := Lib.hid g3
        clear g3
        go_wp2_with fail
        go_roundw
        case rel =>
          refine ⟨j + 1, by go_num, by omega, Lib.hid ?_⟩
          obtain ⟨F3, hm3, hf3⟩ := G3.out
          rw [sentTo_succ, if_neg HME.out, ← List.append_assoc]
          exact ⟨F3, hm3, hf2.trans hf3⟩
        case measure => simp [intOf]; omega
    · obtain rfl : j = n := by omega
      clear hn2 hm2
      go_wp2_with fail
      go_end0
      exact ⟨rfl, HH.out⟩
end

end Go.Proofs.YtiglblfjmmdeeaaGreat

/- agree: put. -/
namespace Go.Proofs.YtiglblfjmmdeeaaGreat
open Go.RowKit Go.Maps Go.ChangeMaps

attribute [local go_sem] Oper.pureUpon Oper.relUpon

theorem upd_swap {α : Type} (S : Key → α) {i j : Key} (h : i ≠ j) (a b : α) : upd (upd S i a) j b = upd (upd S j b) i a := by
  funext x
  unfold upd
  by_cases h0 : x = i
  · subst h0
    simp [h]
  · simp [h0]

/-- A record as bytes. -/
def rec_ (kind : Nat) (bs : List UInt8) : List UInt8 := frm ([UInt8.ofNat kind] ++ bs)
theorem rec_len (kind : Nat) (bs : List UInt8) : (rec_ kind bs).length = bs.length + 13 := by
  unfold rec_
  rw [frm_len]
  simp

section
variable {w : World} {F : Key → List Nat} {S : Key → Ob} {np k : Nat} {N : NS} {l : List UInt8} {s : Nat}
set_option maxRecDepth 100000 in
set_option maxHeartbeats 1000000 in
theorem put_calls (h : M w F S) (hn : S (0, k) = nodeOb np N) (hd : S (1, k) = .disk N.dp l s) (sync : Bool) (kind fb : Nat) (caps : Array Value) (bs : List UInt8) (hk : kind < 256) (hb : bs.length ≤ 80000)
    (hs1 : N.size + bs.length + 13 ≤ 2097152) (hs2 : l.length + bs.length + 13 ≤ 4194304) (hwr : Writes w fb caps [UInt8.ofNat kind] bs) :
    Calls Tryz.prog 120 #[.pointer (some ⟨np, 0, none⟩), .bool sync, .int .i64 kind, .func (.func fb) #[] caps] w fun e w' => e = .returned (.bool true) ∧
      Go2 F w w' (upd (upd S (1, k) (.disk N.dp (l ++ rec_ kind bs) (if sync then (l ++ rec_ kind bs).length else s))) (0, k) (nodeOb np { N with size := N.size + (rec_ kind bs).length })) := by
  have hfr := frame97 w kind fb caps bs hk hb hwr
  have hrl := rec_len kind bs
  change Calls _ _ _ _ (fun e w' => ∃ A c, e = .returned (.slice A (rec_ kind bs).length c) ∧ w'.ownsRow w.heap.size 5 1 (.slice A (rec_ kind bs).length c) (rec_ kind bs).length (bys (rec_ kind bs)) ∧ Ext w w') at hfr
  generalize rec_ kind bs = rc at *
  have i1 : ¬ ((N.size : Int) + (rc.length : Int) > 2097152) := by omega
  have hrc : rc.length + l.length ≤ 4194304 := by omega
  have hrc2 : N.size + rc.length ≤ 2097152 := by omega
  clear hwr hrl hs1 hs2
  go_enter Tryz.func120, Tryz.ntmps120
  go_wp2_with fail
  refine hfr.mono ?_
  rintro e w1 ⟨A, c, rfl, ho, he1⟩
  have hm1 := h.ext he1
  have hblk := hm1.blk hn
  have c2 := hblk.cell 2
  have c5 := hblk.cell 5
  simp [ncells] at c2 c5
  have hap := sd_append (c := c) (hm1.at hd) (Reads.of_own ho) hrc
  have H1 := Lib.hid (And.intro hm1 (Fr.ext F he1))
  clear hm1 hblk hfr ho he1
  go_wp2_with fail
  refine hap.mono ?_
  rintro e w2 ⟨rfl, F2, hd2, n2⟩
  have hs2 := H1.out.1.step (1, k) (o' := .disk N.dp (l ++ rc) s) n2 hd2
  have hn2 : (upd S (1, k) (.disk N.dp (l ++ rc) s)) (0, k) = nodeOb np N := by rw [upd_ne' _ (by simp)]; exact hn
  have hb2 := hs2.1.blk hn2
  have d2 := hb2.cell 2
  have d5 := hb2.cell 5
  have f5 := hb2.frozen 5
  simp [ncells] at d2 d5
  have hs3 := hs2.1.set hn2 5 (.int .i64 ((N.size : Int) + (rc.length : Int))) (by simp [ncells])
  have hb3 := hs3.1.blk (upd_same _ _ _)
  have e2 := hb3.cell 2
  simp [ncells] at e2
  have hcell : (ncells N).set 5 (.int .i64 ((N.size : Int) + (rc.length : Int))) = ncells { N with size := N.size + rc.length } := by simp [ncells]
  have H3 := Lib.hid (And.intro hs3.1 (H1.out.2.trans (hs2.2.trans hs3.2)))
  have HC := Lib.hid hcell
  have HN2 := Lib.hid hn2
  clear hs2 hs3 hb2 hb3 hd2 n2 hap hcell hn2
  cases sync
  · go_wp2_with fail
    go_ret
    refine ⟨rfl, _, ?_, H3.out.2⟩
    have := H3.out.1
    rw [HC.out] at this
    exact this
  · have h3 := H3.out.1
    rw [HC.out] at h3
    have hd3 : (upd (upd S (1, k) (.disk N.dp (l ++ rc) s)) (0, k) (.st np 81 (ncells { N with size := N.size + rc.length }))) (1, k) = .disk N.dp (l ++ rc) s := by rw [upd_ne' _ (by simp), upd_same]
    have hsy := sd_sync (h3.at hd3)
    have H4 := Lib.hid (And.intro h3 H3.out.2)
    have HSY := Lib.hid hsy
    clear h3 H3 hsy
    go_wp2_with fail
    refine HSY.out.mono ?_
    rintro e w4 ⟨rfl, hd4, n4⟩
    have H5 := Lib.hid (H4.out.1.step (1, k) (o' := .disk N.dp (l ++ rc) (l ++ rc).length) n4 hd4)
    clear hd4 n4
    go_wp2_with fail
    go_ret
    refine ⟨rfl, _, ?_, H4.out.2.trans H5.out.2⟩
    have := H5.out.1
    have hcomm : ∀ (a b c : Ob), upd (upd (upd S (1, k) a) (0, k) b) (1, k) c = upd (upd S (1, k) c) (0, k) b := fun a b c => by
      funext j
      unfold upd
      by_cases h0 : j = (0, k)
      · simp [h0]
      · by_cases h1 : j = (1, k) <;> simp [h0, h1]
    rw [hcomm, List.length_append] at this
    exact this
end

end Go.Proofs.YtiglblfjmmdeeaaGreat

/- agree: a node of which nothing was asked: known, lacks, compact, deliver. -/
namespace Go.Proofs.YtiglblfjmmdeeaaGreat
open Go.RowKit Go.Maps Go.ChangeMaps

attribute [local go_sem] Oper.pureUpon Oper.relUpon

section
variable {w : World} {F : Key → List Nat} {S : Key → Ob} {np k : Nat} {N : NS}
set_option maxRecDepth 100000 in
theorem known0 (h : M w F S) (hn : S (0, k) = nodeOb np N) (from_ : Int) (hf : (N.top : Int) ≤ max from_ 0) : Calls Tryz.prog 94 #[.pointer (some ⟨np, 0, none⟩), .int .i64 from_] w fun e w' => e = .returned (.slice none 0 0) ∧ w = w' := by
  have hb := h.blk hn
  have c13 := hb.cell 13
  have c10 := hb.cell 10
  simp [ncells] at c13 c10
  obtain ⟨mx, hmx⟩ : ∃ mx, max from_ 0 = mx := ⟨_, rfl⟩
  rw [hmx] at hf
  have hmax : ∀ w, (Builtin.max_ #[3, 3] 3 #[.int .i64 from_, .int .i64 0]).run Tryz.prog w = .ok (.int .i64 mx) w := by
    intro w
    have hite : (if (0 : Int) > from_ then (0 : Int) else from_) = mx := by rw [← hmx]; split <;> omega
    by_cases h0 : (0 : Int) > from_
    · rw [if_pos h0] at hite
      subst hite
      simp [Builtin.max_, Builtin.max2, h0]
    · rw [if_neg h0] at hite
      subst hite
      simp [Builtin.max_, Builtin.max2, h0]
  have i1 : ¬ mx < (N.top : Int) := by omega
  clear hb h hmx
  go_enter Tryz.func94, Tryz.ntmps94
  go_wp2_with fail
  refine wp_loop_rounds 1 ?_
  rw [rounds_succ]
  go_wp2_with fail
  go_ret
  exact ⟨rfl, rfl⟩

/-- What the function value of a record writes, the node behind a box. -/
theorem blk_ext {w w1 : World} {g : Nat} {t : TypeId} {cs : Array Value} (h : Blk w g t cs) (e : Ext w w1) : Blk w1 g t cs := h.below e h.lt

theorem writes_boot {g : Nat} (hb : Blk w np 81 (ncells N).toArray) (hx : Blk w g 68 #[.pointer (some ⟨np, 0, none⟩)]) (hl : N.life < 9223372036854775808) (l : List UInt8) (hl9 : l.length ≤ 100000) :
    Writes w 86 #[.pointer (some ⟨g, 0, none⟩)] l (leBytes 8 N.life) := by
  refine ⟨enters_of Tryz.func86 (by kernel_rfl) rfl, fun w1 F p he hw hF => ?_⟩
  have c0 := (blk_ext hx he).cell 0
  have c6 := (blk_ext hb he).cell 6
  simp [ncells] at c0 c6
  clear hb hx he hF
  simp only [List.push_toArray, List.append_toArray, List.cons_append, List.nil_append]
  go_enter Tryz.func86, Tryz.ntmps86
  go_wp2_with fail
  refine (writer_long hw N.life hl hl9).mono ?_
  rintro e w2 ⟨rfl, h2⟩
  go_wp2_with fail
  go_end0
  exact ⟨rfl, h2⟩

set_option maxRecDepth 100000 in
theorem writes_promise {g ap : Nat} {FA : List Nat} {pr pn : Nat} {vs : List (Int × Vt)} {top : Nat} (hb : Blk w np 81 (ncells N).toArray) (hx : Blk w g 68 #[.pointer (some ⟨np, 0, none⟩)]) (hp : N.acc = .pointer (some ⟨ap, 0, none⟩)) (ha : IsAcc w FA ap pr pn vs top)
    (hr : pr < 9223372036854775808) (hn : pn < 9223372036854775808) (l : List UInt8) (hl9 : l.length ≤ 90000) :
    Writes w 92 #[.pointer (some ⟨g, 0, none⟩)] l (leBytes 8 pr ++ leBytes 8 pn) := by
  refine ⟨enters_of Tryz.func92 (by kernel_rfl) rfl, fun w1 F p he hw hF => ?_⟩
  have c0 := (blk_ext hx he).cell 0
  have c7 := (blk_ext hb he).cell 7
  simp [ncells, hp] at c0 c7
  have hpr := acc_promised (ha.ext he)
  clear hb hx he hF hp ha
  simp only [List.push_toArray, List.append_toArray, List.cons_append, List.nil_append]
  go_enter Tryz.func92, Tryz.ntmps92
  go_wp2_with fail
  refine hpr.mono ?_
  rintro e w2 ⟨rfl, he2⟩
  go_wp2_with fail
  refine (putBallot_calls (hw.ext he2) pr pn hr hn hl9).mono ?_
  rintro e w3 ⟨rfl, F3, h3, n3⟩
  go_wp2_with fail
  go_end0
  exact ⟨rfl, F3, h3, (Next.of_ext he2 hw.lt).trans n3⟩

set_option maxRecDepth 100000 in
set_option maxHeartbeats 2000000 in
theorem compact0 {ap : Nat} {pr pn : Nat} {l : List UInt8} {s : Nat} (h : M w F S) (hn : S (0, k) = nodeOb np N) (hd : S (1, k) = .disk N.dp l s) (ha : S (2, k) = .acc ap pr pn [] 0) (hp : N.acc = .pointer (some ⟨ap, 0, none⟩)) (ht : N.top = 0)
    (hl : N.life < 9223372036854775808) (hr : pr < 9223372036854775808) (hpn : pn < 9223372036854775808) :
    Calls Tryz.prog 50 #[.pointer (some ⟨np, 0, none⟩)] w fun e w' => e = .returned (.tuple #[]) ∧
      Go2 F w w' (upd (upd S (1, k) (.disk N.dp (rec_ 0 (leBytes 8 N.life) ++ rec_ 1 (leBytes 8 pr ++ leBytes 8 pn)) 50)) (0, k) (nodeOb np { N with size := 50 })) := by
  obtain ⟨i0, hi0, hz0, hz1, hz2⟩ := info_parts byte_info
  have hmf : ∀ (fn : Fn) (first cap : Array Value) (w : World), (Instr.makeFunc fn first cap).run Tryz.prog w = .ok (.func fn first cap) w := fun _ _ _ _ => rfl
  have he0 : Ext w (w.alloc (.cells #[.pointer (some ⟨np, 0, none⟩)] 68)) := (Below.refl _ _).alloc (Nat.le_refl _) _
  have hx0 := Blk.new w 68 #[.pointer (some ⟨np, 0, none⟩)]
  have hm0 := h.ext he0
  have hf0 := Fr.ext F he0
  have hfr := frame97 _ 0 86 #[.pointer (some ⟨w.heap.size, 0, none⟩)] (leBytes 8 N.life) (by omega) (by simp [leBytes_len]) (writes_boot (hm0.blk hn) hx0 hl _ (by simp))
  have hrl0 : (rec_ 0 (leBytes 8 N.life)).length = 21 := by rw [rec_len, leBytes_len]
  have hrl1 : (rec_ 1 (leBytes 8 pr ++ leBytes 8 pn)).length = 29 := by rw [rec_len, List.length_append, leBytes_len, leBytes_len]
  change Calls _ _ _ _ (fun e w' => ∃ A c, e = .returned (.slice A (rec_ 0 (leBytes 8 N.life)).length c) ∧ w'.ownsRow (World.alloc w _).heap.size 5 1 (.slice A (rec_ 0 (leBytes 8 N.life)).length c) (rec_ 0 (leBytes 8 N.life)).length (bys (rec_ 0 (leBytes 8 N.life))) ∧ Ext _ w') at hfr
  obtain ⟨r1, hr1⟩ : ∃ r1, rec_ 0 (leBytes 8 N.life) = r1 := ⟨_, rfl⟩
  rw [hr1] at hfr hrl0 ⊢
  rw [hrl0] at hfr
  have H0 := Lib.hid (And.intro hm0 (And.intro hf0 hx0))
  have HE0 := Lib.hid he0
  have HR := Lib.hid (And.intro hrl0 (And.intro hrl1 hr1))
  have HFR := Lib.hid hfr
  clear hm0 hf0 hx0 he0 hrl0 hrl1 hfr hr1
  go_enter Tryz.func50, Tryz.ntmps50
  go_wp2_with fail
  refine HFR.out.mono ?_
  rintro e w1 ⟨A1, c1, rfl, ho1, he1⟩
  have m1 := H0.out.1.ext he1
  have x1 := blk_ext H0.out.2.2 he1
  have f1 := H0.out.2.1.trans (Fr.ext F he1)
  have b1 := m1.blk hn
  have d0 := x1.cell 0
  have c13 := b1.cell 13
  simp [ncells] at d0 c13
  have D0 : ∀ w', Ext w1 w' → w'.cell? ⟨w.heap.size, 0, none⟩ = some (.pointer (some ⟨np, 0, none⟩)) := fun w' he => by have := (blk_ext x1 he).cell 0; simpa using this
  have C13 : ∀ w', Ext w1 w' → w'.cell? ⟨np, 13, none⟩ = some (.int .i64 0) := fun w' he => by have := (blk_ext b1 he).cell 13; simpa [ncells] using this
  have C7 : ∀ w', Ext w1 w' → w'.cell? ⟨np, 7, none⟩ = some (.pointer (some ⟨ap, 0, none⟩)) := fun w' he => by have := (blk_ext b1 he).cell 7; simpa [ncells, hp] using this
  have hv : ∀ w', Ext w1 w' → Calls Tryz.prog 75 #[.pointer (some ⟨ap, 0, none⟩), .int .i64 0] w' fun e w'' => e = .returned (.slice none 0 0) ∧ Ext w' w'' := fun w' he => by
    refine (acc_votes_none ((m1.ext he).at ha) 0 (by simp)).mono ?_
    rintro e w'' ⟨rfl, rfl⟩
    exact ⟨rfl, Ext.refl _⟩
  have H1 := Lib.hid (And.intro m1 (And.intro f1 x1))
  have HE1 := Lib.hid he1
  have HV := Lib.hid hv
  have HO1 := Lib.hid ho1
  clear m1 x1 f1 b1 hv he1 ho1
  go_wp2_with fail
  refine wp_region_rely [none, none, none, none, none, none, none, none, none, none, none, none] (by kernel_rfl) (by kernel_rfl) ?_
  simp only [Wit]
  iterate 12 apply Exists.intro
  repeat (first | (refine rely_skip rfl ?_; simp only [Act.put, List.setIfInBounds_toArray, List.set_cons_zero, List.set_cons_succ]) | (apply rely_pure; (· rfl); (· intro w hw hd; go_simp; done); simp only [Act.put, List.setIfInBounds_toArray, List.set_cons_zero, List.set_cons_succ]) | (apply rely_pure; (· rfl); (· intro w hw hd; go_simp; exact rfl); simp only [Act.put, List.setIfInBounds_toArray, List.set_cons_zero, List.set_cons_succ]))
  apply rely_pure
  · rfl
  · intro w hw hd
    go_simp
    exact HV.out w hw
  simp only [Act.put, List.setIfInBounds_toArray, List.set_cons_zero, List.set_cons_succ]
  repeat (first | (refine rely_skip rfl ?_; simp only [Act.put, List.setIfInBounds_toArray, List.set_cons_zero, List.set_cons_succ]) | (apply rely_pure; (· rfl); (· intro w hw hd; go_simp; done); simp only [Act.put, List.setIfInBounds_toArray, List.set_cons_zero, List.set_cons_succ]) | (apply rely_pure; (· rfl); (· intro w hw hd; go_simp; exact rfl); simp only [Act.put, List.setIfInBounds_toArray, List.set_cons_zero, List.set_cons_succ]))
  refine rely_nil ?_
  intro w2 hw2
  have he2 := hw2.1
  clear hw2 D0 C13 C7 d0 c13
  have m2 := H1.out.1.ext he2
  have x2 := blk_ext H1.out.2.2 he2
  have b2 := m2.blk hn
  have hfr := frame97 w2 1 92 #[.pointer (some ⟨w.heap.size, 0, none⟩)] (leBytes 8 pr ++ leBytes 8 pn) (by omega) (by simp [leBytes_len]) (writes_promise b2 x2 hp (m2.at ha) hr hpn _ (by simp))
  change Calls _ _ _ _ (fun e w' => ∃ A c, e = .returned (.slice A (rec_ 1 (leBytes 8 pr ++ leBytes 8 pn)).length c) ∧ w'.ownsRow w2.heap.size 5 1 (.slice A (rec_ 1 (leBytes 8 pr ++ leBytes 8 pn)).length c) (rec_ 1 (leBytes 8 pr ++ leBytes 8 pn)).length (bys (rec_ 1 (leBytes 8 pr ++ leBytes 8 pn))) ∧ Ext _ w') at hfr
  rw [HR.out.2.1] at hfr
  have H2 := Lib.hid (And.intro m2 (And.intro (H1.out.2.1.trans (Fr.ext F he2)) x2))
  have HFR2 := Lib.hid hfr
  have HE2 := Lib.hid he2
  clear m2 x2 b2 hfr he2
  go_wp2_with fail
  refine wp_loop_rounds 1 ?_
  rw [rounds_succ]
  go_wp2_with fail
  refine HFR2.out.mono ?_
  rintro e w3 ⟨A3, c3, rfl, ho3, he3⟩
  have ho13 : w3.ownsRow w.heap.size 5 1 (.slice A1 21 c1) 21 (bys r1) := own_mod (own_more HO1.out (by simp)) (Mod.of_below (HE2.out.trans he3) []) (by simp)
  have x3 := blk_ext H2.out.2.2 he3
  have e3 : Ext w w3 := HE0.out.trans (HE1.out.trans (HE2.out.trans he3))
  have hsz3 : w.heap.size ≤ w3.heap.size := e3.size
  have hr3 : Reads w3 w3.heap.size 1 A3 29 (bys (rec_ 1 (leBytes 8 pr ++ leBytes 8 pn))) := Reads.of_own ho3
  have HR3 := Lib.hid hr3
  have HE3 := Lib.hid e3
  have hne3 := own_blk_ne ho13 x3 (by decide)
  clear he3 ho3 hr3 e3
  go_wp2_with (at_builtin; refine wpList_app _ rfl (.tmp 40) (.tmp 42) _ rfl 5 i0 _ 1 1 Tryz.underlying34 hi0 hz0 hz1 hz2 rfl (by omega) (.slice A1 21 c1) 21 (bys r1) w.heap.size rfl ho13 w3.heap.size A3 29 c3 (bys (rec_ 1 (leBytes 8 pr ++ leBytes 8 pn))) rfl HR3.out (bys_one _) (by omega) hsz3 ?_; intro A4 c4 w4 hown4 hg4 hat4)
  have e4 : Ext w w4 := HE3.out.grown hg4 hsz3 (fun k hk => (ho13.lt k hk).1)
  have x4 : Blk w4 w.heap.size 68 #[.pointer (some ⟨np, 0, none⟩)] := x3.grown hg4 (fun e => hne3 e.symm)
  rw [← bys_append] at hown4
  have m4 := h.ext e4
  have b4 := m4.blk hn
  have D0 : ∀ w', Ext w4 w' → w'.cell? ⟨w.heap.size, 0, none⟩ = some (.pointer (some ⟨np, 0, none⟩)) := fun w' he => by have := (blk_ext x4 he).cell 0; simpa using this
  have C13 : ∀ w', Ext w4 w' → w'.cell? ⟨np, 13, none⟩ = some (.int .i64 0) := fun w' he => by have := (blk_ext b4 he).cell 13; simpa [ncells] using this
  have hkn : ∀ w', Ext w4 w' → Calls Tryz.prog 94 #[.pointer (some ⟨np, 0, none⟩), .int .i64 0] w' fun e w'' => e = .returned (.slice none 0 0) ∧ Ext w' w'' := fun w' he => by
    refine (known0 (m4.ext he) hn 0 (by rw [ht]; simp)).mono ?_
    rintro e w'' ⟨rfl, rfl⟩
    exact ⟨rfl, Ext.refl _⟩
  have HK := Lib.hid hkn
  have H4 := Lib.hid (And.intro m4 (And.intro e4 (And.intro x4 hown4)))
  clear m4 b4 hkn e4 x4 hown4 x3 ho13 hat4 hg4 hne3
  refine wp_region_rely [none, none, none, none, none, none, none, none, none] (by kernel_rfl) (by kernel_rfl) ?_
  simp only [Wit]
  iterate 9 apply Exists.intro
  repeat (first | (refine rely_skip rfl ?_; simp only [Act.put, List.setIfInBounds_toArray, List.set_cons_zero, List.set_cons_succ]) | (apply rely_pure; (· rfl); (· intro w hw hd; go_simp; done); simp only [Act.put, List.setIfInBounds_toArray, List.set_cons_zero, List.set_cons_succ]) | (apply rely_pure; (· rfl); (· intro w hw hd; go_simp; exact rfl); simp only [Act.put, List.setIfInBounds_toArray, List.set_cons_zero, List.set_cons_succ]))
  apply rely_pure
  · rfl
  · intro w hw hd
    go_simp
    exact HK.out w hw
  simp only [Act.put, List.setIfInBounds_toArray, List.set_cons_zero, List.set_cons_succ]
  repeat (first | (refine rely_skip rfl ?_; simp only [Act.put, List.setIfInBounds_toArray, List.set_cons_zero, List.set_cons_succ]) | (apply rely_pure; (· rfl); (· intro w hw hd; go_simp; done); simp only [Act.put, List.setIfInBounds_toArray, List.set_cons_zero, List.set_cons_succ]) | (apply rely_pure; (· rfl); (· intro w hw hd; go_simp; exact rfl); simp only [Act.put, List.setIfInBounds_toArray, List.set_cons_zero, List.set_cons_succ]))
  refine rely_nil ?_
  intro w5 hw5
  have he5 := hw5.1
  clear hw5 D0 C13
  have e5 := H4.out.2.1.trans he5
  have m5 := h.ext e5
  have x5 := blk_ext H4.out.2.2.1 he5
  have b5 := m5.blk hn
  have d0 := x5.cell 0
  have c2 := b5.cell 2
  simp [ncells] at d0 c2
  have o5 : w5.ownsRow w.heap.size 5 1 (.slice A4 50 c4) 50 (bys (r1 ++ rec_ 1 (leBytes 8 pr ++ leBytes 8 pn))) := own_mod H4.out.2.2.2 (Mod.of_below he5 []) (by simp)
  have hlen : (r1 ++ rec_ 1 (leBytes 8 pr ++ leBytes 8 pn)).length = 50 := by rw [List.length_append, HR.out.1, HR.out.2.1]
  have hsw := sd_swap (c := c4) (m5.at hd) (Reads.of_own o5) (Nat.le_refl _) (own_none o5) (by omega)
  rw [hlen] at hsw
  have H5 := Lib.hid (And.intro m5 (And.intro e5 x5))
  have HSW := Lib.hid hsw
  clear m5 e5 x5 b5 o5 hlen hsw he5
  go_wp2_with fail
  refine wp_loop_rounds 1 ?_
  rw [rounds_succ]
  go_wp2_with fail
  refine HSW.out.mono ?_
  rintro e w6 ⟨rfl, F6, hd6, n6⟩
  have hs6 := H5.out.1.step (1, k) (o' := .disk N.dp (r1 ++ rec_ 1 (leBytes 8 pr ++ leBytes 8 pn)) 50) n6 hd6
  have x6 : Blk w6 w.heap.size 68 #[.pointer (some ⟨np, 0, none⟩)] := H5.out.2.2.keep (n6.1.block _ H5.out.2.2.lt (fun hk => by have := h.lt _ hk; omega))
  have hn6 : (upd S (1, k) (.disk N.dp (r1 ++ rec_ 1 (leBytes 8 pr ++ leBytes 8 pn)) 50)) (0, k) = nodeOb np N := by rw [upd_ne' _ (by simp)]; exact hn
  have b6 := hs6.1.blk hn6
  have f5 := b6.frozen 5
  have c5 := b6.cell 5
  have d0 := x6.cell 0
  simp [ncells] at c5 d0
  have hs7 := hs6.1.set hn6 5 (.int .i64 50) (by simp [ncells])
  have H7 := Lib.hid (And.intro hs7.1 ((Fr.ext F H5.out.2.1).trans (hs6.2.trans hs7.2)))
  clear hs6 x6 hn6 b6 hs7 n6 hd6
  go_wp2_with fail
  go_end0
  refine ⟨rfl, _, ?_, H7.out.2⟩
  have h7 := H7.out.1
  simpa [ncells, nodeOb] using h7

set_option maxRecDepth 100000 in
theorem deliver0 {lp : Nat} {kn : List (Int × List UInt8)} {tk : Nat} (h : M w F S) (hn : S (0, k) = nodeOb np N) (hl : S (4, k) = .log lp kn tk) (hp : N.log = .pointer (some ⟨lp, 0, none⟩)) (hx : IsNext kn tk tk) (htk : tk ≤ 1000) :
    Calls Tryz.prog 51 #[.pointer (some ⟨np, 0, none⟩)] w fun e w' => e = .returned (.tuple #[]) ∧ Go2 F w w' S := by
  have hb := h.blk hn
  have c9 := hb.cell 9
  simp [ncells, hp] at c9
  have htn := cl_taken (h.at hl)
  have htake := cl_take (h.at hl) hx (by omega)
  rw [Nat.sub_self] at htake
  have H := Lib.hid h
  clear hb h
  go_enter Tryz.func51, Tryz.ntmps51
  go_wp2_with fail
  refine htn.mono ?_
  rintro e w1 ⟨rfl, rfl⟩
  go_wp2_with fail
  refine htake.mono ?_
  rintro e w1 ⟨A, c, rfl, _, h2, m2⟩
  have hs := H.out.step (4, k) (o' := .log lp kn tk) ⟨m2, fun j hj => ⟨.inl hj, Nat.lt_of_lt_of_le (H.out.lt j hj) m2.size⟩⟩ h2
  rw [upd_self S hl] at hs
  have HS := Lib.hid hs
  clear hs h2 m2
  go_wp2_with fail
  refine wp_loop_rounds 1 ?_
  rw [rounds_succ]
  go_wp2_with fail
  go_end0
  exact ⟨rfl, _, HS.out.1, HS.out.2⟩

set_option maxRecDepth 100000 in
theorem lacks0 {ap lp : Nat} {pr pn : Int} {vs : List (Int × Vt)} {top : Nat} {kn : List (Int × List UInt8)} {tk nx : Nat} (h : M w F S) (hn : S (0, k) = nodeOb np N) (ha : S (2, k) = .acc ap pr pn vs top) (hpa : N.acc = .pointer (some ⟨ap, 0, none⟩))
    (hl : S (4, k) = .log lp kn tk) (hp : N.log = .pointer (some ⟨lp, 0, none⟩)) (hx : IsNext kn tk nx) (hnx : nx ≤ 1000) (ht : top ≤ nx) (ht2 : N.top ≤ nx) :
    Calls Tryz.prog 40 #[.pointer (some ⟨np, 0, none⟩)] w fun e w' => e = .returned (.bool false) ∧ Ext w w' := by
  have hb := h.blk hn
  have C7 : ∀ w', Ext w w' → w'.cell? ⟨np, 7, none⟩ = some (.pointer (some ⟨ap, 0, none⟩)) := fun w' he => by have := (blk_ext hb he).cell 7; simpa [ncells, hpa] using this
  have C9 : ∀ w', Ext w w' → w'.cell? ⟨np, 9, none⟩ = some (.pointer (some ⟨lp, 0, none⟩)) := fun w' he => by have := (blk_ext hb he).cell 9; simpa [ncells, hp] using this
  have C10 : ∀ w', Ext w w' → w'.cell? ⟨np, 10, none⟩ = some (.int .i64 N.top) := fun w' he => by have := (blk_ext hb he).cell 10; simpa [ncells] using this
  have hnext : ∀ w', Ext w w' → Calls Tryz.prog 39 #[.pointer (some ⟨lp, 0, none⟩)] w' fun e w'' => e = .returned (.int .i64 (nx : Int)) ∧ Ext w' w'' := fun w' he => by
    refine (cl_next ((h.ext he).at hl) hx (by omega)).mono ?_
    rintro e w'' ⟨rfl, rfl⟩
    exact ⟨rfl, Ext.refl _⟩
  have hv : ∀ w', Ext w w' → Calls Tryz.prog 75 #[.pointer (some ⟨ap, 0, none⟩), .int .i64 (nx : Int)] w' fun e w'' => e = .returned (.slice none 0 0) ∧ Ext w' w'' := fun w' he => by
    refine (acc_votes_none ((h.ext he).at ha) (nx : Int) (by omega)).mono ?_
    rintro e w'' ⟨rfl, rfl⟩
    exact ⟨rfl, Ext.refl _⟩
  have HN := Lib.hid hnext
  have HV := Lib.hid hv
  have i1 : ¬ (N.top : Int) > (nx : Int) := by omega
  clear hb h hnext hv
  go_enter Tryz.func40, Tryz.ntmps40
  go_wp2_with fail
  refine wp_region_rely [none, none, none, none, none, none, none, none, none, none, none, none] (by kernel_rfl) (by kernel_rfl) ?_
  simp only [Wit]
  iterate 12 apply Exists.intro
  repeat (first | (refine rely_skip rfl ?_; simp only [Act.put, List.setIfInBounds_toArray, List.set_cons_zero, List.set_cons_succ]) | (apply rely_pure; (· rfl); (· intro w hw hd; go_simp; done); simp only [Act.put, List.setIfInBounds_toArray, List.set_cons_zero, List.set_cons_succ]) | (apply rely_pure; (· rfl); (· intro w hw hd; go_simp; exact rfl); simp only [Act.put, List.setIfInBounds_toArray, List.set_cons_zero, List.set_cons_succ]))
  apply rely_pure
  · rfl
  · intro w hw hd
    go_simp
    exact HN.out w hw
  simp only [Act.put, List.setIfInBounds_toArray, List.set_cons_zero, List.set_cons_succ]
  repeat (first | (refine rely_skip rfl ?_; simp only [Act.put, List.setIfInBounds_toArray, List.set_cons_zero, List.set_cons_succ]) | (apply rely_pure; (· rfl); (· intro w hw hd; go_simp; done); simp only [Act.put, List.setIfInBounds_toArray, List.set_cons_zero, List.set_cons_succ]) | (apply rely_pure; (· rfl); (· intro w hw hd; go_simp; exact rfl); simp only [Act.put, List.setIfInBounds_toArray, List.set_cons_zero, List.set_cons_succ]))
  apply rely_pure
  · rfl
  · intro w hw hd
    go_simp
    exact HV.out w hw
  simp only [Act.put, List.setIfInBounds_toArray, List.set_cons_zero, List.set_cons_succ]
  repeat (first | (refine rely_skip rfl ?_; simp only [Act.put, List.setIfInBounds_toArray, List.set_cons_zero, List.set_cons_succ]) | (apply rely_pure; (· rfl); (· intro w hw hd; go_simp; done); simp only [Act.put, List.setIfInBounds_toArray, List.set_cons_zero, List.set_cons_succ]) | (apply rely_pure; (· rfl); (· intro w hw hd; go_simp; exact rfl); simp only [Act.put, List.setIfInBounds_toArray, List.set_cons_zero, List.set_cons_succ]))
  refine rely_nil ?_
  intro w2 hw2
  have he2 := hw2.1
  have D9 : ∀ w', Ext w2 w' → w'.cell? ⟨np, 9, none⟩ = some (.pointer (some ⟨lp, 0, none⟩)) := fun w' he => C9 w' (he2.trans he)
  have D10 : ∀ w', Ext w2 w' → w'.cell? ⟨np, 10, none⟩ = some (.int .i64 N.top) := fun w' he => C10 w' (he2.trans he)
  clear hw2 C7 C9 C10
  go_wp2_with fail
  refine wp_loop_rounds 1 ?_
  rw [rounds_succ]
  go_wp2_with fail
  refine wp_region_rely [none, none, none, none, none, none, none, none, none, none, none] (by kernel_rfl) (by kernel_rfl) ?_
  simp only [Wit]
  iterate 11 apply Exists.intro
  repeat (first | (refine rely_skip rfl ?_; simp only [Act.put, List.setIfInBounds_toArray, List.set_cons_zero, List.set_cons_succ]) | (apply rely_pure; (· rfl); (· intro w hw hd; go_simp; done); simp only [Act.put, List.setIfInBounds_toArray, List.set_cons_zero, List.set_cons_succ]) | (apply rely_pure; (· rfl); (· intro w hw hd; go_simp; exact rfl); simp only [Act.put, List.setIfInBounds_toArray, List.set_cons_zero, List.set_cons_succ]))
  apply rely_pure
  · rfl
  · intro w hw hd
    go_simp
    exact HN.out w (he2.trans hw)
  simp only [Act.put, List.setIfInBounds_toArray, List.set_cons_zero, List.set_cons_succ]
  repeat (first | (refine rely_skip rfl ?_; simp only [Act.put, List.setIfInBounds_toArray, List.set_cons_zero, List.set_cons_succ]) | (apply rely_pure; (· rfl); (· intro w hw hd; go_simp; done); simp only [Act.put, List.setIfInBounds_toArray, List.set_cons_zero, List.set_cons_succ]) | (apply rely_pure; (· rfl); (· intro w hw hd; go_simp; exact rfl); simp only [Act.put, List.setIfInBounds_toArray, List.set_cons_zero, List.set_cons_succ]))
  refine rely_nil ?_
  intro w3 hw3
  have he3 := hw3.1
  clear hw3 D9 D10
  go_wp2_with fail
  go_ret
  exact ⟨by show Ending.returned (.bool (decide (nx < N.top))) = _; rw [decide_eq_false (by omega)], he2.trans he3⟩
end

end Go.Proofs.YtiglblfjmmdeeaaGreat

/- agree: wait and tick of a node of which nothing was asked. -/
namespace Go.Proofs.YtiglblfjmmdeeaaGreat
open Go.RowKit Go.Maps Go.ChangeMaps

attribute [local go_sem] Oper.pureUpon Oper.relUpon

section
variable {w : World} {F : Key → List Nat} {S : Key → Ob} {np k : Nat} {N : NS}
set_option maxRecDepth 100000 in
theorem wait_calls (h : M w F S) (hn : S (0, k) = nodeOb np N) (hme : N.me ≤ 4) : Calls Tryz.prog 68 #[.pointer (some ⟨np, 0, none⟩)] w fun e w' => e = .returned (.int .i64 ((300 + 150 * N.me : Nat) * 2 ^ (min N.tries 7) : Nat)) ∧ Ext w w' := by
  have hb := h.blk hn
  have C1 : ∀ w', Ext w w' → w'.cell? ⟨np, 1, none⟩ = some (.int .i64 N.me) := fun w' he => by have := (blk_ext hb he).cell 1; simpa [ncells] using this
  have C22 : ∀ w', Ext w w' → w'.cell? ⟨np, 22, none⟩ = some (.int .i64 N.tries) := fun w' he => by have := (blk_ext hb he).cell 22; simpa [ncells] using this
  obtain ⟨mn, hmn⟩ : ∃ mn, min N.tries 7 = mn := ⟨_, rfl⟩
  have hmin : ∀ w, (Builtin.min_ #[3, 3] 3 #[.int .i64 N.tries, .int .i64 7]).run Tryz.prog w = .ok (.int .i64 mn) w := by
    intro w
    by_cases h0 : (7 : Int) < (N.tries : Int)
    · have : mn = 7 := by omega
      subst this
      simp [Builtin.min_, Builtin.min2, h0]
    · have : mn = N.tries := by omega
      subst this
      simp [Builtin.min_, Builtin.min2, h0]
  rw [hmn]
  have h7 : mn ≤ 7 := by omega
  clear hb h hmn
  go_enter Tryz.func68, Tryz.ntmps68
  go_wp2_with fail
  refine wp_region_rely [none, none, none, none, none, none, none, none, none, none, none, none, none] (by kernel_rfl) (by kernel_rfl) ?_
  simp only [Wit]
  iterate 13 apply Exists.intro
  repeat (first | (refine rely_skip rfl ?_; simp only [Act.put, List.setIfInBounds_toArray, List.set_cons_zero, List.set_cons_succ]) | (apply rely_pure; (· rfl); (· intro w hw hd; go_simp; done); simp only [Act.put, List.setIfInBounds_toArray, List.set_cons_zero, List.set_cons_succ]) | (apply rely_pure; (· rfl); (· intro w hw hd; go_simp; exact rfl); simp only [Act.put, List.setIfInBounds_toArray, List.set_cons_zero, List.set_cons_succ]))
  refine rely_nil ?_
  intro w2 hw2
  have he2 := hw2.1
  clear hw2 C1 C22 hmin
  go_wp2_with fail
  go_ret
  refine ⟨?_, he2⟩
  show Ending.returned (Value.int .i64 (IntKind.i64.wrap (IntKind.i64.wrap (300 + IntKind.i64.wrap (150 * ↑N.me)) * 2 ^ mn))) = _
  generalize N.me = m at hme ⊢
  rcases (by omega : m = 0 ∨ m = 1 ∨ m = 2 ∨ m = 3 ∨ m = 4) with rfl | rfl | rfl | rfl | rfl <;> rcases (by omega : mn = 0 ∨ mn = 1 ∨ mn = 2 ∨ mn = 3 ∨ mn = 4 ∨ mn = 5 ∨ mn = 6 ∨ mn = 7) with rfl | rfl | rfl | rfl | rfl | rfl | rfl | rfl <;> rfl

set_option maxRecDepth 100000 in
theorem wait_le (me t : Nat) (h : me ≤ 4) : 1 ≤ (300 + 150 * me) * 2 ^ (min t 7) ∧ (300 + 150 * me) * 2 ^ (min t 7) ≤ 115200 := by
  have h7 : min t 7 ≤ 7 := Nat.min_le_right _ _
  generalize min t 7 = m at h7
  rcases (by omega : m = 0 ∨ m = 1 ∨ m = 2 ∨ m = 3 ∨ m = 4 ∨ m = 5 ∨ m = 6 ∨ m = 7) with rfl | rfl | rfl | rfl | rfl | rfl | rfl | rfl <;> simp <;> omega
end

end Go.Proofs.YtiglblfjmmdeeaaGreat
