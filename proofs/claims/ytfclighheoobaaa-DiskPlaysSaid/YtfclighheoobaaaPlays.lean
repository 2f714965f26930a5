/- DiskPlays: a disk holds what the document says, for any calls. -/
import Derived.Test.YtfclighheoobaaaRef22
import Derived.Test.YtfclighheoobaaaBook
import Derived.Deep.DeepCutAuto
import Derived.Deep.CutBlock
import Derived.Deep.RegionHeld3
import Derived.Deep.DrawnRows
namespace Go.Proofs.Ytfclighheoobaaa
open Go.RowKit

attribute [local go_sem] ba_append ba_extract ba_size Oper.pureUpon Oper.relUpon
attribute [local go_sem ↓] Go.wp_at_zero Go.wp_at_succ

/-- A slice of calls of a disk that came in. -/
def AskB (W : World) (A : Option Addr) (n : Nat) (K N : Nat → Int) (X : Nat → List UInt8) : Prop :=
  n ≤ maxLen ∧ ∀ i, i < n → ∃ b o Ai ci, A = some ⟨b, o, none⟩ ∧ b < W.heap.size ∧ W.cell? ⟨b, o + i * 3, none⟩ = some (.int .i64 (K i)) ∧ W.cell? ⟨b, o + i * 3 + 1, none⟩ = some (.int .i64 (N i)) ∧
    W.cell? ⟨b, o + i * 3 + 2, none⟩ = some (.slice Ai (X i).length ci) ∧ BArg W Ai (X i).length ci (X i)

theorem BArg.cut {W : World} {A : Option Addr} {n c : Nat} {l : List UInt8} (h : BArg W A n c l) (m : Nat) : BArg W A (min m n) c (l.take m) := by
  have := h.take (m := min m n) (by omega)
  have e : l.take (min m n) = l.take m := by
    have hl := h.reads.len
    rw [hl, ← List.take_take, List.take_length]
  rwa [e] at this

theorem room_reads {w : World} {g : Nat} {mark : UInt8} {l : List UInt8} (hb : Blk w g 5 (bys (l ++ List.replicate 80 mark)).toArray) {n : Nat} (hn : n = l.length) : Reads w w.heap.size 1 (some ⟨g, 0, none⟩) n (bys l) := by
  refine ⟨by rw [bys_len, hn, Nat.mul_one], fun _ => ⟨_, rfl, hb.lt, fun j u hu => ?_⟩⟩
  have ha : (⟨g, 0, none⟩ : Addr).add j = ⟨g, j, none⟩ := by unfold Addr.add; split <;> simp_all
  have hj : j < (bys l).length := (List.getElem?_eq_some_iff.1 hu).1
  rw [ha, hb.cell, bys_append]
  simp only [List.getElem?_toArray]
  rw [List.getElem?_append_left hj, hu]

/-- The disk, the document's disk, the call at hand and the slice with room behind it. -/
def PS (W w : World) (p r g x : Nat) (xs : List UInt8) (kk nk : Int) (A : Option Addr) (m c : Nat) (l : List UInt8) (s : Nat) (l2 : List UInt8) (s2 : Nat) : Prop :=
  ∃ F G, IsD w F p l s ∧ IsR w G r l2 s2 ∧ Sep W w [F, G, [g], [x]] ∧ Blk w g 5 (bys (xs ++ List.replicate 80 165)).toArray ∧ Blk w x 42 #[.int .i64 kk, .int .i64 nk, .slice A m c] ∧ BArg W A m c xs

section
variable {W w w' : World} {p r g x : Nat} {xs : List UInt8} {kk nk : Int} {A : Option Addr} {m c : Nat} {l l2 : List UInt8} {s s2 : Nat}
theorem PS.x1 (h : PS W w p r g x xs kk nk A m c l s l2 s2) : w.cell? ⟨x, 1, none⟩ = some (.int .i64 nk) := by
  obtain ⟨F, G, hd, hr, hs, hg, hx, ha⟩ := h
  simpa using hx.cell 1
theorem PS.x2 (h : PS W w p r g x xs kk nk A m c l s l2 s2) : w.cell? ⟨x, 2, none⟩ = some (.slice A m c) := by
  obtain ⟨F, G, hd, hr, hs, hg, hx, ha⟩ := h
  simpa using hx.cell 2
theorem PS.ext (h : PS W w p r g x xs kk nk A m c l s l2 s2) (he : Ext w w') : PS W w' p r g x xs kk nk A m c l s l2 s2 := by
  obtain ⟨F, G, hd, hr, hs, hg, hx, ha⟩ := h
  exact ⟨F, G, hd.ext he, hr.ext he, hs.ext he, hg.below he hg.lt, hx.below he hx.lt, ha⟩
theorem PS.stepd {F : List Nat} {G : List Nat} (hr : IsR w G r l2 s2) (hs : Sep W w [F, G, [g], [x]]) (hg : Blk w g 5 (bys (xs ++ List.replicate 80 165)).toArray)
    (hx : Blk w x 42 #[.int .i64 kk, .int .i64 nk, .slice A m c]) (ha : BArg W A m c xs) {F' : List Nat} (hd : IsD w' F' p l s) (nx : Next F F' w w') : PS W w' p r g x xs kk nk A m c l s l2 s2 := by
  obtain ⟨s5, ks⟩ := hs.next nx
  exact ⟨F', G, hd, hr.keep (ks G (by simp)), s5, hg.keep (ks [g] (by simp) g (by simp)), hx.keep (ks [x] (by simp) x (by simp)), ha⟩
theorem PS.stepr {F : List Nat} {G : List Nat} (hd : IsD w F p l s) (hs : Sep W w [F, G, [g], [x]]) (hg : Blk w g 5 (bys (xs ++ List.replicate 80 165)).toArray)
    (hx : Blk w x 42 #[.int .i64 kk, .int .i64 nk, .slice A m c]) (ha : BArg W A m c xs) {G' : List Nat} (hr : IsR w' G' r l2 s2) (nx : Next G G' w w') : PS W w' p r g x xs kk nk A m c l s l2 s2 := by
  obtain ⟨s5, ks⟩ := hs.swap.next nx
  exact ⟨F, G', hd.keep (ks F (by simp)), hr, s5.swap, hg.keep (ks [g] (by simp) g (by simp)), hx.keep (ks [x] (by simp) x (by simp)), ha⟩

theorem ps_append (h : PS W w p r g x xs kk nk A m c l s l2 s2) (c2 : Nat) (hn : m + l.length ≤ 4194304) :
    Calls Try.prog 17 #[.pointer (some ⟨p, 0, none⟩), .slice (some ⟨g, 0, none⟩) m c2] w fun e w' => e = .returned (.int .i64 0) ∧ PS W w' p r g x xs kk nk A m c (l ++ xs) s l2 s2 := by
  obtain ⟨F, G, hd, hr, hs, hg, hx, ha⟩ := h
  refine (sd_append hd (room_reads hg ha.reads.len) hn).mono ?_
  rintro e w5 ⟨rfl, F5, d5, nx⟩
  exact ⟨rfl, PS.stepd hr hs hg hx ha d5 nx⟩
theorem ps_swap (h : PS W w p r g x xs kk nk A m c l s l2 s2) (c2 : Nat) (hn : m ≤ 4194304) :
    Calls Try.prog 25 #[.pointer (some ⟨p, 0, none⟩), .slice (some ⟨g, 0, none⟩) m c2] w fun e w' => e = .returned (.int .i64 0) ∧ PS W w' p r g x xs kk nk A m c xs xs.length l2 s2 := by
  obtain ⟨F, G, hd, hr, hs, hg, hx, ha⟩ := h
  refine (sd_swap hd (room_reads hg ha.reads.len) (Nat.le_refl _) (by simp) hn).mono ?_
  rintro e w5 ⟨rfl, F5, d5, nx⟩
  exact ⟨rfl, PS.stepd hr hs hg hx ha d5 nx⟩
theorem ps_sync (h : PS W w p r g x xs kk nk A m c l s l2 s2) :
    Calls Try.prog 18 #[.pointer (some ⟨p, 0, none⟩)] w fun e w' => e = .returned (.tuple #[]) ∧ PS W w' p r g x xs kk nk A m c l l.length l2 s2 := by
  obtain ⟨F, G, hd, hr, hs, hg, hx, ha⟩ := h
  refine (sd_sync hd).mono ?_
  rintro e w5 ⟨rfl, d5, nx⟩
  exact ⟨rfl, PS.stepd hr hs hg hx ha d5 nx⟩
theorem ps_crash (h : PS W w p r g x xs kk nk A m c l s l2 s2) (k : Int) :
    Calls Try.prog 20 #[.pointer (some ⟨p, 0, none⟩), .int .i64 k] w fun e w' => e = .returned (.tuple #[]) ∧ PS W w' p r g x xs kk nk A m c (l.take (s + k.toNat)) (l.take (s + k.toNat)).length l2 s2 := by
  obtain ⟨F, G, hd, hr, hs, hg, hx, ha⟩ := h
  refine (sd_crash hd k).mono ?_
  rintro e w5 ⟨rfl, d5, nx⟩
  exact ⟨rfl, PS.stepd hr hs hg hx ha d5 nx⟩
theorem ps_rappend (h : PS W w p r g x xs kk nk A m c l s l2 s2) (hn : m + l2.length ≤ 4194304) :
    Calls Try.prog 27 #[.pointer (some ⟨r, 0, none⟩), .slice A m c] w fun e w' => e = .returned (.int .i64 0) ∧ PS W w' p r g x xs kk nk A m c l s (l2 ++ xs) s2 := by
  obtain ⟨F, G, hd, hr, hs, hg, hx, ha⟩ := h
  refine (r_append hr (ha.reads.below hs.below) hs.below.size hn).mono ?_
  rintro e w5 ⟨rfl, F5, d5, nx⟩
  exact ⟨rfl, PS.stepr hd hs hg hx ha d5 nx⟩
theorem ps_rswap (h : PS W w p r g x xs kk nk A m c l s l2 s2) (hn : m ≤ 4194304) :
    Calls Try.prog 29 #[.pointer (some ⟨r, 0, none⟩), .slice A m c] w fun e w' => e = .returned (.int .i64 0) ∧ PS W w' p r g x xs kk nk A m c l s xs xs.length := by
  obtain ⟨F, G, hd, hr, hs, hg, hx, ha⟩ := h
  refine (r_swap hr (ha.reads.below hs.below) hs.below.size hn).mono ?_
  rintro e w5 ⟨rfl, F5, d5, nx⟩
  exact ⟨rfl, PS.stepr hd hs hg hx ha d5 nx⟩
theorem ps_rsync (h : PS W w p r g x xs kk nk A m c l s l2 s2) :
    Calls Try.prog 28 #[.pointer (some ⟨r, 0, none⟩)] w fun e w' => e = .returned (.tuple #[]) ∧ PS W w' p r g x xs kk nk A m c l s l2 l2.length := by
  obtain ⟨F, G, hd, hr, hs, hg, hx, ha⟩ := h
  refine (r_sync hr).mono ?_
  rintro e w5 ⟨rfl, d5, nx⟩
  exact ⟨rfl, PS.stepr hd hs hg hx ha d5 nx⟩
theorem ps_rcrash (h : PS W w p r g x xs kk nk A m c l s l2 s2) (k : Int) :
    Calls Try.prog 30 #[.pointer (some ⟨r, 0, none⟩), .int .i64 k] w fun e w' => e = .returned (.tuple #[]) ∧ PS W w' p r g x xs kk nk A m c l s (l2.take (s2 + k.toNat)) (l2.take (s2 + k.toNat)).length := by
  obtain ⟨F, G, hd, hr, hs, hg, hx, ha⟩ := h
  refine (r_crash hr k).mono ?_
  rintro e w5 ⟨rfl, G5, d5, nx⟩
  exact ⟨rfl, PS.stepr hd hs hg hx ha d5 nx⟩
end

set_option maxRecDepth 100000 in
set_option maxHeartbeats 4000000 in
theorem plays_walk (W : World) (A : Option Addr) (n c : Nat) (K N : Nat → Int) (X : Nat → List UInt8) (hl : AskB W A n K N X) :
    Calls Try.prog 6 #[.slice A n c] W fun e w' => e = .returned (.bool true) ∧ Below W.heap.size W w' := by
  have hn := hl.1
  unfold maxLen at hn
  have HL := Lib.hid hl.2
  clear hl
  go_enter Try.func6, Try.ntmps6
  go_wp2_with fail
  refine (sd_new W).mono ?_
  rintro e w1 ⟨p, rfl, hp1, d1, hx1⟩
  have s1 : Sep W w1 [[p]] := (Sep.start W).new hx1 (by have := d1.lt; simp at this ⊢; omega)
  clear hx1 hp1
  go_wp2_with fail
  obtain ⟨q, hq⟩ : ∃ q, w1.heap.size = q := ⟨_, rfl⟩
  have hr : IsR (w1.alloc (.cells #[.slice none 0 0, .int .i64 0] 40)) [w1.heap.size] w1.heap.size [] 0 := ⟨.slice none 0 0, ⟨Blk.new _ _ _, World.ownsRow_nil _ _ _ _, Nat.le_refl _, by simp⟩, rfl⟩
  have hxa : Ext w1 (w1.alloc (.cells #[.slice none 0 0, .int .i64 0] 40)) := (Below.refl _ _).alloc (Nat.le_refl _) _
  have s2 : Sep W (w1.alloc (.cells #[.slice none 0 0, .int .i64 0] 40)) [[w1.heap.size], [p]] := s1.new hxa (by simp)
  have d2 := d1.ext hxa
  rw [hq] at hr s2
  go_loopw [5] (fun i wr => ∃ (k : Nat) (F G : List Nat) (l : List UInt8) (s : Nat), k ≤ n ∧ k ≤ 80 ∧ i = .int .i64 k ∧ IsD wr F p l s ∧ IsR wr G q l s ∧ Sep W wr [F, G] ∧ l.length ≤ 100 * k) (fun i _ => 80 - (intOf i).toNat)
  case atStart => exact ⟨0, _, _, [], 0, by omega, by omega, rfl, d2, hr, s2.swap, by simp⟩
  case round =>
    obtain ⟨k, F, G, l, s, hkn, hk80, rfl, dk, rk, sk, hll⟩ := hrel
    clear hr hxa s2 d2 d1 s1
    by_cases hlt : k < n ∧ k < 80
    · obtain ⟨hlt1, hlt2⟩ := hlt
      obtain ⟨b, o, Ai, ci, rfl, hab, hc0, hc1, hc2, hbarg⟩ := HL.out k hlt1
      have hcb := fun j v (h : W.cell? ⟨b, j, none⟩ = some v) => (sk.below.cell (p := ⟨b, j, none⟩) hab).trans h
      have g0 := hcb _ _ hc0
      have g1 := hcb _ _ hc1
      have g2 := hcb _ _ hc2
      clear hcb hc0 hc1 hc2
      have hx' : ((X k).take 100).length = min 100 (X k).length := List.length_take
      have hb100 := hbarg.cut 100
      generalize hxl : min 100 (X k).length = m at *
      have hm100 : m ≤ 100 := by omega
      have Hxl := Lib.hid hxl
      have Hx' := Lib.hid hx'
      clear hxl hx'
      have hle : (X k).length ≤ ci := hbarg.le
      obtain ⟨x, hx⟩ : ∃ x, wr.heap.size = x := ⟨_, rfl⟩
      go_upto_if 30 with fail
      go_cut [6] (fun s6 wx => s6 = .pointer (some ⟨x, 0, none⟩) ∧ wx = wr.alloc (.cells #[.int .i64 (K k), .int .i64 (N k), .slice Ai m ci] 42))
      case first =>
        by_cases hbig : 100 < (X k).length
        · have hbig' : (100 : Int) < ((X k).length : Int) := by omega
          have hci : (100 : Int) ≤ (ci : Int) := by omega
          go_wp2_with fail
          all_goals go_meet
          all_goals (have e1 := Hxl.out; obtain rfl : m = 100 := by omega)
          all_goals exact ⟨rfl, rfl⟩
        · go_wp2_with fail
          all_goals go_meet
          all_goals (have e1 := Hxl.out; obtain rfl : m = (X k).length := by omega)
          all_goals exact ⟨rfl, rfl⟩
      case rest =>
      obtain ⟨rfl, rfl⟩ := hcut
      clear hbarg
      obtain ⟨wx, hwx⟩ : ∃ wx, wr.alloc (.cells #[.int .i64 (K k), .int .i64 (N k), .slice Ai m ci] 42) = wx := ⟨_, rfl⟩
      rw [hwx]
      have hex : Ext wr wx := by rw [← hwx]; exact (Below.refl _ _).alloc (Nat.le_refl _) _
      have bx : Blk wx x 42 #[.int .i64 (K k), .int .i64 (N k), .slice Ai m ci] := by rw [← hwx, ← hx]; exact Blk.new _ _ _
      have sx : Sep W wx [[x], F, G] := sk.new hex (by intro k hk; simp at hk; subst hk; exact ⟨by omega, bx.lt⟩)
      have dx := dk.ext hex
      have rx := rk.ext hex
      clear dk rk sk hwx hex g0 g1 g2 hab hkn hk80 hle
      have x2 := bx.cell 2
      simp at x2
      go_wp2_with fail
      refine (roomy_calls _ _ Ai m ci ((X k).take 100) (hb100.reads.below sx.below) sx.below.size (by omega) 165 165 (by decide)).mono ?_
      rintro e wg ⟨g, rfl, hg, bg, heg⟩
      replace hg := hg.symm
      obtain ⟨cc, hcc⟩ : ∃ cc, m + 80 = cc := ⟨_, rfl⟩
      rw [hcc]
      have m1 : (m : Int) ≤ (cc : Int) := by omega
      have m0 : (0 : Int) ≤ (m : Int) := by omega
      have c0 : wg.cell? ⟨x, 0, none⟩ = some (.int .i64 (K k)) := by have := (bx.below heg bx.lt).cell 0; simpa using this
      go_upto_block 2 with fail
      have sg : Sep W wg [[g], [x], F, G] := sx.new heg (by intro k hk; simp at hk; subst hk; exact ⟨by omega, bg.lt⟩)
      have pg : PS W wg p q g x ((X k).take 100) (K k) (N k) Ai m ci l s l s := ⟨F, G, dx.ext heg, rx.ext heg, sg.rot.rot, bg, bx.below heg bx.lt, hb100⟩
      have HCC := Lib.hid hcc
      clear sx dx rx bx heg hg x2 hcc sg bg
      go_cut [] (fun wk => ∃ l' s', l'.length ≤ 100 * (k + 1) ∧ PS W wk p q g x ((X k).take 100) (K k) (N k) Ai m ci l' s' l' s')
      case first =>
        generalize hkk : K k = kk at *
        generalize hnk : N k = nk at *
        generalize hxs : (X k).take 100 = xs at *
        clear hkk hnk hxs
        have pd : PS W wg.drew p q g x xs kk nk Ai m ci l s l s := pg.ext (Ext.drew _)
        have x2 := pg.x2
        have x1 := pg.x1
        have hlen : m + l.length ≤ 4194304 := by omega
        have hmm : m ≤ 4194304 := by omega
        have hxl : xs.length = m := Hx'.out
        by_cases h1 : kk = 1
        · subst h1
          go_wp2_with fail
          go_region_held3 (fun w' => w'.cell? ⟨x, 2, none⟩ = some (.slice Ai m ci))
            (first | assumption | go_keep)
            (first
              | (go_at_call 17; refine (ps_append pd cc hlen).mono ?_; rintro e w5 ⟨rfl, p5⟩; have x5 := p5.x2)
              | (go_at_call 27; refine (ps_rappend p5 hlen).mono ?_; rintro e w6 ⟨rfl, p6⟩; have x6 := p6.x2))
          go_wp2_with fail
          all_goals go_meet
          all_goals exact ⟨_, _, by simp; omega, p6⟩
        by_cases h2 : kk = 2
        · subst h2
          go_wp2_with fail
          refine (ps_sync pg).mono ?_
          rintro e w5 ⟨rfl, p5⟩
          go_wp2_with fail
          refine (ps_rsync p5).mono ?_
          rintro e w6 ⟨rfl, p6⟩
          go_wp2_with fail
          all_goals go_meet
          all_goals exact ⟨_, _, by omega, p6⟩
        by_cases h3 : kk = 3
        · subst h3
          go_wp2_with fail
          go_region_held3 (fun w' => w'.cell? ⟨x, 2, none⟩ = some (.slice Ai m ci))
            (first | assumption | go_keep)
            (first
              | (go_at_call 25; refine (ps_swap pd cc hmm).mono ?_; rintro e w5 ⟨rfl, p5⟩; have x5 := p5.x2)
              | (go_at_call 29; refine (ps_rswap p5 hmm).mono ?_; rintro e w6 ⟨rfl, p6⟩; have x6 := p6.x2))
          go_wp2_with fail
          all_goals go_meet
          all_goals exact ⟨_, _, by omega, p6⟩
        · go_wp2_with fail
          refine (ps_crash pg nk).mono ?_
          rintro e w5 ⟨rfl, p5⟩
          have x15 := p5.x1
          go_wp2_with fail
          refine (ps_rcrash p5 nk).mono ?_
          rintro e w6 ⟨rfl, p6⟩
          go_wp2_with fail
          all_goals go_meet
          all_goals exact ⟨_, _, by rw [List.length_take]; omega, p6⟩
      case rest =>
      obtain ⟨l', s', hl', pk⟩ := hcut
      clear pg c0
      obtain ⟨F', G', dk, ⟨vr, rr, hG⟩, sk, bgk, bxk, hak⟩ := pk
      have rk : IsR wc G' q l' s' := ⟨vr, rr, hG⟩
      obtain ⟨A', c', rfl, hc', _⟩ := own_slice rr.2.1
      have hltr := rr.1.lt
      have hlx := bxk.lt
      have r0 : ∀ w, Ext wc w → w.cell? ⟨q, 0, none⟩ = some (.slice A' l'.length c') := fun w hw => by have := (rr.1.below hw hltr).cell 0; simpa using this
      have r1 : ∀ w, Ext wc w → w.cell? ⟨q, 1, none⟩ = some (.int .i64 (s' : Int)) := fun w hw => by have := (rr.1.below hw hltr).cell 1; simpa using this
      have rs : ∀ w, Ext wc w → (convert 26 9 (.slice A' l'.length c')).run Try.prog w = .ok (.string ⟨l'.toArray⟩) w := fun w hw => run_str w 26 9 5 Try.underlying26 Try.underlying5 Try.underlying9 ((reads_own rr.2.1).below hw) c'
      have x2 : ∀ w, Ext wc w → w.cell? ⟨x, 2, none⟩ = some (.slice Ai m ci) := fun w hw => by have := (bxk.below hw hlx).cell 2; simpa using this
      have hin : ∀ w, Ext wc w → Calls Try.prog 31 #[.slice (some ⟨g, 0, none⟩) cc cc, .slice Ai m ci, .int .u8 165] w fun e w' => e = .returned (.bool true) ∧ Ext w w' := fun w hw => by
        have := intact_calls w g m W.heap.size Ai ci _ (bgk.below hw bgk.lt) (hak.reads.below (sk.below.trans (hw.mono sk.below.size))) (Nat.le_trans sk.below.size hw.size) (by omega) 165 (by decide)
        rwa [HCC.out] at this
      go_upto_region 24 with fail
      refine wp_region_rely [none, some (RB l'), none, none, none, none, none, none, none, none, none, none, none, none, none, none, none, none, none, none, none, none, none, none, none] (by kernel_rfl) (by kernel_rfl) ?_
      simp only [Wit]
      iterate 24 apply Exists.intro
      (first | (refine rely_skip rfl ?_; simp only [Act.put, List.setIfInBounds_toArray, List.set_cons_zero, List.set_cons_succ]) | (apply rely_pure; (· rfl); (· intro w hw hd; go_simp; done); simp only [Act.put, List.setIfInBounds_toArray, List.set_cons_zero, List.set_cons_succ]) | (apply rely_pure; (· rfl); (· intro w hw hd; go_simp; exact rfl); simp only [Act.put, List.setIfInBounds_toArray, List.set_cons_zero, List.set_cons_succ]))
      refine rely_rel rfl (RB.stays l') (fun w hw hd => ?_) ?_
      · go_simp
        exact sd_bytes_rel dk hw
      intro v1
      simp only [Act.put, List.setIfInBounds_toArray, List.set_cons_zero, List.set_cons_succ]
      apply rely_pure
      · rfl
      · intro w hw hd
        have s6 := (hd ⟨1, .data⟩ (by simp) rfl : RB (l') v1 w).str
        go_simp
        exact rfl
      simp only [Act.put, List.setIfInBounds_toArray, List.set_cons_zero, List.set_cons_succ]
      (first | (refine rely_skip rfl ?_; simp only [Act.put, List.setIfInBounds_toArray, List.set_cons_zero, List.set_cons_succ]) | (apply rely_pure; (· rfl); (· intro w hw hd; go_simp; done); simp only [Act.put, List.setIfInBounds_toArray, List.set_cons_zero, List.set_cons_succ]) | (apply rely_pure; (· rfl); (· intro w hw hd; go_simp; exact rfl); simp only [Act.put, List.setIfInBounds_toArray, List.set_cons_zero, List.set_cons_succ]))
      (first | (refine rely_skip rfl ?_; simp only [Act.put, List.setIfInBounds_toArray, List.set_cons_zero, List.set_cons_succ]) | (apply rely_pure; (· rfl); (· intro w hw hd; go_simp; done); simp only [Act.put, List.setIfInBounds_toArray, List.set_cons_zero, List.set_cons_succ]) | (apply rely_pure; (· rfl); (· intro w hw hd; go_simp; exact rfl); simp only [Act.put, List.setIfInBounds_toArray, List.set_cons_zero, List.set_cons_succ]))
      (first | (refine rely_skip rfl ?_; simp only [Act.put, List.setIfInBounds_toArray, List.set_cons_zero, List.set_cons_succ]) | (apply rely_pure; (· rfl); (· intro w hw hd; go_simp; done); simp only [Act.put, List.setIfInBounds_toArray, List.set_cons_zero, List.set_cons_succ]) | (apply rely_pure; (· rfl); (· intro w hw hd; go_simp; exact rfl); simp only [Act.put, List.setIfInBounds_toArray, List.set_cons_zero, List.set_cons_succ]))
      apply rely_pure
      · rfl
      · intro w hw hd
        have s6 := r0 w hw
        go_simp
        exact rfl
      simp only [Act.put, List.setIfInBounds_toArray, List.set_cons_zero, List.set_cons_succ]
      apply rely_pure
      · rfl
      · intro w hw hd
        have s6 := rs w hw
        go_simp
        exact rfl
      simp only [Act.put, List.setIfInBounds_toArray, List.set_cons_zero, List.set_cons_succ]
      repeat (first | (refine rely_skip rfl ?_; simp only [Act.put, List.setIfInBounds_toArray, List.set_cons_zero, List.set_cons_succ]) | (apply rely_pure; (· rfl); (· intro w hw hd; go_simp; done); simp only [Act.put, List.setIfInBounds_toArray, List.set_cons_zero, List.set_cons_succ]) | (apply rely_pure; (· rfl); (· intro w hw hd; go_simp; exact rfl); simp only [Act.put, List.setIfInBounds_toArray, List.set_cons_zero, List.set_cons_succ]))
      apply rely_pure
      · rfl
      · intro w hw hd
        go_simp
        exact sd_safe_pure dk hw
      simp only [Act.put, List.setIfInBounds_toArray, List.set_cons_zero, List.set_cons_succ]
      repeat (first | (refine rely_skip rfl ?_; simp only [Act.put, List.setIfInBounds_toArray, List.set_cons_zero, List.set_cons_succ]) | (apply rely_pure; (· rfl); (· intro w hw hd; go_simp; done); simp only [Act.put, List.setIfInBounds_toArray, List.set_cons_zero, List.set_cons_succ]) | (apply rely_pure; (· rfl); (· intro w hw hd; go_simp; exact rfl); simp only [Act.put, List.setIfInBounds_toArray, List.set_cons_zero, List.set_cons_succ]))
      apply rely_pure
      · rfl
      · intro w hw hd
        go_simp
        exact hin w hw
      simp only [Act.put, List.setIfInBounds_toArray, List.set_cons_zero, List.set_cons_succ]
      repeat (first | (refine rely_skip rfl ?_; simp only [Act.put, List.setIfInBounds_toArray, List.set_cons_zero, List.set_cons_succ]) | (apply rely_pure; (· rfl); (· intro w hw hd; go_simp; done); simp only [Act.put, List.setIfInBounds_toArray, List.set_cons_zero, List.set_cons_succ]) | (apply rely_pure; (· rfl); (· intro w hw hd; go_simp; exact rfl); simp only [Act.put, List.setIfInBounds_toArray, List.set_cons_zero, List.set_cons_succ]))
      refine rely_nil ?_
      intro w9 hw9
      have d9 := dk.ext hw9.1
      have r9 := rk.ext hw9.1
      have s9 := sk.ext hw9.1
      clear hw9 r0 r1 rs x2 hin dk rk sk
      go_wp2_with fail
      go_roundw
      case rel => subst hq; (repeat apply Exists.intro); exact ⟨⟨k + 1, F', G', l', s', by omega, by omega, by go_num, d9, r9, s9.rot.rot.drop.drop, hl'⟩, rfl⟩
      case measure => simp [intOf]; omega
    · have hbw := sk.below
      clear dk rk sk hll HL
      by_cases hk1 : k < n
      · have hk2 : ¬ ((k : Int) < 80) := by omega
        go_wp2_with fail
        refine (known_pure _).mono ?_
        rintro e w9 ⟨rfl, he⟩
        go_wp2_with fail
        go_ret
        exact ⟨rfl, hbw.trans (he.mono hbw.size)⟩
      · have hk2 : ¬ ((k : Int) < (n : Int)) := by omega
        go_wp2_with fail
        refine (known_pure _).mono ?_
        rintro e w9 ⟨rfl, he⟩
        go_wp2_with fail
        go_ret
        exact ⟨rfl, hbw.trans (he.mono hbw.size)⟩

end Go.Proofs.Ytfclighheoobaaa
