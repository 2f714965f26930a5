/- Texts merged: IdleF, IdleG, IdleH, IdleI. -/
import Derived.Test.YtiglblfjmmdeeaaGreatMIdA
import Derived.Test.YtiglblfjmmdeeaaGreatMAg

/- agree: a node's clock goes on. -/
namespace Go.Proofs.YtiglblfjmmdeeaaGreat
open Go.RowKit Go.Maps Go.ChangeMaps

attribute [local go_sem] Oper.pureUpon Oper.relUpon

section
variable {w w' : World} {F F' : Key → List Nat} {S : Key → Ob} {i : Key} {p : Nat} {t : TypeId} {cs : List Value}
/-- A field is set, in a chain of steps. -/
theorem set2 (h : M w F' (upd S i (.st p t cs)) ∧ Fr F F' w' w) (k : Nat) (v : Value) (hk : k < cs.length) : M (w.setCell ⟨p, k, none⟩ v) F' (upd S i (.st p t (cs.set k v))) ∧ Fr F F' w' (w.setCell ⟨p, k, none⟩ v) := by
  have := h.1.set (upd_same _ _ _) k v hk
  rw [upd_upd] at this
  exact ⟨this.1, h.2.trans this.2⟩
theorem set1 (h : M w F S) (hs : S i = .st p t cs) : M w F (upd S i (.st p t cs)) ∧ Fr F F w w := by
  rw [upd_self S hs]
  exact ⟨h, Fr.refl _ _⟩
/-- A new object in the place of an elder one. -/
theorem M.fresh {o' : Ob} (h : M w F S) (i : Key) (e : Ext w w') {F1 : List Nat} (hh : Holds w' F1 o') (hF : ∀ k ∈ F1, w.heap.size ≤ k) : M w' (upd F i F1) (upd S i o') ∧ Fr F (upd F i F1) w w' :=
  h.step i ⟨Mod.of_below e _, fun k hk => ⟨.inr (hF k hk), hh.lt k hk⟩⟩ hh
end

section
variable {w : World} {F : Key → List Nat} {S : Key → Ob} {np k : Nat} {N : NS}
/-- What need bears: the first slot that lacks. -/
theorem writes_need {g : Nat} (hx : Blk w g 3 #[.int .i64 0]) (l : List UInt8) (hl9 : l.length ≤ 100000) :
    Writes w 70 #[.pointer (some ⟨g, 0, none⟩)] l (leBytes 8 0) := by
  refine ⟨enters_of Tryz.func70 (by kernel_rfl) rfl, fun w1 F p he hw hF => ?_⟩
  have c0 := (blk_ext hx he).cell 0
  simp at c0
  clear hx he hF
  simp only [List.push_toArray, List.append_toArray, List.cons_append, List.nil_append]
  go_enter Tryz.func70, Tryz.ntmps70
  go_wp2_with fail
  refine (writer_long hw 0 (by omega) hl9).mono ?_
  rintro e w2 ⟨rfl, h2⟩
  go_wp2_with fail
  go_end0
  exact ⟨rfl, h2⟩

/-- What a tick does to a node. -/
def Ticked (N N' : NS) (b : Nat) : Prop := ∃ cl la tr be, N' = { N with clock := cl, last := la, tries := tr, behind := be } ∧ cl ≤ 1000 * (b + 1) ∧ la ≤ cl ∧ tr ≤ b + 1

set_option maxRecDepth 100000 in
/-- A node that is down: its clock alone goes on. -/
theorem tick_down (h : M w F S) (hn : S (0, k) = nodeOb np N) (hup : N.up = false) (by_ : Nat) (hb : by_ ≤ 1000) (hc : N.clock ≤ 1000000) :
    Calls Tryz.prog 36 #[.pointer (some ⟨np, 0, none⟩), .int .i64 by_] w fun e w' => e = .returned (.tuple #[]) ∧ Go2 F w w' (upd S (0, k) (nodeOb np { N with clock := N.clock + by_ })) := by
  have hb0 := h.blk hn
  have c3 := hb0.cell 3
  have c4 := hb0.cell 4
  have f3 := hb0.frozen 3
  simp [ncells, hup] at c3 c4
  have hs := set2 (set1 h hn) 3 (.int .i64 ((N.clock : Int) + (by_ : Int))) (by simp [ncells])
  have HS := Lib.hid hs
  clear hs hb0 h
  go_enter Tryz.func36, Tryz.ntmps36
  go_wp2_with fail
  generalize w.setCell ⟨np, 3, none⟩ (.int .i64 ((N.clock : Int) + (by_ : Int))) = w1 at HS ⊢
  have hb1 := HS.out.1.blk (upd_same _ _ _)
  have C4 : ∀ w', Ext w1 w' → w'.cell? ⟨np, 4, none⟩ = some (.bool false) := fun w' he => by have := (blk_ext hb1 he).cell 4; simpa [ncells, hup] using this
  clear hb1 c3 c4 f3
  refine wp_region_rely [none, none, none, none, none, none, none, none, none, none, none, none, none, none, none, none, none, none, none, none, none, none, none, none, none, none, none, none, none, none] (by kernel_rfl) (by kernel_rfl) ?_
  simp only [Wit]
  iterate 30 apply Exists.intro
  repeat (first | (refine rely_skip rfl ?_; simp only [Act.put, List.setIfInBounds_toArray, List.set_cons_zero, List.set_cons_succ]) | (apply rely_pure; (· rfl); (· intro w hw hd; go_simp; done); simp only [Act.put, List.setIfInBounds_toArray, List.set_cons_zero, List.set_cons_succ]) | (apply rely_pure; (· rfl); (· intro w hw hd; go_simp; exact rfl); simp only [Act.put, List.setIfInBounds_toArray, List.set_cons_zero, List.set_cons_succ]))
  refine rely_nil ?_
  intro w3 hw3
  have he3 := hw3.1
  clear hw3 C4
  go_wp2_with fail
  refine bodyPost_ret (results_none rfl _ _ _) rfl ?_
  refine ⟨rfl, F, ?_, HS.out.2.trans (Fr.ext F he3)⟩
  have := HS.out.1.ext he3
  simpa [nodeOb, ncells] using this
end

section
variable {w : World} {F : Key → List Nat} {S : Key → Ob} {wp tp g c n b k : Nat} {app : Value} {D : Nat → Nd} {ts : List (Int × Int × List UInt8)}
set_option maxRecDepth 100000 in
set_option maxHeartbeats 1000000 in
theorem tick_up (h : M w F S) (I : Idle S wp tp g c n b app D ts) (hb9 : b ≤ 100) (hk : k < n) (hup : (D k).N.up = true) (by_ : Nat) (hb1 : 1 ≤ by_) (hby : by_ ≤ 1000) :
    Calls Tryz.prog 36 #[.pointer (some ⟨(D k).np, 0, none⟩), .int .i64 by_] w fun e w' => e = .returned (.tuple #[]) ∧ ∃ N' ts', Ticked (D k).N N' b ∧ (ts' = ts ∨ ts' = ts ++ sentTo k n need0) ∧
      Go2 F w w' (upd (upd S (0, k) (nodeOb (D k).np N')) (10, 0) (.world wp (.slice (some ⟨g, 0, none⟩) n c) app ts')) := by
  have i := I.nodes k hk
  have hn5 := I.n5
  have hlen := I.len
  have hclk := i.clock
  have hlast := i.last
  have htri := i.tries
  have hme := i.me
  have hn := i.node
  generalize D k = d at i hclk hlast htri hme hn hup ⊢
  obtain ⟨np, ap, lp, N⟩ := d
  simp only at i hclk hlast htri hme hn hup ⊢
  have hmine : N.mine = .slice none 0 0 := i.mine
  have hb0 := h.blk hn
  have c3 := hb0.cell 3
  have c4 := hb0.cell 4
  have c17 := hb0.cell 17
  have f3 := hb0.frozen 3
  simp [ncells, hup, hmine] at c3 c4 c17
  have hs := set2 (set1 h hn) 3 (.int .i64 ((N.clock : Int) + (by_ : Int))) (by simp [ncells])
  obtain ⟨N1, hN1⟩ : ∃ N1 : NS, N1 = { N with clock := N.clock + by_ } := ⟨_, rfl⟩
  have n1a : N1.acc = N.acc := by rw [hN1]
  have n1l : N1.log = N.log := by rw [hN1]
  have n1t : N1.top = N.top := by rw [hN1]
  have n1c : N1.clock = N.clock + by_ := by rw [hN1]
  have n1u : N1.up = true := by rw [hN1]; exact hup
  have n1s : N1.last = N.last := by rw [hN1]
  have n1r : N1.tries = N.tries := by rw [hN1]
  have n1b : N1.behind = N.behind := by rw [hN1]
  have n1m : N1.me = N.me := by rw [hN1]
  have n1w : N1.wp = N.wp := by rw [hN1]
  have hs' : M (w.setCell ⟨np, 3, none⟩ (.int .i64 ((N.clock : Int) + (by_ : Int)))) F (upd S (0, k) (nodeOb np N1)) := by rw [hN1]; simpa [nodeOb, ncells] using hs.1
  have hla := lacks0 hs' (upd_same _ _ _) (by rw [upd_ne' _ (by simp)]; exact i.acc) (by rw [n1a]; simpa [ptr] using i.eacc) (by rw [upd_ne' _ (by simp)]; exact i.log) (by rw [n1l]; simpa [ptr] using i.elog) (nx := 0) ⟨Nat.le_refl _, by intro i h1 h2; omega, rfl⟩ (by omega) (by omega) (by rw [n1t]; exact Nat.le_of_eq i.top)
  have HS := Lib.hid (And.intro hs' hs.2)
  have HLA := Lib.hid hla
  have HI := Lib.hid i
  have htop : N.top = 0 := i.top
  have hel : N.log = ptr lp := i.elog
  have hew : N.wp = wp := i.ewp
  clear hs hs' hb0 h hla i
  go_enter Tryz.func36, Tryz.ntmps36
  go_wp2_with fail
  refine HLA.out.mono ?_
  rintro e w1 ⟨rfl, he1⟩
  have hm1 := HS.out.1.ext he1
  have hf1 := HS.out.2.trans (Fr.ext F he1)
  have hb1 := hm1.blk (upd_same _ _ _)
  go_wp2_with fail
  have HE := Lib.hid (And.intro hN1 (And.intro hew (And.intro hme hmine)))
  have C4 : ∀ w', Ext w1 w' → w'.cell? ⟨np, 4, none⟩ = some (.bool true) := fun w' he => by have := (blk_ext hb1 he).cell 4; simpa [ncells, n1u] using this
  have C24 : ∀ w', Ext w1 w' → w'.cell? ⟨np, 24, none⟩ = some (.bool N1.behind) := fun w' he => by have := (blk_ext hb1 he).cell 24; simpa [ncells] using this
  have C3 : ∀ w', Ext w1 w' → w'.cell? ⟨np, 3, none⟩ = some (.int .i64 N1.clock) := fun w' he => by have := (blk_ext hb1 he).cell 3; simpa [ncells] using this
  have C23 : ∀ w', Ext w1 w' → w'.cell? ⟨np, 23, none⟩ = some (.int .i64 N1.last) := fun w' he => by have := (blk_ext hb1 he).cell 23; simpa [ncells] using this
  obtain ⟨W, hW⟩ : ∃ W : Nat, (300 + 150 * N1.me : Nat) * 2 ^ (min N1.tries 7) = W := ⟨_, rfl⟩
  have hwait : ∀ w', Ext w1 w' → Calls Tryz.prog 68 #[.pointer (some ⟨np, 0, none⟩)] w' fun e w'' => e = .returned (.int .i64 (W : Int)) ∧ Ext w' w'' := fun w' he => by
    have := wait_calls (hm1.ext he) (upd_same _ _ _) (by rw [n1m, hme]; omega)
    rw [hW] at this
    exact this
  have HW := Lib.hid hwait
  have H1 := Lib.hid (And.intro hm1 hf1)
  clear hwait hm1 hf1 hb1 he1 c3 c4 c17 f3 hN1
  cases hbe : N1.behind with
  | false =>
    rw [hbe] at C24
    refine wp_region_rely [none, none, none, none, none, none, none, none, none, none, none, none, none, none, none, none, none, none, none, none, none, none, none, none, none, none, none, none, none, none] (by kernel_rfl) (by kernel_rfl) ?_
    simp only [Wit]
    iterate 30 apply Exists.intro
    repeat (first | (refine rely_skip rfl ?_; simp only [Act.put, List.setIfInBounds_toArray, List.set_cons_zero, List.set_cons_succ]) | (apply rely_pure; (· rfl); (· intro w hw hd; go_simp; done); simp only [Act.put, List.setIfInBounds_toArray, List.set_cons_zero, List.set_cons_succ]) | (apply rely_pure; (· rfl); (· intro w hw hd; go_simp; exact rfl); simp only [Act.put, List.setIfInBounds_toArray, List.set_cons_zero, List.set_cons_succ]))
    refine rely_nil ?_
    intro w3 hw3
    have he3 := hw3.1
    clear hw3 C4 C24 C3 C23
    go_wp2_with fail
    refine bodyPost_ret (results_none rfl _ _ _) rfl ?_
    refine ⟨rfl, N1, ts, ⟨N1.clock, N1.last, N1.tries, N1.behind, ?_, by omega, by omega, by omega⟩, .inl rfl, F, ?_, H1.out.2.trans (Fr.ext F he3)⟩
    · rw [HE.out.1]
    · rw [upd_self (upd S (0, k) _) (by rw [upd_ne' _ (by simp)]; exact I.world)]
      exact H1.out.1.ext he3
  | true =>
    rw [hbe] at C24
    obtain ⟨df, hdf⟩ : ∃ df : Nat, N1.clock - N1.last = df := ⟨_, rfl⟩
    have hsub : IntKind.i64.wrap ((N1.clock : Int) - (N1.last : Int)) = (df : Int) := by
      have : ((N1.clock : Int) - (N1.last : Int)) = (df : Int) := by omega
      rw [this]
      exact IntWalk.i64_in _ (by omega)
    have hlog : N1.log = .pointer (some ⟨lp, 0, none⟩) := by rw [n1l]; exact hel
    have t9 : N1.tries ≤ 100 := by omega
    have HN := Lib.hid (And.intro n1c (And.intro n1s (And.intro n1r (And.intro n1t n1w))))
    clear n1a n1l n1t n1c n1s n1r n1m n1w hdf hel htop
    refine wp_region_rely [none, none, none, none, none, none, none, none, none, none, none, none, none, none, none, none, none, none, none, none, none, none, none, none, none, none, none, none, none, none] (by kernel_rfl) (by kernel_rfl) ?_
    simp only [Wit]
    iterate 30 apply Exists.intro
    iterate 27 (first | (refine rely_skip rfl ?_; simp only [Act.put, List.setIfInBounds_toArray, List.set_cons_zero, List.set_cons_succ]) | (apply rely_pure; (· rfl); (· intro w hw hd; go_simp; done); simp only [Act.put, List.setIfInBounds_toArray, List.set_cons_zero, List.set_cons_succ]) | (apply rely_pure; (· rfl); (· intro w hw hd; go_simp; exact rfl); simp only [Act.put, List.setIfInBounds_toArray, List.set_cons_zero, List.set_cons_succ]))
    apply rely_pure
    · rfl
    · intro w hw hd
      go_simp
      exact HW.out w hw
    simp only [Act.put, List.setIfInBounds_toArray, List.set_cons_zero, List.set_cons_succ]
    iterate 2 (first | (refine rely_skip rfl ?_; simp only [Act.put, List.setIfInBounds_toArray, List.set_cons_zero, List.set_cons_succ]) | (apply rely_pure; (· rfl); (· intro w hw hd; go_simp; done); simp only [Act.put, List.setIfInBounds_toArray, List.set_cons_zero, List.set_cons_succ]) | (apply rely_pure; (· rfl); (· intro w hw hd; go_simp; exact rfl); simp only [Act.put, List.setIfInBounds_toArray, List.set_cons_zero, List.set_cons_succ]))
    refine rely_nil ?_
    intro w3 hw3
    have he3 := hw3.1
    have hm3 := H1.out.1.ext he3
    have hf3 := H1.out.2.trans (Fr.ext F he3)
    clear hw3 C4 C24 C3 C23
    have hb3 := hm3.blk (upd_same _ _ _)
    have c3 := hb3.cell 3
    have c9 := hb3.cell 9
    have c22 := hb3.cell 22
    have c23 := hb3.cell 23
    have c24 := hb3.cell 24
    have f22 := hb3.frozen 22
    have f23 := hb3.frozen 23
    have f24 := hb3.frozen 24
    simp [ncells, hlog, hbe] at c3 c9 c22 c23 c24
    have hs3 := set2 (set2 (set2 (set1 hm3 (upd_same _ _ _)) 23 (.int .i64 (N1.clock : Int)) (by simp [ncells])) 22 (.int .i64 ((N1.tries : Int) + 1)) (by simp [ncells])) 24 (.bool false) (by simp [ncells])
    have HS3 := Lib.hid (And.intro hs3.1 (hf3.trans hs3.2))
    have HM3 := Lib.hid (And.intro hm3 hf3)
    clear hb3 hs3 hm3 hf3
    by_cases hlt : (df : Int) < (W : Int)
    · go_wp2_with fail
      refine bodyPost_ret (results_none rfl _ _ _) rfl ?_
      refine ⟨rfl, N1, ts, ⟨N1.clock, N1.last, N1.tries, N1.behind, ?_, by have := HN.out.1; omega, by have := HN.out.1; have := HN.out.2.1; omega, by have := HN.out.2.2.1; omega⟩, .inl rfl, F, ?_, HM3.out.2⟩
      · rw [HE.out.1]
      · rw [upd_self (upd S (0, k) _) (by rw [upd_ne' _ (by simp)]; exact I.world)]
        exact HM3.out.1
    · go_wp2_with fail
      refine (cl_next (show IsCL _ _ lp [] 0 from HS3.out.1.at (i := (4, k)) (o := .log lp [] 0) (by rw [upd_ne' _ (by simp), upd_ne' _ (by simp)]; exact HI.out.log)) (n := 0) ⟨Nat.le_refl _, by intro i h1 h2; omega, rfl⟩ (by omega)).mono ?_
      rintro e w4 ⟨rfl, rfl⟩
      obtain ⟨N2, hN2⟩ : ∃ N2 : NS, N2 = { N1 with last := N1.clock, tries := N1.tries + 1, behind := false } := ⟨_, rfl⟩
      have hm4 := HS3.out.1
      rw [upd_upd] at hm4
      have hf4 := HS3.out.2
      have hO : (Ob.st np 81 ((((ncells N1).set 23 (.int .i64 (N1.clock : Int))).set 22 (.int .i64 ((N1.tries : Int) + 1))).set 24 (.bool false))) = nodeOb np N2 := by rw [hN2]; simp [nodeOb, ncells]
      rw [hO] at hm4
      generalize ((w3.setCell ⟨np, 23, none⟩ (.int .i64 (N1.clock : Int))).setCell ⟨np, 22, none⟩ (.int .i64 ((N1.tries : Int) + 1))).setCell ⟨np, 24, none⟩ (.bool false) = w4 at hm4 hf4 ⊢
      have he5 : Ext w4 (w4.alloc (.cells #[.int .i64 0] 3)) := (Below.refl _ _).alloc (Nat.le_refl _) _
      have hlo := Lo.new hm4 3 [.int .i64 0]
      have n2w : N2.wp = wp := by rw [hN2]; exact HN.out.2.2.2.2.trans hew
      have n2m : N2.me = k := by rw [hN2]; show N1.me = k; rw [HE.out.1]; exact hme
      have hall := all_calls (hm4.ext he5) (A := some ⟨g, 0, none⟩) (n := n) (c := c) (app := app) (ts := ts) (by rw [upd_ne' _ (by simp), n2w]; exact I.world) (upd_same _ _ _) (by simp) (by rw [upd_ne' _ (by simp)]; exact I.free) (by omega) 7 70 #[.pointer (some ⟨w4.heap.size, 0, none⟩)] (leBytes 8 0) (by omega) (by simp [leBytes_len])
        (fun w2 F2 ts2 hM hFr => writes_need (hlo.step hFr).blk _ (by simp))
      rw [n2w, n2m] at hall
      have HALL := Lib.hid hall
      have H4 := Lib.hid (And.intro hm4 (And.intro (hf4.trans (Fr.ext F he5)) hN2))
      clear hall hm4 hf4 he5 hlo hN2 c3 c9 c22 c23 c24 f22 f23 f24 hO
      go_wp2_with fail
      refine HALL.out.mono ?_
      rintro e w5 ⟨rfl, F5, hm5, hf5⟩
      have H5 := Lib.hid (And.intro hm5 (H4.out.2.1.trans hf5))
      clear hm5 hf5
      go_wp2_with fail
      go_end0
      refine ⟨rfl, N2, ts ++ sentTo k n need0, ⟨N2.clock, N2.last, N2.tries, N2.behind, ?_, ?_, ?_, ?_⟩, .inr rfl, F5, H5.out.1, H5.out.2⟩
      · rw [H4.out.2.2, HE.out.1]
      · rw [H4.out.2.2]; show N1.clock ≤ _; have := HN.out.1; omega
      · rw [H4.out.2.2]; exact Nat.le_refl _
      · rw [H4.out.2.2]; show N1.tries + 1 ≤ _; have := HN.out.2.2.1; omega
end

end Go.Proofs.YtiglblfjmmdeeaaGreat

/- agree: recall of the two records that a node of which nothing was asked writes. -/
namespace Go.Proofs.YtiglblfjmmdeeaaGreat
open Go.RowKit Go.Maps Go.ChangeMaps

attribute [local go_sem] Oper.pureUpon Oper.relUpon

section
variable {w0 w : World} {F : Key → List Nat} {S : Key → Ob} {np k : Nat} {N : NS} {FR : List Nat} {p : Nat}
set_option maxRecDepth 100000 in
theorem recall_boot (h : M w0 F S) (hn : S (0, k) = nodeOb np N) (e0 : Ext w0 w) (hF : ∀ k ∈ FR, w0.heap.size ≤ k) (life : Nat) (hr : IsRd w FR p ([0] ++ leBytes 8 life) 0) (hl : life ≤ 1000000) :
    Calls Tryz.prog 48 #[.pointer (some ⟨np, 0, none⟩), .pointer (some ⟨p, 0, none⟩)] w fun e w' => e = .returned (.tuple #[]) ∧ Go2 F w0 w' (upd S (0, k) (nodeOb np { N with life := life })) ∧ Mod [np] w0 w' := by
  have hby := read_byte hr 0 (rest := leBytes 8 life) rfl
  have H := Lib.hid (And.intro h e0)
  have HF := Lib.hid hF
  have HR := Lib.hid hr
  clear h e0 hF hr
  go_enter Tryz.func48, Tryz.ntmps48
  go_wp2_with fail
  refine hby.mono ?_
  rintro e w1 ⟨rfl, h1, n1⟩
  obtain ⟨e1, _⟩ := n1.ext_of H.out.2 HF.out
  have hlg := read_long (rest := []) h1 life (by simp) (by omega)
  have E1 := Lib.hid e1
  clear h1 n1 e1
  go_wp2_with fail
  refine hlg.mono ?_
  rintro e w2 ⟨rfl, h2, n2⟩
  obtain ⟨e2, _⟩ := n2.ext_of E1.out HF.out
  have hm := H.out.1.ext e2
  have hb := hm.blk hn
  have f6 := hb.frozen 6
  have c6 := hb.cell 6
  simp [ncells] at c6
  have hs := set2 (set1 hm hn) 6 (.int .i64 (life : Int)) (by simp [ncells])
  have HS := Lib.hid (And.intro hs.1 (And.intro ((Fr.ext F e2).trans hs.2) ((Mod.of_below e2 [np]).setCell (p := ⟨np, 6, none⟩) (by simp) (.int .i64 (life : Int)))))
  clear h2 n2 e2 hm hb hs
  go_wp2_with fail
  go_end0
  exact ⟨rfl, ⟨F, by simpa [nodeOb, ncells] using HS.out.1, HS.out.2.1⟩, HS.out.2.2⟩

set_option maxRecDepth 100000 in
theorem recall_promise (h : M w0 F S) (hn : S (0, k) = nodeOb np N) {ap : Nat} (ha : S (2, k) = .acc ap 0 0 [] 0) (hp : N.acc = ptr ap) (e0 : Ext w0 w) (hF : ∀ k ∈ FR, w0.heap.size ≤ k) (hr : IsRd w FR p ([1] ++ (leBytes 8 0 ++ leBytes 8 0)) 0) :
    Calls Tryz.prog 48 #[.pointer (some ⟨np, 0, none⟩), .pointer (some ⟨p, 0, none⟩)] w fun e w' => e = .returned (.tuple #[]) ∧ Go2 F w0 w' S ∧ Mod [np] w0 w' := by
  have hby := read_byte hr 1 (rest := leBytes 8 0 ++ leBytes 8 0) rfl
  have H := Lib.hid (And.intro h e0)
  have HF := Lib.hid hF
  have HR := Lib.hid hr
  clear h e0 hF hr
  go_enter Tryz.func48, Tryz.ntmps48
  go_wp2_with fail
  refine hby.mono ?_
  rintro e w1 ⟨rfl, h1, n1⟩
  obtain ⟨e1, _⟩ := n1.ext_of H.out.2 HF.out
  have hm := H.out.1.ext e1
  have c7 := (hm.blk hn).cell 7
  simp [ncells, hp, ptr] at c7
  have hgb := fun (w9 : World) (h9 : IsRd w9 FR p ([1] ++ (leBytes 8 0 ++ leBytes 8 0)) (0 + 1)) => getBallot_calls h9 0 0 (rest := []) (by simp) (by omega) (by omega)
  have hpr : ∀ w2, Next FR FR w1.drew w2 → Calls Tryz.prog 79 #[.pointer (some ⟨ap, 0, none⟩), bal 0 0, .int .i64 1048576] w2 fun e w' => e = .returned (.tuple #[.bool false, .slice none 0 0]) ∧ Ext w2 w' ∧ Ext w0 w2 ∧ w'.cell? ⟨np, 7, none⟩ = some (.pointer (some ⟨ap, 0, none⟩)) := fun w2 n2 => by
    obtain ⟨e2, _⟩ := Next.ext_of (w1 := w1.drew) (show Ext w0 w1.drew from e1.trans (Ext.drew w1)) n2 HF.out
    have hm2 := H.out.1.ext e2
    refine (acc_prepare_no (hm2.at ha) 0 0 1048576 rfl).mono ?_
    rintro e w' ⟨rfl, he⟩
    have := ((hm2.ext he).blk hn).cell 7
    exact ⟨rfl, he, e2, by simpa [ncells, hp, ptr] using this⟩
  have hcc : ∀ w2, Next FR FR w1.drew w2 → w2.cell? ⟨np, 7, none⟩ = some (.pointer (some ⟨ap, 0, none⟩)) := fun w2 n2 => by
    obtain ⟨e2, _⟩ := Next.ext_of (w1 := w1.drew) (show Ext w0 w1.drew from e1.trans (Ext.drew w1)) n2 HF.out
    have := ((H.out.1.ext e2).blk hn).cell 7
    simpa [ncells, hp, ptr] using this
  have HGB := Lib.hid hgb
  have HPR := Lib.hid hpr
  have HCC := Lib.hid hcc
  have H1 := Lib.hid (show IsRd w1.drew FR p ([1] ++ (leBytes 8 0 ++ leBytes 8 0)) (0 + 1) from h1)
  clear hgb hpr hcc h1 hm e1 n1
  unfold bal at HPR HGB
  go_wp2_with fail
  go_region_held3 (fun w' => w'.cell? ⟨np, 7, none⟩ = some (.pointer (some ⟨ap, 0, none⟩)))
    (first | assumption | go_keep)
    (first
      | (go_at_call 55; refine (HGB.out _ H1.out).mono ?_; rintro e w2 ⟨rfl, _, n2⟩; have x2 := HCC.out w2 n2)
      | (go_at_call 79; refine (HPR.out _ n2).mono ?_; rintro e w3 ⟨rfl, e3, e2, x3⟩))
  go_wp2_with fail
  go_end0
  exact ⟨rfl, ⟨F, H.out.1.ext (e2.trans e3), Fr.ext F (e2.trans e3)⟩, Mod.of_below (e2.trans e3) _⟩
end

end Go.Proofs.YtiglblfjmmdeeaaGreat

/- agree: a node's start. -/
namespace Go.Proofs.YtiglblfjmmdeeaaGreat
open Go.RowKit Go.Maps Go.ChangeMaps

attribute [local go_sem] Oper.pureUpon Oper.relUpon

section
variable {w w' : World} {F : Key → List Nat} {S : Key → Ob} {i j : Key} {o1 o2 : Ob} {F1 F2 : List Nat}
/-- Two new objects in the places of elder ones. -/
theorem M.fresh2 (h : M w F S) (hij : i ≠ j) (e : Ext w w') (hh1 : Holds w' F1 o1) (hh2 : Holds w' F2 o2) (h1 : ∀ k ∈ F1, w.heap.size ≤ k) (h2 : ∀ k ∈ F2, w.heap.size ≤ k) (hd : ∀ k ∈ F1, k ∉ F2) :
    M w' (upd (upd F i F1) j F2) (upd (upd S i o1) j o2) ∧ Fr F (upd (upd F i F1) j F2) w w' := by
  have hlt : ∀ a, ∀ k ∈ F a, k < w.heap.size := fun a k hk => h.lt k hk
  refine ⟨⟨fun a b hab k hka hkb => ?_, fun a => ?_⟩, ⟨e.os, e.tape, e.output, e.size, fun k hk hn => e.block k hk, fun a k hk => ?_⟩⟩
  · unfold upd at hka hkb
    by_cases ha : a = j
    · subst ha
      rw [if_pos rfl] at hka
      rw [if_neg (fun e => hab e.symm)] at hkb
      by_cases hb : b = i
      · subst hb
        rw [if_pos rfl] at hkb
        exact hd k hkb hka
      · rw [if_neg hb] at hkb
        have := hlt b k hkb
        have := h2 k hka
        omega
    · rw [if_neg ha] at hka
      by_cases hb : b = j
      · subst hb
        rw [if_pos rfl] at hkb
        by_cases hc : a = i
        · subst hc
          rw [if_pos rfl] at hka
          exact hd k hka hkb
        · rw [if_neg hc] at hka
          have := hlt a k hka
          have := h2 k hkb
          omega
      · rw [if_neg hb] at hkb
        by_cases hc : a = i
        · subst hc
          rw [if_pos rfl] at hka
          rw [if_neg (fun e => hab e.symm)] at hkb
          have := hlt b k hkb
          have := h1 k hka
          omega
        · rw [if_neg hc] at hka
          by_cases hc2 : b = i
          · subst hc2
            rw [if_pos rfl] at hkb
            have := hlt a k hka
            have := h1 k hkb
            omega
          · rw [if_neg hc2] at hkb
            exact h.disj a b hab k hka hkb
  · unfold upd
    by_cases ha : a = j
    · rw [if_pos ha, if_pos ha]; exact hh2
    · rw [if_neg ha, if_neg ha]
      by_cases hb : a = i
      · rw [if_pos hb, if_pos hb]; exact hh1
      · rw [if_neg hb, if_neg hb]; exact (h.holds a).keep fun k hk => e.block k (hlt a k hk)
  · unfold upd at hk
    by_cases ha : a = j
    · rw [if_pos ha] at hk; exact .inr (h2 k hk)
    · rw [if_neg ha] at hk
      by_cases hb : a = i
      · rw [if_pos hb] at hk; exact .inr (h1 k hk)
      · rw [if_neg hb] at hk; exact .inl ⟨a, hk⟩
theorem go_ext2 {F' : Key → List Nat} {S' : Key → Ob} {w0 : World} (h : M w F' S' ∧ Fr F F' w0 w) (e : Ext w w') : M w' F' S' ∧ Fr F F' w0 w' := ⟨h.1.ext e, h.2.trans (Fr.ext _ e)⟩
end

/-- A new acceptor, a new log: where they lie. -/
def NewAcc (B : Nat) (v : Value) (w : World) : Prop := ∃ p, v = .pointer (some ⟨p + 1, 0, none⟩) ∧ IsAcc w [p + 1, p] (p + 1) 0 0 [] 0 ∧ B ≤ p
def NewLg (B : Nat) (v : Value) (w : World) : Prop := ∃ p, v = .pointer (some ⟨p + 1, 0, none⟩) ∧ IsCL w [p + 1, p] (p + 1) [] 0 ∧ B ≤ p
def NewPr (v : Value) (_ : World) : Prop := ∃ p, v = .pointer (some ⟨p, 0, none⟩)
theorem NewAcc.stays (B : Nat) : Stays (NewAcc B) := by rintro v w w' ⟨p, rfl, h, hb⟩ he; exact ⟨p, rfl, h.ext he, hb⟩
theorem NewLg.stays (B : Nat) : Stays (NewLg B) := by rintro v w w' ⟨p, rfl, h, hb⟩ he; exact ⟨p, rfl, h.ext he, hb⟩
theorem NewPr.stays : Stays NewPr := by rintro v w w' ⟨p, rfl⟩ he; exact ⟨p, rfl⟩
theorem acc_log_ne {w : World} {p q : Nat} (h : IsAcc w [p + 1, p] (p + 1) 0 0 [] 0) (k : IsCL w [q + 1, q] (q + 1) [] 0) : ∀ x ∈ [p + 1, p], x ∉ [q + 1, q] := by
  obtain ⟨b, h1, h2, h3⟩ := h
  obtain ⟨b', k1, k2, k3⟩ := k
  simp at h3 k3
  subst h3 k3
  obtain ⟨es, ck, hm, _⟩ := h2
  obtain ⟨es', ck', km, _⟩ := k2
  unfold Blk at h1 k1
  have hpq : p ≠ q := by
    rintro rfl
    rw [h1] at k1
    simp at k1
  have hpq1 : p + 1 ≠ q := by
    rintro rfl
    rw [h1] at km
    simp at km
  have hqp1 : q + 1 ≠ p := by
    rintro rfl
    rw [k1] at hm
    simp at hm
  intro x hx hx2
  simp at hx hx2
  omega

section
variable {w : World} {F : Key → List Nat} {S : Key → Ob} {np k : Nat} {N : NS}
set_option maxRecDepth 100000 in
/-- The group takes a snapshot of nothing. -/
theorem install0 {tp : Nat} (h : M w F S) (ht : S (12, 0) = .st tp 47 told0) (hk : k < 5) :
    Calls Tryz.prog 241 #[.pointer (some ⟨tp, 0, none⟩), .int .i64 (k : Int), .int .i64 0, .string ⟨#[]⟩] w fun e w' => e = .returned (.tuple #[]) ∧ Go2 F w w' S := by
  have hb := h.blk ht
  have hc : ∀ k : Nat, k < 5 → told0[k * 3]? = some (.int .i64 0) ∧ told0[k * 3 + 1]? = some (.string ⟨#[]⟩) ∧ told0[k * 3 + 2]? = some (.slice none 0 0) ∧
      (((told0.set (k * 3) (.int .i64 0)).set (k * 3 + 1) (.string ⟨#[]⟩)).set (k * 3 + 2) (.slice none 0 0)) = told0 := by
    intro k hk
    rcases (by omega : k = 0 ∨ k = 1 ∨ k = 2 ∨ k = 3 ∨ k = 4) with rfl | rfl | rfl | rfl | rfl <;> exact ⟨rfl, rfl, rfl, rfl⟩
  obtain ⟨t0, t1, t2, t3⟩ := hc k hk
  have hl : told0.length = 16 := rfl
  have c0 := (h.cell ht (k * 3)).trans t0
  have c1 := (h.cell ht (k * 3 + 1)).trans t1
  have c2 := (h.cell ht (k * 3 + 2)).trans t2
  have f0 := hb.frozen (k * 3)
  have f1 := hb.frozen (k * 3 + 1)
  have f2 := hb.frozen (k * 3 + 2)
  have hs := set2 (set2 (set2 (set1 h ht) (k * 3) (.int .i64 0) (by omega)) (k * 3 + 1) (.string ⟨#[]⟩) (by simp [hl]; omega)) (k * 3 + 2) (.slice none 0 0) (by simp [hl]; omega)
  rw [t3, upd_self S ht] at hs
  have HS := Lib.hid hs
  have hk5 : (k : Int) < 5 := by omega
  clear hs hb h hc t0 t1 t2 t3 hl
  go_enter Tryz.func241, Tryz.ntmps241
  go_wp2_with fail
  go_end0
  exact ⟨rfl, F, HS.out.1, HS.out.2⟩
end

end Go.Proofs.YtiglblfjmmdeeaaGreat

/- agree: Tick, Crash, Cut in a world of which nothing was asked. -/
namespace Go.Proofs.YtiglblfjmmdeeaaGreat
open Go.RowKit Go.Maps Go.ChangeMaps

attribute [local go_sem] Oper.pureUpon Oper.relUpon

/-- What a step leaves: a world of which nothing was asked. -/
def Idles (F : Key → List Nat) (w : World) (S : Key → Ob) (wp tp g c n b : Nat) (app : Value) (Q : (Nat → Nd) → List (Int × Int × List UInt8) → Prop) (w' : World) : Prop :=
  ∃ S' D' ts', Go2 F w w' S' ∧ Idle S' wp tp g c n b app D' ts' ∧ S' (14, 0) = S (14, 0) ∧ Q D' ts'

section
variable {w : World} {F : Key → List Nat} {S S' : Key → Ob} {wp tp g c n b b' k : Nat} {app : Value} {D D' : Nat → Nd} {d : Nd} {ts ts' : List (Int × Int × List UInt8)}
theorem IdN.mono (i : IdN S wp k b d) (hb : b ≤ b') (h0 : S' (0, k) = S (0, k)) (h1 : S' (1, k) = S (1, k)) (h2 : S' (2, k) = S (2, k)) (h4 : S' (4, k) = S (4, k)) : IdN S' wp k b' d :=
  ⟨h0.trans i.node, h1.trans i.disk, h2.trans i.acc, h4.trans i.log, i.ewp, i.me, i.eacc, i.elog, i.top, i.num, i.mine, by have := i.life; omega, by have := i.clock; omega, i.last, by have := i.tries; omega⟩
theorem Idle.mono (I : Idle S wp tp g c n b app D ts) (hb : b ≤ b') : Idle S wp tp g c n b' app D ts :=
  ⟨I.n1, I.n5, I.world, I.row, I.told, I.free, fun k hk => (I.nodes k hk).mono hb rfl rfl rfl rfl, by have := I.len; omega, I.good⟩
theorem rows_same (n : Nat) (h : ∀ k, k < n → (D' k).np = (D k).np) : rows n D' = rows n D := by
  unfold rows
  refine List.map_congr_left fun k hk => ?_
  rw [h k (by simpa using hk)]
/-- Another node in the place of one. -/
def setD (D : Nat → Nd) (k : Nat) (d : Nd) : Nat → Nd := fun j => if j = k then d else D j
theorem setD_same (D : Nat → Nd) (k : Nat) (d : Nd) : setD D k d k = d := by simp [setD]
theorem setD_ne (D : Nat → Nd) {k j : Nat} (h : j ≠ k) (d : Nd) : setD D k d j = D j := by simp [setD, h]
/-- One node's objects and the net are others. -/
theorem Idle.put (I : Idle S wp tp g c n b app D ts) (hb : b ≤ b') (hnp : d.np = (D k).np) (hd : IdN S' wp k b' d) (hw : S' (10, 0) = .world wp (.slice (some ⟨g, 0, none⟩) n c) app ts') (hl : ts'.length ≤ 5 * b') (hg : ∀ t ∈ ts', goodT n t)
    (hS : ∀ i : Key, i ≠ (0, k) → i ≠ (1, k) → i ≠ (2, k) → i ≠ (4, k) → i ≠ (10, 0) → S' i = S i) : Idle S' wp tp g c n b' app (setD D k d) ts' := by
  refine ⟨I.n1, I.n5, hw, ?_, ?_, ?_, fun j hj => ?_, hl, hg⟩
  · rw [hS _ (by simp) (by simp) (by simp) (by simp) (by simp), rows_same (D := D) (D' := setD D k d) n (fun j _ => by
      by_cases h : j = k
      · subst h; rw [setD_same]; exact hnp
      · rw [setD_ne D h])]
    exact I.row
  · rw [hS _ (by simp) (by simp) (by simp) (by simp) (by simp)]; exact I.told
  · rw [hS _ (by simp) (by simp) (by simp) (by simp) (by simp)]; exact I.free
  · by_cases h : j = k
    · subst h; rw [setD_same]; exact hd
    · rw [setD_ne D h]
      exact (I.nodes j hj).mono hb (hS _ (by simp [h]) (by simp) (by simp) (by simp) (by simp)) (hS _ (by simp) (by simp [h]) (by simp) (by simp) (by simp)) (hS _ (by simp) (by simp) (by simp [h]) (by simp) (by simp)) (hS _ (by simp) (by simp) (by simp) (by simp [h]) (by simp))

theorem sentTo_good (k n : Nat) (hk : k < n) : ∀ t ∈ sentTo k n need0, goodT n t := by
  intro t ht
  unfold sentTo at ht
  obtain ⟨j, hj, rfl⟩ := List.mem_map.1 ht
  rw [List.mem_filter] at hj
  exact ⟨k, j, hk, by simpa using hj.1, rfl⟩

theorem Idle.ticked (I : Idle S wp tp g c n b app D ts) (hk : k < n) {N' : NS} (ht : Ticked (D k).N N' b) (hts : ts' = ts ∨ ts' = ts ++ sentTo k n need0) :
    Idle (upd (upd S (0, k) (nodeOb (D k).np N')) (10, 0) (.world wp (.slice (some ⟨g, 0, none⟩) n c) app ts')) wp tp g c n (b + 1) app (setD D k { D k with N := N' }) ts' := by
  have i := I.nodes k hk
  obtain ⟨cl, la, tr, be, rfl, h1, h2, h3⟩ := ht
  have hlen := sentTo_len k n need0
  have hl := I.len
  have hn5 := I.n5
  refine I.put (d := { D k with N := { (D k).N with clock := cl, last := la, tries := tr, behind := be } }) (Nat.le_succ _) rfl ⟨?_, ?_, ?_, ?_, i.ewp, i.me, i.eacc, i.elog, i.top, i.num, i.mine, by have := i.life; show _ ≤ _; simp only; omega, h1, h2, h3⟩ (upd_same _ _ _) ?_ ?_ ?_
  · rw [upd_ne' _ (by simp), upd_same]
  · rw [upd_ne' _ (by simp), upd_ne' _ (by simp)]; exact i.disk
  · rw [upd_ne' _ (by simp), upd_ne' _ (by simp)]; exact i.acc
  · rw [upd_ne' _ (by simp), upd_ne' _ (by simp)]; exact i.log
  · rcases hts with rfl | rfl
    · omega
    · rw [List.length_append]; omega
  · rcases hts with rfl | rfl
    · exact I.good
    · intro t ht
      rcases List.mem_append.1 ht with ht | ht
      · exact I.good t ht
      · exact sentTo_good k n hk t ht
  · intro j h0 _ _ _ h10
    rw [upd_ne' _ h10, upd_ne' _ h0]

set_option maxRecDepth 100000 in
theorem wtick_calls (h : M w F S) (I : Idle S wp tp g c n b app D ts) (hb9 : b ≤ 100) (x by_ : Int) :
    Calls Tryz.prog 17 #[.pointer (some ⟨wp, 0, none⟩), .int .i64 x, .int .i64 by_] w fun e w' => e = .returned (.tuple #[]) ∧ Idles F w S wp tp g c n (b + 1) app (fun _ _ => True) w' := by
  have hh := has_calls h I.world x
  have hno : Idles F w S wp tp g c n (b + 1) app (fun _ _ => True) w := ⟨S, D, ts, ⟨F, h, Fr.refl _ _⟩, I.mono (Nat.le_succ _), rfl, trivial⟩
  by_cases hx : 0 ≤ x ∧ x < (n : Int)
  · rw [decide_eq_true hx] at hh
    by_cases hby : 1 ≤ by_ ∧ by_ ≤ 1000
    · obtain ⟨y, rfl⟩ : ∃ y : Nat, by_ = y := ⟨by_.toNat, by omega⟩
      obtain ⟨k, rfl⟩ : ∃ k : Nat, x = k := ⟨x.toNat, by omega⟩
      have hk : k < n := by omega
      have hkn : (k : Int) < (n : Int) := by omega
      have i1 : 1 ≤ (y : Int) := hby.1
      have i2 : (y : Int) ≤ 1000 := hby.2
      have cg := I.cell h hk
      unfold ptr at cg
      obtain ⟨netv, vs, hb, _⟩ := h.at I.world
      have c1 := hb.cell 1
      simp at c1
      have htk : Calls Tryz.prog 36 #[.pointer (some ⟨(D k).np, 0, none⟩), .int .i64 (y : Int)] w fun e w' => e = .returned (.tuple #[]) ∧ Idles F w S wp tp g c n (b + 1) app (fun _ _ => True) w' := by
        cases hup : (D k).N.up with
        | true =>
          refine (tick_up h I hb9 hk hup y (by omega) (by omega)).mono ?_
          rintro e w' ⟨rfl, N', ts', ht, hts, hg⟩
          refine ⟨rfl, _, _, ts', hg, I.ticked hk ht hts, ?_, trivial⟩
          rw [upd_ne' _ (by simp), upd_ne' _ (by simp)]
        | false =>
          have i := I.nodes k hk
          have hc := i.clock
          refine (tick_down h i.node hup y (by omega) (by omega)).mono ?_
          rintro e w' ⟨rfl, hg⟩
          have := I.ticked (k := k) (ts' := ts) hk (N' := { (D k).N with clock := (D k).N.clock + y }) ⟨(D k).N.clock + y, (D k).N.last, (D k).N.tries, (D k).N.behind, rfl, by omega, by have := i.last; omega, by have := i.tries; omega⟩ (.inl rfl)
          rw [upd_self (upd S (0, k) _) (by rw [upd_ne' _ (by simp)]; exact I.world)] at this
          refine ⟨rfl, _, _, ts, hg, this, ?_, trivial⟩
          rw [upd_ne' _ (by simp)]
      have HT := Lib.hid htk
      clear htk hb h hno
      go_enter Tryz.func17, Tryz.ntmps17
      go_wp2_with fail
      refine hh.mono ?_
      rintro e w1 ⟨rfl, rfl⟩
      go_wp2_with fail
      refine HT.out.mono ?_
      rintro e w1 ⟨rfl, h1⟩
      have H1 := Lib.hid h1
      clear h1
      go_wp2_with fail
      go_end0
      exact ⟨rfl, H1.out⟩
    · have HN := Lib.hid hno
      clear h hno
      by_cases i1 : 1 ≤ by_
      · have i2 : ¬ by_ ≤ 1000 := fun h => hby ⟨i1, h⟩
        go_enter Tryz.func17, Tryz.ntmps17
        go_wp2_with fail
        refine hh.mono ?_
        rintro e w1 ⟨rfl, rfl⟩
        go_wp2_with fail
        go_end0
        exact ⟨rfl, HN.out⟩
      · go_enter Tryz.func17, Tryz.ntmps17
        go_wp2_with fail
        refine hh.mono ?_
        rintro e w1 ⟨rfl, rfl⟩
        go_wp2_with fail
        go_end0
        exact ⟨rfl, HN.out⟩
  · rw [decide_eq_false hx] at hh
    have HN := Lib.hid hno
    clear h hno
    go_enter Tryz.func17, Tryz.ntmps17
    go_wp2_with fail
    refine hh.mono ?_
    rintro e w1 ⟨rfl, rfl⟩
    go_wp2_with fail
    go_end0
    exact ⟨rfl, HN.out⟩
end

end Go.Proofs.YtiglblfjmmdeeaaGreat
