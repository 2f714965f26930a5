/- agree: a node's start. -/
import Derived.Test.YtiglblfjmmdeeaaGreatMIdB
import Derived.Deep.RegionHeld3
namespace Go.Proofs.YtiglblfjmmdeeaaGreat
open Go.RowKit Go.Maps Go.ChangeMaps

attribute [local go_sem] Oper.pureUpon Oper.relUpon

/-- What a start leaves at a node. -/
structure Started (S S' : Key → Ob) (k : Nat) (N : NS) (life : Nat) (lost : Bool) (np : Nat) (d : Nd) : Prop where
  enp : d.np = np
  node : S' (0, k) = nodeOb np d.N
  disk : S' (1, k) = .disk N.dp (img (life + 1)) 50
  acc : S' (2, k) = .acc d.ap 0 0 [] 0
  log : S' (4, k) = .log d.lp [] 0
  eacc : d.N.acc = ptr d.ap
  elog : d.N.log = ptr d.lp
  same : d.N.wp = N.wp ∧ d.N.me = N.me ∧ d.N.dp = N.dp ∧ d.N.clock = N.clock
  up : d.N.up = true
  life : d.N.life = life + 1
  zero : d.N.top = 0 ∧ d.N.number = 0 ∧ d.N.mine = .slice none 0 0 ∧ d.N.tries = 0
  last : d.N.last = N.clock
  rest : ∀ i : Key, i ≠ (0, k) → i ≠ (1, k) → i ≠ (2, k) → i ≠ (4, k) → S' i = S i

theorem own_slice3 {w : World} {base n c : Nat} {A : Option Addr} {e : TypeId} {size : Nat} {xs : List Value} (h : w.ownsRow base e size (.slice A n c) n xs) : n ≤ c ∧ c ≤ maxLen := by
  obtain ⟨A', c', he, h1, h2, _⟩ := own_slice h
  injection he with e1 e2 e3
  subst e1 e3
  exact ⟨h1, h2⟩
section
variable {w : World} {F : Key → List Nat} {S : Key → Ob} {np k tp : Nat} {N : NS} {A : Option Addr} {n c life s : Nat} {ts : List (Int × Int × List UInt8)} {l : List UInt8}
set_option maxRecDepth 100000 in
set_option maxHeartbeats 2000000 in
theorem start_calls (h : M w F S) (hw : S (10, 0) = .world N.wp (.slice A n c) (.iface 42 (.pointer (some ⟨tp, 0, none⟩))) ts) (ht : S (12, 0) = .st tp 47 told0) (hn : S (0, k) = nodeOb np N) (hme : N.me = k) (hk : k < 5)
    (hd : S (1, k) = .disk N.dp l s) (hl : (l = [] ∧ life = 0) ∨ l = img life) (hlife : life ≤ 1000000) (lost : Bool) :
    Calls Tryz.prog 29 #[.pointer (some ⟨np, 0, none⟩), .bool lost] w fun e w' => e = .returned (.tuple #[]) ∧ ∃ S' d, Go2 F w w' S' ∧ Started S S' k N life lost np d := by
  have hb0 := h.blk hn
  have c4 := hb0.cell 4
  have f4 := hb0.frozen 4
  simp [ncells] at c4
  have hs := set2 (set1 h hn) 4 (.bool true) (by simp [ncells])
  have HS := Lib.hid hs
  have H := Lib.hid h
  clear hs hb0 h
  go_enter Tryz.func29, Tryz.ntmps29
  go_wp2_with fail
  obtain ⟨S1, hS1⟩ : ∃ S1, upd S (0, k) (.st np 81 ((ncells N).set 4 (.bool true))) = S1 := ⟨_, rfl⟩
  have hm1 : M (w.setCell ⟨np, 4, none⟩ (.bool true)) F S1 := hS1 ▸ HS.out.1
  have hf1 := HS.out.2
  generalize w.setCell ⟨np, 4, none⟩ (.bool true) = w1 at hm1 hf1 ⊢
  have hn1 : S1 (0, k) = .st np 81 ((ncells N).set 4 (.bool true)) := by rw [← hS1, upd_same]
  have hw1 : S1 (10, 0) = .world N.wp (.slice A n c) (.iface 42 (.pointer (some ⟨tp, 0, none⟩))) ts := by rw [← hS1, upd_ne' _ (by simp)]; exact hw
  have C1 : ∀ w', Ext w1 w' → w'.cell? ⟨np, 1, none⟩ = some (.int .i64 k) := fun w' he => by have := (hm1.ext he).cell hn1 1; simpa [ncells, hme] using this
  have C0 : ∀ w', Ext w1 w' → w'.cell? ⟨np, 0, none⟩ = some (.pointer (some ⟨N.wp, 0, none⟩)) := fun w' he => by have := (hm1.ext he).cell hn1 0; simpa [ncells] using this
  have hsz : ∀ w', Ext w1 w' → Calls Tryz.prog 45 #[.pointer (some ⟨N.wp, 0, none⟩)] w' fun e w'' => e = .returned (.int .i64 (n : Int)) ∧ Ext w' w'' := fun w' he => by
    refine (size_calls (hm1.ext he) hw1).mono ?_
    rintro e w'' ⟨rfl, rfl⟩
    exact ⟨rfl, Ext.refl _⟩
  have H1 := Lib.hid (And.intro hm1 (And.intro hf1 hS1))
  have hbb : ∀ w', Ext w1 w' → Blk w' np 81 ((ncells N).set 4 (.bool true)).toArray := fun w' he => (hm1.ext he).blk hn1
  have hff : ∀ w', Ext w1 w' → w'.frozen? ⟨np, 7, none⟩ = false ∧ w'.frozen? ⟨np, 9, none⟩ = false ∧ w'.frozen? ⟨np, 8, none⟩ = false ∧ w'.cell? ⟨np, 7, none⟩ = some N.acc ∧ w'.cell? ⟨np, 9, none⟩ = some N.log ∧ w'.cell? ⟨np, 8, none⟩ = some N.prop := fun w' he => by
    have hb := hbb w' he
    have c7 := hb.cell 7
    have c8 := hb.cell 8
    have c9 := hb.cell 9
    simp [ncells] at c7 c8 c9
    exact ⟨hb.frozen 7, hb.frozen 9, hb.frozen 8, c7, c9, c8⟩
  have HSZ := Lib.hid hsz
  have HCC := Lib.hid (And.intro C0 C1)
  have HFF := Lib.hid hff
  have HBB := Lib.hid hbb
  have HME := Lib.hid hme
  have c0 := C0 _ (Ext.refl w1)
  have c1 := C1 _ (Ext.refl w1)
  clear hsz hm1 hf1 hS1 c4 f4 hbb hff C0 C1 hme
  go_region_held3 (fun w' => w'.cell? ⟨np, 0, none⟩ = some (.pointer (some ⟨N.wp, 0, none⟩)) ∧ w'.cell? ⟨np, 1, none⟩ = some (.int .i64 k))
    (first | exact ⟨by assumption, by assumption⟩ | go_keep)
    (first
      | (go_at_call 42; refine (acc_new _).mono ?_; rintro e wa ⟨pa, rfl, hpa, hpaB, hea⟩; have ha0 := HCC.out.1 wa ((Ext.drew w1).trans hea); have ha1 := HCC.out.2 wa ((Ext.drew w1).trans hea))
      | (go_at_call 43; refine (cl_new _).mono ?_; rintro e wb ⟨pl, rfl, hpl, hplB, heb⟩; have hb0 := HCC.out.1 wb (((Ext.drew w1).trans hea).trans heb); have hb1 := HCC.out.2 wb (((Ext.drew w1).trans hea).trans heb))
      | (go_at_call 45; refine (HSZ.out _ (((Ext.drew w1).trans hea).trans heb)).mono ?_; rintro e wc ⟨rfl, hec⟩; have hc0 := HCC.out.1 wc ((((Ext.drew w1).trans hea).trans heb).trans hec); have hc1 := HCC.out.2 wc ((((Ext.drew w1).trans hea).trans heb).trans hec))
      | (go_at_call 44; refine (prop_new _ _ _).mono ?_; rintro e wd ⟨pp, rfl, _, _, hed⟩; have hd0 := HCC.out.1 wd (((((Ext.drew w1).trans hea).trans heb).trans hec).trans hed); have hd1 := HCC.out.2 wd (((((Ext.drew w1).trans hea).trans heb).trans hec).trans hed); obtain ⟨f7, f9, f8, c7, c9, c8⟩ := HFF.out wd (((((Ext.drew w1).trans hea).trans heb).trans hec).trans hed)
         have hB := HBB.out wd (((((Ext.drew w1).trans hea).trans heb).trans hec).trans hed)
         have s70 := (hB.set_ 7 (.pointer (some ⟨pa, 0, none⟩))).cell 0
         have s71 := (hB.set_ 7 (.pointer (some ⟨pa, 0, none⟩))).cell 1
         have s80 := ((hB.set_ 7 (.pointer (some ⟨pa, 0, none⟩))).set_ 9 (.pointer (some ⟨pl, 0, none⟩))).cell 0
         have s81 := ((hB.set_ 7 (.pointer (some ⟨pa, 0, none⟩))).set_ 9 (.pointer (some ⟨pl, 0, none⟩))).cell 1
         have s90 := (((hB.set_ 7 (.pointer (some ⟨pa, 0, none⟩))).set_ 9 (.pointer (some ⟨pl, 0, none⟩))).set_ 8 (.pointer (some ⟨pp, 0, none⟩))).cell 0
         have s91 := (((hB.set_ 7 (.pointer (some ⟨pa, 0, none⟩))).set_ 9 (.pointer (some ⟨pl, 0, none⟩))).set_ 8 (.pointer (some ⟨pp, 0, none⟩))).cell 1
         simp [ncells, HME.out] at s70 s71 s80 s81 s90 s91))
  clear s70 s71 s80 s81 s90 s91 f7 f8 f9 c7 c8 c9 hd0 hd1 hc0 hc1 hb0 hb1 ha0 ha1 c0 c1 hB
  rename_i hHeld
  clear hHeld
  obtain ⟨hm1, hf1, hS1⟩ := H1.out
  have ea : Ext w1 wa := (Ext.drew w1).trans hea
  have hma := hm1.fresh (2, k) ea (o' := .acc pa 0 0 [] 0) hpa (by intro x hx; simp at hx; have : w1.drew.heap.size = w1.heap.size := rfl; omega)
  have hmb := hma.1.fresh (4, k) heb (o' := .log pl [] 0) hpl (by intro x hx; simp at hx; omega)
  obtain ⟨S3, hS3⟩ : ∃ S3, upd (upd S1 (2, k) (.acc pa 0 0 [] 0)) (4, k) (.log pl [] 0) = S3 := ⟨_, rfl⟩
  obtain ⟨F3, hF3⟩ : ∃ F3, upd (upd F (2, k) [pa, w1.drew.heap.size]) (4, k) [pl, wa.heap.size] = F3 := ⟨_, rfl⟩
  rw [hS3, hF3] at hmb
  have hm3 : M wd F3 S3 ∧ Fr F F3 w wd := go_ext2 (go_ext2 ⟨hmb.1, (hf1.trans hma.2).trans hmb.2⟩ hec) hed
  have hn3 : S3 (0, k) = .st np 81 ((ncells N).set 4 (.bool true)) := by rw [← hS3, upd_ne' _ (by simp), upd_ne' _ (by simp)]; exact hn1
  have hr3 : ∀ i : Key, i ≠ (0, k) → i ≠ (2, k) → i ≠ (4, k) → S3 i = S i := fun i h0 h2 h4 => by rw [← hS3, upd_ne' _ h4, upd_ne' _ h2, ← hS1, upd_ne' _ h0]
  have ha3 : S3 (2, k) = .acc pa 0 0 [] 0 := by rw [← hS3, upd_ne' _ (by simp), upd_same]
  have hl3 : S3 (4, k) = .log pl [] 0 := by rw [← hS3, upd_same]
  have hs3 := set1 hm3.1 hn3
  have hs4 := set2 (set2 (set2 (w' := w) ⟨hs3.1, hm3.2.trans hs3.2⟩ 7 (.pointer (some ⟨pa, 0, none⟩)) (by simp [ncells])) 9 (.pointer (some ⟨pl, 0, none⟩)) (by simp [ncells])) 8 (.pointer (some ⟨pp, 0, none⟩)) (by simp [ncells])
  obtain ⟨N4, hN4⟩ : ∃ N4 : NS, N4 = { N with up := true, acc := ptr pa, log := ptr pl, prop := ptr pp } := ⟨_, rfl⟩
  have hO4 : (Ob.st np 81 (((((ncells N).set 4 (.bool true)).set 7 (.pointer (some ⟨pa, 0, none⟩))).set 9 (.pointer (some ⟨pl, 0, none⟩))).set 8 (.pointer (some ⟨pp, 0, none⟩)))) = nodeOb np N4 := by rw [hN4]; simp [nodeOb, ncells, ptr]
  rw [hO4] at hs4
  generalize ((wd.setCell ⟨np, 7, none⟩ (.pointer (some ⟨pa, 0, none⟩))).setCell ⟨np, 9, none⟩ (.pointer (some ⟨pl, 0, none⟩))).setCell ⟨np, 8, none⟩ (.pointer (some ⟨pp, 0, none⟩)) = w4 at hs4 ⊢
  have H4 := Lib.hid (And.intro hr3 (And.intro ha3 (And.intro hl3 hN4)))
  have hmk := @run_makeMap Tryz.prog 74 w4
  obtain ⟨mp, hmp⟩ : ∃ mp, w4.heap.size = mp := ⟨_, rfl⟩
  have e5 : Ext w4 (w4.alloc (.map #[] 0)) := (Below.refl _ _).alloc (Nat.le_refl _) _
  have hs5 := go_ext2 hs4 e5
  rw [hmp] at hmk
  generalize w4.alloc (.map #[] 0) = w5 at hmk hs5 e5
  have hb4 := hs5.1.blk (upd_same _ _ _)
  have hc : ∀ i, w5.cell? ⟨np, i, none⟩ = (ncells N4)[i]? := fun i => by have := hb4.cell i; simpa using this
  clear hpa hpaB hpl hplB hea heb hec hed hm1 hf1 hS1 ea hma hmb hS3 hF3 hm3 hn3 hr3 ha3 hl3 hs3 hs4 hN4 hO4 hn1 hw1
  have c2 := hc 2
  have c3 := hc 3
  have c6 := hc 6
  have c10 := hc 10
  have c11 := hc 11
  have c12 := hc 12
  have c13 := hc 13
  have c14 := hc 14
  have c15 := hc 15
  have c16 := hc 16
  have c17 := hc 17
  have c18 := hc 18
  have c19 := hc 19
  have c22 := hc 22
  have c23 := hc 23
  have c24 := hc 24
  have f6 := hb4.frozen 6
  have f10 := hb4.frozen 10
  have f11 := hb4.frozen 11
  have f12 := hb4.frozen 12
  have f13 := hb4.frozen 13
  have f14 := hb4.frozen 14
  have f15 := hb4.frozen 15
  have f16 := hb4.frozen 16
  have f17 := hb4.frozen 17
  have f18 := hb4.frozen 18
  have f19 := hb4.frozen 19
  have f22 := hb4.frozen 22
  have f23 := hb4.frozen 23
  have f24 := hb4.frozen 24
  simp [ncells] at c2 c3 c6 c10 c11 c12 c13 c14 c15 c16 c17 c18 c19 c22 c23 c24
  have H5 := Lib.hid hs5
  clear hb4 hc hmp e5 hs5
  go_upto_region 3 with fail
  obtain ⟨N6, hN6⟩ : ∃ N6 : NS, N6 = { N4 with met := .map (some mp), mine := .slice none 0 0, seq := 0, life := 0, top := 0, number := 0 } := ⟨_, rfl⟩
  have hO6 : (Ob.st np 81 (((((((ncells N4).set 11 (.map (some mp))).set 17 (.slice none 0 0)).set 18 (.int .i64 0)).set 6 (.int .i64 0)).set 10 (.int .i64 0)).set 12 (.int .i64 0))) = nodeOb np N6 := by rw [hN6]; simp [nodeOb, ncells]
  have hs6 := set2 (set2 (set2 (set2 (set2 (set2 (H5.out) 11 (.map (some mp)) (by simp [ncells])) 17 (.slice none 0 0) (by simp [ncells])) 18 (.int .i64 0) (by simp [ncells])) 6 (.int .i64 0) (by simp [ncells])) 10 (.int .i64 0) (by simp [ncells])) 12 (.int .i64 0) (by simp [ncells])
  rw [hO6] at hs6
  generalize ((((((w5).setCell ⟨np, 11, none⟩ (.map (some mp))).setCell ⟨np, 17, none⟩ (.slice none 0 0)).setCell ⟨np, 18, none⟩ (.int .i64 0)).setCell ⟨np, 6, none⟩ (.int .i64 0)).setCell ⟨np, 10, none⟩ (.int .i64 0)).setCell ⟨np, 12, none⟩ (.int .i64 0) = w6 at hs6 ⊢
  clear c2 c3 c6 f6 c10 f10 c11 f11 c12 f12 c13 f13 c14 f14 c15 f15 c16 f16 c17 f17 c18 f18 c19 f19 c22 f22 c23 f23 c24 f24
  have hb4 := hs6.1.blk (upd_same _ _ _)
  have hc : ∀ i, w6.cell? ⟨np, i, none⟩ = (ncells N6)[i]? := fun i => by have := hb4.cell i; simpa using this
  have c3 := hc 3
  have f3 := hb4.frozen 3
  have c13 := hc 13
  have f13 := hb4.frozen 13
  have c14 := hc 14
  have f14 := hb4.frozen 14
  have c15 := hc 15
  have f15 := hb4.frozen 15
  have c16 := hc 16
  have f16 := hb4.frozen 16
  simp [ncells] at c3 c13 c14 c15 c16
  clear hb4 hc
  have H6 := Lib.hid (And.intro hs6 hN6)
  clear hs6 hN6 hO6
  go_upto_region 4 with fail
  have hO7 : (Ob.st np 81 (((((ncells N6).set 13 (.int .i64 0)).set 14 (.int .i64 0)).set 15 (.map none)).set 16 (.string ⟨#[]⟩))) = nodeOb np N6 := by simp [nodeOb, ncells]
  have hs7 := set2 (set2 (set2 (set2 (H6.out.1) 13 (.int .i64 0) (by simp [ncells])) 14 (.int .i64 0) (by simp [ncells])) 15 (.map none) (by simp [ncells])) 16 (.string ⟨#[]⟩) (by simp [ncells])
  rw [hO7] at hs7
  generalize ((((w6).setCell ⟨np, 13, none⟩ (.int .i64 0)).setCell ⟨np, 14, none⟩ (.int .i64 0)).setCell ⟨np, 15, none⟩ (.map none)).setCell ⟨np, 16, none⟩ (.string ⟨#[]⟩) = w7 at hs7 ⊢
  clear c3 f3 c13 f13 c14 f14 c15 f15 c16 f16
  have hb4 := hs7.1.blk (upd_same _ _ _)
  have hc : ∀ i, w7.cell? ⟨np, i, none⟩ = (ncells N6)[i]? := fun i => by have := hb4.cell i; simpa using this
  have c2 := hc 2
  have f2 := hb4.frozen 2
  have c3 := hc 3
  have f3 := hb4.frozen 3
  have c19 := hc 19
  have f19 := hb4.frozen 19
  have c22 := hc 22
  have f22 := hb4.frozen 22
  have c23 := hc 23
  have f23 := hb4.frozen 23
  have c24 := hc 24
  have f24 := hb4.frozen 24
  simp [ncells] at c2 c3 c19 c22 c23 c24
  clear hb4 hc
  have H7 := Lib.hid hs7
  clear hs7 hO7
  go_wp2_with fail
  obtain ⟨N8, hN8⟩ : ∃ N8 : NS, N8 = { N6 with phase := 0, tries := 0, last := N6.clock, behind := lost } := ⟨_, rfl⟩
  have hO8 : (Ob.st np 81 (((((ncells N6).set 19 (.int .i64 0)).set 22 (.int .i64 0)).set 23 (.int .i64 (N6.clock : Int))).set 24 (.bool lost))) = nodeOb np N8 := by rw [hN8]; simp [nodeOb, ncells]
  have hs8 := set2 (set2 (set2 (set2 (H7.out) 19 (.int .i64 0) (by simp [ncells])) 22 (.int .i64 0) (by simp [ncells])) 23 (.int .i64 (N6.clock : Int)) (by simp [ncells])) 24 (.bool lost) (by simp [ncells])
  rw [hO8] at hs8
  generalize ((((w7).setCell ⟨np, 19, none⟩ (.int .i64 0)).setCell ⟨np, 22, none⟩ (.int .i64 0)).setCell ⟨np, 23, none⟩ (.int .i64 (N6.clock : Int))).setCell ⟨np, 24, none⟩ (.bool lost) = w8 at hs8 ⊢
  clear c2 f2 c3 f3 c19 f19 c22 f22 c23 f23 c24 f24
  obtain ⟨hr3, ha3, hl3, hN4⟩ := H4.out
  have hN6 := H6.out.2
  obtain ⟨S8, hS8⟩ : ∃ S8, upd S3 (0, k) (nodeOb np N8) = S8 := ⟨_, rfl⟩
  rw [hS8] at hs8
  have hn8 : S8 (0, k) = nodeOb np N8 := by rw [← hS8, upd_same]
  have hr8 : ∀ i : Key, i ≠ (0, k) → i ≠ (2, k) → i ≠ (4, k) → S8 i = S i := fun i h0 h2 h4 => by rw [← hS8, upd_ne' _ h0]; exact hr3 i h0 h2 h4
  have hd8 : S8 (1, k) = .disk N.dp l s := by rw [hr8 _ (by simp) (by simp) (by simp)]; exact hd
  have ha8 : S8 (2, k) = .acc pa 0 0 [] 0 := by rw [← hS8, upd_ne' _ (by simp)]; exact ha3
  have hl8 : S8 (4, k) = .log pl [] 0 := by rw [← hS8, upd_ne' _ (by simp)]; exact hl3
  have e8d : N6.dp = N.dp := by rw [hN6, hN4]
  have p8a : N8.acc = ptr pa := by rw [hN8, hN6, hN4]
  obtain ⟨rs, hrs, hrl, hrx, hrz⟩ : ∃ rs : List (List UInt8), l = encs rs ∧ rs.length ≤ 2 ∧ (∀ j x, rs[j]? = some x → (j = 0 ∧ x = [0] ++ leBytes 8 life) ∨ (j = 1 ∧ x = [1] ++ (leBytes 8 0 ++ leBytes 8 0))) ∧ (if rs.length = 0 then 0 else life) = life := by
    rcases hl with ⟨rfl, rfl⟩ | rfl
    · exact ⟨[], rfl, by simp, by simp, rfl⟩
    · refine ⟨[[0] ++ leBytes 8 life, [1] ++ (leBytes 8 0 ++ leBytes 8 0)], ?_, by simp, ?_, by simp⟩
      · unfold img rec_ encs encs encs
        rw [List.append_nil]
        rfl
      · intro j x hx
        rcases j with _ | _ | j
        · simp only [List.getElem?_cons_zero, Option.some.injEq] at hx; exact .inl ⟨rfl, hx.symm⟩
        · simp only [List.getElem?_cons_succ, List.getElem?_cons_zero, Option.some.injEq] at hx; exact .inr ⟨rfl, hx.symm⟩
        · simp at hx
  have hll : l.length ≤ 5000000 := by have := (show IsD _ _ _ l s from hs8.1.at hd8).len; omega
  have hby := sd_bytes (show IsD _ _ N.dp l s from hs8.1.at hd8)
  rw [← e8d] at hby
  have HBY := Lib.hid hby
  have H8 := Lib.hid hs8
  have HZ := Lib.hid (And.intro hr8 (And.intro hd8 (And.intro ha8 (And.intro hl8 (And.intro hn8 (And.intro hN8 (And.intro p8a (And.intro hrs (And.intro hrx hrz)))))))))
  clear hs8 hr8 hd8 ha8 hl8 hn8 hS8 hO8 hN8 hr3 ha3 hl3 hN4 hN6 hby p8a hrx hrz hl HS H1 HSZ HCC HFF HBB H5 H7
  refine HBY.out.mono ?_
  rintro e w9 ⟨A9, c9, rfl, ho9, he9⟩
  have hrd9 : Reads w9 w9.heap.size 1 A9 l.length (bys (encs rs ++ [])) := by rw [List.append_nil, ← HZ.out.2.2.2.2.2.2.2.1]; exact Reads.of_own ho9
  have hc9 := (own_slice3 ho9).1
  have hm9 := (own_slice3 ho9).2
  have hsc := scan_calls w9 w9.heap.size A9 l.length c9 rs [] hrd9 (Nat.le_refl _) hll hc9 hm9 (by
    intro x hx
    obtain ⟨j, hj⟩ := List.getElem?_of_mem hx
    rcases HZ.out.2.2.2.2.2.2.2.2.1 j x hj with ⟨_, rfl⟩ | ⟨_, rfl⟩ <;> simp [leBytes_len]) torn_nil
  have HSC := Lib.hid hsc
  have HE9 := Lib.hid he9
  clear hsc hrd9 ho9 he9 hc9 hm9 hrs
  go_wp2_with fail
  refine HSC.out.mono ?_
  rintro e wA ⟨AA, cA, vs, rfl, hoA, hvA, heA⟩
  have hmA := go_ext2 H8.out (HE9.out.trans heA)
  have HA := Lib.hid (And.intro hmA (And.intro hoA hvA))
  clear hmA hoA hvA heA
  go_wp2_with fail
  have HW0 := Lib.hid (And.intro hw ht)
  clear hmk hw ht hn hd e8d hll
  go_loopw [83] (fun v wr => ∃ j : Nat, v = .int .i64 j ∧ j ≤ rs.length ∧ Hid (∃ F', M wr F' (upd S8 (0, k) (nodeOb np { N8 with life := if j = 0 then 0 else life })) ∧ Fr F F' w wr ∧ Mod [np] wA wr)) (fun v _ => rs.length - (intOf v).toNat)
  case atStart =>
    refine ⟨0, rfl, Nat.zero_le _, Lib.hid ⟨F3, ?_, HA.out.1.2, Mod.refl _ _⟩⟩
    have e : ({ N8 with life := if (0 : Nat) = 0 then 0 else life } : NS) = N8 := by
      have h1 := HZ.out.2.2.2.2.2.1
      have h2 := H6.out.2
      rw [h1, h2]
      simp
    rw [e, upd_self S8 HZ.out.2.2.2.2.1]
    exact HA.out.1.1
  case round =>
    obtain ⟨j, rfl, hj, HH⟩ := hrel
    by_cases hjn : j < rs.length
    · obtain ⟨x, hx⟩ : ∃ x, rs[j]? = some x := ⟨rs[j], List.getElem?_eq_getElem hjn⟩
      have hrj : Calls Tryz.prog 49 = Calls Tryz.prog 49 := rfl
      obtain ⟨g9, eAA⟩ : ∃ g9, AA = some ⟨g9, 0, none⟩ := by
        obtain ⟨_, _, e, _, _, h0, h1⟩ := own_slice HA.out.2.1
        injection e with e1 e2 e3
        subst e1
        cases AA with
        | none => have := (h0 rfl).1; omega
        | some a => exact ⟨a.block, by rw [(h1 a rfl).1]⟩
      subst eAA
      obtain ⟨v, hv, Aj, cj, rfl, hoj⟩ := F2.at_ HA.out.2.2 hx
      have hbA := HA.out.1.1.blk HZ.out.2.2.2.2.1
      obtain ⟨F5, hm5, hf5, hmd⟩ := HH.out
      have hor := own_mod HA.out.2.1 hmd (fun b hb hbn => by simp at hbn; subst hbn; exact own_blk_ne HA.out.2.1 hbA (by decide) hb)
      have hoe := own_mod hoj hmd (fun b hb hbn => by simp at hbn; subst hbn; exact own_blk_ne hoj hbA (by decide) hb)
      obtain ⟨ad, ea, _, hc⟩ := (Reads.of_own hor).2 (by omega)
      injection ea with ea
      subst ea
      have c0 := hc j _ hv
      rw [Addr.add_lit, Nat.zero_add] at c0
      have hxl : x.length ≤ 100 := by
        rcases HZ.out.2.2.2.2.2.2.2.2.1 j x hx with ⟨_, rfl⟩ | ⟨_, rfl⟩ <;> simp [leBytes_len]
      have hnr := reader_new wr _ Aj x.length cj x (Reads.of_own hoe) (Nat.le_refl _) (by omega) (own_slice' hoe).2
      have hjn' : (j : Int) < (rs.length : Int) := by omega
      have HNR := Lib.hid hnr
      have HX := Lib.hid hx
      clear hc hor hoe hoj hnr hv hbA hm5 hf5 hmd hx hrj
      go_wp2_with fail
      refine HNR.out.mono ?_
      rintro e wq ⟨p, FR, rfl, hrd, heq, hFR⟩
      have hrec : Calls Tryz.prog 48 #[.pointer (some ⟨np, 0, none⟩), .pointer (some ⟨p, 0, none⟩)] wq fun e w' => e = .returned (.tuple #[]) ∧ ∃ F', M w' F' (upd S8 (0, k) (nodeOb np { N8 with life := life })) ∧ Fr F F' w w' ∧ Mod [np] wA w' := by
        obtain ⟨F5, hm5, hf5, hmd⟩ := HH.out
        rcases HZ.out.2.2.2.2.2.2.2.2.1 j x HX.out with ⟨rfl, rfl⟩ | ⟨rfl, rfl⟩
        · refine (recall_boot hm5 (upd_same _ _ _) heq hFR life hrd hlife).mono ?_
          rintro e w6 ⟨rfl, ⟨F6, hm6, hf6⟩, hmd6⟩
          rw [upd_upd] at hm6
          exact ⟨rfl, F6, hm6, hf5.trans hf6, hmd.trans' hmd6⟩
        · refine (recall_promise hm5 (upd_same _ _ _) (ap := pa) (by rw [upd_ne' _ (by simp)]; exact HZ.out.2.2.1) HZ.out.2.2.2.2.2.2.1 heq hFR hrd).mono ?_
          rintro e w6 ⟨rfl, ⟨F6, hm6, hf6⟩, hmd6⟩
          exact ⟨rfl, F6, by simpa using hm6, hf5.trans hf6, hmd.trans' hmd6⟩
      have HREC := Lib.hid hrec
      clear hrec hrd heq hFR
      go_wp2_with fail
      refine HREC.out.mono ?_
      rintro e w6 ⟨rfl, h6⟩
      have H6' := Lib.hid h6
      clear h6
      go_wp2_with fail
      go_roundw
      case rel =>
        refine ⟨j + 1, by go_num, by omega, Lib.hid ?_⟩
        obtain ⟨F6, hm6, hf6, hmd6⟩ := H6'.out
        exact ⟨F6, by simpa using hm6, hf6, hmd6⟩
      case measure => simp [intOf]; omega
    · obtain rfl : j = rs.length := by omega
      obtain ⟨F5, hm5, hf5, _⟩ := HH.out
      rw [HZ.out.2.2.2.2.2.2.2.2.2] at hm5
      have hb5 := hm5.blk (upd_same _ _ _)
      have c6 := hb5.cell 6
      have f6 := hb5.frozen 6
      simp [ncells] at c6
      have hs5 := set2 (set1 hm5 (upd_same _ _ _)) 6 (.int .i64 ((life : Int) + 1)) (by simp [ncells])
      rw [upd_upd] at hs5
      obtain ⟨N11, hN11⟩ : ∃ N11 : NS, N11 = { N8 with life := life + 1 } := ⟨_, rfl⟩
      have hO11 : (Ob.st np 81 ((ncells { N8 with life := life }).set 6 (.int .i64 ((life : Int) + 1)))) = nodeOb np N11 := by rw [hN11]; simp [nodeOb, ncells]
      rw [hO11] at hs5
      have HS5 := Lib.hid (And.intro hs5.1 (And.intro (hf5.trans hs5.2) hN11))
      clear hs5 hb5 hm5 hf5 hN11 hO11 HH
      go_wp2_with fail
      generalize wr.setCell ⟨np, 6, none⟩ (.int .i64 ((life : Int) + 1)) = w10 at HS5 ⊢
      obtain ⟨hr8, hd8, ha8, hl8, hn8, hN8, p8a, _, _, _⟩ := HZ.out
      obtain ⟨hr3, ha3, hl3, hN4⟩ := H4.out
      have hN6 := H6.out.2
      obtain ⟨hm10, hf10, hN11⟩ := HS5.out
      have e11 : N11.dp = N.dp ∧ N11.acc = ptr pa ∧ N11.top = 0 ∧ N11.life = life + 1 ∧ N11.log = ptr pl ∧ N11.wp = N.wp ∧ N11.me = k ∧ N11.up = true ∧ N11.number = 0 ∧ N11.mine = .slice none 0 0 ∧ N11.tries = 0 ∧ N11.last = N.clock ∧ N11.clock = N.clock ∧ N11.me = N.me := by
        rw [hN11, hN8, hN6, hN4]
        exact ⟨rfl, rfl, rfl, rfl, rfl, rfl, HME.out, rfl, rfl, rfl, rfl, rfl, rfl, rfl⟩
      have hcp := compact0 (ap := pa) (pr := 0) (pn := 0) (l := l) (s := s) hm10 (upd_same _ _ _) (by rw [upd_ne' _ (by simp), e11.1]; exact hd8) (by rw [upd_ne' _ (by simp)]; exact ha8) (by rw [e11.2.1]; rfl) e11.2.2.1 (by rw [e11.2.2.2.1]; omega) (by omega) (by omega)
      obtain ⟨N12, hN12⟩ : ∃ N12 : NS, N12 = { N11 with size := 50 } := ⟨_, rfl⟩
      obtain ⟨S12, hS12⟩ : ∃ S12, upd (upd (upd S8 (0, k) (nodeOb np N11)) (1, k) (.disk N11.dp (rec_ 0 (leBytes 8 N11.life) ++ rec_ 1 (leBytes 8 0 ++ leBytes 8 0)) 50)) (0, k) (nodeOb np N12) = S12 := ⟨_, rfl⟩
      rw [← hN12, hS12] at hcp
      have HCP := Lib.hid hcp
      have hst : Started S S12 k N life lost np ⟨np, pa, pl, N12⟩ := by
        have h12 : ∀ i : Key, i ≠ (0, k) → i ≠ (1, k) → S12 i = S8 i := fun i h0 h1 => by rw [← hS12, upd_ne' _ h0, upd_ne' _ h1, upd_ne' _ h0]
        refine ⟨rfl, ?_, ?_, ?_, ?_, ?_, ?_, ?_, ?_, ?_, ?_, ?_, ?_⟩
        · rw [← hS12, upd_same]
        · rw [← hS12, upd_ne' _ (by simp), upd_same, e11.1, e11.2.2.2.1]; rfl
        · rw [h12 _ (by simp) (by simp)]; exact ha8
        · rw [h12 _ (by simp) (by simp)]; exact hl8
        · rw [hN12]; exact e11.2.1
        · rw [hN12]; exact e11.2.2.2.2.1
        · rw [hN12]; exact ⟨e11.2.2.2.2.2.1, e11.2.2.2.2.2.2.2.2.2.2.2.2.2, e11.1, e11.2.2.2.2.2.2.2.2.2.2.2.2.1⟩
        · rw [hN12]; exact e11.2.2.2.2.2.2.2.1
        · rw [hN12]; exact e11.2.2.2.1
        · rw [hN12]; exact ⟨e11.2.2.1, e11.2.2.2.2.2.2.2.2.1, e11.2.2.2.2.2.2.2.2.2.1, e11.2.2.2.2.2.2.2.2.2.2.1⟩
        · rw [hN12]; exact e11.2.2.2.2.2.2.2.2.2.2.2.1
        · intro i h0 h1 h2 h4
          rw [h12 i h0 h1]
          exact hr8 i h0 h2 h4
      have HST := Lib.hid (And.intro hst (And.intro hf10 (show N12.wp = N.wp ∧ N12.me = k by rw [hN12]; exact ⟨e11.2.2.2.2.2.1, e11.2.2.2.2.2.2.1⟩)))
      clear hcp hst hN12 hS12 e11 hm10 hf10 hN11 hN6 hr3 ha3 hl3 hN4 hr8 hd8 ha8 hl8 hn8 hN8 p8a c6 f6
      refine HCP.out.mono ?_
      rintro e w11 ⟨rfl, F11, hm11, hf11⟩
      have hn11 := HST.out.1.node
      simp only at hn11
      have hb11 := hm11.blk hn11
      have hw11 : S12 (10, 0) = .world N.wp (.slice A n c) (.iface 42 (.pointer (some ⟨tp, 0, none⟩))) ts := (HST.out.1.rest _ (by simp) (by simp) (by simp) (by simp)).trans HW0.out.1
      have ht11 : S12 (12, 0) = .st tp 47 told0 := (HST.out.1.rest _ (by simp) (by simp) (by simp) (by simp)).trans HW0.out.2
      have C0 : ∀ w', Ext w11 w' → w'.cell? ⟨np, 0, none⟩ = some (.pointer (some ⟨N.wp, 0, none⟩)) := fun w' he => by have := (blk_ext hb11 he).cell 0; simpa [ncells, HST.out.2.2.1] using this
      have C1 : ∀ w', Ext w11 w' → w'.cell? ⟨np, 1, none⟩ = some (.int .i64 k) := fun w' he => by have := (blk_ext hb11 he).cell 1; simpa [ncells, HST.out.2.2.2] using this
      have C14 : ∀ w', Ext w11 w' → w'.cell? ⟨np, 14, none⟩ = some (.int .i64 0) := fun w' he => by have := (blk_ext hb11 he).cell 14; simpa [ncells] using this
      have C16 : ∀ w', Ext w11 w' → w'.cell? ⟨np, 16, none⟩ = some (.string ⟨#[]⟩) := fun w' he => by have := (blk_ext hb11 he).cell 16; simpa [ncells] using this
      have C2 : ∀ w', Ext w11 w' → w'.cell? ⟨N.wp, 2, none⟩ = some (.iface 42 (.pointer (some ⟨tp, 0, none⟩))) := fun w' he => by
        obtain ⟨netv, vs, hb, _⟩ := (hm11.ext he).at hw11
        have := hb.cell 2
        simpa using this
      have H11 := Lib.hid (And.intro hm11 (And.intro (HST.out.2.1.trans hf11) (And.intro ht11 hn11)))
      clear hm11 hf11 hb11 hw11 ht11 hn11
      go_wp2_with fail
      refine wp_region_rely_tail 23 [none, none, none, none, none, none, none, none, none, none, none, none, none, none, none, none, none, none, none, none, none, none, none] (by kernel_rfl) (by kernel_rfl) ?_
      simp only [Wit, List.take_succ_cons, List.take_zero, List.drop_succ_cons, List.drop_zero]
      iterate 23 apply Exists.intro
      iterate 23 (first | (refine rely_skip rfl ?_; simp only [Act.put, List.setIfInBounds_toArray, List.set_cons_zero, List.set_cons_succ]) | (apply rely_pure; (· rfl); (· intro w hw hd; go_simp; done); simp only [Act.put, List.setIfInBounds_toArray, List.set_cons_zero, List.set_cons_succ]) | (apply rely_pure; (· rfl); (· intro w hw hd; go_simp; exact rfl); simp only [Act.put, List.setIfInBounds_toArray, List.set_cons_zero, List.set_cons_succ]))
      refine rely_nil ?_
      intro w12 hw12
      have he12 := hw12.1
      have hin := install0 (H11.out.1.ext he12) H11.out.2.2.1 hk
      have HIN := Lib.hid hin
      have HE12 := Lib.hid he12
      have hmth : ∀ w : World, (method 63 42 (.pointer (some ⟨tp, 0, none⟩)) "Install").run Tryz.prog w = .ok (241, .pointer (some ⟨tp, 0, none⟩)) w := fun _ => by kernel_rfl
      clear hw12 C0 C1 C14 C16 C2 he12 hin
      go_wp2_with fail
      refine HIN.out.mono ?_
      rintro e w13 ⟨rfl, F13, hm13, hf13⟩
      have hdl := deliver0 (lp := pl) (kn := []) (tk := 0) hm13 H11.out.2.2.2 HST.out.1.log (by have := HST.out.1.elog; simpa [ptr] using this) ⟨Nat.le_refl _, by intro i h1 h2; omega, rfl⟩ (by omega)
      have HDL := Lib.hid hdl
      have H13 := Lib.hid ((H11.out.2.1.trans (Fr.ext F11 HE12.out)).trans hf13)
      clear hdl hm13 hf13
      go_wp2_with fail
      refine HDL.out.mono ?_
      rintro e w14 ⟨rfl, F14, hm14, hf14⟩
      have H14 := Lib.hid (And.intro hm14 (H13.out.trans hf14))
      clear hm14 hf14
      go_wp2_with fail
      go_end0
      exact ⟨rfl, S12, _, ⟨F14, H14.out.1, H14.out.2⟩, HST.out.1⟩
end

end Go.Proofs.YtiglblfjmmdeeaaGreat
