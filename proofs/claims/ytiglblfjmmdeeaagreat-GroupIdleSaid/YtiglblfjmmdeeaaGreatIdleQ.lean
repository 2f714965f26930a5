/- agree: New. -/
import Derived.Test.YtiglblfjmmdeeaaGreatIdleP
import Derived.Deep.RegionLaw
import Derived.IntWalk
namespace Go.Proofs.YtiglblfjmmdeeaaGreat
open Go.RowKit Go.Maps Go.ChangeMaps

attribute [local go_sem] Oper.pureUpon Oper.relUpon

/-- A node ahead of its start. -/
def N0 (wp me dp : Nat) : NS := ⟨wp, me, dp, 0, false, 0, 0, .pointer none, .pointer none, .pointer none, 0, .map none, 0, .slice none 0 0, 0, 0, .map none, 0, 0, 0, false⟩
def RD (B : Nat) (v : Value) (w : World) : Prop := ∃ p, v = .pointer (some ⟨p, 0, none⟩) ∧ IsD w [p] p [] 0 ∧ B ≤ p
def RB0 (B wp j : Nat) (v : Value) (w : World) : Prop := ∃ d, v = .agg (ncells (N0 wp j d)).toArray ∧ IsD w [d] d [] 0 ∧ B ≤ d
def RX0 (B wp j : Nat) (v : Value) (w : World) : Prop := ∃ q d, v = .pointer (some ⟨q, 0, none⟩) ∧ Blk w q 81 (ncells (N0 wp j d)).toArray ∧ IsD w [d] d [] 0 ∧ B ≤ d ∧ B ≤ q
def RO0 (B wp j : Nat) (v : Value) (w : World) : Prop := ∃ q d ad c, v = .slice (some ad) 1 c ∧ Reads w w.heap.size 1 (some ad) 1 [ptr q] ∧ Blk w q 81 (ncells (N0 wp j d)).toArray ∧ IsD w [d] d [] 0 ∧ B ≤ d ∧ B ≤ q
theorem RD.stays (B : Nat) : Stays (RD B) := by rintro v w w' ⟨p, rfl, h, hb⟩ he; exact ⟨p, rfl, h.ext he, hb⟩
theorem RB0.stays (B wp j : Nat) : Stays (RB0 B wp j) := by rintro v w w' ⟨d, rfl, h, hb⟩ he; exact ⟨d, rfl, h.ext he, hb⟩
theorem RX0.stays (B wp j : Nat) : Stays (RX0 B wp j) := by rintro v w w' ⟨q, d, rfl, hq, h, hb⟩ he; exact ⟨q, d, rfl, blk_ext hq he, h.ext he, hb⟩
theorem RO0.stays (B wp j : Nat) : Stays (RO0 B wp j) := by rintro v w w' ⟨q, d, ad, c, rfl, hr, hq, h, hb⟩ he; exact ⟨q, d, ad, c, rfl, (hr.below he).more he.size, blk_ext hq he, h.ext he, hb⟩
theorem nptr_info : (Tryz.prog.info? 68).map (fun i => (i.zero, i.size, i.bytes)) = some (some (.pointer none), 1, 8) := by kernel_rfl

section
variable {w : World} {F : Key → List Nat} {S : Key → Ob} {wp tp n : Nat} {app : Value} {ts : List (Int × Int × List UInt8)} {nv : Value}
/-- The world's nodes are others. -/
theorem M.wnodes (h : M w F S) (hs : S (10, 0) = .world wp nv app ts) (v : Value) : M (w.setCell ⟨wp, 1, none⟩ v) F (upd S (10, 0) (.world wp v app ts)) ∧ Fr F F w (w.setCell ⟨wp, 1, none⟩ v) := by
  obtain ⟨netv, vs, hb, ho, hf, hF⟩ := h.at hs
  have hm : Mod [wp] w (w.setCell ⟨wp, 1, none⟩ v) := (Mod.refl _ _).setCell (by simp) _
  have hmF : Mod (F (10, 0)) w (w.setCell ⟨wp, 1, none⟩ v) := (Mod.refl _ _).setCell (by rw [hF]; simp) _
  have := h.step (10, 0) (F1 := F (10, 0)) (o' := .world wp v app ts) ⟨hmF, fun k hk => ⟨.inl hk, Nat.lt_of_lt_of_le (h.lt k hk) hmF.size⟩⟩ ⟨netv, vs, by have := hb.set_ 1 v; simpa using this,
    own_mod ho hm (fun k hk hkp => by simp at hkp; subst hkp; exact own_blk_ne ho hb (by decide) hk),
    f2_mono (fun x u hr => by
      obtain ⟨A, c, rfl, hr⟩ := hr
      exact ⟨A, c, rfl, own_mod hr hm (fun k hk hkp => by simp at hkp; subst hkp; exact own_blk_ne hr hb (by decide) hk)⟩) hf, hF⟩
  rw [upd_self F rfl] at this
  exact this
def rowsN (j : Nat) (np : Nat → Nat) : List Value := (List.range j).map fun k => ptr (np k)
theorem rowsN_succ (j : Nat) (np : Nat → Nat) : rowsN (j + 1) np = rowsN j np ++ [ptr (np j)] := by simp [rowsN, List.range_succ]
theorem rowsN_ext (j : Nat) {np np' : Nat → Nat} (h : ∀ k, k < j → np' k = np k) : rowsN j np' = rowsN j np := by
  unfold rowsN
  refine List.map_congr_left fun k hk => ?_
  rw [h k (by simpa using hk)]
/-- The nodes that are made so far. -/
structure Made (S0 S : Key → Ob) (wp tp j : Nat) (A : Option Addr) (c : Nat) (np dp : Nat → Nat) : Prop where
  world : S (10, 0) = .world wp (.slice A j c) (appv tp) []
  row : S (11, 0) = .row 68 1 (.slice A j c) j (rowsN j np)
  nodes : ∀ k, k < j → S (0, k) = nodeOb (np k) (N0 wp k (dp k)) ∧ S (1, k) = .disk (dp k) [] 0
  rest : ∀ i : Key, i ≠ (10, 0) → i ≠ (11, 0) → (∀ k, k < j → i ≠ (0, k) ∧ i ≠ (1, k)) → S i = S0 i

/-- One node more. -/
theorem made_next {S2 : Key → Ob} {F2 : Key → List Nat} {wr wa w5 : World} {j c c5 : Nat} {A A5 : Option Addr} {np dp : Nat → Nat} {w0 : World} {F0 : Key → List Nat} {S0 : Key → Ob} (hm2 : M wr F2 S2) (hf2 : Fr F0 F2 w0 wr) (md : Made S0 S2 wp tp j A c np dp) (hea : Ext wr wa)
    (hdk : IsD wa [wr.heap.size] wr.heap.size [] 0) (hown5 : w5.ownsRow 0 68 1 (.slice A5 (j + 1) c5) (j + 1) (rowsN j np ++ [.pointer (some ⟨wa.heap.size, 0, none⟩)]))
    (hg5 : ((wa.alloc (.cells (ncells (N0 wp j wr.heap.size)).toArray 81)).alloc (.cells #[.pointer (some ⟨wa.heap.size, 0, none⟩)] 68)).grownBy w5 (Value.slice A j c).ownBlock)
    (hat5 : (Value.slice A5 (j + 1) c5).ownBlock = (Value.slice A j c).ownBlock ∨ (Value.slice A5 (j + 1) c5).ownBlock = some ((wa.alloc (.cells (ncells (N0 wp j wr.heap.size)).toArray 81)).alloc (.cells #[.pointer (some ⟨wa.heap.size, 0, none⟩)] 68)).heap.size) :
    ∃ F' S' np' dp', M (w5.setCell ⟨wp, 1, none⟩ (.slice A5 (j + 1) c5)) F' S' ∧ Fr F0 F' w0 (w5.setCell ⟨wp, 1, none⟩ (.slice A5 (j + 1) c5)) ∧ Made S0 S' wp tp (j + 1) A5 c5 np' dp' := by
  have e1 : Ext wa (wa.alloc (.cells (ncells (N0 wp j wr.heap.size)).toArray 81)) := (Below.refl _ _).alloc (Nat.le_refl _) _
  have hq1 := Blk.new wa 81 (ncells (N0 wp j wr.heap.size)).toArray
  generalize wa.alloc (.cells (ncells (N0 wp j wr.heap.size)).toArray 81) = wb at e1 hq1 hg5 hat5
  have e2 : Ext wb (wb.alloc (.cells #[.pointer (some ⟨wa.heap.size, 0, none⟩)] 68)) := (Below.refl _ _).alloc (Nat.le_refl _) _
  generalize wb.alloc (.cells #[.pointer (some ⟨wa.heap.size, 0, none⟩)] 68) = w4 at e2 hg5 hat5
  have he4 := (hea.trans e1).trans e2
  have hq4 := blk_ext hq1 e2
  have hd4 := hdk.ext (e1.trans e2)
  have hdlt := hdk.lt wr.heap.size (by simp)
  have hm4 := hm2.fresh2 (i := (0, j)) (j := (1, j)) (by simp) he4 (o1 := nodeOb wa.heap.size (N0 wp j wr.heap.size)) (o2 := .disk wr.heap.size [] 0) ⟨hq4, rfl⟩ hd4 (by intro x hx; simp at hx; omega) (by intro x hx; simp at hx; omega) (by intro x hx hx2; simp at hx hx2; omega)
  obtain ⟨S4, hS4⟩ : ∃ S4, upd (upd S2 (0, j) (nodeOb wa.heap.size (N0 wp j wr.heap.size))) (1, j) (.disk wr.heap.size [] 0) = S4 := ⟨_, rfl⟩
  rw [hS4] at hm4
  have hr4 : S4 (11, 0) = .row 68 1 (.slice A j c) j (rowsN j np) := by rw [← hS4, upd_ne' _ (by simp), upd_ne' _ (by simp)]; exact md.row
  have hw4 : S4 (10, 0) = .world wp (.slice A j c) (appv tp) [] := by rw [← hS4, upd_ne' _ (by simp), upd_ne' _ (by simp)]; exact md.world
  obtain ⟨ho4, hF4⟩ := hm4.1.at hr4
  have hm5 := hm4.1.step (11, 0) (F1 := (Value.slice A5 (j + 1) c5).ownBlock.toList) (o' := .row 68 1 (.slice A5 (j + 1) c5) (j + 1) (rowsN j np ++ [.pointer (some ⟨wa.heap.size, 0, none⟩)])) ⟨by rw [hF4]; exact Mod.of_grown hg5, fun k hk => ⟨by
    rcases hat5 with e | e
    · left; rw [hF4, ← e]; exact hk
    · right; rw [e] at hk; simp at hk; omega, own_lt hown5 (by simpa using hk)⟩⟩ ⟨hown5, rfl⟩
  have hm6 := hm5.1.wnodes (v := .slice A5 (j + 1) c5) (by rw [upd_ne' _ (by simp)]; exact hw4)
  refine ⟨_, _, fun k => if k = j then wa.heap.size else np k, fun k => if k = j then wr.heap.size else dp k, hm6.1, ((hf2.trans hm4.2).trans hm5.2).trans hm6.2, ?_⟩
  refine ⟨upd_same _ _ _, ?_, fun k hk => ?_, fun i h10 h11 hi => ?_⟩
  · rw [upd_ne' _ (by simp), upd_same, rowsN_succ, rowsN_ext (np := np) j (fun k hk => if_neg (by omega))]
    simp [ptr]
  · rw [upd_ne' _ (by simp), upd_ne' _ (by simp), upd_ne' _ (by simp), upd_ne' _ (by simp), ← hS4]
    by_cases e : k = j
    · subst e
      rw [upd_ne' _ (by simp), upd_same, upd_same, if_pos rfl, if_pos rfl]
      exact ⟨rfl, rfl⟩
    · rw [upd_ne' _ (by simp), upd_ne' _ (by simp [e]), upd_ne' _ (by simp [e]), upd_ne' _ (by simp), if_neg e, if_neg e]
      exact md.nodes k (by omega)
  · rw [upd_ne' _ h10, upd_ne' _ h11, ← hS4, upd_ne' _ (hi j (by omega)).2, upd_ne' _ (hi j (by omega)).1]
    exact md.rest i h10 h11 (fun k hk => hi k (by omega))

/-- The nodes, those below j started. -/
structure Part (S0 S : Key → Ob) (wp tp g c n j : Nat) (np dp : Nat → Nat) (D : Nat → Nd) : Prop where
  world : S (10, 0) = .world wp (.slice (some ⟨g, 0, none⟩) n c) (appv tp) []
  row : S (11, 0) = .row 68 1 (.slice (some ⟨g, 0, none⟩) n c) n (rowsN n np)
  told : S (12, 0) = .st tp 47 told0
  free : S (13, 0) = .none
  same : ∀ k, (D k).np = np k
  done : ∀ k, k < j → IdN S wp k 0 (D k) ∧ (D k).N.up = true
  todo : ∀ k, j ≤ k → k < n → S (0, k) = nodeOb (np k) (N0 wp k (dp k)) ∧ S (1, k) = .disk (dp k) [] 0
  gr : S (14, 0) = S0 (14, 0)

theorem Part.next {S0 S' : Key → Ob} {g c j : Nat} {np dp : Nat → Nat} {D : Nat → Nd} {d : Nd} (P : Part S0 S wp tp g c n j np dp D) (st : Started S S' j (N0 wp j (dp j)) 0 false (np j) d) : Part S0 S' wp tp g c n (j + 1) np dp (setD D j d) := by
  have hr := st.rest
  refine ⟨?_, ?_, ?_, ?_, fun k => ?_, fun k hk => ?_, fun k hk hkn => ?_, ?_⟩
  · rw [hr _ (by simp) (by simp) (by simp) (by simp)]; exact P.world
  · rw [hr _ (by simp) (by simp) (by simp) (by simp)]; exact P.row
  · rw [hr _ (by simp) (by simp) (by simp) (by simp)]; exact P.told
  · rw [hr _ (by simp) (by simp) (by simp) (by simp)]; exact P.free
  · by_cases e : k = j
    · subst e; rw [setD_same]; exact st.enp
    · rw [setD_ne D e]; exact P.same k
  · by_cases e : k = j
    · subst e
      rw [setD_same]
      refine ⟨⟨st.node.trans (by rw [st.enp]), ?_, st.acc, st.log, st.same.1, st.same.2.1, st.eacc, st.elog, st.zero.1, st.zero.2.1, st.zero.2.2.1, ?_, ?_, ?_, ?_⟩, st.up⟩
      · rw [st.disk, st.same.2.2.1, st.life]
      · rw [st.life]; exact Nat.le_refl _
      · rw [st.same.2.2.2]; exact Nat.le_refl _
      · rw [st.last, st.same.2.2.2]; exact Nat.le_refl _
      · rw [st.zero.2.2.2]; exact Nat.le_refl _
    · rw [setD_ne D e]
      obtain ⟨i, hu⟩ := P.done k (by omega)
      exact ⟨i.mono (Nat.le_refl _) (hr _ (by simp [e]) (by simp) (by simp) (by simp)) (hr _ (by simp) (by simp [e]) (by simp) (by simp)) (hr _ (by simp) (by simp) (by simp [e]) (by simp)) (hr _ (by simp) (by simp) (by simp) (by simp [e])), hu⟩
  · have e : k ≠ j := by omega
    rw [hr _ (by simp [e]) (by simp) (by simp) (by simp), hr _ (by simp) (by simp [e]) (by simp) (by simp)]
    exact P.todo k (by omega) hkn
  · rw [hr _ (by simp) (by simp) (by simp) (by simp)]; exact P.gr
theorem Part.idle {S0 : Key → Ob} {g c : Nat} {np dp : Nat → Nat} {D : Nat → Nd} (P : Part S0 S wp tp g c n n np dp D) (n1 : 1 ≤ n) (n5 : n ≤ 5) : Idle S wp tp g c n 0 (appv tp) D [] := by
  refine ⟨n1, n5, P.world, ?_, P.told, P.free, fun k hk => (P.done k hk).1, by simp, by simp⟩
  rw [P.row]
  congr 1
  unfold rows rowsN
  exact List.map_congr_left fun k _ => by rw [P.same k]

set_option maxRecDepth 100000 in
set_option maxHeartbeats 2000000 in
theorem anew_calls (h : M w F S) (hno : ∀ i : Key, i ≠ (12, 0) → i ≠ (14, 0) → S i = .none) (ht : S (12, 0) = .st tp 47 told0) (n1 : 1 ≤ n) (n5 : n ≤ 5) :
    Calls Tryz.prog 12 #[.int .i64 (n : Int), appv tp] w fun e w' => ∃ wp g c D S', e = .returned (.pointer (some ⟨wp, 0, none⟩)) ∧ Go2 F w w' S' ∧ Idle S' wp tp g c n 0 (appv tp) D [] ∧ S' (14, 0) = S (14, 0) ∧ ∀ k, k < n → (D k).N.up = true := by
  obtain ⟨i0, hi0, hz0, hz1, hz2⟩ := info_parts nptr_info
  have e1 : Ext w (w.alloc (.cells #[.slice none 0 0, .slice none 0 0, appv tp] 67)) := (Below.refl _ _).alloc (Nat.le_refl _) _
  have x1 := Blk.new w 67 #[.slice none 0 0, .slice none 0 0, appv tp]
  have hma := h.fresh (10, 0) e1 (F1 := [w.heap.size]) (o' := .world w.heap.size (.slice none 0 0) (appv tp) []) ⟨.slice none 0 0, [], x1, World.ownsRow_nil _ _ _ _, .nil, rfl⟩ (by simp)
  have hmb := hma.1.fresh (11, 0) (Ext.refl _) (F1 := []) (o' := .row 68 1 (.slice none 0 0) 0 []) ⟨World.ownsRow_nil _ _ _ _, rfl⟩ (by simp)
  have hm1 : ∃ F' S' np dp, M (w.alloc (.cells #[.slice none 0 0, .slice none 0 0, appv tp] 67)) F' S' ∧ Fr F F' w (w.alloc (.cells #[.slice none 0 0, .slice none 0 0, appv tp] 67)) ∧ Made S S' w.heap.size tp 0 none 0 np dp := by
    refine ⟨_, _, fun _ => 0, fun _ => 0, hmb.1, hma.2.trans hmb.2, ⟨?_, ?_, fun k hk => by omega, fun i h10 h11 _ => ?_⟩⟩
    · rw [upd_ne' _ (by simp), upd_same]
    · rw [upd_same]; rfl
    · rw [upd_ne' _ h11, upd_ne' _ h10]
  have H1 := Lib.hid hm1
  clear hm1 hma hmb x1 e1
  obtain ⟨wp, hwp⟩ : ∃ wp, w.heap.size = wp := ⟨_, rfl⟩
  unfold appv at H1 ⊢
  go_enter Tryz.func12, Tryz.ntmps12
  go_wp2_with fail
  go_loopw [13] (fun v wr => ∃ j : Nat, v = .int .i64 j ∧ j ≤ n ∧ Hid (∃ F' S' A c np dp, M wr F' S' ∧ Fr F F' w wr ∧ Made S S' w.heap.size tp j A c np dp)) (fun v _ => n - (intOf v).toNat)
  case atStart =>
    refine ⟨0, rfl, Nat.zero_le _, Lib.hid ?_⟩
    obtain ⟨F', S', np, dp, h1, h2, h3⟩ := H1.out
    exact ⟨F', S', none, 0, np, dp, h1, h2, h3⟩
  case round =>
    obtain ⟨j, rfl, hj, HH⟩ := hrel
    by_cases hjn : j < n
    · obtain ⟨F2, S2, A, c, np, dp, hm2, hf2, md⟩ := HH.out
      rw [hwp] at md
      have hww := hm2.at md.world
      obtain ⟨netv, vs, hbw, _⟩ := hww
      have C1 : ∀ w', Ext wr w' → w'.cell? ⟨wp, 1, none⟩ = some (.slice A j c) := fun w' he => by have := (blk_ext hbw he).cell 1; simpa using this
      have hjn' : (j : Int) < (n : Int) := by omega
      have HB := Lib.hid hbw
      have HM := Lib.hid (And.intro hm2 (And.intro hf2 md))
      have HWP := Lib.hid hwp
      clear hbw hm2 hf2 md HH H1 h
      rw [hwp]
      go_wp2_with fail
      have c1 := C1 _ (Ext.refl wr)
      have n1 := World.new_ne wr ⟨wp, 1, none⟩ c1
      have hrow := (HM.out.1.at HM.out.2.2.row).1
      have hrow' : ∀ w', Ext wr w' → w'.ownsRow 0 68 1 (.slice A j c) j (rowsN j np) := fun w' he => own_mod hrow (Mod.of_below he []) (by simp)
      have hbw' : ∀ w', Ext wr w' → Blk w' wp 67 #[netv, .slice A j c, appv tp] := fun w' he => blk_ext HB.out he
      have hlits : ∀ (w' : World) (v : Value), Reads ((w'.alloc (.cells (ncells (N0 wp j wr.heap.size)).toArray 81)).alloc (.cells #[v] 68)) (w'.heap.size + 1 + 1) 1 (some ⟨w'.heap.size + 1, 0, none⟩) 1 [v] := fun w' v => by
        have := lit_reads (w'.alloc (.cells (ncells (N0 wp j wr.heap.size)).toArray 81)) v 68
        simpa using this
      have hne := own_blk_ne hrow HB.out (by decide)
      have HC := Lib.hid (And.intro C1 (And.intro hrow' (And.intro hbw' hlits)))
      clear C1 hrow hrow' hbw' hlits
      go_region_law (first
        | (refine step_app _ rfl (.tmp 20) (.tmp 26) _ rfl 68 i0 _ 1 8 Tryz.underlying65 hi0 hz0 hz1 hz2 rfl (by omega) (.slice A j c) j (rowsN j np) 0 rfl (HC.out.2.1 _ (((Ext.drew wr).trans hea).trans (ebb _ _))) _ (some ⟨wa.heap.size + 1, 0, none⟩) 1 1 [.pointer (some ⟨wa.heap.size, 0, none⟩)] rfl (HC.out.2.2.2 wa _) (by simp [Value.oneCell']) (by omega) (Nat.zero_le _) ?_; intro A5 c5 w5 hown5 hg5 hat5; have b5 := (HC.out.2.2.1 _ (((Ext.drew wr).trans hea).trans (ebb _ _))).grown hg5 (fun e => hne e.symm); have f5 := b5.frozen 1; have d5 := b5.cell 1; simp at d5)
        | (go_simp; go_at_call 28; refine (sd_new _).mono ?_; rintro e wa ⟨d, rfl, hda, hdk, hea⟩; have hda' : d = wr.heap.size := hda.symm; subst hda'; have ca1 := HC.out.1 wa ((Ext.drew wr).trans hea); have eb1 : ∀ o, Ext wa (wa.alloc o) := fun o => (Below.refl _ _).alloc (Nat.le_refl _) _; have ca2 : ∀ o, (wa.alloc o).cell? ⟨wp, 1, none⟩ = some (.slice A j c) := fun o => HC.out.1 _ (((Ext.drew wr).trans hea).trans (eb1 o)); have ca3 : ∀ o1 o2, ((wa.alloc o1).alloc o2).cell? ⟨wp, 1, none⟩ = some (.slice A j c) := fun o1 o2 => HC.out.1 _ ((((Ext.drew wr).trans hea).trans (eb1 o1)).trans ((Below.refl _ _).alloc (Nat.le_refl _) _)); have ebb : ∀ o1 o2, Ext wa ((wa.alloc o1).alloc o2) := fun o1 o2 => Ext.trans ((Below.refl _ _).alloc (Nat.le_refl _) _) ((Below.refl _ _).alloc (Nat.le_refl _) _)))
      all_goals (
        have h6 := made_next HM.out.1 HM.out.2.1 HM.out.2.2 ((Ext.drew wr).trans hea) hdk hown5 hg5 hat5
        have H6 := Lib.hid h6
        clear h6 hea hdk hown5 hg5 hat5 b5 f5 d5 ca1 ca2 ca3 eb1 ebb
        go_wp2_with fail
        go_roundw
        case rel =>
          refine ⟨j + 1, by go_num, by omega, Lib.hid ?_⟩
          obtain ⟨F', S', np', dp', h1, h2, h3⟩ := H6.out
          exact ⟨F', S', A5, c5, np', dp', h1, h2, h3⟩
        case measure => (simp [intOf]; omega))
    · obtain rfl : n = j := by omega
      obtain ⟨F2, S2, A, c, np, dp, hm2, hf2, md⟩ := HH.out
      rw [hwp] at md
      obtain ⟨g, rfl⟩ : ∃ g, A = some ⟨g, 0, none⟩ := by
        obtain ⟨_, _, e, _, _, h0, h1⟩ := own_slice (hm2.at md.row).1
        injection e with e1 e2 e3
        subst e1
        cases A with
        | none => have := (h0 rfl).1; omega
        | some a => exact ⟨a.block, by rw [(h1 a rfl).1]⟩
      have hww := hm2.at md.world
      obtain ⟨netv, vs, hbw, _⟩ := hww
      have c1 := hbw.cell 1
      simp at c1
      have hp0 : Part S S2 wp tp g c n 0 np dp (fun k => ⟨np k, 0, 0, N0 wp k (dp k)⟩) := ⟨md.world, md.row, (md.rest _ (by simp) (by simp) (fun k _ => by simp)).trans ht, (md.rest _ (by simp) (by simp) (fun k _ => by simp)).trans (hno _ (by simp) (by simp)), fun _ => rfl, fun k hk => by omega, fun k _ hk => md.nodes k hk, md.rest _ (by simp) (by simp) (fun k _ => by simp)⟩
      have HP := Lib.hid (And.intro hm2 (And.intro hf2 hp0))
      clear hbw hm2 hf2 md HH H1 h hp0 hno ht
      rw [hwp]
      go_wp2_with fail
      go_loopw [36] (fun v wr' => ∃ j : Nat, v = .int .i64 j ∧ j ≤ n ∧ Hid (∃ F' S' D, M wr' F' S' ∧ Fr F F' w wr' ∧ Part S S' wp tp g c n j np dp D)) (fun v _ => n - (intOf v).toNat)
      case atStart => exact ⟨0, rfl, Nat.zero_le _, Lib.hid ⟨_, _, _, HP.out.1, HP.out.2.1, HP.out.2.2⟩⟩
      case round =>
        obtain ⟨j, rfl, hj, HQ⟩ := hrel
        by_cases hjn : j < n
        · obtain ⟨F3, S3, D, hm3, hf3, pt⟩ := HQ.out
          have ce := hm3.row_cell pt.row hjn (v := ptr (np j)) (by unfold rowsN; rw [List.getElem?_map, List.getElem?_range hjn]; rfl)
          unfold ptr at ce
          have hjn' : (j : Int) < (n : Int) := by omega
          have hst := start_calls (tp := tp) (A := some ⟨g, 0, none⟩) (n := n) (c := c) (ts := []) (life := 0) (l := []) (s := 0) hm3 pt.world pt.told (pt.todo j (Nat.le_refl _) hjn).1 rfl (by omega) (pt.todo j (Nat.le_refl _) hjn).2 (.inl ⟨rfl, rfl⟩) (by omega) false
          have HST := Lib.hid hst
          have HPT := Lib.hid (And.intro hf3 pt)
          clear hst hm3 hf3 pt HQ
          go_wp2_with fail
          refine HST.out.mono ?_
          rintro e w4 ⟨rfl, S4, d, ⟨F4, hm4, hf4⟩, st⟩
          have H4 := Lib.hid (And.intro hm4 (And.intro hf4 st))
          clear hm4 hf4 st
          go_wp2_with fail
          go_roundw
          case rel => exact ⟨j + 1, by go_num, by omega, Lib.hid ⟨F4, S4, setD D j d, H4.out.1, HPT.out.1.trans H4.out.2.1, HPT.out.2.next H4.out.2.2⟩⟩
          case measure => simp [intOf]; omega
        · obtain rfl : n = j := by omega
          go_wp2_with fail
          go_ret
          obtain ⟨F3, S3, D, hm3, hf3, pt⟩ := HQ.out
          exact ⟨wp, g, c, D, S3, rfl, ⟨F3, hm3, hf3⟩, pt.idle n1 n5, pt.gr, fun k hk => (pt.done k hk).2⟩
end

end Go.Proofs.YtiglblfjmmdeeaaGreat
