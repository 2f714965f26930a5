/- WalGoes. -/
import Derived.Test.YtfclighheoobaaaSmall
import Derived.Test.YtfclighheoobaaaOpenL
import Derived.Deep.DeepCutAuto
import Derived.Deep.CutBlock
namespace Go.Proofs.Ytfclighheoobaaa
open Go.RowKit

attribute [local go_sem] ba_append ba_extract ba_size Oper.pureUpon Oper.relUpon

/-- A log, and a row of texts beside it. -/
def JW (W w : World) (q dp sf : Nat) (st : St) (m : Nat) (A : Option Addr) (k c : Nat) (l : List (List UInt8)) : Prop :=
  JS W w [(Value.slice A k c).ownBlock.toList] q dp sf st m ∧ w.ownsRow W.heap.size 9 1 (.slice A k c) k (txs l)

section
variable {W w w' w2 : World} {p q dp sf sf' : Nat} {st st' : St} {m m' : Nat} {A A1 : Option Addr} {k c c1 : Nat} {l : List (List UInt8)}
theorem JW.ext (h : JW W w q dp sf st m A k c l) (e : Ext w w') : JW W w' q dp sf st m A k c l := ⟨h.1.ext e, own_mod h.2 (Mod.of_below e []) (by simp)⟩
theorem JW.step (h : JW W w q dp sf st m A k c l) (h' : JS W w' [(Value.slice A k c).ownBlock.toList] p dp sf' st' m') (hk : ∀ G ∈ [(Value.slice A k c).ownBlock.toList], Keep G w w') : JW W w' p dp sf' st' m' A k c l := ⟨h', own_keep h.2 (hk _ (by simp))⟩
theorem JS.side {G G' : List Nat} (h : JS W w [G] q dp sf st m) (nx : Next G G' w w') : JS W w' [G'] q dp sf st m := by
  obtain ⟨es, ⟨⟨Fd, Fl, hd, hl, s0⟩, hr⟩, hs⟩ := h
  have s1 : Sep W w [G, Fd, Fl] := s0.rot.rot
  obtain ⟨s2, ks⟩ := s1.next nx
  exact ⟨es, ⟨⟨Fd, Fl, hd.keep (ks Fd (by simp)), hl.keep (ks Fl (by simp)), s2.rot⟩, hr⟩, hs⟩
theorem JS.start (h : JS W w [] q dp sf st m) : JW W w q dp sf st m none 0 0 [] := by
  refine ⟨?_, World.ownsRow_nil _ _ _ _⟩
  obtain ⟨es, ⟨⟨Fd, Fl, hd, hl, s0⟩, hr⟩, hs⟩ := h
  have s1 : Sep W w [Fd, Fl, []] := s0.nil.rot
  exact ⟨es, ⟨⟨Fd, Fl, hd, hl, s1⟩, hr⟩, hs⟩
/-- One more text behind the row. -/
theorem JW.app (h : JW W w q dp sf st m A k c l) (o : Obj) (x : List UInt8) (hown : w2.ownsRow W.heap.size 9 1 (.slice A1 (k + 1) c1) (k + 1) (txs l ++ [.string ⟨x.toArray⟩])) (hg : (w.alloc o).grownBy w2 (Value.slice A k c).ownBlock)
    (hat : (Value.slice A1 (k + 1) c1).ownBlock = (Value.slice A k c).ownBlock ∨ (Value.slice A1 (k + 1) c1).ownBlock = some (w.alloc o).heap.size) : JW W w2 q dp sf st m A1 (k + 1) c1 (l ++ [x]) := by
  have hm : Mod (Value.slice A k c).ownBlock.toList w w2 := ((Mod.refl _ _).alloc o).grown hg (fun j hj _ => by rw [hj]; simp)
  refine ⟨h.1.side ⟨hm, fun j hj => ?_⟩, by rw [show txs (l ++ [x]) = txs l ++ [.string ⟨x.toArray⟩] by simp [txs, tx]]; exact hown⟩
  rw [Option.mem_toList] at hj
  refine ⟨?_, own_lt hown hj⟩
  rcases hat with e | e
  · exact .inl (by rw [Option.mem_toList, ← e]; exact hj)
  · rw [e] at hj
    injection hj with hj
    right
    rw [← hj]
    simp
end

/-- What a log of WalGoes is. -/
def Went (st : St) (k f : Nat) (F : Nat → List UInt8) : Prop := st.first = f ∧ 1 ≤ f ∧ f ≤ k + 1 ∧ st.recs = ((List.range k).map F).drop (f - 1)
section
variable {st : St} {k f : Nat} {F : Nat → List UInt8}
theorem Went.next (h : Went st k f F) : st.next = k + 1 := by
  obtain ⟨h1, h2, h3, h4⟩ := h
  unfold St.next
  rw [h1, h4]
  simp
  omega
theorem Went.put (h : Went st k f F) : Went (st.putAt (k + 1) (F k)) (k + 1) f F := by
  have hn := h.next
  obtain ⟨h1, h2, h3, h4⟩ := h
  refine ⟨h1, h2, by omega, ?_⟩
  show st.recs.take (k + 1 - st.first) ++ [F k] = _
  rw [List.take_of_length_le (by unfold St.next at hn; omega), List.range_succ, List.map_append, List.drop_append_of_le_length (by simp; omega), h4]
  rfl
theorem Went.base (h : Went st k f F) (hk : 1 ≤ k) (hf : f ≤ k) (x : List UInt8) : Went (st.baseAt k x) k k F := by
  obtain ⟨h1, h2, h3, h4⟩ := h
  refine ⟨rfl, hk, by omega, ?_⟩
  show st.recs.drop (k - st.first) = _
  rw [h1, h4, List.drop_drop]
  congr 1
  omega
theorem Went.get (h : Went st k f F) {i : Nat} (hi : f ≤ i + 1) (hk : i < k) : st.get ((i : Int) + 1) = some (F i) := by
  have hn := h.next
  obtain ⟨h1, h2, h3, h4⟩ := h
  unfold St.get
  rw [if_pos (by omega), h4, List.getElem?_drop, h1]
  have e1 : f - 1 + ((i : Int) + 1 - (f : Int)).toNat = i := by omega
  rw [e1, List.getElem?_map, List.getElem?_range hk]
  rfl
end

set_option maxRecDepth 100000 in
set_option maxHeartbeats 4000000 in
theorem goes_walk (W : World) (A : Option Addr) (n c : Nat) (X : Nat → List UInt8) (hl : TArg W A n X) (base : Int) (_ : (Lit.int .i64 base).wf = true) (A2 : Option Addr) (n2 c2 : Nat) (L : Nat → Bool) (hL : LArg W A2 n2 L) :
    Calls Try.prog 10 #[.slice A n c, .int .i64 base, .slice A2 n2 c2] W fun e w' => e = .returned (.bool true) ∧ Below W.heap.size W w' := by
  have hn := hl.1
  have hn2 := hL.1
  unfold maxLen at hn hn2
  have HL := Lib.hid hl.2
  have HLB := Lib.hid hL.2
  clear hl hL
  obtain ⟨F, hF⟩ : ∃ F : Nat → List UInt8, F = fun i => (X i).take 100 := ⟨_, rfl⟩
  have HF := Lib.hid hF
  clear hF
  obtain ⟨i0, hi0, hz0, hz1, hz2⟩ := info_parts text_info
  obtain ⟨b, (hb : within base 0 30 = _), hb30⟩ := within_nat base 30
  have hwi := fun w => within_calls w base 0 30 (by decide) (by decide) (by decide)
  rw [hb] at hwi
  have HWI := Lib.hid hwi
  clear hwi hb
  go_enter Try.func10, Try.ntmps10
  go_wp2_with fail
  refine (js_fresh W).mono ?_
  rintro e w1 ⟨p, dp, rfl, h1⟩
  have j1 := h1.start
  have g1 : Went St.init 0 1 F := ⟨rfl, by decide, by decide, rfl⟩
  clear h1
  go_upto_block 0 with fail
  go_cut [8, 10, 11] (fun x v f wx => ∃ (q sf : Nat) (st : St) (A : Option Addr) (k c fi : Nat), x = .pointer (some ⟨q, 0, none⟩) ∧ v = .slice A k c ∧ f = .int .i64 fi ∧ k ≤ n ∧ k ≤ 20 ∧ JW W wx q dp sf st k A k c ((List.range k).map F) ∧ Went st k fi F)
  case first =>
    go_wp2_with fail
    go_loopw [8, 10, 11, 12] (fun x v f i wx => ∃ (q sf : Nat) (st : St) (A : Option Addr) (k c fi : Nat), x = .pointer (some ⟨q, 0, none⟩) ∧ v = .slice A k c ∧ f = .int .i64 fi ∧ i = .int .i64 k ∧ k ≤ n ∧ k ≤ 20 ∧ JW W wx q dp sf st k A k c ((List.range k).map F) ∧ Went st k fi F) (fun _ _ _ i _ => 20 - (intOf i).toNat)
    case atStart => exact ⟨p, 0, _, none, 0, 0, 1, rfl, rfl, rfl, rfl, by omega, by omega, j1, g1⟩
    case round =>
      obtain ⟨q, sf, st, A5, k, c5, fi, rfl, rfl, rfl, rfl, hkn, hk20, hj, hg⟩ := hrel
      clear j1 g1
      by_cases hlt : k < n ∧ k < 20
      · obtain ⟨hlt1, hlt2⟩ := hlt
        obtain ⟨ad, rfl, hab, hcell⟩ := HL.out k hlt1
        have CC : ∀ w', Below W.heap.size W w' → w'.cell? (ad.add k) = some (.string ⟨(X k).toArray⟩) := fun w' hw => (hw.cell (p := ad.add k) (by rw [block_of_add]; exact hab)).trans hcell
        have c0 := CC _ hj.1.below
        have k0 : (0 : Int) ≤ (k : Int) := by omega
        have k1 : (k : Int) < (n : Int) := by omega
        obtain ⟨xs, hxs⟩ : ∃ xs, (X k).take 100 = xs := ⟨_, rfl⟩
        have hxl : xs.length ≤ 100 := by rw [← hxs, List.length_take]; omega
        have hfew := fun w => few_calls w (X k)
        rw [hxs] at hfew
        have hFk : F k = xs := by rw [HF.out]; exact hxs
        have hgn := hg.next
        have hput := js_put hj.1 (k + 1) xs (by have := hg.1; have := hg.2.2.1; omega) (by omega) (by omega) hxl (by omega)
        rw [show ((k + 1 : Nat) : Int) = (k : Int) + 1 by omega] at hput
        have hg2 := hg.put
        rw [hFk] at hg2
        have hfk := hg.2.2.1
        have hf1 := hg.2.1
        generalize st.putAt (k + 1) xs = st2 at *
        have HC := Lib.hid CC
        have HFW := Lib.hid hfew
        have HFK := Lib.hid hFk
        have HG2 := Lib.hid hg2
        clear CC hfew hxs hcell hFk hg2 hg hgn
        go_wp2_with fail
        refine (HFW.out _).mono ?_
        rintro e w9 ⟨rfl, rfl⟩
        go_wp2_with fail
        refine hput.mono ?_
        rintro e w2 ⟨rfl, h2, hk2⟩
        have j2 := hj.step h2 hk2
        have c2' := HC.out _ h2.below
        clear hput hj h2 hk2 c0
        go_wp2_with fail
        refine (HFW.out _).mono ?_
        rintro e w9 ⟨rfl, rfl⟩
        have hr := lit_reads w2 (.string ⟨xs.toArray⟩) 9
        have hown : (w2.alloc (.cells #[.string ⟨xs.toArray⟩] 9)).ownsRow W.heap.size 9 1 (.slice A5 k c5) k (txs ((List.range k).map F)) := own_mod j2.2 ((Mod.refl [] _).alloc _) (by simp)
        have hbs := j2.1.below.size
        go_upto_if 56 with (first | (at_builtin; refine wpList_app _ rfl (.tmp 45) (.tmp 51) _ rfl 9 i0 _ 1 16 Try.underlying49 hi0 hz0 hz1 hz2 rfl (by omega) (.slice A5 k c5) k _ W.heap.size rfl hown _ _ 1 1 [.string ⟨xs.toArray⟩] rfl (by simpa using hr) (by simp [Value.oneCell']) (by omega) (by simp; omega) ?_; intro A6 c6 w3 hown3 hg3 hat3) | (go_at_call 19; refine (HWI.out _).mono ?_; rintro e w4 ⟨rfl, rfl⟩))
        have j3 : JW W w3 q dp sf st2 (k + 1) A6 (k + 1) c6 ((List.range (k + 1)).map F) := by
          rw [List.range_succ, List.map_append]
          show JW W w3 q dp sf st2 (k + 1) A6 (k + 1) c6 ((List.range k).map F ++ [F k])
          rw [HFK.out]
          exact j2.app _ xs hown3 hg3 hat3
        clear hr hown hbs hown3 hg3 hat3 j2
        go_cut [11] (fun f wx => ∃ (sf : Nat) (st : St) (fi : Nat), f = .int .i64 fi ∧ JW W wx q dp sf st (k + 1) A6 (k + 1) c6 ((List.range (k + 1)).map F) ∧ Went st (k + 1) fi F)
        case first =>
          by_cases hbk : k = b
          · have hbase := js_base j3.1 (k + 1) [115, 110, 97, 112, 115, 104, 111, 116] (by have := HG2.out.1; omega) (by omega) (by decide) (by omega)
            rw [show ((k + 1 : Nat) : Int) = (k : Int) + 1 by omega] at hbase
            subst hbk
            go_wp2_with fail
            refine hbase.mono ?_
            rintro e w5 ⟨rfl, sf5, h5, hk5⟩
            have j5 := j3.step h5 hk5
            go_wp2_with fail
            go_meet
            exact ⟨sf5, _, k + 1, by go_num, j5, HG2.out.base (by omega) hfk _⟩
          · have hkb : ¬ ((k : Int) = (b : Int)) := by omega
            clear hbk
            go_wp2_with fail
            go_meet
            exact ⟨sf, st2, fi, rfl, j3, HG2.out⟩
        case rest =>
        clear HG2 hfk hf1 j3
        obtain ⟨sf, st3, fi, rfl, hj, hg⟩ := hcut
        by_cases hop : k < n2 ∧ L k = true
        · obtain ⟨ho1, ho2⟩ := hop
          obtain ⟨ad2, rfl, hab2, hcell2⟩ := HLB.out k ho1
          have c1 : wc.cell? (ad2.add k) = some (.bool true) := (hj.1.below.cell (p := ad2.add k) (by rw [block_of_add]; exact hab2)).trans (by rw [hcell2, ho2])
          have i2 : (k : Int) < (n2 : Int) := by omega
          clear hcell2
          go_wp2_with fail
          refine (js_sync hj.1).mono ?_
          rintro e w6 ⟨rfl, sf6, h6, hk6⟩
          have j6 := hj.step h6 hk6
          clear h6 hk6 hj
          go_wp2_with fail
          refine (js_open j6.1 (by omega)).mono ?_
          rintro e w7 ⟨y, rfl, h7, hk7⟩
          have j7 := j6.step h7 hk7
          clear h7 hk7 j6
          go_wp2_with fail
          go_roundw
          case rel => exact ⟨y, sf6, st3, A6, k + 1, c6, fi, rfl, rfl, rfl, by go_num, by omega, by omega, j7, hg⟩
          case measure => simp [intOf]; omega
        · by_cases ho1 : k < n2
          · have ho2 : L k = false := Bool.eq_false_iff.2 (fun h => hop ⟨ho1, h⟩)
            obtain ⟨ad2, rfl, hab2, hcell2⟩ := HLB.out k ho1
            have c1 : wc.cell? (ad2.add k) = some (.bool false) := (hj.1.below.cell (p := ad2.add k) (by rw [block_of_add]; exact hab2)).trans (by rw [hcell2, ho2])
            have i2 : (k : Int) < (n2 : Int) := by omega
            clear hcell2 hop
            go_wp2_with fail
            go_roundw
            case rel => exact ⟨q, sf, st3, A6, k + 1, c6, fi, rfl, rfl, rfl, by go_num, by omega, by omega, hj, hg⟩
            case measure => simp [intOf]; omega
          · have i2 : ¬ ((k : Int) < (n2 : Int)) := by omega
            clear hop
            go_wp2_with fail
            go_roundw
            case rel => exact ⟨q, sf, st3, A6, k + 1, c6, fi, rfl, rfl, rfl, by go_num, by omega, by omega, hj, hg⟩
            case measure => simp [intOf]; omega
      · have hex := (⟨q, sf, st, A5, k, c5, fi, rfl, rfl, rfl, hkn, hk20, hj, hg⟩ : ∃ (q' sf' : Nat) (st' : St) (A' : Option Addr) (k' c' fi' : Nat), Value.pointer (some ⟨q, 0, none⟩) = .pointer (some ⟨q', 0, none⟩) ∧ Value.slice A5 k c5 = .slice A' k' c' ∧ Value.int .i64 fi = .int .i64 fi' ∧ k' ≤ n ∧ k' ≤ 20 ∧ JW W wr q' dp sf' st' k' A' k' c' ((List.range k').map F) ∧ Went st' k' fi' F)
        clear hj hg
        by_cases hk1 : k < n
        · have hk2 : ¬ ((k : Int) < 20) := by omega
          go_wp2_with fail
          go_meet
          exact hex
        · have hk2 : ¬ ((k : Int) < (n : Int)) := by omega
          go_wp2_with fail
          go_meet
          exact hex
  case rest =>
  clear j1 g1 HLB HWI
  obtain ⟨q, sf, st, A5, k, c5, fi, rfl, rfl, rfl, hkn, hk20, hj, hg⟩ := hcut
  have hgf := hg.1
  have hgn := hg.next
  have hg1 := hg.2.1
  have hg2 := hg.2.2.1
  go_wp2_with fail
  refine (js_first hj.1).mono ?_
  rintro e w2 ⟨rfl, rfl⟩
  rw [hgf]
  go_wp2_with fail
  refine (js_next hj.1).mono ?_
  rintro e w3 ⟨rfl, he3⟩
  have j3 := hj.ext he3
  rw [hgn, show ((k + 1 : Nat) : Int) = (k : Int) + 1 by omega]
  clear hj he3
  go_wp2_with fail
  go_loopw [15] (fun i wr => ∃ j : Nat, i = .int .i64 ((j : Int) + 1) ∧ fi ≤ j + 1 ∧ j ≤ k ∧ JW W wr q dp sf st k A5 k c5 ((List.range k).map F)) (fun i _ => 30 - (intOf i).toNat)
  case atStart => exact ⟨fi - 1, by congr 1; omega, by omega, by omega, j3⟩
  case round =>
    obtain ⟨j, rfl, hj1, hj2, hj⟩ := hrel
    clear j3
    by_cases hjk : j < k
    · have i1 : (j : Int) + 1 ≤ (k : Int) := by omega
      have i2 : (0 : Int) ≤ (j : Int) := by omega
      have i3 : (j : Int) < (k : Int) := by omega
      go_wp2_with fail
      refine (js_get_some hj.1 (hg.get hj1 hjk)).mono ?_
      rintro e w4 ⟨rfl, he4⟩
      have j4 := hj.ext he4
      clear hj he4
      obtain ⟨ad, u, e1, _, e2, e3⟩ := (reads_own (own_base j4.2)).at_ hjk
      rw [show (txs ((List.range k).map F))[j]? = some (.string ⟨(F j).toArray⟩) by simp [txs, tx, List.getElem?_range hjk, hjk]] at e2
      injection e2 with e2
      subst e2
      subst e1
      go_wp2_with fail
      go_roundw
      case rel => exact ⟨j + 1, by go_num, by omega, by omega, j4⟩
      case measure => simp [intOf]; omega
    · have i1 : ¬ ((j : Int) + 1 ≤ (k : Int)) := by omega
      have hbw := hj.1.below
      clear hj
      go_wp2_with fail
      refine (known23 _).mono ?_
      rintro e w5 ⟨rfl, he⟩
      go_wp2_with fail
      go_ret
      exact ⟨rfl, hbw.trans (he.mono hbw.size)⟩

end Go.Proofs.Ytfclighheoobaaa
