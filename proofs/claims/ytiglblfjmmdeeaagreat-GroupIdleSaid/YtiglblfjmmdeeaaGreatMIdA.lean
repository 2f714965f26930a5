/- Texts merged: IdleA, Del, IdleB, IdleC, IdleD, IdleE. -/
import Derived.Test.YtiglblfjmmdeeaaGreatAgNode
import Derived.Test.YtiglblfjmmdeeaaGreatMAg
import Derived.Deep.RegionLaw
import Derived.Lib.SliceRun
import Derived.Test.YtiglblfjmmdeeaaGreatAgGet
import Derived.Deep.RegionHeld3

/- agree: find, Has, Up. -/
namespace Go.Proofs.YtiglblfjmmdeeaaGreat
open Go.RowKit Go.Maps Go.ChangeMaps

attribute [local go_sem] Oper.pureUpon Oper.relUpon

section
variable {w : World} {F : Key → List Nat} {S : Key → Ob} {wp : Nat} {nodesv app : Value} {ts : List (Int × Int × List UInt8)}

set_option maxRecDepth 100000 in
theorem nfind_none (h : M w F S) (hw : S (10, 0) = .world wp nodesv app []) (k : Int) :
    Calls Tryz.prog 31 #[.pointer (some ⟨wp, 0, none⟩), .int .i64 k] w fun e w' => e = .returned (.int .i64 (-1)) ∧ w = w' := by
  obtain ⟨netv, vs, hb, ho, _⟩ := h.at hw
  obtain ⟨An, cn, rfl, _⟩ := own_slice ho
  have c0 := hb.cell 0
  simp at c0
  clear hb h ho
  go_enter Tryz.func31, Tryz.ntmps31
  go_wp2_with fail
  go_ret
  exact ⟨rfl, rfl⟩

set_option maxRecDepth 100000 in
theorem nfind_some (h : M w F S) (hw : S (10, 0) = .world wp nodesv app ts) (k : Int) (h0 : 0 < ts.length) (h9 : ts.length ≤ 4000) (k0 : -9223372036854775808 ≤ k) (k9 : k ≤ 9223372036854775807) :
    Calls Tryz.prog 31 #[.pointer (some ⟨wp, 0, none⟩), .int .i64 k] w fun e w' => ∃ at_ : Nat, at_ < ts.length ∧ e = .returned (.int .i64 (at_ : Int)) ∧ w = w' := by
  obtain ⟨netv, vs, hb, ho, _⟩ := h.at hw
  obtain ⟨An, cn, rfl, _⟩ := own_slice ho
  have c0 := hb.cell 0
  simp at c0
  have i0 : ((ts.length : Int) == 0) = false := by rw [beq_eq_false_iff_ne]; omega
  clear hb h ho
  by_cases hk : k < 0
  · go_enter Tryz.func31, Tryz.ntmps31
    go_wp2_with fail
    go_ret
    have hm := Int.emod_nonneg (-(k + 1)) (show (ts.length : Int) ≠ 0 by omega)
    have hm2 := Int.emod_lt_of_pos (-(k + 1)) (show 0 < (ts.length : Int) by omega)
    refine ⟨((-(k + 1)) % (ts.length : Int)).toNat, by omega, ?_, rfl⟩
    show Ending.returned (Value.int .i64 (-(k + 1).tmod ↑ts.length)) = _
    rw [← Int.neg_tmod, Int.tmod_eq_emod_of_nonneg (by omega), Int.toNat_of_nonneg hm]
  · go_enter Tryz.func31, Tryz.ntmps31
    go_wp2_with fail
    go_ret
    have hm := Int.emod_nonneg k (show (ts.length : Int) ≠ 0 by omega)
    have hm2 := Int.emod_lt_of_pos k (show 0 < (ts.length : Int) by omega)
    refine ⟨(k % (ts.length : Int)).toNat, by omega, ?_, rfl⟩
    show Ending.returned (Value.int .i64 (k % ↑ts.length)) = _
    rw [Int.toNat_of_nonneg hm]

variable {A : Option Addr} {n c k : Nat}
theorem has_calls (h : M w F S) (hw : S (10, 0) = .world wp (.slice A n c) app ts) (k : Int) :
    Calls Tryz.prog 35 #[.pointer (some ⟨wp, 0, none⟩), .int .i64 k] w fun e w' => e = .returned (.bool (decide (0 ≤ k ∧ k < (n : Int)))) ∧ w = w' := by
  obtain ⟨netv, vs, hb, _⟩ := h.at hw
  have c1 := hb.cell 1
  simp at c1
  clear hb h
  by_cases h0 : 0 ≤ k
  · by_cases h1 : k < (n : Int)
    · go_enter Tryz.func35, Tryz.ntmps35
      go_wp2_with fail
      go_ret
      simp [h0, h1]
    · go_enter Tryz.func35, Tryz.ntmps35
      go_wp2_with fail
      go_ret
      simp [h0, h1]
  · have h1 : k < 0 := by omega
    go_enter Tryz.func35, Tryz.ntmps35
    go_wp2_with fail
    go_ret
    simp
    omega

/-- An element of a row. -/
theorem M.row_cell (h : M w F S) {i : Key} {t : TypeId} {g m c k : Nat} {xs : List Value} {v : Value} (hs : S i = .row t 1 (.slice (some ⟨g, 0, none⟩) m c) m xs) (hk : k < m) (hv : xs[k]? = some v) : w.cell? ⟨g, k, none⟩ = some v := by
  obtain ⟨ho, _⟩ := h.at hs
  have := (Reads.of_own ho).2 (by omega)
  obtain ⟨ad, e, _, hc⟩ := this
  injection e with e
  subst e
  have := hc k v hv
  rw [Addr.add_lit, Nat.zero_add] at this
  exact this
set_option maxRecDepth 100000 in
theorem up_calls {g np : Nat} {N : NS} (h : M w F S) (hw : S (10, 0) = .world wp (.slice (some ⟨g, 0, none⟩) n c) app ts) (hk : k < n) (hv : w.cell? ⟨g, k, none⟩ = some (ptr np)) (hn : S (0, k) = nodeOb np N) :
    Calls Tryz.prog 24 #[.pointer (some ⟨wp, 0, none⟩), .int .i64 (k : Int)] w fun e w' => e = .returned (.bool N.up) ∧ w = w' := by
  obtain ⟨netv, vs, hb, _⟩ := h.at hw
  have hh := has_calls h hw (k : Int)
  have c1 := hb.cell 1
  simp at c1
  have c4 := (h.blk hn).cell 4
  simp [ncells] at c4
  rw [decide_eq_true (by omega)] at hh
  unfold ptr at hv
  clear hb h
  go_enter Tryz.func24, Tryz.ntmps24
  go_wp2_with fail
  refine hh.mono ?_
  rintro e w1 ⟨rfl, rfl⟩
  go_wp2_with fail
  go_ret
  exact ⟨rfl, rfl⟩
set_option maxRecDepth 100000 in
theorem up_none {g : Nat} (h : M w F S) (hw : S (10, 0) = .world wp (.slice (some ⟨g, 0, none⟩) n c) app ts) {x : Int} (hk : ¬ (0 ≤ x ∧ x < (n : Int))) :
    Calls Tryz.prog 24 #[.pointer (some ⟨wp, 0, none⟩), .int .i64 x] w fun e w' => e = .returned (.bool false) ∧ w = w' := by
  have hh := has_calls h hw x
  rw [decide_eq_false hk] at hh
  clear h
  go_enter Tryz.func24, Tryz.ntmps24
  go_wp2_with fail
  refine hh.mono ?_
  rintro e w1 ⟨rfl, rfl⟩
  go_wp2_with fail
  go_ret
  exact ⟨rfl, rfl⟩
end

end Go.Proofs.YtiglblfjmmdeeaaGreat

/- slices.Delete of one message out of a row. -/
namespace Go.Proofs.YtiglblfjmmdeeaaGreat
open Go.RowKit Go.Maps Go.ChangeMaps

attribute [local go_sem] Oper.pureUpon Oper.relUpon

theorem mod_setCells {S : List Nat} {b : Nat} (hb : b ∈ S) : ∀ (vs : List Value) (o : Nat) (w0 w : World), Mod S w0 w → Mod S w0 (w.setCells b o vs)
  | [], _, _, _, h => h
  | v :: r, o, w0, w, h => mod_setCells hb r (o + 1) w0 _ (h.setCell (fun _ => hb) v)

theorem setCells_blk (b : Nat) (e : TypeId) : ∀ (vs : List Value) (o : Nat) (w : World) (cur : Array Value), Blk w b e cur → o + vs.length ≤ cur.size →
    ∃ cur', Blk (w.setCells b o vs) b e cur' ∧ cur'.toList = cur.toList.take o ++ (vs ++ cur.toList.drop (o + vs.length))
  | [], o, w, cur, h, _ => ⟨cur, h, by simp⟩
  | v :: r, o, w, cur, h, hl => by
    simp only [List.length_cons] at hl
    obtain ⟨cur', h1, h2⟩ := setCells_blk b e r (o + 1) (w.setCell ⟨b, o, none⟩ v) _ (h.set_ o v) (by simp; omega)
    refine ⟨cur', h1, ?_⟩
    have ho : o < cur.toList.length := by simp; omega
    rw [h2, Array.toList_setIfInBounds, List.set_eq_take_append_cons_drop, if_pos ho]
    have e1 : (List.take o cur.toList).length = o := by simp; omega
    rw [List.take_append, List.drop_append, e1]
    have e2 : o + 1 - o = 1 := by omega
    have e3 : o + 1 + r.length - o = r.length + 1 := by omega
    have e4 : List.take (o + 1) (List.take o cur.toList) = List.take o cur.toList := by rw [List.take_take]; congr 1; omega
    have e5 : List.drop (o + 1 + r.length) (List.take o cur.toList) = [] := by rw [List.drop_eq_nil_iff, e1]; omega
    rw [e2, e3, e4, e5]
    simp only [List.take_succ_cons, List.take_zero, List.drop_succ_cons, List.nil_append, List.drop_drop, List.append_assoc, List.cons_append, List.length_cons]
    congr 3
    congr 1
    omega

/-- 'clear(s)' where the elements have several cells. -/
theorem run_clear_row {P : Program} (w : World) (t e ty : TypeId) (z : Value) (ht : P.underlying t = some (.slice e)) (hv : ∀ w, (zeroValue e).run P w = .ok z w) (b o n c : Nat) (hn : 0 < n)
    (h1 : ∀ v ∈ (Builtin.zeroCells z.cells n).toList, v.oneCell' = true)
    (hc : ∀ j, j < (Builtin.zeroCells z.cells n).toList.length → (w.cell? ⟨b, o + j, none⟩).isSome = true) (hf : ∀ j, j < (Builtin.zeroCells z.cells n).toList.length → w.frozen? ⟨b, o + j, none⟩ = false) :
    (Builtin.clear_ #[t] ty #[.slice (some ⟨b, o, none⟩) n c]).run P w = .ok (.tuple #[]) (w.setCells b o (Builtin.zeroCells z.cells n).toList) := by
  have hst := run_storeCells_cells (P := P) b o (Builtin.zeroCells z.cells n).toList 0 w (by simpa using hc) (by simpa using hf) h1
  simp only [Nat.add_zero] at hst
  obtain ⟨m, rfl⟩ : ∃ m, n = m + 1 := ⟨n - 1, by omega⟩
  simp [Builtin.clear_, run_underlying ht, hv, hst]

theorem msg_zero : (Tryz.prog.info? 86).bind (fun i => i.zero) = some (.agg #[.int .i64 0, .int .i64 0, .slice none 0 0]) := by kernel_rfl
theorem zero_msg (w : World) : (zeroValue 86).run Tryz.prog w = .ok (.agg #[.int .i64 0, .int .i64 0, .slice none 0 0]) w := by
  have h := msg_zero
  obtain ⟨i, hi, hz⟩ := Option.bind_eq_some_iff.1 h
  simp [zeroValue, typeInfo, hi, hz]
theorem zc3 : (Builtin.zeroCells (Value.agg #[.int .i64 0, .int .i64 0, .slice none 0 0]).cells 1).toList = [.int .i64 0, .int .i64 0, .slice none 0 0] := by kernel_rfl

set_option maxRecDepth 100000 in
set_option maxHeartbeats 4000000 in
theorem del_calls {w : World} {g n c i : Nat} {xs : List Value} (h : w.ownsRow 0 86 3 (.slice (some ⟨g, 0, none⟩) n c) n xs) (h1 : ∀ u ∈ xs, u.oneCell' = true) (hi : i < n) (hn : n ≤ 4000) :
    Calls Tryz.prog 32 #[.slice (some ⟨g, 0, none⟩) n c, .int .i64 (i : Int), .int .i64 ((i : Int) + 1)] w fun e w' =>
      e = .returned (.slice (some ⟨g, 0, none⟩) (n - 1) c) ∧ w'.ownsRow 0 86 3 (.slice (some ⟨g, 0, none⟩) (n - 1) c) (n - 1) (xs.take (i * 3) ++ xs.drop ((i + 1) * 3)) ∧ Mod [g] w w' := by
  obtain ⟨i0, hi0, hz0, hz1, hz2⟩ := info_parts msg_info
  obtain ⟨hx, h0⟩ := h
  rcases h0 with ⟨h0, _⟩ | ⟨g', c', cur, h0, _, hb, hnc, hcm, hcs, htk⟩
  · simp at h0
  simp only [Value.slice.injEq, Option.some.injEq, Addr.mk.injEq, and_true, true_and] at h0
  obtain ⟨rfl, rfl⟩ := h0
  have hcm' : c ≤ 9223372036854775807 := hcm
  have hbl : Blk w g 86 cur := hb
  clear hb hcm
  obtain ⟨news, hnews⟩ : ∃ news, news = xs.drop ((i + 1) * 3) := ⟨_, rfl⟩
  have hlen : news.length = (n - (i + 1)) * 3 := by rw [hnews, List.length_drop, hx]; omega
  have hcell : ∀ j, j < n * 3 → w.cell? ⟨g, j, none⟩ = xs[j]? := by
    intro j hj
    rw [hbl.cell j, ← htk, List.getElem?_take, if_pos hj]
    simp
  obtain ⟨A, hA, hsrc⟩ : ∃ A : Addr, (if c = i + 1 then some (⟨g, 0, none⟩ : Addr) else some ⟨g, (i + 1) * 3, none⟩) = some A ∧ Hid (∀ t u, news[t]? = some u → w.drew.cell? (A.add t) = some u) := by
    by_cases hc : c = i + 1
    · refine ⟨⟨g, 0, none⟩, by simp [hc], fun t u hu => ?_⟩
      have h0 : news.length = 0 := by rw [hlen]; omega
      rw [List.length_eq_zero_iff.1 h0] at hu
      simp at hu
    · refine ⟨⟨g, (i + 1) * 3, none⟩, by simp [hc], fun t u hu => ?_⟩
      have ht := (List.getElem?_eq_some_iff.1 hu).1
      rw [hlen] at ht
      rw [Addr.add_lit]
      exact (hcell _ (by omega)).trans (by rw [← hu, hnews, List.getElem?_drop])
  have s2 : Hid (∀ u ∈ news, u.oneCell' = true) := fun u hu => h1 u (by rw [hnews] at hu; exact List.mem_of_mem_drop hu)
  have s3 : Hid (∀ t, t < news.length → (w.drew.cell? ⟨g, 0 + i * 3 + t, none⟩).isSome = true ∧ w.drew.frozen? ⟨g, 0 + i * 3 + t, none⟩ = false) := by
    intro t ht
    rw [hlen] at ht
    refine ⟨?_, hbl.frozen _⟩
    show (w.cell? _).isSome = true
    rw [hcell _ (by omega)]
    rw [List.getElem?_eq_getElem (by rw [hx]; omega)]
    rfl
  have S1 := Lib.hid hlen
  obtain ⟨W1, hW1⟩ : ∃ W1, W1 = w.drew.setCells g (0 + i * 3) news := ⟨_, rfl⟩
  have hcsz : cur.toList.length = c * 3 := by simpa using hcs
  obtain ⟨cur1, hb1, hc1⟩ := setCells_blk g 86 news (0 + i * 3) w.drew cur hbl.drew (by rw [S1.out, hcs]; omega)
  rw [← hW1] at hb1
  have hm1 : Mod [g] w W1 := by rw [hW1]; exact mod_setCells (by simp) _ _ _ _ (Mod.refl _ _).drew
  have hs1 : cur1.size = c * 3 := by
    have := congrArg List.length hc1
    simp only [List.length_append, List.length_take, List.length_drop, Array.length_toList, hcs, S1.out] at this
    omega
  obtain ⟨W2, hW2⟩ : ∃ W2, W2 = W1.setCells g ((i + (n - (i + 1))) * 3) [.int .i64 0, .int .i64 0, .slice none 0 0] := ⟨_, rfl⟩
  have hn1 : n - (i + (n - (i + 1))) = 1 := by omega
  have hcl : ∀ ty, (Builtin.clear_ #[64] ty #[.slice (some ⟨g, (i + (n - (i + 1))) * 3, none⟩) 1 (c - (i + (n - (i + 1))))]).run Tryz.prog W1 = .ok (.tuple #[]) W2 := by
    intro ty
    have := run_clear_row (P := Tryz.prog) W1 64 86 ty _ Tryz.underlying64 zero_msg g ((i + (n - (i + 1))) * 3) 1 (c - (i + (n - (i + 1)))) (by omega) (by rw [zc3]; intro v hv; simp at hv; rcases hv with rfl | rfl | rfl <;> rfl)
      (by rw [zc3]; intro j hj; simp at hj; rw [hb1.cell, Array.getElem?_eq_getElem (by omega)]; rfl) (fun j _ => hb1.frozen _)
    rw [zc3, ← hW2] at this
    exact this
  obtain ⟨cur2, hb2, hc2⟩ := setCells_blk g 86 [.int .i64 0, .int .i64 0, .slice none 0 0] ((i + (n - (i + 1))) * 3) W1 cur1 hb1 (by rw [hs1]; simp; omega)
  rw [← hW2] at hb2
  have hm2 : Mod [g] w W2 := by rw [hW2]; exact mod_setCells (by simp) _ _ _ _ hm1
  have HW1 := Lib.hid hW1
  have HEND := Lib.hid (And.intro hc1 (And.intro hc2 (And.intro hb2 (And.intro hm2 hs1))))
  clear hW1 hb1 hc1 hm1 hs1 hW2 hb2 hc2 hm2
  have HNEWS := Lib.hid hnews
  clear hlen hcell hnews
  go_enter Tryz.func32, Tryz.ntmps32
  have hic : i ≤ c := by omega
  have hjc : i + 1 ≤ c := by omega
  have hin : (0 : Int) ≤ (i : Int) + 1 ∧ (i : Int) + 1 ≤ (n : Int) := by omega
  go_wp2_with fail
  go_region_law (refine step_append_room rfl (.tmp 22) (.tmp 25) 64 rfl 86 i0 3 Tryz.underlying64 hi0 hz1 g 0 i c (by simp [Act.eval, Act.put]) A (n - (i + 1)) (c - (i + 1)) news (by simp [Act.eval, Act.put]) S1.out hsrc.out s2.out (by omega) s3.out ?_; rw [← HW1.out])
  go_wp2_with fail
  go_ret
  obtain ⟨hc1, hc2, hb2, hm2, hs1⟩ := HEND.out
  have e1 : i + (n - (i + 1)) = n - 1 := by omega
  refine ⟨by show Ending.returned (Value.slice _ (i + (n - (i + 1))) c) = _; rw [e1], ?_, hm2⟩
  have hnl := S1.out
  have hx1 : xs.take (i * 3) = cur.toList.take (i * 3) := by rw [← htk, List.take_take, Nat.min_eq_left (by omega)]
  have hl1 : cur1.toList.length = c * 3 := by rw [Array.length_toList]; exact hs1
  have hp1 : (cur.toList.take (i * 3)).length = i * 3 := by rw [List.length_take]; omega
  have ht1 : cur1.toList.take ((n - 1) * 3) = cur.toList.take (i * 3) ++ news := by
    rw [hc1, Nat.zero_add, ← List.append_assoc]
    exact List.take_left' (by rw [List.length_append, hp1, hnl]; omega)
  have hp2 : (cur1.toList.take ((n - 1) * 3)).length = (n - 1) * 3 := by rw [List.length_take]; omega
  rw [e1] at hc2
  refine ⟨?_, .inr ⟨g, c, cur2, rfl, Nat.zero_le _, hb2, by omega, hcm', ?_, ?_⟩⟩
  · rw [← HNEWS.out, List.length_append, hnl, List.length_take, hx]; omega
  · have := congrArg List.length hc2
    rw [List.length_append, hp2, List.length_append, List.length_drop, hl1] at this
    simp only [Array.length_toList, List.length_cons, List.length_nil] at this
    omega
  · rw [hc2, List.take_left' hp2, ht1, hx1, HNEWS.out]

end Go.Proofs.YtiglblfjmmdeeaaGreat

/- agree: handle of a message that asks for what was chosen, at a node that knows nothing. -/
namespace Go.Proofs.YtiglblfjmmdeeaaGreat
open Go.RowKit Go.Maps Go.ChangeMaps

attribute [local go_sem] Oper.pureUpon Oper.relUpon

def need0 : List UInt8 := [7] ++ leBytes 8 0
theorem need0_len : need0.length = 9 := by simp [need0, leBytes_len]
/-- The state of handle behind its label 'needed'. -/
def NeedAt (w : World) (np g : Nat) (from_ to_ : Int) (body : Value) (a' : Act) (w' : World) : Prop :=
  ∃ (p : Nat) (FR : List Nat) (q : Nat), a' = { tmps := (.pointer (some ⟨np, 0, none⟩) :: .agg #[.int .i64 from_, .int .i64 to_, body] :: undef :: .pointer (some ⟨g, 0, none⟩) :: .pointer (some ⟨p, 0, none⟩) :: .int .i64 7 :: .pointer (some ⟨q, 0, none⟩) :: undef :: undef :: .pointer (some ⟨g, 2, none⟩) :: body :: .pointer (some ⟨p, 0, none⟩) :: .pointer (some ⟨p, 0, none⟩) :: .int .i64 7 :: .int .i64 7 :: .bool false :: .bool false :: .bool true :: .bool true :: undef :: undef :: undef :: undef :: undef :: undef :: undef :: undef :: undef :: undef :: undef :: undef :: undef :: undef :: undef :: undef :: undef :: undef :: undef :: undef :: undef :: undef :: undef :: undef :: undef :: undef :: undef :: undef :: undef :: undef :: undef :: undef :: undef :: undef :: undef :: undef :: undef :: undef :: undef :: undef :: undef :: undef :: undef :: undef :: undef :: undef :: undef :: undef :: undef :: undef :: undef :: undef :: undef :: undef :: undef :: undef :: undef :: undef :: undef :: undef :: undef :: undef :: undef :: undef :: undef :: undef :: undef :: undef :: undef :: undef :: undef :: undef :: undef :: []).toArray, defers := [] } ∧
    IsRd w' FR p need0 1 ∧ Ext w w' ∧ (∀ k ∈ FR, w.heap.size ≤ k ∧ k ≠ g) ∧ Blk w' g 86 #[.int .i64 from_, .int .i64 to_, body] ∧ w.heap.size ≤ g

section
variable {w : World} {F : Key → List Nat} {S : Key → Ob} {np k : Nat} {N : NS}
set_option maxRecDepth 100000 in
theorem tell0 (h : M w F S) (hn : S (0, k) = nodeOb np N) (ht : N.top = 0) (to_ : Int) :
    Calls Tryz.prog 65 #[.pointer (some ⟨np, 0, none⟩), .int .i64 to_, .int .i64 0] w fun e w' => e = .returned (.tuple #[]) ∧ Ext w w' := by
  have hb := h.blk hn
  have c13 := hb.cell 13
  simp [ncells] at c13
  have hlt := hb.lt
  have he0 : Ext w (w.alloc (.cells #[.pointer (some ⟨np, 0, none⟩)] 68)) := (Below.refl _ _).alloc (Nat.le_refl _) _
  have hk := known0 (h.ext he0) hn 0 (by rw [ht]; simp)
  have HK := Lib.hid hk
  have HE := Lib.hid he0
  clear hb hk he0 h
  go_enter Tryz.func65, Tryz.ntmps65
  go_wp2_with fail
  refine HK.out.mono ?_
  rintro e w1 ⟨rfl, rfl⟩
  go_wp2_with fail
  go_end0
  exact ⟨rfl, HE.out.trans ((Below.refl _ _).alloc (Nat.le_refl _) _)⟩

set_option maxRecDepth 100000 in
set_option maxHeartbeats 2000000 in
theorem handle0 (h : M w F S) (hn : S (0, k) = nodeOb np N) (ht : N.top = 0) (from_ to_ : Int) {A : Option Addr} {c B : Nat} (hr : Reads w B 1 A 9 (bys need0)) (hB : B ≤ w.heap.size) (hA : A = none → 9 = 0 ∧ c = 0) :
    Calls Tryz.prog 33 #[.pointer (some ⟨np, 0, none⟩), .agg #[.int .i64 from_, .int .i64 to_, .slice A 9 c]] w fun e w' => e = .returned (.tuple #[]) ∧ Ext w w' := by
  have he0 : Ext w (w.alloc (.cells #[.int .i64 from_, .int .i64 to_, .slice A 9 c] 86)) := (Below.refl _ _).alloc (Nat.le_refl _) _
  have hx0 := Blk.new w 86 #[.int .i64 from_, .int .i64 to_, .slice A 9 c]
  have hnew := reader_new _ B A 9 c need0 (hr.alloc hB (.cells #[.int .i64 from_, .int .i64 to_, .slice A 9 c] 86)) (by simp; omega) (by omega) hA
  have HN := Lib.hid hnew
  have HE := Lib.hid he0
  have HX := Lib.hid hx0
  clear hnew he0 hx0 hr hA
  go_enter Tryz.func33, Tryz.ntmps33
  go_wp2_with fail
  refine wp_scope_jumps 1 (NeedAt w np w.heap.size from_ to_ (.slice A 9 c)) (fun _ _ => 0) rfl ?_ ?_
  · go_wp2_with fail
    refine HN.out.mono ?_
    rintro e w1 ⟨p, FR, rfl, h1, he1, hF⟩
    have x1 := blk_ext HX.out he1
    have n1 := HE.out.trans he1
    have HS := Lib.hid (And.intro x1 (And.intro n1 hF))
    clear x1 n1 he1 hF
    go_wp2_with fail
    refine (reader_byte h1 (b := 7) rfl).mono ?_
    rintro e w2 ⟨rfl, h2, n2⟩
    obtain ⟨x1, n1, hF⟩ := HS.out
    have hF2 : ∀ k ∈ FR, w.heap.size ≤ k ∧ k ≠ w.heap.size := fun k hk => by have := hF k hk; simp at this; omega
    have n2' : Ext w w2 := ⟨n2.1.os.trans n1.os, n2.1.tape.trans n1.tape, n2.1.output.trans n1.output, Nat.le_trans n1.size n2.1.size, fun k hk => (n2.1.block k (Nat.lt_of_lt_of_le hk n1.size) (fun hk2 => by have := (hF2 k hk2).1; omega)).trans (n1.block k hk)⟩
    have x2 : Blk w2 w.heap.size 86 #[.int .i64 from_, .int .i64 to_, .slice A 9 c] := x1.mod n2.1 (fun hk => (hF2 _ hk).2 rfl)
    have HS2 := Lib.hid (And.intro h2 (And.intro n2' (And.intro hF2 x2)))
    clear h2 n2 n1 x1 n2' x2 hF hF2 HS
    go_wp2_with fail
    refine wp_goto ?_
    simp only [Exit.inBlock, Exit.then, Exit.jump]
    obtain ⟨h2, n2, hF, x2⟩ := HS2.out
    have e3 : Ext w2 (w2.alloc (.cells #[.int .i64 0, .int .i64 0] 108)) := (Below.refl _ _).alloc (Nat.le_refl _) _
    exact ⟨trivial, p, FR, _, rfl, h2.ext e3, n2.trans e3, hF, blk_ext x2 e3, Nat.le_refl _⟩
  · rintro a' wj ⟨p, FR, q, rfl, h1, he1, hF, hx, hg⟩
    have hrl := fun (w9 : World) (h9 : IsRd w9 FR p need0 1) => read_long (rest := []) h9 0 (by simp [need0]) (by omega)
    have c0 := hx.cell 0
    simp at c0
    have htl : ∀ w2, Next FR FR wj.drew w2 → Calls Tryz.prog 65 #[.pointer (some ⟨np, 0, none⟩), .int .i64 from_, .int .i64 0] w2 fun e w' => e = .returned (.tuple #[]) ∧ Ext w2 w' ∧ Ext w w2 ∧ w'.cell? ⟨w.heap.size, 0, none⟩ = some (.int .i64 from_) := fun w2 n2 => by
      have n3 : Ext w w2 := ⟨n2.1.os.trans he1.os, n2.1.tape.trans he1.tape, n2.1.output.trans he1.output, Nat.le_trans he1.size n2.1.size, fun k hk => (n2.1.block k (Nat.lt_of_lt_of_le hk he1.size) (fun hk2 => by have := (hF k hk2).1; omega)).trans (he1.block k hk)⟩
      refine (tell0 (h.ext n3) hn ht from_).mono ?_
      rintro e w' ⟨rfl, he⟩
      have hx2 := (hx.drew.mod n2.1 (fun hk => (hF _ hk).2 rfl))
      exact ⟨rfl, he, n3, by have := (blk_ext hx2 he).cell 0; simpa using this⟩
    have hcc : ∀ w2, Next FR FR wj.drew w2 → w2.cell? ⟨w.heap.size, 0, none⟩ = some (.int .i64 from_) := fun w2 n2 => by
      have := (hx.drew.mod n2.1 (fun hk => (hF _ hk).2 rfl)).cell 0
      simpa using this
    have HT := Lib.hid htl
    have HR := Lib.hid hrl
    have HC := Lib.hid hcc
    have H1 := Lib.hid (show IsRd wj.drew FR p need0 1 from h1)
    clear htl hrl hcc h1 hx he1 hF h
    refine wp_seq (wp_skip ?_)
    go_wp2_with fail
    go_region_held3 (fun w' => w'.cell? ⟨w.heap.size, 0, none⟩ = some (.int .i64 from_))
      (first | assumption | go_keep)
      (first
        | (go_at_call 61; refine (HR.out _ H1.out).mono ?_; rintro e w2 ⟨rfl, _, n2⟩; have x2 := HC.out w2 n2)
        | (go_at_call 65; refine (HT.out _ n2).mono ?_; rintro e w3 ⟨rfl, e3, e2, x3⟩))
    go_wp2_with fail
    simp +zetaDelta only [Exit.jump]
    refine bodyPost_ret (results_none rfl _ _ _) rfl ?_
    exact ⟨rfl, e2.trans e3⟩
end

end Go.Proofs.YtiglblfjmmdeeaaGreat

/- agree: a world of which nothing was asked; Deliver and Drop. -/
namespace Go.Proofs.YtiglblfjmmdeeaaGreat
open Go.RowKit Go.Maps Go.ChangeMaps

attribute [local go_sem] Oper.pureUpon Oper.relUpon

/-- A node: its places, its cells. -/
structure Nd where
  np : Nat
  ap : Nat
  lp : Nat
  N : NS
/-- The disk of a node of which nothing was asked. -/
def img (life : Nat) : List UInt8 := rec_ 0 (leBytes 8 life) ++ rec_ 1 (leBytes 8 0 ++ leBytes 8 0)
structure IdN (S : Key → Ob) (wp k b : Nat) (d : Nd) : Prop where
  node : S (0, k) = nodeOb d.np d.N
  disk : S (1, k) = .disk d.N.dp (img d.N.life) 50
  acc : S (2, k) = .acc d.ap 0 0 [] 0
  log : S (4, k) = .log d.lp [] 0
  ewp : d.N.wp = wp
  me : d.N.me = k
  eacc : d.N.acc = ptr d.ap
  elog : d.N.log = ptr d.lp
  top : d.N.top = 0
  num : d.N.number = 0
  mine : d.N.mine = .slice none 0 0
  life : d.N.life ≤ b + 1
  clock : d.N.clock ≤ 1000 * b
  last : d.N.last ≤ d.N.clock
  tries : d.N.tries ≤ b
def told0 : List Value := [.int .i64 0, .string ⟨#[]⟩, .slice none 0 0, .int .i64 0, .string ⟨#[]⟩, .slice none 0 0, .int .i64 0, .string ⟨#[]⟩, .slice none 0 0, .int .i64 0, .string ⟨#[]⟩, .slice none 0 0, .int .i64 0, .string ⟨#[]⟩, .slice none 0 0, .slice none 0 0]
def rows (n : Nat) (D : Nat → Nd) : List Value := (List.range n).map fun k => ptr (D k).np
def goodT (n : Nat) (t : Int × Int × List UInt8) : Prop := ∃ i j : Nat, i < n ∧ j < n ∧ t = ((i : Int), (j : Int), need0)
/-- The world of a group of which nothing was asked. -/
structure Idle (S : Key → Ob) (wp tp g c n b : Nat) (app : Value) (D : Nat → Nd) (ts : List (Int × Int × List UInt8)) : Prop where
  n1 : 1 ≤ n
  n5 : n ≤ 5
  world : S (10, 0) = .world wp (.slice (some ⟨g, 0, none⟩) n c) app ts
  row : S (11, 0) = .row 68 1 (.slice (some ⟨g, 0, none⟩) n c) n (rows n D)
  told : S (12, 0) = .st tp 47 told0
  free : S (13, 0) = .none
  nodes : ∀ k, k < n → IdN S wp k b (D k)
  len : ts.length ≤ 5 * b
  good : ∀ t ∈ ts, goodT n t

theorem rows_at {n k : Nat} (D : Nat → Nd) (h : k < n) : (rows n D)[k]? = some (ptr (D k).np) := by
  unfold rows
  rw [List.getElem?_map, List.getElem?_range h]
  rfl

section
variable {w : World} {F : Key → List Nat} {S : Key → Ob} {wp tp g c n b : Nat} {app : Value} {D : Nat → Nd} {ts : List (Int × Int × List UInt8)}
theorem Idle.cell (h : M w F S) (I : Idle S wp tp g c n b app D ts) {k : Nat} (hk : k < n) : w.cell? ⟨g, k, none⟩ = some (ptr (D k).np) := h.row_cell I.row hk (rows_at D hk)
/-- The net alone is another. -/
theorem Idle.net (I : Idle S wp tp g c n b app D ts) {ts' : List (Int × Int × List UInt8)} {b' : Nat} (hb : b ≤ b') (hl : ts'.length ≤ 5 * b') (hg : ∀ t ∈ ts', goodT n t) :
    Idle (upd S (10, 0) (.world wp (.slice (some ⟨g, 0, none⟩) n c) app ts')) wp tp g c n b' app D ts' := by
  refine ⟨I.n1, I.n5, upd_same _ _ _, by rw [upd_ne' _ (by decide)]; exact I.row, by rw [upd_ne' _ (by decide)]; exact I.told, by rw [upd_ne' _ (by decide)]; exact I.free, fun k hk => ?_, hl, hg⟩
  have i := I.nodes k hk
  refine ⟨by rw [upd_ne' _ (by simp)]; exact i.node, by rw [upd_ne' _ (by simp)]; exact i.disk, by rw [upd_ne' _ (by simp)]; exact i.acc, by rw [upd_ne' _ (by simp)]; exact i.log, i.ewp, i.me, i.eacc, i.elog, i.top, i.num, i.mine, by have := i.life; omega, by have := i.clock; omega, i.last, by have := i.tries; omega⟩

theorem mcells_erase : ∀ (ts : List (Int × Int × List UInt8)) (vs : List Value) (i : Nat), ts.length = vs.length → i < ts.length →
    mcells (ts.eraseIdx i) (vs.eraseIdx i) = (mcells ts vs).take (i * 3) ++ (mcells ts vs).drop ((i + 1) * 3)
  | t :: ts, v :: vs, 0, _, _ => by simp [mcells]
  | t :: ts, v :: vs, i + 1, h, hi => by
    have := mcells_erase ts vs i (by simpa using h) (by simpa using hi)
    simp only [List.eraseIdx_cons_succ, mcells, this]
    rw [show (i + 1) * 3 = i * 3 + 1 + 1 + 1 by omega, show (i + 1 + 1) * 3 = (i + 1) * 3 + 1 + 1 + 1 by omega]
    simp only [List.take_succ_cons, List.drop_succ_cons, List.cons_append]
    rw [show i * 3 + 1 + 1 + 1 = (i + 1) * 3 by omega]
  | [], _, _, _, hi => by simp at hi
  | _ :: _, [], _, h, _ => by simp at h
theorem mcells_at : ∀ (ts : List (Int × Int × List UInt8)) (vs : List Value) (i : Nat) (t : Int × Int × List UInt8) (v : Value), ts[i]? = some t → vs[i]? = some v →
    (mcells ts vs)[i * 3]? = some (.int .i64 t.1) ∧ (mcells ts vs)[i * 3 + 1]? = some (.int .i64 t.2.1) ∧ (mcells ts vs)[i * 3 + 2]? = some v
  | t :: ts, v :: vs, 0, _, _, h1, h2 => by
    simp at h1 h2
    subst h1 h2
    simp [mcells]
  | t :: ts, v :: vs, i + 1, t', v', h1, h2 => by
    have := mcells_at ts vs i t' v' (by simpa using h1) (by simpa using h2)
    rw [show (i + 1) * 3 = i * 3 + 1 + 1 + 1 by omega]
    simp only [mcells, List.getElem?_cons_succ]
    exact this
  | [], _, _, _, _, h1, _ => by simp at h1
  | _ :: _, [], _, _, _, _, h2 => by simp at h2
theorem mcells_one {w : World} : ∀ (ts : List (Int × Int × List UInt8)) (vs : List Value), F2 (OwnRec w) (ts.map (·.2.2)) vs → ∀ u ∈ mcells ts vs, u.oneCell' = true
  | t :: ts, v :: vs, h, u, hu => by
    cases h with
    | cons h1 h2 =>
      simp only [mcells, List.mem_cons] at hu
      rcases hu with rfl | rfl | rfl | hu
      · rfl
      · rfl
      · obtain ⟨A, c, rfl, _⟩ := h1; rfl
      · exact mcells_one ts vs h2 u hu
  | [], _, _, u, hu => by simp [mcells] at hu
  | _ :: _, [], h, _, _ => by cases h
theorem map_erase {α β : Type} (f : α → β) : ∀ (l : List α) (i : Nat), (l.eraseIdx i).map f = (l.map f).eraseIdx i
  | [], _ => by simp
  | _ :: _, 0 => by simp
  | a :: l, i + 1 => by simp [map_erase f l i]
theorem f2_erase {α β : Type} {R : α → β → Prop} : ∀ {l : List α} {m : List β} (i : Nat), F2 R l m → F2 R (l.eraseIdx i) (m.eraseIdx i)
  | _, _, _, .nil => by simpa using F2.nil
  | _, _, 0, .cons _ t => by simpa using t
  | _, _, i + 1, .cons h t => by simpa using F2.cons h (f2_erase i t)

/-- A message is out of the net. -/
theorem M.del {w w1 w2 : World} (h : M w F S) {nodesv : Value} (hs : S (10, 0) = .world wp nodesv app ts) {gn cn i : Nat} {vs : List Value} (hb : Blk w wp 67 #[.slice (some ⟨gn, 0, none⟩) ts.length cn, nodesv, app])
    (hf : F2 (OwnRec w) (ts.map (·.2.2)) vs) (hF : F (10, 0) = wp :: ((Value.slice (some ⟨gn, 0, none⟩) ts.length cn).ownBlock.toList ++ vs.flatMap fun v : Value => v.ownBlock.toList))
    (ho : w.ownsRow 0 86 3 (.slice (some ⟨gn, 0, none⟩) ts.length cn) ts.length (mcells ts vs))
    (hi : i < ts.length) (h1 : w1.ownsRow 0 86 3 (.slice (some ⟨gn, 0, none⟩) (ts.length - 1) cn) (ts.length - 1) ((mcells ts vs).take (i * 3) ++ (mcells ts vs).drop ((i + 1) * 3))) (hm : Mod [gn] w w1)
    (h2 : w2 = w1.setCell ⟨wp, 0, none⟩ (.slice (some ⟨gn, 0, none⟩) (ts.length - 1) cn)) :
    Go2 F w w2 (upd S (10, 0) (.world wp nodesv app (ts.eraseIdx i))) ∧ ∀ x v, OwnRec w x v → OwnRec w2 x v := by
  have hvl : ts.length = vs.length := by have := hf.len; simpa using this
  have hwn : wp ≠ gn := fun e => own_blk_ne ho hb (by decide) (by rw [e]; rfl)
  have hm2 : Mod [wp, gn] w w2 := by
    rw [h2]
    exact (hm.sub (fun k hk _ => by simp at hk; simp [hk])).setCell (fun _ => by simp) _
  have hmF : Mod (F (10, 0)) w w2 := hm2.sub (fun k hk _ => by
    rw [hF]
    simp at hk
    rcases hk with rfl | rfl
    · simp
    · simp [Value.ownBlock])
  have b1 : Blk w1 wp 67 #[.slice (some ⟨gn, 0, none⟩) ts.length cn, nodesv, app] := hb.mod hm (by simpa using hwn)
  have hrec : ∀ x v, OwnRec w x v → OwnRec w2 x v := fun x v hr => by
    obtain ⟨A, c, rfl, hr⟩ := hr
    refine ⟨A, c, rfl, own_mod hr hm2 (fun k hk hkp => ?_)⟩
    simp at hkp
    rcases hkp with rfl | rfl
    · exact own_blk_ne hr hb (by decide) hk
    · rcases own_own_ne hr ho (by decide) with e | e
      · rw [e] at hk; cases hk
      · exact e (by rw [hk]; rfl)
  refine ⟨h.go (10, 0) (F1 := wp :: ((Value.slice (some ⟨gn, 0, none⟩) (ts.length - 1) cn).ownBlock.toList ++ (vs.eraseIdx i).flatMap fun v : Value => v.ownBlock.toList)) ⟨hmF, fun k hk => ?_⟩ ⟨.slice (some ⟨gn, 0, none⟩) (ts.length - 1) cn, vs.eraseIdx i, ?_, ?_, ?_, rfl⟩, hrec⟩
  · have hkF : k ∈ F (10, 0) := by
      rw [hF]
      rcases List.mem_cons.1 hk with rfl | hk
      · simp
      rcases List.mem_append.1 hk with hk | hk
      · exact List.mem_cons_of_mem _ (List.mem_append_left _ hk)
      · obtain ⟨v, hv, hk⟩ := List.mem_flatMap.1 hk
        exact List.mem_cons_of_mem _ (List.mem_append_right _ (List.mem_flatMap.2 ⟨v, List.mem_of_mem_eraseIdx hv, hk⟩))
    exact ⟨.inl hkF, Nat.lt_of_lt_of_le (h.lt k hkF) hm2.size⟩
  · rw [h2]
    have := b1.set_ 0 (.slice (some ⟨gn, 0, none⟩) (ts.length - 1) cn)
    simpa using this
  · rw [mcells_erase ts vs i hvl hi, List.length_eraseIdx_of_lt hi, h2]
    exact own_mod h1 ((Mod.refl [wp] _).setCell (by simp) _) (fun k hk hkp => by simp [Value.ownBlock] at hk hkp; omega)
  · rw [map_erase]
    exact f2_mono hrec (f2_erase i hf)
end

end Go.Proofs.YtiglblfjmmdeeaaGreat

/- agree: Deliver and Drop in a world of which nothing was asked. -/
namespace Go.Proofs.YtiglblfjmmdeeaaGreat
open Go.RowKit Go.Maps Go.ChangeMaps

attribute [local go_sem] Oper.pureUpon Oper.relUpon

theorem own_slice' {w : World} {base n c : Nat} {A : Option Addr} {e : TypeId} {size : Nat} {xs : List Value} (h : w.ownsRow base e size (.slice A n c) n xs) : n ≤ c ∧ (A = none → n = 0 ∧ c = 0) := by
  obtain ⟨A', c', he, h1, _, h2, _⟩ := own_slice h
  injection he with e1 e2 e3
  subst e1 e3
  exact ⟨h1, h2⟩
section
variable {w : World} {F : Key → List Nat} {S : Key → Ob} {wp tp g c n b : Nat} {app : Value} {D : Nat → Nd} {ts : List (Int × Int × List UInt8)}
set_option maxRecDepth 100000 in
theorem drop_none (h : M w F S) (I : Idle S wp tp g c n b app D []) (k : Int) :
    Calls Tryz.prog 15 #[.pointer (some ⟨wp, 0, none⟩), .int .i64 k] w fun e w' => e = .returned (.tuple #[]) ∧ w = w' := by
  have hf := nfind_none h I.world k
  clear h
  go_enter Tryz.func15, Tryz.ntmps15
  go_wp2_with fail
  refine hf.mono ?_
  rintro e w1 ⟨rfl, rfl⟩
  go_wp2_with fail
  go_end0
  exact ⟨rfl, rfl⟩

set_option maxRecDepth 100000 in

theorem drop_some (h : M w F S) (I : Idle S wp tp g c n b app D ts) (k : Int) (h0 : 0 < ts.length) (hb9 : b ≤ 100) (k0 : -9223372036854775808 ≤ k) (k9 : k ≤ 9223372036854775807) :
    Calls Tryz.prog 15 #[.pointer (some ⟨wp, 0, none⟩), .int .i64 k] w fun e w' => e = .returned (.tuple #[]) ∧ ∃ i, i < ts.length ∧ Go2 F w w' (upd S (10, 0) (.world wp (.slice (some ⟨g, 0, none⟩) n c) app (ts.eraseIdx i))) := by
  have hl := I.len
  have hf := nfind_some h I.world k h0 (by omega) k0 k9
  obtain ⟨netv, vs, hb, ho, hv, hF⟩ := h.at I.world
  obtain ⟨An, cn, rfl, hnc, _, hA0, hA⟩ := own_slice ho
  obtain ⟨gn, rfl⟩ : ∃ gn, An = some ⟨gn, 0, none⟩ := by
    cases An with
    | none => have := (hA0 rfl).1; omega
    | some a => exact ⟨a.block, by rw [(hA a rfl).1]⟩
  have c0 := hb.cell 0
  simp at c0
  have hone := mcells_one ts vs hv
  have hd := fun (i : Nat) (hi : i < ts.length) => del_calls ho hone hi (by omega)
  have hl9 : ts.length ≤ 500 := by omega
  have hfin := fun (i : Nat) (hi : i < ts.length) (w1 : World) => h.del (w1 := w1) (w2 := w1.setCell ⟨wp, 0, none⟩ (.slice (some ⟨gn, 0, none⟩) (ts.length - 1) cn)) I.world hb hv hF ho hi
  have hbm := fun (w1 : World) (hm : Mod [gn] w w1) => (hb.mod hm (by simp; exact fun e => own_blk_ne ho hb (by decide) (by rw [e]; rfl))).frozen 0
  have hbc := fun (w1 : World) (hm : Mod [gn] w w1) => (hb.mod hm (by simp; exact fun e => own_blk_ne ho hb (by decide) (by rw [e]; rfl))).cell 0
  have HD := Lib.hid hd
  have HFIN := Lib.hid hfin
  have HBM := Lib.hid hbm
  have HBC := Lib.hid hbc
  clear hd hfin hbm hbc hone hv hb ho hF h hA hA0 hl hnc
  go_enter Tryz.func15, Tryz.ntmps15
  go_wp2_with fail
  refine hf.mono ?_
  rintro e w1 ⟨i, hi, rfl, rfl⟩
  have i0 : (0 : Int) ≤ (i : Int) := by omega
  have i9 : (i : Int) < 4000 := by omega
  go_wp2_with fail
  refine (HD.out i hi).mono ?_
  rintro e w1 ⟨rfl, ho1, hm1⟩
  have f1 := HBM.out w1 hm1
  have d1 := HBC.out w1 hm1
  simp at d1
  have HO := Lib.hid (And.intro ho1 hm1)
  clear ho1 hm1
  go_wp2_with fail
  go_end0
  exact ⟨rfl, i, hi, (HFIN.out i hi w1 HO.out.1 HO.out.2 trivial).1⟩

set_option maxRecDepth 100000 in
theorem deliver_none (h : M w F S) (I : Idle S wp tp g c n b app D []) (k : Int) :
    Calls Tryz.prog 14 #[.pointer (some ⟨wp, 0, none⟩), .int .i64 k] w fun e w' => e = .returned (.bool false) ∧ w = w' := by
  have hf := nfind_none h I.world k
  clear h
  go_enter Tryz.func14, Tryz.ntmps14
  go_wp2_with fail
  refine hf.mono ?_
  rintro e w1 ⟨rfl, rfl⟩
  go_wp2_with fail
  go_ret
  exact ⟨rfl, rfl⟩

set_option maxRecDepth 100000 in
theorem deliver_some (h : M w F S) (I : Idle S wp tp g c n b app D ts) (k : Int) (h0 : 0 < ts.length) (hb9 : b ≤ 100) (k0 : -9223372036854775808 ≤ k) (k9 : k ≤ 9223372036854775807) :
    Calls Tryz.prog 14 #[.pointer (some ⟨wp, 0, none⟩), .int .i64 k] w fun e w' => e = .returned (.bool true) ∧ ∃ i, i < ts.length ∧ Go2 F w w' (upd S (10, 0) (.world wp (.slice (some ⟨g, 0, none⟩) n c) app (ts.eraseIdx i))) := by
  have hl := I.len
  have hf := nfind_some h I.world k h0 (by omega) k0 k9
  obtain ⟨netv, vs, hb, ho, hv, hF⟩ := h.at I.world
  obtain ⟨An, cn, rfl, hnc, _, hA0, hA⟩ := own_slice ho
  obtain ⟨gn, rfl⟩ : ∃ gn, An = some ⟨gn, 0, none⟩ := by
    cases An with
    | none => have := (hA0 rfl).1; omega
    | some a => exact ⟨a.block, by rw [(hA a rfl).1]⟩
  have hl9 : ts.length ≤ 500 := by omega
  have c0 := hb.cell 0
  simp at c0
  have hone := mcells_one ts vs hv
  have hwn : wp ∉ [gn] := by simp; exact fun e => own_blk_ne ho hb (by decide) (by rw [e]; rfl)
  have hlt := hb.lt
  have H := Lib.hid (And.intro h (And.intro hb (And.intro ho (And.intro hv (And.intro hF (And.intro hone hwn))))))
  clear hone hv hb ho hF h hA hA0 hl hnc hwn
  go_enter Tryz.func14, Tryz.ntmps14
  go_wp2_with fail
  refine hf.mono ?_
  rintro e w1 ⟨i, hi, rfl, rfl⟩
  have i0 : (0 : Int) ≤ (i : Int) := by omega
  have i1 : ¬ ((i : Int) < 0) := by omega
  have i9 : (i : Int) < 4000 := by omega
  obtain ⟨h, hb, ho, hv, hF, hone, hwn⟩ := H.out
  obtain ⟨t, ht⟩ : ∃ t, ts[i]? = some t := ⟨ts[i], List.getElem?_eq_getElem hi⟩
  obtain ⟨fr, to_, hfr, hto, rfl⟩ := I.good t (List.mem_of_getElem? ht)
  obtain ⟨v, hvi, A, c9, rfl, hov⟩ := F2.at_ hv (i := i) (a := need0) (by rw [List.getElem?_map, ht]; rfl)
  obtain ⟨m0, m1, m2⟩ := mcells_at ts vs i _ _ ht hvi
  have hr := (Reads.of_own ho).2 (by omega)
  obtain ⟨ad, e, _, hc⟩ := hr
  injection e with e
  subst e
  have c3 := hc _ _ m0
  have c4 := hc _ _ m1
  have c5 := hc _ _ m2
  rw [Addr.add_lit, Nat.zero_add] at c3 c4 c5
  rw [need0_len] at c5 hov m2
  have e0 : Ext w (w.alloc (.cells #[.int .i64 (fr : Int), .int .i64 (to_ : Int), .slice A 9 c9] 86)) := (Below.refl _ _).alloc (Nat.le_refl _) _
  have x0 := Blk.new w 86 #[.int .i64 (fr : Int), .int .i64 (to_ : Int), .slice A 9 c9]
  have hd := del_calls (i := i) (ho.alloc (.cells #[.int .i64 (fr : Int), .int .i64 (to_ : Int), .slice A 9 c9] 86)) hone hi (by omega)
  have E0 := Lib.hid (And.intro e0 (And.intro x0 hov))
  have HD := Lib.hid hd
  clear hc h hb ho hv hF hone hwn hvi hov m0 m1 m2 e0 x0 hd
  go_wp2_with fail
  refine HD.out.mono ?_
  rintro e w1 ⟨rfl, ho1, hm1⟩
  obtain ⟨h, hb, ho, hv, hF, hone, hwn⟩ := H.out
  obtain ⟨e0, x0, hov⟩ := E0.out
  obtain ⟨g2, hrec⟩ := (h.ext e0).del (w1 := w1) (w2 := w1.setCell ⟨wp, 0, none⟩ (.slice (some ⟨gn, 0, none⟩) (ts.length - 1) cn)) I.world (hb.alloc _) (f2_mono (fun x v hr => hr.ext e0) hv) hF (ho.alloc _) hi ho1 hm1 rfl
  have b1 := (hb.alloc (.cells #[.int .i64 (fr : Int), .int .i64 (to_ : Int), .slice A 9 c9] 86)).mod hm1 hwn
  have f1 := b1.frozen 0
  have d1 := b1.cell 0
  simp at d1
  have hgw : w.heap.size ≠ gn := fun e => by have := own_lt ho (k := gn) rfl; omega
  have x1 := (x0.mod hm1 (by simpa using hgw)).far (p := ⟨wp, 0, none⟩) (by show w.heap.size ≠ wp; omega) (.slice (some ⟨gn, 0, none⟩) (ts.length - 1) cn)
  obtain ⟨F2, hm2, hf2⟩ := g2
  have I2 := I.net (b' := b) (ts' := ts.eraseIdx i) (Nat.le_refl _) (by have := I.len; rw [List.length_eraseIdx_of_lt hi]; omega) (fun t ht => I.good t (List.mem_of_mem_eraseIdx ht))
  have cg := I2.cell hm2 hto
  have hn2 := (I2.nodes to_ hto).node
  have cu := (hm2.blk hn2).cell 4
  have cw := (hm2.at I2.world)
  simp [ncells] at cu
  unfold ptr at cg
  have y0 := x1.cell 0
  have y1 := x1.cell 1
  have y2 := x1.cell 2
  simp at y0 y1 y2
  have i3 : (to_ : Int) < (n : Int) := by omega
  obtain ⟨netv2, vs2, cw, _⟩ := cw
  have y3 := cw.cell 1
  simp at y3
  have hov2 := hrec need0 (.slice A 9 c9) (OwnRec.ext ⟨A, c9, by rw [need0_len], by rw [need0_len]; exact hov⟩ e0)
  have H2 := Lib.hid (And.intro hm2 (And.intro ((Fr.ext F e0).trans hf2) (And.intro hov2 x1)))
  clear ho1 hm1 h hb ho hv hF hone hwn e0 x0 hov hrec b1 x1 hm2 hf2 cw hov2
  go_wp2_with fail
  generalize w1.setCell ⟨wp, 0, none⟩ (.slice (some ⟨gn, 0, none⟩) (ts.length - 1) cn) = W2 at cg cu y0 y1 y2 y3 H2 ⊢
  go_quiet (fail)
  have eN : Ext W2 (W2.drewN nq) := ⟨rfl, rfl, rfl, Nat.le_refl _, fun _ _ => rfl⟩
  cases hup : (D to_).N.up with
  | false =>
    clear cg cu y0 y1 y2 y3
    go_wp2_with fail
    go_ret
    exact ⟨rfl, i, hi, F2, H2.out.1.ext eN, H2.out.2.1.trans (Fr.ext F2 eN)⟩
  | true =>
    generalize W2.drewN nq = W3 at eN ⊢
    have hm3 := H2.out.1.ext eN
    have hb3 := blk_ext H2.out.2.2.2 eN
    have hw3 := hm3.at I2.world
    obtain ⟨netv3, vs3, hw3, _⟩ := hw3
    have C1 : ∀ w', Ext W3 w' → w'.cell? ⟨wp, 1, none⟩ = some (.slice (some ⟨g, 0, none⟩) n c) := fun w' he => by have := (blk_ext hw3 he).cell 1; simpa using this
    have C2 : ∀ w', Ext W3 w' → w'.cell? ⟨g, to_, none⟩ = some (ptr (D to_).np) := fun w' he => I2.cell (hm3.ext he) hto
    unfold ptr at C2
    have D0 : ∀ w', Ext W3 w' → w'.cell? ⟨w.heap.size, 0, none⟩ = some (.int .i64 (fr : Int)) := fun w' he => by have := (blk_ext hb3 he).cell 0; simpa using this
    have D1 : ∀ w', Ext W3 w' → w'.cell? ⟨w.heap.size, 1, none⟩ = some (.int .i64 (to_ : Int)) := fun w' he => by have := (blk_ext hb3 he).cell 1; simpa using this
    have D2 : ∀ w', Ext W3 w' → w'.cell? ⟨w.heap.size, 2, none⟩ = some (.slice A 9 c9) := fun w' he => by have := (blk_ext hb3 he).cell 2; simpa using this
    have hh : ∀ w', Ext W3 w' → Calls Tryz.prog 33 #[.pointer (some ⟨(D to_).np, 0, none⟩), .agg #[.int .i64 (fr : Int), .int .i64 (to_ : Int), .slice A 9 c9]] w' fun e w'' => e = .returned (.tuple #[]) ∧ Ext w' w'' := fun w' he => by
      obtain ⟨A', c', e, hr⟩ := (H2.out.2.2.1.ext eN).ext he
      rw [need0_len] at e hr
      injection e with e1 e2 e3
      subst e1 e3
      have hs := own_slice' hr
      exact handle0 (hm3.ext he) hn2 (I2.nodes to_ hto).top fr to_ (Reads.of_own hr) (Nat.le_refl _) hs.2
    have HH := Lib.hid hh
    have HM := Lib.hid (And.intro hm3 (H2.out.2.1.trans (Fr.ext F2 eN)))
    clear hh hm3 hb3 hw3 cg cu y0 y1 y2 y3 H2 eN
    go_wp2_with fail
    refine wp_region_rely [none, none, none, none, none, none, none, none, none, none] (by kernel_rfl) (by kernel_rfl) ?_
    simp only [Wit]
    iterate 10 apply Exists.intro
    iterate 9 (first | (refine rely_skip rfl ?_; simp only [Act.put, List.setIfInBounds_toArray, List.set_cons_zero, List.set_cons_succ]) | (apply rely_pure; (· rfl); (· intro w hw hd; go_simp; done); simp only [Act.put, List.setIfInBounds_toArray, List.set_cons_zero, List.set_cons_succ]) | (apply rely_pure; (· rfl); (· intro w hw hd; go_simp; exact rfl); simp only [Act.put, List.setIfInBounds_toArray, List.set_cons_zero, List.set_cons_succ]))
    apply rely_pure
    · rfl
    · intro w hw hd
      go_simp
      exact HH.out w hw
    simp only [Act.put, List.setIfInBounds_toArray, List.set_cons_zero, List.set_cons_succ]
    refine rely_nil ?_
    intro w4 hw4
    have he4 := hw4.1
    clear hw4 C1 C2 D0 D1 D2
    go_wp2_with fail
    go_ret
    exact ⟨rfl, i, hi, F2, HM.out.1.ext he4, HM.out.2.trans (Fr.ext F2 he4)⟩
end

end Go.Proofs.YtiglblfjmmdeeaaGreat

/- agree: Twice in a world of which nothing was asked. -/
namespace Go.Proofs.YtiglblfjmmdeeaaGreat
open Go.RowKit Go.Maps Go.ChangeMaps

attribute [local go_sem] Oper.pureUpon Oper.relUpon

section
variable {w : World} {F : Key → List Nat} {S : Key → Ob} {wp : Nat} {nodesv app : Value} {ts : List (Int × Int × List UInt8)}
set_option maxRecDepth 100000 in
set_option maxHeartbeats 1000000 in
/-- A message whose bytes lie in the net already. -/
theorem wsend_shared (h : M w F S) (hs : S (10, 0) = .world wp nodesv app ts) {A : Option Addr} {c n : Nat} {body : List UInt8} (hbo : OwnRec w body (.slice A n c)) (hsub : ∀ k ∈ (Value.slice A n c).ownBlock.toList, k ∈ F (10, 0)) (from_ to_ : Int) (ht : ts.length < 4000) :
    Calls Tryz.prog 34 #[.pointer (some ⟨wp, 0, none⟩), .int .i64 from_, .int .i64 to_, .slice A n c] w fun e w' => e = .returned (.tuple #[]) ∧
      Go2 F w w' (upd S (10, 0) (.world wp nodesv app (ts ++ [(from_, to_, body)]))) := by
  obtain ⟨A', c', ev, hbo'⟩ := hbo
  injection ev with e1 e2 e3
  subst e1 e2 e3
  obtain ⟨i0, hi0, hz0, hz1, hz2⟩ := info_parts msg_info
  obtain ⟨netv, vs, hw, ho, hf, hF⟩ := h.at hs
  obtain ⟨An, cn, rfl, _⟩ := own_slice ho
  have hvl : ts.length = vs.length := by have := hf.len; simpa using this
  have c0 := hw.cell 0
  simp at c0
  have f0 := hw.frozen 0
  have hlt := hw.lt
  have hne := own_blk_ne ho hw (by decide)
  have w1 := hw.alloc (.cells #[.int .i64 from_, .int .i64 to_, .slice A body.length c] 86)
  have o1 := ho.alloc (.cells #[.int .i64 from_, .int .i64 to_, .slice A body.length c] 86)
  have r1 := reads_row w 1 3 86 #[.int .i64 from_, .int .i64 to_, .slice A body.length c]
  have i1 : (ts.length : Int) < 4000 := by omega
  simp only [List.size_toArray] at r1
  have R1 := Lib.hid r1
  have HB := Lib.hid hbo'
  have HW := Lib.hid hw
  have HF := Lib.hid hf
  have HO := Lib.hid ho
  have HVL := Lib.hid hvl
  have HSUB := Lib.hid hsub
  clear r1 hbo' hw hf ho hvl hsub
  go_enter Tryz.func34, Tryz.ntmps34
  go_wp2_with (at_builtin; refine wpList_app _ rfl (.tmp 18) (.tmp 23) _ rfl 86 i0 _ 3 40 Tryz.underlying64 hi0 hz0 hz1 hz2 rfl (by omega) (.slice An ts.length cn) ts.length (mcells ts vs) 0 rfl o1 (w.heap.size + 1) (some ⟨w.heap.size, 0, none⟩) 1 1 [.int .i64 from_, .int .i64 to_, .slice A body.length c] rfl R1.out (by simp [Value.oneCell']) (by omega) (Nat.zero_le _) ?_; intro A2 c2 w2 hown2 hg2 hat2; have b2 := w1.grown hg2 (by intro e; exact hne e.symm); have f2 := b2.frozen 0; have d2 := b2.cell 0; simp at d2)
  go_end0
  have hne2 := own_blk_ne hown2 b2 (by decide)
  have m1 : Mod (F (10, 0)) w (w.alloc (.cells #[.int .i64 from_, .int .i64 to_, .slice A body.length c] 86)) := (Mod.refl _ _).alloc _
  have m2 := m1.grown hg2 (fun k hk _ => by rw [hF]; exact (List.mem_cons_of_mem _ (List.mem_append_left _ (by simpa using hk))))
  have m3 := m2.setCell (p := ⟨wp, 0, none⟩) (fun _ => by rw [hF]; simp) (.slice A2 (ts.length + 1) c2)
  have hs2 : Mod [wp] w2 (w2.setCell ⟨wp, 0, none⟩ (.slice A2 (ts.length + 1) c2)) := (Mod.refl _ _).setCell (by simp) _
  have hlt3 : ∀ k, k < w.heap.size → k < (w2.setCell ⟨wp, 0, none⟩ (.slice A2 (ts.length + 1) c2)).heap.size := fun k hk => Nat.lt_of_lt_of_le hk m3.size
  have hrec : ∀ x v, OwnRec w x v → OwnRec (w2.setCell ⟨wp, 0, none⟩ (.slice A2 (ts.length + 1) c2)) x v := fun x v hr => by
    have h1 := hr.ext ((Below.refl w.heap.size w).alloc (Nat.le_refl _) (.cells #[.int .i64 from_, .int .i64 to_, .slice A body.length c] 86))
    have h2 := h1.grown o1 hg2 (by decide)
    obtain ⟨A', c', rfl, h3⟩ := h2
    refine ⟨A', c', rfl, own_mod h3 hs2 (fun k hk hkp => ?_)⟩
    simp at hkp
    subst hkp
    exact own_blk_ne h3 b2 (by decide) hk
  have hbody : OwnRec w body (.slice A body.length c) := ⟨A, c, rfl, HB.out⟩
  refine ⟨rfl, h.go (10, 0) (F1 := wp :: ((Value.slice A2 (ts.length + 1) c2).ownBlock.toList ++ (vs ++ [Value.slice A body.length c]).flatMap fun v : Value => v.ownBlock.toList)) ⟨m3, ?_⟩ ?_⟩
  · intro k hk
    rcases List.mem_cons.1 hk with rfl | hk
    · exact ⟨.inl (by rw [hF]; simp), hlt3 _ hlt⟩
    rcases List.mem_append.1 hk with hk | hk
    · refine ⟨?_, by have := own_lt hown2 (by simpa using hk); simpa [World.setCell] using this⟩
      rcases hat2 with e | e
      · exact .inl (by rw [hF, ← e]; exact List.mem_cons_of_mem _ (List.mem_append_left _ hk))
      · rw [e] at hk
        simp at hk
        exact .inr (by omega)
    · rw [List.flatMap_append] at hk
      rcases List.mem_append.1 hk with hk | hk
      · have hk2 : k ∈ F (10, 0) := by rw [hF]; exact List.mem_cons_of_mem _ (List.mem_append_right _ hk)
        exact ⟨.inl hk2, hlt3 _ (h.lt k hk2)⟩
      · have hk2 : k ∈ F (10, 0) := HSUB.out k (by simpa using hk)
        exact ⟨.inl hk2, hlt3 _ (h.lt k hk2)⟩
  · refine ⟨.slice A2 (ts.length + 1) c2, vs ++ [Value.slice A body.length c], ?_, ?_, ?_, rfl⟩
    · have := b2.set_ 0 (.slice A2 (ts.length + 1) c2)
      simpa using this
    · rw [mcells_snoc ts vs _ _ HVL.out, List.length_append]
      exact own_mod hown2 hs2 (fun k hk hkp => by simp at hkp; subst hkp; exact hne2 hk)
    · rw [List.map_append]
      exact f2_snoc (hrec _ _ hbody) (f2_mono hrec HF.out)
end

section
variable {w : World} {F : Key → List Nat} {S : Key → Ob} {wp tp g c n b : Nat} {app : Value} {D : Nat → Nd} {ts : List (Int × Int × List UInt8)}
set_option maxRecDepth 100000 in
theorem twice_none (h : M w F S) (I : Idle S wp tp g c n b app D []) (k : Int) :
    Calls Tryz.prog 16 #[.pointer (some ⟨wp, 0, none⟩), .int .i64 k] w fun e w' => e = .returned (.tuple #[]) ∧ w = w' := by
  have hf := nfind_none h I.world k
  clear h
  go_enter Tryz.func16, Tryz.ntmps16
  go_wp2_with fail
  refine hf.mono ?_
  rintro e w1 ⟨rfl, rfl⟩
  go_wp2_with fail
  go_end0
  exact ⟨rfl, rfl⟩

set_option maxRecDepth 100000 in
theorem twice_some (h : M w F S) (I : Idle S wp tp g c n b app D ts) (k : Int) (h0 : 0 < ts.length) (hb9 : b ≤ 100) (k0 : -9223372036854775808 ≤ k) (k9 : k ≤ 9223372036854775807) :
    Calls Tryz.prog 16 #[.pointer (some ⟨wp, 0, none⟩), .int .i64 k] w fun e w' => e = .returned (.tuple #[]) ∧ ∃ t, goodT n t ∧ Go2 F w w' (upd S (10, 0) (.world wp (.slice (some ⟨g, 0, none⟩) n c) app (ts ++ [t]))) := by
  have hl := I.len
  have hf := nfind_some h I.world k h0 (by omega) k0 k9
  obtain ⟨netv, vs, hb, ho, hv, hF⟩ := h.at I.world
  obtain ⟨An, cn, rfl, hnc, _, hA0, hA⟩ := own_slice ho
  obtain ⟨gn, rfl⟩ : ∃ gn, An = some ⟨gn, 0, none⟩ := by
    cases An with
    | none => have := (hA0 rfl).1; omega
    | some a => exact ⟨a.block, by rw [(hA a rfl).1]⟩
  have hl9 : ts.length ≤ 500 := by omega
  have c0 := hb.cell 0
  simp at c0
  have H := Lib.hid (And.intro h (And.intro hb (And.intro ho (And.intro hv hF))))
  clear hv hb ho hF h hA hA0 hl hnc
  go_enter Tryz.func16, Tryz.ntmps16
  go_wp2_with fail
  refine hf.mono ?_
  rintro e w1 ⟨i, hi, rfl, rfl⟩
  have i0 : (0 : Int) ≤ (i : Int) := by omega
  have i1 : ¬ ((i : Int) < 0) := by omega
  have i9 : (i : Int) < 4000 := by omega
  obtain ⟨h, hb, ho, hv, hF⟩ := H.out
  obtain ⟨t, ht⟩ : ∃ t, ts[i]? = some t := ⟨ts[i], List.getElem?_eq_getElem hi⟩
  have hgood := I.good t (List.mem_of_getElem? ht)
  obtain ⟨fr, to_, hfr, hto, rfl⟩ := id hgood
  obtain ⟨v, hvi, A, c9, rfl, hov⟩ := F2.at_ hv (i := i) (a := need0) (by rw [List.getElem?_map, ht]; rfl)
  obtain ⟨m0, m1, m2⟩ := mcells_at ts vs i _ _ ht hvi
  have hr := (Reads.of_own ho).2 (by omega)
  obtain ⟨ad, e, _, hc⟩ := hr
  injection e with e
  subst e
  have c3 := hc _ _ m0
  have c4 := hc _ _ m1
  have c5 := hc _ _ m2
  rw [Addr.add_lit, Nat.zero_add] at c3 c4 c5
  have hsub : ∀ k ∈ (Value.slice A need0.length c9).ownBlock.toList, k ∈ F (10, 0) := fun k hk => by
    rw [hF]
    exact List.mem_cons_of_mem _ (List.mem_append_right _ (List.mem_flatMap.2 ⟨_, List.mem_of_getElem? hvi, hk⟩))
  have e0 : Ext w (w.alloc (.cells #[.int .i64 (fr : Int), .int .i64 (to_ : Int), .slice A need0.length c9] 86)) := (Below.refl _ _).alloc (Nat.le_refl _) _
  have x0 := Blk.new w 86 #[.int .i64 (fr : Int), .int .i64 (to_ : Int), .slice A need0.length c9]
  have hs := fun w' (he : Ext w w') => wsend_shared (h.ext he) I.world (OwnRec.ext ⟨A, c9, rfl, hov⟩ he) hsub (fr : Int) (to_ : Int) (by omega)
  rw [need0_len] at c5 e0 x0 hs m2
  have HS := Lib.hid hs
  have E0 := Lib.hid e0
  clear hc h hb ho hv hF hvi hov m0 m1 m2 e0 x0 hs hsub
  go_wp2_with fail
  refine (HS.out _ E0.out).mono ?_
  rintro e w2 ⟨rfl, F2, hm2, hf2⟩
  have H2 := Lib.hid (And.intro hm2 ((Fr.ext F E0.out).trans hf2))
  clear hm2 hf2
  go_wp2_with fail
  go_end0
  exact ⟨rfl, _, hgood, F2, H2.out.1, H2.out.2⟩
end

end Go.Proofs.YtiglblfjmmdeeaaGreat
